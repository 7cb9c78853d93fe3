/- Chapter 11: where a gap is, the document's. -/
import Derived.Test.YtdnjkffmgmbfmaaBsGap
namespace Go.Proofs.Ytdnjkffmgmbfmaa.Bs
open Go.RowKit Go.Proofs.Ytdnjkffmgmbfmaa.Bw

set_option maxRecDepth 100000 in
set_option maxHeartbeats 4000000 in
theorem gapR_any (o : OpD) (v pv : Value) (p : List Int) (at_ : Int) (first : Bool) (w : World) (h : o.rd w v) (hp : RdI w p pv) (hl : o.path.length ≤ 1000) (htl' : o.to.length ≤ 1000) (hpl' : p.length ≤ 1000) : Calls Try.prog 15 #[v, pv, .int .i64 at_, .bool first] w (Ret w fun r w' => RdG w.heap.size w' o.sh p at_ first r) := by
  obtain ⟨pv, tv, cv, rfl, hP, hT, hC, s1, s2, s3⟩ := h
  have h : o.rd w (.agg #[.int .u8 o.kind, pv, .int .i64 o.at_, tv, .int .u64 o.id, .bool o.leaf, .string o.label, .string o.key, .string o.value, .bool o.gone, cv]) := ⟨pv, tv, cv, rfl, hP, hT, hC, s1, s2, s3⟩
  have hP0 := hP
  have hT0 := hT
  have hC0 := hC
  obtain ⟨pA, pc, rfl, _, _, hpc, _⟩ := hP0
  obtain ⟨tA, tc, rfl, _, _, htc, _⟩ := hT0
  obtain ⟨cA, cc, rfl, _⟩ := hC0
  have hpl : o.path.length ≤ pc := by obtain ⟨_, _, e, _, h1, _⟩ := hP; simp only [Value.slice.injEq] at e; omega
  have htl : o.to.length ≤ tc := by obtain ⟨_, _, e, _, h1, _⟩ := hT; simp only [Value.slice.injEq] at e; omega
  unfold maxLen at hpc htc
  have hp0 := hp
  obtain ⟨xA, xc, rfl, _, x1, x2, x3⟩ := hp0
  unfold maxLen at x2
  obtain ⟨w1, hw1⟩ : ∃ w1, w.alloc (.cells #[.int .u8 o.kind, .slice pA o.path.length pc, .int .i64 o.at_, .slice tA o.to.length tc, .int .u64 o.id, .bool o.leaf, .string o.label, .string o.key, .string o.value, .bool o.gone, .slice cA o.pcs.length cc] 26) = w1 := ⟨_, rfl⟩
  have hE1 : Ext w w1 := by rw [← hw1]; exact (Ext.refl w).alloc _
  have B0 : w1.cell? ⟨w.heap.size, 0, none⟩ = some (.int .u8 o.kind) := by rw [← hw1]; exact (NBox.new _ _ _).cell 0
  have B1 : w1.cell? ⟨w.heap.size, 1, none⟩ = some (.slice pA o.path.length pc) := by rw [← hw1]; exact (NBox.new _ _ _).cell 1
  have B2 : w1.cell? ⟨w.heap.size, 2, none⟩ = some (.int .i64 o.at_) := by rw [← hw1]; exact (NBox.new _ _ _).cell 2
  have B3 : w1.cell? ⟨w.heap.size, 3, none⟩ = some (.slice tA o.to.length tc) := by rw [← hw1]; exact (NBox.new _ _ _).cell 3
  have B4 : w1.cell? ⟨w.heap.size, 4, none⟩ = some (.int .u64 o.id) := by rw [← hw1]; exact (NBox.new _ _ _).cell 4
  have B5 : w1.cell? ⟨w.heap.size, 5, none⟩ = some (.bool o.leaf) := by rw [← hw1]; exact (NBox.new _ _ _).cell 5
  have B6 : w1.cell? ⟨w.heap.size, 6, none⟩ = some (.string o.label) := by rw [← hw1]; exact (NBox.new _ _ _).cell 6
  have B7 : w1.cell? ⟨w.heap.size, 7, none⟩ = some (.string o.key) := by rw [← hw1]; exact (NBox.new _ _ _).cell 7
  have B8 : w1.cell? ⟨w.heap.size, 8, none⟩ = some (.string o.value) := by rw [← hw1]; exact (NBox.new _ _ _).cell 8
  have B9 : w1.cell? ⟨w.heap.size, 9, none⟩ = some (.bool o.gone) := by rw [← hw1]; exact (NBox.new _ _ _).cell 9
  have B10 : w1.cell? ⟨w.heap.size, 10, none⟩ = some (.slice cA o.pcs.length cc) := by rw [← hw1]; exact (NBox.new _ _ _).cell 10
  have E := Ext.refl w1
  have H1 := Lib.hid hw1
  clear hw1
  have hc11 : ∀ W, Ext w1 W → Calls Try.prog 12 #[.agg #[.int .u8 o.kind, .slice pA o.path.length pc, .int .i64 o.at_, .slice tA o.to.length tc, .int .u64 o.id, .bool o.leaf, .string o.label, .string o.key, .string o.value, .bool o.gone, .slice cA o.pcs.length cc], .slice xA p.length xc] W (Ret W fun r w' => RdN W.heap.size w' (o.sh.node p) r) := fun W hW => nodeR_any o _ _ p W (OpD.rd_ext (hE1.trans hW) h) (RdS.ext (hE1.trans hW) hp) (by omega) (by omega)
  have hc29 : ∀ W, Ext w1 W → Calls Try.prog 35 #[.agg #[.int .u8 o.kind, .slice pA o.path.length pc, .int .i64 o.at_, .slice tA o.to.length tc, .int .u64 o.id, .bool o.leaf, .string o.label, .string o.key, .string o.value, .bool o.gone, .slice cA o.pcs.length cc]] W (Ret W fun r _ => r = .bool o.sh.moves) := fun W hW => movesR_any o _ W (OpD.rd_ext (hE1.trans hW) h)
  rcases hnq : o.sh.node p with _ | q
  · simp only [hnq, RdN] at hc11
    unfold RdG
    rw [hnq]
    clear h hP hT hC hp s1 s2 s3 hpl htl hnq hc29
    go_enter Try.func15, Try.ntmps15
    go_wp2_with (first | (rw [H1.out]; clear H1) | (go_at_call 12; refine (hc11 _ E).mono ?_; clear hc11; rintro e u4 ⟨r, rfl, rfl, hE⟩; replace E := Ext.trans E hE))
    go_ret3
    exact ⟨_, rfl, rfl, hE1.trans E⟩
  simp only [hnq, RdN] at hc11
  unfold RdG
  rw [hnq]
  clear hnq
  rcases hm : o.sh.moves with _ | _
  · simp only [hm] at hc29
    clear h hP hT hC hp s1 s2 s3 hpl htl hm
    go_enter Try.func15, Try.ntmps15
    go_wp2_with (first | (rw [H1.out]; clear H1) | (go_at_call 12; refine (hc11 _ E).mono ?_; clear hc11; rintro e u4 ⟨r, rfl, ⟨rq, rfl, hown⟩, hE⟩; replace E := Ext.trans E hE; have D0 := E.cell B0; have D1 := E.cell B1; have D2 := E.cell B2; have D3 := E.cell B3; have D4 := E.cell B4; have D5 := E.cell B5; have D6 := E.cell B6; have D7 := E.cell B7; have D8 := E.cell B8; have D9 := E.cell B9; have D10 := E.cell B10; clear hE) | (go_at_call 35; refine (hc29 _ E).mono ?_; clear hc29; rintro e u5 ⟨r, rfl, rfl, hE⟩; replace E := Ext.trans E hE; replace hown := owns_ext hE hown; have D0 := E.cell B0; have D1 := E.cell B1; have D2 := E.cell B2; have D3 := E.cell B3; have D4 := E.cell B4; have D5 := E.cell B5; have D6 := E.cell B6; have D7 := E.cell B7; have D8 := E.cell B8; have D9 := E.cell B9; have D10 := E.cell B10; clear hE))
    go_ret3
    exact ⟨_, rfl, ⟨_, rfl, owns_mono hown hE1.size⟩, hE1.trans E⟩
  simp only [hm] at hc29
  have hkd := (moves_kind hm).1
  have hne := (moves_kind hm).2.1
  have e1 : decide (p = o.sh.from_) = decide (o.sh.from_ = p) := decide_eq_decide.2 eq_comm
  rcases hkd with hk | hk | hk
  · have hk : o.kind = 1 := hk
    have k1 : (o.kind == 1) = true := by rw [hk]; rfl
    have n1 : (o.kind != 1) = false := by rw [bne, k1]; rfl
    have k2 : (o.kind == 2) = false := by rw [hk]; rfl
    have n2 : (o.kind != 2) = true := by rw [bne, k2]; rfl
    have k3 : (o.kind == 3) = false := by rw [hk]; rfl
    have n3 : (o.kind != 3) = true := by rw [bne, k3]; rfl
    have e2 : decide (p = o.path) = decide (o.path = p) := decide_eq_decide.2 eq_comm
    have HF : Hid (o.sh.gapAt p at_ first = if true && decide (o.path = p) && (decide (o.at_ < at_) || (at_ == o.at_) && !first) then wrap64 ((if false && decide (o.sh.from_ = p) && decide (lastN o.path < at_) then wrap64 (at_ - 1) else at_) + 1)
        else if false && decide (o.sh.from_ = p) && decide (lastN o.path < at_) then wrap64 (at_ - 1) else at_) := by
      have hk' : o.sh.kind = 1 := hk
      have p1 : o.sh.puts = true := by simp [Sh.puts, hk']
      have p2 : o.sh.takes = false := by simp [Sh.takes, hk']
      have p3 : o.sh.goal = o.path := by simp [Sh.goal, hk']; rfl
      simp only [Hid, Sh.gapAt, p1, p2, p3, e1, e2, sh_wr]
      rw [Bool.and_right_comm false (decide (o.sh.num < at_))]
      rfl
    have hcG : ∀ W, Ext w1 W → Calls Try.prog 37 #[.slice pA o.path.length pc, .slice xA p.length xc] W (Ret W fun r _ => r = .bool (decide (o.path = p))) := fun W hW => sameR_any _ _ _ _ _ (RdS.ext (hE1.trans hW) hP) (RdS.ext (hE1.trans hW) hp)
    clear h hP hT hC hp s1 s2 s3 hpl htl hm hne e1 e2 hk
    generalize decide (o.path = p) = s2 at *
    generalize decide (o.sh.from_ = p) = s1 at *
    generalize lastN o.path = d at *
    rcases s2 with _ | _
    · go_enter Try.func15, Try.ntmps15
      go_wp2_with (first | (rw [H1.out]; clear H1) | (go_at_call 12; refine (hc11 _ E).mono ?_; clear hc11; rintro e u4 ⟨r, rfl, ⟨rq, rfl, hown⟩, hE⟩; replace E := Ext.trans E hE; have D0 := E.cell B0; have D1 := E.cell B1; have D2 := E.cell B2; have D3 := E.cell B3; have D4 := E.cell B4; have D5 := E.cell B5; have D6 := E.cell B6; have D7 := E.cell B7; have D8 := E.cell B8; have D9 := E.cell B9; have D10 := E.cell B10; clear hE) | (go_at_call 35; refine (hc29 _ E).mono ?_; clear hc29; rintro e u5 ⟨r, rfl, rfl, hE⟩; replace E := Ext.trans E hE; replace hown := owns_ext hE hown; have D0 := E.cell B0; have D1 := E.cell B1; have D2 := E.cell B2; have D3 := E.cell B3; have D4 := E.cell B4; have D5 := E.cell B5; have D6 := E.cell B6; have D7 := E.cell B7; have D8 := E.cell B8; have D9 := E.cell B9; have D10 := E.cell B10; clear hE) | (go_at_call 37; refine (hcG _ E).mono ?_; clear hcG; rintro e u7 ⟨r, rfl, rfl, hE⟩; replace E := Ext.trans E hE; replace hown := owns_ext hE hown; have D0 := E.cell B0; have D1 := E.cell B1; have D2 := E.cell B2; have D3 := E.cell B3; clear hE))
      go_ret3
      exact ⟨_, rfl, ⟨_, by rw [HF.out]; rfl, owns_mono hown hE1.size⟩, hE1.trans E⟩
    rcases Int.lt_trichotomy at_ o.at_ with hg | hg | hg
    · have g1 : decide (o.at_ < at_) = false := decide_eq_false (by omega)
      have g2 : (at_ == o.at_) = false := by rw [beq_eq_false_iff_ne]; omega
      go_enter Try.func15, Try.ntmps15
      go_wp2_with (first | (rw [H1.out]; clear H1) | (go_at_call 12; refine (hc11 _ E).mono ?_; clear hc11; rintro e u4 ⟨r, rfl, ⟨rq, rfl, hown⟩, hE⟩; replace E := Ext.trans E hE; have D0 := E.cell B0; have D1 := E.cell B1; have D2 := E.cell B2; have D3 := E.cell B3; have D4 := E.cell B4; have D5 := E.cell B5; have D6 := E.cell B6; have D7 := E.cell B7; have D8 := E.cell B8; have D9 := E.cell B9; have D10 := E.cell B10; clear hE) | (go_at_call 35; refine (hc29 _ E).mono ?_; clear hc29; rintro e u5 ⟨r, rfl, rfl, hE⟩; replace E := Ext.trans E hE; replace hown := owns_ext hE hown; have D0 := E.cell B0; have D1 := E.cell B1; have D2 := E.cell B2; have D3 := E.cell B3; have D4 := E.cell B4; have D5 := E.cell B5; have D6 := E.cell B6; have D7 := E.cell B7; have D8 := E.cell B8; have D9 := E.cell B9; have D10 := E.cell B10; clear hE) | (go_at_call 37; refine (hcG _ E).mono ?_; clear hcG; rintro e u7 ⟨r, rfl, rfl, hE⟩; replace E := Ext.trans E hE; replace hown := owns_ext hE hown; have D0 := E.cell B0; have D1 := E.cell B1; have D2 := E.cell B2; have D3 := E.cell B3; clear hE))
      go_ret3
      exact ⟨_, rfl, ⟨_, by rw [HF.out, g1, g2]; rfl, owns_mono hown hE1.size⟩, hE1.trans E⟩
    · have g1 : decide (o.at_ < at_) = false := decide_eq_false (by omega)
      have g2 : (at_ == o.at_) = true := by rw [beq_iff_eq]; exact hg
      clear hg
      rcases first with _ | _
      · go_enter Try.func15, Try.ntmps15
        go_wp2_with (first | (rw [H1.out]; clear H1) | (go_at_call 12; refine (hc11 _ E).mono ?_; clear hc11; rintro e u4 ⟨r, rfl, ⟨rq, rfl, hown⟩, hE⟩; replace E := Ext.trans E hE; have D0 := E.cell B0; have D1 := E.cell B1; have D2 := E.cell B2; have D3 := E.cell B3; have D4 := E.cell B4; have D5 := E.cell B5; have D6 := E.cell B6; have D7 := E.cell B7; have D8 := E.cell B8; have D9 := E.cell B9; have D10 := E.cell B10; clear hE) | (go_at_call 35; refine (hc29 _ E).mono ?_; clear hc29; rintro e u5 ⟨r, rfl, rfl, hE⟩; replace E := Ext.trans E hE; replace hown := owns_ext hE hown; have D0 := E.cell B0; have D1 := E.cell B1; have D2 := E.cell B2; have D3 := E.cell B3; have D4 := E.cell B4; have D5 := E.cell B5; have D6 := E.cell B6; have D7 := E.cell B7; have D8 := E.cell B8; have D9 := E.cell B9; have D10 := E.cell B10; clear hE) | (go_at_call 37; refine (hcG _ E).mono ?_; clear hcG; rintro e u7 ⟨r, rfl, rfl, hE⟩; replace E := Ext.trans E hE; replace hown := owns_ext hE hown; have D0 := E.cell B0; have D1 := E.cell B1; have D2 := E.cell B2; have D3 := E.cell B3; clear hE))
        go_ret3
        exact ⟨_, rfl, ⟨_, by rw [HF.out, g1, g2]; rfl, owns_mono hown hE1.size⟩, hE1.trans E⟩
      · go_enter Try.func15, Try.ntmps15
        go_wp2_with (first | (rw [H1.out]; clear H1) | (go_at_call 12; refine (hc11 _ E).mono ?_; clear hc11; rintro e u4 ⟨r, rfl, ⟨rq, rfl, hown⟩, hE⟩; replace E := Ext.trans E hE; have D0 := E.cell B0; have D1 := E.cell B1; have D2 := E.cell B2; have D3 := E.cell B3; have D4 := E.cell B4; have D5 := E.cell B5; have D6 := E.cell B6; have D7 := E.cell B7; have D8 := E.cell B8; have D9 := E.cell B9; have D10 := E.cell B10; clear hE) | (go_at_call 35; refine (hc29 _ E).mono ?_; clear hc29; rintro e u5 ⟨r, rfl, rfl, hE⟩; replace E := Ext.trans E hE; replace hown := owns_ext hE hown; have D0 := E.cell B0; have D1 := E.cell B1; have D2 := E.cell B2; have D3 := E.cell B3; have D4 := E.cell B4; have D5 := E.cell B5; have D6 := E.cell B6; have D7 := E.cell B7; have D8 := E.cell B8; have D9 := E.cell B9; have D10 := E.cell B10; clear hE) | (go_at_call 37; refine (hcG _ E).mono ?_; clear hcG; rintro e u7 ⟨r, rfl, rfl, hE⟩; replace E := Ext.trans E hE; replace hown := owns_ext hE hown; have D0 := E.cell B0; have D1 := E.cell B1; have D2 := E.cell B2; have D3 := E.cell B3; clear hE))
        go_ret3
        exact ⟨_, rfl, ⟨_, by rw [HF.out, g1, g2]; rfl, owns_mono hown hE1.size⟩, hE1.trans E⟩
    · have g1 : decide (o.at_ < at_) = true := decide_eq_true hg
      go_enter Try.func15, Try.ntmps15
      go_wp2_with (first | (rw [H1.out]; clear H1) | (go_at_call 12; refine (hc11 _ E).mono ?_; clear hc11; rintro e u4 ⟨r, rfl, ⟨rq, rfl, hown⟩, hE⟩; replace E := Ext.trans E hE; have D0 := E.cell B0; have D1 := E.cell B1; have D2 := E.cell B2; have D3 := E.cell B3; have D4 := E.cell B4; have D5 := E.cell B5; have D6 := E.cell B6; have D7 := E.cell B7; have D8 := E.cell B8; have D9 := E.cell B9; have D10 := E.cell B10; clear hE) | (go_at_call 35; refine (hc29 _ E).mono ?_; clear hc29; rintro e u5 ⟨r, rfl, rfl, hE⟩; replace E := Ext.trans E hE; replace hown := owns_ext hE hown; have D0 := E.cell B0; have D1 := E.cell B1; have D2 := E.cell B2; have D3 := E.cell B3; have D4 := E.cell B4; have D5 := E.cell B5; have D6 := E.cell B6; have D7 := E.cell B7; have D8 := E.cell B8; have D9 := E.cell B9; have D10 := E.cell B10; clear hE) | (go_at_call 37; refine (hcG _ E).mono ?_; clear hcG; rintro e u7 ⟨r, rfl, rfl, hE⟩; replace E := Ext.trans E hE; replace hown := owns_ext hE hown; have D0 := E.cell B0; have D1 := E.cell B1; have D2 := E.cell B2; have D3 := E.cell B3; clear hE))
      go_ret3
      exact ⟨_, rfl, ⟨_, by rw [HF.out, g1]; rfl, owns_mono hown hE1.size⟩, hE1.trans E⟩
  · have hk : o.kind = 2 := hk
    have k1 : (o.kind == 1) = false := by rw [hk]; rfl
    have n1 : (o.kind != 1) = true := by rw [bne, k1]; rfl
    have k2 : (o.kind == 2) = true := by rw [hk]; rfl
    have n2 : (o.kind != 2) = false := by rw [bne, k2]; rfl
    have k3 : (o.kind == 3) = false := by rw [hk]; rfl
    have n3 : (o.kind != 3) = true := by rw [bne, k3]; rfl
    have e2 : decide (p = o.to) = decide (o.to = p) := decide_eq_decide.2 eq_comm
    have HF : Hid (o.sh.gapAt p at_ first = if false && decide (o.to = p) && (decide (o.at_ < at_) || (at_ == o.at_) && !first) then wrap64 ((if true && decide (o.sh.from_ = p) && decide (lastN o.path < at_) then wrap64 (at_ - 1) else at_) + 1)
        else if true && decide (o.sh.from_ = p) && decide (lastN o.path < at_) then wrap64 (at_ - 1) else at_) := by
      have hk' : o.sh.kind = 2 := hk
      have p1 : o.sh.puts = false := by simp [Sh.puts, hk']
      have p2 : o.sh.takes = true := by simp [Sh.takes, hk']
      have p3 : o.sh.goal = o.to := by simp [Sh.goal, hk']; rfl
      simp only [Hid, Sh.gapAt, p1, p2, p3, e1, e2, sh_wr]
      rw [Bool.and_right_comm true (decide (o.sh.num < at_))]
      rfl
    have hcG : ∀ W, Ext w1 W → Calls Try.prog 37 #[.slice tA o.to.length tc, .slice xA p.length xc] W (Ret W fun r _ => r = .bool (decide (o.to = p))) := fun W hW => sameR_any _ _ _ _ _ (RdS.ext (hE1.trans hW) hT) (RdS.ext (hE1.trans hW) hp)
    have hne' : o.path ≠ [] := hne (by show o.kind ≠ 1; omega)
    have hc36 : ∀ W, Ext w1 W → Calls Try.prog 36 #[.slice pA o.path.length pc] W (Ret W fun r _ => r = .tuple #[.slice pA (o.path.length - 1) pc, .int .i64 (lastN o.path)]) := fun W hW => (parentR_any _ _ _ (RdS.ext (hE1.trans hW) hP) hne').mono (by
      rintro e w' ⟨r, rfl, ⟨A, c, he, rfl⟩, hE⟩
      simp only [Value.slice.injEq, true_and] at he
      obtain ⟨rfl, rfl⟩ := he
      exact ⟨_, rfl, rfl, hE⟩)
    have hq : RdI w o.sh.from_ (.slice pA (o.path.length - 1) pc) := by
      have := RdI.take hP (o.path.length - 1) (by omega)
      rw [dropLast_take] at this
      exact this
    have hcQ : ∀ W, Ext w1 W → Calls Try.prog 37 #[.slice pA (o.path.length - 1) pc, .slice xA p.length xc] W (Ret W fun r _ => r = .bool (decide (o.sh.from_ = p))) := fun W hW => sameR_any _ _ _ _ _ (RdS.ext (hE1.trans hW) hq) (RdS.ext (hE1.trans hW) hp)
    clear hq hne'
    clear h hP hT hC hp s1 s2 s3 hpl htl hm hne e1 e2 hk
    generalize decide (o.to = p) = s2 at *
    generalize decide (o.sh.from_ = p) = s1 at *
    generalize lastN o.path = d at *
    clear hcG
    rcases s1 with _ | _
    · go_enter Try.func15, Try.ntmps15
      go_wp2_with (first | (rw [H1.out]; clear H1) | (go_at_call 12; refine (hc11 _ E).mono ?_; clear hc11; rintro e u4 ⟨r, rfl, ⟨rq, rfl, hown⟩, hE⟩; replace E := Ext.trans E hE; have D0 := E.cell B0; have D1 := E.cell B1; have D2 := E.cell B2; have D3 := E.cell B3; have D4 := E.cell B4; have D5 := E.cell B5; have D6 := E.cell B6; have D7 := E.cell B7; have D8 := E.cell B8; have D9 := E.cell B9; have D10 := E.cell B10; clear hE) | (go_at_call 35; refine (hc29 _ E).mono ?_; clear hc29; rintro e u5 ⟨r, rfl, rfl, hE⟩; replace E := Ext.trans E hE; replace hown := owns_ext hE hown; have D0 := E.cell B0; have D1 := E.cell B1; have D2 := E.cell B2; have D3 := E.cell B3; have D4 := E.cell B4; have D5 := E.cell B5; have D6 := E.cell B6; have D7 := E.cell B7; have D8 := E.cell B8; have D9 := E.cell B9; have D10 := E.cell B10; clear hE) | (go_at_call 36; refine (hc36 _ E).mono ?_; clear hc36; rintro e u7 ⟨r, rfl, rfl, hE⟩; replace E := Ext.trans E hE; replace hown := owns_ext hE hown; have D0 := E.cell B0; have D1 := E.cell B1; have D2 := E.cell B2; have D3 := E.cell B3; clear hE) | (go_at_call 37; refine (hcQ _ E).mono ?_; clear hcQ; rintro e u7 ⟨r, rfl, rfl, hE⟩; replace E := Ext.trans E hE; replace hown := owns_ext hE hown; have D0 := E.cell B0; have D1 := E.cell B1; have D2 := E.cell B2; have D3 := E.cell B3; clear hE))
      go_ret3
      exact ⟨_, rfl, ⟨_, by rw [HF.out]; rfl, owns_mono hown hE1.size⟩, hE1.trans E⟩
    rcases Int.lt_or_le d at_ with hd | hd
    · have d1 : decide (d < at_) = true := decide_eq_true hd
      clear hd
      go_enter Try.func15, Try.ntmps15
      go_wp2_with (first | (rw [H1.out]; clear H1) | (go_at_call 12; refine (hc11 _ E).mono ?_; clear hc11; rintro e u4 ⟨r, rfl, ⟨rq, rfl, hown⟩, hE⟩; replace E := Ext.trans E hE; have D0 := E.cell B0; have D1 := E.cell B1; have D2 := E.cell B2; have D3 := E.cell B3; have D4 := E.cell B4; have D5 := E.cell B5; have D6 := E.cell B6; have D7 := E.cell B7; have D8 := E.cell B8; have D9 := E.cell B9; have D10 := E.cell B10; clear hE) | (go_at_call 35; refine (hc29 _ E).mono ?_; clear hc29; rintro e u5 ⟨r, rfl, rfl, hE⟩; replace E := Ext.trans E hE; replace hown := owns_ext hE hown; have D0 := E.cell B0; have D1 := E.cell B1; have D2 := E.cell B2; have D3 := E.cell B3; have D4 := E.cell B4; have D5 := E.cell B5; have D6 := E.cell B6; have D7 := E.cell B7; have D8 := E.cell B8; have D9 := E.cell B9; have D10 := E.cell B10; clear hE) | (go_at_call 36; refine (hc36 _ E).mono ?_; clear hc36; rintro e u7 ⟨r, rfl, rfl, hE⟩; replace E := Ext.trans E hE; replace hown := owns_ext hE hown; have D0 := E.cell B0; have D1 := E.cell B1; have D2 := E.cell B2; have D3 := E.cell B3; clear hE) | (go_at_call 37; refine (hcQ _ E).mono ?_; clear hcQ; rintro e u7 ⟨r, rfl, rfl, hE⟩; replace E := Ext.trans E hE; replace hown := owns_ext hE hown; have D0 := E.cell B0; have D1 := E.cell B1; have D2 := E.cell B2; have D3 := E.cell B3; clear hE))
      go_ret3
      exact ⟨_, rfl, ⟨_, by rw [HF.out, d1]; rfl, owns_mono hown hE1.size⟩, hE1.trans E⟩
    · have d1 : decide (d < at_) = false := decide_eq_false (by omega)
      clear hd
      go_enter Try.func15, Try.ntmps15
      go_wp2_with (first | (rw [H1.out]; clear H1) | (go_at_call 12; refine (hc11 _ E).mono ?_; clear hc11; rintro e u4 ⟨r, rfl, ⟨rq, rfl, hown⟩, hE⟩; replace E := Ext.trans E hE; have D0 := E.cell B0; have D1 := E.cell B1; have D2 := E.cell B2; have D3 := E.cell B3; have D4 := E.cell B4; have D5 := E.cell B5; have D6 := E.cell B6; have D7 := E.cell B7; have D8 := E.cell B8; have D9 := E.cell B9; have D10 := E.cell B10; clear hE) | (go_at_call 35; refine (hc29 _ E).mono ?_; clear hc29; rintro e u5 ⟨r, rfl, rfl, hE⟩; replace E := Ext.trans E hE; replace hown := owns_ext hE hown; have D0 := E.cell B0; have D1 := E.cell B1; have D2 := E.cell B2; have D3 := E.cell B3; have D4 := E.cell B4; have D5 := E.cell B5; have D6 := E.cell B6; have D7 := E.cell B7; have D8 := E.cell B8; have D9 := E.cell B9; have D10 := E.cell B10; clear hE) | (go_at_call 36; refine (hc36 _ E).mono ?_; clear hc36; rintro e u7 ⟨r, rfl, rfl, hE⟩; replace E := Ext.trans E hE; replace hown := owns_ext hE hown; have D0 := E.cell B0; have D1 := E.cell B1; have D2 := E.cell B2; have D3 := E.cell B3; clear hE) | (go_at_call 37; refine (hcQ _ E).mono ?_; clear hcQ; rintro e u7 ⟨r, rfl, rfl, hE⟩; replace E := Ext.trans E hE; replace hown := owns_ext hE hown; have D0 := E.cell B0; have D1 := E.cell B1; have D2 := E.cell B2; have D3 := E.cell B3; clear hE))
      go_ret3
      exact ⟨_, rfl, ⟨_, by rw [HF.out, d1]; rfl, owns_mono hown hE1.size⟩, hE1.trans E⟩
  · have hk : o.kind = 3 := hk
    have k1 : (o.kind == 1) = false := by rw [hk]; rfl
    have n1 : (o.kind != 1) = true := by rw [bne, k1]; rfl
    have k2 : (o.kind == 2) = false := by rw [hk]; rfl
    have n2 : (o.kind != 2) = true := by rw [bne, k2]; rfl
    have k3 : (o.kind == 3) = true := by rw [hk]; rfl
    have n3 : (o.kind != 3) = false := by rw [bne, k3]; rfl
    have e2 : decide (p = o.to) = decide (o.to = p) := decide_eq_decide.2 eq_comm
    have HF : Hid (o.sh.gapAt p at_ first = if true && decide (o.to = p) && (decide (o.at_ < at_) || (at_ == o.at_) && !first) then wrap64 ((if true && decide (o.sh.from_ = p) && decide (lastN o.path < at_) then wrap64 (at_ - 1) else at_) + 1)
        else if true && decide (o.sh.from_ = p) && decide (lastN o.path < at_) then wrap64 (at_ - 1) else at_) := by
      have hk' : o.sh.kind = 3 := hk
      have p1 : o.sh.puts = true := by simp [Sh.puts, hk']
      have p2 : o.sh.takes = true := by simp [Sh.takes, hk']
      have p3 : o.sh.goal = o.to := by simp [Sh.goal, hk']; rfl
      simp only [Hid, Sh.gapAt, p1, p2, p3, e1, e2, sh_wr]
      rw [Bool.and_right_comm true (decide (o.sh.num < at_))]
      rfl
    have hcG : ∀ W, Ext w1 W → Calls Try.prog 37 #[.slice tA o.to.length tc, .slice xA p.length xc] W (Ret W fun r _ => r = .bool (decide (o.to = p))) := fun W hW => sameR_any _ _ _ _ _ (RdS.ext (hE1.trans hW) hT) (RdS.ext (hE1.trans hW) hp)
    have hne' : o.path ≠ [] := hne (by show o.kind ≠ 1; omega)
    have hc36 : ∀ W, Ext w1 W → Calls Try.prog 36 #[.slice pA o.path.length pc] W (Ret W fun r _ => r = .tuple #[.slice pA (o.path.length - 1) pc, .int .i64 (lastN o.path)]) := fun W hW => (parentR_any _ _ _ (RdS.ext (hE1.trans hW) hP) hne').mono (by
      rintro e w' ⟨r, rfl, ⟨A, c, he, rfl⟩, hE⟩
      simp only [Value.slice.injEq, true_and] at he
      obtain ⟨rfl, rfl⟩ := he
      exact ⟨_, rfl, rfl, hE⟩)
    have hq : RdI w o.sh.from_ (.slice pA (o.path.length - 1) pc) := by
      have := RdI.take hP (o.path.length - 1) (by omega)
      rw [dropLast_take] at this
      exact this
    have hcQ : ∀ W, Ext w1 W → Calls Try.prog 37 #[.slice pA (o.path.length - 1) pc, .slice xA p.length xc] W (Ret W fun r _ => r = .bool (decide (o.sh.from_ = p))) := fun W hW => sameR_any _ _ _ _ _ (RdS.ext (hE1.trans hW) hq) (RdS.ext (hE1.trans hW) hp)
    clear hq hne'
    clear h hP hT hC hp s1 s2 s3 hpl htl hm hne e1 e2 hk
    generalize decide (o.to = p) = s2 at *
    generalize decide (o.sh.from_ = p) = s1 at *
    generalize lastN o.path = d at *
    rcases s1 with _ | _
    · rcases s2 with _ | _
      · go_enter Try.func15, Try.ntmps15
        go_wp2_with (first | (rw [H1.out]; clear H1) | (go_at_call 12; refine (hc11 _ E).mono ?_; clear hc11; rintro e u4 ⟨r, rfl, ⟨rq, rfl, hown⟩, hE⟩; replace E := Ext.trans E hE; have D0 := E.cell B0; have D1 := E.cell B1; have D2 := E.cell B2; have D3 := E.cell B3; have D4 := E.cell B4; have D5 := E.cell B5; have D6 := E.cell B6; have D7 := E.cell B7; have D8 := E.cell B8; have D9 := E.cell B9; have D10 := E.cell B10; clear hE) | (go_at_call 35; refine (hc29 _ E).mono ?_; clear hc29; rintro e u5 ⟨r, rfl, rfl, hE⟩; replace E := Ext.trans E hE; replace hown := owns_ext hE hown; have D0 := E.cell B0; have D1 := E.cell B1; have D2 := E.cell B2; have D3 := E.cell B3; have D4 := E.cell B4; have D5 := E.cell B5; have D6 := E.cell B6; have D7 := E.cell B7; have D8 := E.cell B8; have D9 := E.cell B9; have D10 := E.cell B10; clear hE) | (go_at_call 36; refine (hc36 _ E).mono ?_; clear hc36; rintro e u7 ⟨r, rfl, rfl, hE⟩; replace E := Ext.trans E hE; replace hown := owns_ext hE hown; have D0 := E.cell B0; have D1 := E.cell B1; have D2 := E.cell B2; have D3 := E.cell B3; clear hE) | (go_at_call 37; refine (hcQ _ E).mono ?_; clear hcQ; rintro e u7 ⟨r, rfl, rfl, hE⟩; replace E := Ext.trans E hE; replace hown := owns_ext hE hown; have D0 := E.cell B0; have D1 := E.cell B1; have D2 := E.cell B2; have D3 := E.cell B3; clear hE) | (go_at_call 37; refine (hcG _ E).mono ?_; clear hcG; rintro e u7 ⟨r, rfl, rfl, hE⟩; replace E := Ext.trans E hE; replace hown := owns_ext hE hown; have D0 := E.cell B0; have D1 := E.cell B1; have D2 := E.cell B2; have D3 := E.cell B3; clear hE))
        go_ret3
        exact ⟨_, rfl, ⟨_, by rw [HF.out]; rfl, owns_mono hown hE1.size⟩, hE1.trans E⟩
      rcases Int.lt_trichotomy at_ o.at_ with hg | hg | hg
      · have g1 : decide (o.at_ < at_) = false := decide_eq_false (by omega)
        have g2 : (at_ == o.at_) = false := by rw [beq_eq_false_iff_ne]; omega
        go_enter Try.func15, Try.ntmps15
        go_wp2_with (first | (rw [H1.out]; clear H1) | (go_at_call 12; refine (hc11 _ E).mono ?_; clear hc11; rintro e u4 ⟨r, rfl, ⟨rq, rfl, hown⟩, hE⟩; replace E := Ext.trans E hE; have D0 := E.cell B0; have D1 := E.cell B1; have D2 := E.cell B2; have D3 := E.cell B3; have D4 := E.cell B4; have D5 := E.cell B5; have D6 := E.cell B6; have D7 := E.cell B7; have D8 := E.cell B8; have D9 := E.cell B9; have D10 := E.cell B10; clear hE) | (go_at_call 35; refine (hc29 _ E).mono ?_; clear hc29; rintro e u5 ⟨r, rfl, rfl, hE⟩; replace E := Ext.trans E hE; replace hown := owns_ext hE hown; have D0 := E.cell B0; have D1 := E.cell B1; have D2 := E.cell B2; have D3 := E.cell B3; have D4 := E.cell B4; have D5 := E.cell B5; have D6 := E.cell B6; have D7 := E.cell B7; have D8 := E.cell B8; have D9 := E.cell B9; have D10 := E.cell B10; clear hE) | (go_at_call 36; refine (hc36 _ E).mono ?_; clear hc36; rintro e u7 ⟨r, rfl, rfl, hE⟩; replace E := Ext.trans E hE; replace hown := owns_ext hE hown; have D0 := E.cell B0; have D1 := E.cell B1; have D2 := E.cell B2; have D3 := E.cell B3; clear hE) | (go_at_call 37; refine (hcQ _ E).mono ?_; clear hcQ; rintro e u7 ⟨r, rfl, rfl, hE⟩; replace E := Ext.trans E hE; replace hown := owns_ext hE hown; have D0 := E.cell B0; have D1 := E.cell B1; have D2 := E.cell B2; have D3 := E.cell B3; clear hE) | (go_at_call 37; refine (hcG _ E).mono ?_; clear hcG; rintro e u7 ⟨r, rfl, rfl, hE⟩; replace E := Ext.trans E hE; replace hown := owns_ext hE hown; have D0 := E.cell B0; have D1 := E.cell B1; have D2 := E.cell B2; have D3 := E.cell B3; clear hE))
        go_ret3
        exact ⟨_, rfl, ⟨_, by rw [HF.out, g1, g2]; rfl, owns_mono hown hE1.size⟩, hE1.trans E⟩
      · have g1 : decide (o.at_ < at_) = false := decide_eq_false (by omega)
        have g2 : (at_ == o.at_) = true := by rw [beq_iff_eq]; exact hg
        clear hg
        rcases first with _ | _
        · go_enter Try.func15, Try.ntmps15
          go_wp2_with (first | (rw [H1.out]; clear H1) | (go_at_call 12; refine (hc11 _ E).mono ?_; clear hc11; rintro e u4 ⟨r, rfl, ⟨rq, rfl, hown⟩, hE⟩; replace E := Ext.trans E hE; have D0 := E.cell B0; have D1 := E.cell B1; have D2 := E.cell B2; have D3 := E.cell B3; have D4 := E.cell B4; have D5 := E.cell B5; have D6 := E.cell B6; have D7 := E.cell B7; have D8 := E.cell B8; have D9 := E.cell B9; have D10 := E.cell B10; clear hE) | (go_at_call 35; refine (hc29 _ E).mono ?_; clear hc29; rintro e u5 ⟨r, rfl, rfl, hE⟩; replace E := Ext.trans E hE; replace hown := owns_ext hE hown; have D0 := E.cell B0; have D1 := E.cell B1; have D2 := E.cell B2; have D3 := E.cell B3; have D4 := E.cell B4; have D5 := E.cell B5; have D6 := E.cell B6; have D7 := E.cell B7; have D8 := E.cell B8; have D9 := E.cell B9; have D10 := E.cell B10; clear hE) | (go_at_call 36; refine (hc36 _ E).mono ?_; clear hc36; rintro e u7 ⟨r, rfl, rfl, hE⟩; replace E := Ext.trans E hE; replace hown := owns_ext hE hown; have D0 := E.cell B0; have D1 := E.cell B1; have D2 := E.cell B2; have D3 := E.cell B3; clear hE) | (go_at_call 37; refine (hcQ _ E).mono ?_; clear hcQ; rintro e u7 ⟨r, rfl, rfl, hE⟩; replace E := Ext.trans E hE; replace hown := owns_ext hE hown; have D0 := E.cell B0; have D1 := E.cell B1; have D2 := E.cell B2; have D3 := E.cell B3; clear hE) | (go_at_call 37; refine (hcG _ E).mono ?_; clear hcG; rintro e u7 ⟨r, rfl, rfl, hE⟩; replace E := Ext.trans E hE; replace hown := owns_ext hE hown; have D0 := E.cell B0; have D1 := E.cell B1; have D2 := E.cell B2; have D3 := E.cell B3; clear hE))
          go_ret3
          exact ⟨_, rfl, ⟨_, by rw [HF.out, g1, g2]; rfl, owns_mono hown hE1.size⟩, hE1.trans E⟩
        · go_enter Try.func15, Try.ntmps15
          go_wp2_with (first | (rw [H1.out]; clear H1) | (go_at_call 12; refine (hc11 _ E).mono ?_; clear hc11; rintro e u4 ⟨r, rfl, ⟨rq, rfl, hown⟩, hE⟩; replace E := Ext.trans E hE; have D0 := E.cell B0; have D1 := E.cell B1; have D2 := E.cell B2; have D3 := E.cell B3; have D4 := E.cell B4; have D5 := E.cell B5; have D6 := E.cell B6; have D7 := E.cell B7; have D8 := E.cell B8; have D9 := E.cell B9; have D10 := E.cell B10; clear hE) | (go_at_call 35; refine (hc29 _ E).mono ?_; clear hc29; rintro e u5 ⟨r, rfl, rfl, hE⟩; replace E := Ext.trans E hE; replace hown := owns_ext hE hown; have D0 := E.cell B0; have D1 := E.cell B1; have D2 := E.cell B2; have D3 := E.cell B3; have D4 := E.cell B4; have D5 := E.cell B5; have D6 := E.cell B6; have D7 := E.cell B7; have D8 := E.cell B8; have D9 := E.cell B9; have D10 := E.cell B10; clear hE) | (go_at_call 36; refine (hc36 _ E).mono ?_; clear hc36; rintro e u7 ⟨r, rfl, rfl, hE⟩; replace E := Ext.trans E hE; replace hown := owns_ext hE hown; have D0 := E.cell B0; have D1 := E.cell B1; have D2 := E.cell B2; have D3 := E.cell B3; clear hE) | (go_at_call 37; refine (hcQ _ E).mono ?_; clear hcQ; rintro e u7 ⟨r, rfl, rfl, hE⟩; replace E := Ext.trans E hE; replace hown := owns_ext hE hown; have D0 := E.cell B0; have D1 := E.cell B1; have D2 := E.cell B2; have D3 := E.cell B3; clear hE) | (go_at_call 37; refine (hcG _ E).mono ?_; clear hcG; rintro e u7 ⟨r, rfl, rfl, hE⟩; replace E := Ext.trans E hE; replace hown := owns_ext hE hown; have D0 := E.cell B0; have D1 := E.cell B1; have D2 := E.cell B2; have D3 := E.cell B3; clear hE))
          go_ret3
          exact ⟨_, rfl, ⟨_, by rw [HF.out, g1, g2]; rfl, owns_mono hown hE1.size⟩, hE1.trans E⟩
      · have g1 : decide (o.at_ < at_) = true := decide_eq_true hg
        go_enter Try.func15, Try.ntmps15
        go_wp2_with (first | (rw [H1.out]; clear H1) | (go_at_call 12; refine (hc11 _ E).mono ?_; clear hc11; rintro e u4 ⟨r, rfl, ⟨rq, rfl, hown⟩, hE⟩; replace E := Ext.trans E hE; have D0 := E.cell B0; have D1 := E.cell B1; have D2 := E.cell B2; have D3 := E.cell B3; have D4 := E.cell B4; have D5 := E.cell B5; have D6 := E.cell B6; have D7 := E.cell B7; have D8 := E.cell B8; have D9 := E.cell B9; have D10 := E.cell B10; clear hE) | (go_at_call 35; refine (hc29 _ E).mono ?_; clear hc29; rintro e u5 ⟨r, rfl, rfl, hE⟩; replace E := Ext.trans E hE; replace hown := owns_ext hE hown; have D0 := E.cell B0; have D1 := E.cell B1; have D2 := E.cell B2; have D3 := E.cell B3; have D4 := E.cell B4; have D5 := E.cell B5; have D6 := E.cell B6; have D7 := E.cell B7; have D8 := E.cell B8; have D9 := E.cell B9; have D10 := E.cell B10; clear hE) | (go_at_call 36; refine (hc36 _ E).mono ?_; clear hc36; rintro e u7 ⟨r, rfl, rfl, hE⟩; replace E := Ext.trans E hE; replace hown := owns_ext hE hown; have D0 := E.cell B0; have D1 := E.cell B1; have D2 := E.cell B2; have D3 := E.cell B3; clear hE) | (go_at_call 37; refine (hcQ _ E).mono ?_; clear hcQ; rintro e u7 ⟨r, rfl, rfl, hE⟩; replace E := Ext.trans E hE; replace hown := owns_ext hE hown; have D0 := E.cell B0; have D1 := E.cell B1; have D2 := E.cell B2; have D3 := E.cell B3; clear hE) | (go_at_call 37; refine (hcG _ E).mono ?_; clear hcG; rintro e u7 ⟨r, rfl, rfl, hE⟩; replace E := Ext.trans E hE; replace hown := owns_ext hE hown; have D0 := E.cell B0; have D1 := E.cell B1; have D2 := E.cell B2; have D3 := E.cell B3; clear hE))
        go_ret3
        exact ⟨_, rfl, ⟨_, by rw [HF.out, g1]; rfl, owns_mono hown hE1.size⟩, hE1.trans E⟩
    rcases Int.lt_or_le d at_ with hd | hd
    · have d1 : decide (d < at_) = true := decide_eq_true hd
      clear hd
      rcases s2 with _ | _
      · go_enter Try.func15, Try.ntmps15
        go_wp2_with (first | (rw [H1.out]; clear H1) | (go_at_call 12; refine (hc11 _ E).mono ?_; clear hc11; rintro e u4 ⟨r, rfl, ⟨rq, rfl, hown⟩, hE⟩; replace E := Ext.trans E hE; have D0 := E.cell B0; have D1 := E.cell B1; have D2 := E.cell B2; have D3 := E.cell B3; have D4 := E.cell B4; have D5 := E.cell B5; have D6 := E.cell B6; have D7 := E.cell B7; have D8 := E.cell B8; have D9 := E.cell B9; have D10 := E.cell B10; clear hE) | (go_at_call 35; refine (hc29 _ E).mono ?_; clear hc29; rintro e u5 ⟨r, rfl, rfl, hE⟩; replace E := Ext.trans E hE; replace hown := owns_ext hE hown; have D0 := E.cell B0; have D1 := E.cell B1; have D2 := E.cell B2; have D3 := E.cell B3; have D4 := E.cell B4; have D5 := E.cell B5; have D6 := E.cell B6; have D7 := E.cell B7; have D8 := E.cell B8; have D9 := E.cell B9; have D10 := E.cell B10; clear hE) | (go_at_call 36; refine (hc36 _ E).mono ?_; clear hc36; rintro e u7 ⟨r, rfl, rfl, hE⟩; replace E := Ext.trans E hE; replace hown := owns_ext hE hown; have D0 := E.cell B0; have D1 := E.cell B1; have D2 := E.cell B2; have D3 := E.cell B3; clear hE) | (go_at_call 37; refine (hcQ _ E).mono ?_; clear hcQ; rintro e u7 ⟨r, rfl, rfl, hE⟩; replace E := Ext.trans E hE; replace hown := owns_ext hE hown; have D0 := E.cell B0; have D1 := E.cell B1; have D2 := E.cell B2; have D3 := E.cell B3; clear hE) | (go_at_call 37; refine (hcG _ E).mono ?_; clear hcG; rintro e u7 ⟨r, rfl, rfl, hE⟩; replace E := Ext.trans E hE; replace hown := owns_ext hE hown; have D0 := E.cell B0; have D1 := E.cell B1; have D2 := E.cell B2; have D3 := E.cell B3; clear hE))
        go_ret3
        exact ⟨_, rfl, ⟨_, by rw [HF.out, d1]; rfl, owns_mono hown hE1.size⟩, hE1.trans E⟩
      rcases Int.lt_trichotomy at_ o.at_ with hg | hg | hg
      · have g1 : decide (o.at_ < at_) = false := decide_eq_false (by omega)
        have g2 : (at_ == o.at_) = false := by rw [beq_eq_false_iff_ne]; omega
        go_enter Try.func15, Try.ntmps15
        go_wp2_with (first | (rw [H1.out]; clear H1) | (go_at_call 12; refine (hc11 _ E).mono ?_; clear hc11; rintro e u4 ⟨r, rfl, ⟨rq, rfl, hown⟩, hE⟩; replace E := Ext.trans E hE; have D0 := E.cell B0; have D1 := E.cell B1; have D2 := E.cell B2; have D3 := E.cell B3; have D4 := E.cell B4; have D5 := E.cell B5; have D6 := E.cell B6; have D7 := E.cell B7; have D8 := E.cell B8; have D9 := E.cell B9; have D10 := E.cell B10; clear hE) | (go_at_call 35; refine (hc29 _ E).mono ?_; clear hc29; rintro e u5 ⟨r, rfl, rfl, hE⟩; replace E := Ext.trans E hE; replace hown := owns_ext hE hown; have D0 := E.cell B0; have D1 := E.cell B1; have D2 := E.cell B2; have D3 := E.cell B3; have D4 := E.cell B4; have D5 := E.cell B5; have D6 := E.cell B6; have D7 := E.cell B7; have D8 := E.cell B8; have D9 := E.cell B9; have D10 := E.cell B10; clear hE) | (go_at_call 36; refine (hc36 _ E).mono ?_; clear hc36; rintro e u7 ⟨r, rfl, rfl, hE⟩; replace E := Ext.trans E hE; replace hown := owns_ext hE hown; have D0 := E.cell B0; have D1 := E.cell B1; have D2 := E.cell B2; have D3 := E.cell B3; clear hE) | (go_at_call 37; refine (hcQ _ E).mono ?_; clear hcQ; rintro e u7 ⟨r, rfl, rfl, hE⟩; replace E := Ext.trans E hE; replace hown := owns_ext hE hown; have D0 := E.cell B0; have D1 := E.cell B1; have D2 := E.cell B2; have D3 := E.cell B3; clear hE) | (go_at_call 37; refine (hcG _ E).mono ?_; clear hcG; rintro e u7 ⟨r, rfl, rfl, hE⟩; replace E := Ext.trans E hE; replace hown := owns_ext hE hown; have D0 := E.cell B0; have D1 := E.cell B1; have D2 := E.cell B2; have D3 := E.cell B3; clear hE))
        go_ret3
        exact ⟨_, rfl, ⟨_, by rw [HF.out, d1, g1, g2]; rfl, owns_mono hown hE1.size⟩, hE1.trans E⟩
      · have g1 : decide (o.at_ < at_) = false := decide_eq_false (by omega)
        have g2 : (at_ == o.at_) = true := by rw [beq_iff_eq]; exact hg
        clear hg
        rcases first with _ | _
        · go_enter Try.func15, Try.ntmps15
          go_wp2_with (first | (rw [H1.out]; clear H1) | (go_at_call 12; refine (hc11 _ E).mono ?_; clear hc11; rintro e u4 ⟨r, rfl, ⟨rq, rfl, hown⟩, hE⟩; replace E := Ext.trans E hE; have D0 := E.cell B0; have D1 := E.cell B1; have D2 := E.cell B2; have D3 := E.cell B3; have D4 := E.cell B4; have D5 := E.cell B5; have D6 := E.cell B6; have D7 := E.cell B7; have D8 := E.cell B8; have D9 := E.cell B9; have D10 := E.cell B10; clear hE) | (go_at_call 35; refine (hc29 _ E).mono ?_; clear hc29; rintro e u5 ⟨r, rfl, rfl, hE⟩; replace E := Ext.trans E hE; replace hown := owns_ext hE hown; have D0 := E.cell B0; have D1 := E.cell B1; have D2 := E.cell B2; have D3 := E.cell B3; have D4 := E.cell B4; have D5 := E.cell B5; have D6 := E.cell B6; have D7 := E.cell B7; have D8 := E.cell B8; have D9 := E.cell B9; have D10 := E.cell B10; clear hE) | (go_at_call 36; refine (hc36 _ E).mono ?_; clear hc36; rintro e u7 ⟨r, rfl, rfl, hE⟩; replace E := Ext.trans E hE; replace hown := owns_ext hE hown; have D0 := E.cell B0; have D1 := E.cell B1; have D2 := E.cell B2; have D3 := E.cell B3; clear hE) | (go_at_call 37; refine (hcQ _ E).mono ?_; clear hcQ; rintro e u7 ⟨r, rfl, rfl, hE⟩; replace E := Ext.trans E hE; replace hown := owns_ext hE hown; have D0 := E.cell B0; have D1 := E.cell B1; have D2 := E.cell B2; have D3 := E.cell B3; clear hE) | (go_at_call 37; refine (hcG _ E).mono ?_; clear hcG; rintro e u7 ⟨r, rfl, rfl, hE⟩; replace E := Ext.trans E hE; replace hown := owns_ext hE hown; have D0 := E.cell B0; have D1 := E.cell B1; have D2 := E.cell B2; have D3 := E.cell B3; clear hE))
          go_ret3
          exact ⟨_, rfl, ⟨_, by rw [HF.out, d1, g1, g2]; rfl, owns_mono hown hE1.size⟩, hE1.trans E⟩
        · go_enter Try.func15, Try.ntmps15
          go_wp2_with (first | (rw [H1.out]; clear H1) | (go_at_call 12; refine (hc11 _ E).mono ?_; clear hc11; rintro e u4 ⟨r, rfl, ⟨rq, rfl, hown⟩, hE⟩; replace E := Ext.trans E hE; have D0 := E.cell B0; have D1 := E.cell B1; have D2 := E.cell B2; have D3 := E.cell B3; have D4 := E.cell B4; have D5 := E.cell B5; have D6 := E.cell B6; have D7 := E.cell B7; have D8 := E.cell B8; have D9 := E.cell B9; have D10 := E.cell B10; clear hE) | (go_at_call 35; refine (hc29 _ E).mono ?_; clear hc29; rintro e u5 ⟨r, rfl, rfl, hE⟩; replace E := Ext.trans E hE; replace hown := owns_ext hE hown; have D0 := E.cell B0; have D1 := E.cell B1; have D2 := E.cell B2; have D3 := E.cell B3; have D4 := E.cell B4; have D5 := E.cell B5; have D6 := E.cell B6; have D7 := E.cell B7; have D8 := E.cell B8; have D9 := E.cell B9; have D10 := E.cell B10; clear hE) | (go_at_call 36; refine (hc36 _ E).mono ?_; clear hc36; rintro e u7 ⟨r, rfl, rfl, hE⟩; replace E := Ext.trans E hE; replace hown := owns_ext hE hown; have D0 := E.cell B0; have D1 := E.cell B1; have D2 := E.cell B2; have D3 := E.cell B3; clear hE) | (go_at_call 37; refine (hcQ _ E).mono ?_; clear hcQ; rintro e u7 ⟨r, rfl, rfl, hE⟩; replace E := Ext.trans E hE; replace hown := owns_ext hE hown; have D0 := E.cell B0; have D1 := E.cell B1; have D2 := E.cell B2; have D3 := E.cell B3; clear hE) | (go_at_call 37; refine (hcG _ E).mono ?_; clear hcG; rintro e u7 ⟨r, rfl, rfl, hE⟩; replace E := Ext.trans E hE; replace hown := owns_ext hE hown; have D0 := E.cell B0; have D1 := E.cell B1; have D2 := E.cell B2; have D3 := E.cell B3; clear hE))
          go_ret3
          exact ⟨_, rfl, ⟨_, by rw [HF.out, d1, g1, g2]; rfl, owns_mono hown hE1.size⟩, hE1.trans E⟩
      · have g1 : decide (o.at_ < at_) = true := decide_eq_true hg
        go_enter Try.func15, Try.ntmps15
        go_wp2_with (first | (rw [H1.out]; clear H1) | (go_at_call 12; refine (hc11 _ E).mono ?_; clear hc11; rintro e u4 ⟨r, rfl, ⟨rq, rfl, hown⟩, hE⟩; replace E := Ext.trans E hE; have D0 := E.cell B0; have D1 := E.cell B1; have D2 := E.cell B2; have D3 := E.cell B3; have D4 := E.cell B4; have D5 := E.cell B5; have D6 := E.cell B6; have D7 := E.cell B7; have D8 := E.cell B8; have D9 := E.cell B9; have D10 := E.cell B10; clear hE) | (go_at_call 35; refine (hc29 _ E).mono ?_; clear hc29; rintro e u5 ⟨r, rfl, rfl, hE⟩; replace E := Ext.trans E hE; replace hown := owns_ext hE hown; have D0 := E.cell B0; have D1 := E.cell B1; have D2 := E.cell B2; have D3 := E.cell B3; have D4 := E.cell B4; have D5 := E.cell B5; have D6 := E.cell B6; have D7 := E.cell B7; have D8 := E.cell B8; have D9 := E.cell B9; have D10 := E.cell B10; clear hE) | (go_at_call 36; refine (hc36 _ E).mono ?_; clear hc36; rintro e u7 ⟨r, rfl, rfl, hE⟩; replace E := Ext.trans E hE; replace hown := owns_ext hE hown; have D0 := E.cell B0; have D1 := E.cell B1; have D2 := E.cell B2; have D3 := E.cell B3; clear hE) | (go_at_call 37; refine (hcQ _ E).mono ?_; clear hcQ; rintro e u7 ⟨r, rfl, rfl, hE⟩; replace E := Ext.trans E hE; replace hown := owns_ext hE hown; have D0 := E.cell B0; have D1 := E.cell B1; have D2 := E.cell B2; have D3 := E.cell B3; clear hE) | (go_at_call 37; refine (hcG _ E).mono ?_; clear hcG; rintro e u7 ⟨r, rfl, rfl, hE⟩; replace E := Ext.trans E hE; replace hown := owns_ext hE hown; have D0 := E.cell B0; have D1 := E.cell B1; have D2 := E.cell B2; have D3 := E.cell B3; clear hE))
        go_ret3
        exact ⟨_, rfl, ⟨_, by rw [HF.out, d1, g1]; rfl, owns_mono hown hE1.size⟩, hE1.trans E⟩
    · have d1 : decide (d < at_) = false := decide_eq_false (by omega)
      clear hd
      rcases s2 with _ | _
      · go_enter Try.func15, Try.ntmps15
        go_wp2_with (first | (rw [H1.out]; clear H1) | (go_at_call 12; refine (hc11 _ E).mono ?_; clear hc11; rintro e u4 ⟨r, rfl, ⟨rq, rfl, hown⟩, hE⟩; replace E := Ext.trans E hE; have D0 := E.cell B0; have D1 := E.cell B1; have D2 := E.cell B2; have D3 := E.cell B3; have D4 := E.cell B4; have D5 := E.cell B5; have D6 := E.cell B6; have D7 := E.cell B7; have D8 := E.cell B8; have D9 := E.cell B9; have D10 := E.cell B10; clear hE) | (go_at_call 35; refine (hc29 _ E).mono ?_; clear hc29; rintro e u5 ⟨r, rfl, rfl, hE⟩; replace E := Ext.trans E hE; replace hown := owns_ext hE hown; have D0 := E.cell B0; have D1 := E.cell B1; have D2 := E.cell B2; have D3 := E.cell B3; have D4 := E.cell B4; have D5 := E.cell B5; have D6 := E.cell B6; have D7 := E.cell B7; have D8 := E.cell B8; have D9 := E.cell B9; have D10 := E.cell B10; clear hE) | (go_at_call 36; refine (hc36 _ E).mono ?_; clear hc36; rintro e u7 ⟨r, rfl, rfl, hE⟩; replace E := Ext.trans E hE; replace hown := owns_ext hE hown; have D0 := E.cell B0; have D1 := E.cell B1; have D2 := E.cell B2; have D3 := E.cell B3; clear hE) | (go_at_call 37; refine (hcQ _ E).mono ?_; clear hcQ; rintro e u7 ⟨r, rfl, rfl, hE⟩; replace E := Ext.trans E hE; replace hown := owns_ext hE hown; have D0 := E.cell B0; have D1 := E.cell B1; have D2 := E.cell B2; have D3 := E.cell B3; clear hE) | (go_at_call 37; refine (hcG _ E).mono ?_; clear hcG; rintro e u7 ⟨r, rfl, rfl, hE⟩; replace E := Ext.trans E hE; replace hown := owns_ext hE hown; have D0 := E.cell B0; have D1 := E.cell B1; have D2 := E.cell B2; have D3 := E.cell B3; clear hE))
        go_ret3
        exact ⟨_, rfl, ⟨_, by rw [HF.out, d1]; rfl, owns_mono hown hE1.size⟩, hE1.trans E⟩
      rcases Int.lt_trichotomy at_ o.at_ with hg | hg | hg
      · have g1 : decide (o.at_ < at_) = false := decide_eq_false (by omega)
        have g2 : (at_ == o.at_) = false := by rw [beq_eq_false_iff_ne]; omega
        go_enter Try.func15, Try.ntmps15
        go_wp2_with (first | (rw [H1.out]; clear H1) | (go_at_call 12; refine (hc11 _ E).mono ?_; clear hc11; rintro e u4 ⟨r, rfl, ⟨rq, rfl, hown⟩, hE⟩; replace E := Ext.trans E hE; have D0 := E.cell B0; have D1 := E.cell B1; have D2 := E.cell B2; have D3 := E.cell B3; have D4 := E.cell B4; have D5 := E.cell B5; have D6 := E.cell B6; have D7 := E.cell B7; have D8 := E.cell B8; have D9 := E.cell B9; have D10 := E.cell B10; clear hE) | (go_at_call 35; refine (hc29 _ E).mono ?_; clear hc29; rintro e u5 ⟨r, rfl, rfl, hE⟩; replace E := Ext.trans E hE; replace hown := owns_ext hE hown; have D0 := E.cell B0; have D1 := E.cell B1; have D2 := E.cell B2; have D3 := E.cell B3; have D4 := E.cell B4; have D5 := E.cell B5; have D6 := E.cell B6; have D7 := E.cell B7; have D8 := E.cell B8; have D9 := E.cell B9; have D10 := E.cell B10; clear hE) | (go_at_call 36; refine (hc36 _ E).mono ?_; clear hc36; rintro e u7 ⟨r, rfl, rfl, hE⟩; replace E := Ext.trans E hE; replace hown := owns_ext hE hown; have D0 := E.cell B0; have D1 := E.cell B1; have D2 := E.cell B2; have D3 := E.cell B3; clear hE) | (go_at_call 37; refine (hcQ _ E).mono ?_; clear hcQ; rintro e u7 ⟨r, rfl, rfl, hE⟩; replace E := Ext.trans E hE; replace hown := owns_ext hE hown; have D0 := E.cell B0; have D1 := E.cell B1; have D2 := E.cell B2; have D3 := E.cell B3; clear hE) | (go_at_call 37; refine (hcG _ E).mono ?_; clear hcG; rintro e u7 ⟨r, rfl, rfl, hE⟩; replace E := Ext.trans E hE; replace hown := owns_ext hE hown; have D0 := E.cell B0; have D1 := E.cell B1; have D2 := E.cell B2; have D3 := E.cell B3; clear hE))
        go_ret3
        exact ⟨_, rfl, ⟨_, by rw [HF.out, d1, g1, g2]; rfl, owns_mono hown hE1.size⟩, hE1.trans E⟩
      · have g1 : decide (o.at_ < at_) = false := decide_eq_false (by omega)
        have g2 : (at_ == o.at_) = true := by rw [beq_iff_eq]; exact hg
        clear hg
        rcases first with _ | _
        · go_enter Try.func15, Try.ntmps15
          go_wp2_with (first | (rw [H1.out]; clear H1) | (go_at_call 12; refine (hc11 _ E).mono ?_; clear hc11; rintro e u4 ⟨r, rfl, ⟨rq, rfl, hown⟩, hE⟩; replace E := Ext.trans E hE; have D0 := E.cell B0; have D1 := E.cell B1; have D2 := E.cell B2; have D3 := E.cell B3; have D4 := E.cell B4; have D5 := E.cell B5; have D6 := E.cell B6; have D7 := E.cell B7; have D8 := E.cell B8; have D9 := E.cell B9; have D10 := E.cell B10; clear hE) | (go_at_call 35; refine (hc29 _ E).mono ?_; clear hc29; rintro e u5 ⟨r, rfl, rfl, hE⟩; replace E := Ext.trans E hE; replace hown := owns_ext hE hown; have D0 := E.cell B0; have D1 := E.cell B1; have D2 := E.cell B2; have D3 := E.cell B3; have D4 := E.cell B4; have D5 := E.cell B5; have D6 := E.cell B6; have D7 := E.cell B7; have D8 := E.cell B8; have D9 := E.cell B9; have D10 := E.cell B10; clear hE) | (go_at_call 36; refine (hc36 _ E).mono ?_; clear hc36; rintro e u7 ⟨r, rfl, rfl, hE⟩; replace E := Ext.trans E hE; replace hown := owns_ext hE hown; have D0 := E.cell B0; have D1 := E.cell B1; have D2 := E.cell B2; have D3 := E.cell B3; clear hE) | (go_at_call 37; refine (hcQ _ E).mono ?_; clear hcQ; rintro e u7 ⟨r, rfl, rfl, hE⟩; replace E := Ext.trans E hE; replace hown := owns_ext hE hown; have D0 := E.cell B0; have D1 := E.cell B1; have D2 := E.cell B2; have D3 := E.cell B3; clear hE) | (go_at_call 37; refine (hcG _ E).mono ?_; clear hcG; rintro e u7 ⟨r, rfl, rfl, hE⟩; replace E := Ext.trans E hE; replace hown := owns_ext hE hown; have D0 := E.cell B0; have D1 := E.cell B1; have D2 := E.cell B2; have D3 := E.cell B3; clear hE))
          go_ret3
          exact ⟨_, rfl, ⟨_, by rw [HF.out, d1, g1, g2]; rfl, owns_mono hown hE1.size⟩, hE1.trans E⟩
        · go_enter Try.func15, Try.ntmps15
          go_wp2_with (first | (rw [H1.out]; clear H1) | (go_at_call 12; refine (hc11 _ E).mono ?_; clear hc11; rintro e u4 ⟨r, rfl, ⟨rq, rfl, hown⟩, hE⟩; replace E := Ext.trans E hE; have D0 := E.cell B0; have D1 := E.cell B1; have D2 := E.cell B2; have D3 := E.cell B3; have D4 := E.cell B4; have D5 := E.cell B5; have D6 := E.cell B6; have D7 := E.cell B7; have D8 := E.cell B8; have D9 := E.cell B9; have D10 := E.cell B10; clear hE) | (go_at_call 35; refine (hc29 _ E).mono ?_; clear hc29; rintro e u5 ⟨r, rfl, rfl, hE⟩; replace E := Ext.trans E hE; replace hown := owns_ext hE hown; have D0 := E.cell B0; have D1 := E.cell B1; have D2 := E.cell B2; have D3 := E.cell B3; have D4 := E.cell B4; have D5 := E.cell B5; have D6 := E.cell B6; have D7 := E.cell B7; have D8 := E.cell B8; have D9 := E.cell B9; have D10 := E.cell B10; clear hE) | (go_at_call 36; refine (hc36 _ E).mono ?_; clear hc36; rintro e u7 ⟨r, rfl, rfl, hE⟩; replace E := Ext.trans E hE; replace hown := owns_ext hE hown; have D0 := E.cell B0; have D1 := E.cell B1; have D2 := E.cell B2; have D3 := E.cell B3; clear hE) | (go_at_call 37; refine (hcQ _ E).mono ?_; clear hcQ; rintro e u7 ⟨r, rfl, rfl, hE⟩; replace E := Ext.trans E hE; replace hown := owns_ext hE hown; have D0 := E.cell B0; have D1 := E.cell B1; have D2 := E.cell B2; have D3 := E.cell B3; clear hE) | (go_at_call 37; refine (hcG _ E).mono ?_; clear hcG; rintro e u7 ⟨r, rfl, rfl, hE⟩; replace E := Ext.trans E hE; replace hown := owns_ext hE hown; have D0 := E.cell B0; have D1 := E.cell B1; have D2 := E.cell B2; have D3 := E.cell B3; clear hE))
          go_ret3
          exact ⟨_, rfl, ⟨_, by rw [HF.out, d1, g1, g2]; rfl, owns_mono hown hE1.size⟩, hE1.trans E⟩
      · have g1 : decide (o.at_ < at_) = true := decide_eq_true hg
        go_enter Try.func15, Try.ntmps15
        go_wp2_with (first | (rw [H1.out]; clear H1) | (go_at_call 12; refine (hc11 _ E).mono ?_; clear hc11; rintro e u4 ⟨r, rfl, ⟨rq, rfl, hown⟩, hE⟩; replace E := Ext.trans E hE; have D0 := E.cell B0; have D1 := E.cell B1; have D2 := E.cell B2; have D3 := E.cell B3; have D4 := E.cell B4; have D5 := E.cell B5; have D6 := E.cell B6; have D7 := E.cell B7; have D8 := E.cell B8; have D9 := E.cell B9; have D10 := E.cell B10; clear hE) | (go_at_call 35; refine (hc29 _ E).mono ?_; clear hc29; rintro e u5 ⟨r, rfl, rfl, hE⟩; replace E := Ext.trans E hE; replace hown := owns_ext hE hown; have D0 := E.cell B0; have D1 := E.cell B1; have D2 := E.cell B2; have D3 := E.cell B3; have D4 := E.cell B4; have D5 := E.cell B5; have D6 := E.cell B6; have D7 := E.cell B7; have D8 := E.cell B8; have D9 := E.cell B9; have D10 := E.cell B10; clear hE) | (go_at_call 36; refine (hc36 _ E).mono ?_; clear hc36; rintro e u7 ⟨r, rfl, rfl, hE⟩; replace E := Ext.trans E hE; replace hown := owns_ext hE hown; have D0 := E.cell B0; have D1 := E.cell B1; have D2 := E.cell B2; have D3 := E.cell B3; clear hE) | (go_at_call 37; refine (hcQ _ E).mono ?_; clear hcQ; rintro e u7 ⟨r, rfl, rfl, hE⟩; replace E := Ext.trans E hE; replace hown := owns_ext hE hown; have D0 := E.cell B0; have D1 := E.cell B1; have D2 := E.cell B2; have D3 := E.cell B3; clear hE) | (go_at_call 37; refine (hcG _ E).mono ?_; clear hcG; rintro e u7 ⟨r, rfl, rfl, hE⟩; replace E := Ext.trans E hE; replace hown := owns_ext hE hown; have D0 := E.cell B0; have D1 := E.cell B1; have D2 := E.cell B2; have D3 := E.cell B3; clear hE))
        go_ret3
        exact ⟨_, rfl, ⟨_, by rw [HF.out, d1, g1]; rfl, owns_mono hown hE1.size⟩, hE1.trans E⟩
end Go.Proofs.Ytdnjkffmgmbfmaa.Bs
