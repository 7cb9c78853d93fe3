/- Chapter 11: where a gap is. -/
import Derived.Test.YtdnjkffmgmbfmaaBsNodeR
namespace Go.Proofs.Ytdnjkffmgmbfmaa.Bs
open Go.RowKit Go.Proofs.Ytdnjkffmgmbfmaa.Bw

/-- Where a gap is behind an operation that moves nodes. -/
def Sh.gapAt (o : Sh) (p : List Int) (at_ : Int) (first : Bool) : Int :=
 if o.puts && decide (p = o.goal) && (decide (o.gap < at_) || (at_ == o.gap) && !first) then o.wr ((if o.takes && decide (o.num < at_) && decide (p = o.from_) then o.wr (at_ - 1) else at_) + 1)
 else if o.takes && decide (o.num < at_) && decide (p = o.from_) then o.wr (at_ - 1) else at_
/-- What is told where a gap is. -/
def RdG (B : Nat) (w : World) (o : Sh) (p : List Int) (at_ : Int) (first : Bool) (r : Value) : Prop := match o.node p with
 | some q => ∃ r', r = .tuple #[r', .int .i64 (if o.moves then o.gapAt p at_ first else at_), .bool true] ∧ w.ownsRow B 3 1 r' q.length (q.map (Value.int .i64))
 | none => r = .tuple #[.slice none 0 0, .int .i64 0, .bool false]

set_option maxRecDepth 100000 in
set_option maxHeartbeats 4000000 in
theorem gap_any (o : OpD) (v pv : Value) (p : List Int) (at_ : Int) (first : Bool) (w : World) (h : o.rd w v) (hp : RdI w p pv) (hl : o.path.length ≤ 1000) (htl' : o.to.length ≤ 1000) (hpl' : p.length ≤ 1000) : Calls Try.prog 14 #[v, pv, .int .i64 at_, .bool first] w (Ret w fun r w' => RdG w.heap.size w' o.sh p at_ first r) := by
 obtain ⟨pv, tv, cv, rfl, hP, hT, hC, s1, s2, s3⟩ := h
 have h : o.rd w (.agg #[.int .u8 o.kind, pv, .int .i64 o.at_, tv, .int .u64 o.id, .bool o.leaf, .string o.label, .string o.key, .string o.value, .bool o.gone, cv]) := ⟨pv, tv, cv, rfl, hP, hT, hC, s1, s2, s3⟩
 have hP0 := hP
 have hT0 := hT
 have hC0 := hC
 obtain ⟨pA, pc, rfl, _, _, hpc, _⟩ := hP0
 obtain ⟨tA, tc, rfl, _, _, htc, _⟩ := hT0
 obtain ⟨cA, cc, rfl, _⟩ := hC0
 have hpl : o.path.length ≤ pc := by obtain ⟨_, _, e, _, h1, _⟩ := hP; simp only [Value.slice.injEq] at e; omega
 have htl : o.to.length ≤ tc := by obtain ⟨_, _, e, _, h1, _⟩ := hT; simp only [Value.slice.injEq] at e; omega
 unfold maxLen at hpc htc
 have hp0 := hp
 obtain ⟨xA, xc, rfl, _, x1, x2, x3⟩ := hp0
 unfold maxLen at x2
 obtain ⟨w1, hw1⟩ : ∃ w1, w.alloc (.cells #[.int .u8 o.kind, .slice pA o.path.length pc, .int .i64 o.at_, .slice tA o.to.length tc, .int .u64 o.id, .bool o.leaf, .string o.label, .string o.key, .string o.value, .bool o.gone, .slice cA o.pcs.length cc] 26) = w1 := ⟨_, rfl⟩
 have hE1 : Ext w w1 := by rw [← hw1]; exact (Ext.refl w).alloc _
 have B0 : w1.cell? ⟨w.heap.size, 0, none⟩ = some (.int .u8 o.kind) := by rw [← hw1]; exact (NBox.new _ _ _).cell 0
 have B1 : w1.cell? ⟨w.heap.size, 1, none⟩ = some (.slice pA o.path.length pc) := by rw [← hw1]; exact (NBox.new _ _ _).cell 1
 have B2 : w1.cell? ⟨w.heap.size, 2, none⟩ = some (.int .i64 o.at_) := by rw [← hw1]; exact (NBox.new _ _ _).cell 2
 have B3 : w1.cell? ⟨w.heap.size, 3, none⟩ = some (.slice tA o.to.length tc) := by rw [← hw1]; exact (NBox.new _ _ _).cell 3
 have B4 : w1.cell? ⟨w.heap.size, 4, none⟩ = some (.int .u64 o.id) := by rw [← hw1]; exact (NBox.new _ _ _).cell 4
 have B5 : w1.cell? ⟨w.heap.size, 5, none⟩ = some (.bool o.leaf) := by rw [← hw1]; exact (NBox.new _ _ _).cell 5
 have B6 : w1.cell? ⟨w.heap.size, 6, none⟩ = some (.string o.label) := by rw [← hw1]; exact (NBox.new _ _ _).cell 6
 have B7 : w1.cell? ⟨w.heap.size, 7, none⟩ = some (.string o.key) := by rw [← hw1]; exact (NBox.new _ _ _).cell 7
 have B8 : w1.cell? ⟨w.heap.size, 8, none⟩ = some (.string o.value) := by rw [← hw1]; exact (NBox.new _ _ _).cell 8
 have B9 : w1.cell? ⟨w.heap.size, 9, none⟩ = some (.bool o.gone) := by rw [← hw1]; exact (NBox.new _ _ _).cell 9
 have B10 : w1.cell? ⟨w.heap.size, 10, none⟩ = some (.slice cA o.pcs.length cc) := by rw [← hw1]; exact (NBox.new _ _ _).cell 10
 have E := Ext.refl w1
 have H1 := Lib.hid hw1
 clear hw1
 have hc11 : ∀ W, Ext w1 W → Calls Try.prog 11 #[.agg #[.int .u8 o.kind, .slice pA o.path.length pc, .int .i64 o.at_, .slice tA o.to.length tc, .int .u64 o.id, .bool o.leaf, .string o.label, .string o.key, .string o.value, .bool o.gone, .slice cA o.pcs.length cc], .slice xA p.length xc] W (Ret W fun r w' => RdN W.heap.size w' (o.sh.node p) r) := fun W hW => node_any o _ _ p W (OpD.rd_ext (hE1.trans hW) h) (RdS.ext (hE1.trans hW) hp) (by omega) (by omega) (by omega)
 have hc29 : ∀ W, Ext w1 W → Calls Try.prog 29 #[.agg #[.int .u8 o.kind, .slice pA o.path.length pc, .int .i64 o.at_, .slice tA o.to.length tc, .int .u64 o.id, .bool o.leaf, .string o.label, .string o.key, .string o.value, .bool o.gone, .slice cA o.pcs.length cc]] W (Ret W fun r _ => r = .bool o.sh.moves) := fun W hW => moves_any o _ W (OpD.rd_ext (hE1.trans hW) h)
 rcases hnq : o.sh.node p with _ | q
 ·simp only [hnq, RdN] at hc11
  unfold RdG
  rw [hnq]
  clear h hP hT hC hp s1 s2 s3 hpl htl hnq hc29
  go_enter Try.func14, Try.ntmps14
  go_wp2_with (first | (rw [H1.out]; clear H1) | (go_at_call 11; refine (hc11 _ E).mono ?_; clear hc11; rintro e u4 ⟨r, rfl, rfl, hE⟩; replace E := Ext.trans E hE))
  go_ret3
  exact ⟨_, rfl, rfl, hE1.trans E⟩
 simp only [hnq, RdN] at hc11
 unfold RdG
 rw [hnq]
 clear hnq
 rcases hm : o.sh.moves with _ | _
 ·simp only [hm] at hc29
  clear h hP hT hC hp s1 s2 s3 hpl htl hm
  go_enter Try.func14, Try.ntmps14
  go_wp2_with (first | (rw [H1.out]; clear H1) | (go_at_call 11; refine (hc11 _ E).mono ?_; clear hc11; rintro e u4 ⟨r, rfl, ⟨rq, rfl, hown⟩, hE⟩; replace E := Ext.trans E hE; have D0 := E.cell B0; have D1 := E.cell B1; have D2 := E.cell B2; have D3 := E.cell B3; have D4 := E.cell B4; have D5 := E.cell B5; have D6 := E.cell B6; have D7 := E.cell B7; have D8 := E.cell B8; have D9 := E.cell B9; have D10 := E.cell B10; clear hE) | (go_at_call 29; refine (hc29 _ E).mono ?_; clear hc29; rintro e u5 ⟨r, rfl, rfl, hE⟩; replace E := Ext.trans E hE; replace hown := owns_ext hE hown; have D0 := E.cell B0; have D1 := E.cell B1; have D2 := E.cell B2; have D3 := E.cell B3; have D4 := E.cell B4; have D5 := E.cell B5; have D6 := E.cell B6; have D7 := E.cell B7; have D8 := E.cell B8; have D9 := E.cell B9; have D10 := E.cell B10; clear hE))
  go_ret3
  exact ⟨_, rfl, ⟨_, rfl, owns_mono hown hE1.size⟩, hE1.trans E⟩
 simp only [hm] at hc29
 have hkd := (moves_kind hm).1
 have hc31 : ∀ W, Ext w1 W → Calls Try.prog 31 #[.agg #[.int .u8 o.kind, .slice pA o.path.length pc, .int .i64 o.at_, .slice tA o.to.length tc, .int .u64 o.id, .bool o.leaf, .string o.label, .string o.key, .string o.value, .bool o.gone, .slice cA o.pcs.length cc]] W (Ret W fun r w' => RdC w' o r) := fun W hW => of_any o _ W (OpD.rd_ext (hE1.trans hW) h) hkd (by omega)
 clear h hP hT hC s1 s2 s3 hpl htl hkd hm
 go_enter Try.func14, Try.ntmps14
 go_wp2_with (first | (rw [H1.out]; clear H1) | (go_at_call 11; refine (hc11 _ E).mono ?_; clear hc11; rintro e u4 ⟨r, rfl, ⟨rq, rfl, hown⟩, hE⟩; replace E := Ext.trans E hE; have D0 := E.cell B0; have D1 := E.cell B1; have D2 := E.cell B2; have D3 := E.cell B3; have D4 := E.cell B4; have D5 := E.cell B5; have D6 := E.cell B6; have D7 := E.cell B7; have D8 := E.cell B8; have D9 := E.cell B9; have D10 := E.cell B10; clear hE) | (go_at_call 29; refine (hc29 _ E).mono ?_; clear hc29; rintro e u5 ⟨r, rfl, rfl, hE⟩; replace E := Ext.trans E hE; replace hown := owns_ext hE hown; have D0 := E.cell B0; have D1 := E.cell B1; have D2 := E.cell B2; have D3 := E.cell B3; have D4 := E.cell B4; have D5 := E.cell B5; have D6 := E.cell B6; have D7 := E.cell B7; have D8 := E.cell B8; have D9 := E.cell B9; have D10 := E.cell B10; clear hE))
 refine (hc31 _ E).mono ?_
 clear hc31
 rintro e u6 ⟨r, rfl, hRC, hE⟩
 replace E := Ext.trans E hE
 replace hown := owns_ext hE hown
 obtain ⟨fv, gv, f, a, rfl, hF, hG, ht⟩ := hRC
 have HF : Hid (o.sh.gapAt p at_ first = if o.sh.puts && decide (p = o.sh.goal) && (decide (o.at_ < at_) || (at_ == o.at_) && !first) then wrap64 ((if o.sh.takes && decide (a < at_) && decide (p = f) then wrap64 (at_ - 1) else at_) + 1)
   else if o.sh.takes && decide (a < at_) && decide (p = f) then wrap64 (at_ - 1) else at_) := by
  cases h : o.sh.takes with
  | false => simp [Hid, Sh.gapAt, h, sh_wr]; rfl
  | true => obtain ⟨rfl, rfl⟩ := ht h; simp only [Hid, Sh.gapAt, h, sh_wr]; rfl
 have hF0 := hF
 have hG0 := hG
 obtain ⟨fA, fc, rfl, _⟩ := hF0
 obtain ⟨gA, gc, rfl, _⟩ := hG0
 clear ht
 generalize o.sh.takes = tk at *
 generalize o.sh.puts = pu at *
 obtain ⟨w4, hw4⟩ : ∃ w4, u6.alloc (.cells #[.bool tk, .bool pu, .slice fA f.length fc, .slice gA o.sh.goal.length gc, .int .i64 a, .int .i64 o.at_] 63) = w4 := ⟨_, rfl⟩
 have E64 : Ext u6 w4 := by rw [← hw4]; exact (Ext.refl _).alloc _
 have NB : NBox w4 u6.heap.size 63 #[.bool tk, .bool pu, .slice fA f.length fc, .slice gA o.sh.goal.length gc, .int .i64 a, .int .i64 o.at_] := by rw [← hw4]; exact NBox.new _ _ _
 have C0 := NB.cell 0; have C1 := NB.cell 1; have C2 := NB.cell 2; have C3 := NB.cell 3; have C4 := NB.cell 4; have C5 := NB.cell 5
 replace hown := owns_ext E64 hown
 have E0 := hE1.trans (E.trans E64)
 have hc1 : ∀ W, Ext w4 W → Calls Try.prog 40 #[.slice xA p.length xc, .slice fA f.length fc] W (Ret W fun r _ => r = .bool (decide (p = f))) := fun W hW => pathSame_any _ _ _ _ _ (RdS.ext (E0.trans hW) hp) (RdS.ext (E64.trans hW) hF)
 have hc2 : ∀ W, Ext w4 W → Calls Try.prog 40 #[.slice xA p.length xc, .slice gA o.sh.goal.length gc] W (Ret W fun r _ => r = .bool (decide (p = o.sh.goal))) := fun W hW => pathSame_any _ _ _ _ _ (RdS.ext (E0.trans hW) hp) (RdS.ext (E64.trans hW) hG)
 have H4 := Lib.hid hw4
 have E4 := Ext.refl w4
 clear hw4 hE hF hG hp E64 E
 generalize decide (p = f) = s1 at *
 generalize decide (p = o.sh.goal) = s2 at *
 rcases tk with _ | _
 ·clear hc1
  rcases pu with _ | _
  ·clear hc2
   go_wp2_with (first | (rw [H4.out]; clear H4))
   go_ret3
   exact ⟨_, rfl, ⟨_, by rw [HF.out]; rfl, owns_mono hown hE1.size⟩, E0.trans E4⟩
  rcases s2 with _ | _
  ·go_wp2_with (first | (rw [H4.out]; clear H4) | (go_at_call 40; refine (hc2 _ E4).mono ?_; clear hc2; rintro e u7 ⟨r, rfl, rfl, hE⟩; replace E4 := Ext.trans E4 hE; replace NB := NB.ext hE; replace hown := owns_ext hE hown; replace C0 := NB.cell 0; replace C1 := NB.cell 1; replace C2 := NB.cell 2; replace C3 := NB.cell 3; replace C4 := NB.cell 4; replace C5 := NB.cell 5; clear hE))
   go_ret3
   exact ⟨_, rfl, ⟨_, by rw [HF.out]; rfl, owns_mono hown hE1.size⟩, E0.trans E4⟩
  rcases Int.lt_trichotomy at_ o.at_ with hg | hg | hg
  ·have g1 : decide (o.at_ < at_) = false := decide_eq_false (by omega)
   have g2 : (at_ == o.at_) = false := by rw [beq_eq_false_iff_ne]; omega
   go_wp2_with (first | (rw [H4.out]; clear H4) | (go_at_call 40; refine (hc2 _ E4).mono ?_; clear hc2; rintro e u7 ⟨r, rfl, rfl, hE⟩; replace E4 := Ext.trans E4 hE; replace NB := NB.ext hE; replace hown := owns_ext hE hown; replace C0 := NB.cell 0; replace C1 := NB.cell 1; replace C2 := NB.cell 2; replace C3 := NB.cell 3; replace C4 := NB.cell 4; replace C5 := NB.cell 5; clear hE))
   go_ret3
   exact ⟨_, rfl, ⟨_, by rw [HF.out, g1, g2]; rfl, owns_mono hown hE1.size⟩, E0.trans E4⟩
  ·have g1 : decide (o.at_ < at_) = false := decide_eq_false (by omega)
   have g2 : (at_ == o.at_) = true := by rw [beq_iff_eq]; exact hg
   clear hg
   rcases first with _ | _
   ·go_wp2_with (first | (rw [H4.out]; clear H4) | (go_at_call 40; refine (hc2 _ E4).mono ?_; clear hc2; rintro e u7 ⟨r, rfl, rfl, hE⟩; replace E4 := Ext.trans E4 hE; replace NB := NB.ext hE; replace hown := owns_ext hE hown; replace C0 := NB.cell 0; replace C1 := NB.cell 1; replace C2 := NB.cell 2; replace C3 := NB.cell 3; replace C4 := NB.cell 4; replace C5 := NB.cell 5; clear hE))
    go_ret3
    exact ⟨_, rfl, ⟨_, by rw [HF.out, g1, g2]; rfl, owns_mono hown hE1.size⟩, E0.trans E4⟩
   ·go_wp2_with (first | (rw [H4.out]; clear H4) | (go_at_call 40; refine (hc2 _ E4).mono ?_; clear hc2; rintro e u7 ⟨r, rfl, rfl, hE⟩; replace E4 := Ext.trans E4 hE; replace NB := NB.ext hE; replace hown := owns_ext hE hown; replace C0 := NB.cell 0; replace C1 := NB.cell 1; replace C2 := NB.cell 2; replace C3 := NB.cell 3; replace C4 := NB.cell 4; replace C5 := NB.cell 5; clear hE))
    go_ret3
    exact ⟨_, rfl, ⟨_, by rw [HF.out, g1, g2]; rfl, owns_mono hown hE1.size⟩, E0.trans E4⟩
  ·have g1 : decide (o.at_ < at_) = true := decide_eq_true hg
   go_wp2_with (first | (rw [H4.out]; clear H4) | (go_at_call 40; refine (hc2 _ E4).mono ?_; clear hc2; rintro e u7 ⟨r, rfl, rfl, hE⟩; replace E4 := Ext.trans E4 hE; replace NB := NB.ext hE; replace hown := owns_ext hE hown; replace C0 := NB.cell 0; replace C1 := NB.cell 1; replace C2 := NB.cell 2; replace C3 := NB.cell 3; replace C4 := NB.cell 4; replace C5 := NB.cell 5; clear hE))
   go_ret3
   exact ⟨_, rfl, ⟨_, by rw [HF.out, g1]; rfl, owns_mono hown hE1.size⟩, E0.trans E4⟩
 rcases Int.lt_or_le a at_ with ha | ha
 ·have a1 : decide (a < at_) = true := decide_eq_true ha
  rcases s1 with _ | _
  ·rcases pu with _ | _
   ·clear hc2
    go_wp2_with (first | (rw [H4.out]; clear H4) | (go_at_call 40; refine (hc1 _ E4).mono ?_; clear hc1; rintro e u7 ⟨r, rfl, rfl, hE⟩; replace E4 := Ext.trans E4 hE; replace NB := NB.ext hE; replace hown := owns_ext hE hown; replace C0 := NB.cell 0; replace C1 := NB.cell 1; replace C2 := NB.cell 2; replace C3 := NB.cell 3; replace C4 := NB.cell 4; replace C5 := NB.cell 5; clear hE))
    go_ret3
    exact ⟨_, rfl, ⟨_, by rw [HF.out, a1]; rfl, owns_mono hown hE1.size⟩, E0.trans E4⟩
   rcases s2 with _ | _
   ·go_wp2_with (first | (rw [H4.out]; clear H4) | (go_at_call 40; refine (hc1 _ E4).mono ?_; clear hc1; rintro e u7 ⟨r, rfl, rfl, hE⟩; replace E4 := Ext.trans E4 hE; replace NB := NB.ext hE; replace hown := owns_ext hE hown; replace C0 := NB.cell 0; replace C1 := NB.cell 1; replace C2 := NB.cell 2; replace C3 := NB.cell 3; replace C4 := NB.cell 4; replace C5 := NB.cell 5; clear hE) | (go_at_call 40; refine (hc2 _ E4).mono ?_; clear hc2; rintro e u7 ⟨r, rfl, rfl, hE⟩; replace E4 := Ext.trans E4 hE; replace NB := NB.ext hE; replace hown := owns_ext hE hown; replace C0 := NB.cell 0; replace C1 := NB.cell 1; replace C2 := NB.cell 2; replace C3 := NB.cell 3; replace C4 := NB.cell 4; replace C5 := NB.cell 5; clear hE))
    go_ret3
    exact ⟨_, rfl, ⟨_, by rw [HF.out, a1]; rfl, owns_mono hown hE1.size⟩, E0.trans E4⟩
   rcases Int.lt_trichotomy at_ o.at_ with hg | hg | hg
   ·have g1 : decide (o.at_ < at_) = false := decide_eq_false (by omega)
    have g2 : (at_ == o.at_) = false := by rw [beq_eq_false_iff_ne]; omega
    go_wp2_with (first | (rw [H4.out]; clear H4) | (go_at_call 40; refine (hc1 _ E4).mono ?_; clear hc1; rintro e u7 ⟨r, rfl, rfl, hE⟩; replace E4 := Ext.trans E4 hE; replace NB := NB.ext hE; replace hown := owns_ext hE hown; replace C0 := NB.cell 0; replace C1 := NB.cell 1; replace C2 := NB.cell 2; replace C3 := NB.cell 3; replace C4 := NB.cell 4; replace C5 := NB.cell 5; clear hE) | (go_at_call 40; refine (hc2 _ E4).mono ?_; clear hc2; rintro e u7 ⟨r, rfl, rfl, hE⟩; replace E4 := Ext.trans E4 hE; replace NB := NB.ext hE; replace hown := owns_ext hE hown; replace C0 := NB.cell 0; replace C1 := NB.cell 1; replace C2 := NB.cell 2; replace C3 := NB.cell 3; replace C4 := NB.cell 4; replace C5 := NB.cell 5; clear hE))
    go_ret3
    exact ⟨_, rfl, ⟨_, by rw [HF.out, a1, g1, g2]; rfl, owns_mono hown hE1.size⟩, E0.trans E4⟩
   ·have g1 : decide (o.at_ < at_) = false := decide_eq_false (by omega)
    have g2 : (at_ == o.at_) = true := by rw [beq_iff_eq]; exact hg
    clear hg
    rcases first with _ | _
    ·go_wp2_with (first | (rw [H4.out]; clear H4) | (go_at_call 40; refine (hc1 _ E4).mono ?_; clear hc1; rintro e u7 ⟨r, rfl, rfl, hE⟩; replace E4 := Ext.trans E4 hE; replace NB := NB.ext hE; replace hown := owns_ext hE hown; replace C0 := NB.cell 0; replace C1 := NB.cell 1; replace C2 := NB.cell 2; replace C3 := NB.cell 3; replace C4 := NB.cell 4; replace C5 := NB.cell 5; clear hE) | (go_at_call 40; refine (hc2 _ E4).mono ?_; clear hc2; rintro e u7 ⟨r, rfl, rfl, hE⟩; replace E4 := Ext.trans E4 hE; replace NB := NB.ext hE; replace hown := owns_ext hE hown; replace C0 := NB.cell 0; replace C1 := NB.cell 1; replace C2 := NB.cell 2; replace C3 := NB.cell 3; replace C4 := NB.cell 4; replace C5 := NB.cell 5; clear hE))
     go_ret3
     exact ⟨_, rfl, ⟨_, by rw [HF.out, a1, g1, g2]; rfl, owns_mono hown hE1.size⟩, E0.trans E4⟩
    ·go_wp2_with (first | (rw [H4.out]; clear H4) | (go_at_call 40; refine (hc1 _ E4).mono ?_; clear hc1; rintro e u7 ⟨r, rfl, rfl, hE⟩; replace E4 := Ext.trans E4 hE; replace NB := NB.ext hE; replace hown := owns_ext hE hown; replace C0 := NB.cell 0; replace C1 := NB.cell 1; replace C2 := NB.cell 2; replace C3 := NB.cell 3; replace C4 := NB.cell 4; replace C5 := NB.cell 5; clear hE) | (go_at_call 40; refine (hc2 _ E4).mono ?_; clear hc2; rintro e u7 ⟨r, rfl, rfl, hE⟩; replace E4 := Ext.trans E4 hE; replace NB := NB.ext hE; replace hown := owns_ext hE hown; replace C0 := NB.cell 0; replace C1 := NB.cell 1; replace C2 := NB.cell 2; replace C3 := NB.cell 3; replace C4 := NB.cell 4; replace C5 := NB.cell 5; clear hE))
     go_ret3
     exact ⟨_, rfl, ⟨_, by rw [HF.out, a1, g1, g2]; rfl, owns_mono hown hE1.size⟩, E0.trans E4⟩
   ·have g1 : decide (o.at_ < at_) = true := decide_eq_true hg
    go_wp2_with (first | (rw [H4.out]; clear H4) | (go_at_call 40; refine (hc1 _ E4).mono ?_; clear hc1; rintro e u7 ⟨r, rfl, rfl, hE⟩; replace E4 := Ext.trans E4 hE; replace NB := NB.ext hE; replace hown := owns_ext hE hown; replace C0 := NB.cell 0; replace C1 := NB.cell 1; replace C2 := NB.cell 2; replace C3 := NB.cell 3; replace C4 := NB.cell 4; replace C5 := NB.cell 5; clear hE) | (go_at_call 40; refine (hc2 _ E4).mono ?_; clear hc2; rintro e u7 ⟨r, rfl, rfl, hE⟩; replace E4 := Ext.trans E4 hE; replace NB := NB.ext hE; replace hown := owns_ext hE hown; replace C0 := NB.cell 0; replace C1 := NB.cell 1; replace C2 := NB.cell 2; replace C3 := NB.cell 3; replace C4 := NB.cell 4; replace C5 := NB.cell 5; clear hE))
    go_ret3
    exact ⟨_, rfl, ⟨_, by rw [HF.out, a1, g1]; rfl, owns_mono hown hE1.size⟩, E0.trans E4⟩
  ·rcases pu with _ | _
   ·clear hc2
    go_wp2_with (first | (rw [H4.out]; clear H4) | (go_at_call 40; refine (hc1 _ E4).mono ?_; clear hc1; rintro e u7 ⟨r, rfl, rfl, hE⟩; replace E4 := Ext.trans E4 hE; replace NB := NB.ext hE; replace hown := owns_ext hE hown; replace C0 := NB.cell 0; replace C1 := NB.cell 1; replace C2 := NB.cell 2; replace C3 := NB.cell 3; replace C4 := NB.cell 4; replace C5 := NB.cell 5; clear hE))
    go_ret3
    exact ⟨_, rfl, ⟨_, by rw [HF.out, a1]; rfl, owns_mono hown hE1.size⟩, E0.trans E4⟩
   rcases s2 with _ | _
   ·go_wp2_with (first | (rw [H4.out]; clear H4) | (go_at_call 40; refine (hc1 _ E4).mono ?_; clear hc1; rintro e u7 ⟨r, rfl, rfl, hE⟩; replace E4 := Ext.trans E4 hE; replace NB := NB.ext hE; replace hown := owns_ext hE hown; replace C0 := NB.cell 0; replace C1 := NB.cell 1; replace C2 := NB.cell 2; replace C3 := NB.cell 3; replace C4 := NB.cell 4; replace C5 := NB.cell 5; clear hE) | (go_at_call 40; refine (hc2 _ E4).mono ?_; clear hc2; rintro e u7 ⟨r, rfl, rfl, hE⟩; replace E4 := Ext.trans E4 hE; replace NB := NB.ext hE; replace hown := owns_ext hE hown; replace C0 := NB.cell 0; replace C1 := NB.cell 1; replace C2 := NB.cell 2; replace C3 := NB.cell 3; replace C4 := NB.cell 4; replace C5 := NB.cell 5; clear hE))
    go_ret3
    exact ⟨_, rfl, ⟨_, by rw [HF.out, a1]; rfl, owns_mono hown hE1.size⟩, E0.trans E4⟩
   rcases Int.lt_trichotomy at_ o.at_ with hg | hg | hg
   ·have g1 : decide (o.at_ < at_) = false := decide_eq_false (by omega)
    have g2 : (at_ == o.at_) = false := by rw [beq_eq_false_iff_ne]; omega
    go_wp2_with (first | (rw [H4.out]; clear H4) | (go_at_call 40; refine (hc1 _ E4).mono ?_; clear hc1; rintro e u7 ⟨r, rfl, rfl, hE⟩; replace E4 := Ext.trans E4 hE; replace NB := NB.ext hE; replace hown := owns_ext hE hown; replace C0 := NB.cell 0; replace C1 := NB.cell 1; replace C2 := NB.cell 2; replace C3 := NB.cell 3; replace C4 := NB.cell 4; replace C5 := NB.cell 5; clear hE) | (go_at_call 40; refine (hc2 _ E4).mono ?_; clear hc2; rintro e u7 ⟨r, rfl, rfl, hE⟩; replace E4 := Ext.trans E4 hE; replace NB := NB.ext hE; replace hown := owns_ext hE hown; replace C0 := NB.cell 0; replace C1 := NB.cell 1; replace C2 := NB.cell 2; replace C3 := NB.cell 3; replace C4 := NB.cell 4; replace C5 := NB.cell 5; clear hE))
    go_ret3
    exact ⟨_, rfl, ⟨_, by rw [HF.out, a1, g1, g2]; rfl, owns_mono hown hE1.size⟩, E0.trans E4⟩
   ·have g1 : decide (o.at_ < at_) = false := decide_eq_false (by omega)
    have g2 : (at_ == o.at_) = true := by rw [beq_iff_eq]; exact hg
    clear hg
    rcases first with _ | _
    ·go_wp2_with (first | (rw [H4.out]; clear H4) | (go_at_call 40; refine (hc1 _ E4).mono ?_; clear hc1; rintro e u7 ⟨r, rfl, rfl, hE⟩; replace E4 := Ext.trans E4 hE; replace NB := NB.ext hE; replace hown := owns_ext hE hown; replace C0 := NB.cell 0; replace C1 := NB.cell 1; replace C2 := NB.cell 2; replace C3 := NB.cell 3; replace C4 := NB.cell 4; replace C5 := NB.cell 5; clear hE) | (go_at_call 40; refine (hc2 _ E4).mono ?_; clear hc2; rintro e u7 ⟨r, rfl, rfl, hE⟩; replace E4 := Ext.trans E4 hE; replace NB := NB.ext hE; replace hown := owns_ext hE hown; replace C0 := NB.cell 0; replace C1 := NB.cell 1; replace C2 := NB.cell 2; replace C3 := NB.cell 3; replace C4 := NB.cell 4; replace C5 := NB.cell 5; clear hE))
     go_ret3
     exact ⟨_, rfl, ⟨_, by rw [HF.out, a1, g1, g2]; rfl, owns_mono hown hE1.size⟩, E0.trans E4⟩
    ·go_wp2_with (first | (rw [H4.out]; clear H4) | (go_at_call 40; refine (hc1 _ E4).mono ?_; clear hc1; rintro e u7 ⟨r, rfl, rfl, hE⟩; replace E4 := Ext.trans E4 hE; replace NB := NB.ext hE; replace hown := owns_ext hE hown; replace C0 := NB.cell 0; replace C1 := NB.cell 1; replace C2 := NB.cell 2; replace C3 := NB.cell 3; replace C4 := NB.cell 4; replace C5 := NB.cell 5; clear hE) | (go_at_call 40; refine (hc2 _ E4).mono ?_; clear hc2; rintro e u7 ⟨r, rfl, rfl, hE⟩; replace E4 := Ext.trans E4 hE; replace NB := NB.ext hE; replace hown := owns_ext hE hown; replace C0 := NB.cell 0; replace C1 := NB.cell 1; replace C2 := NB.cell 2; replace C3 := NB.cell 3; replace C4 := NB.cell 4; replace C5 := NB.cell 5; clear hE))
     go_ret3
     exact ⟨_, rfl, ⟨_, by rw [HF.out, a1, g1, g2]; rfl, owns_mono hown hE1.size⟩, E0.trans E4⟩
   ·have g1 : decide (o.at_ < at_) = true := decide_eq_true hg
    go_wp2_with (first | (rw [H4.out]; clear H4) | (go_at_call 40; refine (hc1 _ E4).mono ?_; clear hc1; rintro e u7 ⟨r, rfl, rfl, hE⟩; replace E4 := Ext.trans E4 hE; replace NB := NB.ext hE; replace hown := owns_ext hE hown; replace C0 := NB.cell 0; replace C1 := NB.cell 1; replace C2 := NB.cell 2; replace C3 := NB.cell 3; replace C4 := NB.cell 4; replace C5 := NB.cell 5; clear hE) | (go_at_call 40; refine (hc2 _ E4).mono ?_; clear hc2; rintro e u7 ⟨r, rfl, rfl, hE⟩; replace E4 := Ext.trans E4 hE; replace NB := NB.ext hE; replace hown := owns_ext hE hown; replace C0 := NB.cell 0; replace C1 := NB.cell 1; replace C2 := NB.cell 2; replace C3 := NB.cell 3; replace C4 := NB.cell 4; replace C5 := NB.cell 5; clear hE))
    go_ret3
    exact ⟨_, rfl, ⟨_, by rw [HF.out, a1, g1]; rfl, owns_mono hown hE1.size⟩, E0.trans E4⟩
 have a1 : decide (a < at_) = false := decide_eq_false (by omega)
 clear hc1
 rcases pu with _ | _
 ·clear hc2
  go_wp2_with (first | (rw [H4.out]; clear H4))
  go_ret3
  exact ⟨_, rfl, ⟨_, by rw [HF.out, a1]; rfl, owns_mono hown hE1.size⟩, E0.trans E4⟩
 rcases s2 with _ | _
 ·go_wp2_with (first | (rw [H4.out]; clear H4) | (go_at_call 40; refine (hc2 _ E4).mono ?_; clear hc2; rintro e u7 ⟨r, rfl, rfl, hE⟩; replace E4 := Ext.trans E4 hE; replace NB := NB.ext hE; replace hown := owns_ext hE hown; replace C0 := NB.cell 0; replace C1 := NB.cell 1; replace C2 := NB.cell 2; replace C3 := NB.cell 3; replace C4 := NB.cell 4; replace C5 := NB.cell 5; clear hE))
  go_ret3
  exact ⟨_, rfl, ⟨_, by rw [HF.out, a1]; rfl, owns_mono hown hE1.size⟩, E0.trans E4⟩
 rcases Int.lt_trichotomy at_ o.at_ with hg | hg | hg
 ·have g1 : decide (o.at_ < at_) = false := decide_eq_false (by omega)
  have g2 : (at_ == o.at_) = false := by rw [beq_eq_false_iff_ne]; omega
  go_wp2_with (first | (rw [H4.out]; clear H4) | (go_at_call 40; refine (hc2 _ E4).mono ?_; clear hc2; rintro e u7 ⟨r, rfl, rfl, hE⟩; replace E4 := Ext.trans E4 hE; replace NB := NB.ext hE; replace hown := owns_ext hE hown; replace C0 := NB.cell 0; replace C1 := NB.cell 1; replace C2 := NB.cell 2; replace C3 := NB.cell 3; replace C4 := NB.cell 4; replace C5 := NB.cell 5; clear hE))
  go_ret3
  exact ⟨_, rfl, ⟨_, by rw [HF.out, a1, g1, g2]; rfl, owns_mono hown hE1.size⟩, E0.trans E4⟩
 ·have g1 : decide (o.at_ < at_) = false := decide_eq_false (by omega)
  have g2 : (at_ == o.at_) = true := by rw [beq_iff_eq]; exact hg
  clear hg
  rcases first with _ | _
  ·go_wp2_with (first | (rw [H4.out]; clear H4) | (go_at_call 40; refine (hc2 _ E4).mono ?_; clear hc2; rintro e u7 ⟨r, rfl, rfl, hE⟩; replace E4 := Ext.trans E4 hE; replace NB := NB.ext hE; replace hown := owns_ext hE hown; replace C0 := NB.cell 0; replace C1 := NB.cell 1; replace C2 := NB.cell 2; replace C3 := NB.cell 3; replace C4 := NB.cell 4; replace C5 := NB.cell 5; clear hE))
   go_ret3
   exact ⟨_, rfl, ⟨_, by rw [HF.out, a1, g1, g2]; rfl, owns_mono hown hE1.size⟩, E0.trans E4⟩
  ·go_wp2_with (first | (rw [H4.out]; clear H4) | (go_at_call 40; refine (hc2 _ E4).mono ?_; clear hc2; rintro e u7 ⟨r, rfl, rfl, hE⟩; replace E4 := Ext.trans E4 hE; replace NB := NB.ext hE; replace hown := owns_ext hE hown; replace C0 := NB.cell 0; replace C1 := NB.cell 1; replace C2 := NB.cell 2; replace C3 := NB.cell 3; replace C4 := NB.cell 4; replace C5 := NB.cell 5; clear hE))
   go_ret3
   exact ⟨_, rfl, ⟨_, by rw [HF.out, a1, g1, g2]; rfl, owns_mono hown hE1.size⟩, E0.trans E4⟩
 ·have g1 : decide (o.at_ < at_) = true := decide_eq_true hg
  go_wp2_with (first | (rw [H4.out]; clear H4) | (go_at_call 40; refine (hc2 _ E4).mono ?_; clear hc2; rintro e u7 ⟨r, rfl, rfl, hE⟩; replace E4 := Ext.trans E4 hE; replace NB := NB.ext hE; replace hown := owns_ext hE hown; replace C0 := NB.cell 0; replace C1 := NB.cell 1; replace C2 := NB.cell 2; replace C3 := NB.cell 3; replace C4 := NB.cell 4; replace C5 := NB.cell 5; clear hE))
  go_ret3
  exact ⟨_, rfl, ⟨_, by rw [HF.out, a1, g1]; rfl, owns_mono hown hE1.size⟩, E0.trans E4⟩
end Go.Proofs.Ytdnjkffmgmbfmaa.Bs
namespace Go.Proofs.Ytdnjkffmgmbfmaa.Bs
open Go.RowKit Go.Proofs.Ytdnjkffmgmbfmaa.Bw

end Go.Proofs.Ytdnjkffmgmbfmaa.Bs
