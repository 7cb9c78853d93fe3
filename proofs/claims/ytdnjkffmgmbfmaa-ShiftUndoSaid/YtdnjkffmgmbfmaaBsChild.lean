/- Chapter 11: the document's number of a child. -/
import Derived.Test.YtdnjkffmgmbfmaaBsNum
namespace Go.Proofs.Ytdnjkffmgmbfmaa.Bs
open Go.RowKit Go.Proofs.Ytdnjkffmgmbfmaa.Bw

set_option maxRecDepth 100000 in
set_option maxHeartbeats 4000000 in
theorem child_1 (o : OpD) (v pv : Value) (p : List Int) (k : Int) (w : World) (h : o.rd w v) (hp : RdI w p pv) (hk : o.kind = 1) : Calls Try.prog 39 #[v, pv, .int .i64 k] w (Ret w fun r _ => ∃ n b, r = .tuple #[.int .i64 n, .bool b] ∧ o.sh.child p k = if b then some n else none) := by
  obtain ⟨pv, tv, cv, rfl, hP, hT, hC, s1, s2, s3⟩ := h
  have h : o.rd w (.agg #[.int .u8 o.kind, pv, .int .i64 o.at_, tv, .int .u64 o.id, .bool o.leaf, .string o.label, .string o.key, .string o.value, .bool o.gone, cv]) := ⟨pv, tv, cv, rfl, hP, hT, hC, s1, s2, s3⟩
  have hP0 := hP
  have hT0 := hT
  have hC0 := hC
  obtain ⟨pA, pc, rfl, _, _, hpc, _⟩ := hP0
  obtain ⟨tA, tc, rfl, _, _, htc, _⟩ := hT0
  obtain ⟨cA, cc, rfl, _⟩ := hC0
  have hpl : o.path.length ≤ pc := by obtain ⟨_, _, e, _, h1, _⟩ := hP; simp only [Value.slice.injEq] at e; omega
  have htl : o.to.length ≤ tc := by obtain ⟨_, _, e, _, h1, _⟩ := hT; simp only [Value.slice.injEq] at e; omega
  unfold maxLen at hpc htc
  have hp0 := hp
  obtain ⟨xA, xc, rfl, _⟩ := hp0
  obtain ⟨w1, hw1⟩ : ∃ w1, w.alloc (.cells #[.int .u8 o.kind, .slice pA o.path.length pc, .int .i64 o.at_, .slice tA o.to.length tc, .int .u64 o.id, .bool o.leaf, .string o.label, .string o.key, .string o.value, .bool o.gone, .slice cA o.pcs.length cc] 26) = w1 := ⟨_, rfl⟩
  have hE1 : Ext w w1 := by rw [← hw1]; exact (Ext.refl w).alloc _
  have B0 : w1.cell? ⟨w.heap.size, 0, none⟩ = some (.int .u8 o.kind) := by rw [← hw1]; exact (NBox.new _ _ _).cell 0
  have B1 : w1.cell? ⟨w.heap.size, 1, none⟩ = some (.slice pA o.path.length pc) := by rw [← hw1]; exact (NBox.new _ _ _).cell 1
  have B2 : w1.cell? ⟨w.heap.size, 2, none⟩ = some (.int .i64 o.at_) := by rw [← hw1]; exact (NBox.new _ _ _).cell 2
  have B3 : w1.cell? ⟨w.heap.size, 3, none⟩ = some (.slice tA o.to.length tc) := by rw [← hw1]; exact (NBox.new _ _ _).cell 3
  have B4 : w1.cell? ⟨w.heap.size, 4, none⟩ = some (.int .u64 o.id) := by rw [← hw1]; exact (NBox.new _ _ _).cell 4
  have B5 : w1.cell? ⟨w.heap.size, 5, none⟩ = some (.bool o.leaf) := by rw [← hw1]; exact (NBox.new _ _ _).cell 5
  have B6 : w1.cell? ⟨w.heap.size, 6, none⟩ = some (.string o.label) := by rw [← hw1]; exact (NBox.new _ _ _).cell 6
  have B7 : w1.cell? ⟨w.heap.size, 7, none⟩ = some (.string o.key) := by rw [← hw1]; exact (NBox.new _ _ _).cell 7
  have B8 : w1.cell? ⟨w.heap.size, 8, none⟩ = some (.string o.value) := by rw [← hw1]; exact (NBox.new _ _ _).cell 8
  have B9 : w1.cell? ⟨w.heap.size, 9, none⟩ = some (.bool o.gone) := by rw [← hw1]; exact (NBox.new _ _ _).cell 9
  have B10 : w1.cell? ⟨w.heap.size, 10, none⟩ = some (.slice cA o.pcs.length cc) := by rw [← hw1]; exact (NBox.new _ _ _).cell 10
  have E := Ext.refl w1
  have H1 := Lib.hid hw1
  clear hw1
  have k1 : (o.kind == 1) = true := by rw [hk]; rfl
  have k2 : (o.kind == 2) = false := by rw [hk]; rfl
  have k3 : (o.kind == 3) = false := by rw [hk]; rfl
  have HF : Hid (o.sh.child p k = if decide (p = o.path) && decide (o.at_ ≤ k) then some (wrap64 (k + 1)) else some k) := by
    have hk' : o.sh.kind = 1 := hk
    simp only [Hid, Sh.child, hk', if_true, Bool.and_eq_true, decide_eq_true_eq, sh_wr]; rfl
  have hc1 : ∀ W, Ext w1 W → Calls Try.prog 37 #[.slice xA p.length xc, .slice pA o.path.length pc] W (Ret W fun r _ => r = .bool (decide (p = o.path))) := fun W hW => sameR_any _ _ _ _ _ (RdS.ext (hE1.trans hW) hp) (RdS.ext (hE1.trans hW) hP)
  clear h hP hT hC hp s1 s2 s3 hpl htl hk
  generalize decide (p = o.path) = s1 at *
  rcases s1 with _ | _
  · go_enter Try.func39, Try.ntmps39
    go_wp2_with (first | (rw [H1.out]; clear H1) | (go_at_call 37; refine (hc1 _ E).mono ?_; clear hc1; rintro e u ⟨r, rfl, rfl, hE⟩; replace E := Ext.trans E hE; clear hE; have B0' := E.cell B0; have B1' := E.cell B1; have B2' := E.cell B2; have B3' := E.cell B3))
    go_ret2
    exact ⟨_, rfl, ⟨_, _, rfl, by rw [HF.out]; rfl⟩, hE1.trans E⟩
  rcases Int.lt_or_le k o.at_ with hg | hg
  · have g1 : decide (o.at_ ≤ k) = false := decide_eq_false (by omega)
    go_enter Try.func39, Try.ntmps39
    go_wp2_with (first | (rw [H1.out]; clear H1) | (go_at_call 37; refine (hc1 _ E).mono ?_; clear hc1; rintro e u ⟨r, rfl, rfl, hE⟩; replace E := Ext.trans E hE; clear hE; have B0' := E.cell B0; have B1' := E.cell B1; have B2' := E.cell B2; have B3' := E.cell B3))
    go_ret2
    exact ⟨_, rfl, ⟨_, _, rfl, by rw [HF.out, g1]; rfl⟩, hE1.trans E⟩
  · have g1 : decide (o.at_ ≤ k) = true := decide_eq_true hg
    go_enter Try.func39, Try.ntmps39
    go_wp2_with (first | (rw [H1.out]; clear H1) | (go_at_call 37; refine (hc1 _ E).mono ?_; clear hc1; rintro e u ⟨r, rfl, rfl, hE⟩; replace E := Ext.trans E hE; clear hE; have B0' := E.cell B0; have B1' := E.cell B1; have B2' := E.cell B2; have B3' := E.cell B3))
    go_ret2
    exact ⟨_, rfl, ⟨_, _, rfl, by rw [HF.out, g1]; rfl⟩, hE1.trans E⟩

set_option maxRecDepth 100000 in
set_option maxHeartbeats 4000000 in
theorem child_2 (o : OpD) (v pv : Value) (p : List Int) (k : Int) (w : World) (h : o.rd w v) (hp : RdI w p pv) (hk : o.kind = 2) (hne : o.path ≠ []) : Calls Try.prog 39 #[v, pv, .int .i64 k] w (Ret w fun r _ => ∃ n b, r = .tuple #[.int .i64 n, .bool b] ∧ o.sh.child p k = if b then some n else none) := by
  obtain ⟨pv, tv, cv, rfl, hP, hT, hC, s1, s2, s3⟩ := h
  have h : o.rd w (.agg #[.int .u8 o.kind, pv, .int .i64 o.at_, tv, .int .u64 o.id, .bool o.leaf, .string o.label, .string o.key, .string o.value, .bool o.gone, cv]) := ⟨pv, tv, cv, rfl, hP, hT, hC, s1, s2, s3⟩
  have hP0 := hP
  have hT0 := hT
  have hC0 := hC
  obtain ⟨pA, pc, rfl, _, _, hpc, _⟩ := hP0
  obtain ⟨tA, tc, rfl, _, _, htc, _⟩ := hT0
  obtain ⟨cA, cc, rfl, _⟩ := hC0
  have hpl : o.path.length ≤ pc := by obtain ⟨_, _, e, _, h1, _⟩ := hP; simp only [Value.slice.injEq] at e; omega
  have htl : o.to.length ≤ tc := by obtain ⟨_, _, e, _, h1, _⟩ := hT; simp only [Value.slice.injEq] at e; omega
  unfold maxLen at hpc htc
  have hp0 := hp
  obtain ⟨xA, xc, rfl, _⟩ := hp0
  obtain ⟨w1, hw1⟩ : ∃ w1, w.alloc (.cells #[.int .u8 o.kind, .slice pA o.path.length pc, .int .i64 o.at_, .slice tA o.to.length tc, .int .u64 o.id, .bool o.leaf, .string o.label, .string o.key, .string o.value, .bool o.gone, .slice cA o.pcs.length cc] 26) = w1 := ⟨_, rfl⟩
  have hE1 : Ext w w1 := by rw [← hw1]; exact (Ext.refl w).alloc _
  have B0 : w1.cell? ⟨w.heap.size, 0, none⟩ = some (.int .u8 o.kind) := by rw [← hw1]; exact (NBox.new _ _ _).cell 0
  have B1 : w1.cell? ⟨w.heap.size, 1, none⟩ = some (.slice pA o.path.length pc) := by rw [← hw1]; exact (NBox.new _ _ _).cell 1
  have B2 : w1.cell? ⟨w.heap.size, 2, none⟩ = some (.int .i64 o.at_) := by rw [← hw1]; exact (NBox.new _ _ _).cell 2
  have B3 : w1.cell? ⟨w.heap.size, 3, none⟩ = some (.slice tA o.to.length tc) := by rw [← hw1]; exact (NBox.new _ _ _).cell 3
  have B4 : w1.cell? ⟨w.heap.size, 4, none⟩ = some (.int .u64 o.id) := by rw [← hw1]; exact (NBox.new _ _ _).cell 4
  have B5 : w1.cell? ⟨w.heap.size, 5, none⟩ = some (.bool o.leaf) := by rw [← hw1]; exact (NBox.new _ _ _).cell 5
  have B6 : w1.cell? ⟨w.heap.size, 6, none⟩ = some (.string o.label) := by rw [← hw1]; exact (NBox.new _ _ _).cell 6
  have B7 : w1.cell? ⟨w.heap.size, 7, none⟩ = some (.string o.key) := by rw [← hw1]; exact (NBox.new _ _ _).cell 7
  have B8 : w1.cell? ⟨w.heap.size, 8, none⟩ = some (.string o.value) := by rw [← hw1]; exact (NBox.new _ _ _).cell 8
  have B9 : w1.cell? ⟨w.heap.size, 9, none⟩ = some (.bool o.gone) := by rw [← hw1]; exact (NBox.new _ _ _).cell 9
  have B10 : w1.cell? ⟨w.heap.size, 10, none⟩ = some (.slice cA o.pcs.length cc) := by rw [← hw1]; exact (NBox.new _ _ _).cell 10
  have E := Ext.refl w1
  have H1 := Lib.hid hw1
  clear hw1
  have k1 : (o.kind == 1) = false := by rw [hk]; rfl
  have k2 : (o.kind == 2) = true := by rw [hk]; rfl
  have k3 : (o.kind == 3) = false := by rw [hk]; rfl
  have HF : Hid (o.sh.child p k = if decide (p = o.sh.from_) && decide (k = lastN o.path) then none else if false then some (wrap64 ((if decide (p = o.sh.from_) && decide (lastN o.path < k) then wrap64 (k - 1) else k) + 1))
      else some (if decide (p = o.sh.from_) && decide (lastN o.path < k) then wrap64 (k - 1) else k)) := by
    have hk' : o.sh.kind = 2 := hk
    simp only [Hid, Sh.child, hk', Bool.and_eq_true, decide_eq_true_eq, sh_wr, if_neg (show ¬ ((2 : Int) = 1) by decide), if_neg (fun h : (2 : Int) = 3 ∧ p = o.sh.to ∧ o.sh.gap ≤ k => absurd h.1 (by decide)), if_neg (Bool.false_ne_true)]; rfl
  have hc36 : ∀ W, Ext w1 W → Calls Try.prog 36 #[.slice pA o.path.length pc] W (Ret W fun r _ => r = .tuple #[.slice pA (o.path.length - 1) pc, .int .i64 (lastN o.path)]) := fun W hW => (parentR_any _ _ _ (RdS.ext (hE1.trans hW) hP) hne).mono (by
    rintro e w' ⟨r, rfl, ⟨A, c, he, rfl⟩, hE⟩
    simp only [Value.slice.injEq, true_and] at he
    obtain ⟨rfl, rfl⟩ := he
    exact ⟨_, rfl, rfl, hE⟩)
  have hq : RdI w o.sh.from_ (.slice pA (o.path.length - 1) pc) := by
    have := RdI.take hP (o.path.length - 1) (by omega)
    rw [dropLast_take] at this
    exact this
  have hcQ : ∀ W, Ext w1 W → Calls Try.prog 37 #[.slice xA p.length xc, .slice pA (o.path.length - 1) pc] W (Ret W fun r _ => r = .bool (decide (p = o.sh.from_))) := fun W hW => sameR_any _ _ _ _ _ (RdS.ext (hE1.trans hW) hp) (RdS.ext (hE1.trans hW) hq)
  clear h hP hT hC hp hq s1 s2 s3 hpl htl hk hne
  generalize decide (p = o.sh.from_) = s1 at *
  generalize lastN o.path = d at *
  rcases s1 with _ | _
  · go_enter Try.func39, Try.ntmps39
    go_wp2_with (first | (rw [H1.out]; clear H1) | (go_at_call 36; refine (hc36 _ E).mono ?_; clear hc36; rintro e u ⟨r, rfl, rfl, hE⟩; replace E := Ext.trans E hE; clear hE; have B0' := E.cell B0; have B1' := E.cell B1; have B2' := E.cell B2; have B3' := E.cell B3) | (go_at_call 37; refine (hcQ _ E).mono ?_; clear hcQ; rintro e u ⟨r, rfl, rfl, hE⟩; replace E := Ext.trans E hE; clear hE; have B0' := E.cell B0; have B1' := E.cell B1; have B2' := E.cell B2; have B3' := E.cell B3))
    go_ret2
    exact ⟨_, rfl, ⟨_, _, rfl, by rw [HF.out]; rfl⟩, hE1.trans E⟩
  rcases Int.lt_trichotomy k d with hd | hd | hd
  · have e1 : (k == d) = false := by rw [beq_eq_false_iff_ne]; omega
    have e2 : decide (k = d) = false := decide_eq_false (by omega)
    have e3 : decide (d < k) = false := decide_eq_false (by omega)
    go_enter Try.func39, Try.ntmps39
    go_wp2_with (first | (rw [H1.out]; clear H1) | (go_at_call 36; refine (hc36 _ E).mono ?_; clear hc36; rintro e u ⟨r, rfl, rfl, hE⟩; replace E := Ext.trans E hE; clear hE; have B0' := E.cell B0; have B1' := E.cell B1; have B2' := E.cell B2; have B3' := E.cell B3) | (go_at_call 37; refine (hcQ _ E).mono ?_; clear hcQ; rintro e u ⟨r, rfl, rfl, hE⟩; replace E := Ext.trans E hE; clear hE; have B0' := E.cell B0; have B1' := E.cell B1; have B2' := E.cell B2; have B3' := E.cell B3))
    go_ret2
    exact ⟨_, rfl, ⟨_, _, rfl, by rw [HF.out, e2, e3]; rfl⟩, hE1.trans E⟩
  · have e1 : (k == d) = true := by rw [beq_iff_eq]; omega
    have e2 : decide (k = d) = true := decide_eq_true (by omega)
    go_enter Try.func39, Try.ntmps39
    go_wp2_with (first | (rw [H1.out]; clear H1) | (go_at_call 36; refine (hc36 _ E).mono ?_; clear hc36; rintro e u ⟨r, rfl, rfl, hE⟩; replace E := Ext.trans E hE; clear hE; have B0' := E.cell B0; have B1' := E.cell B1; have B2' := E.cell B2; have B3' := E.cell B3) | (go_at_call 37; refine (hcQ _ E).mono ?_; clear hcQ; rintro e u ⟨r, rfl, rfl, hE⟩; replace E := Ext.trans E hE; clear hE; have B0' := E.cell B0; have B1' := E.cell B1; have B2' := E.cell B2; have B3' := E.cell B3))
    go_ret2
    exact ⟨_, rfl, ⟨_, _, rfl, by rw [HF.out, e2]; rfl⟩, hE1.trans E⟩
  · have e1 : (k == d) = false := by rw [beq_eq_false_iff_ne]; omega
    have e2 : decide (k = d) = false := decide_eq_false (by omega)
    have e3 : decide (d < k) = true := decide_eq_true (by omega)
    go_enter Try.func39, Try.ntmps39
    go_wp2_with (first | (rw [H1.out]; clear H1) | (go_at_call 36; refine (hc36 _ E).mono ?_; clear hc36; rintro e u ⟨r, rfl, rfl, hE⟩; replace E := Ext.trans E hE; clear hE; have B0' := E.cell B0; have B1' := E.cell B1; have B2' := E.cell B2; have B3' := E.cell B3) | (go_at_call 37; refine (hcQ _ E).mono ?_; clear hcQ; rintro e u ⟨r, rfl, rfl, hE⟩; replace E := Ext.trans E hE; clear hE; have B0' := E.cell B0; have B1' := E.cell B1; have B2' := E.cell B2; have B3' := E.cell B3))
    go_ret2
    exact ⟨_, rfl, ⟨_, _, rfl, by rw [HF.out, e2, e3]; rfl⟩, hE1.trans E⟩

set_option maxRecDepth 100000 in
set_option maxHeartbeats 4000000 in
theorem child_3 (o : OpD) (v pv : Value) (p : List Int) (k : Int) (w : World) (h : o.rd w v) (hp : RdI w p pv) (hk : o.kind = 3) (hne : o.path ≠ []) : Calls Try.prog 39 #[v, pv, .int .i64 k] w (Ret w fun r _ => ∃ n b, r = .tuple #[.int .i64 n, .bool b] ∧ o.sh.child p k = if b then some n else none) := by
  obtain ⟨pv, tv, cv, rfl, hP, hT, hC, s1, s2, s3⟩ := h
  have h : o.rd w (.agg #[.int .u8 o.kind, pv, .int .i64 o.at_, tv, .int .u64 o.id, .bool o.leaf, .string o.label, .string o.key, .string o.value, .bool o.gone, cv]) := ⟨pv, tv, cv, rfl, hP, hT, hC, s1, s2, s3⟩
  have hP0 := hP
  have hT0 := hT
  have hC0 := hC
  obtain ⟨pA, pc, rfl, _, _, hpc, _⟩ := hP0
  obtain ⟨tA, tc, rfl, _, _, htc, _⟩ := hT0
  obtain ⟨cA, cc, rfl, _⟩ := hC0
  have hpl : o.path.length ≤ pc := by obtain ⟨_, _, e, _, h1, _⟩ := hP; simp only [Value.slice.injEq] at e; omega
  have htl : o.to.length ≤ tc := by obtain ⟨_, _, e, _, h1, _⟩ := hT; simp only [Value.slice.injEq] at e; omega
  unfold maxLen at hpc htc
  have hp0 := hp
  obtain ⟨xA, xc, rfl, _⟩ := hp0
  obtain ⟨w1, hw1⟩ : ∃ w1, w.alloc (.cells #[.int .u8 o.kind, .slice pA o.path.length pc, .int .i64 o.at_, .slice tA o.to.length tc, .int .u64 o.id, .bool o.leaf, .string o.label, .string o.key, .string o.value, .bool o.gone, .slice cA o.pcs.length cc] 26) = w1 := ⟨_, rfl⟩
  have hE1 : Ext w w1 := by rw [← hw1]; exact (Ext.refl w).alloc _
  have B0 : w1.cell? ⟨w.heap.size, 0, none⟩ = some (.int .u8 o.kind) := by rw [← hw1]; exact (NBox.new _ _ _).cell 0
  have B1 : w1.cell? ⟨w.heap.size, 1, none⟩ = some (.slice pA o.path.length pc) := by rw [← hw1]; exact (NBox.new _ _ _).cell 1
  have B2 : w1.cell? ⟨w.heap.size, 2, none⟩ = some (.int .i64 o.at_) := by rw [← hw1]; exact (NBox.new _ _ _).cell 2
  have B3 : w1.cell? ⟨w.heap.size, 3, none⟩ = some (.slice tA o.to.length tc) := by rw [← hw1]; exact (NBox.new _ _ _).cell 3
  have B4 : w1.cell? ⟨w.heap.size, 4, none⟩ = some (.int .u64 o.id) := by rw [← hw1]; exact (NBox.new _ _ _).cell 4
  have B5 : w1.cell? ⟨w.heap.size, 5, none⟩ = some (.bool o.leaf) := by rw [← hw1]; exact (NBox.new _ _ _).cell 5
  have B6 : w1.cell? ⟨w.heap.size, 6, none⟩ = some (.string o.label) := by rw [← hw1]; exact (NBox.new _ _ _).cell 6
  have B7 : w1.cell? ⟨w.heap.size, 7, none⟩ = some (.string o.key) := by rw [← hw1]; exact (NBox.new _ _ _).cell 7
  have B8 : w1.cell? ⟨w.heap.size, 8, none⟩ = some (.string o.value) := by rw [← hw1]; exact (NBox.new _ _ _).cell 8
  have B9 : w1.cell? ⟨w.heap.size, 9, none⟩ = some (.bool o.gone) := by rw [← hw1]; exact (NBox.new _ _ _).cell 9
  have B10 : w1.cell? ⟨w.heap.size, 10, none⟩ = some (.slice cA o.pcs.length cc) := by rw [← hw1]; exact (NBox.new _ _ _).cell 10
  have E := Ext.refl w1
  have H1 := Lib.hid hw1
  clear hw1
  have k1 : (o.kind == 1) = false := by rw [hk]; rfl
  have k2 : (o.kind == 2) = false := by rw [hk]; rfl
  have k3 : (o.kind == 3) = true := by rw [hk]; rfl
  have HF : Hid (o.sh.child p k = if decide (p = o.sh.from_) && decide (k = lastN o.path) then none else if decide (p = o.to) && decide (o.at_ ≤ k) then some (wrap64 ((if decide (p = o.sh.from_) && decide (lastN o.path < k) then wrap64 (k - 1) else k) + 1))
      else some (if decide (p = o.sh.from_) && decide (lastN o.path < k) then wrap64 (k - 1) else k)) := by
    have hk' : o.sh.kind = 3 := hk
    simp only [Hid, Sh.child, hk', Bool.and_eq_true, decide_eq_true_eq, sh_wr, if_neg (show ¬ ((3 : Int) = 1) by decide), true_and]; rfl
  have hc36 : ∀ W, Ext w1 W → Calls Try.prog 36 #[.slice pA o.path.length pc] W (Ret W fun r _ => r = .tuple #[.slice pA (o.path.length - 1) pc, .int .i64 (lastN o.path)]) := fun W hW => (parentR_any _ _ _ (RdS.ext (hE1.trans hW) hP) hne).mono (by
    rintro e w' ⟨r, rfl, ⟨A, c, he, rfl⟩, hE⟩
    simp only [Value.slice.injEq, true_and] at he
    obtain ⟨rfl, rfl⟩ := he
    exact ⟨_, rfl, rfl, hE⟩)
  have hq : RdI w o.sh.from_ (.slice pA (o.path.length - 1) pc) := by
    have := RdI.take hP (o.path.length - 1) (by omega)
    rw [dropLast_take] at this
    exact this
  have hcQ : ∀ W, Ext w1 W → Calls Try.prog 37 #[.slice xA p.length xc, .slice pA (o.path.length - 1) pc] W (Ret W fun r _ => r = .bool (decide (p = o.sh.from_))) := fun W hW => sameR_any _ _ _ _ _ (RdS.ext (hE1.trans hW) hp) (RdS.ext (hE1.trans hW) hq)
  have hcT : ∀ W, Ext w1 W → Calls Try.prog 37 #[.slice xA p.length xc, .slice tA o.to.length tc] W (Ret W fun r _ => r = .bool (decide (p = o.to))) := fun W hW => sameR_any _ _ _ _ _ (RdS.ext (hE1.trans hW) hp) (RdS.ext (hE1.trans hW) hT)
  clear h hP hT hC hp hq s1 s2 s3 hpl htl hk hne
  generalize decide (p = o.sh.from_) = s1 at *
  generalize lastN o.path = d at *
  generalize decide (p = o.to) = s2 at *
  rcases s1 with _ | _
  · rcases s2 with _ | _
    · go_enter Try.func39, Try.ntmps39
      go_wp2_with (first | (rw [H1.out]; clear H1) | (go_at_call 36; refine (hc36 _ E).mono ?_; clear hc36; rintro e u ⟨r, rfl, rfl, hE⟩; replace E := Ext.trans E hE; clear hE; have B0' := E.cell B0; have B1' := E.cell B1; have B2' := E.cell B2; have B3' := E.cell B3) | (go_at_call 37; refine (hcQ _ E).mono ?_; clear hcQ; rintro e u ⟨r, rfl, rfl, hE⟩; replace E := Ext.trans E hE; clear hE; have B0' := E.cell B0; have B1' := E.cell B1; have B2' := E.cell B2; have B3' := E.cell B3) | (go_at_call 37; refine (hcT _ E).mono ?_; clear hcT; rintro e u ⟨r, rfl, rfl, hE⟩; replace E := Ext.trans E hE; clear hE; have B0' := E.cell B0; have B1' := E.cell B1; have B2' := E.cell B2; have B3' := E.cell B3))
      go_ret2
      exact ⟨_, rfl, ⟨_, _, rfl, by rw [HF.out]; rfl⟩, hE1.trans E⟩
    rcases Int.lt_or_le k o.at_ with hg | hg
    · have g1 : decide (o.at_ ≤ k) = false := decide_eq_false (by omega)
      go_enter Try.func39, Try.ntmps39
      go_wp2_with (first | (rw [H1.out]; clear H1) | (go_at_call 36; refine (hc36 _ E).mono ?_; clear hc36; rintro e u ⟨r, rfl, rfl, hE⟩; replace E := Ext.trans E hE; clear hE; have B0' := E.cell B0; have B1' := E.cell B1; have B2' := E.cell B2; have B3' := E.cell B3) | (go_at_call 37; refine (hcQ _ E).mono ?_; clear hcQ; rintro e u ⟨r, rfl, rfl, hE⟩; replace E := Ext.trans E hE; clear hE; have B0' := E.cell B0; have B1' := E.cell B1; have B2' := E.cell B2; have B3' := E.cell B3) | (go_at_call 37; refine (hcT _ E).mono ?_; clear hcT; rintro e u ⟨r, rfl, rfl, hE⟩; replace E := Ext.trans E hE; clear hE; have B0' := E.cell B0; have B1' := E.cell B1; have B2' := E.cell B2; have B3' := E.cell B3))
      go_ret2
      exact ⟨_, rfl, ⟨_, _, rfl, by rw [HF.out, g1]; rfl⟩, hE1.trans E⟩
    · have g1 : decide (o.at_ ≤ k) = true := decide_eq_true hg
      go_enter Try.func39, Try.ntmps39
      go_wp2_with (first | (rw [H1.out]; clear H1) | (go_at_call 36; refine (hc36 _ E).mono ?_; clear hc36; rintro e u ⟨r, rfl, rfl, hE⟩; replace E := Ext.trans E hE; clear hE; have B0' := E.cell B0; have B1' := E.cell B1; have B2' := E.cell B2; have B3' := E.cell B3) | (go_at_call 37; refine (hcQ _ E).mono ?_; clear hcQ; rintro e u ⟨r, rfl, rfl, hE⟩; replace E := Ext.trans E hE; clear hE; have B0' := E.cell B0; have B1' := E.cell B1; have B2' := E.cell B2; have B3' := E.cell B3) | (go_at_call 37; refine (hcT _ E).mono ?_; clear hcT; rintro e u ⟨r, rfl, rfl, hE⟩; replace E := Ext.trans E hE; clear hE; have B0' := E.cell B0; have B1' := E.cell B1; have B2' := E.cell B2; have B3' := E.cell B3))
      go_ret2
      exact ⟨_, rfl, ⟨_, _, rfl, by rw [HF.out, g1]; rfl⟩, hE1.trans E⟩
  rcases Int.lt_trichotomy k d with hd | hd | hd
  · have e1 : (k == d) = false := by rw [beq_eq_false_iff_ne]; omega
    have e2 : decide (k = d) = false := decide_eq_false (by omega)
    have e3 : decide (d < k) = false := decide_eq_false (by omega)
    rcases s2 with _ | _
    · go_enter Try.func39, Try.ntmps39
      go_wp2_with (first | (rw [H1.out]; clear H1) | (go_at_call 36; refine (hc36 _ E).mono ?_; clear hc36; rintro e u ⟨r, rfl, rfl, hE⟩; replace E := Ext.trans E hE; clear hE; have B0' := E.cell B0; have B1' := E.cell B1; have B2' := E.cell B2; have B3' := E.cell B3) | (go_at_call 37; refine (hcQ _ E).mono ?_; clear hcQ; rintro e u ⟨r, rfl, rfl, hE⟩; replace E := Ext.trans E hE; clear hE; have B0' := E.cell B0; have B1' := E.cell B1; have B2' := E.cell B2; have B3' := E.cell B3) | (go_at_call 37; refine (hcT _ E).mono ?_; clear hcT; rintro e u ⟨r, rfl, rfl, hE⟩; replace E := Ext.trans E hE; clear hE; have B0' := E.cell B0; have B1' := E.cell B1; have B2' := E.cell B2; have B3' := E.cell B3))
      go_ret2
      exact ⟨_, rfl, ⟨_, _, rfl, by rw [HF.out, e2, e3]; rfl⟩, hE1.trans E⟩
    rcases Int.lt_or_le k o.at_ with hg | hg
    · have g1 : decide (o.at_ ≤ k) = false := decide_eq_false (by omega)
      go_enter Try.func39, Try.ntmps39
      go_wp2_with (first | (rw [H1.out]; clear H1) | (go_at_call 36; refine (hc36 _ E).mono ?_; clear hc36; rintro e u ⟨r, rfl, rfl, hE⟩; replace E := Ext.trans E hE; clear hE; have B0' := E.cell B0; have B1' := E.cell B1; have B2' := E.cell B2; have B3' := E.cell B3) | (go_at_call 37; refine (hcQ _ E).mono ?_; clear hcQ; rintro e u ⟨r, rfl, rfl, hE⟩; replace E := Ext.trans E hE; clear hE; have B0' := E.cell B0; have B1' := E.cell B1; have B2' := E.cell B2; have B3' := E.cell B3) | (go_at_call 37; refine (hcT _ E).mono ?_; clear hcT; rintro e u ⟨r, rfl, rfl, hE⟩; replace E := Ext.trans E hE; clear hE; have B0' := E.cell B0; have B1' := E.cell B1; have B2' := E.cell B2; have B3' := E.cell B3))
      go_ret2
      exact ⟨_, rfl, ⟨_, _, rfl, by rw [HF.out, e2, e3, g1]; rfl⟩, hE1.trans E⟩
    · have g1 : decide (o.at_ ≤ k) = true := decide_eq_true hg
      go_enter Try.func39, Try.ntmps39
      go_wp2_with (first | (rw [H1.out]; clear H1) | (go_at_call 36; refine (hc36 _ E).mono ?_; clear hc36; rintro e u ⟨r, rfl, rfl, hE⟩; replace E := Ext.trans E hE; clear hE; have B0' := E.cell B0; have B1' := E.cell B1; have B2' := E.cell B2; have B3' := E.cell B3) | (go_at_call 37; refine (hcQ _ E).mono ?_; clear hcQ; rintro e u ⟨r, rfl, rfl, hE⟩; replace E := Ext.trans E hE; clear hE; have B0' := E.cell B0; have B1' := E.cell B1; have B2' := E.cell B2; have B3' := E.cell B3) | (go_at_call 37; refine (hcT _ E).mono ?_; clear hcT; rintro e u ⟨r, rfl, rfl, hE⟩; replace E := Ext.trans E hE; clear hE; have B0' := E.cell B0; have B1' := E.cell B1; have B2' := E.cell B2; have B3' := E.cell B3))
      go_ret2
      exact ⟨_, rfl, ⟨_, _, rfl, by rw [HF.out, e2, e3, g1]; rfl⟩, hE1.trans E⟩
  · have e1 : (k == d) = true := by rw [beq_iff_eq]; omega
    have e2 : decide (k = d) = true := decide_eq_true (by omega)
    clear hcT
    go_enter Try.func39, Try.ntmps39
    go_wp2_with (first | (rw [H1.out]; clear H1) | (go_at_call 36; refine (hc36 _ E).mono ?_; clear hc36; rintro e u ⟨r, rfl, rfl, hE⟩; replace E := Ext.trans E hE; clear hE; have B0' := E.cell B0; have B1' := E.cell B1; have B2' := E.cell B2; have B3' := E.cell B3) | (go_at_call 37; refine (hcQ _ E).mono ?_; clear hcQ; rintro e u ⟨r, rfl, rfl, hE⟩; replace E := Ext.trans E hE; clear hE; have B0' := E.cell B0; have B1' := E.cell B1; have B2' := E.cell B2; have B3' := E.cell B3))
    go_ret2
    exact ⟨_, rfl, ⟨_, _, rfl, by rw [HF.out, e2]; rfl⟩, hE1.trans E⟩
  · have e1 : (k == d) = false := by rw [beq_eq_false_iff_ne]; omega
    have e2 : decide (k = d) = false := decide_eq_false (by omega)
    have e3 : decide (d < k) = true := decide_eq_true (by omega)
    rcases s2 with _ | _
    · go_enter Try.func39, Try.ntmps39
      go_wp2_with (first | (rw [H1.out]; clear H1) | (go_at_call 36; refine (hc36 _ E).mono ?_; clear hc36; rintro e u ⟨r, rfl, rfl, hE⟩; replace E := Ext.trans E hE; clear hE; have B0' := E.cell B0; have B1' := E.cell B1; have B2' := E.cell B2; have B3' := E.cell B3) | (go_at_call 37; refine (hcQ _ E).mono ?_; clear hcQ; rintro e u ⟨r, rfl, rfl, hE⟩; replace E := Ext.trans E hE; clear hE; have B0' := E.cell B0; have B1' := E.cell B1; have B2' := E.cell B2; have B3' := E.cell B3) | (go_at_call 37; refine (hcT _ E).mono ?_; clear hcT; rintro e u ⟨r, rfl, rfl, hE⟩; replace E := Ext.trans E hE; clear hE; have B0' := E.cell B0; have B1' := E.cell B1; have B2' := E.cell B2; have B3' := E.cell B3))
      go_ret2
      exact ⟨_, rfl, ⟨_, _, rfl, by rw [HF.out, e2, e3]; rfl⟩, hE1.trans E⟩
    rcases Int.lt_or_le k o.at_ with hg | hg
    · have g1 : decide (o.at_ ≤ k) = false := decide_eq_false (by omega)
      go_enter Try.func39, Try.ntmps39
      go_wp2_with (first | (rw [H1.out]; clear H1) | (go_at_call 36; refine (hc36 _ E).mono ?_; clear hc36; rintro e u ⟨r, rfl, rfl, hE⟩; replace E := Ext.trans E hE; clear hE; have B0' := E.cell B0; have B1' := E.cell B1; have B2' := E.cell B2; have B3' := E.cell B3) | (go_at_call 37; refine (hcQ _ E).mono ?_; clear hcQ; rintro e u ⟨r, rfl, rfl, hE⟩; replace E := Ext.trans E hE; clear hE; have B0' := E.cell B0; have B1' := E.cell B1; have B2' := E.cell B2; have B3' := E.cell B3) | (go_at_call 37; refine (hcT _ E).mono ?_; clear hcT; rintro e u ⟨r, rfl, rfl, hE⟩; replace E := Ext.trans E hE; clear hE; have B0' := E.cell B0; have B1' := E.cell B1; have B2' := E.cell B2; have B3' := E.cell B3))
      go_ret2
      exact ⟨_, rfl, ⟨_, _, rfl, by rw [HF.out, e2, e3, g1]; rfl⟩, hE1.trans E⟩
    · have g1 : decide (o.at_ ≤ k) = true := decide_eq_true hg
      go_enter Try.func39, Try.ntmps39
      go_wp2_with (first | (rw [H1.out]; clear H1) | (go_at_call 36; refine (hc36 _ E).mono ?_; clear hc36; rintro e u ⟨r, rfl, rfl, hE⟩; replace E := Ext.trans E hE; clear hE; have B0' := E.cell B0; have B1' := E.cell B1; have B2' := E.cell B2; have B3' := E.cell B3) | (go_at_call 37; refine (hcQ _ E).mono ?_; clear hcQ; rintro e u ⟨r, rfl, rfl, hE⟩; replace E := Ext.trans E hE; clear hE; have B0' := E.cell B0; have B1' := E.cell B1; have B2' := E.cell B2; have B3' := E.cell B3) | (go_at_call 37; refine (hcT _ E).mono ?_; clear hcT; rintro e u ⟨r, rfl, rfl, hE⟩; replace E := Ext.trans E hE; clear hE; have B0' := E.cell B0; have B1' := E.cell B1; have B2' := E.cell B2; have B3' := E.cell B3))
      go_ret2
      exact ⟨_, rfl, ⟨_, _, rfl, by rw [HF.out, e2, e3, g1]; rfl⟩, hE1.trans E⟩

theorem childR_any (o : OpD) (v pv : Value) (p : List Int) (k : Int) (w : World) (h : o.rd w v) (hp : RdI w p pv) (hk : o.kind = 1 ∨ o.kind = 2 ∨ o.kind = 3) (hne : o.kind ≠ 1 → o.path ≠ []) : Calls Try.prog 39 #[v, pv, .int .i64 k] w (Ret w fun r _ => ∃ n b, r = .tuple #[.int .i64 n, .bool b] ∧ o.sh.child p k = if b then some n else none) := by
  rcases hk with hk | hk | hk
  · exact child_1 o v pv p k w h hp hk
  · exact child_2 o v pv p k w h hp hk (hne (by omega))
  · exact child_3 o v pv p k w h hp hk (hne (by omega))
end Go.Proofs.Ytdnjkffmgmbfmaa.Bs
