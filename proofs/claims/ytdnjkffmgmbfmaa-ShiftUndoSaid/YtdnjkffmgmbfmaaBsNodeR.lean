/- Chapter 11: where a node is, the document's. -/
import Derived.Test.YtdnjkffmgmbfmaaBsNode2
namespace Go.Proofs.Ytdnjkffmgmbfmaa.Bs
open Go.RowKit Go.Proofs.Ytdnjkffmgmbfmaa.Bw

theorem node_len (o : Sh) {q r : List Int} (h : o.node q = some r) : r.length ≤ o.to.length + 1 + q.length := by
  unfold Sh.node at h
  split at h
  · cases h; omega
  · split at h
    · split at h
      · cases h
        simp only [List.length_append, List.length_cons, List.length_nil, List.length_drop, go_len]; omega
      · cases h
    · cases h
      rw [go_len]; omega
theorem snoc_of {p : List Int} (h : p ≠ []) : p = p.dropLast ++ [lastN p] := by
  unfold lastN
  rcases List.eq_nil_or_concat p with h0 | ⟨q, x, hq⟩
  · exact absurd h0 h
  · rw [hq]; simp [List.concat_eq_append]

set_option maxRecDepth 100000 in
set_option maxHeartbeats 4000000 in
theorem nodeR_idle (o : OpD) (v pv : Value) (p : List Int) (w : World) (h : o.rd w v) (hp : RdI w p pv) (hm : o.sh.moves = false) (hpl' : p.length ≤ 100000) : Calls Try.prog 12 #[v, pv] w (Ret w fun r w' => ∃ r', r = .tuple #[r', .bool true] ∧ w'.ownsRow w.heap.size 3 1 r' p.length (p.map (Value.int .i64))) := by
  obtain ⟨pv, tv, cv, rfl, hP, hT, hC, s1, s2, s3⟩ := h
  have h : o.rd w (.agg #[.int .u8 o.kind, pv, .int .i64 o.at_, tv, .int .u64 o.id, .bool o.leaf, .string o.label, .string o.key, .string o.value, .bool o.gone, cv]) := ⟨pv, tv, cv, rfl, hP, hT, hC, s1, s2, s3⟩
  have hP0 := hP
  have hT0 := hT
  have hC0 := hC
  obtain ⟨pA, pc, rfl, _, _, hpc, _⟩ := hP0
  obtain ⟨tA, tc, rfl, _, _, htc, _⟩ := hT0
  obtain ⟨cA, cc, rfl, _⟩ := hC0
  have hpl : o.path.length ≤ pc := by obtain ⟨_, _, e, _, h1, _⟩ := hP; simp only [Value.slice.injEq] at e; omega
  have htl : o.to.length ≤ tc := by obtain ⟨_, _, e, _, h1, _⟩ := hT; simp only [Value.slice.injEq] at e; omega
  unfold maxLen at hpc htc
  have hp0 := hp
  obtain ⟨xA, xc, rfl, _, x1, x2, x3⟩ := hp0
  unfold maxLen at x2
  obtain ⟨w1, hw1⟩ : ∃ w1, w.alloc (.cells #[.int .u8 o.kind, .slice pA o.path.length pc, .int .i64 o.at_, .slice tA o.to.length tc, .int .u64 o.id, .bool o.leaf, .string o.label, .string o.key, .string o.value, .bool o.gone, .slice cA o.pcs.length cc] 26) = w1 := ⟨_, rfl⟩
  have hE1 : Ext w w1 := by rw [← hw1]; exact (Ext.refl w).alloc _
  have B0 : w1.cell? ⟨w.heap.size, 0, none⟩ = some (.int .u8 o.kind) := by rw [← hw1]; exact (NBox.new _ _ _).cell 0
  have B1 : w1.cell? ⟨w.heap.size, 1, none⟩ = some (.slice pA o.path.length pc) := by rw [← hw1]; exact (NBox.new _ _ _).cell 1
  have B2 : w1.cell? ⟨w.heap.size, 2, none⟩ = some (.int .i64 o.at_) := by rw [← hw1]; exact (NBox.new _ _ _).cell 2
  have B3 : w1.cell? ⟨w.heap.size, 3, none⟩ = some (.slice tA o.to.length tc) := by rw [← hw1]; exact (NBox.new _ _ _).cell 3
  have B4 : w1.cell? ⟨w.heap.size, 4, none⟩ = some (.int .u64 o.id) := by rw [← hw1]; exact (NBox.new _ _ _).cell 4
  have B5 : w1.cell? ⟨w.heap.size, 5, none⟩ = some (.bool o.leaf) := by rw [← hw1]; exact (NBox.new _ _ _).cell 5
  have B6 : w1.cell? ⟨w.heap.size, 6, none⟩ = some (.string o.label) := by rw [← hw1]; exact (NBox.new _ _ _).cell 6
  have B7 : w1.cell? ⟨w.heap.size, 7, none⟩ = some (.string o.key) := by rw [← hw1]; exact (NBox.new _ _ _).cell 7
  have B8 : w1.cell? ⟨w.heap.size, 8, none⟩ = some (.string o.value) := by rw [← hw1]; exact (NBox.new _ _ _).cell 8
  have B9 : w1.cell? ⟨w.heap.size, 9, none⟩ = some (.bool o.gone) := by rw [← hw1]; exact (NBox.new _ _ _).cell 9
  have B10 : w1.cell? ⟨w.heap.size, 10, none⟩ = some (.slice cA o.pcs.length cc) := by rw [← hw1]; exact (NBox.new _ _ _).cell 10
  have E := Ext.refl w1
  have H1 := Lib.hid hw1
  clear hw1
  have hc35 : ∀ W, Ext w1 W → Calls Try.prog 35 #[.agg #[.int .u8 o.kind, .slice pA o.path.length pc, .int .i64 o.at_, .slice tA o.to.length tc, .int .u64 o.id, .bool o.leaf, .string o.label, .string o.key, .string o.value, .bool o.gone, .slice cA o.pcs.length cc]] W (Ret W fun r _ => r = .bool false) := fun W hW => by
    have := movesR_any o _ W (OpD.rd_ext (hE1.trans hW) h)
    rwa [hm] at this
  have hc10 : ∀ W, Ext w1 W → Calls Try.prog 10 #[.slice xA p.length xc] W (Ret W fun r w' => w'.ownsRow w.heap.size 3 1 r p.length (p.map (Value.int .i64))) := fun W hW => (copied_any p _ W (RdS.ext (hE1.trans hW) hp) (by omega)).mono (by
    rintro e w' ⟨r, rfl, ho, hE⟩
    exact ⟨r, rfl, owns_mono ho (hE1.trans hW).size, hE⟩)
  skip
  clear h hP hT hC s1 s2 s3 hpl htl hm
  go_enter Try.func12, Try.ntmps12
  go_wp2_with (first | (rw [H1.out]; clear H1) | (go_at_call 35; refine (hc35 _ E).mono ?_; clear hc35; rintro e u ⟨r, rfl, rfl, hE⟩; replace E := Ext.trans E hE; clear hE) | (go_at_call 10; refine (hc10 _ E).mono ?_; clear hc10; rintro e u2 ⟨r, rfl, hown, hE⟩; replace E := Ext.trans E hE; clear hE))
  go_ret2
  exact ⟨_, rfl, ⟨_, rfl, hown⟩, hE1.trans E⟩

set_option maxRecDepth 100000 in
set_option maxHeartbeats 4000000 in
theorem nodeR_root (o : OpD) (v pv : Value) (p : List Int) (w : World) (h : o.rd w v) (hp : RdI w p pv) (hm : o.sh.moves = true) (h0 : p.length = 0) (hpl' : p.length ≤ 100000) : Calls Try.prog 12 #[v, pv] w (Ret w fun r w' => ∃ r', r = .tuple #[r', .bool true] ∧ w'.ownsRow w.heap.size 3 1 r' p.length (p.map (Value.int .i64))) := by
  obtain ⟨pv, tv, cv, rfl, hP, hT, hC, s1, s2, s3⟩ := h
  have h : o.rd w (.agg #[.int .u8 o.kind, pv, .int .i64 o.at_, tv, .int .u64 o.id, .bool o.leaf, .string o.label, .string o.key, .string o.value, .bool o.gone, cv]) := ⟨pv, tv, cv, rfl, hP, hT, hC, s1, s2, s3⟩
  have hP0 := hP
  have hT0 := hT
  have hC0 := hC
  obtain ⟨pA, pc, rfl, _, _, hpc, _⟩ := hP0
  obtain ⟨tA, tc, rfl, _, _, htc, _⟩ := hT0
  obtain ⟨cA, cc, rfl, _⟩ := hC0
  have hpl : o.path.length ≤ pc := by obtain ⟨_, _, e, _, h1, _⟩ := hP; simp only [Value.slice.injEq] at e; omega
  have htl : o.to.length ≤ tc := by obtain ⟨_, _, e, _, h1, _⟩ := hT; simp only [Value.slice.injEq] at e; omega
  unfold maxLen at hpc htc
  have hp0 := hp
  obtain ⟨xA, xc, rfl, _, x1, x2, x3⟩ := hp0
  unfold maxLen at x2
  obtain ⟨w1, hw1⟩ : ∃ w1, w.alloc (.cells #[.int .u8 o.kind, .slice pA o.path.length pc, .int .i64 o.at_, .slice tA o.to.length tc, .int .u64 o.id, .bool o.leaf, .string o.label, .string o.key, .string o.value, .bool o.gone, .slice cA o.pcs.length cc] 26) = w1 := ⟨_, rfl⟩
  have hE1 : Ext w w1 := by rw [← hw1]; exact (Ext.refl w).alloc _
  have B0 : w1.cell? ⟨w.heap.size, 0, none⟩ = some (.int .u8 o.kind) := by rw [← hw1]; exact (NBox.new _ _ _).cell 0
  have B1 : w1.cell? ⟨w.heap.size, 1, none⟩ = some (.slice pA o.path.length pc) := by rw [← hw1]; exact (NBox.new _ _ _).cell 1
  have B2 : w1.cell? ⟨w.heap.size, 2, none⟩ = some (.int .i64 o.at_) := by rw [← hw1]; exact (NBox.new _ _ _).cell 2
  have B3 : w1.cell? ⟨w.heap.size, 3, none⟩ = some (.slice tA o.to.length tc) := by rw [← hw1]; exact (NBox.new _ _ _).cell 3
  have B4 : w1.cell? ⟨w.heap.size, 4, none⟩ = some (.int .u64 o.id) := by rw [← hw1]; exact (NBox.new _ _ _).cell 4
  have B5 : w1.cell? ⟨w.heap.size, 5, none⟩ = some (.bool o.leaf) := by rw [← hw1]; exact (NBox.new _ _ _).cell 5
  have B6 : w1.cell? ⟨w.heap.size, 6, none⟩ = some (.string o.label) := by rw [← hw1]; exact (NBox.new _ _ _).cell 6
  have B7 : w1.cell? ⟨w.heap.size, 7, none⟩ = some (.string o.key) := by rw [← hw1]; exact (NBox.new _ _ _).cell 7
  have B8 : w1.cell? ⟨w.heap.size, 8, none⟩ = some (.string o.value) := by rw [← hw1]; exact (NBox.new _ _ _).cell 8
  have B9 : w1.cell? ⟨w.heap.size, 9, none⟩ = some (.bool o.gone) := by rw [← hw1]; exact (NBox.new _ _ _).cell 9
  have B10 : w1.cell? ⟨w.heap.size, 10, none⟩ = some (.slice cA o.pcs.length cc) := by rw [← hw1]; exact (NBox.new _ _ _).cell 10
  have E := Ext.refl w1
  have H1 := Lib.hid hw1
  clear hw1
  have hc35 : ∀ W, Ext w1 W → Calls Try.prog 35 #[.agg #[.int .u8 o.kind, .slice pA o.path.length pc, .int .i64 o.at_, .slice tA o.to.length tc, .int .u64 o.id, .bool o.leaf, .string o.label, .string o.key, .string o.value, .bool o.gone, .slice cA o.pcs.length cc]] W (Ret W fun r _ => r = .bool true) := fun W hW => by
    have := movesR_any o _ W (OpD.rd_ext (hE1.trans hW) h)
    rwa [hm] at this
  have hc10 : ∀ W, Ext w1 W → Calls Try.prog 10 #[.slice xA p.length xc] W (Ret W fun r w' => w'.ownsRow w.heap.size 3 1 r p.length (p.map (Value.int .i64))) := fun W hW => (copied_any p _ W (RdS.ext (hE1.trans hW) hp) (by omega)).mono (by
    rintro e w' ⟨r, rfl, ho, hE⟩
    exact ⟨r, rfl, owns_mono ho (hE1.trans hW).size, hE⟩)
  have hd : ((p.length : Int) == 0) = true := by rw [h0]; rfl
  have hd2 : (p.length == 0) = true := by rw [h0]; rfl
  obtain rfl := List.length_eq_zero_iff.1 h0; simp only [List.length_nil] at hc10 hd hd2; clear h0
  clear h hP hT hC s1 s2 s3 hpl htl hm
  go_enter Try.func12, Try.ntmps12
  go_wp2_with (first | (rw [H1.out]; clear H1) | (go_at_call 35; refine (hc35 _ E).mono ?_; clear hc35; rintro e u ⟨r, rfl, rfl, hE⟩; replace E := Ext.trans E hE; clear hE) | (go_at_call 10; refine (hc10 _ E).mono ?_; clear hc10; rintro e u2 ⟨r, rfl, hown, hE⟩; replace E := Ext.trans E hE; clear hE))
  go_ret2
  exact ⟨_, rfl, ⟨_, rfl, hown⟩, hE1.trans E⟩

set_option maxRecDepth 100000 in
set_option maxHeartbeats 4000000 in
theorem nodeR_self (o : OpD) (v pv : Value) (p : List Int) (w : World) (h : o.rd w v) (hp : RdI w p pv) (hm : o.sh.moves = true) (hne : p ≠ []) (hk : o.kind = 3) (hs : p = o.path) (htl' : o.to.length ≤ 1000) (hpl' : p.length ≤ 1000)
    (ih : ∀ v w pv, o.rd w v → RdI w o.to pv → Calls Try.prog 12 #[v, pv] w (Ret w fun r w' => RdN w.heap.size w' (o.sh.node o.to) r)) :
    Calls Try.prog 12 #[v, pv] w (Ret w fun r w' => ∃ r', r = .tuple #[r', .bool true] ∧ w'.ownsRow w.heap.size 3 1 r' (o.sh.go [] o.to ++ [if p.dropLast = o.to ∧ lastN p < o.at_ then wrap64 (o.at_ - 1) else o.at_]).length ((o.sh.go [] o.to ++ [if p.dropLast = o.to ∧ lastN p < o.at_ then wrap64 (o.at_ - 1) else o.at_]).map (Value.int .i64))) := by
  have hnt : o.sh.node o.to = some (o.sh.go [] o.to) := node_to hm hk
  rw [hnt] at ih
  obtain ⟨pv, tv, cv, rfl, hP, hT, hC, s1, s2, s3⟩ := h
  have h : o.rd w (.agg #[.int .u8 o.kind, pv, .int .i64 o.at_, tv, .int .u64 o.id, .bool o.leaf, .string o.label, .string o.key, .string o.value, .bool o.gone, cv]) := ⟨pv, tv, cv, rfl, hP, hT, hC, s1, s2, s3⟩
  have hP0 := hP
  have hT0 := hT
  have hC0 := hC
  obtain ⟨pA, pc, rfl, _, _, hpc, _⟩ := hP0
  obtain ⟨tA, tc, rfl, _, _, htc, _⟩ := hT0
  obtain ⟨cA, cc, rfl, _⟩ := hC0
  have hpl : o.path.length ≤ pc := by obtain ⟨_, _, e, _, h1, _⟩ := hP; simp only [Value.slice.injEq] at e; omega
  have htl : o.to.length ≤ tc := by obtain ⟨_, _, e, _, h1, _⟩ := hT; simp only [Value.slice.injEq] at e; omega
  unfold maxLen at hpc htc
  have hp0 := hp
  obtain ⟨xA, xc, rfl, _, x1, x2, x3⟩ := hp0
  unfold maxLen at x2
  obtain ⟨w1, hw1⟩ : ∃ w1, w.alloc (.cells #[.int .u8 o.kind, .slice pA o.path.length pc, .int .i64 o.at_, .slice tA o.to.length tc, .int .u64 o.id, .bool o.leaf, .string o.label, .string o.key, .string o.value, .bool o.gone, .slice cA o.pcs.length cc] 26) = w1 := ⟨_, rfl⟩
  have hE1 : Ext w w1 := by rw [← hw1]; exact (Ext.refl w).alloc _
  have B0 : w1.cell? ⟨w.heap.size, 0, none⟩ = some (.int .u8 o.kind) := by rw [← hw1]; exact (NBox.new _ _ _).cell 0
  have B1 : w1.cell? ⟨w.heap.size, 1, none⟩ = some (.slice pA o.path.length pc) := by rw [← hw1]; exact (NBox.new _ _ _).cell 1
  have B2 : w1.cell? ⟨w.heap.size, 2, none⟩ = some (.int .i64 o.at_) := by rw [← hw1]; exact (NBox.new _ _ _).cell 2
  have B3 : w1.cell? ⟨w.heap.size, 3, none⟩ = some (.slice tA o.to.length tc) := by rw [← hw1]; exact (NBox.new _ _ _).cell 3
  have B4 : w1.cell? ⟨w.heap.size, 4, none⟩ = some (.int .u64 o.id) := by rw [← hw1]; exact (NBox.new _ _ _).cell 4
  have B5 : w1.cell? ⟨w.heap.size, 5, none⟩ = some (.bool o.leaf) := by rw [← hw1]; exact (NBox.new _ _ _).cell 5
  have B6 : w1.cell? ⟨w.heap.size, 6, none⟩ = some (.string o.label) := by rw [← hw1]; exact (NBox.new _ _ _).cell 6
  have B7 : w1.cell? ⟨w.heap.size, 7, none⟩ = some (.string o.key) := by rw [← hw1]; exact (NBox.new _ _ _).cell 7
  have B8 : w1.cell? ⟨w.heap.size, 8, none⟩ = some (.string o.value) := by rw [← hw1]; exact (NBox.new _ _ _).cell 8
  have B9 : w1.cell? ⟨w.heap.size, 9, none⟩ = some (.bool o.gone) := by rw [← hw1]; exact (NBox.new _ _ _).cell 9
  have B10 : w1.cell? ⟨w.heap.size, 10, none⟩ = some (.slice cA o.pcs.length cc) := by rw [← hw1]; exact (NBox.new _ _ _).cell 10
  have E := Ext.refl w1
  have H1 := Lib.hid hw1
  clear hw1
  have hc35 : ∀ W, Ext w1 W → Calls Try.prog 35 #[.agg #[.int .u8 o.kind, .slice pA o.path.length pc, .int .i64 o.at_, .slice tA o.to.length tc, .int .u64 o.id, .bool o.leaf, .string o.label, .string o.key, .string o.value, .bool o.gone, .slice cA o.pcs.length cc]] W (Ret W fun r _ => r = .bool true) := fun W hW => by
    have := movesR_any o _ W (OpD.rd_ext (hE1.trans hW) h)
    rwa [hm] at this
  have hpos : 0 < p.length := List.length_pos_iff.2 hne
  have hd : ((p.length : Int) == 0) = false := by rw [beq_eq_false_iff_ne]; omega
  have hd2 : (p.length == 0) = false := by rw [beq_eq_false_iff_ne]; omega
  have hc36 : ∀ W, Ext w1 W → Calls Try.prog 36 #[.slice xA p.length xc] W (Ret W fun r _ => r = .tuple #[.slice xA (p.length - 1) xc, .int .i64 (lastN p)]) := fun W hW => (parentR_any _ _ _ (RdS.ext (hE1.trans hW) hp) hne).mono (by
    rintro e w' ⟨r, rfl, ⟨A, c, he, rfl⟩, hE⟩
    simp only [Value.slice.injEq, true_and] at he
    obtain ⟨rfl, rfl⟩ := he
    exact ⟨_, rfl, rfl, hE⟩)
  have hq : RdI w p.dropLast (.slice xA (p.length - 1) xc) := by
    have := RdI.take hp (p.length - 1) (by omega)
    rw [dropLast_take] at this
    exact this
  have hcP : ∀ W, Ext w1 W → Calls Try.prog 37 #[.slice xA p.length xc, .slice pA o.path.length pc] W (Ret W fun r _ => r = .bool (decide (p = o.path))) := fun W hW => sameR_any _ _ _ _ _ (RdS.ext (hE1.trans hW) hp) (RdS.ext (hE1.trans hW) hP)
  have hc12 : ∀ W, Ext w1 W → Calls Try.prog 12 #[.agg #[.int .u8 o.kind, .slice pA o.path.length pc, .int .i64 o.at_, .slice tA o.to.length tc, .int .u64 o.id, .bool o.leaf, .string o.label, .string o.key, .string o.value, .bool o.gone, .slice cA o.pcs.length cc], .slice tA o.to.length tc] W (Ret W fun r w' => ∃ r', r = .tuple #[r', .bool true] ∧ w'.ownsRow W.heap.size 3 1 r' (o.sh.go [] o.to).length ((o.sh.go [] o.to).map (Value.int .i64))) := fun W hW => ih _ W _ (OpD.rd_ext (hE1.trans hW) h) (RdS.ext (hE1.trans hW) hT)
  have hcT : ∀ W, Ext w1 W → Calls Try.prog 37 #[.slice xA (p.length - 1) xc, .slice tA o.to.length tc] W (Ret W fun r _ => r = .bool (decide (p.dropLast = o.to))) := fun W hW => sameR_any _ _ _ _ _ (RdS.ext (hE1.trans hW) hq) (RdS.ext (hE1.trans hW) hT)
  have hlen : (o.sh.go [] o.to).length ≤ 100000 := by rw [go_len]; exact Nat.le_trans htl' (by omega)
  have hk3 : (o.kind == 3) = true := by rw [hk]; rfl
  have hsd : decide (p = o.path) = true := decide_eq_true hs
  simp only [hsd] at hcP
  clear h hP hT hC hp hq s1 s2 s3 hpl htl hm hne hk hs ih hnt hsd
  rcases hs2 : decide (p.dropLast = o.to) with _ | _
  · rw [if_neg (fun h => absurd h.1 (of_decide_eq_false hs2))]
    simp only [hs2] at hcT
    clear hs2
    go_enter Try.func12, Try.ntmps12
    go_wp2_with (first | (rw [H1.out]; clear H1) | (go_at_call 35; refine (hc35 _ E).mono ?_; clear hc35; rintro e u ⟨r, rfl, rfl, hE⟩; replace E := Ext.trans E hE; clear hE; have B0' := E.cell B0; have B1' := E.cell B1; have B2' := E.cell B2; have B3' := E.cell B3) | (go_at_call 36; refine (hc36 _ E).mono ?_; clear hc36; rintro e u ⟨r, rfl, rfl, hE⟩; replace E := Ext.trans E hE; clear hE; have B0' := E.cell B0; have B1' := E.cell B1; have B2' := E.cell B2; have B3' := E.cell B3) | (go_at_call 37; refine (hcP _ E).mono ?_; clear hcP; rintro e u ⟨r, rfl, rfl, hE⟩; replace E := Ext.trans E hE; clear hE; have B0' := E.cell B0; have B1' := E.cell B1; have B2' := E.cell B2; have B3' := E.cell B3; have B4' := E.cell B4; have B5' := E.cell B5; have B6' := E.cell B6; have B7' := E.cell B7; have B8' := E.cell B8; have B9' := E.cell B9; have B10' := E.cell B10) | (go_at_call 12; refine (hc12 _ E).mono ?_; clear hc12; rintro e u4 ⟨r, rfl, ⟨rt, rfl, hown4⟩, hE⟩; replace E := Ext.trans E hE; have D2 := E.cell B2; have D3 := E.cell B3; have hR4 : RdI u4 (o.sh.go [] o.to) rt := RdS.of_owns hown4; clear hE hown4) | (go_at_call 37; refine (hcT _ E).mono ?_; clear hcT; rintro e u5 ⟨r, rfl, rfl, hE⟩; replace E := Ext.trans E hE; replace hR4 := RdS.ext hE hR4; replace D2 := E.cell B2; clear hE) | (go_at_call 38; refine (child_any (o.sh.go [] o.to) o.at_ _ _ hR4 hlen).mono ?_; rintro e u6 ⟨r, rfl, hown6, hE⟩; have hs6 := E.size; replace E := Ext.trans E hE; clear hE))
    go_ret2
    exact ⟨_, rfl, ⟨_, rfl, owns_mono hown6 (by have := hE1.size; omega)⟩, hE1.trans E⟩
  simp only [hs2] at hcT
  rcases Int.lt_or_le (lastN p) o.at_ with hg | hg
  · rw [if_pos ⟨of_decide_eq_true hs2, hg⟩]
    have g1 : decide (lastN p < o.at_) = true := decide_eq_true hg
    clear hs2
    go_enter Try.func12, Try.ntmps12
    go_wp2_with (first | (rw [H1.out]; clear H1) | (go_at_call 35; refine (hc35 _ E).mono ?_; clear hc35; rintro e u ⟨r, rfl, rfl, hE⟩; replace E := Ext.trans E hE; clear hE; have B0' := E.cell B0; have B1' := E.cell B1; have B2' := E.cell B2; have B3' := E.cell B3) | (go_at_call 36; refine (hc36 _ E).mono ?_; clear hc36; rintro e u ⟨r, rfl, rfl, hE⟩; replace E := Ext.trans E hE; clear hE; have B0' := E.cell B0; have B1' := E.cell B1; have B2' := E.cell B2; have B3' := E.cell B3) | (go_at_call 37; refine (hcP _ E).mono ?_; clear hcP; rintro e u ⟨r, rfl, rfl, hE⟩; replace E := Ext.trans E hE; clear hE; have B0' := E.cell B0; have B1' := E.cell B1; have B2' := E.cell B2; have B3' := E.cell B3; have B4' := E.cell B4; have B5' := E.cell B5; have B6' := E.cell B6; have B7' := E.cell B7; have B8' := E.cell B8; have B9' := E.cell B9; have B10' := E.cell B10) | (go_at_call 12; refine (hc12 _ E).mono ?_; clear hc12; rintro e u4 ⟨r, rfl, ⟨rt, rfl, hown4⟩, hE⟩; replace E := Ext.trans E hE; have D2 := E.cell B2; have D3 := E.cell B3; have hR4 : RdI u4 (o.sh.go [] o.to) rt := RdS.of_owns hown4; clear hE hown4) | (go_at_call 37; refine (hcT _ E).mono ?_; clear hcT; rintro e u5 ⟨r, rfl, rfl, hE⟩; replace E := Ext.trans E hE; replace hR4 := RdS.ext hE hR4; replace D2 := E.cell B2; clear hE) | (go_at_call 38; refine (child_any (o.sh.go [] o.to) (wrap64 (o.at_ - 1)) _ _ hR4 hlen).mono ?_; rintro e u6 ⟨r, rfl, hown6, hE⟩; have hs6 := E.size; replace E := Ext.trans E hE; clear hE))
    go_ret2
    exact ⟨_, rfl, ⟨_, rfl, owns_mono hown6 (by have := hE1.size; omega)⟩, hE1.trans E⟩
  · rw [if_neg (fun h => absurd h.2 (by omega))]
    have g1 : decide (lastN p < o.at_) = false := decide_eq_false (by omega)
    clear hs2
    go_enter Try.func12, Try.ntmps12
    go_wp2_with (first | (rw [H1.out]; clear H1) | (go_at_call 35; refine (hc35 _ E).mono ?_; clear hc35; rintro e u ⟨r, rfl, rfl, hE⟩; replace E := Ext.trans E hE; clear hE; have B0' := E.cell B0; have B1' := E.cell B1; have B2' := E.cell B2; have B3' := E.cell B3) | (go_at_call 36; refine (hc36 _ E).mono ?_; clear hc36; rintro e u ⟨r, rfl, rfl, hE⟩; replace E := Ext.trans E hE; clear hE; have B0' := E.cell B0; have B1' := E.cell B1; have B2' := E.cell B2; have B3' := E.cell B3) | (go_at_call 37; refine (hcP _ E).mono ?_; clear hcP; rintro e u ⟨r, rfl, rfl, hE⟩; replace E := Ext.trans E hE; clear hE; have B0' := E.cell B0; have B1' := E.cell B1; have B2' := E.cell B2; have B3' := E.cell B3; have B4' := E.cell B4; have B5' := E.cell B5; have B6' := E.cell B6; have B7' := E.cell B7; have B8' := E.cell B8; have B9' := E.cell B9; have B10' := E.cell B10) | (go_at_call 12; refine (hc12 _ E).mono ?_; clear hc12; rintro e u4 ⟨r, rfl, ⟨rt, rfl, hown4⟩, hE⟩; replace E := Ext.trans E hE; have D2 := E.cell B2; have D3 := E.cell B3; have hR4 : RdI u4 (o.sh.go [] o.to) rt := RdS.of_owns hown4; clear hE hown4) | (go_at_call 37; refine (hcT _ E).mono ?_; clear hcT; rintro e u5 ⟨r, rfl, rfl, hE⟩; replace E := Ext.trans E hE; replace hR4 := RdS.ext hE hR4; replace D2 := E.cell B2; clear hE) | (go_at_call 38; refine (child_any (o.sh.go [] o.to) o.at_ _ _ hR4 hlen).mono ?_; rintro e u6 ⟨r, rfl, hown6, hE⟩; have hs6 := E.size; replace E := Ext.trans E hE; clear hE))
    go_ret2
    exact ⟨_, rfl, ⟨_, rfl, owns_mono hown6 (by have := hE1.size; omega)⟩, hE1.trans E⟩

set_option maxRecDepth 100000 in
set_option maxHeartbeats 4000000 in
theorem nodeR_none_ (o : OpD) (v pv : Value) (p : List Int) (w : World) (h : o.rd w v) (hp : RdI w p pv) (hm : o.sh.moves = true) (hne : p ≠ []) (hs : ¬ (o.kind = 3 ∧ p = o.path)) (hnq : o.sh.node p.dropLast = none) (_ : o.to.length ≤ 1000) (hpl' : p.length ≤ 1000)
    (ih : ∀ v w pv, o.rd w v → RdI w p.dropLast pv → Calls Try.prog 12 #[v, pv] w (Ret w fun r w' => RdN w.heap.size w' (o.sh.node p.dropLast) r)) :
    Calls Try.prog 12 #[v, pv] w (Ret w fun r _ => r = .tuple #[.slice none 0 0, .bool false]) := by
  obtain ⟨hkd, hkp, _⟩ := moves_kind hm
  rw [hnq] at ih
  obtain ⟨pv, tv, cv, rfl, hP, hT, hC, s1, s2, s3⟩ := h
  have h : o.rd w (.agg #[.int .u8 o.kind, pv, .int .i64 o.at_, tv, .int .u64 o.id, .bool o.leaf, .string o.label, .string o.key, .string o.value, .bool o.gone, cv]) := ⟨pv, tv, cv, rfl, hP, hT, hC, s1, s2, s3⟩
  have hP0 := hP
  have hT0 := hT
  have hC0 := hC
  obtain ⟨pA, pc, rfl, _, _, hpc, _⟩ := hP0
  obtain ⟨tA, tc, rfl, _, _, htc, _⟩ := hT0
  obtain ⟨cA, cc, rfl, _⟩ := hC0
  have hpl : o.path.length ≤ pc := by obtain ⟨_, _, e, _, h1, _⟩ := hP; simp only [Value.slice.injEq] at e; omega
  have htl : o.to.length ≤ tc := by obtain ⟨_, _, e, _, h1, _⟩ := hT; simp only [Value.slice.injEq] at e; omega
  unfold maxLen at hpc htc
  have hp0 := hp
  obtain ⟨xA, xc, rfl, _, x1, x2, x3⟩ := hp0
  unfold maxLen at x2
  obtain ⟨w1, hw1⟩ : ∃ w1, w.alloc (.cells #[.int .u8 o.kind, .slice pA o.path.length pc, .int .i64 o.at_, .slice tA o.to.length tc, .int .u64 o.id, .bool o.leaf, .string o.label, .string o.key, .string o.value, .bool o.gone, .slice cA o.pcs.length cc] 26) = w1 := ⟨_, rfl⟩
  have hE1 : Ext w w1 := by rw [← hw1]; exact (Ext.refl w).alloc _
  have B0 : w1.cell? ⟨w.heap.size, 0, none⟩ = some (.int .u8 o.kind) := by rw [← hw1]; exact (NBox.new _ _ _).cell 0
  have B1 : w1.cell? ⟨w.heap.size, 1, none⟩ = some (.slice pA o.path.length pc) := by rw [← hw1]; exact (NBox.new _ _ _).cell 1
  have B2 : w1.cell? ⟨w.heap.size, 2, none⟩ = some (.int .i64 o.at_) := by rw [← hw1]; exact (NBox.new _ _ _).cell 2
  have B3 : w1.cell? ⟨w.heap.size, 3, none⟩ = some (.slice tA o.to.length tc) := by rw [← hw1]; exact (NBox.new _ _ _).cell 3
  have B4 : w1.cell? ⟨w.heap.size, 4, none⟩ = some (.int .u64 o.id) := by rw [← hw1]; exact (NBox.new _ _ _).cell 4
  have B5 : w1.cell? ⟨w.heap.size, 5, none⟩ = some (.bool o.leaf) := by rw [← hw1]; exact (NBox.new _ _ _).cell 5
  have B6 : w1.cell? ⟨w.heap.size, 6, none⟩ = some (.string o.label) := by rw [← hw1]; exact (NBox.new _ _ _).cell 6
  have B7 : w1.cell? ⟨w.heap.size, 7, none⟩ = some (.string o.key) := by rw [← hw1]; exact (NBox.new _ _ _).cell 7
  have B8 : w1.cell? ⟨w.heap.size, 8, none⟩ = some (.string o.value) := by rw [← hw1]; exact (NBox.new _ _ _).cell 8
  have B9 : w1.cell? ⟨w.heap.size, 9, none⟩ = some (.bool o.gone) := by rw [← hw1]; exact (NBox.new _ _ _).cell 9
  have B10 : w1.cell? ⟨w.heap.size, 10, none⟩ = some (.slice cA o.pcs.length cc) := by rw [← hw1]; exact (NBox.new _ _ _).cell 10
  have E := Ext.refl w1
  have H1 := Lib.hid hw1
  clear hw1
  have hc35 : ∀ W, Ext w1 W → Calls Try.prog 35 #[.agg #[.int .u8 o.kind, .slice pA o.path.length pc, .int .i64 o.at_, .slice tA o.to.length tc, .int .u64 o.id, .bool o.leaf, .string o.label, .string o.key, .string o.value, .bool o.gone, .slice cA o.pcs.length cc]] W (Ret W fun r _ => r = .bool true) := fun W hW => by
    have := movesR_any o _ W (OpD.rd_ext (hE1.trans hW) h)
    rwa [hm] at this
  have hpos : 0 < p.length := List.length_pos_iff.2 hne
  have hd : ((p.length : Int) == 0) = false := by rw [beq_eq_false_iff_ne]; omega
  have hd2 : (p.length == 0) = false := by rw [beq_eq_false_iff_ne]; omega
  have hc36 : ∀ W, Ext w1 W → Calls Try.prog 36 #[.slice xA p.length xc] W (Ret W fun r _ => r = .tuple #[.slice xA (p.length - 1) xc, .int .i64 (lastN p)]) := fun W hW => (parentR_any _ _ _ (RdS.ext (hE1.trans hW) hp) hne).mono (by
    rintro e w' ⟨r, rfl, ⟨A, c, he, rfl⟩, hE⟩
    simp only [Value.slice.injEq, true_and] at he
    obtain ⟨rfl, rfl⟩ := he
    exact ⟨_, rfl, rfl, hE⟩)
  have hq : RdI w p.dropLast (.slice xA (p.length - 1) xc) := by
    have := RdI.take hp (p.length - 1) (by omega)
    rw [dropLast_take] at this
    exact this
  have hcP : ∀ W, Ext w1 W → Calls Try.prog 37 #[.slice xA p.length xc, .slice pA o.path.length pc] W (Ret W fun r _ => r = .bool (decide (p = o.path))) := fun W hW => sameR_any _ _ _ _ _ (RdS.ext (hE1.trans hW) hp) (RdS.ext (hE1.trans hW) hP)
  have hc12 : ∀ W, Ext w1 W → Calls Try.prog 12 #[.agg #[.int .u8 o.kind, .slice pA o.path.length pc, .int .i64 o.at_, .slice tA o.to.length tc, .int .u64 o.id, .bool o.leaf, .string o.label, .string o.key, .string o.value, .bool o.gone, .slice cA o.pcs.length cc], .slice xA (p.length - 1) xc] W (Ret W fun r w' => r = .tuple #[.slice none 0 0, .bool false]) := fun W hW => ih _ W _ (OpD.rd_ext (hE1.trans hW) h) (RdS.ext (hE1.trans hW) hq)
  have hc39 : ∀ W, Ext w1 W → Calls Try.prog 39 #[.agg #[.int .u8 o.kind, .slice pA o.path.length pc, .int .i64 o.at_, .slice tA o.to.length tc, .int .u64 o.id, .bool o.leaf, .string o.label, .string o.key, .string o.value, .bool o.gone, .slice cA o.pcs.length cc], .slice xA (p.length - 1) xc, .int .i64 (lastN p)] W (Ret W fun r _ => ∃ n b, r = .tuple #[.int .i64 n, .bool b]) := fun W hW => (childR_any o _ _ p.dropLast (lastN p) W (OpD.rd_ext (hE1.trans hW) h) (RdS.ext (hE1.trans hW) hq) hkd hkp).mono (by
    rintro e w' ⟨r, rfl, ⟨n, b, rfl, hb⟩, hE⟩
    exact ⟨_, rfl, ⟨n, b, rfl⟩, hE⟩)
  clear h hP hT hC hp hq s1 s2 s3 hpl htl hm hne ih hkd hkp hnq
  by_cases hk : o.kind = 3
  · have hk3 : (o.kind == 3) = true := by rw [hk]; rfl
    have hsd : decide (p = o.path) = false := decide_eq_false (fun h => hs ⟨hk, h⟩)
    simp only [hsd] at hcP
    clear hs hsd hk
    go_enter Try.func12, Try.ntmps12
    go_wp2_with (first | (rw [H1.out]; clear H1) | (go_at_call 35; refine (hc35 _ E).mono ?_; clear hc35; rintro e u ⟨r, rfl, rfl, hE⟩; replace E := Ext.trans E hE; clear hE; have B0' := E.cell B0; have B1' := E.cell B1; have B2' := E.cell B2; have B3' := E.cell B3; have B4' := E.cell B4; have B5' := E.cell B5; have B6' := E.cell B6; have B7' := E.cell B7; have B8' := E.cell B8; have B9' := E.cell B9; have B10' := E.cell B10) | (go_at_call 36; refine (hc36 _ E).mono ?_; clear hc36; rintro e u ⟨r, rfl, rfl, hE⟩; replace E := Ext.trans E hE; clear hE; have B0' := E.cell B0; have B1' := E.cell B1; have B2' := E.cell B2; have B3' := E.cell B3; have B4' := E.cell B4; have B5' := E.cell B5; have B6' := E.cell B6; have B7' := E.cell B7; have B8' := E.cell B8; have B9' := E.cell B9; have B10' := E.cell B10) | (go_at_call 37; refine (hcP _ E).mono ?_; clear hcP; rintro e u ⟨r, rfl, rfl, hE⟩; replace E := Ext.trans E hE; clear hE; have B0' := E.cell B0; have B1' := E.cell B1; have B2' := E.cell B2; have B3' := E.cell B3; have B4' := E.cell B4; have B5' := E.cell B5; have B6' := E.cell B6; have B7' := E.cell B7; have B8' := E.cell B8; have B9' := E.cell B9; have B10' := E.cell B10) | (go_at_call 12; refine (hc12 _ E).mono ?_; clear hc12; rintro e u4 ⟨r, rfl, rfl, hE⟩; replace E := Ext.trans E hE; have D0 := E.cell B0; have D1 := E.cell B1; have D2 := E.cell B2; have D3 := E.cell B3; have D4 := E.cell B4; have D5 := E.cell B5; have D6 := E.cell B6; have D7 := E.cell B7; have D8 := E.cell B8; have D9 := E.cell B9; have D10 := E.cell B10; clear hE) | (go_at_call 39; refine (hc39 _ E).mono ?_; clear hc39; rintro e u5 ⟨r, rfl, ⟨nn, bb, rfl⟩, hE⟩; replace E := Ext.trans E hE; clear hE))
    go_ret2
    exact ⟨_, rfl, rfl, hE1.trans E⟩
  have hk3 : (o.kind == 3) = false := beq_eq_false_iff_ne.2 hk
  clear hcP hs hk
  go_enter Try.func12, Try.ntmps12
  go_wp2_with (first | (rw [H1.out]; clear H1) | (go_at_call 35; refine (hc35 _ E).mono ?_; clear hc35; rintro e u ⟨r, rfl, rfl, hE⟩; replace E := Ext.trans E hE; clear hE; have B0' := E.cell B0; have B1' := E.cell B1; have B2' := E.cell B2; have B3' := E.cell B3; have B4' := E.cell B4; have B5' := E.cell B5; have B6' := E.cell B6; have B7' := E.cell B7; have B8' := E.cell B8; have B9' := E.cell B9; have B10' := E.cell B10) | (go_at_call 36; refine (hc36 _ E).mono ?_; clear hc36; rintro e u ⟨r, rfl, rfl, hE⟩; replace E := Ext.trans E hE; clear hE; have B0' := E.cell B0; have B1' := E.cell B1; have B2' := E.cell B2; have B3' := E.cell B3; have B4' := E.cell B4; have B5' := E.cell B5; have B6' := E.cell B6; have B7' := E.cell B7; have B8' := E.cell B8; have B9' := E.cell B9; have B10' := E.cell B10) | (go_at_call 12; refine (hc12 _ E).mono ?_; clear hc12; rintro e u4 ⟨r, rfl, rfl, hE⟩; replace E := Ext.trans E hE; have D0 := E.cell B0; have D1 := E.cell B1; have D2 := E.cell B2; have D3 := E.cell B3; have D4 := E.cell B4; have D5 := E.cell B5; have D6 := E.cell B6; have D7 := E.cell B7; have D8 := E.cell B8; have D9 := E.cell B9; have D10 := E.cell B10; clear hE) | (go_at_call 39; refine (hc39 _ E).mono ?_; clear hc39; rintro e u5 ⟨r, rfl, ⟨nn, bb, rfl⟩, hE⟩; replace E := Ext.trans E hE; clear hE))
  go_ret2
  exact ⟨_, rfl, rfl, hE1.trans E⟩

set_option maxRecDepth 100000 in
set_option maxHeartbeats 4000000 in
theorem nodeR_gone (o : OpD) (v pv : Value) (p : List Int) (w : World) (h : o.rd w v) (hp : RdI w p pv) (hm : o.sh.moves = true) (hne : p ≠ []) (hs : ¬ (o.kind = 3 ∧ p = o.path)) (r0 : List Int) (hnq : o.sh.node p.dropLast = some r0) (hch : o.sh.child p.dropLast (lastN p) = none) (htl' : o.to.length ≤ 1000) (hpl' : p.length ≤ 1000)
    (ih : ∀ v w pv, o.rd w v → RdI w p.dropLast pv → Calls Try.prog 12 #[v, pv] w (Ret w fun r w' => RdN w.heap.size w' (o.sh.node p.dropLast) r)) :
    Calls Try.prog 12 #[v, pv] w (Ret w fun r _ => r = .tuple #[.slice none 0 0, .bool false]) := by
  obtain ⟨hkd, hkp, _⟩ := moves_kind hm
  have hlen : r0.length ≤ 100000 := by
    have := node_len _ hnq
    have h2 : p.dropLast.length = p.length - 1 := by simp
    have h3 : o.sh.to.length ≤ 1000 := htl'
    omega
  rw [hnq] at ih
  obtain ⟨pv, tv, cv, rfl, hP, hT, hC, s1, s2, s3⟩ := h
  have h : o.rd w (.agg #[.int .u8 o.kind, pv, .int .i64 o.at_, tv, .int .u64 o.id, .bool o.leaf, .string o.label, .string o.key, .string o.value, .bool o.gone, cv]) := ⟨pv, tv, cv, rfl, hP, hT, hC, s1, s2, s3⟩
  have hP0 := hP
  have hT0 := hT
  have hC0 := hC
  obtain ⟨pA, pc, rfl, _, _, hpc, _⟩ := hP0
  obtain ⟨tA, tc, rfl, _, _, htc, _⟩ := hT0
  obtain ⟨cA, cc, rfl, _⟩ := hC0
  have hpl : o.path.length ≤ pc := by obtain ⟨_, _, e, _, h1, _⟩ := hP; simp only [Value.slice.injEq] at e; omega
  have htl : o.to.length ≤ tc := by obtain ⟨_, _, e, _, h1, _⟩ := hT; simp only [Value.slice.injEq] at e; omega
  unfold maxLen at hpc htc
  have hp0 := hp
  obtain ⟨xA, xc, rfl, _, x1, x2, x3⟩ := hp0
  unfold maxLen at x2
  obtain ⟨w1, hw1⟩ : ∃ w1, w.alloc (.cells #[.int .u8 o.kind, .slice pA o.path.length pc, .int .i64 o.at_, .slice tA o.to.length tc, .int .u64 o.id, .bool o.leaf, .string o.label, .string o.key, .string o.value, .bool o.gone, .slice cA o.pcs.length cc] 26) = w1 := ⟨_, rfl⟩
  have hE1 : Ext w w1 := by rw [← hw1]; exact (Ext.refl w).alloc _
  have B0 : w1.cell? ⟨w.heap.size, 0, none⟩ = some (.int .u8 o.kind) := by rw [← hw1]; exact (NBox.new _ _ _).cell 0
  have B1 : w1.cell? ⟨w.heap.size, 1, none⟩ = some (.slice pA o.path.length pc) := by rw [← hw1]; exact (NBox.new _ _ _).cell 1
  have B2 : w1.cell? ⟨w.heap.size, 2, none⟩ = some (.int .i64 o.at_) := by rw [← hw1]; exact (NBox.new _ _ _).cell 2
  have B3 : w1.cell? ⟨w.heap.size, 3, none⟩ = some (.slice tA o.to.length tc) := by rw [← hw1]; exact (NBox.new _ _ _).cell 3
  have B4 : w1.cell? ⟨w.heap.size, 4, none⟩ = some (.int .u64 o.id) := by rw [← hw1]; exact (NBox.new _ _ _).cell 4
  have B5 : w1.cell? ⟨w.heap.size, 5, none⟩ = some (.bool o.leaf) := by rw [← hw1]; exact (NBox.new _ _ _).cell 5
  have B6 : w1.cell? ⟨w.heap.size, 6, none⟩ = some (.string o.label) := by rw [← hw1]; exact (NBox.new _ _ _).cell 6
  have B7 : w1.cell? ⟨w.heap.size, 7, none⟩ = some (.string o.key) := by rw [← hw1]; exact (NBox.new _ _ _).cell 7
  have B8 : w1.cell? ⟨w.heap.size, 8, none⟩ = some (.string o.value) := by rw [← hw1]; exact (NBox.new _ _ _).cell 8
  have B9 : w1.cell? ⟨w.heap.size, 9, none⟩ = some (.bool o.gone) := by rw [← hw1]; exact (NBox.new _ _ _).cell 9
  have B10 : w1.cell? ⟨w.heap.size, 10, none⟩ = some (.slice cA o.pcs.length cc) := by rw [← hw1]; exact (NBox.new _ _ _).cell 10
  have E := Ext.refl w1
  have H1 := Lib.hid hw1
  clear hw1
  have hc35 : ∀ W, Ext w1 W → Calls Try.prog 35 #[.agg #[.int .u8 o.kind, .slice pA o.path.length pc, .int .i64 o.at_, .slice tA o.to.length tc, .int .u64 o.id, .bool o.leaf, .string o.label, .string o.key, .string o.value, .bool o.gone, .slice cA o.pcs.length cc]] W (Ret W fun r _ => r = .bool true) := fun W hW => by
    have := movesR_any o _ W (OpD.rd_ext (hE1.trans hW) h)
    rwa [hm] at this
  have hpos : 0 < p.length := List.length_pos_iff.2 hne
  have hd : ((p.length : Int) == 0) = false := by rw [beq_eq_false_iff_ne]; omega
  have hd2 : (p.length == 0) = false := by rw [beq_eq_false_iff_ne]; omega
  have hc36 : ∀ W, Ext w1 W → Calls Try.prog 36 #[.slice xA p.length xc] W (Ret W fun r _ => r = .tuple #[.slice xA (p.length - 1) xc, .int .i64 (lastN p)]) := fun W hW => (parentR_any _ _ _ (RdS.ext (hE1.trans hW) hp) hne).mono (by
    rintro e w' ⟨r, rfl, ⟨A, c, he, rfl⟩, hE⟩
    simp only [Value.slice.injEq, true_and] at he
    obtain ⟨rfl, rfl⟩ := he
    exact ⟨_, rfl, rfl, hE⟩)
  have hq : RdI w p.dropLast (.slice xA (p.length - 1) xc) := by
    have := RdI.take hp (p.length - 1) (by omega)
    rw [dropLast_take] at this
    exact this
  have hcP : ∀ W, Ext w1 W → Calls Try.prog 37 #[.slice xA p.length xc, .slice pA o.path.length pc] W (Ret W fun r _ => r = .bool (decide (p = o.path))) := fun W hW => sameR_any _ _ _ _ _ (RdS.ext (hE1.trans hW) hp) (RdS.ext (hE1.trans hW) hP)
  have hc12 : ∀ W, Ext w1 W → Calls Try.prog 12 #[.agg #[.int .u8 o.kind, .slice pA o.path.length pc, .int .i64 o.at_, .slice tA o.to.length tc, .int .u64 o.id, .bool o.leaf, .string o.label, .string o.key, .string o.value, .bool o.gone, .slice cA o.pcs.length cc], .slice xA (p.length - 1) xc] W (Ret W fun r w' => ∃ r', r = .tuple #[r', .bool true] ∧ w'.ownsRow W.heap.size 3 1 r' r0.length (r0.map (Value.int .i64))) := fun W hW => ih _ W _ (OpD.rd_ext (hE1.trans hW) h) (RdS.ext (hE1.trans hW) hq)
  have hc39 : ∀ W, Ext w1 W → Calls Try.prog 39 #[.agg #[.int .u8 o.kind, .slice pA o.path.length pc, .int .i64 o.at_, .slice tA o.to.length tc, .int .u64 o.id, .bool o.leaf, .string o.label, .string o.key, .string o.value, .bool o.gone, .slice cA o.pcs.length cc], .slice xA (p.length - 1) xc, .int .i64 (lastN p)] W (Ret W fun r _ => ∃ n, r = .tuple #[.int .i64 n, .bool false]) := fun W hW => (childR_any o _ _ p.dropLast (lastN p) W (OpD.rd_ext (hE1.trans hW) h) (RdS.ext (hE1.trans hW) hq) hkd hkp).mono (by
    rintro e w' ⟨r, rfl, ⟨n, b, rfl, hb⟩, hE⟩
    rw [hch] at hb; cases b with | true => cases hb | false => exact ⟨_, rfl, ⟨n, rfl⟩, hE⟩)
  clear h hP hT hC hp hq s1 s2 s3 hpl htl hm hne ih hkd hkp hnq hch
  by_cases hk : o.kind = 3
  · have hk3 : (o.kind == 3) = true := by rw [hk]; rfl
    have hsd : decide (p = o.path) = false := decide_eq_false (fun h => hs ⟨hk, h⟩)
    simp only [hsd] at hcP
    clear hs hsd hk
    go_enter Try.func12, Try.ntmps12
    go_wp2_with (first | (rw [H1.out]; clear H1) | (go_at_call 35; refine (hc35 _ E).mono ?_; clear hc35; rintro e u ⟨r, rfl, rfl, hE⟩; replace E := Ext.trans E hE; clear hE; have B0' := E.cell B0; have B1' := E.cell B1; have B2' := E.cell B2; have B3' := E.cell B3; have B4' := E.cell B4; have B5' := E.cell B5; have B6' := E.cell B6; have B7' := E.cell B7; have B8' := E.cell B8; have B9' := E.cell B9; have B10' := E.cell B10) | (go_at_call 36; refine (hc36 _ E).mono ?_; clear hc36; rintro e u ⟨r, rfl, rfl, hE⟩; replace E := Ext.trans E hE; clear hE; have B0' := E.cell B0; have B1' := E.cell B1; have B2' := E.cell B2; have B3' := E.cell B3; have B4' := E.cell B4; have B5' := E.cell B5; have B6' := E.cell B6; have B7' := E.cell B7; have B8' := E.cell B8; have B9' := E.cell B9; have B10' := E.cell B10) | (go_at_call 37; refine (hcP _ E).mono ?_; clear hcP; rintro e u ⟨r, rfl, rfl, hE⟩; replace E := Ext.trans E hE; clear hE; have B0' := E.cell B0; have B1' := E.cell B1; have B2' := E.cell B2; have B3' := E.cell B3; have B4' := E.cell B4; have B5' := E.cell B5; have B6' := E.cell B6; have B7' := E.cell B7; have B8' := E.cell B8; have B9' := E.cell B9; have B10' := E.cell B10) | (go_at_call 12; refine (hc12 _ E).mono ?_; clear hc12; rintro e u4 ⟨r, rfl, ⟨rt, rfl, hown4⟩, hE⟩; replace E := Ext.trans E hE; have D0 := E.cell B0; have D1 := E.cell B1; have D2 := E.cell B2; have D3 := E.cell B3; have D4 := E.cell B4; have D5 := E.cell B5; have D6 := E.cell B6; have D7 := E.cell B7; have D8 := E.cell B8; have D9 := E.cell B9; have D10 := E.cell B10; have hR4 := RdS.of_owns hown4; clear hE hown4) | (go_at_call 39; refine (hc39 _ E).mono ?_; clear hc39; rintro e u5 ⟨r, rfl, ⟨nn, rfl⟩, hE⟩; replace E := Ext.trans E hE; replace hR4 := RdS.ext hE hR4; clear hE))
    go_ret2
    exact ⟨_, rfl, rfl, hE1.trans E⟩
  have hk3 : (o.kind == 3) = false := beq_eq_false_iff_ne.2 hk
  clear hcP hs hk
  go_enter Try.func12, Try.ntmps12
  go_wp2_with (first | (rw [H1.out]; clear H1) | (go_at_call 35; refine (hc35 _ E).mono ?_; clear hc35; rintro e u ⟨r, rfl, rfl, hE⟩; replace E := Ext.trans E hE; clear hE; have B0' := E.cell B0; have B1' := E.cell B1; have B2' := E.cell B2; have B3' := E.cell B3; have B4' := E.cell B4; have B5' := E.cell B5; have B6' := E.cell B6; have B7' := E.cell B7; have B8' := E.cell B8; have B9' := E.cell B9; have B10' := E.cell B10) | (go_at_call 36; refine (hc36 _ E).mono ?_; clear hc36; rintro e u ⟨r, rfl, rfl, hE⟩; replace E := Ext.trans E hE; clear hE; have B0' := E.cell B0; have B1' := E.cell B1; have B2' := E.cell B2; have B3' := E.cell B3; have B4' := E.cell B4; have B5' := E.cell B5; have B6' := E.cell B6; have B7' := E.cell B7; have B8' := E.cell B8; have B9' := E.cell B9; have B10' := E.cell B10) | (go_at_call 12; refine (hc12 _ E).mono ?_; clear hc12; rintro e u4 ⟨r, rfl, ⟨rt, rfl, hown4⟩, hE⟩; replace E := Ext.trans E hE; have D0 := E.cell B0; have D1 := E.cell B1; have D2 := E.cell B2; have D3 := E.cell B3; have D4 := E.cell B4; have D5 := E.cell B5; have D6 := E.cell B6; have D7 := E.cell B7; have D8 := E.cell B8; have D9 := E.cell B9; have D10 := E.cell B10; have hR4 := RdS.of_owns hown4; clear hE hown4) | (go_at_call 39; refine (hc39 _ E).mono ?_; clear hc39; rintro e u5 ⟨r, rfl, ⟨nn, rfl⟩, hE⟩; replace E := Ext.trans E hE; replace hR4 := RdS.ext hE hR4; clear hE))
  go_ret2
  exact ⟨_, rfl, rfl, hE1.trans E⟩

set_option maxRecDepth 100000 in
set_option maxHeartbeats 4000000 in
theorem nodeR_some (o : OpD) (v pv : Value) (p : List Int) (w : World) (h : o.rd w v) (hp : RdI w p pv) (hm : o.sh.moves = true) (hne : p ≠ []) (hs : ¬ (o.kind = 3 ∧ p = o.path)) (r0 : List Int) (n0 : Int) (hnq : o.sh.node p.dropLast = some r0) (hch : o.sh.child p.dropLast (lastN p) = some n0) (htl' : o.to.length ≤ 1000) (hpl' : p.length ≤ 1000)
    (ih : ∀ v w pv, o.rd w v → RdI w p.dropLast pv → Calls Try.prog 12 #[v, pv] w (Ret w fun r w' => RdN w.heap.size w' (o.sh.node p.dropLast) r)) :
    Calls Try.prog 12 #[v, pv] w (Ret w fun r w' => ∃ r', r = .tuple #[r', .bool true] ∧ w'.ownsRow w.heap.size 3 1 r' (r0 ++ [n0]).length ((r0 ++ [n0]).map (Value.int .i64))) := by
  obtain ⟨hkd, hkp, _⟩ := moves_kind hm
  have hlen : r0.length ≤ 100000 := by
    have := node_len _ hnq
    have h2 : p.dropLast.length = p.length - 1 := by simp
    have h3 : o.sh.to.length ≤ 1000 := htl'
    omega
  rw [hnq] at ih
  obtain ⟨pv, tv, cv, rfl, hP, hT, hC, s1, s2, s3⟩ := h
  have h : o.rd w (.agg #[.int .u8 o.kind, pv, .int .i64 o.at_, tv, .int .u64 o.id, .bool o.leaf, .string o.label, .string o.key, .string o.value, .bool o.gone, cv]) := ⟨pv, tv, cv, rfl, hP, hT, hC, s1, s2, s3⟩
  have hP0 := hP
  have hT0 := hT
  have hC0 := hC
  obtain ⟨pA, pc, rfl, _, _, hpc, _⟩ := hP0
  obtain ⟨tA, tc, rfl, _, _, htc, _⟩ := hT0
  obtain ⟨cA, cc, rfl, _⟩ := hC0
  have hpl : o.path.length ≤ pc := by obtain ⟨_, _, e, _, h1, _⟩ := hP; simp only [Value.slice.injEq] at e; omega
  have htl : o.to.length ≤ tc := by obtain ⟨_, _, e, _, h1, _⟩ := hT; simp only [Value.slice.injEq] at e; omega
  unfold maxLen at hpc htc
  have hp0 := hp
  obtain ⟨xA, xc, rfl, _, x1, x2, x3⟩ := hp0
  unfold maxLen at x2
  obtain ⟨w1, hw1⟩ : ∃ w1, w.alloc (.cells #[.int .u8 o.kind, .slice pA o.path.length pc, .int .i64 o.at_, .slice tA o.to.length tc, .int .u64 o.id, .bool o.leaf, .string o.label, .string o.key, .string o.value, .bool o.gone, .slice cA o.pcs.length cc] 26) = w1 := ⟨_, rfl⟩
  have hE1 : Ext w w1 := by rw [← hw1]; exact (Ext.refl w).alloc _
  have B0 : w1.cell? ⟨w.heap.size, 0, none⟩ = some (.int .u8 o.kind) := by rw [← hw1]; exact (NBox.new _ _ _).cell 0
  have B1 : w1.cell? ⟨w.heap.size, 1, none⟩ = some (.slice pA o.path.length pc) := by rw [← hw1]; exact (NBox.new _ _ _).cell 1
  have B2 : w1.cell? ⟨w.heap.size, 2, none⟩ = some (.int .i64 o.at_) := by rw [← hw1]; exact (NBox.new _ _ _).cell 2
  have B3 : w1.cell? ⟨w.heap.size, 3, none⟩ = some (.slice tA o.to.length tc) := by rw [← hw1]; exact (NBox.new _ _ _).cell 3
  have B4 : w1.cell? ⟨w.heap.size, 4, none⟩ = some (.int .u64 o.id) := by rw [← hw1]; exact (NBox.new _ _ _).cell 4
  have B5 : w1.cell? ⟨w.heap.size, 5, none⟩ = some (.bool o.leaf) := by rw [← hw1]; exact (NBox.new _ _ _).cell 5
  have B6 : w1.cell? ⟨w.heap.size, 6, none⟩ = some (.string o.label) := by rw [← hw1]; exact (NBox.new _ _ _).cell 6
  have B7 : w1.cell? ⟨w.heap.size, 7, none⟩ = some (.string o.key) := by rw [← hw1]; exact (NBox.new _ _ _).cell 7
  have B8 : w1.cell? ⟨w.heap.size, 8, none⟩ = some (.string o.value) := by rw [← hw1]; exact (NBox.new _ _ _).cell 8
  have B9 : w1.cell? ⟨w.heap.size, 9, none⟩ = some (.bool o.gone) := by rw [← hw1]; exact (NBox.new _ _ _).cell 9
  have B10 : w1.cell? ⟨w.heap.size, 10, none⟩ = some (.slice cA o.pcs.length cc) := by rw [← hw1]; exact (NBox.new _ _ _).cell 10
  have E := Ext.refl w1
  have H1 := Lib.hid hw1
  clear hw1
  have hc35 : ∀ W, Ext w1 W → Calls Try.prog 35 #[.agg #[.int .u8 o.kind, .slice pA o.path.length pc, .int .i64 o.at_, .slice tA o.to.length tc, .int .u64 o.id, .bool o.leaf, .string o.label, .string o.key, .string o.value, .bool o.gone, .slice cA o.pcs.length cc]] W (Ret W fun r _ => r = .bool true) := fun W hW => by
    have := movesR_any o _ W (OpD.rd_ext (hE1.trans hW) h)
    rwa [hm] at this
  have hpos : 0 < p.length := List.length_pos_iff.2 hne
  have hd : ((p.length : Int) == 0) = false := by rw [beq_eq_false_iff_ne]; omega
  have hd2 : (p.length == 0) = false := by rw [beq_eq_false_iff_ne]; omega
  have hc36 : ∀ W, Ext w1 W → Calls Try.prog 36 #[.slice xA p.length xc] W (Ret W fun r _ => r = .tuple #[.slice xA (p.length - 1) xc, .int .i64 (lastN p)]) := fun W hW => (parentR_any _ _ _ (RdS.ext (hE1.trans hW) hp) hne).mono (by
    rintro e w' ⟨r, rfl, ⟨A, c, he, rfl⟩, hE⟩
    simp only [Value.slice.injEq, true_and] at he
    obtain ⟨rfl, rfl⟩ := he
    exact ⟨_, rfl, rfl, hE⟩)
  have hq : RdI w p.dropLast (.slice xA (p.length - 1) xc) := by
    have := RdI.take hp (p.length - 1) (by omega)
    rw [dropLast_take] at this
    exact this
  have hcP : ∀ W, Ext w1 W → Calls Try.prog 37 #[.slice xA p.length xc, .slice pA o.path.length pc] W (Ret W fun r _ => r = .bool (decide (p = o.path))) := fun W hW => sameR_any _ _ _ _ _ (RdS.ext (hE1.trans hW) hp) (RdS.ext (hE1.trans hW) hP)
  have hc12 : ∀ W, Ext w1 W → Calls Try.prog 12 #[.agg #[.int .u8 o.kind, .slice pA o.path.length pc, .int .i64 o.at_, .slice tA o.to.length tc, .int .u64 o.id, .bool o.leaf, .string o.label, .string o.key, .string o.value, .bool o.gone, .slice cA o.pcs.length cc], .slice xA (p.length - 1) xc] W (Ret W fun r w' => ∃ r', r = .tuple #[r', .bool true] ∧ w'.ownsRow W.heap.size 3 1 r' r0.length (r0.map (Value.int .i64))) := fun W hW => ih _ W _ (OpD.rd_ext (hE1.trans hW) h) (RdS.ext (hE1.trans hW) hq)
  have hc39 : ∀ W, Ext w1 W → Calls Try.prog 39 #[.agg #[.int .u8 o.kind, .slice pA o.path.length pc, .int .i64 o.at_, .slice tA o.to.length tc, .int .u64 o.id, .bool o.leaf, .string o.label, .string o.key, .string o.value, .bool o.gone, .slice cA o.pcs.length cc], .slice xA (p.length - 1) xc, .int .i64 (lastN p)] W (Ret W fun r _ => r = .tuple #[.int .i64 n0, .bool true]) := fun W hW => (childR_any o _ _ p.dropLast (lastN p) W (OpD.rd_ext (hE1.trans hW) h) (RdS.ext (hE1.trans hW) hq) hkd hkp).mono (by
    rintro e w' ⟨r, rfl, ⟨n, b, rfl, hb⟩, hE⟩
    rw [hch] at hb; cases b with | true => cases hb; exact ⟨_, rfl, rfl, hE⟩ | false => cases hb)
  clear h hP hT hC hp hq s1 s2 s3 hpl htl hm hne ih hkd hkp hnq hch
  by_cases hk : o.kind = 3
  · have hk3 : (o.kind == 3) = true := by rw [hk]; rfl
    have hsd : decide (p = o.path) = false := decide_eq_false (fun h => hs ⟨hk, h⟩)
    simp only [hsd] at hcP
    clear hs hsd hk
    go_enter Try.func12, Try.ntmps12
    go_wp2_with (first | (rw [H1.out]; clear H1) | (go_at_call 35; refine (hc35 _ E).mono ?_; clear hc35; rintro e u ⟨r, rfl, rfl, hE⟩; replace E := Ext.trans E hE; clear hE; have B0' := E.cell B0; have B1' := E.cell B1; have B2' := E.cell B2; have B3' := E.cell B3; have B4' := E.cell B4; have B5' := E.cell B5; have B6' := E.cell B6; have B7' := E.cell B7; have B8' := E.cell B8; have B9' := E.cell B9; have B10' := E.cell B10) | (go_at_call 36; refine (hc36 _ E).mono ?_; clear hc36; rintro e u ⟨r, rfl, rfl, hE⟩; replace E := Ext.trans E hE; clear hE; have B0' := E.cell B0; have B1' := E.cell B1; have B2' := E.cell B2; have B3' := E.cell B3; have B4' := E.cell B4; have B5' := E.cell B5; have B6' := E.cell B6; have B7' := E.cell B7; have B8' := E.cell B8; have B9' := E.cell B9; have B10' := E.cell B10) | (go_at_call 37; refine (hcP _ E).mono ?_; clear hcP; rintro e u ⟨r, rfl, rfl, hE⟩; replace E := Ext.trans E hE; clear hE; have B0' := E.cell B0; have B1' := E.cell B1; have B2' := E.cell B2; have B3' := E.cell B3; have B4' := E.cell B4; have B5' := E.cell B5; have B6' := E.cell B6; have B7' := E.cell B7; have B8' := E.cell B8; have B9' := E.cell B9; have B10' := E.cell B10) | (go_at_call 12; refine (hc12 _ E).mono ?_; clear hc12; rintro e u4 ⟨r, rfl, ⟨rt, rfl, hown4⟩, hE⟩; replace E := Ext.trans E hE; have D0 := E.cell B0; have D1 := E.cell B1; have D2 := E.cell B2; have D3 := E.cell B3; have D4 := E.cell B4; have D5 := E.cell B5; have D6 := E.cell B6; have D7 := E.cell B7; have D8 := E.cell B8; have D9 := E.cell B9; have D10 := E.cell B10; have hR4 := RdS.of_owns hown4; clear hE hown4) | (go_at_call 39; refine (hc39 _ E).mono ?_; clear hc39; rintro e u5 ⟨r, rfl, rfl, hE⟩; replace E := Ext.trans E hE; replace hR4 := RdS.ext hE hR4; clear hE) | (go_at_call 38; refine (child_any r0 n0 _ _ hR4 hlen).mono ?_; rintro e u6 ⟨r, rfl, hown6, hE⟩; have hs6 := E.size; replace E := Ext.trans E hE; clear hE))
    go_ret2
    exact ⟨_, rfl, ⟨_, rfl, owns_mono hown6 (by have := hE1.size; omega)⟩, hE1.trans E⟩
  have hk3 : (o.kind == 3) = false := beq_eq_false_iff_ne.2 hk
  clear hcP hs hk
  go_enter Try.func12, Try.ntmps12
  go_wp2_with (first | (rw [H1.out]; clear H1) | (go_at_call 35; refine (hc35 _ E).mono ?_; clear hc35; rintro e u ⟨r, rfl, rfl, hE⟩; replace E := Ext.trans E hE; clear hE; have B0' := E.cell B0; have B1' := E.cell B1; have B2' := E.cell B2; have B3' := E.cell B3; have B4' := E.cell B4; have B5' := E.cell B5; have B6' := E.cell B6; have B7' := E.cell B7; have B8' := E.cell B8; have B9' := E.cell B9; have B10' := E.cell B10) | (go_at_call 36; refine (hc36 _ E).mono ?_; clear hc36; rintro e u ⟨r, rfl, rfl, hE⟩; replace E := Ext.trans E hE; clear hE; have B0' := E.cell B0; have B1' := E.cell B1; have B2' := E.cell B2; have B3' := E.cell B3; have B4' := E.cell B4; have B5' := E.cell B5; have B6' := E.cell B6; have B7' := E.cell B7; have B8' := E.cell B8; have B9' := E.cell B9; have B10' := E.cell B10) | (go_at_call 12; refine (hc12 _ E).mono ?_; clear hc12; rintro e u4 ⟨r, rfl, ⟨rt, rfl, hown4⟩, hE⟩; replace E := Ext.trans E hE; have D0 := E.cell B0; have D1 := E.cell B1; have D2 := E.cell B2; have D3 := E.cell B3; have D4 := E.cell B4; have D5 := E.cell B5; have D6 := E.cell B6; have D7 := E.cell B7; have D8 := E.cell B8; have D9 := E.cell B9; have D10 := E.cell B10; have hR4 := RdS.of_owns hown4; clear hE hown4) | (go_at_call 39; refine (hc39 _ E).mono ?_; clear hc39; rintro e u5 ⟨r, rfl, rfl, hE⟩; replace E := Ext.trans E hE; replace hR4 := RdS.ext hE hR4; clear hE) | (go_at_call 38; refine (child_any r0 n0 _ _ hR4 hlen).mono ?_; rintro e u6 ⟨r, rfl, hown6, hE⟩; have hs6 := E.size; replace E := Ext.trans E hE; clear hE))
  go_ret2
  exact ⟨_, rfl, ⟨_, rfl, owns_mono hown6 (by have := hE1.size; omega)⟩, hE1.trans E⟩

def mu (o : OpD) (p : List Int) : Nat := p.length + if within o.path p then o.to.length + 1 else 0
theorem nodeR_all (o : OpD) (hm : o.sh.moves = true) (htl : o.to.length ≤ 1000) (N : Nat) : ∀ (p : List Int) (v pv : Value) (w : World), mu o p ≤ N → p.length ≤ 1000 → o.rd w v → RdI w p pv → Calls Try.prog 12 #[v, pv] w (Ret w fun r w' => RdN w.heap.size w' (o.sh.node p) r) := by
  induction N with
  | zero =>
    intro p v pv w hN hpl h hp
    have h0 : p.length = 0 := by unfold mu at hN; omega
    have := nodeR_root o v pv p w h hp hm h0 (by omega)
    rw [List.length_eq_zero_iff.1 h0] at this ⊢
    rw [node_nil hm]
    exact this
  | succ N ih =>
    intro p v pv w hN hpl h hp
    by_cases hne : p = []
    · have := nodeR_root o v pv p w h hp hm (by rw [hne]; rfl) (by omega)
      rw [hne] at this ⊢
      rw [node_nil hm]
      exact this
    have hsn := snoc_of hne
    have hpos : 0 < p.length := List.length_pos_iff.2 hne
    have hdl : p.dropLast.length = p.length - 1 := by simp
    have hn := node_snoc hm p.dropLast (lastN p)
    rw [← hsn] at hn
    by_cases hs : o.kind = 3 ∧ p = o.path
    · have hwt := (moves_kind hm).2.2 hs.1
      have := nodeR_self o v pv p w h hp hm hne hs.1 hs.2 htl hpl (fun v w pv h hp => ih o.to v pv w (by
        have e1 : within o.path o.to = false := hwt
        have e2 : within o.path p = true := by rw [hs.2]; exact within_self _
        unfold mu at hN ⊢
        rw [e2, if_pos rfl] at hN
        rw [e1, if_neg (by simp)]
        omega) htl h hp)
      have hn2 : o.sh.node p = some (o.sh.go [] o.to ++ [if p.dropLast = o.to ∧ lastN p < o.at_ then wrap64 (o.at_ - 1) else o.at_]) := by
        refine (hn.trans (if_pos hs)).trans ?_
        rw [sh_wr]
        rfl
      rw [hn2]
      exact this
    · have hih : ∀ v w pv, o.rd w v → RdI w p.dropLast pv → Calls Try.prog 12 #[v, pv] w (Ret w fun r w' => RdN w.heap.size w' (o.sh.node p.dropLast) r) := fun v w pv h hp => ih p.dropLast v pv w (by
        have hw : within o.path p.dropLast = true → within o.path p = true := fun hw => by
          rw [hsn]; exact (within_snoc _ _ _).2 (.inl hw)
        unfold mu at hN ⊢
        split
        · rename_i h1
          rw [hw h1, if_pos rfl] at hN
          omega
        · omega) (by omega) h hp
      have hn' : o.sh.node p = match o.sh.node p.dropLast, o.sh.child p.dropLast (lastN p) with | some r, some n => some (r ++ [n]) | _, _ => none := hn.trans (if_neg hs)
      rcases hnq : o.sh.node p.dropLast with _ | r0
      · rw [hnq] at hn'
        rw [hn']
        exact nodeR_none_ o v pv p w h hp hm hne hs hnq htl hpl hih
      rcases hch : o.sh.child p.dropLast (lastN p) with _ | n0
      · rw [hnq, hch] at hn'
        rw [hn']
        exact nodeR_gone o v pv p w h hp hm hne hs r0 hnq hch htl hpl hih
      · rw [hnq, hch] at hn'
        rw [hn']
        exact nodeR_some o v pv p w h hp hm hne hs r0 n0 hnq hch htl hpl hih
theorem nodeR_any (o : OpD) (v pv : Value) (p : List Int) (w : World) (h : o.rd w v) (hp : RdI w p pv) (htl : o.to.length ≤ 1000) (hpl : p.length ≤ 1000) : Calls Try.prog 12 #[v, pv] w (Ret w fun r w' => RdN w.heap.size w' (o.sh.node p) r) := by
  by_cases hm : o.sh.moves = false
  · have e : o.sh.node p = some p := by rw [Sh.node, if_pos hm]
    rw [e]
    exact nodeR_idle o v pv p w h hp hm (by omega)
  · exact nodeR_all o (by simpa using hm) htl _ p v pv w (Nat.le_refl _) hpl h hp
end Go.Proofs.Ytdnjkffmgmbfmaa.Bs
