/- Lemmas and walks for the claims of chapter 06: Works2. No conditions beside those that stand in each lemma. -/
import Derived.Test.YtamkgdkoddoehaaBwWorks
namespace Go.Proofs.Ytamkgdkoddoehaa.Bw
open Go.RowKit Go.Shelf
attribute [local go_sem] Oper.semAt_some

theorem rdO_x {w : World} {r : Value} (h : RdO w (some wX) r) : ∃ aA ac kA kc, r = .tuple #[.agg #[.int .u64 0, .bool true, .string ⟨#[120]⟩, .slice aA 0 ac, .string ⟨#[104, 105]⟩, .slice kA 0 kc], .bool true] := by
  obtain ⟨v, rfl, hx⟩ := h
  obtain ⟨av, kv, rfl, _, _, _, _, ⟨aA, ac, rfl, _⟩, ⟨kA, kc, rfl, _⟩⟩ := Nd.rd_open hx
  exact ⟨aA, ac, kA, kc, rfl⟩
theorem rdO_n {w : World} {r : Value} (h : RdO w none r) : ∃ aA ac kA kc, r = .tuple #[.agg #[.int .u64 0, .bool false, .string ⟨#[]⟩, .slice aA 0 ac, .string ⟨#[]⟩, .slice kA 0 kc], .bool false] := by
  obtain ⟨v, rfl, hx⟩ := h
  obtain ⟨av, kv, rfl, _, _, _, _, ⟨aA, ac, rfl, _⟩, ⟨kA, kc, rfl, _⟩⟩ := Nd.rd_open hx
  exact ⟨aA, ac, kA, kc, rfl⟩

set_option maxRecDepth 100000 in
set_option maxHeartbeats 1000000 in
theorem works_any (w : World) : Calls Try.prog 11 #[] w (Ret w fun r _ => r = .bool true) := by
  obtain ⟨w2, hw2⟩ : ∃ w2, (w.alloc (.cells xCells 26)).alloc (.cells (abCells w.heap.size) 26) = w2 := ⟨_, rfl⟩
  have hrd := wR_rd w w2 hw2
  have hE2 : Ext w w2 := by rw [← hw2]; exact ((Ext.refl w).alloc _).alloc _
  have hz : Hid (w2.heap.size = w.heap.size + 1 + 1) := by rw [← hw2]; simp [Hid]
  have H2 := Lib.hid hw2
  clear hw2
  obtain ⟨w3, hw3⟩ : ∃ w3, w2.alloc (.cells (wRv (w.heap.size + 1)).cells 26) = w3 := ⟨_, rfl⟩
  have hbx : NBox w3 (w.heap.size + 1 + 1) 26 (wRv (w.heap.size + 1)).cells := by rw [← hw3, ← hz.out]; exact NBox.new _ _ _
  have hE3 : Ext w w3 := by rw [← hw3]; exact hE2.alloc _
  have hrd3 : wR.rd w3 (wRv (w.heap.size + 1)) := by rw [← hw3]; exact Nd.rd_ext ((Ext.refl _).alloc _) hrd
  have hz3 : Hid (w3.heap.size = w.heap.size + 1 + 1 + 1) := by rw [← hw3]; simp [Hid, hz.out]
  have H3 : Hid (((w.alloc (.cells #[.int .u64 0, .bool true, .string ⟨#[120]⟩, .slice none 0 0, .string ⟨#[104, 105]⟩, .slice none 0 0] 26)).alloc (.cells #[.int .u64 0, .bool false, .string ⟨#[97]⟩, .slice none 0 0, .string ⟨#[]⟩, .slice (some ⟨w.heap.size, 0, none⟩) 1 1,
     .int .u64 0, .bool false, .string ⟨#[98]⟩, .slice none 0 0, .string ⟨#[]⟩, .slice none 0 0] 26)).alloc (.cells #[.int .u64 0, .bool false, .string ⟨#[114]⟩, .slice none 0 0, .string ⟨#[]⟩, .slice (some ⟨w.heap.size + 1, 0, none⟩) 2 2] 26) = w3) := by
    rw [← hw3, ← H2.out]; rfl
  clear hw3 H2 hrd hE2 hz
  have hc1 := at_any wR _ [0, 0] _ (w3.alloc (.cells #[.int .i64 0, .int .i64 0] 3)) (Nd.rd_ext ((Ext.refl _).alloc _) hrd3) (RdS.lits w3 3 [0, 0] (by simp) _ rfl)
  rw [hz3.out, wR_at0] at hc1
  unfold wRv at hc1
  go_enter Try.func11, Try.ntmps11
  go_wp2_with fail
  rw [H3.out]
  refine hc1.mono ?_
  clear hc1
  rintro e w5 ⟨r, rfl, hx, hE5⟩
  obtain ⟨aA, ac, kA, kc, rfl⟩ := rdO_x hx
  clear hx
  have hE5' : Ext w3 w5 := ((Ext.refl w3).alloc _).trans hE5
  clear hE5
  have hF1 : Ext w3 (w5.alloc (.cells #[.int .u64 0, .bool true, .string ⟨#[120]⟩, .slice aA 0 ac, .string ⟨#[104, 105]⟩, .slice kA 0 kc] 26)) := hE5'.alloc _
  obtain ⟨c10, c11, c12, c13, c14, c15⟩ := NBox.six (hbx.ext hF1)
  have hc1 := at_any wR _ [2] _ ((w5.alloc (.cells #[.int .u64 0, .bool true, .string ⟨#[120]⟩, .slice aA 0 ac, .string ⟨#[104, 105]⟩, .slice kA 0 kc] 26)).alloc (.cells #[.int .i64 2] 3)) (Nd.rd_ext (hF1.alloc _) hrd3) (RdS.lits (w5.alloc (.cells #[.int .u64 0, .bool true, .string ⟨#[120]⟩, .slice aA 0 ac, .string ⟨#[104, 105]⟩, .slice kA 0 kc] 26)) 3 [2] (by simp) _ rfl)
  rw [wR_at1, show (w5.alloc (.cells #[.int .u64 0, .bool true, .string ⟨#[120]⟩, .slice aA 0 ac, .string ⟨#[104, 105]⟩, .slice kA 0 kc] 26)).heap.size = w5.heap.size + 1 from by simp] at hc1
  unfold wRv at hc1
  go_wp2_with fail
  refine hc1.mono ?_
  clear hc1 c10 c11 c12 c13 c14 c15
  rintro e u1 ⟨r, rfl, hx, hG1⟩
  obtain ⟨aA1, ac1, kA1, kc1, rfl⟩ := rdO_n hx
  clear hx
  have hI1 : Ext w3 u1 := (hF1.alloc _).trans hG1
  have hF2 : Ext w3 (u1.alloc (.cells #[.int .u64 0, .bool false, .string ⟨#[]⟩, .slice aA1 0 ac1, .string ⟨#[]⟩, .slice kA1 0 kc1] 26)) := hI1.alloc _
  obtain ⟨c20, c21, c22, c23, c24, c25⟩ := NBox.six (hbx.ext hF2)
  have hc2 := at_any wR _ [0, 0, 0] _ ((u1.alloc (.cells #[.int .u64 0, .bool false, .string ⟨#[]⟩, .slice aA1 0 ac1, .string ⟨#[]⟩, .slice kA1 0 kc1] 26)).alloc (.cells #[.int .i64 0, .int .i64 0, .int .i64 0] 3)) (Nd.rd_ext (hF2.alloc _) hrd3) (RdS.lits (u1.alloc (.cells #[.int .u64 0, .bool false, .string ⟨#[]⟩, .slice aA1 0 ac1, .string ⟨#[]⟩, .slice kA1 0 kc1] 26)) 3 [0, 0, 0] (by simp) _ rfl)
  rw [wR_at2, show (u1.alloc (.cells #[.int .u64 0, .bool false, .string ⟨#[]⟩, .slice aA1 0 ac1, .string ⟨#[]⟩, .slice kA1 0 kc1] 26)).heap.size = u1.heap.size + 1 from by simp] at hc2
  unfold wRv at hc2
  go_wp2_with fail
  refine hc2.mono ?_
  clear hc2 c20 c21 c22 c23 c24 c25
  rintro e u2 ⟨r, rfl, hx, hG2⟩
  obtain ⟨aA2, ac2, kA2, kc2, rfl⟩ := rdO_n hx
  clear hx
  have hI2 : Ext w3 u2 := (hF2.alloc _).trans hG2
  have hbX : NBox (w5.alloc (.cells #[.int .u64 0, .bool true, .string ⟨#[120]⟩, .slice aA 0 ac, .string ⟨#[104, 105]⟩, .slice kA 0 kc] 26)) w5.heap.size 26 #[.int .u64 0, .bool true, .string ⟨#[120]⟩, .slice aA 0 ac, .string ⟨#[104, 105]⟩, .slice kA 0 kc] := NBox.new _ _ _
  have hM : Ext (w5.alloc (.cells #[.int .u64 0, .bool true, .string ⟨#[120]⟩, .slice aA 0 ac, .string ⟨#[104, 105]⟩, .slice kA 0 kc] 26)) (u2.alloc (.cells #[.int .u64 0, .bool false, .string ⟨#[]⟩, .slice aA2 0 ac2, .string ⟨#[]⟩, .slice kA2 0 kc2] 26)) := ((((Ext.refl _).alloc _).trans hG1).alloc _ |>.alloc _ |>.trans hG2).alloc _
  have hU0 : Ext w3 (u2.alloc (.cells #[.int .u64 0, .bool false, .string ⟨#[]⟩, .slice aA2 0 ac2, .string ⟨#[]⟩, .slice kA2 0 kc2] 26)) := hI2.alloc _
  have hbX2 := hbX.ext hM
  have hbx2 := hbx.ext hU0
  have hrdU := Nd.rd_ext hU0 hrd3
  have HU := hE3.trans hU0
  clear hbX hM hU0 hG1 hG2 hF1 hF2 hI1 hI2 hE5' hE3 hbx hrd3 hz3
  obtain ⟨e10, e11, e12, e13, e14, e15⟩ := NBox.six hbx2
  have hk1 : Calls Try.prog 18 #[(.agg #[.int .u64 0, .bool false, .string ⟨#[114]⟩, .slice none 0 0, .string ⟨#[]⟩, .slice (some ⟨w.heap.size + 1, 0, none⟩) 2 2])] (u2.alloc (.cells #[.int .u64 0, .bool false, .string ⟨#[]⟩, .slice aA2 0 ac2, .string ⟨#[]⟩, .slice kA2 0 kc2] 26)) (Ret (u2.alloc (.cells #[.int .u64 0, .bool false, .string ⟨#[]⟩, .slice aA2 0 ac2, .string ⟨#[]⟩, .slice kA2 0 kc2] 26)) fun r _ => r = .int .i64 4) := by
    have := count_any wR _ (u2.alloc (.cells #[.int .u64 0, .bool false, .string ⟨#[]⟩, .slice aA2 0 ac2, .string ⟨#[]⟩, .slice kA2 0 kc2] 26)) hrdU wR_wt
    rw [wR_cnt] at this
    exact this
  go_wp2_with fail
  refine hk1.mono ?_
  clear hk1
  clear e10 e11 e12 e13 e14 e15
  rintro e y1 ⟨r, rfl, rfl, hJ1⟩
  replace hbX2 := hbX2.ext hJ1
  replace hbx2 := hbx2.ext hJ1
  replace hrdU := Nd.rd_ext hJ1 hrdU
  replace HU := HU.trans hJ1
  clear hJ1
  obtain ⟨e20, e21, e22, e23, e24, e25⟩ := NBox.six hbx2
  have hk2 : Calls Try.prog 20 #[(.agg #[.int .u64 0, .bool false, .string ⟨#[114]⟩, .slice none 0 0, .string ⟨#[]⟩, .slice (some ⟨w.heap.size + 1, 0, none⟩) 2 2])] y1 (Ret y1 fun r _ => r = .int .i64 2) := by
    have := depth_any wR _ y1 hrdU wR_wt
    rw [wR_dep] at this
    exact this
  go_wp2_with fail
  refine hk2.mono ?_
  clear hk2
  clear e20 e21 e22 e23 e24 e25
  rintro e y2 ⟨r, rfl, rfl, hJ2⟩
  replace hbX2 := hbX2.ext hJ2
  replace hbx2 := hbx2.ext hJ2
  replace hrdU := Nd.rd_ext hJ2 hrdU
  replace HU := HU.trans hJ2
  clear hJ2
  obtain ⟨e30, e31, e32, e33, e34, e35⟩ := NBox.six hbx2
  have hk3 : Calls Try.prog 22 #[(.agg #[.int .u64 0, .bool false, .string ⟨#[114]⟩, .slice none 0 0, .string ⟨#[]⟩, .slice (some ⟨w.heap.size + 1, 0, none⟩) 2 2])] y2 (Ret y2 fun r _ => r = .int .i64 2) := by
    have := long_any wR _ y2 hrdU wR_wt
    rw [wR_lng] at this
    exact this
  go_wp2_with fail
  refine hk3.mono ?_
  clear hk3
  clear e30 e31 e32 e33 e34 e35
  rintro e y3 ⟨r, rfl, rfl, hJ3⟩
  replace hbX2 := hbX2.ext hJ3
  replace hbx2 := hbx2.ext hJ3
  replace hrdU := Nd.rd_ext hJ3 hrdU
  replace HU := HU.trans hJ3
  clear hJ3
  obtain ⟨e40, e41, e42, e43, e44, e45⟩ := NBox.six hbx2
  have xl : y3.cell? ⟨w5.heap.size, 2, none⟩ = some (.string ⟨#[120]⟩) := hbX2.cell 2
  have hk4 : Calls Try.prog 12 #[(.agg #[.int .u64 0, .bool false, .string ⟨#[114]⟩, .slice none 0 0, .string ⟨#[]⟩, .slice (some ⟨w.heap.size + 1, 0, none⟩) 2 2])] y3 (Ret y3 fun r _ => r = .bool true) := by
    have := right_any wR _ y3 hrdU wR_wt
    rw [wR_right] at this
    exact this
  go_wp2_with fail
  refine hk4.mono ?_
  clear hk4
  clear e40 e41 e42 e43 e44 e45
  clear xl
  rintro e y4 ⟨r, rfl, rfl, hJ4⟩
  replace hbX2 := hbX2.ext hJ4
  replace hbx2 := hbx2.ext hJ4
  replace hrdU := Nd.rd_ext hJ4 hrdU
  replace HU := HU.trans hJ4
  clear hJ4
  have hk5 := key_any ⟨#[107]⟩ y4 (by simp [maxLen, ByteArray.size])
  rw [wR_key] at hk5
  obtain ⟨e50, e51, e52, e53, e54, e55⟩ := NBox.six hbx2
  have hk6 := ids_any wR _ y4 hrdU wR_wt
  rw [wR_ids] at hk6
  unfold wRv at hk6
  go_wp2_with fail
  refine hk5.mono ?_
  clear hk5
  rintro e _ ⟨rfl, rfl⟩
  go_wp2_with fail
  refine hk6.mono ?_
  clear hk6
  rintro e y5 ⟨r, rfl, hr, hJ5⟩
  obtain ⟨A, c, rfl, _, hc4, hcm, _⟩ := RdS.of_owns hr
  clear hr
  unfold maxLen at hcm
  go_wp2_with fail
  go_ret
  exact ret_bool (by rfl) (HU.trans hJ5)
end Go.Proofs.Ytamkgdkoddoehaa.Bw
