/- Chapter 17: GetNode. -/
import Derived.Test.YtoplaokimahdiaaWiGotN
namespace Go.Proofs.Ytoplaokimahdiaa.Wi
open Go.RowKit Go.Proofs.Ytoplaokimahdiaa.Bw Go.Proofs.Ytoplaokimahdiaa.Bs

theorem enters16 : ∀ args W, (callFunc 16 args).run Try.prog W = .ok (.enter 16 args) W := fun args W => by kernel_rfl
set_option maxRecDepth 100000 in
set_option maxHeartbeats 4000000 in
theorem getNode_any (bs : List UInt8) (bv : Value) (w : World) (h : RdS w 1 bs.length (u8s bs) bv) : Calls Try.prog 30 #[bv] w (GotRN w (gotO (nodeP 65 bs) treeE bs)) := by
  obtain ⟨w1, hw1⟩ : ∃ W, w.alloc (.cells #[.int .u64 0, .bool false, .string ⟨#[]⟩, .slice none 0 0, .string ⟨#[]⟩, .slice none 0 0] 32) = W := ⟨_, rfl⟩
  obtain ⟨Y, hY⟩ : ∃ Y, w.heap.size = Y := ⟨_, rfl⟩
  have E1 : Ext w w1 := by rw [← hw1]; exact (Ext.refl w).alloc _
  have bY : NBox w1 Y 32 #[.int .u64 0, .bool false, .string ⟨#[]⟩, .slice none 0 0, .string ⟨#[]⟩, .slice none 0 0] := by rw [← hw1, ← hY]; exact NBox.new _ _ _
  have hc := gotn_any 58 16 enters58 enters16 (nodeP 65 bs) treeE bs bv w1 (RdS.ext E1 h) (fun W B hR => gnode1_any bs w1 W B hR) (fun W x v hv => putNode_any x v W hv)
  obtain ⟨o, ho⟩ : ∃ o, gotO (nodeP 65 bs) treeE bs = o := ⟨_, rfl⟩
  rw [ho] at hc ⊢
  have HE := Lib.hid E1
  have HW := Lib.hid hw1
  have HYY := Lib.hid hY
  have HBY := Lib.hid bY
  obtain ⟨A, c, rfl, -⟩ := h
  clear ho hw1 hY bY E1
  go_enter Try.func30, Try.ntmps30
  go_upto_region 1 with fail
  rw [HW.out, HYY.out]
  go_wp2_with fail
  refine hc.mono ?_
  clear hc
  rintro e w2 ⟨hX, hP⟩
  have HX := Lib.hid hX
  have HB2 := Lib.hid (HBY.out.ext hX)
  have hlt := HBY.out.lt
  have hYw : w.heap.size ≤ Y := by rw [HYY.out]; exact Nat.le_refl _
  clear hX
  have y0 := HB2.out.cell 0
  have y1 := HB2.out.cell 1
  have y2 := HB2.out.cell 2
  have y3 := HB2.out.cell 3
  have y4 := HB2.out.cell 4
  have y5 := HB2.out.cell 5
  have z0 := HB2.out.frozen 0
  have z1 := HB2.out.frozen 1
  have z2 := HB2.out.frozen 2
  have z3 := HB2.out.frozen 3
  have z4 := HB2.out.frozen 4
  have z5 := HB2.out.frozen 5
  cases o with
  | none =>
    subst hP
    go_wp2_with fail
    refine bodyPost_ret (results_nd rfl rfl rfl (HB2.out.six _ _ _ _ _ _) Try.underlying32 rfl info32) rfl ?_
    have F2 := Fr.six w2 Y (.int .u64 0) (.bool false) (.string ⟨#[]⟩) (.slice none 0 0) (.string ⟨#[]⟩) (.slice none 0 0)
    exact ⟨Fr.ext (HE.out.trans HX.out) F2 (fun k hk => by rw [hk]; exact hYw), rfl⟩
  | some x =>
    obtain ⟨v, rfl, hv⟩ := hP
    obtain ⟨aA, ac, kA, kc, rfl⟩ := hv.open
    have HV := Lib.hid hv
    clear hv
    go_wp2_with fail
    refine bodyPost_ret (results_nd rfl rfl rfl (HB2.out.six _ _ _ _ _ _) Try.underlying32 rfl info32) rfl ?_
    have F2 := Fr.six w2 Y (.int .u64 x.id) (.bool x.leaf) (.string x.label) (.slice aA x.attrs.length ac) (.string x.text) (.slice kA x.kids.length kc)
    exact ⟨Fr.ext (HE.out.trans HX.out) F2 (fun k hk => by rw [hk]; exact hYw), _, rfl, HV.out.to (S' := old w.heap.size) F2 (fun k _ hh => hh.elim (fun h => by rw [show k = Y from h]; exact hlt) (fun h => Nat.lt_of_lt_of_le (show k < w.heap.size from h) HE.out.size))⟩
end Go.Proofs.Ytoplaokimahdiaa.Wi
