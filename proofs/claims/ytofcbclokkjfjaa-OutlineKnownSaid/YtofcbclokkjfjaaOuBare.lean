/- Chapter 24: Bare (50) of any operation. (Printed by goubare.py.) -/
import Derived.Test.YtofcbclokkjfjaaOuSame2
import Derived.Test.YtofcbclokkjfjaaOuOps
namespace Go.Proofs.Ytofcbclokkjfjaa.Wi
open Go.RowKit Go.Proofs.Ytofcbclokkjfjaa.Bw Go.Proofs.Ytofcbclokkjfjaa.Bs

theorem T36 : SliceT Try.prog 36 49 (.agg #[.int .i64 0, .int .i64 0, .string ⟨#[]⟩]) 3 32 := SliceT.mk' Try.underlying36 (by kernel_rfl) rfl (by decide)
theorem noRow (W : World) (lo e sz : Nat) : W.ownsRow lo e sz (.slice none 0 0) 0 [] := ⟨by simp, .inl ⟨rfl, rfl⟩⟩
/-- Behind the last store: the answer's box is written. -/
theorem bare_fin {w W : World} {X Y Z : Nat} {ov cs : Array Value} {p tq : List Int} {ps : List Pc} {pv tv cv : Value} (h : BSt 38 49 w W X Y Z ov cs p tq ps pv tv cv) (o : OpD) {pA tA cA : Option Addr} {pc tc cc : Nat}
  (o1 : W.ownsRow w.heap.size 3 1 (.slice pA o.path.length pc) o.path.length (o.path.map (Value.int .i64))) (o2 : W.ownsRow w.heap.size 3 1 (.slice tA o.to.length tc) o.to.length (o.to.map (Value.int .i64))) (o3 : W.ownsRow w.heap.size 49 3 (.slice cA o.pcs.length cc) o.pcs.length (pcVals o.pcs)) :
  Ext w (World.setCell (World.setCell (World.setCell (World.setCell (World.setCell (World.setCell (World.setCell (World.setCell (World.setCell (World.setCell (World.setCell W ⟨Y, 0, none⟩ (.int .u8 o.kind)) ⟨Y, 1, none⟩ (.slice pA o.path.length pc)) ⟨Y, 2, none⟩ (.int .i64 o.at_)) ⟨Y, 3, none⟩ (.slice tA o.to.length tc)) ⟨Y, 4, none⟩ (.int .u64 o.id)) ⟨Y, 5, none⟩ (.bool o.leaf)) ⟨Y, 6, none⟩ (.string o.label)) ⟨Y, 7, none⟩ (.string o.key)) ⟨Y, 8, none⟩ (.string o.value)) ⟨Y, 9, none⟩ (.bool o.gone)) ⟨Y, 10, none⟩ (.slice cA o.pcs.length cc)) ∧ ∃ u, Ending.returned (.agg #[.int .u8 o.kind, .slice pA o.path.length pc, .int .i64 o.at_, .slice tA o.to.length tc, .int .u64 o.id, .bool o.leaf, .string o.label, .string o.key, .string o.value, .bool o.gone, .slice cA o.pcs.length cc]) = .returned u ∧ OpO 49 w.heap.size (World.setCell (World.setCell (World.setCell (World.setCell (World.setCell (World.setCell (World.setCell (World.setCell (World.setCell (World.setCell (World.setCell W ⟨Y, 0, none⟩ (.int .u8 o.kind)) ⟨Y, 1, none⟩ (.slice pA o.path.length pc)) ⟨Y, 2, none⟩ (.int .i64 o.at_)) ⟨Y, 3, none⟩ (.slice tA o.to.length tc)) ⟨Y, 4, none⟩ (.int .u64 o.id)) ⟨Y, 5, none⟩ (.bool o.leaf)) ⟨Y, 6, none⟩ (.string o.label)) ⟨Y, 7, none⟩ (.string o.key)) ⟨Y, 8, none⟩ (.string o.value)) ⟨Y, 9, none⟩ (.bool o.gone)) ⟨Y, 10, none⟩ (.slice cA o.pcs.length cc)) o u := by
 have F9 := Fr.s11 W Y (.int .u8 o.kind) (.slice pA o.path.length pc) (.int .i64 o.at_) (.slice tA o.to.length tc) (.int .u64 o.id) (.bool o.leaf) (.string o.label) (.string o.key) (.string o.value) (.bool o.gone) (.slice cA o.pcs.length cc)
 exact ⟨Fr.ext h.ext F9 (fun q hq => by rw [show q = Y from hq]; exact h.lo.2.1), _, rfl, OpO.fr (B := Y) (t := 38) ⟨_, _, _, _, _, _, rfl, o1, o2, o3⟩ F9 h.byy (by decide) (by decide)⟩
set_option maxRecDepth 100000 in
set_option maxHeartbeats 8000000 in
theorem bare50_any (o : OpD) (v : Value) (w : World) (h : o.rd w v) (hp : o.path.length ≤ 100000) (ht : o.to.length ≤ 100000) (hc : o.pcs.length ≤ 100000) : Calls Try.prog 50 #[v] w (fun e W' => Ext w W' ∧ ∃ u, e = .returned u ∧ OpO 49 w.heap.size W' (bareD o) u) := by
 obtain ⟨k, p, at_, tq, id, lf, lb, ky, vl, gn, ps⟩ := o
 obtain ⟨pv, tv, cv, rfl, hP, hT, hC, -, -, -, -, -⟩ := h
 dsimp only at hP hT hC hp ht hc
 have hP' := hP
 obtain ⟨pA, pc, rfl, -⟩ := hP'
 have hT' := hT
 obtain ⟨tA, tc, rfl, -⟩ := hT'
 have hC' := hC
 obtain ⟨cA, cc, rfl, -⟩ := hC'
 dsimp only
 obtain ⟨w1, hw1⟩ : ∃ W, (w.alloc (.cells #[.int .u8 k, .slice pA p.length pc, .int .i64 at_, .slice tA tq.length tc, .int .u64 id, .bool lf, .string lb, .string ky, .string vl, .bool gn, .slice cA ps.length cc] 38)).alloc (.cells #[.int .u8 0, .slice none 0 0, .int .i64 0, .slice none 0 0, .int .u64 0, .bool false, .string ⟨#[]⟩, .string ⟨#[]⟩, .string ⟨#[]⟩, .bool false, .slice none 0 0] 38) = W := ⟨_, rfl⟩
 obtain ⟨X, hX⟩ : ∃ X, w.heap.size = X := ⟨_, rfl⟩
 have s1 : (w.alloc (.cells #[.int .u8 k, .slice pA p.length pc, .int .i64 at_, .slice tA tq.length tc, .int .u64 id, .bool lf, .string lb, .string ky, .string vl, .bool gn, .slice cA ps.length cc] 38)).heap.size = X + 1 := by rw [World.size_alloc, hX]
 have E1 : Ext w w1 := by rw [← hw1]; exact ((Ext.refl w).alloc _).alloc _
 have bX : NBox w1 X 38 #[.int .u8 k, .slice pA p.length pc, .int .i64 at_, .slice tA tq.length tc, .int .u64 id, .bool lf, .string lb, .string ky, .string vl, .bool gn, .slice cA ps.length cc] := by rw [← hw1, ← hX]; exact (NBox.new w 38 _).ext ((Ext.refl _).alloc _)
 have bY : NBox w1 (X + 1) 38 #[.int .u8 0, .slice none 0 0, .int .i64 0, .slice none 0 0, .int .u64 0, .bool false, .string ⟨#[]⟩, .string ⟨#[]⟩, .string ⟨#[]⟩, .bool false, .slice none 0 0] := by rw [← hw1, ← s1]; exact NBox.new _ _ _
 obtain ⟨w2, hw2⟩ : ∃ W, w1.alloc (.cells #[.int .u8 0, .slice none 0 0, .int .i64 0, .slice none 0 0, .int .u64 0, .bool false, .string ⟨#[]⟩, .string ⟨#[]⟩, .string ⟨#[]⟩, .bool false, .slice none 0 0] 38) = W := ⟨_, rfl⟩
 obtain ⟨Z, hZ⟩ : ∃ q, w1.heap.size = q := ⟨_, rfl⟩
 have E2 : Ext w1 w2 := by rw [← hw2]; exact (Ext.refl w1).alloc _
 have bZ : NBox w2 Z 38 #[.int .u8 0, .slice none 0 0, .int .i64 0, .slice none 0 0, .int .u64 0, .bool false, .string ⟨#[]⟩, .string ⟨#[]⟩, .string ⟨#[]⟩, .bool false, .slice none 0 0] := by rw [← hw2, ← hZ]; exact NBox.new _ _ _
 have hYZ : X + 1 < Z := by rw [← hZ]; exact bY.lt
 obtain ⟨w3, hw3⟩ : ∃ W, (World.setCell (World.setCell (World.setCell (World.setCell (World.setCell (World.setCell (World.setCell (World.setCell (World.setCell (World.setCell (World.setCell w2 ⟨Z, 0, none⟩ (.int .u8 k)) ⟨Z, 1, none⟩ (.slice none 0 0)) ⟨Z, 2, none⟩ (.int .i64 0)) ⟨Z, 3, none⟩ (.slice none 0 0)) ⟨Z, 4, none⟩ (.int .u64 0)) ⟨Z, 5, none⟩ (.bool false)) ⟨Z, 6, none⟩ (.string ⟨#[]⟩)) ⟨Z, 7, none⟩ (.string ⟨#[]⟩)) ⟨Z, 8, none⟩ (.string ⟨#[]⟩)) ⟨Z, 9, none⟩ (.bool false)) ⟨Z, 10, none⟩ (.slice none 0 0)) = W := ⟨_, rfl⟩
 have F3 : Fr w2 w3 (fun k => k = Z) := by rw [← hw3]; exact Fr.s11 _ _ _ _ _ _ _ _ _ _ _ _ _
 have hwX : w.heap.size ≤ X := by omega
 have HE := Lib.hid (Fr.ext (E1.trans E2) F3 (fun q hq => by rw [show q = Z from hq]; omega))
 have HX := Lib.hid ((bX.ext E2).fr F3 (by omega))
 have HY := Lib.hid ((bY.ext E2).fr F3 (by omega))
 have HZ := Lib.hid (show NBox w3 Z 38 #[.int .u8 k, .slice none 0 0, .int .i64 0, .slice none 0 0, .int .u64 0, .bool false, .string ⟨#[]⟩, .string ⟨#[]⟩, .string ⟨#[]⟩, .bool false, .slice none 0 0] from by rw [← hw3]; exact bZ.s11 _ _ _ _ _ _ _ _ _ _ _)
 have HP := Lib.hid hP
 have HT := Lib.hid hT
 have HC := Lib.hid hC
 have HLO := Lib.hid (show w.heap.size ≤ X ∧ w.heap.size ≤ X + 1 ∧ w.heap.size ≤ Z ∧ X ≠ Z ∧ X + 1 ≠ Z from by omega)
 have HW1 := Lib.hid hw1
 have HXX := Lib.hid hX
 have HW2 := Lib.hid hw2
 have HZZ := Lib.hid hZ
 have HW3 := Lib.hid hw3
 obtain ⟨x0, x1, x2, x3, x4, x5, x6, x7, x8, x9, x10⟩ := bX.c11
 obtain ⟨y0, y1, y2, y3, y4, y5, y6, y7, y8, y9, y10⟩ := bZ.c11
 obtain ⟨z0, z1, z2, z3, z4, z5, z6, z7, z8, z9, z10⟩ := bZ.f11
 clear hw1 hX s1 E1 bX bY hw2 hZ E2 bZ hw3 F3 hP hT hC hwX hYZ
 go_enter Try.func50, Try.ntmps50
 go_upto_region 1 with fail
 rw [HW1.out, HXX.out]
 go_upto_region 2 with (rw [HW2.out, HZZ.out]; clear HW2 HZZ)
 rw [HW3.out]
 clear HW3 x0 y0 z0 x1 y1 z1 x2 y2 z2 x3 y3 z3 x4 y4 z4 x5 y5 z5 x6 y6 z6 x7 y7 z7 x8 y8 z8 x9 y9 z9 x10 y10 z10
 have x1 := HX.out.cell 1
 have hnil : w3.ownsRow w3.heap.size 3 1 (.slice none 0 0) 0 [] := noRow _ _ _ _
 have hrd := RdS.ext HE.out HP.out
 go_wp2_with (first | (at_builtin; refine wpList_append_rd rfl rfl T27 (v := _) (by rfl) hnil (by rfl) hrd (ints_one1 _) (by omega) (by simp only [maxLen]; omega) (Nat.le_refl _) ?_))
 intro v4 w4 O4 hg4 hat4
 have O4 := (show w4.ownsRow w3.heap.size 3 1 v4 p.length (p.map (Value.int .i64)) from by simpa using O4)
 have X4 : Ext w3 w4 := Ext.grown (Ext.refl w3) hg4 (fun q hq => by cases hq)
 obtain ⟨nA, nc, rfl, -⟩ := RdS.of_owns O4
 have HO4 := Lib.hid (owns_low O4 HE.out.size)
 have HE4 := Lib.hid (HE.out.trans X4)
 have HX4 := Lib.hid (HX.out.ext X4)
 have HY4 := Lib.hid (HY.out.ext X4)
 have HZ4 := Lib.hid (HZ.out.ext X4)
 clear O4 hg4 hat4 X4 hnil hrd x1 HE HX HY HZ
 have x3 := HX4.out.cell 3
 have x0 := HX4.out.cell 0
 have hnil : w4.ownsRow w4.heap.size 3 1 (.slice none 0 0) 0 [] := noRow _ _ _ _
 have hrd := RdS.ext HE4.out HT.out
 go_wp2_with (first | (at_builtin; refine wpList_append_rd rfl rfl T27 (v := _) (by rfl) hnil (by rfl) hrd (ints_one1 _) (by omega) (by simp only [maxLen]; omega) (Nat.le_refl _) ?_))
 intro v5 w5 O5 hg5 hat5
 have O5 := (show w5.ownsRow w4.heap.size 3 1 v5 tq.length (tq.map (Value.int .i64)) from by simpa using O5)
 have X5 : Ext w4 w5 := Ext.grown (Ext.refl w4) hg5 (fun q hq => by cases hq)
 obtain ⟨mA, mc, rfl, -⟩ := RdS.of_owns O5
 have HB := Lib.hid (show BSt 38 49 w w5 X (X + 1) Z #[.int .u8 k, .slice pA p.length pc, .int .i64 at_, .slice tA tq.length tc, .int .u64 id, .bool lf, .string lb, .string ky, .string vl, .bool gn, .slice cA ps.length cc] #[.int .u8 k, .slice none 0 0, .int .i64 0, .slice none 0 0, .int .u64 0, .bool false, .string ⟨#[]⟩, .string ⟨#[]⟩, .string ⟨#[]⟩, .bool false, .slice none 0 0] p tq [] (.slice nA p.length nc) (.slice mA tq.length mc) (.slice none 0 0) from
  ⟨HE4.out.trans X5, HX4.out.ext X5, HY4.out.ext X5, HZ4.out.ext X5, HLO.out, owns_ext X5 HO4.out, owns_low O5 HE4.out.size, noRow _ _ _ _⟩)
 clear O5 hg5 hat5 X5 hnil hrd x0 x3 HE4 HX4 HY4 HZ4 HO4 HP HT
 rcases Decidable.em (k = 1) with rfl | k1
 ·have x0 := HB.out.bx.cell 0
  have x2 := HB.out.bx.cell 2
  have y2 := HB.out.bz.cell 2
  have z2 := HB.out.bz.frozen 2
  obtain ⟨w6, hw⟩ : ∃ W, w5.setCell ⟨Z, 2, none⟩ (.int .i64 at_) = W := ⟨_, rfl⟩
  have HB2 := Lib.hid (show BSt 38 49 w w6 X (X + 1) Z #[.int .u8 1, .slice pA p.length pc, .int .i64 at_, .slice tA tq.length tc, .int .u64 id, .bool lf, .string lb, .string ky, .string vl, .bool gn, .slice cA ps.length cc] #[.int .u8 1, .slice none 0 0, .int .i64 at_, .slice none 0 0, .int .u64 0, .bool false, .string ⟨#[]⟩, .string ⟨#[]⟩, .string ⟨#[]⟩, .bool false, .slice none 0 0] p tq [] (.slice nA p.length nc) (.slice mA tq.length mc) (.slice none 0 0) from by rw [← hw]; exact HB.out.st (by decide) (by decide) 2 _)
  have HW := Lib.hid hw
  clear hw
  go_upto_region 9 with fail
  rw [HW.out]
  clear HW y2 z2 x2 HB x0 
  have HB := HB2
  clear HB2
  have x4 := HB.out.bx.cell 4
  have y4 := HB.out.bz.cell 4
  have z4 := HB.out.bz.frozen 4
  obtain ⟨w7, hw⟩ : ∃ W, w6.setCell ⟨Z, 4, none⟩ (.int .u64 id) = W := ⟨_, rfl⟩
  have HB2 := Lib.hid (show BSt 38 49 w w7 X (X + 1) Z #[.int .u8 1, .slice pA p.length pc, .int .i64 at_, .slice tA tq.length tc, .int .u64 id, .bool lf, .string lb, .string ky, .string vl, .bool gn, .slice cA ps.length cc] #[.int .u8 1, .slice none 0 0, .int .i64 at_, .slice none 0 0, .int .u64 id, .bool false, .string ⟨#[]⟩, .string ⟨#[]⟩, .string ⟨#[]⟩, .bool false, .slice none 0 0] p tq [] (.slice nA p.length nc) (.slice mA tq.length mc) (.slice none 0 0) from by rw [← hw]; exact HB.out.st (by decide) (by decide) 4 _)
  have HW := Lib.hid hw
  clear hw
  go_upto_region 10 with fail
  rw [HW.out]
  clear HW y4 z4 x4 HB  
  have HB := HB2
  clear HB2
  have x5 := HB.out.bx.cell 5
  have y5 := HB.out.bz.cell 5
  have z5 := HB.out.bz.frozen 5
  obtain ⟨w8, hw⟩ : ∃ W, w7.setCell ⟨Z, 5, none⟩ (.bool lf) = W := ⟨_, rfl⟩
  have HB2 := Lib.hid (show BSt 38 49 w w8 X (X + 1) Z #[.int .u8 1, .slice pA p.length pc, .int .i64 at_, .slice tA tq.length tc, .int .u64 id, .bool lf, .string lb, .string ky, .string vl, .bool gn, .slice cA ps.length cc] #[.int .u8 1, .slice none 0 0, .int .i64 at_, .slice none 0 0, .int .u64 id, .bool lf, .string ⟨#[]⟩, .string ⟨#[]⟩, .string ⟨#[]⟩, .bool false, .slice none 0 0] p tq [] (.slice nA p.length nc) (.slice mA tq.length mc) (.slice none 0 0) from by rw [← hw]; exact HB.out.st (by decide) (by decide) 5 _)
  have HW := Lib.hid hw
  clear hw
  go_upto_region 11 with fail
  rw [HW.out]
  clear HW y5 z5 x5 HB  
  have HB := HB2
  clear HB2
  have x6 := HB.out.bx.cell 6
  have y6 := HB.out.bz.cell 6
  have z6 := HB.out.bz.frozen 6
  obtain ⟨w9, hw⟩ : ∃ W, w8.setCell ⟨Z, 6, none⟩ (.string lb) = W := ⟨_, rfl⟩
  have HB2 := Lib.hid (show BSt 38 49 w w9 X (X + 1) Z #[.int .u8 1, .slice pA p.length pc, .int .i64 at_, .slice tA tq.length tc, .int .u64 id, .bool lf, .string lb, .string ky, .string vl, .bool gn, .slice cA ps.length cc] #[.int .u8 1, .slice none 0 0, .int .i64 at_, .slice none 0 0, .int .u64 id, .bool lf, .string lb, .string ⟨#[]⟩, .string ⟨#[]⟩, .bool false, .slice none 0 0] p tq [] (.slice nA p.length nc) (.slice mA tq.length mc) (.slice none 0 0) from by rw [← hw]; exact HB.out.st (by decide) (by decide) 6 _)
  have HW := Lib.hid hw
  clear hw
  go_upto_region 25 with fail
  rw [HW.out]
  clear HW y6 z6 x6 HB  
  have HB := HB2
  clear HB2
  have y1 := HB.out.bz.cell 1
  have z1 := HB.out.bz.frozen 1
  obtain ⟨w10, hw⟩ : ∃ W, w9.setCell ⟨Z, 1, none⟩ (.slice nA p.length nc) = W := ⟨_, rfl⟩
  have HB2 := Lib.hid (show BSt 38 49 w w10 X (X + 1) Z #[.int .u8 1, .slice pA p.length pc, .int .i64 at_, .slice tA tq.length tc, .int .u64 id, .bool lf, .string lb, .string ky, .string vl, .bool gn, .slice cA ps.length cc] #[.int .u8 1, .slice nA p.length nc, .int .i64 at_, .slice none 0 0, .int .u64 id, .bool lf, .string lb, .string ⟨#[]⟩, .string ⟨#[]⟩, .bool false, .slice none 0 0] p tq [] (.slice nA p.length nc) (.slice mA tq.length mc) (.slice none 0 0) from by rw [← hw]; exact HB.out.st (by decide) (by decide) 1 _)
  have HW := Lib.hid hw
  clear hw
  go_upto_region 26 with fail
  rw [HW.out]
  clear HW y1 z1  HB  
  have HB := HB2
  clear HB2
  obtain ⟨y0, y1, y2, y3, y4, y5, y6, y7, y8, y9, y10⟩ := HB.out.byy.c11
  obtain ⟨f0, f1, f2, f3, f4, f5, f6, f7, f8, f9, f10⟩ := HB.out.byy.f11
  obtain ⟨z0, z1, z2, z3, z4, z5, z6, z7, z8, z9, z10⟩ := HB.out.bz.c11
  go_wp2_with fail
  refine bodyPost_ret (results_st rfl _ rfl (HB.out.byy.s11 _ _ _ _ _ _ _ _ _ _ _) Try.underlying38 rfl info38) rfl ?_
  exact bare_fin HB.out ⟨1, p, at_, [], id, lf, lb, ⟨#[]⟩, ⟨#[]⟩, false, []⟩ HB.out.op (noRow _ _ _ _) (noRow _ _ _ _)
 rcases Decidable.em (k = 2) with rfl | k2
 ·have x0 := HB.out.bx.cell 0
  have y1 := HB.out.bz.cell 1
  have z1 := HB.out.bz.frozen 1
  obtain ⟨w6, hw⟩ : ∃ W, w5.setCell ⟨Z, 1, none⟩ (.slice nA p.length nc) = W := ⟨_, rfl⟩
  have HB2 := Lib.hid (show BSt 38 49 w w6 X (X + 1) Z #[.int .u8 2, .slice pA p.length pc, .int .i64 at_, .slice tA tq.length tc, .int .u64 id, .bool lf, .string lb, .string ky, .string vl, .bool gn, .slice cA ps.length cc] #[.int .u8 2, .slice nA p.length nc, .int .i64 0, .slice none 0 0, .int .u64 0, .bool false, .string ⟨#[]⟩, .string ⟨#[]⟩, .string ⟨#[]⟩, .bool false, .slice none 0 0] p tq [] (.slice nA p.length nc) (.slice mA tq.length mc) (.slice none 0 0) from by rw [← hw]; exact HB.out.st (by decide) (by decide) 1 _)
  have HW := Lib.hid hw
  clear hw
  go_upto_region 26 with fail
  rw [HW.out]
  clear HW y1 z1  HB x0 
  have HB := HB2
  clear HB2
  obtain ⟨y0, y1, y2, y3, y4, y5, y6, y7, y8, y9, y10⟩ := HB.out.byy.c11
  obtain ⟨f0, f1, f2, f3, f4, f5, f6, f7, f8, f9, f10⟩ := HB.out.byy.f11
  obtain ⟨z0, z1, z2, z3, z4, z5, z6, z7, z8, z9, z10⟩ := HB.out.bz.c11
  go_wp2_with fail
  refine bodyPost_ret (results_st rfl _ rfl (HB.out.byy.s11 _ _ _ _ _ _ _ _ _ _ _) Try.underlying38 rfl info38) rfl ?_
  exact bare_fin HB.out ⟨2, p, 0, [], 0, false, ⟨#[]⟩, ⟨#[]⟩, ⟨#[]⟩, false, []⟩ HB.out.op (noRow _ _ _ _) (noRow _ _ _ _)
 rcases Decidable.em (k = 3) with rfl | k3
 ·have x0 := HB.out.bx.cell 0
  have x2 := HB.out.bx.cell 2
  have y2 := HB.out.bz.cell 2
  have z2 := HB.out.bz.frozen 2
  obtain ⟨w6, hw⟩ : ∃ W, w5.setCell ⟨Z, 2, none⟩ (.int .i64 at_) = W := ⟨_, rfl⟩
  have HB2 := Lib.hid (show BSt 38 49 w w6 X (X + 1) Z #[.int .u8 3, .slice pA p.length pc, .int .i64 at_, .slice tA tq.length tc, .int .u64 id, .bool lf, .string lb, .string ky, .string vl, .bool gn, .slice cA ps.length cc] #[.int .u8 3, .slice none 0 0, .int .i64 at_, .slice none 0 0, .int .u64 0, .bool false, .string ⟨#[]⟩, .string ⟨#[]⟩, .string ⟨#[]⟩, .bool false, .slice none 0 0] p tq [] (.slice nA p.length nc) (.slice mA tq.length mc) (.slice none 0 0) from by rw [← hw]; exact HB.out.st (by decide) (by decide) 2 _)
  have HW := Lib.hid hw
  clear hw
  go_upto_region 15 with fail
  rw [HW.out]
  clear HW y2 z2 x2 HB x0 
  have HB := HB2
  clear HB2
  have y3 := HB.out.bz.cell 3
  have z3 := HB.out.bz.frozen 3
  obtain ⟨w7, hw⟩ : ∃ W, w6.setCell ⟨Z, 3, none⟩ (.slice mA tq.length mc) = W := ⟨_, rfl⟩
  have HB2 := Lib.hid (show BSt 38 49 w w7 X (X + 1) Z #[.int .u8 3, .slice pA p.length pc, .int .i64 at_, .slice tA tq.length tc, .int .u64 id, .bool lf, .string lb, .string ky, .string vl, .bool gn, .slice cA ps.length cc] #[.int .u8 3, .slice none 0 0, .int .i64 at_, .slice mA tq.length mc, .int .u64 0, .bool false, .string ⟨#[]⟩, .string ⟨#[]⟩, .string ⟨#[]⟩, .bool false, .slice none 0 0] p tq [] (.slice nA p.length nc) (.slice mA tq.length mc) (.slice none 0 0) from by rw [← hw]; exact HB.out.st (by decide) (by decide) 3 _)
  have HW := Lib.hid hw
  clear hw
  go_upto_region 25 with fail
  rw [HW.out]
  clear HW y3 z3  HB  
  have HB := HB2
  clear HB2
  have y1 := HB.out.bz.cell 1
  have z1 := HB.out.bz.frozen 1
  obtain ⟨w8, hw⟩ : ∃ W, w7.setCell ⟨Z, 1, none⟩ (.slice nA p.length nc) = W := ⟨_, rfl⟩
  have HB2 := Lib.hid (show BSt 38 49 w w8 X (X + 1) Z #[.int .u8 3, .slice pA p.length pc, .int .i64 at_, .slice tA tq.length tc, .int .u64 id, .bool lf, .string lb, .string ky, .string vl, .bool gn, .slice cA ps.length cc] #[.int .u8 3, .slice nA p.length nc, .int .i64 at_, .slice mA tq.length mc, .int .u64 0, .bool false, .string ⟨#[]⟩, .string ⟨#[]⟩, .string ⟨#[]⟩, .bool false, .slice none 0 0] p tq [] (.slice nA p.length nc) (.slice mA tq.length mc) (.slice none 0 0) from by rw [← hw]; exact HB.out.st (by decide) (by decide) 1 _)
  have HW := Lib.hid hw
  clear hw
  go_upto_region 26 with fail
  rw [HW.out]
  clear HW y1 z1  HB  
  have HB := HB2
  clear HB2
  obtain ⟨y0, y1, y2, y3, y4, y5, y6, y7, y8, y9, y10⟩ := HB.out.byy.c11
  obtain ⟨f0, f1, f2, f3, f4, f5, f6, f7, f8, f9, f10⟩ := HB.out.byy.f11
  obtain ⟨z0, z1, z2, z3, z4, z5, z6, z7, z8, z9, z10⟩ := HB.out.bz.c11
  go_wp2_with fail
  refine bodyPost_ret (results_st rfl _ rfl (HB.out.byy.s11 _ _ _ _ _ _ _ _ _ _ _) Try.underlying38 rfl info38) rfl ?_
  exact bare_fin HB.out ⟨3, p, at_, tq, 0, false, ⟨#[]⟩, ⟨#[]⟩, ⟨#[]⟩, false, []⟩ HB.out.op HB.out.ot (noRow _ _ _ _)
 rcases Decidable.em (k = 4) with rfl | k4
 ·cases gn
  ·have x0 := HB.out.bx.cell 0
   have x9 := HB.out.bx.cell 9
   have x7 := HB.out.bx.cell 7
   have y7 := HB.out.bz.cell 7
   have z7 := HB.out.bz.frozen 7
   obtain ⟨w6, hw⟩ : ∃ W, w5.setCell ⟨Z, 7, none⟩ (.string ky) = W := ⟨_, rfl⟩
   have HB2 := Lib.hid (show BSt 38 49 w w6 X (X + 1) Z #[.int .u8 4, .slice pA p.length pc, .int .i64 at_, .slice tA tq.length tc, .int .u64 id, .bool lf, .string lb, .string ky, .string vl, .bool false, .slice cA ps.length cc] #[.int .u8 4, .slice none 0 0, .int .i64 0, .slice none 0 0, .int .u64 0, .bool false, .string ⟨#[]⟩, .string ky, .string ⟨#[]⟩, .bool false, .slice none 0 0] p tq [] (.slice nA p.length nc) (.slice mA tq.length mc) (.slice none 0 0) from by rw [← hw]; exact HB.out.st (by decide) (by decide) 7 _)
   have HW := Lib.hid hw
   clear hw
   go_upto_region 18 with fail
   rw [HW.out]
   clear HW y7 z7 x7 HB x0 x9
   have HB := HB2
   clear HB2
   try (clear x9)
   have x9 := HB.out.bx.cell 9
   have y9 := HB.out.bz.cell 9
   have z9 := HB.out.bz.frozen 9
   obtain ⟨w7, hw⟩ : ∃ W, w6.setCell ⟨Z, 9, none⟩ (.bool false) = W := ⟨_, rfl⟩
   have HB2 := Lib.hid (show BSt 38 49 w w7 X (X + 1) Z #[.int .u8 4, .slice pA p.length pc, .int .i64 at_, .slice tA tq.length tc, .int .u64 id, .bool lf, .string lb, .string ky, .string vl, .bool false, .slice cA ps.length cc] #[.int .u8 4, .slice none 0 0, .int .i64 0, .slice none 0 0, .int .u64 0, .bool false, .string ⟨#[]⟩, .string ky, .string ⟨#[]⟩, .bool false, .slice none 0 0] p tq [] (.slice nA p.length nc) (.slice mA tq.length mc) (.slice none 0 0) from by rw [← hw]; exact HB.out.st (by decide) (by decide) 9 _)
   have HW := Lib.hid hw
   clear hw
   go_upto_region 19 with fail
   rw [HW.out]
   clear HW y9 z9 x9 HB  
   have HB := HB2
   clear HB2
   try (clear x9)
   have x9 := HB.out.bx.cell 9
   have x8 := HB.out.bx.cell 8
   have y8 := HB.out.bz.cell 8
   have z8 := HB.out.bz.frozen 8
   obtain ⟨w8, hw⟩ : ∃ W, w7.setCell ⟨Z, 8, none⟩ (.string vl) = W := ⟨_, rfl⟩
   have HB2 := Lib.hid (show BSt 38 49 w w8 X (X + 1) Z #[.int .u8 4, .slice pA p.length pc, .int .i64 at_, .slice tA tq.length tc, .int .u64 id, .bool lf, .string lb, .string ky, .string vl, .bool false, .slice cA ps.length cc] #[.int .u8 4, .slice none 0 0, .int .i64 0, .slice none 0 0, .int .u64 0, .bool false, .string ⟨#[]⟩, .string ky, .string vl, .bool false, .slice none 0 0] p tq [] (.slice nA p.length nc) (.slice mA tq.length mc) (.slice none 0 0) from by rw [← hw]; exact HB.out.st (by decide) (by decide) 8 _)
   have HW := Lib.hid hw
   clear hw
   go_upto_region 25 with fail
   rw [HW.out]
   clear HW y8 z8 x8 HB  
   have HB := HB2
   clear HB2
   try (clear x9)
   have x9 := HB.out.bx.cell 9
   have y1 := HB.out.bz.cell 1
   have z1 := HB.out.bz.frozen 1
   obtain ⟨w9, hw⟩ : ∃ W, w8.setCell ⟨Z, 1, none⟩ (.slice nA p.length nc) = W := ⟨_, rfl⟩
   have HB2 := Lib.hid (show BSt 38 49 w w9 X (X + 1) Z #[.int .u8 4, .slice pA p.length pc, .int .i64 at_, .slice tA tq.length tc, .int .u64 id, .bool lf, .string lb, .string ky, .string vl, .bool false, .slice cA ps.length cc] #[.int .u8 4, .slice nA p.length nc, .int .i64 0, .slice none 0 0, .int .u64 0, .bool false, .string ⟨#[]⟩, .string ky, .string vl, .bool false, .slice none 0 0] p tq [] (.slice nA p.length nc) (.slice mA tq.length mc) (.slice none 0 0) from by rw [← hw]; exact HB.out.st (by decide) (by decide) 1 _)
   have HW := Lib.hid hw
   clear hw
   go_upto_region 26 with fail
   rw [HW.out]
   clear HW y1 z1  HB  
   have HB := HB2
   clear HB2
   try (clear x9)
   have x9 := HB.out.bx.cell 9
   obtain ⟨y0, y1, y2, y3, y4, y5, y6, y7, y8, y9, y10⟩ := HB.out.byy.c11
   obtain ⟨f0, f1, f2, f3, f4, f5, f6, f7, f8, f9, f10⟩ := HB.out.byy.f11
   obtain ⟨z0, z1, z2, z3, z4, z5, z6, z7, z8, z9, z10⟩ := HB.out.bz.c11
   go_wp2_with fail
   refine bodyPost_ret (results_st rfl _ rfl (HB.out.byy.s11 _ _ _ _ _ _ _ _ _ _ _) Try.underlying38 rfl info38) rfl ?_
   exact bare_fin HB.out ⟨4, p, 0, [], 0, false, ⟨#[]⟩, ky, vl, false, []⟩ HB.out.op (noRow _ _ _ _) (noRow _ _ _ _)
  ·have x0 := HB.out.bx.cell 0
   have x9 := HB.out.bx.cell 9
   have x7 := HB.out.bx.cell 7
   have y7 := HB.out.bz.cell 7
   have z7 := HB.out.bz.frozen 7
   obtain ⟨w6, hw⟩ : ∃ W, w5.setCell ⟨Z, 7, none⟩ (.string ky) = W := ⟨_, rfl⟩
   have HB2 := Lib.hid (show BSt 38 49 w w6 X (X + 1) Z #[.int .u8 4, .slice pA p.length pc, .int .i64 at_, .slice tA tq.length tc, .int .u64 id, .bool lf, .string lb, .string ky, .string vl, .bool true, .slice cA ps.length cc] #[.int .u8 4, .slice none 0 0, .int .i64 0, .slice none 0 0, .int .u64 0, .bool false, .string ⟨#[]⟩, .string ky, .string ⟨#[]⟩, .bool false, .slice none 0 0] p tq [] (.slice nA p.length nc) (.slice mA tq.length mc) (.slice none 0 0) from by rw [← hw]; exact HB.out.st (by decide) (by decide) 7 _)
   have HW := Lib.hid hw
   clear hw
   go_upto_region 18 with fail
   rw [HW.out]
   clear HW y7 z7 x7 HB x0 x9
   have HB := HB2
   clear HB2
   try (clear x9)
   have x9 := HB.out.bx.cell 9
   have y9 := HB.out.bz.cell 9
   have z9 := HB.out.bz.frozen 9
   obtain ⟨w7, hw⟩ : ∃ W, w6.setCell ⟨Z, 9, none⟩ (.bool true) = W := ⟨_, rfl⟩
   have HB2 := Lib.hid (show BSt 38 49 w w7 X (X + 1) Z #[.int .u8 4, .slice pA p.length pc, .int .i64 at_, .slice tA tq.length tc, .int .u64 id, .bool lf, .string lb, .string ky, .string vl, .bool true, .slice cA ps.length cc] #[.int .u8 4, .slice none 0 0, .int .i64 0, .slice none 0 0, .int .u64 0, .bool false, .string ⟨#[]⟩, .string ky, .string ⟨#[]⟩, .bool true, .slice none 0 0] p tq [] (.slice nA p.length nc) (.slice mA tq.length mc) (.slice none 0 0) from by rw [← hw]; exact HB.out.st (by decide) (by decide) 9 _)
   have HW := Lib.hid hw
   clear hw
   go_upto_region 19 with fail
   rw [HW.out]
   clear HW y9 z9 x9 HB  
   have HB := HB2
   clear HB2
   try (clear x9)
   have x9 := HB.out.bx.cell 9
   have y1 := HB.out.bz.cell 1
   have z1 := HB.out.bz.frozen 1
   obtain ⟨w8, hw⟩ : ∃ W, w7.setCell ⟨Z, 1, none⟩ (.slice nA p.length nc) = W := ⟨_, rfl⟩
   have HB2 := Lib.hid (show BSt 38 49 w w8 X (X + 1) Z #[.int .u8 4, .slice pA p.length pc, .int .i64 at_, .slice tA tq.length tc, .int .u64 id, .bool lf, .string lb, .string ky, .string vl, .bool true, .slice cA ps.length cc] #[.int .u8 4, .slice nA p.length nc, .int .i64 0, .slice none 0 0, .int .u64 0, .bool false, .string ⟨#[]⟩, .string ky, .string ⟨#[]⟩, .bool true, .slice none 0 0] p tq [] (.slice nA p.length nc) (.slice mA tq.length mc) (.slice none 0 0) from by rw [← hw]; exact HB.out.st (by decide) (by decide) 1 _)
   have HW := Lib.hid hw
   clear hw
   go_upto_region 26 with fail
   rw [HW.out]
   clear HW y1 z1  HB  
   have HB := HB2
   clear HB2
   try (clear x9)
   have x9 := HB.out.bx.cell 9
   obtain ⟨y0, y1, y2, y3, y4, y5, y6, y7, y8, y9, y10⟩ := HB.out.byy.c11
   obtain ⟨f0, f1, f2, f3, f4, f5, f6, f7, f8, f9, f10⟩ := HB.out.byy.f11
   obtain ⟨z0, z1, z2, z3, z4, z5, z6, z7, z8, z9, z10⟩ := HB.out.bz.c11
   go_wp2_with fail
   refine bodyPost_ret (results_st rfl _ rfl (HB.out.byy.s11 _ _ _ _ _ _ _ _ _ _ _) Try.underlying38 rfl info38) rfl ?_
   exact bare_fin HB.out ⟨4, p, 0, [], 0, false, ⟨#[]⟩, ky, ⟨#[]⟩, true, []⟩ HB.out.op (noRow _ _ _ _) (noRow _ _ _ _)
 rcases Decidable.em (k = 5) with rfl | k5
 ·have x0 := HB.out.bx.cell 0
  have x6 := HB.out.bx.cell 6
  have y6 := HB.out.bz.cell 6
  have z6 := HB.out.bz.frozen 6
  obtain ⟨w6, hw⟩ : ∃ W, w5.setCell ⟨Z, 6, none⟩ (.string lb) = W := ⟨_, rfl⟩
  have HB2 := Lib.hid (show BSt 38 49 w w6 X (X + 1) Z #[.int .u8 5, .slice pA p.length pc, .int .i64 at_, .slice tA tq.length tc, .int .u64 id, .bool lf, .string lb, .string ky, .string vl, .bool gn, .slice cA ps.length cc] #[.int .u8 5, .slice none 0 0, .int .i64 0, .slice none 0 0, .int .u64 0, .bool false, .string lb, .string ⟨#[]⟩, .string ⟨#[]⟩, .bool false, .slice none 0 0] p tq [] (.slice nA p.length nc) (.slice mA tq.length mc) (.slice none 0 0) from by rw [← hw]; exact HB.out.st (by decide) (by decide) 6 _)
  have HW := Lib.hid hw
  clear hw
  go_upto_region 25 with fail
  rw [HW.out]
  clear HW y6 z6 x6 HB x0 
  have HB := HB2
  clear HB2
  have y1 := HB.out.bz.cell 1
  have z1 := HB.out.bz.frozen 1
  obtain ⟨w7, hw⟩ : ∃ W, w6.setCell ⟨Z, 1, none⟩ (.slice nA p.length nc) = W := ⟨_, rfl⟩
  have HB2 := Lib.hid (show BSt 38 49 w w7 X (X + 1) Z #[.int .u8 5, .slice pA p.length pc, .int .i64 at_, .slice tA tq.length tc, .int .u64 id, .bool lf, .string lb, .string ky, .string vl, .bool gn, .slice cA ps.length cc] #[.int .u8 5, .slice nA p.length nc, .int .i64 0, .slice none 0 0, .int .u64 0, .bool false, .string lb, .string ⟨#[]⟩, .string ⟨#[]⟩, .bool false, .slice none 0 0] p tq [] (.slice nA p.length nc) (.slice mA tq.length mc) (.slice none 0 0) from by rw [← hw]; exact HB.out.st (by decide) (by decide) 1 _)
  have HW := Lib.hid hw
  clear hw
  go_upto_region 26 with fail
  rw [HW.out]
  clear HW y1 z1  HB  
  have HB := HB2
  clear HB2
  obtain ⟨y0, y1, y2, y3, y4, y5, y6, y7, y8, y9, y10⟩ := HB.out.byy.c11
  obtain ⟨f0, f1, f2, f3, f4, f5, f6, f7, f8, f9, f10⟩ := HB.out.byy.f11
  obtain ⟨z0, z1, z2, z3, z4, z5, z6, z7, z8, z9, z10⟩ := HB.out.bz.c11
  go_wp2_with fail
  refine bodyPost_ret (results_st rfl _ rfl (HB.out.byy.s11 _ _ _ _ _ _ _ _ _ _ _) Try.underlying38 rfl info38) rfl ?_
  exact bare_fin HB.out ⟨5, p, 0, [], 0, false, lb, ⟨#[]⟩, ⟨#[]⟩, false, []⟩ HB.out.op (noRow _ _ _ _) (noRow _ _ _ _)
 rcases Decidable.em (k = 6) with rfl | k6
 ·have x0 := HB.out.bx.cell 0
  have x10 := HB.out.bx.cell 10
  have y10 := HB.out.bz.cell 10
  have hnil : w5.ownsRow w5.heap.size 49 3 (.slice none 0 0) 0 [] := noRow _ _ _ _
  have hrd := (RdP.ext HB.out.ext HC.out).rds
  go_upto_region 24 with fail
  go_wp2_with (first | (at_builtin; refine wpList_append_rd rfl rfl T36 (v := _) (by rfl) hnil (by rfl) hrd (vals_one _) (by omega) (by simp only [maxLen]; omega) (Nat.le_refl _) ?_))
  intro v9 w6 O9 hg9 hat9
  have O9 := (show w6.ownsRow w5.heap.size 49 3 v9 ps.length (pcVals ps) from by simpa using O9)
  have X9 : Ext w5 w6 := Ext.grown (Ext.refl w5) hg9 (fun q hq => by cases hq)
  obtain ⟨lA, lc, rfl, -⟩ := RdS.of_owns O9
  have HB2 := Lib.hid (show BSt 38 49 w w6 X (X + 1) Z #[.int .u8 6, .slice pA p.length pc, .int .i64 at_, .slice tA tq.length tc, .int .u64 id, .bool lf, .string lb, .string ky, .string vl, .bool gn, .slice cA ps.length cc] #[.int .u8 6, .slice none 0 0, .int .i64 0, .slice none 0 0, .int .u64 0, .bool false, .string ⟨#[]⟩, .string ⟨#[]⟩, .string ⟨#[]⟩, .bool false, .slice none 0 0] p tq ps (.slice nA p.length nc) (.slice mA tq.length mc) (.slice lA ps.length lc) from
   ⟨HB.out.ext.trans X9, HB.out.bx.ext X9, HB.out.byy.ext X9, HB.out.bz.ext X9, HB.out.lo, owns_ext X9 HB.out.op, owns_ext X9 HB.out.ot, owns_low O9 HB.out.ext.size⟩)
  clear O9 hg9 hat9 X9 hnil hrd x10 y10 HB
  have HB := HB2
  clear HB2
  have y10 := HB.out.bz.cell 10
  have z10 := HB.out.bz.frozen 10
  obtain ⟨w7, hw⟩ : ∃ W, w6.setCell ⟨Z, 10, none⟩ (.slice lA ps.length lc) = W := ⟨_, rfl⟩
  have HB2 := Lib.hid (show BSt 38 49 w w7 X (X + 1) Z #[.int .u8 6, .slice pA p.length pc, .int .i64 at_, .slice tA tq.length tc, .int .u64 id, .bool lf, .string lb, .string ky, .string vl, .bool gn, .slice cA ps.length cc] #[.int .u8 6, .slice none 0 0, .int .i64 0, .slice none 0 0, .int .u64 0, .bool false, .string ⟨#[]⟩, .string ⟨#[]⟩, .string ⟨#[]⟩, .bool false, .slice lA ps.length lc] p tq ps (.slice nA p.length nc) (.slice mA tq.length mc) (.slice lA ps.length lc) from by rw [← hw]; exact HB.out.st (by decide) (by decide) 10 _)
  have HW := Lib.hid hw
  clear hw
  go_upto_region 25 with fail
  rw [HW.out]
  clear HW y10 z10  HB x0 
  have HB := HB2
  clear HB2
  have y1 := HB.out.bz.cell 1
  have z1 := HB.out.bz.frozen 1
  obtain ⟨w8, hw⟩ : ∃ W, w7.setCell ⟨Z, 1, none⟩ (.slice nA p.length nc) = W := ⟨_, rfl⟩
  have HB2 := Lib.hid (show BSt 38 49 w w8 X (X + 1) Z #[.int .u8 6, .slice pA p.length pc, .int .i64 at_, .slice tA tq.length tc, .int .u64 id, .bool lf, .string lb, .string ky, .string vl, .bool gn, .slice cA ps.length cc] #[.int .u8 6, .slice nA p.length nc, .int .i64 0, .slice none 0 0, .int .u64 0, .bool false, .string ⟨#[]⟩, .string ⟨#[]⟩, .string ⟨#[]⟩, .bool false, .slice lA ps.length lc] p tq ps (.slice nA p.length nc) (.slice mA tq.length mc) (.slice lA ps.length lc) from by rw [← hw]; exact HB.out.st (by decide) (by decide) 1 _)
  have HW := Lib.hid hw
  clear hw
  go_upto_region 26 with fail
  rw [HW.out]
  clear HW y1 z1  HB  
  have HB := HB2
  clear HB2
  obtain ⟨y0, y1, y2, y3, y4, y5, y6, y7, y8, y9, y10⟩ := HB.out.byy.c11
  obtain ⟨f0, f1, f2, f3, f4, f5, f6, f7, f8, f9, f10⟩ := HB.out.byy.f11
  obtain ⟨z0, z1, z2, z3, z4, z5, z6, z7, z8, z9, z10⟩ := HB.out.bz.c11
  go_wp2_with fail
  refine bodyPost_ret (results_st rfl _ rfl (HB.out.byy.s11 _ _ _ _ _ _ _ _ _ _ _) Try.underlying38 rfl info38) rfl ?_
  exact bare_fin HB.out ⟨6, p, 0, [], 0, false, ⟨#[]⟩, ⟨#[]⟩, ⟨#[]⟩, false, ps⟩ HB.out.op (noRow _ _ _ _) HB.out.oc
 have t1 : (k == 1) = false := beq_eq_false_iff_ne.2 k1
 have t2 : (k == 2) = false := beq_eq_false_iff_ne.2 k2
 have t3 : (k == 3) = false := beq_eq_false_iff_ne.2 k3
 have t4 : (k == 4) = false := beq_eq_false_iff_ne.2 k4
 have t5 : (k == 5) = false := beq_eq_false_iff_ne.2 k5
 have t6 : (k == 6) = false := beq_eq_false_iff_ne.2 k6
 have hbd : bareD ⟨k, p, at_, tq, id, lf, lb, ky, vl, gn, ps⟩ = ⟨k, [], 0, [], 0, false, ⟨#[]⟩, ⟨#[]⟩, ⟨#[]⟩, false, []⟩ := by simp [bareD, k1, k2, k3, k4, k5, k6]
 clear k1 k2 k3 k4 k5 k6
 have x0 := HB.out.bx.cell 0
 obtain ⟨y0, y1, y2, y3, y4, y5, y6, y7, y8, y9, y10⟩ := HB.out.byy.c11
 obtain ⟨f0, f1, f2, f3, f4, f5, f6, f7, f8, f9, f10⟩ := HB.out.byy.f11
 obtain ⟨z0, z1, z2, z3, z4, z5, z6, z7, z8, z9, z10⟩ := HB.out.bz.c11
 go_wp2_with fail
 refine bodyPost_ret (results_st rfl _ rfl (HB.out.byy.s11 _ _ _ _ _ _ _ _ _ _ _) Try.underlying38 rfl info38) rfl ?_
 rw [hbd]
 exact bare_fin HB.out ⟨k, [], 0, [], 0, false, ⟨#[]⟩, ⟨#[]⟩, ⟨#[]⟩, false, []⟩ (noRow _ _ _ _) (noRow _ _ _ _) (noRow _ _ _ _)
end Go.Proofs.Ytofcbclokkjfjaa.Wi
