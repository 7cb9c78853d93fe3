/- Chapter 10: some (55, 56), treeops.Bare (35) of any operation. (Printed by gsybare.py.) -/
import Derived.Test.YtkimbpeapolcbaaSyOuBareP
import Derived.Test.YtkimbpeapolcbaaSyIdle
import Derived.Deep.CutBlock
namespace Go.Proofs.Ytkimbpeapolcbaa.Sy
open Go.RowKit Go.Proofs.Ytkimbpeapolcbaa.Bw Go.Proofs.Ytkimbpeapolcbaa.Bs

set_option maxRecDepth 100000 in
set_option maxHeartbeats 1000000 in
theorem some55_any (p : List Int) (v : Value) (w : World) (h : RdI w p v) (hl : p.length ≤ 1000000) : Calls Try.prog 55 #[v] w (Ret w fun r w' => w'.ownsRow w.heap.size 3 1 r p.length (p.map (Value.int .i64))) := by
 have h0 := h
 obtain ⟨pA, pc, rfl, -⟩ := h0
 have hnil : w.ownsRow w.heap.size 3 1 (.slice none 0 0) 0 [] := noRow _ _ _ _
 go_enter Try.func55, Try.ntmps55
 go_wp2_with (first | (at_builtin; refine wpList_append_rd rfl rfl T22 (v := _) (by rfl) hnil (by rfl) h (ints_one1 _) (by omega) (by simp only [maxLen]; omega) (Nat.le_refl _) ?_))
 intro v4 w4 O4 hg4 hat4
 have O4 := (show w4.ownsRow w.heap.size 3 1 v4 p.length (p.map (Value.int .i64)) from by simpa using O4)
 have X4 : Ext w w4 := Ext.grown (Ext.refl w) hg4 (fun q hq => by cases hq)
 obtain ⟨nA, nc, rfl, -⟩ := RdS.of_owns O4
 clear hg4 hat4 h hnil
 go_wp2_with fail
 go_ret
 exact ⟨_, rfl, O4, X4⟩
set_option maxRecDepth 100000 in
set_option maxHeartbeats 1000000 in
theorem some56_any (l : List Pc) (v : Value) (w : World) (h : RdP w l v) (hl : l.length ≤ 1000000) : Calls Try.prog 56 #[v] w (Ret w fun r w' => w'.ownsRow w.heap.size 35 3 r l.length (pcVals l)) := by
 have h1 := h.rds
 have h0 := h
 obtain ⟨pA, pc, rfl, -⟩ := h0
 have hnil : w.ownsRow w.heap.size 35 3 (.slice none 0 0) 0 [] := noRow _ _ _ _
 go_enter Try.func56, Try.ntmps56
 go_wp2_with (first | (at_builtin; refine wpList_append_rd rfl rfl T24 (v := _) (by rfl) hnil (by rfl) h1 (vals_one _) (by omega) (by simp only [maxLen]; omega) (Nat.le_refl _) ?_))
 intro v4 w4 O4 hg4 hat4
 have O4 := (show w4.ownsRow w.heap.size 35 3 v4 l.length (pcVals l) from by simpa using O4)
 have X4 : Ext w w4 := Ext.grown (Ext.refl w) hg4 (fun q hq => by cases hq)
 obtain ⟨nA, nc, rfl, -⟩ := RdS.of_owns O4
 clear hg4 hat4 h h1 hnil
 go_wp2_with fail
 go_ret
 exact ⟨_, rfl, O4, X4⟩
/-- A call in the middle of Bare: new rows for the operation. -/
theorem BSt.grow {w W W' : World} {X Y Z : Nat} {ov cs : Array Value} {p tq tq' : List Int} {ps ps' : List Pc} {pv tv tv' cv cv' : Value} (h : BSt 26 35 w W X Y Z ov cs p tq ps pv tv cv) (E : Ext W W') (ht : W'.ownsRow w.heap.size 3 1 tv' tq'.length (tq'.map (Value.int .i64))) (hc : W'.ownsRow w.heap.size 35 3 cv' ps'.length (pcVals ps')) : BSt 26 35 w W' X Y Z ov cs p tq' ps' pv tv' cv' :=
 ⟨h.ext.trans E, h.bx.ext E, h.byy.ext E, h.bz.ext E, h.lo, owns_ext E h.op, ht, hc⟩
set_option maxRecDepth 100000 in
set_option maxHeartbeats 8000000 in
theorem bare35_any (o : OpD) (v : Value) (w : World) (h : o.rd w v) (hp : o.path.length ≤ 100000) (ht : o.to.length ≤ 100000) (hc : o.pcs.length ≤ 100000) : Calls Try.prog 35 #[v] w (fun e W' => Ext w W' ∧ ∃ u, e = .returned u ∧ OpO 35 w.heap.size W' (bareD o) u) := by
 obtain ⟨k, p, at_, tq, id, lf, lb, ky, vl, gn, ps⟩ := o
 obtain ⟨pv, tv, cv, rfl, hP, hT, hC, -, -, -, -, -⟩ := h
 dsimp only at hP hT hC hp ht hc
 have hP' := hP
 obtain ⟨pA, pc, rfl, -⟩ := hP'
 have hT' := hT
 obtain ⟨tA, tc, rfl, -⟩ := hT'
 have hC' := hC
 obtain ⟨cA, cc, rfl, -⟩ := hC'
 dsimp only
 obtain ⟨b, hb⟩ : ∃ b, bareD ⟨k, p, at_, tq, id, lf, lb, ky, vl, gn, ps⟩ = b := ⟨_, rfl⟩
 rw [hb]
 have HBD := Lib.hid hb
 clear hb
 obtain ⟨w1, hw1⟩ : ∃ W, (w.alloc (.cells #[.int .u8 k, .slice pA p.length pc, .int .i64 at_, .slice tA tq.length tc, .int .u64 id, .bool lf, .string lb, .string ky, .string vl, .bool gn, .slice cA ps.length cc] 26)).alloc (.cells #[.int .u8 0, .slice none 0 0, .int .i64 0, .slice none 0 0, .int .u64 0, .bool false, .string ⟨#[]⟩, .string ⟨#[]⟩, .string ⟨#[]⟩, .bool false, .slice none 0 0] 26) = W := ⟨_, rfl⟩
 obtain ⟨X, hX⟩ : ∃ X, w.heap.size = X := ⟨_, rfl⟩
 have s1 : (w.alloc (.cells #[.int .u8 k, .slice pA p.length pc, .int .i64 at_, .slice tA tq.length tc, .int .u64 id, .bool lf, .string lb, .string ky, .string vl, .bool gn, .slice cA ps.length cc] 26)).heap.size = X + 1 := by rw [World.size_alloc, hX]
 have E1 : Ext w w1 := by rw [← hw1]; exact ((Ext.refl w).alloc _).alloc _
 have bX : NBox w1 X 26 #[.int .u8 k, .slice pA p.length pc, .int .i64 at_, .slice tA tq.length tc, .int .u64 id, .bool lf, .string lb, .string ky, .string vl, .bool gn, .slice cA ps.length cc] := by rw [← hw1, ← hX]; exact (NBox.new w 26 _).ext ((Ext.refl _).alloc _)
 have bY : NBox w1 (X + 1) 26 #[.int .u8 0, .slice none 0 0, .int .i64 0, .slice none 0 0, .int .u64 0, .bool false, .string ⟨#[]⟩, .string ⟨#[]⟩, .string ⟨#[]⟩, .bool false, .slice none 0 0] := by rw [← hw1, ← s1]; exact NBox.new _ _ _
 have HE := Lib.hid E1
 have HX := Lib.hid bX
 have HY := Lib.hid bY
 have HP := Lib.hid hP
 have HT := Lib.hid hT
 have HC := Lib.hid hC
 have HLO := Lib.hid (show w.heap.size ≤ X ∧ w.heap.size ≤ X + 1 from by omega)
 have HW1 := Lib.hid hw1
 have HXX := Lib.hid hX
 clear hw1 hX s1 E1 bX bY hP hT hC
 go_enter Try.func35, Try.ntmps35
 go_upto_region 1 with fail
 rw [HW1.out, HXX.out]
 clear HW1
 go_cut [3] from 4 to 9 (fun s3 wx => ∃ (Z : Nat) (nA : Option Addr) (nc : Nat), s3 = .pointer (some ⟨Z, 0, none⟩) ∧ Hid (BSt 26 35 w wx X (X + 1) Z #[.int .u8 k, .slice pA p.length pc, .int .i64 at_, .slice tA tq.length tc, .int .u64 id, .bool lf, .string lb, .string ky, .string vl, .bool gn, .slice cA ps.length cc] #[.int .u8 k, .slice nA p.length nc, .int .i64 0, .slice none 0 0, .int .u64 0, .bool false, .string ⟨#[]⟩, .string ⟨#[]⟩, .string ⟨#[]⟩, .bool false, .slice none 0 0] p [] [] (.slice nA p.length nc) (.slice none 0 0) (.slice none 0 0)))
 case first =>
  obtain ⟨d0, hd0⟩ : ∃ d, w1.drew = d := ⟨_, rfl⟩
  have hE : Ext w1 d0 := by rw [← hd0]; exact (Ext.refl _).drew
  have HE' := Lib.hid (HE.out.trans hE)
  have HX' := Lib.hid (HX.out.ext hE)
  have HY' := Lib.hid (HY.out.ext hE)
  clear hE HE HX HY
  refine wp_region_held_drew (S := fun W => NBox W X 26 #[.int .u8 k, .slice pA p.length pc, .int .i64 at_, .slice tA tq.length tc, .int .u64 id, .bool lf, .string lb, .string ky, .string vl, .bool gn, .slice cA ps.length cc]) (by kernel_rfl) (by rw [hd0]; exact HX'.out) (fun hHeld => ?_)
  rw [hd0] at hHeld ⊢
  clear hd0
  refine wpAnyH_take (i := 0) (oi := ⟨_, _, _, _, _, _⟩) (v := ?_) rfl (by kernel_rfl) (by kernel_rfl) (by kernel_rfl) (fun _ _ _ h => h) (Or.inl ⟨by rfl, ?_⟩) hHeld ?_
  rotate_left
  ·intro w hSw
   try dsimp only at hSw
   go_simp
   all_goals (first | with_reducible rfl | rw [if_pos (by omega)])
  try simp only [Act.put, aS]
  refine wpAnyH_take (i := 1) (oi := ⟨_, _, _, _, _, _⟩) (v := ?_) rfl (by kernel_rfl) (by kernel_rfl) (by kernel_rfl) (fun _ _ _ h => h) (Or.inl ⟨by rfl, ?_⟩) hHeld ?_
  rotate_left
  ·intro w hSw
   have hb : NBox w X 26 _ := hSw
   have g0 := hb.cell 0
   have g1 := hb.cell 1
   have g2 := hb.cell 2
   have g3 := hb.cell 3
   have g4 := hb.cell 4
   have g5 := hb.cell 5
   have g6 := hb.cell 6
   have g7 := hb.cell 7
   have g8 := hb.cell 8
   have g9 := hb.cell 9
   have g10 := hb.cell 10
   clear hb hSw
   go_simp
   all_goals (first | with_reducible rfl | rw [if_pos (by omega)])
  try simp only [Act.put, aS]
  refine wpAnyH_take (i := 2) (oi := ⟨_, _, _, _, _, _⟩) (v := ?_) rfl (by kernel_rfl) (by kernel_rfl) (by kernel_rfl) (fun _ _ _ h => h) (Or.inl ⟨by rfl, ?_⟩) hHeld ?_
  rotate_left
  ·intro w hSw
   try dsimp only at hSw
   go_simp
   all_goals (first | with_reducible rfl | rw [if_pos (by omega)])
  try simp only [Act.put, aS]
  refine wpAnyH_take (i := 3) (oi := ⟨_, _, _, _, _, _⟩) (v := ?_) rfl (by kernel_rfl) (by kernel_rfl) (by kernel_rfl) (fun _ _ _ h => h) (Or.inl ⟨by rfl, ?_⟩) hHeld ?_
  rotate_left
  ·intro w hSw
   have hb : NBox w X 26 _ := hSw
   have g0 := hb.cell 0
   have g1 := hb.cell 1
   have g2 := hb.cell 2
   have g3 := hb.cell 3
   have g4 := hb.cell 4
   have g5 := hb.cell 5
   have g6 := hb.cell 6
   have g7 := hb.cell 7
   have g8 := hb.cell 8
   have g9 := hb.cell 9
   have g10 := hb.cell 10
   clear hb hSw
   go_simp
   all_goals (first | with_reducible rfl | rw [if_pos (by omega)])
  try simp only [Act.put, aS]
  refine wpAnyH_ready (rs := [4, 6]) (by kernel_rfl) (by simp) ?_
  refine AllReadyH.cons (o := ⟨_, _, _, _, _, _⟩) rfl (fun K' hK => ?_) (AllReadyH.cons (o := ⟨_, _, _, _, _, _⟩) rfl (fun K' hK => ?_) (AllReadyH.nil))
  ·-- the call first
   have hq := some55_any p _ d0 (RdS.ext HE'.out HP.out) (by omega)
   go_simp
   go_at_call 55
   refine hq.mono ?_
   clear hq
   rintro e d1 ⟨r, rfl, hO, hE⟩
   have HO := Lib.hid (owns_low hO HE'.out.size)
   obtain ⟨nA, nc, rfl, -⟩ := RdS.of_owns hO
   have HE2 := Lib.hid (HE'.out.trans hE)
   have HX2 := Lib.hid (HX'.out.ext hE)
   have HY2 := Lib.hid (HY'.out.ext hE)
   refine hK.out _ _ (show NBox _ _ _ _ from NBox.ext hE hHeld) (fun hHeld => ?_)
   clear hK K' hO hE HE' HX' HY' 
   try simp only [Act.put, aS]
   have HE' := HE2
   have HX' := HX2
   have HY' := HY2
   clear HE2 HX2 HY2 
   refine wpAnyH_take (i := 5) (oi := ⟨_, _, _, _, _, _⟩) (v := ?_) rfl (by kernel_rfl) (by kernel_rfl) (by kernel_rfl) (fun _ _ _ h => h) (Or.inl ⟨by rfl, ?_⟩) hHeld ?_
   rotate_left
   ·intro w hSw
    try dsimp only at hSw
    go_simp
    all_goals (first | with_reducible rfl | rw [if_pos (by omega)])
   try simp only [Act.put, aS]
   refine wpAnyH_ready (rs := [6]) (by kernel_rfl) (by simp) ?_
   refine AllReadyH.cons (o := ⟨_, _, _, _, _, _⟩) rfl (fun K' hK => ?_) (AllReadyH.nil)
   obtain ⟨d2, hw⟩ : ∃ W, d1.alloc (.cells #[.int .u8 0, .slice none 0 0, .int .i64 0, .slice none 0 0, .int .u64 0, .bool false, .string ⟨#[]⟩, .string ⟨#[]⟩, .string ⟨#[]⟩, .bool false, .slice none 0 0] 26) = W := ⟨_, rfl⟩
   obtain ⟨Z, hZ⟩ : ∃ g, d1.heap.size = g := ⟨_, rfl⟩
   have hE : Ext d1 d2 := by rw [← hw]; exact (Ext.refl _).alloc _
   have HZ := Lib.hid (show NBox d2 Z 26 #[.int .u8 0, .slice none 0 0, .int .i64 0, .slice none 0 0, .int .u64 0, .bool false, .string ⟨#[]⟩, .string ⟨#[]⟩, .string ⟨#[]⟩, .bool false, .slice none 0 0] from by rw [← hw, ← hZ]; exact NBox.new _ _ _)
   have HLZ := Lib.hid (show w.heap.size ≤ Z ∧ X ≠ Z ∧ X + 1 ≠ Z from ⟨by rw [← hZ]; exact HE'.out.size, by rw [← hZ]; exact Nat.ne_of_lt HX'.out.lt, by rw [← hZ]; exact Nat.ne_of_lt HY'.out.lt⟩)
   have HW := Lib.hid hw
   have HZZ := Lib.hid hZ
   clear hw hZ
   go_simp
   rw [HW.out, HZZ.out]
   have HE2 := Lib.hid (HE'.out.trans hE)
   have HX2 := Lib.hid (HX'.out.ext hE)
   have HY2 := Lib.hid (HY'.out.ext hE)
   have HO2 := Lib.hid (owns_ext hE HO.out)
   refine hK.out _ _ (show NBox _ _ _ _ from NBox.ext hE hHeld) (fun hHeld => ?_)
   clear hK K' hE HE' HX' HY' HW HZZ HO
   try simp only [Act.put, aS]
   have HE' := HE2
   have HX' := HX2
   have HY' := HY2
   have HO := HO2
   clear HE2 HX2 HY2 HO2
   have y0 := HZ.out.cell 0
   have y0 := HZ.out.cell 0
   have z0 := HZ.out.frozen 0
   have y1 := HZ.out.cell 1
   have z1 := HZ.out.frozen 1
   have y2 := HZ.out.cell 2
   have z2 := HZ.out.frozen 2
   have y3 := HZ.out.cell 3
   have z3 := HZ.out.frozen 3
   have y4 := HZ.out.cell 4
   have z4 := HZ.out.frozen 4
   have y5 := HZ.out.cell 5
   have z5 := HZ.out.frozen 5
   have y6 := HZ.out.cell 6
   have z6 := HZ.out.frozen 6
   have y7 := HZ.out.cell 7
   have z7 := HZ.out.frozen 7
   have y8 := HZ.out.cell 8
   have z8 := HZ.out.frozen 8
   have y9 := HZ.out.cell 9
   have z9 := HZ.out.frozen 9
   have y10 := HZ.out.cell 10
   have z10 := HZ.out.frozen 10
   obtain ⟨w5, hw5⟩ : ∃ W, (World.setCell (World.setCell (World.setCell (World.setCell (World.setCell (World.setCell (World.setCell (World.setCell (World.setCell (World.setCell (World.setCell d2 ⟨Z, 0, none⟩ (.int .u8 k)) ⟨Z, 1, none⟩ (.slice nA p.length nc)) ⟨Z, 2, none⟩ (.int .i64 0)) ⟨Z, 3, none⟩ (.slice none 0 0)) ⟨Z, 4, none⟩ (.int .u64 0)) ⟨Z, 5, none⟩ (.bool false)) ⟨Z, 6, none⟩ (.string ⟨#[]⟩)) ⟨Z, 7, none⟩ (.string ⟨#[]⟩)) ⟨Z, 8, none⟩ (.string ⟨#[]⟩)) ⟨Z, 9, none⟩ (.bool false)) ⟨Z, 10, none⟩ (.slice none 0 0)) = W := ⟨_, rfl⟩
   have F5 : Fr d2 w5 (fun k => k = Z) := by rw [← hw5]; exact Fr.s11 _ _ _ _ _ _ _ _ _ _ _ _ _
   have HBB := Lib.hid (show BSt 26 35 w w5 X (X + 1) Z #[.int .u8 k, .slice pA p.length pc, .int .i64 at_, .slice tA tq.length tc, .int .u64 id, .bool lf, .string lb, .string ky, .string vl, .bool gn, .slice cA ps.length cc] #[.int .u8 k, .slice nA p.length nc, .int .i64 0, .slice none 0 0, .int .u64 0, .bool false, .string ⟨#[]⟩, .string ⟨#[]⟩, .string ⟨#[]⟩, .bool false, .slice none 0 0] p [] [] (.slice nA p.length nc) (.slice none 0 0) (.slice none 0 0) from
    ⟨Fr.ext HE'.out F5 (fun q hq => by rw [show q = Z from hq]; exact HLZ.out.1), HX'.out.fr F5 HLZ.out.2.1, HY'.out.fr F5 HLZ.out.2.2, by rw [← hw5]; exact HZ.out.s11 _ _ _ _ _ _ _ _ _ _ _, ⟨HLO.out.1, HLO.out.2, HLZ.out.1, HLZ.out.2.1, HLZ.out.2.2⟩, owns_fr F5 HO.out (fun g hg hk => HZ.out.not_own HO.out (by decide) (by rw [hg, show g = Z from hk])), noRow _ _ _ _, noRow _ _ _ _⟩)
   have HW5 := Lib.hid hw5
   clear hw5 F5
   refine wpAnyH_ready (rs := [7]) (by kernel_rfl) (by simp) ?_
   refine AllReadyH.cons (o := ⟨_, _, _, _, _, _⟩) rfl (fun K' hK => ?_) (AllReadyH.nil)
   go_simp
   rw [HW5.out]
   refine hK.out _ _ (show NBox _ _ _ _ from HBB.out.bx) (fun hHeld => ?_)
   clear hK K' HW5 y0 z0 y1 z1 y2 z2 y3 z3 y4 z4 y5 z5 y6 z6 y7 z7 y8 z8 y9 z9 y10 z10
   try simp only [Act.put, aS]
   refine wpAnyH_done (by kernel_rfl) ?_ _
   clear hHeld
   go_wp2_with fail
   go_meet
   case rel => exact ⟨_, _, _, rfl, HBB⟩
  ·-- the box first
   obtain ⟨d1, hw⟩ : ∃ W, d0.alloc (.cells #[.int .u8 0, .slice none 0 0, .int .i64 0, .slice none 0 0, .int .u64 0, .bool false, .string ⟨#[]⟩, .string ⟨#[]⟩, .string ⟨#[]⟩, .bool false, .slice none 0 0] 26) = W := ⟨_, rfl⟩
   obtain ⟨Z, hZ⟩ : ∃ g, d0.heap.size = g := ⟨_, rfl⟩
   have hE : Ext d0 d1 := by rw [← hw]; exact (Ext.refl _).alloc _
   have HZ := Lib.hid (show NBox d1 Z 26 #[.int .u8 0, .slice none 0 0, .int .i64 0, .slice none 0 0, .int .u64 0, .bool false, .string ⟨#[]⟩, .string ⟨#[]⟩, .string ⟨#[]⟩, .bool false, .slice none 0 0] from by rw [← hw, ← hZ]; exact NBox.new _ _ _)
   have HLZ := Lib.hid (show w.heap.size ≤ Z ∧ X ≠ Z ∧ X + 1 ≠ Z from ⟨by rw [← hZ]; exact HE'.out.size, by rw [← hZ]; exact Nat.ne_of_lt HX'.out.lt, by rw [← hZ]; exact Nat.ne_of_lt HY'.out.lt⟩)
   have HW := Lib.hid hw
   have HZZ := Lib.hid hZ
   clear hw hZ
   go_simp
   rw [HW.out, HZZ.out]
   have HE2 := Lib.hid (HE'.out.trans hE)
   have HX2 := Lib.hid (HX'.out.ext hE)
   have HY2 := Lib.hid (HY'.out.ext hE)
   refine hK.out _ _ (show NBox _ _ _ _ from NBox.ext hE hHeld) (fun hHeld => ?_)
   clear hK K' hE HE' HX' HY' HW HZZ 
   try simp only [Act.put, aS]
   have HE' := HE2
   have HX' := HX2
   have HY' := HY2
   clear HE2 HX2 HY2 
   refine wpAnyH_ready (rs := [4]) (by kernel_rfl) (by simp) ?_
   refine AllReadyH.cons (o := ⟨_, _, _, _, _, _⟩) rfl (fun K' hK => ?_) (AllReadyH.nil)
   have hq := some55_any p _ d1 (RdS.ext HE'.out HP.out) (by omega)
   go_simp
   go_at_call 55
   refine hq.mono ?_
   clear hq
   rintro e d2 ⟨r, rfl, hO, hE⟩
   have HO := Lib.hid (owns_low hO HE'.out.size)
   obtain ⟨nA, nc, rfl, -⟩ := RdS.of_owns hO
   have HE2 := Lib.hid (HE'.out.trans hE)
   have HX2 := Lib.hid (HX'.out.ext hE)
   have HY2 := Lib.hid (HY'.out.ext hE)
   have HZ2 := Lib.hid (HZ.out.ext hE)
   refine hK.out _ _ (show NBox _ _ _ _ from NBox.ext hE hHeld) (fun hHeld => ?_)
   clear hK K' hO hE HE' HX' HY' HZ
   try simp only [Act.put, aS]
   have HE' := HE2
   have HX' := HX2
   have HY' := HY2
   have HZ := HZ2
   clear HE2 HX2 HY2 HZ2
   refine wpAnyH_take (i := 5) (oi := ⟨_, _, _, _, _, _⟩) (v := ?_) rfl (by kernel_rfl) (by kernel_rfl) (by kernel_rfl) (fun _ _ _ h => h) (Or.inl ⟨by rfl, ?_⟩) hHeld ?_
   rotate_left
   ·intro w hSw
    try dsimp only at hSw
    go_simp
    all_goals (first | with_reducible rfl | rw [if_pos (by omega)])
   try simp only [Act.put, aS]
   have y0 := HZ.out.cell 0
   have y0 := HZ.out.cell 0
   have z0 := HZ.out.frozen 0
   have y1 := HZ.out.cell 1
   have z1 := HZ.out.frozen 1
   have y2 := HZ.out.cell 2
   have z2 := HZ.out.frozen 2
   have y3 := HZ.out.cell 3
   have z3 := HZ.out.frozen 3
   have y4 := HZ.out.cell 4
   have z4 := HZ.out.frozen 4
   have y5 := HZ.out.cell 5
   have z5 := HZ.out.frozen 5
   have y6 := HZ.out.cell 6
   have z6 := HZ.out.frozen 6
   have y7 := HZ.out.cell 7
   have z7 := HZ.out.frozen 7
   have y8 := HZ.out.cell 8
   have z8 := HZ.out.frozen 8
   have y9 := HZ.out.cell 9
   have z9 := HZ.out.frozen 9
   have y10 := HZ.out.cell 10
   have z10 := HZ.out.frozen 10
   obtain ⟨w5, hw5⟩ : ∃ W, (World.setCell (World.setCell (World.setCell (World.setCell (World.setCell (World.setCell (World.setCell (World.setCell (World.setCell (World.setCell (World.setCell d2 ⟨Z, 0, none⟩ (.int .u8 k)) ⟨Z, 1, none⟩ (.slice nA p.length nc)) ⟨Z, 2, none⟩ (.int .i64 0)) ⟨Z, 3, none⟩ (.slice none 0 0)) ⟨Z, 4, none⟩ (.int .u64 0)) ⟨Z, 5, none⟩ (.bool false)) ⟨Z, 6, none⟩ (.string ⟨#[]⟩)) ⟨Z, 7, none⟩ (.string ⟨#[]⟩)) ⟨Z, 8, none⟩ (.string ⟨#[]⟩)) ⟨Z, 9, none⟩ (.bool false)) ⟨Z, 10, none⟩ (.slice none 0 0)) = W := ⟨_, rfl⟩
   have F5 : Fr d2 w5 (fun k => k = Z) := by rw [← hw5]; exact Fr.s11 _ _ _ _ _ _ _ _ _ _ _ _ _
   have HBB := Lib.hid (show BSt 26 35 w w5 X (X + 1) Z #[.int .u8 k, .slice pA p.length pc, .int .i64 at_, .slice tA tq.length tc, .int .u64 id, .bool lf, .string lb, .string ky, .string vl, .bool gn, .slice cA ps.length cc] #[.int .u8 k, .slice nA p.length nc, .int .i64 0, .slice none 0 0, .int .u64 0, .bool false, .string ⟨#[]⟩, .string ⟨#[]⟩, .string ⟨#[]⟩, .bool false, .slice none 0 0] p [] [] (.slice nA p.length nc) (.slice none 0 0) (.slice none 0 0) from
    ⟨Fr.ext HE'.out F5 (fun q hq => by rw [show q = Z from hq]; exact HLZ.out.1), HX'.out.fr F5 HLZ.out.2.1, HY'.out.fr F5 HLZ.out.2.2, by rw [← hw5]; exact HZ.out.s11 _ _ _ _ _ _ _ _ _ _ _, ⟨HLO.out.1, HLO.out.2, HLZ.out.1, HLZ.out.2.1, HLZ.out.2.2⟩, owns_fr F5 HO.out (fun g hg hk => HZ.out.not_own HO.out (by decide) (by rw [hg, show g = Z from hk])), noRow _ _ _ _, noRow _ _ _ _⟩)
   have HW5 := Lib.hid hw5
   clear hw5 F5
   refine wpAnyH_ready (rs := [7]) (by kernel_rfl) (by simp) ?_
   refine AllReadyH.cons (o := ⟨_, _, _, _, _, _⟩) rfl (fun K' hK => ?_) (AllReadyH.nil)
   go_simp
   rw [HW5.out]
   refine hK.out _ _ (show NBox _ _ _ _ from HBB.out.bx) (fun hHeld => ?_)
   clear hK K' HW5 y0 z0 y1 z1 y2 z2 y3 z3 y4 z4 y5 z5 y6 z6 y7 z7 y8 z8 y9 z9 y10 z10
   try simp only [Act.put, aS]
   refine wpAnyH_done (by kernel_rfl) ?_ _
   clear hHeld
   go_wp2_with fail
   go_meet
   case rel => exact ⟨_, _, _, rfl, HBB⟩
 case rest =>
 obtain ⟨Z, nA, nc, rfl, HB⟩ := hcut
 clear HE HX HY
 have x0 := HB.out.bx.cell 0
 go_upto_block 0 with fail
 clear x0
 go_cut [] from 12 to 62 (fun wx => ∃ (aA : Option Addr) (ac : Nat) (bA : Option Addr) (bc : Nat) (dA : Option Addr) (dc : Nat) (pv tv cv : Value) (q r : List Int) (l : List Pc), Hid (BSt 26 35 w wx X (X + 1) Z #[.int .u8 k, .slice pA p.length pc, .int .i64 at_, .slice tA tq.length tc, .int .u64 id, .bool lf, .string lb, .string ky, .string vl, .bool gn, .slice cA ps.length cc] #[.int .u8 b.kind, .slice aA b.path.length ac, .int .i64 b.at_, .slice bA b.to.length bc, .int .u64 b.id, .bool b.leaf, .string b.label, .string b.key, .string b.value, .bool b.gone, .slice dA b.pcs.length dc] q r l pv tv cv) ∧
  Hid (wx.ownsRow w.heap.size 3 1 (.slice aA b.path.length ac) b.path.length (b.path.map (Value.int .i64)) ∧ wx.ownsRow w.heap.size 3 1 (.slice bA b.to.length bc) b.to.length (b.to.map (Value.int .i64)) ∧ wx.ownsRow w.heap.size 35 3 (.slice dA b.pcs.length dc) b.pcs.length (pcVals b.pcs)))
 case first =>
  rcases Decidable.em (k = 1) with rfl | k1
  ·go_upto_region 5 with fail
   obtain ⟨d0, hd0⟩ : ∃ d, wc.drew = d := ⟨_, rfl⟩
   have hE : Ext wc d0 := by rw [← hd0]; exact (Ext.refl _).drew
   have HB2 := Lib.hid (HB.out.grow hE (owns_ext hE HB.out.ot) (owns_ext hE HB.out.oc))
   clear hE HB
   have HB := HB2
   clear HB2
   refine wp_region_held_drew (S := fun W => NBox W X 26 #[.int .u8 1, .slice pA p.length pc, .int .i64 at_, .slice tA tq.length tc, .int .u64 id, .bool lf, .string lb, .string ky, .string vl, .bool gn, .slice cA ps.length cc]) (by kernel_rfl) (by rw [hd0]; exact HB.out.bx) (fun hHeld => ?_)
   rw [hd0] at hHeld ⊢
   clear hd0
   refine wpAnyH_take (i := 0) (oi := ⟨_, _, _, _, _, _⟩) (v := ?_) rfl (by kernel_rfl) (by kernel_rfl) (by kernel_rfl) (fun _ _ _ h => h) (Or.inl ⟨by rfl, ?_⟩) hHeld ?_
   rotate_left
   ·intro w hSw
    try dsimp only at hSw
    go_simp
    all_goals (first | with_reducible rfl | rw [if_pos (by omega)])
   try simp only [Act.put, aS]
   refine wpAnyH_take (i := 1) (oi := ⟨_, _, _, _, _, _⟩) (v := ?_) rfl (by kernel_rfl) (by kernel_rfl) (by kernel_rfl) (fun _ _ _ h => h) (Or.inl ⟨by rfl, ?_⟩) hHeld ?_
   rotate_left
   ·intro w hSw
    have hb : NBox w X 26 _ := hSw
    have g0 := hb.cell 0
    have g1 := hb.cell 1
    have g2 := hb.cell 2
    have g3 := hb.cell 3
    have g4 := hb.cell 4
    have g5 := hb.cell 5
    have g6 := hb.cell 6
    have g7 := hb.cell 7
    have g8 := hb.cell 8
    have g9 := hb.cell 9
    have g10 := hb.cell 10
    clear hb hSw
    go_simp
    all_goals (first | with_reducible rfl | rw [if_pos (by omega)])
   try simp only [Act.put, aS]
   refine wpAnyH_take (i := 2) (oi := ⟨_, _, _, _, _, _⟩) (v := ?_) rfl (by kernel_rfl) (by kernel_rfl) (by kernel_rfl) (fun _ _ _ h => h) (Or.inl ⟨by rfl, ?_⟩) hHeld ?_
   rotate_left
   ·intro w hSw
    try dsimp only at hSw
    go_simp
    all_goals (first | with_reducible rfl | rw [if_pos (by omega)])
   try simp only [Act.put, aS]
   refine wpAnyH_take (i := 3) (oi := ⟨_, _, _, _, _, _⟩) (v := ?_) rfl (by kernel_rfl) (by kernel_rfl) (by kernel_rfl) (fun _ _ _ h => h) (Or.inl ⟨by rfl, ?_⟩) hHeld ?_
   rotate_left
   ·intro w hSw
    have hb : NBox w X 26 _ := hSw
    have g0 := hb.cell 0
    have g1 := hb.cell 1
    have g2 := hb.cell 2
    have g3 := hb.cell 3
    have g4 := hb.cell 4
    have g5 := hb.cell 5
    have g6 := hb.cell 6
    have g7 := hb.cell 7
    have g8 := hb.cell 8
    have g9 := hb.cell 9
    have g10 := hb.cell 10
    clear hb hSw
    go_simp
    all_goals (first | with_reducible rfl | rw [if_pos (by omega)])
   try simp only [Act.put, aS]
   refine wpAnyH_take (i := 4) (oi := ⟨_, _, _, _, _, _⟩) (v := ?_) rfl (by kernel_rfl) (by kernel_rfl) (by kernel_rfl) (fun _ _ _ h => h) (Or.inl ⟨by rfl, ?_⟩) hHeld ?_
   rotate_left
   ·intro w hSw
    try dsimp only at hSw
    go_simp
    all_goals (first | with_reducible rfl | rw [if_pos (by omega)])
   try simp only [Act.put, aS]
   refine wpAnyH_take (i := 5) (oi := ⟨_, _, _, _, _, _⟩) (v := ?_) rfl (by kernel_rfl) (by kernel_rfl) (by kernel_rfl) (fun _ _ _ h => h) (Or.inl ⟨by rfl, ?_⟩) hHeld ?_
   rotate_left
   ·intro w hSw
    have hb : NBox w X 26 _ := hSw
    have g0 := hb.cell 0
    have g1 := hb.cell 1
    have g2 := hb.cell 2
    have g3 := hb.cell 3
    have g4 := hb.cell 4
    have g5 := hb.cell 5
    have g6 := hb.cell 6
    have g7 := hb.cell 7
    have g8 := hb.cell 8
    have g9 := hb.cell 9
    have g10 := hb.cell 10
    clear hb hSw
    go_simp
    all_goals (first | with_reducible rfl | rw [if_pos (by omega)])
   try simp only [Act.put, aS]
   refine wpAnyH_take (i := 6) (oi := ⟨_, _, _, _, _, _⟩) (v := ?_) rfl (by kernel_rfl) (by kernel_rfl) (by kernel_rfl) (fun _ _ _ h => h) (Or.inl ⟨by rfl, ?_⟩) hHeld ?_
   rotate_left
   ·intro w hSw
    try dsimp only at hSw
    go_simp
    all_goals (first | with_reducible rfl | rw [if_pos (by omega)])
   try simp only [Act.put, aS]
   refine wpAnyH_take (i := 7) (oi := ⟨_, _, _, _, _, _⟩) (v := ?_) rfl (by kernel_rfl) (by kernel_rfl) (by kernel_rfl) (fun _ _ _ h => h) (Or.inl ⟨by rfl, ?_⟩) hHeld ?_
   rotate_left
   ·intro w hSw
    have hb : NBox w X 26 _ := hSw
    have g0 := hb.cell 0
    have g1 := hb.cell 1
    have g2 := hb.cell 2
    have g3 := hb.cell 3
    have g4 := hb.cell 4
    have g5 := hb.cell 5
    have g6 := hb.cell 6
    have g7 := hb.cell 7
    have g8 := hb.cell 8
    have g9 := hb.cell 9
    have g10 := hb.cell 10
    clear hb hSw
    go_simp
    all_goals (first | with_reducible rfl | rw [if_pos (by omega)])
   try simp only [Act.put, aS]
   refine wpAnyH_take (i := 8) (oi := ⟨_, _, _, _, _, _⟩) (v := ?_) rfl (by kernel_rfl) (by kernel_rfl) (by kernel_rfl) (fun _ _ _ h => h) (Or.inl ⟨by rfl, ?_⟩) hHeld ?_
   rotate_left
   ·intro w hSw
    try dsimp only at hSw
    go_simp
    all_goals (first | with_reducible rfl | rw [if_pos (by omega)])
   try simp only [Act.put, aS]
   refine wpAnyH_ready (rs := [9]) (by kernel_rfl) (by simp) ?_
   refine AllReadyH.cons (o := ⟨_, _, _, _, _, _⟩) rfl (fun K' hK => ?_) (AllReadyH.nil)
   have y2 := HB.out.bz.cell 2
   have z2 := HB.out.bz.frozen 2
   obtain ⟨e1, hw⟩ : ∃ W, d0.setCell ⟨Z, 2, none⟩ (.int .i64 at_) = W := ⟨_, rfl⟩
   have HB2 := Lib.hid (show BSt 26 35 w e1 X (X + 1) Z #[.int .u8 1, .slice pA p.length pc, .int .i64 at_, .slice tA tq.length tc, .int .u64 id, .bool lf, .string lb, .string ky, .string vl, .bool gn, .slice cA ps.length cc] #[.int .u8 1, .slice nA p.length nc, .int .i64 at_, .slice none 0 0, .int .u64 0, .bool false, .string ⟨#[]⟩, .string ⟨#[]⟩, .string ⟨#[]⟩, .bool false, .slice none 0 0] p [] [] (.slice nA p.length nc) (.slice none 0 0) (.slice none 0 0) from by rw [← hw]; exact HB.out.st (by decide) (by decide) 2 _)
   have HW := Lib.hid hw
   clear hw
   go_simp
   rw [HW.out]
   refine hK.out _ _ (show NBox _ _ _ _ from HB2.out.bx) (fun hHeld => ?_)
   clear hK K' HW y2 z2 HB
   try simp only [Act.put, aS]
   have HB := HB2
   clear HB2
   refine wpAnyH_take (i := 10) (oi := ⟨_, _, _, _, _, _⟩) (v := ?_) rfl (by kernel_rfl) (by kernel_rfl) (by kernel_rfl) (fun _ _ _ h => h) (Or.inl ⟨by rfl, ?_⟩) hHeld ?_
   rotate_left
   ·intro w hSw
    try dsimp only at hSw
    go_simp
    all_goals (first | with_reducible rfl | rw [if_pos (by omega)])
   try simp only [Act.put, aS]
   refine wpAnyH_ready (rs := [11]) (by kernel_rfl) (by simp) ?_
   refine AllReadyH.cons (o := ⟨_, _, _, _, _, _⟩) rfl (fun K' hK => ?_) (AllReadyH.nil)
   have y4 := HB.out.bz.cell 4
   have z4 := HB.out.bz.frozen 4
   obtain ⟨e2, hw⟩ : ∃ W, e1.setCell ⟨Z, 4, none⟩ (.int .u64 id) = W := ⟨_, rfl⟩
   have HB2 := Lib.hid (show BSt 26 35 w e2 X (X + 1) Z #[.int .u8 1, .slice pA p.length pc, .int .i64 at_, .slice tA tq.length tc, .int .u64 id, .bool lf, .string lb, .string ky, .string vl, .bool gn, .slice cA ps.length cc] #[.int .u8 1, .slice nA p.length nc, .int .i64 at_, .slice none 0 0, .int .u64 id, .bool false, .string ⟨#[]⟩, .string ⟨#[]⟩, .string ⟨#[]⟩, .bool false, .slice none 0 0] p [] [] (.slice nA p.length nc) (.slice none 0 0) (.slice none 0 0) from by rw [← hw]; exact HB.out.st (by decide) (by decide) 4 _)
   have HW := Lib.hid hw
   clear hw
   go_simp
   rw [HW.out]
   refine hK.out _ _ (show NBox _ _ _ _ from HB2.out.bx) (fun hHeld => ?_)
   clear hK K' HW y4 z4 HB
   try simp only [Act.put, aS]
   have HB := HB2
   clear HB2
   refine wpAnyH_take (i := 12) (oi := ⟨_, _, _, _, _, _⟩) (v := ?_) rfl (by kernel_rfl) (by kernel_rfl) (by kernel_rfl) (fun _ _ _ h => h) (Or.inl ⟨by rfl, ?_⟩) hHeld ?_
   rotate_left
   ·intro w hSw
    try dsimp only at hSw
    go_simp
    all_goals (first | with_reducible rfl | rw [if_pos (by omega)])
   try simp only [Act.put, aS]
   refine wpAnyH_ready (rs := [13]) (by kernel_rfl) (by simp) ?_
   refine AllReadyH.cons (o := ⟨_, _, _, _, _, _⟩) rfl (fun K' hK => ?_) (AllReadyH.nil)
   have y5 := HB.out.bz.cell 5
   have z5 := HB.out.bz.frozen 5
   obtain ⟨e3, hw⟩ : ∃ W, e2.setCell ⟨Z, 5, none⟩ (.bool lf) = W := ⟨_, rfl⟩
   have HB2 := Lib.hid (show BSt 26 35 w e3 X (X + 1) Z #[.int .u8 1, .slice pA p.length pc, .int .i64 at_, .slice tA tq.length tc, .int .u64 id, .bool lf, .string lb, .string ky, .string vl, .bool gn, .slice cA ps.length cc] #[.int .u8 1, .slice nA p.length nc, .int .i64 at_, .slice none 0 0, .int .u64 id, .bool lf, .string ⟨#[]⟩, .string ⟨#[]⟩, .string ⟨#[]⟩, .bool false, .slice none 0 0] p [] [] (.slice nA p.length nc) (.slice none 0 0) (.slice none 0 0) from by rw [← hw]; exact HB.out.st (by decide) (by decide) 5 _)
   have HW := Lib.hid hw
   clear hw
   go_simp
   rw [HW.out]
   refine hK.out _ _ (show NBox _ _ _ _ from HB2.out.bx) (fun hHeld => ?_)
   clear hK K' HW y5 z5 HB
   try simp only [Act.put, aS]
   have HB := HB2
   clear HB2
   refine wpAnyH_take (i := 14) (oi := ⟨_, _, _, _, _, _⟩) (v := ?_) rfl (by kernel_rfl) (by kernel_rfl) (by kernel_rfl) (fun _ _ _ h => h) (Or.inl ⟨by rfl, ?_⟩) hHeld ?_
   rotate_left
   ·intro w hSw
    try dsimp only at hSw
    go_simp
    all_goals (first | with_reducible rfl | rw [if_pos (by omega)])
   try simp only [Act.put, aS]
   refine wpAnyH_ready (rs := [15]) (by kernel_rfl) (by simp) ?_
   refine AllReadyH.cons (o := ⟨_, _, _, _, _, _⟩) rfl (fun K' hK => ?_) (AllReadyH.nil)
   have y6 := HB.out.bz.cell 6
   have z6 := HB.out.bz.frozen 6
   obtain ⟨e4, hw⟩ : ∃ W, e3.setCell ⟨Z, 6, none⟩ (.string lb) = W := ⟨_, rfl⟩
   have HB2 := Lib.hid (show BSt 26 35 w e4 X (X + 1) Z #[.int .u8 1, .slice pA p.length pc, .int .i64 at_, .slice tA tq.length tc, .int .u64 id, .bool lf, .string lb, .string ky, .string vl, .bool gn, .slice cA ps.length cc] #[.int .u8 1, .slice nA p.length nc, .int .i64 at_, .slice none 0 0, .int .u64 id, .bool lf, .string lb, .string ⟨#[]⟩, .string ⟨#[]⟩, .bool false, .slice none 0 0] p [] [] (.slice nA p.length nc) (.slice none 0 0) (.slice none 0 0) from by rw [← hw]; exact HB.out.st (by decide) (by decide) 6 _)
   have HW := Lib.hid hw
   clear hw
   go_simp
   rw [HW.out]
   refine hK.out _ _ (show NBox _ _ _ _ from HB2.out.bx) (fun hHeld => ?_)
   clear hK K' HW y6 z6 HB
   try simp only [Act.put, aS]
   have HB := HB2
   clear HB2
   refine wpAnyH_done (by kernel_rfl) ?_ _
   clear hHeld
   go_wp2_with fail
   go_meet
   case rel =>
    obtain rfl : (⟨1, p, at_, [], id, lf, lb, ⟨#[]⟩, ⟨#[]⟩, false, []⟩ : OpD) = b := HBD.out
    exact ⟨_, _, _, _, _, _, _, _, _, _, _, _, HB, Lib.hid ⟨HB.out.op, (noRow _ _ _ _), (noRow _ _ _ _)⟩⟩
  rcases Decidable.em (k = 2) with rfl | k2
  ·skip
   go_wp2_with fail
   go_meet
   case rel =>
    obtain rfl : (⟨2, p, 0, [], 0, false, ⟨#[]⟩, ⟨#[]⟩, ⟨#[]⟩, false, []⟩ : OpD) = b := HBD.out
    exact ⟨_, _, _, _, _, _, _, _, _, _, _, _, HB, Lib.hid ⟨HB.out.op, (noRow _ _ _ _), (noRow _ _ _ _)⟩⟩
  rcases Decidable.em (k = 3) with rfl | k3
  ·go_upto_region 8 with fail
   obtain ⟨d0, hd0⟩ : ∃ d, wc.drew = d := ⟨_, rfl⟩
   have hE : Ext wc d0 := by rw [← hd0]; exact (Ext.refl _).drew
   have HB2 := Lib.hid (HB.out.grow hE (owns_ext hE HB.out.ot) (owns_ext hE HB.out.oc))
   clear hE HB
   have HB := HB2
   clear HB2
   refine wp_region_held_drew (S := fun W => NBox W X 26 #[.int .u8 3, .slice pA p.length pc, .int .i64 at_, .slice tA tq.length tc, .int .u64 id, .bool lf, .string lb, .string ky, .string vl, .bool gn, .slice cA ps.length cc]) (by kernel_rfl) (by rw [hd0]; exact HB.out.bx) (fun hHeld => ?_)
   rw [hd0] at hHeld ⊢
   clear hd0
   refine wpAnyH_take (i := 0) (oi := ⟨_, _, _, _, _, _⟩) (v := ?_) rfl (by kernel_rfl) (by kernel_rfl) (by kernel_rfl) (fun _ _ _ h => h) (Or.inl ⟨by rfl, ?_⟩) hHeld ?_
   rotate_left
   ·intro w hSw
    try dsimp only at hSw
    go_simp
    all_goals (first | with_reducible rfl | rw [if_pos (by omega)])
   try simp only [Act.put, aS]
   refine wpAnyH_take (i := 1) (oi := ⟨_, _, _, _, _, _⟩) (v := ?_) rfl (by kernel_rfl) (by kernel_rfl) (by kernel_rfl) (fun _ _ _ h => h) (Or.inl ⟨by rfl, ?_⟩) hHeld ?_
   rotate_left
   ·intro w hSw
    have hb : NBox w X 26 _ := hSw
    have g0 := hb.cell 0
    have g1 := hb.cell 1
    have g2 := hb.cell 2
    have g3 := hb.cell 3
    have g4 := hb.cell 4
    have g5 := hb.cell 5
    have g6 := hb.cell 6
    have g7 := hb.cell 7
    have g8 := hb.cell 8
    have g9 := hb.cell 9
    have g10 := hb.cell 10
    clear hb hSw
    go_simp
    all_goals (first | with_reducible rfl | rw [if_pos (by omega)])
   try simp only [Act.put, aS]
   refine wpAnyH_take (i := 2) (oi := ⟨_, _, _, _, _, _⟩) (v := ?_) rfl (by kernel_rfl) (by kernel_rfl) (by kernel_rfl) (fun _ _ _ h => h) (Or.inl ⟨by rfl, ?_⟩) hHeld ?_
   rotate_left
   ·intro w hSw
    try dsimp only at hSw
    go_simp
    all_goals (first | with_reducible rfl | rw [if_pos (by omega)])
   try simp only [Act.put, aS]
   refine wpAnyH_take (i := 3) (oi := ⟨_, _, _, _, _, _⟩) (v := ?_) rfl (by kernel_rfl) (by kernel_rfl) (by kernel_rfl) (fun _ _ _ h => h) (Or.inl ⟨by rfl, ?_⟩) hHeld ?_
   rotate_left
   ·intro w hSw
    have hb : NBox w X 26 _ := hSw
    have g0 := hb.cell 0
    have g1 := hb.cell 1
    have g2 := hb.cell 2
    have g3 := hb.cell 3
    have g4 := hb.cell 4
    have g5 := hb.cell 5
    have g6 := hb.cell 6
    have g7 := hb.cell 7
    have g8 := hb.cell 8
    have g9 := hb.cell 9
    have g10 := hb.cell 10
    clear hb hSw
    go_simp
    all_goals (first | with_reducible rfl | rw [if_pos (by omega)])
   try simp only [Act.put, aS]
   refine wpAnyH_take (i := 5) (oi := ⟨_, _, _, _, _, _⟩) (v := ?_) rfl (by kernel_rfl) (by kernel_rfl) (by kernel_rfl) (fun _ _ _ h => h) (Or.inl ⟨by rfl, ?_⟩) hHeld ?_
   rotate_left
   ·intro w hSw
    try dsimp only at hSw
    go_simp
    all_goals (first | with_reducible rfl | rw [if_pos (by omega)])
   try simp only [Act.put, aS]
   refine wpAnyH_ready (rs := [4]) (by kernel_rfl) (by simp) ?_
   refine AllReadyH.cons (o := ⟨_, _, _, _, _, _⟩) rfl (fun K' hK => ?_) (AllReadyH.nil)
   have hq := some55_any tq _ d0 (RdS.ext HB.out.ext HT.out) (by omega)
   go_simp
   go_at_call 55
   refine hq.mono ?_
   clear hq
   rintro e e1 ⟨r, rfl, hO, hE⟩
   have HO := owns_low hO HB.out.ext.size
   obtain ⟨mA, mc, rfl, -⟩ := RdS.of_owns hO
   have HB2 := Lib.hid (show BSt 26 35 w e1 X (X + 1) Z #[.int .u8 3, .slice pA p.length pc, .int .i64 at_, .slice tA tq.length tc, .int .u64 id, .bool lf, .string lb, .string ky, .string vl, .bool gn, .slice cA ps.length cc] #[.int .u8 3, .slice nA p.length nc, .int .i64 0, .slice none 0 0, .int .u64 0, .bool false, .string ⟨#[]⟩, .string ⟨#[]⟩, .string ⟨#[]⟩, .bool false, .slice none 0 0] p tq [] (.slice nA p.length nc) (.slice mA tq.length mc) (.slice none 0 0) from HB.out.grow hE HO (noRow _ _ _ _))
   refine hK.out _ _ (show NBox _ _ _ _ from NBox.ext hE hHeld) (fun hHeld => ?_)
   clear hK K' hO HO hE HB
   try simp only [Act.put, aS]
   have HB := HB2
   clear HB2
   refine wpAnyH_ready (rs := [6]) (by kernel_rfl) (by simp) ?_
   refine AllReadyH.cons (o := ⟨_, _, _, _, _, _⟩) rfl (fun K' hK => ?_) (AllReadyH.nil)
   have y2 := HB.out.bz.cell 2
   have z2 := HB.out.bz.frozen 2
   obtain ⟨e2, hw⟩ : ∃ W, e1.setCell ⟨Z, 2, none⟩ (.int .i64 at_) = W := ⟨_, rfl⟩
   have HB2 := Lib.hid (show BSt 26 35 w e2 X (X + 1) Z #[.int .u8 3, .slice pA p.length pc, .int .i64 at_, .slice tA tq.length tc, .int .u64 id, .bool lf, .string lb, .string ky, .string vl, .bool gn, .slice cA ps.length cc] #[.int .u8 3, .slice nA p.length nc, .int .i64 at_, .slice none 0 0, .int .u64 0, .bool false, .string ⟨#[]⟩, .string ⟨#[]⟩, .string ⟨#[]⟩, .bool false, .slice none 0 0] p tq [] (.slice nA p.length nc) (.slice mA tq.length mc) (.slice none 0 0) from by rw [← hw]; exact HB.out.st (by decide) (by decide) 2 _)
   have HW := Lib.hid hw
   clear hw
   go_simp
   rw [HW.out]
   refine hK.out _ _ (show NBox _ _ _ _ from HB2.out.bx) (fun hHeld => ?_)
   clear hK K' HW y2 z2 HB
   try simp only [Act.put, aS]
   have HB := HB2
   clear HB2
   refine wpAnyH_take (i := 7) (oi := ⟨_, _, _, _, _, _⟩) (v := ?_) rfl (by kernel_rfl) (by kernel_rfl) (by kernel_rfl) (fun _ _ _ h => h) (Or.inl ⟨by rfl, ?_⟩) hHeld ?_
   rotate_left
   ·intro w hSw
    try dsimp only at hSw
    go_simp
    all_goals (first | with_reducible rfl | rw [if_pos (by omega)])
   try simp only [Act.put, aS]
   refine wpAnyH_ready (rs := [8]) (by kernel_rfl) (by simp) ?_
   refine AllReadyH.cons (o := ⟨_, _, _, _, _, _⟩) rfl (fun K' hK => ?_) (AllReadyH.nil)
   have y3 := HB.out.bz.cell 3
   have z3 := HB.out.bz.frozen 3
   obtain ⟨e3, hw⟩ : ∃ W, e2.setCell ⟨Z, 3, none⟩ (.slice mA tq.length mc) = W := ⟨_, rfl⟩
   have HB2 := Lib.hid (show BSt 26 35 w e3 X (X + 1) Z #[.int .u8 3, .slice pA p.length pc, .int .i64 at_, .slice tA tq.length tc, .int .u64 id, .bool lf, .string lb, .string ky, .string vl, .bool gn, .slice cA ps.length cc] #[.int .u8 3, .slice nA p.length nc, .int .i64 at_, .slice mA tq.length mc, .int .u64 0, .bool false, .string ⟨#[]⟩, .string ⟨#[]⟩, .string ⟨#[]⟩, .bool false, .slice none 0 0] p tq [] (.slice nA p.length nc) (.slice mA tq.length mc) (.slice none 0 0) from by rw [← hw]; exact HB.out.st (by decide) (by decide) 3 _)
   have HW := Lib.hid hw
   clear hw
   go_simp
   rw [HW.out]
   refine hK.out _ _ (show NBox _ _ _ _ from HB2.out.bx) (fun hHeld => ?_)
   clear hK K' HW y3 z3 HB
   try simp only [Act.put, aS]
   have HB := HB2
   clear HB2
   refine wpAnyH_done (by kernel_rfl) ?_ _
   clear hHeld
   go_wp2_with fail
   go_meet
   case rel =>
    obtain rfl : (⟨3, p, at_, tq, 0, false, ⟨#[]⟩, ⟨#[]⟩, ⟨#[]⟩, false, []⟩ : OpD) = b := HBD.out
    exact ⟨_, _, _, _, _, _, _, _, _, _, _, _, HB, Lib.hid ⟨HB.out.op, HB.out.ot, (noRow _ _ _ _)⟩⟩
  rcases Decidable.em (k = 4) with rfl | k4
  ·cases gn
   ·go_upto_region 10 with fail
    obtain ⟨d0, hd0⟩ : ∃ d, wc.drew = d := ⟨_, rfl⟩
    have hE : Ext wc d0 := by rw [← hd0]; exact (Ext.refl _).drew
    have HB2 := Lib.hid (HB.out.grow hE (owns_ext hE HB.out.ot) (owns_ext hE HB.out.oc))
    clear hE HB
    have HB := HB2
    clear HB2
    refine wp_region_held_drew (S := fun W => NBox W X 26 #[.int .u8 4, .slice pA p.length pc, .int .i64 at_, .slice tA tq.length tc, .int .u64 id, .bool lf, .string lb, .string ky, .string vl, .bool false, .slice cA ps.length cc]) (by kernel_rfl) (by rw [hd0]; exact HB.out.bx) (fun hHeld => ?_)
    rw [hd0] at hHeld ⊢
    clear hd0
    refine wpAnyH_take (i := 0) (oi := ⟨_, _, _, _, _, _⟩) (v := ?_) rfl (by kernel_rfl) (by kernel_rfl) (by kernel_rfl) (fun _ _ _ h => h) (Or.inl ⟨by rfl, ?_⟩) hHeld ?_
    rotate_left
    ·intro w hSw
     try dsimp only at hSw
     go_simp
     all_goals (first | with_reducible rfl | rw [if_pos (by omega)])
    try simp only [Act.put, aS]
    refine wpAnyH_take (i := 1) (oi := ⟨_, _, _, _, _, _⟩) (v := ?_) rfl (by kernel_rfl) (by kernel_rfl) (by kernel_rfl) (fun _ _ _ h => h) (Or.inl ⟨by rfl, ?_⟩) hHeld ?_
    rotate_left
    ·intro w hSw
     have hb : NBox w X 26 _ := hSw
     have g0 := hb.cell 0
     have g1 := hb.cell 1
     have g2 := hb.cell 2
     have g3 := hb.cell 3
     have g4 := hb.cell 4
     have g5 := hb.cell 5
     have g6 := hb.cell 6
     have g7 := hb.cell 7
     have g8 := hb.cell 8
     have g9 := hb.cell 9
     have g10 := hb.cell 10
     clear hb hSw
     go_simp
     all_goals (first | with_reducible rfl | rw [if_pos (by omega)])
    try simp only [Act.put, aS]
    refine wpAnyH_take (i := 2) (oi := ⟨_, _, _, _, _, _⟩) (v := ?_) rfl (by kernel_rfl) (by kernel_rfl) (by kernel_rfl) (fun _ _ _ h => h) (Or.inl ⟨by rfl, ?_⟩) hHeld ?_
    rotate_left
    ·intro w hSw
     try dsimp only at hSw
     go_simp
     all_goals (first | with_reducible rfl | rw [if_pos (by omega)])
    try simp only [Act.put, aS]
    refine wpAnyH_take (i := 3) (oi := ⟨_, _, _, _, _, _⟩) (v := ?_) rfl (by kernel_rfl) (by kernel_rfl) (by kernel_rfl) (fun _ _ _ h => h) (Or.inl ⟨by rfl, ?_⟩) hHeld ?_
    rotate_left
    ·intro w hSw
     have hb : NBox w X 26 _ := hSw
     have g0 := hb.cell 0
     have g1 := hb.cell 1
     have g2 := hb.cell 2
     have g3 := hb.cell 3
     have g4 := hb.cell 4
     have g5 := hb.cell 5
     have g6 := hb.cell 6
     have g7 := hb.cell 7
     have g8 := hb.cell 8
     have g9 := hb.cell 9
     have g10 := hb.cell 10
     clear hb hSw
     go_simp
     all_goals (first | with_reducible rfl | rw [if_pos (by omega)])
    try simp only [Act.put, aS]
    refine wpAnyH_take (i := 4) (oi := ⟨_, _, _, _, _, _⟩) (v := ?_) rfl (by kernel_rfl) (by kernel_rfl) (by kernel_rfl) (fun _ _ _ h => h) (Or.inl ⟨by rfl, ?_⟩) hHeld ?_
    rotate_left
    ·intro w hSw
     try dsimp only at hSw
     go_simp
     all_goals (first | with_reducible rfl | rw [if_pos (by omega)])
    try simp only [Act.put, aS]
    refine wpAnyH_ready (rs := [5]) (by kernel_rfl) (by simp) ?_
    refine AllReadyH.cons (o := ⟨_, _, _, _, _, _⟩) rfl (fun K' hK => ?_) (AllReadyH.nil)
    have y7 := HB.out.bz.cell 7
    have z7 := HB.out.bz.frozen 7
    obtain ⟨e1, hw⟩ : ∃ W, d0.setCell ⟨Z, 7, none⟩ (.string ky) = W := ⟨_, rfl⟩
    have HB2 := Lib.hid (show BSt 26 35 w e1 X (X + 1) Z #[.int .u8 4, .slice pA p.length pc, .int .i64 at_, .slice tA tq.length tc, .int .u64 id, .bool lf, .string lb, .string ky, .string vl, .bool false, .slice cA ps.length cc] #[.int .u8 4, .slice nA p.length nc, .int .i64 0, .slice none 0 0, .int .u64 0, .bool false, .string ⟨#[]⟩, .string ky, .string ⟨#[]⟩, .bool false, .slice none 0 0] p [] [] (.slice nA p.length nc) (.slice none 0 0) (.slice none 0 0) from by rw [← hw]; exact HB.out.st (by decide) (by decide) 7 _)
    have HW := Lib.hid hw
    clear hw
    go_simp
    rw [HW.out]
    refine hK.out _ _ (show NBox _ _ _ _ from HB2.out.bx) (fun hHeld => ?_)
    clear hK K' HW y7 z7 HB
    try simp only [Act.put, aS]
    have HB := HB2
    clear HB2
    refine wpAnyH_take (i := 6) (oi := ⟨_, _, _, _, _, _⟩) (v := ?_) rfl (by kernel_rfl) (by kernel_rfl) (by kernel_rfl) (fun _ _ _ h => h) (Or.inl ⟨by rfl, ?_⟩) hHeld ?_
    rotate_left
    ·intro w hSw
     try dsimp only at hSw
     go_simp
     all_goals (first | with_reducible rfl | rw [if_pos (by omega)])
    try simp only [Act.put, aS]
    refine wpAnyH_ready (rs := [7]) (by kernel_rfl) (by simp) ?_
    refine AllReadyH.cons (o := ⟨_, _, _, _, _, _⟩) rfl (fun K' hK => ?_) (AllReadyH.nil)
    have y9 := HB.out.bz.cell 9
    have z9 := HB.out.bz.frozen 9
    obtain ⟨e2, hw⟩ : ∃ W, e1.setCell ⟨Z, 9, none⟩ (.bool false) = W := ⟨_, rfl⟩
    have HB2 := Lib.hid (show BSt 26 35 w e2 X (X + 1) Z #[.int .u8 4, .slice pA p.length pc, .int .i64 at_, .slice tA tq.length tc, .int .u64 id, .bool lf, .string lb, .string ky, .string vl, .bool false, .slice cA ps.length cc] #[.int .u8 4, .slice nA p.length nc, .int .i64 0, .slice none 0 0, .int .u64 0, .bool false, .string ⟨#[]⟩, .string ky, .string ⟨#[]⟩, .bool false, .slice none 0 0] p [] [] (.slice nA p.length nc) (.slice none 0 0) (.slice none 0 0) from by rw [← hw]; exact HB.out.st (by decide) (by decide) 9 _)
    have HW := Lib.hid hw
    clear hw
    go_simp
    rw [HW.out]
    refine hK.out _ _ (show NBox _ _ _ _ from HB2.out.bx) (fun hHeld => ?_)
    clear hK K' HW y9 z9 HB
    try simp only [Act.put, aS]
    have HB := HB2
    clear HB2
    refine wpAnyH_done (by kernel_rfl) ?_ _
    clear hHeld
    have x9 := HB.out.bx.cell 9
    have x8 := HB.out.bx.cell 8
    have y8 := HB.out.bz.cell 8
    have z8 := HB.out.bz.frozen 8
    obtain ⟨w9, hw⟩ : ∃ W, e2.setCell ⟨Z, 8, none⟩ (.string vl) = W := ⟨_, rfl⟩
    have HB2 := Lib.hid (show BSt 26 35 w w9 X (X + 1) Z #[.int .u8 4, .slice pA p.length pc, .int .i64 at_, .slice tA tq.length tc, .int .u64 id, .bool lf, .string lb, .string ky, .string vl, .bool false, .slice cA ps.length cc] #[.int .u8 4, .slice nA p.length nc, .int .i64 0, .slice none 0 0, .int .u64 0, .bool false, .string ⟨#[]⟩, .string ky, .string vl, .bool false, .slice none 0 0] p [] [] (.slice nA p.length nc) (.slice none 0 0) (.slice none 0 0) from by rw [← hw]; exact HB.out.st (by decide) (by decide) 8 _)
    have HW := Lib.hid hw
    clear hw HB
    have HB := HB2
    clear HB2
    go_wp2_with fail
    go_meet
    case rel =>
     rw [HW.out]
     obtain rfl : (⟨4, p, 0, [], 0, false, ⟨#[]⟩, ky, vl, false, []⟩ : OpD) = b := HBD.out
     exact ⟨_, _, _, _, _, _, _, _, _, _, _, _, HB, Lib.hid ⟨HB.out.op, (noRow _ _ _ _), (noRow _ _ _ _)⟩⟩
   ·go_upto_region 10 with fail
    obtain ⟨d0, hd0⟩ : ∃ d, wc.drew = d := ⟨_, rfl⟩
    have hE : Ext wc d0 := by rw [← hd0]; exact (Ext.refl _).drew
    have HB2 := Lib.hid (HB.out.grow hE (owns_ext hE HB.out.ot) (owns_ext hE HB.out.oc))
    clear hE HB
    have HB := HB2
    clear HB2
    refine wp_region_held_drew (S := fun W => NBox W X 26 #[.int .u8 4, .slice pA p.length pc, .int .i64 at_, .slice tA tq.length tc, .int .u64 id, .bool lf, .string lb, .string ky, .string vl, .bool true, .slice cA ps.length cc]) (by kernel_rfl) (by rw [hd0]; exact HB.out.bx) (fun hHeld => ?_)
    rw [hd0] at hHeld ⊢
    clear hd0
    refine wpAnyH_take (i := 0) (oi := ⟨_, _, _, _, _, _⟩) (v := ?_) rfl (by kernel_rfl) (by kernel_rfl) (by kernel_rfl) (fun _ _ _ h => h) (Or.inl ⟨by rfl, ?_⟩) hHeld ?_
    rotate_left
    ·intro w hSw
     try dsimp only at hSw
     go_simp
     all_goals (first | with_reducible rfl | rw [if_pos (by omega)])
    try simp only [Act.put, aS]
    refine wpAnyH_take (i := 1) (oi := ⟨_, _, _, _, _, _⟩) (v := ?_) rfl (by kernel_rfl) (by kernel_rfl) (by kernel_rfl) (fun _ _ _ h => h) (Or.inl ⟨by rfl, ?_⟩) hHeld ?_
    rotate_left
    ·intro w hSw
     have hb : NBox w X 26 _ := hSw
     have g0 := hb.cell 0
     have g1 := hb.cell 1
     have g2 := hb.cell 2
     have g3 := hb.cell 3
     have g4 := hb.cell 4
     have g5 := hb.cell 5
     have g6 := hb.cell 6
     have g7 := hb.cell 7
     have g8 := hb.cell 8
     have g9 := hb.cell 9
     have g10 := hb.cell 10
     clear hb hSw
     go_simp
     all_goals (first | with_reducible rfl | rw [if_pos (by omega)])
    try simp only [Act.put, aS]
    refine wpAnyH_take (i := 2) (oi := ⟨_, _, _, _, _, _⟩) (v := ?_) rfl (by kernel_rfl) (by kernel_rfl) (by kernel_rfl) (fun _ _ _ h => h) (Or.inl ⟨by rfl, ?_⟩) hHeld ?_
    rotate_left
    ·intro w hSw
     try dsimp only at hSw
     go_simp
     all_goals (first | with_reducible rfl | rw [if_pos (by omega)])
    try simp only [Act.put, aS]
    refine wpAnyH_take (i := 3) (oi := ⟨_, _, _, _, _, _⟩) (v := ?_) rfl (by kernel_rfl) (by kernel_rfl) (by kernel_rfl) (fun _ _ _ h => h) (Or.inl ⟨by rfl, ?_⟩) hHeld ?_
    rotate_left
    ·intro w hSw
     have hb : NBox w X 26 _ := hSw
     have g0 := hb.cell 0
     have g1 := hb.cell 1
     have g2 := hb.cell 2
     have g3 := hb.cell 3
     have g4 := hb.cell 4
     have g5 := hb.cell 5
     have g6 := hb.cell 6
     have g7 := hb.cell 7
     have g8 := hb.cell 8
     have g9 := hb.cell 9
     have g10 := hb.cell 10
     clear hb hSw
     go_simp
     all_goals (first | with_reducible rfl | rw [if_pos (by omega)])
    try simp only [Act.put, aS]
    refine wpAnyH_take (i := 4) (oi := ⟨_, _, _, _, _, _⟩) (v := ?_) rfl (by kernel_rfl) (by kernel_rfl) (by kernel_rfl) (fun _ _ _ h => h) (Or.inl ⟨by rfl, ?_⟩) hHeld ?_
    rotate_left
    ·intro w hSw
     try dsimp only at hSw
     go_simp
     all_goals (first | with_reducible rfl | rw [if_pos (by omega)])
    try simp only [Act.put, aS]
    refine wpAnyH_ready (rs := [5]) (by kernel_rfl) (by simp) ?_
    refine AllReadyH.cons (o := ⟨_, _, _, _, _, _⟩) rfl (fun K' hK => ?_) (AllReadyH.nil)
    have y7 := HB.out.bz.cell 7
    have z7 := HB.out.bz.frozen 7
    obtain ⟨e1, hw⟩ : ∃ W, d0.setCell ⟨Z, 7, none⟩ (.string ky) = W := ⟨_, rfl⟩
    have HB2 := Lib.hid (show BSt 26 35 w e1 X (X + 1) Z #[.int .u8 4, .slice pA p.length pc, .int .i64 at_, .slice tA tq.length tc, .int .u64 id, .bool lf, .string lb, .string ky, .string vl, .bool true, .slice cA ps.length cc] #[.int .u8 4, .slice nA p.length nc, .int .i64 0, .slice none 0 0, .int .u64 0, .bool false, .string ⟨#[]⟩, .string ky, .string ⟨#[]⟩, .bool false, .slice none 0 0] p [] [] (.slice nA p.length nc) (.slice none 0 0) (.slice none 0 0) from by rw [← hw]; exact HB.out.st (by decide) (by decide) 7 _)
    have HW := Lib.hid hw
    clear hw
    go_simp
    rw [HW.out]
    refine hK.out _ _ (show NBox _ _ _ _ from HB2.out.bx) (fun hHeld => ?_)
    clear hK K' HW y7 z7 HB
    try simp only [Act.put, aS]
    have HB := HB2
    clear HB2
    refine wpAnyH_take (i := 6) (oi := ⟨_, _, _, _, _, _⟩) (v := ?_) rfl (by kernel_rfl) (by kernel_rfl) (by kernel_rfl) (fun _ _ _ h => h) (Or.inl ⟨by rfl, ?_⟩) hHeld ?_
    rotate_left
    ·intro w hSw
     try dsimp only at hSw
     go_simp
     all_goals (first | with_reducible rfl | rw [if_pos (by omega)])
    try simp only [Act.put, aS]
    refine wpAnyH_ready (rs := [7]) (by kernel_rfl) (by simp) ?_
    refine AllReadyH.cons (o := ⟨_, _, _, _, _, _⟩) rfl (fun K' hK => ?_) (AllReadyH.nil)
    have y9 := HB.out.bz.cell 9
    have z9 := HB.out.bz.frozen 9
    obtain ⟨e2, hw⟩ : ∃ W, e1.setCell ⟨Z, 9, none⟩ (.bool true) = W := ⟨_, rfl⟩
    have HB2 := Lib.hid (show BSt 26 35 w e2 X (X + 1) Z #[.int .u8 4, .slice pA p.length pc, .int .i64 at_, .slice tA tq.length tc, .int .u64 id, .bool lf, .string lb, .string ky, .string vl, .bool true, .slice cA ps.length cc] #[.int .u8 4, .slice nA p.length nc, .int .i64 0, .slice none 0 0, .int .u64 0, .bool false, .string ⟨#[]⟩, .string ky, .string ⟨#[]⟩, .bool true, .slice none 0 0] p [] [] (.slice nA p.length nc) (.slice none 0 0) (.slice none 0 0) from by rw [← hw]; exact HB.out.st (by decide) (by decide) 9 _)
    have HW := Lib.hid hw
    clear hw
    go_simp
    rw [HW.out]
    refine hK.out _ _ (show NBox _ _ _ _ from HB2.out.bx) (fun hHeld => ?_)
    clear hK K' HW y9 z9 HB
    try simp only [Act.put, aS]
    have HB := HB2
    clear HB2
    refine wpAnyH_done (by kernel_rfl) ?_ _
    clear hHeld
    have x9 := HB.out.bx.cell 9
    go_wp2_with fail
    go_meet
    case rel =>
     obtain rfl : (⟨4, p, 0, [], 0, false, ⟨#[]⟩, ky, ⟨#[]⟩, true, []⟩ : OpD) = b := HBD.out
     exact ⟨_, _, _, _, _, _, _, _, _, _, _, _, HB, Lib.hid ⟨HB.out.op, (noRow _ _ _ _), (noRow _ _ _ _)⟩⟩
  rcases Decidable.em (k = 5) with rfl | k5
  ·skip
   have x6 := HB.out.bx.cell 6
   have y6 := HB.out.bz.cell 6
   have z6 := HB.out.bz.frozen 6
   obtain ⟨w9, hw⟩ : ∃ W, wc.setCell ⟨Z, 6, none⟩ (.string lb) = W := ⟨_, rfl⟩
   have HB2 := Lib.hid (show BSt 26 35 w w9 X (X + 1) Z #[.int .u8 5, .slice pA p.length pc, .int .i64 at_, .slice tA tq.length tc, .int .u64 id, .bool lf, .string lb, .string ky, .string vl, .bool gn, .slice cA ps.length cc] #[.int .u8 5, .slice nA p.length nc, .int .i64 0, .slice none 0 0, .int .u64 0, .bool false, .string lb, .string ⟨#[]⟩, .string ⟨#[]⟩, .bool false, .slice none 0 0] p [] [] (.slice nA p.length nc) (.slice none 0 0) (.slice none 0 0) from by rw [← hw]; exact HB.out.st (by decide) (by decide) 6 _)
   have HW := Lib.hid hw
   clear hw HB
   have HB := HB2
   clear HB2
   go_wp2_with fail
   go_meet
   case rel =>
    rw [HW.out]
    obtain rfl : (⟨5, p, 0, [], 0, false, lb, ⟨#[]⟩, ⟨#[]⟩, false, []⟩ : OpD) = b := HBD.out
    exact ⟨_, _, _, _, _, _, _, _, _, _, _, _, HB, Lib.hid ⟨HB.out.op, (noRow _ _ _ _), (noRow _ _ _ _)⟩⟩
  rcases Decidable.em (k = 6) with rfl | k6
  ·have x10 := HB.out.bx.cell 10
   have hq := some56_any ps _ wc (RdP.ext HB.out.ext HC.out) (by omega)
   go_wp2_with fail
   refine hq.mono ?_
   clear hq x10
   rintro e w8 ⟨r, rfl, hO, hE⟩
   have HO := owns_low hO HB.out.ext.size
   obtain ⟨lA, lc, rfl, -⟩ := RdS.of_owns hO
   have HB2 := Lib.hid (show BSt 26 35 w w8 X (X + 1) Z #[.int .u8 6, .slice pA p.length pc, .int .i64 at_, .slice tA tq.length tc, .int .u64 id, .bool lf, .string lb, .string ky, .string vl, .bool gn, .slice cA ps.length cc] #[.int .u8 6, .slice nA p.length nc, .int .i64 0, .slice none 0 0, .int .u64 0, .bool false, .string ⟨#[]⟩, .string ⟨#[]⟩, .string ⟨#[]⟩, .bool false, .slice none 0 0] p [] ps (.slice nA p.length nc) (.slice none 0 0) (.slice lA ps.length lc) from HB.out.grow hE (noRow _ _ _ _) HO)
   clear hO HO hE HB
   have HB := HB2
   clear HB2
   have y10 := HB.out.bz.cell 10
   have z10 := HB.out.bz.frozen 10
   obtain ⟨w9, hw⟩ : ∃ W, w8.setCell ⟨Z, 10, none⟩ (.slice lA ps.length lc) = W := ⟨_, rfl⟩
   have HB2 := Lib.hid (show BSt 26 35 w w9 X (X + 1) Z #[.int .u8 6, .slice pA p.length pc, .int .i64 at_, .slice tA tq.length tc, .int .u64 id, .bool lf, .string lb, .string ky, .string vl, .bool gn, .slice cA ps.length cc] #[.int .u8 6, .slice nA p.length nc, .int .i64 0, .slice none 0 0, .int .u64 0, .bool false, .string ⟨#[]⟩, .string ⟨#[]⟩, .string ⟨#[]⟩, .bool false, .slice lA ps.length lc] p [] ps (.slice nA p.length nc) (.slice none 0 0) (.slice lA ps.length lc) from by rw [← hw]; exact HB.out.st (by decide) (by decide) 10 _)
   have HW := Lib.hid hw
   clear hw HB
   have HB := HB2
   clear HB2
   go_wp2_with fail
   go_meet
   case rel =>
    rw [HW.out]
    obtain rfl : (⟨6, p, 0, [], 0, false, ⟨#[]⟩, ⟨#[]⟩, ⟨#[]⟩, false, ps⟩ : OpD) = b := HBD.out
    exact ⟨_, _, _, _, _, _, _, _, _, _, _, _, HB, Lib.hid ⟨HB.out.op, (noRow _ _ _ _), HB.out.oc⟩⟩
  have t1 : (k == 1) = false := beq_eq_false_iff_ne.2 k1
  have t2 : (k == 2) = false := beq_eq_false_iff_ne.2 k2
  have t3 : (k == 3) = false := beq_eq_false_iff_ne.2 k3
  have t4 : (k == 4) = false := beq_eq_false_iff_ne.2 k4
  have t5 : (k == 5) = false := beq_eq_false_iff_ne.2 k5
  have t6 : (k == 6) = false := beq_eq_false_iff_ne.2 k6
  have hbd : bareD ⟨k, p, at_, tq, id, lf, lb, ky, vl, gn, ps⟩ = ⟨k, [], 0, [], 0, false, ⟨#[]⟩, ⟨#[]⟩, ⟨#[]⟩, false, []⟩ := by simp [bareD, k1, k2, k3, k4, k5, k6]
  have HBD := Lib.hid (hbd.symm.trans HBD.out)
  clear k1 k2 k3 k4 k5 k6 hbd
  have y1 := HB.out.bz.cell 1
  have z1 := HB.out.bz.frozen 1
  obtain ⟨w9, hw⟩ : ∃ W, wc.setCell ⟨Z, 1, none⟩ (.slice none 0 0) = W := ⟨_, rfl⟩
  have HB2 := Lib.hid (show BSt 26 35 w w9 X (X + 1) Z #[.int .u8 k, .slice pA p.length pc, .int .i64 at_, .slice tA tq.length tc, .int .u64 id, .bool lf, .string lb, .string ky, .string vl, .bool gn, .slice cA ps.length cc] #[.int .u8 k, .slice none 0 0, .int .i64 0, .slice none 0 0, .int .u64 0, .bool false, .string ⟨#[]⟩, .string ⟨#[]⟩, .string ⟨#[]⟩, .bool false, .slice none 0 0] p [] [] (.slice nA p.length nc) (.slice none 0 0) (.slice none 0 0) from by rw [← hw]; exact HB.out.st (by decide) (by decide) 1 _)
  have HW := Lib.hid hw
  clear hw HB
  have HB := HB2
  clear HB2
  go_wp2_with fail
  go_meet
  case rel =>
   rw [HW.out]
   obtain rfl : (⟨k, [], 0, [], 0, false, ⟨#[]⟩, ⟨#[]⟩, ⟨#[]⟩, false, []⟩ : OpD) = b := HBD.out
   exact ⟨_, _, _, _, _, _, _, _, _, _, _, _, HB, Lib.hid ⟨(noRow _ _ _ _), (noRow _ _ _ _), (noRow _ _ _ _)⟩⟩
 case rest =>
 clear HB
 obtain ⟨aA, ac, bA, bc, dA, dc, pv, tv, cv, q, r, l, HB, HOW⟩ := hcut
 have y0 := HB.out.byy.cell 0
 have f0 := HB.out.byy.frozen 0
 have z0 := HB.out.bz.cell 0
 have y1 := HB.out.byy.cell 1
 have f1 := HB.out.byy.frozen 1
 have z1 := HB.out.bz.cell 1
 have y2 := HB.out.byy.cell 2
 have f2 := HB.out.byy.frozen 2
 have z2 := HB.out.bz.cell 2
 have y3 := HB.out.byy.cell 3
 have f3 := HB.out.byy.frozen 3
 have z3 := HB.out.bz.cell 3
 have y4 := HB.out.byy.cell 4
 have f4 := HB.out.byy.frozen 4
 have z4 := HB.out.bz.cell 4
 have y5 := HB.out.byy.cell 5
 have f5 := HB.out.byy.frozen 5
 have z5 := HB.out.bz.cell 5
 have y6 := HB.out.byy.cell 6
 have f6 := HB.out.byy.frozen 6
 have z6 := HB.out.bz.cell 6
 have y7 := HB.out.byy.cell 7
 have f7 := HB.out.byy.frozen 7
 have z7 := HB.out.bz.cell 7
 have y8 := HB.out.byy.cell 8
 have f8 := HB.out.byy.frozen 8
 have z8 := HB.out.bz.cell 8
 have y9 := HB.out.byy.cell 9
 have f9 := HB.out.byy.frozen 9
 have z9 := HB.out.bz.cell 9
 have y10 := HB.out.byy.cell 10
 have f10 := HB.out.byy.frozen 10
 have z10 := HB.out.bz.cell 10
 go_wp2_with fail
 refine bodyPost_ret (results_st rfl _ rfl (HB.out.byy.s11 _ _ _ _ _ _ _ _ _ _ _) Try.underlying26 rfl info26) rfl ?_
 exact bare_fin HB.out b HOW.out.1 HOW.out.2.1 HOW.out.2.2
end Go.Proofs.Ytkimbpeapolcbaa.Sy
