/- Chapter 17: the document's GetNode (31). (Printed by gwdocg.py.) -/
import Derived.Test.YtoplaokimahdiaaWiDocN
import Derived.Test.YtoplaokimahdiaaWiDocP
import Derived.Test.YtoplaokimahdiaaWiRMayN
import Derived.Test.YtoplaokimahdiaaWiGetN
namespace Go.Proofs.Ytoplaokimahdiaa.Wi
open Go.RowKit Go.Proofs.Ytoplaokimahdiaa.Bw Go.Proofs.Ytoplaokimahdiaa.Bs

/-- The tree that the document reads. -/
def getD (bs : List UInt8) : Option Nd := match nodeP 65 bs with
  | some (x, []) => if 0 ≤ mayN 0 x ∧ nodeB x = bs then some x else none
  | _ => none
theorem getD_got (bs : List UInt8) : gotO (nodeP 65 bs) treeE bs = getD bs := by
  unfold getD
  rcases h : nodeP 65 bs with _ | ⟨x, r⟩
  · rfl
  · cases r with
    | cons y r => rfl
    | nil =>
      show (if bytesOf (treeE x) = bs then some x else none) = if 0 ≤ mayN 0 x ∧ nodeB x = bs then some x else none
      rw [tree_ref]
      by_cases h0 : 0 ≤ mayN 0 x
      · rw [if_pos h0]
        by_cases h1 : nodeB x = bs
        · rw [if_pos (show bytesOf (some (nodeB x)) = bs from h1), if_pos ⟨h0, h1⟩]
        · rw [if_neg (show ¬ bytesOf (some (nodeB x)) = bs from h1), if_neg (fun hh => h1 hh.2)]
      · rw [if_neg h0]
        have hb : ¬ bytesOf none = bs := fun hh => by
          rw [← hh] at h
          cases h
        rw [if_neg hb, if_neg (fun hh => h0 hh.1)]
theorem dnode_any (bs : List UInt8) (bv : Value) (w0 w : World) (D : Nat) (h : DS w0 w D bs bv (some bs)) : Calls Try.prog 60 #[.pointer (some ⟨D, 0, none⟩), .int .i64 0] w (DocC w0 w D bs bv (ndV w.heap.size) (nodeP 65 bs)) := dnode_all 64 0 bs bv (some bs) w0 w D rfl h
set_option maxRecDepth 100000 in
set_option maxHeartbeats 4000000 in
theorem getNodeR_any (bs : List UInt8) (bv : Value) (w : World) (h : RdS w 1 bs.length (u8s bs) bv) (hl : bs.length ≤ 100000000000) : Calls Try.prog 31 #[bv] w (DocR (fun w x v W' => ndV w.heap.size x v W') w (.agg #[.int .u64 0, .bool false, .string ⟨#[]⟩, .slice none 0 0, .string ⟨#[]⟩, .slice none 0 0]) (getD bs)) := by
  obtain ⟨w1, hw1⟩ : ∃ W, w.alloc (.cells #[.int .u64 0, .bool false, .string ⟨#[]⟩, .slice none 0 0, .string ⟨#[]⟩, .slice none 0 0] 32) = W := ⟨_, rfl⟩
  obtain ⟨Y, hY⟩ : ∃ Y, w.heap.size = Y := ⟨_, rfl⟩
  have E1 : Ext w w1 := by rw [← hw1]; exact (Ext.refl w).alloc _
  have bY : NBox w1 Y 32 #[.int .u64 0, .bool false, .string ⟨#[]⟩, .slice none 0 0, .string ⟨#[]⟩, .slice none 0 0] := by rw [← hw1, ← hY]; exact NBox.new _ _ _
  obtain ⟨w2, hw2⟩ : ∃ W, w1.alloc (.cells #[bv, .int .i64 0, .bool false] 96) = W := ⟨_, rfl⟩
  obtain ⟨D, hDD⟩ : ∃ D, w1.heap.size = D := ⟨_, rfl⟩
  have E2 : Ext w1 w2 := by rw [← hw2]; exact (Ext.refl w1).alloc _
  have bD : NBox w2 D 96 #[bv, .int .i64 0, .bool false] := by rw [← hw2, ← hDD]; exact NBox.new _ _ _
  have hYD : Y < D := by rw [← hDD]; exact bY.lt
  have hDS : DS w w2 D bs bv (some bs) := ⟨E1.trans E2, by omega, h, hl, 0, false, bD, Nat.zero_le _, rfl, List.drop_zero⟩
  have hc := dnode_any bs bv w w2 D hDS
  have HG : Hid (getD bs = match nodeP 65 bs with | some (x, []) => if 0 ≤ mayN 0 x ∧ nodeB x = bs then some x else none | _ => none) := Lib.hid rfl
  have HEX := Lib.hid (fun x r (hh : nodeP 65 bs = some (x, r)) => hh)
  obtain ⟨p, hp⟩ : ∃ p, nodeP 65 bs = p := ⟨_, rfl⟩
  rw [hp] at hc HG
  obtain ⟨FIN, hFIN⟩ : ∃ q, getD bs = q := ⟨_, rfl⟩
  rw [hFIN] at HG ⊢
  have HY2 := Lib.hid (bY.ext E2)
  have HW1 := Lib.hid hw1
  have HYY := Lib.hid hY
  have HW2 := Lib.hid hw2
  have HDD := Lib.hid hDD
  have HRD := Lib.hid h
  have HE := Lib.hid (E1.trans E2)
  obtain ⟨A, c, rfl, -⟩ := h
  clear hw1 hY E1 bY hw2 hDD E2 bD hDS hp hFIN HEX
  go_enter Try.func31, Try.ntmps31
  go_upto_region 1 with fail
  rw [HW1.out, HYY.out]
  go_upto_region 2 with fail
  rw [HW2.out, HDD.out]
  go_wp2_with fail
  refine hc.mono ?_
  clear hc
  rintro e w3 ⟨hF, hP⟩
  have hdc : ∃ (x : Nd) (v : Value) (st : Option (List UInt8)), e = .returned v ∧ ndV w2.heap.size x v w3 ∧ DS w w3 D bs (.slice A bs.length c) st ∧ Hid (FIN = match st with | some [] => (if 0 ≤ mayN 0 x ∧ nodeB x = bs then some x else none) | _ => none) := by
    cases p with
    | none =>
      obtain ⟨x, v, h1, h2, h3⟩ := hP
      exact ⟨x, v, none, h1, h2, h3, HG⟩
    | some xr =>
      obtain ⟨x, r⟩ := xr
      obtain ⟨v, h1, h2, h3⟩ := hP
      refine ⟨x, v, some r, h1, h2, h3, Lib.hid ?_⟩
      rw [HG.out]
      cases r <;> rfl
  clear hP HG
  obtain ⟨x, v, st, rfl, hv, hDS, HG⟩ := hdc
  obtain ⟨aA, ac, kA, kc, rfl⟩ := hv.open
  obtain ⟨w4, hw4⟩ : ∃ W, w3.alloc (.cells #[.int .u64 0, .bool false, .string ⟨#[]⟩, .slice none 0 0, .string ⟨#[]⟩, .slice none 0 0] 32) = W := ⟨_, rfl⟩
  obtain ⟨Z, hZ⟩ : ∃ Z, w3.heap.size = Z := ⟨_, rfl⟩
  have E4 : Ext w3 w4 := by rw [← hw4]; exact (Ext.refl w3).alloc _
  have bZ : NBox w4 Z 32 #[.int .u64 0, .bool false, .string ⟨#[]⟩, .slice none 0 0, .string ⟨#[]⟩, .slice none 0 0] := by rw [← hw4, ← hZ]; exact NBox.new _ _ _
  have bY3 := HY2.out.fr hF (by show ¬ Y = D; omega)
  have hYZ : Y < Z := by rw [← hZ]; exact bY3.lt
  obtain ⟨a0, x0, hbx0, -⟩ := hDS.box
  have hDZ : D < Z := by rw [← hZ]; exact hbx0.lt
  obtain ⟨w5, hw5⟩ : ∃ W, ((((((w4.setCell ⟨Z, 0, none⟩ (.int .u64 x.id)).setCell ⟨Z, 1, none⟩ (.bool x.leaf)).setCell ⟨Z, 2, none⟩ (.string x.label)).setCell ⟨Z, 3, none⟩ (.slice aA x.attrs.length ac)).setCell ⟨Z, 4, none⟩ (.string x.text)).setCell ⟨Z, 5, none⟩ (.slice kA x.kids.length kc)) = W := ⟨_, rfl⟩
  have F5 : Fr w4 w5 (isB Z) := by rw [← hw5]; exact Fr.six _ _ _ _ _ _ _ _
  have hwY : w.heap.size ≤ Y := by rw [HYY.out]; exact Nat.le_refl _
  have HZ := Lib.hid (show NBox w5 Z 32 #[.int .u64 x.id, .bool x.leaf, .string x.label, .slice aA x.attrs.length ac, .string x.text, .slice kA x.kids.length kc] from by rw [← hw5]; exact bZ.six _ _ _ _ _ _)
  have HDS := Lib.hid ((hDS.more E4).fr F5 (fun q hq => by rw [show q = Z from hq]; omega) (by show ¬ D = Z; omega))
  have HBY := Lib.hid ((bY3.ext E4).fr F5 (by show ¬ Y = Z; omega))
  have HV : Hid (ndV w2.heap.size x (.agg #[.int .u64 x.id, .bool x.leaf, .string x.label, .slice aA x.attrs.length ac, .string x.text, .slice kA x.kids.length kc]) w5) := Lib.hid (hv.to (S' := old w2.heap.size) ((Fr.of_ext E4 (isB Z)).trans F5) (fun q hq hh => hh.elim (fun h => by rw [show q = Z from h, hZ] at hq; exact absurd hq (Nat.lt_irrefl _)) id))
  have HSZ := Lib.hid (show w.heap.size ≤ Y ∧ Y < w2.heap.size from ⟨by rw [HYY.out]; exact Nat.le_refl _, HY2.out.lt⟩)
  have HX5 := Lib.hid (show Ext w w5 from HDS.out.ext)
  have y0 := bZ.cell 0
  have f0 := bZ.frozen 0
  have y1 := bZ.cell 1
  have f1 := bZ.frozen 1
  have y2 := bZ.cell 2
  have f2 := bZ.frozen 2
  have y3 := bZ.cell 3
  have f3 := bZ.frozen 3
  have y4 := bZ.cell 4
  have f4 := bZ.frozen 4
  have y5 := bZ.cell 5
  have f5 := bZ.frozen 5
  have HW4 := Lib.hid hw4
  have HZZ := Lib.hid hZ
  have HW5 := Lib.hid hw5
  clear hw4 hZ hw5 E4 bZ bY3 F5 hDS hF hv hbx0 HY2
  go_upto_region 3 with (rw [HW4.out, HZZ.out]; clear HW4 HZZ)
  rw [HW5.out]
  clear HW5 y0 y1 y2 y3 y4 y5 f0 f1 f2 f3 f4 f5
  cases st with
  | none =>
    obtain ⟨a, xb, hb, ha, hs⟩ := HDS.out.box
    have b1 := hb.cell 1
    have b2 := hb.cell 2
    subst hs
    have HNO : Hid (FIN = none) := HG
    clear hb
    go_quiet (fail)
    have XQ := Lib.hid ((Ext.refl w5).drewN nq)
    obtain ⟨w6, hw6⟩ : ∃ W, w5.drewN nq = W := ⟨_, rfl⟩
    rw [hw6] at XQ ⊢
    clear hw6 b1 b2
    have e0 := (HBY.out.ext XQ.out).cell 0
    have g0 := (HBY.out.ext XQ.out).frozen 0
    have e1 := (HBY.out.ext XQ.out).cell 1
    have g1 := (HBY.out.ext XQ.out).frozen 1
    have e2 := (HBY.out.ext XQ.out).cell 2
    have g2 := (HBY.out.ext XQ.out).frozen 2
    have e3 := (HBY.out.ext XQ.out).cell 3
    have g3 := (HBY.out.ext XQ.out).frozen 3
    have e4 := (HBY.out.ext XQ.out).cell 4
    have g4 := (HBY.out.ext XQ.out).frozen 4
    have e5 := (HBY.out.ext XQ.out).cell 5
    have g5 := (HBY.out.ext XQ.out).frozen 5
    go_wp2_with fail
    refine bodyPost_ret (results_nd rfl rfl rfl ((HBY.out.ext XQ.out).six _ _ _ _ _ _) Try.underlying32 rfl info32) rfl ?_
    have F2 := Fr.six w6 Y (.int .u64 0) (.bool false) (.string ⟨#[]⟩) (.slice none 0 0) (.string ⟨#[]⟩) (.slice none 0 0)
    rw [HNO.out]
    exact ⟨Fr.ext (HX5.out.trans XQ.out) F2 (fun q hq => by rw [show q = Y from hq]; exact HSZ.out.1), rfl⟩
  | some r =>
    obtain ⟨a, xb, hb, ha, hs, hr⟩ := HDS.out.box
    have b1 := hb.cell 1
    have b2 := hb.cell 2
    subst hs
    have hrl : r.length = bs.length - a := by rw [← hr, List.length_drop]
    clear hb
    by_cases h0 : r = []
    case neg =>
      have hpos : 0 < r.length := List.length_pos_iff.2 h0
      have t1 : ((a : Int) != (bs.length : Int)) = true := by rw [bne_iff_ne]; omega
      have t2 : (a != bs.length) = true := by rw [bne_iff_ne]; omega
      have HNO : Hid (FIN = none) := Lib.hid (by rw [HG.out]; cases r with | nil => exact absurd rfl h0 | cons y r => rfl)
      clear hr hrl h0
      go_quiet (fail)
      have XQ := Lib.hid ((Ext.refl w5).drewN nq)
      obtain ⟨w6, hw6⟩ : ∃ W, w5.drewN nq = W := ⟨_, rfl⟩
      rw [hw6] at XQ ⊢
      clear hw6 b1 b2
      have e0 := (HBY.out.ext XQ.out).cell 0
      have g0 := (HBY.out.ext XQ.out).frozen 0
      have e1 := (HBY.out.ext XQ.out).cell 1
      have g1 := (HBY.out.ext XQ.out).frozen 1
      have e2 := (HBY.out.ext XQ.out).cell 2
      have g2 := (HBY.out.ext XQ.out).frozen 2
      have e3 := (HBY.out.ext XQ.out).cell 3
      have g3 := (HBY.out.ext XQ.out).frozen 3
      have e4 := (HBY.out.ext XQ.out).cell 4
      have g4 := (HBY.out.ext XQ.out).frozen 4
      have e5 := (HBY.out.ext XQ.out).cell 5
      have g5 := (HBY.out.ext XQ.out).frozen 5
      go_wp2_with fail
      refine bodyPost_ret (results_nd rfl rfl rfl ((HBY.out.ext XQ.out).six _ _ _ _ _ _) Try.underlying32 rfl info32) rfl ?_
      have F2 := Fr.six w6 Y (.int .u64 0) (.bool false) (.string ⟨#[]⟩) (.slice none 0 0) (.string ⟨#[]⟩) (.slice none 0 0)
      rw [HNO.out]
      exact ⟨Fr.ext (HX5.out.trans XQ.out) F2 (fun q hq => by rw [show q = Y from hq]; exact HSZ.out.1), rfl⟩
    subst h0
    have t1 : ((a : Int) != (bs.length : Int)) = false := by rw [bne_eq_false_iff_eq]; simp only [List.length_nil] at hrl; omega
    have t2 : (a != bs.length) = false := by rw [bne_eq_false_iff_eq]; simp only [List.length_nil] at hrl; omega
    clear hr hrl
    have HG2 : Hid (FIN = if 0 ≤ mayN 0 x ∧ nodeB x = bs then some x else none) := HG
    clear HG
    have z0 := HZ.out.cell 0
    have z1 := HZ.out.cell 1
    have z2 := HZ.out.cell 2
    have z3 := HZ.out.cell 3
    have z4 := HZ.out.cell 4
    have z5 := HZ.out.cell 5
    obtain ⟨c0, hc0⟩ : ∃ c0, w5.drew = c0 := ⟨_, rfl⟩
    have HXC : Hid (Ext w5 c0) := Lib.hid (by rw [← hc0]; exact (Ext.refl _).drew)
    have b1 := HXC.out.cell b1
    have b2 := HXC.out.cell b2
    have z0 := HXC.out.cell z0
    have z1 := HXC.out.cell z1
    have z2 := HXC.out.cell z2
    have z3 := HXC.out.cell z3
    have z4 := HXC.out.cell z4
    have z5 := HXC.out.cell z5
    have HX0 := Lib.hid (HX5.out.trans HXC.out)
    have HVC := Lib.hid (HV.out.ext HXC.out)
    have HIFF := Lib.hid (Sb_eq (nodeB x) bs)
    obtain ⟨sb, hsb⟩ : ∃ s, Sb bs = s := ⟨_, rfl⟩
    rw [hsb] at HIFF
    have HSB := Lib.hid hsb
    clear hsb
    refine wp_region_held_drew (S := fun W => Ext c0 W) (by kernel_rfl) (by rw [hc0]; exact Ext.refl _) (fun hHeld => ?_)
    rw [hc0] at hHeld ⊢
    clear hc0
    refine wpAnyH_take (i := 0) (oi := ⟨_, _, _, _, _, _⟩) (v := ?_) rfl (by kernel_rfl) (by kernel_rfl) (by kernel_rfl) (fun _ _ _ h => h) (Or.inl ⟨by rfl, ?_⟩) hHeld ?_
    rotate_left
    · intro w hSw
      have hSx : Ext c0 w := hSw
      clear hSw
      go_simp
      all_goals (first | with_reducible rfl | rw [if_pos (by omega)])
    try simp only [Act.put, List.setIfInBounds_toArray, List.set_cons_zero, List.set_cons_succ]
    refine wpAnyH_take (i := 1) (oi := ⟨_, _, _, _, _, _⟩) (v := ?_) rfl (by kernel_rfl) (by kernel_rfl) (by kernel_rfl) (fun _ _ _ h => h) (Or.inl ⟨by rfl, ?_⟩) hHeld ?_
    rotate_left
    · intro w hSw
      have hSx : Ext c0 w := hSw
      clear hSw
      go_simp
      all_goals (first | with_reducible rfl | rw [if_pos (by omega)])
    try simp only [Act.put, List.setIfInBounds_toArray, List.set_cons_zero, List.set_cons_succ]
    refine wpAnyH_take (i := 2) (oi := ⟨_, _, _, _, _, _⟩) (v := ?_) rfl (by kernel_rfl) (by kernel_rfl) (by kernel_rfl) (fun _ _ _ h => h) (Or.inl ⟨by rfl, ?_⟩) hHeld ?_
    rotate_left
    · intro w hSw
      have hSx : Ext c0 w := hSw
      clear hSw
      go_simp
      all_goals (first | with_reducible rfl | rw [if_pos (by omega)])
    try simp only [Act.put, List.setIfInBounds_toArray, List.set_cons_zero, List.set_cons_succ]
    refine wpAnyH_take (i := 3) (oi := ⟨_, _, _, _, _, _⟩) (v := ?_) rfl (by kernel_rfl) (by kernel_rfl) (by kernel_rfl) (fun _ _ _ h => h) (Or.inl ⟨by rfl, ?_⟩) hHeld ?_
    rotate_left
    · intro w hSw
      have hSx : Ext c0 w := hSw
      clear hSw
      have b2 := hSx.cell b2
      go_simp
      all_goals (first | with_reducible rfl | rw [if_pos (by omega)])
    try simp only [Act.put, List.setIfInBounds_toArray, List.set_cons_zero, List.set_cons_succ]
    refine wpAnyH_take (i := 4) (oi := ⟨_, _, _, _, _, _⟩) (v := ?_) rfl (by kernel_rfl) (by kernel_rfl) (by kernel_rfl) (fun _ _ _ h => h) (Or.inl ⟨by rfl, ?_⟩) hHeld ?_
    rotate_left
    · intro w hSw
      have hSx : Ext c0 w := hSw
      clear hSw
      go_simp
      all_goals (first | with_reducible rfl | rw [if_pos (by omega)])
    try simp only [Act.put, List.setIfInBounds_toArray, List.set_cons_zero, List.set_cons_succ]
    refine wpAnyH_take (i := 5) (oi := ⟨_, _, _, _, _, _⟩) (v := ?_) rfl (by kernel_rfl) (by kernel_rfl) (by kernel_rfl) (fun _ _ _ h => h) (Or.inl ⟨by rfl, ?_⟩) hHeld ?_
    rotate_left
    · intro w hSw
      have hSx : Ext c0 w := hSw
      clear hSw
      go_simp
      all_goals (first | with_reducible rfl | rw [if_pos (by omega)])
    try simp only [Act.put, List.setIfInBounds_toArray, List.set_cons_zero, List.set_cons_succ]
    refine wpAnyH_take (i := 6) (oi := ⟨_, _, _, _, _, _⟩) (v := ?_) rfl (by kernel_rfl) (by kernel_rfl) (by kernel_rfl) (fun _ _ _ h => h) (Or.inl ⟨by rfl, ?_⟩) hHeld ?_
    rotate_left
    · intro w hSw
      have hSx : Ext c0 w := hSw
      clear hSw
      go_simp
      all_goals (first | with_reducible rfl | rw [if_pos (by omega)])
    try simp only [Act.put, List.setIfInBounds_toArray, List.set_cons_zero, List.set_cons_succ]
    refine wpAnyH_take (i := 7) (oi := ⟨_, _, _, _, _, _⟩) (v := ?_) rfl (by kernel_rfl) (by kernel_rfl) (by kernel_rfl) (fun _ _ _ h => h) (Or.inl ⟨by rfl, ?_⟩) hHeld ?_
    rotate_left
    · intro w hSw
      have hSx : Ext c0 w := hSw
      clear hSw
      go_simp
      all_goals (first | with_reducible rfl | rw [if_pos (by omega)])
    try simp only [Act.put, List.setIfInBounds_toArray, List.set_cons_zero, List.set_cons_succ]
    refine wpAnyH_take (i := 8) (oi := ⟨_, _, _, _, _, _⟩) (v := ?_) rfl (by kernel_rfl) (by kernel_rfl) (by kernel_rfl) (fun _ _ _ h => h) (Or.inl ⟨by rfl, ?_⟩) hHeld ?_
    rotate_left
    · intro w hSw
      have hSx : Ext c0 w := hSw
      clear hSw
      have b1 := hSx.cell b1
      go_simp
      all_goals (first | with_reducible rfl | rw [if_pos (by omega)])
    try simp only [Act.put, List.setIfInBounds_toArray, List.set_cons_zero, List.set_cons_succ]
    refine wpAnyH_take (i := 9) (oi := ⟨_, _, _, _, _, _⟩) (v := ?_) rfl (by kernel_rfl) (by kernel_rfl) (by kernel_rfl) (fun _ _ _ h => h) (Or.inl ⟨by rfl, ?_⟩) hHeld ?_
    rotate_left
    · intro w hSw
      have hSx : Ext c0 w := hSw
      clear hSw
      go_simp
      all_goals (first | with_reducible rfl | rw [if_pos (by omega)])
    try simp only [Act.put, List.setIfInBounds_toArray, List.set_cons_zero, List.set_cons_succ]
    refine wpAnyH_take (i := 10) (oi := ⟨_, _, _, _, _, _⟩) (v := ?_) rfl (by kernel_rfl) (by kernel_rfl) (by kernel_rfl) (fun _ _ _ h => h) (Or.inl ⟨by rfl, ?_⟩) hHeld ?_
    rotate_left
    · intro w hSw
      have hSx : Ext c0 w := hSw
      clear hSw
      go_simp
      all_goals (first | with_reducible rfl | rw [if_pos (by omega)])
    try simp only [Act.put, List.setIfInBounds_toArray, List.set_cons_zero, List.set_cons_succ]
    refine wpAnyH_take (i := 11) (oi := ⟨_, _, _, _, _, _⟩) (v := ?_) rfl (by kernel_rfl) (by kernel_rfl) (by kernel_rfl) (fun _ _ _ h => h) (Or.inl ⟨by rfl, ?_⟩) hHeld ?_
    rotate_left
    · intro w hSw
      have hSx : Ext c0 w := hSw
      clear hSw
      go_simp
      all_goals (first | with_reducible rfl | rw [if_pos (by omega)])
    try simp only [Act.put, List.setIfInBounds_toArray, List.set_cons_zero, List.set_cons_succ]
    refine wpAnyH_take (i := 12) (oi := ⟨_, _, _, _, _, _⟩) (v := ?_) rfl (by kernel_rfl) (by kernel_rfl) (by kernel_rfl) (fun _ _ _ h => h) (Or.inl ⟨by rfl, ?_⟩) hHeld ?_
    rotate_left
    · intro w hSw
      have hSx : Ext c0 w := hSw
      clear hSw
      go_simp
      all_goals (first | with_reducible rfl | rw [if_pos (by omega)])
    try simp only [Act.put, List.setIfInBounds_toArray, List.set_cons_zero, List.set_cons_succ]
    refine wpAnyH_take (i := 13) (oi := ⟨_, _, _, _, _, _⟩) (v := ?_) rfl (by kernel_rfl) (by kernel_rfl) (by kernel_rfl) (fun _ _ _ h => h) (Or.inl ⟨by rfl, ?_⟩) hHeld ?_
    rotate_left
    · intro w hSw
      have hSx : Ext c0 w := hSw
      clear hSw
      go_simp
      all_goals (first | with_reducible rfl | rw [if_pos (by omega)])
    try simp only [Act.put, List.setIfInBounds_toArray, List.set_cons_zero, List.set_cons_succ]
    refine wpAnyH_take (i := 14) (oi := ⟨_, _, _, _, _, _⟩) (v := ?_) rfl (by kernel_rfl) (by kernel_rfl) (by kernel_rfl) (fun _ _ _ h => h) (Or.inl ⟨by rfl, ?_⟩) hHeld ?_
    rotate_left
    · intro w hSw
      have hSx : Ext c0 w := hSw
      clear hSw
      have z0 := hSx.cell z0
      have z1 := hSx.cell z1
      have z2 := hSx.cell z2
      have z3 := hSx.cell z3
      have z4 := hSx.cell z4
      have z5 := hSx.cell z5
      go_simp
      all_goals (first | with_reducible rfl | rw [if_pos (by omega)])
    try simp only [Act.put, List.setIfInBounds_toArray, List.set_cons_zero, List.set_cons_succ]
    refine wpAnyH_ready (rs := [15]) (by kernel_rfl) (by simp) ?_
    refine AllReadyH.cons (o := ⟨_, _, _, _, _, _⟩) rfl (fun K' hK => ?_) AllReadyH.nil
    have hq := mayNode_any x _ c0 HVC.out.now
    obtain ⟨mm, hmm⟩ : ∃ m, mayN 0 x = m := ⟨_, rfl⟩
    rw [hmm] at hq
    have HMM := Lib.hid hmm
    clear hmm
    go_simp
    go_at_call 28
    refine hq.mono ?_
    clear hq
    rintro e u ⟨r, rfl, rfl, hE⟩
    refine hK.out _ _ hE (fun hHeld => ?_)
    clear hK K'
    try simp only [Act.put, List.setIfInBounds_toArray, List.set_cons_zero, List.set_cons_succ]
    rcases Int.lt_or_le mm 0 with hneg | hneg
    · have u1 : decide (mm < 0) = true := decide_eq_true hneg
      have HNO : Hid (FIN = none) := Lib.hid (by rw [HG2.out, if_neg (by rw [HMM.out]; omega)])
      refine wpAnyH_take (i := 16) (oi := ⟨_, _, _, _, _, _⟩) (v := ?_) rfl (by kernel_rfl) (by kernel_rfl) (by kernel_rfl) (fun _ _ _ h => h) (Or.inl ⟨by rfl, ?_⟩) hHeld ?_
      rotate_left
      · intro w hSw
        have hSx : Ext c0 w := hSw
        clear hSw
        go_simp
        all_goals (first | with_reducible rfl | rw [if_pos (by omega)])
      try simp only [Act.put, List.setIfInBounds_toArray, List.set_cons_zero, List.set_cons_succ]
      refine wpAnyH_take (i := 17) (oi := ⟨_, _, _, _, _, _⟩) (v := ?_) rfl (by kernel_rfl) (by kernel_rfl) (by kernel_rfl) (fun _ _ _ h => h) (Or.inl ⟨by rfl, ?_⟩) hHeld ?_
      rotate_left
      · intro w hSw
        have hSx : Ext c0 w := hSw
        clear hSw
        go_simp
        all_goals (first | with_reducible rfl | rw [if_pos (by omega)])
      try simp only [Act.put, List.setIfInBounds_toArray, List.set_cons_zero, List.set_cons_succ]
      refine wpAnyH_take (i := 18) (oi := ⟨_, _, _, _, _, _⟩) (v := ?_) rfl (by kernel_rfl) (by kernel_rfl) (by kernel_rfl) (fun _ _ _ h => h) (Or.inl ⟨by rfl, ?_⟩) hHeld ?_
      rotate_left
      · intro w hSw
        have hSx : Ext c0 w := hSw
        clear hSw
        go_simp
        all_goals (first | with_reducible rfl | rw [if_pos (by omega)])
      try simp only [Act.put, List.setIfInBounds_toArray, List.set_cons_zero, List.set_cons_succ]
      refine wpAnyH_take (i := 19) (oi := ⟨_, _, _, _, _, _⟩) (v := undef) rfl (by kernel_rfl) (by kernel_rfl) (by kernel_rfl) (fun _ _ _ h => h) (Or.inr ⟨by rfl, by rfl⟩) hHeld ?_
      try simp only [Act.put, List.setIfInBounds_toArray, List.set_cons_zero, List.set_cons_succ]
      refine wpAnyH_take (i := 20) (oi := ⟨_, _, _, _, _, _⟩) (v := undef) rfl (by kernel_rfl) (by kernel_rfl) (by kernel_rfl) (fun _ _ _ h => h) (Or.inr ⟨by rfl, by rfl⟩) hHeld ?_
      try simp only [Act.put, List.setIfInBounds_toArray, List.set_cons_zero, List.set_cons_succ]
      refine wpAnyH_take (i := 21) (oi := ⟨_, _, _, _, _, _⟩) (v := undef) rfl (by kernel_rfl) (by kernel_rfl) (by kernel_rfl) (fun _ _ _ h => h) (Or.inr ⟨by rfl, by rfl⟩) hHeld ?_
      try simp only [Act.put, List.setIfInBounds_toArray, List.set_cons_zero, List.set_cons_succ]
      refine wpAnyH_take (i := 22) (oi := ⟨_, _, _, _, _, _⟩) (v := undef) rfl (by kernel_rfl) (by kernel_rfl) (by kernel_rfl) (fun _ _ _ h => h) (Or.inr ⟨by rfl, by rfl⟩) hHeld ?_
      try simp only [Act.put, List.setIfInBounds_toArray, List.set_cons_zero, List.set_cons_succ]
      refine wpAnyH_take (i := 23) (oi := ⟨_, _, _, _, _, _⟩) (v := undef) rfl (by kernel_rfl) (by kernel_rfl) (by kernel_rfl) (fun _ _ _ h => h) (Or.inr ⟨by rfl, by rfl⟩) hHeld ?_
      try simp only [Act.put, List.setIfInBounds_toArray, List.set_cons_zero, List.set_cons_succ]
      refine wpAnyH_take (i := 24) (oi := ⟨_, _, _, _, _, _⟩) (v := undef) rfl (by kernel_rfl) (by kernel_rfl) (by kernel_rfl) (fun _ _ _ h => h) (Or.inr ⟨by rfl, by rfl⟩) hHeld ?_
      try simp only [Act.put, List.setIfInBounds_toArray, List.set_cons_zero, List.set_cons_succ]
      refine wpAnyH_take (i := 25) (oi := ⟨_, _, _, _, _, _⟩) (v := ?_) rfl (by kernel_rfl) (by kernel_rfl) (by kernel_rfl) (fun _ _ _ h => h) (Or.inl ⟨by rfl, ?_⟩) hHeld ?_
      rotate_left
      · intro w hSw
        have hSx : Ext c0 w := hSw
        clear hSw
        go_simp
        all_goals (first | with_reducible rfl | rw [if_pos (by omega)])
      try simp only [Act.put, List.setIfInBounds_toArray, List.set_cons_zero, List.set_cons_succ]
      refine wpAnyH_done (by kernel_rfl) ?_ _
      have XQ := Lib.hid (HXC.out.trans hHeld)
      clear hHeld b1 b2 z0 z1 z2 z3 z4 z5
      have e0 := (HBY.out.ext XQ.out).cell 0
      have g0 := (HBY.out.ext XQ.out).frozen 0
      have e1 := (HBY.out.ext XQ.out).cell 1
      have g1 := (HBY.out.ext XQ.out).frozen 1
      have e2 := (HBY.out.ext XQ.out).cell 2
      have g2 := (HBY.out.ext XQ.out).frozen 2
      have e3 := (HBY.out.ext XQ.out).cell 3
      have g3 := (HBY.out.ext XQ.out).frozen 3
      have e4 := (HBY.out.ext XQ.out).cell 4
      have g4 := (HBY.out.ext XQ.out).frozen 4
      have e5 := (HBY.out.ext XQ.out).cell 5
      have g5 := (HBY.out.ext XQ.out).frozen 5
      go_wp2_with fail
      refine bodyPost_ret (results_nd rfl rfl rfl ((HBY.out.ext XQ.out).six _ _ _ _ _ _) Try.underlying32 rfl info32) rfl ?_
      have F2 := Fr.six u Y (.int .u64 0) (.bool false) (.string ⟨#[]⟩) (.slice none 0 0) (.string ⟨#[]⟩) (.slice none 0 0)
      rw [HNO.out]
      exact ⟨Fr.ext (HX5.out.trans XQ.out) F2 (fun q hq => by rw [show q = Y from hq]; exact HSZ.out.1), rfl⟩
    have u1 : decide (mm < 0) = false := decide_eq_false (by omega)
    refine wpAnyH_take (i := 16) (oi := ⟨_, _, _, _, _, _⟩) (v := ?_) rfl (by kernel_rfl) (by kernel_rfl) (by kernel_rfl) (fun _ _ _ h => h) (Or.inl ⟨by rfl, ?_⟩) hHeld ?_
    rotate_left
    · intro w hSw
      have hSx : Ext c0 w := hSw
      clear hSw
      go_simp
      all_goals (first | with_reducible rfl | rw [if_pos (by omega)])
    try simp only [Act.put, List.setIfInBounds_toArray, List.set_cons_zero, List.set_cons_succ]
    refine wpAnyH_take (i := 17) (oi := ⟨_, _, _, _, _, _⟩) (v := ?_) rfl (by kernel_rfl) (by kernel_rfl) (by kernel_rfl) (fun _ _ _ h => h) (Or.inl ⟨by rfl, ?_⟩) hHeld ?_
    rotate_left
    · intro w hSw
      have hSx : Ext c0 w := hSw
      clear hSw
      go_simp
      all_goals (first | with_reducible rfl | rw [if_pos (by omega)])
    try simp only [Act.put, List.setIfInBounds_toArray, List.set_cons_zero, List.set_cons_succ]
    refine wpAnyH_take (i := 18) (oi := ⟨_, _, _, _, _, _⟩) (v := ?_) rfl (by kernel_rfl) (by kernel_rfl) (by kernel_rfl) (fun _ _ _ h => h) (Or.inl ⟨by rfl, ?_⟩) hHeld ?_
    rotate_left
    · intro w hSw
      have hSx : Ext c0 w := hSw
      clear hSw
      go_simp
      all_goals (first | with_reducible rfl | rw [if_pos (by omega)])
    try simp only [Act.put, List.setIfInBounds_toArray, List.set_cons_zero, List.set_cons_succ]
    refine wpAnyH_take (i := 19) (oi := ⟨_, _, _, _, _, _⟩) (v := ?_) rfl (by kernel_rfl) (by kernel_rfl) (by kernel_rfl) (fun _ _ _ h => h) (Or.inl ⟨by rfl, ?_⟩) hHeld ?_
    rotate_left
    · intro w hSw
      have hSx : Ext c0 w := hSw
      clear hSw
      have z0 := hSx.cell z0
      have z1 := hSx.cell z1
      have z2 := hSx.cell z2
      have z3 := hSx.cell z3
      have z4 := hSx.cell z4
      have z5 := hSx.cell z5
      go_simp
      all_goals (first | with_reducible rfl | rw [if_pos (by omega)])
    try simp only [Act.put, List.setIfInBounds_toArray, List.set_cons_zero, List.set_cons_succ]
    refine wpAnyH_take (i := 22) (oi := ⟨_, _, _, _, _, _⟩) (v := ?_) rfl (by kernel_rfl) (by kernel_rfl) (by kernel_rfl) (fun _ _ _ h => h) (Or.inl ⟨by rfl, ?_⟩) hHeld ?_
    rotate_left
    · intro w hSw
      have hSx : Ext c0 w := hSw
      clear hSw
      go_simp
      all_goals (first | with_reducible rfl | rw [if_pos (by omega)])
    try simp only [Act.put, List.setIfInBounds_toArray, List.set_cons_zero, List.set_cons_succ]
    refine wpAnyH_take (i := 23) (oi := ⟨_, _, _, _, _, _⟩) (v := ?_) rfl (by kernel_rfl) (by kernel_rfl) (by kernel_rfl) (fun _ _ _ h => h) (Or.inl ⟨by rfl, ?_⟩) hHeld ?_
    rotate_left
    · intro w hSw
      have hSx : Ext c0 w := hSw
      clear hSw
      have k23 := conv_rd (RdS.ext (HX0.out.trans hSx) HRD.out)
      rw [HSB.out] at k23
      go_simp
      all_goals (first | with_reducible rfl | rw [if_pos (by omega)])
    try simp only [Act.put, List.setIfInBounds_toArray, List.set_cons_zero, List.set_cons_succ]
    refine wpAnyH_ready (rs := [20]) (by kernel_rfl) (by simp) ?_
    refine AllReadyH.cons (o := ⟨_, _, _, _, _, _⟩) rfl (fun K' hK => ?_) AllReadyH.nil
    have hq := nodeRef_any x _ u (HVC.out.ext hHeld).now (by rw [HMM.out]; omega)
    go_simp
    go_at_call 29
    refine hq.mono ?_
    clear hq
    rintro e u2 hP
    obtain ⟨v2, rfl, hN2⟩ := PutR.rd hP
    have HE2 := Lib.hid (Ext.trans hHeld hN2.ext)
    have k21 := conv_rd (RdS.of_owns hN2.own)
    obtain ⟨vA, vC, rfl, -⟩ := RdS.of_owns hN2.own
    obtain ⟨sx, hsx⟩ : ∃ s, Sb (nodeB x) = s := ⟨_, rfl⟩
    rw [hsx] at k21 HIFF
    clear hP hN2 hsx
    refine hK.out _ _ HE2.out (fun hHeld => ?_)
    clear hK K'
    try simp only [Act.put, List.setIfInBounds_toArray, List.set_cons_zero, List.set_cons_succ]
    refine wpAnyH_ready (rs := [21]) (by kernel_rfl) (by simp) ?_
    refine AllReadyH.cons (o := ⟨_, _, _, _, _, _⟩) rfl (fun K' hK => ?_) AllReadyH.nil
    go_simp
    refine hK.out _ _ HE2.out (fun hHeld => ?_)
    clear hK K' k21
    try simp only [Act.put, List.setIfInBounds_toArray, List.set_cons_zero, List.set_cons_succ]
    have XQ := Lib.hid (HXC.out.trans HE2.out)
    by_cases hb : nodeB x = bs
    · have hcmp : (sx.toList == sb.toList) = true := by rw [HIFF.out]; exact decide_eq_true hb
      have hcmp' : (sx.toList != sb.toList) = false := by rw [bne, hcmp]; rfl
      have HYS : Hid (FIN = some x) := Lib.hid (by rw [HG2.out, if_pos ⟨by rw [HMM.out]; omega, hb⟩])
      refine wpAnyH_take (i := 24) (oi := ⟨_, _, _, _, _, _⟩) (v := ?_) rfl (by kernel_rfl) (by kernel_rfl) (by kernel_rfl) (fun _ _ _ h => h) (Or.inl ⟨by rfl, ?_⟩) hHeld ?_
      rotate_left
      · intro w hSw
        have hSx : Ext c0 w := hSw
        clear hSw
        go_simp
        all_goals (first | with_reducible rfl | rw [if_pos (by omega)])
      try simp only [Act.put, List.setIfInBounds_toArray, List.set_cons_zero, List.set_cons_succ]
      refine wpAnyH_take (i := 25) (oi := ⟨_, _, _, _, _, _⟩) (v := ?_) rfl (by kernel_rfl) (by kernel_rfl) (by kernel_rfl) (fun _ _ _ h => h) (Or.inl ⟨by rfl, ?_⟩) hHeld ?_
      rotate_left
      · intro w hSw
        have hSx : Ext c0 w := hSw
        clear hSw
        go_simp
        all_goals (first | with_reducible rfl | rw [if_pos (by omega)])
      try simp only [Act.put, List.setIfInBounds_toArray, List.set_cons_zero, List.set_cons_succ]
      refine wpAnyH_done (by kernel_rfl) ?_ _
      clear hHeld b1 b2 z0 z1 z2 z3 z4 z5
      have e0 := (HBY.out.ext XQ.out).cell 0
      have g0 := (HBY.out.ext XQ.out).frozen 0
      have z0 := (HZ.out.ext XQ.out).cell 0
      have e1 := (HBY.out.ext XQ.out).cell 1
      have g1 := (HBY.out.ext XQ.out).frozen 1
      have z1 := (HZ.out.ext XQ.out).cell 1
      have e2 := (HBY.out.ext XQ.out).cell 2
      have g2 := (HBY.out.ext XQ.out).frozen 2
      have z2 := (HZ.out.ext XQ.out).cell 2
      have e3 := (HBY.out.ext XQ.out).cell 3
      have g3 := (HBY.out.ext XQ.out).frozen 3
      have z3 := (HZ.out.ext XQ.out).cell 3
      have e4 := (HBY.out.ext XQ.out).cell 4
      have g4 := (HBY.out.ext XQ.out).frozen 4
      have z4 := (HZ.out.ext XQ.out).cell 4
      have e5 := (HBY.out.ext XQ.out).cell 5
      have g5 := (HBY.out.ext XQ.out).frozen 5
      have z5 := (HZ.out.ext XQ.out).cell 5
      go_wp2_with fail
      refine bodyPost_ret (results_nd rfl rfl rfl ((HBY.out.ext XQ.out).six _ _ _ _ _ _) Try.underlying32 rfl info32) rfl ?_
      have F2 := Fr.six u2 Y (.int .u64 x.id) (.bool x.leaf) (.string x.label) (.slice aA x.attrs.length ac) (.string x.text) (.slice kA x.kids.length kc)
      rw [HYS.out]
      exact ⟨Fr.ext (HX5.out.trans XQ.out) F2 (fun q hq => by rw [show q = Y from hq]; exact HSZ.out.1), _, rfl, (HV.out.ext XQ.out).to (S' := old w.heap.size) F2 (fun q _ hh => hh.elim (fun h => by rw [show q = Y from h]; exact HSZ.out.2) (fun h => Nat.lt_of_lt_of_le (show q < w.heap.size from h) (Nat.le_of_lt (Nat.lt_of_le_of_lt HSZ.out.1 HSZ.out.2))))⟩
    · have hcmp : (sx.toList == sb.toList) = false := by rw [HIFF.out]; exact decide_eq_false hb
      have hcmp' : (sx.toList != sb.toList) = true := by rw [bne, hcmp]; rfl
      have HNO : Hid (FIN = none) := Lib.hid (by rw [HG2.out, if_neg (fun hh => hb hh.2)])
      refine wpAnyH_take (i := 24) (oi := ⟨_, _, _, _, _, _⟩) (v := ?_) rfl (by kernel_rfl) (by kernel_rfl) (by kernel_rfl) (fun _ _ _ h => h) (Or.inl ⟨by rfl, ?_⟩) hHeld ?_
      rotate_left
      · intro w hSw
        have hSx : Ext c0 w := hSw
        clear hSw
        go_simp
        all_goals (first | with_reducible rfl | rw [if_pos (by omega)])
      try simp only [Act.put, List.setIfInBounds_toArray, List.set_cons_zero, List.set_cons_succ]
      refine wpAnyH_take (i := 25) (oi := ⟨_, _, _, _, _, _⟩) (v := ?_) rfl (by kernel_rfl) (by kernel_rfl) (by kernel_rfl) (fun _ _ _ h => h) (Or.inl ⟨by rfl, ?_⟩) hHeld ?_
      rotate_left
      · intro w hSw
        have hSx : Ext c0 w := hSw
        clear hSw
        go_simp
        all_goals (first | with_reducible rfl | rw [if_pos (by omega)])
      try simp only [Act.put, List.setIfInBounds_toArray, List.set_cons_zero, List.set_cons_succ]
      refine wpAnyH_done (by kernel_rfl) ?_ _
      clear hHeld b1 b2 z0 z1 z2 z3 z4 z5
      have e0 := (HBY.out.ext XQ.out).cell 0
      have g0 := (HBY.out.ext XQ.out).frozen 0
      have e1 := (HBY.out.ext XQ.out).cell 1
      have g1 := (HBY.out.ext XQ.out).frozen 1
      have e2 := (HBY.out.ext XQ.out).cell 2
      have g2 := (HBY.out.ext XQ.out).frozen 2
      have e3 := (HBY.out.ext XQ.out).cell 3
      have g3 := (HBY.out.ext XQ.out).frozen 3
      have e4 := (HBY.out.ext XQ.out).cell 4
      have g4 := (HBY.out.ext XQ.out).frozen 4
      have e5 := (HBY.out.ext XQ.out).cell 5
      have g5 := (HBY.out.ext XQ.out).frozen 5
      go_wp2_with fail
      refine bodyPost_ret (results_nd rfl rfl rfl ((HBY.out.ext XQ.out).six _ _ _ _ _ _) Try.underlying32 rfl info32) rfl ?_
      have F2 := Fr.six u2 Y (.int .u64 0) (.bool false) (.string ⟨#[]⟩) (.slice none 0 0) (.string ⟨#[]⟩) (.slice none 0 0)
      rw [HNO.out]
      exact ⟨Fr.ext (HX5.out.trans XQ.out) F2 (fun q hq => by rw [show q = Y from hq]; exact HSZ.out.1), rfl⟩
end Go.Proofs.Ytoplaokimahdiaa.Wi
