/- Chapter 17: the law WireBegins. (Printed by glwbeg.py.) -/
import Derived.Test.YtoplaokimahdiaaWiSameN
import Derived.Test.YtoplaokimahdiaaWiWorks
import Derived.Test.YtoplaokimahdiaaWiWeigh
import Derived.Test.YtoplaokimahdiaaWiBegin
namespace Go.Proofs.Ytoplaokimahdiaa.Wi
open Go.RowKit Go.Proofs.Ytoplaokimahdiaa.Bw Go.Proofs.Ytoplaokimahdiaa.Bs

def begS (a b : ByteArray) : Bool := decide (a.size ≤ b.size) && ((b.extract 0 a.size).toList == a.toList)
theorem begS_Sb (l m : List UInt8) : begS (Sb l) (Sb m) = beg l m := by
  unfold begS beg
  have e : ((Sb m).extract 0 (Sb l).size).toList = m.take l.length := by
    rw [ByteArray.toList_eq, Sb_size]
    simp [Sb]
  rw [e, Sb_toList, Sb_size, Sb_size, Bool.eq_iff_iff, Bool.and_eq_true, decide_eq_true_eq, beq_iff_eq, List.isPrefixOf_iff_prefix, List.prefix_iff_eq_take]
  constructor
  · rintro ⟨-, h⟩
    exact h.symm
  · intro h
    exact ⟨by rw [h, List.length_take]; omega, h.symm⟩
theorem some_of_ne {o : Option (List UInt8)} (h : 0 < (Sb (bytesOf o)).size) : ∃ b, o = some b := by
  cases o with
  | none => exact absurd h (by decide)
  | some b => exact ⟨b, rfl⟩
theorem ids_of {w : World} {l : List OpD} {v : Value} (h : RdL w l v) : ∀ o ∈ l, 0 ≤ o.id := by
  obtain ⟨A, c, -, -, -, hcell⟩ := h
  intro o ho
  obtain ⟨i, hi⟩ := List.getElem?_of_mem ho
  obtain ⟨b, off, -, hr⟩ := hcell (by have := (List.getElem?_eq_some_iff.1 hi).1; omega)
  obtain ⟨⟨pv, tv, cv, -, -, -, -, -, -, -, -, -, -, -, h11⟩, -⟩ := rdOps_at hr hi
  obtain ⟨_, _, _, _, _, _, _, _, _, _, hid, _⟩ := h11
  exact hid.1
theorem beg_lists {w : World} {a b : List OpD} {va vb : Value} (ha : RdL w a va) (hb : RdL w b vb) (h1 : 0 < (Sb (bytesOf (listE a))).size) (h2 : 0 < (Sb (bytesOf (listE b))).size) : begS (Sb (bytesOf (listE a))) (Sb (bytesOf (listE b))) = true ↔ a = b := by
  obtain ⟨l, hl⟩ := some_of_ne h1
  obtain ⟨m, hm⟩ := some_of_ne h2
  rw [begS_Sb, hl, hm]
  exact list_beg (ids_of ha) (ids_of hb) hl hm
theorem beg_trees {w : World} {x y : Nd} {vx vy : Value} (hx : x.rd w vx) (hy : y.rd w vy) (h1 : 0 < (Sb (bytesOf (treeE x))).size) (h2 : 0 < (Sb (bytesOf (treeE y))).size) : begS (Sb (bytesOf (treeE x))) (Sb (bytesOf (treeE y))) = true ↔ x = y := by
  obtain ⟨l, hl⟩ := some_of_ne h1
  obtain ⟨m, hm⟩ := some_of_ne h2
  rw [begS_Sb, hl, hm]
  exact tree_beg (Nd.rd_ids hx) (Nd.rd_ids hy) hl hm
theorem beg_paths {p q : List Int} (h1 : 0 < (Sb (bytesOf (pathE p))).size) (h2 : 0 < (Sb (bytesOf (pathE q))).size) : begS (Sb (bytesOf (pathE p))) (Sb (bytesOf (pathE q))) = true ↔ p = q := by
  obtain ⟨l, hl⟩ := some_of_ne h1
  obtain ⟨m, hm⟩ := some_of_ne h2
  rw [begS_Sb, hl, hm]
  exact path_beg hl hm
theorem pos_size (s : ByteArray) : decide ((0 : Int) < (s.size : Int)) = decide (0 < s.size) := by
  by_cases h : 0 < s.size
  · rw [decide_eq_true h, decide_eq_true (by omega)]
  · rw [decide_eq_false h, decide_eq_false (by omega)]

set_option maxRecDepth 100000 in
set_option maxHeartbeats 8000000 in
theorem lawBegins (a b : List OpD) (x y : Nd) (p q : List Int) (va vb vx vy vp vq : Value) (w : World) (ha : RdL w a va) (hb : RdL w b vb) (hx : x.rd w vx) (hy : y.rd w vy) (hp : RdI w p vp) (hq : RdI w q vq) :
    Calls Try.prog 4 #[va, vb, vx, vy, vp, vq] w (Ret w fun r _ => r = .bool true) := by
  obtain ⟨id1, lf1, lb1, ats1, tx1, ks1⟩ := x
  obtain ⟨id2, lf2, lb2, ats2, tx2, ks2⟩ := y
  have hx' := hx
  have hy' := hy
  unfold Nd.rd at hx' hy'
  obtain ⟨av1, kA1, kc1, rfl, -, -, -, ⟨aA1, ac1, rfl, -⟩, -⟩ := hx'
  obtain ⟨av2, kA2, kc2, rfl, -, -, -, ⟨aA2, ac2, rfl, -⟩, -⟩ := hy'
  obtain ⟨w1, hw1⟩ : ∃ W, (w.alloc (.cells #[.int .u64 id1, .bool lf1, .string lb1, .slice aA1 ats1.length ac1, .string tx1, .slice kA1 ks1.length kc1] 32)).alloc (.cells #[.int .u64 id2, .bool lf2, .string lb2, .slice aA2 ats2.length ac2, .string tx2, .slice kA2 ks2.length kc2] 32) = W := ⟨_, rfl⟩
  obtain ⟨D, hDD⟩ : ∃ D, w.heap.size = D := ⟨_, rfl⟩
  obtain ⟨D2, hD2⟩ : ∃ D2, D + 1 = D2 := ⟨_, rfl⟩
  have s1 : (w.alloc (.cells #[.int .u64 id1, .bool lf1, .string lb1, .slice aA1 ats1.length ac1, .string tx1, .slice kA1 ks1.length kc1] 32)).heap.size = D2 := by rw [World.size_alloc, hDD, hD2]
  have E1 : Ext w w1 := by rw [← hw1]; exact ((Ext.refl w).alloc _).alloc _
  have HB8 : Hid (NBox w1 D 32 #[.int .u64 id1, .bool lf1, .string lb1, .slice aA1 ats1.length ac1, .string tx1, .slice kA1 ks1.length kc1]) := Lib.hid (by rw [← hw1, ← hDD]; exact (NBox.new _ _ _).ext ((Ext.refl _).alloc _))
  have HB9 : Hid (NBox w1 D2 32 #[.int .u64 id2, .bool lf2, .string lb2, .slice aA2 ats2.length ac2, .string tx2, .slice kA2 ks2.length kc2]) := Lib.hid (by rw [← hw1, ← s1]; exact NBox.new _ _ _)
  have HA := Lib.hid (RdL.ext E1 ha)
  have HB := Lib.hid (RdL.ext E1 hb)
  have HX := Lib.hid (Nd.rd_ext E1 hx)
  have HY := Lib.hid (Nd.rd_ext E1 hy)
  have HP := Lib.hid (RdS.ext E1 hp)
  have HQ := Lib.hid (RdS.ext E1 hq)
  obtain ⟨lA, lc, rfl, -⟩ := ha
  obtain ⟨mA, mc, rfl, -⟩ := hb
  obtain ⟨pA, pc, rfl, -, -, hpm, -⟩ := hp
  obtain ⟨qA, qc, rfl, -, -, hqm, -⟩ := hq
  unfold maxLen at hpm hqm
  have HW := Lib.hid hw1
  have HD := Lib.hid hDD
  have HDD := Lib.hid hD2
  have HE := Lib.hid E1
  clear hx hy hw1 hDD hD2 s1 E1
  have hc := weight_any a _ w1 5000 HA.out
  go_enter Try.func4, Try.ntmps4
  go_upto_region 1 with fail
  have e1 : (w.alloc (.cells #[.int .u64 id1, .bool lf1, .string lb1, .slice aA1 ats1.length ac1, .string tx1, .slice kA1 ks1.length kc1] 32)).alloc (.cells #[.int .u64 id2, .bool lf2, .string lb2, .slice aA2 ats2.length ac2, .string tx2, .slice kA2 ks2.length kc2] 32) = w1 := HW.out
  rw [e1, HD.out, HDD.out]
  clear e1 HW HD HDD
  go_wp2_with fail
  refine hc.mono ?_
  clear hc
  rintro e w_2 ⟨r, rfl, ⟨n2, rfl⟩, hE⟩
  have X_2 := Lib.hid (hE)
  clear hE
  cases g2 : decide (5000 < n2) with
  | true =>
    have hw := works_any w_2
    go_wp2_with fail
    refine hw.mono ?_
    clear hw
    rintro e wf ⟨rfl, hXf⟩
    go_wp2_with fail
    go_ret
    exact ⟨_, rfl, rfl, (HE.out.trans X_2.out).trans hXf⟩
  | false =>
    have hc := weight_any b _ w_2 5000 (RdL.ext X_2.out HB.out)
    go_wp2_with fail
    refine hc.mono ?_
    clear hc
    rintro e w_3 ⟨r, rfl, ⟨n3, rfl⟩, hE⟩
    have X_3 := Lib.hid (X_2.out.trans hE)
    clear hE
    cases g3 : decide (5000 < n3) with
    | true =>
      have hw := works_any w_3
      go_wp2_with fail
      refine hw.mono ?_
      clear hw
      rintro e wf ⟨rfl, hXf⟩
      go_wp2_with fail
      go_ret
      exact ⟨_, rfl, rfl, (HE.out.trans X_3.out).trans hXf⟩
    | false =>
      have hc := heavy_any (.mk id1 lf1 lb1 ats1 tx1 ks1) _ 0 5000 w_3 (Nd.rd_ext X_3.out HX.out)
      have x0 := (HB8.out.ext X_3.out).cell 0
      have x1 := (HB8.out.ext X_3.out).cell 1
      have x2 := (HB8.out.ext X_3.out).cell 2
      have x3 := (HB8.out.ext X_3.out).cell 3
      have x4 := (HB8.out.ext X_3.out).cell 4
      have x5 := (HB8.out.ext X_3.out).cell 5
      go_wp2_with fail
      refine hc.mono ?_
      clear hc
      clear x0 x1 x2 x3 x4 x5
      rintro e w_4 ⟨r, rfl, ⟨n4, rfl⟩, hE⟩
      have X_4 := Lib.hid (X_3.out.trans hE)
      clear hE
      cases g4 : decide (5000 < n4) with
      | true =>
        have hw := works_any w_4
        go_wp2_with fail
        refine hw.mono ?_
        clear hw
        rintro e wf ⟨rfl, hXf⟩
        go_wp2_with fail
        go_ret
        exact ⟨_, rfl, rfl, (HE.out.trans X_4.out).trans hXf⟩
      | false =>
        have hc := heavy_any (.mk id2 lf2 lb2 ats2 tx2 ks2) _ 0 5000 w_4 (Nd.rd_ext X_4.out HY.out)
        have y0 := (HB9.out.ext X_4.out).cell 0
        have y1 := (HB9.out.ext X_4.out).cell 1
        have y2 := (HB9.out.ext X_4.out).cell 2
        have y3 := (HB9.out.ext X_4.out).cell 3
        have y4 := (HB9.out.ext X_4.out).cell 4
        have y5 := (HB9.out.ext X_4.out).cell 5
        go_wp2_with fail
        refine hc.mono ?_
        clear hc
        clear y0 y1 y2 y3 y4 y5
        rintro e w_5 ⟨r, rfl, ⟨n5, rfl⟩, hE⟩
        have X_5 := Lib.hid (X_4.out.trans hE)
        clear hE
        cases g5 : decide (5000 < n5) with
        | true =>
          have hw := works_any w_5
          go_wp2_with fail
          refine hw.mono ?_
          clear hw
          rintro e wf ⟨rfl, hXf⟩
          go_wp2_with fail
          go_ret
          exact ⟨_, rfl, rfl, (HE.out.trans X_5.out).trans hXf⟩
        | false =>
          cases gp : decide ((500 : Int) < (p.length : Int)) with
          | true =>
            have hw := works_any w_5
            go_wp2_with fail
            refine hw.mono ?_
            clear hw
            rintro e wf ⟨rfl, hXf⟩
            go_wp2_with fail
            go_ret
            exact ⟨_, rfl, rfl, (HE.out.trans X_5.out).trans hXf⟩
          | false =>
            cases gq : decide ((500 : Int) < (q.length : Int)) with
            | true =>
              have hw := works_any w_5
              go_wp2_with fail
              refine hw.mono ?_
              clear hw
              rintro e wf ⟨rfl, hXf⟩
              go_wp2_with fail
              go_ret
              exact ⟨_, rfl, rfl, (HE.out.trans X_5.out).trans hXf⟩
            | false =>
              have X0 := X_5
              go_upto_region 3 with fail
              clear g2 g3 g4 g5 gp gq
              go_cut [13, 14] from 44 to 115 (fun s13 s14 wx => s13 = .string (Sb (bytesOf (listE a))) ∧ s14 = .string (Sb (bytesOf (listE b))) ∧ Ext w1 wx)
              case first =>
                obtain ⟨c0, hc0⟩ : ∃ c0, w_5.drew = c0 := ⟨_, rfl⟩
                have hH : Ext w1 c0 := by rw [← hc0]; exact X0.out.drew
                refine wp_region_held_drew (S := fun W => Ext w1 W) (by kernel_rfl) (by rw [hc0]; exact hH) (fun hHeld => ?_)
                rw [hc0] at hHeld ⊢
                clear hc0 hH
                refine wpAnyH_take (i := 0) (oi := ⟨_, _, _, _, _, _⟩) (v := ?_) rfl (by kernel_rfl) (by kernel_rfl) (by kernel_rfl) (fun _ _ _ h => h) (Or.inl ⟨by rfl, ?_⟩) hHeld ?_
                rotate_left
                · intro w hSw
                  try dsimp only at hSw
                  go_simp
                  all_goals (first | with_reducible rfl | rw [if_pos (by omega)])
                try simp only [Act.put, List.setIfInBounds_toArray, List.set_cons_zero, List.set_cons_succ]
                refine wpAnyH_take (i := 3) (oi := ⟨_, _, _, _, _, _⟩) (v := ?_) rfl (by kernel_rfl) (by kernel_rfl) (by kernel_rfl) (fun _ _ _ h => h) (Or.inl ⟨by rfl, ?_⟩) hHeld ?_
                rotate_left
                · intro w hSw
                  try dsimp only at hSw
                  go_simp
                  all_goals (first | with_reducible rfl | rw [if_pos (by omega)])
                try simp only [Act.put, List.setIfInBounds_toArray, List.set_cons_zero, List.set_cons_succ]
                refine wpAnyH_ready (rs := [1]) (by kernel_rfl) (by simp) ?_
                refine AllReadyH.cons (o := ⟨_, _, _, _, _, _⟩) rfl (fun K' hK => ?_) (AllReadyH.nil)
                go_simp
                go_at_call 12
                refine (putList_any a _ c0 (RdL.ext hHeld HA.out)).mono ?_
                rintro e c1 ⟨hX1, v1, rfl, hO1⟩
                have HO1 := Lib.hid hO1
                have HX1 := Lib.hid (hHeld.trans hX1)
                obtain ⟨uA, uC, rfl, -⟩ := RdS.of_owns hO1
                refine hK.out _ _ (hHeld.trans hX1) (fun hHeld => ?_)
                clear hK K' hO1 hX1
                try simp only [Act.put, List.setIfInBounds_toArray, List.set_cons_zero, List.set_cons_succ]
                refine wpAnyH_ready (rs := [2, 4]) (by kernel_rfl) (by simp) ?_
                refine AllReadyH.cons (o := ⟨_, _, _, _, _, _⟩) rfl (fun K' hK => ?_) (AllReadyH.cons (o := ⟨_, _, _, _, _, _⟩) rfl (fun K' hK => ?_) (AllReadyH.nil))
                · skip
                  have kc := conv_own HO1.out
                  go_simp
                  refine hK.out _ _ hHeld (fun hHeld => ?_)
                  clear hK K' kc
                  try simp only [Act.put, List.setIfInBounds_toArray, List.set_cons_zero, List.set_cons_succ]
                  refine wpAnyH_ready (rs := [4]) (by kernel_rfl) (by simp) ?_
                  refine AllReadyH.cons (o := ⟨_, _, _, _, _, _⟩) rfl (fun K' hK => ?_) (AllReadyH.nil)
                  go_simp
                  go_at_call 12
                  refine (putList_any b _ c1 (RdL.ext hHeld HB.out)).mono ?_
                  rintro e c2 ⟨hX2, v2, rfl, hO2⟩
                  have HO2 := Lib.hid hO2
                  have HX12 := Lib.hid hX2
                  obtain ⟨tA, tC, rfl, -⟩ := RdS.of_owns hO2
                  refine hK.out _ _ (hHeld.trans hX2) (fun hHeld => ?_)
                  clear hK K' hO2 hX2
                  try simp only [Act.put, List.setIfInBounds_toArray, List.set_cons_zero, List.set_cons_succ]
                  refine wpAnyH_take (i := 6) (oi := ⟨_, _, _, _, _, _⟩) (v := ?_) rfl (by kernel_rfl) (by kernel_rfl) (by kernel_rfl) (fun _ _ _ h => h) (Or.inl ⟨by rfl, ?_⟩) hHeld ?_
                  rotate_left
                  · intro w hSw
                    try dsimp only at hSw
                    go_simp
                    all_goals (first | with_reducible rfl | rw [if_pos (by omega)])
                  try simp only [Act.put, List.setIfInBounds_toArray, List.set_cons_zero, List.set_cons_succ]
                  refine wpAnyH_ready (rs := [5]) (by kernel_rfl) (by simp) ?_
                  refine AllReadyH.cons (o := ⟨_, _, _, _, _, _⟩) rfl (fun K' hK => ?_) (AllReadyH.nil)
                  have kc := conv_own HO2.out
                  go_simp
                  refine hK.out _ _ hHeld (fun hHeld => ?_)
                  clear hK K' kc
                  try simp only [Act.put, List.setIfInBounds_toArray, List.set_cons_zero, List.set_cons_succ]
                  refine wpAnyH_take (i := 7) (oi := ⟨_, _, _, _, _, _⟩) (v := ?_) rfl (by kernel_rfl) (by kernel_rfl) (by kernel_rfl) (fun _ _ _ h => h) (Or.inl ⟨by rfl, ?_⟩) hHeld ?_
                  rotate_left
                  · intro w hSw
                    try dsimp only at hSw
                    go_simp
                    all_goals (first | with_reducible rfl | rw [if_pos (by omega)])
                  try simp only [Act.put, List.setIfInBounds_toArray, List.set_cons_zero, List.set_cons_succ]
                  refine wpAnyH_done (by kernel_rfl) ?_ _
                  have hh := Lib.hid hHeld
                  clear hHeld
                  go_wp2_with fail
                  go_meet
                  case rel => exact ⟨rfl, rfl, hh.out⟩
                · skip
                  go_simp
                  go_at_call 12
                  refine (putList_any b _ c1 (RdL.ext hHeld HB.out)).mono ?_
                  rintro e c2 ⟨hX2, v2, rfl, hO2⟩
                  have HO2 := Lib.hid hO2
                  have HX12 := Lib.hid hX2
                  obtain ⟨tA, tC, rfl, -⟩ := RdS.of_owns hO2
                  refine hK.out _ _ (hHeld.trans hX2) (fun hHeld => ?_)
                  clear hK K' hO2 hX2
                  try simp only [Act.put, List.setIfInBounds_toArray, List.set_cons_zero, List.set_cons_succ]
                  refine wpAnyH_ready (rs := [2, 5]) (by kernel_rfl) (by simp) ?_
                  refine AllReadyH.cons (o := ⟨_, _, _, _, _, _⟩) rfl (fun K' hK => ?_) (AllReadyH.cons (o := ⟨_, _, _, _, _, _⟩) rfl (fun K' hK => ?_) (AllReadyH.nil))
                  · skip
                    have kc := conv_own (owns_ext HX12.out HO1.out)
                    go_simp
                    refine hK.out _ _ hHeld (fun hHeld => ?_)
                    clear hK K' kc
                    try simp only [Act.put, List.setIfInBounds_toArray, List.set_cons_zero, List.set_cons_succ]
                    refine wpAnyH_take (i := 6) (oi := ⟨_, _, _, _, _, _⟩) (v := ?_) rfl (by kernel_rfl) (by kernel_rfl) (by kernel_rfl) (fun _ _ _ h => h) (Or.inl ⟨by rfl, ?_⟩) hHeld ?_
                    rotate_left
                    · intro w hSw
                      try dsimp only at hSw
                      go_simp
                      all_goals (first | with_reducible rfl | rw [if_pos (by omega)])
                    try simp only [Act.put, List.setIfInBounds_toArray, List.set_cons_zero, List.set_cons_succ]
                    refine wpAnyH_ready (rs := [5]) (by kernel_rfl) (by simp) ?_
                    refine AllReadyH.cons (o := ⟨_, _, _, _, _, _⟩) rfl (fun K' hK => ?_) (AllReadyH.nil)
                    have kc := conv_own HO2.out
                    go_simp
                    refine hK.out _ _ hHeld (fun hHeld => ?_)
                    clear hK K' kc
                    try simp only [Act.put, List.setIfInBounds_toArray, List.set_cons_zero, List.set_cons_succ]
                    refine wpAnyH_take (i := 7) (oi := ⟨_, _, _, _, _, _⟩) (v := ?_) rfl (by kernel_rfl) (by kernel_rfl) (by kernel_rfl) (fun _ _ _ h => h) (Or.inl ⟨by rfl, ?_⟩) hHeld ?_
                    rotate_left
                    · intro w hSw
                      try dsimp only at hSw
                      go_simp
                      all_goals (first | with_reducible rfl | rw [if_pos (by omega)])
                    try simp only [Act.put, List.setIfInBounds_toArray, List.set_cons_zero, List.set_cons_succ]
                    refine wpAnyH_done (by kernel_rfl) ?_ _
                    have hh := Lib.hid hHeld
                    clear hHeld
                    go_wp2_with fail
                    go_meet
                    case rel => exact ⟨rfl, rfl, hh.out⟩
                  · skip
                    have kc := conv_own HO2.out
                    go_simp
                    refine hK.out _ _ hHeld (fun hHeld => ?_)
                    clear hK K' kc
                    try simp only [Act.put, List.setIfInBounds_toArray, List.set_cons_zero, List.set_cons_succ]
                    refine wpAnyH_ready (rs := [2]) (by kernel_rfl) (by simp) ?_
                    refine AllReadyH.cons (o := ⟨_, _, _, _, _, _⟩) rfl (fun K' hK => ?_) (AllReadyH.nil)
                    have kc := conv_own (owns_ext HX12.out HO1.out)
                    go_simp
                    refine hK.out _ _ hHeld (fun hHeld => ?_)
                    clear hK K' kc
                    try simp only [Act.put, List.setIfInBounds_toArray, List.set_cons_zero, List.set_cons_succ]
                    refine wpAnyH_take (i := 6) (oi := ⟨_, _, _, _, _, _⟩) (v := ?_) rfl (by kernel_rfl) (by kernel_rfl) (by kernel_rfl) (fun _ _ _ h => h) (Or.inl ⟨by rfl, ?_⟩) hHeld ?_
                    rotate_left
                    · intro w hSw
                      try dsimp only at hSw
                      go_simp
                      all_goals (first | with_reducible rfl | rw [if_pos (by omega)])
                    try simp only [Act.put, List.setIfInBounds_toArray, List.set_cons_zero, List.set_cons_succ]
                    refine wpAnyH_take (i := 7) (oi := ⟨_, _, _, _, _, _⟩) (v := ?_) rfl (by kernel_rfl) (by kernel_rfl) (by kernel_rfl) (fun _ _ _ h => h) (Or.inl ⟨by rfl, ?_⟩) hHeld ?_
                    rotate_left
                    · intro w hSw
                      try dsimp only at hSw
                      go_simp
                      all_goals (first | with_reducible rfl | rw [if_pos (by omega)])
                    try simp only [Act.put, List.setIfInBounds_toArray, List.set_cons_zero, List.set_cons_succ]
                    refine wpAnyH_done (by kernel_rfl) ?_ _
                    have hh := Lib.hid hHeld
                    clear hHeld
                    go_wp2_with fail
                    go_meet
                    case rel => exact ⟨rfl, rfl, hh.out⟩
              case rest =>
                obtain ⟨rfl, rfl, hXc⟩ := hcut
                obtain ⟨wc0, hwc⟩ : ∃ W, wc = W := ⟨_, rfl⟩
                rw [hwc] at hXc ⊢
                clear hwc
                have XA := Lib.hid hXc
                clear hXc
                obtain ⟨s1, hs1⟩ : ∃ s, Sb (bytesOf (listE a)) = s := ⟨_, rfl⟩
                obtain ⟨s2, hs2⟩ : ∃ s, Sb (bytesOf (listE b)) = s := ⟨_, rfl⟩
                have HBG := Lib.hid (beg_lists HA.out HB.out)
                rw [hs1, hs2] at HBG ⊢
                clear hs1 hs2
                go_upto_region 4 with fail
                go_cut [66] from 50 to 115 (fun sr wx => sr = .bool false ∧ Ext w1 wx)
                case first =>
                  cases z1 : decide (0 < s1.size) with
                  | false =>
                    go_wp2_with fail
                    go_meet
                    case rel => exact ⟨rfl, XA.out⟩
                  | true =>
                    cases z2 : decide (0 < s2.size) with
                    | false =>
                      go_wp2_with fail
                      go_meet
                      case rel => exact ⟨rfl, XA.out⟩
                    | true =>
                      have hbg := HBG.out (of_decide_eq_true z1) (of_decide_eq_true z2)
                      have hb0 := fun W => begins_any s1 s2 W
                      obtain ⟨bb, hbb⟩ : ∃ bb, begS s1 s2 = bb := ⟨_, rfl⟩
                      rw [hbb] at hbg
                      have hb1 : ∀ W, Calls Try.prog 14 #[.string s1, .string s2] W fun e w' => e = .returned (.bool bb) ∧ W = w' := fun W => by rw [← hbb]; exact hb0 W
                      clear hb0 hbb
                      go_wp2_with fail
                      refine (hb1 _).mono ?_
                      clear hb1
                      rintro e u ⟨rfl, rfl⟩
                      have hs := sameList_any a b _ _ _ (RdL.ext XA.out HA.out) (RdL.ext XA.out HB.out)
                      go_wp2_with fail
                      refine hs.mono ?_
                      clear hs
                      rintro e wd ⟨r, rfl, ⟨t, rfl, ht⟩, hE⟩
                      have hbt : bb = t := by rw [Bool.eq_iff_iff, hbg, ht]
                      subst hbt
                      have hXd := Lib.hid (XA.out.trans hE)
                      clear ht hbg hE
                      cases bb
                      · go_wp2_with fail
                        go_meet
                        case rel => exact ⟨rfl, hXd.out⟩
                      · go_wp2_with fail
                        go_meet
                        case rel => exact ⟨rfl, hXd.out⟩
                case rest =>
                  obtain ⟨rfl, hXc⟩ := hcut
                  obtain ⟨wd0, hwc⟩ : ∃ W, wc = W := ⟨_, rfl⟩
                  rw [hwc] at hXc ⊢
                  clear hwc HBG XA
                  have X1 := Lib.hid hXc
                  clear hXc
                  go_upto_region 6 with fail
                  go_cut [13, 14] from 67 to 115 (fun s13 s14 wx => s13 = .string (Sb (bytesOf (treeE (.mk id1 lf1 lb1 ats1 tx1 ks1)))) ∧ s14 = .string (Sb (bytesOf (treeE (.mk id2 lf2 lb2 ats2 tx2 ks2)))) ∧ Ext w1 wx)
                  case first =>
                    obtain ⟨c0, hc0⟩ : ∃ c0, wd0.drew = c0 := ⟨_, rfl⟩
                    have hH : Ext w1 c0 := by rw [← hc0]; exact X1.out.drew
                    refine wp_region_held_drew (S := fun W => Ext w1 W) (by kernel_rfl) (by rw [hc0]; exact hH) (fun hHeld => ?_)
                    rw [hc0] at hHeld ⊢
                    clear hc0 hH
                    refine wpAnyH_take (i := 0) (oi := ⟨_, _, _, _, _, _⟩) (v := ?_) rfl (by kernel_rfl) (by kernel_rfl) (by kernel_rfl) (fun _ _ _ h => h) (Or.inl ⟨by rfl, ?_⟩) hHeld ?_
                    rotate_left
                    · intro w hSw
                      have x0 := (HB8.out.ext hSw).cell 0
                      have x1 := (HB8.out.ext hSw).cell 1
                      have x2 := (HB8.out.ext hSw).cell 2
                      have x3 := (HB8.out.ext hSw).cell 3
                      have x4 := (HB8.out.ext hSw).cell 4
                      have x5 := (HB8.out.ext hSw).cell 5
                      go_simp
                      all_goals (first | with_reducible rfl | rw [if_pos (by omega)])
                    try simp only [Act.put, List.setIfInBounds_toArray, List.set_cons_zero, List.set_cons_succ]
                    refine wpAnyH_take (i := 3) (oi := ⟨_, _, _, _, _, _⟩) (v := ?_) rfl (by kernel_rfl) (by kernel_rfl) (by kernel_rfl) (fun _ _ _ h => h) (Or.inl ⟨by rfl, ?_⟩) hHeld ?_
                    rotate_left
                    · intro w hSw
                      have x0 := (HB9.out.ext hSw).cell 0
                      have x1 := (HB9.out.ext hSw).cell 1
                      have x2 := (HB9.out.ext hSw).cell 2
                      have x3 := (HB9.out.ext hSw).cell 3
                      have x4 := (HB9.out.ext hSw).cell 4
                      have x5 := (HB9.out.ext hSw).cell 5
                      go_simp
                      all_goals (first | with_reducible rfl | rw [if_pos (by omega)])
                    try simp only [Act.put, List.setIfInBounds_toArray, List.set_cons_zero, List.set_cons_succ]
                    refine wpAnyH_ready (rs := [1]) (by kernel_rfl) (by simp) ?_
                    refine AllReadyH.cons (o := ⟨_, _, _, _, _, _⟩) rfl (fun K' hK => ?_) (AllReadyH.nil)
                    go_simp
                    go_at_call 16
                    refine (putNode_any (.mk id1 lf1 lb1 ats1 tx1 ks1) _ c0 (Nd.rd_ext hHeld HX.out)).mono ?_
                    rintro e c1 ⟨hX1, v1, rfl, hO1⟩
                    have HO1 := Lib.hid hO1
                    have HX1 := Lib.hid (hHeld.trans hX1)
                    obtain ⟨uA, uC, rfl, -⟩ := RdS.of_owns hO1
                    refine hK.out _ _ (hHeld.trans hX1) (fun hHeld => ?_)
                    clear hK K' hO1 hX1
                    try simp only [Act.put, List.setIfInBounds_toArray, List.set_cons_zero, List.set_cons_succ]
                    refine wpAnyH_ready (rs := [2, 4]) (by kernel_rfl) (by simp) ?_
                    refine AllReadyH.cons (o := ⟨_, _, _, _, _, _⟩) rfl (fun K' hK => ?_) (AllReadyH.cons (o := ⟨_, _, _, _, _, _⟩) rfl (fun K' hK => ?_) (AllReadyH.nil))
                    · skip
                      have kc := conv_own HO1.out
                      go_simp
                      refine hK.out _ _ hHeld (fun hHeld => ?_)
                      clear hK K' kc
                      try simp only [Act.put, List.setIfInBounds_toArray, List.set_cons_zero, List.set_cons_succ]
                      refine wpAnyH_ready (rs := [4]) (by kernel_rfl) (by simp) ?_
                      refine AllReadyH.cons (o := ⟨_, _, _, _, _, _⟩) rfl (fun K' hK => ?_) (AllReadyH.nil)
                      go_simp
                      go_at_call 16
                      refine (putNode_any (.mk id2 lf2 lb2 ats2 tx2 ks2) _ c1 (Nd.rd_ext hHeld HY.out)).mono ?_
                      rintro e c2 ⟨hX2, v2, rfl, hO2⟩
                      have HO2 := Lib.hid hO2
                      have HX12 := Lib.hid hX2
                      obtain ⟨tA, tC, rfl, -⟩ := RdS.of_owns hO2
                      refine hK.out _ _ (hHeld.trans hX2) (fun hHeld => ?_)
                      clear hK K' hO2 hX2
                      try simp only [Act.put, List.setIfInBounds_toArray, List.set_cons_zero, List.set_cons_succ]
                      refine wpAnyH_take (i := 6) (oi := ⟨_, _, _, _, _, _⟩) (v := ?_) rfl (by kernel_rfl) (by kernel_rfl) (by kernel_rfl) (fun _ _ _ h => h) (Or.inl ⟨by rfl, ?_⟩) hHeld ?_
                      rotate_left
                      · intro w hSw
                        try dsimp only at hSw
                        go_simp
                        all_goals (first | with_reducible rfl | rw [if_pos (by omega)])
                      try simp only [Act.put, List.setIfInBounds_toArray, List.set_cons_zero, List.set_cons_succ]
                      refine wpAnyH_ready (rs := [5]) (by kernel_rfl) (by simp) ?_
                      refine AllReadyH.cons (o := ⟨_, _, _, _, _, _⟩) rfl (fun K' hK => ?_) (AllReadyH.nil)
                      have kc := conv_own HO2.out
                      go_simp
                      refine hK.out _ _ hHeld (fun hHeld => ?_)
                      clear hK K' kc
                      try simp only [Act.put, List.setIfInBounds_toArray, List.set_cons_zero, List.set_cons_succ]
                      refine wpAnyH_take (i := 7) (oi := ⟨_, _, _, _, _, _⟩) (v := ?_) rfl (by kernel_rfl) (by kernel_rfl) (by kernel_rfl) (fun _ _ _ h => h) (Or.inl ⟨by rfl, ?_⟩) hHeld ?_
                      rotate_left
                      · intro w hSw
                        try dsimp only at hSw
                        go_simp
                        all_goals (first | with_reducible rfl | rw [if_pos (by omega)])
                      try simp only [Act.put, List.setIfInBounds_toArray, List.set_cons_zero, List.set_cons_succ]
                      refine wpAnyH_done (by kernel_rfl) ?_ _
                      have hh := Lib.hid hHeld
                      clear hHeld
                      go_wp2_with fail
                      go_meet
                      case rel => exact ⟨rfl, rfl, hh.out⟩
                    · skip
                      go_simp
                      go_at_call 16
                      refine (putNode_any (.mk id2 lf2 lb2 ats2 tx2 ks2) _ c1 (Nd.rd_ext hHeld HY.out)).mono ?_
                      rintro e c2 ⟨hX2, v2, rfl, hO2⟩
                      have HO2 := Lib.hid hO2
                      have HX12 := Lib.hid hX2
                      obtain ⟨tA, tC, rfl, -⟩ := RdS.of_owns hO2
                      refine hK.out _ _ (hHeld.trans hX2) (fun hHeld => ?_)
                      clear hK K' hO2 hX2
                      try simp only [Act.put, List.setIfInBounds_toArray, List.set_cons_zero, List.set_cons_succ]
                      refine wpAnyH_ready (rs := [2, 5]) (by kernel_rfl) (by simp) ?_
                      refine AllReadyH.cons (o := ⟨_, _, _, _, _, _⟩) rfl (fun K' hK => ?_) (AllReadyH.cons (o := ⟨_, _, _, _, _, _⟩) rfl (fun K' hK => ?_) (AllReadyH.nil))
                      · skip
                        have kc := conv_own (owns_ext HX12.out HO1.out)
                        go_simp
                        refine hK.out _ _ hHeld (fun hHeld => ?_)
                        clear hK K' kc
                        try simp only [Act.put, List.setIfInBounds_toArray, List.set_cons_zero, List.set_cons_succ]
                        refine wpAnyH_take (i := 6) (oi := ⟨_, _, _, _, _, _⟩) (v := ?_) rfl (by kernel_rfl) (by kernel_rfl) (by kernel_rfl) (fun _ _ _ h => h) (Or.inl ⟨by rfl, ?_⟩) hHeld ?_
                        rotate_left
                        · intro w hSw
                          try dsimp only at hSw
                          go_simp
                          all_goals (first | with_reducible rfl | rw [if_pos (by omega)])
                        try simp only [Act.put, List.setIfInBounds_toArray, List.set_cons_zero, List.set_cons_succ]
                        refine wpAnyH_ready (rs := [5]) (by kernel_rfl) (by simp) ?_
                        refine AllReadyH.cons (o := ⟨_, _, _, _, _, _⟩) rfl (fun K' hK => ?_) (AllReadyH.nil)
                        have kc := conv_own HO2.out
                        go_simp
                        refine hK.out _ _ hHeld (fun hHeld => ?_)
                        clear hK K' kc
                        try simp only [Act.put, List.setIfInBounds_toArray, List.set_cons_zero, List.set_cons_succ]
                        refine wpAnyH_take (i := 7) (oi := ⟨_, _, _, _, _, _⟩) (v := ?_) rfl (by kernel_rfl) (by kernel_rfl) (by kernel_rfl) (fun _ _ _ h => h) (Or.inl ⟨by rfl, ?_⟩) hHeld ?_
                        rotate_left
                        · intro w hSw
                          try dsimp only at hSw
                          go_simp
                          all_goals (first | with_reducible rfl | rw [if_pos (by omega)])
                        try simp only [Act.put, List.setIfInBounds_toArray, List.set_cons_zero, List.set_cons_succ]
                        refine wpAnyH_done (by kernel_rfl) ?_ _
                        have hh := Lib.hid hHeld
                        clear hHeld
                        go_wp2_with fail
                        go_meet
                        case rel => exact ⟨rfl, rfl, hh.out⟩
                      · skip
                        have kc := conv_own HO2.out
                        go_simp
                        refine hK.out _ _ hHeld (fun hHeld => ?_)
                        clear hK K' kc
                        try simp only [Act.put, List.setIfInBounds_toArray, List.set_cons_zero, List.set_cons_succ]
                        refine wpAnyH_ready (rs := [2]) (by kernel_rfl) (by simp) ?_
                        refine AllReadyH.cons (o := ⟨_, _, _, _, _, _⟩) rfl (fun K' hK => ?_) (AllReadyH.nil)
                        have kc := conv_own (owns_ext HX12.out HO1.out)
                        go_simp
                        refine hK.out _ _ hHeld (fun hHeld => ?_)
                        clear hK K' kc
                        try simp only [Act.put, List.setIfInBounds_toArray, List.set_cons_zero, List.set_cons_succ]
                        refine wpAnyH_take (i := 6) (oi := ⟨_, _, _, _, _, _⟩) (v := ?_) rfl (by kernel_rfl) (by kernel_rfl) (by kernel_rfl) (fun _ _ _ h => h) (Or.inl ⟨by rfl, ?_⟩) hHeld ?_
                        rotate_left
                        · intro w hSw
                          try dsimp only at hSw
                          go_simp
                          all_goals (first | with_reducible rfl | rw [if_pos (by omega)])
                        try simp only [Act.put, List.setIfInBounds_toArray, List.set_cons_zero, List.set_cons_succ]
                        refine wpAnyH_take (i := 7) (oi := ⟨_, _, _, _, _, _⟩) (v := ?_) rfl (by kernel_rfl) (by kernel_rfl) (by kernel_rfl) (fun _ _ _ h => h) (Or.inl ⟨by rfl, ?_⟩) hHeld ?_
                        rotate_left
                        · intro w hSw
                          try dsimp only at hSw
                          go_simp
                          all_goals (first | with_reducible rfl | rw [if_pos (by omega)])
                        try simp only [Act.put, List.setIfInBounds_toArray, List.set_cons_zero, List.set_cons_succ]
                        refine wpAnyH_done (by kernel_rfl) ?_ _
                        have hh := Lib.hid hHeld
                        clear hHeld
                        go_wp2_with fail
                        go_meet
                        case rel => exact ⟨rfl, rfl, hh.out⟩
                  case rest =>
                    obtain ⟨rfl, rfl, hXc⟩ := hcut
                    obtain ⟨wc1, hwc⟩ : ∃ W, wc = W := ⟨_, rfl⟩
                    rw [hwc] at hXc ⊢
                    clear hwc
                    have XA := Lib.hid hXc
                    clear hXc
                    obtain ⟨s1, hs1⟩ : ∃ s, Sb (bytesOf (treeE (.mk id1 lf1 lb1 ats1 tx1 ks1))) = s := ⟨_, rfl⟩
                    obtain ⟨s2, hs2⟩ : ∃ s, Sb (bytesOf (treeE (.mk id2 lf2 lb2 ats2 tx2 ks2))) = s := ⟨_, rfl⟩
                    have HBG := Lib.hid (beg_trees HX.out HY.out)
                    rw [hs1, hs2] at HBG ⊢
                    clear hs1 hs2
                    go_upto_region 7 with fail
                    go_cut [89] from 73 to 115 (fun sr wx => sr = .bool false ∧ Ext w1 wx)
                    case first =>
                      cases z1 : decide (0 < s1.size) with
                      | false =>
                        go_quiet (fail)
                        go_wp2_with fail
                        go_meet
                        case rel => exact ⟨rfl, (XA.out.drewN _)⟩
                      | true =>
                        cases z2 : decide (0 < s2.size) with
                        | false =>
                          go_quiet (fail)
                          go_wp2_with fail
                          go_meet
                          case rel => exact ⟨rfl, (XA.out.drewN _)⟩
                        | true =>
                          have hbg := HBG.out (of_decide_eq_true z1) (of_decide_eq_true z2)
                          have hb0 := fun W => begins_any s1 s2 W
                          obtain ⟨bb, hbb⟩ : ∃ bb, begS s1 s2 = bb := ⟨_, rfl⟩
                          rw [hbb] at hbg
                          have hb1 : ∀ W, Calls Try.prog 14 #[.string s1, .string s2] W fun e w' => e = .returned (.bool bb) ∧ W = w' := fun W => by rw [← hbb]; exact hb0 W
                          clear hb0 hbb
                          obtain ⟨c0, hc0⟩ : ∃ c0, wc1.drew = c0 := ⟨_, rfl⟩
                          have hH : Ext w1 c0 := by rw [← hc0]; exact XA.out.drew
                          refine wp_region_held_drew (S := fun W => Ext w1 W) (by kernel_rfl) (by rw [hc0]; exact hH) (fun hHeld => ?_)
                          rw [hc0] at hHeld ⊢
                          clear hc0 hH
                          refine wpAnyH_take (i := 0) (oi := ⟨_, _, _, _, _, _⟩) (v := ?_) rfl (by kernel_rfl) (by kernel_rfl) (by kernel_rfl) (fun _ _ _ h => h) (Or.inl ⟨by rfl, ?_⟩) hHeld ?_
                          rotate_left
                          · intro w hSw
                            try dsimp only at hSw
                            go_simp
                            all_goals (first | with_reducible rfl | rw [if_pos (by omega)])
                          try simp only [Act.put, List.setIfInBounds_toArray, List.set_cons_zero, List.set_cons_succ]
                          refine wpAnyH_take (i := 1) (oi := ⟨_, _, _, _, _, _⟩) (v := ?_) rfl (by kernel_rfl) (by kernel_rfl) (by kernel_rfl) (fun _ _ _ h => h) (Or.inl ⟨by rfl, ?_⟩) hHeld ?_
                          rotate_left
                          · intro w hSw
                            try dsimp only at hSw
                            go_simp
                            all_goals (first | with_reducible rfl | rw [if_pos (by omega)])
                          try simp only [Act.put, List.setIfInBounds_toArray, List.set_cons_zero, List.set_cons_succ]
                          refine wpAnyH_take (i := 2) (oi := ⟨_, _, _, _, _, _⟩) (v := ?_) rfl (by kernel_rfl) (by kernel_rfl) (by kernel_rfl) (fun _ _ _ h => h) (Or.inl ⟨by rfl, ?_⟩) hHeld ?_
                          rotate_left
                          · intro w hSw
                            try dsimp only at hSw
                            go_simp
                            all_goals (first | with_reducible rfl | rw [if_pos (by omega)])
                          try simp only [Act.put, List.setIfInBounds_toArray, List.set_cons_zero, List.set_cons_succ]
                          refine wpAnyH_take (i := 3) (oi := ⟨_, _, _, _, _, _⟩) (v := ?_) rfl (by kernel_rfl) (by kernel_rfl) (by kernel_rfl) (fun _ _ _ h => h) (Or.inl ⟨by rfl, ?_⟩) hHeld ?_
                          rotate_left
                          · intro w hSw
                            try dsimp only at hSw
                            go_simp
                            all_goals (first | with_reducible rfl | rw [if_pos (by omega)])
                          try simp only [Act.put, List.setIfInBounds_toArray, List.set_cons_zero, List.set_cons_succ]
                          refine wpAnyH_take (i := 4) (oi := ⟨_, _, _, _, _, _⟩) (v := ?_) rfl (by kernel_rfl) (by kernel_rfl) (by kernel_rfl) (fun _ _ _ h => h) (Or.inl ⟨by rfl, ?_⟩) hHeld ?_
                          rotate_left
                          · intro w hSw
                            try dsimp only at hSw
                            go_simp
                            all_goals (first | with_reducible rfl | rw [if_pos (by omega)])
                          try simp only [Act.put, List.setIfInBounds_toArray, List.set_cons_zero, List.set_cons_succ]
                          refine wpAnyH_take (i := 5) (oi := ⟨_, _, _, _, _, _⟩) (v := ?_) rfl (by kernel_rfl) (by kernel_rfl) (by kernel_rfl) (fun _ _ _ h => h) (Or.inl ⟨by rfl, ?_⟩) hHeld ?_
                          rotate_left
                          · intro w hSw
                            try dsimp only at hSw
                            go_simp
                            all_goals (first | with_reducible rfl | rw [if_pos (by omega)])
                          try simp only [Act.put, List.setIfInBounds_toArray, List.set_cons_zero, List.set_cons_succ]
                          refine wpAnyH_take (i := 6) (oi := ⟨_, _, _, _, _, _⟩) (v := ?_) rfl (by kernel_rfl) (by kernel_rfl) (by kernel_rfl) (fun _ _ _ h => h) (Or.inl ⟨by rfl, ?_⟩) hHeld ?_
                          rotate_left
                          · intro w hSw
                            try dsimp only at hSw
                            go_simp
                            all_goals (first | with_reducible rfl | rw [if_pos (by omega)])
                          try simp only [Act.put, List.setIfInBounds_toArray, List.set_cons_zero, List.set_cons_succ]
                          refine wpAnyH_take (i := 7) (oi := ⟨_, _, _, _, _, _⟩) (v := ?_) rfl (by kernel_rfl) (by kernel_rfl) (by kernel_rfl) (fun _ _ _ h => h) (Or.inl ⟨by rfl, ?_⟩) hHeld ?_
                          rotate_left
                          · intro w hSw
                            try dsimp only at hSw
                            go_simp
                            all_goals (first | with_reducible rfl | rw [if_pos (by omega)])
                          try simp only [Act.put, List.setIfInBounds_toArray, List.set_cons_zero, List.set_cons_succ]
                          refine wpAnyH_take (i := 8) (oi := ⟨_, _, _, _, _, _⟩) (v := ?_) rfl (by kernel_rfl) (by kernel_rfl) (by kernel_rfl) (fun _ _ _ h => h) (Or.inl ⟨by rfl, ?_⟩) hHeld ?_
                          rotate_left
                          · intro w hSw
                            try dsimp only at hSw
                            go_simp
                            all_goals (first | with_reducible rfl | rw [if_pos (by omega)])
                          try simp only [Act.put, List.setIfInBounds_toArray, List.set_cons_zero, List.set_cons_succ]
                          refine wpAnyH_take (i := 9) (oi := ⟨_, _, _, _, _, _⟩) (v := ?_) rfl (by kernel_rfl) (by kernel_rfl) (by kernel_rfl) (fun _ _ _ h => h) (Or.inl ⟨by rfl, ?_⟩) hHeld ?_
                          rotate_left
                          · intro w hSw
                            try dsimp only at hSw
                            go_simp
                            all_goals (first | with_reducible rfl | rw [if_pos (by omega)])
                          try simp only [Act.put, List.setIfInBounds_toArray, List.set_cons_zero, List.set_cons_succ]
                          refine wpAnyH_take (i := 10) (oi := ⟨_, _, _, _, _, _⟩) (v := ?_) rfl (by kernel_rfl) (by kernel_rfl) (by kernel_rfl) (fun _ _ _ h => h) (Or.inl ⟨by rfl, ?_⟩) hHeld ?_
                          rotate_left
                          · intro w hSw
                            try dsimp only at hSw
                            go_simp
                            all_goals (first | with_reducible rfl | rw [if_pos (by omega)])
                          try simp only [Act.put, List.setIfInBounds_toArray, List.set_cons_zero, List.set_cons_succ]
                          refine wpAnyH_take (i := 12) (oi := ⟨_, _, _, _, _, _⟩) (v := ?_) rfl (by kernel_rfl) (by kernel_rfl) (by kernel_rfl) (fun _ _ _ h => h) (Or.inl ⟨by rfl, ?_⟩) hHeld ?_
                          rotate_left
                          · intro w hSw
                            have x0 := (HB8.out.ext hSw).cell 0
                            have x1 := (HB8.out.ext hSw).cell 1
                            have x2 := (HB8.out.ext hSw).cell 2
                            have x3 := (HB8.out.ext hSw).cell 3
                            have x4 := (HB8.out.ext hSw).cell 4
                            have x5 := (HB8.out.ext hSw).cell 5
                            go_simp
                            all_goals (first | with_reducible rfl | rw [if_pos (by omega)])
                          try simp only [Act.put, List.setIfInBounds_toArray, List.set_cons_zero, List.set_cons_succ]
                          refine wpAnyH_take (i := 13) (oi := ⟨_, _, _, _, _, _⟩) (v := ?_) rfl (by kernel_rfl) (by kernel_rfl) (by kernel_rfl) (fun _ _ _ h => h) (Or.inl ⟨by rfl, ?_⟩) hHeld ?_
                          rotate_left
                          · intro w hSw
                            have x0 := (HB9.out.ext hSw).cell 0
                            have x1 := (HB9.out.ext hSw).cell 1
                            have x2 := (HB9.out.ext hSw).cell 2
                            have x3 := (HB9.out.ext hSw).cell 3
                            have x4 := (HB9.out.ext hSw).cell 4
                            have x5 := (HB9.out.ext hSw).cell 5
                            go_simp
                            all_goals (first | with_reducible rfl | rw [if_pos (by omega)])
                          try simp only [Act.put, List.setIfInBounds_toArray, List.set_cons_zero, List.set_cons_succ]
                          refine wpAnyH_ready (rs := [11]) (by kernel_rfl) (by simp) ?_
                          refine AllReadyH.cons (o := ⟨_, _, _, _, _, _⟩) rfl (fun K' hK => ?_) (AllReadyH.nil)
                          go_simp
                          go_at_call 14
                          refine (hb1 _).mono ?_
                          clear hb1
                          rintro e u ⟨rfl, rfl⟩
                          refine hK.out _ _ hHeld (fun hHeld => ?_)
                          clear hK K'
                          try simp only [Act.put, List.setIfInBounds_toArray, List.set_cons_zero, List.set_cons_succ]
                          refine wpAnyH_ready (rs := [14]) (by kernel_rfl) (by simp) ?_
                          refine AllReadyH.cons (o := ⟨_, _, _, _, _, _⟩) rfl (fun K' hK => ?_) (AllReadyH.nil)
                          go_simp
                          go_at_call 17
                          refine (sameNode_any (.mk id1 lf1 lb1 ats1 tx1 ks1) (.mk id2 lf2 lb2 ats2 tx2 ks2) _ _ _ (Nd.rd_ext hHeld HX.out) (Nd.rd_ext hHeld HY.out)).mono ?_
                          rintro e wd ⟨r, rfl, ⟨t, rfl, ht⟩, hE⟩
                          have hbt : bb = t := by rw [Bool.eq_iff_iff, hbg, ht]
                          subst hbt
                          refine hK.out _ _ (hHeld.trans hE) (fun hHeld => ?_)
                          clear hK K' ht hbg hE
                          try simp only [Act.put, List.setIfInBounds_toArray, List.set_cons_zero, List.set_cons_succ]
                          cases bb
                          · skip
                            refine wpAnyH_take (i := 15) (oi := ⟨_, _, _, _, _, _⟩) (v := ?_) rfl (by kernel_rfl) (by kernel_rfl) (by kernel_rfl) (fun _ _ _ h => h) (Or.inl ⟨by rfl, ?_⟩) hHeld ?_
                            rotate_left
                            · intro w hSw
                              try dsimp only at hSw
                              go_simp
                              all_goals (first | with_reducible rfl | rw [if_pos (by omega)])
                            try simp only [Act.put, List.setIfInBounds_toArray, List.set_cons_zero, List.set_cons_succ]
                            refine wpAnyH_take (i := 16) (oi := ⟨_, _, _, _, _, _⟩) (v := ?_) rfl (by kernel_rfl) (by kernel_rfl) (by kernel_rfl) (fun _ _ _ h => h) (Or.inl ⟨by rfl, ?_⟩) hHeld ?_
                            rotate_left
                            · intro w hSw
                              try dsimp only at hSw
                              go_simp
                              all_goals (first | with_reducible rfl | rw [if_pos (by omega)])
                            try simp only [Act.put, List.setIfInBounds_toArray, List.set_cons_zero, List.set_cons_succ]
                            refine wpAnyH_done (by kernel_rfl) ?_ _
                            have hh := Lib.hid hHeld
                            clear hHeld
                            go_wp2_with fail
                            go_meet
                            case rel => exact ⟨rfl, hh.out⟩
                          · skip
                            refine wpAnyH_take (i := 15) (oi := ⟨_, _, _, _, _, _⟩) (v := ?_) rfl (by kernel_rfl) (by kernel_rfl) (by kernel_rfl) (fun _ _ _ h => h) (Or.inl ⟨by rfl, ?_⟩) hHeld ?_
                            rotate_left
                            · intro w hSw
                              try dsimp only at hSw
                              go_simp
                              all_goals (first | with_reducible rfl | rw [if_pos (by omega)])
                            try simp only [Act.put, List.setIfInBounds_toArray, List.set_cons_zero, List.set_cons_succ]
                            refine wpAnyH_take (i := 16) (oi := ⟨_, _, _, _, _, _⟩) (v := ?_) rfl (by kernel_rfl) (by kernel_rfl) (by kernel_rfl) (fun _ _ _ h => h) (Or.inl ⟨by rfl, ?_⟩) hHeld ?_
                            rotate_left
                            · intro w hSw
                              try dsimp only at hSw
                              go_simp
                              all_goals (first | with_reducible rfl | rw [if_pos (by omega)])
                            try simp only [Act.put, List.setIfInBounds_toArray, List.set_cons_zero, List.set_cons_succ]
                            refine wpAnyH_done (by kernel_rfl) ?_ _
                            have hh := Lib.hid hHeld
                            clear hHeld
                            go_wp2_with fail
                            go_meet
                            case rel => exact ⟨rfl, hh.out⟩
                    case rest =>
                      obtain ⟨rfl, hXc⟩ := hcut
                      obtain ⟨we0, hwc⟩ : ∃ W, wc = W := ⟨_, rfl⟩
                      rw [hwc] at hXc ⊢
                      clear hwc HBG XA X1 X0
                      have X2 := Lib.hid hXc
                      clear hXc
                      go_upto_region 9 with fail
                      go_cut [13, 14] from 90 to 115 (fun s13 s14 wx => s13 = .string (Sb (bytesOf (pathE p))) ∧ s14 = .string (Sb (bytesOf (pathE q))) ∧ Ext w1 wx)
                      case first =>
                        obtain ⟨c0, hc0⟩ : ∃ c0, we0.drew = c0 := ⟨_, rfl⟩
                        have hH : Ext w1 c0 := by rw [← hc0]; exact X2.out.drew
                        refine wp_region_held_drew (S := fun W => Ext w1 W) (by kernel_rfl) (by rw [hc0]; exact hH) (fun hHeld => ?_)
                        rw [hc0] at hHeld ⊢
                        clear hc0 hH
                        refine wpAnyH_take (i := 0) (oi := ⟨_, _, _, _, _, _⟩) (v := ?_) rfl (by kernel_rfl) (by kernel_rfl) (by kernel_rfl) (fun _ _ _ h => h) (Or.inl ⟨by rfl, ?_⟩) hHeld ?_
                        rotate_left
                        · intro w hSw
                          try dsimp only at hSw
                          go_simp
                          all_goals (first | with_reducible rfl | rw [if_pos (by omega)])
                        try simp only [Act.put, List.setIfInBounds_toArray, List.set_cons_zero, List.set_cons_succ]
                        refine wpAnyH_take (i := 3) (oi := ⟨_, _, _, _, _, _⟩) (v := ?_) rfl (by kernel_rfl) (by kernel_rfl) (by kernel_rfl) (fun _ _ _ h => h) (Or.inl ⟨by rfl, ?_⟩) hHeld ?_
                        rotate_left
                        · intro w hSw
                          try dsimp only at hSw
                          go_simp
                          all_goals (first | with_reducible rfl | rw [if_pos (by omega)])
                        try simp only [Act.put, List.setIfInBounds_toArray, List.set_cons_zero, List.set_cons_succ]
                        refine wpAnyH_ready (rs := [1]) (by kernel_rfl) (by simp) ?_
                        refine AllReadyH.cons (o := ⟨_, _, _, _, _, _⟩) rfl (fun K' hK => ?_) (AllReadyH.nil)
                        go_simp
                        go_at_call 18
                        refine (putPath_any p _ c0 (RdS.ext hHeld HP.out)).mono ?_
                        rintro e c1 ⟨hX1, v1, rfl, hO1⟩
                        have HO1 := Lib.hid hO1
                        have HX1 := Lib.hid (hHeld.trans hX1)
                        obtain ⟨uA, uC, rfl, -⟩ := RdS.of_owns hO1
                        refine hK.out _ _ (hHeld.trans hX1) (fun hHeld => ?_)
                        clear hK K' hO1 hX1
                        try simp only [Act.put, List.setIfInBounds_toArray, List.set_cons_zero, List.set_cons_succ]
                        refine wpAnyH_ready (rs := [2, 4]) (by kernel_rfl) (by simp) ?_
                        refine AllReadyH.cons (o := ⟨_, _, _, _, _, _⟩) rfl (fun K' hK => ?_) (AllReadyH.cons (o := ⟨_, _, _, _, _, _⟩) rfl (fun K' hK => ?_) (AllReadyH.nil))
                        · skip
                          have kc := conv_own HO1.out
                          go_simp
                          refine hK.out _ _ hHeld (fun hHeld => ?_)
                          clear hK K' kc
                          try simp only [Act.put, List.setIfInBounds_toArray, List.set_cons_zero, List.set_cons_succ]
                          refine wpAnyH_ready (rs := [4]) (by kernel_rfl) (by simp) ?_
                          refine AllReadyH.cons (o := ⟨_, _, _, _, _, _⟩) rfl (fun K' hK => ?_) (AllReadyH.nil)
                          go_simp
                          go_at_call 18
                          refine (putPath_any q _ c1 (RdS.ext hHeld HQ.out)).mono ?_
                          rintro e c2 ⟨hX2, v2, rfl, hO2⟩
                          have HO2 := Lib.hid hO2
                          have HX12 := Lib.hid hX2
                          obtain ⟨tA, tC, rfl, -⟩ := RdS.of_owns hO2
                          refine hK.out _ _ (hHeld.trans hX2) (fun hHeld => ?_)
                          clear hK K' hO2 hX2
                          try simp only [Act.put, List.setIfInBounds_toArray, List.set_cons_zero, List.set_cons_succ]
                          refine wpAnyH_take (i := 6) (oi := ⟨_, _, _, _, _, _⟩) (v := ?_) rfl (by kernel_rfl) (by kernel_rfl) (by kernel_rfl) (fun _ _ _ h => h) (Or.inl ⟨by rfl, ?_⟩) hHeld ?_
                          rotate_left
                          · intro w hSw
                            try dsimp only at hSw
                            go_simp
                            all_goals (first | with_reducible rfl | rw [if_pos (by omega)])
                          try simp only [Act.put, List.setIfInBounds_toArray, List.set_cons_zero, List.set_cons_succ]
                          refine wpAnyH_ready (rs := [5]) (by kernel_rfl) (by simp) ?_
                          refine AllReadyH.cons (o := ⟨_, _, _, _, _, _⟩) rfl (fun K' hK => ?_) (AllReadyH.nil)
                          have kc := conv_own HO2.out
                          go_simp
                          refine hK.out _ _ hHeld (fun hHeld => ?_)
                          clear hK K' kc
                          try simp only [Act.put, List.setIfInBounds_toArray, List.set_cons_zero, List.set_cons_succ]
                          refine wpAnyH_take (i := 7) (oi := ⟨_, _, _, _, _, _⟩) (v := ?_) rfl (by kernel_rfl) (by kernel_rfl) (by kernel_rfl) (fun _ _ _ h => h) (Or.inl ⟨by rfl, ?_⟩) hHeld ?_
                          rotate_left
                          · intro w hSw
                            try dsimp only at hSw
                            go_simp
                            all_goals (first | with_reducible rfl | rw [if_pos (by omega)])
                          try simp only [Act.put, List.setIfInBounds_toArray, List.set_cons_zero, List.set_cons_succ]
                          refine wpAnyH_done (by kernel_rfl) ?_ _
                          have hh := Lib.hid hHeld
                          clear hHeld
                          go_wp2_with fail
                          go_meet
                          case rel => exact ⟨rfl, rfl, hh.out⟩
                        · skip
                          go_simp
                          go_at_call 18
                          refine (putPath_any q _ c1 (RdS.ext hHeld HQ.out)).mono ?_
                          rintro e c2 ⟨hX2, v2, rfl, hO2⟩
                          have HO2 := Lib.hid hO2
                          have HX12 := Lib.hid hX2
                          obtain ⟨tA, tC, rfl, -⟩ := RdS.of_owns hO2
                          refine hK.out _ _ (hHeld.trans hX2) (fun hHeld => ?_)
                          clear hK K' hO2 hX2
                          try simp only [Act.put, List.setIfInBounds_toArray, List.set_cons_zero, List.set_cons_succ]
                          refine wpAnyH_ready (rs := [2, 5]) (by kernel_rfl) (by simp) ?_
                          refine AllReadyH.cons (o := ⟨_, _, _, _, _, _⟩) rfl (fun K' hK => ?_) (AllReadyH.cons (o := ⟨_, _, _, _, _, _⟩) rfl (fun K' hK => ?_) (AllReadyH.nil))
                          · skip
                            have kc := conv_own (owns_ext HX12.out HO1.out)
                            go_simp
                            refine hK.out _ _ hHeld (fun hHeld => ?_)
                            clear hK K' kc
                            try simp only [Act.put, List.setIfInBounds_toArray, List.set_cons_zero, List.set_cons_succ]
                            refine wpAnyH_take (i := 6) (oi := ⟨_, _, _, _, _, _⟩) (v := ?_) rfl (by kernel_rfl) (by kernel_rfl) (by kernel_rfl) (fun _ _ _ h => h) (Or.inl ⟨by rfl, ?_⟩) hHeld ?_
                            rotate_left
                            · intro w hSw
                              try dsimp only at hSw
                              go_simp
                              all_goals (first | with_reducible rfl | rw [if_pos (by omega)])
                            try simp only [Act.put, List.setIfInBounds_toArray, List.set_cons_zero, List.set_cons_succ]
                            refine wpAnyH_ready (rs := [5]) (by kernel_rfl) (by simp) ?_
                            refine AllReadyH.cons (o := ⟨_, _, _, _, _, _⟩) rfl (fun K' hK => ?_) (AllReadyH.nil)
                            have kc := conv_own HO2.out
                            go_simp
                            refine hK.out _ _ hHeld (fun hHeld => ?_)
                            clear hK K' kc
                            try simp only [Act.put, List.setIfInBounds_toArray, List.set_cons_zero, List.set_cons_succ]
                            refine wpAnyH_take (i := 7) (oi := ⟨_, _, _, _, _, _⟩) (v := ?_) rfl (by kernel_rfl) (by kernel_rfl) (by kernel_rfl) (fun _ _ _ h => h) (Or.inl ⟨by rfl, ?_⟩) hHeld ?_
                            rotate_left
                            · intro w hSw
                              try dsimp only at hSw
                              go_simp
                              all_goals (first | with_reducible rfl | rw [if_pos (by omega)])
                            try simp only [Act.put, List.setIfInBounds_toArray, List.set_cons_zero, List.set_cons_succ]
                            refine wpAnyH_done (by kernel_rfl) ?_ _
                            have hh := Lib.hid hHeld
                            clear hHeld
                            go_wp2_with fail
                            go_meet
                            case rel => exact ⟨rfl, rfl, hh.out⟩
                          · skip
                            have kc := conv_own HO2.out
                            go_simp
                            refine hK.out _ _ hHeld (fun hHeld => ?_)
                            clear hK K' kc
                            try simp only [Act.put, List.setIfInBounds_toArray, List.set_cons_zero, List.set_cons_succ]
                            refine wpAnyH_ready (rs := [2]) (by kernel_rfl) (by simp) ?_
                            refine AllReadyH.cons (o := ⟨_, _, _, _, _, _⟩) rfl (fun K' hK => ?_) (AllReadyH.nil)
                            have kc := conv_own (owns_ext HX12.out HO1.out)
                            go_simp
                            refine hK.out _ _ hHeld (fun hHeld => ?_)
                            clear hK K' kc
                            try simp only [Act.put, List.setIfInBounds_toArray, List.set_cons_zero, List.set_cons_succ]
                            refine wpAnyH_take (i := 6) (oi := ⟨_, _, _, _, _, _⟩) (v := ?_) rfl (by kernel_rfl) (by kernel_rfl) (by kernel_rfl) (fun _ _ _ h => h) (Or.inl ⟨by rfl, ?_⟩) hHeld ?_
                            rotate_left
                            · intro w hSw
                              try dsimp only at hSw
                              go_simp
                              all_goals (first | with_reducible rfl | rw [if_pos (by omega)])
                            try simp only [Act.put, List.setIfInBounds_toArray, List.set_cons_zero, List.set_cons_succ]
                            refine wpAnyH_take (i := 7) (oi := ⟨_, _, _, _, _, _⟩) (v := ?_) rfl (by kernel_rfl) (by kernel_rfl) (by kernel_rfl) (fun _ _ _ h => h) (Or.inl ⟨by rfl, ?_⟩) hHeld ?_
                            rotate_left
                            · intro w hSw
                              try dsimp only at hSw
                              go_simp
                              all_goals (first | with_reducible rfl | rw [if_pos (by omega)])
                            try simp only [Act.put, List.setIfInBounds_toArray, List.set_cons_zero, List.set_cons_succ]
                            refine wpAnyH_done (by kernel_rfl) ?_ _
                            have hh := Lib.hid hHeld
                            clear hHeld
                            go_wp2_with fail
                            go_meet
                            case rel => exact ⟨rfl, rfl, hh.out⟩
                      case rest =>
                        obtain ⟨rfl, rfl, hXc⟩ := hcut
                        obtain ⟨wc2, hwc⟩ : ∃ W, wc = W := ⟨_, rfl⟩
                        rw [hwc] at hXc ⊢
                        clear hwc
                        have XA := Lib.hid hXc
                        clear hXc
                        obtain ⟨s1, hs1⟩ : ∃ s, Sb (bytesOf (pathE p)) = s := ⟨_, rfl⟩
                        obtain ⟨s2, hs2⟩ : ∃ s, Sb (bytesOf (pathE q)) = s := ⟨_, rfl⟩
                        have HBG := Lib.hid (beg_paths (p := p) (q := q))
                        rw [hs1, hs2] at HBG ⊢
                        clear hs1 hs2
                        cases z1 : ((s1.size : Int) == 0) with
                        | true =>
                          have hw := works_any wc2
                          go_wp2_with fail
                          refine hw.mono ?_
                          clear hw
                          rintro e wf ⟨rfl, hXf⟩
                          go_wp2_with fail
                          go_ret
                          exact ⟨_, rfl, rfl, HE.out.trans (XA.out.trans hXf)⟩
                        | false =>
                          cases z2 : ((s2.size : Int) == 0) with
                          | true =>
                            have hw := works_any wc2
                            go_wp2_with fail
                            refine hw.mono ?_
                            clear hw
                            rintro e wf ⟨rfl, hXf⟩
                            go_wp2_with fail
                            go_ret
                            exact ⟨_, rfl, rfl, HE.out.trans (XA.out.trans hXf)⟩
                          | false =>
                            have hbg := HBG.out (by have := beq_eq_false_iff_ne.1 z1; omega) (by have := beq_eq_false_iff_ne.1 z2; omega)
                            have hb0 := fun W => begins_any s1 s2 W
                            obtain ⟨bb, hbb⟩ : ∃ bb, begS s1 s2 = bb := ⟨_, rfl⟩
                            rw [hbb] at hbg
                            have hb1 : ∀ W, Calls Try.prog 14 #[.string s1, .string s2] W fun e w' => e = .returned (.bool bb) ∧ W = w' := fun W => by rw [← hbb]; exact hb0 W
                            clear hb0 hbb
                            go_wp2_with fail
                            refine (hb1 _).mono ?_
                            clear hb1
                            rintro e u ⟨rfl, rfl⟩
                            have hs := samePath_any p q _ _ _ (RdS.ext XA.out HP.out) (RdS.ext XA.out HQ.out)
                            go_wp2_with fail
                            refine hs.mono ?_
                            clear hs
                            rintro e wd ⟨r, rfl, rfl, hE⟩
                            have hbt : bb = decide (p = q) := by rw [Bool.eq_iff_iff, hbg, decide_eq_true_eq]
                            rw [← hbt]
                            have XD := Lib.hid (XA.out.trans hE)
                            clear hbg hE hbt
                            cases bb
                            · skip
                              have hw := works_any wd
                              go_wp2_with fail
                              refine hw.mono ?_
                              clear hw
                              rintro e wf ⟨rfl, hXf⟩
                              go_wp2_with fail
                              go_ret
                              exact ⟨_, rfl, rfl, HE.out.trans (XD.out.trans hXf)⟩
                            · skip
                              have hw := works_any wd
                              go_wp2_with fail
                              refine hw.mono ?_
                              clear hw
                              rintro e wf ⟨rfl, hXf⟩
                              go_wp2_with fail
                              go_ret
                              exact ⟨_, rfl, rfl, HE.out.trans (XD.out.trans hXf)⟩
end Go.Proofs.Ytoplaokimahdiaa.Wi
