/- Chapter 17: which paths, operations, lists are the same; which text begins another one. (Printed by gwsame.py.) -/
import Derived.Test.YtoplaokimahdiaaWiPutL
import Derived.StillTailTactics
namespace Go.Proofs.Ytoplaokimahdiaa.Wi
open Go.RowKit Go.Proofs.Ytoplaokimahdiaa.Bw Go.Proofs.Ytoplaokimahdiaa.Bs

theorem ints_step {a b : List Int} {i : Nat} {x y : Int} (hx : a[i]? = some x) (hy : b[i]? = some y) : decide (a.drop i = b.drop i) = ((x == y) && decide (a.drop (i + 1) = b.drop (i + 1))) := by
  rw [drop_at hx, drop_at hy]
  by_cases h : x = y
  · subst h; simp
  · simp [h]

set_option maxRecDepth 100000 in
set_option maxHeartbeats 1000000 in
theorem samePath_any (a b : List Int) (u v : Value) (w : World) (ha : RdI w a u) (hb : RdI w b v) : Calls Try.prog 19 #[u, v] w (Ret w fun r _ => r = .bool (decide (a = b))) := by
  obtain ⟨aA, ac, rfl, _, a1, a2, a3⟩ := ha
  obtain ⟨bA, bc, rfl, _, b1, b2, b3⟩ := hb
  unfold maxLen at a2 b2
  rcases Nat.lt_or_ge a.length b.length with hl | hl
  · have HF := Lib.hid (show decide (a = b) = false from decide_eq_false (fun h => by rw [h] at hl; omega))
    have hd : ((a.length : Int) == (b.length : Int)) = false := by rw [beq_eq_false_iff_ne]; omega
    go_enter Try.func19, Try.ntmps19
    go_wp2_with fail
    go_ret
    exact ret_bool HF.out.symm (Ext.refl w)
  rcases Nat.lt_or_ge b.length a.length with hl2 | hl2
  · have HF := Lib.hid (show decide (a = b) = false from decide_eq_false (fun h => by rw [h] at hl2; omega))
    have hd : ((a.length : Int) == (b.length : Int)) = false := by rw [beq_eq_false_iff_ne]; omega
    go_enter Try.func19, Try.ntmps19
    go_wp2_with fail
    go_ret
    exact ret_bool HF.out.symm (Ext.refl w)
  have hl3 := Lib.hid (show a.length = b.length by omega)
  have hd : ((a.length : Int) == (b.length : Int)) = true := by rw [beq_iff_eq]; omega
  go_enter Try.func19, Try.ntmps19
  go_wp2_with fail
  go_loopw [5] (fun s wr => ∃ i : Nat, s = .int .i64 i ∧ i ≤ a.length ∧ Hid (decide (a.drop i = b.drop i) = decide (a = b)) ∧ Ext w wr) (fun i _ => a.length - (intOf i).toNat)
  case atStart => exact ⟨0, rfl, Nat.zero_le _, rfl, Ext.refl _⟩
  case round =>
    obtain ⟨i, rfl, hi, HW, hE⟩ := hrel
    rcases Nat.lt_or_ge i a.length with hlt | hlt
    · obtain ⟨x, hx⟩ : ∃ x, a[i]? = some x := ⟨_, List.getElem?_eq_getElem hlt⟩
      obtain ⟨y, hy⟩ : ∃ x, b[i]? = some x := ⟨_, List.getElem?_eq_getElem (by omega)⟩
      obtain ⟨ba, oa, rfl, ra⟩ := a3 (by omega)
      obtain ⟨bb, ob, rfl, rb⟩ := b3 (by omega)
      have e1 := hE.cell (ra i (.int .i64 x) (by rw [List.getElem?_map, hx]; rfl))
      have f1 := hE.cell (rb i (.int .i64 y) (by rw [List.getElem?_map, hy]; rfl))
      have HD : Hid (decide (a.drop i = b.drop i) = ((x == y) && decide (a.drop (i + 1) = b.drop (i + 1)))) := ints_step hx hy
      have q1 : (0 : Int) ≤ (i : Int) := by omega
      have q2 : (i : Int) < (a.length : Int) := by omega
      have q3 : (i : Int) < (b.length : Int) := by omega
      clear hx hy ra rb a3 b3
      rcases hc1 : (x == y) with _ | _
      · have HG : Hid (decide (a = b) = false) := by rw [← HW.out, HD.out, hc1]; rfl
        have hc2 : (x != y) = true := by rw [bne, hc1]; rfl
        clear HW HD
        go_wp2_with fail
        go_quiet (fail)
        go_wp2_with fail
        go_ret
        exact ret_bool HG.out.symm (hE.drewN _)
      · have HN : Hid (decide (a.drop (i + 1) = b.drop (i + 1)) = decide (a = b)) := by rw [← HW.out, HD.out, hc1]; rfl
        have hc2 : (x != y) = false := by rw [bne, hc1]; rfl
        clear HW HD
        go_wp2_with fail
        go_quiet (fail)
        go_wp2_with fail
        go_roundw
        case rel => exact ⟨i + 1, by go_num, by omega, HN, hE.drewN _⟩
        case measure => simp [intOf]; omega
    · have HG : Hid (decide (a = b) = true) := by rw [← HW.out, List.drop_eq_nil_of_le hlt, List.drop_eq_nil_of_le (by have := hl3.out; omega)]; rfl
      clear HW
      go_wp2_with fail
      go_ret
      exact ret_bool HG.out.symm hE


theorem ret_is {w w' : World} {t : Bool} {Q : Prop} (h : t = true ↔ Q) (hE : Ext w w') : ∃ r, Ending.returned (.bool t) = .returned r ∧ (∃ t : Bool, r = .bool t ∧ (t = true ↔ Q)) ∧ Ext w w' := ⟨_, rfl, ⟨t, rfl, h⟩, hE⟩
theorem no_is {Q : Prop} (h : ¬ Q) : (false = true ↔ Q) := Iff.intro (fun h => Bool.noConfusion h) (fun hq => absurd hq h)
theorem yes_is {Q : Prop} (h : Q) : (true = true ↔ Q) := Iff.intro (fun _ => h) (fun _ => rfl)

set_option maxRecDepth 100000 in
set_option maxHeartbeats 4000000 in
theorem sameOp_any (o o2 : OpD) (u v : Value) (w : World) (ha : o.rd w u) (hb : o2.rd w v) : Calls Try.prog 40 #[u, v] w (Ret w fun r _ => ∃ t : Bool, r = .bool t ∧ (t = true ↔ o = o2)) := by
  obtain ⟨k, p, a, t, i, lf, lb, ky, vv, g, c⟩ := o
  obtain ⟨k2, p2, a2, t2, i2, lf2, lb2, ky2, vv2, g2, c2⟩ := o2
  obtain ⟨pv, tv, cv, rfl, hP, hT, hC, -⟩ := ha
  obtain ⟨pv2, tv2, cv2, rfl, hP2, hT2, hC2, -⟩ := hb
  simp only at hP hT hC hP2 hT2 hC2
  obtain ⟨w1, hw1⟩ : ∃ W, (w.alloc (.cells #[.int .u8 k, pv, .int .i64 a, tv, .int .u64 i, .bool lf, .string lb, .string ky, .string vv, .bool g, cv] 66)).alloc (.cells #[.int .u8 k2, pv2, .int .i64 a2, tv2, .int .u64 i2, .bool lf2, .string lb2, .string ky2, .string vv2, .bool g2, cv2] 66) = W := ⟨_, rfl⟩
  obtain ⟨D, hDD⟩ : ∃ D, w.heap.size = D := ⟨_, rfl⟩
  obtain ⟨D2, hD2⟩ : ∃ D2, D + 1 = D2 := ⟨_, rfl⟩
  have s1 : (w.alloc (.cells #[.int .u8 k, pv, .int .i64 a, tv, .int .u64 i, .bool lf, .string lb, .string ky, .string vv, .bool g, cv] 66)).heap.size = D2 := by rw [World.size_alloc, hDD, hD2]
  have E1 : Ext w w1 := by rw [← hw1]; exact ((Ext.refl w).alloc _).alloc _
  have bD : NBox w1 D 66 #[.int .u8 k, pv, .int .i64 a, tv, .int .u64 i, .bool lf, .string lb, .string ky, .string vv, .bool g, cv] := by rw [← hw1, ← hDD]; exact (NBox.new _ _ _).ext ((Ext.refl _).alloc _)
  have bE : NBox w1 D2 66 #[.int .u8 k2, pv2, .int .i64 a2, tv2, .int .u64 i2, .bool lf2, .string lb2, .string ky2, .string vv2, .bool g2, cv2] := by rw [← hw1, ← s1]; exact NBox.new _ _ _
  have hp := samePath_any p p2 pv pv2 w1 (RdS.ext E1 hP) (RdS.ext E1 hP2)
  have HT1 := Lib.hid (RdS.ext E1 hT)
  have HT2 := Lib.hid (RdS.ext E1 hT2)
  have HC1 := Lib.hid (RdP.ext E1 hC)
  have HC2 := Lib.hid (RdP.ext E1 hC2)
  clear hC hC2
  obtain ⟨pA, pc, rfl, -⟩ := hP
  obtain ⟨pA2, pc2, rfl, -⟩ := hP2
  obtain ⟨tA, tc, rfl, -⟩ := hT
  obtain ⟨tA2, tc2, rfl, -⟩ := hT2
  obtain ⟨cA, cc, rfl, hcl, hcm, -⟩ := HC1.out
  obtain ⟨cA2, cc2, rfl, hcl2, hcm2, -⟩ := HC2.out
  unfold maxLen at hcm hcm2
  have HW := Lib.hid hw1
  have HD := Lib.hid hDD
  have HDD := Lib.hid hD2
  have HE := Lib.hid E1
  clear hw1 hDD hD2 s1 E1
  have HBD := Lib.hid bD
  have HBE := Lib.hid bE
  clear bD bE
  have bD := HBD.out
  have bE := HBE.out
  have x0 := bD.cell 0
  have y0 := bE.cell 0
  have x1 := bD.cell 1
  have y1 := bE.cell 1
  have x2 := bD.cell 2
  have y2 := bE.cell 2
  have x3 := bD.cell 3
  have y3 := bE.cell 3
  have x4 := bD.cell 4
  have y4 := bE.cell 4
  have x5 := bD.cell 5
  have y5 := bE.cell 5
  have x6 := bD.cell 6
  have y6 := bE.cell 6
  have x7 := bD.cell 7
  have y7 := bE.cell 7
  have x8 := bD.cell 8
  have y8 := bE.cell 8
  have x9 := bD.cell 9
  have y9 := bE.cell 9
  have x10 := bD.cell 10
  have y10 := bE.cell 10
  clear bD bE
  go_enter Try.func40, Try.ntmps40
  go_upto_region 1 with fail
  have e1 : (w.alloc (.cells #[.int .u8 k, .slice pA p.length pc, .int .i64 a, .slice tA t.length tc, .int .u64 i, .bool lf, .string lb, .string ky, .string vv, .bool g, .slice cA c.length cc] 66)).alloc (.cells #[.int .u8 k2, .slice pA2 p2.length pc2, .int .i64 a2, .slice tA2 t2.length tc2, .int .u64 i2, .bool lf2, .string lb2, .string ky2, .string vv2, .bool g2, .slice cA2 c2.length cc2] 66) = w1 := HW.out
  rw [e1, HD.out, HDD.out]
  clear e1 HW HD HDD
  first | dsimp only [List.append] | (go_step; dsimp only [List.append])
  cases h_k : (k == k2) with
  | false =>
    have n_k : (k != k2) = true := by rw [bne, h_k]; rfl
    have HN : Hid (¬ ((⟨k, p, a, t, i, lf, lb, ky, vv, g, c⟩ : OpD) = ⟨k2, p2, a2, t2, i2, lf2, lb2, ky2, vv2, g2, c2⟩)) := Lib.hid (fun e => by cases e; simp at h_k)
    try clear hp
    go_wp2_with fail
    go_ret
    exact ret_is (no_is HN.out) HE.out
  | true =>
    have n_k : (k != k2) = false := by rw [bne, h_k]; rfl
    have E_k := Lib.hid (beq_iff_eq.1 h_k)
    obtain ⟨b_p, hb_p⟩ : ∃ b, decide (p = p2) = b := ⟨_, rfl⟩
    rw [hb_p] at hp
    have HB_p := Lib.hid hb_p
    clear hb_p
    go_wp2_with fail
    refine hp.mono ?_
    clear hp x0 y0 x1 y1 x2 y2 x3 y3 x4 y4 x5 y5 x6 y6 x7 y7 x8 y8 x9 y9 x10 y10
    rintro e w_1 ⟨r, rfl, rfl, hX⟩
    have X_1 := Lib.hid hX
    clear hX
    have bD := HBD.out.ext X_1.out
    have bE := HBE.out.ext X_1.out
    have x0 := bD.cell 0
    have y0 := bE.cell 0
    have x1 := bD.cell 1
    have y1 := bE.cell 1
    have x2 := bD.cell 2
    have y2 := bE.cell 2
    have x3 := bD.cell 3
    have y3 := bE.cell 3
    have x4 := bD.cell 4
    have y4 := bE.cell 4
    have x5 := bD.cell 5
    have y5 := bE.cell 5
    have x6 := bD.cell 6
    have y6 := bE.cell 6
    have x7 := bD.cell 7
    have y7 := bE.cell 7
    have x8 := bD.cell 8
    have y8 := bE.cell 8
    have x9 := bD.cell 9
    have y9 := bE.cell 9
    have x10 := bD.cell 10
    have y10 := bE.cell 10
    clear bD bE
    cases b_p with
    | false =>
      have HN : Hid (¬ ((⟨k, p, a, t, i, lf, lb, ky, vv, g, c⟩ : OpD) = ⟨k2, p2, a2, t2, i2, lf2, lb2, ky2, vv2, g2, c2⟩)) := Lib.hid (fun e => of_decide_eq_false HB_p.out (by cases e; rfl))
      go_wp2_with fail
      go_ret
      exact ret_is (no_is HN.out) (HE.out.trans X_1.out)
    | true =>
      have E_p := Lib.hid (of_decide_eq_true HB_p.out)
      cases h_a : (a == a2) with
      | false =>
        have n_a : (a != a2) = true := by rw [bne, h_a]; rfl
        have HN : Hid (¬ ((⟨k, p, a, t, i, lf, lb, ky, vv, g, c⟩ : OpD) = ⟨k2, p2, a2, t2, i2, lf2, lb2, ky2, vv2, g2, c2⟩)) := Lib.hid (fun e => by cases e; simp at h_a)
        try clear hp
        go_wp2_with fail
        go_ret
        exact ret_is (no_is HN.out) (HE.out.trans X_1.out)
      | true =>
        have n_a : (a != a2) = false := by rw [bne, h_a]; rfl
        have E_a := Lib.hid (beq_iff_eq.1 h_a)
        have hp := samePath_any t t2 _ _ w_1 (RdS.ext X_1.out HT1.out) (RdS.ext X_1.out HT2.out)
        obtain ⟨b_t, hb_t⟩ : ∃ b, decide (t = t2) = b := ⟨_, rfl⟩
        rw [hb_t] at hp
        have HB_t := Lib.hid hb_t
        clear hb_t
        go_wp2_with fail
        refine hp.mono ?_
        clear hp x0 y0 x1 y1 x2 y2 x3 y3 x4 y4 x5 y5 x6 y6 x7 y7 x8 y8 x9 y9 x10 y10
        rintro e w_2 ⟨r, rfl, rfl, hX⟩
        have X_2 := Lib.hid (X_1.out.trans hX)
        clear hX
        have bD := HBD.out.ext X_2.out
        have bE := HBE.out.ext X_2.out
        have x0 := bD.cell 0
        have y0 := bE.cell 0
        have x1 := bD.cell 1
        have y1 := bE.cell 1
        have x2 := bD.cell 2
        have y2 := bE.cell 2
        have x3 := bD.cell 3
        have y3 := bE.cell 3
        have x4 := bD.cell 4
        have y4 := bE.cell 4
        have x5 := bD.cell 5
        have y5 := bE.cell 5
        have x6 := bD.cell 6
        have y6 := bE.cell 6
        have x7 := bD.cell 7
        have y7 := bE.cell 7
        have x8 := bD.cell 8
        have y8 := bE.cell 8
        have x9 := bD.cell 9
        have y9 := bE.cell 9
        have x10 := bD.cell 10
        have y10 := bE.cell 10
        clear bD bE
        cases b_t with
        | false =>
          have HN : Hid (¬ ((⟨k, p, a, t, i, lf, lb, ky, vv, g, c⟩ : OpD) = ⟨k2, p2, a2, t2, i2, lf2, lb2, ky2, vv2, g2, c2⟩)) := Lib.hid (fun e => of_decide_eq_false HB_t.out (by cases e; rfl))
          go_wp2_with fail
          go_ret
          exact ret_is (no_is HN.out) (HE.out.trans X_2.out)
        | true =>
          have E_t := Lib.hid (of_decide_eq_true HB_t.out)
          cases h_i : (i == i2) with
          | false =>
            have n_i : (i != i2) = true := by rw [bne, h_i]; rfl
            have HN : Hid (¬ ((⟨k, p, a, t, i, lf, lb, ky, vv, g, c⟩ : OpD) = ⟨k2, p2, a2, t2, i2, lf2, lb2, ky2, vv2, g2, c2⟩)) := Lib.hid (fun e => by cases e; simp at h_i)
            try clear hp
            go_wp2_with fail
            go_ret
            exact ret_is (no_is HN.out) (HE.out.trans X_2.out)
          | true =>
            have n_i : (i != i2) = false := by rw [bne, h_i]; rfl
            have E_i := Lib.hid (beq_iff_eq.1 h_i)
            cases h_lf : (lf == lf2) with
            | false =>
              have n_lf : (lf != lf2) = true := by rw [bne, h_lf]; rfl
              have HN : Hid (¬ ((⟨k, p, a, t, i, lf, lb, ky, vv, g, c⟩ : OpD) = ⟨k2, p2, a2, t2, i2, lf2, lb2, ky2, vv2, g2, c2⟩)) := Lib.hid (fun e => by cases e; simp at h_lf)
              try clear hp
              go_wp2_with fail
              go_ret
              exact ret_is (no_is HN.out) (HE.out.trans X_2.out)
            | true =>
              have n_lf : (lf != lf2) = false := by rw [bne, h_lf]; rfl
              have E_lf := Lib.hid (beq_iff_eq.1 h_lf)
              cases h_lb : (lb.toList == lb2.toList) with
              | false =>
                have HN : Hid (¬ ((⟨k, p, a, t, i, lf, lb, ky, vv, g, c⟩ : OpD) = ⟨k2, p2, a2, t2, i2, lf2, lb2, ky2, vv2, g2, c2⟩)) := Lib.hid (fun e => by cases e; simp at h_lb)
                try clear hp
                go_wp2_with fail
                go_ret
                exact ret_is (no_is HN.out) (HE.out.trans X_2.out)
              | true =>
                have E_lb : Hid (lb = lb2) := Lib.hid (by rw [beq_str] at h_lb; exact of_decide_eq_true h_lb)
                cases h_ky : (ky.toList == ky2.toList) with
                | false =>
                  have HN : Hid (¬ ((⟨k, p, a, t, i, lf, lb, ky, vv, g, c⟩ : OpD) = ⟨k2, p2, a2, t2, i2, lf2, lb2, ky2, vv2, g2, c2⟩)) := Lib.hid (fun e => by cases e; simp at h_ky)
                  try clear hp
                  go_wp2_with fail
                  go_ret
                  exact ret_is (no_is HN.out) (HE.out.trans X_2.out)
                | true =>
                  have E_ky : Hid (ky = ky2) := Lib.hid (by rw [beq_str] at h_ky; exact of_decide_eq_true h_ky)
                  cases h_vv : (vv.toList == vv2.toList) with
                  | false =>
                    have HN : Hid (¬ ((⟨k, p, a, t, i, lf, lb, ky, vv, g, c⟩ : OpD) = ⟨k2, p2, a2, t2, i2, lf2, lb2, ky2, vv2, g2, c2⟩)) := Lib.hid (fun e => by cases e; simp at h_vv)
                    try clear hp
                    go_wp2_with fail
                    go_ret
                    exact ret_is (no_is HN.out) (HE.out.trans X_2.out)
                  | true =>
                    have E_vv : Hid (vv = vv2) := Lib.hid (by rw [beq_str] at h_vv; exact of_decide_eq_true h_vv)
                    cases h_g : (g == g2) with
                    | false =>
                      have n_g : (g != g2) = true := by rw [bne, h_g]; rfl
                      have HN : Hid (¬ ((⟨k, p, a, t, i, lf, lb, ky, vv, g, c⟩ : OpD) = ⟨k2, p2, a2, t2, i2, lf2, lb2, ky2, vv2, g2, c2⟩)) := Lib.hid (fun e => by cases e; simp at h_g)
                      try clear hp
                      go_wp2_with fail
                      go_ret
                      exact ret_is (no_is HN.out) (HE.out.trans X_2.out)
                    | true =>
                      have n_g : (g != g2) = false := by rw [bne, h_g]; rfl
                      have E_g := Lib.hid (beq_iff_eq.1 h_g)
                      cases h_c : ((c.length : Int) == (c2.length : Int)) with
                      | false =>
                        have n_c : ((c.length : Int) != (c2.length : Int)) = true := by rw [bne, h_c]; rfl
                        have HN : Hid (¬ ((⟨k, p, a, t, i, lf, lb, ky, vv, g, c⟩ : OpD) = ⟨k2, p2, a2, t2, i2, lf2, lb2, ky2, vv2, g2, c2⟩)) := Lib.hid (fun e => by cases e; simp at h_c)
                        try clear hp
                        go_wp2_with fail
                        go_ret
                        exact ret_is (no_is HN.out) (HE.out.trans X_2.out)
                      | true =>
                        have n_c : ((c.length : Int) != (c2.length : Int)) = false := by rw [bne, h_c]; rfl
                        have E_c : Hid (c.length = c2.length) := Lib.hid (by have := beq_iff_eq.1 h_c; omega)
                        have HQ : Hid (c = c2 ↔ ((⟨k, p, a, t, i, lf, lb, ky, vv, g, c⟩ : OpD) = ⟨k2, p2, a2, t2, i2, lf2, lb2, ky2, vv2, g2, c2⟩)) := Lib.hid (by
                          have := E_k.out; have := E_p.out; have := E_a.out; have := E_t.out; have := E_i.out; have := E_lf.out; have := E_lb.out; have := E_ky.out; have := E_vv.out; have := E_g.out
                          subst_vars
                          simp)
                        go_upto_region 3 with fail
                        clear h_k h_a h_i h_lf h_lb h_ky h_vv h_g n_k n_a n_i n_lf n_g h_c n_c x0 y0 x1 y1 x2 y2 x3 y3 x4 y4 x5 y5 x6 y6 x7 y7 x8 y8 x9 y9 x10 y10
                        go_wp2_with fail
                        go_loopw [5] (fun s5 wr => ∃ j : Nat, s5 = .int .i64 (j : Int) ∧ j ≤ c.length ∧ Hid (c.drop j = c2.drop j ↔ c = c2) ∧ Ext w1 wr) (fun j _ => c.length - (intOf j).toNat)
                        case atStart => exact ⟨0, rfl, Nat.zero_le _, Lib.hid Iff.rfl, X_2.out⟩
                        case round =>
                          obtain ⟨j, rfl, hj, HF, hX⟩ := hrel
                          have x10 := (HBD.out.ext hX).cell 10
                          have y10 := (HBE.out.ext hX).cell 10
                          have q1 : (0 : Int) ≤ (j : Int) := by omega
                          rcases Nat.lt_or_ge j c.length with hlt | hlt
                          · have q2 : (j : Int) < (c.length : Int) := by omega
                            have q3 : (j : Int) < (c2.length : Int) := by have := E_c.out; omega
                            obtain ⟨x, hx⟩ : ∃ x, c[j]? = some x := ⟨_, List.getElem?_eq_getElem hlt⟩
                            obtain ⟨y, hy⟩ : ∃ y, c2[j]? = some y := ⟨_, List.getElem?_eq_getElem (by omega)⟩
                            obtain ⟨A1, n1, e1, -, -, hr1⟩ := HC1.out
                            obtain ⟨A2, n2, e2, -, -, hr2⟩ := HC2.out
                            simp only [Value.slice.injEq, true_and] at e1 e2
                            obtain ⟨rfl, rfl⟩ := e1
                            obtain ⟨rfl, rfl⟩ := e2
                            obtain ⟨ba, oa, rfl, ra⟩ := hr1 (by omega)
                            obtain ⟨bb, ob, rfl, rb⟩ := hr2 (by omega)
                            obtain ⟨z1, z2, z3, -⟩ := rdPcs_at (rdPcs_ext hX ra) hx
                            obtain ⟨u1, u2, u3, -⟩ := rdPcs_at (rdPcs_ext hX rb) hy
                            have HS : Hid (c = c2 ↔ x = y ∧ c.drop (j + 1) = c2.drop (j + 1)) := Lib.hid (by rw [← HF.out, drop_at hx, drop_at hy, List.cons.injEq])
                            clear hx hy hr1 hr2 ra rb HF
                            obtain ⟨xk, xd, xp⟩ := x
                            obtain ⟨yk, yd, yp⟩ := y
                            simp only at z1 z2 z3 u1 u2 u3
                            cases c1 : (xk == yk) with
                            | false =>
                              have HN : Hid (¬ ((⟨k, p, a, t, i, lf, lb, ky, vv, g, c⟩ : OpD) = ⟨k2, p2, a2, t2, i2, lf2, lb2, ky2, vv2, g2, c2⟩)) := Lib.hid (fun e => by have := (HS.out.1 (HQ.out.2 e)).1; cases this; simp at c1)
                              go_wp2_with fail
                              go_quiet (fail)
                              go_wp2_with fail
                              go_ret
                              exact ret_is (no_is HN.out) (HE.out.trans (hX.drewN _))
                            | true =>
                              cases c3 : (xd == yd) with
                              | false =>
                                have HN : Hid (¬ ((⟨k, p, a, t, i, lf, lb, ky, vv, g, c⟩ : OpD) = ⟨k2, p2, a2, t2, i2, lf2, lb2, ky2, vv2, g2, c2⟩)) := Lib.hid (fun e => by have := (HS.out.1 (HQ.out.2 e)).1; cases this; simp at c3)
                                go_wp2_with fail
                                go_quiet (fail)
                                go_wp2_with fail
                                go_ret
                                exact ret_is (no_is HN.out) (HE.out.trans (hX.drewN _))
                              | true =>
                                cases c4 : (xp.toList == yp.toList) with
                                | false =>
                                  have HN : Hid (¬ ((⟨k, p, a, t, i, lf, lb, ky, vv, g, c⟩ : OpD) = ⟨k2, p2, a2, t2, i2, lf2, lb2, ky2, vv2, g2, c2⟩)) := Lib.hid (fun e => by have := (HS.out.1 (HQ.out.2 e)).1; cases this; simp at c4)
                                  go_wp2_with fail
                                  go_quiet (fail)
                                  go_wp2_with fail
                                  go_ret
                                  exact ret_is (no_is HN.out) (HE.out.trans (hX.drewN _))
                                | true =>
                                  have HF2 : Hid (c.drop (j + 1) = c2.drop (j + 1) ↔ c = c2) := Lib.hid (by
                                    have e1 := beq_iff_eq.1 c1
                                    have e2 := beq_iff_eq.1 c3
                                    have e3 : xp = yp := by rw [beq_str] at c4; exact of_decide_eq_true c4
                                    rw [HS.out, e1, e2, e3]; simp)
                                  go_wp2_with fail
                                  go_quiet (fail)
                                  go_wp2_with fail
                                  go_roundw
                                  case rel => exact ⟨j + 1, by go_num, by omega, HF2, hX.drewN _⟩
                                  case measure => simp [intOf]; omega
                          · have HN : Hid ((⟨k, p, a, t, i, lf, lb, ky, vv, g, c⟩ : OpD) = ⟨k2, p2, a2, t2, i2, lf2, lb2, ky2, vv2, g2, c2⟩) := Lib.hid (HQ.out.1 (HF.out.1 (by rw [List.drop_eq_nil_of_le hlt, List.drop_eq_nil_of_le (by have := E_c.out; omega)])))
                            go_wp2_with fail
                            go_ret
                            exact ret_is (yes_is HN.out) (HE.out.trans hX)
end Go.Proofs.Ytoplaokimahdiaa.Wi
