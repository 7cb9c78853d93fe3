/- Chapter 17: the document's MayOp, kind by kind. (Printed by gwmay.py.) -/
import Derived.Test.YtoplaokimahdiaaWiMay0
namespace Go.Proofs.Ytoplaokimahdiaa.Wi
open Go.RowKit Go.Proofs.Ytoplaokimahdiaa.Bw Go.Proofs.Ytoplaokimahdiaa.Bs

set_option maxRecDepth 100000 in
set_option maxHeartbeats 8000000 in
theorem mayOp_1 (p : List Int) (a : Int) (t : List Int) (i : Int) (lf : Bool) (lb ky vv : ByteArray) (g : Bool) (c : List Pc) (pA tA cA : Option Addr) (pc tc cc : Nat) (w : World) (hp : RdI w p (.slice pA p.length pc)) (ht : RdI w t (.slice tA t.length tc)) (hcs : RdP w c (.slice cA c.length cc))
    (hlb : lb.size ≤ maxLen) (hky : ky.size ≤ maxLen) (hvv : vv.size ≤ maxLen) :
    Calls Try.prog 34 #[.agg #[.int .u8 1, .slice pA p.length pc, .int .i64 a, .slice tA t.length tc, .int .u64 i, .bool lf, .string lb, .string ky, .string vv, .bool g, .slice cA c.length cc]] w (Ret w fun r _ => r = .bool (mayO ⟨1, p, a, t, i, lf, lb, ky, vv, g, c⟩)) := by
  obtain ⟨w1, hw1⟩ : ∃ W, w.alloc (.cells #[.int .u8 1, .slice pA p.length pc, .int .i64 a, .slice tA t.length tc, .int .u64 i, .bool lf, .string lb, .string ky, .string vv, .bool g, .slice cA c.length cc] 66) = W := ⟨_, rfl⟩
  obtain ⟨D, hDD⟩ : ∃ D, w.heap.size = D := ⟨_, rfl⟩
  have E1 : Ext w w1 := by rw [← hw1]; exact (Ext.refl w).alloc _
  have HBD : Hid (NBox w1 D 66 #[.int .u8 1, .slice pA p.length pc, .int .i64 a, .slice tA t.length tc, .int .u64 i, .bool lf, .string lb, .string ky, .string vv, .bool g, .slice cA c.length cc]) := Lib.hid (by rw [← hw1, ← hDD]; exact NBox.new _ _ _)
  have HP := Lib.hid (RdS.ext E1 hp)
  have HT := Lib.hid (RdS.ext E1 ht)
  have HC := Lib.hid (RdP.ext E1 hcs)
  have HE := Lib.hid E1
  have HW := Lib.hid hw1
  have HD := Lib.hid hDD
  have hcm : c.length ≤ 9223372036854775807 := by
    obtain ⟨A, n, -, h1, h2, -⟩ := hcs
    unfold maxLen at h2
    omega
  have htm : t.length ≤ 9223372036854775807 := by
    obtain ⟨A, n, -, -, h1, h2, -⟩ := ht
    unfold maxLen at h2
    omega
  unfold maxLen at hlb hky hvv
  have HM : Hid (mayO ⟨1, p, a, t, i, lf, lb, ky, vv, g, c⟩ = (mayP p && bareO ⟨1, p, a, t, i, lf, lb, ky, vv, g, c⟩ && (smallB a && mayP t && decide (lb.size ≤ 64) && decide (ky.size ≤ 64) && decide (vv.size ≤ 256) && (!g || vv.size == 0) && decide (c.length ≤ 4096)) && c.all pcOk)) := Lib.hid (by unfold mayO; simp)
  have hc := mayR_any p _ w1 HP.out
  clear hw1 hDD E1 hp ht hcs
  have bD := HBD.out
  have d0 := bD.cell 0
  have d1 := bD.cell 1
  have d2 := bD.cell 2
  have d3 := bD.cell 3
  have d4 := bD.cell 4
  have d5 := bD.cell 5
  have d6 := bD.cell 6
  have d7 := bD.cell 7
  have d8 := bD.cell 8
  have d9 := bD.cell 9
  have d10 := bD.cell 10
  clear bD
  obtain ⟨mp, hmp⟩ : ∃ mp, mayP p = mp := ⟨_, rfl⟩
  rw [hmp] at hc HM
  clear hmp
  go_enter Try.func34, Try.ntmps34
  go_upto_region 1 with fail
  rw [HW.out, HD.out]
  clear HW HD
  go_wp2_with fail
  refine hc.mono ?_
  clear hc
  rintro e u ⟨rfl, rfl⟩
  cases mp with
  | false =>
    go_wp2_with fail
    go_ret
    exact ret_b (by rw [HM.out]; rfl) HE.out
  | true =>
  go_upto_region 3 with fail
  go_quiet (fail)
  go_upto_region 4 with fail
  obtain ⟨w2, hw2⟩ : ∃ W, w1.drewN nq = W := ⟨_, rfl⟩
  have X2 : Hid (Ext w1 w2) := Lib.hid (by rw [← hw2]; exact (Ext.refl _).drewN _)
  rw [hw2]
  clear hw2 d0 d1 d2 d3 d4 d5 d6 d7 d8 d9 d10
  have bD := HBD.out.ext X2.out
  have d0 := bD.cell 0
  have d1 := bD.cell 1
  have d2 := bD.cell 2
  have d3 := bD.cell 3
  have d4 := bD.cell 4
  have d5 := bD.cell 5
  have d6 := bD.cell 6
  have d7 := bD.cell 7
  have d8 := bD.cell 8
  have d9 := bD.cell 9
  have d10 := bD.cell 10
  clear bD
  go_step
  dsimp only [List.append]
  have x1 := isEmpty_size lb
  have x2 := isEmpty_size ky
  have x3 := isEmpty_size vv
  have x4 := len_zero t
  have x5 := len_zero c
  have HX1 := Lib.hid x1
  have HX2 := Lib.hid x2
  have HX3 := Lib.hid x3
  have HX4 := Lib.hid x4
  have HX5 := Lib.hid x5
  clear x1 x2 x3 x4 x5
  cases h_to : ((t.length : Int) == 0) with
  | false =>
    have m_to : decide (0 < t.length) = true := by have hq := h_to; rw [HX4.out] at hq; exact decide_eq_true (by have := beq_eq_false_iff_ne.1 hq; omega)
    have n_to : decide ((0 : Int) < (t.length : Int)) = true := by rw [pos_len, h_to]; rfl
    have HN : Hid (bareO ⟨1, p, a, t, i, lf, lb, ky, vv, g, c⟩ = false) := Lib.hid (by simp [bareO, ← HX1.out, ← HX2.out, ← HX3.out, ← HX4.out, ← HX5.out, h_to])
    go_wp2_with fail
    go_ret
    exact ret_b (by rw [HM.out, HN.out]; rfl) (HE.out.trans X2.out)
  | true =>
    have m_to : decide (0 < t.length) = false := by have hq := h_to; rw [HX4.out] at hq; exact decide_eq_false (by have := beq_iff_eq.1 hq; omega)
    have n_to : decide ((0 : Int) < (t.length : Int)) = false := by rw [pos_len, h_to]; rfl
    cases h_key : ky.toList.isEmpty with
    | false =>
      have HN : Hid (bareO ⟨1, p, a, t, i, lf, lb, ky, vv, g, c⟩ = false) := Lib.hid (by simp [bareO, ← HX1.out, ← HX2.out, ← HX3.out, ← HX4.out, ← HX5.out, h_to, h_key])
      go_wp2_with fail
      go_ret
      exact ret_b (by rw [HM.out, HN.out]; rfl) (HE.out.trans X2.out)
    | true =>
      cases h_value : vv.toList.isEmpty with
      | false =>
        have HN : Hid (bareO ⟨1, p, a, t, i, lf, lb, ky, vv, g, c⟩ = false) := Lib.hid (by simp [bareO, ← HX1.out, ← HX2.out, ← HX3.out, ← HX4.out, ← HX5.out, h_to, h_key, h_value])
        go_wp2_with fail
        go_ret
        exact ret_b (by rw [HM.out, HN.out]; rfl) (HE.out.trans X2.out)
      | true =>
        cases g with
        | true =>
          have HN : Hid (bareO ⟨1, p, a, t, i, lf, lb, ky, vv, true, c⟩ = false) := Lib.hid (by simp [bareO, ← HX1.out, ← HX2.out, ← HX3.out, ← HX4.out, ← HX5.out, h_to, h_key, h_value])
          go_wp2_with fail
          go_ret
          exact ret_b (by rw [HM.out, HN.out]; rfl) (HE.out.trans X2.out)
        | false =>
          cases h_pcs : ((c.length : Int) == 0) with
          | false =>
            have m_pcs : decide (0 < c.length) = true := by have hq := h_pcs; rw [HX5.out] at hq; exact decide_eq_true (by have := beq_eq_false_iff_ne.1 hq; omega)
            have n_pcs : decide ((0 : Int) < (c.length : Int)) = true := by rw [pos_len, h_pcs]; rfl
            have HN : Hid (bareO ⟨1, p, a, t, i, lf, lb, ky, vv, false, c⟩ = false) := Lib.hid (by simp [bareO, ← HX1.out, ← HX2.out, ← HX3.out, ← HX4.out, ← HX5.out, h_to, h_key, h_value, h_pcs])
            go_wp2_with fail
            go_ret
            exact ret_b (by rw [HM.out, HN.out]; rfl) (HE.out.trans X2.out)
          | true =>
            have m_pcs : decide (0 < c.length) = false := by have hq := h_pcs; rw [HX5.out] at hq; exact decide_eq_false (by have := beq_iff_eq.1 hq; omega)
            have n_pcs : decide ((0 : Int) < (c.length : Int)) = false := by rw [pos_len, h_pcs]; rfl
            have HY : Hid (bareO ⟨1, p, a, t, i, lf, lb, ky, vv, false, c⟩ = true) := Lib.hid (by simp [bareO, ← HX1.out, ← HX2.out, ← HX3.out, ← HX4.out, ← HX5.out, h_to, h_key, h_value, h_pcs])
            have HM2 : Hid (mayO ⟨1, p, a, t, i, lf, lb, ky, vv, false, c⟩ = ((smallB a && mayP t && decide (lb.size ≤ 64) && decide (ky.size ≤ 64) && decide (vv.size ≤ 256) && (!false || vv.size == 0) && decide (c.length ≤ 4096)) && c.all pcOk)) := Lib.hid (by rw [HM.out, HY.out]; rfl)
            go_upto_region 6 with fail
            have hc := smallR_any a w2
            obtain ⟨sm, hsm⟩ : ∃ b, smallB a = b := ⟨_, rfl⟩
            rw [hsm] at hc HM2
            clear hsm HM HY
            go_wp2_with fail
            refine hc.mono ?_
            clear hc
            rintro e u ⟨rfl, rfl⟩
            cases sm with
            | false =>
              go_wp2_with fail
              go_ret
              exact ret_b (by rw [HM2.out]; rfl) (HE.out.trans X2.out)
            | true =>
              have hc := mayR_any t _ w2 (RdS.ext X2.out HT.out)
              obtain ⟨mt, hmt⟩ : ∃ b, mayP t = b := ⟨_, rfl⟩
              rw [hmt] at hc HM2
              clear hmt
              go_wp2_with fail
              refine hc.mono ?_
              clear hc
              rintro e u ⟨rfl, rfl⟩
              cases mt with
              | false =>
                go_wp2_with fail
                go_ret
                exact ret_b (by rw [HM2.out]; rfl) (HE.out.trans X2.out)
              | true =>
                by_cases q_lb : lb.size ≤ 64
                case neg =>
                  have n_lb : decide ((64 : Int) < (lb.size : Int)) = true := decide_eq_true (by omega)
                  have m_lb : decide (64 < lb.size) = true := decide_eq_true (by omega)
                  rw [decide_eq_false q_lb] at HM2
                  go_wp2_with fail
                  go_ret
                  exact ret_b (by rw [HM2.out]; simp) (HE.out.trans X2.out)
                have n_lb : decide ((64 : Int) < (lb.size : Int)) = false := decide_eq_false (by omega)
                have m_lb : decide (64 < lb.size) = false := decide_eq_false (by omega)
                rw [decide_eq_true q_lb] at HM2
                clear q_lb
                by_cases q_ky : ky.size ≤ 64
                case neg =>
                  have n_ky : decide ((64 : Int) < (ky.size : Int)) = true := decide_eq_true (by omega)
                  have m_ky : decide (64 < ky.size) = true := decide_eq_true (by omega)
                  rw [decide_eq_false q_ky] at HM2
                  go_wp2_with fail
                  go_ret
                  exact ret_b (by rw [HM2.out]; simp) (HE.out.trans X2.out)
                have n_ky : decide ((64 : Int) < (ky.size : Int)) = false := decide_eq_false (by omega)
                have m_ky : decide (64 < ky.size) = false := decide_eq_false (by omega)
                rw [decide_eq_true q_ky] at HM2
                clear q_ky
                by_cases q_vv : vv.size ≤ 256
                case neg =>
                  have n_vv : decide ((256 : Int) < (vv.size : Int)) = true := decide_eq_true (by omega)
                  have m_vv : decide (256 < vv.size) = true := decide_eq_true (by omega)
                  rw [decide_eq_false q_vv] at HM2
                  go_wp2_with fail
                  go_ret
                  exact ret_b (by rw [HM2.out]; simp) (HE.out.trans X2.out)
                have n_vv : decide ((256 : Int) < (vv.size : Int)) = false := decide_eq_false (by omega)
                have m_vv : decide (256 < vv.size) = false := decide_eq_false (by omega)
                rw [decide_eq_true q_vv] at HM2
                clear q_vv
                have HM3 : Hid (mayO ⟨1, p, a, t, i, lf, lb, ky, vv, false, c⟩ = (decide (c.length ≤ 4096) && c.all pcOk)) := Lib.hid (by rw [HM2.out]; simp)
                by_cases q_c : c.length ≤ 4096
                case neg =>
                  have n_c : decide ((4096 : Int) < (c.length : Int)) = true := decide_eq_true (by omega)
                  have m_c : decide (4096 < c.length) = true := decide_eq_true (by omega)
                  rw [decide_eq_false q_c] at HM3
                  go_wp2_with fail
                  go_ret
                  exact ret_b (by rw [HM3.out]; simp) (HE.out.trans X2.out)
                have n_c : decide ((4096 : Int) < (c.length : Int)) = false := decide_eq_false (by omega)
                have m_c : decide (4096 < c.length) = false := decide_eq_false (by omega)
                rw [decide_eq_true q_c, Bool.true_and] at HM3
                clear HM2
                go_upto_region 8 with fail
                clear d0 d1 d2 d3 d4 d5 d6 d7 d8 d9 d10 n_lb n_ky n_vv m_lb m_ky m_vv
                try clear h_id n_id
                try clear h_at n_at
                try clear h_to n_to m_to
                try clear h_key
                try clear h_value
                try clear h_label
                try clear h_pcs n_pcs m_pcs
                go_wp2_with fail
                go_loopw [8, 9] (fun s8 s9 wr => ∃ j : Nat, s8 = .int .i64 (j : Int) ∧ j ≤ c.length ∧ Hid ((c.drop j).all pcOk = c.all pcOk) ∧ Ext w1 wr) (fun j _ _ => c.length - (intOf j).toNat)
                case atStart => exact ⟨0, rfl, Nat.zero_le _, Lib.hid rfl, X2.out⟩
                case round =>
                  obtain ⟨j, rfl, hj, HF, hX⟩ := hrel
                  have d10 := (HBD.out.ext hX).cell 10
                  have q1 : (0 : Int) ≤ (j : Int) := by omega
                  rcases Nat.lt_or_ge j c.length with hlt | hlt
                  · have q2 : (j : Int) < (c.length : Int) := by omega
                    obtain ⟨x, hx⟩ : ∃ x, c[j]? = some x := ⟨_, List.getElem?_eq_getElem hlt⟩
                    obtain ⟨A1, n1, e1, -, -, hr1⟩ := HC.out
                    simp only [Value.slice.injEq, true_and] at e1
                    obtain ⟨rfl, rfl⟩ := e1
                    obtain ⟨ba, oa, rfl, ra⟩ := hr1 (by omega)
                    obtain ⟨z0, z1, z2, z3⟩ := rdPcs_at (rdPcs_ext hX ra) hx
                    have HS := Lib.hid ((HF.out.symm.trans (allPc_at hx)).trans (by unfold pcOk; rfl))
                    clear hx hr1 ra HF
                    obtain ⟨xk, xd, xp⟩ := x
                    simp only at z0 z1 z2 z3
                    unfold maxLen at z3
                    simp only at HS
                    obtain ⟨w3, hw3⟩ : ∃ W, wr.alloc (.cells #[.int .i64 xk, .int .i64 xd, .string xp] 69) = W := ⟨_, rfl⟩
                    obtain ⟨N, hN⟩ : ∃ N, wr.heap.size = N := ⟨_, rfl⟩
                    have X3 : Hid (Ext w1 w3) := Lib.hid (by rw [← hw3]; exact hX.alloc _)
                    have HBN : NBox w3 N 69 #[.int .i64 xk, .int .i64 xd, .string xp] := by rw [← hw3, ← hN]; exact NBox.new _ _ _
                    have hc1 := smallR_any xk w3
                    have hc2 := smallR_any xd w3
                    obtain ⟨s1, hs1⟩ : ∃ b, smallB xk = b := ⟨_, rfl⟩
                    obtain ⟨s2, hs2⟩ : ∃ b, smallB xd = b := ⟨_, rfl⟩
                    obtain ⟨s3, hs3⟩ : ∃ b, decide (xp.size ≤ 1048576) = b := ⟨_, rfl⟩
                    have n_xp : decide ((1048576 : Int) < (xp.size : Int)) = !s3 := by rw [← hs3]; by_cases hh : xp.size ≤ 1048576; (rw [decide_eq_true hh]; exact decide_eq_false (by omega)); (rw [decide_eq_false hh]; exact decide_eq_true (by omega))
                    have m_xp : decide (1048576 < xp.size) = !s3 := by rw [← hs3]; by_cases hh : xp.size ≤ 1048576; (rw [decide_eq_true hh]; exact decide_eq_false (by omega)); (rw [decide_eq_false hh]; exact decide_eq_true (by omega))
                    rw [hs1, hs2, hs3] at HS
                    rw [hs1] at hc1
                    rw [hs2] at hc2
                    have HW3 := Lib.hid hw3
                    have HN := Lib.hid hN
                    clear hs1 hs2 hs3 hw3 hN
                    go_upto_region 12 with fail
                    have e1 : wr.alloc (.cells #[.int .i64 xk, .int .i64 xd, .string xp] 69) = w3 := HW3.out
                    rw [e1, HN.out]
                    clear e1 HW3 HN d10 z0 z1 z2
                    have m0 := HBN.cell 0
                    have m1 := HBN.cell 1
                    have m2 := HBN.cell 2
                    clear HBN
                    go_wp2_with fail
                    refine hc1.mono ?_
                    clear hc1
                    rintro e u ⟨rfl, rfl⟩
                    cases s1 with
                    | false =>
                      go_wp2_with fail
                      go_ret
                      exact ret_b (by rw [HM3.out, HS.out]; rfl) (HE.out.trans X3.out)
                    | true =>
                      go_wp2_with fail
                      refine hc2.mono ?_
                      clear hc2
                      rintro e u ⟨rfl, rfl⟩
                      cases s2 with
                      | false =>
                        go_wp2_with fail
                        go_ret
                        exact ret_b (by rw [HM3.out, HS.out]; rfl) (HE.out.trans X3.out)
                      | true =>
                        cases s3 with
                        | false =>
                          go_wp2_with fail
                          go_ret
                          exact ret_b (by rw [HM3.out, HS.out]; rfl) (HE.out.trans X3.out)
                        | true =>
                          go_wp2_with fail
                          go_roundw
                          case rel => exact ⟨j + 1, by go_num, by omega, Lib.hid HS.out.symm, X3.out⟩
                          case measure => simp [intOf]; omega
                  · have HG : Hid (c.all pcOk = true) := Lib.hid (by rw [← HF.out, List.drop_eq_nil_of_le hlt]; rfl)
                    go_wp2_with fail
                    go_ret
                    exact ret_b (by simp [HM3.out, HG.out]) (HE.out.trans hX)
end Go.Proofs.Ytoplaokimahdiaa.Wi
