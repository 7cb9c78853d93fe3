/- Chapter 05: the square. -/
import Derived.Test.YtmncjknfkkedmaaLxPlainS
import Derived.Test.YtmncjknfkkedmaaLxWorks
namespace Go.Proofs.Ytmncjknfkkedmaa.Lx
open Go.RowKit Go.Proofs.Ytmncjknfkkedmaa.Bw Go.Proofs.Ytmncjknfkkedmaa.Bs

def vSum : Vw → Nat
  | [] => 0
  | x :: r => x.1.size + vSum r
theorem putLen_put : ∀ l : List Pc, putLen (rPut l) + (rPutS l).size = putLen l
  | [] => rfl
  | p :: r => by
    simp only [rPut, rPutS]
    split
    · show p.put.size + putLen r + 0 = _; rfl
    · show 0 + putLen r + p.put.size = p.put.size + putLen r; omega
theorem putLen_skip : ∀ l : List Pc, putLen (rSkip l) ≤ putLen l
  | [] => Nat.le_refl _
  | p :: r => by
    simp only [rSkip]
    split
    · exact Nat.le_refl _
    · have := putLen_skip r
      show _ ≤ p.put.size + putLen r
      omega
theorem putLen_take (n : Int) : ∀ l : List Pc, putLen (rTake n l) = putLen l
  | [] => rfl
  | p :: r => by
    simp only [rTake]
    split <;> rfl
theorem vSum_le : ∀ (N : Nat) (l : List Pc), vSum (vwF l N) ≤ putLen l
  | 0, l => by
    have := putLen_put l
    show (rPutS l).size + 0 ≤ _
    omega
  | N + 1, l => by
    have h1 := putLen_put l
    have h2 := putLen_skip (rPut l)
    have h3 := vSum_le N (nextR l)
    have h4 : putLen (nextR l) = putLen (rSkip (rPut l)) := putLen_take 1 _
    show (rPutS l).size + vSum (vwF (nextR l) N) ≤ _
    omega
theorem bhP_sizes (first : Bool) : ∀ (A B : Vw), A.length = B.length → Nn (bhP first A B) ∧ putLen (bhP first A B) ≤ vSum A ∧ extL (bhP first A B) ≤ ((vSum B + A.length : Nat) : Int) ∧ (bhP first A B).length ≤ 3 * A.length
  | [], [], _ => ⟨fun _ h => absurd h List.not_mem_nil, Nat.le_refl _, Int.le_refl _, Nat.le_refl _⟩
  | a :: r, b :: s, h => by
    obtain ⟨h0, h1, h2, h3⟩ := bhP_sizes first r s (by simpa using h)
    have n1 := (bhStep_nn first a b).1
    have k1 : putLen (bhStep first a b) = a.1.size := by
      obtain ⟨a1, a2⟩ := a
      obtain ⟨b1, b2⟩ := b
      have e : (⟨#[]⟩ : ByteArray).size = 0 := rfl
      cases first <;> cases a2 <;> cases b2 <;> simp [bhStep, putLen, e]
    have k2 : extL (bhStep first a b) ≤ ((b.1.size + 1 : Nat) : Int) := by
      obtain ⟨a1, a2⟩ := a
      obtain ⟨b1, b2⟩ := b
      cases first <;> cases a2 <;> cases b2 <;> simp [bhStep, extL] <;> omega
    have k3 : (bhStep first a b).length ≤ 3 := by
      obtain ⟨a1, a2⟩ := a
      obtain ⟨b1, b2⟩ := b
      cases first <;> cases a2 <;> cases b2 <;> simp [bhStep]
    refine ⟨n1.append h0, ?_, ?_, ?_⟩
    · show putLen (bhStep first a b ++ bhP first r s) ≤ a.1.size + vSum r
      rw [putLen_append]; omega
    · show extL (bhStep first a b ++ bhP first r s) ≤ ((b.1.size + vSum s + (r.length + 1) : Nat) : Int)
      rw [extL_append]; omega
    · show (bhStep first a b ++ bhP first r s).length ≤ 3 * (r.length + 1)
      rw [List.length_append]; omega
  | [], _ :: _, h => by simp at h
  | _ :: _, [], h => by simp at h
/-- What becomes of p behind q fits q's text, and makes the text that both make. -/
theorem behind_ok (first : Bool) {p q : List Pc} {N : Nat} {t : ByteArray} (hp : Nn p) (hq : Nn q) (rp : NR p) (rq : NR q) (p1 : extL p ≤ (N : Int)) (q1 : extL q ≤ (N : Int)) (hN : N ≤ t.size) (hN2 : N ≤ 600) (sp : putLen p ≤ 100000) (sq : putLen q ≤ 100000) :
    pcsRight (normL (bhP first (vwF p N) (vwF q N))) = true ∧ extL (normL (bhP first (vwF p N) (vwF q N))) ≤ ((applyB t q).size : Int) ∧ bl (applyB (applyB t q) (normL (bhP first (vwF p N) (vwF q N)))) = both first (vwF p N) (vwF q N) (bl t) := by
  have hl : (vwF p N).length = (vwF q N).length := by rw [vwF_len, vwF_len]
  have hlen := vwF_len N p
  obtain ⟨b0, b1, b2, b3⟩ := bhP_sizes first (vwF p N) (vwF q N) hl
  have v1 := vSum_le N p
  have v2 := vSum_le N q
  have n1 := normL_nn b0
  have n2 := normL_ext b0
  have n3 := normL_wt b0
  have n4 := normL_len (bhP first (vwF p N) (vwF q N))
  have n5 := putLen_le n1
  have n6 := wt_eq (bhP first (vwF p N) (vwF q N))
  have hR : pcsRight (normL (bhP first (vwF p N) (vwF q N))) = true := right_of n1 (by omega) (by omega) (by omega)
  have hT : bl (applyB t q) = vApp (vwF q N) (bl t) := by rw [bl_apply, out_view N (bl t) hq rq q1 (by rw [bl_len]; omega)]
  have hx : extL (normL (bhP first (vwF p N) (vwF q N))) ≤ ((applyB t q).size : Int) := by
    obtain ⟨A, s, hA, lA⟩ := vwF_last hp rp p1
    obtain ⟨B, u, hB, lB⟩ := vwF_last hq rq q1
    have e1 : bhP first (vwF p N) (vwF q N) = (bhP first A B ++ (if first then [⟨0, 0, s⟩, ⟨u.size, 0, ⟨#[]⟩⟩] else [⟨u.size, 0, ⟨#[]⟩⟩, ⟨0, 0, s⟩])) ++ [⟨1, 0, ⟨#[]⟩⟩] := by
      rw [hA, hB, bhP_snoc first A B _ _ (by rw [lA, lB]), List.append_assoc]
      rfl
    have e2 := bhP_ext first (vwF p N) (vwF q N) (bl t) hl (by rw [hlen, bl_len]; omega)
    rw [← hT, bl_len] at e2
    rw [e1] at e2 b0 ⊢
    rw [normL_keep1]
    rw [extL_append] at e2
    have e3 : extL [(⟨1, 0, ⟨#[]⟩⟩ : Pc)] = 1 := rfl
    have e4 := normL_ext (l := bhP first A B ++ (if first then [⟨0, 0, s⟩, ⟨u.size, 0, ⟨#[]⟩⟩] else [⟨u.size, 0, ⟨#[]⟩⟩, ⟨0, 0, s⟩])) (fun x hx => b0 x (List.mem_append_left _ hx))
    omega
  refine ⟨hR, hx, ?_⟩
  rw [bl_apply, hT, run_normL _ b0, both_run first (vwF p N) (vwF q N) (bl t) [] hl (by rw [hlen, bl_len]; omega) (fun i x hi hf => by
    have := vwF_flag hp rp i x hi hf
    rw [bl_len]; omega)]
  rfl
theorem trE_zero {prior : Bool} {a b : List Pc} (ra : pcsRight a = true) (rb : pcsRight b = true) (h1 : pcsRight (trS prior a b).x.l = true) (h2 : pcsRight (trS prior a b).y.l = true) : trE prior a b = 0 := by
  unfold trE
  rw [ra, rb, h1, h2]
  rfl
/-- The square. -/
theorem square {prior : Bool} {a b : List Pc} {t : ByteArray} (ha : apE t a = 0) (hb : apE t b = 0) (ht : t.size ≤ 600) (sa : sumP a ≤ 1000) (sb : sumP b ≤ 1000) :
    (trE prior a b = 0 ∧ trE (!prior) b a = 0) ∧ (trX (!prior) b a = trY prior a b ∧ trY (!prior) b a = trX prior a b) ∧ apE (apS t a) (trY prior a b) = 0 ∧ apE (apS t b) (trX prior a b) = 0 ∧ apS (apS t a) (trY prior a b) = apS (apS t b) (trX prior a b) := by
  obtain ⟨ra, xa⟩ := apE_ok ha
  obtain ⟨rb, xb⟩ := apE_ok hb
  obtain ⟨na, _, _⟩ := right_nn ra
  obtain ⟨nb, _, _⟩ := right_nn rb
  have wa : wt a ≤ 1000 := by rw [← sumP_eq na]; exact sa
  have wb : wt b ≤ 1000 := by rw [← sumP_eq nb]; exact sb
  have ma := normL_nn na
  have mb := normL_nn nb
  have ea := normL_ext na
  have eb := normL_ext nb
  have ga := normL_wt na
  have gb := normL_wt nb
  have pa := putLen_le ma
  have pb := putLen_le mb
  have ya := extL_nn ma
  have yb := extL_nn mb
  have N1 : extL (normL a) ≤ (t.size : Int) := by omega
  have N2 : extL (normL b) ≤ (t.size : Int) := by omega
  have hAB := trS_eq prior na nb t.size N1 N2
  have hBA := trS_eq (!prior) nb na t.size N2 N1
  rw [Bool.not_not] at hBA
  obtain ⟨x1, x2, x3⟩ := behind_ok prior (t := t) ma mb (NR.normL a) (NR.normL b) N1 N2 (Nat.le_refl _) ht (by omega) (by omega)
  obtain ⟨y1, y2, y3⟩ := behind_ok (!prior) (t := t) mb ma (NR.normL b) (NR.normL a) N2 N1 (Nat.le_refl _) ht (by omega) (by omega)
  rw [← hAB.1] at x1 x2 x3
  rw [← hAB.2] at y1 y2 y3
  have hE : trE prior a b = 0 := trE_zero ra rb x1 y1
  have hE2 : trE (!prior) b a = 0 := trE_zero rb ra (by rw [hBA.1, ← hAB.2]; exact y1) (by rw [hBA.2, ← hAB.1]; exact x1)
  have tX : trX prior a b = (trS prior a b).x.l := if_pos hE
  have tY : trY prior a b = (trS prior a b).y.l := if_pos hE
  have tX2 : trX (!prior) b a = (trS prior a b).y.l := by
    have : trX (!prior) b a = (trS (!prior) b a).x.l := if_pos hE2
    rw [this, hBA.1, ← hAB.2]
  have tY2 : trY (!prior) b a = (trS prior a b).x.l := by
    have : trY (!prior) b a = (trS (!prior) b a).y.l := if_pos hE2
    rw [this, hBA.2, ← hAB.1]
  have sA : apS t a = applyB t (normL a) := by rw [apS_ok ha, apply_normL t na]
  have sB : apS t b = applyB t (normL b) := by rw [apS_ok hb, apply_normL t nb]
  have kY : apE (apS t a) (trS prior a b).y.l = 0 := by
    unfold apE
    rw [y1, if_pos rfl, sA]
    exact if_pos y2
  have kX : apE (apS t b) (trS prior a b).x.l = 0 := by
    unfold apE
    rw [x1, if_pos rfl, sB]
    exact if_pos x2
  refine ⟨⟨hE, hE2⟩, ⟨by rw [tX2, tY], by rw [tY2, tX]⟩, by rw [tY]; exact kY, by rw [tX]; exact kX, ?_⟩
  rw [tX, tY, apS_ok kY, apS_ok kX, sA, sB]
  apply bl_inj
  rw [x3, y3]
  exact both_comm prior _ _ _ (by rw [vwF_len, vwF_len])
end Go.Proofs.Ytmncjknfkkedmaa.Lx
namespace Go.Proofs.Ytmncjknfkkedmaa.Lx
open Go.RowKit Go.Proofs.Ytmncjknfkkedmaa.Bw Go.Proofs.Ytmncjknfkkedmaa.Bs

set_option maxRecDepth 100000 in
set_option maxHeartbeats 1600000 in
theorem lawSquare (t : ByteArray) (a b : List Pc) (prior : Bool) (va vb : Value) (w : World) (ht : t.size ≤ maxLen) (ha : RdP w a va) (hb : RdP w b vb) : Calls Try.prog 7 #[.string t, va, vb, .bool prior] w (Ret w fun r _ => r = .bool true) := by
  unfold maxLen at ht
  obtain ⟨Aa, ca, rfl, _⟩ := id ha
  obtain ⟨Ab, cb, rfl, _⟩ := id hb
  rcases Nat.lt_or_ge 600 t.size with hl | hl
  · have t1 : decide ((600 : Int) < (t.size : Int)) = true := decide_eq_true (by omega)
    have hk := works_any w
    go_enter Try.func7, Try.ntmps7
    go_wp2_with fail
    refine hk.mono ?_
    clear hk
    rintro e w1 ⟨_, rfl, rfl, E1⟩
    go_wp2_with fail
    go_ret
    exact ⟨_, rfl, rfl, E1⟩
  · have t1 : decide ((600 : Int) < (t.size : Int)) = false := decide_eq_false (by omega)
    have hc := small_any a _ 300 w ha (by decide) (by decide)
    go_enter Try.func7, Try.ntmps7
    go_wp2_with fail
    refine hc.mono ?_
    clear hc
    rintro e w1 ⟨_, rfl, ⟨ta, rfl, hta⟩, E1⟩
    cases ta with
    | false =>
      have hk := works_any w1
      go_wp2_with fail
      refine hk.mono ?_
      clear hk
      rintro e w2 ⟨_, rfl, rfl, E2⟩
      go_wp2_with fail
      go_ret
      exact ⟨_, rfl, rfl, E1.trans E2⟩
    | true =>
      obtain ⟨a1, a2⟩ := hta rfl
      clear hta
      have hc := small_any b _ 300 w1 (hb.ext E1) (by decide) (by decide)
      go_wp2_with fail
      refine hc.mono ?_
      clear hc
      rintro e w2 ⟨_, rfl, ⟨tb, rfl, htb⟩, E12⟩
      have E2 := E1.trans E12
      cases tb with
      | false =>
        have hk := works_any w2
        go_wp2_with fail
        refine hk.mono ?_
        clear hk
        rintro e w3 ⟨_, rfl, rfl, E3⟩
        go_wp2_with fail
        go_ret
        exact ⟨_, rfl, rfl, E2.trans E3⟩
      | true =>
        obtain ⟨b1, b2⟩ := htb rfl
        clear htb E1 E12
        have hc := apply_any t a _ w2 (ha.ext E2) (by omega)
        obtain ⟨s, hs⟩ : ∃ s, apS t a = s := ⟨_, rfl⟩
        obtain ⟨r, hr⟩ : ∃ r, apE t a = r := ⟨_, rfl⟩
        have zs := apS_size t a
        rw [hs] at zs
        rw [hs, hr] at hc
        have HS := Lib.hid hs
        have HR := Lib.hid hr
        clear hs hr
        go_wp2_with fail
        refine hc.mono ?_
        clear hc
        rintro e w3 ⟨_, rfl, rfl, E23⟩
        have E3 := E2.trans E23
        have hc := apply_any t b _ w3 (hb.ext E3) (by omega)
        obtain ⟨u, hu⟩ : ∃ s, apS t b = s := ⟨_, rfl⟩
        obtain ⟨q, hq⟩ : ∃ r, apE t b = r := ⟨_, rfl⟩
        have zu := apS_size t b
        rw [hu] at zu
        rw [hu, hq] at hc
        have HU := Lib.hid hu
        have HQ := Lib.hid hq
        clear hu hq
        go_wp2_with fail
        refine hc.mono ?_
        clear hc
        rintro e w4 ⟨_, rfl, rfl, E34⟩
        have E4 := E3.trans E34
        clear E2 E3 E23 E34
        by_cases hr0 : r = 0
        · by_cases hq0 : q = 0
          · have u1 : (r != 0) = false := by rw [hr0]; rfl
            have u2 : (q != 0) = false := by rw [hq0]; rfl
            obtain ⟨⟨k1, k2⟩, ⟨k3, k4⟩, k5, k6, k7⟩ := square (prior := prior) (HR.out.trans hr0) (HQ.out.trans hq0) hl (by omega) (by omega)
            rw [HS.out] at k5 k7
            rw [HU.out] at k6 k7
            have hc := transform_any a b _ _ prior w4 (ha.ext E4) (hb.ext E4)
            have hc2 := fun W hW1 hW2 => transform_any b a (.slice Ab b.length cb) (.slice Aa a.length ca) (!prior) W hW1 hW2
            rw [k1] at hc
            rw [k2, k3, k4] at hc2
            have HK := Lib.hid (And.intro k5 (And.intro k6 k7))
            clear k1 k2 k3 k4 k5 k6 k7 hr0 hq0
            generalize trX prior a b = LX at *
            generalize trY prior a b = LY at *
            go_wp2_with fail
            refine hc.mono ?_
            clear hc
            rintro e w5 ⟨vx, vy, rfl, RX, RY, E45⟩
            have E5 := E4.trans E45
            have hc := apply_any s LY _ w5 RY (by omega)
            rw [HK.out.1, HK.out.2.2] at hc
            go_wp2_with fail
            refine hc.mono ?_
            clear hc
            rintro e w6 ⟨_, rfl, rfl, E56⟩
            have E6 := E5.trans E56
            replace RX := RX.ext E56
            replace RY := RY.ext E56
            have hc := apply_any u LX _ w6 RX (by omega)
            rw [HK.out.2.1] at hc
            go_wp2_with fail
            refine hc.mono ?_
            clear hc
            rintro e w7 ⟨_, rfl, rfl, E67⟩
            have E7 := E6.trans E67
            replace RX := RX.ext E67
            replace RY := RY.ext E67
            clear E4 E5 E6 E45 E56 E67
            obtain ⟨z, hz⟩ : ∃ z, apS u LX = z := ⟨_, rfl⟩
            rw [hz]
            clear hz
            have hc := hc2 w7 (hb.ext E7) (ha.ext E7)
            clear hc2
            go_wp2_with fail
            refine hc.mono ?_
            clear hc
            rintro e w8 ⟨vp, vq, rfl, RP, RQ, E78⟩
            have E8 := E7.trans E78
            replace RX := RX.ext E78
            replace RY := RY.ext E78
            have u8 : (z.toList == z.toList) = true := by simp
            have hs := same_any LY LY vp vy w8 RP RY
            rw [pcsEq_iff.2 rfl] at hs
            clear RP RY
            go_wp2_with fail
            refine hs.mono ?_
            clear hs
            rintro e w9 ⟨_, rfl, rfl, E89⟩
            have E9 := E8.trans E89
            have hs := same_any LX LX vq vx w9 (RQ.ext E89) (RX.ext E89)
            rw [pcsEq_iff.2 rfl] at hs
            clear RQ RX
            go_wp2_with fail
            refine hs.mono ?_
            clear hs
            rintro e w10 ⟨_, rfl, rfl, E910⟩
            have E10 := E9.trans E910
            have hk := works_any w10
            go_wp2_with fail
            refine hk.mono ?_
            clear hk
            rintro e w11 ⟨_, rfl, rfl, E11⟩
            go_wp2_with fail
            go_ret
            exact ⟨_, rfl, rfl, E10.trans E11⟩
          · have u1 : (r != 0) = false := by rw [hr0]; rfl
            have u2 : (q != 0) = true := by simpa using hq0
            have hk := works_any w4
            clear hr0 hq0
            go_wp2_with fail
            refine hk.mono ?_
            clear hk
            rintro e w5 ⟨_, rfl, rfl, E45⟩
            go_wp2_with fail
            go_ret
            exact ⟨_, rfl, rfl, E4.trans E45⟩
        · have u1 : (r != 0) = true := by simpa using hr0
          have hk := works_any w4
          clear hr0
          go_wp2_with fail
          refine hk.mono ?_
          clear hk
          rintro e w5 ⟨_, rfl, rfl, E45⟩
          go_wp2_with fail
          go_ret
          exact ⟨_, rfl, rfl, E4.trans E45⟩
end Go.Proofs.Ytmncjknfkkedmaa.Lx
