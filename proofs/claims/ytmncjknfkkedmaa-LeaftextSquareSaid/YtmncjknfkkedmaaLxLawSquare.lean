/- Chapter 05: the law LeaftextSquare. -/
import Derived.Test.YtmncjknfkkedmaaLxWorks
import Derived.Test.YtmncjknfkkedmaaLxPlainQ
namespace Go.Proofs.Ytmncjknfkkedmaa.Lx
open Go.RowKit Go.Proofs.Ytmncjknfkkedmaa.Bw Go.Proofs.Ytmncjknfkkedmaa.Bs

set_option maxRecDepth 100000 in
set_option maxHeartbeats 1600000 in
theorem lawSquare (t : ByteArray) (a b : List Pc) (prior : Bool) (va vb : Value) (w : World) (ht : t.size ≤ maxLen) (ha : RdP w a va) (hb : RdP w b vb) : Calls Try.prog 7 #[.string t, va, vb, .bool prior] w (Ret w fun r _ => r = .bool true) := by
  unfold maxLen at ht
  obtain ⟨Aa, ca, rfl, _⟩ := id ha
  obtain ⟨Ab, cb, rfl, _⟩ := id hb
  rcases Nat.lt_or_ge 600 t.size with hl | hl
  · have t1 : decide ((600 : Int) < (t.size : Int)) = true := decide_eq_true (by omega)
    have hk := works_any w
    go_enter Try.func7, Try.ntmps7
    go_wp2_with fail
    refine hk.mono ?_
    clear hk
    rintro e w1 ⟨_, rfl, rfl, E1⟩
    go_wp2_with fail
    go_ret
    exact ⟨_, rfl, rfl, E1⟩
  · have t1 : decide ((600 : Int) < (t.size : Int)) = false := decide_eq_false (by omega)
    have hc := small_any a _ 300 w ha (by decide) (by decide)
    go_enter Try.func7, Try.ntmps7
    go_wp2_with fail
    refine hc.mono ?_
    clear hc
    rintro e w1 ⟨_, rfl, ⟨ta, rfl, hta⟩, E1⟩
    cases ta with
    | false =>
      have hk := works_any w1
      go_wp2_with fail
      refine hk.mono ?_
      clear hk
      rintro e w2 ⟨_, rfl, rfl, E2⟩
      go_wp2_with fail
      go_ret
      exact ⟨_, rfl, rfl, E1.trans E2⟩
    | true =>
      obtain ⟨a1, a2⟩ := hta rfl
      clear hta
      have hc := small_any b _ 300 w1 (hb.ext E1) (by decide) (by decide)
      go_wp2_with fail
      refine hc.mono ?_
      clear hc
      rintro e w2 ⟨_, rfl, ⟨tb, rfl, htb⟩, E12⟩
      have E2 := E1.trans E12
      cases tb with
      | false =>
        have hk := works_any w2
        go_wp2_with fail
        refine hk.mono ?_
        clear hk
        rintro e w3 ⟨_, rfl, rfl, E3⟩
        go_wp2_with fail
        go_ret
        exact ⟨_, rfl, rfl, E2.trans E3⟩
      | true =>
        obtain ⟨b1, b2⟩ := htb rfl
        clear htb E1 E12
        have hc := apply_any t a _ w2 (ha.ext E2) (by omega)
        obtain ⟨s, hs⟩ : ∃ s, apS t a = s := ⟨_, rfl⟩
        obtain ⟨r, hr⟩ : ∃ r, apE t a = r := ⟨_, rfl⟩
        have zs := apS_size t a
        rw [hs] at zs
        rw [hs, hr] at hc
        have HS := Lib.hid hs
        have HR := Lib.hid hr
        clear hs hr
        go_wp2_with fail
        refine hc.mono ?_
        clear hc
        rintro e w3 ⟨_, rfl, rfl, E23⟩
        have E3 := E2.trans E23
        have hc := apply_any t b _ w3 (hb.ext E3) (by omega)
        obtain ⟨u, hu⟩ : ∃ s, apS t b = s := ⟨_, rfl⟩
        obtain ⟨q, hq⟩ : ∃ r, apE t b = r := ⟨_, rfl⟩
        have zu := apS_size t b
        rw [hu] at zu
        rw [hu, hq] at hc
        have HU := Lib.hid hu
        have HQ := Lib.hid hq
        clear hu hq
        go_wp2_with fail
        refine hc.mono ?_
        clear hc
        rintro e w4 ⟨_, rfl, rfl, E34⟩
        have E4 := E3.trans E34
        clear E2 E3 E23 E34
        by_cases hr0 : r = 0
        · by_cases hq0 : q = 0
          · have u1 : (r != 0) = false := by rw [hr0]; rfl
            have u2 : (q != 0) = false := by rw [hq0]; rfl
            obtain ⟨⟨k1, k2⟩, ⟨k3, k4⟩, k5, k6, k7⟩ := square (prior := prior) (HR.out.trans hr0) (HQ.out.trans hq0) hl (by omega) (by omega)
            rw [HS.out] at k5 k7
            rw [HU.out] at k6 k7
            have hc := transform_any a b _ _ prior w4 (ha.ext E4) (hb.ext E4)
            have hc2 := fun W hW1 hW2 => transform_any b a (.slice Ab b.length cb) (.slice Aa a.length ca) (!prior) W hW1 hW2
            rw [k1] at hc
            rw [k2, k3, k4] at hc2
            have HK := Lib.hid (And.intro k5 (And.intro k6 k7))
            clear k1 k2 k3 k4 k5 k6 k7 hr0 hq0
            generalize trX prior a b = LX at *
            generalize trY prior a b = LY at *
            go_wp2_with fail
            refine hc.mono ?_
            clear hc
            rintro e w5 ⟨vx, vy, rfl, RX, RY, E45⟩
            have E5 := E4.trans E45
            have hc := apply_any s LY _ w5 RY (by omega)
            rw [HK.out.1, HK.out.2.2] at hc
            go_wp2_with fail
            refine hc.mono ?_
            clear hc
            rintro e w6 ⟨_, rfl, rfl, E56⟩
            have E6 := E5.trans E56
            replace RX := RX.ext E56
            replace RY := RY.ext E56
            have hc := apply_any u LX _ w6 RX (by omega)
            rw [HK.out.2.1] at hc
            go_wp2_with fail
            refine hc.mono ?_
            clear hc
            rintro e w7 ⟨_, rfl, rfl, E67⟩
            have E7 := E6.trans E67
            replace RX := RX.ext E67
            replace RY := RY.ext E67
            clear E4 E5 E6 E45 E56 E67
            obtain ⟨z, hz⟩ : ∃ z, apS u LX = z := ⟨_, rfl⟩
            rw [hz]
            clear hz
            have hc := hc2 w7 (hb.ext E7) (ha.ext E7)
            clear hc2
            go_wp2_with fail
            refine hc.mono ?_
            clear hc
            rintro e w8 ⟨vp, vq, rfl, RP, RQ, E78⟩
            have E8 := E7.trans E78
            replace RX := RX.ext E78
            replace RY := RY.ext E78
            have u8 : (z.toList == z.toList) = true := by simp
            have hs := same_any LY LY vp vy w8 RP RY
            rw [pcsEq_iff.2 rfl] at hs
            clear RP RY
            go_wp2_with fail
            refine hs.mono ?_
            clear hs
            rintro e w9 ⟨_, rfl, rfl, E89⟩
            have E9 := E8.trans E89
            have hs := same_any LX LX vq vx w9 (RQ.ext E89) (RX.ext E89)
            rw [pcsEq_iff.2 rfl] at hs
            clear RQ RX
            go_wp2_with fail
            refine hs.mono ?_
            clear hs
            rintro e w10 ⟨_, rfl, rfl, E910⟩
            have E10 := E9.trans E910
            have hk := works_any w10
            go_wp2_with fail
            refine hk.mono ?_
            clear hk
            rintro e w11 ⟨_, rfl, rfl, E11⟩
            go_wp2_with fail
            go_ret
            exact ⟨_, rfl, rfl, E10.trans E11⟩
          · have u1 : (r != 0) = false := by rw [hr0]; rfl
            have u2 : (q != 0) = true := by simpa using hq0
            have hk := works_any w4
            clear hr0 hq0
            go_wp2_with fail
            refine hk.mono ?_
            clear hk
            rintro e w5 ⟨_, rfl, rfl, E45⟩
            go_wp2_with fail
            go_ret
            exact ⟨_, rfl, rfl, E4.trans E45⟩
        · have u1 : (r != 0) = true := by simpa using hr0
          have hk := works_any w4
          clear hr0
          go_wp2_with fail
          refine hk.mono ?_
          clear hk
          rintro e w5 ⟨_, rfl, rfl, E45⟩
          go_wp2_with fail
          go_ret
          exact ⟨_, rfl, rfl, E4.trans E45⟩
end Go.Proofs.Ytmncjknfkkedmaa.Lx
