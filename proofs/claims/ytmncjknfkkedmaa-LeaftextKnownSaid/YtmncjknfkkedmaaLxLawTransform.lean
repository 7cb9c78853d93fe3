/- Chapter 05: the law LeaftextTransform. -/
import Derived.Test.YtmncjknfkkedmaaLxWorks
import Derived.Test.YtmncjknfkkedmaaLxRTrans
namespace Go.Proofs.Ytmncjknfkkedmaa.Lx
open Go.RowKit Go.Proofs.Ytmncjknfkkedmaa.Bw Go.Proofs.Ytmncjknfkkedmaa.Bs

set_option maxRecDepth 100000 in
set_option maxHeartbeats 1600000 in
theorem lawTransform (a b : List Pc) (prior : Bool) (va vb : Value) (w : World) (ha : RdP w a va) (hb : RdP w b vb) : Calls Try.prog 6 #[va, vb, .bool prior] w (Ret w fun r _ => r = .bool true) := by
  obtain ⟨Aa, ca, rfl, _⟩ := id ha
  obtain ⟨Ab, cb, rfl, _⟩ := id hb
  have hc := small_any a _ 300 w ha (by decide) (by decide)
  go_enter Try.func6, Try.ntmps6
  go_wp2_with fail
  refine hc.mono ?_
  clear hc
  rintro e w1 ⟨_, rfl, ⟨ta, rfl, hta⟩, E1⟩
  cases ta with
  | false =>
    have hk := works_any w1
    go_wp2_with fail
    refine hk.mono ?_
    clear hk
    rintro e w2 ⟨_, rfl, rfl, E2⟩
    go_wp2_with fail
    go_ret
    exact ⟨_, rfl, rfl, E1.trans E2⟩
  | true =>
    obtain ⟨a1, a2⟩ := hta rfl
    clear hta
    have hc := small_any b _ 300 w1 (hb.ext E1) (by decide) (by decide)
    go_wp2_with fail
    refine hc.mono ?_
    clear hc
    rintro e w2 ⟨_, rfl, ⟨tb, rfl, htb⟩, E12⟩
    have E2 := E1.trans E12
    cases tb with
    | false =>
      have hk := works_any w2
      go_wp2_with fail
      refine hk.mono ?_
      clear hk
      rintro e w3 ⟨_, rfl, rfl, E3⟩
      go_wp2_with fail
      go_ret
      exact ⟨_, rfl, rfl, E2.trans E3⟩
    | true =>
      obtain ⟨b1, b2⟩ := htb rfl
      clear htb
      have hc := transform_any a b _ _ prior w2 (ha.ext E2) (hb.ext E2)
      go_wp2_with fail
      refine hc.mono ?_
      clear hc
      rintro e w3 ⟨vx, vy, rfl, RX, RY, E23⟩
      have E3 := E2.trans E23
      have hc := transformR_any a b _ _ prior w3 (ha.ext E3) (hb.ext E3) (by omega) (by omega) (by omega) (by omega)
      go_wp2_with fail
      refine hc.mono ?_
      clear hc
      rintro e w4 ⟨vz, vu, rfl, RZ, RU, E34⟩
      have E4 := E3.trans E34
      replace RX := RX.ext E34
      replace RY := RY.ext E34
      generalize trE prior a b = r at *
      generalize trX prior a b = LX at *
      generalize trY prior a b = LY at *
      have u1 : (r == r) = true := by simp
      have hs := same_any LX LX _ _ w4 RX RZ
      rw [pcsEq_iff.2 rfl] at hs
      clear RX RZ
      go_wp2_with fail
      refine hs.mono ?_
      clear hs
      rintro e w5 ⟨_, rfl, rfl, E45⟩
      have E5 := E4.trans E45
      have hs := same_any LY LY _ _ w5 (RY.ext E45) (RU.ext E45)
      rw [pcsEq_iff.2 rfl] at hs
      clear RY RU
      go_wp2_with fail
      refine hs.mono ?_
      clear hs
      rintro e w6 ⟨_, rfl, rfl, E56⟩
      have E6 := E5.trans E56
      have hk := works_any w6
      go_wp2_with fail
      refine hk.mono ?_
      clear hk
      rintro e w7 ⟨_, rfl, rfl, E67⟩
      go_wp2_with fail
      go_ret
      exact ⟨_, rfl, rfl, E6.trans E67⟩
end Go.Proofs.Ytmncjknfkkedmaa.Lx
