/- Chapter 05: the law LeaftextInvert. -/
import Derived.Test.YtmncjknfkkedmaaLxWorks
import Derived.Test.YtmncjknfkkedmaaLxPlainI
namespace Go.Proofs.Ytmncjknfkkedmaa.Lx
open Go.RowKit Go.Proofs.Ytmncjknfkkedmaa.Bw Go.Proofs.Ytmncjknfkkedmaa.Bs

set_option maxRecDepth 100000 in
set_option maxHeartbeats 1600000 in
theorem lawInvert (t : ByteArray) (l : List Pc) (v : Value) (w : World) (ht : t.size ≤ maxLen) (h : RdP w l v) : Calls Try.prog 8 #[.string t, v] w (Ret w fun r _ => r = .bool true) := by
  unfold maxLen at ht
  obtain ⟨A, c, rfl, _⟩ := id h
  rcases Nat.lt_or_ge 600 t.size with hl | hl
  · have t1 : decide ((600 : Int) < (t.size : Int)) = true := decide_eq_true (by omega)
    have hk := works_any w
    go_enter Try.func8, Try.ntmps8
    go_wp2_with fail
    refine hk.mono ?_
    clear hk
    rintro e w1 ⟨_, rfl, rfl, E1⟩
    go_wp2_with fail
    go_ret
    exact ⟨_, rfl, rfl, E1⟩
  · have t1 : decide ((600 : Int) < (t.size : Int)) = false := decide_eq_false (by omega)
    have hc := small_any l _ 300 w h (by decide) (by decide)
    go_enter Try.func8, Try.ntmps8
    go_wp2_with fail
    refine hc.mono ?_
    clear hc
    rintro e w1 ⟨_, rfl, ⟨b, rfl, hb⟩, E1⟩
    cases b with
    | false =>
      have hk := works_any w1
      go_wp2_with fail
      refine hk.mono ?_
      clear hk
      rintro e w2 ⟨_, rfl, rfl, E2⟩
      go_wp2_with fail
      go_ret
      exact ⟨_, rfl, rfl, E1.trans E2⟩
    | true =>
      obtain ⟨b1, b2⟩ := hb rfl
      clear hb
      have hc := invert_any t l _ w1 (h.ext E1) (by omega)
      go_wp2_with fail
      refine hc.mono ?_
      clear hc
      rintro e w2 ⟨v2, rfl, R2, E12⟩
      have E2 := E1.trans E12
      have hc := invertR_any t l _ w2 (h.ext E2) (by omega)
      go_wp2_with fail
      refine hc.mono ?_
      clear hc
      rintro e w3 ⟨v3, rfl, R3, E23⟩
      have E3 := E2.trans E23
      replace R2 := R2.ext E23
      obtain ⟨r, hr⟩ : ∃ r, inE t l = r := ⟨_, rfl⟩
      obtain ⟨il, hil⟩ : ∃ il, inL t l = il := ⟨_, rfl⟩
      rw [hil] at R2 R3
      rw [hr]
      have u2 : (r != r) = false := by simp
      have hs := same_any il il _ _ w3 R2 R3
      rw [pcsEq_iff.2 rfl] at hs
      have HR := Lib.hid hr
      have HL := Lib.hid hil
      clear hr hil
      go_wp2_with fail
      refine hs.mono ?_
      clear hs
      rintro e w4 ⟨_, rfl, rfl, E34⟩
      have E4 := E3.trans E34
      replace R2 := R2.ext E34
      have hc := apply_any t l _ w4 (h.ext E4) (by omega)
      obtain ⟨s, hss⟩ : ∃ s, apS t l = s := ⟨_, rfl⟩
      obtain ⟨q, hq⟩ : ∃ q, apE t l = q := ⟨_, rfl⟩
      have hz := apS_size t l
      rw [hss] at hz
      rw [hss, hq] at hc
      have HS := Lib.hid hss
      have HQ := Lib.hid hq
      clear hss hq R3
      go_wp2_with fail
      refine hc.mono ?_
      clear hc
      rintro e w5 ⟨_, rfl, rfl, E45⟩
      have E5 := E4.trans E45
      replace R2 := R2.ext E45
      by_cases h0 : q = 0
      · have hu := inv_undo (HQ.out.trans h0) (by omega) (by omega)
        rw [HS.out, HL.out, HR.out] at hu
        obtain ⟨u3, u4, u5⟩ := hu
        have u6 : (r != 0) = false := by rw [u3]; rfl
        have u7 : (q == 0) = true := by rw [h0]; rfl
        have hc := apply_any s il _ w5 R2 (by omega)
        rw [u4, u5] at hc
        clear h0 u3 u4 u5
        go_wp2_with fail
        refine hc.mono ?_
        clear hc
        rintro e w6 ⟨_, rfl, rfl, E56⟩
        have E6 := E5.trans E56
        have hk := works_any w6
        have u8 : (t.toList == t.toList) = true := by simp
        go_wp2_with fail
        refine hk.mono ?_
        clear hk
        rintro e w7 ⟨_, rfl, rfl, E67⟩
        go_wp2_with fail
        go_ret
        exact ⟨_, rfl, rfl, E6.trans E67⟩
      · have hrq : r = q := by
          rw [← HR.out, ← HQ.out]
          unfold inE
          rw [if_neg (by rw [HQ.out]; exact h0)]
        rw [hrq] at u2
        have u6 : (r != 0) = true := by rw [hrq]; simpa using h0
        have u7 : (q == r) = true := by rw [hrq]; simp
        have hk := works_any w5
        clear h0 hrq
        go_wp2_with fail
        refine hk.mono ?_
        clear hk
        rintro e w6 ⟨_, rfl, rfl, E56⟩
        go_wp2_with fail
        go_ret
        exact ⟨_, rfl, rfl, E5.trans E56⟩
end Go.Proofs.Ytmncjknfkkedmaa.Lx
