/- Chapter 05: the law LeaftextApply. -/
import Derived.Test.YtmncjknfkkedmaaLxWorks
import Derived.Test.YtmncjknfkkedmaaLxRApply
import Derived.Test.YtmncjknfkkedmaaLxPlainA
namespace Go.Proofs.Ytmncjknfkkedmaa.Lx
open Go.RowKit Go.Proofs.Ytmncjknfkkedmaa.Bw Go.Proofs.Ytmncjknfkkedmaa.Bs

theorem normR_ok {l : List Pc} : ∀ p ∈ normR l, okStr p.put := by
  unfold normR
  split
  · rename_i h; exact puts_ok h
  · intro p hp; exact absurd hp List.not_mem_nil
theorem pcsEq_refl (l : List Pc) : pcsEq l l = true := pcsEq_iff.2 rfl

set_option maxRecDepth 100000 in
set_option maxHeartbeats 4000000 in
theorem lawApply (t : ByteArray) (l : List Pc) (v : Value) (w : World) (ht : t.size ≤ maxLen) (h : RdP w l v) : Calls Try.prog 5 #[.string t, v] w (Ret w fun r _ => r = .bool true) := by
  unfold maxLen at ht
  obtain ⟨A, c, rfl, _⟩ := id h
  rcases Nat.lt_or_ge 1000 t.size with hl | hl
  · have t1 : decide ((1000 : Int) < (t.size : Int)) = true := decide_eq_true (by omega)
    have hk := works_any w
    go_enter Try.func5, Try.ntmps5
    go_wp2_with fail
    refine hk.mono ?_
    clear hk
    rintro e w1 ⟨_, rfl, rfl, E1⟩
    go_wp2_with fail
    go_ret
    exact ⟨_, rfl, rfl, E1⟩
  · have t1 : decide ((1000 : Int) < (t.size : Int)) = false := decide_eq_false (by omega)
    have hc := small_any l _ 400 w h (by decide) (by decide)
    go_enter Try.func5, Try.ntmps5
    go_wp2_with fail
    refine hc.mono ?_
    clear hc
    rintro e w1 ⟨_, rfl, ⟨b, rfl, hb⟩, E1⟩
    cases b with
    | false =>
      have hk := works_any w1
      go_wp2_with fail
      refine hk.mono ?_
      clear hk
      rintro e w2 ⟨_, rfl, rfl, E2⟩
      go_wp2_with fail
      go_ret
      exact ⟨_, rfl, rfl, E1.trans E2⟩
    | true =>
      obtain ⟨b1, b2⟩ := hb rfl
      clear hb
      have hc := apply_any t l _ w1 (h.ext E1) (by omega)
      go_wp2_with fail
      refine hc.mono ?_
      clear hc
      rintro e w2 ⟨_, rfl, rfl, E12⟩
      have E2 := E1.trans E12
      have hc := applyR_any t l _ w2 (h.ext E2) (by omega)
      go_wp2_with fail
      refine hc.mono ?_
      clear hc
      rintro e w3 ⟨_, rfl, rfl, E23⟩
      have E3 := E2.trans E23
      obtain ⟨s, hs⟩ : ∃ s, apS t l = s := ⟨_, rfl⟩
      obtain ⟨r, hr⟩ : ∃ r, apE t l = r := ⟨_, rfl⟩
      rw [hs, hr]
      have u1 : (s.toList == s.toList) = true := by simp
      have u2 : (r != r) = false := by simp
      by_cases h0 : r = 0
      · have u3 : (r != 0) = false := by rw [h0]; rfl
        have hk := apply_norm_ok (hr.trans h0) (by omega) (by omega)
        rw [hs] at hk
        have HK := Lib.hid hk
        have hn := Norm_any l _ w3 (h.ext E3)
        clear hk hs hr h0
        go_wp2_with fail
        refine hn.mono ?_
        clear hn
        rintro e w4 ⟨v4, rfl, O4, E34⟩
        have E4 := E3.trans E34
        have hc := apply_any t (normR l) v4 w4 (RdP.of_owns O4 normR_ok) (by omega)
        rw [HK.out.1, HK.out.2] at hc
        go_wp2_with fail
        refine hc.mono ?_
        clear hc
        rintro e w5 ⟨_, rfl, rfl, E45⟩
        have E5 := E4.trans E45
        have hk := works_any w5

        go_wp2_with fail
        refine hk.mono ?_
        clear hk
        rintro e w6 ⟨_, rfl, rfl, E56⟩
        go_wp2_with fail
        go_ret
        exact ⟨_, rfl, rfl, E5.trans E56⟩
      · have u3 : (r != 0) = true := by simpa using h0
        have hk := works_any w3
        clear hs hr h0
        go_wp2_with fail
        refine hk.mono ?_
        clear hk
        rintro e w4 ⟨_, rfl, rfl, E34⟩
        go_wp2_with fail
        go_ret
        exact ⟨_, rfl, rfl, E3.trans E34⟩
end Go.Proofs.Ytmncjknfkkedmaa.Lx
