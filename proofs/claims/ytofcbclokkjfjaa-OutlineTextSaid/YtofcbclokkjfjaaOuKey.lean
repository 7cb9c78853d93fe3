/- Chapter 24: a contract of chapter 06 turned to this seat (BwRefs). -/
import Derived.Test.YtofcbclokkjfjaaOuSpec
import Derived.BigQuiet
import Derived.Deep.QuietTactic
namespace Go.Proofs.Ytofcbclokkjfjaa.Bw
open Go.RowKit

/-! ### Keys -/
set_option maxHeartbeats 400000 in
theorem key_any (s : ByteArray) (w : World) (hs : s.size ≤ maxLen) : Calls Try.prog 72 #[.string s] w fun e w' => e = .returned (.bool (keyOk s)) ∧ w' = w := by
  unfold maxLen at hs
  rcases Nat.eq_zero_or_pos s.size with h0 | h0
  · have hl := str_empty h0
    have hk : Hid (keyOk s = false) := by simp only [Hid, keyOk]; exact decide_eq_false (by omega)
    go_enter Try.func72, Try.ntmps72
    go_wp2_with fail
    go_ret
    exact ⟨by rw [hk.out]; rfl, rfl⟩
  · have hl := str_some h0
    rcases Nat.lt_or_ge 64 s.size with h1 | h1
    · have hk : Hid (keyOk s = false) := by simp only [Hid, keyOk]; exact decide_eq_false (by omega)
      go_enter Try.func72, Try.ntmps72
      go_wp2_with fail
      go_ret
      exact ⟨by rw [hk.out]; simp; omega, rfl⟩
    · have hk : Hid (keyOk s = true) := by simp only [Hid, keyOk]; exact decide_eq_true (by omega)
      go_enter Try.func72, Try.ntmps72
      go_wp2_with fail
      go_ret
      exact ⟨by rw [hk.out]; simp; omega, rfl⟩
set_option maxHeartbeats 400000 in
theorem rkey_any (s : ByteArray) (w : World) (hs : s.size ≤ maxLen) : Calls Try.prog 62 #[.string s] w fun e w' => e = .returned (.bool (keyOk s)) ∧ w' = w := by
  unfold maxLen at hs
  rcases Nat.eq_zero_or_pos s.size with h0 | h0
  · have hk : Hid (keyOk s = false) := by simp only [Hid, keyOk]; exact decide_eq_false (by omega)
    have hd : decide ((1 : Int) ≤ s.size) = false := by simp; omega
    go_enter Try.func62, Try.ntmps62
    go_wp2_with fail
    go_ret
    exact ⟨by rw [hk.out]; rfl, rfl⟩
  · rcases Nat.lt_or_ge 64 s.size with h1 | h1
    · have hk : Hid (keyOk s = false) := by simp only [Hid, keyOk]; exact decide_eq_false (by omega)
      go_enter Try.func62, Try.ntmps62
      go_wp2_with fail
      go_ret
      exact ⟨by rw [hk.out]; simp; omega, rfl⟩
    · have hk : Hid (keyOk s = true) := by simp only [Hid, keyOk]; exact decide_eq_true (by omega)
      go_enter Try.func62, Try.ntmps62
      go_wp2_with fail
      go_ret
      exact ⟨by rw [hk.out]; simp; omega, rfl⟩

end Go.Proofs.Ytofcbclokkjfjaa.Bw
