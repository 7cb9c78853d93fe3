/- Chapter 04: Compare is an order: the plain laws. -/
import Derived.Test.YtbabfeepmaipoaaPtCommon
namespace Go.Proofs.Ytbabfeepmaipoaa.Pt
open Go.RowKit Go.Proofs.Ytbabfeepmaipoaa.Bw Go.Proofs.Ytbabfeepmaipoaa.Bs

theorem cmpL_cons (x y : Int) (p q : List Int) : cmpL (x :: p) (y :: q) = if x < y then -1 else if y < x then 1 else cmpL p q := by
  rw [cmpL]
  unfold cmpI
  rcases Int.lt_trichotomy x y with h | h | h
  · simp [h]
  · subst h; simp
  · rw [if_neg (show ¬ x < y by omega), if_pos h, if_neg (by decide)]
    rw [if_neg (show ¬ x < y by omega), if_pos h]
theorem cmpL_vals : ∀ p q : List Int, cmpL p q = -1 ∨ cmpL p q = 0 ∨ cmpL p q = 1
  | [], [] => by simp [cmpL]
  | [], _ :: _ => by simp [cmpL]
  | _ :: _, [] => by simp [cmpL]
  | x :: p, y :: q => by
    rw [cmpL_cons]
    split
    · simp
    · split
      · simp
      · exact cmpL_vals p q
theorem cmpL_neg : ∀ p q : List Int, cmpL q p = - cmpL p q
  | [], [] => by simp [cmpL]
  | [], _ :: _ => by simp [cmpL]
  | _ :: _, [] => by simp [cmpL]
  | x :: p, y :: q => by
    rw [cmpL_cons, cmpL_cons]
    have ih := cmpL_neg p q
    rcases Int.lt_trichotomy x y with h | h | h
    · rw [if_pos h, if_neg (by omega), if_pos h]; rfl
    · subst h; simp [ih]
    · rw [if_pos h, if_neg (by omega), if_pos h]
theorem cmpL_zero : ∀ p q : List Int, cmpL p q = 0 ↔ p = q
  | [], [] => by simp [cmpL]
  | [], _ :: _ => by simp [cmpL]
  | _ :: _, [] => by simp [cmpL]
  | x :: p, y :: q => by
    rw [cmpL_cons]
    have ih := cmpL_zero p q
    rcases Int.lt_trichotomy x y with h | h | h
    · rw [if_pos h]; simp; intro e; omega
    · subst h; simp [ih]
    · rw [if_neg (by omega), if_pos h]; simp; intro e; omega
theorem cmpL_trans : ∀ p q r : List Int, cmpL p q ≤ 0 → cmpL q r ≤ 0 → cmpL p r ≤ 0 ∧ (cmpL p q < 0 → cmpL p r < 0)
  | [], [], [], _, _ => by simp [cmpL]
  | [], [], _ :: _, _, _ => by simp [cmpL]
  | [], _ :: _, [], _, h => by simp [cmpL] at h
  | [], _ :: _, _ :: _, _, _ => by simp [cmpL]
  | _ :: _, [], _, h, _ => by simp [cmpL] at h
  | _ :: _, _ :: _, [], _, h => by simp [cmpL] at h
  | x :: p, y :: q, z :: r, h1, h2 => by
    rw [cmpL_cons] at h1 h2 ⊢
    rw [cmpL_cons]
    have ih := cmpL_trans p q r
    rcases Int.lt_trichotomy x y with h | h | h
    · rcases Int.lt_trichotomy y z with h' | h' | h'
      · rw [if_pos (show x < z by omega)]; omega
      · rw [if_pos (show x < z by omega)]; omega
      · rw [if_neg (by omega), if_pos h'] at h2; omega
    · subst h
      rcases Int.lt_trichotomy x z with h' | h' | h'
      · rw [if_pos h']; omega
      · subst h'
        simp only [Int.lt_irrefl, if_false] at h1 h2 ⊢
        exact ih h1 h2
      · rw [if_neg (by omega), if_pos h'] at h2; omega
    · rw [if_neg (by omega), if_pos h] at h1; omega
theorem within_cons (x y : Int) (p q : List Int) : within (x :: p) (y :: q) = (decide (x = y) && within p q) := by
  rw [Bool.eq_iff_iff, Go.Proofs.Ytbabfeepmaipoaa.Bs.within_iff, Bool.and_eq_true, decide_eq_true_eq, Go.Proofs.Ytbabfeepmaipoaa.Bs.within_iff]
  constructor
  · rintro ⟨r, h⟩
    simp only [List.cons_append, List.cons.injEq] at h
    exact ⟨h.1.symm, r, h.2⟩
  · rintro ⟨rfl, r, rfl⟩
    exact ⟨r, rfl⟩
theorem within_no (x : Int) (p : List Int) : within (x :: p) [] = false := by simp [within]
theorem cmpL_within : ∀ p q : List Int, within p q = true → cmpL p q ≤ 0
  | [], [], _ => by simp [cmpL]
  | [], _ :: _, _ => by simp [cmpL]
  | x :: p, [], h => by rw [within_no] at h; cases h
  | x :: p, y :: q, h => by
    rw [within_cons, Bool.and_eq_true, decide_eq_true_eq] at h
    obtain ⟨rfl, h⟩ := h
    rw [cmpL_cons]
    simp only [Int.lt_irrefl, if_false]
    exact cmpL_within p q h
theorem cmpL_ahead : ∀ p q r : List Int, within p q = true → within p r = false → cmpL r p < 0 → cmpL r q < 0
  | [], _, r, _, h, _ => by rw [within_nil] at h; cases h
  | x :: p, [], _, h, _, _ => by rw [within_no] at h; cases h
  | x :: p, y :: q, [], _, _, _ => by simp [cmpL]
  | x :: p, y :: q, z :: r, h, h2, h3 => by
    rw [within_cons, Bool.and_eq_true, decide_eq_true_eq] at h
    obtain ⟨rfl, h⟩ := h
    rw [within_cons] at h2
    rw [cmpL_cons] at h3 ⊢
    rcases Int.lt_trichotomy z x with h' | h' | h'
    · rw [if_pos h']; omega
    · subst h'
      simp only [Int.lt_irrefl, if_false] at h3 ⊢
      simp only [decide_true, Bool.true_and] at h2
      exact cmpL_ahead p q r h h2 h3
    · rw [if_neg (by omega), if_pos h'] at h3; omega
end Go.Proofs.Ytbabfeepmaipoaa.Pt
