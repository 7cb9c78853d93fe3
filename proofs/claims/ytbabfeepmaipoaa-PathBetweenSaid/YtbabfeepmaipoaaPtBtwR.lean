/- Chapter 04: the shift between two paths, the document's: the plain law. -/
import Derived.Test.YtbabfeepmaipoaaPtCommon
namespace Go.Proofs.Ytbabfeepmaipoaa.Pt
open Go.RowKit Go.Proofs.Ytbabfeepmaipoaa.Bw Go.Proofs.Ytbabfeepmaipoaa.Bs

theorem btw_later : ∀ (p q : List Int) (i : Nat) (a : Int), p.length = q.length → 0 ≤ a → btw p q i a = if comm p q = p.length then some a else none
  | [], [], _, _, _, _ => by simp [btw, comm]
  | [], _ :: _, _, _, h, _ => by simp at h
  | _ :: _, [], _, _, h, _ => by simp at h
  | x :: p, y :: q, i, a, h, ha => by
    have hl : p.length = q.length := by simpa using h
    rw [btw, comm]
    by_cases hxy : x = y
    · rw [if_pos hxy, if_pos hxy, btw_later p q (i + 1) a hl ha]
      have e : (1 + comm p q = (x :: p).length) = (comm p q = p.length) := by simp only [List.length_cons]; apply propext; omega
      simp only [e]
    · rw [if_neg hxy, if_neg hxy, if_pos ha, if_neg (by simp)]
theorem btw_first : ∀ (p q : List Int) (i : Nat), p.length = q.length → btw p q i (-1) = if comm p q = p.length then some (-1)
      else if comm (p.drop (comm p q + 1)) (q.drop (comm p q + 1)) = p.length - comm p q - 1 then some ((i + comm p q : Nat) : Int) else none
  | [], [], _, _ => by simp [btw, comm]
  | [], _ :: _, _, h => by simp at h
  | _ :: _, [], _, h => by simp at h
  | x :: p, y :: q, i, h => by
    have hl : p.length = q.length := by simpa using h
    rw [btw, comm]
    by_cases hxy : x = y
    · rw [if_pos hxy, if_pos hxy, btw_first p q (i + 1) hl]
      have e : (1 + comm p q = (x :: p).length) = (comm p q = p.length) := by simp only [List.length_cons]; apply propext; omega
      have e2 : ∀ (z : Int) (l : List Int), (z :: l).drop (1 + comm p q + 1) = l.drop (comm p q + 1) := fun z l => by
        rw [show 1 + comm p q + 1 = (comm p q + 1) + 1 by omega, List.drop_succ_cons]
      have e3 : (x :: p).length - (1 + comm p q) - 1 = p.length - comm p q - 1 := by simp only [List.length_cons]; omega
      have e4 : i + (1 + comm p q) = i + 1 + comm p q := by omega
      simp only [e, e2, e3, e4]
    · rw [if_neg hxy, if_neg hxy, if_neg (by omega), btw_later p q (i + 1) i hl (by omega), if_neg (show ¬ (0 = (x :: p).length) by simp)]
      have e5 : (x :: p).length - 0 - 1 = p.length := by simp
      simp only [Nat.zero_add, List.drop_succ_cons, List.drop_zero, e5, Nat.add_zero]
/-- The document's way. -/
theorem between_comm {p q : List Int} (hl : p.length = q.length) (h1 : may p = true) (h2 : may q = true) : between p q = if comm p q = p.length then none
    else if comm (p.drop (comm p q + 1)) (q.drop (comm p q + 1)) = p.length - comm p q - 1 then some (fOf (q.getD (comm p q) 0 - p.getD (comm p q) 0), fOf (comm p q : Nat)) else none := by
  unfold between
  rw [if_pos ⟨hl, h1, h2⟩, btw_first p q 0 hl]
  by_cases hc : comm p q = p.length
  · rw [if_pos hc, if_pos hc]
    exact if_pos (by omega)
  · rw [if_neg hc, if_neg hc]
    by_cases hd : comm (p.drop (comm p q + 1)) (q.drop (comm p q + 1)) = p.length - comm p q - 1
    · rw [if_pos hd, if_pos hd]
      simp only [Nat.zero_add, Int.toNat_natCast]
      exact if_neg (by omega)
    · rw [if_neg hd, if_neg hd]
end Go.Proofs.Ytbabfeepmaipoaa.Pt
