/- Chapter 05: the document's norm. -/
import Derived.Test.YtmncjknfkkedmaaLxDone
namespace Go.Proofs.Ytmncjknfkkedmaa.Lx
open Go.RowKit Go.Proofs.Ytmncjknfkkedmaa.Bw Go.Proofs.Ytmncjknfkkedmaa.Bs

theorem onLast_onLast (f g : Pc → Pc) : ∀ l : List Pc, onLast g (onLast f l) = onLast (fun p => g (f p)) l
  | [] => rfl
  | [_] => rfl
  | x :: y :: r => by
    have h := onLast_onLast f g (y :: r)
    have hne : onLast f (y :: r) ≠ [] := by
      intro h0
      have := onLast_len f (y :: r)
      rw [h0] at this; simp at this
    obtain ⟨z, t, hzt⟩ := List.exists_cons_of_ne_nil hne
    show onLast g (x :: onLast f (y :: r)) = x :: onLast (fun p => g (f p)) (y :: r)
    rw [← h, hzt]
    rfl
theorem onLast_ne {f : Pc → Pc} {l : List Pc} (h : l ≠ []) : onLast f l ≠ [] := by
  intro h0
  have := onLast_len f l
  rw [h0] at this
  exact h (List.eq_nil_of_length_eq_zero (by simpa using this.symm))
theorem onLast_id {f : Pc → Pc} (hf : ∀ p, f p = p) : ∀ l : List Pc, onLast f l = l
  | [] => rfl
  | [p] => by show [f p] = _; rw [hf]
  | x :: y :: r => by show x :: onLast f (y :: r) = _; rw [onLast_id hf]
theorem bytes_empty {s : ByteArray} (h : s.size = 0) : s = ⟨#[]⟩ := by
  obtain ⟨d⟩ := s
  congr
  exact Array.eq_empty_of_size_eq_zero h
theorem append_none {s t : ByteArray} (h : t.size = 0) : s ++ t = s := by
  rw [bytes_empty h]; exact ByteArray.append_empty
/-- What the document does with a piece. -/
theorem piece_ref (m : Mk) (p : Pc) (hk : 0 ≤ m.keep) (hp : 0 ≤ p.keep) (hd : 0 ≤ p.drop) : m.piece p =
    if p.put.size = 0 ∧ p.drop = 0 then m.more p.keep
    else if m.keep + p.keep = 0 ∧ m.l ≠ [] then ⟨onLast (fun q => { q with put := q.put ++ p.put, drop := q.drop + p.drop }) m.l, 0⟩
    else ⟨m.l ++ [⟨m.keep + p.keep, p.drop, p.put⟩], 0⟩ := by
  rw [Mk.piece_eq]
  obtain ⟨l, k⟩ := m
  obtain ⟨pk, pd, pp⟩ := p
  simp only at hk hp hd ⊢
  have hK : 0 ≤ k + pk := by omega
  show ((Mk.mk l (k + pk)).put pp).drop pd = _
  by_cases h1 : pp.size = 0
  · have hput : (Mk.mk l (k + pk)).put pp = ⟨l, k + pk⟩ := if_neg (by omega)
    rw [hput]
    by_cases h2 : pd = 0
    · rw [if_pos ⟨h1, h2⟩]
      exact if_neg (by omega)
    · rw [if_neg (fun h => h2 h.2)]
      have hdr : (Mk.mk l (k + pk)).drop pd = ⟨onLast (fun p => { p with drop := p.drop + pd }) (Mk.mk l (k + pk)).last.l, (Mk.mk l (k + pk)).last.keep⟩ := if_pos (by omega)
      rw [hdr]
      by_cases h3 : k + pk = 0 ∧ l ≠ []
      · rw [if_pos h3]
        have hl : (Mk.mk l (k + pk)).last = ⟨l, k + pk⟩ := if_neg (fun h => h.elim (fun h => by have := h3.1; simp only at h; omega) (fun h => h3.2 h))
        rw [hl, h3.1]
        simp only [append_none h1]
      · rw [if_neg h3]
        have hl : (Mk.mk l (k + pk)).last = ⟨l ++ [⟨k + pk, 0, ⟨#[]⟩⟩], 0⟩ := if_pos (by
          by_cases h : l = []
          · exact .inr h
          · exact .inl (by show 0 < k + pk; have : ¬ (k + pk = 0) := fun h' => h3 ⟨h', h⟩; omega))
        rw [hl, onLast_snoc, bytes_empty h1]
        simp
  · rw [if_neg (fun h => h1 h.1)]
    have hput : (Mk.mk l (k + pk)).put pp = ⟨onLast (fun p => { p with put := p.put ++ pp }) (Mk.mk l (k + pk)).last.l, (Mk.mk l (k + pk)).last.keep⟩ := if_pos (by omega)
    by_cases h3 : k + pk = 0 ∧ l ≠ []
    · rw [if_pos h3]
      have hl : (Mk.mk l (k + pk)).last = ⟨l, k + pk⟩ := if_neg (fun h => h.elim (fun h => by have := h3.1; simp only at h; omega) (fun h => h3.2 h))
      rw [hput, hl, h3.1]
      by_cases h2 : pd = 0
      · have hdr : (Mk.mk (onLast (fun p => { p with put := p.put ++ pp }) l) 0).drop pd = ⟨onLast (fun p => { p with put := p.put ++ pp }) l, 0⟩ := if_neg (by omega)
        rw [hdr, h2]
        simp
      · have hdr : (Mk.mk (onLast (fun p => { p with put := p.put ++ pp }) l) 0).drop pd = ⟨onLast (fun p => { p with drop := p.drop + pd }) (Mk.mk (onLast (fun p => { p with put := p.put ++ pp }) l) 0).last.l, (Mk.mk (onLast (fun p => { p with put := p.put ++ pp }) l) 0).last.keep⟩ := if_pos (by omega)
        have hl2 : (Mk.mk (onLast (fun p => { p with put := p.put ++ pp }) l) 0).last = ⟨onLast (fun p => { p with put := p.put ++ pp }) l, 0⟩ := if_neg (fun h => h.elim (fun h => by simp only at h; omega) (fun h => onLast_ne h3.2 h))
        rw [hdr, hl2, onLast_onLast]
    · rw [if_neg h3]
      have hl : (Mk.mk l (k + pk)).last = ⟨l ++ [⟨k + pk, 0, ⟨#[]⟩⟩], 0⟩ := if_pos (by
        by_cases h : l = []
        · exact .inr h
        · exact .inl (by show 0 < k + pk; have : ¬ (k + pk = 0) := fun h' => h3 ⟨h', h⟩; omega))
      rw [hput, hl, onLast_snoc]
      have e0 : (⟨#[]⟩ : ByteArray) ++ pp = pp := ByteArray.empty_append
      simp only [e0]
      by_cases h2 : pd = 0
      · have hdr : (Mk.mk (l ++ [⟨k + pk, 0, pp⟩]) 0).drop pd = ⟨l ++ [⟨k + pk, 0, pp⟩], 0⟩ := if_neg (by omega)
        rw [hdr, h2]
      · have hdr : (Mk.mk (l ++ [⟨k + pk, 0, pp⟩]) 0).drop pd = ⟨onLast (fun p => { p with drop := p.drop + pd }) (Mk.mk (l ++ [⟨k + pk, 0, pp⟩]) 0).last.l, (Mk.mk (l ++ [⟨k + pk, 0, pp⟩]) 0).last.keep⟩ := if_pos (by omega)
        have hl2 : (Mk.mk (l ++ [⟨k + pk, 0, pp⟩]) 0).last = ⟨l ++ [⟨k + pk, 0, pp⟩], 0⟩ := if_neg (fun h => h.elim (fun h => by simp only at h; omega) (fun h => by simp at h))
        rw [hdr, hl2, onLast_snoc]
        simp
end Go.Proofs.Ytmncjknfkkedmaa.Lx
