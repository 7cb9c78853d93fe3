/- Chapter 10: bare operations are made fewer as they were. -/
import Derived.Test.YtkimbpeapolcbaaSyOuSame
namespace Go.Proofs.Ytkimbpeapolcbaa.Sy
open Go.RowKit Go.Proofs.Ytkimbpeapolcbaa.Bw Go.Proofs.Ytkimbpeapolcbaa.Bs

theorem bare_kind (o : OpD) : (bareD o).kind = o.kind := by
  unfold bareD
  repeat' split
  all_goals first | rfl | (dsimp only; exact Eq.symm ‹_›)
theorem bare1 {o : OpD} (h : o.kind = 1) : bareD o = ⟨1, o.path, o.at_, [], o.id, o.leaf, o.label, ⟨#[]⟩, ⟨#[]⟩, false, []⟩ := by unfold bareD; rw [if_pos h]
theorem bare2 {o : OpD} (h : o.kind = 2) : bareD o = ⟨2, o.path, 0, [], 0, false, ⟨#[]⟩, ⟨#[]⟩, ⟨#[]⟩, false, []⟩ := by unfold bareD; rw [if_neg (by omega), if_pos h]
theorem bare3 {o : OpD} (h : o.kind = 3) : bareD o = ⟨3, o.path, o.at_, o.to, 0, false, ⟨#[]⟩, ⟨#[]⟩, ⟨#[]⟩, false, []⟩ := by unfold bareD; rw [if_neg (by omega), if_neg (by omega), if_pos h]
theorem bare4 {o : OpD} (h : o.kind = 4) : bareD o = ⟨4, o.path, 0, [], 0, false, ⟨#[]⟩, o.key, if o.gone then ⟨#[]⟩ else o.value, o.gone, []⟩ := by unfold bareD; rw [if_neg (by omega), if_neg (by omega), if_neg (by omega), if_pos h]
theorem bare5 {o : OpD} (h : o.kind = 5) : bareD o = ⟨5, o.path, 0, [], 0, false, o.label, ⟨#[]⟩, ⟨#[]⟩, false, []⟩ := by unfold bareD; rw [if_neg (by omega), if_neg (by omega), if_neg (by omega), if_neg (by omega), if_pos h]
theorem bare6 {o : OpD} (h : o.kind = 6) : bareD o = ⟨6, o.path, 0, [], 0, false, ⟨#[]⟩, ⟨#[]⟩, ⟨#[]⟩, false, o.pcs⟩ := by unfold bareD; rw [if_neg (by omega), if_neg (by omega), if_neg (by omega), if_neg (by omega), if_neg (by omega), if_pos h]
theorem formed_kind {o : OpD} (h : o.formed = true) : o.kind = 1 ∨ o.kind = 2 ∨ o.kind = 3 ∨ o.kind = 4 ∨ o.kind = 5 ∨ o.kind = 6 := by
  unfold OpD.formed at h
  rw [Bool.and_eq_true] at h
  obtain ⟨-, h⟩ := h
  by_cases h1 : o.kind = 1
  · exact .inl h1
  by_cases h2 : o.kind = 2
  · exact .inr (.inl h2)
  by_cases h3 : o.kind = 3
  · exact .inr (.inr (.inl h3))
  by_cases h4 : o.kind = 4
  · exact .inr (.inr (.inr (.inl h4)))
  by_cases h5 : o.kind = 5
  · exact .inr (.inr (.inr (.inr (.inl h5))))
  by_cases h6 : o.kind = 6
  · exact .inr (.inr (.inr (.inr (.inr h6))))
  simp [h1, h2, h3, h4, h5, h6] at h
theorem bare_path {o : OpD} (h : o.kind = 1 ∨ o.kind = 2 ∨ o.kind = 3 ∨ o.kind = 4 ∨ o.kind = 5 ∨ o.kind = 6) : (bareD o).path = o.path := by
  rcases h with h | h | h | h | h | h
  · rw [bare1 h]
  · rw [bare2 h]
  · rw [bare3 h]
  · rw [bare4 h]
  · rw [bare5 h]
  · rw [bare6 h]
theorem formed_bare (o : OpD) : (bareD o).formed = o.formed := by
  by_cases h1 : o.kind = 1
  · rw [bare1 h1]; simp [OpD.formed, h1]
  by_cases h2 : o.kind = 2
  · rw [bare2 h2]; simp [OpD.formed, h2]
  by_cases h3 : o.kind = 3
  · rw [bare3 h3]; simp [OpD.formed, h3]
  by_cases h4 : o.kind = 4
  · rw [bare4 h4]
    cases hg : o.gone <;> simp [OpD.formed, h4, hg]
  by_cases h5 : o.kind = 5
  · rw [bare5 h5]; simp [OpD.formed, h5]
  by_cases h6 : o.kind = 6
  · rw [bare6 h6]; simp [OpD.formed, h6]
  have hb := bare_kind o
  simp only [OpD.formed, hb, if_neg h1, if_neg h2, if_neg h3, if_neg h4, if_neg h5, if_neg h6, Bool.and_false]
theorem idle_bare (o : OpD) : idleD (bareD o) = idleD o := by
  unfold idleD
  rw [formed_bare, bare_kind]
  by_cases h6 : o.kind = 6
  · rw [if_pos h6, if_pos h6, bare6 h6]
  rw [if_neg h6, if_neg h6]
  by_cases h3 : o.kind = 3
  · rw [if_pos h3, if_pos h3, bare3 h3]; rfl
  rw [if_neg h3, if_neg h3]
theorem busy_bare (o : OpD) : busyD (bareD o) = busyD o := by unfold busyD; rw [formed_bare, idle_bare]
theorem busy_formed {o : OpD} (h : busyD o = true) : o.formed = true := by
  unfold busyD at h
  rw [Bool.and_eq_true] at h
  exact h.1
/-- Bare operations are made fewer as they were. -/
theorem pairD_bare (a b : OpD) : pairD (bareD a) (bareD b) = pairD a b := by
  unfold pairD
  rw [busy_bare, busy_bare]
  cases ha : busyD a with
  | false => rfl
  | true =>
  cases hb : busyD b with
  | false => rfl
  | true =>
  have ka := formed_kind (busy_formed ha)
  have kb := formed_kind (busy_formed hb)
  have pa := bare_path ka
  have pb := bare_path kb
  show pairT (bareD a) (bareD b) = pairT a b
  unfold pairT
  have hi : insHit (bareD a) (bareD b) ↔ insHit a b := by
    unfold insHit
    rw [bare_kind, pa, pb]
    constructor
    · rintro ⟨h1, h2⟩
      rw [bare1 h1] at h2
      exact ⟨h1, h2⟩
    · rintro ⟨h1, h2⟩
      rw [bare1 h1]
      exact ⟨h1, h2⟩
  have kk : ∀ (o : OpD) (n : Int), (bareD o).kind = n ↔ o.kind = n := fun o n => by rw [bare_kind]
  have e1 : a.kind = 1 → ∀ lb, bareD { bareD a with label := lb } = bareD { a with label := lb } := fun h1 lb => by
    rw [bare1 (o := { a with label := lb }) h1, bare1 (o := { bareD a with label := lb }) (by show (bareD a).kind = 1; rw [bare_kind]; exact h1)]
    rw [bare1 h1]
  have e5 : b.kind = 5 → (bareD b).label = b.label := fun h => by rw [bare5 h]
  by_cases c1 : insHit a b ∧ b.kind = 2
  · rw [if_pos c1, if_pos (show insHit (bareD a) (bareD b) ∧ (bareD b).kind = 2 from ⟨hi.2 c1.1, (kk _ _).2 c1.2⟩)]
  rw [if_neg c1, if_neg (show ¬ (insHit (bareD a) (bareD b) ∧ (bareD b).kind = 2) from fun h => c1 ⟨hi.1 h.1, (kk _ _).1 h.2⟩)]
  by_cases c2 : insHit a b ∧ b.kind = 5
  · rw [if_pos c2, if_pos (show insHit (bareD a) (bareD b) ∧ (bareD b).kind = 5 from ⟨hi.2 c2.1, (kk _ _).2 c2.2⟩), e1 c2.1.1, e5 c2.2]
  rw [if_neg c2, if_neg (show ¬ (insHit (bareD a) (bareD b) ∧ (bareD b).kind = 5) from fun h => c2 ⟨hi.1 h.1, (kk _ _).1 h.2⟩)]
  by_cases c3 : a.kind = b.kind ∧ a.path = b.path
  · rw [if_pos c3, if_pos (show (bareD a).kind = (bareD b).kind ∧ (bareD a).path = (bareD b).path from ⟨by rw [bare_kind, bare_kind]; exact c3.1, by rw [pa, pb]; exact c3.2⟩)]
    unfold pairS
    rw [bareD_bare]
    by_cases k5 : a.kind = 5
    · rw [if_pos k5, if_pos ((kk _ _).2 k5)]
    rw [if_neg k5, if_neg (fun h => k5 ((kk _ _).1 h))]
    by_cases k4 : a.kind = 4
    · rw [if_pos k4, if_pos ((kk _ _).2 k4)]
      have kb4 : b.kind = 4 := by rw [← c3.1]; exact k4
      have e1 : (bareD a).key = a.key := by rw [bare4 k4]
      have e2 : (bareD b).key = b.key := by rw [bare4 kb4]
      rw [e1, e2]
    rw [if_neg k4, if_neg (fun h => k4 ((kk _ _).1 h))]
    by_cases k6 : a.kind = 6
    · rw [if_pos k6, if_pos ((kk _ _).2 k6)]
      have kb6 : b.kind = 6 := by rw [← c3.1]; exact k6
      have e1 : (bareD a).pcs = a.pcs := by rw [bare6 k6]
      have e2 : (bareD b).pcs = b.pcs := by rw [bare6 kb6]
      have e3 : ∀ l, bareD { bareD b with pcs := l } = bareD { b with pcs := l } := fun l => by
        rw [bare6 (o := { b with pcs := l }) kb6, bare6 (o := { bareD b with pcs := l }) (by show (bareD b).kind = 6; rw [bare_kind]; exact kb6), bare6 kb6]
      rw [e1, e2]
      simp only [e3]
    rw [if_neg k6, if_neg (fun h => k6 ((kk _ _).1 h))]
  · rw [if_neg c3, if_neg (show ¬ ((bareD a).kind = (bareD b).kind ∧ (bareD a).path = (bareD b).path) from fun h => c3 ⟨by rw [← bare_kind a, ← bare_kind b]; exact h.1, by rw [← pa, ← pb]; exact h.2⟩)]
end Go.Proofs.Ytkimbpeapolcbaa.Sy
