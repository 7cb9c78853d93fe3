/- Plain laws: what is put at a path is there; put back, the tree is what it was; sizes. -/
import Derived.Test.YtamkgdkoddoehaaBwPut
namespace Go.Proofs.Ytamkgdkoddoehaa.Bw
open Go.RowKit

theorem put_split {t x a : Nd} {i : Int} {p : List Int} (h : t.put (i :: p) x = some a) : ∃ (m : Nat) (k k' : Nd), i = m ∧ t.kids[m]? = some k ∧ k.put p x = some k' ∧ a = t.withKids (t.kids.set m k') := by
  by_cases hc : i < 0 ∨ (t.kids.length : Int) ≤ i
  · rw [put_out hc] at h; cases h
  · obtain ⟨m, rfl⟩ := Int.eq_ofNat_of_zero_le (show 0 ≤ i by omega)
    obtain ⟨k, hk⟩ : ∃ k, t.kids[m]? = some k := ⟨_, List.getElem?_eq_getElem (by omega)⟩
    cases hp : k.put p x with
    | none => rw [put_none hk hp] at h; cases h
    | some k' =>
      rw [put_some hk hp] at h
      cases h
      exact ⟨m, k, k', rfl, hk, hp, rfl⟩
theorem withKids_kids (t : Nd) (l : List Nd) : (t.withKids l).kids = l := rfl
theorem withKids_self (t : Nd) : t.withKids t.kids = t := by cases t; rfl
theorem withKids_twice (t : Nd) (l m : List Nd) : (t.withKids l).withKids m = t.withKids m := rfl

theorem put_at : ∀ (p : List Int) (t x a : Nd), t.put p x = some a → a.at? p = some x
  | [], t, x, a, h => by rw [put_nil] at h; cases h; exact at_nil
  | i :: p, t, x, a, h => by
    obtain ⟨m, k, k', rfl, hk, hp, rfl⟩ := put_split h
    have hm := (List.getElem?_eq_some_iff.1 hk).1
    rw [at_some (k := k') (by omega) (by rw [Int.toNat_natCast, withKids_kids]; simp [hm])]
    exact put_at p k x k' hp

theorem put_back : ∀ (p : List Int) (t x a b : Nd), t.put p x = some a → t.at? p = some b → a.put p b = some t
  | [], t, x, a, b, h, hb => by rw [at_nil] at hb; cases hb; exact put_nil
  | i :: p, t, x, a, b, h, hb => by
    obtain ⟨m, k, k', rfl, hk, hp, rfl⟩ := put_split h
    have hm := (List.getElem?_eq_some_iff.1 hk).1
    rw [at_some (by omega) (by rw [Int.toNat_natCast]; exact hk)] at hb
    have hr := put_back p k x k' b hp hb
    rw [put_some (t := t.withKids (t.kids.set m k')) (k := k') (k' := k) (by rw [withKids_kids]; simp [hm]) hr, withKids_twice, withKids_kids, List.set_set]
    have : t.kids.set m k = t.kids := by
      apply List.ext_getElem?
      intro j
      rw [List.getElem?_set]
      split
      · rename_i hj; subst hj; rw [hk]
      · rfl
    rw [this, withKids_self]

theorem cntK_set : ∀ (l : List Nd) (m : Nat) (k k' : Nd), l[m]? = some k → cntK (l.set m k') + k.cnt = cntK l + k'.cnt
  | y :: r, 0, k, k', h => by
    simp only [List.getElem?_cons_zero, Option.some.injEq] at h
    subst h
    rw [List.set_cons_zero, cntK, cntK]; omega
  | y :: r, m + 1, k, k', h => by
    have := cntK_set r m k k' (by simpa using h)
    rw [List.set_cons_succ, cntK, cntK]; omega
theorem wtK_set : ∀ (l : List Nd) (m : Nat) (k k' : Nd), l[m]? = some k → wtK (l.set m k') + k.wt = wtK l + k'.wt
  | y :: r, 0, k, k', h => by
    simp only [List.getElem?_cons_zero, Option.some.injEq] at h
    subst h
    rw [List.set_cons_zero, wtK, wtK]; omega
  | y :: r, m + 1, k, k', h => by
    have := wtK_set r m k k' (by simpa using h)
    rw [List.set_cons_succ, wtK, wtK]; omega

theorem put_cnt : ∀ (p : List Int) (t x a b : Nd), t.put p x = some a → t.at? p = some b → a.cnt + b.cnt = t.cnt + x.cnt
  | [], t, x, a, b, h, hb => by rw [at_nil] at hb; rw [put_nil] at h; cases hb; cases h; omega
  | i :: p, t, x, a, b, h, hb => by
    obtain ⟨m, k, k', rfl, hk, hp, rfl⟩ := put_split h
    rw [at_some (by omega) (by rw [Int.toNat_natCast]; exact hk)] at hb
    have h1 := put_cnt p k x k' b hp hb
    have h2 := cntK_set t.kids m k k' hk
    rw [Nd.cnt_eq (t.withKids _), withKids_kids, Nd.cnt_eq t]
    omega
theorem put_wt : ∀ (p : List Int) (t x a b : Nd), t.put p x = some a → t.at? p = some b → a.wt + b.wt = t.wt + x.wt
  | [], t, x, a, b, h, hb => by rw [at_nil] at hb; rw [put_nil] at h; cases hb; cases h; omega
  | i :: p, t, x, a, b, h, hb => by
    obtain ⟨m, k, k', rfl, hk, hp, rfl⟩ := put_split h
    rw [at_some (by omega) (by rw [Int.toNat_natCast]; exact hk)] at hb
    have h1 := put_wt p k x k' b hp hb
    have h2 := wtK_set t.kids m k k' hk
    rw [Nd.wt_eq (t.withKids _), withKids_kids, Nd.wt_eq t]
    show 1 + t.label.size + t.text.size + wtA t.attrs + _ + _ = _
    omega
end Go.Proofs.Ytamkgdkoddoehaa.Bw
