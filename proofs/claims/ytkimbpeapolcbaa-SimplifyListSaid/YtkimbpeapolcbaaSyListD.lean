/- Chapter 10: a list, simplified, in plain Lean. (Printed by gsylist.py.) -/
import Derived.Test.YtkimbpeapolcbaaSyOuSame
namespace Go.Proofs.Ytkimbpeapolcbaa.Sy
open Go.RowKit Go.Proofs.Ytkimbpeapolcbaa.Bw Go.Proofs.Ytkimbpeapolcbaa.Bs

/-- A list, the last one first: its last two are made fewer as long as they can be. -/
def redF : Nat → List OpD → List OpD
  | k + 1, y :: x :: r => match pairD x y with
    | none => y :: x :: r
    | some l => redF k (l.reverse ++ r)
  | _, s => s
def stepD (s : List OpD) (o : OpD) : List OpD := if idleD o then s else redF (s.length + 1) (bareD o :: s)
def stepsD (s l : List OpD) : List OpD := l.foldl stepD s
/-- A list, simplified. -/
def listD (l : List OpD) : List OpD := (stepsD [] l).reverse
def lenOf : Value → Nat
  | .slice _ n _ => n
  | _ => 0
theorem redF_small (k : Nat) {s : List OpD} (h : s.length ≤ 1) : redF k s = s := by
  match k, s, h with
  | 0, s, _ => unfold redF; rfl
  | k + 1, [], _ => rfl
  | k + 1, [y], _ => rfl
  | k + 1, y :: x :: r, h => exact absurd h (by simp)
def redO (k : Nat) (x y : OpD) (r : List OpD) : Option (List OpD) → List OpD
  | none => y :: x :: r
  | some l => redF k (l.reverse ++ r)
theorem redF_two (k : Nat) (x y : OpD) (r : List OpD) : redF (k + 1) (y :: x :: r) = redO k x y r (pairD x y) := by
  unfold redF
  cases pairD x y <;> rfl
theorem stepsD_cons (s : List OpD) (o : OpD) (l : List OpD) : stepsD s (o :: l) = stepsD (stepD s o) l := rfl
theorem bareD_len2 {o : OpD} (h : OkLen o) : OkLen (bareD o) := by
  obtain ⟨h1, h2, h3⟩ := h
  obtain ⟨k1, k2, k3⟩ := bareD_len o
  exact ⟨Nat.le_trans k1 h1, Nat.le_trans k2 h2, Nat.le_trans k3 h3⟩
theorem pairD_ok {a b : OpD} {l : List OpD} (h : pairD a b = some l) (ha : OkLen a) (hb : OkLen b) : l.length ≤ 1 ∧ ∀ o ∈ l, OkLen o := by
  unfold pairD at h
  split at h
  · unfold pairT at h
    split at h
    · cases h; exact ⟨Nat.zero_le _, fun o ho => absurd ho List.not_mem_nil⟩
    · split at h
      · cases h
        exact ⟨Nat.le_refl _, fun o ho => by rw [List.mem_singleton] at ho; subst ho; exact bareD_len2 ha⟩
      · split at h
        · unfold pairS at h
          split at h
          · cases h; exact ⟨Nat.le_refl _, fun o ho => by rw [List.mem_singleton] at ho; subst ho; exact bareD_len2 hb⟩
          · split at h
            · split at h
              · cases h; exact ⟨Nat.le_refl _, fun o ho => by rw [List.mem_singleton] at ho; subst ho; exact bareD_len2 hb⟩
              · cases h
            · split at h
              · split at h
                · split at h
                  · cases h; exact ⟨Nat.zero_le _, fun o ho => absurd ho List.not_mem_nil⟩
                  · cases h; exact ⟨Nat.le_refl _, fun o ho => by rw [List.mem_singleton] at ho; subst ho; exact bareD_len2 ⟨hb.1, hb.2.1, coL_len _ _⟩⟩
                · cases h
              · cases h
        · cases h
  · cases h
theorem last_two {L : List OpD} {x y : OpD} {r : List OpD} (h : L.reverse = y :: x :: r) : L = r.reverse ++ [x, y] := by
  have := congrArg List.reverse h
  rw [List.reverse_reverse] at this
  rw [this]
  simp
theorem take_rowCells {α : Type} {R : World → α → Value → Prop} {sz : Nat} {W : World} : ∀ (l m : List α) (us : List Value), rowCells R sz W (l ++ m) us → rowCells R sz W l (us.take (l.length * sz))
  | [], m, us, _ => by simp [rowCells]
  | x :: l, m, us, h => by
    obtain ⟨cs, us', h1, h2, rfl, h4⟩ := h
    have ih := take_rowCells l m us' h4
    refine ⟨cs, us'.take (l.length * sz), h1, h2, ?_, ih⟩
    rw [List.length_cons, Nat.succ_mul, List.take_append, h1, Nat.add_sub_cancel, List.take_of_length_le (by omega)]
/-- The first ones of an owned list. -/
theorem rowV2.front {α : Type} {R : World → α → Value → Prop} {t sz lo : Nat} {l m : List α} {A : Option Addr} {c n : Nat} {W : World} (h : rowV2 R t sz lo (l ++ m) (.slice A n c) W) : ∃ us, W.ownsRow lo t sz (.slice A l.length c) l.length us ∧ Late (rowS lo (.slice A l.length c)) (fun W => rowCells R sz W l us) W := by
  obtain ⟨us, h1, h2⟩ := h
  refine ⟨us.take (l.length * sz), ?_, ?_⟩
  · have hl := h1.1
    refine ⟨?_, ?_⟩
    · rw [List.length_take, hl, List.length_append, Nat.add_mul]
      omega
    · rcases h1.2 with ⟨k1, k2⟩ | ⟨g, cap, cur, k1, k2, k3, k4, k5, k6, k7⟩
      · rw [List.length_append] at k2
        have hz : l.length = 0 := by omega
        cases k1
        exact .inl ⟨by rw [hz], hz⟩
      · cases k1
        refine .inr ⟨g, c, cur, rfl, k2, k3, ?_, k5, k6, ?_⟩
        · rw [List.length_append] at k4; omega
        · rw [← k7, List.take_take]
          congr 1
          rw [List.length_append, Nat.add_mul]
          omega
  · refine (h2.sub (fun k hk => ?_)).imp fun W2 h => take_rowCells l m us h
    rcases hk with hk | hk
    · exact .inl hk
    · refine .inr ?_
      cases A with
      | none => cases hk
      | some a => exact hk
theorem OpO.lateRow {lo lo' n : Nat} {W : World} {o : OpD} {u v : Value} {us : List Value} (h : OpO 35 lo' W o u) (k : OkO o) (hr : W.ownsRow lo 26 11 v n us) (hl : lo ≤ lo') : Late (rowS lo v) (fun W => o.rd W u) W := by
  intro W2 F
  obtain ⟨pA, pc, tA, tc, cA, cc, rfl, k1, k2, k3⟩ := h
  refine OpO.rd (tp := 35) (lo := lo') ⟨_, _, _, _, _, _, rfl, owns_fr F k1 (fun b hb hk => ?_), owns_fr F k2 (fun b hb hk => ?_), owns_fr F k3 (fun b hb hk => ?_)⟩ k
  · exact hk.elim (fun h => absurd (owns_base k1 b hb) (Nat.not_le.2 (Nat.lt_of_lt_of_le h hl))) (fun h => owns_apart hr k1 (by decide) h hb)
  · exact hk.elim (fun h => absurd (owns_base k2 b hb) (Nat.not_le.2 (Nat.lt_of_lt_of_le h hl))) (fun h => owns_apart hr k2 (by decide) h hb)
  · exact hk.elim (fun h => absurd (owns_base k3 b hb) (Nat.not_le.2 (Nat.lt_of_lt_of_le h hl))) (fun h => owns_apart hr k3 (by decide) h hb)
theorem rowV2.push {lo : Nat} {l : List OpD} {o : OpD} {v v4 : Value} {us cs : List Value} {w w4 : World} (h2 : Late (rowS lo v) (fun W => rowCells RdO 11 W l us) w) (hcs : cs.length = 11)
    (hx : Late (rowS lo v) (fun W => o.rd W (.agg cs.toArray)) w) (hg : w.grownBy w4 v.ownBlock) (hat : v4.ownBlock = v.ownBlock ∨ v4.ownBlock = some w.heap.size)
    (h4 : w4.ownsRow lo 26 11 v4 (l.length + 1) (us ++ cs)) : rowV2 RdO 26 11 lo (l ++ [o]) v4 w4 :=
  rowV2.app h2 (m := [o]) (hx.imp fun _ h => ⟨cs, [], hcs, h, (List.append_nil _).symm, rfl⟩) hg hat h4
end Go.Proofs.Ytkimbpeapolcbaa.Sy
