/- SyShiftN turned to this seat. (Printed by gport.py.) -/
import Derived.Test.YtdnjkffmgmbfmaaHyShiftU
namespace Go.Proofs.Ytdnjkffmgmbfmaa.Sy
open Go.RowKit Go.Proofs.Ytdnjkffmgmbfmaa.Bw Go.Proofs.Ytdnjkffmgmbfmaa.Bs
theorem fK_len {s : Sh} {nid : Int} {p L : List Int} (h1 : s.takes = true → p = s.from_ → 0 ≤ s.num ∧ s.num < L.length) (h2 : s.puts = true → p = s.goal → 0 ≤ s.gap ∧ s.gap ≤ L.length) :
  ((fK s nid p L).length : Int) = L.length - (if s.takes = true ∧ p = s.from_ then 1 else 0) + (if s.puts = true ∧ p = s.goal then 1 else 0) := by
 unfold fK
 by_cases ht : s.takes = true ∧ p = s.from_
 ·obtain ⟨n0, n1⟩ := h1 ht.1 ht.2
  have hd := delL_len (L := L) (i := s.num.toNat) (by omega)
  rw [if_pos ht, if_pos ht]
  by_cases hp : s.puts = true ∧ p = s.goal
  ·obtain ⟨g0, g1⟩ := h2 hp.1 hp.2
   have hgi : (gapI s p).toNat ≤ (delL L s.num.toNat).length := by
    unfold gapI
    by_cases h : s.takes = true ∧ p = s.from_ ∧ s.num < s.gap
    ·rw [if_pos h]; omega
    ·rw [if_neg h]
     have : ¬ s.num < s.gap := fun h9 => h ⟨ht.1, ht.2, h9⟩
     omega
   rw [if_pos hp, if_pos hp, insL_len hgi]
   omega
  ·rw [if_neg hp, if_neg hp]
   omega
 ·rw [if_neg ht, if_neg ht]
  by_cases hp : s.puts = true ∧ p = s.goal
  ·obtain ⟨g0, g1⟩ := h2 hp.1 hp.2
   have hgi : (gapI s p).toNat ≤ L.length := by
    unfold gapI
    rw [if_neg (fun h => ht ⟨h.1, h.2.1⟩)]; omega
   rw [if_pos hp, if_pos hp, insL_len hgi]
   omega
  ·rw [if_neg hp, if_neg hp]
   omega
/-- What stands where it is put. -/
theorem fK_new {s : Sh} {nid : Int} {p L : List Int} (h1 : s.takes = true → p = s.from_ → 0 ≤ s.num ∧ s.num < L.length) (hp : s.puts = true) (hg : p = s.goal) (g0 : 0 ≤ s.gap) (g1 : s.gap ≤ L.length) : 0 ≤ gapI s p ∧ (fK s nid p L)[(gapI s p).toNat]? = some nid := by
 unfold fK
 rw [if_pos ⟨hp, hg⟩]
 by_cases ht : s.takes = true ∧ p = s.from_
 ·obtain ⟨n0, n1⟩ := h1 ht.1 ht.2
  have hd := delL_len (L := L) (i := s.num.toNat) (by omega)
  rw [if_pos ht]
  have hgi : 0 ≤ gapI s p ∧ (gapI s p).toNat ≤ (delL L s.num.toNat).length := by
   unfold gapI
   by_cases h : s.takes = true ∧ p = s.from_ ∧ s.num < s.gap
   ·rw [if_pos h]; omega
   ·rw [if_neg h]
    have : ¬ s.num < s.gap := fun h9 => h ⟨ht.1, ht.2, h9⟩
    omega
  exact ⟨hgi.1, insL_eq hgi.2 _⟩
 ·rw [if_neg ht]
  have e : gapI s p = s.gap := by
   unfold gapI
   rw [if_neg (fun h => ht ⟨h.1, h.2.1⟩)]
  rw [e]
  exact ⟨g0, insL_eq (by omega) _⟩
/-- The number of a child, without bounds. -/
def childI (s : Sh) (p : List Int) (k : Int) : Int :=
 (if s.takes = true ∧ p = s.from_ ∧ s.num < k then k - 1 else k) + (if s.puts = true ∧ p = s.goal ∧ s.gap ≤ k then 1 else 0)
/-- A child that stays. -/
theorem fK_child {s : Sh} {nid : Int} {p L : List Int} {k : Nat} {v : Int} (h1 : s.takes = true → p = s.from_ → 0 ≤ s.num ∧ s.num < L.length) (h2 : s.puts = true → p = s.goal → 0 ≤ s.gap ∧ s.gap ≤ L.length) (hk : L[k]? = some v) (hne : ¬ (s.takes = true ∧ p = s.from_ ∧ (k : Int) = s.num)) :
  0 ≤ childI s p k ∧ (fK s nid p L)[(childI s p k).toNat]? = some v := by
 have hkl := (List.getElem?_eq_some_iff.1 hk).1
 unfold childI
 by_cases ht : s.takes = true ∧ p = s.from_
 ·obtain ⟨n0, n1⟩ := h1 ht.1 ht.2
  have hd := delL_len (L := L) (i := s.num.toNat) (by omega)
  have hkn : (k : Int) ≠ s.num := fun h => hne ⟨ht.1, ht.2, h⟩
  -- where it stands when one is taken out
  obtain ⟨j, hj, hjv⟩ : ∃ j : Nat, (if s.takes = true ∧ p = s.from_ ∧ s.num < k then (k : Int) - 1 else k) = j ∧ (delL L s.num.toNat)[j]? = some v := by
   by_cases h : s.num < k
   ·refine ⟨k - 1, by rw [if_pos ⟨ht.1, ht.2, h⟩]; omega, ?_⟩
    rw [delL_ge (by omega) (by omega), show k - 1 + 1 = k by omega, hk]
   ·refine ⟨k, by rw [if_neg (fun h9 => h h9.2.2)], ?_⟩
    rw [delL_lt (by omega) (by omega), hk]
  rw [hj]
  unfold fK
  rw [if_pos ht]
  by_cases hp : s.puts = true ∧ p = s.goal
  ·obtain ⟨g0, g1⟩ := h2 hp.1 hp.2
   rw [if_pos hp]
   have hgi : 0 ≤ gapI s p ∧ (gapI s p).toNat ≤ (delL L s.num.toNat).length ∧ (s.gap ≤ k ↔ (gapI s p).toNat ≤ j) := by
    have hj2 : (j : Int) = if s.num < k then (k : Int) - 1 else k := by
     rw [← hj]
     by_cases h : s.num < k
     ·rw [if_pos ⟨ht.1, ht.2, h⟩, if_pos h]
     ·rw [if_neg (fun h9 => h h9.2.2), if_neg h]
    unfold gapI
    by_cases h : s.num < s.gap
    ·rw [if_pos ⟨ht.1, ht.2, h⟩]
     by_cases h3 : s.num < k
     ·rw [if_pos h3] at hj2; omega
     ·rw [if_neg h3] at hj2; omega
    ·rw [if_neg (fun h9 => h h9.2.2)]
     by_cases h3 : s.num < k
     ·rw [if_pos h3] at hj2; omega
     ·rw [if_neg h3] at hj2; omega
   by_cases h : s.gap ≤ k
   ·rw [if_pos ⟨hp.1, hp.2, h⟩]
    refine ⟨by omega, ?_⟩
    rw [show ((j : Int) + 1).toNat = j + 1 by omega, insL_gt hgi.2.1 (hgi.2.2.1 h), hjv]
   ·rw [if_neg (fun h9 => h h9.2.2)]
    refine ⟨by omega, ?_⟩
    rw [show ((j : Int) + 0).toNat = j by omega, insL_lt hgi.2.1 (Nat.lt_of_not_le fun h9 => h (hgi.2.2.2 h9)), hjv]
  ·rw [if_neg hp, if_neg (fun h9 => hp ⟨h9.1, h9.2.1⟩)]
   exact ⟨by omega, by rw [show ((j : Int) + 0).toNat = j by omega, hjv]⟩
 ·rw [if_neg (fun h9 => ht ⟨h9.1, h9.2.1⟩)]
  unfold fK
  rw [if_neg ht]
  by_cases hp : s.puts = true ∧ p = s.goal
  ·obtain ⟨g0, g1⟩ := h2 hp.1 hp.2
   have e : gapI s p = s.gap := by
    unfold gapI
    rw [if_neg (fun h => ht ⟨h.1, h.2.1⟩)]
   rw [if_pos hp, e]
   by_cases h : s.gap ≤ k
   ·rw [if_pos ⟨hp.1, hp.2, h⟩]
    refine ⟨by omega, ?_⟩
    rw [show ((k : Int) + 1).toNat = k + 1 by omega, insL_gt (by omega) (by omega), hk]
   ·rw [if_neg (fun h9 => h h9.2.2)]
    refine ⟨by omega, ?_⟩
    rw [show ((k : Int) + 0).toNat = k by omega, insL_lt (by omega) (by omega), hk]
  ·rw [if_neg hp, if_neg (fun h9 => hp ⟨h9.1, h9.2.1⟩)]
   exact ⟨by omega, by rw [show ((k : Int) + 0).toNat = k by omega, hk]⟩
/-- The numbers that come up stay within the machine's bounds. -/
def Wr (s : Sh) : Prop := ∀ k : Int, -2 ≤ k → k ≤ 3000000 → s.wr k = k
theorem child_is {s : Sh} (hw : Wr s) (hm : s.moves = true) {p : List Int} {k : Nat} {n : Int} (hk : k ≤ 1000000) (h : s.child p k = some n) : n = childI s p k ∧ ¬ (s.takes = true ∧ p = s.from_ ∧ (k : Int) = s.num) := by
 obtain ⟨hkd, -, -⟩ := moves_kind hm
 unfold Sh.child at h
 unfold childI
 have w1 := hw ((k : Int) + 1) (by omega) (by omega)
 have w2 := hw ((k : Int) - 1) (by omega) (by omega)
 have w3 := hw ((k : Int) - 1 + 1) (by omega) (by omega)
 by_cases h1 : s.kind = 1
 ·have ht : s.takes = false := by simp [Sh.takes, h1]
  have hp : s.puts = true := by simp [Sh.puts, h1]
  have hg : s.goal = s.path := by simp [Sh.goal, h1]
  rw [if_pos h1] at h
  rw [ht, hp, hg, if_neg (by simp)]
  refine ⟨?_, by simp⟩
  by_cases h2 : p = s.path ∧ s.gap ≤ k
  ·rw [if_pos h2, w1] at h
   rw [if_pos ⟨rfl, h2⟩]
   injection h with h; exact h.symm
  ·rw [if_neg h2] at h
   rw [if_neg (fun h9 => h2 h9.2)]
   injection h with h; omega
 ·rw [if_neg h1] at h
  have ht : s.takes = true := by simp [Sh.takes, h1]
  by_cases h2 : p = s.from_ ∧ (k : Int) = s.num
  ·rw [if_pos h2] at h; cases h
  ·rw [if_neg h2] at h
   rw [ht]
   refine ⟨?_, fun h9 => h2 h9.2⟩
   have A1 : ∀ (u v : Int), p = s.from_ ∧ s.num < (k : Int) → (if true = true ∧ p = s.from_ ∧ s.num < (k : Int) then u else v) = u := fun u v h => if_pos ⟨rfl, h⟩
   have A2 : ∀ (u v : Int), ¬ (p = s.from_ ∧ s.num < (k : Int)) → (if true = true ∧ p = s.from_ ∧ s.num < (k : Int) then u else v) = v := fun u v h => if_neg fun h9 => h h9.2
   have C1 : ∀ (u v : Int), p = s.from_ ∧ s.num < (k : Int) → (if p = s.from_ ∧ s.num < (k : Int) then u else v) = u := fun u v h => if_pos h
   have C2 : ∀ (u v : Int), ¬ (p = s.from_ ∧ s.num < (k : Int)) → (if p = s.from_ ∧ s.num < (k : Int) then u else v) = v := fun u v h => if_neg h
   by_cases h3 : s.kind = 3
   ·have hp : s.puts = true := by simp [Sh.puts, h3]
    have hg : s.goal = s.to := by simp [Sh.goal, h3]
    rw [hp, hg]
    have B1 : ∀ (u v : Int), p = s.to ∧ s.gap ≤ (k : Int) → (if true = true ∧ p = s.to ∧ s.gap ≤ (k : Int) then u else v) = u := fun u v h => if_pos ⟨rfl, h⟩
    have B2 : ∀ (u v : Int), ¬ (p = s.to ∧ s.gap ≤ (k : Int)) → (if true = true ∧ p = s.to ∧ s.gap ≤ (k : Int) then u else v) = v := fun u v h => if_neg fun h9 => h h9.2
    by_cases h4 : p = s.to ∧ s.gap ≤ k
    ·rw [if_pos ⟨h3, h4⟩] at h
     rw [B1 _ _ h4]
     by_cases h5 : p = s.from_ ∧ s.num < k
     ·rw [C1 _ _ h5, w2, w3] at h
      rw [A1 _ _ h5]
      injection h with h; omega
     ·rw [C2 _ _ h5, w1] at h
      rw [A2 _ _ h5]
      injection h with h; omega
    ·rw [if_neg (fun h9 => h4 h9.2)] at h
     rw [B2 _ _ h4]
     by_cases h5 : p = s.from_ ∧ s.num < k
     ·rw [C1 _ _ h5, w2] at h
      rw [A1 _ _ h5]
      injection h with h; omega
     ·rw [C2 _ _ h5] at h
      rw [A2 _ _ h5]
      injection h with h; omega
   ·have hp : s.puts = false := by
     have : s.kind = 2 := by omega
     simp [Sh.puts, this]
    rw [if_neg (fun h9 => h3 h9.1)] at h
    have B2 : ∀ (u v : Int), (if false = true ∧ p = s.goal ∧ s.gap ≤ (k : Int) then u else v) = v := fun u v => if_neg (by simp)
    rw [hp, B2]
    by_cases h5 : p = s.from_ ∧ s.num < k
    ·rw [C1 _ _ h5, w2] at h
     rw [A1 _ _ h5]
     injection h with h; omega
    ·rw [C2 _ _ h5] at h
     rw [A2 _ _ h5]
     injection h with h; omega
/-- What an operation asks of a tree. -/
structure Fits (t : Nd) (s : Sh) : Prop where
 from_ : s.takes = true → ∀ (y : Nd), t.at? s.from_ = some y → 0 ≤ s.num ∧ s.num < (kidIds y).length
 goal : s.puts = true → ∀ (y : Nd), t.at? s.goal = some y → 0 ≤ s.gap ∧ s.gap ≤ (kidIds y).length
 few : ∀ (p : List Int) (y : Nd), t.at? p = some y → (kidIds y).length ≤ 1000000
theorem Fits.h1 {t : Nd} {s : Sh} (F : Fits t s) {p : List Int} {y : Nd} (hy : t.at? p = some y) : s.takes = true → p = s.from_ → 0 ≤ s.num ∧ s.num < (kidIds y).length := fun ht hp => F.from_ ht y (by rw [← hp]; exact hy)
theorem Fits.h2 {t : Nd} {s : Sh} (F : Fits t s) {p : List Int} {y : Nd} (hy : t.at? p = some y) : s.puts = true → p = s.goal → 0 ≤ s.gap ∧ s.gap ≤ (kidIds y).length := fun ht hp => F.goal ht y (by rw [← hp]; exact hy)
theorem kid_at {y m : Nd} {q : List Int} {j : Int} {v : Int} (hy : m.at? q = some y) (h0 : 0 ≤ j) (h : (kidIds y)[j.toNat]? = some v) : ∃ c, m.at? (q ++ [j]) = some c ∧ c.id = v := by
 unfold kidIds at h
 rw [List.getElem?_map] at h
 cases hc : y.kids[j.toNat]? with
 | none => rw [hc] at h; simp at h
 | some c =>
  rw [hc] at h
  simp only [Option.map_some, Option.some.injEq] at h
  refine ⟨c, ?_, h⟩
  rw [at_app q [j] hy]
  have : j = ((j.toNat : Nat) : Int) := by omega
  rw [this, at_step hc, at_nil]
/-- Where a node is: its identity tells, so its children are known. -/
theorem corr_at {t m : Nd} {s : Sh} {nid : Int} (C : Corr t m s nid) {p q : List Int} {y y' : Nd} (hy : t.at? p = some y) (hw : s.takes = true → s.puts = false → within s.path p = false) (hq : m.at? q = some y') (he : y'.id = y.id) : kidIds y' = fK s nid p (kidIds y) := by
 obtain ⟨q0, y0, h1, h2, h3⟩ := C.here p y hy hw
 have := C.apart q q0 y' y0 hq h1 (by rw [he, h2])
 subst this
 rw [hq] at h1
 cases h1
 exact h3
theorem node_within {s : Sh} (hm : s.moves = true) {p q : List Int} (h : s.node p = some q) : s.takes = true → s.puts = false → within s.path p = false := by
 intro ht hp
 cases hw : within s.path p with
 | false => rfl
 | true =>
  unfold Sh.node at h
  rw [if_neg (by simp [hm]), if_pos (by simp [ht, hw]), if_neg (by simp [hp])] at h
  cases h
/-- One step down, to a child that stays. -/
theorem node_step {t m : Nd} {s : Sh} {nid : Int} (C : Corr t m s nid) (F : Fits t s) (hw : Wr s) (hm : s.moves = true) {p r : List Int} {n : Int} {k : Nat} {y y' c : Nd} (hy : t.at? p = some y) (hk : y.kids[k]? = some c) (hpw : s.takes = true → s.puts = false → within s.path p = false) (hr : m.at? r = some y') (he : y'.id = y.id) (hn : s.child p k = some n) : ∃ c', m.at? (r ++ [n]) = some c' ∧ c'.id = c.id := by
 have hkd := corr_at C hy hpw hr he
 have hkc : (kidIds y)[k]? = some c.id := by unfold kidIds; rw [List.getElem?_map, hk]; rfl
 have hlen := F.few p y hy
 have hkl := (List.getElem?_eq_some_iff.1 hkc).1
 obtain ⟨rfl, hne⟩ := child_is hw hm (by omega) hn
 obtain ⟨h0, hv⟩ := fK_child (nid := nid) (F.h1 hy) (F.h2 hy) hkc hne
 rw [← hkd] at hv
 exact kid_at hr h0 hv
theorem node_low {t m : Nd} {s : Sh} {nid : Int} (C : Corr t m s nid) (F : Fits t s) (hw : Wr s) (hm : s.moves = true) : ∀ (N : Nat) (p : List Int), p.length = N → ∀ (y : Nd) (q : List Int), (s.takes = true → within s.path p = false) → t.at? p = some y → s.node p = some q → ∃ y', m.at? q = some y' ∧ y'.id = y.id := by
 intro N
 induction N with
 | zero =>
  intro p hp y q _ hy hq
  obtain rfl := List.eq_nil_of_length_eq_zero hp
  rw [node_nil hm] at hq
  rw [at_nil] at hy
  cases hq
  cases hy
  exact ⟨m, at_nil, C.root⟩
 | succ N ih =>
  intro p hp y q hpw hy hq
  rcases List.eq_nil_or_concat p with rfl | ⟨p0, k, rfl⟩
  ·simp at hp
  rw [List.concat_eq_append] at hp hy hq hpw
  have hlp : p0.length = N := by simpa using hp
  obtain ⟨kk, y0, rfl, hy0, hk⟩ := at_snoc p0 k hy
  have hpw0 : s.takes = true → within s.path p0 = false := fun ht => by
   cases h : within s.path p0 with
   | false => rfl
   | true => have := hpw ht; rw [(within_snoc _ _ _).2 (.inl h)] at this; cases this
  rw [node_snoc hm, if_neg] at hq
  ·cases hnp : s.node p0 with
   | none => rw [hnp] at hq; cases hq
   | some r =>
    cases hnc : s.child p0 kk with
    | none => rw [hnp, hnc] at hq; cases hq
    | some n =>
     rw [hnp, hnc] at hq
     cases hq
     obtain ⟨y', h1, h2⟩ := ih p0 hlp y0 r hpw0 hy0 hnp
     exact node_step C F hw hm hy0 hk (fun ht _ => hpw0 ht) h1 h2 hnc
  ·rintro ⟨h3, h4⟩
   have := hpw (by simp [Sh.takes, h3])
   rw [h4, within_self] at this
   cases this
theorem node_id {t m : Nd} {s : Sh} {nid : Int} (C : Corr t m s nid) (F : Fits t s) (hw : Wr s) (hm : s.moves = true) (hto : s.kind = 3 → ∃ y, t.at? s.to = some y) (hnid : s.kind = 3 → ∀ x, t.at? s.path = some x → nid = x.id) : ∀ (N : Nat) (p : List Int), p.length = N → ∀ (y : Nd) (q : List Int), t.at? p = some y → s.node p = some q → ∃ y', m.at? q = some y' ∧ y'.id = y.id := by
 intro N
 induction N with
 | zero =>
  intro p hp y q hy hq
  obtain rfl := List.eq_nil_of_length_eq_zero hp
  rw [node_nil hm] at hq
  rw [at_nil] at hy
  cases hq
  cases hy
  exact ⟨m, at_nil, C.root⟩
 | succ N ih =>
  intro p hp y q hy hq
  have hq0 := hq
  rcases List.eq_nil_or_concat p with rfl | ⟨p0, k, rfl⟩
  ·simp at hp
  rw [List.concat_eq_append] at hp hy hq hq0
  have hlp : p0.length = N := by simpa using hp
  obtain ⟨kk, y0, rfl, hy0, hk⟩ := at_snoc p0 k hy
  rw [node_snoc hm] at hq
  by_cases hmv : s.kind = 3 ∧ p0 ++ [(kk : Int)] = s.path
  ·rw [if_pos hmv] at hq
   cases hq
   obtain ⟨-, -, hnt⟩ := moves_kind hm
   obtain ⟨yt, hyt⟩ := hto hmv.1
   obtain ⟨y', h1, h2⟩ := node_low C F hw hm _ s.to rfl yt _ (fun _ => hnt hmv.1) hyt (node_to hm hmv.1)
   have ht : s.takes = true := by simp [Sh.takes, hmv.1]
   have hpu : s.puts = true := by simp [Sh.puts, hmv.1]
   have hgo : s.to = s.goal := by simp [Sh.goal, hmv.1]
   have hkd := corr_at C hyt (fun _ h => by rw [hpu] at h; cases h) h1 h2
   obtain ⟨g0, g1⟩ := F.h2 hyt hpu hgo
   obtain ⟨n0, nv⟩ := fK_new (nid := nid) (F.h1 hyt) hpu hgo g0 g1
   have hsp : s.from_ = p0 ∧ s.num = (kk : Int) := by
    unfold Sh.from_ Sh.num
    rw [← hmv.2]
    simp
   have hfew := F.few s.to yt hyt
   have hland : (if p0 = s.to ∧ (kk : Int) < s.gap then s.wr (s.gap - 1) else s.gap) = gapI s s.to := by
    unfold gapI
    rw [hsp.1, hsp.2]
    by_cases h : p0 = s.to ∧ (kk : Int) < s.gap
    ·rw [if_pos h, if_pos ⟨ht, h.1.symm, h.2⟩]
     exact hw _ (by omega) (by omega)
    ·rw [if_neg h, if_neg (fun h9 => h ⟨h9.2.1.symm, h9.2.2⟩)]
   rw [hland]
   rw [← hkd] at nv
   obtain ⟨c', e1, e2⟩ := kid_at h1 n0 nv
   exact ⟨c', e1, by rw [e2]; exact hnid hmv.1 y (by rw [← hmv.2]; exact hy)⟩
  ·rw [if_neg hmv] at hq
   cases hnp : s.node p0 with
   | none => rw [hnp] at hq; cases hq
   | some r =>
    cases hnc : s.child p0 kk with
    | none => rw [hnp, hnc] at hq; cases hq
    | some n =>
     rw [hnp, hnc] at hq
     cases hq
     obtain ⟨y', h1, h2⟩ := ih p0 hlp y0 r hy0 hnp
     exact node_step C F hw hm hy0 hk (node_within hm hnp) h1 h2 hnc
def gapP (s : Sh) (p : List Int) (a : Int) (first : Bool) : Int :=
 (if s.takes = true ∧ p = s.from_ ∧ s.num < a then a - 1 else a) + (if s.puts = true ∧ p = s.goal ∧ (s.gap < a ∨ a = s.gap ∧ first = false) then 1 else 0)
/-- The place of an identity. -/
def placeL : List Int → Int → Int
 | [], _ => -1
 | x :: r, v => if x = v then 0 else (if placeL r v < 0 then -1 else placeL r v + 1)
theorem placeL_get : ∀ (L : List Int) (v : Int), (placeL L v = -1 ∧ v ∉ L) ∨ (0 ≤ placeL L v ∧ L[(placeL L v).toNat]? = some v)
 | [], v => .inl ⟨rfl, by simp⟩
 | x :: r, v => by
  unfold placeL
  by_cases h : x = v
  ·rw [if_pos h]
   exact .inr ⟨by omega, by simp [h]⟩
  ·rw [if_neg h]
   rcases placeL_get r v with ⟨h1, h2⟩ | ⟨h1, h2⟩
   ·rw [h1, if_pos (by omega)]
    exact .inl ⟨rfl, by simp only [List.mem_cons, not_or]; exact ⟨fun h9 => h h9.symm, h2⟩⟩
   ·rw [if_neg (by omega)]
    refine .inr ⟨by omega, ?_⟩
    rw [show (placeL r v + 1).toNat = (placeL r v).toNat + 1 by omega, List.getElem?_cons_succ, h2]
/-- No two alike. -/
def Uniq (L : List Int) : Prop := ∀ (i j : Nat) (v : Int), L[i]? = some v → L[j]? = some v → i = j
theorem placeL_is {L : List Int} (hu : Uniq L) {n : Int} {v : Int} (h0 : 0 ≤ n) (h : L[n.toNat]? = some v) : placeL L v = n := by
 rcases placeL_get L v with ⟨h1, h2⟩ | ⟨h1, h2⟩
 ·exact absurd (List.mem_of_getElem? h) h2
 ·have := hu _ _ v h2 h
  omega
theorem kids_uniq {m y : Nd} {q : List Int} (ha : Apart m) (hq : m.at? q = some y) : Uniq (kidIds y) := by
 intro i j v hi hj
 obtain ⟨c, h1, h2⟩ := kid_at (j := (i : Int)) hq (by omega) (by simpa using hi)
 obtain ⟨d, g1, g2⟩ := kid_at (j := (j : Int)) hq (by omega) (by simpa using hj)
 have := ha _ _ c d h1 g1 (by rw [h2, g2])
 have := List.append_cancel_left this
 injection this with this _
 omega
theorem ite3 {A B C : Prop} [Decidable A] [Decidable B] [Decidable C] (u v : Int) (h : A ∧ B) : (if A ∧ B ∧ C then u else v) = if C then u else v := by
 by_cases hc : C
 ·rw [if_pos hc, if_pos ⟨h.1, h.2, hc⟩]
 ·rw [if_neg hc, if_neg (fun h9 => hc h9.2.2)]
theorem ite3n {A B C : Prop} [Decidable A] [Decidable B] [Decidable C] (u v : Int) (h : ¬ (A ∧ B)) : (if A ∧ B ∧ C then u else v) = v := if_neg fun h9 => h ⟨h9.1, h9.2.1⟩
/-- Each gap lies between the same children. -/
theorem gap_lies {s : Sh} {nid : Int} {p L : List Int} (h1 : s.takes = true → p = s.from_ → 0 ≤ s.num ∧ s.num < L.length) (h2 : s.puts = true → p = s.goal → 0 ≤ s.gap ∧ s.gap ≤ L.length) {a : Int} (a0 : 0 ≤ a) (a1 : a ≤ L.length) (first : Bool) (hu : Uniq (fK s nid p L)) :
  0 ≤ gapP s p a first ∧ gapP s p a first ≤ (fK s nid p L).length ∧
  (∀ (k : Nat) (v : Int), L[k]? = some v → ¬ (s.takes = true ∧ p = s.from_ ∧ (k : Int) = s.num) → 0 ≤ placeL (fK s nid p L) v ∧ (placeL (fK s nid p L) v < gapP s p a first ↔ (k : Int) < a)) ∧
  (s.puts = true → p = s.goal → 0 ≤ placeL (fK s nid p L) nid ∧ (placeL (fK s nid p L) nid < gapP s p a first ↔ s.gap < a ∨ s.gap = a ∧ first = false)) := by
 have hl := fK_len (nid := nid) h1 h2
 refine ⟨?_, ?_, ?_, ?_⟩
 ·unfold gapP
  by_cases c1 : s.takes = true ∧ p = s.from_ ∧ s.num < a
  ·have := h1 c1.1 c1.2.1
   rw [if_pos c1]; split <;> omega
  ·rw [if_neg c1]; split <;> omega
 ·rw [hl]
  unfold gapP
  by_cases c0 : s.takes = true ∧ p = s.from_
  ·have h3 := h1 c0.1 c0.2
   rw [if_pos c0]
   by_cases c1 : s.num < a
   ·rw [if_pos ⟨c0.1, c0.2, c1⟩]
    by_cases c2 : s.puts = true ∧ p = s.goal
    ·rw [if_pos c2]; split <;> omega
    ·rw [if_neg c2, if_neg (fun h => c2 ⟨h.1, h.2.1⟩)]; omega
   ·rw [if_neg (fun h => c1 h.2.2)]
    by_cases c2 : s.puts = true ∧ p = s.goal
    ·rw [if_pos c2]; split <;> omega
    ·rw [if_neg c2, if_neg (fun h => c2 ⟨h.1, h.2.1⟩)]; omega
  ·rw [if_neg c0, if_neg (fun h => c0 ⟨h.1, h.2.1⟩)]
   by_cases c2 : s.puts = true ∧ p = s.goal
   ·rw [if_pos c2]; split <;> omega
   ·rw [if_neg c2, if_neg (fun h => c2 ⟨h.1, h.2.1⟩)]; omega
 ·intro k v hk hne
  obtain ⟨n0, nv⟩ := fK_child (nid := nid) h1 h2 hk hne
  rw [placeL_is hu n0 nv]
  refine ⟨n0, ?_⟩
  unfold childI gapP
  by_cases c0 : s.takes = true ∧ p = s.from_
  ·have hkn : (k : Int) ≠ s.num := fun h => hne ⟨c0.1, c0.2, h⟩
   rw [ite3 _ _ c0, ite3 _ _ c0]
   by_cases c2 : s.puts = true ∧ p = s.goal
   ·rw [ite3 _ _ c2, ite3 _ _ c2]
    cases first <;> simp only [Bool.true_eq_false, and_false, or_false, and_true] <;> split <;> split <;> split <;> split <;> omega
   ·rw [ite3n _ _ c2, ite3n _ _ c2]
    split <;> split <;> omega
  ·rw [ite3n _ _ c0, ite3n _ _ c0]
   by_cases c2 : s.puts = true ∧ p = s.goal
   ·rw [ite3 _ _ c2, ite3 _ _ c2]
    cases first <;> simp only [Bool.true_eq_false, and_false, or_false, and_true] <;> split <;> split <;> omega
   ·rw [ite3n _ _ c2, ite3n _ _ c2]
    omega
 ·intro hp hg
  obtain ⟨g0, g1⟩ := h2 hp hg
  obtain ⟨n0, nv⟩ := fK_new (nid := nid) h1 hp hg g0 g1
  rw [placeL_is hu n0 nv]
  refine ⟨n0, ?_⟩
  unfold gapI gapP
  have c2 : s.puts = true ∧ p = s.goal := ⟨hp, hg⟩
  rw [ite3 _ _ c2]
  by_cases c0 : s.takes = true ∧ p = s.from_
  ·rw [ite3 _ _ c0, ite3 _ _ c0]
   cases first <;> simp only [Bool.true_eq_false, and_false, or_false, and_true] <;> split <;> split <;> split <;> omega
  ·rw [ite3n _ _ c0, ite3n _ _ c0]
   cases first <;> simp only [Bool.true_eq_false, and_false, or_false, and_true] <;> split <;> omega
end Go.Proofs.Ytdnjkffmgmbfmaa.Sy
