/- Chapter 07: the arena's calls as functions of the plain data; each leaves a tree. Nothing of the program is named here. -/
import Derived.Test.YtobbdeakocgdcaaArGrow
namespace Go.Proofs.Ytobbdeakocgdcaa.Ar

theorem get_some {S : St} {x : Nat} (h : x < S.sl.length) : S.sl[x]? = some (S.get x) := by simp [St.get, h]
theorem St.get_eq {S : St} {x : Nat} {s : Sl} (h : S.sl[x]? = some s) : S.get x = s := by simp [St.get, h]
theorem set_get (sl : List Sl) (f : List Nat) (n : Nat) (s : Sl) (x : Nat) (hn : n < sl.length) : (⟨sl.set n s, f⟩ : St).get x = if x = n then s else (⟨sl, f⟩ : St).get x := by
  simp only [St.get, List.getElem?_set]
  by_cases h : x = n
  · subst h; simp [hn]
  · rw [if_neg (fun e => h e.symm), if_neg h]
theorem get_free (sl : List Sl) (f f' : List Nat) (x : Nat) : (⟨sl, f⟩ : St).get x = (⟨sl, f'⟩ : St).get x := rfl

def Sl.takes (s : Sl) (g : Int) : Int := if s.leaf = true then 83 else if g < 0 ∨ (s.kids.length : Int) < g then 81 else 0
/-- Is a number live? -/
def St.liveB (S : St) (n : Int) : Bool := decide (0 ≤ n) && decide (n.toNat < S.sl.length) && (S.get n.toNat).live
theorem liveB_nat (S : St) (k : Nat) : S.liveB (k : Int) = (decide (k < S.sl.length) && (S.get k).live) := by
  simp [St.liveB]
theorem liveB_no {S : St} {n : Int} (h : S.liveB n = false) : ∀ k : Nat, n = (k : Int) → k < S.sl.length → (S.get k).live = false := by
  rintro k rfl hk
  rw [liveB_nat, decide_eq_true hk, Bool.true_and] at h
  exact h
theorem liveB_yes {S : St} {n : Int} (h : S.liveB n = true) : ∃ k : Nat, n = (k : Int) ∧ k < S.sl.length ∧ (S.get k).live = true := by
  unfold St.liveB at h
  simp only [Bool.and_eq_true, decide_eq_true_eq] at h
  exact ⟨n.toNat, by omega, h.1.2, h.2⟩
/-- The slots of a subtree, in the order of the document. -/
def preF (S : St) : Nat → List Nat → List Nat
  | 0, _ => []
  | _ + 1, [] => []
  | f + 1, n :: r => n :: (preF S f (S.get n).kids ++ preF S f r)
theorem preF_eq {S : St} {a l : List Nat} (h : PreL S a l) : ∀ f, l.length ≤ f → preF S f a = l := by
  induction h with
  | nil => intro f _; cases f <;> rfl
  | @cons n s r l1 l2 h1 _ _ ih2 ih3 =>
    intro f hf
    rw [List.length_cons, List.length_append] at hf
    obtain ⟨f, rfl⟩ : ∃ q, f = q + 1 := ⟨f - 1, by omega⟩
    rw [preF, St.get_eq h1, ih2 f (by omega), ih3 f (by omega)]
def St.sub (S : St) (n : Nat) : List Nat := preF S S.sl.length [n]
theorem TI.sub_pre {S : St} {d : Nat → Nat} (h : TI S d) {n : Nat} (hn : n < S.sl.length) (hl : (S.get n).live = true) : PreL S [n] (S.sub n) ∧ (S.sub n).Nodup ∧ (S.sub n).length ≤ S.sl.length ∧ (∀ x, x ∈ S.sub n ↔ (∃ s : Sl, S.sl[x]? = some s ∧ s.live = true) ∧ Anc S x n) := by
  obtain ⟨l, hp, _⟩ := h.pre1 (get_some hn) hl
  have hliv : ∀ k ∈ [n], ∃ s : Sl, S.sl[k]? = some s ∧ s.live = true := by intro k hk; rw [List.mem_singleton.1 hk]; exact ⟨_, get_some hn, hl⟩
  have hnd := hp.nodup h hliv (List.pairwise_singleton _ _)
  have hlen := nodup_len _ _ hnd hp.lt
  have he : S.sub n = n :: l := preF_eq hp _ hlen
  rw [he]
  refine ⟨hp, hnd, hlen, fun x => ⟨fun hx => ?_, fun hx => hp.all h hx.2 hx.1 (by simp)⟩⟩
  obtain ⟨h1, k, hk, h2⟩ := hp.under h hliv x hx
  rw [List.mem_singleton.1 hk] at h2
  exact ⟨h1, h2⟩

/-! ### Add -/
def St.setKids (S : St) (p : Nat) (ks : List Nat) : St := ⟨S.sl.set p { S.get p with kids := ks }, S.free⟩
theorem setKids_get (S : St) (p : Nat) (ks : List Nat) (m : Nat) (hp : p < S.sl.length) : (S.setKids p ks).get m = if m = p then { S.get p with kids := ks } else S.get m := set_get _ _ _ _ _ hp
theorem setKids_len (S : St) (p : Nat) (ks : List Nat) : (S.setKids p ks).sl.length = S.sl.length := by simp [St.setKids]
/-- A slot of its own, filled. -/
def St.fill (S : St) (d : Da) (q : Int) : St := ⟨S.fresh'.sl.set S.fresh (d.sl q []), S.fresh'.free⟩
/-- What Add does. -/
def St.add (S : St) (p g : Nat) (d : Da) : St := (S.fill d (p : Int)).setKids p (insAt ((S.fill d (p : Int)).get p).kids g S.fresh)
theorem get_fresh' (S : St) (m : Nat) : S.fresh'.get m = S.get m := by
  unfold St.fresh'
  split
  · rename_i h
    have := AP.get_snoc S m
    rw [h] at this; exact this
  · rfl
theorem fresh_lt {S : St} {d : Nat → Nat} (h : TI S d) : S.fresh < S.fresh'.sl.length := by
  unfold St.fresh St.fresh'
  rcases List.eq_nil_or_concat S.free with hf | ⟨f, x, hf⟩
  · rw [if_pos hf, hf]; simp
  · rw [List.concat_eq_append] at hf
    rw [if_neg (by rw [hf]; simp), hf]
    obtain ⟨s, hs, _⟩ := h.fr x (by rw [hf]; simp)
    simpa using lt_of_get hs
theorem fresh_dead {S : St} {d : Nat → Nat} (h : TI S d) : ∀ t, S.sl[S.fresh]? = some t → t.live = false := by
  intro t ht
  unfold St.fresh at ht
  rcases List.eq_nil_or_concat S.free with hf | ⟨f, x, hf⟩
  · rw [hf] at ht
    have := lt_of_get ht
    simp at this
  · rw [List.concat_eq_append] at hf
    rw [hf] at ht
    obtain ⟨s, hs, hl⟩ := h.fr x (by rw [hf]; simp)
    have : (f ++ [x]).getLast?.getD S.sl.length = x := by simp
    rw [this, hs] at ht; cases ht
    exact hl
theorem fresh_ne {S : St} {d : Nat → Nat} (h : TI S d) {p : Nat} (hp : p < S.sl.length) (hl : (S.get p).live = true) : S.fresh ≠ p := by
  intro e
  have := fresh_dead h (S.get p) (by rw [e]; exact get_some hp)
  rw [hl] at this; cases this
theorem fresh'_len (S : St) : S.sl.length ≤ S.fresh'.sl.length ∧ S.fresh'.sl.length ≤ S.sl.length + 1 := by
  unfold St.fresh'
  split <;> simp
theorem fresh'_at {S : St} {d : Nat → Nat} (h : TI S d) {x : Nat} (hx : x ≠ S.fresh) : S.fresh'.sl[x]? = S.sl[x]? := by
  have h1 := fresh_lt h
  unfold St.fresh' at h1 ⊢
  unfold St.fresh at hx h1
  split
  · rename_i hf
    rw [hf] at hx
    have hx' : x ≠ S.sl.length := hx
    rcases Nat.lt_or_ge x S.sl.length with h2 | h2
    · exact List.getElem?_append_left h2
    · rw [List.getElem?_eq_none (by simp; omega), List.getElem?_eq_none (by omega)]
  · rfl
theorem TI.addT {S : St} {d : Nat → Nat} (h : TI S d) {p : Nat} (g : Nat) (da : Da) (hp : p < S.sl.length) (hl : (S.get p).live = true) : ∃ d', TI (S.add p g da) d' := by
  have hne := fresh_ne h hp hl
  have hlt := fresh_lt h
  have hpl : p < S.fresh'.sl.length := Nat.lt_of_lt_of_le hp (fresh'_len S).1
  have hfl : (S.fill da (p : Int)).sl.length = S.fresh'.sl.length := by simp [St.fill]
  have hg1 : ∀ x, (S.fill da (p : Int)).get x = if x = S.fresh then da.sl (p : Int) [] else S.get x := by
    intro x
    rw [St.fill, set_get _ _ _ _ _ hlt]
    split
    · rfl
    · exact get_fresh' S x
  have hg2 : ∀ x, (S.add p g da).get x = if x = p then { S.get p with kids := insAt (S.get p).kids g S.fresh } else if x = S.fresh then da.sl (p : Int) [] else S.get x := by
    intro x
    rw [St.add, setKids_get _ _ _ _ (by rw [hfl]; exact hpl), hg1 p, if_neg (Ne.symm hne), hg1]
  have hl2 : (S.add p g da).sl.length = S.fresh'.sl.length := by rw [St.add, setKids_len, hfl]
  have hfree : (S.add p g da).free = S.fresh'.free := rfl
  refine ⟨_, h.grow (n := S.fresh) (z := da.sl (p : Int) []) (i := g) (get_some hp) hl (fresh_dead h) ?_ rfl rfl rfl ?_ ?_ ?_ ?_⟩
  · rw [get_some (by rw [hl2]; exact hlt), hg2, if_neg hne, if_pos rfl]
  · rw [get_some (by rw [hl2]; exact hpl), hg2, if_pos rfl]
  · intro x hx hxp
    rcases Nat.lt_or_ge x S.fresh'.sl.length with h1 | h1
    · rw [get_some (by rw [hl2]; exact h1), hg2, if_neg hxp, if_neg hx]
      rw [← fresh'_at h hx, get_some h1, get_fresh']
    · rw [List.getElem?_eq_none (by rw [hl2]; exact h1), List.getElem?_eq_none (by have := (fresh'_len S).1; omega)]
  · intro x
    rw [hfree]
    unfold St.fresh' St.fresh
    rcases List.eq_nil_or_concat S.free with hf | ⟨f, y, hf⟩
    · rw [if_pos hf, hf]; simp
    · rw [List.concat_eq_append] at hf
      have hnd := h.fnd
      rw [hf] at hnd
      rw [if_neg (by rw [hf]; simp), hf]
      simp only [List.dropLast_concat, List.getLast?_concat, Option.getD_some, List.mem_append, List.mem_singleton]
      obtain ⟨_, _, h3⟩ := List.nodup_append.1 hnd
      constructor
      · intro hx
        exact ⟨.inl hx, fun e => h3 x hx y (by simp) e⟩
      · rintro ⟨h1 | h1, h2⟩
        · exact h1
        · exact absurd h1 h2
  · rw [hfree]
    unfold St.fresh'
    split
    · exact List.nodup_nil
    · exact List.Nodup.sublist (List.dropLast_sublist _) h.fnd

/-! ### Remove -/
/-- Slots are emptied, and free. -/
def St.zeroAll (S : St) (l : List Nat) : St := ⟨l.foldl (fun sl x => sl.set x Sl.zero) S.sl, S.free ++ l⟩
theorem foldl_len (l : List Nat) : ∀ sl : List Sl, (l.foldl (fun sl x => sl.set x Sl.zero) sl).length = sl.length := by
  induction l with
  | nil => intro sl; rfl
  | cons x r ih => intro sl; rw [List.foldl_cons, ih, List.length_set]
theorem foldl_at (l : List Nat) : ∀ (sl : List Sl) (x : Nat), (l.foldl (fun sl x => sl.set x Sl.zero) sl)[x]? = if x ∈ l ∧ x < sl.length then some Sl.zero else sl[x]? := by
  induction l with
  | nil => intro sl x; simp
  | cons y r ih =>
    intro sl x
    rw [List.foldl_cons, ih, List.length_set, List.getElem?_set]
    by_cases h1 : x ∈ r ∧ x < sl.length
    · rw [if_pos h1, if_pos ⟨by simp [h1.1], h1.2⟩]
    · rw [if_neg h1]
      by_cases h2 : y = x
      · subst h2
        rw [if_pos rfl]
        by_cases h3 : y < sl.length
        · rw [if_pos h3, if_pos ⟨by simp, h3⟩]
        · rw [if_neg h3, if_neg (fun h => h3 h.2), List.getElem?_eq_none (by omega)]
      · rw [if_neg h2, if_neg]
        rintro ⟨h3, h4⟩
        rcases List.mem_cons.1 h3 with h5 | h5
        · exact h2 h5.symm
        · exact h1 ⟨h5, h4⟩
theorem zeroAll_snoc (S : St) (l : List Nat) (x : Nat) : S.zeroAll (l ++ [x]) = ⟨(S.zeroAll l).sl.set x Sl.zero, (S.zeroAll l).free ++ [x]⟩ := by
  simp [St.zeroAll, List.foldl_append]
theorem zeroAll_nil (S : St) : S.zeroAll [] = S := by simp [St.zeroAll]
/-- What Remove does: the slot is no child any more; it and all below it are emptied. -/
def St.remove (S : St) (n p : Nat) (l : List Nat) : St := (S.setKids p ((S.get p).kids.erase n)).zeroAll l
/-- A live slot's parent. -/
theorem TI.par {S : St} {d : Nat → Nat} (h : TI S d) {n : Nat} (hn : n < S.sl.length) (hl : (S.get n).live = true) (h0 : n ≠ 0) : ∃ p : Nat, (S.get n).parent = (p : Int) ∧ p < S.sl.length ∧ (S.get p).live = true ∧ n ∈ (S.get p).kids ∧ n ≠ p ∧ ¬ Anc S p n := by
  obtain ⟨p, t, h1, h2, h3, h4, h5⟩ := h.up n _ (get_some hn) hl h0
  refine ⟨p, h1, lt_of_get h2, by rw [St.get_eq h2]; exact h3, by rw [St.get_eq h2]; exact h4, ?_, ?_⟩
  · rintro rfl; omega
  · intro ha
    have := ha.le h ⟨t, h2, h3⟩
    omega
theorem TI.sub_unlinked {S : St} {d : Nat → Nat} (h : TI S d) {n p : Nat} (hn : n < S.sl.length) (hl : (S.get n).live = true) (hp : p < S.sl.length) (hna : ¬ Anc S p n) (ks : List Nat) : PreL (S.setKids p ks) [n] (S.sub n) := by
  obtain ⟨h1, _, _, h4⟩ := h.sub_pre hn hl
  refine h1.same (fun x hx => ?_)
  have hxp : x ≠ p := by rintro rfl; exact hna ((h4 x).1 hx).2
  have hxl := h1.lt x hx
  rw [get_some (by rw [setKids_len]; exact hxl), setKids_get _ _ _ _ hp, if_neg hxp, get_some hxl]
theorem TI.removeT {S : St} {d : Nat → Nat} (h : TI S d) {n p : Nat} (hn : n < S.sl.length) (hl : (S.get n).live = true) (hpar : (S.get n).parent = (p : Int)) (hp : p < S.sl.length) (hna : ¬ Anc S p n) : TI (S.remove n p (S.sub n)) d := by
  obtain ⟨h1, _, _, h4⟩ := h.sub_pre hn hl
  have hpl : p ∉ S.sub n := fun hx => hna ((h4 p).1 hx).2
  have hat : ∀ x, (S.remove n p (S.sub n)).sl[x]? = if x ∈ S.sub n ∧ x < S.sl.length then some Sl.zero else (S.setKids p ((S.get p).kids.erase n)).sl[x]? := by
    intro x
    rw [St.remove, St.zeroAll]
    show (List.foldl _ _ _)[x]? = _
    rw [foldl_at, setKids_len]
  refine h.cut (get_some hn) hl hpar (get_some hp) h1 ?_ ?_ ?_ rfl
  · intro x hx
    rw [hat, if_pos ⟨hx, h1.lt x hx⟩]
  · rw [hat, if_neg (fun h => hpl h.1), get_some (by rw [setKids_len]; exact hp), setKids_get _ _ _ _ hp, if_pos rfl]
  · intro x hx hxp
    rw [hat, if_neg (fun h => hx h.1)]
    rcases Nat.lt_or_ge x S.sl.length with h5 | h5
    · rw [get_some (by rw [setKids_len]; exact h5), setKids_get _ _ _ _ hp, if_neg hxp, get_some h5]
    · rw [List.getElem?_eq_none (by rw [setKids_len]; exact h5), List.getElem?_eq_none h5]

/-! ### Move -/
/-- Where a child goes, of one that was taken out at i. -/
def gapOf (same : Bool) (i g : Nat) : Nat := if same = true ∧ i < g then g - 1 else g
/-- What Move does. -/
def St.move (S : St) (n p0 q g : Nat) : St :=
  let S1 := S.setKids p0 ((S.get p0).kids.erase n)
  let S2 := S1.setKids q (insAt (S1.get q).kids (gapOf (decide (p0 = q)) ((S.get p0).kids.idxOf n) g) n)
  ⟨S2.sl.set n { S2.get n with parent := (q : Int) }, S2.free⟩
theorem TI.moveT {S : St} {d : Nat → Nat} (h : TI S d) {n p0 q : Nat} (g : Nat) (hn : n < S.sl.length) (hl : (S.get n).live = true) (h0 : n ≠ 0) (hpar : (S.get n).parent = (p0 : Int)) (hp : p0 < S.sl.length) (hpl : (S.get p0).live = true) (hnp : n ≠ p0) (hq : q < S.sl.length) (hql : (S.get q).live = true) (hna : ¬ Anc S q n) : ∃ d', TI (S.move n p0 q g) d' := by
  have hnq : n ≠ q := by rintro rfl; exact hna (.refl _)
  obtain ⟨S1, hS1⟩ : ∃ S1, S.setKids p0 ((S.get p0).kids.erase n) = S1 := ⟨_, rfl⟩
  obtain ⟨g', hg'⟩ : ∃ x, gapOf (decide (p0 = q)) ((S.get p0).kids.idxOf n) g = x := ⟨_, rfl⟩
  obtain ⟨S2, hS2⟩ : ∃ S2, S1.setKids q (insAt (S1.get q).kids g' n) = S2 := ⟨_, rfl⟩
  have hm : S.move n p0 q g = ⟨S2.sl.set n { S2.get n with parent := (q : Int) }, S2.free⟩ := by
    unfold St.move
    simp only [hS1, hg', hS2]
  have l1 : S1.sl.length = S.sl.length := by rw [← hS1]; exact setKids_len _ _ _
  have l2 : S2.sl.length = S.sl.length := by rw [← hS2, setKids_len, l1]
  have g1 : ∀ x, S1.get x = if x = p0 then { S.get p0 with kids := (S.get p0).kids.erase n } else S.get x := fun x => by rw [← hS1]; exact setKids_get _ _ _ _ hp
  have g2 : ∀ x, S2.get x = if x = q then { S1.get q with kids := insAt (S1.get q).kids g' n } else S1.get x := fun x => by rw [← hS2]; exact setKids_get _ _ _ _ (by rw [l1]; exact hq)
  have g3 : ∀ x, (S.move n p0 q g).get x = if x = n then { S2.get n with parent := (q : Int) } else S2.get x := fun x => by rw [hm]; exact set_get _ _ _ _ _ (by rw [l2]; exact hn)
  have l3 : (S.move n p0 q g).sl.length = S.sl.length := by rw [hm]; show (S2.sl.set n _).length = _; rw [List.length_set, l2]
  have hfree : (S.move n p0 q g).free = S.free := by rw [hm, ← hS2, ← hS1]; rfl
  -- children behind the first step
  have k1 : ∀ x, x < S.sl.length → (S1.get x).kids.Nodup ∧ ∀ k, k ∈ (S1.get x).kids ↔ k ≠ n ∧ k ∈ (S.get x).kids := by
    intro x hx
    have hnd := h.nd x _ (get_some hx)
    rw [g1]
    by_cases hxp : x = p0
    · subst hxp
      rw [if_pos rfl]
      exact ⟨hnd.erase n, fun k => hnd.mem_erase_iff⟩
    · rw [if_neg hxp]
      refine ⟨hnd, fun k => ⟨fun hk => ⟨?_, hk⟩, fun hk => hk.2⟩⟩
      rintro rfl
      rcases hlx : (S.get x).live with _ | _
      · rw [(h.dead x _ (get_some hx) hlx).1] at hk
        cases hk
      · obtain ⟨_, t, h1, _, h3⟩ := h.down x _ (get_some hx) hlx k hk
        rw [get_some hn] at h1; cases h1
        rw [hpar] at h3
        exact hxp (Int.ofNat.inj h3).symm
  refine h.moved (get_some hn) hl h0 (get_some hq) hql hna l3 ?_ hfree
  intro x u hu
  have hx := lt_of_get hu
  have hux : S.get x = u := St.get_eq hu
  obtain ⟨n1, n2⟩ := k1 x hx
  rw [hux] at n2
  refine ⟨_, get_some (by rw [l3]; exact hx), ?_⟩
  have e1 : (S1.get x).live = u.live ∧ (S1.get x).parent = u.parent := by
    rw [g1, ← hux]; split
    · rename_i e; subst e; exact ⟨rfl, rfl⟩
    · exact ⟨rfl, rfl⟩
  have e2 : (S2.get x).live = u.live ∧ (S2.get x).parent = u.parent ∧ (S2.get x).kids.Nodup ∧ ∀ k, k ∈ (S2.get x).kids ↔ (k ≠ n ∧ k ∈ u.kids) ∨ (k = n ∧ x = q) := by
    rw [g2]
    by_cases hxq : x = q
    · subst hxq
      rw [if_pos rfl]
      refine ⟨e1.1, e1.2, nodup_insAt n1 (fun hk => ((n2 n).1 hk).1 rfl), fun k => ?_⟩
      show k ∈ insAt (S1.get x).kids g' n ↔ _
      rw [mem_insAt, n2]
      constructor
      · rintro (h | h)
        · exact .inr ⟨h, rfl⟩
        · exact .inl h
      · rintro (h | h)
        · exact .inr h
        · exact .inl h.1
    · rw [if_neg hxq]
      refine ⟨e1.1, e1.2, n1, fun k => ?_⟩
      rw [n2]
      exact ⟨.inl, fun h => h.elim id (fun h => absurd h.2 hxq)⟩
  rw [g3]
  by_cases hxn : x = n
  · subst hxn
    rw [if_pos rfl, if_pos rfl]
    refine ⟨e2.1, rfl, e2.2.2.1, e2.2.2.2, fun hd => ?_⟩
    rw [← hux] at hd
    rw [hl] at hd; cases hd
  · rw [if_neg hxn, if_neg hxn]
    refine ⟨e2.1, e2.2.1, e2.2.2.1, e2.2.2.2, fun hd => ?_⟩
    have hxp : x ≠ p0 := by rintro rfl; rw [hux] at hpl; rw [hpl] at hd; cases hd
    have hxq : x ≠ q := by rintro rfl; rw [hux] at hql; rw [hql] at hd; cases hd
    rw [g2, if_neg hxq, g1, if_neg hxp, hux]

/-! ### Set -/
/-- What is done to the slots by Set. -/
def St.setD (S : St) (n : Nat) (d : Da) : St := ⟨S.sl.set n (d.sl (S.get n).parent (S.get n).kids), S.free⟩
theorem TI.setT {S : St} {d : Nat → Nat} (h : TI S d) {n : Nat} (da : Da) (hn : n < S.sl.length) (hl : (S.get n).live = true) : TI (S.setD n da) d := by
  refine h.data (get_some hn) hl (da := da) ?_ ?_ rfl
  · simp [St.setD, hn]
  · intro x hx
    simp [St.setD, List.getElem?_set]
    intro e; exact absurd e.symm hx

/-! ### The calls as functions -/
def St.addE (S : St) (p g : Int) : Int := if S.liveB p = true then (S.get p.toNat).takes g else 5
def St.addN (S : St) (p g : Int) : Int := if S.addE p g = 0 then (S.fresh : Int) else -1
def St.addS (S : St) (p g : Int) (d : Da) : St := if S.addE p g = 0 then S.add p.toNat g.toNat d else S
def St.remE (S : St) (n : Int) : Int := if S.liveB n = true then (if n = 0 then 82 else 0) else 5
def St.remS (S : St) (n : Int) : St := if S.remE n = 0 then S.remove n.toNat (S.get n.toNat).parent.toNat (S.sub n.toNat) else S
def St.movE (S : St) (n q g : Int) : Int := if S.liveB n = true ∧ S.liveB q = true then (if n = 0 then 82 else if q.toNat ∈ S.sub n.toNat then 84 else (S.get q.toNat).takes g) else 5
def St.movS (S : St) (n q g : Int) : St := if S.movE n q g = 0 then S.move n.toNat (S.get n.toNat).parent.toNat q.toNat g.toNat else S
def St.setE (S : St) (n : Int) (d : Da) : Int := if S.liveB n = true then (if d.leaf = true ∧ (n = 0 ∨ (S.get n.toNat).kids ≠ []) then 83 else 0) else 5
def St.setS (S : St) (n : Int) (d : Da) : St := if S.setE n d = 0 then S.setD n.toNat d else S
theorem takes_ok {s : Sl} {g : Int} (h : s.takes g = 0) : s.leaf = false ∧ 0 ≤ g ∧ g ≤ (s.kids.length : Int) := by
  unfold Sl.takes at h
  rcases hl : s.leaf with _ | _
  · rw [hl] at h
    simp only [Bool.false_eq_true, if_false] at h
    split at h
    · cases h
    · exact ⟨rfl, by omega, by omega⟩
  · rw [hl] at h; simp at h
theorem add_len (S : St) (p g : Nat) (d : Da) : (S.add p g d).sl.length ≤ S.sl.length + 1 := by
  rw [St.add, setKids_len, St.fill]
  show (S.fresh'.sl.set _ _).length ≤ _
  rw [List.length_set]; exact (fresh'_len S).2
theorem remove_len (S : St) (n p : Nat) (l : List Nat) : (S.remove n p l).sl.length = S.sl.length := by
  rw [St.remove, St.zeroAll]
  exact (foldl_len _ _).trans (setKids_len _ _ _)
theorem move_len (S : St) (n p q g : Nat) : (S.move n p q g).sl.length = S.sl.length := by
  unfold St.move
  simp [St.setKids]
theorem setD_len (S : St) (n : Nat) (d : Da) : (S.setD n d).sl.length = S.sl.length := by simp [St.setD]
theorem TI.addS {S : St} {d : Nat → Nat} (h : TI S d) (p g : Int) (da : Da) : (∃ d', TI (S.addS p g da) d') ∧ (S.addS p g da).sl.length ≤ S.sl.length + 1 := by
  unfold St.addS
  split
  · rename_i he
    unfold St.addE at he
    split at he
    · rename_i hl
      obtain ⟨k, rfl, hk, hk2⟩ := liveB_yes hl
      rw [Int.toNat_natCast]
      exact ⟨h.addT _ _ hk hk2, add_len _ _ _ _⟩
    · cases he
  · exact ⟨⟨d, h⟩, by omega⟩
theorem remE_ok {S : St} {n : Int} (h : S.remE n = 0) : ∃ k : Nat, n = (k : Int) ∧ k < S.sl.length ∧ (S.get k).live = true ∧ k ≠ 0 := by
  unfold St.remE at h
  split at h
  · rename_i hl
    obtain ⟨k, rfl, hk, hk2⟩ := liveB_yes hl
    refine ⟨k, rfl, hk, hk2, ?_⟩
    rintro rfl
    simp at h
  · cases h
theorem TI.remS {S : St} {d : Nat → Nat} (h : TI S d) (n : Int) : TI (S.remS n) d ∧ (S.remS n).sl.length = S.sl.length := by
  unfold St.remS
  split
  · rename_i he
    obtain ⟨k, rfl, hk, hk2, h0⟩ := remE_ok he
    obtain ⟨p, h1, h2, h3, h4, h5, h6⟩ := h.par hk hk2 h0
    rw [Int.toNat_natCast, h1, Int.toNat_natCast]
    exact ⟨h.removeT hk hk2 h1 h2 h6, remove_len _ _ _ _⟩
  · exact ⟨h, rfl⟩
theorem movE_ok {S : St} {d : Nat → Nat} (ht : TI S d) {n q g : Int} (h : S.movE n q g = 0) : ∃ k m : Nat, n = (k : Int) ∧ q = (m : Int) ∧ k < S.sl.length ∧ (S.get k).live = true ∧ k ≠ 0 ∧ m < S.sl.length ∧ (S.get m).live = true ∧ ¬ Anc S m k ∧ (S.get m).takes g = 0 := by
  unfold St.movE at h
  split at h
  · rename_i hl
    obtain ⟨k, rfl, hk, hk2⟩ := liveB_yes hl.1
    obtain ⟨m, rfl, hm, hm2⟩ := liveB_yes hl.2
    rw [Int.toNat_natCast, Int.toNat_natCast] at h
    split at h
    · cases h
    · rename_i h0
      split at h
      · cases h
      · rename_i hs
        refine ⟨k, m, rfl, rfl, hk, hk2, fun e => h0 (by rw [e]; rfl), hm, hm2, fun ha => hs ?_, h⟩
        obtain ⟨_, _, _, h4⟩ := ht.sub_pre hk hk2
        exact (h4 m).2 ⟨⟨_, get_some hm, hm2⟩, ha⟩
  · cases h
theorem TI.movS {S : St} {d : Nat → Nat} (h : TI S d) (n q g : Int) : (∃ d', TI (S.movS n q g) d') ∧ (S.movS n q g).sl.length = S.sl.length := by
  unfold St.movS
  split
  · rename_i he
    obtain ⟨k, m, rfl, rfl, h1, h2, h3, h4, h5, h6, h7⟩ := movE_ok h he
    obtain ⟨p, p1, p2, p3, p4, p5, p6⟩ := h.par h1 h2 h3
    rw [Int.toNat_natCast, Int.toNat_natCast, p1, Int.toNat_natCast]
    exact ⟨h.moveT _ h1 h2 h3 p1 p2 p3 p5 h4 h5 h6, move_len _ _ _ _ _⟩
  · exact ⟨⟨d, h⟩, rfl⟩
theorem TI.setS {S : St} {d : Nat → Nat} (h : TI S d) (n : Int) (da : Da) : TI (S.setS n da) d ∧ (S.setS n da).sl.length = S.sl.length := by
  unfold St.setS
  split
  · rename_i he
    unfold St.setE at he
    split at he
    · rename_i hl
      obtain ⟨k, rfl, hk, hk2⟩ := liveB_yes hl
      rw [Int.toNat_natCast]
      exact ⟨h.setT da hk hk2, setD_len _ _ _⟩
    · cases he
  · exact ⟨h, rfl⟩
end Go.Proofs.Ytobbdeakocgdcaa.Ar
