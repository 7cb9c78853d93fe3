/- Chapter 07: what the arena's calls do to the plain data; the arena stays a tree. Nothing of the program is named here. -/
import Derived.Test.YtobbdeakocgdcaaArPlain
namespace Go.Proofs.Ytobbdeakocgdcaa.Ar

theorem mem_insAt {l : List Nat} {i x k : Nat} : k ∈ insAt l i x ↔ k = x ∨ k ∈ l := by
  unfold insAt
  have h : k ∈ l ↔ k ∈ l.take i ∨ k ∈ l.drop i := by rw [← List.mem_append, List.take_append_drop]
  rw [h, List.mem_append, List.mem_cons]
  constructor
  · rintro (h | h | h)
    · exact .inr (.inl h)
    · exact .inl h
    · exact .inr (.inr h)
  · rintro (h | h | h)
    · exact .inr (.inl h)
    · exact .inl h
    · exact .inr (.inr h)
theorem nodup_insAt {l : List Nat} {i x : Nat} (h : l.Nodup) (hx : x ∉ l) : (insAt l i x).Nodup := by
  have h1 : (l.take i ++ l.drop i).Nodup := by rw [List.take_append_drop]; exact h
  obtain ⟨h2, h3, h4⟩ := List.nodup_append.1 h1
  refine List.nodup_append.2 ⟨h2, List.nodup_cons.2 ⟨fun h5 => hx (List.mem_of_mem_drop h5), h3⟩, ?_⟩
  intro a ha b hb
  rcases List.mem_cons.1 hb with rfl | hb
  · rintro rfl; exact hx (List.mem_of_mem_take ha)
  · exact h4 a ha b hb
theorem len_insAt {l : List Nat} {i x : Nat} : (insAt l i x).length = l.length + 1 := by
  unfold insAt
  rw [List.length_append, List.length_cons, List.length_take, List.length_drop]; omega

def St.new (d : Da) : St := ⟨[({ d with leaf := false } : Da).sl (-1) []], []⟩
theorem TI.new (d : Da) : TI (St.new d) (fun _ => 0) := by
  have key : ∀ (n : Nat) (s : Sl), (St.new d).sl[n]? = some s → n = 0 ∧ s = ({ d with leaf := false } : Da).sl (-1) [] := by
    intro n s h
    cases n with
    | zero => exact ⟨rfl, (Option.some.inj h).symm⟩
    | succ n => cases h
  refine ⟨⟨_, rfl, rfl, rfl⟩, ?_, ?_, ?_, ?_, ?_, List.nodup_nil⟩
  · intro n s h _ h0; exact absurd (key n s h).1 h0
  · intro n s h _ k hk; obtain ⟨_, rfl⟩ := key n s h; cases hk
  · intro n s h; obtain ⟨_, rfl⟩ := key n s h; exact List.nodup_nil
  · intro n s h hl; obtain ⟨_, rfl⟩ := key n s h; cases hl
  · intro x hx; cases hx

section
variable {S S' : St} {d : Nat → Nat}
/-- One more. -/
theorem TI.grow {n p i : Nat} {s z : Sl} (h : TI S d) (hs : S.sl[p]? = some s) (hl : s.live = true) (hn : ∀ t, S.sl[n]? = some t → t.live = false)
    (hz : S'.sl[n]? = some z) (z1 : z.live = true) (z2 : z.parent = (p : Int)) (z3 : z.kids = []) (hp : S'.sl[p]? = some { s with kids := insAt s.kids i n })
    (ho : ∀ x, x ≠ n → x ≠ p → S'.sl[x]? = S.sl[x]?) (hf : ∀ x, x ∈ S'.free ↔ x ∈ S.free ∧ x ≠ n) (hnd : S'.free.Nodup) : TI S' (fun x => if x = n then d p + 1 else d x) := by
  have hpn : p ≠ n := by rintro rfl; rw [hn s hs] at hl; cases hl
  have hlive : ∀ {x : Nat} {t : Sl}, S.sl[x]? = some t → t.live = true → x ≠ n := by
    intro x t hx ht e; subst e; rw [hn t hx] at ht; cases ht
  have old : ∀ x, x ≠ n → ∀ t', S'.sl[x]? = some t' → ∃ t, S.sl[x]? = some t ∧ t'.live = t.live ∧ t'.parent = t.parent ∧ (t'.kids = t.kids ∨ (x = p ∧ t'.kids = insAt t.kids i n)) ∧ (t.live = false → t' = t) := by
    intro x hx t' ht
    by_cases hxp : x = p
    · subst hxp
      rw [hp] at ht; cases ht
      exact ⟨s, hs, rfl, rfl, .inr ⟨rfl, rfl⟩, fun e => by rw [hl] at e; cases e⟩
    · rw [ho x hx hxp] at ht
      exact ⟨t', ht, rfl, rfl, .inl rfl, fun _ => rfl⟩
  have new : ∀ x, x ≠ n → ∀ t, S.sl[x]? = some t → ∃ t', S'.sl[x]? = some t' ∧ t'.live = t.live ∧ t'.parent = t.parent ∧ ∀ k ∈ t.kids, k ∈ t'.kids := by
    intro x hx t ht
    by_cases hxp : x = p
    · subst hxp
      rw [hs] at ht; cases ht
      exact ⟨_, hp, rfl, rfl, fun k hk => mem_insAt.2 (.inr hk)⟩
    · exact ⟨t, (ho x hx hxp).trans ht, rfl, rfl, fun k hk => hk⟩
  have nk : n ∉ s.kids := by
    intro hk
    obtain ⟨_, t, h1, h2, _⟩ := h.down p s hs hl n hk
    exact hlive h1 h2 rfl
  refine ⟨?_, ?_, ?_, ?_, ?_, ?_, hnd⟩
  · obtain ⟨r, h1, h2, h3⟩ := h.root
    obtain ⟨r', h4, h5, h6, _⟩ := new 0 (hlive h1 h2) r h1
    exact ⟨r', h4, h5.trans h2, h6.trans h3⟩
  · intro x t' ht hl' h0
    by_cases hx : x = n
    · subst hx
      rw [hz] at ht; cases ht
      refine ⟨p, _, z2, hp, hl, mem_insAt.2 (.inl rfl), ?_⟩
      rw [if_neg hpn, if_pos rfl]; omega
    · obtain ⟨t, h1, h2, h3, _⟩ := old x hx t' ht
      obtain ⟨q, u, h4, h5, h6, h7, h8⟩ := h.up x t h1 (h2.symm.trans hl') h0
      have hq := hlive h5 h6
      obtain ⟨u', h9, h10, _, h11⟩ := new q hq u h5
      refine ⟨q, u', h3.trans h4, h9, h10.trans h6, h11 x h7, ?_⟩
      rw [if_neg hq, if_neg hx]; exact h8
  · intro x t' ht hl' k hk
    by_cases hx : x = n
    · subst hx
      rw [hz] at ht; cases ht
      rw [z3] at hk; cases hk
    · obtain ⟨t, h1, h2, h3, h4, _⟩ := old x hx t' ht
      have main : k ∈ t.kids → k ≠ 0 ∧ ∃ t : Sl, S'.sl[k]? = some t ∧ t.live = true ∧ t.parent = (x : Int) := by
        intro hk
        obtain ⟨h5, u, h6, h7, h8⟩ := h.down x t h1 (h2.symm.trans hl') k hk
        obtain ⟨u', h9, h10, h11, _⟩ := new k (hlive h6 h7) u h6
        exact ⟨h5, u', h9, h10.trans h7, h11.trans h8⟩
      rcases h4 with h4 | ⟨rfl, h4⟩
      · exact main (h4 ▸ hk)
      · rw [h4] at hk
        rcases mem_insAt.1 hk with rfl | hk
        · refine ⟨?_, z, hz, z1, z2⟩
          obtain ⟨r, h5, h6, _⟩ := h.root
          exact fun e => hlive h5 h6 e.symm
        · exact main hk
  · intro x t' ht
    by_cases hx : x = n
    · subst hx
      rw [hz] at ht; cases ht
      rw [z3]; exact List.nodup_nil
    · obtain ⟨t, h1, _, _, h4, _⟩ := old x hx t' ht
      have := h.nd x t h1
      rcases h4 with h4 | ⟨rfl, h4⟩
      · rw [h4]; exact this
      · rw [hs] at h1; cases h1
        rw [h4]; exact nodup_insAt this nk
  · intro x t' ht hd
    by_cases hx : x = n
    · subst hx
      rw [hz] at ht; cases ht
      rw [z1] at hd; cases hd
    · obtain ⟨t, h1, h2, _, _, h5⟩ := old x hx t' ht
      have hd' := h2.symm.trans hd
      obtain ⟨h6, h7⟩ := h.dead x t h1 hd'
      exact ⟨(h5 hd').trans h6, (hf x).2 ⟨h7, hx⟩⟩
  · intro x hx
    obtain ⟨h1, h2⟩ := (hf x).1 hx
    obtain ⟨t, h3, h4⟩ := h.fr x h1
    obtain ⟨t', h5, h6, _⟩ := new x h2 t h3
    exact ⟨t', h5, h6.trans h4⟩

/-- A subtree less. -/
theorem TI.cut {n p : Nat} {s t : Sl} {l : List Nat} (h : TI S d) (hn : S.sl[n]? = some s) (hl : s.live = true) (hp : s.parent = (p : Int)) (ht : S.sl[p]? = some t) (hpre : PreL S [n] l)
    (hin : ∀ x ∈ l, S'.sl[x]? = some Sl.zero) (hpk : S'.sl[p]? = some { t with kids := t.kids.erase n }) (ho : ∀ x, x ∉ l → x ≠ p → S'.sl[x]? = S.sl[x]?)
    (hf : S'.free = S.free ++ l) : TI S' d := by
  obtain ⟨h0, t', ht', htl, htk, hd⟩ := h.live_up hn hl hp
  rw [ht] at ht'; cases ht'
  have hliv : ∀ k ∈ [n], ∃ s : Sl, S.sl[k]? = some s ∧ s.live = true := by intro k hk; rw [List.mem_singleton.1 hk]; exact ⟨s, hn, hl⟩
  have inl : ∀ x, x ∈ l → (∃ s : Sl, S.sl[x]? = some s ∧ s.live = true) ∧ Anc S x n := by
    intro x hx
    obtain ⟨h1, k, hk, h2⟩ := hpre.under h hliv x hx
    rw [List.mem_singleton.1 hk] at h2
    exact ⟨h1, h2⟩
  have all : ∀ x, (∃ s : Sl, S.sl[x]? = some s ∧ s.live = true) → Anc S x n → x ∈ l := fun x h1 h2 => hpre.all h h2 h1 (by simp)
  have hpl : p ∉ l := by
    intro hx
    have := (inl p hx).2.le h (inl p hx).1
    omega
  have h0l : 0 ∉ l := by
    intro hx
    obtain ⟨r, h1, h2, h3⟩ := h.root
    have := (inl 0 hx).2
    cases this with
    | refl => exact h0 rfl
    | up k1 k2 _ => rw [h1] at k1; cases k1; rw [h3] at k2; omega
  have old : ∀ x, x ∉ l → ∀ u', S'.sl[x]? = some u' → ∃ u, S.sl[x]? = some u ∧ u'.live = u.live ∧ u'.parent = u.parent ∧ u'.kids = (if x = p then u.kids.erase n else u.kids) ∧ (u.live = false → u' = u) := by
    intro x hx u' hu
    by_cases hxp : x = p
    · subst hxp
      rw [hpk] at hu; cases hu
      exact ⟨t, ht, rfl, rfl, by rw [if_pos rfl], fun e => by rw [htl] at e; cases e⟩
    · rw [ho x hx hxp] at hu
      exact ⟨u', hu, rfl, rfl, by rw [if_neg hxp], fun _ => rfl⟩
  have new : ∀ x, x ∉ l → ∀ u, S.sl[x]? = some u → ∃ u', S'.sl[x]? = some u' ∧ u'.live = u.live ∧ u'.parent = u.parent ∧ u'.kids = (if x = p then u.kids.erase n else u.kids) := by
    intro x hx u hu
    by_cases hxp : x = p
    · subst hxp
      rw [ht] at hu; cases hu
      exact ⟨_, hpk, rfl, rfl, by rw [if_pos rfl]⟩
    · exact ⟨u, (ho x hx hxp).trans hu, rfl, rfl, by rw [if_neg hxp]⟩
  have nl : n ∈ l := hpre.sub n (by simp)
  refine ⟨?_, ?_, ?_, ?_, ?_, ?_, ?_⟩
  · obtain ⟨r, h1, h2, h3⟩ := h.root
    obtain ⟨r', h4, h5, h6, _⟩ := new 0 h0l r h1
    exact ⟨r', h4, h5.trans h2, h6.trans h3⟩
  · intro x u' hu hlu h0x
    have hx : x ∉ l := by intro hx; rw [hin x hx] at hu; cases hu; cases hlu
    obtain ⟨u, h1, h2, h3, _⟩ := old x hx u' hu
    obtain ⟨q, v, h4, h5, h6, h7, h8⟩ := h.up x u h1 (h2.symm.trans hlu) h0x
    have hq : q ∉ l := by
      intro hq
      exact hx (all x ⟨u, h1, h2.symm.trans hlu⟩ (.up h1 h4 (inl q hq).2))
    obtain ⟨v', h9, h10, _, h11⟩ := new q hq v h5
    refine ⟨q, v', h3.trans h4, h9, h10.trans h6, ?_, h8⟩
    rw [h11]
    split
    · have : x ≠ n := by rintro rfl; exact hx nl
      exact (List.mem_erase_of_ne this).2 h7
    · exact h7
  · intro x u' hu hlu k hk
    have hx : x ∉ l := by intro hx; rw [hin x hx] at hu; cases hu; cases hlu
    obtain ⟨u, h1, h2, h3, h4, _⟩ := old x hx u' hu
    have hkn : k ∈ u.kids ∧ k ≠ n := by
      rw [h4] at hk
      by_cases hxp : x = p
      · rw [if_pos hxp] at hk
        have := (h.nd x u h1).mem_erase_iff.1 hk
        exact ⟨this.2, this.1⟩
      · rw [if_neg hxp] at hk
        refine ⟨hk, ?_⟩
        rintro rfl
        obtain ⟨_, v, h5, _, h6⟩ := h.down x u h1 (h2.symm.trans hlu) k hk
        rw [hn] at h5; cases h5
        exact hxp (Int.ofNat.inj (h6.symm.trans hp))
    obtain ⟨h5, v, h6, h7, h8⟩ := h.down x u h1 (h2.symm.trans hlu) k hkn.1
    have hkl : k ∉ l := by
      intro hk
      obtain ⟨_, h9⟩ := inl k hk
      cases h9 with
      | refl => exact hkn.2 rfl
      | up k1 k2 k3 =>
        rw [h6] at k1; cases k1
        obtain rfl : x = _ := Int.ofNat.inj (h8.symm.trans k2)
        exact hx (all x ⟨u, h1, h2.symm.trans hlu⟩ k3)
    obtain ⟨v', h9, h10, h11, _⟩ := new k hkl v h6
    exact ⟨h5, v', h9, h10.trans h7, h11.trans h8⟩
  · intro x u' hu
    by_cases hx : x ∈ l
    · rw [hin x hx] at hu; cases hu; exact List.nodup_nil
    · obtain ⟨u, h1, _, _, h4, _⟩ := old x hx u' hu
      have := h.nd x u h1
      rw [h4]
      split
      · exact this.erase n
      · exact this
  · intro x u' hu hd
    by_cases hx : x ∈ l
    · rw [hin x hx] at hu; cases hu
      exact ⟨rfl, by rw [hf]; simp [hx]⟩
    · obtain ⟨u, h1, h2, _, _, h5⟩ := old x hx u' hu
      obtain ⟨h6, h7⟩ := h.dead x u h1 (h2.symm.trans hd)
      exact ⟨(h5 (h2.symm.trans hd)).trans h6, by rw [hf]; simp [h7]⟩
  · intro x hx
    rw [hf] at hx
    by_cases hxl : x ∈ l
    · exact ⟨_, hin x hxl, rfl⟩
    · have hx : x ∈ S.free := by rcases List.mem_append.1 hx with h | h; exact h; exact absurd h hxl
      obtain ⟨u, h1, h2⟩ := h.fr x hx
      obtain ⟨u', h3, h4, _⟩ := new x hxl u h1
      exact ⟨u', h3, h4.trans h2⟩
  · rw [hf, List.nodup_append]
    refine ⟨h.fnd, hpre.nodup h hliv (List.pairwise_singleton _ _), ?_⟩
    intro a ha b hb e
    subst e
    obtain ⟨u, h1, h2⟩ := h.fr a ha
    obtain ⟨⟨v, h3, h4⟩, _⟩ := inl a hb
    rw [h1] at h3; cases h3
    rw [h2] at h4; cases h4

/-- A subtree moved. -/
theorem TI.moved {n q : Nat} {s t : Sl} (h : TI S d) (hn : S.sl[n]? = some s) (hl : s.live = true) (h0 : n ≠ 0) (ht : S.sl[q]? = some t) (htl : t.live = true) (hna : ¬ Anc S q n) (hlen : S'.sl.length = S.sl.length)
    (hr : ∀ (x : Nat) (u : Sl), S.sl[x]? = some u → ∃ u', S'.sl[x]? = some u' ∧ u'.live = u.live ∧ u'.parent = (if x = n then (q : Int) else u.parent) ∧ u'.kids.Nodup ∧ (∀ k, k ∈ u'.kids ↔ (k ≠ n ∧ k ∈ u.kids) ∨ (k = n ∧ x = q)) ∧ (u.live = false → u' = u))
    (hf : S'.free = S.free) : ∃ d', TI S' d' := by
  have old : ∀ (x : Nat) (u' : Sl), S'.sl[x]? = some u' → ∃ u, S.sl[x]? = some u ∧ u'.live = u.live ∧ u'.parent = (if x = n then (q : Int) else u.parent) ∧ u'.kids.Nodup ∧ (∀ k, k ∈ u'.kids ↔ (k ≠ n ∧ k ∈ u.kids) ∨ (k = n ∧ x = q)) ∧ (u.live = false → u' = u) := by
    intro x u' hu
    have hlt := lt_of_get hu
    rw [hlen] at hlt
    obtain ⟨u, h1⟩ : ∃ u, S.sl[x]? = some u := ⟨_, List.getElem?_eq_getElem hlt⟩
    obtain ⟨u'', h2, h3⟩ := hr x u h1
    rw [hu] at h2; cases h2
    exact ⟨u, h1, h3⟩
  obtain ⟨dec⟩ : Nonempty (∀ x, Decidable (Anc S x n)) := ⟨fun x => Classical.propDecidable _⟩
  refine ⟨fun x => if Anc S x n then d x + d q + 1 else d x, ?_, ?_, ?_, ?_, ?_, ?_, ?_⟩
  · obtain ⟨r, h1, h2, h3⟩ := h.root
    obtain ⟨r', h4, h5, h6, _⟩ := hr 0 r h1
    rw [if_neg (Ne.symm h0)] at h6
    exact ⟨r', h4, h5.trans h2, h6.trans h3⟩
  · intro x u' hu hlu h0x
    obtain ⟨u, h1, h2, h3, _⟩ := old x u' hu
    by_cases hxn : x = n
    · subst hxn
      rw [if_pos rfl] at h3
      obtain ⟨t', h4, h5, _, _, h6, _⟩ := hr q t ht
      refine ⟨q, t', h3, h4, h5.trans htl, (h6 x).2 (.inr ⟨rfl, rfl⟩), ?_⟩
      show (if Anc S q x then d q + d q + 1 else d q) < (if Anc S x x then d x + d q + 1 else d x)
      rw [if_neg hna, if_pos (.refl _)]; omega
    · rw [if_neg hxn] at h3
      obtain ⟨p, v, h4, h5, h6, h7, h8⟩ := h.up x u h1 (h2.symm.trans hlu) h0x
      obtain ⟨v', h9, h10, _, _, h11, _⟩ := hr p v h5
      refine ⟨p, v', h3.trans h4, h9, h10.trans h6, (h11 x).2 (.inl ⟨hxn, h7⟩), ?_⟩
      show (if Anc S p n then d p + d q + 1 else d p) < (if Anc S x n then d x + d q + 1 else d x)
      by_cases ha : Anc S p n
      · rw [if_pos ha, if_pos (.up h1 h4 ha)]; omega
      · have : ¬ Anc S x n := by
          intro hx
          cases hx with
          | refl => exact hxn rfl
          | up k1 k2 k3 =>
            rw [h1] at k1; cases k1
            obtain rfl : p = _ := Int.ofNat.inj (h4.symm.trans k2)
            exact ha k3
        rw [if_neg ha, if_neg this]; exact h8
  · intro x u' hu hlu k hk
    obtain ⟨u, h1, h2, h3, _, h4, _⟩ := old x u' hu
    rcases (h4 k).1 hk with ⟨h5, h6⟩ | ⟨rfl, rfl⟩
    · obtain ⟨h7, v, h8, h9, h10⟩ := h.down x u h1 (h2.symm.trans hlu) k h6
      obtain ⟨v', h11, h12, h13, _⟩ := hr k v h8
      rw [if_neg h5] at h13
      exact ⟨h7, v', h11, h12.trans h9, h13.trans h10⟩
    · obtain ⟨s', h5, h6, h7, _⟩ := hr k s hn
      rw [if_pos rfl] at h7
      exact ⟨h0, s', h5, h6.trans hl, h7⟩
  · intro x u' hu
    obtain ⟨u, _, _, _, h4, _⟩ := old x u' hu
    exact h4
  · intro x u' hu hd
    obtain ⟨u, h1, h2, _, _, _, h5⟩ := old x u' hu
    obtain ⟨h6, h7⟩ := h.dead x u h1 (h2.symm.trans hd)
    exact ⟨(h5 (h2.symm.trans hd)).trans h6, by rw [hf]; exact h7⟩
  · intro x hx
    rw [hf] at hx
    obtain ⟨u, h1, h2⟩ := h.fr x hx
    obtain ⟨u', h3, h4, _⟩ := hr x u h1
    exact ⟨u', h3, h4.trans h2⟩
  · rw [hf]; exact h.fnd

/-- Data set. -/
theorem TI.data {n : Nat} {s : Sl} {da : Da} (h : TI S d) (hn : S.sl[n]? = some s) (hl : s.live = true) (hi : S'.sl[n]? = some (da.sl s.parent s.kids)) (ho : ∀ x, x ≠ n → S'.sl[x]? = S.sl[x]?) (hf : S'.free = S.free) : TI S' d := by
  have old : ∀ (x : Nat) (u' : Sl), S'.sl[x]? = some u' → ∃ u, S.sl[x]? = some u ∧ u'.live = u.live ∧ u'.parent = u.parent ∧ u'.kids = u.kids ∧ (u.live = false → u' = u) := by
    intro x u' hu
    by_cases hx : x = n
    · subst hx
      rw [hi] at hu; cases hu
      exact ⟨s, hn, hl.symm, rfl, rfl, fun e => by rw [hl] at e; cases e⟩
    · rw [ho x hx] at hu; exact ⟨u', hu, rfl, rfl, rfl, fun _ => rfl⟩
  have new : ∀ (x : Nat) (u : Sl), S.sl[x]? = some u → ∃ u', S'.sl[x]? = some u' ∧ u'.live = u.live ∧ u'.parent = u.parent ∧ u'.kids = u.kids := by
    intro x u hu
    by_cases hx : x = n
    · subst hx
      rw [hn] at hu; cases hu
      exact ⟨_, hi, hl.symm, rfl, rfl⟩
    · exact ⟨u, (ho x hx).trans hu, rfl, rfl, rfl⟩
  refine ⟨?_, ?_, ?_, ?_, ?_, ?_, by rw [hf]; exact h.fnd⟩
  · obtain ⟨r, h1, h2, h3⟩ := h.root
    obtain ⟨r', h4, h5, h6, _⟩ := new 0 r h1
    exact ⟨r', h4, h5.trans h2, h6.trans h3⟩
  · intro x u' hu hlu h0
    obtain ⟨u, h1, h2, h3, _⟩ := old x u' hu
    obtain ⟨p, v, h4, h5, h6, h7, h8⟩ := h.up x u h1 (h2.symm.trans hlu) h0
    obtain ⟨v', h9, h10, _, h11⟩ := new p v h5
    exact ⟨p, v', h3.trans h4, h9, h10.trans h6, by rw [h11]; exact h7, h8⟩
  · intro x u' hu hlu k hk
    obtain ⟨u, h1, h2, h3, h4, _⟩ := old x u' hu
    obtain ⟨h5, v, h6, h7, h8⟩ := h.down x u h1 (h2.symm.trans hlu) k (h4 ▸ hk)
    obtain ⟨v', h9, h10, h11, _⟩ := new k v h6
    exact ⟨h5, v', h9, h10.trans h7, h11.trans h8⟩
  · intro x u' hu
    obtain ⟨u, h1, _, _, h4, _⟩ := old x u' hu
    rw [h4]; exact h.nd x u h1
  · intro x u' hu hd
    obtain ⟨u, h1, h2, _, _, h5⟩ := old x u' hu
    obtain ⟨h6, h7⟩ := h.dead x u h1 (h2.symm.trans hd)
    exact ⟨(h5 (h2.symm.trans hd)).trans h6, by rw [hf]; exact h7⟩
  · intro x hx
    rw [hf] at hx
    obtain ⟨u, h1, h2⟩ := h.fr x hx
    obtain ⟨u', h3, h4, _⟩ := new x u h1
    exact ⟨u', h3, h4.trans h2⟩
end
end Go.Proofs.Ytobbdeakocgdcaa.Ar
