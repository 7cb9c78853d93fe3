/- Chapter 07: the arena's own row of slabs, its count, its free numbers, in memory. Nothing of the program is named here. -/
import Derived.Test.YtobbdeakocgdcaaArData
namespace Go.Proofs.Ytobbdeakocgdcaa.Ar
open Go.RowKit Go.Proofs.Ytobbdeakocgdcaa.Bw

/-- A call on the arena: others' blocks stay; what a block was, it is. -/
structure Step (w : World) (ρ : Nat → Tg) (w' : World) (ρ' : Nat → Tg) : Prop where
  fr : Fr w w' (fun k => ρ k ≠ .no)
  tg : ∀ g, g < w.heap.size → ρ' g = ρ g
theorem Step.refl (w : World) (ρ : Nat → Tg) : Step w ρ w ρ := ⟨Fr.refl _ _, fun _ _ => rfl⟩
theorem Step.trans {a b c : World} {ρ ρ' ρ'' : Nat → Tg} (h : Step a ρ b ρ') (k : Step b ρ' c ρ'') : Step a ρ c ρ'' :=
  ⟨⟨k.fr.os.trans h.fr.os, k.fr.tape.trans h.fr.tape, k.fr.output.trans h.fr.output, Nat.le_trans h.fr.size k.fr.size, fun i hi hs => (k.fr.block i (Nat.lt_of_lt_of_le hi h.fr.size) (by rw [h.tg i hi]; exact hs)).trans (h.fr.block i hi hs)⟩,
    fun g hg => (k.tg g (Nat.lt_of_lt_of_le hg h.fr.size)).trans (h.tg g hg)⟩
theorem Step.ext {a b : World} {ρ : Nat → Tg} (h : Ext a b) : Step a ρ b ρ := ⟨Fr.of_ext h _, fun _ _ => rfl⟩

def St.fresh (S : St) : Nat := S.free.getLast?.getD S.sl.length
def St.fresh' (S : St) : St := if S.free = [] then ⟨S.sl ++ [Sl.zero], []⟩ else ⟨S.sl, S.free.dropLast⟩

section
variable {w w' : World} {ρ ρ' : Nat → Tg} {base A : Nat} {S : St} {sv fv sv' fv' : Value} {bs : List Nat}
theorem AP.get_snoc (S : St) (m : Nat) : (⟨S.sl ++ [Sl.zero], S.free⟩ : St).get m = S.get m := by
  simp only [St.get]
  rcases Nat.lt_trichotomy m S.sl.length with h | h | h
  · rw [List.getElem?_append_left h]
  · subst h; rw [List.getElem?_append_right (Nat.le_refl _), List.getElem?_eq_none (Nat.le_refl S.sl.length)]; simp
  · rw [List.getElem?_append_right (by omega), List.getElem?_eq_none (l := S.sl) (by omega), List.getElem?_eq_none (by simp; omega)]
/-- The free numbers are others. -/
theorem AP.freed (h : AP w ρ base A S sv fv bs) (k : Fr w w' (fun k => k = A ∨ ρ k = .free ∨ ρ k = .no)) {f : List Nat} (hbox : NBox w' A 65 #[sv, .int .i64 (S.sl.length : Int), fv']) (hf : w'.ownsRow base 3 1 fv' f.length (ints f)) (hft : ∀ k, fv'.ownBlock = some k → ρ' k = .free)
    (hρ : ∀ g, g < w.heap.size → ρ' g = ρ g) (hnew : ∀ g, ρ' g ≠ .no → g < w'.heap.size) (hlen : f.length ≤ 1000000) : AP w' ρ' base A ⟨S.sl, f⟩ sv fv' bs := by
  have nt : ∀ {g : Nat} {t : Tg}, ρ g = t → t ≠ .box → t ≠ .free → t ≠ .no → ¬ (g = A ∨ ρ g = .free ∨ ρ g = .no) := by
    intro g t hg h1 h2 h3 h4
    rcases h4 with rfl | h4 | h4
    · exact h1 (hg.symm.trans h.boxt)
    · exact h2 (hg.symm.trans h4)
    · exact h3 (hg.symm.trans h4)
  refine ⟨hbox, by rw [hρ A h.box.lt]; exact h.boxt, h.boxb, owns_fr k h.row (fun g hg => nt (h.rowt g hg) (by simp) (by simp) (by simp)), fun g hg => by rw [hρ g (h.row.lt g hg).2]; exact h.rowt g hg, hf, hft, h.room, ?_, h.nd, ?_, Nat.le_trans h.lo k.size, h.big.1, hlen, h.big.2.2⟩
  · intro j b hj
    obtain ⟨cs, h1, h2, h3, h4, h5⟩ := h.slab j b hj
    refine ⟨cs, h1.fr k (nt h3 (by simp) (by simp) (by simp)), h2, by rw [hρ b h1.lt]; exact h3, h4, fun r hr => ?_⟩
    obtain ⟨av, kv, h6, h7⟩ := h5 r hr
    exact ⟨av, kv, h6, h7.fr k (fun g hg => nt hg (by simp) (by simp) (by simp)) (fun g hg => nt hg (by simp) (by simp) (by simp)) hρ⟩
  · intro g hg
    refine ⟨?_, hnew g hg⟩
    rcases Nat.lt_or_ge g w.heap.size with h1 | h1
    · rw [hρ g h1] at hg; exact (h.old g hg).1
    · exact Nat.le_trans h.lo h1
/-- One slot more, of a slab that is there. -/
theorem AP.counted (h : AP w ρ base A S sv fv bs) (hlt : S.sl.length < 16 * bs.length) (hb : S.sl.length < 1000000) (k : Fr w w' (fun k => k = A)) (hbox : NBox w' A 65 #[sv, .int .i64 ((S.sl.length + 1 : Nat) : Int), fv]) : AP w' ρ base A ⟨S.sl ++ [Sl.zero], S.free⟩ sv fv bs := by
  have nt : ∀ {g : Nat} {t : Tg}, ρ g = t → t ≠ .box → ¬ g = A := by
    rintro g t hg h1 rfl
    exact h1 (hg.symm.trans h.boxt)
  have hl : (S.sl ++ [Sl.zero]).length = S.sl.length + 1 := by simp
  refine ⟨by show NBox w' A 65 #[sv, .int .i64 ((S.sl ++ [Sl.zero]).length : Int), fv]; rw [hl]; exact hbox, h.boxt, h.boxb, owns_fr k h.row (fun g hg => nt (h.rowt g hg) (by simp)), h.rowt, owns_fr k h.fre (fun g hg => nt (h.fret g hg) (by simp)), h.fret, by rw [hl]; omega, ?_, h.nd, ?_, Nat.le_trans h.lo k.size, by rw [hl]; omega, h.big.2.1, fun m => by rw [AP.get_snoc]; exact h.big.2.2 m⟩
  · intro j b hj
    obtain ⟨cs, h1, h2, h3, h4, h5⟩ := h.slab j b hj
    refine ⟨cs, h1.fr k (nt h3 (by simp)), h2, h3, h4, fun r hr => ?_⟩
    obtain ⟨av, kv, h6, h7⟩ := h5 r hr
    rw [AP.get_snoc]
    exact ⟨av, kv, h6, h7.fr k (fun g hg => nt hg (by simp)) (fun g hg => nt hg (by simp)) (fun _ _ => rfl)⟩
  · intro g hg
    exact ⟨(h.old g hg).1, Nat.lt_of_lt_of_le (h.old g hg).2 k.size⟩
def zero8 : List Value := slCells Sl.zero (.slice none 0 0) (.slice none 0 0)
def zeroSlab : Array Value := (List.replicate 16 zero8).flatten.toArray
theorem rep_at (l : List Value) (hl : l.length = 8) : ∀ (n r j : Nat), r < n → j < 8 → ((List.replicate n l).flatten)[r * 8 + j]? = l[j]?
  | 0, _, _, h, _ => by omega
  | n + 1, 0, j, _, hj => by
    rw [List.replicate_succ, List.flatten_cons, List.getElem?_append_left (by omega), Nat.zero_mul, Nat.zero_add]
  | n + 1, r + 1, j, h, hj => by
    rw [List.replicate_succ, List.flatten_cons, List.getElem?_append_right (by omega), hl, show (r + 1) * 8 + j - 8 = r * 8 + j by omega]
    exact rep_at l hl n r j (by omega) hj
theorem zeroSlab_lies (r : Nat) (hr : r < 16) : Lies (fun i => zeroSlab[i]?) (r * 8) zero8 := by
  intro j u hu
  have hj : j < 8 := (List.getElem?_eq_some_iff.1 hu).1
  show (List.replicate 16 zero8).flatten.toArray[r * 8 + j]? = some u
  rw [List.getElem?_toArray, rep_at zero8 rfl 16 r j hr hj]
  exact hu
theorem zero_in (w : World) (ρ : Nat → Tg) (base n : Nat) : SlotIn w ρ base n Sl.zero (.slice none 0 0) (.slice none 0 0) :=
  ⟨⟨⟨Int.le_refl _, show (0 : Int) ≤ 18446744073709551615 by decide⟩, Nat.zero_le _, Nat.zero_le _, RdS.nil_ _ _, Nat.zero_le _⟩, fun _ h => (by cases h), World.ownsRow_nil _ _ _ _, fun _ h => (by cases h)⟩
/-- One slab more. -/
theorem AP.slabbed (h : AP w ρ base A S sv fv bs) {b : Nat} (k : Fr w w' (fun k => k = A ∨ ρ k = .row ∨ ρ k = .no)) (hbox : NBox w' A 65 #[sv', .int .i64 (S.sl.length : Int), fv]) (hb : w.heap.size ≤ b) (hnb : NBox w' b 86 zeroSlab) (hbt : ρ' b = .slab)
    (hrow : w'.ownsRow base 85 1 sv' (bs.length + 1) ((bs ++ [b]).map (fun b => .pointer (some ⟨b, 0, none⟩)))) (hrt : ∀ k, sv'.ownBlock = some k → ρ' k = .row) (hfull : S.sl.length = 16 * bs.length)
    (hρ : ∀ g, g < w.heap.size → ρ' g = ρ g) (hnew : ∀ g, ρ' g ≠ .no → g < w'.heap.size) : AP w' ρ' base A S sv' fv (bs ++ [b]) := by
  have nt : ∀ {g : Nat} {t : Tg}, ρ g = t → t ≠ .box → t ≠ .row → t ≠ .no → ¬ (g = A ∨ ρ g = .row ∨ ρ g = .no) := by
    intro g t hg h1 h2 h3 h4
    rcases h4 with rfl | h4 | h4
    · exact h1 (hg.symm.trans h.boxt)
    · exact h2 (hg.symm.trans h4)
    · exact h3 (hg.symm.trans h4)
  refine ⟨hbox, by rw [hρ A h.box.lt]; exact h.boxt, h.boxb, by rw [List.length_append]; exact hrow, hrt, owns_fr k h.fre (fun g hg => nt (h.fret g hg) (by simp) (by simp) (by simp)), fun g hg => by rw [hρ g (h.fre.lt g hg).2]; exact h.fret g hg, by rw [List.length_append]; omega, ?_, ?_, ?_, Nat.le_trans h.lo k.size, h.big⟩
  · intro j b' hj
    rcases Nat.lt_or_ge j bs.length with h0 | h0
    · rw [List.getElem?_append_left h0] at hj
      obtain ⟨cs, h1, h2, h3, h4, h5⟩ := h.slab j b' hj
      refine ⟨cs, h1.fr k (nt h3 (by simp) (by simp) (by simp)), h2, by rw [hρ b' h1.lt]; exact h3, h4, fun r hr => ?_⟩
      obtain ⟨av, kv, h6, h7⟩ := h5 r hr
      exact ⟨av, kv, h6, h7.fr k (fun g hg => nt hg (by simp) (by simp) (by simp)) (fun g hg => nt hg (by simp) (by simp) (by simp)) hρ⟩
    · rw [List.getElem?_append_right h0] at hj
      have hj0 : j - bs.length = 0 := by have := (List.getElem?_eq_some_iff.1 hj).1; simp at this; omega
      rw [hj0] at hj
      obtain rfl : b = b' := Option.some.inj hj
      refine ⟨zeroSlab, hnb, rfl, hbt, Nat.le_trans h.lo hb, fun r hr => ?_⟩
      have hz : S.get (16 * j + r) = Sl.zero := by
        simp only [St.get]
        rw [List.getElem?_eq_none (by omega)]; rfl
      rw [hz]
      exact ⟨_, _, zeroSlab_lies r hr, zero_in _ _ _ _⟩
  · rw [List.nodup_append]
    refine ⟨h.nd, by simp, ?_⟩
    intro x hx y hy e
    obtain ⟨j, hj, rfl⟩ := List.getElem_of_mem hx
    obtain ⟨cs, h1, _⟩ := h.slab j _ (List.getElem?_eq_getElem hj)
    have := h1.lt
    rw [List.mem_singleton.1 hy] at e
    omega
  · intro g hg
    refine ⟨?_, hnew g hg⟩
    rcases Nat.lt_or_ge g w.heap.size with h1 | h1
    · rw [hρ g h1] at hg; exact (h.old g hg).1
    · exact Nat.le_trans h.lo h1
end
end Go.Proofs.Ytobbdeakocgdcaa.Ar
