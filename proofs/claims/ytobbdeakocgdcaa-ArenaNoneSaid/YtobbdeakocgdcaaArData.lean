/- Chapter 07: the arena in memory. Nothing of the program is named here. -/
import Derived.Test.YtobbdeakocgdcaaArMem
namespace Go.Proofs.Ytobbdeakocgdcaa.Ar
open Go.RowKit Go.Proofs.Ytobbdeakocgdcaa.Bw

/-- Whose a block is. -/
inductive Tg where
  | no
  | box
  | row
  | free
  | slab
  | data
  | kids (n : Nat)

/-- Data that read: five values. -/
structure DataIn (w : World) (d : Da) (av : Value) : Prop where
  ids : 0 ≤ d.id ∧ d.id ≤ 18446744073709551615
  lab : d.label.size ≤ maxLen
  txt : d.text.size ≤ maxLen
  ats : RdS w 2 d.attrs.length (attrCells d.attrs) av
  few : d.attrs.length ≤ 1000000
def Sl.da (s : Sl) : Da := ⟨s.id, s.leaf, s.label, s.attrs, s.text⟩
def Da.val (d : Da) (av : Value) : Value := .agg #[.int .u64 d.id, .bool d.leaf, .string d.label, av, .string d.text]
/-- A slot's eight cells. -/
def slCells (s : Sl) (av kv : Value) : List Value := [.bool s.live, .int .u64 s.id, .bool s.leaf, .string s.label, av, .string s.text, .int .i64 s.parent, kv]
/-- A slot that reads: its eight values; the blocks of its attributes and children are its own. -/
structure SlotIn (w : World) (ρ : Nat → Tg) (base n : Nat) (s : Sl) (av kv : Value) : Prop where
  da : DataIn w s.da av
  avt : ∀ k, av.ownBlock = some k → s.attrs ≠ [] → ρ k = .data
  ks : w.ownsRow base 3 1 kv s.kids.length (ints s.kids)
  kvt : ∀ k, kv.ownBlock = some k → ρ k = .kids n
/-- Eight cells that lie in a row of cells. -/
def Lies (f : Nat → Option Value) (o : Nat) (l : List Value) : Prop := ∀ (j : Nat) (u : Value), l[j]? = some u → f (o + j) = some u

theorem nodup_inj {l : List Nat} (h : l.Nodup) {i j x : Nat} (hi : l[i]? = some x) (hj : l[j]? = some x) : i = j := by
  have h1 := List.pairwise_iff_getElem.1 h
  obtain ⟨li, ei⟩ := List.getElem?_eq_some_iff.1 hi
  obtain ⟨lj, ej⟩ := List.getElem?_eq_some_iff.1 hj
  rcases Nat.lt_trichotomy i j with h2 | h2 | h2
  · exact absurd (ei.trans ej.symm) (h1 i j li lj h2)
  · exact h2
  · exact absurd (ej.trans ei.symm) (h1 j i lj li h2)
def St.get (S : St) (n : Nat) : Sl := (S.sl[n]?).getD Sl.zero
theorem St.get_of {S : St} {n : Nat} {s : Sl} (h : S.sl[n]? = some s) : S.get n = s := by simp [St.get, h]

/-- The arena at block A: sv the row of slabs, fv the free numbers, bs the slabs. -/
structure AP (w : World) (ρ : Nat → Tg) (base A : Nat) (S : St) (sv fv : Value) (bs : List Nat) : Prop where
  box : NBox w A 65 #[sv, .int .i64 (S.sl.length : Int), fv]
  boxt : ρ A = .box
  boxb : base ≤ A
  row : w.ownsRow base 85 1 sv bs.length (bs.map (fun b => .pointer (some ⟨b, 0, none⟩)))
  rowt : ∀ k, sv.ownBlock = some k → ρ k = .row
  fre : w.ownsRow base 3 1 fv S.free.length (ints S.free)
  fret : ∀ k, fv.ownBlock = some k → ρ k = .free
  room : S.sl.length ≤ 16 * bs.length
  slab : ∀ (j b : Nat), bs[j]? = some b → ∃ cs, NBox w b 86 cs ∧ cs.size = 128 ∧ ρ b = .slab ∧ base ≤ b ∧ ∀ r, r < 16 → ∃ av kv, Lies (fun i => cs[i]?) (r * 8) (slCells (S.get (16 * j + r)) av kv) ∧ SlotIn w ρ base (16 * j + r) (S.get (16 * j + r)) av kv
  nd : bs.Nodup
  old : ∀ k, ρ k ≠ .no → base ≤ k ∧ k < w.heap.size
  lo : base ≤ w.heap.size
  big : S.sl.length ≤ 1000000 ∧ S.free.length ≤ 1000000 ∧ ∀ n, (S.get n).kids.length ≤ 1000000

theorem DataIn.fr {A B : World} {S : Nat → Prop} (k : Fr A B S) {d : Da} {av : Value} (h : DataIn A d av) (hb : ∀ g, av.ownBlock = some g → d.attrs ≠ [] → ¬ S g) : DataIn B d av := by
  refine ⟨h.ids, h.lab, h.txt, ?_, h.few⟩
  by_cases he : d.attrs = []
  · obtain ⟨P, c, rfl, h1, h2, h3, _⟩ := h.ats
    exact ⟨P, c, rfl, h1, h2, h3, fun hn => by rw [he] at hn; simp at hn⟩
  · exact rds_fr k h.ats (fun g hg => hb g hg he)
theorem DataIn.ext {A B : World} (k : Ext A B) {d : Da} {av : Value} (h : DataIn A d av) : DataIn B d av := h.fr (Fr.of_ext k (fun _ => False)) (fun _ _ _ => id)
theorem SlotIn.fr {A B : World} {S : Nat → Prop} (k : Fr A B S) {ρ ρ' : Nat → Tg} {base n : Nat} {s : Sl} {av kv : Value} (h : SlotIn A ρ base n s av kv) (hd : ∀ g, ρ g = .data → ¬ S g) (hk : ∀ g, ρ g = .kids n → ¬ S g) (hρ : ∀ g, g < A.heap.size → ρ' g = ρ g) : SlotIn B ρ' base n s av kv := by
  refine ⟨h.da.fr k (fun g hg he => hd g (h.avt g hg he)), ?_, owns_fr k h.ks (fun g hg => hk g (h.kvt g hg)), ?_⟩
  · intro g hg he
    obtain ⟨P, c, rfl, _, _, _, h4⟩ := h.da.ats
    have hpos : 0 < s.da.attrs.length := List.length_pos_iff.2 he
    obtain ⟨b, off, rfl, h5⟩ := h4 hpos
    obtain rfl : b = g := Option.some.inj hg
    obtain ⟨u, hu⟩ : ∃ u, (attrCells s.da.attrs)[0]? = some u := ⟨_, List.getElem?_eq_getElem (by rw [attrCells_len]; omega)⟩
    rw [hρ b (World.block_lt_of_cell? A _ (h5 0 u hu))]
    exact h.avt b rfl he
  · intro g hg
    rw [hρ g (h.ks.lt g hg).2]
    exact h.kvt g hg

/-- Others' blocks may turn, new ones may come; new blocks may be claimed. -/
theorem AP.fr {w w' : World} {ρ ρ' : Nat → Tg} {base A : Nat} {S : St} {sv fv : Value} {bs : List Nat} (h : AP w ρ base A S sv fv bs) (k : Fr w w' (fun k => ρ k = .no)) (hρ : ∀ g, g < w.heap.size → ρ' g = ρ g) (hn : ∀ g, ρ' g ≠ .no → g < w'.heap.size) : AP w' ρ' base A S sv fv bs := by
  have hb : ∀ {g : Nat} {t : TypeId} {cs : Array Value}, NBox w g t cs → ρ g ≠ .no → NBox w' g t cs := fun h1 h2 => h1.fr k h2
  refine ⟨hb h.box (by rw [h.boxt]; intro e; cases e), by rw [hρ A h.box.lt]; exact h.boxt, h.boxb, owns_fr k h.row (fun g hg => by rw [h.rowt g hg]; intro e; cases e), fun g hg => by rw [hρ g (h.row.lt g hg).2]; exact h.rowt g hg,
    owns_fr k h.fre (fun g hg => by rw [h.fret g hg]; intro e; cases e), fun g hg => by rw [hρ g (h.fre.lt g hg).2]; exact h.fret g hg, h.room, ?_, h.nd, ?_, Nat.le_trans h.lo k.size, h.big⟩
  · intro j b hj
    obtain ⟨cs, h1, h2, h3, h4, h5⟩ := h.slab j b hj
    refine ⟨cs, hb h1 (by rw [h3]; intro e; cases e), h2, by rw [hρ b h1.lt]; exact h3, h4, fun r hr => ?_⟩
    obtain ⟨av, kv, h6, h7⟩ := h5 r hr
    exact ⟨av, kv, h6, h7.fr k (fun g hg => by rw [hg]; intro e; cases e) (fun g hg => by rw [hg]; intro e; cases e) hρ⟩
  · intro g hg
    refine ⟨?_, hn g hg⟩
    rcases Nat.lt_or_ge g w.heap.size with h1 | h1
    · rw [hρ g h1] at hg; exact (h.old g hg).1
    · exact Nat.le_trans h.lo h1
theorem AP.ext {w w' : World} {ρ : Nat → Tg} {base A : Nat} {S : St} {sv fv : Value} {bs : List Nat} (h : AP w ρ base A S sv fv bs) (k : Ext w w') : AP w' ρ base A S sv fv bs :=
  h.fr (Fr.of_ext k _) (fun _ _ => rfl) (fun g hg => Nat.lt_of_lt_of_le (h.old g hg).2 k.size)

/-- Where slot n lies. -/
def slotAt (bs : List Nat) (n : Nat) : Addr := ⟨bs.getD (n / 16) 0, n % 16 * 8, none⟩
/-- A slot's cells. -/
theorem AP.slot {w : World} {ρ : Nat → Tg} {base A : Nat} {S : St} {sv fv : Value} {bs : List Nat} (h : AP w ρ base A S sv fv bs) {n : Nat} (hn : n < 16 * bs.length) :
    ∃ b cs av kv, bs[n / 16]? = some b ∧ bs.getD (n / 16) 0 = b ∧ NBox w b 86 cs ∧ cs.size = 128 ∧ Lies (fun i => cs[i]?) (n % 16 * 8) (slCells (S.get n) av kv) ∧ SlotIn w ρ base n (S.get n) av kv := by
  have hj : n / 16 < bs.length := by omega
  obtain ⟨b, hb⟩ : ∃ b, bs[n / 16]? = some b := ⟨_, List.getElem?_eq_getElem hj⟩
  obtain ⟨cs, h1, h2, _, _, h5⟩ := h.slab _ b hb
  obtain ⟨av, kv, h6, h7⟩ := h5 (n % 16) (Nat.mod_lt _ (by omega))
  rw [show 16 * (n / 16) + n % 16 = n by omega] at h6 h7
  exact ⟨b, cs, av, kv, hb, by simp [List.getD, hb], h1, h2, h6, h7⟩

/-- ONE SLOT IS WRITTEN: with its children's block, if any. -/
theorem AP.write {w w' : World} {ρ ρ' : Nat → Tg} {base A : Nat} {S : St} {sv fv : Value} {bs : List Nat} (h : AP w ρ base A S sv fv bs) {n b : Nat} {s : Sl} {cs cs' : Array Value} {av kv : Value} (hn : n < S.sl.length) (hb : bs[n / 16]? = some b)
    (hc : NBox w b 86 cs) (k : Fr w w' (fun k => k = b ∨ ρ k = .kids n ∨ ρ k = .no)) (hc' : NBox w' b 86 cs') (hsz : cs'.size = 128) (hout : ∀ i, (i < n % 16 * 8 ∨ n % 16 * 8 + 8 ≤ i) → cs'[i]? = cs[i]?)
    (hin : Lies (fun i => cs'[i]?) (n % 16 * 8) (slCells s av kv)) (hs : SlotIn w' ρ' base n s av kv) (hρ : ∀ g, g < w.heap.size → ρ' g = ρ g) (hnew : ∀ g, ρ' g ≠ .no → g < w'.heap.size) (hk : s.kids.length ≤ 1000000) :
    AP w' ρ' base A ⟨S.sl.set n s, S.free⟩ sv fv bs := by
  have hbt : ρ b = .slab := by obtain ⟨_, _, _, h3, _⟩ := h.slab _ b hb; exact h3
  have nt : ∀ {g : Nat} {t : Tg}, ρ g = t → t ≠ .slab → (∀ m, t ≠ .kids m) → t ≠ .no → ¬ (g = b ∨ ρ g = .kids n ∨ ρ g = .no) := by
    intro g t hg h1 h2 h3 h4
    rcases h4 with rfl | h4 | h4
    · exact h1 (hg.symm.trans hbt)
    · exact h2 n (hg.symm.trans h4)
    · exact h3 (hg.symm.trans h4)
  have hget : ∀ m, (⟨S.sl.set n s, S.free⟩ : St).get m = if m = n then s else S.get m := by
    intro m
    simp only [St.get, List.getElem?_set]
    by_cases hm : m = n
    · subst hm; simp [hn]
    · rw [if_neg (fun e => hm e.symm), if_neg hm]
  have hlen : (S.sl.set n s).length = S.sl.length := List.length_set
  refine ⟨?_, by rw [hρ A h.box.lt]; exact h.boxt, h.boxb, owns_fr k h.row (fun g hg => nt (h.rowt g hg) (by simp) (by simp) (by simp)), fun g hg => by rw [hρ g (h.row.lt g hg).2]; exact h.rowt g hg,
    owns_fr k h.fre (fun g hg => nt (h.fret g hg) (by simp) (by simp) (by simp)), fun g hg => by rw [hρ g (h.fre.lt g hg).2]; exact h.fret g hg, by rw [hlen]; exact h.room, ?_, h.nd, ?_, Nat.le_trans h.lo k.size, ?_⟩
  · show NBox w' A 65 #[sv, .int .i64 ((S.sl.set n s).length : Int), fv]
    rw [hlen]
    exact h.box.fr k (nt h.boxt (by simp) (by simp) (by simp))
  · intro j b' hj
    obtain ⟨cs0, h1, h2, h3, h4, h5⟩ := h.slab j b' hj
    by_cases hjn : j = n / 16
    · subst hjn
      rw [hb] at hj; cases hj
      have hcc : cs0 = cs := by
        have : some (Obj.cells cs0 86 (0, 0)) = some (Obj.cells cs 86 (0, 0)) := h1.symm.trans hc
        cases this; rfl
      subst hcc
      refine ⟨cs', hc', hsz, by rw [hρ b hc.lt]; exact hbt, h4, fun r hr => ?_⟩
      by_cases hrn : r = n % 16
      · subst hrn
        rw [show 16 * (n / 16) + n % 16 = n by omega, hget, if_pos rfl]
        exact ⟨av, kv, hin, hs⟩
      · have hne : 16 * (n / 16) + r ≠ n := by omega
        obtain ⟨av1, kv1, h6, h7⟩ := h5 r hr
        rw [hget, if_neg hne]
        refine ⟨av1, kv1, fun i u hu => ?_, ?_⟩
        · have hi : i < 8 := (List.getElem?_eq_some_iff.1 hu).1
          show cs'[r * 8 + i]? = some u
          rw [hout (r * 8 + i) (by omega)]
          exact h6 i u hu
        · refine h7.fr k ?_ ?_ hρ
          · intro g hg; exact nt hg (by simp) (by simp) (by simp)
          · intro g hg h8
            rcases h8 with rfl | h8 | h8
            · rw [hbt] at hg; cases hg
            · rw [hg] at h8; exact hne (Tg.kids.inj h8)
            · rw [hg] at h8; cases h8
    · have hbb : b' ≠ b := by
        intro e; subst e
        have hlt := (List.getElem?_eq_some_iff.1 hj).1
        have hlt2 := (List.getElem?_eq_some_iff.1 hb).1
        exact hjn (nodup_inj h.nd hj hb)
      refine ⟨cs0, h1.fr k (by rintro (e | e | e); exact hbb e; rw [h3] at e; cases e; rw [h3] at e; cases e), h2, by rw [hρ b' h1.lt]; exact h3, h4, fun r hr => ?_⟩
      obtain ⟨av1, kv1, h6, h7⟩ := h5 r hr
      have hne : 16 * j + r ≠ n := by omega
      rw [hget, if_neg hne]
      refine ⟨av1, kv1, h6, h7.fr k ?_ ?_ hρ⟩
      · intro g hg; exact nt hg (by simp) (by simp) (by simp)
      · intro g hg h8
        rcases h8 with rfl | h8 | h8
        · rw [hbt] at hg; cases hg
        · rw [hg] at h8; exact hne (Tg.kids.inj h8)
        · rw [hg] at h8; cases h8
  · intro g hg
    refine ⟨?_, hnew g hg⟩
    rcases Nat.lt_or_ge g w.heap.size with h1 | h1
    · rw [hρ g h1] at hg; exact (h.old g hg).1
    · exact Nat.le_trans h.lo h1
  · refine ⟨by rw [hlen]; exact h.big.1, h.big.2.1, fun m => ?_⟩
    rw [hget]
    split
    · exact hk
    · exact h.big.2.2 m
end Go.Proofs.Ytobbdeakocgdcaa.Ar
