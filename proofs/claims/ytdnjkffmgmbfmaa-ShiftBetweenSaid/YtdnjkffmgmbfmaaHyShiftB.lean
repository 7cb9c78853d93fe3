/- SyShiftB turned to this seat. (Printed by gport.py.) -/
import Derived.Test.YtdnjkffmgmbfmaaHyShiftN
namespace Go.Proofs.Ytdnjkffmgmbfmaa.Sy
open Go.RowKit Go.Proofs.Ytdnjkffmgmbfmaa.Bw Go.Proofs.Ytdnjkffmgmbfmaa.Bs
theorem mem_idsK {v : Int} : ∀ (ks : List Nd), v ∈ idsK ks → ∃ (k : Nat) (c : Nd), ks[k]? = some c ∧ v ∈ c.ids
 | [], h => by rw [idsK] at h; cases h
 | x :: xs, h => by
  rw [idsK] at h
  rcases List.mem_append.1 h with h | h
  ·exact ⟨0, x, rfl, h⟩
  ·obtain ⟨k, c, h1, h2⟩ := mem_idsK xs h
   exact ⟨k + 1, c, by simpa using h1, h2⟩
theorem mem_ids {v : Int} : ∀ (N : Nat) (m : Nd), m.cnt ≤ N → v ∈ m.ids → ∃ q y, m.at? q = some y ∧ y.id = v
 | 0, m, hN, _ => by rw [Nd.cnt_eq] at hN; omega
 | N + 1, m, hN, h => by
  rw [Nd.ids_eq] at h
  rcases List.mem_cons.1 h with h | h
  ·exact ⟨[], m, at_nil, h.symm⟩
  ·obtain ⟨k, c, h1, h2⟩ := mem_idsK _ h
   obtain ⟨q, y, h3, h4⟩ := mem_ids N c (by have := Nd.cnt_kid h1; omega) h2
   exact ⟨(k : Int) :: q, y, by rw [at_step h1]; exact h3, h4⟩
theorem kidIds_wt : ∀ {p : List Int} {t y : Nd}, t.at? p = some y → (kidIds y).length ≤ t.wt := by
 intro p t y h
 have h1 := at_wt p h
 have h2 : ∀ (ks : List Nd), ks.length ≤ wtK ks := by
  intro ks
  induction ks with
  | nil => exact Nat.zero_le _
  | cons x xs ih =>
   rw [wtK, List.length_cons]
   have := Nd.wt_eq x
   omega
 have h3 := h2 y.kids
 rw [Nd.wt_eq y] at h1
 unfold kidIds
 rw [List.length_map]
 omega
/-- The identity of the node that an operation puts somewhere. -/
def movedI (t : Nd) (o : OpD) : Int := if o.kind = 3 then ((t.at? o.path).getD Nd.zero).id else 0
/-- What is asked at a gap. -/
structure GapLaw (t : Nd) (o : OpD) (y y' : Nd) (p : List Int) (a g : Int) (first : Bool) : Prop where
 low : 0 ≤ g
 top : g ≤ (kidIds y').length
 lies : ∀ (k : Nat) (v : Int), (kidIds y)[k]? = some v → v ≠ movedI t o → 0 ≤ placeL (kidIds y') v → (placeL (kidIds y') v < g ↔ (k : Int) < a)
 tie : (o.kind = 1 ∧ o.path = p ∨ o.kind = 3 ∧ o.to = p) → 0 ≤ placeL (kidIds y') (movedI t o) ∧ (placeL (kidIds y') (movedI t o) < g ↔ o.at_ < a ∨ o.at_ = a ∧ first = false)
structure Alike (s : Sh) (o : OpD) : Prop where
 kind : s.kind = o.kind
 path : s.path = o.path
 to_ : s.to = o.to
 gap : s.gap = o.at_
 formed : s.formed = o.formed
theorem valid_moves {t : Nd} {o : OpD} {s : Sh} (h : Alike s o) (hv : validD t o = 0) : s.moves = true ↔ (o.kind = 1 ∨ o.kind = 2 ∨ o.kind = 3) := by
 obtain ⟨-, hf, hne, -⟩ := (valid_iff t o).1 hv
 unfold Sh.moves
 rw [h.kind, h.path, h.to_, h.formed, hf, Bool.true_and]
 simp only [Bool.or_eq_true, Bool.and_eq_true, decide_eq_true_eq, Bool.not_eq_true']
 constructor
 ·rintro ((h1 | ⟨h2, -⟩) | ⟨⟨h3, -⟩, -⟩)
  ·exact .inl h1
  ·exact .inr (.inl h2)
  ·exact .inr (.inr h3)
 ·rintro (h1 | h2 | h3)
  ·exact .inl (.inl h1)
  ·exact .inl (.inr ⟨h2, hne (.inl h2)⟩)
  ·obtain ⟨x, y, -, -, h4, h5, -⟩ := valid3 hv h3
   exact .inr ⟨⟨h3, h4⟩, h5⟩
/-- What becomes of the nodes of a tree with identities of their own. -/
theorem corr_do {t : Nd} {o : OpD} {s : Sh} (h : Alike s o) (hv : validD t o = 0) (hm : o.kind = 1 ∨ o.kind = 2 ∨ o.kind = 3) (hid : o.id = 0) (ha : Apart t) (hpos : ∀ (p : List Int) (y : Nd), t.at? p = some y → 1 ≤ y.id) : Corr t (doD t o) s (movedI t o) := by
 rcases hm with hk | hk | hk
 ·obtain ⟨x, hx, -, g0, g1⟩ := valid1 hv hk
  obtain ⟨u, hu⟩ := put_is (insD x o.at_.toNat (newD o)) hx
  have e : doD t o = u := by
   unfold doD
   simp only [hk, if_true, hx, Option.getD_some]
   rw [hu]; rfl
  have e2 : movedI t o = (newD o).id := by
   unfold movedI
   rw [if_neg (by omega)]
   exact hid.symm
  rw [e, e2]
  refine corr_ins (s := s) (n := x) (i := o.at_.toNat) (by rw [h.kind, hk]) (by rw [h.gap]; omega) (by rw [h.path]; exact hx) (by rw [h.path]; exact hu) (by omega) rfl ha ?_
  intro p y hy
  have := hpos p y hy
  have e3 : (newD o).id = 0 := hid
  omega
 ·obtain ⟨-, -, hne, x, hx, -⟩ := (valid_iff t o).1 hv
  have e : doD t o = withoutD t s.path := by
   unfold doD
   rw [h.path]
   simp [hk]
  rw [e]
  exact corr_del (by rw [h.kind, hk]) (by rw [h.path]; exact hne (.inl hk)) (by rw [h.path]; exact hx) ha _
 ·obtain ⟨x, y, hx, hy, hne, hnw, -, g0, g1⟩ := valid3 hv hk
  have e : doD t o = moveD t o := by
   unfold doD
   simp [hk]
  have e2 : movedI t o = x.id := by
   unfold movedI
   rw [if_pos hk, hx]; rfl
  rw [e, e2]
  exact corr_mov (i := o.at_.toNat) (by rw [h.kind, hk]) h.path h.to_ h.gap hx hy hne (by omega) (by omega) hnw ha
theorem fits_do {t : Nd} {o : OpD} {s : Sh} (h : Alike s o) (hv : validD t o = 0) (hm : o.kind = 1 ∨ o.kind = 2 ∨ o.kind = 3) (hwt : t.wt ≤ 1000000) : Fits t s := by
 obtain ⟨-, -, hne, x, hx, -⟩ := (valid_iff t o).1 hv
 refine ⟨?_, ?_, fun p y hy => Nat.le_trans (kidIds_wt hy) hwt⟩
 ·intro ht y hy
  have hk : o.kind ≠ 1 := by rw [← h.kind]; simpa [Sh.takes] using ht
  have hne := hne (by omega)
  rw [snoc_of hne] at hx
  obtain ⟨k, b, h1, h2, h3⟩ := at_snoc _ _ hx
  have e1 : s.from_ = o.path.dropLast := by unfold Sh.from_; rw [h.path]
  have e2 : s.num = k := by
   rw [← h1]
   unfold Sh.num
   rw [h.path]
   conv => lhs; rw [snoc_of hne]
   simp
  rw [e1, h2] at hy
  cases hy
  have := (List.getElem?_eq_some_iff.1 h3).1
  rw [e2]
  unfold kidIds
  rw [List.length_map]
  omega
 ·intro hp y hy
  have hk : o.kind ≠ 2 := by rw [← h.kind]; simpa [Sh.puts] using hp
  unfold kidIds
  rw [List.length_map, h.gap]
  unfold Sh.goal at hy
  rw [h.kind, h.path, h.to_] at hy
  by_cases h1 : o.kind = 1
  ·rw [if_pos h1] at hy
   obtain ⟨x2, hx2, -, g0, g1⟩ := valid1 hv h1
   rw [hx2] at hy
   cases hy
   omega
  ·rw [if_neg h1] at hy
   obtain ⟨x2, y2, hx2, hy2, -, -, -, g0, g1⟩ := valid3 hv (by omega)
   rw [hy2] at hy
   cases hy
   omega
theorem like_do {t : Nd} {o : OpD} (hv : validD t o = 0) (hm : ¬ (o.kind = 1 ∨ o.kind = 2 ∨ o.kind = 3)) {p : List Int} {y : Nd} (hy : t.at? p = some y) : ∃ y', (doD t o).at? p = some y' ∧ y'.id = y.id ∧ kidIds y' = kidIds y := by
 obtain ⟨-, -, -, x, hx, -⟩ := (valid_iff t o).1 hv
 have key : ∀ X : Nd, X.id = x.id → X.kids = x.kids → doD t o = (t.put o.path X).getD Nd.zero → ∃ y', (doD t o).at? p = some y' ∧ y'.id = y.id ∧ kidIds y' = kidIds y := by
  intro X h1 h2 h3
  obtain ⟨a, ha⟩ := put_is X hx
  rw [ha] at h3
  rw [h3]
  exact put_like _ hx ha h1 h2 p hy
 by_cases h4 : o.kind = 4
 ·exact key (attrT x o) rfl rfl (by unfold doD; simp [h4, hx])
 ·by_cases h5 : o.kind = 5
  ·exact key (labT x o.label) rfl rfl (by unfold doD; simp [h5, hx])
  ·exact key (txtT x (apS x.text o.pcs)) rfl rfl (by
    unfold doD
    rw [if_neg (fun h => hm (.inl h)), if_neg (fun h => hm (.inr (.inl h))), if_neg (fun h => hm (.inr (.inr h))), if_neg h4, if_neg h5, hx]; rfl)
/-- The law: where each node is, and that each gap lies between the same children. -/
theorem between_law {t0 : Nd} {o : OpD} {s : Sh} (h : Alike s o) (hw : Wr s) (hv : validD (numN t0 1) o = 0) (hid : o.id = 0) (hwt : (numN t0 1).wt ≤ 1000000) (first : Bool) {p : List Int} {y : Nd} (hy : (numN t0 1).at? p = some y) :
  (s.node p = none → y.id ∉ (doD (numN t0 1) o).ids) ∧
  (∀ q, s.node p = some q → ∃ y', (doD (numN t0 1) o).at? q = some y' ∧ y'.id = y.id ∧ ∀ a : Int, 0 ≤ a → a ≤ (kidIds y).length → GapLaw (numN t0 1) o y y' p a (if s.moves then gapP s p a first else a) first) := by
 have ha : Apart (numN t0 1) := fun p q x y h1 h2 h3 => num_apart p q x y h1 h2 h3
 have hpos : ∀ (p : List Int) (y : Nd), (numN t0 1).at? p = some y → 1 ≤ y.id := fun p y hy => (num_range p hy).1
 generalize numN t0 1 = t at *
 by_cases hm : o.kind = 1 ∨ o.kind = 2 ∨ o.kind = 3
 ·have hmv := (valid_moves h hv).2 hm
  have C := corr_do h hv hm hid ha hpos
  have F := fits_do h hv hm hwt
  have hto : s.kind = 3 → ∃ y, t.at? s.to = some y := fun h3 => by
   rw [h.kind] at h3
   obtain ⟨x, y, -, hy, -⟩ := valid3 hv h3
   exact ⟨y, by rw [h.to_]; exact hy⟩
  have hnid : s.kind = 3 → ∀ x, t.at? s.path = some x → movedI t o = x.id := fun h3 x hx => by
   unfold movedI
   rw [← h.kind, if_pos h3, ← h.path, hx]; rfl
  refine ⟨fun hn hmem => ?_, fun q hq => ?_⟩
  ·obtain ⟨q, y', h1, h2⟩ := mem_ids _ _ (Nat.le_refl _) hmem
   -- only what is taken and not put is gone
   have hg : s.takes = true ∧ s.puts = false ∧ within s.path p = true := by
    unfold Sh.node at hn
    rw [if_neg (by simp [hmv])] at hn
    by_cases hc : (s.takes && within s.path p) = true
    ·rw [if_pos hc] at hn
     rw [Bool.and_eq_true] at hc
     by_cases hp : s.puts = true
     ·rw [if_pos hp] at hn; cases hn
     ·exact ⟨hc.1, by simpa using hp, hc.2⟩
    ·rw [if_neg hc] at hn; cases hn
   exact C.gone hg.1 hg.2.1 p y hy hg.2.2 q y' h1 h2
  ·obtain ⟨y', h1, h2⟩ := node_id C F hw hmv hto hnid _ p rfl y q hy hq
   refine ⟨y', h1, h2, fun a a0 a1 => ?_⟩
   have hkd := corr_at C hy (node_within hmv hq) h1 h2
   have hu := kids_uniq C.apart h1
   rw [hkd] at hu
   obtain ⟨l1, l2, l3, l4⟩ := gap_lies (F.h1 hy) (F.h2 hy) a0 a1 first hu
   rw [if_pos hmv]
   refine ⟨l1, by rw [hkd]; exact l2, ?_, ?_⟩
   ·intro k v hk hne hnow
    rw [hkd] at hnow ⊢
    by_cases hc : s.takes = true ∧ p = s.from_ ∧ (k : Int) = s.num
    ·exfalso
     have hkind : s.kind ≠ 1 := by simpa [Sh.takes] using hc.1
     obtain ⟨-, hpne, -⟩ := moves_kind hmv
     have hsp := path_split (hpne hkind)
     -- that child is the node at the operation's path
     obtain ⟨c, e1, e2⟩ := kid_at (j := (k : Int)) hy (by omega) (by simpa using hk)
     rw [hc.2.1, hc.2.2, ← hsp] at e1
     by_cases h3 : s.kind = 3
     ·exact hne (by rw [← e2, hnid h3 c e1])
     ·have hk2 : s.puts = false := by
       have : s.kind = 2 := by rw [h.kind] at h3 hkind ⊢; omega
       simp [Sh.puts, this]
      rcases placeL_get (fK s (movedI t o) p (kidIds y)) v with ⟨g1, -⟩ | ⟨g1, g2⟩
      ·omega
      ·rw [← hkd] at g1 g2
       obtain ⟨d, f1, f2⟩ := kid_at h1 g1 g2
       exact C.gone hc.1 hk2 _ c e1 (within_self _) _ d f1 (by rw [f2, e2])
    ·exact (l3 k v hk hc).2
   ·intro hc
    have hp : s.puts = true := by
     unfold Sh.puts
     rw [h.kind]
     rcases hc with hc | hc <;> simp [hc.1]
    have hg : p = s.goal := by
     unfold Sh.goal
     rw [h.kind, h.path, h.to_]
     rcases hc with hc | hc
     ·rw [if_pos hc.1, hc.2]
     ·rw [if_neg (by omega), hc.2]
    have := l4 hp hg
    rw [h.gap] at this
    rw [hkd]
    exact this
 ·have hmv : s.moves = false := by
   cases hc : s.moves with
   | false => rfl
   | true => exact absurd ((valid_moves h hv).1 hc) hm
  have hnode : s.node p = some p := by unfold Sh.node; rw [if_pos hmv]
  refine ⟨fun hn => (by rw [hnode] at hn; cases hn), fun q hq => ?_⟩
  rw [hnode] at hq
  cases hq
  obtain ⟨y', h1, h2, h3⟩ := like_do hv hm hy
  refine ⟨y', h1, h2, fun a a0 a1 => ?_⟩
  rw [hmv, if_neg (by simp)]
  refine ⟨a0, by rw [h3]; exact a1, ?_, fun hc => absurd (hc.elim (fun h => .inl h.1) (fun h => .inr (.inr h.1))) hm⟩
  intro k v hk _ _
  rw [h3, placeL_is (kids_uniq ha hy) (n := (k : Int)) (by omega) (by simpa using hk)]
end Go.Proofs.Ytdnjkffmgmbfmaa.Sy
