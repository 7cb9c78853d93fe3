/- Chapter 10: BwPutPlain turned to this seat. (Printed by gsynd.py.) -/
import Derived.Test.YtkimbpeapolcbaaSyNdPut
import Derived.Test.YtkimbpeapolcbaaProg
import Derived.Test.YtkimbpeapolcbaaSyListP
import Derived.Test.YtkimbpeapolcbaaSyLxViewP
import Derived.Test.YtkimbpeapolcbaaSyLxCPlain5
namespace Go.Proofs.Ytkimbpeapolcbaa.Bw
open Go.RowKit
theorem put_split {t x a : Nd} {i : Int} {p : List Int} (h : t.put (i :: p) x = some a) : ∃ (m : Nat) (k k' : Nd), i = m ∧ t.kids[m]? = some k ∧ k.put p x = some k' ∧ a = t.withKids (t.kids.set m k') := by
  by_cases hc : i < 0 ∨ (t.kids.length : Int) ≤ i
  · rw [put_out hc] at h; cases h
  · obtain ⟨m, rfl⟩ := Int.eq_ofNat_of_zero_le (show 0 ≤ i by omega)
    obtain ⟨k, hk⟩ : ∃ k, t.kids[m]? = some k := ⟨_, List.getElem?_eq_getElem (by omega)⟩
    cases hp : k.put p x with
    | none => rw [put_none hk hp] at h; cases h
    | some k' =>
      rw [put_some hk hp] at h
      cases h
      exact ⟨m, k, k', rfl, hk, hp, rfl⟩
theorem withKids_kids (t : Nd) (l : List Nd) : (t.withKids l).kids = l := rfl
theorem withKids_self (t : Nd) : t.withKids t.kids = t := by cases t; rfl
theorem withKids_twice (t : Nd) (l m : List Nd) : (t.withKids l).withKids m = t.withKids m := rfl
theorem put_at : ∀ (p : List Int) (t x a : Nd), t.put p x = some a → a.at? p = some x
  | [], t, x, a, h => by rw [put_nil] at h; cases h; exact at_nil
  | i :: p, t, x, a, h => by
    obtain ⟨m, k, k', rfl, hk, hp, rfl⟩ := put_split h
    have hm := (List.getElem?_eq_some_iff.1 hk).1
    rw [at_some (k := k') (by omega) (by rw [Int.toNat_natCast, withKids_kids]; simp [hm])]
    exact put_at p k x k' hp
theorem put_back : ∀ (p : List Int) (t x a b : Nd), t.put p x = some a → t.at? p = some b → a.put p b = some t
  | [], t, x, a, b, h, hb => by rw [at_nil] at hb; cases hb; exact put_nil
  | i :: p, t, x, a, b, h, hb => by
    obtain ⟨m, k, k', rfl, hk, hp, rfl⟩ := put_split h
    have hm := (List.getElem?_eq_some_iff.1 hk).1
    rw [at_some (by omega) (by rw [Int.toNat_natCast]; exact hk)] at hb
    have hr := put_back p k x k' b hp hb
    rw [put_some (t := t.withKids (t.kids.set m k')) (k := k') (k' := k) (by rw [withKids_kids]; simp [hm]) hr, withKids_twice, withKids_kids, List.set_set]
    have : t.kids.set m k = t.kids := by
      apply List.ext_getElem?
      intro j
      rw [List.getElem?_set]
      split
      · rename_i hj; subst hj; rw [hk]
      · rfl
    rw [this, withKids_self]
theorem cntK_set : ∀ (l : List Nd) (m : Nat) (k k' : Nd), l[m]? = some k → cntK (l.set m k') + k.cnt = cntK l + k'.cnt
  | y :: r, 0, k, k', h => by
    simp only [List.getElem?_cons_zero, Option.some.injEq] at h
    subst h
    rw [List.set_cons_zero, cntK, cntK]; omega
  | y :: r, m + 1, k, k', h => by
    have := cntK_set r m k k' (by simpa using h)
    rw [List.set_cons_succ, cntK, cntK]; omega
theorem wtK_set : ∀ (l : List Nd) (m : Nat) (k k' : Nd), l[m]? = some k → wtK (l.set m k') + k.wt = wtK l + k'.wt
  | y :: r, 0, k, k', h => by
    simp only [List.getElem?_cons_zero, Option.some.injEq] at h
    subst h
    rw [List.set_cons_zero, wtK, wtK]; omega
  | y :: r, m + 1, k, k', h => by
    have := wtK_set r m k k' (by simpa using h)
    rw [List.set_cons_succ, wtK, wtK]; omega
theorem put_cnt : ∀ (p : List Int) (t x a b : Nd), t.put p x = some a → t.at? p = some b → a.cnt + b.cnt = t.cnt + x.cnt
  | [], t, x, a, b, h, hb => by rw [at_nil] at hb; rw [put_nil] at h; cases hb; cases h; omega
  | i :: p, t, x, a, b, h, hb => by
    obtain ⟨m, k, k', rfl, hk, hp, rfl⟩ := put_split h
    rw [at_some (by omega) (by rw [Int.toNat_natCast]; exact hk)] at hb
    have h1 := put_cnt p k x k' b hp hb
    have h2 := cntK_set t.kids m k k' hk
    rw [Nd.cnt_eq (t.withKids _), withKids_kids, Nd.cnt_eq t]
    omega
theorem put_wt : ∀ (p : List Int) (t x a b : Nd), t.put p x = some a → t.at? p = some b → a.wt + b.wt = t.wt + x.wt
  | [], t, x, a, b, h, hb => by rw [at_nil] at hb; rw [put_nil] at h; cases hb; cases h; omega
  | i :: p, t, x, a, b, h, hb => by
    obtain ⟨m, k, k', rfl, hk, hp, rfl⟩ := put_split h
    rw [at_some (by omega) (by rw [Int.toNat_natCast]; exact hk)] at hb
    have h1 := put_wt p k x k' b hp hb
    have h2 := wtK_set t.kids m k k' hk
    rw [Nd.wt_eq (t.withKids _), withKids_kids, Nd.wt_eq t]
    show 1 + t.label.size + t.text.size + wtA t.attrs + _ + _ = _
    omega
end Go.Proofs.Ytkimbpeapolcbaa.Bw
namespace Go.Proofs.Ytkimbpeapolcbaa.Sy
open Go.RowKit Go.Proofs.Ytkimbpeapolcbaa.Bw Go.Proofs.Ytkimbpeapolcbaa.Bs

/-! ### Nodes at paths -/
theorem at_step {t c : Nd} {m : Nat} {p : List Int} (h : t.kids[m]? = some c) : t.at? ((m : Int) :: p) = c.at? p := at_some (by omega) (by rw [Int.toNat_natCast]; exact h)
theorem at_app : ∀ (p q : List Int) {t b : Nd}, t.at? p = some b → t.at? (p ++ q) = b.at? q
 | [], q, t, b, h => by rw [at_nil] at h; cases h; rfl
 | i :: p, q, t, b, h => by
  obtain ⟨m, c, rfl, hk, hc⟩ := at_split h
  rw [List.cons_append, at_step hk]
  exact at_app p q hc
theorem at_snoc : ∀ (p : List Int) (i : Int) {t x : Nd}, t.at? (p ++ [i]) = some x → ∃ (m : Nat) (b : Nd), i = m ∧ t.at? p = some b ∧ b.kids[m]? = some x
 | [], i, t, x, h => by
  obtain ⟨m, c, rfl, hk, hc⟩ := at_split (show t.at? (i :: []) = some x from h)
  rw [at_nil] at hc
  cases hc
  exact ⟨m, t, rfl, at_nil, hk⟩
 | j :: p, i, t, x, h => by
  obtain ⟨m, c, rfl, hk, hc⟩ := at_split (show t.at? (j :: (p ++ [i])) = some x from h)
  obtain ⟨m', b, rfl, hb, hx⟩ := at_snoc p i hc
  exact ⟨m', b, rfl, by rw [at_step hk]; exact hb, hx⟩
theorem at_wt : ∀ (p : List Int) {t b : Nd}, t.at? p = some b → b.wt ≤ t.wt
 | [], t, b, h => by rw [at_nil] at h; cases h; exact Nat.le_refl _
 | i :: p, t, b, h => by
  obtain ⟨m, c, rfl, hk, hc⟩ := at_split h
  have h1 := at_wt p hc
  have h2 := wtK_mem (List.mem_of_getElem? hk)
  rw [Nd.wt_eq t]
  omega
theorem put_is {p : List Int} {t b : Nd} (x : Nd) (h : t.at? p = some b) : ∃ a, t.put p x = some a := by
 have := at_put p t x
 rw [h] at this
 exact Option.isSome_iff_exists.1 this.symm
theorem put_over : ∀ (p : List Int) {t x a : Nd} (y : Nd), t.put p x = some a → a.put p y = t.put p y
 | [], t, x, a, y, h => by rw [Bw.put_nil, Bw.put_nil]
 | i :: p, t, x, a, y, h => by
  obtain ⟨m, k, k', rfl, hk, hp, rfl⟩ := put_split h
  have hm := (List.getElem?_eq_some_iff.1 hk).1
  have hr := put_over p y hp
  have hk' : (t.withKids (t.kids.set m k')).kids[m]? = some k' := by rw [withKids_kids]; simp [hm]
  cases hy : k.put p y with
  | none => rw [Bw.put_none hk hy, Bw.put_none hk' (by rw [hr, hy])]
  | some z => rw [Bw.put_some hk hy, Bw.put_some hk' (by rw [hr, hy]), withKids_twice, withKids_kids, List.set_set]
theorem put_app : ∀ (p q : List Int) {t b b' : Nd} (x : Nd), t.at? p = some b → b.put q x = some b' → t.put (p ++ q) x = t.put p b'
 | [], q, t, b, b', x, h, hb => by rw [at_nil] at h; cases h; rw [List.nil_append, hb, Bw.put_nil]
 | i :: p, q, t, b, b', x, h, hb => by
  obtain ⟨m, c, rfl, hk, hc⟩ := at_split h
  obtain ⟨z, hz⟩ := put_is b' hc
  rw [List.cons_append, Bw.put_some hk hz]
  have := put_app p q x hc hb
  rw [hz] at this
  exact Bw.put_some hk this
theorem put_same {p : List Int} {t b : Nd} (h : t.at? p = some b) : t.put p b = some t := by
 obtain ⟨a, ha⟩ := put_is b h
 have h1 := put_back p t b a b ha h
 have h2 := put_over p b ha
 rw [← h2, h1]

/-! ### A child put at a gap, and taken out -/
theorem ins_kids (n : Nd) (i : Nat) (x : Nd) : (insD n i x).kids = n.kids.take i ++ [x] ++ n.kids.drop i := rfl
theorem del_kids (n : Nd) (i : Nat) : (delD n i).kids = n.kids.take i ++ n.kids.drop (i + 1) := rfl
theorem ins_lt {n x : Nd} {i j : Nat} (hi : i ≤ n.kids.length) (h : j < i) : (insD n i x).kids[j]? = n.kids[j]? := by
 rw [ins_kids, List.append_assoc, List.getElem?_append_left (by rw [List.length_take]; omega), List.getElem?_take_of_lt h]
theorem ins_eq {n x : Nd} {i : Nat} (hi : i ≤ n.kids.length) : (insD n i x).kids[i]? = some x := by
 rw [ins_kids, List.append_assoc, List.getElem?_append_right (by rw [List.length_take]; omega)]
 have : i - (n.kids.take i).length = 0 := by rw [List.length_take]; omega
 rw [this]
 rfl
theorem ins_gt {n x : Nd} {i j : Nat} (hi : i ≤ n.kids.length) (h : i ≤ j) : (insD n i x).kids[j + 1]? = n.kids[j]? := by
 rw [ins_kids, List.append_assoc, List.getElem?_append_right (by rw [List.length_take]; omega)]
 have : j + 1 - (n.kids.take i).length = (j - i) + 1 := by rw [List.length_take]; omega
 rw [this, List.singleton_append, List.getElem?_cons_succ, List.getElem?_drop]
 congr 1
 omega
theorem del_ins {n x : Nd} {i : Nat} (hi : i ≤ n.kids.length) : delD (insD n i x) i = n := by
 unfold delD
 rw [ins_kids]
 have h1 : (n.kids.take i ++ [x] ++ n.kids.drop i).take i = n.kids.take i := by
  rw [List.append_assoc, List.take_append_of_le_length (by rw [List.length_take]; omega), List.take_of_length_le (by rw [List.length_take]; omega)]
 have h2 : (n.kids.take i ++ [x] ++ n.kids.drop i).drop (i + 1) = n.kids.drop i := by
  have : (n.kids.take i ++ [x]).length = i + 1 := by rw [List.length_append, List.length_take, List.length_singleton]; omega
  rw [← this, List.drop_left]
 rw [h1, h2, List.take_append_drop]
 show (n.withKids _).withKids n.kids = n
 rw [withKids_twice, withKids_self]
/-- A child put right behind or ahead of itself, and taken out where it stood. -/
theorem del_next {n x : Nd} {i : Nat} (hx : n.kids[i]? = some x) : delD (insD n i x) (i + 1) = n := by
 obtain ⟨hi, hx⟩ := List.getElem?_eq_some_iff.1 hx
 have e : n.kids.drop i = x :: n.kids.drop (i + 1) := by rw [← hx]; exact List.drop_eq_getElem_cons hi
 unfold delD
 rw [ins_kids]
 have hl : (n.kids.take i ++ [x]).length = i + 1 := by rw [List.length_append, List.length_take, List.length_singleton]; omega
 have h1 : (n.kids.take i ++ [x] ++ n.kids.drop i).take (i + 1) = n.kids.take i ++ [x] := by
  rw [List.take_append_of_le_length (by omega), List.take_of_length_le (by omega)]
 have h2 : (n.kids.take i ++ [x] ++ n.kids.drop i).drop (i + 1 + 1) = n.kids.drop (i + 1) := by
  rw [e]
  have : (n.kids.take i ++ [x] ++ (x :: n.kids.drop (i + 1))) = (n.kids.take i ++ [x] ++ [x]) ++ n.kids.drop (i + 1) := by simp
  rw [this]
  have hl2 : (n.kids.take i ++ [x] ++ [x]).length = i + 1 + 1 := by rw [List.length_append, hl]; rfl
  rw [← hl2, List.drop_left]
 rw [h1, h2]
 show (n.withKids _).withKids _ = n
 rw [withKids_twice]
 have : n.kids.take i ++ [x] ++ n.kids.drop (i + 1) = n.kids := by rw [List.append_assoc, List.singleton_append, ← e, List.take_append_drop]
 rw [this, withKids_self]
theorem del_prev {n x : Nd} {i : Nat} (hx : n.kids[i]? = some x) : delD (insD n (i + 1) x) i = n := by
 obtain ⟨hi, hx⟩ := List.getElem?_eq_some_iff.1 hx
 have e : n.kids.drop i = x :: n.kids.drop (i + 1) := by rw [← hx]; exact List.drop_eq_getElem_cons hi
 have e2 : n.kids.take (i + 1) = n.kids.take i ++ [x] := by rw [List.take_succ_eq_append_getElem hi, hx]
 unfold delD
 rw [ins_kids, e2]
 have hl : (n.kids.take i).length = i := by rw [List.length_take]; omega
 have h1 : (n.kids.take i ++ [x] ++ [x] ++ n.kids.drop (i + 1)).take i = n.kids.take i := by
  rw [List.append_assoc, List.append_assoc, List.take_append_of_le_length (by omega), List.take_of_length_le (by omega)]
 have h2 : (n.kids.take i ++ [x] ++ [x] ++ n.kids.drop (i + 1)).drop (i + 1) = n.kids.drop i := by
  have hl2 : (n.kids.take i ++ [x]).length = i + 1 := by rw [List.length_append, hl]; rfl
  rw [List.append_assoc (n.kids.take i ++ [x]), List.drop_left' hl2, e]
  rfl
 rw [h1, h2, List.take_append_drop]
 show (n.withKids _).withKids n.kids = n
 rw [withKids_twice, withKids_self]
theorem wtK_app : ∀ a b : List Nd, wtK (a ++ b) = wtK a + wtK b
 | [], b => by rw [List.nil_append, wtK]; omega
 | k :: r, b => by rw [List.cons_append, wtK, wtK, wtK_app r b]; omega
theorem ins_wt (n : Nd) (i : Nat) (x : Nd) : (insD n i x).wt = n.wt + x.wt := by
 have h := wtK_app (n.kids.take i) (n.kids.drop i)
 rw [List.take_append_drop] at h
 rw [Nd.wt_eq, Nd.wt_eq n, ins_kids, wtK_app, wtK_app, h]
 show 1 + n.label.size + n.text.size + wtA n.attrs + (_ + wtK [x] + _) = _
 have : wtK [x] = x.wt := by rw [wtK, wtK]; omega
 omega
theorem del_wt {n x : Nd} {i : Nat} (hx : n.kids[i]? = some x) : (delD n i).wt + x.wt = n.wt := by
 obtain ⟨hi, hx⟩ := List.getElem?_eq_some_iff.1 hx
 have e : n.kids.drop i = x :: n.kids.drop (i + 1) := by rw [← hx]; exact List.drop_eq_getElem_cons hi
 have h := wtK_app (n.kids.take i) (n.kids.drop i)
 rw [List.take_append_drop, e, wtK] at h
 rw [Nd.wt_eq, Nd.wt_eq n, del_kids, wtK_app, h]
 show 1 + n.label.size + n.text.size + wtA n.attrs + _ + _ = _
 omega

/-! ### Attributes -/
theorem less_eq : ∀ x y : List UInt8, Op.bytesLess x y = decide (x < y)
 | [], [] => by simp [Op.bytesLess]
 | [], b :: y => by simp [Op.bytesLess]
 | a :: x, [] => by simp [Op.bytesLess]
 | a :: x, b :: y => by
  have ih := less_eq x y
  by_cases h1 : a < b <;> by_cases h2 : a = b <;> by_cases h3 : x < y <;> simp [Op.bytesLess, ih, List.cons_lt_cons_iff, h1, h2, h3]
theorem less_not : ∀ (x y : List UInt8), (!Op.bytesLess y x && !(y == x)) = true → Op.bytesLess x y = true := fun x y h => by
 rw [less_eq] at h ⊢
 simp only [Bool.and_eq_true, Bool.not_eq_true', decide_eq_false_iff_not, beq_eq_false_iff_ne] at h
 refine decide_eq_true ?_
 rcases List.le_total x y with hl | hl
 ·rcases List.le_iff_lt_or_eq.1 hl with hl | hl
  ·exact hl
  ·exact absurd hl.symm h.2
 ·rcases List.le_iff_lt_or_eq.1 hl with hl | hl
  ·exact absurd hl h.1
  ·exact absurd hl h.2
theorem less_irr (x : List UInt8) : Op.bytesLess x x = false := by rw [less_eq]; exact decide_eq_false (List.lt_irrefl x)
theorem less_tr {x y z : List UInt8} (h : Op.bytesLess x y = true) (k : Op.bytesLess y z = true) : Op.bytesLess x z = true := by
 rw [less_eq] at *
 exact decide_eq_true (List.lt_trans (of_decide_eq_true h) (of_decide_eq_true k))
theorem less_asy {x y : List UInt8} (h : Op.bytesLess x y = true) : Op.bytesLess y x = false := by
 rcases hk : Op.bytesLess y x with _ | _
 ·rfl
 ·have := less_tr h hk
  rw [less_irr] at this
  cases this
def keyNe (k : ByteArray) (a : Atr) : Bool := !(a.1.toList == k.toList)
theorem atS_done (k v : ByteArray) : ∀ l : List Atr, atS k v l true = l.filter (keyNe k)
 | [] => rfl
 | a :: r => by
  rw [atS, List.filter_cons]
  simp only [Bool.not_true, Bool.false_and, Bool.false_eq_true, if_false, List.nil_append, Bool.true_or, atS_done k v r]
  unfold keyNe
  cases a.1.toList == k.toList <;> rfl
theorem ge_self (k : ByteArray) : geS k k = true := by unfold geS; rw [less_irr]; rfl
theorem ne_of_less {a : Atr} {k : ByteArray} (h : geS a.1 k = false) : (a.1.toList == k.toList) = false := by
 rw [beq_eq_false_iff_ne]
 intro e
 unfold geS at h
 rw [e, less_irr] at h
 cases h
theorem atS_ge {k v : ByteArray} {a : Atr} {r : List Atr} (h : geS a.1 k = true) : atS k v (a :: r) false = (k, v) :: (a :: r).filter (keyNe k) := by
 rw [atS, h]
 simp only [Bool.not_false, Bool.true_and, if_true, Bool.or_true, atS_done, List.filter_cons]
 unfold keyNe
 cases a.1.toList == k.toList <;> rfl
theorem atS_lt {k v : ByteArray} {a : Atr} {r : List Atr} {d : Bool} (h : geS a.1 k = false) : atS k v (a :: r) d = a :: atS k v r d := by
 rw [atS, h, ne_of_less h]
 cases d <;> rfl
theorem filter_twice (k : ByteArray) (l : List Atr) : (l.filter (keyNe k)).filter (keyNe k) = l.filter (keyNe k) := by
 rw [List.filter_filter]
 simp
theorem atS_filter (k v : ByteArray) : ∀ (l : List Atr) (d : Bool), (atS k v l d).filter (keyNe k) = l.filter (keyNe k)
 | l, true => by rw [atS_done, filter_twice]
 | [], false => by
  show ([(k, v)] : List Atr).filter (keyNe k) = []
  simp [keyNe]
 | a :: r, false => by
  rcases hg : geS a.1 k with _ | _
  ·rw [atS_lt hg, List.filter_cons, List.filter_cons, atS_filter k v r false]
  ·rw [atS_ge hg, List.filter_cons]
   have : keyNe k (k, v) = false := by simp [keyNe]
   rw [this]
   simp only [Bool.false_eq_true, if_false, filter_twice]
theorem atS_twice (k va vb : ByteArray) : ∀ l : List Atr, atS k vb (atS k va l false) false = atS k vb l false
 | [] => by
  show atS k vb [(k, va)] false = [(k, vb)]
  rw [atS_ge (show geS (k, va).1 k = true from ge_self k)]
  simp [keyNe]
 | a :: r => by
  rcases hg : geS a.1 k with _ | _
  ·rw [atS_lt hg, atS_lt hg, atS_lt hg, atS_twice k va vb r]
  ·rw [atS_ge hg, atS_ge hg, atS_ge (show geS (k, va).1 k = true from ge_self k), List.filter_cons]
   have : keyNe k (k, va) = false := by simp [keyNe]
   rw [this]
   simp only [Bool.false_eq_true, if_false, filter_twice]
theorem atS_all_ge (k v : ByteArray) : ∀ l : List Atr, (∀ a ∈ l, geS a.1 k = true) → atS k v l false = (k, v) :: l.filter (keyNe k)
 | [], _ => rfl
 | a :: r, h => atS_ge (h a (List.mem_cons_self ..))
def Asc (l : List Atr) : Prop := l.Pairwise (fun a b => Op.bytesLess a.1.toList b.1.toList = true)
theorem atS_gone (k v : ByteArray) : ∀ l : List Atr, Asc l → atS k v (l.filter (keyNe k)) false = atS k v l false
 | [], _ => rfl
 | a :: r, h => by
  obtain ⟨h1, h2⟩ := List.pairwise_cons.1 h
  rcases hg : geS a.1 k with _ | _
  ·have hk : keyNe k a = true := by unfold keyNe; rw [ne_of_less hg]; rfl
   rw [List.filter_cons, hk, if_pos rfl, atS_lt hg, atS_lt hg, atS_gone k v r h2]
  ·have hall : ∀ b ∈ a :: r, geS b.1 k = true := fun b hb => by
    rcases List.mem_cons.1 hb with rfl | hb
    ·exact hg
    ·have := h1 b hb
     unfold geS at hg ⊢
     rcases hx : Op.bytesLess b.1.toList k.toList with _ | _
     ·rfl
     ·rw [less_tr this hx] at hg
      cases hg
   rw [atS_all_ge k v _ hall, atS_all_ge k v _ (fun b hb => hall b (List.mem_filter.1 hb).1), filter_twice]
theorem less_of_not {x y : ByteArray} (h : strLe y x = false) : Op.bytesLess x.toList y.toList = true := by
 unfold strLe at h
 rw [Bool.or_eq_false_iff] at h
 exact less_not x.toList y.toList (by rw [h.1, h.2]; rfl)
theorem attrs_asc : ∀ (l : List Atr) (p : Option ByteArray), attrsOk p l = true → Asc l ∧ ∀ q, p = some q → ∀ a ∈ l, Op.bytesLess q.toList a.1.toList = true
 | [], p, _ => ⟨List.Pairwise.nil, fun _ _ _ h => absurd h List.not_mem_nil⟩
 | (k, v) :: r, p, h => by
  unfold attrsOk at h
  rw [Bool.and_eq_true, Bool.and_eq_true] at h
  obtain ⟨⟨-, hp⟩, hr⟩ := h
  obtain ⟨h1, h2⟩ := attrs_asc r (some k) hr
  have hk := h2 k rfl
  refine ⟨List.pairwise_cons.2 ⟨hk, h1⟩, fun q hq a ha => ?_⟩
  subst hq
  have hqk : Op.bytesLess q.toList k.toList = true := less_of_not (by simpa using hp)
  rcases List.mem_cons.1 ha with rfl | ha
  ·exact hqk
  ·exact less_tr hqk (hk a ha)
theorem atS_two (k va vb : ByteArray) {l : List Atr} (h : Asc l) (da db : Bool) : atS k vb (atS k va l da) db = atS k vb l db := by
 cases db with
 | true => rw [atS_done, atS_done, atS_filter]
 | false =>
  cases da with
  | false => exact atS_twice k va vb l
  | true => rw [atS_done, atS_gone k vb l h]
end Go.Proofs.Ytkimbpeapolcbaa.Sy
