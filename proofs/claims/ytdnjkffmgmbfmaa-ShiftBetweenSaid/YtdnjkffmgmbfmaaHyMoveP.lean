/- SyApplyD turned to this seat. (Printed by gport.py.) -/
import Derived.Test.YtdnjkffmgmbfmaaHyAttrAt
import Derived.Test.YtdnjkffmgmbfmaaHyWithout
import Derived.Test.YtdnjkffmgmbfmaaHyOuOps
import Derived.Test.YtdnjkffmgmbfmaaHyNdPut
import Derived.Test.YtdnjkffmgmbfmaaProg
namespace Go.Proofs.Ytdnjkffmgmbfmaa.Sy
open Go.RowKit Go.Proofs.Ytdnjkffmgmbfmaa.Bw Go.Proofs.Ytdnjkffmgmbfmaa.Bs
/-- A node with another label; with another text. -/
def labT (t : Nd) (s : ByteArray) : Nd := .mk t.id t.leaf s t.attrs t.text t.kids
def txtT (t : Nd) (s : ByteArray) : Nd := .mk t.id t.leaf t.label t.attrs s t.kids
/-- Is it refused, and why? -/
def validD (t : Nd) (o : OpD) : Int :=
 if t.right = false then 2
 else if o.formed = false then 80
 else if (o.kind = 2 ∨ o.kind = 3) ∧ o.path = [] then 82
 else match t.at? o.path with
  | none => 81
  | some x =>
   if o.kind = 1 then intoE x o.at_
   else if o.kind = 3 then
    (if within o.path o.to then 84 else match t.at? o.to with
     | none => 81
     | some y => intoE y o.at_)
   else if o.kind = 6 then (if x.leaf = false then 83 else apE x.text o.pcs)
   else 0
/-- A tree without the node at a path. -/
def withoutD (t : Nd) (p : List Int) : Nd := (t.put p.dropLast (delD ((t.at? p.dropLast).getD Nd.zero) (lastN p).toNat)).getD Nd.zero
/-- Where the node of a move stands when it has been put. -/
def fromD (o : OpD) : List Int :=
 if o.to.length < o.path.length ∧ within o.to o.path = true ∧ o.at_ ≤ o.path.getD o.to.length 0 then o.path.set o.to.length (o.path.getD o.to.length 0 + 1) else o.path
def moveD (t : Nd) (o : OpD) : Nd :=
 withoutD ((t.put o.to (insD ((t.at? o.to).getD Nd.zero) o.at_.toNat ((t.at? o.path).getD Nd.zero))).getD Nd.zero) (fromD o)
def newD (o : OpD) : Nd := .mk o.id o.leaf o.label [] ⟨#[]⟩ []
/-- A tree behind an operation that is valid. -/
def doD (t : Nd) (o : OpD) : Nd :=
 let x := (t.at? o.path).getD Nd.zero
 if o.kind = 1 then (t.put o.path (insD x o.at_.toNat (newD o))).getD Nd.zero
 else if o.kind = 2 then withoutD t o.path
 else if o.kind = 3 then moveD t o
 else if o.kind = 4 then (t.put o.path (attrT x o)).getD Nd.zero
 else if o.kind = 5 then (t.put o.path (labT x o.label)).getD Nd.zero
 else (t.put o.path (txtT x (apS x.text o.pcs))).getD Nd.zero
def applyD (t : Nd) (o : OpD) : Nd × Int := if validD t o = 0 then (doD t o, 0) else (Nd.zero, validD t o)
end Go.Proofs.Ytdnjkffmgmbfmaa.Sy
namespace Go.Proofs.Ytdnjkffmgmbfmaa.Bw
open Go.RowKit
theorem put_split {t x a : Nd} {i : Int} {p : List Int} (h : t.put (i :: p) x = some a) : ∃ (m : Nat) (k k' : Nd), i = m ∧ t.kids[m]? = some k ∧ k.put p x = some k' ∧ a = t.withKids (t.kids.set m k') := by
  by_cases hc : i < 0 ∨ (t.kids.length : Int) ≤ i
  · rw [put_out hc] at h; cases h
  · obtain ⟨m, rfl⟩ := Int.eq_ofNat_of_zero_le (show 0 ≤ i by omega)
    obtain ⟨k, hk⟩ : ∃ k, t.kids[m]? = some k := ⟨_, List.getElem?_eq_getElem (by omega)⟩
    cases hp : k.put p x with
    | none => rw [put_none hk hp] at h; cases h
    | some k' =>
      rw [put_some hk hp] at h
      cases h
      exact ⟨m, k, k', rfl, hk, hp, rfl⟩
theorem withKids_kids (t : Nd) (l : List Nd) : (t.withKids l).kids = l := rfl
theorem withKids_self (t : Nd) : t.withKids t.kids = t := by cases t; rfl
theorem withKids_twice (t : Nd) (l m : List Nd) : (t.withKids l).withKids m = t.withKids m := rfl
theorem put_at : ∀ (p : List Int) (t x a : Nd), t.put p x = some a → a.at? p = some x
  | [], t, x, a, h => by rw [put_nil] at h; cases h; exact at_nil
  | i :: p, t, x, a, h => by
    obtain ⟨m, k, k', rfl, hk, hp, rfl⟩ := put_split h
    have hm := (List.getElem?_eq_some_iff.1 hk).1
    rw [at_some (k := k') (by omega) (by rw [Int.toNat_natCast, withKids_kids]; simp [hm])]
    exact put_at p k x k' hp
theorem put_back : ∀ (p : List Int) (t x a b : Nd), t.put p x = some a → t.at? p = some b → a.put p b = some t
  | [], t, x, a, b, h, hb => by rw [at_nil] at hb; cases hb; exact put_nil
  | i :: p, t, x, a, b, h, hb => by
    obtain ⟨m, k, k', rfl, hk, hp, rfl⟩ := put_split h
    have hm := (List.getElem?_eq_some_iff.1 hk).1
    rw [at_some (by omega) (by rw [Int.toNat_natCast]; exact hk)] at hb
    have hr := put_back p k x k' b hp hb
    rw [put_some (t := t.withKids (t.kids.set m k')) (k := k') (k' := k) (by rw [withKids_kids]; simp [hm]) hr, withKids_twice, withKids_kids, List.set_set]
    have : t.kids.set m k = t.kids := by
      apply List.ext_getElem?
      intro j
      rw [List.getElem?_set]
      split
      · rename_i hj; subst hj; rw [hk]
      · rfl
    rw [this, withKids_self]
theorem cntK_set : ∀ (l : List Nd) (m : Nat) (k k' : Nd), l[m]? = some k → cntK (l.set m k') + k.cnt = cntK l + k'.cnt
  | y :: r, 0, k, k', h => by
    simp only [List.getElem?_cons_zero, Option.some.injEq] at h
    subst h
    rw [List.set_cons_zero, cntK, cntK]; omega
  | y :: r, m + 1, k, k', h => by
    have := cntK_set r m k k' (by simpa using h)
    rw [List.set_cons_succ, cntK, cntK]; omega
theorem wtK_set : ∀ (l : List Nd) (m : Nat) (k k' : Nd), l[m]? = some k → wtK (l.set m k') + k.wt = wtK l + k'.wt
  | y :: r, 0, k, k', h => by
    simp only [List.getElem?_cons_zero, Option.some.injEq] at h
    subst h
    rw [List.set_cons_zero, wtK, wtK]; omega
  | y :: r, m + 1, k, k', h => by
    have := wtK_set r m k k' (by simpa using h)
    rw [List.set_cons_succ, wtK, wtK]; omega
theorem put_cnt : ∀ (p : List Int) (t x a b : Nd), t.put p x = some a → t.at? p = some b → a.cnt + b.cnt = t.cnt + x.cnt
  | [], t, x, a, b, h, hb => by rw [at_nil] at hb; rw [put_nil] at h; cases hb; cases h; omega
  | i :: p, t, x, a, b, h, hb => by
    obtain ⟨m, k, k', rfl, hk, hp, rfl⟩ := put_split h
    rw [at_some (by omega) (by rw [Int.toNat_natCast]; exact hk)] at hb
    have h1 := put_cnt p k x k' b hp hb
    have h2 := cntK_set t.kids m k k' hk
    rw [Nd.cnt_eq (t.withKids _), withKids_kids, Nd.cnt_eq t]
    omega
theorem put_wt : ∀ (p : List Int) (t x a b : Nd), t.put p x = some a → t.at? p = some b → a.wt + b.wt = t.wt + x.wt
  | [], t, x, a, b, h, hb => by rw [at_nil] at hb; rw [put_nil] at h; cases hb; cases h; omega
  | i :: p, t, x, a, b, h, hb => by
    obtain ⟨m, k, k', rfl, hk, hp, rfl⟩ := put_split h
    rw [at_some (by omega) (by rw [Int.toNat_natCast]; exact hk)] at hb
    have h1 := put_wt p k x k' b hp hb
    have h2 := wtK_set t.kids m k k' hk
    rw [Nd.wt_eq (t.withKids _), withKids_kids, Nd.wt_eq t]
    show 1 + t.label.size + t.text.size + wtA t.attrs + _ + _ = _
    omega
end Go.Proofs.Ytdnjkffmgmbfmaa.Bw
namespace Go.Proofs.Ytdnjkffmgmbfmaa.Sy
open Go.RowKit Go.Proofs.Ytdnjkffmgmbfmaa.Bw Go.Proofs.Ytdnjkffmgmbfmaa.Bs
theorem at_step {t c : Nd} {m : Nat} {p : List Int} (h : t.kids[m]? = some c) : t.at? ((m : Int) :: p) = c.at? p := at_some (by omega) (by rw [Int.toNat_natCast]; exact h)
theorem at_app : ∀ (p q : List Int) {t b : Nd}, t.at? p = some b → t.at? (p ++ q) = b.at? q
 | [], q, t, b, h => by rw [at_nil] at h; cases h; rfl
 | i :: p, q, t, b, h => by
  obtain ⟨m, c, rfl, hk, hc⟩ := at_split h
  rw [List.cons_append, at_step hk]
  exact at_app p q hc
theorem at_snoc : ∀ (p : List Int) (i : Int) {t x : Nd}, t.at? (p ++ [i]) = some x → ∃ (m : Nat) (b : Nd), i = m ∧ t.at? p = some b ∧ b.kids[m]? = some x
 | [], i, t, x, h => by
  obtain ⟨m, c, rfl, hk, hc⟩ := at_split (show t.at? (i :: []) = some x from h)
  rw [at_nil] at hc
  cases hc
  exact ⟨m, t, rfl, at_nil, hk⟩
 | j :: p, i, t, x, h => by
  obtain ⟨m, c, rfl, hk, hc⟩ := at_split (show t.at? (j :: (p ++ [i])) = some x from h)
  obtain ⟨m', b, rfl, hb, hx⟩ := at_snoc p i hc
  exact ⟨m', b, rfl, by rw [at_step hk]; exact hb, hx⟩
theorem at_wt : ∀ (p : List Int) {t b : Nd}, t.at? p = some b → b.wt ≤ t.wt
 | [], t, b, h => by rw [at_nil] at h; cases h; exact Nat.le_refl _
 | i :: p, t, b, h => by
  obtain ⟨m, c, rfl, hk, hc⟩ := at_split h
  have h1 := at_wt p hc
  have h2 := wtK_mem (List.mem_of_getElem? hk)
  rw [Nd.wt_eq t]
  omega
theorem put_is {p : List Int} {t b : Nd} (x : Nd) (h : t.at? p = some b) : ∃ a, t.put p x = some a := by
 have := at_put p t x
 rw [h] at this
 exact Option.isSome_iff_exists.1 this.symm
theorem put_over : ∀ (p : List Int) {t x a : Nd} (y : Nd), t.put p x = some a → a.put p y = t.put p y
 | [], t, x, a, y, h => by rw [Bw.put_nil, Bw.put_nil]
 | i :: p, t, x, a, y, h => by
  obtain ⟨m, k, k', rfl, hk, hp, rfl⟩ := put_split h
  have hm := (List.getElem?_eq_some_iff.1 hk).1
  have hr := put_over p y hp
  have hk' : (t.withKids (t.kids.set m k')).kids[m]? = some k' := by rw [withKids_kids]; simp [hm]
  cases hy : k.put p y with
  | none => rw [Bw.put_none hk hy, Bw.put_none hk' (by rw [hr, hy])]
  | some z => rw [Bw.put_some hk hy, Bw.put_some hk' (by rw [hr, hy]), withKids_twice, withKids_kids, List.set_set]
theorem put_app : ∀ (p q : List Int) {t b b' : Nd} (x : Nd), t.at? p = some b → b.put q x = some b' → t.put (p ++ q) x = t.put p b'
 | [], q, t, b, b', x, h, hb => by rw [at_nil] at h; cases h; rw [List.nil_append, hb, Bw.put_nil]
 | i :: p, q, t, b, b', x, h, hb => by
  obtain ⟨m, c, rfl, hk, hc⟩ := at_split h
  obtain ⟨z, hz⟩ := put_is b' hc
  rw [List.cons_append, Bw.put_some hk hz]
  have := put_app p q x hc hb
  rw [hz] at this
  exact Bw.put_some hk this
theorem put_same {p : List Int} {t b : Nd} (h : t.at? p = some b) : t.put p b = some t := by
 obtain ⟨a, ha⟩ := put_is b h
 have h1 := put_back p t b a b ha h
 have h2 := put_over p b ha
 rw [← h2, h1]
theorem ins_kids (n : Nd) (i : Nat) (x : Nd) : (insD n i x).kids = n.kids.take i ++ [x] ++ n.kids.drop i := rfl
theorem del_kids (n : Nd) (i : Nat) : (delD n i).kids = n.kids.take i ++ n.kids.drop (i + 1) := rfl
theorem ins_lt {n x : Nd} {i j : Nat} (hi : i ≤ n.kids.length) (h : j < i) : (insD n i x).kids[j]? = n.kids[j]? := by
 rw [ins_kids, List.append_assoc, List.getElem?_append_left (by rw [List.length_take]; omega), List.getElem?_take_of_lt h]
theorem ins_eq {n x : Nd} {i : Nat} (hi : i ≤ n.kids.length) : (insD n i x).kids[i]? = some x := by
 rw [ins_kids, List.append_assoc, List.getElem?_append_right (by rw [List.length_take]; omega)]
 have : i - (n.kids.take i).length = 0 := by rw [List.length_take]; omega
 rw [this]
 rfl
theorem ins_gt {n x : Nd} {i j : Nat} (hi : i ≤ n.kids.length) (h : i ≤ j) : (insD n i x).kids[j + 1]? = n.kids[j]? := by
 rw [ins_kids, List.append_assoc, List.getElem?_append_right (by rw [List.length_take]; omega)]
 have : j + 1 - (n.kids.take i).length = (j - i) + 1 := by rw [List.length_take]; omega
 rw [this, List.singleton_append, List.getElem?_cons_succ, List.getElem?_drop]
 congr 1
 omega
theorem wtK_app : ∀ a b : List Nd, wtK (a ++ b) = wtK a + wtK b
 | [], b => by rw [List.nil_append, wtK]; omega
 | k :: r, b => by rw [List.cons_append, wtK, wtK, wtK_app r b]; omega
theorem ins_wt (n : Nd) (i : Nat) (x : Nd) : (insD n i x).wt = n.wt + x.wt := by
 have h := wtK_app (n.kids.take i) (n.kids.drop i)
 rw [List.take_append_drop] at h
 rw [Nd.wt_eq, Nd.wt_eq n, ins_kids, wtK_app, wtK_app, h]
 show 1 + n.label.size + n.text.size + wtA n.attrs + (_ + wtK [x] + _) = _
 have : wtK [x] = x.wt := by rw [wtK, wtK]; omega
 omega
theorem del_wt {n x : Nd} {i : Nat} (hx : n.kids[i]? = some x) : (delD n i).wt + x.wt = n.wt := by
 obtain ⟨hi, hx⟩ := List.getElem?_eq_some_iff.1 hx
 have e : n.kids.drop i = x :: n.kids.drop (i + 1) := by rw [← hx]; exact List.drop_eq_getElem_cons hi
 have h := wtK_app (n.kids.take i) (n.kids.drop i)
 rw [List.take_append_drop, e, wtK] at h
 rw [Nd.wt_eq, Nd.wt_eq n, del_kids, wtK_app, h]
 show 1 + n.label.size + n.text.size + wtA n.attrs + _ + _ = _
 omega
theorem less_eq : ∀ x y : List UInt8, Op.bytesLess x y = decide (x < y)
 | [], [] => by simp [Op.bytesLess]
 | [], b :: y => by simp [Op.bytesLess]
 | a :: x, [] => by simp [Op.bytesLess]
 | a :: x, b :: y => by
  have ih := less_eq x y
  by_cases h1 : a < b <;> by_cases h2 : a = b <;> by_cases h3 : x < y <;> simp [Op.bytesLess, ih, List.cons_lt_cons_iff, h1, h2, h3]
theorem less_irr (x : List UInt8) : Op.bytesLess x x = false := by rw [less_eq]; exact decide_eq_false (List.lt_irrefl x)
def keyNe (k : ByteArray) (a : Atr) : Bool := !(a.1.toList == k.toList)
theorem atS_done (k v : ByteArray) : ∀ l : List Atr, atS k v l true = l.filter (keyNe k)
 | [] => rfl
 | a :: r => by
  rw [atS, List.filter_cons]
  simp only [Bool.not_true, Bool.false_and, Bool.false_eq_true, if_false, List.nil_append, Bool.true_or, atS_done k v r]
  unfold keyNe
  cases a.1.toList == k.toList <;> rfl
theorem ne_of_less {a : Atr} {k : ByteArray} (h : geS a.1 k = false) : (a.1.toList == k.toList) = false := by
 rw [beq_eq_false_iff_ne]
 intro e
 unfold geS at h
 rw [e, less_irr] at h
 cases h
theorem atS_ge {k v : ByteArray} {a : Atr} {r : List Atr} (h : geS a.1 k = true) : atS k v (a :: r) false = (k, v) :: (a :: r).filter (keyNe k) := by
 rw [atS, h]
 simp only [Bool.not_false, Bool.true_and, if_true, Bool.or_true, atS_done, List.filter_cons]
 unfold keyNe
 cases a.1.toList == k.toList <;> rfl
theorem atS_lt {k v : ByteArray} {a : Atr} {r : List Atr} {d : Bool} (h : geS a.1 k = false) : atS k v (a :: r) d = a :: atS k v r d := by
 rw [atS, h, ne_of_less h]
 cases d <;> rfl
end Go.Proofs.Ytdnjkffmgmbfmaa.Sy
namespace Go.Proofs.Ytdnjkffmgmbfmaa.Sy
open Go.RowKit Go.Proofs.Ytdnjkffmgmbfmaa.Bw Go.Proofs.Ytdnjkffmgmbfmaa.Bs
theorem within_cons (a b : Int) (p q : List Int) : within (a :: p) (b :: q) = (decide (b = a) && within p q) := by
 unfold within
 simp only [List.length_cons, List.take_succ_cons, List.cons.injEq]
 by_cases h1 : b = a <;> by_cases h2 : p.length ≤ q.length <;> by_cases h3 : q.take p.length = p <;> simp [h1, h2, h3]
def shP (du : List Int) (i : Int) (p : List Int) : List Int :=
 if du.length < p.length ∧ within du p = true ∧ i ≤ p.getD du.length 0 then p.set du.length (p.getD du.length 0 + 1) else p
theorem from_sh (o : OpD) : fromD o = shP o.to o.at_ o.path := rfl
theorem sh_cons (a : Int) (du : List Int) (i : Int) (q : List Int) : shP (a :: du) i (a :: q) = a :: shP du i q := by
 unfold shP
 rw [within_cons]
 simp only [List.length_cons, Nat.add_lt_add_iff_right, decide_true, Bool.true_and, List.getD_cons_succ, List.set_cons_succ]
 split <;> rfl
theorem sh_len (du : List Int) (i : Int) (p : List Int) : (shP du i p).length = p.length := by
 unfold shP
 split
 ·rw [List.length_set]
 ·rfl
theorem shift_at : ∀ (du p : List Int) {t n y x m : Nd} {i : Nat}, t.at? du = some n → t.put du (insD n i x) = some m → i ≤ n.kids.length → within p du = false → t.at? p = some y → m.at? (shP du i p) = some y
 | [], p, t, n, y, x, m, i, hn, hm, hi, hw, hy => by
  rw [at_nil] at hn
  rw [Bw.put_nil] at hm
  cases hn
  cases hm
  cases p with
  | nil => rw [within_nil] at hw; cases hw
  | cons j q =>
   obtain ⟨k, c, rfl, hk, hc⟩ := at_split hy
   unfold shP
   rw [within_nil]
   rcases Nat.lt_or_ge k i with hlt | hge
   ·rw [if_neg (by simp only [List.length_nil, List.getD_cons_zero]; omega), at_step (c := c) (by rw [ins_lt hi hlt]; exact hk)]
    exact hc
   ·rw [if_pos ⟨by simp, rfl, by simp only [List.length_nil, List.getD_cons_zero]; omega⟩]
    simp only [List.length_nil, List.getD_cons_zero, List.set_cons_zero]
    rw [show ((k : Int) + 1) = ((k + 1 : Nat) : Int) by omega, at_step (c := c) (by rw [ins_gt hi hge]; exact hk)]
    exact hc
 | a :: du, p, t, n, y, x, m, i, hn, hm, hi, hw, hy => by
  obtain ⟨ka, c, rfl, hk, hc⟩ := at_split hn
  obtain ⟨ka', c', d, he, hk', hp, rfl⟩ := put_split hm
  obtain rfl : ka = ka' := by omega
  rw [hk] at hk'
  cases hk'
  have hka := (List.getElem?_eq_some_iff.1 hk).1
  cases p with
  | nil => rw [within_nil] at hw; cases hw
  | cons j q =>
   obtain ⟨kj, e, rfl, hj, he2⟩ := at_split hy
   by_cases hkj : kj = ka
   ·subst hkj
    rw [hk] at hj
    cases hj
    rw [within_cons] at hw
    simp only [decide_true, Bool.true_and] at hw
    rw [sh_cons, at_step (c := d) (by rw [withKids_kids]; simp [hka])]
    exact shift_at du q hc hp hi hw he2
   ·have hsh : shP ((ka : Int) :: du) i ((kj : Int) :: q) = (kj : Int) :: q := by
     unfold shP
     rw [within_cons, if_neg]
     rintro ⟨-, h, -⟩
     rw [Bool.and_eq_true, decide_eq_true_eq] at h
     omega
    rw [hsh, at_step (c := e) (by rw [withKids_kids, List.getElem?_set, if_neg (fun h => hkj h.symm)]; exact hj)]
    exact he2
theorem put_getD {t a : Nd} {p : List Int} {x : Nd} (h : t.put p x = some a) : (t.put p x).getD Nd.zero = a := by rw [h]; rfl
theorem snoc_of {p : List Int} (h : p ≠ []) : p = p.dropLast ++ [lastN p] := by
 have h1 := List.dropLast_concat_getLast h
 rw [← h1]
 congr 2
 ·rw [h1]
 ·unfold lastN
  rw [h1, List.getLastD_eq_getLast?, List.getLast?_eq_some_getLast h]
  rfl
theorem without_is {t x : Nd} {p : List Int} (hne : p ≠ []) (hx : t.at? p = some x) : ∃ (k : Nat) (z : Nd), lastN p = k ∧ t.at? p.dropLast = some z ∧ z.kids[k]? = some x ∧ withoutD t p = (t.put p.dropLast (delD z k)).getD Nd.zero ∧ (withoutD t p).wt + x.wt = t.wt := by
 rw [snoc_of hne] at hx
 obtain ⟨k, z, hk, hz, hkx⟩ := at_snoc _ _ hx
 obtain ⟨a, ha⟩ := put_is (delD z k) hz
 have hw : withoutD t p = a := by
  unfold withoutD
  rw [hk, hz, Int.toNat_natCast]
  show (t.put p.dropLast (delD z k)).getD Nd.zero = a
  rw [ha]; rfl
 refine ⟨k, z, hk, hz, hkx, by rw [hw, ha]; rfl, ?_⟩
 have h1 := put_wt _ _ _ _ _ ha hz
 have h2 := del_wt hkx
 rw [hw]
 omega
/-- What a move needs. -/
theorem move_from {t x y : Nd} {o : OpD} (hx : t.at? o.path = some x) (hy : t.at? o.to = some y) {i : Nat} (hi : o.at_ = i) (h1 : i ≤ y.kids.length) (hnw : within o.path o.to = false) {m : Nd} (hm : (t.put o.to (insD y i x)).getD Nd.zero = m) :
  fromD o ≠ [] ∧ m.at? (fromD o) = some x ∧ m.wt = t.wt + x.wt ∧ moveD t o = withoutD m (fromD o) := by
 obtain ⟨a, ha⟩ := put_is (insD y i x) hy
 rw [ha] at hm
 obtain rfl : a = m := hm
 refine ⟨fun h => ?_, ?_, ?_, ?_⟩
 ·have := sh_len o.to o.at_ o.path
  rw [← from_sh, h] at this
  have h0 : o.path = [] := List.eq_nil_of_length_eq_zero this.symm
  rw [h0, within_nil] at hnw
  cases hnw
 ·rw [from_sh, hi]
  exact shift_at _ _ hy ha h1 hnw hx
 ·have h2 := put_wt _ _ _ _ _ ha hy
  have h3 := ins_wt y i x
  omega
 ·unfold moveD
  rw [hy, hx, hi, Int.toNat_natCast]
  show withoutD ((t.put o.to (insD y i x)).getD Nd.zero) (fromD o) = _
  rw [ha]; rfl
end Go.Proofs.Ytdnjkffmgmbfmaa.Sy
