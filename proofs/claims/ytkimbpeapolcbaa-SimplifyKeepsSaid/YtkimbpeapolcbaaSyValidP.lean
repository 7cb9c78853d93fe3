/- Chapter 10: where a node stands behind a put; what the operations do to a tree's weight. Plain. -/
import Derived.Test.YtkimbpeapolcbaaSyKeepsP
namespace Go.Proofs.Ytkimbpeapolcbaa.Sy
open Go.RowKit Go.Proofs.Ytkimbpeapolcbaa.Bw Go.Proofs.Ytkimbpeapolcbaa.Bs

theorem within_cons (a b : Int) (p q : List Int) : within (a :: p) (b :: q) = (decide (b = a) && within p q) := by
 unfold within
 simp only [List.length_cons, List.take_succ_cons, List.cons.injEq]
 by_cases h1 : b = a <;> by_cases h2 : p.length ≤ q.length <;> by_cases h3 : q.take p.length = p <;> simp [h1, h2, h3]
def shP (du : List Int) (i : Int) (p : List Int) : List Int :=
 if du.length < p.length ∧ within du p = true ∧ i ≤ p.getD du.length 0 then p.set du.length (p.getD du.length 0 + 1) else p
theorem from_sh (o : OpD) : fromD o = shP o.to o.at_ o.path := rfl
theorem sh_cons (a : Int) (du : List Int) (i : Int) (q : List Int) : shP (a :: du) i (a :: q) = a :: shP du i q := by
 unfold shP
 rw [within_cons]
 simp only [List.length_cons, Nat.add_lt_add_iff_right, decide_true, Bool.true_and, List.getD_cons_succ, List.set_cons_succ]
 split <;> rfl
theorem sh_len (du : List Int) (i : Int) (p : List Int) : (shP du i p).length = p.length := by
 unfold shP
 split
 ·rw [List.length_set]
 ·rfl
theorem shift_at : ∀ (du p : List Int) {t n y x m : Nd} {i : Nat}, t.at? du = some n → t.put du (insD n i x) = some m → i ≤ n.kids.length → within p du = false → t.at? p = some y → m.at? (shP du i p) = some y
 | [], p, t, n, y, x, m, i, hn, hm, hi, hw, hy => by
  rw [at_nil] at hn
  rw [Bw.put_nil] at hm
  cases hn
  cases hm
  cases p with
  | nil => rw [within_nil] at hw; cases hw
  | cons j q =>
   obtain ⟨k, c, rfl, hk, hc⟩ := at_split hy
   unfold shP
   rw [within_nil]
   rcases Nat.lt_or_ge k i with hlt | hge
   ·rw [if_neg (by simp only [List.length_nil, List.getD_cons_zero]; omega), at_step (c := c) (by rw [ins_lt hi hlt]; exact hk)]
    exact hc
   ·rw [if_pos ⟨by simp, rfl, by simp only [List.length_nil, List.getD_cons_zero]; omega⟩]
    simp only [List.length_nil, List.getD_cons_zero, List.set_cons_zero]
    rw [show ((k : Int) + 1) = ((k + 1 : Nat) : Int) by omega, at_step (c := c) (by rw [ins_gt hi hge]; exact hk)]
    exact hc
 | a :: du, p, t, n, y, x, m, i, hn, hm, hi, hw, hy => by
  obtain ⟨ka, c, rfl, hk, hc⟩ := at_split hn
  obtain ⟨ka', c', d, he, hk', hp, rfl⟩ := put_split hm
  obtain rfl : ka = ka' := by omega
  rw [hk] at hk'
  cases hk'
  have hka := (List.getElem?_eq_some_iff.1 hk).1
  cases p with
  | nil => rw [within_nil] at hw; cases hw
  | cons j q =>
   obtain ⟨kj, e, rfl, hj, he2⟩ := at_split hy
   by_cases hkj : kj = ka
   ·subst hkj
    rw [hk] at hj
    cases hj
    rw [within_cons] at hw
    simp only [decide_true, Bool.true_and] at hw
    rw [sh_cons, at_step (c := d) (by rw [withKids_kids]; simp [hka])]
    exact shift_at du q hc hp hi hw he2
   ·have hsh : shP ((ka : Int) :: du) i ((kj : Int) :: q) = (kj : Int) :: q := by
     unfold shP
     rw [within_cons, if_neg]
     rintro ⟨-, h, -⟩
     rw [Bool.and_eq_true, decide_eq_true_eq] at h
     omega
    rw [hsh, at_step (c := e) (by rw [withKids_kids, List.getElem?_set, if_neg (fun h => hkj h.symm)]; exact hj)]
    exact he2
theorem put_getD {t a : Nd} {p : List Int} {x : Nd} (h : t.put p x = some a) : (t.put p x).getD Nd.zero = a := by rw [h]; rfl
theorem snoc_of {p : List Int} (h : p ≠ []) : p = p.dropLast ++ [lastN p] := by
 have h1 := List.dropLast_concat_getLast h
 rw [← h1]
 congr 2
 ·rw [h1]
 ·unfold lastN
  rw [h1, List.getLastD_eq_getLast?, List.getLast?_eq_some_getLast h]
  rfl
theorem without_is {t x : Nd} {p : List Int} (hne : p ≠ []) (hx : t.at? p = some x) : ∃ (k : Nat) (z : Nd), lastN p = k ∧ t.at? p.dropLast = some z ∧ z.kids[k]? = some x ∧ withoutD t p = (t.put p.dropLast (delD z k)).getD Nd.zero ∧ (withoutD t p).wt + x.wt = t.wt := by
 rw [snoc_of hne] at hx
 obtain ⟨k, z, hk, hz, hkx⟩ := at_snoc _ _ hx
 obtain ⟨a, ha⟩ := put_is (delD z k) hz
 have hw : withoutD t p = a := by
  unfold withoutD
  rw [hk, hz, Int.toNat_natCast]
  show (t.put p.dropLast (delD z k)).getD Nd.zero = a
  rw [ha]; rfl
 refine ⟨k, z, hk, hz, hkx, by rw [hw, ha]; rfl, ?_⟩
 have h1 := put_wt _ _ _ _ _ ha hz
 have h2 := del_wt hkx
 rw [hw]
 omega
/-- What a move needs. -/
theorem move_from {t x y : Nd} {o : OpD} (hx : t.at? o.path = some x) (hy : t.at? o.to = some y) {i : Nat} (hi : o.at_ = i) (h1 : i ≤ y.kids.length) (hnw : within o.path o.to = false) {m : Nd} (hm : (t.put o.to (insD y i x)).getD Nd.zero = m) :
  fromD o ≠ [] ∧ m.at? (fromD o) = some x ∧ m.wt = t.wt + x.wt ∧ moveD t o = withoutD m (fromD o) := by
 obtain ⟨a, ha⟩ := put_is (insD y i x) hy
 rw [ha] at hm
 obtain rfl : a = m := hm
 refine ⟨fun h => ?_, ?_, ?_, ?_⟩
 ·have := sh_len o.to o.at_ o.path
  rw [← from_sh, h] at this
  have h0 : o.path = [] := List.eq_nil_of_length_eq_zero this.symm
  rw [h0, within_nil] at hnw
  cases hnw
 ·rw [from_sh, hi]
  exact shift_at _ _ hy ha h1 hnw hx
 ·have h2 := put_wt _ _ _ _ _ ha hy
  have h3 := ins_wt y i x
  omega
 ·unfold moveD
  rw [hy, hx, hi, Int.toNat_natCast]
  show withoutD ((t.put o.to (insD y i x)).getD Nd.zero) (fromD o) = _
  rw [ha]; rfl
end Go.Proofs.Ytkimbpeapolcbaa.Sy
namespace Go.Proofs.Ytkimbpeapolcbaa.Sy
open Go.RowKit Go.Proofs.Ytkimbpeapolcbaa.Bw Go.Proofs.Ytkimbpeapolcbaa.Bs

/-- What is asked behind the node at the path. -/
def tailE (t : Nd) (o : OpD) (x : Nd) : Int :=
 if o.kind = 1 then intoE x o.at_
 else if o.kind = 3 then (if within o.path o.to then 84 else match t.at? o.to with
  | none => 81
  | some y => intoE y o.at_)
 else if o.kind = 6 then (if x.leaf = false then 83 else apE x.text o.pcs)
 else 0
theorem valid_iff (t : Nd) (o : OpD) : validD t o = 0 ↔ t.right = true ∧ o.formed = true ∧ ((o.kind = 2 ∨ o.kind = 3) → o.path ≠ []) ∧ ∃ x, t.at? o.path = some x ∧ tailE t o x = 0 := by
 unfold validD tailE
 by_cases h1 : t.right = false
 ·rw [if_pos h1, h1]
  simp
 by_cases h2 : o.formed = false
 ·rw [if_neg h1, if_pos h2, h2]
  simp
 by_cases h3 : (o.kind = 2 ∨ o.kind = 3) ∧ o.path = []
 ·rw [if_neg h1, if_neg h2, if_pos h3]
  exact ⟨fun h => (by cases h), fun h => absurd h3.2 (h.2.2.1 h3.1)⟩
 rw [if_neg h1, if_neg h2, if_neg h3]
 have e1 : t.right = true := by simpa using h1
 have e2 : o.formed = true := by simpa using h2
 have e3 : (o.kind = 2 ∨ o.kind = 3) → o.path ≠ [] := fun h k => h3 ⟨h, k⟩
 cases hx : t.at? o.path with
 | none => exact ⟨fun h => (by cases h), fun ⟨_, _, _, x, h, _⟩ => (by cases h)⟩
 | some x => exact ⟨fun h => ⟨e1, e2, e3, x, rfl, h⟩, fun ⟨_, _, _, y, h, k⟩ => by cases h; exact k⟩
theorem into_iff (x : Nd) (i : Int) : intoE x i = 0 ↔ x.leaf = false ∧ i ≤ x.kids.length := by
 unfold intoE
 cases x.leaf with
 | true => simp
 | false =>
  by_cases h : (x.kids.length : Int) < i
  ·simp only [Bool.false_eq_true, if_false, if_pos h, true_and]
   exact ⟨fun h => (by cases h), fun h => (by omega)⟩
  ·simp only [Bool.false_eq_true, if_false, if_neg h, true_and, true_iff]
   omega
theorem formed1 {o : OpD} (h : o.formed = true) (hk : o.kind = 1 ∨ o.kind = 3) : 0 ≤ o.at_ ∧ o.at_ ≤ 1048576 := by
 unfold OpD.formed at h
 rw [Bool.and_eq_true] at h
 rcases hk with hk | hk
 ·rw [if_pos hk, Bool.and_eq_true] at h
  simpa [gapOk] using h.2.1
 ·rw [if_neg (by omega), if_neg (by omega), if_pos hk, Bool.and_eq_true] at h
  simpa [gapOk] using h.2.1
theorem formed_pv {o : OpD} (h : o.formed = true) : o.path.length ≤ 64 ∧ ∀ i ∈ o.path, 0 ≤ i ∧ i ≤ 1048576 := by
 have := formed_may h
 refine ⟨may_len this, fun i hi => ?_⟩
 unfold may at this
 rw [Bool.and_eq_true] at this
 have := List.all_eq_true.1 this.2 _ hi
 unfold okN at this
 simp only [Bool.and_eq_true, decide_eq_true_eq] at this
 omega
/-- A valid insert. -/
theorem valid1 {t : Nd} {o : OpD} (h : validD t o = 0) (hk : o.kind = 1) : ∃ x, t.at? o.path = some x ∧ x.leaf = false ∧ 0 ≤ o.at_ ∧ o.at_ ≤ x.kids.length := by
 obtain ⟨-, hf, -, x, hx, hE⟩ := (valid_iff t o).1 h
 unfold tailE at hE
 rw [if_pos hk, into_iff] at hE
 exact ⟨x, hx, hE.1, (formed1 hf (.inl hk)).1, hE.2⟩
theorem valid3 {t : Nd} {o : OpD} (h : validD t o = 0) (hk : o.kind = 3) : ∃ x y, t.at? o.path = some x ∧ t.at? o.to = some y ∧ o.path ≠ [] ∧ within o.path o.to = false ∧ y.leaf = false ∧ 0 ≤ o.at_ ∧ o.at_ ≤ y.kids.length := by
 obtain ⟨-, hf, hne, x, hx, hE⟩ := (valid_iff t o).1 h
 unfold tailE at hE
 rw [if_neg (by omega), if_pos hk] at hE
 cases hw : within o.path o.to with
 | true => rw [hw, if_pos rfl] at hE; cases hE
 | false =>
  rw [hw, if_neg (by decide)] at hE
  cases hy : t.at? o.to with
  | none => rw [hy] at hE; cases hE
  | some y =>
   rw [hy] at hE
   have := (into_iff y o.at_).1 hE
   exact ⟨x, y, hx, rfl, hne (.inr hk), rfl, this.1, (formed1 hf (.inr hk)).1, this.2⟩
theorem valid6 {t : Nd} {o : OpD} (h : validD t o = 0) (hk : o.kind = 6) : ∃ x, t.at? o.path = some x ∧ x.leaf = true ∧ apE x.text o.pcs = 0 := by
 obtain ⟨-, hf, hne, x, hx, hE⟩ := (valid_iff t o).1 h
 unfold tailE at hE
 rw [if_neg (by omega), if_neg (by omega), if_pos hk] at hE
 cases hl : x.leaf with
 | false => rw [hl, if_pos rfl] at hE; cases hE
 | true =>
  rw [hl, if_neg (by decide)] at hE
  exact ⟨x, hx, hl, hE⟩
theorem valid_at {t : Nd} {o : OpD} (h : validD t o = 0) : ∃ x, t.at? o.path = some x := by
 obtain ⟨-, -, -, x, hx, -⟩ := (valid_iff t o).1 h
 exact ⟨x, hx⟩

/-! ### Weight -/
def opW (o : OpD) : Nat := 1 + o.label.size + o.key.size + o.value.size + putLen o.pcs
theorem atS_wt (k v : ByteArray) : ∀ (l : List Atr) (d : Bool), wtA (atS k v l d) ≤ wtA l + (1 + k.size + v.size)
 | [], d => by cases d <;> simp [atS, wtA]
 | a :: r, d => by
  obtain ⟨ak, av⟩ := a
  have hap : ∀ x y : List Atr, wtA (x ++ y) = wtA x + wtA y := fun x => by
   induction x with
   | nil => intro y; simp [wtA]
   | cons z x ih => intro y; obtain ⟨zk, zv⟩ := z; rw [List.cons_append, wtA, wtA, ih]; omega
  have hd : ∀ (r : List Atr), wtA (atS k v r true) ≤ wtA r := fun r => by
   rw [atS_done]
   induction r with
   | nil => simp
   | cons z r ih =>
    obtain ⟨zk, zv⟩ := z
    rw [List.filter_cons]
    split
    ·rw [wtA, wtA]; omega
    ·rw [wtA]; omega
  have ih := atS_wt k v r d
  have ih2 := hd r
  cases d with
  | true =>
   have := hd ((ak, av) :: r)
   omega
  | false =>
   cases hg : geS (ak, av).1 k with
   | false =>
    rw [atS_lt hg, wtA, wtA]; omega
   | true =>
    have := hd ((ak, av) :: r)
    rw [atS_ge hg, wtA]
    rw [atS_done] at this
    omega
theorem apply_size : ∀ (l : List Pc) (t : ByteArray), Nn l → (applyB t l).size ≤ t.size + putLen l
 | [], t, _ => by show t.size ≤ _; omega
 | p :: r, t, hn => by
  obtain ⟨h1, h2⟩ := hn p List.mem_cons_self
  have ih := apply_size r (t.extract (p.keep + p.drop).toNat t.size) hn.tail
  show (t.extract 0 p.keep.toNat ++ p.put ++ applyB (t.extract (p.keep + p.drop).toNat t.size) r).size ≤ t.size + (p.put.size + putLen r)
  rw [ByteArray.size_append, ByteArray.size_append]
  have e1 : (t.extract 0 p.keep.toNat).size = min p.keep.toNat t.size - 0 := ByteArray.size_extract
  have e2 : (t.extract (p.keep + p.drop).toNat t.size).size = min t.size t.size - (p.keep + p.drop).toNat := ByteArray.size_extract
  omega
theorem apS_put {t : ByteArray} {l : List Pc} (h : apE t l = 0) : (apS t l).size ≤ t.size + putLen l := by
 unfold apS
 rw [if_pos h]
 exact apply_size l t (right_nn (apE_ok h).1).1
theorem put_wt2 {t b x : Nd} {p : List Int} (hb : t.at? p = some b) : ((t.put p x).getD Nd.zero).wt + b.wt = t.wt + x.wt := by
 obtain ⟨a, ha⟩ := put_is x hb
 rw [ha]
 exact put_wt _ _ _ _ _ ha hb
/-- A valid operation makes a tree heavier by no more than its own weight. -/
theorem do_wt {t : Nd} {o : OpD} (h : validD t o = 0) : (doD t o).wt ≤ t.wt + opW o := by
 obtain ⟨x, hx⟩ := valid_at h
 unfold doD opW
 rw [hx]
 dsimp only [Option.getD_some]
 by_cases k1 : o.kind = 1
 ·rw [if_pos k1]
  have h1 := put_wt2 (x := insD x o.at_.toNat (newD o)) hx
  have h2 := ins_wt x o.at_.toNat (newD o)
  have h3 : (newD o).wt = 1 + o.label.size := by
   unfold newD
   rw [Nd.wt]
   show 1 + o.label.size + 0 + 0 + wtK [] = _
   rw [wtK]; rfl
  omega
 by_cases k2 : o.kind = 2
 ·rw [if_neg k1, if_pos k2]
  obtain ⟨-, -, hne, -⟩ := (valid_iff t o).1 h
  obtain ⟨k, z, -, -, -, -, hw⟩ := without_is (hne (.inl k2)) hx
  omega
 by_cases k3 : o.kind = 3
 ·rw [if_neg k1, if_neg k2, if_pos k3]
  obtain ⟨x', y, hx', hy, hne, hw, -, h0, h1⟩ := valid3 h k3
  rw [hx] at hx'
  cases hx'
  obtain ⟨f1, f2, f3, f4⟩ := move_from hx hy (show o.at_ = (o.at_.toNat : Int) by omega) (by omega) hw rfl
  obtain ⟨k, z, -, -, -, -, hw⟩ := without_is f1 f2
  rw [f4]
  omega
 by_cases k4 : o.kind = 4
 ·rw [if_neg k1, if_neg k2, if_neg k3, if_pos k4]
  have h1 := put_wt2 (x := attrT x o) hx
  have h2 := atS_wt o.key o.value x.attrs o.gone
  have h3 : (attrT x o).wt = 1 + x.label.size + x.text.size + wtA (atS o.key o.value x.attrs o.gone) + wtK x.kids := by unfold attrT; rw [Nd.wt]
  have h4 := Nd.wt_eq x
  omega
 by_cases k5 : o.kind = 5
 ·rw [if_neg k1, if_neg k2, if_neg k3, if_neg k4, if_pos k5]
  have h1 := put_wt2 (x := labT x o.label) hx
  have h3 : (labT x o.label).wt = 1 + o.label.size + x.text.size + wtA x.attrs + wtK x.kids := by unfold labT; rw [Nd.wt]
  have h4 := Nd.wt_eq x
  omega
 rw [if_neg k1, if_neg k2, if_neg k3, if_neg k4, if_neg k5]
 have h1 := put_wt2 (x := txtT x (apS x.text o.pcs)) hx
 have h3 : (txtT x (apS x.text o.pcs)).wt = 1 + x.label.size + (apS x.text o.pcs).size + wtA x.attrs + wtK x.kids := by unfold txtT; rw [Nd.wt]
 have h4 := Nd.wt_eq x
 obtain ⟨-, hf, -, -⟩ := (valid_iff t o).1 h
 have k6 : o.kind = 6 := by rcases formed_kind hf with k | k | k | k | k | k <;> omega
 obtain ⟨x', hx', -, hE⟩ := valid6 h k6
 rw [hx] at hx'
 cases hx'
 have h5 := apS_put hE
 omega
end Go.Proofs.Ytkimbpeapolcbaa.Sy
