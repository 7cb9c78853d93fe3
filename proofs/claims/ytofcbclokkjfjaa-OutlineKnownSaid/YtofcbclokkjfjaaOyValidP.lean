/- SyValidP turned to this seat. (Printed by gport.py.) -/
import Derived.Test.YtofcbclokkjfjaaOyMoveP
import Derived.Test.YtofcbclokkjfjaaOyFormP
namespace Go.Proofs.Ytofcbclokkjfjaa.Sy
open Go.RowKit Go.Proofs.Ytofcbclokkjfjaa.Bw Go.Proofs.Ytofcbclokkjfjaa.Bs
/-- What is asked behind the node at the path. -/
def tailE (t : Nd) (o : OpD) (x : Nd) : Int :=
 if o.kind = 1 then intoE x o.at_
 else if o.kind = 3 then (if within o.path o.to then 84 else match t.at? o.to with
  | none => 81
  | some y => intoE y o.at_)
 else if o.kind = 6 then (if x.leaf = false then 83 else apE x.text o.pcs)
 else 0
theorem valid_iff (t : Nd) (o : OpD) : validD t o = 0 ↔ t.right = true ∧ o.formed = true ∧ ((o.kind = 2 ∨ o.kind = 3) → o.path ≠ []) ∧ ∃ x, t.at? o.path = some x ∧ tailE t o x = 0 := by
 unfold validD tailE
 by_cases h1 : t.right = false
 ·rw [if_pos h1, h1]
  simp
 by_cases h2 : o.formed = false
 ·rw [if_neg h1, if_pos h2, h2]
  simp
 by_cases h3 : (o.kind = 2 ∨ o.kind = 3) ∧ o.path = []
 ·rw [if_neg h1, if_neg h2, if_pos h3]
  exact ⟨fun h => (by cases h), fun h => absurd h3.2 (h.2.2.1 h3.1)⟩
 rw [if_neg h1, if_neg h2, if_neg h3]
 have e1 : t.right = true := by simpa using h1
 have e2 : o.formed = true := by simpa using h2
 have e3 : (o.kind = 2 ∨ o.kind = 3) → o.path ≠ [] := fun h k => h3 ⟨h, k⟩
 cases hx : t.at? o.path with
 | none => exact ⟨fun h => (by cases h), fun ⟨_, _, _, x, h, _⟩ => (by cases h)⟩
 | some x => exact ⟨fun h => ⟨e1, e2, e3, x, rfl, h⟩, fun ⟨_, _, _, y, h, k⟩ => by cases h; exact k⟩
theorem into_iff (x : Nd) (i : Int) : intoE x i = 0 ↔ x.leaf = false ∧ i ≤ x.kids.length := by
 unfold intoE
 cases x.leaf with
 | true => simp
 | false =>
  by_cases h : (x.kids.length : Int) < i
  ·simp only [Bool.false_eq_true, if_false, if_pos h, true_and]
   exact ⟨fun h => (by cases h), fun h => (by omega)⟩
  ·simp only [Bool.false_eq_true, if_false, if_neg h, true_and, true_iff]
   omega
theorem formed1 {o : OpD} (h : o.formed = true) (hk : o.kind = 1 ∨ o.kind = 3) : 0 ≤ o.at_ ∧ o.at_ ≤ 1048576 := by
 unfold OpD.formed at h
 rw [Bool.and_eq_true] at h
 rcases hk with hk | hk
 ·rw [if_pos hk, Bool.and_eq_true] at h
  simpa [gapOk] using h.2.1
 ·rw [if_neg (by omega), if_neg (by omega), if_pos hk, Bool.and_eq_true] at h
  simpa [gapOk] using h.2.1
theorem formed_pv {o : OpD} (h : o.formed = true) : o.path.length ≤ 64 ∧ ∀ i ∈ o.path, 0 ≤ i ∧ i ≤ 1048576 := by
 have := formed_may h
 refine ⟨may_len this, fun i hi => ?_⟩
 unfold may at this
 rw [Bool.and_eq_true] at this
 have := List.all_eq_true.1 this.2 _ hi
 unfold okN at this
 simp only [Bool.and_eq_true, decide_eq_true_eq] at this
 omega
/-- A valid insert. -/
theorem valid1 {t : Nd} {o : OpD} (h : validD t o = 0) (hk : o.kind = 1) : ∃ x, t.at? o.path = some x ∧ x.leaf = false ∧ 0 ≤ o.at_ ∧ o.at_ ≤ x.kids.length := by
 obtain ⟨-, hf, -, x, hx, hE⟩ := (valid_iff t o).1 h
 unfold tailE at hE
 rw [if_pos hk, into_iff] at hE
 exact ⟨x, hx, hE.1, (formed1 hf (.inl hk)).1, hE.2⟩
theorem valid3 {t : Nd} {o : OpD} (h : validD t o = 0) (hk : o.kind = 3) : ∃ x y, t.at? o.path = some x ∧ t.at? o.to = some y ∧ o.path ≠ [] ∧ within o.path o.to = false ∧ y.leaf = false ∧ 0 ≤ o.at_ ∧ o.at_ ≤ y.kids.length := by
 obtain ⟨-, hf, hne, x, hx, hE⟩ := (valid_iff t o).1 h
 unfold tailE at hE
 rw [if_neg (by omega), if_pos hk] at hE
 cases hw : within o.path o.to with
 | true => rw [hw, if_pos rfl] at hE; cases hE
 | false =>
  rw [hw, if_neg (by decide)] at hE
  cases hy : t.at? o.to with
  | none => rw [hy] at hE; cases hE
  | some y =>
   rw [hy] at hE
   have := (into_iff y o.at_).1 hE
   exact ⟨x, y, hx, rfl, hne (.inr hk), rfl, this.1, (formed1 hf (.inr hk)).1, this.2⟩
theorem valid6 {t : Nd} {o : OpD} (h : validD t o = 0) (hk : o.kind = 6) : ∃ x, t.at? o.path = some x ∧ x.leaf = true ∧ apE x.text o.pcs = 0 := by
 obtain ⟨-, hf, hne, x, hx, hE⟩ := (valid_iff t o).1 h
 unfold tailE at hE
 rw [if_neg (by omega), if_neg (by omega), if_pos hk] at hE
 cases hl : x.leaf with
 | false => rw [hl, if_pos rfl] at hE; cases hE
 | true =>
  rw [hl, if_neg (by decide)] at hE
  exact ⟨x, hx, hl, hE⟩
theorem valid_at {t : Nd} {o : OpD} (h : validD t o = 0) : ∃ x, t.at? o.path = some x := by
 obtain ⟨-, -, -, x, hx, -⟩ := (valid_iff t o).1 h
 exact ⟨x, hx⟩
def opW (o : OpD) : Nat := 1 + o.label.size + o.key.size + o.value.size + putLen o.pcs
theorem atS_wt (k v : ByteArray) : ∀ (l : List Atr) (d : Bool), wtA (atS k v l d) ≤ wtA l + (1 + k.size + v.size)
 | [], d => by cases d <;> simp [atS, wtA]
 | a :: r, d => by
  obtain ⟨ak, av⟩ := a
  have hap : ∀ x y : List Atr, wtA (x ++ y) = wtA x + wtA y := fun x => by
   induction x with
   | nil => intro y; simp [wtA]
   | cons z x ih => intro y; obtain ⟨zk, zv⟩ := z; rw [List.cons_append, wtA, wtA, ih]; omega
  have hd : ∀ (r : List Atr), wtA (atS k v r true) ≤ wtA r := fun r => by
   rw [atS_done]
   induction r with
   | nil => simp
   | cons z r ih =>
    obtain ⟨zk, zv⟩ := z
    rw [List.filter_cons]
    split
    ·rw [wtA, wtA]; omega
    ·rw [wtA]; omega
  have ih := atS_wt k v r d
  have ih2 := hd r
  cases d with
  | true =>
   have := hd ((ak, av) :: r)
   omega
  | false =>
   cases hg : geS (ak, av).1 k with
   | false =>
    rw [atS_lt hg, wtA, wtA]; omega
   | true =>
    have := hd ((ak, av) :: r)
    rw [atS_ge hg, wtA]
    rw [atS_done] at this
    omega
theorem apply_size : ∀ (l : List Pc) (t : ByteArray), Nn l → (applyB t l).size ≤ t.size + putLen l
 | [], t, _ => by show t.size ≤ _; omega
 | p :: r, t, hn => by
  obtain ⟨h1, h2⟩ := hn p List.mem_cons_self
  have ih := apply_size r (t.extract (p.keep + p.drop).toNat t.size) hn.tail
  show (t.extract 0 p.keep.toNat ++ p.put ++ applyB (t.extract (p.keep + p.drop).toNat t.size) r).size ≤ t.size + (p.put.size + putLen r)
  rw [ByteArray.size_append, ByteArray.size_append]
  have e1 : (t.extract 0 p.keep.toNat).size = min p.keep.toNat t.size - 0 := ByteArray.size_extract
  have e2 : (t.extract (p.keep + p.drop).toNat t.size).size = min t.size t.size - (p.keep + p.drop).toNat := ByteArray.size_extract
  omega
theorem apE_yes {t : ByteArray} {l : List Pc} (h : apE t l = 0) : pcsRight l = true := by
 unfold apE at h
 split at h
 ·next hr => exact hr
 ·cases h
theorem put_le : ∀ {l : List Pc}, Nn l → (putLen l : Int) ≤ wt l
 | [], _ => Int.le_refl _
 | p :: r, h => by
  obtain ⟨h1, h2⟩ := h p List.mem_cons_self
  have := put_le h.tail
  show ((p.put.size + putLen r : Nat) : Int) ≤ p.keep + p.drop + p.put.size + wt r
  omega
theorem apS_put {t : ByteArray} {l : List Pc} (h : apE t l = 0) : (apS t l).size ≤ t.size + putLen l := by
 unfold apS
 rw [if_pos h]
 exact apply_size l t (right_nn (apE_yes h)).1
theorem put_wt2 {t b x : Nd} {p : List Int} (hb : t.at? p = some b) : ((t.put p x).getD Nd.zero).wt + b.wt = t.wt + x.wt := by
 obtain ⟨a, ha⟩ := put_is x hb
 rw [ha]
 exact put_wt _ _ _ _ _ ha hb
/-- A valid operation makes a tree heavier by no more than its own weight. -/
theorem do_wt {t : Nd} {o : OpD} (h : validD t o = 0) : (doD t o).wt ≤ t.wt + opW o := by
 obtain ⟨x, hx⟩ := valid_at h
 unfold doD opW
 rw [hx]
 dsimp only [Option.getD_some]
 by_cases k1 : o.kind = 1
 ·rw [if_pos k1]
  have h1 := put_wt2 (x := insD x o.at_.toNat (newD o)) hx
  have h2 := ins_wt x o.at_.toNat (newD o)
  have h3 : (newD o).wt = 1 + o.label.size := by
   unfold newD
   rw [Nd.wt]
   show 1 + o.label.size + 0 + 0 + wtK [] = _
   rw [wtK]; rfl
  omega
 by_cases k2 : o.kind = 2
 ·rw [if_neg k1, if_pos k2]
  obtain ⟨-, -, hne, -⟩ := (valid_iff t o).1 h
  obtain ⟨k, z, -, -, -, -, hw⟩ := without_is (hne (.inl k2)) hx
  omega
 by_cases k3 : o.kind = 3
 ·rw [if_neg k1, if_neg k2, if_pos k3]
  obtain ⟨x', y, hx', hy, hne, hw, -, h0, h1⟩ := valid3 h k3
  rw [hx] at hx'
  cases hx'
  obtain ⟨f1, f2, f3, f4⟩ := move_from hx hy (show o.at_ = (o.at_.toNat : Int) by omega) (by omega) hw rfl
  obtain ⟨k, z, -, -, -, -, hw⟩ := without_is f1 f2
  rw [f4]
  omega
 by_cases k4 : o.kind = 4
 ·rw [if_neg k1, if_neg k2, if_neg k3, if_pos k4]
  have h1 := put_wt2 (x := attrT x o) hx
  have h2 := atS_wt o.key o.value x.attrs o.gone
  have h3 : (attrT x o).wt = 1 + x.label.size + x.text.size + wtA (atS o.key o.value x.attrs o.gone) + wtK x.kids := by unfold attrT; rw [Nd.wt]
  have h4 := Nd.wt_eq x
  omega
 by_cases k5 : o.kind = 5
 ·rw [if_neg k1, if_neg k2, if_neg k3, if_neg k4, if_pos k5]
  have h1 := put_wt2 (x := labT x o.label) hx
  have h3 : (labT x o.label).wt = 1 + o.label.size + x.text.size + wtA x.attrs + wtK x.kids := by unfold labT; rw [Nd.wt]
  have h4 := Nd.wt_eq x
  omega
 rw [if_neg k1, if_neg k2, if_neg k3, if_neg k4, if_neg k5]
 have h1 := put_wt2 (x := txtT x (apS x.text o.pcs)) hx
 have h3 : (txtT x (apS x.text o.pcs)).wt = 1 + x.label.size + (apS x.text o.pcs).size + wtA x.attrs + wtK x.kids := by unfold txtT; rw [Nd.wt]
 have h4 := Nd.wt_eq x
 obtain ⟨-, hf, -, -⟩ := (valid_iff t o).1 h
 have k6 : o.kind = 6 := by rcases formed_kind hf with k | k | k | k | k | k <;> omega
 obtain ⟨x', hx', -, hE⟩ := valid6 h k6
 rw [hx] at hx'
 cases hx'
 have h5 := apS_put hE
 omega
end Go.Proofs.Ytofcbclokkjfjaa.Sy
