/- SyValidP turned to this seat. (Printed by gport.py.) -/
import Derived.Test.YtdnjkffmgmbfmaaHyMoveP
import Derived.Test.YtdnjkffmgmbfmaaHyOuOps
namespace Go.Proofs.Ytdnjkffmgmbfmaa.Sy
open Go.RowKit Go.Proofs.Ytdnjkffmgmbfmaa.Bw Go.Proofs.Ytdnjkffmgmbfmaa.Bs
/-- What is asked behind the node at the path. -/
def tailE (t : Nd) (o : OpD) (x : Nd) : Int :=
 if o.kind = 1 then intoE x o.at_
 else if o.kind = 3 then (if within o.path o.to then 84 else match t.at? o.to with
  | none => 81
  | some y => intoE y o.at_)
 else if o.kind = 6 then (if x.leaf = false then 83 else apE x.text o.pcs)
 else 0
theorem valid_iff (t : Nd) (o : OpD) : validD t o = 0 ↔ t.right = true ∧ o.formed = true ∧ ((o.kind = 2 ∨ o.kind = 3) → o.path ≠ []) ∧ ∃ x, t.at? o.path = some x ∧ tailE t o x = 0 := by
 unfold validD tailE
 by_cases h1 : t.right = false
 ·rw [if_pos h1, h1]
  simp
 by_cases h2 : o.formed = false
 ·rw [if_neg h1, if_pos h2, h2]
  simp
 by_cases h3 : (o.kind = 2 ∨ o.kind = 3) ∧ o.path = []
 ·rw [if_neg h1, if_neg h2, if_pos h3]
  exact ⟨fun h => (by cases h), fun h => absurd h3.2 (h.2.2.1 h3.1)⟩
 rw [if_neg h1, if_neg h2, if_neg h3]
 have e1 : t.right = true := by simpa using h1
 have e2 : o.formed = true := by simpa using h2
 have e3 : (o.kind = 2 ∨ o.kind = 3) → o.path ≠ [] := fun h k => h3 ⟨h, k⟩
 cases hx : t.at? o.path with
 | none => exact ⟨fun h => (by cases h), fun ⟨_, _, _, x, h, _⟩ => (by cases h)⟩
 | some x => exact ⟨fun h => ⟨e1, e2, e3, x, rfl, h⟩, fun ⟨_, _, _, y, h, k⟩ => by cases h; exact k⟩
theorem into_iff (x : Nd) (i : Int) : intoE x i = 0 ↔ x.leaf = false ∧ i ≤ x.kids.length := by
 unfold intoE
 cases x.leaf with
 | true => simp
 | false =>
  by_cases h : (x.kids.length : Int) < i
  ·simp only [Bool.false_eq_true, if_false, if_pos h, true_and]
   exact ⟨fun h => (by cases h), fun h => (by omega)⟩
  ·simp only [Bool.false_eq_true, if_false, if_neg h, true_and, true_iff]
   omega
theorem formed1 {o : OpD} (h : o.formed = true) (hk : o.kind = 1 ∨ o.kind = 3) : 0 ≤ o.at_ ∧ o.at_ ≤ 1048576 := by
 unfold OpD.formed at h
 rw [Bool.and_eq_true] at h
 rcases hk with hk | hk
 ·rw [if_pos hk, Bool.and_eq_true] at h
  simpa [gapOk] using h.2.1
 ·rw [if_neg (by omega), if_neg (by omega), if_pos hk, Bool.and_eq_true] at h
  simpa [gapOk] using h.2.1
theorem formed_pv {o : OpD} (h : o.formed = true) : o.path.length ≤ 64 ∧ ∀ i ∈ o.path, 0 ≤ i ∧ i ≤ 1048576 := by
 have := formed_may h
 refine ⟨may_len this, fun i hi => ?_⟩
 unfold may at this
 rw [Bool.and_eq_true] at this
 have := List.all_eq_true.1 this.2 _ hi
 unfold okN at this
 simp only [Bool.and_eq_true, decide_eq_true_eq] at this
 omega
/-- A valid insert. -/
theorem valid1 {t : Nd} {o : OpD} (h : validD t o = 0) (hk : o.kind = 1) : ∃ x, t.at? o.path = some x ∧ x.leaf = false ∧ 0 ≤ o.at_ ∧ o.at_ ≤ x.kids.length := by
 obtain ⟨-, hf, -, x, hx, hE⟩ := (valid_iff t o).1 h
 unfold tailE at hE
 rw [if_pos hk, into_iff] at hE
 exact ⟨x, hx, hE.1, (formed1 hf (.inl hk)).1, hE.2⟩
theorem valid3 {t : Nd} {o : OpD} (h : validD t o = 0) (hk : o.kind = 3) : ∃ x y, t.at? o.path = some x ∧ t.at? o.to = some y ∧ o.path ≠ [] ∧ within o.path o.to = false ∧ y.leaf = false ∧ 0 ≤ o.at_ ∧ o.at_ ≤ y.kids.length := by
 obtain ⟨-, hf, hne, x, hx, hE⟩ := (valid_iff t o).1 h
 unfold tailE at hE
 rw [if_neg (by omega), if_pos hk] at hE
 cases hw : within o.path o.to with
 | true => rw [hw, if_pos rfl] at hE; cases hE
 | false =>
  rw [hw, if_neg (by decide)] at hE
  cases hy : t.at? o.to with
  | none => rw [hy] at hE; cases hE
  | some y =>
   rw [hy] at hE
   have := (into_iff y o.at_).1 hE
   exact ⟨x, y, hx, rfl, hne (.inr hk), rfl, this.1, (formed1 hf (.inr hk)).1, this.2⟩
theorem valid6 {t : Nd} {o : OpD} (h : validD t o = 0) (hk : o.kind = 6) : ∃ x, t.at? o.path = some x ∧ x.leaf = true ∧ apE x.text o.pcs = 0 := by
 obtain ⟨-, hf, hne, x, hx, hE⟩ := (valid_iff t o).1 h
 unfold tailE at hE
 rw [if_neg (by omega), if_neg (by omega), if_pos hk] at hE
 cases hl : x.leaf with
 | false => rw [hl, if_pos rfl] at hE; cases hE
 | true =>
  rw [hl, if_neg (by decide)] at hE
  exact ⟨x, hx, hl, hE⟩
theorem valid_at {t : Nd} {o : OpD} (h : validD t o = 0) : ∃ x, t.at? o.path = some x := by
 obtain ⟨-, -, -, x, hx, -⟩ := (valid_iff t o).1 h
 exact ⟨x, hx⟩
def opW (o : OpD) : Nat := 1 + o.label.size + o.key.size + o.value.size + putLen o.pcs
theorem atS_wt (k v : ByteArray) : ∀ (l : List Atr) (d : Bool), wtA (atS k v l d) ≤ wtA l + (1 + k.size + v.size)
 | [], d => by cases d <;> simp [atS, wtA]
 | a :: r, d => by
  obtain ⟨ak, av⟩ := a
  have hap : ∀ x y : List Atr, wtA (x ++ y) = wtA x + wtA y := fun x => by
   induction x with
   | nil => intro y; simp [wtA]
   | cons z x ih => intro y; obtain ⟨zk, zv⟩ := z; rw [List.cons_append, wtA, wtA, ih]; omega
  have hd : ∀ (r : List Atr), wtA (atS k v r true) ≤ wtA r := fun r => by
   rw [atS_done]
   induction r with
   | nil => simp
   | cons z r ih =>
    obtain ⟨zk, zv⟩ := z
    rw [List.filter_cons]
    split
    ·rw [wtA, wtA]; omega
    ·rw [wtA]; omega
  have ih := atS_wt k v r d
  have ih2 := hd r
  cases d with
  | true =>
   have := hd ((ak, av) :: r)
   omega
  | false =>
   cases hg : geS (ak, av).1 k with
   | false =>
    rw [atS_lt hg, wtA, wtA]; omega
   | true =>
    have := hd ((ak, av) :: r)
    rw [atS_ge hg, wtA]
    rw [atS_done] at this
    omega
theorem apply_size : ∀ (l : List Pc) (t : ByteArray), Nn l → (applyB t l).size ≤ t.size + putLen l
 | [], t, _ => by show t.size ≤ _; omega
 | p :: r, t, hn => by
  obtain ⟨h1, h2⟩ := hn p List.mem_cons_self
  have ih := apply_size r (t.extract (p.keep + p.drop).toNat t.size) hn.tail
  show (t.extract 0 p.keep.toNat ++ p.put ++ applyB (t.extract (p.keep + p.drop).toNat t.size) r).size ≤ t.size + (p.put.size + putLen r)
  rw [ByteArray.size_append, ByteArray.size_append]
  have e1 : (t.extract 0 p.keep.toNat).size = min p.keep.toNat t.size - 0 := ByteArray.size_extract
  have e2 : (t.extract (p.keep + p.drop).toNat t.size).size = min t.size t.size - (p.keep + p.drop).toNat := ByteArray.size_extract
  omega
theorem apE_yes {t : ByteArray} {l : List Pc} (h : apE t l = 0) : pcsRight l = true := by
 unfold apE at h
 split at h
 ·next hr => exact hr
 ·cases h
theorem put_le : ∀ {l : List Pc}, Nn l → (putLen l : Int) ≤ wt l
 | [], _ => Int.le_refl _
 | p :: r, h => by
  obtain ⟨h1, h2⟩ := h p List.mem_cons_self
  have := put_le h.tail
  show ((p.put.size + putLen r : Nat) : Int) ≤ p.keep + p.drop + p.put.size + wt r
  omega
theorem apS_put {t : ByteArray} {l : List Pc} (h : apE t l = 0) : (apS t l).size ≤ t.size + putLen l := by
 unfold apS
 rw [if_pos h]
 exact apply_size l t (right_nn (apE_yes h)).1
theorem put_wt2 {t b x : Nd} {p : List Int} (hb : t.at? p = some b) : ((t.put p x).getD Nd.zero).wt + b.wt = t.wt + x.wt := by
 obtain ⟨a, ha⟩ := put_is x hb
 rw [ha]
 exact put_wt _ _ _ _ _ ha hb
/-- A valid operation makes a tree heavier by no more than its own weight. -/
theorem do_wt {t : Nd} {o : OpD} (h : validD t o = 0) : (doD t o).wt ≤ t.wt + opW o := by
 obtain ⟨x, hx⟩ := valid_at h
 unfold doD opW
 rw [hx]
 dsimp only [Option.getD_some]
 by_cases k1 : o.kind = 1
 ·rw [if_pos k1]
  have h1 := put_wt2 (x := insD x o.at_.toNat (newD o)) hx
  have h2 := ins_wt x o.at_.toNat (newD o)
  have h3 : (newD o).wt = 1 + o.label.size := by
   unfold newD
   rw [Nd.wt]
   show 1 + o.label.size + 0 + 0 + wtK [] = _
   rw [wtK]; rfl
  omega
 by_cases k2 : o.kind = 2
 ·rw [if_neg k1, if_pos k2]
  obtain ⟨-, -, hne, -⟩ := (valid_iff t o).1 h
  obtain ⟨k, z, -, -, -, -, hw⟩ := without_is (hne (.inl k2)) hx
  omega
 by_cases k3 : o.kind = 3
 ·rw [if_neg k1, if_neg k2, if_pos k3]
  obtain ⟨x', y, hx', hy, hne, hw, -, h0, h1⟩ := valid3 h k3
  rw [hx] at hx'
  cases hx'
  obtain ⟨f1, f2, f3, f4⟩ := move_from hx hy (show o.at_ = (o.at_.toNat : Int) by omega) (by omega) hw rfl
  obtain ⟨k, z, -, -, -, -, hw⟩ := without_is f1 f2
  rw [f4]
  omega
 by_cases k4 : o.kind = 4
 ·rw [if_neg k1, if_neg k2, if_neg k3, if_pos k4]
  have h1 := put_wt2 (x := attrT x o) hx
  have h2 := atS_wt o.key o.value x.attrs o.gone
  have h3 : (attrT x o).wt = 1 + x.label.size + x.text.size + wtA (atS o.key o.value x.attrs o.gone) + wtK x.kids := by unfold attrT; rw [Nd.wt]
  have h4 := Nd.wt_eq x
  omega
 by_cases k5 : o.kind = 5
 ·rw [if_neg k1, if_neg k2, if_neg k3, if_neg k4, if_pos k5]
  have h1 := put_wt2 (x := labT x o.label) hx
  have h3 : (labT x o.label).wt = 1 + o.label.size + x.text.size + wtA x.attrs + wtK x.kids := by unfold labT; rw [Nd.wt]
  have h4 := Nd.wt_eq x
  omega
 rw [if_neg k1, if_neg k2, if_neg k3, if_neg k4, if_neg k5]
 have h1 := put_wt2 (x := txtT x (apS x.text o.pcs)) hx
 have h3 : (txtT x (apS x.text o.pcs)).wt = 1 + x.label.size + (apS x.text o.pcs).size + wtA x.attrs + wtK x.kids := by unfold txtT; rw [Nd.wt]
 have h4 := Nd.wt_eq x
 obtain ⟨-, hf, -, -⟩ := (valid_iff t o).1 h
 have k6 : o.kind = 6 := by rcases formed_kind hf with k | k | k | k | k | k <;> omega
 obtain ⟨x', hx', -, hE⟩ := valid6 h k6
 rw [hx] at hx'
 cases hx'
 have h5 := apS_put hE
 omega
end Go.Proofs.Ytdnjkffmgmbfmaa.Sy
namespace Go.Proofs.Ytdnjkffmgmbfmaa.Sy
open Go.RowKit Go.Proofs.Ytdnjkffmgmbfmaa.Bw Go.Proofs.Ytdnjkffmgmbfmaa.Bs
/-- The identities of a node's children. -/
def kidIds (x : Nd) : List Int := x.kids.map Nd.id
def insL (l : List Int) (i : Nat) (v : Int) : List Int := l.take i ++ [v] ++ l.drop i
def delL (l : List Int) (i : Nat) : List Int := l.take i ++ l.drop (i + 1)
theorem ins_ids (n x : Nd) (i : Nat) : kidIds (insD n i x) = insL (kidIds n) i x.id := by
 unfold kidIds insL
 rw [ins_kids]
 simp [List.map_take, List.map_drop]
theorem del_ids (n : Nd) (i : Nat) : kidIds (delD n i) = delL (kidIds n) i := by
 unfold kidIds delL
 rw [del_kids]
 simp [List.map_take, List.map_drop]
theorem put_id : ∀ (r : List Int) {t n X a : Nd}, t.at? r = some n → t.put r X = some a → X.id = n.id → a.id = t.id
 | [], t, n, X, a, h, hp, hx => by
  rw [at_nil] at h
  rw [Bw.put_nil] at hp
  cases h
  cases hp
  exact hx
 | i :: r, t, n, X, a, h, hp, hx => by
  obtain ⟨m, k, k', rfl, hk, hp, rfl⟩ := put_split hp
  rfl
theorem set_ids {l : List Nd} {m : Nat} {k k' : Nd} (h : l[m]? = some k) (hid : k'.id = k.id) : (l.set m k').map Nd.id = l.map Nd.id := by
 apply List.ext_getElem?
 intro j
 rw [List.getElem?_map, List.getElem?_map, List.getElem?_set]
 by_cases hj : m = j
 ·subst hj
  rw [if_pos rfl, if_pos (List.getElem?_eq_some_iff.1 h).1, h]
  simp [hid]
 ·rw [if_neg hj]
theorem put_kids {r : List Int} (hr : r ≠ []) {t n X a : Nd} (h : t.at? r = some n) (hp : t.put r X = some a) (hx : X.id = n.id) : kidIds a = kidIds t := by
 cases r with
 | nil => exact absurd rfl hr
 | cons i r =>
  obtain ⟨m, k, k', rfl, hk, hp2, rfl⟩ := put_split hp
  obtain ⟨m2, c, he, hk2, hc⟩ := at_split h
  obtain rfl : m = m2 := by omega
  rw [hk] at hk2
  cases hk2
  exact set_ids hk (put_id r hc hp2 hx)
/-- A node above, or at, the place where one is put. -/
theorem put_above {t n X a y : Nd} {p r : List Int} (hy : t.at? p = some y) (hr : y.at? r = some n) (hu : t.put (p ++ r) X = some a) (hx : X.id = n.id) :
  ∃ y', a.at? p = some y' ∧ y'.id = y.id ∧ kidIds y' = if r = [] then kidIds X else kidIds y := by
 obtain ⟨y', hy'⟩ := put_is X hr
 rw [put_app p r X hy hy'] at hu
 refine ⟨y', put_at _ _ _ _ hu, put_id r hr hy' hx, ?_⟩
 by_cases h : r = []
 ·subst h
  rw [Bw.put_nil] at hy'
  cases hy'
  rw [if_pos rfl]
 ·rw [if_neg h]
  exact put_kids h hr hy' hx
/-- Where what is put has the same children: all nodes are where they were. -/
theorem put_like : ∀ (du : List Int) {t n X a : Nd}, t.at? du = some n → t.put du X = some a → X.id = n.id → X.kids = n.kids → ∀ (p : List Int) {y : Nd}, t.at? p = some y → ∃ y', a.at? p = some y' ∧ y'.id = y.id ∧ kidIds y' = kidIds y
 | [], t, n, X, a, h, hp, hx, hk, p, y, hy => by
  rw [at_nil] at h
  rw [Bw.put_nil] at hp
  cases h
  cases hp
  cases p with
  | nil =>
   rw [at_nil] at hy
   cases hy
   exact ⟨_, at_nil, hx, by unfold kidIds; rw [hk]⟩
  | cons i p =>
   obtain ⟨m, c, rfl, hm, hc⟩ := at_split hy
   exact ⟨y, by rw [at_step (c := c) (by rw [hk]; exact hm)]; exact hc, rfl, rfl⟩
 | d :: du, t, n, X, a, h, hp, hx, hk, p, y, hy => by
  obtain ⟨m, k, k', rfl, hm, hp2, rfl⟩ := put_split hp
  obtain ⟨m2, c, he, hm2, hc⟩ := at_split h
  obtain rfl : m = m2 := by omega
  rw [hm] at hm2
  cases hm2
  cases p with
  | nil =>
   rw [at_nil] at hy
   cases hy
   exact ⟨_, at_nil, rfl, set_ids hm (put_id du hc hp2 hx)⟩
  | cons i p =>
   obtain ⟨j, e, rfl, hj, he2⟩ := at_split hy
   by_cases hjm : m = j
   ·subst hjm
    rw [hm] at hj
    cases hj
    obtain ⟨y', h1, h2, h3⟩ := put_like du hc hp2 hx hk p he2
    exact ⟨y', by rw [at_step (c := k') (by rw [withKids_kids]; simp [(List.getElem?_eq_some_iff.1 hm).1])]; exact h1, h2, h3⟩
   ·exact ⟨y, by rw [at_step (c := e) (by rw [withKids_kids, List.getElem?_set, if_neg hjm]; exact hj)]; exact he2, rfl, rfl⟩
theorem sh_nil0 (du : List Int) (i : Int) : shP du i [] = [] := by
 unfold shP
 rw [if_neg (by simp)]
theorem sh_nil (i a : Int) (p : List Int) : shP [] i (a :: p) = (if i ≤ a then a + 1 else a) :: p := by
 unfold shP
 rw [within_nil]
 by_cases h : i ≤ a
 ·rw [if_pos ⟨by simp, rfl, by simpa using h⟩, if_pos h]; rfl
 ·rw [if_neg (fun h' => h (by simpa using h'.2.2)), if_neg h]
theorem sh_ne {d a : Int} (h : a ≠ d) (du p : List Int) (i : Int) : shP (d :: du) i (a :: p) = a :: p := by
 unfold shP
 rw [if_neg]
 rintro ⟨-, h2, -⟩
 rw [within_cons, Bool.and_eq_true, decide_eq_true_eq] at h2
 exact h h2.1
theorem sh_self (du : List Int) (i : Int) : shP du i du = du := by
 unfold shP
 rw [if_neg (by simp)]
theorem sh_inj (i : Int) : ∀ (du : List Int) {p q : List Int}, shP du i p = shP du i q → p = q
 | _, [], [], _ => rfl
 | du, [], b :: q, h => by have := congrArg List.length h; rw [sh_len, sh_len] at this; cases this
 | du, a :: p, [], h => by have := congrArg List.length h; rw [sh_len, sh_len] at this; cases this
 | [], a :: p, b :: q, h => by
  rw [sh_nil, sh_nil] at h
  injection h with h1 h2
  rw [h2]
  congr 1
  split at h1 <;> split at h1 <;> omega
 | d :: du, a :: p, b :: q, h => by
  by_cases ha : a = d
  ·subst ha
   rw [sh_cons] at h
   by_cases hb : b = a
   ·subst hb
    rw [sh_cons] at h
    injection h with _ h2
    rw [sh_inj i du h2]
   ·rw [sh_ne hb] at h
    injection h with h1 _
    exact absurd h1.symm hb
  ·rw [sh_ne ha] at h
   by_cases hb : b = d
   ·subst hb
    rw [sh_cons] at h
    injection h with h1 _
    exact absurd h1 ha
   ·rw [sh_ne hb] at h
    exact h
theorem sh_avoid (i : Int) : ∀ (du p : List Int), within (du ++ [i]) (shP du i p) = false
 | du, [] => by
  rw [sh_nil0]
  unfold within
  simp
 | [], a :: p => by
  rw [sh_nil, List.nil_append, within_cons]
  split
  ·rw [decide_eq_false (by omega)]; rfl
  ·rw [decide_eq_false (by omega)]; rfl
 | d :: du, a :: p => by
  by_cases ha : a = d
  ·subst ha
   rw [sh_cons, List.cons_append, within_cons, sh_avoid i du p, Bool.and_false]
  ·rw [sh_ne ha, List.cons_append, within_cons, decide_eq_false ha]; rfl
theorem sh_app (i : Int) (r : List Int) : ∀ (du path : List Int), within path du = false → shP du i (path ++ r) = shP du i path ++ r
 | du, [], h => by rw [within_nil] at h; cases h
 | [], a :: p, _ => by rw [List.cons_append, sh_nil, sh_nil]; rfl
 | d :: du, a :: p, h => by
  by_cases ha : a = d
  ·subst ha
   rw [within_cons] at h
   simp only [decide_true, Bool.true_and] at h
   rw [List.cons_append, sh_cons, sh_cons, sh_app i r du p h]; rfl
  ·rw [List.cons_append, sh_ne ha, sh_ne ha]; rfl
theorem ins_at {t n u x y : Nd} {du p : List Int} {i : Nat} (hn : t.at? du = some n) (hu : t.put du (insD n i x) = some u) (hi : i ≤ n.kids.length) (hy : t.at? p = some y) :
  ∃ y', u.at? (shP du i p) = some y' ∧ y'.id = y.id ∧ kidIds y' = if p = du then insL (kidIds y) i x.id else kidIds y := by
 cases hw : within p du with
 | false =>
  refine ⟨y, shift_at du p hn hu hi hw hy, rfl, ?_⟩
  rw [if_neg (fun h => by rw [h, within_self] at hw; cases hw)]
 | true =>
  obtain ⟨r, rfl⟩ := (Bs.within_iff _ _).1 hw
  have hyr : y.at? r = some n := by rw [← at_app p r hy]; exact hn
  obtain ⟨y', h1, h2, h3⟩ := put_above hy hyr hu rfl
  have hsh : shP (p ++ r) i p = p := by
   unfold shP
   rw [if_neg]
   rintro ⟨h, -⟩
   rw [List.length_append] at h
   omega
  refine ⟨y', by rw [hsh]; exact h1, h2, ?_⟩
  rw [h3]
  by_cases hr : r = []
  ·subst hr
   rw [at_nil] at hyr
   cases hyr
   rw [if_pos rfl, if_pos (List.append_nil p).symm, ins_ids]
  ·rw [if_neg hr, if_neg (fun h => hr (List.self_eq_append_right.1 h))]
theorem ins_new {t n u x : Nd} {du : List Int} {i : Nat} (hu : t.put du (insD n i x) = some u) (hi : i ≤ n.kids.length) (r : List Int) : u.at? (du ++ (i : Int) :: r) = x.at? r := by
 rw [at_app du _ (put_at _ _ _ _ hu), at_step (c := x) (ins_eq hi)]
/-- Which nodes there are: the new ones, and the older ones. -/
theorem ins_onto {n x : Nd} {i : Nat} : ∀ (du p : List Int) {t u y : Nd}, t.at? du = some n → t.put du (insD n i x) = some u → i ≤ n.kids.length → u.at? p = some y → within (du ++ [(i : Int)]) p = false → ∃ q y', shP du i q = p ∧ t.at? q = some y'
 | du, [], t, u, y, hn, hu, hi, hy, hw => ⟨[], t, sh_nil0 _ _, at_nil⟩
 | [], j :: p, t, u, y, hn, hu, hi, hy, hw => by
  rw [at_nil] at hn
  rw [Bw.put_nil] at hu
  cases hn
  cases hu
  obtain ⟨k, c, rfl, hk, hc⟩ := at_split hy
  have hki : k ≠ i := fun h => by
   subst h
   rw [List.nil_append, within_cons, within_nil] at hw
   simp at hw
  rcases Nat.lt_or_ge k i with hlt | hge
  ·refine ⟨(k : Int) :: p, y, by rw [sh_nil, if_neg (by omega)], ?_⟩
   rw [ins_lt hi hlt] at hk
   rw [at_step hk]
   exact hc
  ·obtain ⟨k', rfl⟩ : ∃ k', k = k' + 1 := ⟨k - 1, by omega⟩
   refine ⟨(k' : Int) :: p, y, by rw [sh_nil, if_pos (by omega)]; rfl, ?_⟩
   rw [ins_gt hi (by omega)] at hk
   rw [at_step hk]
   exact hc
 | d :: du, j :: p, t, u, y, hn, hu, hi, hy, hw => by
  obtain ⟨m, k, k', rfl, hm, hp, rfl⟩ := put_split hu
  obtain ⟨m2, c, he, hm2, hc⟩ := at_split hn
  obtain rfl : m = m2 := by omega
  rw [hm] at hm2
  cases hm2
  obtain ⟨l, e, rfl, hl, he2⟩ := at_split hy
  rw [withKids_kids, List.getElem?_set] at hl
  by_cases hml : m = l
  ·subst hml
   rw [if_pos rfl, if_pos (List.getElem?_eq_some_iff.1 hm).1] at hl
   cases hl
   rw [List.cons_append, within_cons] at hw
   simp only [decide_true, Bool.true_and] at hw
   obtain ⟨q, y', h1, h2⟩ := ins_onto du p hc hp hi he2 hw
   exact ⟨(m : Int) :: q, y', by rw [sh_cons, h1], by rw [at_step hm]; exact h2⟩
  ·rw [if_neg hml] at hl
   exact ⟨(l : Int) :: p, y, sh_ne (by omega) _ _ _, by rw [at_step hl]; exact he2⟩
theorem del_inv {t x : Nd} {p : List Int} (hne : p ≠ []) (hx : t.at? p = some x) :
  ∃ (k : Nat) (z m : Nd), p = p.dropLast ++ [(k : Int)] ∧ withoutD t p = m ∧ t.at? p.dropLast = some z ∧ z.kids[k]? = some x ∧ m.at? p.dropLast = some (delD z k) ∧ m.put p.dropLast (insD (delD z k) k x) = some t ∧ k ≤ (delD z k).kids.length ∧ m.id = t.id := by
 obtain ⟨k, z, hk, hz, hkx, hw, -⟩ := without_is hne hx
 obtain ⟨m, hm⟩ := put_is (delD z k) hz
 have hlt := (List.getElem?_eq_some_iff.1 hkx).1
 have hins : insD (delD z k) k x = z := by
  have h1 : (insD (delD z k) k x).kids = z.kids := by
   rw [ins_kids, del_kids, List.take_append_of_le_length (by rw [List.length_take]; omega), List.take_of_length_le (by rw [List.length_take]; omega)]
   have h2 : (z.kids.take k ++ z.kids.drop (k + 1)).drop k = z.kids.drop (k + 1) := List.drop_left' (by rw [List.length_take]; omega)
   rw [h2, List.append_assoc, List.singleton_append]
   obtain ⟨_, hx2⟩ := List.getElem?_eq_some_iff.1 hkx
   rw [← hx2, ← List.drop_eq_getElem_cons hlt, List.take_append_drop]
  show z.withKids (insD (delD z k) k x).kids = z
  rw [h1, withKids_self]
 refine ⟨k, z, m, by rw [← hk]; exact snoc_of hne, ?_, hz, hkx, put_at _ _ _ _ hm, ?_, ?_, put_id _ hz hm rfl⟩
 ·rw [hw, hm]; rfl
 ·rw [hins, put_over _ _ hm, put_same hz]
 ·rw [del_kids, List.length_append, List.length_take, List.length_drop]; omega
end Go.Proofs.Ytdnjkffmgmbfmaa.Sy
