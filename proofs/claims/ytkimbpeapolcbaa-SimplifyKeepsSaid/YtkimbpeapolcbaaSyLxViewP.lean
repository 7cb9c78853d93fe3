/- Chapter 10: what the document's Valid, Apply, ApplyAll compute, as plain functions. Nothing of the program is named here but what its contracts tell. -/
import Derived.Test.YtkimbpeapolcbaaSyAttrAt
import Derived.Test.YtkimbpeapolcbaaSyWithout
import Derived.Test.YtkimbpeapolcbaaSyIdle
import Derived.Test.YtkimbpeapolcbaaSyLxCPlain2
namespace Go.Proofs.Ytkimbpeapolcbaa.Sy
open Go.RowKit Go.Proofs.Ytkimbpeapolcbaa.Bw Go.Proofs.Ytkimbpeapolcbaa.Bs

/-- A node with another label; with another text. -/
def labT (t : Nd) (s : ByteArray) : Nd := .mk t.id t.leaf s t.attrs t.text t.kids
def txtT (t : Nd) (s : ByteArray) : Nd := .mk t.id t.leaf t.label t.attrs s t.kids
/-- Is it refused, and why? -/
def validD (t : Nd) (o : OpD) : Int :=
 if t.right = false then 2
 else if o.formed = false then 80
 else if (o.kind = 2 ∨ o.kind = 3) ∧ o.path = [] then 82
 else match t.at? o.path with
  | none => 81
  | some x =>
   if o.kind = 1 then intoE x o.at_
   else if o.kind = 3 then
    (if within o.path o.to then 84 else match t.at? o.to with
     | none => 81
     | some y => intoE y o.at_)
   else if o.kind = 6 then (if x.leaf = false then 83 else apE x.text o.pcs)
   else 0
/-- A tree without the node at a path. -/
def withoutD (t : Nd) (p : List Int) : Nd := (t.put p.dropLast (delD ((t.at? p.dropLast).getD Nd.zero) (lastN p).toNat)).getD Nd.zero
/-- Where the node of a move stands when it has been put. -/
def fromD (o : OpD) : List Int :=
 if o.to.length < o.path.length ∧ within o.to o.path = true ∧ o.at_ ≤ o.path.getD o.to.length 0 then o.path.set o.to.length (o.path.getD o.to.length 0 + 1) else o.path
def moveD (t : Nd) (o : OpD) : Nd :=
 withoutD ((t.put o.to (insD ((t.at? o.to).getD Nd.zero) o.at_.toNat ((t.at? o.path).getD Nd.zero))).getD Nd.zero) (fromD o)
def newD (o : OpD) : Nd := .mk o.id o.leaf o.label [] ⟨#[]⟩ []
/-- A tree behind an operation that is valid. -/
def doD (t : Nd) (o : OpD) : Nd :=
 let x := (t.at? o.path).getD Nd.zero
 if o.kind = 1 then (t.put o.path (insD x o.at_.toNat (newD o))).getD Nd.zero
 else if o.kind = 2 then withoutD t o.path
 else if o.kind = 3 then moveD t o
 else if o.kind = 4 then (t.put o.path (attrT x o)).getD Nd.zero
 else if o.kind = 5 then (t.put o.path (labT x o.label)).getD Nd.zero
 else (t.put o.path (txtT x (apS x.text o.pcs))).getD Nd.zero
def applyD (t : Nd) (o : OpD) : Nd × Int := if validD t o = 0 then (doD t o, 0) else (Nd.zero, validD t o)
/-- All of a list, one by one: the tree, how many, and why it stopped. -/
def allGo (t : Nd) : Nat → List OpD → Nd × Nat × Int
 | n, [] => (t, n, 0)
 | n, o :: r => if validD t o = 0 then allGo (doD t o) (n + 1) r else (Nd.zero, n, validD t o)
def allD (t : Nd) (l : List OpD) : Nd × Nat × Int := if t.right = false then (Nd.zero, 0, 2) else allGo t 0 l
end Go.Proofs.Ytkimbpeapolcbaa.Sy
namespace Go.Proofs.Ytkimbpeapolcbaa.Sy
open Go.RowKit Go.Proofs.Ytkimbpeapolcbaa.Bw Go.Proofs.Ytkimbpeapolcbaa.Bs

def kN (p : Pc) : Nat := p.keep.toNat
def dN (p : Pc) : Nat := p.drop.toNat
/-- What the document writes: texts, and what is dropped. -/
def vGo : List Pc → Nat → List ByteArray → List ByteArray
 | [], _, P => P
 | p :: r, n, P => vGo r (n + kN p + dN p) (P.set (n + kN p) p.put)
def setR : Nat → Nat → List Bool → List Bool
 | _, 0, D => D
 | i, d + 1, D => setR (i + 1) d (D.set i true)
def dGo : List Pc → Nat → List Bool → List Bool
 | [], _, D => D
 | p :: r, n, D => dGo r (n + kN p + dN p) (setR (n + kN p) (dN p) D)
theorem vGo_at {l : List Pc} {i : Nat} {p : Pc} (hp : l[i]? = some p) (n : Nat) (P : List ByteArray) : vGo (l.drop i) n P = vGo (l.drop (i + 1)) (n + kN p + dN p) (P.set (n + kN p) p.put) := by rw [drop_at hp]; rfl
theorem dGo_at {l : List Pc} {i : Nat} {p : Pc} (hp : l[i]? = some p) (n : Nat) (D : List Bool) : dGo (l.drop i) n D = dGo (l.drop (i + 1)) (n + kN p + dN p) (setR (n + kN p) (dN p) D) := by rw [drop_at hp]; rfl
theorem vGo_len : ∀ (l : List Pc) (n : Nat) (P : List ByteArray), (vGo l n P).length = P.length
 | [], _, _ => rfl
 | p :: r, n, P => by
  show (vGo r _ (P.set _ _)).length = _
  rw [vGo_len r]; simp
theorem setR_len : ∀ (d i : Nat) (D : List Bool), (setR i d D).length = D.length
 | 0, _, _ => rfl
 | d + 1, i, D => by
  show (setR (i + 1) d (D.set i true)).length = _
  rw [setR_len d]; simp
theorem dGo_len : ∀ (l : List Pc) (n : Nat) (D : List Bool), (dGo l n D).length = D.length
 | [], _, _ => rfl
 | p :: r, n, D => by
  show (dGo r _ (setR _ _ D)).length = _
  rw [dGo_len r, setR_len]
def inP : List Pc → Nat → Nat → Bool
 | [], _, _ => false
 | p :: r, n, i => decide (i = n + kN p) || inP r (n + kN p + dN p) i
def putF : List Pc → Nat → Nat → ByteArray
 | [], _, _ => ⟨#[]⟩
 | p :: r, n, i => if i = n + kN p then p.put else putF r (n + kN p + dN p) i
def dropF : List Pc → Nat → Nat → Bool
 | [], _, _ => false
 | p :: r, n, i => decide (n + kN p ≤ i ∧ i < n + kN p + dN p) || dropF r (n + kN p + dN p) i
def AK (l : List Pc) : Prop := ∀ x ∈ l, 0 < x.keep
theorem AK.tail {p : Pc} {r : List Pc} (h : AK (p :: r)) : AK r := fun x hx => h x (List.mem_cons_of_mem _ hx)
theorem AK.head {p : Pc} {r : List Pc} (h : AK (p :: r)) : 0 < kN p := by
 have := h p List.mem_cons_self
 unfold kN; omega
theorem at_none : ∀ {l : List Pc} {n i : Nat}, AK l → i ≤ n → inP l n i = false ∧ putF l n i = ⟨#[]⟩ ∧ dropF l n i = false
 | [], _, _, _, _ => ⟨rfl, rfl, rfl⟩
 | p :: r, n, i, h, hi => by
  obtain ⟨a, b, c⟩ := at_none (l := r) (n := n + kN p + dN p) (i := i) h.tail (by omega)
  have := h.head
  refine ⟨?_, ?_, ?_⟩
  ·show (decide _ || inP r _ i) = false
   rw [a, decide_eq_false (by omega)]; rfl
  ·show (if _ then _ else putF r _ i) = _
   rw [if_neg (by omega), b]
  ·show (decide _ || dropF r _ i) = false
   rw [c, decide_eq_false (by omega)]; rfl
theorem shift : ∀ (l : List Pc) (n i : Nat), putF l (n + 1) (i + 1) = putF l n i ∧ dropF l (n + 1) (i + 1) = dropF l n i
 | [], _, _ => ⟨rfl, rfl⟩
 | p :: r, n, i => by
  obtain ⟨a, b⟩ := shift r (n + kN p + dN p) i
  have e : n + 1 + kN p + dN p = n + kN p + dN p + 1 := by omega
  constructor
  ·show (if i + 1 = n + 1 + kN p then p.put else putF r (n + 1 + kN p + dN p) (i + 1)) = (if i = n + kN p then p.put else putF r (n + kN p + dN p) i)
   rw [e, a]
   by_cases h : i = n + kN p
   ·rw [if_pos h, if_pos (by omega)]
   ·rw [if_neg h, if_neg (by omega)]
  ·show (decide (n + 1 + kN p ≤ i + 1 ∧ i + 1 < n + 1 + kN p + dN p) || dropF r (n + 1 + kN p + dN p) (i + 1)) = (decide (n + kN p ≤ i ∧ i < n + kN p + dN p) || dropF r (n + kN p + dN p) i)
   rw [e, b]
   congr 1
   exact decide_eq_decide.2 (by omega)
theorem vGo_get : ∀ {l : List Pc} {n : Nat} {P : List ByteArray} {i : Nat}, NR l → i < P.length → (vGo l n P)[i]? = if inP l n i then some (putF l n i) else P[i]?
 | [], _, _, _, _, _ => rfl
 | p :: r, n, P, i, h, hi => by
  have hr : NR r := h.tail
  have ha : AK r := h
  show (vGo r (n + kN p + dN p) (P.set (n + kN p) p.put))[i]? = _
  rw [vGo_get (n := n + kN p + dN p) hr (by simpa using hi)]
  show _ = if (decide (i = n + kN p) || inP r (n + kN p + dN p) i) then some (if i = n + kN p then p.put else putF r (n + kN p + dN p) i) else P[i]?
  by_cases he : i = n + kN p
  ·obtain ⟨a, b, c⟩ := at_none (n := n + kN p + dN p) (i := i) ha (by omega)
   rw [a]
   subst he
   simp [hi]
  ·simp only [he, decide_false, Bool.false_or, if_false]
   split
   ·rfl
   ·rw [List.getElem?_set_ne (Ne.symm he)]
theorem setR_get : ∀ (d j : Nat) (D : List Bool) (i : Nat), (setR j d D)[i]? = (D[i]?).map (fun b => decide (j ≤ i ∧ i < j + d) || b)
 | 0, j, D, i => by
  show D[i]? = _
  rw [decide_eq_false (by omega)]
  simp
 | d + 1, j, D, i => by
  show (setR (j + 1) d (D.set j true))[i]? = _
  rw [setR_get d]
  by_cases h : i = j
  ·subst h
   by_cases hl : i < D.length
   ·simp [hl]
   ·simp [hl]
  ·rw [List.getElem?_set_ne (Ne.symm h)]
   congr 1
   funext b
   congr 1
   exact decide_eq_decide.2 (by omega)
theorem dGo_get : ∀ (l : List Pc) (n : Nat) (D : List Bool) (i : Nat), (dGo l n D)[i]? = (D[i]?).map (fun b => dropF l n i || b)
 | [], _, D, i => by
  show D[i]? = _
  simp [dropF]
 | p :: r, n, D, i => by
  show (dGo r _ (setR _ _ D))[i]? = _
  rw [dGo_get r, setR_get, Option.map_map]
  congr 1
  funext b
  show (dropF r _ i || (decide _ || b)) = ((decide _ || dropF r _ i) || b)
  cases dropF r (n + kN p + dN p) i <;> simp
theorem inP_put : ∀ {l : List Pc} {n i : Nat}, inP l n i = false → putF l n i = ⟨#[]⟩
 | [], _, _, _ => rfl
 | p :: r, n, i, h => by
  have h' : (decide (i = n + kN p) || inP r (n + kN p + dN p) i) = false := h
  simp only [Bool.or_eq_false_iff, decide_eq_false_iff_not] at h'
  show (if _ then _ else putF r _ i) = _
  rw [if_neg h'.1, inP_put h'.2]
/-- The row, place by place. -/
theorem here_eq {l : List Pc} (hn : Nn l) (hr : NR l) : hereR l = (putF l 0 0, dropF l 0 0) := by
 cases l with
 | nil => rfl
 | cons x r =>
  obtain ⟨h1, h2⟩ := hn x List.mem_cons_self
  have ha : AK r := hr
  obtain ⟨a, b, c⟩ := at_none (n := 0 + kN x + dN x) (i := 0) ha (Nat.zero_le _)
  show (rPutS (x :: r), rD (rSkip (rPut (x :: r)))) = (if 0 = 0 + kN x then x.put else putF r _ 0, decide (0 + kN x ≤ 0 ∧ 0 < 0 + kN x + dN x) || dropF r _ 0)
  rw [b, c, Bool.or_false]
  by_cases hk : 0 < x.keep
  ·have k0 : 0 < kN x := by unfold kN; omega
   have e1 : rPut (x :: r) = x :: r := if_pos hk
   have e2 : rSkip (x :: r) = x :: r := if_pos (.inl hk)
   have e3 : rPutS (x :: r) = ⟨#[]⟩ := if_pos hk
   have e4 : rD (x :: r) = false := if_pos hk
   rw [e1, e2, e3, e4, if_neg (by omega), decide_eq_false (by omega)]
  ·have k0 : kN x = 0 := by unfold kN; omega
   have e1 : rPut (x :: r) = { x with put := ⟨#[]⟩ } :: r := if_neg hk
   have e3 : rPutS (x :: r) = x.put := if_neg hk
   rw [e1, e3, if_pos (by omega)]
   by_cases hd : 0 < x.drop
   ·have d0 : 0 < dN x := by unfold dN; omega
    have e2 : rSkip ({ x with put := ⟨#[]⟩ } :: r) = { x with put := ⟨#[]⟩ } :: r := if_pos (.inr hd)
    have e4 : rD ({ x with put := ⟨#[]⟩ } :: r) = true := if_neg hk
    rw [e2, e4, decide_eq_true (by omega)]
   ·have d0 : dN x = 0 := by unfold dN; omega
    have e2 : rSkip ({ x with put := ⟨#[]⟩ } :: r) = rSkip r := if_neg (by simp only; omega)
    rw [e2, decide_eq_false (by omega)]
    cases r with
    | nil => rfl
    | cons y t =>
     have hy := ha y List.mem_cons_self
     have e5 : rSkip (y :: t) = y :: t := if_pos (.inl hy)
     have e6 : rD (y :: t) = false := if_pos hy
     rw [e5, e6]
theorem next_eq {l : List Pc} (hn : Nn l) (hr : NR l) (i : Nat) : putF (nextR l) 0 i = putF l 0 (i + 1) ∧ dropF (nextR l) 0 i = dropF l 0 (i + 1) := by
 have keepcase : ∀ (x : Pc) (r : List Pc), 0 < x.keep → putF ({ x with keep := x.keep - 1 } :: r) 0 i = putF (x :: r) 0 (i + 1) ∧ dropF ({ x with keep := x.keep - 1 } :: r) 0 i = dropF (x :: r) 0 (i + 1) := by
  intro x r hk
  have k1 : kN { x with keep := x.keep - 1 } + 1 = kN x := by unfold kN; simp only; omega
  have d1 : dN { x with keep := x.keep - 1 } = dN x := rfl
  obtain ⟨s1, s2⟩ := shift r (kN { x with keep := x.keep - 1 } + dN x) i
  have e : kN { x with keep := x.keep - 1 } + dN x + 1 = 0 + kN x + dN x := by omega
  rw [e] at s1 s2
  constructor
  ·show (if i = 0 + kN { x with keep := x.keep - 1 } then x.put else putF r (0 + kN { x with keep := x.keep - 1 } + dN x) i) = (if i + 1 = 0 + kN x then x.put else putF r (0 + kN x + dN x) (i + 1))
   rw [s1, Nat.zero_add (kN { x with keep := x.keep - 1 })]
   by_cases h : i = kN { x with keep := x.keep - 1 }
   ·rw [if_pos h, if_pos (by omega)]
   ·rw [if_neg h, if_neg (by omega)]
  ·show (decide (0 + kN { x with keep := x.keep - 1 } ≤ i ∧ i < 0 + kN { x with keep := x.keep - 1 } + dN x) || dropF r (0 + kN { x with keep := x.keep - 1 } + dN x) i) = (decide (0 + kN x ≤ i + 1 ∧ i + 1 < 0 + kN x + dN x) || dropF r (0 + kN x + dN x) (i + 1))
   rw [s2, Nat.zero_add (kN { x with keep := x.keep - 1 })]
   congr 1
   exact decide_eq_decide.2 (by omega)
 cases l with
 | nil => exact ⟨rfl, rfl⟩
 | cons x r =>
  obtain ⟨h1, h2⟩ := hn x List.mem_cons_self
  have ha : AK r := hr
  by_cases hk : 0 < x.keep
  ·have e : nextR (x :: r) = { x with keep := x.keep - 1 } :: r := by
    unfold nextR
    rw [show rPut (x :: r) = x :: r from if_pos hk, show rSkip (x :: r) = x :: r from if_pos (.inl hk)]
    exact if_pos hk
   rw [e]
   exact keepcase x r hk
  ·have k0 : kN x = 0 := by unfold kN; omega
   have e1 : rPut (x :: r) = { x with put := ⟨#[]⟩ } :: r := if_neg hk
   by_cases hd : 0 < x.drop
   ·have e : nextR (x :: r) = { x with put := ⟨#[]⟩, drop := x.drop - 1 } :: r := by
     unfold nextR
     rw [e1, show rSkip ({ x with put := ⟨#[]⟩ } :: r) = { x with put := ⟨#[]⟩ } :: r from if_pos (.inr hd)]
     exact if_neg hk
    rw [e]
    have d1 : dN { x with put := ⟨#[]⟩, drop := x.drop - 1 } + 1 = dN x := by unfold dN; simp only; omega
    have k1 : kN { x with put := ⟨#[]⟩, drop := x.drop - 1 } = 0 := k0
    obtain ⟨s1, s2⟩ := shift r (dN { x with put := ⟨#[]⟩, drop := x.drop - 1 }) i
    have e2 : dN { x with put := ⟨#[]⟩, drop := x.drop - 1 } + 1 = 0 + 0 + dN x := by omega
    rw [e2] at s1 s2
    constructor
    ·show (if i = 0 + kN { x with put := ⟨#[]⟩, drop := x.drop - 1 } then (⟨#[]⟩ : ByteArray) else putF r (0 + kN { x with put := ⟨#[]⟩, drop := x.drop - 1 } + dN { x with put := ⟨#[]⟩, drop := x.drop - 1 }) i) = (if i + 1 = 0 + kN x then x.put else putF r (0 + kN x + dN x) (i + 1))
     rw [k1, k0, s1, if_neg (show ¬ (i + 1 = 0 + 0) by omega), Nat.zero_add, Nat.zero_add]
     by_cases h : i = 0
     ·rw [if_pos h]
      obtain ⟨_, b, _⟩ := at_none (n := dN { x with put := ⟨#[]⟩, drop := x.drop - 1 }) (i := i) ha (by omega)
      exact b.symm
     ·rw [if_neg h]
    ·show (decide (0 + kN { x with put := ⟨#[]⟩, drop := x.drop - 1 } ≤ i ∧ i < 0 + kN { x with put := ⟨#[]⟩, drop := x.drop - 1 } + dN { x with put := ⟨#[]⟩, drop := x.drop - 1 }) || dropF r (0 + kN { x with put := ⟨#[]⟩, drop := x.drop - 1 } + dN { x with put := ⟨#[]⟩, drop := x.drop - 1 }) i) = (decide (0 + kN x ≤ i + 1 ∧ i + 1 < 0 + kN x + dN x) || dropF r (0 + kN x + dN x) (i + 1))
     rw [k1, k0, s2, Nat.zero_add, Nat.zero_add]
     congr 1
     exact decide_eq_decide.2 (by omega)
   ·have d0 : dN x = 0 := by unfold dN; omega
    have e2 : rSkip ({ x with put := ⟨#[]⟩ } :: r) = rSkip r := if_neg (by simp only; omega)
    have hR : putF (x :: r) 0 (i + 1) = putF r 0 (i + 1) ∧ dropF (x :: r) 0 (i + 1) = dropF r 0 (i + 1) := by
     constructor
     ·show (if i + 1 = 0 + kN x then x.put else putF r (0 + kN x + dN x) (i + 1)) = _
      rw [k0, d0, if_neg (by omega)]
     ·show (decide (0 + kN x ≤ i + 1 ∧ i + 1 < 0 + kN x + dN x) || dropF r (0 + kN x + dN x) (i + 1)) = _
      rw [k0, d0, decide_eq_false (by omega), Bool.false_or]
    rw [hR.1, hR.2]
    cases r with
    | nil =>
     have e : nextR (x :: []) = [] := by
      unfold nextR
      rw [e1, e2]; rfl
     rw [e]
     exact ⟨rfl, rfl⟩
    | cons y t =>
     have hy := ha y List.mem_cons_self
     have e : nextR (x :: y :: t) = { y with keep := y.keep - 1 } :: t := by
      unfold nextR
      rw [e1, e2, show rSkip (y :: t) = y :: t from if_pos (.inl hy)]
      exact if_pos hy
     rw [e]
     exact keepcase y t hy
theorem next_nn {l : List Pc} (hn : Nn l) : Nn (nextR l) := by
 unfold nextR
 refine hn.put.skip.take (fun h => ?_)
 have := rN_skip_pos h
 omega
theorem vwF_len : ∀ (N : Nat) (l : List Pc), (vwF l N).length = N + 1
 | 0, _ => rfl
 | N + 1, l => by show (vwF (nextR l) N).length + 1 = _; rw [vwF_len N]
theorem vwF_get : ∀ (N : Nat) {l : List Pc} {i : Nat}, Nn l → NR l → i ≤ N → (vwF l N)[i]? = some (putF l 0 i, dropF l 0 i)
 | 0, l, i, hn, hr, hi => by
  obtain rfl : i = 0 := by omega
  show some (hereR l) = _
  rw [here_eq hn hr]
 | N + 1, l, 0, hn, hr, _ => by
  show some (hereR l) = _
  rw [here_eq hn hr]
 | N + 1, l, i + 1, hn, hr, hi => by
  show (vwF (nextR l) N)[i]? = _
  rw [vwF_get N (next_nn hn) hr.put.skip.take (by omega), (next_eq hn hr i).1, (next_eq hn hr i).2]
theorem vwF_puts {l : List Pc} (hn : Nn l) (hr : NR l) (N : Nat) : (vwF l N).map Prod.fst = vGo l 0 (List.replicate (N + 1) ⟨#[]⟩) := by
 apply List.ext_getElem?
 intro i
 rw [List.getElem?_map]
 rcases Nat.lt_or_ge N i with h | h
 ·rw [List.getElem?_eq_none (by rw [vwF_len]; omega), List.getElem?_eq_none (by rw [vGo_len, List.length_replicate]; omega)]
  rfl
 ·rw [vwF_get N hn hr h, vGo_get hr (by rw [List.length_replicate]; omega)]
  cases hi : inP l 0 i with
  | true => rfl
  | false =>
   rw [inP_put hi]
   simp only [Bool.false_eq_true, if_false, Option.map_some]
   rw [List.getElem?_replicate, if_pos (by omega)]
theorem vwF_drops {l : List Pc} (hn : Nn l) (hr : NR l) (N : Nat) : (vwF l N).map Prod.snd = dGo l 0 (List.replicate (N + 1) false) := by
 apply List.ext_getElem?
 intro i
 rw [List.getElem?_map, dGo_get]
 rcases Nat.lt_or_ge N i with h | h
 ·rw [List.getElem?_eq_none (by rw [vwF_len]; omega), List.getElem?_eq_none (by rw [List.length_replicate]; omega)]
  rfl
 ·rw [vwF_get N hn hr h, List.getElem?_replicate, if_pos (by omega)]
  simp
end Go.Proofs.Ytkimbpeapolcbaa.Sy
