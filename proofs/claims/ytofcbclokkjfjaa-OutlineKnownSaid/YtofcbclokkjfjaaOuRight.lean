/- Chapter 24: a contract of chapter 06 turned to this seat (BwRange). -/
import Derived.Test.YtofcbclokkjfjaaOuNodes
import Derived.BigQuiet
import Derived.Deep.QuietTactic
import Derived.WalkLawsBesides
namespace Go.Proofs.Ytofcbclokkjfjaa.Bw
open Go.RowKit Go.Shelf
attribute [local go_sem] Oper.semAt_some

mutual
theorem Nd.pre_len : ∀ (t : Nd) (d : Int), (t.pre d).length = t.cnt
 | .mk _ _ _ _ _ ks, d => by rw [Nd.pre, Nd.cnt, List.length_cons, preK_len ks (d + 1)]; omega
theorem preK_len : ∀ (l : List Nd) (d : Int), (preK l d).length = cntK l
 | [], d => by rw [preK, cntK]; rfl
 | k :: r, d => by rw [preK, cntK, List.length_append, Nd.pre_len k d, preK_len r d]
end

/-- THE LOOP 'for .. := range nodes(n)', in a function that begins in the world w₀. -/
theorem range_nodes {F : Fence} (hd : F.depth = none) (h44 : F.fn 70) (h45 : F.fn 71) (hro : F.round = none) {n : Nat} (hn : 1 ≤ n) {g : Operand} {p0 p1 : Tmp} {assign body : Code} {Q : Exit → Act → World → Prop} {a : Act} {w w₀ : World}
  {Bn : Nat} {t : Nd} {v : Value} (hg : a.eval g = .func (.func 70) #[] #[.pointer (some ⟨Bn, 0, none⟩)]) (hr : t.rd w₀ v) (hE : Ext w₀ w) (hB : w.heap[Bn]? = some (.cells v.cells 26 (0, 0))) (hc : t.wt ≤ 1000000)
  (Φ : List (El w₀) → World → Prop) (Φx : Code → List (El w₀) → World → Prop) (hΦ : Own Φ) (hΦx : ∀ c, Own (Φx c)) (h0 : Φ [] w) (Ax : Int → Nd → Value → Act → World → Prop) (hAx : ∀ d k vk a', Own (fun (_ : Unit) W => Ax d k vk a' W))
  (hassign : ∀ (l : Nat) (pre : List (El w₀)) (d : Int) (k : Nd) (vk : Value) (W : World) (K : Act → World → Prop), k.rd w₀ vk → Φ pre W → Ext w₀ W → (∀ a' W', Keep2 w₀.heap.size 26 W W' → Φ pre W' → Ax d k vk a' W' → K a' W') →
   assign.wpIn (F.inRound l) (n - 1 - 1) Try.prog (Exit.then K (fun _ _ _ => False)) { tmps := (a.tmps.setIfInBounds p0 (.int .i64 d)).setIfInBounds p1 vk, defers := [] } W)
  (hbody : ∀ (l : Nat) (pre : List (El w₀)) (d : Int) (k : Nd) (vk : Value) (hk : k.rd w₀ vk) (hkw : k.wt ≤ 1000000) (a' : Act) (W : World), Φ pre W → Ext w₀ W → Ax d k vk a' W → pre.length < t.cnt →
   body.wpIn (F.inRound l) (n - 1 - 1) Try.prog (fun e _ W' => match e with
    | .normal => Keep2 w₀.heap.size 26 W W' ∧ Φ (pre ++ [El.of d k vk hk hkw]) W'
    | .ret => Keep2 w₀.heap.size 26 W W' ∧ Φx .ret (pre ++ [El.of d k vk hk hkw]) W'
    | .exit id => Keep2 w₀.heap.size 26 W W' ∧ Φx (.exit id) (pre ++ [El.of d k vk hk hkw]) W'
    | _ => False) a' W)
  (hdone : ∀ (D : Nat) (xs : List (El w₀)) (W : World), w.heap.size ≤ D → keys xs = t.pre 0 → Φ xs W → Ext w₀ W → W.heap[D]? = some (.deferred (some [])) → Q .normal { a with defers := { target := .collected D, args := #[] } :: a.defers } W)
  (hstop : ∀ (D : Nat) (c : Code) (q : List (El w₀)) (W : World), w.heap.size ≤ D → keys q <+: t.pre 0 → Φx c q W → Ext w₀ W → W.heap[D]? = some (.deferred (some [])) → c.wpIn F n Try.prog Q { a with defers := { target := .collected D, args := #[] } :: a.defers } W) :
  (Code.rangeFunc g #[p0, p1] assign body).wpIn F n Try.prog Q a w := by
 refine wpIn_rangeFunc_ownH hro hn hg h44 (enters_of Try.func70 (by kernel_rfl) rfl) (nodes1_stops F hd h44 h45 hro (n - 1) w₀ t v Bn w hr hE hB hc) (fun h k => h.trans k) (fun W l o o' hl ho hc _ => KeepT.putObj (Nat.le_trans hE.size hl) ho hc) (Below.refl _ _) (fun x => rfl)
  (fun pre W => Φ pre W ∧ Ext w₀ W) (fun c pre W => Φx c pre W ∧ Ext w₀ W) ((Own.from hΦ _).and (ownFrom_below (Nat.le_refl _) hE.size)) (fun c => (Own.from (hΦx c) _).and (ownFrom_below (Nat.le_refl _) hE.size)) ⟨h0, hE⟩ (fun x => Ax x.1.1 x.1.2.1 x.1.2.2) (fun x a' => Own.from (hAx _ _ _ a') _) ?_ ?_ ?_ ?_
 ·intro l pre x W K ⟨hp, hEW⟩ hK
  have hz : (#[p0, p1].zip x.args).foldl (fun t (p, v) => t.setIfInBounds p v) a.tmps = (a.tmps.setIfInBounds p0 (.int .i64 x.1.1)).setIfInBounds p1 x.1.2.2 := by simp [El.args]
  rw [hz]
  exact hassign l pre x.1.1 x.1.2.1 x.1.2.2 W K x.2.1 hp hEW (fun a' W' hk hp' hax => hK a' W' (hk.o.from _) hk.t ⟨hp', hEW.trans' (Below.mono hk.t.1 (Nat.le_refl _))⟩ hax)
 ·rintro l pre x a' W _ _ ⟨hp, hEW⟩ hax hlen
  refine wpIn_mono (hbody l pre x.1.1 x.1.2.1 x.1.2.2 x.2.1 x.2.2 a' W hp hEW hax (by rw [← Nd.pre_len t 0]; exact hlen)) ?_
  intro e _ W' h
  cases e with
  | normal => exact ⟨h.1.o.from _, h.1.t, h.2, hEW.trans' h.1.t.1⟩
  | ret => exact ⟨h.1.o.from _, h.2, hEW.trans' h.1.t.1⟩
  | exit id => exact ⟨h.1.o.from _, h.2, hEW.trans' h.1.t.1⟩
  | goto _ => exact h.elim
  | panic _ => exact h.elim
  | outgrown => exact h.elim
 ·rintro D xs W hD hS ⟨hp, hEW⟩ hk
  exact hdone D xs W hD hS hp hEW hk
 ·rintro D c q W hD hS ⟨hp, hEW⟩ hk
  exact hstop D c q W hD hS hp hEW hk

theorem Boxed.new2 (W : World) (o : Obj) (t : TypeId) (v : Value) : Boxed ((W.alloc o).alloc (.cells #[v] t)) (W.heap.size + 1) t v := by
 have := Boxed.new (W.alloc o) t v
 rwa [World.size_alloc] at this

/-- Behind the function's return the block for the rounds' deferred calls is shut. -/
theorem Ext.putObj {w W : World} (h : Ext w W) {D : Nat} (hD : w.heap.size ≤ D) (o : Obj) : Ext w (W.putObj D o) :=
 h.trans' ⟨rfl, rfl, rfl, (grownBy_putObj' W D o).size, fun k hk => (grownBy_putObj' W D o).block k (Nat.lt_of_lt_of_le hk h.size) (fun e => by cases e; omega)⟩
end Go.Proofs.Ytofcbclokkjfjaa.Bw
namespace Go.Proofs.Ytofcbclokkjfjaa.Bw
open Go.RowKit

/-! ### Depth -/
mutual
def Nd.dep : Nd → Nat
 | .mk _ _ _ _ _ ks => depK ks
def depK : List Nd → Nat
 | [] => 0
 | k :: r => max (1 + k.dep) (depK r)
end

/-! ### The most text -/
def lenA : List (ByteArray × ByteArray) → Nat
 | [] => 0
 | (k, v) :: r => k.size + v.size + lenA r
def Nd.own (t : Nd) : Nat := t.text.size + lenA t.attrs
mutual
def Nd.lng : Nd → Nat
 | .mk _ _ _ ats tx ks => max (tx.size + lenA ats) (lngK ks)
def lngK : List Nd → Nat
 | [] => 0
 | k :: r => max k.lng (lngK r)
end
def maxL : List (Int × Nd) → Nat
 | [] => 0
 | x :: r => max x.2.own (maxL r)
theorem maxL_append : ∀ a b, maxL (a ++ b) = max (maxL a) (maxL b)
 | [], b => by simp [maxL]
 | x :: r, b => by simp only [List.cons_append, maxL, maxL_append r b]; omega
mutual
theorem Nd.maxL_pre : ∀ (t : Nd) (d : Int), maxL (t.pre d) = t.lng
 | .mk _ _ _ _ _ ks, d => by rw [Nd.pre, maxL, preK_maxL ks (d + 1), Nd.lng]; rfl
theorem preK_maxL : ∀ (l : List Nd) (d : Int), maxL (preK l d) = lngK l
 | [], d => by rw [preK, maxL, lngK]
 | k :: r, d => by rw [preK, maxL_append, Nd.maxL_pre k d, preK_maxL r d, lngK]
end

theorem lenA_wt : ∀ l, lenA l ≤ wtA l
 | [] => Nat.le_refl _
 | (k, v) :: r => by have := lenA_wt r; simp only [lenA, wtA]; omega
mutual
theorem Nd.lng_wt : ∀ t : Nd, t.lng ≤ t.wt
 | .mk _ _ _ ats _ ks => by have := lngK_wt ks; have := lenA_wt ats; rw [Nd.lng, Nd.wt]; omega
theorem lngK_wt : ∀ l : List Nd, lngK l ≤ wtK l
 | [] => by rw [lngK, wtK]; exact Nat.le_refl _
 | k :: r => by have := Nd.lng_wt k; have := lngK_wt r; rw [lngK, wtK]; omega
end

/-! ### Identities -/

/-! ### Right trees -/
def keyOk (s : ByteArray) : Bool := decide (1 ≤ s.size ∧ s.size ≤ 64)
def strLe (a b : ByteArray) : Bool := Op.bytesLess a.toList b.toList || a.toList == b.toList
def attrsOk : Option ByteArray → List (ByteArray × ByteArray) → Bool
 | _, [] => true
 | p, (k, v) :: r => keyOk k && decide (v.size ≤ 256) && (match p with | none => true | some q => !strLe k q) && attrsOk (some k) r
def Nd.shape (t : Nd) : Bool := decide (t.label.size ≤ 64) && !(t.leaf && decide (0 < t.kids.length)) && !(!t.leaf && decide (0 < t.text.size))
def Nd.right1 (t : Nd) : Bool := t.shape && attrsOk none t.attrs
mutual
def Nd.rightAll : Nd → Bool
 | .mk i lf lb ats tx ks => (Nd.mk i lf lb ats tx ks).right1 && rightK ks
def rightK : List Nd → Bool
 | [] => true
 | k :: r => k.rightAll && rightK r
end
theorem Nd.rightAll_eq (t : Nd) : t.rightAll = (t.right1 && rightK t.kids) := by cases t; rw [Nd.rightAll]; rfl
mutual
theorem Nd.right_pre : ∀ (t : Nd) (d : Int), (t.pre d).all (fun x => x.2.right1) = t.rightAll
 | .mk _ _ _ _ _ ks, d => by rw [Nd.pre, List.all_cons, preK_right ks (d + 1), Nd.rightAll]
theorem preK_right : ∀ (l : List Nd) (d : Int), (preK l d).all (fun x => x.2.right1) = rightK l
 | [], d => by rw [preK, rightK]; rfl
 | k :: r, d => by rw [preK, List.all_append, Nd.right_pre k d, preK_right r d, rightK]
end
def Nd.right (t : Nd) : Bool := !t.leaf && t.rightAll

/-! ### Same trees -/
def sameA (a b : List (ByteArray × ByteArray)) : Bool := decide (a = b)
mutual
def Nd.same (i : Bool) : Nd → Nd → Bool
 | .mk id lf lb ats tx ks, b => (!i || decide (id = b.id)) && decide (lf = b.leaf) && decide (lb = b.label) && decide (tx = b.text) && sameA ats b.attrs && sameK i ks b.kids
def sameK (i : Bool) : List Nd → List Nd → Bool
 | [], [] => true
 | x :: r, y :: s => x.same i y && sameK i r s
 | _, _ => false
end
theorem Nd.same_eq (i : Bool) (a b : Nd) : a.same i b = ((!i || decide (a.id = b.id)) && decide (a.leaf = b.leaf) && decide (a.label = b.label) && decide (a.text = b.text) && sameA a.attrs b.attrs && sameK i a.kids b.kids) := by
 cases a; rw [Nd.same]; rfl
mutual
theorem Nd.same_refl (i : Bool) : ∀ a : Nd, a.same i a = true
 | .mk _ _ _ _ _ ks => by rw [Nd.same_eq]; simp [Nd.kids, sameK_refl i ks, sameA]
theorem sameK_refl (i : Bool) : ∀ l : List Nd, sameK i l l = true
 | [] => by rw [sameK]
 | k :: r => by rw [sameK, Nd.same_refl i k, sameK_refl i r]; rfl
end
mutual
theorem Nd.same_true : ∀ (a b : Nd), a.same true b = true → a = b
 | .mk i1 l1 b1 a1 t1 k1, .mk i2 l2 b2 a2 t2 k2, h => by
  rw [Nd.same_eq] at h
  simp [Nd.id, Nd.leaf, Nd.label, Nd.text, Nd.attrs, Nd.kids, sameA] at h
  obtain ⟨⟨⟨⟨⟨h0, h1⟩, h2⟩, h3⟩, h4⟩, hk⟩ := h
  obtain rfl := of_decide_eq_true h0
  obtain rfl := of_decide_eq_true h1
  obtain rfl := of_decide_eq_true h2
  obtain rfl := of_decide_eq_true h3
  obtain rfl := of_decide_eq_true h4
  rw [sameK_true k1 k2 hk]
theorem sameK_true : ∀ (a b : List Nd), sameK true a b = true → a = b
 | [], [], _ => rfl
 | [], _ :: _, h => by simp [sameK] at h
 | _ :: _, [], h => by simp [sameK] at h
 | x :: r, y :: s, h => by
  rw [sameK, Bool.and_eq_true] at h
  rw [Nd.same_true x y h.1, sameK_true r s h.2]
end
theorem Nd.same_iff (a b : Nd) : a.same true b = true ↔ a = b := ⟨Nd.same_true a b, fun h => by rw [h]; exact Nd.same_refl _ _⟩
theorem sameK_len (i : Bool) : ∀ (a b : List Nd), a.length ≠ b.length → sameK i a b = false
 | [], [], h => absurd rfl h
 | [], _ :: _, _ => by simp [sameK]
 | _ :: _, [], _ => by simp [sameK]
 | x :: r, y :: s, h => by rw [sameK, sameK_len i r s (by simpa using h), Bool.and_false]

/-! ### Paths -/
def Nd.at? : Nd → List Int → Option Nd
 | t, [] => some t
 | t, i :: p => if i < 0 ∨ (t.kids.length : Int) ≤ i then none else match t.kids[i.toNat]? with | some k => k.at? p | none => none
def Nd.withKids (t : Nd) (ks : List Nd) : Nd := .mk t.id t.leaf t.label t.attrs t.text ks
def Nd.put : Nd → List Int → Nd → Option Nd
 | _, [], x => some x
 | t, i :: p, x => if i < 0 ∨ (t.kids.length : Int) ≤ i then none else match t.kids[i.toNat]? with
  | some k => match k.put p x with
   | some k' => some (t.withKids (t.kids.set i.toNat k'))
   | none => none
  | none => none
def Nd.zero : Nd := .mk 0 false ByteArray.empty [] ByteArray.empty []

/-! ### Attributes -/
end Go.Proofs.Ytofcbclokkjfjaa.Bw
namespace Go.Proofs.Ytofcbclokkjfjaa.Bw
open Go.RowKit Go.Shelf
attribute [local go_sem] Oper.semAt_some

/-- A block that holds a struct's cells. -/
def NBox (W : World) (B : Nat) (t : TypeId) (cs : Array Value) : Prop := W.heap[B]? = some (.cells cs t (0, 0))
theorem NBox.new (W : World) (t : TypeId) (cs : Array Value) : NBox (W.alloc (.cells cs t)) W.heap.size t cs := World.alloc_heap_new W _
theorem NBox.cell {W : World} {B : Nat} {t : TypeId} {cs : Array Value} (h : NBox W B t cs) (i : Nat) : W.cell? ⟨B, i, none⟩ = cs[i]? := cell_of_blk h
theorem NBox.c6 {W : World} {B : Nat} {t : TypeId} {x0 x1 x2 x3 x4 x5 : Value} (h : NBox W B t #[x0, x1, x2, x3, x4, x5]) : W.cell? ⟨B, 0, none⟩ = some x0 ∧ W.cell? ⟨B, 1, none⟩ = some x1 ∧ W.cell? ⟨B, 2, none⟩ = some x2 ∧ W.cell? ⟨B, 3, none⟩ = some x3 ∧ W.cell? ⟨B, 4, none⟩ = some x4 ∧ W.cell? ⟨B, 5, none⟩ = some x5 := ⟨h.cell 0, h.cell 1, h.cell 2, h.cell 3, h.cell 4, h.cell 5⟩
theorem NBox.c11 {W : World} {B : Nat} {t : TypeId} {x0 x1 x2 x3 x4 x5 x6 x7 x8 x9 x10 : Value} (h : NBox W B t #[x0, x1, x2, x3, x4, x5, x6, x7, x8, x9, x10]) : W.cell? ⟨B, 0, none⟩ = some x0 ∧ W.cell? ⟨B, 1, none⟩ = some x1 ∧ W.cell? ⟨B, 2, none⟩ = some x2 ∧ W.cell? ⟨B, 3, none⟩ = some x3 ∧ W.cell? ⟨B, 4, none⟩ = some x4 ∧ W.cell? ⟨B, 5, none⟩ = some x5 ∧ W.cell? ⟨B, 6, none⟩ = some x6 ∧ W.cell? ⟨B, 7, none⟩ = some x7 ∧ W.cell? ⟨B, 8, none⟩ = some x8 ∧ W.cell? ⟨B, 9, none⟩ = some x9 ∧ W.cell? ⟨B, 10, none⟩ = some x10 := ⟨h.cell 0, h.cell 1, h.cell 2, h.cell 3, h.cell 4, h.cell 5, h.cell 6, h.cell 7, h.cell 8, h.cell 9, h.cell 10⟩
theorem NBox.ext {W W' : World} (he : Ext W W') {B : Nat} {t : TypeId} {cs : Array Value} (h : NBox W B t cs) : NBox W' B t cs := (he.block B (Array.getElem?_eq_some_iff.1 h).1).trans h
theorem NBox.own {β : Type} {B : Nat} {t : TypeId} {cs : Array Value} (p : β → Prop) : Own (fun (s : β) W => p s ∧ NBox W B t cs) := fun s X Y row hs hg hr =>
 ⟨hs.1, (hg.block B (Array.getElem?_eq_some_iff.1 hs.2).1 (fun e => by obtain ⟨o, ho, hc⟩ := hr B e.symm; rw [show X.heap[B]? = _ from hs.2] at ho; cases ho; cases hc)).trans hs.2⟩
theorem Boxed.ext {W W' : World} (he : Ext W W') {B : Nat} {t : TypeId} {v : Value} (h : Boxed W B t v) : Boxed W' B t v := (he.block B h.lt).trans h


theorem nodes_w (n : Nat) (W : World) (t : Nd) (v : Value) (hr : t.rd W v) :
  CallsIn Fence.wide n Try.prog 60 #[v] W fun e w' => e = .returned (.func (.func 70) #[] #[.pointer (some ⟨W.heap.size, 0, none⟩)]) ∧ w' = W.alloc (.cells v.cells 26) := callsIn_wide.2 (nodes_any v W t hr)

end Go.Proofs.Ytofcbclokkjfjaa.Bw
namespace Go.Proofs.Ytofcbclokkjfjaa.Bw
open Go.RowKit

/-! ### Keys -/
set_option maxHeartbeats 400000 in
theorem key_any (s : ByteArray) (w : World) (hs : s.size ≤ maxLen) : Calls Try.prog 72 #[.string s] w fun e w' => e = .returned (.bool (keyOk s)) ∧ w' = w := by
 unfold maxLen at hs
 rcases Nat.eq_zero_or_pos s.size with h0 | h0
 ·have hl := str_empty h0
  have hk : Hid (keyOk s = false) := by simp only [Hid, keyOk]; exact decide_eq_false (by omega)
  go_enter Try.func72, Try.ntmps72
  go_wp2_with fail
  go_ret
  exact ⟨by rw [hk.out]; rfl, rfl⟩
 ·have hl := str_some h0
  rcases Nat.lt_or_ge 64 s.size with h1 | h1
  ·have hk : Hid (keyOk s = false) := by simp only [Hid, keyOk]; exact decide_eq_false (by omega)
   go_enter Try.func72, Try.ntmps72
   go_wp2_with fail
   go_ret
   exact ⟨by rw [hk.out]; simp; omega, rfl⟩
  ·have hk : Hid (keyOk s = true) := by simp only [Hid, keyOk]; exact decide_eq_true (by omega)
   go_enter Try.func72, Try.ntmps72
   go_wp2_with fail
   go_ret
   exact ⟨by rw [hk.out]; simp; omega, rfl⟩
set_option maxHeartbeats 400000 in
theorem rkey_any (s : ByteArray) (w : World) (hs : s.size ≤ maxLen) : Calls Try.prog 62 #[.string s] w fun e w' => e = .returned (.bool (keyOk s)) ∧ w' = w := by
 unfold maxLen at hs
 rcases Nat.eq_zero_or_pos s.size with h0 | h0
 ·have hk : Hid (keyOk s = false) := by simp only [Hid, keyOk]; exact decide_eq_false (by omega)
  have hd : decide ((1 : Int) ≤ s.size) = false := by simp; omega
  go_enter Try.func62, Try.ntmps62
  go_wp2_with fail
  go_ret
  exact ⟨by rw [hk.out]; rfl, rfl⟩
 ·rcases Nat.lt_or_ge 64 s.size with h1 | h1
  ·have hk : Hid (keyOk s = false) := by simp only [Hid, keyOk]; exact decide_eq_false (by omega)
   go_enter Try.func62, Try.ntmps62
   go_wp2_with fail
   go_ret
   exact ⟨by rw [hk.out]; simp; omega, rfl⟩
  ·have hk : Hid (keyOk s = true) := by simp only [Hid, keyOk]; exact decide_eq_true (by omega)
   go_enter Try.func62, Try.ntmps62
   go_wp2_with fail
   go_ret
   exact ⟨by rw [hk.out]; simp; omega, rfl⟩

end Go.Proofs.Ytofcbclokkjfjaa.Bw
namespace Go.Proofs.Ytofcbclokkjfjaa.Bw
open Go.RowKit Go.Shelf

theorem key_yes (s : ByteArray) (w : World) (hs : s.size ≤ maxLen) (h : keyOk s = true) : Calls Try.prog 72 #[.string s] w fun e w' => e = .returned (.bool true) ∧ w' = w := by
 have := key_any s w hs; rwa [h] at this
theorem key_no (s : ByteArray) (w : World) (hs : s.size ≤ maxLen) (h : keyOk s = false) : Calls Try.prog 72 #[.string s] w fun e w' => e = .returned (.bool false) ∧ w' = w := by
 have := key_any s w hs; rwa [h] at this
theorem rkey_yes (s : ByteArray) (w : World) (hs : s.size ≤ maxLen) (h : keyOk s = true) : Calls Try.prog 62 #[.string s] w fun e w' => e = .returned (.bool true) ∧ w' = w := by
 have := rkey_any s w hs; rwa [h] at this
theorem rkey_no (s : ByteArray) (w : World) (hs : s.size ≤ maxLen) (h : keyOk s = false) : Calls Try.prog 62 #[.string s] w fun e w' => e = .returned (.bool false) ∧ w' = w := by
 have := rkey_any s w hs; rwa [h] at this

/-- The key ahead of place i. -/
def prevK (l : List (ByteArray × ByteArray)) : Nat → Option ByteArray
 | 0 => none
 | i + 1 => (l[i]?).map (·.1)

theorem Nd.right1_mk (id : Int) (lf : Bool) (lb tx : ByteArray) (ats : List (ByteArray × ByteArray)) (ks : List Nd) :
  (Nd.mk id lf lb ats tx ks).right1 = (decide (lb.size ≤ 64) && !(lf && decide (0 < ks.length)) && !(!lf && decide (0 < tx.size)) && attrsOk none ats) := rfl
theorem Nd.shape_a {id : Int} {lf : Bool} {lb tx : ByteArray} {ats : List (ByteArray × ByteArray)} {ks : List Nd} (h : 64 < lb.size) : (Nd.mk id lf lb ats tx ks).right1 = false := by
 rw [Nd.right1_mk, decide_eq_false (by omega)]; rfl
theorem Nd.shape_b {id : Int} {lb tx : ByteArray} {ats : List (ByteArray × ByteArray)} {ks : List Nd} (h : 0 < ks.length) : (Nd.mk id true lb ats tx ks).right1 = false := by
 rw [Nd.right1_mk, decide_eq_true h]; simp
theorem Nd.shape_c {id : Int} {lb tx : ByteArray} {ats : List (ByteArray × ByteArray)} {ks : List Nd} (h : 0 < tx.size) : (Nd.mk id false lb ats tx ks).right1 = false := by
 rw [Nd.right1_mk, decide_eq_true h]; simp
theorem Nd.shape_ok {id : Int} {lf : Bool} {lb tx : ByteArray} {ats : List (ByteArray × ByteArray)} {ks : List Nd} (h : lb.size ≤ 64) (h2 : lf = true → ks.length = 0) (h3 : lf = false → tx.size = 0) : (Nd.mk id lf lb ats tx ks).right1 = attrsOk none ats := by
 rw [Nd.right1_mk, decide_eq_true h]
 cases lf with
 | true => rw [h2 rfl]; simp
 | false => rw [h3 rfl]; simp

theorem prevK_succ {l : List (ByteArray × ByteArray)} {i : Nat} {k v : ByteArray} (h : l[i]? = some (k, v)) : prevK l (i + 1) = some k := by simp [prevK, h]
theorem prevK_pos {l : List (ByteArray × ByteArray)} {i : Nat} {k v : ByteArray} (h0 : 0 < i) (h : l[i - 1]? = some (k, v)) : prevK l i = some k := by
 cases i with
 | zero => omega
 | succ j => exact prevK_succ (by simpa using h)
theorem attrsOk_1 {p : Option ByteArray} {k v : ByteArray} {r : List (ByteArray × ByteArray)} (h : keyOk k = false) : attrsOk p ((k, v) :: r) = false := by cases p <;> simp [attrsOk, h]
theorem attrsOk_2 {p : Option ByteArray} {k v : ByteArray} {r : List (ByteArray × ByteArray)} (h : 256 < v.size) : attrsOk p ((k, v) :: r) = false := by have h' : decide (v.size ≤ 256) = false := decide_eq_false (by omega); cases p <;> simp [attrsOk, h']
theorem attrsOk_3 {q : ByteArray} {k v : ByteArray} {r : List (ByteArray × ByteArray)} (h : strLe k q = true) : attrsOk (some q) ((k, v) :: r) = false := by simp [attrsOk, h]
theorem attrsOk_n {k v : ByteArray} {r : List (ByteArray × ByteArray)} (h : keyOk k = true) (h2 : v.size ≤ 256) : attrsOk none ((k, v) :: r) = attrsOk (some k) r := by rw [attrsOk, h, decide_eq_true h2]; simp
theorem attrsOk_s {q : ByteArray} {k v : ByteArray} {r : List (ByteArray × ByteArray)} (h : keyOk k = true) (h2 : v.size ≤ 256) (h3 : strLe k q = false) : attrsOk (some q) ((k, v) :: r) = attrsOk (some k) r := by rw [attrsOk, h, decide_eq_true h2, h3]; simp

set_option maxRecDepth 100000 in
set_option maxHeartbeats 2000000 in
theorem right1_any (t : Nd) (v : Value) (w : World) (hr : t.rd w v) : Calls Try.prog 61 #[v] w (Ret w fun r _ => r = .bool t.right1) := by
 obtain ⟨av, kv, rfl, i0, i1, hl, ht, ⟨aA, ac, rfl, a1, a2, a3⟩, ⟨kA, kc, rfl, k1, k2, _⟩⟩ := Nd.rd_open hr
 obtain ⟨id, lf, lb, ats, tx, ks⟩ := t
 simp only [Nd.id, Nd.leaf, Nd.label, Nd.text, Nd.attrs, Nd.kids] at *
 unfold maxLen at hl ht a2 k2
 rcases Nat.lt_or_ge 64 lb.size with b1 | b1
 ·have HF := Lib.hid (Nd.shape_a (id := id) (lf := lf) (tx := tx) (ats := ats) (ks := ks) b1)
  go_enter Try.func61, Try.ntmps61
  go_wp2_with fail
  go_ret
  exact ret_bool HF.out.symm ((Ext.refl w).alloc _)
 have hcase : (lf = true ∧ 0 < ks.length) ∨ (lf = false ∧ 0 < tx.size) ∨ (lf = true ∧ ks.length = 0) ∨ (lf = false ∧ tx.size = 0) := by
  cases lf
  ·rcases Nat.eq_zero_or_pos tx.size with h | h <;> simp [h]
  ·rcases Nat.eq_zero_or_pos ks.length with h | h <;> simp [h]
 rcases hcase with ⟨rfl, b2⟩ | ⟨rfl, b2⟩ | ⟨rfl, b2⟩ | ⟨rfl, b2⟩
 ·have HF := Lib.hid (Nd.shape_b (id := id) (lb := lb) (tx := tx) (ats := ats) (ks := ks) b2)
  go_enter Try.func61, Try.ntmps61
  go_wp2_with fail
  go_ret
  exact ret_bool HF.out.symm ((Ext.refl w).alloc _)
 ·have HF := Lib.hid (Nd.shape_c (id := id) (lb := lb) (tx := tx) (ats := ats) (ks := ks) b2)
  have hs := str_some b2
  go_enter Try.func61, Try.ntmps61
  go_wp2_with fail
  go_ret
  exact ret_bool HF.out.symm ((Ext.refl w).alloc _)
 case' inr.inr.inl =>
  have HF := Lib.hid (Nd.shape_ok (id := id) (lf := true) (lb := lb) (tx := tx) (ats := ats) (ks := ks) b1 (fun _ => b2) (fun h => by cases h))
  have b3 : ks.length ≤ 0 := by omega
 case' inr.inr.inr =>
  have HF := Lib.hid (Nd.shape_ok (id := id) (lf := false) (lb := lb) (tx := tx) (ats := ats) (ks := ks) b1 (fun h => by cases h) (fun _ => b2))
  have b3 := str_empty b2
 all_goals
  clear b2
  go_enter Try.func61, Try.ntmps61
  go_wp2_with fail
  generalize hw0 : w.alloc (.cells #[.int .u64 id, .bool _, .string lb, .slice aA ats.length ac, .string tx, .slice kA ks.length kc] 26) = w0
  have hE0 : Ext w w0 := by rw [← hw0]; exact (Ext.refl w).alloc _
  have c3 : w0.cell? ⟨w.heap.size, 3, none⟩ = some (.slice aA ats.length ac) := by rw [← hw0]; simp
  clear hw0
  go_loopw [32] (fun s32 wr => ∃ i : Nat, s32 = .int .i64 i ∧ i ≤ ats.length ∧ Hid (attrsOk (prevK ats i) (ats.drop i) = attrsOk none ats) ∧ Ext w0 wr) (fun i _ => ats.length - (intOf i).toNat)
  case atStart => exact ⟨0, rfl, Nat.zero_le _, rfl, Ext.refl _⟩
  case round =>
   obtain ⟨i, rfl, hi, HW, hE⟩ := hrel
   have d3 := hE.cell c3
   rcases Nat.lt_or_ge i ats.length with hlt | hlt
   ·obtain ⟨⟨key, val⟩, hx⟩ : ∃ x, ats[i]? = some x := ⟨_, List.getElem?_eq_getElem hlt⟩
    obtain ⟨b, off, rfl, hrd⟩ := a3 (by intro h; rw [h] at hlt; simp at hlt)
    have hrd' := rdAttrs_ext (hE0.trans hE) hrd
    obtain ⟨e1, e2, e3, e4⟩ := rdAttrs_at hrd' hx
    have HD := Lib.hid (drop_at hx)
    have hx := Lib.hid hx
    obtain ⟨w2, hw2⟩ : ∃ w2, wr.alloc (.cells #[.string key, .string val] 45) = w2 := ⟨_, rfl⟩
    have hE2 : Ext wr w2 := by rw [← hw2]; exact (Ext.refl _).alloc _
    have g0 : w2.cell? ⟨wr.heap.size, 0, none⟩ = some (.string key) := by rw [← hw2]; simp
    have g1 : w2.cell? ⟨wr.heap.size, 1, none⟩ = some (.string val) := by rw [← hw2]; simp
    have d32 := hE2.cell d3
    have H2 := Lib.hid hw2
    clear hrd a3 hw2
    have q1 : (0 : Int) ≤ (i : Int) := by omega
    have q2 : (i : Int) < (ats.length : Int) := by omega
    rcases hko : keyOk key with _ | _
    ·have HG : Hid (attrsOk none ats = false) := by rw [← HW.out, HD.out, attrsOk_1 hko]; rfl
     rw [HG.out] at HF
     have HK := Lib.hid hko
     clear HW HG HD hko
     go_wp2_with fail
     rw [H2.out]
     go_quiet ((go_at_call 72; exact Calls.quiet_of_same (key_no key _ e3 HK.out)))
     go_wp2_with fail
     go_ret
     exact ret_bool HF.out.symm ((hE0.trans (hE.trans hE2)).drewN _)
    have HK := Lib.hid hko
    rcases Nat.lt_or_ge 256 val.size with hv | hv
    ·have HG : Hid (attrsOk none ats = false) := by rw [← HW.out, HD.out, attrsOk_2 hv]; rfl
     rw [HG.out] at HF
     clear HW HG HD hko
     have hvd : decide ((256 : Int) < val.size) = true := by simp; omega
     go_wp2_with fail
     rw [H2.out]
     go_quiet ((go_at_call 72; exact Calls.quiet_of_same (key_yes key _ e3 HK.out)))
     go_wp2_with fail
     go_ret
     exact ret_bool HF.out.symm ((hE0.trans (hE.trans hE2)).drewN _)
    have hvd : decide ((256 : Int) < val.size) = false := by simp; omega
    rcases Nat.eq_zero_or_pos i with hi0 | hi0
    ·have HN : Hid (attrsOk (prevK ats (i + 1)) (ats.drop (i + 1)) = attrsOk none ats) := by
      rw [← HW.out, HD.out, prevK_succ hx.out]
      subst hi0
      simp only [prevK, Hid]; rw [attrsOk_n hko hv]
     have hid : decide (0 < i) = false := by simp; omega
     clear HW HD hko hi0
     go_wp2_with fail
     rw [H2.out]
     go_quiet ((go_at_call 72; exact Calls.quiet_of_same (key_yes key _ e3 HK.out)))
     go_wp2_with fail
     go_roundw
     case rel => exact ⟨i + 1, by go_num, by omega, HN, (hE.trans hE2).drewN _⟩
     case measure => simp [intOf]; omega
    ·obtain ⟨⟨pk, pv⟩, hy⟩ : ∃ x, ats[i - 1]? = some x := ⟨_, List.getElem?_eq_getElem (by omega)⟩
     obtain ⟨f1, f2, f3, f4⟩ := rdAttrs_at (rdAttrs_ext hE2 hrd') hy
     have q3 : (1 : Int) ≤ (i : Int) := by omega
     have q4 : (0 : Int) ≤ (i : Int) - 1 := by omega
     have q5 : (i : Int) - 1 < (ats.length : Int) := by omega
     have hid : decide (0 < i) = true := by simp; omega
     have hp := Lib.hid (prevK_pos hi0 hy)
     clear hy hi0
     rcases hs1 : Op.bytesLess key.toList pk.toList with _ | _
     ·rcases hs2 : (key.toList == pk.toList) with _ | _
      ·have HN : Hid (attrsOk (prevK ats (i + 1)) (ats.drop (i + 1)) = attrsOk none ats) := by
        rw [← HW.out, HD.out, prevK_succ hx.out, hp.out, attrsOk_s hko hv (by simp [strLe, hs1, hs2])]; rfl
       clear HW HD hko
       have hwr : IntKind.i64.wrap ((i : Int) - 1) = (i : Int) - 1 := IntWalk.i64_in _ (by omega)
       have htn : ((i : Int) - 1).toNat = i - 1 := by omega
       go_wp2_with fail
       rw [H2.out]
       go_quiet ((go_at_call 72; exact Calls.quiet_of_same (key_yes key _ e3 HK.out)))
       clear hwr htn
       go_wp2_with fail
       go_roundw
       case rel => exact ⟨i + 1, by go_num, by omega, HN, (hE.trans hE2).drewN _⟩
       case measure => simp [intOf]; omega
      ·have HG : Hid (attrsOk none ats = false) := by rw [← HW.out, HD.out, hp.out, attrsOk_3 (by simp [strLe, hs2])]; rfl
       rw [HG.out] at HF
       clear HW HG HD hko
       have hwr : IntKind.i64.wrap ((i : Int) - 1) = (i : Int) - 1 := IntWalk.i64_in _ (by omega)
       have htn : ((i : Int) - 1).toNat = i - 1 := by omega
       go_wp2_with fail
       rw [H2.out]
       go_quiet ((go_at_call 72; exact Calls.quiet_of_same (key_yes key _ e3 HK.out)))
       clear hwr htn
       go_wp2_with fail
       go_ret
       exact ret_bool HF.out.symm ((hE0.trans (hE.trans hE2)).drewN _)
     ·have HG : Hid (attrsOk none ats = false) := by rw [← HW.out, HD.out, hp.out, attrsOk_3 (by simp [strLe, hs1])]; rfl
      rw [HG.out] at HF
      clear HW HG HD hko
      have hwr : IntKind.i64.wrap ((i : Int) - 1) = (i : Int) - 1 := IntWalk.i64_in _ (by omega)
      have htn : ((i : Int) - 1).toNat = i - 1 := by omega
      go_wp2_with fail
      rw [H2.out]
      go_quiet ((go_at_call 72; exact Calls.quiet_of_same (key_yes key _ e3 HK.out)))
      clear hwr htn
      go_wp2_with fail
      go_ret
      exact ret_bool HF.out.symm ((hE0.trans (hE.trans hE2)).drewN _)
   ·have HG : Hid (attrsOk none ats = true) := by rw [← HW.out, List.drop_eq_nil_of_le hlt]; cases prevK ats i <;> rfl
    rw [HG.out] at HF
    clear HW HG
    go_wp2_with fail
    go_ret
    exact ret_bool HF.out.symm (hE0.trans hE)
end Go.Proofs.Ytofcbclokkjfjaa.Bw
