/- Chapter 24: a contract of chapter 06 turned to this seat (BwRange). -/
import Derived.Test.YtofcbclokkjfjaaOuNodes
namespace Go.Proofs.Ytofcbclokkjfjaa.Bw
open Go.RowKit Go.Shelf
attribute [local go_sem] Oper.semAt_some

mutual
theorem Nd.pre_len : ∀ (t : Nd) (d : Int), (t.pre d).length = t.cnt
  | .mk _ _ _ _ _ ks, d => by rw [Nd.pre, Nd.cnt, List.length_cons, preK_len ks (d + 1)]; omega
theorem preK_len : ∀ (l : List Nd) (d : Int), (preK l d).length = cntK l
  | [], d => by rw [preK, cntK]; rfl
  | k :: r, d => by rw [preK, cntK, List.length_append, Nd.pre_len k d, preK_len r d]
end

/-- THE LOOP 'for .. := range nodes(n)', in a function that begins in the world w₀. -/
theorem range_nodes {F : Fence} (hd : F.depth = none) (h44 : F.fn 70) (h45 : F.fn 71) (hro : F.round = none) {n : Nat} (hn : 1 ≤ n) {g : Operand} {p0 p1 : Tmp} {assign body : Code} {Q : Exit → Act → World → Prop} {a : Act} {w w₀ : World}
    {Bn : Nat} {t : Nd} {v : Value} (hg : a.eval g = .func (.func 70) #[] #[.pointer (some ⟨Bn, 0, none⟩)]) (hr : t.rd w₀ v) (hE : Ext w₀ w) (hB : w.heap[Bn]? = some (.cells v.cells 26 (0, 0))) (hc : t.wt ≤ 1000000)
    (Φ : List (El w₀) → World → Prop) (Φx : Code → List (El w₀) → World → Prop) (hΦ : Own Φ) (hΦx : ∀ c, Own (Φx c)) (h0 : Φ [] w) (Ax : Int → Nd → Value → Act → World → Prop) (hAx : ∀ d k vk a', Own (fun (_ : Unit) W => Ax d k vk a' W))
    (hassign : ∀ (l : Nat) (pre : List (El w₀)) (d : Int) (k : Nd) (vk : Value) (W : World) (K : Act → World → Prop), k.rd w₀ vk → Φ pre W → Ext w₀ W → (∀ a' W', Keep2 w₀.heap.size 26 W W' → Φ pre W' → Ax d k vk a' W' → K a' W') →
      assign.wpIn (F.inRound l) (n - 1 - 1) Try.prog (Exit.then K (fun _ _ _ => False)) { tmps := (a.tmps.setIfInBounds p0 (.int .i64 d)).setIfInBounds p1 vk, defers := [] } W)
    (hbody : ∀ (l : Nat) (pre : List (El w₀)) (d : Int) (k : Nd) (vk : Value) (hk : k.rd w₀ vk) (hkw : k.wt ≤ 1000000) (a' : Act) (W : World), Φ pre W → Ext w₀ W → Ax d k vk a' W → pre.length < t.cnt →
      body.wpIn (F.inRound l) (n - 1 - 1) Try.prog (fun e _ W' => match e with
        | .normal => Keep2 w₀.heap.size 26 W W' ∧ Φ (pre ++ [El.of d k vk hk hkw]) W'
        | .ret => Keep2 w₀.heap.size 26 W W' ∧ Φx .ret (pre ++ [El.of d k vk hk hkw]) W'
        | .exit id => Keep2 w₀.heap.size 26 W W' ∧ Φx (.exit id) (pre ++ [El.of d k vk hk hkw]) W'
        | _ => False) a' W)
    (hdone : ∀ (D : Nat) (xs : List (El w₀)) (W : World), w.heap.size ≤ D → keys xs = t.pre 0 → Φ xs W → Ext w₀ W → W.heap[D]? = some (.deferred (some [])) → Q .normal { a with defers := { target := .collected D, args := #[] } :: a.defers } W)
    (hstop : ∀ (D : Nat) (c : Code) (q : List (El w₀)) (W : World), w.heap.size ≤ D → keys q <+: t.pre 0 → Φx c q W → Ext w₀ W → W.heap[D]? = some (.deferred (some [])) → c.wpIn F n Try.prog Q { a with defers := { target := .collected D, args := #[] } :: a.defers } W) :
    (Code.rangeFunc g #[p0, p1] assign body).wpIn F n Try.prog Q a w := by
  refine wpIn_rangeFunc_ownH hro hn hg h44 (enters_of Try.func70 (by kernel_rfl) rfl) (nodes1_stops F hd h44 h45 hro (n - 1) w₀ t v Bn w hr hE hB hc) (fun h k => h.trans k) (fun W l o o' hl ho hc _ => KeepT.putObj (Nat.le_trans hE.size hl) ho hc) (Below.refl _ _) (fun x => rfl)
    (fun pre W => Φ pre W ∧ Ext w₀ W) (fun c pre W => Φx c pre W ∧ Ext w₀ W) ((Own.from hΦ _).and (ownFrom_below (Nat.le_refl _) hE.size)) (fun c => (Own.from (hΦx c) _).and (ownFrom_below (Nat.le_refl _) hE.size)) ⟨h0, hE⟩ (fun x => Ax x.1.1 x.1.2.1 x.1.2.2) (fun x a' => Own.from (hAx _ _ _ a') _) ?_ ?_ ?_ ?_
  · intro l pre x W K ⟨hp, hEW⟩ hK
    have hz : (#[p0, p1].zip x.args).foldl (fun t (p, v) => t.setIfInBounds p v) a.tmps = (a.tmps.setIfInBounds p0 (.int .i64 x.1.1)).setIfInBounds p1 x.1.2.2 := by simp [El.args]
    rw [hz]
    exact hassign l pre x.1.1 x.1.2.1 x.1.2.2 W K x.2.1 hp hEW (fun a' W' hk hp' hax => hK a' W' (hk.o.from _) hk.t ⟨hp', hEW.trans' (Below.mono hk.t.1 (Nat.le_refl _))⟩ hax)
  · rintro l pre x a' W _ _ ⟨hp, hEW⟩ hax hlen
    refine wpIn_mono (hbody l pre x.1.1 x.1.2.1 x.1.2.2 x.2.1 x.2.2 a' W hp hEW hax (by rw [← Nd.pre_len t 0]; exact hlen)) ?_
    intro e _ W' h
    cases e with
    | normal => exact ⟨h.1.o.from _, h.1.t, h.2, hEW.trans' h.1.t.1⟩
    | ret => exact ⟨h.1.o.from _, h.2, hEW.trans' h.1.t.1⟩
    | exit id => exact ⟨h.1.o.from _, h.2, hEW.trans' h.1.t.1⟩
    | goto _ => exact h.elim
    | panic _ => exact h.elim
    | outgrown => exact h.elim
  · rintro D xs W hD hS ⟨hp, hEW⟩ hk
    exact hdone D xs W hD hS hp hEW hk
  · rintro D c q W hD hS ⟨hp, hEW⟩ hk
    exact hstop D c q W hD hS hp hEW hk

theorem Boxed.new2 (W : World) (o : Obj) (t : TypeId) (v : Value) : Boxed ((W.alloc o).alloc (.cells #[v] t)) (W.heap.size + 1) t v := by
  have := Boxed.new (W.alloc o) t v
  rwa [World.size_alloc] at this

/-- Behind the function's return the block for the rounds' deferred calls is shut. -/
theorem Ext.putObj {w W : World} (h : Ext w W) {D : Nat} (hD : w.heap.size ≤ D) (o : Obj) : Ext w (W.putObj D o) :=
  h.trans' ⟨rfl, rfl, rfl, (grownBy_putObj' W D o).size, fun k hk => (grownBy_putObj' W D o).block k (Nat.lt_of_lt_of_le hk h.size) (fun e => by cases e; omega)⟩
end Go.Proofs.Ytofcbclokkjfjaa.Bw
