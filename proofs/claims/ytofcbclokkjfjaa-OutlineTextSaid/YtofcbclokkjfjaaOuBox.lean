/- Chapter 24: a contract of chapter 06 turned to this seat (BwLong). -/
import Derived.Test.YtofcbclokkjfjaaOuSpec
namespace Go.Proofs.Ytofcbclokkjfjaa.Bw
open Go.RowKit Go.Shelf
attribute [local go_sem] Oper.semAt_some

/-- A block that holds a struct's cells. -/
def NBox (W : World) (B : Nat) (t : TypeId) (cs : Array Value) : Prop := W.heap[B]? = some (.cells cs t (0, 0))
theorem NBox.new (W : World) (t : TypeId) (cs : Array Value) : NBox (W.alloc (.cells cs t)) W.heap.size t cs := World.alloc_heap_new W _
theorem NBox.cell {W : World} {B : Nat} {t : TypeId} {cs : Array Value} (h : NBox W B t cs) (i : Nat) : W.cell? ⟨B, i, none⟩ = cs[i]? := cell_of_blk h
theorem NBox.ext {W W' : World} (he : Ext W W') {B : Nat} {t : TypeId} {cs : Array Value} (h : NBox W B t cs) : NBox W' B t cs := (he.block B (Array.getElem?_eq_some_iff.1 h).1).trans h
theorem NBox.own {β : Type} {B : Nat} {t : TypeId} {cs : Array Value} (p : β → Prop) : Own (fun (s : β) W => p s ∧ NBox W B t cs) := fun s X Y row hs hg hr =>
  ⟨hs.1, (hg.block B (Array.getElem?_eq_some_iff.1 hs.2).1 (fun e => by obtain ⟨o, ho, hc⟩ := hr B e.symm; rw [show X.heap[B]? = _ from hs.2] at ho; cases ho; cases hc)).trans hs.2⟩
theorem Boxed.ext {W W' : World} (he : Ext W W') {B : Nat} {t : TypeId} {v : Value} (h : Boxed W B t v) : Boxed W' B t v := (he.block B h.lt).trans h

theorem lenA_drop {l : List (ByteArray × ByteArray)} : ∀ k, lenA (l.drop k) ≤ lenA l := by
  induction l with
  | nil => intro k; simp [lenA]
  | cons x r ih => intro k; obtain ⟨a, b⟩ := x; cases k with
    | zero => exact Nat.le_refl _
    | succ k => have := ih k; rw [List.drop_succ_cons, lenA]; omega

theorem nodes_w (n : Nat) (W : World) (t : Nd) (v : Value) (hr : t.rd W v) :
    CallsIn Fence.wide n Try.prog 60 #[v] W fun e w' => e = .returned (.func (.func 70) #[] #[.pointer (some ⟨W.heap.size, 0, none⟩)]) ∧ w' = W.alloc (.cells v.cells 26) := callsIn_wide.2 (nodes_any v W t hr)

end Go.Proofs.Ytofcbclokkjfjaa.Bw
