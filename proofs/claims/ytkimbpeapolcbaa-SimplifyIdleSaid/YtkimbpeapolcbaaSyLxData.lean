/- A goto that jumps forward, out of a loop or not: what stands behind the label is walked where the jump is. -/
import Derived.ScopeJumps
import Derived.WalkMore
import Derived.Test.YtkimbpeapolcbaaProg
import Derived.Test.YtkimbpeapolcbaaBwMem
import Derived.BigQuiet
import Derived.Deep.QuietTactic
import Derived.Deep.AppendLies
import Derived.Deep.RegionHeld3
import Derived.WalkSpells
namespace Go.Proofs.Ytkimbpeapolcbaa.Bs
/-- As Q; by a goto to label l: what stands behind the label, walked on. -/
def fwd (P : Program) (l : Nat) (rest : Code) (Q : Exit → Act → World → Prop) : Exit → Act → World → Prop
  | .goto l', a, w => l' = l ∧ rest.wp P (Exit.noGoto Q) a w
  | .normal, a, w => Q .normal a w
  | .exit i, a, w => Q (.exit i) a w
  | .ret, a, w => Q .ret a w
  | .panic c, a, w => Q (.panic c) a w
  | .outgrown, a, w => Q .outgrown a w
theorem wp_scope_fwd {P : Program} {a : Act} {w : World} {Q : Exit → Act → World → Prop} {c rest : Code} (l : Nat) (hf : findLabel c l = some rest) (h : c.wp P (fwd P l rest Q) a w) : (Code.scope c).wp P Q a w := by
  refine wp_scope_jumps l (fun a w => rest.wp P (Exit.noGoto Q) a w) (fun _ _ => 0) hf (wp_mono h (fun e a w q => ?_)) (fun a w hJ => wp_mono hJ (fun e a w q => ?_))
  · cases e <;> exact q
  · cases e <;> first | exact q | exact q.elim
theorem fwd_ret {P : Program} {l : Nat} {rest : Code} {Q : Exit → Act → World → Prop} {a : Act} {w : World} : fwd P l rest Q .ret a w = Q .ret a w := rfl
theorem fwd_normal {P : Program} {l : Nat} {rest : Code} {Q : Exit → Act → World → Prop} {a : Act} {w : World} : fwd P l rest Q .normal a w = Q .normal a w := rfl
theorem fwd_goto {P : Program} {l : Nat} {rest : Code} {Q : Exit → Act → World → Prop} {a : Act} {w : World} (h : rest.wp P (Exit.noGoto Q) a w) : fwd P l rest Q (.goto l) a w := ⟨rfl, h⟩
end Go.Proofs.Ytkimbpeapolcbaa.Bs
namespace Go.Proofs.Ytkimbpeapolcbaa.Sy
open Go.RowKit Go.Proofs.Ytkimbpeapolcbaa.Bw Go.Proofs.Ytkimbpeapolcbaa.Bs

/-- A piece. -/
structure Pc where
  keep : Int
  drop : Int
  put : ByteArray
/-- A row of pieces from an address on. -/
def rdPcs (w : World) (b : Nat) : Nat → List Pc → Prop
  | _, [] => True
  | off, p :: r => w.cell? ⟨b, off, none⟩ = some (.int .i64 p.keep) ∧ w.cell? ⟨b, off + 1, none⟩ = some (.int .i64 p.drop) ∧ w.cell? ⟨b, off + 2, none⟩ = some (.string p.put) ∧ okStr p.put ∧ rdPcs w b (off + 3) r
/-- A slice value that reads as a row of pieces. -/
def RdP (w : World) (l : List Pc) (v : Value) : Prop :=
  ∃ A c, v = .slice A l.length c ∧ l.length ≤ c ∧ c ≤ maxLen ∧ (0 < l.length → ∃ b off, A = some ⟨b, off, none⟩ ∧ rdPcs w b off l)
theorem rdPcs_ext {w w' : World} (h : Ext w w') {b : Nat} : ∀ {off : Nat} {l : List Pc}, rdPcs w b off l → rdPcs w' b off l
  | _, [], _ => trivial
  | _, _ :: _, ⟨h1, h2, h3, h4, h5⟩ => ⟨h.cell h1, h.cell h2, h.cell h3, h4, rdPcs_ext h h5⟩
theorem RdP.ext {w w' : World} (h : Ext w w') {l : List Pc} {v : Value} (hr : RdP w l v) : RdP w' l v := by
  obtain ⟨A, c, e, h1, h2, h3⟩ := hr
  refine ⟨A, c, e, h1, h2, fun h0 => ?_⟩
  obtain ⟨b, off, h4, h5⟩ := h3 h0
  exact ⟨b, off, h4, rdPcs_ext h h5⟩
theorem rdPcs_at {w : World} {b : Nat} : ∀ {l : List Pc} {off i : Nat} {p : Pc}, rdPcs w b off l → l[i]? = some p →
    w.cell? ⟨b, off + i * 3, none⟩ = some (.int .i64 p.keep) ∧ w.cell? ⟨b, off + i * 3 + 1, none⟩ = some (.int .i64 p.drop) ∧ w.cell? ⟨b, off + i * 3 + 2, none⟩ = some (.string p.put) ∧ p.put.size ≤ maxLen
  | [], _, _, _, _, h => by simp at h
  | x :: r, off, 0, p, hr, h => by
    simp at h; obtain rfl := h
    obtain ⟨h1, h2, h3, h4, _⟩ := hr
    simpa using ⟨h1, h2, h3, h4⟩
  | x :: r, off, i + 1, p, hr, h => by
    obtain ⟨_, _, _, _, h5⟩ := hr
    have := rdPcs_at (i := i) h5 (by simpa using h)
    rw [show off + (i + 1) * 3 = off + 3 + i * 3 by omega]
    exact this
theorem cell_of_blk {W : World} {b i : Nat} {c : Array Value} {t : TypeId} {fz : Nat × Nat} (h : W.heap[b]? = some (.cells c t fz)) : W.cell? ⟨b, i, none⟩ = c[i]? := by
  simp [World.cell?, h]
/-- A box: a new block of cells. -/
def NBox (W : World) (B : Nat) (t : TypeId) (cs : Array Value) : Prop := W.heap[B]? = some (.cells cs t (0, 0))
theorem NBox.new (W : World) (t : TypeId) (cs : Array Value) : NBox (W.alloc (.cells cs t)) W.heap.size t cs := World.alloc_heap_new W _
theorem NBox.cell {W : World} {B : Nat} {t : TypeId} {cs : Array Value} (h : NBox W B t cs) (i : Nat) : W.cell? ⟨B, i, none⟩ = cs[i]? := cell_of_blk h
theorem NBox.ext {W W' : World} (he : Ext W W') {B : Nat} {t : TypeId} {cs : Array Value} (h : NBox W B t cs) : NBox W' B t cs := (he.block B (Array.getElem?_eq_some_iff.1 h).1).trans h
def pcOk (p : Pc) : Bool := decide (0 ≤ p.keep) && decide (p.keep ≤ 1048576) && decide (0 ≤ p.drop) && decide (p.drop ≤ 1048576)
def pcsOk : Nat → List Pc → Bool
  | _, [] => true
  | n, p :: r => pcOk p && decide (n + p.put.size ≤ 1048576) && pcsOk (n + p.put.size) r
def pcsRight (l : List Pc) : Bool := decide (l.length ≤ 4096) && pcsOk 0 l
def putLen : List Pc → Nat
  | [] => 0
  | p :: r => p.put.size + putLen r
end Go.Proofs.Ytkimbpeapolcbaa.Sy
