/- Chapter 05: what a call may have changed; a maker of normal edits, in memory and in plain Lean. -/
import Derived.Test.YtmncjknfkkedmaaLxPcs2
namespace Go.Proofs.Ytmncjknfkkedmaa.Lx
open Go.RowKit Go.Proofs.Ytmncjknfkkedmaa.Bw Go.Proofs.Ytmncjknfkkedmaa.Bs

/-- Of what was there, nothing changed but blocks of S. -/
structure Fr (W W' : World) (S : Nat → Prop) : Prop where
  os : W'.os = W.os
  tape : W'.tape = W.tape
  output : W'.output = W.output
  size : W.heap.size ≤ W'.heap.size
  block : ∀ k, k < W.heap.size → ¬ S k → W'.heap[k]? = W.heap[k]?
theorem Fr.of_ext {W W' : World} (h : Ext W W') (S : Nat → Prop) : Fr W W' S := ⟨h.os, h.tape, h.output, h.size, fun k hk _ => h.block k hk⟩
theorem Fr.refl (W : World) (S : Nat → Prop) : Fr W W S := Fr.of_ext (Ext.refl W) S
theorem Fr.trans {A B C : World} {S : Nat → Prop} (h : Fr A B S) (k : Fr B C S) : Fr A C S :=
  ⟨k.os.trans h.os, k.tape.trans h.tape, k.output.trans h.output, Nat.le_trans h.size k.size, fun i hi hs => (k.block i (Nat.lt_of_lt_of_le hi h.size) hs).trans (h.block i hi hs)⟩
theorem Fr.mono {A B : World} {S T : Nat → Prop} (h : Fr A B S) (hst : ∀ k, S k → T k) : Fr A B T := ⟨h.os, h.tape, h.output, h.size, fun k hk hs => h.block k hk (fun h0 => hs (hst k h0))⟩
/-- New blocks may change: they were not there. -/
theorem Fr.new {A B : World} {S : Nat → Prop} (h : Fr A B (fun k => S k ∨ A.heap.size ≤ k)) : Fr A B S := ⟨h.os, h.tape, h.output, h.size, fun k hk hs => h.block k hk (fun h0 => h0.elim hs (fun h1 => absurd h1 (by omega)))⟩
theorem Fr.ext {w A B : World} {S : Nat → Prop} (h : Ext w A) (k : Fr A B S) (hs : ∀ i, S i → w.heap.size ≤ i) : Ext w B :=
  ⟨k.os.trans h.os, k.tape.trans h.tape, k.output.trans h.output, Nat.le_trans h.size k.size, fun i hi => (k.block i (Nat.lt_of_lt_of_le hi h.size) (fun h0 => absurd (hs i h0) (by omega))).trans (h.block i hi)⟩
theorem NBox.fr {A B : World} {S : Nat → Prop} (k : Fr A B S) {b : Nat} {t : TypeId} {cs : Array Value} (h : NBox A b t cs) (hb : ¬ S b) : NBox B b t cs := (k.block b (Array.getElem?_eq_some_iff.1 h).1 hb).trans h
theorem owns_fr {A B : World} {S : Nat → Prop} (k : Fr A B S) {base e size n : Nat} {v : Value} {xs : List Value} (h : A.ownsRow base e size v n xs) (hb : ∀ g, v.ownBlock = some g → ¬ S g) : B.ownsRow base e size v n xs := by
  refine ⟨h.1, ?_⟩
  rcases h.2 with h2 | ⟨g, cap, cur, hv, h1, hg, r⟩
  · exact .inl h2
  · exact .inr ⟨g, cap, cur, hv, h1, (k.block g (Array.getElem?_eq_some_iff.1 hg).1 (hb g (by rw [hv]; rfl))).trans hg, r⟩

/-- A maker. -/
structure Mk where
  l : List Pc
  keep : Int
def Pc.vals (p : Pc) : List Value := [.int .i64 p.keep, .int .i64 p.drop, .string p.put]
def pcVals (l : List Pc) : List Value := l.flatMap Pc.vals
theorem pcVals_len (l : List Pc) : (pcVals l).length = l.length * 3 := by
  induction l with
  | nil => rfl
  | cons p r ih =>
    have : pcVals (p :: r) = Pc.vals p ++ pcVals r := rfl
    rw [this, List.length_append, ih, List.length_cons]
    simp [Pc.vals]; omega
theorem pcVals_append (l r : List Pc) : pcVals (l ++ r) = pcVals l ++ pcVals r := by simp [pcVals]
/-- The piece that goes on is there: one more, if something was kept. -/
def Mk.last (m : Mk) : Mk := if 0 < m.keep ∨ m.l = [] then ⟨m.l ++ [⟨m.keep, 0, ⟨#[]⟩⟩], 0⟩ else m
def onLast (f : Pc → Pc) : List Pc → List Pc
  | [] => []
  | [p] => [f p]
  | p :: q :: r => p :: onLast f (q :: r)
def Mk.put (m : Mk) (s : ByteArray) : Mk := if 0 < s.size then ⟨onLast (fun p => { p with put := p.put ++ s }) m.last.l, m.last.keep⟩ else m
def Mk.drop (m : Mk) (n : Int) : Mk := if 0 < n then ⟨onLast (fun p => { p with drop := p.drop + n }) m.last.l, m.last.keep⟩ else m
def Mk.piece (m : Mk) (p : Pc) : Mk := (({ m with keep := m.keep + p.keep } : Mk).put p.put).drop p.drop
def Mk.pieces (m : Mk) : List Pc → Mk
  | [] => m
  | p :: r => (m.piece p).pieces r
/-- An edit, made normal. -/
def normL (l : List Pc) : List Pc := (Mk.pieces ⟨[], 0⟩ l).l
/-- A maker in memory: at block B, its row with an owner from base on. -/
def MkAt (W : World) (B base : Nat) (m : Mk) (lv : Value) : Prop := NBox W B 57 #[lv, .int .i64 m.keep] ∧ W.ownsRow base 29 3 lv m.l.length (pcVals m.l) ∧ B < base ∧ base ≤ W.heap.size
theorem Mk.last_ne (m : Mk) : m.last.l ≠ [] := by
  unfold Mk.last
  split
  · simp
  · rename_i h
    exact fun h0 => h (.inr h0)
end Go.Proofs.Ytmncjknfkkedmaa.Lx
