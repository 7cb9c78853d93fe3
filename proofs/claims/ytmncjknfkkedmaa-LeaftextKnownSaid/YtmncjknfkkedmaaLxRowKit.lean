/- A goto that jumps forward, out of a loop or not: what stands behind the label is walked where the jump is. -/
import Derived.ScopeJumps
import Derived.WalkMore
import Derived.Test.YtmncjknfkkedmaaProg
import Derived.Test.YtmncjknfkkedmaaBwMem
import Derived.BigQuiet
import Derived.Deep.QuietTactic
import Derived.Deep.AppendLies
import Derived.Deep.RegionHeld3
import Derived.WalkSpells
import Derived.ChangeSame
import Derived.ChangeSlices
import Derived.Deep.Slices
import Derived.OpenShut
import Derived.Carry
import Derived.Test.YtmncjknfkkedmaaRows
import Derived.ProofKit
namespace Go.Proofs.Ytmncjknfkkedmaa.Bs
/-- As Q; by a goto to label l: what stands behind the label, walked on. -/
def fwd (P : Program) (l : Nat) (rest : Code) (Q : Exit → Act → World → Prop) : Exit → Act → World → Prop
  | .goto l', a, w => l' = l ∧ rest.wp P (Exit.noGoto Q) a w
  | .normal, a, w => Q .normal a w
  | .exit i, a, w => Q (.exit i) a w
  | .ret, a, w => Q .ret a w
  | .panic c, a, w => Q (.panic c) a w
  | .outgrown, a, w => Q .outgrown a w
theorem wp_scope_fwd {P : Program} {a : Act} {w : World} {Q : Exit → Act → World → Prop} {c rest : Code} (l : Nat) (hf : findLabel c l = some rest) (h : c.wp P (fwd P l rest Q) a w) : (Code.scope c).wp P Q a w := by
  refine wp_scope_jumps l (fun a w => rest.wp P (Exit.noGoto Q) a w) (fun _ _ => 0) hf (wp_mono h (fun e a w q => ?_)) (fun a w hJ => wp_mono hJ (fun e a w q => ?_))
  · cases e <;> exact q
  · cases e <;> first | exact q | exact q.elim
theorem fwd_ret {P : Program} {l : Nat} {rest : Code} {Q : Exit → Act → World → Prop} {a : Act} {w : World} : fwd P l rest Q .ret a w = Q .ret a w := rfl
theorem fwd_normal {P : Program} {l : Nat} {rest : Code} {Q : Exit → Act → World → Prop} {a : Act} {w : World} : fwd P l rest Q .normal a w = Q .normal a w := rfl
theorem fwd_goto {P : Program} {l : Nat} {rest : Code} {Q : Exit → Act → World → Prop} {a : Act} {w : World} (h : rest.wp P (Exit.noGoto Q) a w) : fwd P l rest Q (.goto l) a w := ⟨rfl, h⟩
end Go.Proofs.Ytmncjknfkkedmaa.Bs
namespace Go.Proofs.Ytmncjknfkkedmaa.Lx
open Go.RowKit Go.Proofs.Ytmncjknfkkedmaa.Bw Go.Proofs.Ytmncjknfkkedmaa.Bs

/-- A piece. -/
structure Pc where
  keep : Int
  drop : Int
  put : ByteArray
/-- A row of pieces from an address on. -/
def rdPcs (w : World) (b : Nat) : Nat → List Pc → Prop
  | _, [] => True
  | off, p :: r => w.cell? ⟨b, off, none⟩ = some (.int .i64 p.keep) ∧ w.cell? ⟨b, off + 1, none⟩ = some (.int .i64 p.drop) ∧ w.cell? ⟨b, off + 2, none⟩ = some (.string p.put) ∧ okStr p.put ∧ rdPcs w b (off + 3) r
/-- A slice value that reads as a row of pieces. -/
def RdP (w : World) (l : List Pc) (v : Value) : Prop :=
  ∃ A c, v = .slice A l.length c ∧ l.length ≤ c ∧ c ≤ maxLen ∧ (0 < l.length → ∃ b off, A = some ⟨b, off, none⟩ ∧ rdPcs w b off l)
theorem rdPcs_ext {w w' : World} (h : Ext w w') {b : Nat} : ∀ {off : Nat} {l : List Pc}, rdPcs w b off l → rdPcs w' b off l
  | _, [], _ => trivial
  | _, _ :: _, ⟨h1, h2, h3, h4, h5⟩ => ⟨h.cell h1, h.cell h2, h.cell h3, h4, rdPcs_ext h h5⟩
theorem RdP.ext {w w' : World} (h : Ext w w') {l : List Pc} {v : Value} (hr : RdP w l v) : RdP w' l v := by
  obtain ⟨A, c, e, h1, h2, h3⟩ := hr
  refine ⟨A, c, e, h1, h2, fun h0 => ?_⟩
  obtain ⟨b, off, h4, h5⟩ := h3 h0
  exact ⟨b, off, h4, rdPcs_ext h h5⟩
theorem rdPcs_at {w : World} {b : Nat} : ∀ {l : List Pc} {off i : Nat} {p : Pc}, rdPcs w b off l → l[i]? = some p →
    w.cell? ⟨b, off + i * 3, none⟩ = some (.int .i64 p.keep) ∧ w.cell? ⟨b, off + i * 3 + 1, none⟩ = some (.int .i64 p.drop) ∧ w.cell? ⟨b, off + i * 3 + 2, none⟩ = some (.string p.put) ∧ p.put.size ≤ maxLen
  | [], _, _, _, _, h => by simp at h
  | x :: r, off, 0, p, hr, h => by
    simp at h; obtain rfl := h
    obtain ⟨h1, h2, h3, h4, _⟩ := hr
    simpa using ⟨h1, h2, h3, h4⟩
  | x :: r, off, i + 1, p, hr, h => by
    obtain ⟨_, _, _, _, h5⟩ := hr
    have := rdPcs_at (i := i) h5 (by simpa using h)
    rw [show off + (i + 1) * 3 = off + 3 + i * 3 by omega]
    exact this

theorem cell_of_blk {W : World} {b i : Nat} {c : Array Value} {t : TypeId} {fz : Nat × Nat} (h : W.heap[b]? = some (.cells c t fz)) : W.cell? ⟨b, i, none⟩ = c[i]? := by
  simp [World.cell?, h]
/-- A box: a new block of cells. -/
def NBox (W : World) (B : Nat) (t : TypeId) (cs : Array Value) : Prop := W.heap[B]? = some (.cells cs t (0, 0))
theorem NBox.new (W : World) (t : TypeId) (cs : Array Value) : NBox (W.alloc (.cells cs t)) W.heap.size t cs := World.alloc_heap_new W _
theorem NBox.cell {W : World} {B : Nat} {t : TypeId} {cs : Array Value} (h : NBox W B t cs) (i : Nat) : W.cell? ⟨B, i, none⟩ = cs[i]? := cell_of_blk h
theorem NBox.ext {W W' : World} (he : Ext W W') {B : Nat} {t : TypeId} {cs : Array Value} (h : NBox W B t cs) : NBox W' B t cs := (he.block B (Array.getElem?_eq_some_iff.1 h).1).trans h

/-! ### Which edits are right -/
def pcOk (p : Pc) : Bool := decide (0 ≤ p.keep) && decide (p.keep ≤ 1048576) && decide (0 ≤ p.drop) && decide (p.drop ≤ 1048576)
def pcsOk : Nat → List Pc → Bool
  | _, [] => true
  | n, p :: r => pcOk p && decide (n + p.put.size ≤ 1048576) && pcsOk (n + p.put.size) r
def pcsRight (l : List Pc) : Bool := decide (l.length ≤ 4096) && pcsOk 0 l
def putLen : List Pc → Nat
  | [] => 0
  | p :: r => p.put.size + putLen r

end Go.Proofs.Ytmncjknfkkedmaa.Lx
namespace Go.Proofs.Ytmncjknfkkedmaa.Lx
open Go.RowKit Go.ChangeShapes Go.WideShapes Go.Proofs.Ytmncjknfkkedmaa.Bw Go.Proofs.Ytmncjknfkkedmaa.Bs

theorem cells29 : Try.prog.cellsOf 29 = 3 := by kernel_rfl
theorem cells3 : Try.prog.cellsOf 3 = 1 := by kernel_rfl
theorem cells9 : Try.prog.cellsOf 9 = 1 := by kernel_rfl

section
variable {H : Type} {enc : TypeId × Value → H} {w : World} {base : Nat} {spare : Nat → Bool} {held : Bool}

theorem list3 {α : Type} {l : List α} (h : l.length = 3) : ∃ a b c, l = [a, b, c] := by
  match l, h with
  | [a, b, c], _ => exact ⟨a, b, c, rfl⟩
theorem add_zero_ (a : Addr) : a.add 0 = a := rfl
theorem spot_none {a : Addr} {n : Nat} {cs : List Value} (h : w.cells? base a (n + 1) = some cs) : a = ⟨a.block, a.off, none⟩ := by
  obtain ⟨_, hl, hc⟩ := World.cells?_some h
  have h0 := hc 0 (by omega)
  have e0 : a.add 0 = a := rfl
  rw [e0, List.getElem?_eq_getElem (by omega)] at h0
  obtain ⟨b, o, sp⟩ := a
  cases sp with
  | none => rfl
  | some s =>
    unfold World.cell? at h0
    split at h0 <;> simp at h0
theorem cell_plain {a : Addr} {u : Value} (h : w.cell? a = some u) : a = ⟨a.block, a.off, none⟩ := by
  obtain ⟨b, o, sp⟩ := a
  cases sp with
  | none => rfl
  | some s =>
    unfold World.cell? at h
    split at h <;> simp at h

/-- Pieces, built up. -/
theorem build_pcs {b : Nat} : ∀ (len off : Nat), (∀ i, i < len → ∃ p : Pc, w.cell? ⟨b, off + i * 3, none⟩ = some (.int .i64 p.keep) ∧ w.cell? ⟨b, off + i * 3 + 1, none⟩ = some (.int .i64 p.drop) ∧ w.cell? ⟨b, off + i * 3 + 2, none⟩ = some (.string p.put) ∧ p.put.size ≤ maxLen) →
    ∃ l : List Pc, l.length = len ∧ rdPcs w b off l
  | 0, _, _ => ⟨[], rfl, trivial⟩
  | len + 1, off, h => by
    obtain ⟨p, h1, h2, h3, h4⟩ := h 0 (by omega)
    obtain ⟨l, hl, hr⟩ := build_pcs len (off + 3) (fun i hi => by
      have := h (i + 1) (by omega)
      rw [show off + (i + 1) * 3 = off + 3 + i * 3 by omega] at this
      exact this)
    exact ⟨p :: l, by simp [hl], by simpa using h1, by simpa using h2, by simpa using h3, h4, hr⟩

theorem pcs_trod {fuel : Nat} {cs : List Value} {x : DataW H × List MemPlace} (h : DataW.trod enc Try.prog w base spare held fuel 22 cs = some x) :
    ∃ (v : Value) (l : List Pc), cs = [v] ∧ RdP w l v := by
  rcases DataW.trod_slice Try.underlying22 h with ⟨rfl, _⟩ | ⟨a, len, cap, elems, rest, n, rfl, rfl, rfl, hb, hl, hm, hlen, hel, _, _⟩
  · exact ⟨_, [], rfl, none, 0, rfl, by simp, by simp [maxLen], fun h => absurd h (by simp)⟩
  · rcases Nat.eq_zero_or_pos len with h0 | h0
    · exact ⟨_, [], rfl, some a, cap, by rw [h0]; rfl, by simp, hm, fun h => absurd h (by simp)⟩
    · rw [cells29] at hel
      have hE : ∀ i, i < len → ∃ p : Pc, a = ⟨a.block, a.off, none⟩ ∧ w.cell? (a.add (i * 3)) = some (.int .i64 p.keep) ∧ w.cell? ((a.add (i * 3)).add 1) = some (.int .i64 p.drop) ∧ w.cell? ((a.add (i * 3)).add 2) = some (.string p.put) ∧ p.put.size ≤ maxLen := by
        intro i hi
        have he := hel i hi
        rw [List.getElem?_eq_getElem (by omega)] at he
        obtain ⟨cs', h1, h2⟩ := Option.bind_eq_some_iff.1 he
        obtain ⟨xs, n', rfl, hx, hcl, hxl, hg⟩ := DataW.trod_struct Try.underlying29 h2
        rw [cells29] at hcl
        obtain ⟨_, _, hc⟩ := World.cells?_some h1
        obtain ⟨c0, c1, c2, rfl⟩ := list3 hcl
        skip
        have g0 : DataW.trod enc Try.prog w base spare held n' 3 (([c0, c1, c2].drop 0).take (Try.prog.cellsOf 3)) = xs[0]? := hg 0 _ rfl
        have g1 : DataW.trod enc Try.prog w base spare held n' 3 (([c0, c1, c2].drop 1).take (Try.prog.cellsOf 3)) = xs[1]? := hg 1 _ rfl
        have g2 : DataW.trod enc Try.prog w base spare held n' 9 (([c0, c1, c2].drop 2).take (Try.prog.cellsOf 9)) = xs[2]? := hg 2 _ rfl
        simp only [cells9, cells3] at g0 g1 g2
        rw [List.getElem?_eq_getElem (by rw [hxl]; decide)] at g0 g1 g2
        obtain ⟨i0, e0, _, _⟩ := DataW.trod_int Try.underlying3 g0
        obtain ⟨i1, e1, _, _⟩ := DataW.trod_int Try.underlying3 g1
        obtain ⟨s2, e2, _, m2⟩ := DataW.trod_string Try.underlying9 g2
        simp at e0 e1 e2
        subst e0 e1 e2
        have d0 := hc 0 (by omega)
        have d1 := hc 1 (by omega)
        have d2 := hc 2 (by omega)
        have ha : a = ⟨a.block, a.off, none⟩ := by
          have hz := hel 0 h0
          rw [List.getElem?_eq_getElem (by omega)] at hz
          obtain ⟨cs0, z1, _⟩ := Option.bind_eq_some_iff.1 hz
          have := spot_none (n := 2) z1
          simpa [add_zero_] using this
        exact ⟨⟨i0, i1, s2⟩, ha, by simpa [add_zero_] using d0, by simpa using d1, by simpa using d2, m2⟩
      obtain ⟨b, o, sp⟩ := a
      have hsp : sp = none := by obtain ⟨_, ha, _⟩ := hE 0 h0; simpa using ha
      subst hsp
      obtain ⟨l, hll, hr⟩ := build_pcs (w := w) (b := b) len o (fun i hi => by
        obtain ⟨p, _, h1, h2, h3, h4⟩ := hE i hi
        refine ⟨p, ?_, ?_, ?_, h4⟩
        · simpa [Addr.add_lit] using h1
        · simpa [Addr.add_lit] using h2
        · simpa [Addr.add_lit] using h3)
      exact ⟨_, l, rfl, some ⟨b, o, none⟩, cap, by rw [hll], by omega, hm, fun _ => ⟨b, o, rfl, hr⟩⟩

/-- Pieces that come in. -/
theorem open_pcs {r : Reach} {b0 : Nat} {v : Value} {d : DataW H} {p : List MemPlace} (hv : Value.okWide Try.prog w r b0 22 v) (h : DataW.Trod enc Try.prog w base spare held 22 v d p) : ∃ l : List Pc, RdP w l v := by
  obtain ⟨A, n, c, rfl⟩ := okWide_slice Try.underlying22 hv
  obtain ⟨fuel, hf⟩ := h
  obtain ⟨v, l, e, hr⟩ := pcs_trod hf
  simp [Value.cells] at e
  exact ⟨l, by rw [e]; exact hr⟩
end
end Go.Proofs.Ytmncjknfkkedmaa.Lx
namespace Go.Proofs.Ytmncjknfkkedmaa.Lx
open Go.RowKit Go.ChangeShapes Go.WideShapes Go.ChangeAt

theorem own : ownKnob Try.prog.godebug = none := by kernel_rfl
theorem laidOut : laidOutB Try.prog = true := by kernel_rfl

/-- All arguments read as they did where nothing old has turned. -/
theorem trodAll_below {H : Type} {enc : TypeId × Value → H} {P : Program} (hl : laidOutB P = true) {W W' : World} (hb : Below W.heap.size W W') :
    ∀ {ts : List TypeId} {vs : List Value} {ds : List (DataW H)} {ps : List MemPlace}, (∀ t ∈ ts, P.readableRec t = true ∧ t < P.types.size) → (∀ x ∈ ps, x.block < W.heap.size) →
      DataW.TrodAll enc P W 0 (fun _ => true) true ts vs ds ps → DataW.TrodAll enc P W' 0 (fun b => decide (b < W.heap.size)) true ts vs ds ps
  | [], vs, ds, ps, _, _, h => by
    obtain ⟨rfl, rfl, rfl⟩ := trodAll_nil h
    exact trodAll_mk0
  | t :: ts, vs, ds, ps, hr, hlt, h => by
    obtain ⟨v, vs1, d, ds1, a, b, rfl, rfl, rfl, h1, h2⟩ := trodAll_cons h
    exact ⟨a, b, Below.trod hl (hr t (by simp)).1 (hr t (by simp)).2 h1 hb (fun x hx => hlt x (by simp [hx])), trodAll_below hl hb (fun t' ht => hr t' (by simp [ht])) (fun x hx => hlt x (by simp [hx])) h2, rfl⟩

/-- THE POST of a law that answers true and leaves all that was there. -/
theorem post_true {H : Type} {enc : TypeId × Value → H} {P : Program} {f : Func} {s : ChangeSpec} {bt : TypeId} {handsOn : Bool} {W W' : World} {args : Array Value} {ds gs : List (DataW H)} {before : List MemPlace}
    (hl : laidOutB P = true) (hps : ∀ t ∈ f.params.toList, P.readableRec t = true ∧ t < P.types.size) (hvars : s.vars = []) (hrt : f.resultTypes = #[bt]) (hbt : P.underlying bt = some .bool)
    (hW : DataW.Whole enc P f.params.toList s.vars false W args.toList ds gs before) (hE : Below W.heap.size W W')
    (hfn : s.fn H (ds ++ gs) = { results := [.lit (.bool true)], args := ds }) : s.post enc P f false true handsOn false W args (.bool true) W' := by
  have hlt : ∀ x ∈ before, x.block < W.heap.size := fun x hx => by simpa using hW.lt x hx
  have hW0 := hW
  obtain ⟨p, q, hA, hV, rfl, hfz, hnd⟩ := hW
  rw [hvars] at hV
  obtain ⟨rfl, rfl⟩ := trodVars_none hV
  refine ⟨ds, [], p ++ [], [], p, [], hW0, ?_, ?_, ?_, ?_, fun h => by cases h⟩
  · rw [hfn, hrt]
    exact trodAll_mk1 (shut_bool hbt true)
  · rw [hfn]
    exact trodAll_below hl hE hps (fun x hx => hlt x (by simp [hx])) hA
  · rw [hfn, hvars]
    rfl
  · exact hE.frame _
end Go.Proofs.Ytmncjknfkkedmaa.Lx
