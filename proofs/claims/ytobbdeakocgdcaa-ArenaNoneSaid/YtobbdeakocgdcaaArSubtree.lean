/- Chapter 07: a slot and all below it (39). -/
import Derived.Test.YtobbdeakocgdcaaArAdd
import Derived.Test.YtobbdeakocgdcaaArBack
import Derived.ScopeJumps
namespace Go.Proofs.Ytobbdeakocgdcaa.Ar
open Go.RowKit Go.Proofs.Ytobbdeakocgdcaa.Bw Go.Shelf
attribute [local go_sem] Oper.semAt_some

theorem PreL.len {S : St} {a l : List Nat} (h : PreL S a l) : a.length ≤ l.length := by
  induction h with
  | nil => exact Nat.le_refl _
  | cons _ _ _ _ ih3 => rw [List.length_cons, List.length_cons, List.length_append]; omega
/-- The marks that ranges over functions leave. -/
def Marks (w0 N : Nat) (W : World) (ds : List Deferred) : Prop := ∃ Ds : List Nat, ds = Ds.map (fun D => { target := .collected D, args := #[] }) ∧ Ds.Nodup ∧ ∀ D ∈ Ds, w0 ≤ D ∧ D < N ∧ W.heap[D]? = some (.deferred (some []))
theorem Marks.nil (w0 N : Nat) (W : World) : Marks w0 N W [] := ⟨[], rfl, List.nodup_nil, fun _ h => by cases h⟩
theorem Marks.kept {w0 N : Nat} {W W' : World} {ds : List Deferred} (h : Marks w0 N W ds) (k : KeepsOthers W W') : Marks w0 N W' ds := by
  obtain ⟨Ds, h1, h2, h3⟩ := h
  exact ⟨Ds, h1, h2, fun D hD => ⟨(h3 D hD).1, (h3 D hD).2.1, k.same D _ (h3 D hD).2.2 rfl⟩⟩
theorem Marks.push {w0 N N' D : Nat} {W : World} {ds : List Deferred} (h : Marks w0 N W ds) (hD : W.heap[D]? = some (.deferred (some []))) (h0 : w0 ≤ N) (h1 : N ≤ D) (h2 : D < N') : Marks w0 N' W ({ target := .collected D, args := #[] } :: ds) := by
  obtain ⟨Ds, e, h4, h5⟩ := h
  refine ⟨D :: Ds, by rw [e]; rfl, List.nodup_cons.2 ⟨fun hE => by have := (h5 D hE).2.1; omega, h4⟩, fun E hE => ?_⟩
  rcases List.mem_cons.1 hE with rfl | hE
  · exact ⟨by omega, h2, hD⟩
  · obtain ⟨a, b, c⟩ := h5 E hE
    exact ⟨a, by omega, c⟩
/-- The way out past the marks. -/
theorem leaves_marks {F : Fence} {n : Nat} {P : Program} {fn : Func} {tmps : Array Value} {R : Ending → World → Prop} : ∀ (ds : List Deferred) (w0 : Nat) (N : Nat) (W : World), Marks w0 N W ds →
    (∀ W' : World, (∀ k o, W.heap[k]? = some o → (k < w0 ∨ o.isCells = true) → W'.heap[k]? = some o) → W'.os = W.os → W'.tape = W.tape → W'.output = W.output → W'.heap.size = W.heap.size → LeavesIn F n P fn tmps R [] .returning W') → LeavesInM F n P fn tmps R ds .returning W := by
  intro ds
  induction ds with
  | nil => intro w0 N W _ h; exact h W (fun _ _ h _ => h) rfl rfl rfl rfl
  | cons d ds ih =>
    intro w0 N W hm h
    obtain ⟨Ds, h1, h2, h3⟩ := hm
    cases Ds with
    | nil => cases h1
    | cons D Ds =>
      rw [List.map_cons] at h1
      obtain ⟨rfl, h1b⟩ := List.cons.inj h1
      clear h1
      obtain ⟨h4, h5⟩ := List.nodup_cons.1 h2
      obtain ⟨hw, -, hD⟩ := h3 D (by simp)
      refine ⟨by simp, .inl ⟨D, _, rfl, run_takeDeferred hD, ?_⟩⟩
      refine ih w0 N _ ⟨Ds, h1b, h5, fun E hE => ⟨(h3 E (by simp [hE])).1, (h3 E (by simp [hE])).2.1, ?_⟩⟩ ?_
      · rw [World.putObj_heap_other (fun e => h4 (by rw [← e]; exact hE))]
        exact (h3 E (by simp [hE])).2.2
      · intro W' hk h6 h7 h8 h9
        refine h W' (fun k o hko hc => hk k o ?_ hc) h6 h7 h8 (by rw [h9]; simp)
        rw [World.putObj_heap_other (fun e => ?_)]
        · exact hko
        · subst e
          rw [hD] at hko; cases hko
          rcases hc with hc | hc
          · omega
          · cases hc

/-! ### What speaks of cells, and of marks, abides a loop's own record -/
theorem ownFrom_box {β : Type} (B : Nat) (b : Nat) (t : TypeId) (cs : β → Array Value) : OwnFrom B (fun s W => NBox W b t (cs s)) := fun s W W' row hs hg hr =>
  (hg.block b hs.lt (fun e => by obtain ⟨_, o, ho, hc⟩ := hr b e.symm; rw [show W.heap[b]? = _ from hs] at ho; cases ho; cases hc)).trans hs
theorem ownFrom_row {β : Type} (B base e size : Nat) (n : β → Nat) (v : β → Value) (xs : β → List Value) : OwnFrom B (fun s W => W.ownsRow base e size (v s) (n s) (xs s)) := fun s W W' row hs hg hr => by
  refine hs.kept hg ?_
  rcases hv : (v s).ownBlock with _ | g
  · exact .inl rfl
  · refine .inr (fun e => ?_)
    obtain ⟨_, o, ho, hc⟩ := hr g e.symm
    rcases owns_form hs with ⟨h1, _⟩ | ⟨g', cap, cs, h1, _, h2, _⟩
    · rw [h1] at hv; cases hv
    · rw [h1] at hv
      obtain rfl : g' = g := Option.some.inj hv
      rw [show W.heap[g']? = _ from h2] at ho; cases ho; cases hc
theorem ownFrom_marks {β : Type} (B w0 N : Nat) (hN : N ≤ B) (ds : List Deferred) : OwnFrom B (fun (_ : β) W => Marks w0 N W ds) := fun _ W W' row hs hg hr => by
  obtain ⟨Ds, e, h4, h5⟩ := hs
  refine ⟨Ds, e, h4, fun D hD => ?_⟩
  obtain ⟨a, b, c⟩ := h5 D hD
  exact ⟨a, b, (hg.block D (Array.getElem?_eq_some_iff.1 c).1 (fun e => by have := (hr D e.symm).1; omega)).trans c⟩
theorem ownFrom_ex {α β : Type} {B : Nat} {I : α → β → World → Prop} (h : ∀ x, OwnFrom B (I x)) : OwnFrom B (fun s W => ∃ x, I x s W) := fun s W W' row hs hg hr => by
  obtain ⟨x, hx⟩ := hs
  exact ⟨x, h x s W W' row hx hg hr⟩

/-- THE STACK GROWS BY THE CHILDREN, THE LAST ONE FIRST: 'for _, k := range slices.Backward(kids) { stack = append(stack, k) }'. -/
structure StI (w0 W : World) (N B Bk : Nat) (ds : List Deferred) (kv ov stv : Value) (st dn : List Nat) : Prop where
  box : NBox W B 33 #[stv]
  bk : NBox W Bk 33 #[kv]
  st : W.ownsRow w0.heap.size 3 1 stv st.length (ints st)
  out : W.ownsRow w0.heap.size 3 1 ov dn.length (ints dn)
  apart : ∀ g, stv.ownBlock = some g → ov.ownBlock ≠ some g
  ext : Below w0.heap.size w0 W
  mks : Marks w0.heap.size N W ds
theorem StI.own (w0 : World) (N B Bk B0 : Nat) (hN : N ≤ B0) (hB : w0.heap.size ≤ B0) (ds : List Deferred) (kv ov : Value) (f : List (Nat × Nat) → List Nat) (dn : List Nat) : OwnFrom B0 (fun pre W => ∃ stv, StI w0 W N B Bk ds kv ov stv (f pre) dn) := by
  refine ownFrom_ex fun stv => ?_
  intro s W W' row hs hg hr
  exact ⟨ownFrom_box (β := Unit) B0 B 33 (fun _ => #[stv]) () W W' row hs.box hg hr, ownFrom_box (β := Unit) B0 Bk 33 (fun _ => #[kv]) () W W' row hs.bk hg hr, ownFrom_row (β := Unit) B0 _ 3 1 (fun _ => _) (fun _ => _) (fun _ => _) () W W' row hs.st hg hr,
    ownFrom_row (β := Unit) B0 _ 3 1 (fun _ => _) (fun _ => _) (fun _ => _) () W W' row hs.out hg hr, hs.apart, ownFrom_below (β := Unit) (Nat.le_refl _) hB () W W' row hs.ext hg hr, ownFrom_marks (β := Unit) B0 _ N hN ds () W W' row hs.mks hg hr⟩
theorem StI.alloc {w0 W : World} {N B Bk : Nat} {ds : List Deferred} {kv ov stv : Value} {st dn : List Nat} (h : StI w0 W N B Bk ds kv ov stv st dn) (o : Obj) : StI w0 (W.alloc o) N B Bk ds kv ov stv st dn :=
  ⟨h.box.ext ((Ext.refl _).alloc _), h.bk.ext ((Ext.refl _).alloc _), owns_ext ((Ext.refl _).alloc _) h.st, owns_ext ((Ext.refl _).alloc _) h.out, h.apart, h.ext.alloc h.ext.size o, h.mks.kept (KeepsOthers.alloc W o)⟩
theorem KeepB.alloc {n₀ Bk : Nat} {v : Value} (W : World) (o : Obj) (h : n₀ ≤ W.heap.size) : KeepB n₀ Bk v W (W.alloc o) := ⟨(Below.refl _ _).alloc h o, fun hb => hb.ext ((Ext.refl _).alloc _)⟩
/-- One more on the stack, by append. -/
theorem StI.push {w0 W W' : World} {N B Bk : Nat} {ds : List Deferred} {kv ov stv stv' : Value} {st dn : List Nat} {k : Nat} (h : StI w0 W N B Bk ds kv ov stv st dn) (hne : B ≠ Bk) (hB : w0.heap.size ≤ B) (hg : W.grownBy W' stv.ownBlock) (hat : stv'.ownBlock = stv.ownBlock ∨ stv'.ownBlock = some W.heap.size) (hO : W'.ownsRow w0.heap.size 3 1 stv' (st.length + 1) (ints st ++ [.int .i64 (k : Int)])) :
    StI w0 (W'.setCell ⟨B, 0, none⟩ stv') N B Bk ds kv ov stv' (st ++ [k]) dn ∧ KeepB w0.heap.size Bk kv W (W'.setCell ⟨B, 0, none⟩ stv') ∧ KeepsOthers W (W'.setCell ⟨B, 0, none⟩ stv') ∧ NBox W' B 33 #[stv] := by
  have notrow : ∀ {b : Nat} {cs : Array Value}, NBox W b 33 cs → some b ≠ stv.ownBlock := by
    intro b cs hb e
    rcases owns_form h.st with ⟨h1, _⟩ | ⟨g', cap, cs', h1, _, h2, _⟩
    · rw [h1] at e; cases e
    · rw [h1] at e
      obtain rfl : b = g' := Option.some.inj e
      have : some (Obj.cells cs 33 (0, 0)) = some (Obj.cells cs' 3 (0, 0)) := (show W.heap[b]? = _ from hb).symm.trans h2
      cases this
  have b1 : NBox W' B 33 #[stv] := (hg.block B h.box.lt (notrow h.box)).trans h.box
  have F := Fr.setCell W' B 0 stv'
  have k1 : NBox W' Bk 33 #[kv] := (hg.block Bk h.bk.lt (notrow h.bk)).trans h.bk
  have rowne : ∀ {base n : Nat} {v : Value} {xs : List Value}, W'.ownsRow base 3 1 v n xs → ∀ g, v.ownBlock = some g → ¬ g = B := by
    intro base n v xs hv g hg' e
    subst e
    rcases owns_form hv with ⟨h1, _⟩ | ⟨g', cap, cs', h1, _, h2, _⟩
    · rw [h1] at hg'; cases hg'
    · rw [h1] at hg'
      obtain rfl : g' = g := Option.some.inj hg'
      have : some (Obj.cells #[stv] 33 (0, 0)) = some (Obj.cells cs' 3 (0, 0)) := (show W'.heap[g']? = _ from b1).symm.trans h2
      cases this
  have hout : W'.ownsRow w0.heap.size 3 1 ov dn.length (ints dn) := by
    refine h.out.kept hg ?_
    rcases ho : ov.ownBlock with _ | g
    · exact .inl rfl
    · exact .inr (fun e => h.apart g e.symm ho)
  have hB1 : Below w0.heap.size W (W'.setCell ⟨B, 0, none⟩ stv') := Below.setCell ((Below.refl _ _).grown hg h.ext.size (fun k e => (h.st.lt k e).1)) (p := ⟨B, 0, none⟩) hB _
  have hKO : KeepsOthers W (W'.setCell ⟨B, 0, none⟩ stv') := by
    refine KeepsOthers.trans (KeepsOthers.of_grownBy hg fun j o ej hj => ?_) (KeepsOthers.setCell _ _ _)
    rcases owns_form h.st with ⟨h1, _⟩ | ⟨g', cap, cs', h1, _, h2, _⟩
    · rw [h1] at ej; cases ej
    · rw [h1] at ej
      obtain rfl : g' = j := Option.some.inj ej
      rw [show W.heap[g']? = _ from h2] at hj; cases hj; rfl
  refine ⟨⟨b1.set 0 _, k1.fr F (fun e => hne e.symm), owns_fr F (by simpa [ints] using hO) (rowne hO), owns_fr F hout (rowne hout), fun g hg' => ?_, h.ext.trans hB1, h.mks.kept hKO⟩, ⟨hB1, fun _ => k1.fr F (fun e => hne e.symm)⟩, hKO, b1⟩
  rcases hat with h1 | h1
  · exact h.apart g (h1.symm.trans hg')
  · rw [h1] at hg'
    intro ho
    have := (h.out.lt g ho).2
    have := Option.some.inj hg'
    omega
end Go.Proofs.Ytobbdeakocgdcaa.Ar
