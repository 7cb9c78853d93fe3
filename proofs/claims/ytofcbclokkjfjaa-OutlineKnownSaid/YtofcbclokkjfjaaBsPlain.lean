/- Chapter 17: what in memory reads as a list of operations; boxes; what a call may have changed; a writer. Nothing of the program is named here. -/
import Derived.Test.YtofcbclokkjfjaaWiTree
namespace Go.Proofs.Ytofcbclokkjfjaa.Wi
open Go.RowKit Go.Proofs.Ytofcbclokkjfjaa.Bw

/-- A row of pieces from an address on. -/
def rdPcs (w : World) (b : Nat) : Nat → List Pc → Prop
 | _, [] => True
 | off, p :: r => w.cell? ⟨b, off, none⟩ = some (.int .i64 p.keep) ∧ w.cell? ⟨b, off + 1, none⟩ = some (.int .i64 p.drop) ∧ w.cell? ⟨b, off + 2, none⟩ = some (.string p.put) ∧ okStr p.put ∧ rdPcs w b (off + 3) r
/-- A slice value that reads as a row of pieces. -/
def RdP (w : World) (l : List Pc) (v : Value) : Prop :=
 ∃ A c, v = .slice A l.length c ∧ l.length ≤ c ∧ c ≤ maxLen ∧ (0 < l.length → ∃ b off, A = some ⟨b, off, none⟩ ∧ rdPcs w b off l)
theorem rdPcs_ext {w w' : World} (h : Ext w w') {b : Nat} : ∀ {off : Nat} {l : List Pc}, rdPcs w b off l → rdPcs w' b off l
 | _, [], _ => trivial
 | _, _ :: _, ⟨h1, h2, h3, h4, h5⟩ => ⟨h.cell h1, h.cell h2, h.cell h3, h4, rdPcs_ext h h5⟩
theorem RdP.ext {w w' : World} (h : Ext w w') {l : List Pc} {v : Value} (hr : RdP w l v) : RdP w' l v := by
 obtain ⟨A, c, e, h1, h2, h3⟩ := hr
 refine ⟨A, c, e, h1, h2, fun h0 => ?_⟩
 obtain ⟨b, off, h4, h5⟩ := h3 h0
 exact ⟨b, off, h4, rdPcs_ext h h5⟩
theorem rdPcs_at {w : World} {b : Nat} : ∀ {l : List Pc} {off i : Nat} {p : Pc}, rdPcs w b off l → l[i]? = some p →
  w.cell? ⟨b, off + i * 3, none⟩ = some (.int .i64 p.keep) ∧ w.cell? ⟨b, off + i * 3 + 1, none⟩ = some (.int .i64 p.drop) ∧ w.cell? ⟨b, off + i * 3 + 2, none⟩ = some (.string p.put) ∧ p.put.size ≤ maxLen
 | [], _, _, _, _, h => by simp at h
 | x :: r, off, 0, p, hr, h => by
  simp at h; obtain rfl := h
  obtain ⟨h1, h2, h3, h4, _⟩ := hr
  simpa using ⟨h1, h2, h3, h4⟩
 | x :: r, off, i + 1, p, hr, h => by
  obtain ⟨_, _, _, _, h5⟩ := hr
  have := rdPcs_at (i := i) h5 (by simpa using h)
  rw [show off + (i + 1) * 3 = off + 3 + i * 3 by omega]
  exact this
/-- A slice value that reads as a row of int. -/
abbrev RdI (w : World) (p : List Int) (v : Value) : Prop := RdS w 1 p.length (p.map (Value.int .i64)) v
def i64 (n : Int) : Prop := -9223372036854775808 ≤ n ∧ n ≤ 9223372036854775807
def OpD.rd (w : World) (o : OpD) (v : Value) : Prop := ∃ pv tv cv, v = .agg #[.int .u8 o.kind, pv, .int .i64 o.at_, tv, .int .u64 o.id, .bool o.leaf, .string o.label, .string o.key, .string o.value, .bool o.gone, cv] ∧
 RdI w o.path pv ∧ RdI w o.to tv ∧ RdP w o.pcs cv ∧ okStr o.label ∧ okStr o.key ∧ okStr o.value ∧ (0 ≤ o.id ∧ o.id ≤ 18446744073709551615) ∧ (0 ≤ o.kind ∧ o.kind ≤ 255)
theorem OpD.rd_ext {w w' : World} (h : Ext w w') {o : OpD} {v : Value} (hr : o.rd w v) : o.rd w' v := by
 obtain ⟨pv, tv, cv, e, h1, h2, h3, h4⟩ := hr
 exact ⟨pv, tv, cv, e, RdS.ext h h1, RdS.ext h h2, RdP.ext h h3, h4⟩
/-- A row of operations from an address on: cell by cell. -/
def rdOps (w : World) (b : Nat) : Nat → List OpD → Prop
 | _, [] => True
 | off, o :: r => (∃ pv tv cv, w.cell? ⟨b, off, none⟩ = some (.int .u8 o.kind) ∧ w.cell? ⟨b, off + 1, none⟩ = some pv ∧ w.cell? ⟨b, off + 2, none⟩ = some (.int .i64 o.at_) ∧ w.cell? ⟨b, off + 3, none⟩ = some tv ∧ w.cell? ⟨b, off + 4, none⟩ = some (.int .u64 o.id) ∧
   w.cell? ⟨b, off + 5, none⟩ = some (.bool o.leaf) ∧ w.cell? ⟨b, off + 6, none⟩ = some (.string o.label) ∧ w.cell? ⟨b, off + 7, none⟩ = some (.string o.key) ∧ w.cell? ⟨b, off + 8, none⟩ = some (.string o.value) ∧ w.cell? ⟨b, off + 9, none⟩ = some (.bool o.gone) ∧ w.cell? ⟨b, off + 10, none⟩ = some cv ∧
   o.rd w (.agg #[.int .u8 o.kind, pv, .int .i64 o.at_, tv, .int .u64 o.id, .bool o.leaf, .string o.label, .string o.key, .string o.value, .bool o.gone, cv])) ∧ rdOps w b (off + 11) r
theorem rdOps_ext {w w' : World} (h : Ext w w') {b : Nat} : ∀ {off : Nat} {l : List OpD}, rdOps w b off l → rdOps w' b off l
 | _, [], _ => trivial
 | _, _ :: _, ⟨⟨pv, tv, cv, h0, h1, h2, h3, h4, h5, h6, h7, h8, h9, h10, h11⟩, hr⟩ => ⟨⟨pv, tv, cv, h.cell h0, h.cell h1, h.cell h2, h.cell h3, h.cell h4, h.cell h5, h.cell h6, h.cell h7, h.cell h8, h.cell h9, h.cell h10, OpD.rd_ext h h11⟩, rdOps_ext h hr⟩
/-- A slice value that reads as a list of operations. -/
def RdL (w : World) (l : List OpD) (v : Value) : Prop :=
 ∃ A c, v = .slice A l.length c ∧ l.length ≤ c ∧ c ≤ maxLen ∧ (0 < l.length → ∃ b off, A = some ⟨b, off, none⟩ ∧ rdOps w b off l)
theorem RdL.ext {w w' : World} (h : Ext w w') {l : List OpD} {v : Value} (hr : RdL w l v) : RdL w' l v := by
 obtain ⟨A, c, e, h1, h2, h3⟩ := hr
 refine ⟨A, c, e, h1, h2, fun h0 => ?_⟩
 obtain ⟨b, off, h4, h5⟩ := h3 h0
 exact ⟨b, off, h4, rdOps_ext h h5⟩
theorem rdOps_at {w : World} {b : Nat} : ∀ {l : List OpD} {off i : Nat} {o : OpD}, rdOps w b off l → l[i]? = some o → rdOps w b (off + i * 11) [o]
 | [], _, _, _, _, h => by simp at h
 | x :: r, off, 0, o, hr, h => by
  simp at h; obtain rfl := h
  exact ⟨by simpa using hr.1, trivial⟩
 | x :: r, off, i + 1, o, hr, h => by
  have := rdOps_at (i := i) hr.2 (by simpa using h)
  rw [show off + (i + 1) * 11 = off + 11 + i * 11 by omega]
  exact this

/-! ### Boxes -/
theorem cell_of_blk {W : World} {b i : Nat} {c : Array Value} {t : TypeId} {fz : Nat × Nat} (h : W.heap[b]? = some (.cells c t fz)) : W.cell? ⟨b, i, none⟩ = c[i]? := by
 simp [World.cell?, h]
/-- A box: a new block of cells. -/
def NBox (W : World) (B : Nat) (t : TypeId) (cs : Array Value) : Prop := W.heap[B]? = some (.cells cs t (0, 0))
theorem NBox.new (W : World) (t : TypeId) (cs : Array Value) : NBox (W.alloc (.cells cs t)) W.heap.size t cs := World.alloc_heap_new W _
theorem NBox.cell {W : World} {B : Nat} {t : TypeId} {cs : Array Value} (h : NBox W B t cs) (i : Nat) : W.cell? ⟨B, i, none⟩ = cs[i]? := cell_of_blk h
theorem NBox.c6 {W : World} {B : Nat} {t : TypeId} {x0 x1 x2 x3 x4 x5 : Value} (h : NBox W B t #[x0, x1, x2, x3, x4, x5]) : W.cell? ⟨B, 0, none⟩ = some x0 ∧ W.cell? ⟨B, 1, none⟩ = some x1 ∧ W.cell? ⟨B, 2, none⟩ = some x2 ∧ W.cell? ⟨B, 3, none⟩ = some x3 ∧ W.cell? ⟨B, 4, none⟩ = some x4 ∧ W.cell? ⟨B, 5, none⟩ = some x5 := ⟨h.cell 0, h.cell 1, h.cell 2, h.cell 3, h.cell 4, h.cell 5⟩
theorem NBox.c11 {W : World} {B : Nat} {t : TypeId} {x0 x1 x2 x3 x4 x5 x6 x7 x8 x9 x10 : Value} (h : NBox W B t #[x0, x1, x2, x3, x4, x5, x6, x7, x8, x9, x10]) : W.cell? ⟨B, 0, none⟩ = some x0 ∧ W.cell? ⟨B, 1, none⟩ = some x1 ∧ W.cell? ⟨B, 2, none⟩ = some x2 ∧ W.cell? ⟨B, 3, none⟩ = some x3 ∧ W.cell? ⟨B, 4, none⟩ = some x4 ∧ W.cell? ⟨B, 5, none⟩ = some x5 ∧ W.cell? ⟨B, 6, none⟩ = some x6 ∧ W.cell? ⟨B, 7, none⟩ = some x7 ∧ W.cell? ⟨B, 8, none⟩ = some x8 ∧ W.cell? ⟨B, 9, none⟩ = some x9 ∧ W.cell? ⟨B, 10, none⟩ = some x10 := ⟨h.cell 0, h.cell 1, h.cell 2, h.cell 3, h.cell 4, h.cell 5, h.cell 6, h.cell 7, h.cell 8, h.cell 9, h.cell 10⟩
theorem NBox.ext {W W' : World} (he : Ext W W') {B : Nat} {t : TypeId} {cs : Array Value} (h : NBox W B t cs) : NBox W' B t cs := (he.block B (Array.getElem?_eq_some_iff.1 h).1).trans h
theorem NBox.set {W : World} {B : Nat} {t : TypeId} {cs : Array Value} (h : NBox W B t cs) (i : Nat) (u : Value) : NBox (W.setCell ⟨B, i, none⟩ u) B t (cs.setIfInBounds i u) := by
 unfold NBox at h ⊢
 simp [World.setCell, Array.getElem?_modify, h]
theorem NBox.frozen {W : World} {B : Nat} {t : TypeId} {cs : Array Value} (h : NBox W B t cs) (i : Nat) : W.frozen? ⟨B, i, none⟩ = false := by
 unfold NBox at h; simp [World.frozen?, h]
theorem NBox.f6 {W : World} {B : Nat} {t : TypeId} {cs : Array Value} (h : NBox W B t cs) : W.frozen? ⟨B, 0, none⟩ = false ∧ W.frozen? ⟨B, 1, none⟩ = false ∧ W.frozen? ⟨B, 2, none⟩ = false ∧ W.frozen? ⟨B, 3, none⟩ = false ∧ W.frozen? ⟨B, 4, none⟩ = false ∧ W.frozen? ⟨B, 5, none⟩ = false := ⟨h.frozen 0, h.frozen 1, h.frozen 2, h.frozen 3, h.frozen 4, h.frozen 5⟩
theorem NBox.f11 {W : World} {B : Nat} {t : TypeId} {cs : Array Value} (h : NBox W B t cs) : W.frozen? ⟨B, 0, none⟩ = false ∧ W.frozen? ⟨B, 1, none⟩ = false ∧ W.frozen? ⟨B, 2, none⟩ = false ∧ W.frozen? ⟨B, 3, none⟩ = false ∧ W.frozen? ⟨B, 4, none⟩ = false ∧ W.frozen? ⟨B, 5, none⟩ = false ∧ W.frozen? ⟨B, 6, none⟩ = false ∧ W.frozen? ⟨B, 7, none⟩ = false ∧ W.frozen? ⟨B, 8, none⟩ = false ∧ W.frozen? ⟨B, 9, none⟩ = false ∧ W.frozen? ⟨B, 10, none⟩ = false := ⟨h.frozen 0, h.frozen 1, h.frozen 2, h.frozen 3, h.frozen 4, h.frozen 5, h.frozen 6, h.frozen 7, h.frozen 8, h.frozen 9, h.frozen 10⟩
theorem NBox.not_own {W : World} {b : Nat} {t : TypeId} {cs : Array Value} {base e size n : Nat} {v : Value} {xs : List Value} (h : NBox W b t cs) (ho : W.ownsRow base e size v n xs) (hne : t ≠ e) : v.ownBlock ≠ some b := by
 intro hv
 rcases ho.2 with ⟨h2, _⟩ | ⟨g, cap, cur, h1, _, hg, r⟩
 ·rw [h2] at hv; exact absurd hv (by simp [Value.ownBlock])
 ·rw [h1] at hv
  obtain rfl : g = b := by simpa [Value.ownBlock] using hv
  have := h.symm.trans hg
  simp at this
  exact hne this.2
theorem NBox.lt {W : World} {B : Nat} {t : TypeId} {cs : Array Value} (h : NBox W B t cs) : B < W.heap.size := (Array.getElem?_eq_some_iff.1 h).1
theorem NBox.apart {W : World} {a b : Nat} {t u : TypeId} {cs ds : Array Value} (h : NBox W a t cs) (k : NBox W b u ds) (hne : t ≠ u) : a ≠ b := by
 rintro rfl
 have : some (Obj.cells cs t (0, 0)) = some (Obj.cells ds u (0, 0)) := h.symm.trans k
 simp only [Option.some.injEq, Obj.cells.injEq] at this
 exact hne this.2.1

/-! ### What a call may have changed -/
/-- Of what was there, nothing changed but blocks of S. -/
structure Fr (W W' : World) (S : Nat → Prop) : Prop where
 os : W'.os = W.os
 tape : W'.tape = W.tape
 output : W'.output = W.output
 size : W.heap.size ≤ W'.heap.size
 block : ∀ k, k < W.heap.size → ¬ S k → W'.heap[k]? = W.heap[k]?
theorem Fr.of_ext {W W' : World} (h : Ext W W') (S : Nat → Prop) : Fr W W' S := ⟨h.os, h.tape, h.output, h.size, fun k hk _ => h.block k hk⟩
theorem Fr.refl (W : World) (S : Nat → Prop) : Fr W W S := Fr.of_ext (Ext.refl W) S
theorem Fr.trans {A B C : World} {S : Nat → Prop} (h : Fr A B S) (k : Fr B C S) : Fr A C S :=
 ⟨k.os.trans h.os, k.tape.trans h.tape, k.output.trans h.output, Nat.le_trans h.size k.size, fun i hi hs => (k.block i (Nat.lt_of_lt_of_le hi h.size) hs).trans (h.block i hi hs)⟩
theorem Fr.mono {A B : World} {S T : Nat → Prop} (h : Fr A B S) (hst : ∀ k, S k → T k) : Fr A B T := ⟨h.os, h.tape, h.output, h.size, fun k hk hs => h.block k hk (fun h0 => hs (hst k h0))⟩
/-- New blocks may change: they were not there. -/
theorem Fr.new {A B : World} {S : Nat → Prop} (h : Fr A B (fun k => S k ∨ A.heap.size ≤ k)) : Fr A B S := ⟨h.os, h.tape, h.output, h.size, fun k hk hs => h.block k hk (fun h0 => h0.elim hs (fun h1 => absurd h1 (by omega)))⟩
theorem Fr.ext {w A B : World} {S : Nat → Prop} (h : Ext w A) (k : Fr A B S) (hs : ∀ i, S i → w.heap.size ≤ i) : Ext w B :=
 ⟨k.os.trans h.os, k.tape.trans h.tape, k.output.trans h.output, Nat.le_trans h.size k.size, fun i hi => (k.block i (Nat.lt_of_lt_of_le hi h.size) (fun h0 => absurd (hs i h0) (by omega))).trans (h.block i hi)⟩
theorem NBox.fr {A B : World} {S : Nat → Prop} (k : Fr A B S) {b : Nat} {t : TypeId} {cs : Array Value} (h : NBox A b t cs) (hb : ¬ S b) : NBox B b t cs := (k.block b (Array.getElem?_eq_some_iff.1 h).1 hb).trans h
theorem owns_fr {A B : World} {S : Nat → Prop} (k : Fr A B S) {base e size n : Nat} {v : Value} {xs : List Value} (h : A.ownsRow base e size v n xs) (hb : ∀ g, v.ownBlock = some g → ¬ S g) : B.ownsRow base e size v n xs := by
 refine ⟨h.1, ?_⟩
 rcases h.2 with h2 | ⟨g, cap, cur, hv, h1, hg, r⟩
 ·exact .inl h2
 ·exact .inr ⟨g, cap, cur, hv, h1, (k.block g (Array.getElem?_eq_some_iff.1 hg).1 (hb g (by rw [hv]; rfl))).trans hg, r⟩
theorem Fr.grown {A B : World} {row : Option Nat} (h : A.grownBy B row) : Fr A B (fun k => row = some k) := ⟨h.os, h.tape, h.output, h.size, fun k hk hs => h.block k hk (fun e => hs e.symm)⟩
theorem Fr.setCell (W : World) (B i : Nat) (u : Value) : Fr W (W.setCell ⟨B, i, none⟩ u) (fun k => k = B) := by
 have h := Below.setCell (Below.refl 0 W) (p := ⟨B, i, none⟩) (Nat.zero_le _) u
 exact ⟨h.os, h.tape, h.output, h.size, fun k _ hs => Below.heap_setCell W ⟨B, i, none⟩ u k hs⟩
theorem lt_of_cell {W : World} {b i : Nat} {u : Value} (h : W.cell? ⟨b, i, none⟩ = some u) : b < W.heap.size := by
 rcases Nat.lt_or_ge b W.heap.size with h1 | h1
 ·exact h1
 ·simp [World.cell?, Array.getElem?_eq_none h1] at h
theorem Fr.cell {W W' : World} {S : Nat → Prop} {b i : Nat} {u : Value} (F : Fr W W' S) (hb : ¬ S b) (h : W.cell? ⟨b, i, none⟩ = some u) : W'.cell? ⟨b, i, none⟩ = some u := by
 have e := F.block b (lt_of_cell h) hb
 have : W'.cell? ⟨b, i, none⟩ = W.cell? ⟨b, i, none⟩ := by simp [World.cell?, e]
 rw [this]; exact h
end Go.Proofs.Ytofcbclokkjfjaa.Wi
namespace Go.Proofs.Ytofcbclokkjfjaa.Bs

/-- What of an operation matters: its kind, path, gap, target; whether it is formed. -/
structure Sh where
  kind : Int
  path : List Int
  gap : Int
  «to» : List Int
  formed : Bool
  /-- How a number comes back into its bounds. -/
  wr : Int → Int

def within (p q : List Int) : Bool := decide (p.length ≤ q.length) && decide (q.take p.length = p)
def Sh.takes (o : Sh) : Bool := decide (o.kind ≠ 1)
def Sh.puts (o : Sh) : Bool := decide (o.kind ≠ 2)
def Sh.goal (o : Sh) : List Int := if o.kind = 1 then o.path else o.to
def Sh.from_ (o : Sh) : List Int := o.path.dropLast
def Sh.num (o : Sh) : Int := o.path.getLastD 0
def Sh.moves (o : Sh) : Bool := o.formed && (decide (o.kind = 1) || decide (o.kind = 2) && decide (o.path ≠ []) || decide (o.kind = 3) && decide (o.path ≠ []) && !within o.path o.to)
def Sh.number (o : Sh) (p : List Int) (k : Int) : Int :=
  if o.puts && decide (o.gap ≤ k) && decide (p = o.goal) then o.wr ((if o.takes && decide (o.num < k) && decide (p = o.from_) then o.wr (k - 1) else k) + 1)
  else if o.takes && decide (o.num < k) && decide (p = o.from_) then o.wr (k - 1) else k
def Sh.land (o : Sh) : Int := if o.num < o.gap ∧ o.from_ = o.goal then o.wr (o.gap - 1) else o.gap
/-- Each number of a path, as it is behind the operation; 'pre': what was gone by. -/
def Sh.go (o : Sh) : List Int → List Int → List Int
  | _, [] => []
  | pre, k :: r => o.number pre k :: o.go (pre ++ [k]) r
/-- The program's. -/
def Sh.node (o : Sh) (p : List Int) : Option (List Int) :=
  if o.moves = false then some p
  else if o.takes && within o.path p then
    if o.puts then some (o.go [] o.to ++ [o.land] ++ p.drop o.path.length) else none
  else some (o.go [] p)

/-- The document's: the number of a child. -/
def Sh.child (o : Sh) (p : List Int) (k : Int) : Option Int :=
  if o.kind = 1 then (if p = o.path ∧ o.gap ≤ k then some (o.wr (k + 1)) else some k)
  else if p = o.from_ ∧ k = o.num then none
  else if o.kind = 3 ∧ p = o.to ∧ o.gap ≤ k then some (o.wr ((if p = o.from_ ∧ o.num < k then o.wr (k - 1) else k) + 1))
  else some (if p = o.from_ ∧ o.num < k then o.wr (k - 1) else k)

theorem within_iff (p q : List Int) : within p q = true ↔ ∃ r, q = p ++ r := by
  unfold within
  rw [Bool.and_eq_true, decide_eq_true_eq, decide_eq_true_eq]
  constructor
  · rintro ⟨_, h⟩; exact ⟨q.drop p.length, by have := List.take_append_drop p.length q; rw [h] at this; exact this.symm⟩
  · rintro ⟨r, rfl⟩; simp
theorem within_nil (q : List Int) : within [] q = true := by rw [within_iff]; exact ⟨q, rfl⟩



end Go.Proofs.Ytofcbclokkjfjaa.Bs
