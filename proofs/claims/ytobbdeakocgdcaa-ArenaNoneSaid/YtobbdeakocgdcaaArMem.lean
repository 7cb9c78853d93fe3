/- Chapter 07: what a call may have changed; blocks, rows, and cells put one behind the other. Nothing of the program is named here. -/
import Derived.Test.YtobbdeakocgdcaaArStep
import Derived.Test.YtobbdeakocgdcaaBwMem
import Derived.Laws.IdiomCopy
namespace Go.Proofs.Ytobbdeakocgdcaa.Ar
open Go.RowKit Go.Proofs.Ytobbdeakocgdcaa.Bw

/-- Of what was there, nothing changed but blocks of S. -/
structure Fr (W W' : World) (S : Nat → Prop) : Prop where
  os : W'.os = W.os
  tape : W'.tape = W.tape
  output : W'.output = W.output
  size : W.heap.size ≤ W'.heap.size
  block : ∀ k, k < W.heap.size → ¬ S k → W'.heap[k]? = W.heap[k]?
theorem Fr.of_ext {W W' : World} (h : Ext W W') (S : Nat → Prop) : Fr W W' S := ⟨h.os, h.tape, h.output, h.size, fun k hk _ => h.block k hk⟩
theorem Fr.refl (W : World) (S : Nat → Prop) : Fr W W S := Fr.of_ext (Ext.refl W) S
theorem Fr.trans {A B C : World} {S : Nat → Prop} (h : Fr A B S) (k : Fr B C S) : Fr A C S :=
  ⟨k.os.trans h.os, k.tape.trans h.tape, k.output.trans h.output, Nat.le_trans h.size k.size, fun i hi hs => (k.block i (Nat.lt_of_lt_of_le hi h.size) hs).trans (h.block i hi hs)⟩
theorem Fr.mono {A B : World} {S T : Nat → Prop} (h : Fr A B S) (hst : ∀ k, k < A.heap.size → S k → T k) : Fr A B T := ⟨h.os, h.tape, h.output, h.size, fun k hk hs => h.block k hk (fun h0 => hs (hst k hk h0))⟩
theorem Fr.drew {A B : World} {S : Nat → Prop} (h : Fr A B S) : Fr A B.drew S := ⟨h.os, h.tape, h.output, h.size, h.block⟩
theorem Fr.ext {w A B : World} {S : Nat → Prop} (h : Ext w A) (k : Fr A B S) (hs : ∀ i, S i → w.heap.size ≤ i) : Ext w B :=
  ⟨k.os.trans h.os, k.tape.trans h.tape, k.output.trans h.output, Nat.le_trans h.size k.size, fun i hi => (k.block i (Nat.lt_of_lt_of_le hi h.size) (fun h0 => absurd (hs i h0) (by omega))).trans (h.block i hi)⟩
theorem Fr.setCell (w : World) (b i : Nat) (v : Value) : Fr w (w.setCell ⟨b, i, none⟩ v) (fun k => k = b) := by
  refine ⟨rfl, rfl, rfl, by simp [World.setCell], fun k _ hk => ?_⟩
  simp only [World.setCell, Array.getElem?_modify]
  rw [if_neg (fun e => hk e.symm)]
theorem Fr.setCells (b : Nat) : ∀ (vs : List Value) (o : Nat) (w : World), Fr w (w.setCells b o vs) (fun k => k = b)
  | [], _, w => Fr.refl w _
  | v :: r, o, w => by rw [World.setCells]; exact (Fr.setCell w b o v).trans (Fr.setCells b r (o + 1) _)

/-- A block of plain cells. -/
def NBox (W : World) (B : Nat) (t : TypeId) (cs : Array Value) : Prop := W.heap[B]? = some (.cells cs t (0, 0))
theorem NBox.lt {W : World} {B : Nat} {t : TypeId} {cs : Array Value} (h : NBox W B t cs) : B < W.heap.size := (Array.getElem?_eq_some_iff.1 h).1
theorem NBox.new (W : World) (t : TypeId) (cs : Array Value) : NBox (W.alloc (.cells cs t)) W.heap.size t cs := World.alloc_heap_new W _
theorem NBox.cell {W : World} {B : Nat} {t : TypeId} {cs : Array Value} (h : NBox W B t cs) (i : Nat) : W.cell? ⟨B, i, none⟩ = cs[i]? := by simp [World.cell?, show W.heap[B]? = _ from h]
theorem NBox.frozen {W : World} {B : Nat} {t : TypeId} {cs : Array Value} (h : NBox W B t cs) (i : Nat) : W.frozen? ⟨B, i, none⟩ = false := by simp [World.frozen?, show W.heap[B]? = _ from h]
theorem NBox.fr {A B : World} {S : Nat → Prop} (k : Fr A B S) {b : Nat} {t : TypeId} {cs : Array Value} (h : NBox A b t cs) (hb : ¬ S b) : NBox B b t cs := (k.block b h.lt hb).trans h
theorem NBox.ext {W W' : World} (he : Ext W W') {B : Nat} {t : TypeId} {cs : Array Value} (h : NBox W B t cs) : NBox W' B t cs := (he.block B h.lt).trans h
theorem NBox.set {W : World} {B : Nat} {t : TypeId} {cs : Array Value} (h : NBox W B t cs) (i : Nat) (v : Value) : NBox (W.setCell ⟨B, i, none⟩ v) B t (cs.setIfInBounds i v) := by
  simp [NBox, World.setCell, Array.getElem?_modify, show W.heap[B]? = _ from h]
/-- Cells put over cells. -/
def over (cs : Array Value) : Nat → List Value → Array Value
  | _, [] => cs
  | o, v :: r => over (cs.setIfInBounds o v) (o + 1) r
theorem NBox.sets {B : Nat} {t : TypeId} : ∀ (vs : List Value) (o : Nat) {W : World} {cs : Array Value}, NBox W B t cs → NBox (W.setCells B o vs) B t (over cs o vs)
  | [], _, _, _, h => h
  | v :: r, o, _, _, h => by rw [World.setCells, over]; exact NBox.sets r (o + 1) (h.set o v)
theorem over_size : ∀ (vs : List Value) (o : Nat) (cs : Array Value), (over cs o vs).size = cs.size
  | [], _, _ => rfl
  | v :: r, o, cs => by rw [over, over_size r]; simp
theorem over_out : ∀ (vs : List Value) (o : Nat) (cs : Array Value) (i : Nat), (i < o ∨ o + vs.length ≤ i) → (over cs o vs)[i]? = cs[i]?
  | [], _, _, _, _ => rfl
  | v :: r, o, cs, i, h => by
    rw [List.length_cons] at h
    rw [over, over_out r (o + 1) _ i (by omega)]
    rw [Array.getElem?_setIfInBounds, if_neg (by omega)]
theorem over_in : ∀ (vs : List Value) (o : Nat) (cs : Array Value) (j : Nat), j < vs.length → o + vs.length ≤ cs.size → (over cs o vs)[o + j]? = vs[j]?
  | [], _, _, _, h, _ => by simp at h
  | v :: r, o, cs, 0, _, h => by
    rw [over, over_out r (o + 1) _ _ (by left; omega)]
    simp at h
    simp [Array.getElem?_setIfInBounds]; omega
  | v :: r, o, cs, j + 1, hj, h => by
    rw [over, show o + (j + 1) = (o + 1) + j by omega, over_in r (o + 1) _ j (by simpa using hj) (by simp at h ⊢; omega)]
    simp

def ints (l : List Nat) : List Value := l.map (fun k : Nat => Value.int .i64 (k : Int))
theorem ints_len (l : List Nat) : (ints l).length = l.length := by simp [ints]
theorem ints_one (l : List Nat) : ∀ u ∈ ints l, u.oneCell' = true := by
  intro u hu
  obtain ⟨x, -, rfl⟩ := List.mem_map.1 hu
  rfl
theorem ints_app (l m : List Nat) : ints (l ++ m) = ints l ++ ints m := by simp [ints]
theorem ints_get {l : List Nat} {j : Nat} {u : Value} (h : (ints l)[j]? = some u) : ∃ k, l[j]? = some k ∧ u = .int .i64 (k : Int) := by
  simp only [ints, List.getElem?_map, Option.map_eq_some_iff] at h
  obtain ⟨k, h1, h2⟩ := h
  exact ⟨k, h1, h2.symm⟩
theorem ints_at {l : List Nat} {j k : Nat} (h : l[j]? = some k) : (ints l)[j]? = some (.int .i64 (k : Int)) := by simp [ints, h]

/-- What a row says, out of its block. -/
theorem owns_mk {w : World} {base g n cap size : Nat} {e : TypeId} {cs : Array Value} {xs : List Value} (hb : base ≤ g) (h : NBox w g e cs) (hn : n ≤ cap) (hc : cap ≤ maxLen) (hs : cs.size = cap * size) (hx : xs.length = n * size) (hx2 : ∀ (j : Nat) (u : Value), xs[j]? = some u → cs[j]? = some u) :
    w.ownsRow base e size (.slice (some ⟨g, 0, none⟩) n cap) n xs := by
  refine ⟨hx, .inr ⟨g, cap, cs, rfl, hb, h, hn, hc, hs, ?_⟩⟩
  have hle : n * size ≤ cs.size := by rw [hs]; exact Nat.mul_le_mul_right _ hn
  apply List.ext_getElem?
  intro j
  rcases Nat.lt_or_ge j (n * size) with hj | hj
  · rw [List.getElem?_take_of_lt hj]
    obtain ⟨u, hu⟩ : ∃ u, xs[j]? = some u := ⟨_, List.getElem?_eq_getElem (by omega)⟩
    rw [hu, Array.getElem?_toList, hx2 j u hu]
  · rw [List.getElem?_eq_none (by simp; omega), List.getElem?_eq_none (by omega)]
theorem owns_form {w : World} {base n size : Nat} {e : TypeId} {v : Value} {xs : List Value} (h : w.ownsRow base e size v n xs) :
    (v = .slice none 0 0 ∧ n = 0 ∧ xs = []) ∨ ∃ g cap cs, v = .slice (some ⟨g, 0, none⟩) n cap ∧ base ≤ g ∧ NBox w g e cs ∧ n ≤ cap ∧ cap ≤ maxLen ∧ cs.size = cap * size ∧ xs.length = n * size ∧ ∀ (j : Nat) (u : Value), xs[j]? = some u → cs[j]? = some u := by
  rcases h.2 with ⟨h1, rfl⟩ | ⟨g, cap, cs, rfl, h2, h3, h4, h5, h6, h7⟩
  · exact .inl ⟨h1, rfl, List.eq_nil_of_length_eq_zero (by simpa using h.1)⟩
  · refine .inr ⟨g, cap, cs, rfl, h2, h3, h4, h5, h6, h.1, fun j u hu => ?_⟩
    rw [← h7] at hu
    have hj : j < n * size := by
      rcases Nat.lt_or_ge j (n * size) with hj | hj
      · exact hj
      · rw [List.getElem?_eq_none (by simp; omega)] at hu; cases hu
    rwa [List.getElem?_take_of_lt hj, Array.getElem?_toList] at hu
theorem owns_fr {A B : World} {S : Nat → Prop} (k : Fr A B S) {base e size n : Nat} {v : Value} {xs : List Value} (h : A.ownsRow base e size v n xs) (hb : ∀ g, v.ownBlock = some g → ¬ S g) : B.ownsRow base e size v n xs := by
  refine ⟨h.1, ?_⟩
  rcases h.2 with h2 | ⟨g, cap, cur, hv, h1, hg, r⟩
  · exact .inl h2
  · exact .inr ⟨g, cap, cur, hv, h1, (k.block g (Array.getElem?_eq_some_iff.1 hg).1 (hb g (by rw [hv]; rfl))).trans hg, r⟩
theorem owns_slice {w : World} {base n size : Nat} {e : TypeId} {v : Value} {xs : List Value} (h : w.ownsRow base e size v n xs) : ∃ A c, v = .slice A n c ∧ n ≤ c ∧ c ≤ maxLen := by
  rcases owns_form h with ⟨rfl, rfl, _⟩ | ⟨g, cap, cs, rfl, _, _, h4, h5, _⟩
  · exact ⟨none, 0, rfl, Nat.le_refl _, by simp [maxLen]⟩
  · exact ⟨_, cap, rfl, h4, h5⟩
/-- A slice that reads, where some blocks have turned. -/
theorem rds_fr {A B : World} {S : Nat → Prop} (k : Fr A B S) {size n : Nat} {v : Value} {xs : List Value} (h : RdS A size n xs v) (hb : ∀ g, v.ownBlock = some g → ¬ S g) : RdS B size n xs v := by
  obtain ⟨P, c, rfl, h1, h2, h3, h4⟩ := h
  refine ⟨P, c, rfl, h1, h2, h3, fun hn => ?_⟩
  obtain ⟨b, off, rfl, h5⟩ := h4 hn
  refine ⟨b, off, rfl, fun j u hu => ?_⟩
  have h6 := h5 j u hu
  have hlt : b < A.heap.size := World.block_lt_of_cell? A _ h6
  rw [World.cell?_of_block (k.block b hlt (hb b rfl))]
  exact h6

/-- Attributes as cells. -/
def attrCells : List (ByteArray × ByteArray) → List Value
  | [] => []
  | (k, v) :: r => .string k :: .string v :: attrCells r
theorem attrCells_len : ∀ l : List (ByteArray × ByteArray), (attrCells l).length = l.length * 2
  | [] => rfl
  | (k, v) :: r => by simp [attrCells, attrCells_len r]; omega
theorem attrCells_one : ∀ (l : List (ByteArray × ByteArray)) (u : Value), u ∈ attrCells l → u.oneCell' = true
  | [], u, h => by cases h
  | (k, v) :: r, u, h => by
    rcases List.mem_cons.1 h with rfl | h
    · rfl
    · rcases List.mem_cons.1 h with rfl | h
      · rfl
      · exact attrCells_one r u h
theorem attrCells_at : ∀ {l : List (ByteArray × ByteArray)} {j : Nat} {k v : ByteArray}, l[j]? = some (k, v) → (attrCells l)[j * 2]? = some (.string k) ∧ (attrCells l)[j * 2 + 1]? = some (.string v)
  | [], _, _, _, h => by simp at h
  | (a, b) :: r, 0, k, v, h => by
    simp at h; obtain ⟨rfl, rfl⟩ := h
    exact ⟨rfl, rfl⟩
  | (a, b) :: r, j + 1, k, v, h => by
    have := attrCells_at (l := r) (j := j) (by simpa using h)
    rw [show (j + 1) * 2 = j * 2 + 1 + 1 by omega]
    exact ⟨by simpa [attrCells] using this.1, by simpa [attrCells] using this.2⟩
end Go.Proofs.Ytobbdeakocgdcaa.Ar
