/- The data of the program ats plain Lean types, and what it is for a value in memory to read ats such data. Nothing of the program is named here. -/
import Derived.WalkKit
import Derived.Lib.Hide
import Derived.Deep.Draws
import Derived.OrdersHeld
import Derived.Deep.RegionHeld
import Derived.Maps.AppendAt
import Derived.OwnWalkIn
import Derived.RangeFuncBox
namespace Go.Proofs.Ytofcbclokkjfjaa.Bw
open Go.RowKit

/-- What an array of slots does with a value put at one. -/
theorem aS {α : Type} : (∀ (l : List α) (i : Nat) (v : α), l.toArray.setIfInBounds i v = (l.set i v).toArray) ∧ (∀ (a v : α) (l : List α), (a :: l).set 0 v = v :: l) ∧ (∀ (a v : α) (l : List α) (i : Nat), (a :: l).set (i + 1) v = a :: l.set i v) :=
  ⟨fun _ _ _ => List.setIfInBounds_toArray .., fun _ _ _ => List.set_cons_zero .., fun _ _ _ _ => List.set_cons_succ ..⟩
open Go in
theorem tk {P : Program} {ops : Array Oper} {Q : Exit → Act → World → Prop} {md : Region.Mode} {S : World → Prop} (i : Nat) {x1 x2 x3 x4 x5 x6} (v : Value) {fuel : Nat} {listed : Array Bool} {a : Act} {w : World} (hi : ops[i]? = some (Oper.mk x1 x2 x3 x4 x5 x6))
    (hy : YieldsIf P ops S ⟨x1, x2, x3, x4, x5, x6⟩ v a) (hS : S w)
    (h : wpAnyH P md ops Q S fuel (listed.setIfInBounds i true) (a.put x1 v) w) (hs : Region.noSelect ops = true := by kernel_rfl) (hf : Region.free md ops listed i = true := by kernel_rfl) (hr : (Region.ready md ops listed).contains i = true := by kernel_rfl)
    (hQ : ∀ c a w, Q (.panic c) (a.put x1 v) w → Q (.panic c) a w := by exact fun _ _ _ h => h) : wpAnyH P md ops Q S (fuel + 1) listed a w := wpAnyH_take (oi := ⟨x1, x2, x3, x4, x5, x6⟩) hi hs hf hr hQ hy hS h

/-- A tree's node. -/
inductive Nd where
  | mk (id : Int) (leaf : Bool) (label : ByteArray) (attrs : List (ByteArray × ByteArray)) (text : ByteArray) (kids : List Nd)

namespace Nd
def id : Nd → Int | mk i _ _ _ _ _ => i
def leaf : Nd → Bool | mk _ l _ _ _ _ => l
def label : Nd → ByteArray | mk _ _ l _ _ _ => l
def attrs : Nd → List (ByteArray × ByteArray) | mk _ _ _ a _ _ => a
def text : Nd → ByteArray | mk _ _ _ _ t _ => t
def kids : Nd → List Nd | mk _ _ _ _ _ k => k
end Nd

/-- Old memory stays: 'w' is w with more behind it. -/
abbrev Ext (w w' : World) : Prop := Below w.heap.size w w'
theorem Ext.refl (w : World) : Ext w w := Below.refl _ w
theorem Ext.trans {a b c : World} (h : Ext a b) (k : Ext b c) : Ext a c := Below.trans h (Below.mono k h.size)
theorem Ext.drew {a b : World} (h : Ext a b) : Ext a b.drew := Below.drew h
theorem Ext.drewN {a b : World} (h : Ext a b) (n : Nat) : Ext a (b.drewN n) := ⟨h.os, h.tape, h.output, h.size, h.block⟩
theorem Ext.alloc {a b : World} (h : Ext a b) (o : Obj) : Ext a (b.alloc o) := Below.alloc h h.size o
theorem Ext.cell {w w' : World} (h : Ext w w') {p : Addr} {v : Value} (hc : w.cell? p = some v) : w'.cell? p = some v := by
  have hb : p.block < w.heap.size := by
    unfold World.cell? at hc
    rcases Nat.lt_or_ge p.block w.heap.size with hlt | hge
    · exact hlt
    · rw [Array.getElem?_eq_none hge] at hc; cases hc
  rw [Below.cell h hb]; exact hc

/-- A string that fits. -/
def okStr (s : ByteArray) : Prop := s.size ≤ maxLen

/-- An attribute row from an address on. -/
def rdAttrs (w : World) (b : Nat) : Nat → List (ByteArray × ByteArray) → Prop
  | _, [] => True
  | off, (k, v) :: r => w.cell? ⟨b, off, none⟩ = some (.string k) ∧ w.cell? ⟨b, off + 1, none⟩ = some (.string v) ∧ okStr k ∧ okStr v ∧ rdAttrs w b (off + 2) r

/-- A slice value that reads ats an attribute row. -/
def RdA (w : World) (l : List (ByteArray × ByteArray)) (v : Value) : Prop :=
  ∃ A c, v = .slice A l.length c ∧ l.length ≤ c ∧ c ≤ maxLen ∧ (l ≠ [] → ∃ b off, A = some ⟨b, off, none⟩ ∧ rdAttrs w b off l)

mutual
/-- A value that reads ats a node. -/
def Nd.rd (w : World) : Nd → Value → Prop
  | .mk id leaf lb ats tx ks, v => ∃ av A c, v = .agg #[.int .u64 id, .bool leaf, .string lb, av, .string tx, .slice A ks.length c] ∧ (0 ≤ id ∧ id ≤ 18446744073709551615) ∧ okStr lb ∧ okStr tx ∧ RdA w ats av ∧
      ks.length ≤ c ∧ c ≤ maxLen ∧ (ks ≠ [] → ∃ b off, A = some ⟨b, off, none⟩ ∧ rdKids w b off ks)
/-- A row of nodes from an address on. -/
def rdKids (w : World) (b : Nat) (off : Nat) : List Nd → Prop
  | [] => True
  | k :: r => (∃ c0 c1 c2 c3 c4 c5, w.cell? ⟨b, off, none⟩ = some c0 ∧ w.cell? ⟨b, off + 1, none⟩ = some c1 ∧ w.cell? ⟨b, off + 2, none⟩ = some c2 ∧ w.cell? ⟨b, off + 3, none⟩ = some c3 ∧
      w.cell? ⟨b, off + 4, none⟩ = some c4 ∧ w.cell? ⟨b, off + 5, none⟩ = some c5 ∧ Nd.rd w k (.agg #[c0, c1, c2, c3, c4, c5])) ∧ rdKids w b (off + 6) r
end

/-- A slice value that reads ats a row of nodes. -/
def RdK (w : World) (ks : List Nd) (v : Value) : Prop :=
  ∃ A c, v = .slice A ks.length c ∧ ks.length ≤ c ∧ c ≤ maxLen ∧ (ks ≠ [] → ∃ b off, A = some ⟨b, off, none⟩ ∧ rdKids w b off ks)

theorem rdAttrs_ext {w w' : World} (h : Ext w w') {b : Nat} : ∀ {off : Nat} {l : List (ByteArray × ByteArray)}, rdAttrs w b off l → rdAttrs w' b off l
  | _, [], _ => trivial
  | _, (_, _) :: _, ⟨h1, h2, h3, h4, h5⟩ => ⟨h.cell h1, h.cell h2, h3, h4, rdAttrs_ext h h5⟩

theorem RdA.ext {w w' : World} (h : Ext w w') {l : List (ByteArray × ByteArray)} {v : Value} (hr : RdA w l v) : RdA w' l v := by
  obtain ⟨A, c, rfl, h1, h2, h3⟩ := hr
  refine ⟨A, c, rfl, h1, h2, fun hl => ?_⟩
  obtain ⟨b, off, rfl, h4⟩ := h3 hl
  exact ⟨b, off, rfl, rdAttrs_ext h h4⟩

mutual
theorem Nd.rd_ext {w w' : World} (h : Ext w w') : ∀ {t : Nd} {v : Value}, Nd.rd w t v → Nd.rd w' t v
  | .mk _ _ _ _ _ ks, _, hr => by
    unfold Nd.rd at hr ⊢
    obtain ⟨av, A, c, rfl, h1, h2, h3, h4, h5, h6, h7⟩ := hr
    refine ⟨av, A, c, rfl, h1, h2, h3, h4.ext h, h5, h6, fun hl => ?_⟩
    obtain ⟨b, off, rfl, h8⟩ := h7 hl
    exact ⟨b, off, rfl, rdKids_ext h h8⟩
theorem rdKids_ext {w w' : World} (h : Ext w w') {b : Nat} : ∀ {off : Nat} {l : List Nd}, rdKids w b off l → rdKids w' b off l
  | _, [], _ => by unfold rdKids; trivial
  | _, k :: r, hr => by
    unfold rdKids at hr ⊢
    obtain ⟨⟨c0, c1, c2, c3, c4, c5, h0, h1, h2, h3, h4, h5, h6⟩, h7⟩ := hr
    exact ⟨⟨c0, c1, c2, c3, c4, c5, h.cell h0, h.cell h1, h.cell h2, h.cell h3, h.cell h4, h.cell h5, Nd.rd_ext h h6⟩, rdKids_ext h h7⟩
end

theorem RdK.ext {w w' : World} (h : Ext w w') {l : List Nd} {v : Value} (hr : RdK w l v) : RdK w' l v := by
  obtain ⟨A, c, rfl, h1, h2, h3⟩ := hr
  refine ⟨A, c, rfl, h1, h2, fun hl => ?_⟩
  obtain ⟨b, off, rfl, h4⟩ := h3 hl
  exact ⟨b, off, rfl, rdKids_ext h h4⟩

/-- The parts of a node that reads. -/
theorem Nd.rd_open {w : World} {t : Nd} {v : Value} (h : t.rd w v) : ∃ av kv, v = .agg #[.int .u64 t.id, .bool t.leaf, .string t.label, av, .string t.text, kv] ∧ 0 ≤ t.id ∧ t.id ≤ 18446744073709551615 ∧ t.label.size ≤ maxLen ∧ t.text.size ≤ maxLen ∧ RdA w t.attrs av ∧ RdK w t.kids kv := by
  cases t with
  | mk id leaf lb ats tx ks =>
    unfold Nd.rd at h
    obtain ⟨av, A, c, rfl, ⟨h1, h1'⟩, h2, h3, h4, h5, h6, h7⟩ := h
    exact ⟨av, _, rfl, h1, h1', h2, h3, h4, A, c, rfl, h5, h6, h7⟩
theorem Nd.rd_shut {w : World} {t : Nd} {av kv : Value} (h1 : 0 ≤ t.id) (h1' : t.id ≤ 18446744073709551615) (h2 : t.label.size ≤ maxLen) (h3 : t.text.size ≤ maxLen) (h4 : RdA w t.attrs av) (h5 : RdK w t.kids kv) :
    t.rd w (.agg #[.int .u64 t.id, .bool t.leaf, .string t.label, av, .string t.text, kv]) := by
  cases t with
  | mk id leaf lb ats tx ks =>
    obtain ⟨A, c, rfl, h6, h7, h8⟩ := h5
    unfold Nd.rd
    exact ⟨av, A, c, rfl, ⟨h1, h1'⟩, h2, h3, h4, h6, h7, h8⟩

/-- One child out of a row. -/
theorem rdKids_at {w : World} {b : Nat} : ∀ {l : List Nd} {off i : Nat} {k : Nd}, rdKids w b off l → l[i]? = some k →
    ∃ c0 c1 c2 c3 c4 c5, w.cell? ⟨b, off + i * 6, none⟩ = some c0 ∧ w.cell? ⟨b, off + i * 6 + 1, none⟩ = some c1 ∧ w.cell? ⟨b, off + i * 6 + 2, none⟩ = some c2 ∧ w.cell? ⟨b, off + i * 6 + 3, none⟩ = some c3 ∧
      w.cell? ⟨b, off + i * 6 + 4, none⟩ = some c4 ∧ w.cell? ⟨b, off + i * 6 + 5, none⟩ = some c5 ∧ Nd.rd w k (.agg #[c0, c1, c2, c3, c4, c5])
  | [], _, _, _, _, h => by simp at h
  | x :: r, off, 0, k, hr, h => by
    unfold rdKids at hr
    simp at h; subst h
    simpa using hr.1
  | x :: r, off, i + 1, k, hr, h => by
    unfold rdKids at hr
    have := rdKids_at (i := i) hr.2 (by simpa using h)
    rw [show off + (i + 1) * 6 = off + 6 + i * 6 by omega]
    exact this

/-- The same, each cell's value written out. -/
theorem rdKids_get {w : World} {b off i : Nat} {l : List Nd} {k : Nd} (hr : rdKids w b off l) (h : l[i]? = some k) :
    ∃ aA ac kA kc, w.cell? ⟨b, off + i * 6, none⟩ = some (.int .u64 k.id) ∧ w.cell? ⟨b, off + i * 6 + 1, none⟩ = some (.bool k.leaf) ∧ w.cell? ⟨b, off + i * 6 + 2, none⟩ = some (.string k.label) ∧
      w.cell? ⟨b, off + i * 6 + 3, none⟩ = some (.slice aA k.attrs.length ac) ∧ w.cell? ⟨b, off + i * 6 + 4, none⟩ = some (.string k.text) ∧ w.cell? ⟨b, off + i * 6 + 5, none⟩ = some (.slice kA k.kids.length kc) ∧
      Nd.rd w k (.agg #[.int .u64 k.id, .bool k.leaf, .string k.label, .slice aA k.attrs.length ac, .string k.text, .slice kA k.kids.length kc]) := by
  obtain ⟨c0, c1, c2, c3, c4, c5, h0, h1, h2, h3, h4, h5, h6⟩ := rdKids_at hr h
  obtain ⟨av, kv, he, _, _, _, _, ⟨aA, ac, rfl, _⟩, ⟨kA, kc, rfl, _⟩⟩ := Nd.rd_open h6
  simp only [Value.agg.injEq, Array.mk.injEq, List.cons.injEq, and_true] at he
  obtain ⟨rfl, rfl, rfl, rfl, rfl, rfl⟩ := he
  exact ⟨aA, ac, kA, kc, h0, h1, h2, h3, h4, h5, h6⟩

theorem rdAttrs_at {w : World} {b : Nat} : ∀ {l : List (ByteArray × ByteArray)} {off i : Nat} {k v : ByteArray}, rdAttrs w b off l → l[i]? = some (k, v) →
    w.cell? ⟨b, off + i * 2, none⟩ = some (.string k) ∧ w.cell? ⟨b, off + i * 2 + 1, none⟩ = some (.string v) ∧ k.size ≤ maxLen ∧ v.size ≤ maxLen
  | [], _, _, _, _, _, h => by simp at h
  | (x, y) :: r, off, 0, k, v, hr, h => by
    simp at h; obtain ⟨rfl, rfl⟩ := h
    obtain ⟨h1, h2, h3, h4, _⟩ := hr
    simpa using ⟨h1, h2, h3, h4⟩
  | (x, y) :: r, off, i + 1, k, v, hr, h => by
    obtain ⟨_, _, _, _, h5⟩ := hr
    have := rdAttrs_at (i := i) h5 (by simpa using h)
    rw [show off + (i + 1) * 2 = off + 2 + i * 2 by omega]
    exact this

/-- A call that hands back a value of which Φ says more; old memory stays. -/
def Ret (w : World) (Φ : Value → World → Prop) (e : Ending) (w' : World) : Prop := ∃ v, e = .returned v ∧ Φ v w' ∧ Ext w w'
theorem toList_inj {a b : ByteArray} (h : a.toList = b.toList) : a = b := by
  rw [ByteArray.toList_eq, ByteArray.toList_eq] at h
  obtain ⟨⟨x⟩⟩ := a; obtain ⟨⟨y⟩⟩ := b
  simp at h; subst h; rfl
theorem beq_str (a b : ByteArray) : (a.toList == b.toList) = decide (a = b) := by
  by_cases h : a = b
  · subst h; simp
  · rw [decide_eq_false h]; exact beq_eq_false_iff_ne.2 (fun e => h (toList_inj e))
theorem beq_str_no {a b : ByteArray} (h : a ≠ b) : (a.toList == b.toList) = false := by rw [beq_str, decide_eq_false h]
theorem beq_str_yes {a b : ByteArray} (h : a = b) : (a.toList == b.toList) = true := by rw [beq_str, decide_eq_true h]
theorem str_len (s : ByteArray) : s.toList.length = s.size := by rw [ByteArray.toList_eq]; rfl
theorem str_empty {s : ByteArray} (h : s.size = 0) : s.toList.isEmpty = true := by
  have := str_len s
  rw [List.isEmpty_iff]; exact List.eq_nil_of_length_eq_zero (by omega)
theorem str_some {s : ByteArray} (h : 0 < s.size) : s.toList.isEmpty = false := by
  have := str_len s
  cases hl : s.toList with
  | nil => rw [hl] at this; simp at this; omega
  | cons x r => rfl
theorem ret_int {w w' : World} {k : IntKind} {F x : Int} (h : x = F) (he : Ext w w') : Ret w (fun r _ => r = .int k F) (.returned (.int k x)) w' := ⟨_, rfl, by rw [h], he⟩
theorem ret_bool {w w' : World} {F x : Bool} (h : x = F) (he : Ext w w') : Ret w (fun r _ => r = .bool F) (.returned (.bool x)) w' := ⟨_, rfl, by rw [h], he⟩

theorem drop_at {α : Type} {l : List α} {k : Nat} {x : α} (h : l[k]? = some x) : l.drop k = x :: l.drop (k + 1) := by
  obtain ⟨hk, rfl⟩ := List.getElem?_eq_some_iff.1 h
  exact List.drop_eq_getElem_cons hk

end Go.Proofs.Ytofcbclokkjfjaa.Bw
namespace Go.Proofs.Ytofcbclokkjfjaa.Bw
open Go.RowKit

/-- A slice value that reads as n elements of 'size' cells each: the cells xs. -/
def RdS (w : World) (size n : Nat) (xs : List Value) (v : Value) : Prop :=
  ∃ A c, v = .slice A n c ∧ xs.length = n * size ∧ n ≤ c ∧ c ≤ maxLen ∧ (0 < n → ∃ b off, A = some ⟨b, off, none⟩ ∧ ∀ j u, xs[j]? = some u → w.cell? ⟨b, off + j, none⟩ = some u)
theorem RdS.ext {w w' : World} (h : Ext w w') {size n : Nat} {xs : List Value} {v : Value} (hr : RdS w size n xs v) : RdS w' size n xs v := by
  obtain ⟨A, c, rfl, h1, h2, h3, h4⟩ := hr
  refine ⟨A, c, rfl, h1, h2, h3, fun hn => ?_⟩
  obtain ⟨b, off, rfl, h5⟩ := h4 hn
  exact ⟨b, off, rfl, fun j u hu => h.cell (h5 j u hu)⟩
theorem RdS.nil_ (w : World) (size : Nat) : RdS w size 0 [] (.slice none 0 0) := ⟨none, 0, rfl, by simp, Nat.le_refl _, by simp [maxLen], fun h => absurd h (by omega)⟩
theorem RdS.of_owns {w : World} {base e size n : Nat} {v : Value} {xs : List Value} (h : w.ownsRow base e size v n xs) : RdS w size n xs v := by
  have hl := h.1
  rcases h.2 with ⟨rfl, rfl⟩ | ⟨g, cap, cur, rfl, h1, h2, h3, h4, h5, h6⟩
  · have : xs = [] := List.eq_nil_of_length_eq_zero (by simpa using hl)
    subst this
    exact RdS.nil_ w size
  · refine ⟨some ⟨g, 0, none⟩, cap, rfl, hl, h3, h4, fun _ => ⟨g, 0, rfl, fun j u hu => ?_⟩⟩
    have := h.cells (g := g) rfl j u hu
    rwa [Addr.add_lit] at this

/-- What the program's table says of a slice type and its element type. -/
def SliceT (P : Program) (t e : TypeId) (z : Value) (size bytes : Nat) : Prop :=
  ∃ i, P.underlying t = some (.slice e) ∧ P.info? e = some i ∧ i.zero = some z ∧ i.size = size ∧ i.bytes = bytes ∧ z.cells.size = size ∧ 0 < size
theorem SliceT.mk' {P : Program} {t e : TypeId} {z : Value} {size bytes : Nat} (h : P.underlying t = some (.slice e)) (hi : (P.info? e).map (fun i => (i.zero, i.size, i.bytes)) = some (some z, size, bytes)) (hz : z.cells.size = size) (h0 : 0 < size) : SliceT P t e z size bytes := by
  obtain ⟨i, h1, h2, h3, h4⟩ := info_parts hi
  exact ⟨i, h, h1, h2, h3, h4, hz, h0⟩

section
variable {P : Program} {w : World}

theorem run_append_rd {t e : TypeId} {z : Value} {size bytes : Nat} (T : SliceT P t e z size bytes) (ty : TypeId) {base : Nat} {v : Value} {n : Nat} {xs : List Value} (hown : w.ownsRow base e size v n xs)
    {m : Nat} {news : List Value} {y : Value} (hr : RdS w size m news y) (h1 : ∀ u ∈ news, u.oneCell' = true) (hb : (n + m) * bytes ≤ 140737488355328) (hm : n + m ≤ maxLen) (hbase : base ≤ w.heap.size) :
    ∃ v' w', (Builtin.append_ #[t, t] ty #[v, y]).run P w = .ok v' w' ∧ w'.ownsRow base e size v' (n + m) (xs ++ news) ∧ w.grownBy w' v.ownBlock ∧ (v'.ownBlock = v.ownBlock ∨ v'.ownBlock = some w.heap.size) := by
  obtain ⟨i, ht, hi, hz, hs, hby, hzs, hsz⟩ := T
  obtain ⟨A, c, rfl, hl, hnc, hc, hcell⟩ := hr
  cases A with
  | none =>
    have hm0 : m = 0 := by
      rcases Nat.eq_zero_or_pos m with h | h
      · exact h
      · obtain ⟨b, off, hh, _⟩ := hcell h; cases hh
    subst hm0
    have hn : news = [] := List.eq_nil_of_length_eq_zero (by simpa using hl)
    subst hn
    refine ⟨v, w, ?_, by simpa using hown, ⟨rfl, rfl, rfl, Nat.le_refl _, fun _ _ _ => rfl⟩, .inl rfl⟩
    rcases hown.2 with ⟨rfl, rfl⟩ | ⟨g, cap, cur, rfl, _, _, hnc, _⟩
    · simp [Builtin.append_, run_underlying ht, sizeOf, typeInfo, hi, Builtin.lenOf, Builtin.firstCells]
    · simp [Builtin.append_, run_underlying ht, sizeOf, typeInfo, hi, Builtin.lenOf, Builtin.firstCells, hnc, storeCells]
  | some ad =>
    have hcells : ∀ j u, news[j]? = some u → w.cell? (ad.add j) = some u := by
      intro j u hu
      rcases Nat.eq_zero_or_pos m with h | h
      · subst h
        have hn : news = [] := List.eq_nil_of_length_eq_zero (by simpa using hl)
        subst hn; simp at hu
      · obtain ⟨b, off, hh, h5⟩ := hcell h
        injection hh with hh; subst hh
        rw [Addr.add_lit]; exact h5 j u hu
    obtain ⟨v', w', hrun, h2, h3, _, h5⟩ := run_append_own_at (P := P) w base t ty e i z size bytes ht hi hz hs hby hzs hsz v n xs hown ad m c news hl hcells h1 hm hb hbase
    exact ⟨v', w', hrun, h2, h3, h5⟩

theorem wpList_append_rd {ops : Array Oper} {rest : List Oper} {o : Oper} {a : Act} {Q : Exit → Act → World → Prop} (hgd : o.guard = none) {s x : Operand} {t : TypeId}
    (ho : o.op = .call { callee := .builtin .append, args := #[s, x], argTypes := #[t, t] }) {e : TypeId} {z : Value} {size bytes : Nat} (T : SliceT P t e z size bytes) {base : Nat} {v : Value} {n : Nat} {xs : List Value} (hs : a.eval s = v) (hown : w.ownsRow base e size v n xs)
    {m : Nat} {news : List Value} {y : Value} (hx : a.eval x = y) (hr : RdS w size m news y) (h1 : ∀ u ∈ news, u.oneCell' = true) (hb : (n + m) * bytes ≤ 140737488355328) (hm : n + m ≤ maxLen) (hbase : base ≤ w.heap.size)
    (h : ∀ v' w', w'.ownsRow base e size v' (n + m) (xs ++ news) → w.grownBy w' v.ownBlock → (v'.ownBlock = v.ownBlock ∨ v'.ownBlock = some w.heap.size) → wpList P ops Q rest (a.put o.dst v') w') : wpList P ops Q (o :: rest) a w := by
  refine wpList_plain hgd fun K hK => ?_
  obtain ⟨v', w', hrun, h2, h3, h4⟩ := run_append_rd T o.type hown hr h1 hb hm hbase
  unfold Oper.wp execOp
  simp only [ho, resolve, invoke, builtin, Sem.run_bind, Sem.run_pure, Result.andThen_ok, List.map_toArray, List.map_cons, List.map_nil, hs, hx, hrun]
  exact hK _ _ (h v' w' h2 h3 h4)

end

/-- One element, in a block that was just made for it. -/
theorem RdS.one {W : World} {t : TypeId} {cs : Array Value} {size : Nat} (hs : cs.size = size) : RdS (W.alloc (.cells cs t)) size 1 cs.toList (.slice (some ⟨W.heap.size, 0, none⟩) 1 1) := by
  refine ⟨_, 1, rfl, by simp [hs], Nat.le_refl _, by simp [maxLen], fun _ => ⟨_, 0, rfl, fun j u hu => ?_⟩⟩
  have hb : (W.alloc (.cells cs t)).heap[W.heap.size]? = some (.cells cs t (0, 0)) := World.alloc_heap_new W _
  rw [Nat.zero_add]
  simp only [World.cell?, hb]
  simpa using hu

/-- Where the base of what is owned is the heap's size when the call began, what was there before stays. -/
theorem Ext.grown {w a b : World} (h : Ext w a) {row : Option Nat} (hg : a.grownBy b row) (hr : ∀ k, row = some k → w.heap.size ≤ k) : Ext w b := Below.grown h hg h.size hr
theorem owns_base {w : World} {base e size n : Nat} {v : Value} {xs : List Value} (h : w.ownsRow base e size v n xs) : ∀ k, v.ownBlock = some k → base ≤ k := fun k hk => (h.lt k hk).1
theorem owns_ext {w w' : World} (he : Ext w w') {base e size n : Nat} {v : Value} {xs : List Value} (h : w.ownsRow base e size v n xs) : w'.ownsRow base e size v n xs := by
  refine ⟨h.1, ?_⟩
  rcases h.2 with h2 | ⟨g, cap, cur, hv, hb, hg, r⟩
  · exact .inl h2
  · exact .inr ⟨g, cap, cur, hv, hb, (he.block g (Array.getElem?_eq_some_iff.1 hg).1).trans hg, r⟩
theorem owns_mono {w : World} {base base' e size n : Nat} {v : Value} {xs : List Value} (h : w.ownsRow base e size v n xs) (hb : base' ≤ base) : w.ownsRow base' e size v n xs := by
  refine ⟨h.1, ?_⟩
  rcases h.2 with h2 | ⟨g, cap, cur, hv, h1, r⟩
  · exact .inl h2
  · exact .inr ⟨g, cap, cur, hv, Nat.le_trans hb h1, r⟩
theorem ints_one (k : IntKind) (l : List Int) : ∀ u ∈ l.map (Value.int k), u.oneCell' = true := ints_oneCell k l
end Go.Proofs.Ytofcbclokkjfjaa.Bw
namespace Go.Proofs.Ytofcbclokkjfjaa.Wi
open Go.RowKit Go.Proofs.Ytofcbclokkjfjaa.Bw

/-! ### Data -/
/-- A piece of an edit. -/
structure Pc where
 keep : Int
 drop : Int
 put : ByteArray
/-- An operation. -/
structure OpD where
 kind : Int
 path : List Int
 at_ : Int
 «to» : List Int
 id : Int
 leaf : Bool
 label : ByteArray
 key : ByteArray
 value : ByteArray
 gone : Bool
 pcs : List Pc

/-! ### Numbers -/
def numF : Nat → Nat → List UInt8
 | 0, n => [UInt8.ofNat n]
 | k + 1, n => if n < 128 then [UInt8.ofNat n] else UInt8.ofNat (n % 128 + 128) :: numF k (n / 128)
/-- A number's bytes. -/
def num (n : Nat) : List UInt8 := numF n n

/-! ### What may be put, and its bytes: none, if it may not -/
end Go.Proofs.Ytofcbclokkjfjaa.Wi
namespace Go.Proofs.Ytofcbclokkjfjaa.Wi
open Go.RowKit Go.Proofs.Ytofcbclokkjfjaa.Bw

end Go.Proofs.Ytofcbclokkjfjaa.Wi
namespace Go.Proofs.Ytofcbclokkjfjaa.Bw
open Go.RowKit

mutual
def Nd.cnt : Nd → Nat
  | .mk _ _ _ _ _ ks => 1 + cntK ks
def cntK : List Nd → Nat
  | [] => 0
  | k :: r => k.cnt + cntK r
end
theorem Nd.cnt_eq (t : Nd) : t.cnt = 1 + cntK t.kids := by cases t; rw [Nd.cnt]; rfl
theorem cntK_mem : ∀ {l : List Nd} {k : Nd}, k ∈ l → k.cnt ≤ cntK l
  | x :: r, k, h => by
    rw [cntK]
    rcases List.mem_cons.1 h with rfl | h
    · omega
    · have := cntK_mem h; omega
theorem Nd.cnt_kid {t k : Nd} {i : Nat} (h : t.kids[i]? = some k) : k.cnt < t.cnt := by
  have := cntK_mem (List.mem_of_getElem? h)
  rw [Nd.cnt_eq t]; omega

/-- The attributes' part; none: the bound is answered at once. -/
def weighA (top w : Int) : List (ByteArray × ByteArray) → Option Int
  | [] => some w
  | (k, v) :: r => if w ≤ top then (if top < (k.size : Int) ∨ top < (v.size : Int) then none else weighA top (w + 1 + k.size + v.size) r) else some w

mutual
def Nd.weigh : Nd → Int → Int
  | .mk _ _ lb ats tx ks, top => if top < (lb.size : Int) ∨ top < (tx.size : Int) ∨ top < (ats.length : Int) then top + 1 else
      match weighA top (1 + lb.size + tx.size) ats with
      | none => top + 1
      | some w => weighK top w ks
def weighK : Int → Int → List Nd → Int
  | _, w, [] => w
  | top, w, k :: r => if w ≤ top then weighK top (w + k.weigh (top - w)) r else w
end

theorem weighA_done {top w : Int} {l : List (ByteArray × ByteArray)} (h : l = [] ∨ top < w) : weighA top w l = some w := by
  cases l with
  | nil => rfl
  | cons x r => obtain ⟨k, v⟩ := x; rcases h with h | h; · cases h
                rw [weighA, if_neg (by omega)]
theorem weighA_out {top w : Int} {k v : ByteArray} {r : List (ByteArray × ByteArray)} (h : w ≤ top) (h2 : top < (k.size : Int) ∨ top < (v.size : Int)) : weighA top w ((k, v) :: r) = none := by
  rw [weighA, if_pos h, if_pos h2]
theorem weighA_on {top w : Int} {k v : ByteArray} {r : List (ByteArray × ByteArray)} (h : w ≤ top) (h2 : ¬ top < (k.size : Int)) (h3 : ¬ top < (v.size : Int)) : weighA top w ((k, v) :: r) = weighA top (w + 1 + k.size + v.size) r := by
  rw [weighA, if_pos h, if_neg (by omega)]
theorem weighK_done {top w : Int} {l : List Nd} (h : l = [] ∨ top < w) : weighK top w l = w := by
  cases l with
  | nil => rw [weighK]
  | cons x r => rcases h with h | h; · cases h
                rw [weighK, if_neg (by omega)]
theorem weighK_on {top w : Int} {k : Nd} {r : List Nd} (h : w ≤ top) : weighK top w (k :: r) = weighK top (w + k.weigh (top - w)) r := by
  rw [weighK, if_pos h]

theorem weighA_le {top : Int} (h0 : 0 ≤ top) : ∀ {l : List (ByteArray × ByteArray)} {w x : Int}, 0 ≤ w → w ≤ 3 * top + 1 → weighA top w l = some x → w ≤ x ∧ x ≤ 3 * top + 1
  | [], w, x, h1, h2, h => by rw [weighA] at h; injection h with h; omega
  | (k, v) :: r, w, x, h1, h2, h => by
    rw [weighA] at h
    split at h
    · split at h
      · cases h
      · have := weighA_le h0 (by omega) (by omega) h; omega
    · injection h with h; omega

mutual
theorem Nd.weigh_le : ∀ (t : Nd) (top : Int), 0 ≤ top → 0 ≤ t.weigh top ∧ t.weigh top ≤ 3 * top + 1
  | .mk _ _ lb ats tx ks, top, h0 => by
    rw [Nd.weigh]
    split
    · omega
    · split
      · omega
      · rename_i x hx
        have := weighA_le h0 (by omega) (by omega) hx
        have := weighK_le top x ks h0 (by omega) (by omega)
        omega
theorem weighK_le : ∀ (top w : Int) (l : List Nd), 0 ≤ top → 0 ≤ w → w ≤ 3 * top + 1 → 0 ≤ weighK top w l ∧ weighK top w l ≤ 3 * top + 1
  | top, w, [], _, _, _ => by rw [weighK]; omega
  | top, w, k :: r, h0, h1, h2 => by
    rw [weighK]
    split
    · have := Nd.weigh_le k (top - w) (by omega)
      exact weighK_le top _ r h0 (by omega) (by omega)
    · omega
end

/-! ### The true weight -/
def wtA : List (ByteArray × ByteArray) → Nat
  | [] => 0
  | (k, v) :: r => 1 + k.size + v.size + wtA r
mutual
def Nd.wt : Nd → Nat
  | .mk _ _ lb ats tx ks => 1 + lb.size + tx.size + wtA ats + wtK ks
def wtK : List Nd → Nat
  | [] => 0
  | k :: r => k.wt + wtK r
end
theorem Nd.wt_eq (t : Nd) : t.wt = 1 + t.label.size + t.text.size + wtA t.attrs + wtK t.kids := by cases t; rw [Nd.wt]; rfl
theorem wtK_mem : ∀ {l : List Nd} {k : Nd}, k ∈ l → k.wt ≤ wtK l
  | x :: r, k, h => by
    rw [wtK]
    rcases List.mem_cons.1 h with rfl | h
    · omega
    · have := wtK_mem h; omega
theorem Nd.wt_kid {t k : Nd} {i : Nat} (h : t.kids[i]? = some k) : k.wt < t.wt := by
  have := wtK_mem (List.mem_of_getElem? h)
  rw [Nd.wt_eq t]; omega
theorem wtA_len : ∀ l, l.length ≤ wtA l
  | [] => Nat.le_refl _
  | (k, v) :: r => by have := wtA_len r; simp only [List.length_cons, wtA]; omega
mutual
theorem Nd.cnt_wt : ∀ t : Nd, t.cnt ≤ t.wt
  | .mk _ _ _ _ _ ks => by have := cntK_wt ks; rw [Nd.cnt, Nd.wt]; omega
theorem cntK_wt : ∀ l : List Nd, cntK l ≤ wtK l
  | [] => by rw [cntK, wtK]; exact Nat.le_refl _
  | k :: r => by have := Nd.cnt_wt k; have := cntK_wt r; rw [cntK, wtK]; omega
end
theorem wtK_len : ∀ l : List Nd, l.length ≤ wtK l
  | [] => Nat.le_refl _
  | k :: r => by have := wtK_len r; have := Nd.cnt_wt k; rw [Nd.cnt_eq] at this; simp only [List.length_cons, wtK]; omega

/-- Whether it has at most so much is told rightly; and if so, how much. -/
theorem weighA_spec {top : Int} : ∀ {l : List (ByteArray × ByteArray)} {w : Int}, 0 ≤ w → (w + wtA l ≤ top → weighA top w l = some (w + wtA l)) ∧ (top < w + wtA l → ∀ x, weighA top w l = some x → top < x)
  | [], w, h0 => by rw [weighA, wtA]; refine ⟨fun _ => by simp, fun h x hx => by injection hx with hx; omega⟩
  | (k, v) :: r, w, h0 => by
    rw [weighA, wtA]
    have ih := weighA_spec (top := top) (l := r) (w := w + 1 + k.size + v.size) (by omega)
    refine ⟨fun h => ?_, fun h x hx => ?_⟩
    · rw [if_pos (by omega), if_neg (by omega), ih.1 (by omega)]; congr 1; omega
    · split at hx
      · split at hx
        · cases hx
        · exact ih.2 (by omega) x hx
      · injection hx with hx; omega
mutual
theorem Nd.weigh_spec : ∀ (t : Nd) (top : Int), 0 ≤ top → ((t.wt : Int) ≤ top → t.weigh top = t.wt) ∧ (top < (t.wt : Int) → top < t.weigh top)
  | .mk _ _ lb ats tx ks, top, h0 => by
    rw [Nd.weigh, Nd.wt]
    have hl := wtA_len ats
    have hA := weighA_spec (top := top) (l := ats) (w := 1 + lb.size + tx.size) (by omega)
    refine ⟨fun h => ?_, fun h => ?_⟩
    · rw [if_neg (by omega), hA.1 (by omega)]
      have := (weighK_spec top (1 + lb.size + tx.size + wtA ats) ks h0 (by omega)).1 (by omega)
      dsimp only; rw [this]; omega
    · split
      · omega
      · split
        · omega
        · rename_i x hx
          rcases Int.lt_or_le top (1 + lb.size + tx.size + wtA ats) with h1 | h1
          · have h2 := hA.2 (by omega) x hx
            rw [weighK_done (.inr h2)]; exact h2
          · have h3 := hA.1 h1
            rw [h3] at hx; injection hx with hx
            exact (weighK_spec top x ks h0 (by omega)).2 (by omega)
theorem weighK_spec : ∀ (top w : Int) (l : List Nd), 0 ≤ top → 0 ≤ w → (w + wtK l ≤ top → weighK top w l = w + wtK l) ∧ (top < w + wtK l → top < weighK top w l)
  | top, w, [], _, _ => by rw [weighK, wtK]; omega
  | top, w, k :: r, h0, h1 => by
    rw [weighK, wtK]
    have hk := Nd.weigh_le k (top - w)
    refine ⟨fun h => ?_, fun h => ?_⟩
    · rw [if_pos (by omega)]
      have := (Nd.weigh_spec k (top - w) (by omega)).1 (by omega)
      rw [this]
      have := (weighK_spec top (w + k.wt) r h0 (by omega)).1 (by omega)
      omega
    · split
      · rename_i hle
        have hk2 := Nd.weigh_spec k (top - w) (by omega)
        have hk3 := hk (by omega)
        rcases Int.lt_or_le (top - w) k.wt with h2 | h2
        · have := hk2.2 h2
          rw [weighK_done (.inr (by omega))]; omega
        · rw [hk2.1 h2]
          exact (weighK_spec top (w + k.wt) r h0 (by omega)).2 (by omega)
      · omega
end
theorem Nd.weigh_iff (t : Nd) {top : Int} (h0 : 0 ≤ top) : t.weigh top ≤ top ↔ (t.wt : Int) ≤ top := by
  have := Nd.weigh_spec t top h0
  constructor
  · intro h
    rcases Int.lt_or_le top t.wt with h1 | h1
    · have := this.2 h1; omega
    · exact h1
  · intro h; rw [this.1 h]; exact h
end Go.Proofs.Ytofcbclokkjfjaa.Bw
namespace Go.Proofs.Ytofcbclokkjfjaa.Wi
open Go.RowKit Go.Proofs.Ytofcbclokkjfjaa.Bw

end Go.Proofs.Ytofcbclokkjfjaa.Wi
