/- The data of the program ats plain Lean types, and what it is for a value in memory to read ats such data. Nothing of the program is named here. -/
import Derived.WalkKit
import Derived.Lib.Hide
import Derived.Deep.Draws
namespace Go.Proofs.Ytobbdeakocgdcaa.Bw
open Go.RowKit

/-- What an array of slots does with a value put at one. -/
theorem aS {α : Type} : (∀ (l : List α) (i : Nat) (v : α), l.toArray.setIfInBounds i v = (l.set i v).toArray) ∧ (∀ (a v : α) (l : List α), (a :: l).set 0 v = v :: l) ∧ (∀ (a v : α) (l : List α) (i : Nat), (a :: l).set (i + 1) v = a :: l.set i v) :=
  ⟨fun _ _ _ => List.setIfInBounds_toArray .., fun _ _ _ => List.set_cons_zero .., fun _ _ _ _ => List.set_cons_succ ..⟩

/-- A tree's node. -/
inductive Nd where
  | mk (id : Int) (leaf : Bool) (label : ByteArray) (attrs : List (ByteArray × ByteArray)) (text : ByteArray) (kids : List Nd)

namespace Nd
def id : Nd → Int | mk i _ _ _ _ _ => i
def leaf : Nd → Bool | mk _ l _ _ _ _ => l
def label : Nd → ByteArray | mk _ _ l _ _ _ => l
def attrs : Nd → List (ByteArray × ByteArray) | mk _ _ _ a _ _ => a
def text : Nd → ByteArray | mk _ _ _ _ t _ => t
def kids : Nd → List Nd | mk _ _ _ _ _ k => k
end Nd

/-- Old memory stays: 'w' is w with more behind it. -/
abbrev Ext (w w' : World) : Prop := Below w.heap.size w w'
theorem Ext.refl (w : World) : Ext w w := Below.refl _ w
theorem Ext.trans {a b c : World} (h : Ext a b) (k : Ext b c) : Ext a c := Below.trans h (Below.mono k h.size)
theorem Ext.drew {a b : World} (h : Ext a b) : Ext a b.drew := Below.drew h
theorem Ext.drewN {a b : World} (h : Ext a b) (n : Nat) : Ext a (b.drewN n) := ⟨h.os, h.tape, h.output, h.size, h.block⟩
theorem Ext.alloc {a b : World} (h : Ext a b) (o : Obj) : Ext a (b.alloc o) := Below.alloc h h.size o
theorem Ext.cell {w w' : World} (h : Ext w w') {p : Addr} {v : Value} (hc : w.cell? p = some v) : w'.cell? p = some v := by
  have hb : p.block < w.heap.size := by
    unfold World.cell? at hc
    rcases Nat.lt_or_ge p.block w.heap.size with hlt | hge
    · exact hlt
    · rw [Array.getElem?_eq_none hge] at hc; cases hc
  rw [Below.cell h hb]; exact hc

/-- A string that fits. -/
def okStr (s : ByteArray) : Prop := s.size ≤ maxLen

/-- An attribute row from an address on. -/
def rdAttrs (w : World) (b : Nat) : Nat → List (ByteArray × ByteArray) → Prop
  | _, [] => True
  | off, (k, v) :: r => w.cell? ⟨b, off, none⟩ = some (.string k) ∧ w.cell? ⟨b, off + 1, none⟩ = some (.string v) ∧ okStr k ∧ okStr v ∧ rdAttrs w b (off + 2) r

/-- A slice value that reads ats an attribute row. -/
def RdA (w : World) (l : List (ByteArray × ByteArray)) (v : Value) : Prop :=
  ∃ A c, v = .slice A l.length c ∧ l.length ≤ c ∧ c ≤ maxLen ∧ (l ≠ [] → ∃ b off, A = some ⟨b, off, none⟩ ∧ rdAttrs w b off l)

mutual
/-- A value that reads ats a node. -/
def Nd.rd (w : World) : Nd → Value → Prop
  | .mk id leaf lb ats tx ks, v => ∃ av A c, v = .agg #[.int .u64 id, .bool leaf, .string lb, av, .string tx, .slice A ks.length c] ∧ (0 ≤ id ∧ id ≤ 18446744073709551615) ∧ okStr lb ∧ okStr tx ∧ RdA w ats av ∧
      ks.length ≤ c ∧ c ≤ maxLen ∧ (ks ≠ [] → ∃ b off, A = some ⟨b, off, none⟩ ∧ rdKids w b off ks)
/-- A row of nodes from an address on. -/
def rdKids (w : World) (b : Nat) (off : Nat) : List Nd → Prop
  | [] => True
  | k :: r => (∃ c0 c1 c2 c3 c4 c5, w.cell? ⟨b, off, none⟩ = some c0 ∧ w.cell? ⟨b, off + 1, none⟩ = some c1 ∧ w.cell? ⟨b, off + 2, none⟩ = some c2 ∧ w.cell? ⟨b, off + 3, none⟩ = some c3 ∧
      w.cell? ⟨b, off + 4, none⟩ = some c4 ∧ w.cell? ⟨b, off + 5, none⟩ = some c5 ∧ Nd.rd w k (.agg #[c0, c1, c2, c3, c4, c5])) ∧ rdKids w b (off + 6) r
end

/-- A slice value that reads ats a row of nodes. -/
def RdK (w : World) (ks : List Nd) (v : Value) : Prop :=
  ∃ A c, v = .slice A ks.length c ∧ ks.length ≤ c ∧ c ≤ maxLen ∧ (ks ≠ [] → ∃ b off, A = some ⟨b, off, none⟩ ∧ rdKids w b off ks)

theorem rdAttrs_ext {w w' : World} (h : Ext w w') {b : Nat} : ∀ {off : Nat} {l : List (ByteArray × ByteArray)}, rdAttrs w b off l → rdAttrs w' b off l
  | _, [], _ => trivial
  | _, (_, _) :: _, ⟨h1, h2, h3, h4, h5⟩ => ⟨h.cell h1, h.cell h2, h3, h4, rdAttrs_ext h h5⟩

theorem RdA.ext {w w' : World} (h : Ext w w') {l : List (ByteArray × ByteArray)} {v : Value} (hr : RdA w l v) : RdA w' l v := by
  obtain ⟨A, c, rfl, h1, h2, h3⟩ := hr
  refine ⟨A, c, rfl, h1, h2, fun hl => ?_⟩
  obtain ⟨b, off, rfl, h4⟩ := h3 hl
  exact ⟨b, off, rfl, rdAttrs_ext h h4⟩

mutual
theorem Nd.rd_ext {w w' : World} (h : Ext w w') : ∀ {t : Nd} {v : Value}, Nd.rd w t v → Nd.rd w' t v
  | .mk _ _ _ _ _ ks, _, hr => by
    unfold Nd.rd at hr ⊢
    obtain ⟨av, A, c, rfl, h1, h2, h3, h4, h5, h6, h7⟩ := hr
    refine ⟨av, A, c, rfl, h1, h2, h3, h4.ext h, h5, h6, fun hl => ?_⟩
    obtain ⟨b, off, rfl, h8⟩ := h7 hl
    exact ⟨b, off, rfl, rdKids_ext h h8⟩
theorem rdKids_ext {w w' : World} (h : Ext w w') {b : Nat} : ∀ {off : Nat} {l : List Nd}, rdKids w b off l → rdKids w' b off l
  | _, [], _ => by unfold rdKids; trivial
  | _, k :: r, hr => by
    unfold rdKids at hr ⊢
    obtain ⟨⟨c0, c1, c2, c3, c4, c5, h0, h1, h2, h3, h4, h5, h6⟩, h7⟩ := hr
    exact ⟨⟨c0, c1, c2, c3, c4, c5, h.cell h0, h.cell h1, h.cell h2, h.cell h3, h.cell h4, h.cell h5, Nd.rd_ext h h6⟩, rdKids_ext h h7⟩
end

theorem RdK.ext {w w' : World} (h : Ext w w') {l : List Nd} {v : Value} (hr : RdK w l v) : RdK w' l v := by
  obtain ⟨A, c, rfl, h1, h2, h3⟩ := hr
  refine ⟨A, c, rfl, h1, h2, fun hl => ?_⟩
  obtain ⟨b, off, rfl, h4⟩ := h3 hl
  exact ⟨b, off, rfl, rdKids_ext h h4⟩

/-- The parts of a node that reads. -/
theorem Nd.rd_open {w : World} {t : Nd} {v : Value} (h : t.rd w v) : ∃ av kv, v = .agg #[.int .u64 t.id, .bool t.leaf, .string t.label, av, .string t.text, kv] ∧ 0 ≤ t.id ∧ t.id ≤ 18446744073709551615 ∧ t.label.size ≤ maxLen ∧ t.text.size ≤ maxLen ∧ RdA w t.attrs av ∧ RdK w t.kids kv := by
  cases t with
  | mk id leaf lb ats tx ks =>
    unfold Nd.rd at h
    obtain ⟨av, A, c, rfl, ⟨h1, h1'⟩, h2, h3, h4, h5, h6, h7⟩ := h
    exact ⟨av, _, rfl, h1, h1', h2, h3, h4, A, c, rfl, h5, h6, h7⟩
theorem Nd.rd_shut {w : World} {t : Nd} {av kv : Value} (h1 : 0 ≤ t.id) (h1' : t.id ≤ 18446744073709551615) (h2 : t.label.size ≤ maxLen) (h3 : t.text.size ≤ maxLen) (h4 : RdA w t.attrs av) (h5 : RdK w t.kids kv) :
    t.rd w (.agg #[.int .u64 t.id, .bool t.leaf, .string t.label, av, .string t.text, kv]) := by
  cases t with
  | mk id leaf lb ats tx ks =>
    obtain ⟨A, c, rfl, h6, h7, h8⟩ := h5
    unfold Nd.rd
    exact ⟨av, A, c, rfl, ⟨h1, h1'⟩, h2, h3, h4, h6, h7, h8⟩

/-- One child out of a row. -/
theorem rdKids_at {w : World} {b : Nat} : ∀ {l : List Nd} {off i : Nat} {k : Nd}, rdKids w b off l → l[i]? = some k →
    ∃ c0 c1 c2 c3 c4 c5, w.cell? ⟨b, off + i * 6, none⟩ = some c0 ∧ w.cell? ⟨b, off + i * 6 + 1, none⟩ = some c1 ∧ w.cell? ⟨b, off + i * 6 + 2, none⟩ = some c2 ∧ w.cell? ⟨b, off + i * 6 + 3, none⟩ = some c3 ∧
      w.cell? ⟨b, off + i * 6 + 4, none⟩ = some c4 ∧ w.cell? ⟨b, off + i * 6 + 5, none⟩ = some c5 ∧ Nd.rd w k (.agg #[c0, c1, c2, c3, c4, c5])
  | [], _, _, _, _, h => by simp at h
  | x :: r, off, 0, k, hr, h => by
    unfold rdKids at hr
    simp at h; subst h
    simpa using hr.1
  | x :: r, off, i + 1, k, hr, h => by
    unfold rdKids at hr
    have := rdKids_at (i := i) hr.2 (by simpa using h)
    rw [show off + (i + 1) * 6 = off + 6 + i * 6 by omega]
    exact this

/-- The same, each cell's value written out. -/
theorem rdKids_get {w : World} {b off i : Nat} {l : List Nd} {k : Nd} (hr : rdKids w b off l) (h : l[i]? = some k) :
    ∃ aA ac kA kc, w.cell? ⟨b, off + i * 6, none⟩ = some (.int .u64 k.id) ∧ w.cell? ⟨b, off + i * 6 + 1, none⟩ = some (.bool k.leaf) ∧ w.cell? ⟨b, off + i * 6 + 2, none⟩ = some (.string k.label) ∧
      w.cell? ⟨b, off + i * 6 + 3, none⟩ = some (.slice aA k.attrs.length ac) ∧ w.cell? ⟨b, off + i * 6 + 4, none⟩ = some (.string k.text) ∧ w.cell? ⟨b, off + i * 6 + 5, none⟩ = some (.slice kA k.kids.length kc) ∧
      Nd.rd w k (.agg #[.int .u64 k.id, .bool k.leaf, .string k.label, .slice aA k.attrs.length ac, .string k.text, .slice kA k.kids.length kc]) := by
  obtain ⟨c0, c1, c2, c3, c4, c5, h0, h1, h2, h3, h4, h5, h6⟩ := rdKids_at hr h
  obtain ⟨av, kv, he, _, _, _, _, ⟨aA, ac, rfl, _⟩, ⟨kA, kc, rfl, _⟩⟩ := Nd.rd_open h6
  simp only [Value.agg.injEq, Array.mk.injEq, List.cons.injEq, and_true] at he
  obtain ⟨rfl, rfl, rfl, rfl, rfl, rfl⟩ := he
  exact ⟨aA, ac, kA, kc, h0, h1, h2, h3, h4, h5, h6⟩

theorem rdAttrs_at {w : World} {b : Nat} : ∀ {l : List (ByteArray × ByteArray)} {off i : Nat} {k v : ByteArray}, rdAttrs w b off l → l[i]? = some (k, v) →
    w.cell? ⟨b, off + i * 2, none⟩ = some (.string k) ∧ w.cell? ⟨b, off + i * 2 + 1, none⟩ = some (.string v) ∧ k.size ≤ maxLen ∧ v.size ≤ maxLen
  | [], _, _, _, _, _, h => by simp at h
  | (x, y) :: r, off, 0, k, v, hr, h => by
    simp at h; obtain ⟨rfl, rfl⟩ := h
    obtain ⟨h1, h2, h3, h4, _⟩ := hr
    simpa using ⟨h1, h2, h3, h4⟩
  | (x, y) :: r, off, i + 1, k, v, hr, h => by
    obtain ⟨_, _, _, _, h5⟩ := hr
    have := rdAttrs_at (i := i) h5 (by simpa using h)
    rw [show off + (i + 1) * 2 = off + 2 + i * 2 by omega]
    exact this

/-- A call that hands back a value of which Φ says more; old memory stays. -/
def Ret (w : World) (Φ : Value → World → Prop) (e : Ending) (w' : World) : Prop := ∃ v, e = .returned v ∧ Φ v w' ∧ Ext w w'
theorem toList_inj {a b : ByteArray} (h : a.toList = b.toList) : a = b := by
  rw [ByteArray.toList_eq, ByteArray.toList_eq] at h
  obtain ⟨⟨x⟩⟩ := a; obtain ⟨⟨y⟩⟩ := b
  simp at h; subst h; rfl
theorem beq_str (a b : ByteArray) : (a.toList == b.toList) = decide (a = b) := by
  by_cases h : a = b
  · subst h; simp
  · rw [decide_eq_false h]; exact beq_eq_false_iff_ne.2 (fun e => h (toList_inj e))
theorem beq_str_no {a b : ByteArray} (h : a ≠ b) : (a.toList == b.toList) = false := by rw [beq_str, decide_eq_false h]
theorem beq_str_yes {a b : ByteArray} (h : a = b) : (a.toList == b.toList) = true := by rw [beq_str, decide_eq_true h]
theorem str_len (s : ByteArray) : s.toList.length = s.size := by rw [ByteArray.toList_eq]; rfl
theorem str_empty {s : ByteArray} (h : s.size = 0) : s.toList.isEmpty = true := by
  have := str_len s
  rw [List.isEmpty_iff]; exact List.eq_nil_of_length_eq_zero (by omega)
theorem str_some {s : ByteArray} (h : 0 < s.size) : s.toList.isEmpty = false := by
  have := str_len s
  cases hl : s.toList with
  | nil => rw [hl] at this; simp at this; omega
  | cons x r => rfl
theorem ret_int {w w' : World} {k : IntKind} {F x : Int} (h : x = F) (he : Ext w w') : Ret w (fun r _ => r = .int k F) (.returned (.int k x)) w' := ⟨_, rfl, by rw [h], he⟩
theorem ret_bool {w w' : World} {F x : Bool} (h : x = F) (he : Ext w w') : Ret w (fun r _ => r = .bool F) (.returned (.bool x)) w' := ⟨_, rfl, by rw [h], he⟩

theorem drop_at {α : Type} {l : List α} {k : Nat} {x : α} (h : l[k]? = some x) : l.drop k = x :: l.drop (k + 1) := by
  obtain ⟨hk, rfl⟩ := List.getElem?_eq_some_iff.1 h
  exact List.drop_eq_getElem_cons hk

end Go.Proofs.Ytobbdeakocgdcaa.Bw
