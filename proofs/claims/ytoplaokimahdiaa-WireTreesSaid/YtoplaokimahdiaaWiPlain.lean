/- The data of the program ats plain Lean types, and what it is for a value in memory to read ats such data. Nothing of the program is named here. -/
import Derived.WalkKit
import Derived.Lib.Hide
import Derived.Deep.Draws
namespace Go.Proofs.Ytoplaokimahdiaa.Bw
open Go.RowKit

/-- A tree's node. -/
inductive Nd where
  | mk (id : Int) (leaf : Bool) (label : ByteArray) (attrs : List (ByteArray × ByteArray)) (text : ByteArray) (kids : List Nd)

namespace Nd
def id : Nd → Int | mk i _ _ _ _ _ => i
def leaf : Nd → Bool | mk _ l _ _ _ _ => l
def label : Nd → ByteArray | mk _ _ l _ _ _ => l
def attrs : Nd → List (ByteArray × ByteArray) | mk _ _ _ a _ _ => a
def text : Nd → ByteArray | mk _ _ _ _ t _ => t
def kids : Nd → List Nd | mk _ _ _ _ _ k => k
end Nd

/-- Old memory stays: 'w' is w with more behind it. -/
abbrev Ext (w w' : World) : Prop := Below w.heap.size w w'
theorem Ext.refl (w : World) : Ext w w := Below.refl _ w
theorem Ext.trans {a b c : World} (h : Ext a b) (k : Ext b c) : Ext a c := Below.trans h (Below.mono k h.size)
theorem Ext.drew {a b : World} (h : Ext a b) : Ext a b.drew := Below.drew h
theorem Ext.drewN {a b : World} (h : Ext a b) (n : Nat) : Ext a (b.drewN n) := ⟨h.os, h.tape, h.output, h.size, h.block⟩
theorem Ext.alloc {a b : World} (h : Ext a b) (o : Obj) : Ext a (b.alloc o) := Below.alloc h h.size o
theorem Ext.cell {w w' : World} (h : Ext w w') {p : Addr} {v : Value} (hc : w.cell? p = some v) : w'.cell? p = some v := by
  have hb : p.block < w.heap.size := by
    unfold World.cell? at hc
    rcases Nat.lt_or_ge p.block w.heap.size with hlt | hge
    · exact hlt
    · rw [Array.getElem?_eq_none hge] at hc; cases hc
  rw [Below.cell h hb]; exact hc

/-- A string that fits. -/
def okStr (s : ByteArray) : Prop := s.size ≤ maxLen

/-- An attribute row from an address on. -/
def rdAttrs (w : World) (b : Nat) : Nat → List (ByteArray × ByteArray) → Prop
  | _, [] => True
  | off, (k, v) :: r => w.cell? ⟨b, off, none⟩ = some (.string k) ∧ w.cell? ⟨b, off + 1, none⟩ = some (.string v) ∧ okStr k ∧ okStr v ∧ rdAttrs w b (off + 2) r

/-- A slice value that reads ats an attribute row. -/
def RdA (w : World) (l : List (ByteArray × ByteArray)) (v : Value) : Prop :=
  ∃ A c, v = .slice A l.length c ∧ l.length ≤ c ∧ c ≤ maxLen ∧ (l ≠ [] → ∃ b off, A = some ⟨b, off, none⟩ ∧ rdAttrs w b off l)

mutual
/-- A value that reads ats a node. -/
def Nd.rd (w : World) : Nd → Value → Prop
  | .mk id leaf lb ats tx ks, v => ∃ av A c, v = .agg #[.int .u64 id, .bool leaf, .string lb, av, .string tx, .slice A ks.length c] ∧ (0 ≤ id ∧ id ≤ 18446744073709551615) ∧ okStr lb ∧ okStr tx ∧ RdA w ats av ∧
      ks.length ≤ c ∧ c ≤ maxLen ∧ (ks ≠ [] → ∃ b off, A = some ⟨b, off, none⟩ ∧ rdKids w b off ks)
/-- A row of nodes from an address on. -/
def rdKids (w : World) (b : Nat) (off : Nat) : List Nd → Prop
  | [] => True
  | k :: r => (∃ c0 c1 c2 c3 c4 c5, w.cell? ⟨b, off, none⟩ = some c0 ∧ w.cell? ⟨b, off + 1, none⟩ = some c1 ∧ w.cell? ⟨b, off + 2, none⟩ = some c2 ∧ w.cell? ⟨b, off + 3, none⟩ = some c3 ∧
      w.cell? ⟨b, off + 4, none⟩ = some c4 ∧ w.cell? ⟨b, off + 5, none⟩ = some c5 ∧ Nd.rd w k (.agg #[c0, c1, c2, c3, c4, c5])) ∧ rdKids w b (off + 6) r
end

/-- A slice value that reads ats a row of nodes. -/
def RdK (w : World) (ks : List Nd) (v : Value) : Prop :=
  ∃ A c, v = .slice A ks.length c ∧ ks.length ≤ c ∧ c ≤ maxLen ∧ (ks ≠ [] → ∃ b off, A = some ⟨b, off, none⟩ ∧ rdKids w b off ks)

theorem rdAttrs_ext {w w' : World} (h : Ext w w') {b : Nat} : ∀ {off : Nat} {l : List (ByteArray × ByteArray)}, rdAttrs w b off l → rdAttrs w' b off l
  | _, [], _ => trivial
  | _, (_, _) :: _, ⟨h1, h2, h3, h4, h5⟩ => ⟨h.cell h1, h.cell h2, h3, h4, rdAttrs_ext h h5⟩

theorem RdA.ext {w w' : World} (h : Ext w w') {l : List (ByteArray × ByteArray)} {v : Value} (hr : RdA w l v) : RdA w' l v := by
  obtain ⟨A, c, rfl, h1, h2, h3⟩ := hr
  refine ⟨A, c, rfl, h1, h2, fun hl => ?_⟩
  obtain ⟨b, off, rfl, h4⟩ := h3 hl
  exact ⟨b, off, rfl, rdAttrs_ext h h4⟩

mutual
theorem Nd.rd_ext {w w' : World} (h : Ext w w') : ∀ {t : Nd} {v : Value}, Nd.rd w t v → Nd.rd w' t v
  | .mk _ _ _ _ _ ks, _, hr => by
    unfold Nd.rd at hr ⊢
    obtain ⟨av, A, c, rfl, h1, h2, h3, h4, h5, h6, h7⟩ := hr
    refine ⟨av, A, c, rfl, h1, h2, h3, h4.ext h, h5, h6, fun hl => ?_⟩
    obtain ⟨b, off, rfl, h8⟩ := h7 hl
    exact ⟨b, off, rfl, rdKids_ext h h8⟩
theorem rdKids_ext {w w' : World} (h : Ext w w') {b : Nat} : ∀ {off : Nat} {l : List Nd}, rdKids w b off l → rdKids w' b off l
  | _, [], _ => by unfold rdKids; trivial
  | _, k :: r, hr => by
    unfold rdKids at hr ⊢
    obtain ⟨⟨c0, c1, c2, c3, c4, c5, h0, h1, h2, h3, h4, h5, h6⟩, h7⟩ := hr
    exact ⟨⟨c0, c1, c2, c3, c4, c5, h.cell h0, h.cell h1, h.cell h2, h.cell h3, h.cell h4, h.cell h5, Nd.rd_ext h h6⟩, rdKids_ext h h7⟩
end

theorem RdK.ext {w w' : World} (h : Ext w w') {l : List Nd} {v : Value} (hr : RdK w l v) : RdK w' l v := by
  obtain ⟨A, c, rfl, h1, h2, h3⟩ := hr
  refine ⟨A, c, rfl, h1, h2, fun hl => ?_⟩
  obtain ⟨b, off, rfl, h4⟩ := h3 hl
  exact ⟨b, off, rfl, rdKids_ext h h4⟩

/-- The parts of a node that reads. -/
theorem Nd.rd_open {w : World} {t : Nd} {v : Value} (h : t.rd w v) : ∃ av kv, v = .agg #[.int .u64 t.id, .bool t.leaf, .string t.label, av, .string t.text, kv] ∧ 0 ≤ t.id ∧ t.id ≤ 18446744073709551615 ∧ t.label.size ≤ maxLen ∧ t.text.size ≤ maxLen ∧ RdA w t.attrs av ∧ RdK w t.kids kv := by
  cases t with
  | mk id leaf lb ats tx ks =>
    unfold Nd.rd at h
    obtain ⟨av, A, c, rfl, ⟨h1, h1'⟩, h2, h3, h4, h5, h6, h7⟩ := h
    exact ⟨av, _, rfl, h1, h1', h2, h3, h4, A, c, rfl, h5, h6, h7⟩
theorem Nd.rd_shut {w : World} {t : Nd} {av kv : Value} (h1 : 0 ≤ t.id) (h1' : t.id ≤ 18446744073709551615) (h2 : t.label.size ≤ maxLen) (h3 : t.text.size ≤ maxLen) (h4 : RdA w t.attrs av) (h5 : RdK w t.kids kv) :
    t.rd w (.agg #[.int .u64 t.id, .bool t.leaf, .string t.label, av, .string t.text, kv]) := by
  cases t with
  | mk id leaf lb ats tx ks =>
    obtain ⟨A, c, rfl, h6, h7, h8⟩ := h5
    unfold Nd.rd
    exact ⟨av, A, c, rfl, ⟨h1, h1'⟩, h2, h3, h4, h6, h7, h8⟩

/-- One child out of a row. -/
theorem rdKids_at {w : World} {b : Nat} : ∀ {l : List Nd} {off i : Nat} {k : Nd}, rdKids w b off l → l[i]? = some k →
    ∃ c0 c1 c2 c3 c4 c5, w.cell? ⟨b, off + i * 6, none⟩ = some c0 ∧ w.cell? ⟨b, off + i * 6 + 1, none⟩ = some c1 ∧ w.cell? ⟨b, off + i * 6 + 2, none⟩ = some c2 ∧ w.cell? ⟨b, off + i * 6 + 3, none⟩ = some c3 ∧
      w.cell? ⟨b, off + i * 6 + 4, none⟩ = some c4 ∧ w.cell? ⟨b, off + i * 6 + 5, none⟩ = some c5 ∧ Nd.rd w k (.agg #[c0, c1, c2, c3, c4, c5])
  | [], _, _, _, _, h => by simp at h
  | x :: r, off, 0, k, hr, h => by
    unfold rdKids at hr
    simp at h; subst h
    simpa using hr.1
  | x :: r, off, i + 1, k, hr, h => by
    unfold rdKids at hr
    have := rdKids_at (i := i) hr.2 (by simpa using h)
    rw [show off + (i + 1) * 6 = off + 6 + i * 6 by omega]
    exact this

/-- The same, each cell's value written out. -/
theorem rdKids_get {w : World} {b off i : Nat} {l : List Nd} {k : Nd} (hr : rdKids w b off l) (h : l[i]? = some k) :
    ∃ aA ac kA kc, w.cell? ⟨b, off + i * 6, none⟩ = some (.int .u64 k.id) ∧ w.cell? ⟨b, off + i * 6 + 1, none⟩ = some (.bool k.leaf) ∧ w.cell? ⟨b, off + i * 6 + 2, none⟩ = some (.string k.label) ∧
      w.cell? ⟨b, off + i * 6 + 3, none⟩ = some (.slice aA k.attrs.length ac) ∧ w.cell? ⟨b, off + i * 6 + 4, none⟩ = some (.string k.text) ∧ w.cell? ⟨b, off + i * 6 + 5, none⟩ = some (.slice kA k.kids.length kc) ∧
      Nd.rd w k (.agg #[.int .u64 k.id, .bool k.leaf, .string k.label, .slice aA k.attrs.length ac, .string k.text, .slice kA k.kids.length kc]) := by
  obtain ⟨c0, c1, c2, c3, c4, c5, h0, h1, h2, h3, h4, h5, h6⟩ := rdKids_at hr h
  obtain ⟨av, kv, he, _, _, _, _, ⟨aA, ac, rfl, _⟩, ⟨kA, kc, rfl, _⟩⟩ := Nd.rd_open h6
  simp only [Value.agg.injEq, Array.mk.injEq, List.cons.injEq, and_true] at he
  obtain ⟨rfl, rfl, rfl, rfl, rfl, rfl⟩ := he
  exact ⟨aA, ac, kA, kc, h0, h1, h2, h3, h4, h5, h6⟩

theorem rdAttrs_at {w : World} {b : Nat} : ∀ {l : List (ByteArray × ByteArray)} {off i : Nat} {k v : ByteArray}, rdAttrs w b off l → l[i]? = some (k, v) →
    w.cell? ⟨b, off + i * 2, none⟩ = some (.string k) ∧ w.cell? ⟨b, off + i * 2 + 1, none⟩ = some (.string v) ∧ k.size ≤ maxLen ∧ v.size ≤ maxLen
  | [], _, _, _, _, _, h => by simp at h
  | (x, y) :: r, off, 0, k, v, hr, h => by
    simp at h; obtain ⟨rfl, rfl⟩ := h
    obtain ⟨h1, h2, h3, h4, _⟩ := hr
    simpa using ⟨h1, h2, h3, h4⟩
  | (x, y) :: r, off, i + 1, k, v, hr, h => by
    obtain ⟨_, _, _, _, h5⟩ := hr
    have := rdAttrs_at (i := i) h5 (by simpa using h)
    rw [show off + (i + 1) * 2 = off + 2 + i * 2 by omega]
    exact this

/-- A call that hands back a value of which Φ says more; old memory stays. -/
def Ret (w : World) (Φ : Value → World → Prop) (e : Ending) (w' : World) : Prop := ∃ v, e = .returned v ∧ Φ v w' ∧ Ext w w'
theorem toList_inj {a b : ByteArray} (h : a.toList = b.toList) : a = b := by
  rw [ByteArray.toList_eq, ByteArray.toList_eq] at h
  obtain ⟨⟨x⟩⟩ := a; obtain ⟨⟨y⟩⟩ := b
  simp at h; subst h; rfl
theorem beq_str (a b : ByteArray) : (a.toList == b.toList) = decide (a = b) := by
  by_cases h : a = b
  · subst h; simp
  · rw [decide_eq_false h]; exact beq_eq_false_iff_ne.2 (fun e => h (toList_inj e))
theorem beq_str_no {a b : ByteArray} (h : a ≠ b) : (a.toList == b.toList) = false := by rw [beq_str, decide_eq_false h]
theorem beq_str_yes {a b : ByteArray} (h : a = b) : (a.toList == b.toList) = true := by rw [beq_str, decide_eq_true h]
theorem str_len (s : ByteArray) : s.toList.length = s.size := by rw [ByteArray.toList_eq]; rfl
theorem str_empty {s : ByteArray} (h : s.size = 0) : s.toList.isEmpty = true := by
  have := str_len s
  rw [List.isEmpty_iff]; exact List.eq_nil_of_length_eq_zero (by omega)
theorem str_some {s : ByteArray} (h : 0 < s.size) : s.toList.isEmpty = false := by
  have := str_len s
  cases hl : s.toList with
  | nil => rw [hl] at this; simp at this; omega
  | cons x r => rfl
theorem ret_int {w w' : World} {k : IntKind} {F x : Int} (h : x = F) (he : Ext w w') : Ret w (fun r _ => r = .int k F) (.returned (.int k x)) w' := ⟨_, rfl, by rw [h], he⟩
theorem ret_bool {w w' : World} {F x : Bool} (h : x = F) (he : Ext w w') : Ret w (fun r _ => r = .bool F) (.returned (.bool x)) w' := ⟨_, rfl, by rw [h], he⟩

theorem drop_at {α : Type} {l : List α} {k : Nat} {x : α} (h : l[k]? = some x) : l.drop k = x :: l.drop (k + 1) := by
  obtain ⟨hk, rfl⟩ := List.getElem?_eq_some_iff.1 h
  exact List.drop_eq_getElem_cons hk

end Go.Proofs.Ytoplaokimahdiaa.Bw
namespace Go.Proofs.Ytoplaokimahdiaa.Wi
open Go.RowKit Go.Proofs.Ytoplaokimahdiaa.Bw

/-! ### Data -/
/-- A piece of an edit. -/
structure Pc where
  keep : Int
  drop : Int
  put : ByteArray
/-- An operation. -/
structure OpD where
  kind : Int
  path : List Int
  at_ : Int
  to : List Int
  id : Int
  leaf : Bool
  label : ByteArray
  key : ByteArray
  value : ByteArray
  gone : Bool
  pcs : List Pc
def bl (s : ByteArray) : List UInt8 := s.data.toList

/-! ### Numbers -/
def numF : Nat → Nat → List UInt8
  | 0, n => [UInt8.ofNat n]
  | k + 1, n => if n < 128 then [UInt8.ofNat n] else UInt8.ofNat (n % 128 + 128) :: numF k (n / 128)
/-- A number's bytes. -/
def num (n : Nat) : List UInt8 := numF n n
theorem numF_eq : ∀ (k j n : Nat), n ≤ k → n ≤ j → numF k n = numF j n
  | 0, 0, n, _, _ => rfl
  | 0, j + 1, n, h, _ => by
    have : n = 0 := by omega
    subst this
    simp [numF]
  | k + 1, 0, n, _, h => by
    have : n = 0 := by omega
    subst this
    simp [numF]
  | k + 1, j + 1, n, hk, hj => by
    unfold numF
    split
    · rfl
    · rw [numF_eq k j (n / 128) (by omega) (by omega)]
theorem num_small {n : Nat} (h : n < 128) : num n = [UInt8.ofNat n] := by
  unfold num
  cases n with
  | zero => rfl
  | succ n => unfold numF; rw [if_pos h]
theorem num_big {n : Nat} (h : 128 ≤ n) : num n = UInt8.ofNat (n % 128 + 128) :: num (n / 128) := by
  unfold num
  cases n with
  | zero => omega
  | succ n =>
    rw [show numF (n + 1) (n + 1) = if n + 1 < 128 then [UInt8.ofNat (n + 1)] else UInt8.ofNat ((n + 1) % 128 + 128) :: numF n ((n + 1) / 128) from rfl, if_neg (by omega), numF_eq n ((n + 1) / 128) _ (by omega) (Nat.le_refl _)]
theorem num_ne (n : Nat) : num n ≠ [] := by
  rcases Nat.lt_or_ge n 128 with h | h
  · rw [num_small h]; simp
  · rw [num_big h]; simp
theorem num_len_aux : ∀ (k n : Nat), n < 128 ^ (k + 1) → (num n).length ≤ k + 1
  | 0, n, h => by rw [num_small (by omega)]; exact Nat.le_refl _
  | k + 1, n, h => by
    rcases Nat.lt_or_ge n 128 with h1 | h1
    · rw [num_small h1]; simp
    · rw [num_big h1, List.length_cons]
      have : n / 128 < 128 ^ (k + 1) := by
        rw [Nat.div_lt_iff_lt_mul (by decide)]
        rw [show 128 ^ (k + 1) * 128 = 128 ^ (k + 1 + 1) from (Nat.pow_succ ..).symm]
        exact h
      have := num_len_aux k (n / 128) this
      omega
theorem num_len {n : Nat} (h : n < 18446744073709551616) : (num n).length ≤ 10 := num_len_aux 9 n (by omega)

/-! ### What may be put, and its bytes: none, if it may not -/
/-- One behind the other: none, if one of them is none. -/
def seqE : List (Option (List UInt8)) → Option (List UInt8)
  | [] => some []
  | none :: _ => none
  | some a :: r => match seqE r with
    | none => none
    | some b => some (a ++ b)
def smallE (n : Int) (below : Int) : Option (List UInt8) := if 0 ≤ n ∧ n < below then some (num n.toNat) else none
def textE (s : ByteArray) (most : Nat) : Option (List UInt8) := if s.size ≤ most then some (num s.size ++ bl s) else none
def flagE (b : Bool) : List UInt8 := [if b then 1 else 0]
/-- A row: how many, and each. -/
def rowE {α : Type} (l : List α) (most : Nat) (f : α → Option (List UInt8)) : Option (List UInt8) := if l.length ≤ most then seqE (some (num l.length) :: l.map f) else none
def pathE (p : List Int) : Option (List UInt8) := rowE p 64 (fun n => smallE n 1048577)
def bareO (o : OpD) : Bool :=
  (o.kind == 1 || (o.id == 0 && !o.leaf)) && (o.kind == 1 || o.kind == 3 || o.at_ == 0) && (o.kind == 3 || o.to.length == 0) && (o.kind == 4 || (o.key.size == 0 && o.value.size == 0 && !o.gone)) && (o.kind == 1 || o.kind == 5 || o.label.size == 0) && (o.kind == 6 || o.pcs.length == 0)
def pieceE (p : Pc) : Option (List UInt8) := seqE [smallE p.keep 1048577, smallE p.drop 1048577, textE p.put 1048576]
def restE (o : OpD) : List (Option (List UInt8)) :=
  if o.kind = 1 then [smallE o.at_ 1048577, some (num o.id.toNat), some (flagE o.leaf), textE o.label 64]
  else if o.kind = 3 then [pathE o.to, smallE o.at_ 1048577]
  else if o.kind = 4 then [if !o.gone || o.value.size == 0 then some [] else none, textE o.key 64, some (flagE o.gone), textE o.value 256]
  else if o.kind = 5 then [textE o.label 64]
  else if o.kind = 6 then [rowE o.pcs 4096 pieceE]
  else []
def opE (o : OpD) : Option (List UInt8) := if 1 ≤ o.kind ∧ o.kind ≤ 6 ∧ bareO o = true then seqE (some [UInt8.ofNat o.kind.toNat] :: pathE o.path :: restE o) else none
def listE (l : List OpD) : Option (List UInt8) := rowE l 4096 opE
/-- What stands in a slice: nothing, if there is none. -/
def bytesOf : Option (List UInt8) → List UInt8
  | none => []
  | some b => b
theorem seqE_cons (a : List UInt8) (r : List (Option (List UInt8))) : seqE (some a :: r) = (seqE r).map (a ++ ·) := by
  show (match seqE r with | none => none | some b => some (a ++ b)) = _
  cases seqE r <;> rfl
theorem seqE_app : ∀ (l r : List (Option (List UInt8))), seqE (l ++ r) = (seqE l).bind fun a => (seqE r).map (a ++ ·)
  | [], r => by simp [seqE]
  | none :: l, r => rfl
  | some a :: l, r => by
    rw [List.cons_append, seqE_cons, seqE_cons, seqE_app l r]
    cases seqE l with
    | none => rfl
    | some b => cases seqE r <;> simp
end Go.Proofs.Ytoplaokimahdiaa.Wi
