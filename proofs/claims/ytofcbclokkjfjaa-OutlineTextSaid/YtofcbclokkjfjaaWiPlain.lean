/- Chapter 17: the bytes of numbers, texts, paths, operations, lists, trees: what is put, in plain Lean. Nothing of the program is named here. -/
import Derived.Test.YtofcbclokkjfjaaBwData
namespace Go.Proofs.Ytofcbclokkjfjaa.Wi
open Go.RowKit Go.Proofs.Ytofcbclokkjfjaa.Bw

/-! ### Data -/
/-- A piece of an edit. -/
structure Pc where
  keep : Int
  drop : Int
  put : ByteArray
/-- An operation. -/
structure OpD where
  kind : Int
  path : List Int
  at_ : Int
  to : List Int
  id : Int
  leaf : Bool
  label : ByteArray
  key : ByteArray
  value : ByteArray
  gone : Bool
  pcs : List Pc
def bl (s : ByteArray) : List UInt8 := s.data.toList

/-! ### Numbers -/
def numF : Nat → Nat → List UInt8
  | 0, n => [UInt8.ofNat n]
  | k + 1, n => if n < 128 then [UInt8.ofNat n] else UInt8.ofNat (n % 128 + 128) :: numF k (n / 128)
/-- A number's bytes. -/
def num (n : Nat) : List UInt8 := numF n n
theorem numF_eq : ∀ (k j n : Nat), n ≤ k → n ≤ j → numF k n = numF j n
  | 0, 0, n, _, _ => rfl
  | 0, j + 1, n, h, _ => by
    have : n = 0 := by omega
    subst this
    simp [numF]
  | k + 1, 0, n, _, h => by
    have : n = 0 := by omega
    subst this
    simp [numF]
  | k + 1, j + 1, n, hk, hj => by
    unfold numF
    split
    · rfl
    · rw [numF_eq k j (n / 128) (by omega) (by omega)]
theorem num_small {n : Nat} (h : n < 128) : num n = [UInt8.ofNat n] := by
  unfold num
  cases n with
  | zero => rfl
  | succ n => unfold numF; rw [if_pos h]
theorem num_big {n : Nat} (h : 128 ≤ n) : num n = UInt8.ofNat (n % 128 + 128) :: num (n / 128) := by
  unfold num
  cases n with
  | zero => omega
  | succ n =>
    rw [show numF (n + 1) (n + 1) = if n + 1 < 128 then [UInt8.ofNat (n + 1)] else UInt8.ofNat ((n + 1) % 128 + 128) :: numF n ((n + 1) / 128) from rfl, if_neg (by omega), numF_eq n ((n + 1) / 128) _ (by omega) (Nat.le_refl _)]
theorem num_ne (n : Nat) : num n ≠ [] := by
  rcases Nat.lt_or_ge n 128 with h | h
  · rw [num_small h]; simp
  · rw [num_big h]; simp
theorem num_len_aux : ∀ (k n : Nat), n < 128 ^ (k + 1) → (num n).length ≤ k + 1
  | 0, n, h => by rw [num_small (by omega)]; exact Nat.le_refl _
  | k + 1, n, h => by
    rcases Nat.lt_or_ge n 128 with h1 | h1
    · rw [num_small h1]; simp
    · rw [num_big h1, List.length_cons]
      have : n / 128 < 128 ^ (k + 1) := by
        rw [Nat.div_lt_iff_lt_mul (by decide)]
        rw [show 128 ^ (k + 1) * 128 = 128 ^ (k + 1 + 1) from (Nat.pow_succ ..).symm]
        exact h
      have := num_len_aux k (n / 128) this
      omega
theorem num_len {n : Nat} (h : n < 18446744073709551616) : (num n).length ≤ 10 := num_len_aux 9 n (by omega)

/-! ### What may be put, and its bytes: none, if it may not -/
/-- One behind the other: none, if one of them is none. -/
def seqE : List (Option (List UInt8)) → Option (List UInt8)
  | [] => some []
  | none :: _ => none
  | some a :: r => match seqE r with
    | none => none
    | some b => some (a ++ b)
def smallE (n : Int) (below : Int) : Option (List UInt8) := if 0 ≤ n ∧ n < below then some (num n.toNat) else none
def textE (s : ByteArray) (most : Nat) : Option (List UInt8) := if s.size ≤ most then some (num s.size ++ bl s) else none
def flagE (b : Bool) : List UInt8 := [if b then 1 else 0]
/-- A row: how many, and each. -/
def rowE {α : Type} (l : List α) (most : Nat) (f : α → Option (List UInt8)) : Option (List UInt8) := if l.length ≤ most then seqE (some (num l.length) :: l.map f) else none
def pathE (p : List Int) : Option (List UInt8) := rowE p 64 (fun n => smallE n 1048577)
def bareO (o : OpD) : Bool :=
  (o.kind == 1 || (o.id == 0 && !o.leaf)) && (o.kind == 1 || o.kind == 3 || o.at_ == 0) && (o.kind == 3 || o.to.length == 0) && (o.kind == 4 || (o.key.size == 0 && o.value.size == 0 && !o.gone)) && (o.kind == 1 || o.kind == 5 || o.label.size == 0) && (o.kind == 6 || o.pcs.length == 0)
def pieceE (p : Pc) : Option (List UInt8) := seqE [smallE p.keep 1048577, smallE p.drop 1048577, textE p.put 1048576]
def restE (o : OpD) : List (Option (List UInt8)) :=
  if o.kind = 1 then [smallE o.at_ 1048577, some (num o.id.toNat), some (flagE o.leaf), textE o.label 64]
  else if o.kind = 3 then [pathE o.to, smallE o.at_ 1048577]
  else if o.kind = 4 then [if !o.gone || o.value.size == 0 then some [] else none, textE o.key 64, some (flagE o.gone), textE o.value 256]
  else if o.kind = 5 then [textE o.label 64]
  else if o.kind = 6 then [rowE o.pcs 4096 pieceE]
  else []
def opE (o : OpD) : Option (List UInt8) := if 1 ≤ o.kind ∧ o.kind ≤ 6 ∧ bareO o = true then seqE (some [UInt8.ofNat o.kind.toNat] :: pathE o.path :: restE o) else none
def listE (l : List OpD) : Option (List UInt8) := rowE l 4096 opE
/-- What stands in a slice: nothing, if there is none. -/
def bytesOf : Option (List UInt8) → List UInt8
  | none => []
  | some b => b
theorem seqE_cons (a : List UInt8) (r : List (Option (List UInt8))) : seqE (some a :: r) = (seqE r).map (a ++ ·) := by
  show (match seqE r with | none => none | some b => some (a ++ b)) = _
  cases seqE r <;> rfl
theorem seqE_app : ∀ (l r : List (Option (List UInt8))), seqE (l ++ r) = (seqE l).bind fun a => (seqE r).map (a ++ ·)
  | [], r => by simp [seqE]
  | none :: l, r => rfl
  | some a :: l, r => by
    rw [List.cons_append, seqE_cons, seqE_cons, seqE_app l r]
    cases seqE l with
    | none => rfl
    | some b => cases seqE r <;> simp
end Go.Proofs.Ytofcbclokkjfjaa.Wi
