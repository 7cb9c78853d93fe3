/- Chapter 17: what bytes are, in plain Lean: numbers, texts, paths. -/
import Derived.Test.YtoplaokimahdiaaWiTree
namespace Go.Proofs.Ytoplaokimahdiaa.Wi
open Go.RowKit Go.Proofs.Ytoplaokimahdiaa.Bw

/-- The number at the beginning of bytes: k of its bytes are read, n is what they say. -/
def rdNum : Nat → Nat → List UInt8 → Option (Nat × List UInt8)
  | _, _, [] => none
  | k, n, c :: r =>
    if k < 9 ∨ k = 9 ∧ c.toNat ≤ 1 then
      if c.toNat < 128 then (if 0 < c.toNat ∨ k = 0 then some (n + c.toNat * 128 ^ k, r) else none)
      else rdNum (k + 1) (n + (c.toNat - 128) * 128 ^ k) r
    else none
theorem toNat_ofNat {n : Nat} (h : n < 256) : (UInt8.ofNat n).toNat = n := by
  rw [UInt8.toNat_ofNat']; omega
theorem rdNum_num : ∀ (j k n a : Nat) (r : List UInt8), k + j = 9 → n < 128 ^ j * 2 → (0 < n ∨ k = 0) → rdNum k a (num n ++ r) = some (a + n * 128 ^ k, r)
  | 0, k, n, a, r, hk, hn, h0 => by
    obtain rfl : k = 9 := by omega
    rw [num_small (by omega)]
    show rdNum 9 a (UInt8.ofNat n :: r) = _
    unfold rdNum
    rw [toNat_ofNat (by omega), if_pos (by omega), if_pos (by omega), if_pos (by omega)]
  | j + 1, k, n, a, r, hk, hn, h0 => by
    rcases Nat.lt_or_ge n 128 with h | h
    · rw [num_small h]
      show rdNum k a (UInt8.ofNat n :: r) = _
      unfold rdNum
      rw [toNat_ofNat (by omega), if_pos (by omega), if_pos h, if_pos h0]
    · rw [num_big h]
      show rdNum k a (UInt8.ofNat (n % 128 + 128) :: (num (n / 128) ++ r)) = _
      unfold rdNum
      rw [toNat_ofNat (by omega), if_pos (by omega), if_neg (by omega)]
      have hd : n / 128 < 128 ^ j * 2 := by
        rw [Nat.div_lt_iff_lt_mul (by decide)]
        have : 128 ^ (j + 1) = 128 ^ j * 128 := Nat.pow_succ ..
        rw [this] at hn
        omega
      rw [rdNum_num j (k + 1) (n / 128) _ r (by omega) hd (.inl (by omega))]
      have e : 128 ^ (k + 1) = 128 ^ k * 128 := Nat.pow_succ ..
      rw [e]
      have e3 : n % 128 + 128 - 128 = n % 128 := by omega
      rw [e3]
      generalize 128 ^ k = P
      have e4 : n * P = (n / 128 * 128 + n % 128) * P := by rw [Nat.div_add_mod' n 128]
      rw [e4, Nat.add_mul, Nat.mul_assoc (n / 128) 128 P, Nat.mul_comm 128 P, Nat.add_assoc, Nat.add_comm (n % 128 * P)]
theorem get_num {n : Nat} (h : n < 18446744073709551616) (r : List UInt8) : rdNum 0 0 (num n ++ r) = some (n, r) := by
  rw [rdNum_num 9 0 n 0 r rfl (by show n < 128 ^ 9 * 2; omega) (.inr rfl)]
  simp
theorem rdNum_is : ∀ (b : List UInt8) (k a x : Nat) (r : List UInt8), rdNum k a b = some (x, r) → k ≤ 9 ∧ ∃ n, b = num n ++ r ∧ x = a + n * 128 ^ k ∧ n < 128 ^ (9 - k) * 2 ∧ (0 < n ∨ k = 0)
  | [], k, a, x, r, h => by cases h
  | c :: b, k, a, x, r, h => by
    unfold rdNum at h
    have hc : c.toNat < 256 := c.toNat_lt
    split at h
    next h1 =>
      refine ⟨by omega, ?_⟩
      split at h
      next h2 =>
        split at h
        next h3 =>
          cases h
          refine ⟨c.toNat, ?_, rfl, ?_, h3⟩
          · rw [num_small h2]
            show c :: b = UInt8.ofNat c.toNat :: b
            rw [UInt8.ofNat_toNat]
          · rcases h1 with h1 | ⟨h1, h4⟩
            · have : 128 ^ 1 ≤ 128 ^ (9 - k) := Nat.pow_le_pow_right (by decide) (by omega)
              omega
            · subst h1
              show c.toNat < 1 * 2
              omega
        next => cases h
      next h2 =>
        obtain ⟨hk, n, rfl, rfl, hn, h0⟩ := rdNum_is b (k + 1) _ x r h
        have h0 : 0 < n := h0.resolve_right (by omega)
        have hk8 : k ≤ 8 := by omega
        have e9 : 128 ^ (9 - k) = 128 ^ (9 - (k + 1)) * 128 := by
          rw [← Nat.pow_succ]
          congr 1
          omega
        refine ⟨n * 128 + (c.toNat - 128), ?_, ?_, ?_, .inl (by omega)⟩
        · rw [num_big (n := n * 128 + (c.toNat - 128)) (by omega), show (n * 128 + (c.toNat - 128)) / 128 = n by omega, show (n * 128 + (c.toNat - 128)) % 128 + 128 = c.toNat by omega, UInt8.ofNat_toNat]
          rfl
        · have e : 128 ^ (k + 1) = 128 ^ k * 128 := Nat.pow_succ ..
          rw [e]
          generalize 128 ^ k = P
          rw [Nat.add_mul, Nat.mul_assoc n 128 P, Nat.mul_comm 128 P, Nat.add_assoc, Nat.add_comm ((c.toNat - 128) * P)]
        · rw [e9]
          omega
    next => cases h
/-- A number is read just if it was put. -/
theorem num_get {b : List UInt8} {x : Nat} {r : List UInt8} (h : rdNum 0 0 b = some (x, r)) : b = num x ++ r ∧ x < 18446744073709551616 := by
  obtain ⟨_, n, h1, h2, h3, _⟩ := rdNum_is b 0 0 x r h
  have : x = n := by omega
  subst this
  exact ⟨h1, by have : 128 ^ (9 - 0) * 2 = 18446744073709551616 := by decide
                omega⟩

/-! ### The readers: none, if they throw -/
abbrev Rd (α : Type) := List UInt8 → Option (α × List UInt8)
def smallP (below : Nat) : Rd Nat := fun b => match rdNum 0 0 b with
  | none => none
  | some (n, r) => if n < below then some (n, r) else none
def textP (most : Nat) : Rd ByteArray := fun b => match smallP (most + 1) b with
  | none => none
  | some (n, r) => if n ≤ r.length then some (⟨(r.take n).toArray⟩, r.drop n) else none
def flagP : Rd Bool := fun b => match b with
  | [] => none
  | c :: r => if c.toNat ≤ 1 then some (c.toNat == 1, r) else none
/-- So many things. -/
def manyP {α : Type} (f : Rd α) : Nat → Rd (List α)
  | 0, b => some ([], b)
  | k + 1, b => match f b with
    | none => none
    | some (x, r) => match manyP f k r with
      | none => none
      | some (l, r) => some (x :: l, r)
def rowP {α : Type} (most : Nat) (f : Rd α) : Rd (List α) := fun b => match smallP (most + 1) b with
  | none => none
  | some (n, r) => manyP f n r
def pathP : Rd (List Int) := rowP 64 (fun b => (smallP 1048577 b).map fun (n, r) => ((n : Int), r))

/-- f reads just what g puts. -/
def Inv {α : Type} (f : Rd α) (g : α → Option (List UInt8)) : Prop := ∀ b x r, f b = some (x, r) ↔ ∃ l, g x = some l ∧ b = l ++ r
theorem small_inv (below : Nat) (hb : below ≤ 18446744073709551616) : ∀ b (n : Nat) r, smallP below b = some (n, r) ↔ n < below ∧ b = num n ++ r := by
  intro b n r
  unfold smallP
  constructor
  · intro h
    split at h
    next => cases h
    next m t hm =>
      split at h
      next h1 =>
        cases h
        exact ⟨h1, (num_get hm).1⟩
      next => cases h
  · rintro ⟨h, rfl⟩
    rw [get_num (by omega)]
    simp only [h, if_true]
theorem smallI_inv : Inv (fun b => (smallP 1048577 b).map fun (n, r) => ((n : Int), r)) (fun n => smallE n 1048577) := by
  intro b x r
  constructor
  · intro h
    obtain ⟨⟨n, t⟩, h1, h2⟩ := Option.map_eq_some_iff.1 h
    cases h2
    obtain ⟨h3, h4⟩ := (small_inv 1048577 (by decide) b n r).1 h1
    refine ⟨num n, ?_, h4⟩
    show (if 0 ≤ (n : Int) ∧ (n : Int) < 1048577 then _ else _) = _
    rw [if_pos ⟨by omega, by omega⟩, Int.toNat_natCast]
  · rintro ⟨l, h, rfl⟩
    have h : (if 0 ≤ x ∧ x < 1048577 then some (num x.toNat) else none) = some l := h
    split at h
    next h1 =>
      cases h
      have := (small_inv 1048577 (by decide) (num x.toNat ++ r) x.toNat r).2 ⟨by omega, rfl⟩
      show (smallP 1048577 (num x.toNat ++ r)).map _ = _
      rw [this]
      show some (((x.toNat : Nat) : Int), r) = _
      rw [Int.toNat_of_nonneg h1.1]
    next => cases h
theorem text_inv (most : Nat) (hm : most ≤ 18446744073709551615) : Inv (textP most) (fun s => textE s most) := by
  intro b x r
  constructor
  · intro h
    unfold textP at h
    split at h
    next => cases h
    next n t hn =>
      obtain ⟨h1, rfl⟩ := (small_inv (most + 1) (by omega) b n t).1 hn
      split at h
      next h2 =>
        cases h
        have hs : (⟨(t.take n).toArray⟩ : ByteArray).size = n := by
          show (t.take n).toArray.size = n
          simp; omega
        refine ⟨num n ++ t.take n, ?_, ?_⟩
        · show (if (⟨(t.take n).toArray⟩ : ByteArray).size ≤ most then some (num (⟨(t.take n).toArray⟩ : ByteArray).size ++ bl ⟨(t.take n).toArray⟩) else none) = _
          rw [hs, if_pos (by omega)]
          rfl
        · rw [List.append_assoc, List.take_append_drop]
      next => cases h
  · rintro ⟨l, h, rfl⟩
    have h : (if x.size ≤ most then some (num x.size ++ bl x) else none) = some l := h
    split at h
    next h1 =>
      cases h
      unfold textP
      rw [List.append_assoc, (small_inv (most + 1) (by omega) _ x.size (bl x ++ r)).2 ⟨by omega, rfl⟩]
      simp only
      rw [if_pos (by rw [List.length_append, bl_len]; omega), ← bl_len x, List.take_left, List.drop_left]
      cases x
      rfl
    next => cases h
theorem many_inv {α : Type} {f : Rd α} {g : α → Option (List UInt8)} (hf : Inv f g) : ∀ (k : Nat) (b : List UInt8) (l : List α) (r : List UInt8), manyP f k b = some (l, r) ↔ l.length = k ∧ ∃ m, seqE (l.map g) = some m ∧ b = m ++ r
  | 0, b, l, r => by
    constructor
    · intro h; cases h; exact ⟨rfl, [], rfl, rfl⟩
    · rintro ⟨h, m, h1, rfl⟩
      obtain rfl := List.length_eq_zero_iff.1 h
      cases h1
      rfl
  | k + 1, b, l, r => by
    constructor
    · intro h
      unfold manyP at h
      split at h
      next => cases h
      next x t hx =>
        split at h
        next => cases h
        next l' t' hl =>
          cases h
          obtain ⟨a, h1, rfl⟩ := (hf b x t).1 hx
          obtain ⟨h2, m, h3, rfl⟩ := (many_inv hf k t l' r).1 hl
          refine ⟨by rw [List.length_cons, h2], a ++ m, ?_, (List.append_assoc ..).symm⟩
          rw [List.map_cons, h1, seqE_cons, h3]
          rfl
    · rintro ⟨h, m, h1, rfl⟩
      cases l with
      | nil => simp at h
      | cons x l =>
        obtain ⟨a, c, h2, h3, rfl⟩ := seqE_cons_some (show seqE (g x :: l.map g) = some m from h1)
        unfold manyP
        rw [List.append_assoc, (hf (a ++ (c ++ r)) x (c ++ r)).2 ⟨a, h2, rfl⟩]
        simp only
        rw [(many_inv hf k (c ++ r) l r).2 ⟨by simpa using h, c, h3, rfl⟩]
theorem row_inv {α : Type} {f : Rd α} {g : α → Option (List UInt8)} (hf : Inv f g) (most : Nat) (hm : most ≤ 18446744073709551615) : Inv (rowP most f) (fun l => rowE l most g) := by
  intro b x r
  constructor
  · intro h
    unfold rowP at h
    split at h
    next => cases h
    next n t hn =>
      obtain ⟨h1, rfl⟩ := (small_inv (most + 1) (by omega) b n t).1 hn
      obtain ⟨h2, m, h3, rfl⟩ := (many_inv hf n t x r).1 h
      refine ⟨num n ++ m, ?_, (List.append_assoc ..).symm⟩
      show (if x.length ≤ most then seqE (some (num x.length) :: x.map g) else none) = _
      rw [h2, if_pos (by omega), seqE_cons, h3]
      rfl
  · rintro ⟨l, h, rfl⟩
    have h : (if x.length ≤ most then seqE (some (num x.length) :: x.map g) else none) = some l := h
    split at h
    next h1 =>
      obtain ⟨a, c, h2, h3, rfl⟩ := seqE_cons_some h
      cases h2
      unfold rowP
      rw [List.append_assoc, (small_inv (most + 1) (by omega) _ x.length (c ++ r)).2 ⟨by omega, rfl⟩]
      exact (many_inv hf x.length (c ++ r) x r).2 ⟨rfl, c, h3, rfl⟩
    next => cases h
theorem path_inv : Inv pathP pathE := row_inv smallI_inv 64 (by decide)
theorem flag_inv : ∀ b (x : Bool) r, flagP b = some (x, r) ↔ b = flagE x ++ r := by
  intro b x r
  cases b with
  | nil =>
    constructor
    · intro h; cases h
    · intro h; cases h
  | cons c t =>
    show (if c.toNat ≤ 1 then some (c.toNat == 1, t) else none) = some (x, r) ↔ c :: t = (if x then 1 else 0) :: r
    constructor
    · intro h
      split at h
      next h1 =>
        cases h
        rcases (show c.toNat = 0 ∨ c.toNat = 1 by omega) with h2 | h2
        · have : c = 0 := UInt8.toNat_inj.1 h2
          subst this; rfl
        · have : c = 1 := UInt8.toNat_inj.1 h2
          subst this; rfl
      next => cases h
    · intro h
      simp only [List.cons.injEq] at h
      obtain ⟨rfl, rfl⟩ := h
      cases x <;> rfl
end Go.Proofs.Ytoplaokimahdiaa.Wi
