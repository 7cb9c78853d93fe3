/- Chapter 17: a number is read. (Printed by gwrdnum.py.) -/
import Derived.Test.YtoplaokimahdiaaWiRdr
import Derived.Laws.Bits64b
namespace Go.Proofs.Ytoplaokimahdiaa.Wi
open Go.RowKit Go.Proofs.Ytoplaokimahdiaa.Bw Go.Proofs.Ytoplaokimahdiaa.Bs

set_option maxRecDepth 100000 in
theorem and127 : ∀ x : Fin 256, bits BinOp.and IntKind.u8 ((x.val : Nat) : Int) 127 = ((x.val % 128 : Nat) : Int) := by decide
theorem two_seven (k : Nat) : (2 : Nat) ^ (7 * k) = 128 ^ k := by rw [Nat.pow_mul]
theorem shl_or (a k : Nat) (x : UInt8) (ha : a < 128 ^ k) (hk : k < 9 ∨ k = 9 ∧ x.toNat ≤ 1) :
    bits BinOp.or IntKind.u64 (a : Int) (IntKind.u64.wrap (IntKind.u64.wrap (bits BinOp.and IntKind.u8 (x.toNat : Int) 127) * 2 ^ (7 * k))) = ((a + x.toNat % 128 * 128 ^ k : Nat) : Int) := by
  have hx := x.toNat_lt
  have h1 := and127 ⟨x.toNat, hx⟩
  simp only at h1
  rw [h1]
  obtain ⟨d, hd⟩ : ∃ d, x.toNat % 128 = d := ⟨_, rfl⟩
  rw [hd]
  have hd1 : d < 128 := by omega
  have hle : d * 128 ^ k < 9223372036854775808 * 2 := by
    rcases hk with h | ⟨rfl, h⟩
    · have h2 : 128 ^ k ≤ 128 ^ 8 := Nat.pow_le_pow_right (by decide) (by omega)
      have h3 : d * 128 ^ k ≤ 127 * 128 ^ 8 := Nat.mul_le_mul (by omega) h2
      exact Nat.lt_of_le_of_lt h3 (by decide)
    · have h3 : d * 128 ^ 9 ≤ 1 * 128 ^ 9 := Nat.mul_le_mul_right _ (by omega)
      exact Nat.lt_of_le_of_lt h3 (by decide)
  have ha2 : a < 9223372036854775808 * 2 := by
    have h2 : 128 ^ k ≤ 128 ^ 9 := Nat.pow_le_pow_right (by decide) (by omega)
    exact Nat.lt_of_lt_of_le ha (Nat.le_trans h2 (by decide))
  have e1 : IntKind.u64.wrap ((d : Nat) : Int) = (d : Int) := by rw [IntKind.wrap_u64]; omega
  have e2 : ((d : Nat) : Int) * (2 : Int) ^ (7 * k) = ((d * 128 ^ k : Nat) : Int) := by
    rw [← two_seven]
    push_cast
    rfl
  rw [e1, e2]
  have e3 : IntKind.u64.wrap ((d * 128 ^ k : Nat) : Int) = ((d * 128 ^ k : Nat) : Int) := by rw [IntKind.wrap_u64]; omega
  rw [e3, bits_or_u64_nat a (d * 128 ^ k) (by omega) (by omega)]
  congr 1
  rw [Nat.or_comm, ← two_seven, ← Nat.shiftLeft_eq, Nat.add_comm a, Nat.shiftLeft_add_eq_or_of_lt (by rw [two_seven]; exact ha)]
theorem rdNum_cons (k n : Nat) (c : UInt8) (r : List UInt8) : rdNum k n (c :: r) = if k < 9 ∨ k = 9 ∧ c.toNat ≤ 1 then (if c.toNat < 128 then (if 0 < c.toNat ∨ k = 0 then some (n + c.toNat * 128 ^ k, r) else none) else rdNum (k + 1) (n + (c.toNat - 128) * 128 ^ k) r) else none := rfl
/-- What a call that reads does. -/
def RdC {α : Type} (w0 w : World) (B : Nat) (enc : α → Value → World → Prop) (p : Option (α × List UInt8)) (e : Ending) (W' : World) : Prop :=
  Ext w0 W' ∧ Fr w W' (isB B) ∧ match p with
  | none => e = .panicked WR
  | some (x, r) => ∃ v, e = .returned v ∧ enc x v W' ∧ RS w0 W' B r
def natV (n : Nat) (v : Value) (_ : World) : Prop := v = .int .u64 (n : Int)
theorem RdC.no {α : Type} {w0 w W' : World} {B : Nat} {enc : α → Value → World → Prop} {p : Option (α × List UInt8)} (h : p = none) (hX : Ext w0 W') (hF : Fr w W' (isB B)) : RdC w0 w B enc p (.panicked WR) W' := by subst h; exact ⟨hX, hF, rfl⟩
theorem RdC.yes {α : Type} {w0 w W' : World} {B : Nat} {enc : α → Value → World → Prop} {p : Option (α × List UInt8)} {x : α} {r : List UInt8} {v : Value} (h : p = some (x, r)) (hv : enc x v W') (hR : RS w0 W' B r) (hF : Fr w W' (isB B)) : RdC w0 w B enc p (.returned v) W' := by subst h; exact ⟨hR.ext, hF, v, rfl, hv, hR⟩
set_option maxRecDepth 100000 in
set_option maxHeartbeats 2000000 in
theorem rnumber_any (bs : List UInt8) (w0 w : World) (B : Nat) (h : RS w0 w B bs) : Calls Try.prog 47 #[.pointer (some ⟨B, 0, none⟩)] w (RdC w0 w B natV (rdNum 0 0 bs)) := by
  have HH := Lib.hid h
  clear h
  go_enter Try.func47, Try.ntmps47
  go_wp2_with fail
  go_loopw [3, 4, 5] (fun s3 s4 s5 wr => ∃ (k a : Nat) (b : List UInt8), s3 = .int .u64 (a : Int) ∧ s4 = .int .i64 ((7 * k : Nat) : Int) ∧ k ≤ 9 ∧ a < 128 ^ k ∧ RS w0 wr B b ∧ Fr w wr (isB B) ∧ Hid (rdNum k a b = rdNum 0 0 bs)) (fun _ i _ _ => 70 - (intOf i).toNat)
  case atStart => exact ⟨0, 0, bs, rfl, rfl, by decide, by decide, HH.out, Fr.refl _ _, Lib.hid rfl⟩
  case round =>
    obtain ⟨k, a, b, rfl, rfl, hk, ha, hR, hF, HN⟩ := hrel
    have q1 : (0 : Int) ≤ ((7 * k : Nat) : Int) := by omega
    have HF := Lib.hid hF
    clear hF
    cases b with
    | nil =>
      have hc := byte_no w0 wr B hR
      have HX := Lib.hid hR.ext
      clear hR
      go_wp2_with fail
      refine hc.mono ?_
      clear hc
      rintro e w1 ⟨rfl, rfl⟩
      go_wp2_with fail
      exact ⟨rfl, RdC.no (by rw [← HN.out]; rfl) HX.out HF.out⟩
    | cons x r =>
      have hc := byte_yes x r w0 wr B hR
      clear hR
      go_wp2_with fail
      refine hc.mono ?_
      clear hc
      rintro e w1 ⟨rfl, hR2, hF2⟩
      have HR2 := Lib.hid hR2
      have HF2 := Lib.hid (HF.out.trans hF2)
      have HN2 := Lib.hid ((rdNum_cons k a x r).symm.trans HN.out)
      have hxl := x.toNat_lt
      clear hR2 hF2 HN
      rcases Nat.lt_or_ge k 9 with h9 | h9
      · have t1 : decide (((7 * k : Nat) : Int) < 63) = true := decide_eq_true (by omega)
        have t1' : decide (7 * (k : Int) < 63) = true := decide_eq_true (by omega)
        have HC : Hid (k < 9 ∨ k = 9 ∧ x.toNat ≤ 1) := Lib.hid (.inl h9)
        have hsh := shl_or a k x ha HC.out
        obtain ⟨A, hA⟩ : ∃ A, a + x.toNat % 128 * 128 ^ k = A := ⟨_, rfl⟩
        have HA := Lib.hid hA
        rw [hA] at hsh
        clear hA
        have hw := want_yes w1
        rcases Nat.lt_or_ge x.toNat 128 with hx | hx
        · have t2 : decide (x.toNat < 128) = true := decide_eq_true hx
          by_cases h0 : 0 < x.toNat ∨ k = 0
          · have HP : Hid (rdNum 0 0 bs = some (A, r)) := Lib.hid (by rw [← HN2.out, if_pos HC.out, if_pos hx, if_pos h0, ← HA.out, Nat.mod_eq_of_lt hx])
            go_wp2_with fail
            refine hw.mono ?_
            rintro e w2 ⟨rfl, rfl⟩
            cases hp : decide (0 < x.toNat) with
            | true =>
              go_wp2_with fail
              refine hw.mono ?_
              rintro e w2 ⟨rfl, rfl⟩
              go_wp2_with fail
              go_ret
              exact RdC.yes HP.out rfl HR2.out HF2.out
            | false =>
              have hk0 : k = 0 := h0.resolve_left (of_decide_eq_false hp)
              have z1 : (7 * (k : Int) == 0) = true := by rw [hk0]; rfl
              clear hk0
              go_wp2_with fail
              refine hw.mono ?_
              rintro e w2 ⟨rfl, rfl⟩
              go_wp2_with fail
              go_ret
              exact RdC.yes HP.out rfl HR2.out HF2.out
          · have HP : Hid (rdNum 0 0 bs = none) := Lib.hid (by rw [← HN2.out, if_pos HC.out, if_pos hx, if_neg h0])
            have hp : decide (0 < x.toNat) = false := decide_eq_false (fun hh => h0 (.inl hh))
            have hp2 : (((7 * k : Nat) : Int) == 0) = false := beq_eq_false_iff_ne.2 (fun hh => h0 (.inr (by omega)))
            have hp3 : (7 * (k : Int) == 0) = false := beq_eq_false_iff_ne.2 (fun hh => h0 (.inr (by omega)))
            have hwn := want_no w1
            clear h0
            go_wp2_with fail
            refine hw.mono ?_
            rintro e w2 ⟨rfl, rfl⟩
            go_wp2_with fail
            refine hwn.mono ?_
            rintro e w2 ⟨rfl, rfl⟩
            go_wp2_with fail
            exact ⟨rfl, RdC.no HP.out HR2.out.ext HF2.out⟩
        · have t2 : decide (x.toNat < 128) = false := decide_eq_false (by omega)
          have HP : Hid (rdNum (k + 1) A r = rdNum 0 0 bs) := Lib.hid (by rw [← HN2.out, if_pos HC.out, if_neg (by omega), ← HA.out, show x.toNat - 128 = x.toNat % 128 by omega])
          have HAL : Hid (A < 128 ^ (k + 1)) := Lib.hid (by
            rw [← HA.out, Nat.pow_succ]
            have : x.toNat % 128 * 128 ^ k ≤ 127 * 128 ^ k := Nat.mul_le_mul_right _ (by omega)
            omega)
          go_wp2_with fail
          refine hw.mono ?_
          rintro e w2 ⟨rfl, rfl⟩
          go_wp2_with fail
          go_roundw
          case rel => exact ⟨k + 1, A, r, rfl, by go_num, by omega, HAL.out, HR2.out, HF2.out, HP⟩
          case measure => simp [intOf]; omega
      · have hk9 : k = 9 := by omega
        have HK9 := Lib.hid hk9
        clear hk9
        have t1 : decide (((7 * k : Nat) : Int) < 63) = false := decide_eq_false (by omega)
        have t1' : decide (7 * (k : Int) < 63) = false := decide_eq_false (by omega)
        have t4 : (7 * (k : Int) == 63) = true := by rw [HK9.out]; rfl
        rcases Nat.lt_or_ge 1 x.toNat with hx1 | hx1
        · have HP : Hid (rdNum 0 0 bs = none) := Lib.hid (by rw [← HN2.out, if_neg (by omega)])
          have t3 : decide (x.toNat ≤ 1) = false := decide_eq_false (by omega)
          have t3' : decide ((x.toNat : Int) ≤ 1) = false := decide_eq_false (by omega)
          have hwn := want_no w1
          go_wp2_with fail
          refine hwn.mono ?_
          rintro e w2 ⟨rfl, rfl⟩
          go_wp2_with fail
          exact ⟨rfl, RdC.no HP.out HR2.out.ext HF2.out⟩
        · have t3 : decide (x.toNat ≤ 1) = true := decide_eq_true hx1
          have t3' : decide ((x.toNat : Int) ≤ 1) = true := decide_eq_true (by omega)
          have HC : Hid (k < 9 ∨ k = 9 ∧ x.toNat ≤ 1) := Lib.hid (.inr ⟨by omega, hx1⟩)
          have hsh := shl_or a k x ha HC.out
          obtain ⟨A, hA⟩ : ∃ A, a + x.toNat % 128 * 128 ^ k = A := ⟨_, rfl⟩
          have HA := Lib.hid hA
          rw [hA] at hsh
          clear hA
          have hw := want_yes w1
          rcases Nat.lt_or_ge x.toNat 128 with hx | hx
          · have t2 : decide (x.toNat < 128) = true := decide_eq_true hx
            by_cases h0 : 0 < x.toNat ∨ k = 0
            · have HP : Hid (rdNum 0 0 bs = some (A, r)) := Lib.hid (by rw [← HN2.out, if_pos HC.out, if_pos hx, if_pos h0, ← HA.out, Nat.mod_eq_of_lt hx])
              go_wp2_with fail
              refine hw.mono ?_
              rintro e w2 ⟨rfl, rfl⟩
              cases hp : decide (0 < x.toNat) with
              | true =>
                go_wp2_with fail
                refine hw.mono ?_
                rintro e w2 ⟨rfl, rfl⟩
                go_wp2_with fail
                go_ret
                exact RdC.yes HP.out rfl HR2.out HF2.out
              | false =>
                have hk0 : k = 0 := h0.resolve_left (of_decide_eq_false hp)
                exact absurd hk0 (by omega)
            · have HP : Hid (rdNum 0 0 bs = none) := Lib.hid (by rw [← HN2.out, if_pos HC.out, if_pos hx, if_neg h0])
              have hp : decide (0 < x.toNat) = false := decide_eq_false (fun hh => h0 (.inl hh))
              have hp2 : (((7 * k : Nat) : Int) == 0) = false := beq_eq_false_iff_ne.2 (fun hh => h0 (.inr (by omega)))
              have hp3 : (7 * (k : Int) == 0) = false := beq_eq_false_iff_ne.2 (fun hh => h0 (.inr (by omega)))
              have hwn := want_no w1
              clear h0
              go_wp2_with fail
              refine hw.mono ?_
              rintro e w2 ⟨rfl, rfl⟩
              go_wp2_with fail
              refine hwn.mono ?_
              rintro e w2 ⟨rfl, rfl⟩
              go_wp2_with fail
              exact ⟨rfl, RdC.no HP.out HR2.out.ext HF2.out⟩
          · omega
end Go.Proofs.Ytoplaokimahdiaa.Wi
