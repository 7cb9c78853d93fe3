/- Chapter 17: the document's Get. -/
import Derived.Test.YtoplaokimahdiaaWiRdNum
namespace Go.Proofs.Ytoplaokimahdiaa.Wi
open Go.RowKit Go.Proofs.Ytoplaokimahdiaa.Bw Go.Proofs.Ytoplaokimahdiaa.Bs

theorem shl_or2 (a k : Nat) (x : UInt8) (ha : a < 128 ^ k) (hk : k < 9 ∨ k = 9 ∧ x.toNat % 128 ≤ 1) :
    bits BinOp.or IntKind.u64 (a : Int) (IntKind.u64.wrap ((x.toNat : Int) % 128 * 2 ^ (7 * k))) = ((a + x.toNat % 128 * 128 ^ k : Nat) : Int) := by
  obtain ⟨d, hd⟩ : ∃ d, x.toNat % 128 = d := ⟨_, rfl⟩
  have hdi : (x.toNat : Int) % 128 = (d : Int) := by omega
  rw [hd] at hk
  rw [hdi, hd]
  have hd1 : d < 128 := by omega
  have hle : d * 128 ^ k < 9223372036854775808 * 2 := by
    rcases hk with h | ⟨rfl, h⟩
    · have h2 : 128 ^ k ≤ 128 ^ 8 := Nat.pow_le_pow_right (by decide) (by omega)
      have h3 : d * 128 ^ k ≤ 127 * 128 ^ 8 := Nat.mul_le_mul (by omega) h2
      exact Nat.lt_of_le_of_lt h3 (by decide)
    · have h3 : d * 128 ^ 9 ≤ 1 * 128 ^ 9 := Nat.mul_le_mul_right _ (by omega)
      exact Nat.lt_of_le_of_lt h3 (by decide)
  have ha2 : a < 9223372036854775808 * 2 := by
    have h2 : 128 ^ k ≤ 128 ^ 9 := Nat.pow_le_pow_right (by decide) (by omega)
    exact Nat.lt_of_lt_of_le ha (Nat.le_trans h2 (by decide))
  have e2 : ((d : Nat) : Int) * (2 : Int) ^ (7 * k) = ((d * 128 ^ k : Nat) : Int) := by
    rw [← two_seven]
    push_cast
    rfl
  rw [e2]
  have e3 : IntKind.u64.wrap ((d * 128 ^ k : Nat) : Int) = ((d * 128 ^ k : Nat) : Int) := by rw [IntKind.wrap_u64]; omega
  rw [e3, bits_or_u64_nat a (d * 128 ^ k) (by omega) (by omega)]
  congr 1
  rw [Nat.or_comm, ← two_seven, ← Nat.shiftLeft_eq, Nat.add_comm a, Nat.shiftLeft_add_eq_or_of_lt (by rw [two_seven]; exact ha)]
theorem rd_ten (k : Nat) (h : 10 ≤ k) (a : Nat) (b : List UInt8) : rdNum k a b = none := by
  cases b with
  | nil => rfl
  | cons c r => rw [rdNum_cons, if_neg (by omega)]
def getV (n : Nat) : Option (Nat × List UInt8) → Value
  | none => .tuple #[.int .u64 0, .int .i64 (-1)]
  | some (x, r) => .tuple #[.int .u64 (x : Int), .int .i64 ((n : Int) - (r.length : Int))]
set_option maxRecDepth 100000 in
set_option maxHeartbeats 2000000 in
theorem getR_any (bs : List UInt8) (bv : Value) (at_ : Nat) (w : World) (h : RdS w 1 bs.length (u8s bs) bv) (hat : at_ ≤ bs.length) (hl : bs.length ≤ 100000000000) :
    Calls Try.prog 21 #[bv, .int .i64 (at_ : Int)] w fun e w' => e = .returned (getV bs.length (rdNum 0 0 (bs.drop at_))) ∧ w = w' := by
  obtain ⟨A, c, rfl, _, hc1, hc2, hcell⟩ := h
  go_enter Try.func21, Try.ntmps21
  go_wp2_with fail
  go_loop [6, 7, 8] (fun s6 s7 s8 => ∃ (k a : Nat), s6 = .int .u64 (a : Int) ∧ s7 = .int .i64 (k : Int) ∧ k ≤ 10 ∧ (k ≤ 9 → a < 128 ^ k) ∧ at_ + k ≤ bs.length ∧ Hid (rdNum k a (bs.drop (at_ + k)) = rdNum 0 0 (bs.drop at_))) (fun _ i _ => 10 - (intOf i).toNat)
  case atStart => exact ⟨0, 0, rfl, rfl, by decide, fun _ => by decide, hat, Lib.hid rfl⟩
  case round =>
    obtain ⟨k, a, rfl, rfl, hk, ha, hak, HN⟩ := hrel
    have q1 : (0 : Int) ≤ (k : Int) := by omega
    rcases Nat.lt_or_ge k 10 with h10 | h10
    · rcases Nat.lt_or_ge (at_ + k) bs.length with hlt | hlt
      · have t1 : decide (k < 10) = true := decide_eq_true h10
        have t2 : decide ((at_ : Int) + (k : Int) < (bs.length : Int)) = true := decide_eq_true (by omega)
        have t2' : decide (at_ + k < bs.length) = true := decide_eq_true (by omega)
        obtain ⟨x, hx⟩ : ∃ x, bs[at_ + k]? = some x := ⟨_, List.getElem?_eq_getElem hlt⟩
        obtain ⟨b0, off, rfl, cells⟩ := hcell (by omega)
        have cx := cells (at_ + k) (.int .u8 (x.toNat : Int)) (by unfold u8s; rw [List.getElem?_map, hx]; rfl)
        have q2 : (0 : Int) ≤ (at_ : Int) + (k : Int) := by omega
        have q3 : (at_ : Int) + (k : Int) < (bs.length : Int) := by omega
        have HN2 := Lib.hid ((rdNum_cons k a x (bs.drop (at_ + k + 1))).symm.trans ((congrArg (rdNum k a) (drop_at hx)).symm.trans HN.out))
        have hxl := x.toNat_lt
        clear hcell cells hx HN
        -- CASES
        rcases Nat.lt_or_ge k 9 with h9 | h9
        · have e9 : ((k : Int) == 9) = false := beq_eq_false_iff_ne.2 (by omega)
          have e9' : (k == 9) = false := beq_eq_false_iff_ne.2 (by omega)
          have hsh := shl_or2 a k x (ha (by omega)) (.inl h9)
          obtain ⟨A2, hA⟩ : ∃ A2, a + x.toNat % 128 * 128 ^ k = A2 := ⟨_, rfl⟩
          have HA := Lib.hid hA
          rw [hA] at hsh
          clear hA
          rcases Nat.lt_or_ge x.toNat 128 with hx | hx
          · have u2 : decide (x.toNat < 128) = true := decide_eq_true hx
            have u2' : decide ((x.toNat : Int) < 128) = true := decide_eq_true (by omega)
            have HC : Hid (k < 9 ∨ k = 9 ∧ x.toNat ≤ 1) := Lib.hid (.inl h9)
            by_cases h0 : 0 < x.toNat ∨ k = 0
            · have HP : Hid (rdNum 0 0 (bs.drop at_) = some (A2, bs.drop (at_ + k + 1))) := Lib.hid (by rw [← HN2.out, if_pos HC.out, if_pos hx, if_pos h0, ← HA.out, Nat.mod_eq_of_lt hx])
              have HV : Hid ((bs.length : Int) - ((bs.drop (at_ + k + 1)).length : Int) = (at_ : Int) + (k : Int) + 1) := Lib.hid (by rw [List.length_drop]; omega)
              have HG : Hid (getV bs.length (rdNum 0 0 (bs.drop at_)) = .tuple #[.int .u64 (A2 : Int), .int .i64 ((at_ : Int) + (k : Int) + 1)]) := Lib.hid (by
                rw [HP.out]
                show Value.tuple #[_, .int .i64 ((bs.length : Int) - ((bs.drop (at_ + k + 1)).length : Int))] = _
                rw [HV.out])
              cases hp : decide (0 < k) with
              | true =>
                have hp' : decide ((0 : Int) < (k : Int)) = true := decide_eq_true (by have := of_decide_eq_true hp; omega)
                have z0 : (x.toNat == 0) = false := beq_eq_false_iff_ne.2 (by have := of_decide_eq_true hp; omega)
                have z1 : ((x.toNat : Int) == 0) = false := beq_eq_false_iff_ne.2 (by have := of_decide_eq_true hp; omega)
                clear h0
                go_wp2_with fail
                go_ret2
                rw [HG.out]
                exact ⟨rfl, rfl⟩
              | false =>
                have hp' : decide ((0 : Int) < (k : Int)) = false := decide_eq_false (by have := of_decide_eq_false hp; omega)
                clear h0
                go_wp2_with fail
                go_ret2
                rw [HG.out]
                exact ⟨rfl, rfl⟩
            · have hp : decide (0 < k) = true := decide_eq_true (by omega)
              have hp' : decide ((0 : Int) < (k : Int)) = true := decide_eq_true (by omega)
              have z0 : (x.toNat == 0) = true := beq_iff_eq.2 (by omega)
              have z1 : ((x.toNat : Int) == 0) = true := beq_iff_eq.2 (by omega)
              have H00 := Lib.hid h0
              clear h0
              have HP : Hid (rdNum 0 0 (bs.drop at_) = none) := Lib.hid (by rw [← HN2.out, if_pos HC.out, if_pos hx, if_neg H00.out])
              go_wp2_with fail
              go_ret2
              rw [HP.out]
              exact ⟨rfl, rfl⟩
          · have u2 : decide (x.toNat < 128) = false := decide_eq_false (by omega)
            have u2' : decide ((x.toNat : Int) < 128) = false := decide_eq_false (by omega)
            have HP : Hid (rdNum (k + 1) A2 (bs.drop (at_ + (k + 1))) = rdNum 0 0 (bs.drop at_)) := Lib.hid (by rw [← HN2.out, if_pos (.inl h9), if_neg (by omega), ← HA.out, show x.toNat - 128 = x.toNat % 128 by omega, Nat.add_assoc at_ k 1])
            have HAL : Hid (A2 < 128 ^ (k + 1)) := Lib.hid (by
              have ha2 := ha (by omega)
              rw [← HA.out, Nat.pow_succ]
              have : x.toNat % 128 * 128 ^ k ≤ 127 * 128 ^ k := Nat.mul_le_mul_right _ (by omega)
              omega)
            go_wp2_with fail
            go_round
            case rel => exact ⟨k + 1, A2, rfl, by go_num, by omega, fun _ => HAL.out, by omega, HP⟩
            case measure => simp [intOf]; omega
        · have hk9 : k = 9 := by omega
          have HK9 := Lib.hid hk9
          have e9 : ((k : Int) == 9) = true := by rw [hk9]; rfl
          have e9' : (k == 9) = true := by rw [hk9]; rfl
          clear hk9
          rcases Nat.lt_or_ge 1 (x.toNat % 128) with hd | hd
          · have d1 : decide (1 < x.toNat % 128) = true := decide_eq_true hd
            have d1' : decide ((1 : Int) < (x.toNat : Int) % 128) = true := decide_eq_true (by omega)
            have HP : Hid (rdNum 0 0 (bs.drop at_) = none) := Lib.hid (by rw [← HN2.out, if_neg (by omega)])
            go_wp2_with fail
            go_ret2
            rw [HP.out]
            exact ⟨rfl, rfl⟩
          · have d1 : decide (1 < x.toNat % 128) = false := decide_eq_false (by omega)
            have d1' : decide ((1 : Int) < (x.toNat : Int) % 128) = false := decide_eq_false (by omega)
            have hsh := shl_or2 a k x (ha (by omega)) (.inr ⟨HK9.out, by omega⟩)
            obtain ⟨A2, hA⟩ : ∃ A2, a + x.toNat % 128 * 128 ^ k = A2 := ⟨_, rfl⟩
            have HA := Lib.hid hA
            rw [hA] at hsh
            clear hA
            rcases Nat.lt_or_ge x.toNat 128 with hx | hx
            · have u2 : decide (x.toNat < 128) = true := decide_eq_true hx
              have u2' : decide ((x.toNat : Int) < 128) = true := decide_eq_true (by omega)
              have HC : Hid (k < 9 ∨ k = 9 ∧ x.toNat ≤ 1) := Lib.hid (.inr ⟨HK9.out, by omega⟩)
              by_cases h0 : 0 < x.toNat ∨ k = 0
              · have HP : Hid (rdNum 0 0 (bs.drop at_) = some (A2, bs.drop (at_ + k + 1))) := Lib.hid (by rw [← HN2.out, if_pos HC.out, if_pos hx, if_pos h0, ← HA.out, Nat.mod_eq_of_lt hx])
                have HV : Hid ((bs.length : Int) - ((bs.drop (at_ + k + 1)).length : Int) = (at_ : Int) + (k : Int) + 1) := Lib.hid (by rw [List.length_drop]; omega)
                have HG : Hid (getV bs.length (rdNum 0 0 (bs.drop at_)) = .tuple #[.int .u64 (A2 : Int), .int .i64 ((at_ : Int) + (k : Int) + 1)]) := Lib.hid (by
                  rw [HP.out]
                  show Value.tuple #[_, .int .i64 ((bs.length : Int) - ((bs.drop (at_ + k + 1)).length : Int))] = _
                  rw [HV.out])
                cases hp : decide (0 < k) with
                | true =>
                  have hp' : decide ((0 : Int) < (k : Int)) = true := decide_eq_true (by have := of_decide_eq_true hp; omega)
                  have z0 : (x.toNat == 0) = false := beq_eq_false_iff_ne.2 (by have := of_decide_eq_true hp; omega)
                  have z1 : ((x.toNat : Int) == 0) = false := beq_eq_false_iff_ne.2 (by have := of_decide_eq_true hp; omega)
                  clear h0
                  go_wp2_with fail
                  go_ret2
                  rw [HG.out]
                  exact ⟨rfl, rfl⟩
                | false =>
                  have hp' : decide ((0 : Int) < (k : Int)) = false := decide_eq_false (by have := of_decide_eq_false hp; omega)
                  clear h0
                  go_wp2_with fail
                  go_ret2
                  rw [HG.out]
                  exact ⟨rfl, rfl⟩
              · have hp : decide (0 < k) = true := decide_eq_true (by omega)
                have hp' : decide ((0 : Int) < (k : Int)) = true := decide_eq_true (by omega)
                have z0 : (x.toNat == 0) = true := beq_iff_eq.2 (by omega)
                have z1 : ((x.toNat : Int) == 0) = true := beq_iff_eq.2 (by omega)
                have H00 := Lib.hid h0
                clear h0
                have HP : Hid (rdNum 0 0 (bs.drop at_) = none) := Lib.hid (by rw [← HN2.out, if_pos HC.out, if_pos hx, if_neg H00.out])
                go_wp2_with fail
                go_ret2
                rw [HP.out]
                exact ⟨rfl, rfl⟩
            · have u2 : decide (x.toNat < 128) = false := decide_eq_false (by omega)
              have u2' : decide ((x.toNat : Int) < 128) = false := decide_eq_false (by omega)
              have HP : Hid (rdNum (k + 1) A2 (bs.drop (at_ + (k + 1))) = rdNum 0 0 (bs.drop at_)) := Lib.hid (by
                rw [← HN2.out, if_neg (by have := HK9.out; omega)]
                exact rd_ten _ (by have := HK9.out; omega) _ _)
              have HAL : Hid (k + 1 ≤ 9 → A2 < 128 ^ (k + 1)) := Lib.hid (fun hh => by have := HK9.out; omega)
              go_wp2_with fail
              go_round
              case rel => exact ⟨k + 1, A2, rfl, by go_num, by omega, HAL.out, by omega, HP⟩
              case measure => simp [intOf]; omega
      · have t1 : decide (k < 10) = true := decide_eq_true h10
        have t2 : decide ((at_ : Int) + (k : Int) < (bs.length : Int)) = false := decide_eq_false (by omega)
        have t2' : decide (at_ + k < bs.length) = false := decide_eq_false (by omega)
        have HP : Hid (rdNum 0 0 (bs.drop at_) = none) := Lib.hid (by rw [← HN.out, List.drop_eq_nil_of_le hlt]; rfl)
        go_wp2_with fail
        go_ret2
        rw [HP.out]
        exact ⟨rfl, rfl⟩
    · have t1 : decide (k < 10) = false := decide_eq_false (by omega)
      have HP : Hid (rdNum 0 0 (bs.drop at_) = none) := Lib.hid (by rw [← HN.out]; exact rd_ten _ h10 _ _)
      go_wp2_with fail
      go_ret2
      rw [HP.out]
      exact ⟨rfl, rfl⟩
end Go.Proofs.Ytoplaokimahdiaa.Wi
