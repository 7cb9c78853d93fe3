/- Chapter 17: a flag, a text are read. -/
import Derived.Test.YtoplaokimahdiaaWiRdPath
import Derived.Test.YtoplaokimahdiaaWiLawNumbers
namespace Go.Proofs.Ytoplaokimahdiaa.Wi
open Go.RowKit Go.Proofs.Ytoplaokimahdiaa.Bw Go.Proofs.Ytoplaokimahdiaa.Bs

def boolV (b : Bool) (v : Value) (_ : World) : Prop := v = .bool b
def strV (s : ByteArray) (v : Value) (_ : World) : Prop := v = .string s ∧ okStr s
set_option maxRecDepth 100000 in
set_option maxHeartbeats 1000000 in
theorem rflag_any (bs : List UInt8) (w0 w : World) (B : Nat) (h : RS w0 w B bs) : Calls Try.prog 88 #[.pointer (some ⟨B, 0, none⟩)] w (RdC w0 w B boolV (flagP bs)) := by
  cases bs with
  | nil =>
    have hc := byte_no w0 w B h
    have HX := Lib.hid h.ext
    go_enter Try.func88, Try.ntmps88
    go_wp2_with fail
    refine hc.mono ?_
    clear hc
    rintro e w1 ⟨rfl, rfl⟩
    go_wp2_with fail
    exact ⟨rfl, RdC.no rfl HX.out (Fr.refl _ _)⟩
  | cons x r =>
    have hc := byte_yes x r w0 w B h
    have hx := x.toNat_lt
    clear h
    go_enter Try.func88, Try.ntmps88
    go_wp2_with fail
    refine hc.mono ?_
    clear hc
    rintro e w1 ⟨rfl, hR, hF⟩
    have HR := Lib.hid hR
    have HF := Lib.hid hF
    clear hR hF
    rcases Nat.lt_or_ge 1 x.toNat with h1 | h1
    · have t1 : decide (x.toNat ≤ 1) = false := decide_eq_false (by omega)
      have t2 : decide ((x.toNat : Int) ≤ 1) = false := decide_eq_false (by omega)
      have HN : Hid (flagP (x :: r) = none) := Lib.hid (by unfold flagP; simp only; rw [if_neg (by omega)])
      have hw := want_no w1
      go_wp2_with fail
      refine hw.mono ?_
      clear hw
      rintro e w2 ⟨rfl, rfl⟩
      go_wp2_with fail
      exact ⟨rfl, RdC.no HN.out HR.out.ext HF.out⟩
    · have t1 : decide (x.toNat ≤ 1) = true := decide_eq_true (by omega)
      have t2 : decide ((x.toNat : Int) ≤ 1) = true := decide_eq_true (by omega)
      have HN : Hid (flagP (x :: r) = some (x.toNat == 1, r)) := Lib.hid (by unfold flagP; simp only; rw [if_pos (by omega)])
      have t3 : ((x.toNat : Int) == 1) = (x.toNat == 1) := by rw [Bool.eq_iff_iff, beq_iff_eq, beq_iff_eq]; omega
      have hw := want_yes w1
      go_wp2_with fail
      refine hw.mono ?_
      clear hw
      rintro e w2 ⟨rfl, rfl⟩
      go_wp2_with fail
      go_ret
      exact RdC.yes HN.out rfl HR.out HF.out
/-- The first so many of a row. -/
theorem RdS.front {W : World} {bs : List UInt8} {A : Option Addr} {c n : Nat} (h : RdS W 1 bs.length (u8s bs) (.slice A bs.length c)) (hn : n ≤ bs.length) : RdS W 1 (bs.take n).length (u8s (bs.take n)) (.slice A n c) := by
  obtain ⟨A0, c0, he, hl, h1, h2, hc⟩ := h
  simp only [Value.slice.injEq, true_and] at he
  obtain ⟨rfl, rfl⟩ := he
  have hlen : (bs.take n).length = n := by rw [List.length_take]; omega
  refine ⟨_, _, by rw [hlen], by rw [u8s_len, Nat.mul_one], by omega, h2, fun h0 => ?_⟩
  obtain ⟨b, off, hA, hcell⟩ := hc (by omega)
  refine ⟨b, off, hA, fun j u hj => hcell j u ?_⟩
  unfold u8s at hj ⊢
  rw [List.map_take, List.getElem?_take] at hj
  split at hj
  · exact hj
  · cases hj
/-- What stands behind the first so many. -/
theorem RdS.back {W : World} {bs : List UInt8} {b off c n : Nat} (h : RdS W 1 bs.length (u8s bs) (.slice (some ⟨b, off, none⟩) bs.length c)) (hn : n ≤ bs.length) (A : Option Addr) (hA : A = if c = n then some ⟨b, off, none⟩ else some ⟨b, off + n, none⟩) : RdS W 1 (bs.drop n).length (u8s (bs.drop n)) (.slice A (bs.length - n) (c - n)) := by
  obtain ⟨A0, c0, he, hl, h1, h2, hc⟩ := h
  simp only [Value.slice.injEq, true_and] at he
  obtain ⟨rfl, rfl⟩ := he
  have hlen : (bs.drop n).length = bs.length - n := List.length_drop
  refine ⟨_, _, by rw [hlen], by rw [u8s_len, Nat.mul_one], by omega, by omega, fun h0 => ?_⟩
  obtain ⟨b1, o1, e1, hcell⟩ := hc (by omega)
  simp only [Option.some.injEq, Addr.mk.injEq, and_true] at e1
  obtain ⟨rfl, rfl⟩ := e1
  rw [if_neg (by omega)] at hA
  refine ⟨b, off + n, hA, fun j u hj => ?_⟩
  rw [show off + n + j = off + (n + j) by omega]
  refine hcell (n + j) u ?_
  unfold u8s at hj ⊢
  rw [List.map_drop, List.getElem?_drop] at hj
  exact hj
theorem Sb_take (bs : List UInt8) (n : Nat) : (⟨(bs.take n).toArray⟩ : ByteArray) = Sb (bs.take n) := rfl
set_option maxRecDepth 100000 in
set_option maxHeartbeats 2000000 in
theorem rtext_any (most : Nat) (hb : most < 4611686018427387904) (bs : List UInt8) (w0 w : World) (B : Nat) (h : RS w0 w B bs) : Calls Try.prog 89 #[.pointer (some ⟨B, 0, none⟩), .int .i64 (most : Int)] w (RdC w0 w B strV (textP most bs)) := by
  have hc := rsmall_any (most + 1) (by omega) bs w0 w B h
  have HS : Hid (textP most bs = match smallP (most + 1) bs with | none => none | some (n, r) => if n ≤ r.length then some (Sb (r.take n), r.drop n) else none) := Lib.hid (by unfold textP; cases smallP (most + 1) bs <;> rfl)
  have HLT := Lib.hid (fun n r (hh : smallP (most + 1) bs = some (n, r)) => (show n < most + 1 by
    unfold smallP at hh
    split at hh
    · cases hh
    · split at hh
      next h1 => cases hh; exact h1
      next => cases hh))
  obtain ⟨p, hp⟩ : ∃ p, smallP (most + 1) bs = p := ⟨_, rfl⟩
  rw [hp] at hc HS HLT
  have q0 : (((most + 1 : Nat) : Int)) = (most : Int) + 1 := by omega
  rw [q0] at hc
  clear hp h
  go_enter Try.func89, Try.ntmps89
  go_wp2_with fail
  refine hc.mono ?_
  clear hc
  rintro e w1 ⟨hX, hF, hP⟩
  cases p with
  | none =>
    subst hP
    have HX := Lib.hid hX
    have HF := Lib.hid hF
    clear hX hF
    go_wp2_with fail
    exact ⟨rfl, RdC.no HS.out HX.out HF.out⟩
  | some nr =>
    obtain ⟨n, r⟩ := nr
    obtain ⟨v, rfl, hv, hR⟩ := hP
    unfold intV at hv
    subst hv
    have hnm := HLT.out n r rfl
    obtain ⟨rv, hbx, hrd⟩ := hR.box
    have b0 := hbx.cell 0
    have b1 := hbx.frozen 0
    have HR := Lib.hid hR
    have HBX := Lib.hid hbx
    have HF := Lib.hid hF
    have HRD := Lib.hid hrd
    have HRW := Lib.hid (RdS.ext hR.ext hrd)
    have hrm := RdS.len_le hrd
    obtain ⟨A, c, rfl, -, hlc, hcm, hcell⟩ := hrd
    unfold maxLen at hrm hcm
    clear hR hbx hF hX
    rcases Nat.lt_or_ge r.length n with hn | hn
    · have t1 : decide (n ≤ r.length) = false := decide_eq_false (by omega)
      have t2 : decide ((n : Int) ≤ (r.length : Int)) = false := decide_eq_false (by omega)
      have HN : Hid (textP most bs = none) := Lib.hid (by rw [HS.out]; exact if_neg (by omega))
      have hw := want_no w1
      clear hcell
      go_wp2_with fail
      refine hw.mono ?_
      clear hw
      rintro e w2 ⟨rfl, rfl⟩
      go_wp2_with fail
      exact ⟨rfl, RdC.no HN.out HR.out.ext HF.out⟩
    · have t1 : decide (n ≤ r.length) = true := decide_eq_true (by omega)
      have t2 : decide ((n : Int) ≤ (r.length : Int)) = true := decide_eq_true (by omega)
      have HN : Hid (textP most bs = some (Sb (r.take n), r.drop n)) := Lib.hid (by rw [HS.out]; exact if_pos hn)
      have hw := want_yes w1
      have q1 : (0 : Int) ≤ (n : Int) := by omega
      have q2 : (n : Int) ≤ (c : Int) := by omega
      have q3 : n ≤ c := by omega
      have kc := conv_rd (RdS.front HRW.out hn)
      obtain ⟨s, hs⟩ : ∃ s, Sb (r.take n) = s := ⟨_, rfl⟩
      rw [hs] at kc HN
      have HSS : Hid (s.size ≤ maxLen) := Lib.hid (by rw [← hs]; show (r.take n).length ≤ maxLen; rw [List.length_take]; unfold maxLen; omega)
      -- what stands behind it
      have fin : ∀ v, RdS w0 1 (r.drop n).length (u8s (r.drop n)) v → RdC w0 w B strV (textP most bs) (.returned (.string s)) (w1.setCell ⟨B, 0, none⟩ v) := fun v hv => by
        have F2 := Fr.setCell w1 B 0 v
        exact RdC.yes HN.out ⟨rfl, HSS.out⟩ ⟨Fr.ext HR.out.ext F2 (fun k hk => by rw [hk]; exact HR.out.hB), HR.out.hB, v, HBX.out.set 0 _, hv⟩ (HF.out.trans F2)
      have FIN := Lib.hid fin
      clear fin hs
      cases A with
      | none =>
        have hr0 : r.length = 0 := by
          rcases Nat.eq_zero_or_pos r.length with h | h
          · exact h
          · obtain ⟨_, _, h, _⟩ := hcell h
            cases h
        obtain rfl := List.length_eq_zero_iff.1 hr0
        have hn0 : n = 0 := by simpa using hn
        subst hn0
        clear hcell
        go_wp2_with fail
        refine hw.mono ?_
        clear hw
        rintro e w2 ⟨rfl, rfl⟩
        go_wp2_with fail
        go_ret
        exact FIN.out _ HRD.out
      | some a =>
        rcases Nat.eq_zero_or_pos r.length with hr0 | hr0
        · obtain rfl := List.length_eq_zero_iff.1 hr0
          have hn0 : n = 0 := by simpa using hn
          subst hn0
          clear hcell
          go_wp2_with fail
          refine hw.mono ?_
          clear hw
          rintro e w2 ⟨rfl, rfl⟩
          go_wp2_with fail
          go_ret
          exact FIN.out _ HRD.out
        · obtain ⟨b, off, hA, -⟩ := hcell hr0
          simp only [Option.some.injEq] at hA
          subst hA
          have hBK := Lib.hid (RdS.back HRD.out hn)
          obtain ⟨TA, hTA⟩ : ∃ TA : Option Addr, (if c = n then (some (⟨b, off, none⟩ : Addr)) else some ⟨b, off + n, none⟩) = TA := ⟨_, rfl⟩
          clear hcell
          go_wp2_with fail
          refine hw.mono ?_
          clear hw
          rintro e w2 ⟨rfl, rfl⟩
          go_wp2_with fail
          go_ret
          exact FIN.out _ (hBK.out TA hTA.symm)
end Go.Proofs.Ytoplaokimahdiaa.Wi
