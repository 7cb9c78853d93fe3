/- Chapter 17: a piece is put; what of an operation its kind has not. -/
import Derived.Test.YtoplaokimahdiaaWiPuts2
import Derived.Deep.CutBlock
import Derived.Deep.CutRange
namespace Go.Proofs.Ytoplaokimahdiaa.Wi
open Go.RowKit Go.Proofs.Ytoplaokimahdiaa.Bw Go.Proofs.Ytoplaokimahdiaa.Bs

theorem enters72 : ∀ args W, (callFunc 72 args).run Try.prog W = .ok (.enter 72 args) W := fun args W => by kernel_rfl
theorem textE_len {s : ByteArray} {most : Nat} (hm : most < 18446744073709551616) {b : List UInt8} (h : textE s most = some b) : b.length ≤ 10 + most := by
  unfold textE at h
  split at h
  next h1 =>
    cases h
    have := num_len (n := s.size) (by omega)
    rw [List.length_append, bl_len]
    omega
  next => cases h
theorem pieceE_len {p : Pc} {b : List UInt8} (h : pieceE p = some b) : b.length ≤ 1048606 := by
  obtain ⟨a1, a2, e1, e2, rfl⟩ := seqE_cons_some h
  obtain ⟨a3, a4, e3, e4, rfl⟩ := seqE_two e2
  have := smallE_len (by decide) e1
  have := smallE_len (by decide) e3
  have := textE_len (by decide) e4
  rw [List.length_append, List.length_append]
  omega
set_option maxRecDepth 100000 in
set_option maxHeartbeats 1000000 in
theorem op1_any (p : Pc) (hs : p.put.size ≤ maxLen) (C : Nat) (w0 w : World) (B : Nat) (v : Value) (bs : List UInt8) (h : St w0 w B v bs) (hC : NBox w C 73 #[.pointer (some ⟨B, 0, none⟩)]) (hl : bs.length + 1048606 ≤ 100000000000000) :
    Calls Try.prog 72 #[.agg #[.int .i64 p.keep, .int .i64 p.drop, .string p.put], .pointer (some ⟨C, 0, none⟩)] w (PutC w0 w B v bs none_ (pieceE p)) := by
  obtain ⟨w1, hw1⟩ : ∃ W, w.alloc (.cells #[.int .i64 p.keep, .int .i64 p.drop, .string p.put] 69) = W := ⟨_, rfl⟩
  have E1 : Ext w w1 := by rw [← hw1]; exact (Ext.refl w).alloc _
  have bP : NBox w1 w.heap.size 69 #[.int .i64 p.keep, .int .i64 p.drop, .string p.put] := by rw [← hw1]; exact NBox.new _ _ _
  obtain ⟨D, hDD⟩ : ∃ D, w.heap.size = D := ⟨_, rfl⟩
  rw [hDD] at bP
  have S1 := h.more E1
  have bC := hC.ext E1
  have kP := (keepsBox w0 B D 69 #[.int .i64 p.keep, .int .i64 p.drop, .string p.put] (by decide) (by decide)).fr 0
  have kC := (keepsBox w0 B C 73 #[.pointer (some ⟨B, 0, none⟩)] (by decide) (by decide)).fr 0
  have hc := small_any p.keep 1048577 (by decide) w0 w1 B v bs S1 (by omega)
  have HW := Lib.hid hw1
  have HD := Lib.hid hDD
  have HKP := Lib.hid kP
  have HKC := Lib.hid kC
  have HE1 := Lib.hid E1
  have c0 := bP.cell 0
  have c1 := bC.cell 0
  obtain ⟨r, hr⟩ : ∃ r, pieceE p = r := ⟨_, rfl⟩
  have HR := Lib.hid hr
  rw [hr]
  clear hw1 hDD kP kC h hC hr E1
  go_enter Try.func72, Try.ntmps72
  go_upto_region 1 with fail
  rw [HW.out, HD.out]
  go_wp2_with fail
  refine hc.mono ?_
  clear hc HW HD
  rintro e w2 hC
  cases h1 : smallE p.keep 1048577 with
  | none =>
    rw [h1] at hC
    obtain ⟨rfl, hN⟩ := hC
    have hP := Lib.hid (PutC.from HE1.out (show PutC w0 w1 B v bs none_ none (.panicked WR) w2 from ⟨rfl, hN⟩))
    have HRN : Hid (r = none) := Lib.hid (by rw [← HR.out]; unfold pieceE; rw [h1]; rfl)
    clear hN h1 c0 c1 bP bC S1
    go_wp2_with fail
    refine ⟨rfl, ?_⟩
    rw [HRN.out]
    exact hP.out
  | some b1 =>
    rw [h1] at hC
    obtain ⟨v2, rfl, hP2⟩ := hC
    have bP2 := HKP.out w1 w2 v bs bP S1 hP2.fr
    have bC2 := HKC.out w1 w2 v bs bC S1 hP2.fr
    have l1 := smallE_len (by decide) h1
    have hc := small_any p.drop 1048577 (by decide) w0 w2 B v2 (bs ++ b1) hP2.st (by rw [List.length_append]; omega)
    have HP2 := Lib.hid hP2
    have H1 := Lib.hid h1
    have c0 := bP2.cell 1
    have c1 := bC2.cell 0
    clear bP bC S1 h1 hP2
    go_wp2_with fail
    refine hc.mono ?_
    clear hc
    rintro e w3 hC
    cases h2 : smallE p.drop 1048577 with
    | none =>
      rw [h2] at hC
      obtain ⟨rfl, hN⟩ := hC
      have hP := Lib.hid (PutC.from HE1.out (show PutC w0 w1 B v bs none_ none (.panicked WR) w3 from ⟨rfl, HP2.out.no hN⟩))
      have HRN : Hid (r = none) := Lib.hid (by rw [← HR.out]; unfold pieceE; rw [H1.out, h2]; rfl)
      clear hN h2 c0 c1 bP2 bC2
      go_wp2_with fail
      refine ⟨rfl, ?_⟩
      rw [HRN.out]
      exact hP.out
    | some b2 =>
      rw [h2] at hC
      obtain ⟨v3, rfl, hP3⟩ := hC
      have hP4 := HP2.out.trans hP3
      have bP3 := HKP.out w2 w3 v2 (bs ++ b1) bP2 HP2.out.st hP3.fr
      have bC3 := HKC.out w2 w3 v2 (bs ++ b1) bC2 HP2.out.st hP3.fr
      have l2 := smallE_len (by decide) h2
      have hc := text_any p.put 1048576 (by decide) hs w0 w3 B v3 (bs ++ (b1 ++ b2)) hP4.st (by rw [List.length_append, List.length_append]; omega)
      have HP4 := Lib.hid hP4
      have H2 := Lib.hid h2
      have c0 := bP3.cell 2
      have c1 := bC3.cell 0
      clear bP2 bC2 h2 hP3 hP4 HP2
      go_wp2_with fail
      refine hc.mono ?_
      clear hc
      rintro e w4 hC
      cases h3 : textE p.put 1048576 with
      | none =>
        rw [h3] at hC
        obtain ⟨rfl, hN⟩ := hC
        have hP := Lib.hid (PutC.from HE1.out (show PutC w0 w1 B v bs none_ none (.panicked WR) w4 from ⟨rfl, HP4.out.no hN⟩))
        have HRN : Hid (r = none) := Lib.hid (by rw [← HR.out]; unfold pieceE; rw [H1.out, H2.out, h3]; rfl)
        clear hN h3 c0 c1 bP3 bC3
        go_wp2_with fail
        refine ⟨rfl, ?_⟩
        rw [HRN.out]
        exact hP.out
      | some b3 =>
        rw [h3] at hC
        obtain ⟨v4, rfl, hP5⟩ := hC
        have hP := Lib.hid (PutC.from HE1.out (show PutC w0 w1 B v bs none_ (some (b1 ++ b2 ++ b3)) (.returned (.tuple #[])) w4 from ⟨v4, rfl, HP4.out.trans hP5⟩))
        have HRN : Hid (r = some (b1 ++ b2 ++ b3)) := Lib.hid (by rw [← HR.out]; unfold pieceE; rw [H1.out, H2.out, h3]; simp [seqE])
        clear h3 c0 c1 bP3 bC3 hP5
        go_wp2_with fail
        go_end0
        rw [HRN.out]
        exact hP.out
end Go.Proofs.Ytoplaokimahdiaa.Wi
namespace Go.Proofs.Ytoplaokimahdiaa.Wi
open Go.RowKit Go.Proofs.Ytoplaokimahdiaa.Bw Go.Proofs.Ytoplaokimahdiaa.Bs

def ixF (k : Int) : List Int → Nat → Int
  | [], _ => -1
  | x :: r, i => if k = x then (i : Int) else ixF k r (i + 1)
theorem ixF_at {k : Int} {l : List Int} {i : Nat} {x : Int} (h : l[i]? = some x) : ixF k (l.drop i) i = if k = x then (i : Int) else ixF k (l.drop (i + 1)) (i + 1) := by
  have hlt := (List.getElem?_eq_some_iff.1 h).1
  have hx := (List.getElem?_eq_some_iff.1 h).2
  rw [List.drop_eq_getElem_cons hlt, hx]
  rfl
set_option maxRecDepth 100000 in
set_option maxHeartbeats 1000000 in
theorem index_any (k : Int) (l : List Int) (v : Value) (w : World) (h : RdS w 1 l.length (l.map (Value.int .u8)) v) : Calls Try.prog 102 #[v, .int .u8 k] w fun e w' => e = .returned (.int .i64 (ixF k l 0)) ∧ w = w' := by
  obtain ⟨A, c, rfl, _, hc1, hc2, hcell⟩ := h
  unfold maxLen at hc2
  go_enter Try.func102, Try.ntmps102
  go_wp2_with fail
  go_loop [8] (fun s8 => ∃ i : Nat, s8 = .int .i64 i ∧ i ≤ l.length ∧ Hid (ixF k (l.drop i) i = ixF k l 0)) (fun i => l.length - (intOf i).toNat)
  case atStart => exact ⟨0, rfl, Nat.zero_le _, Lib.hid rfl⟩
  case round =>
    obtain ⟨i, rfl, hi, HF⟩ := hrel
    rcases Nat.lt_or_ge i l.length with hlt | hlt
    · obtain ⟨x, hx⟩ : ∃ x, l[i]? = some x := ⟨_, List.getElem?_eq_getElem hlt⟩
      obtain ⟨b0, off, rfl, cells⟩ := hcell (by omega)
      have cx := cells i (.int .u8 x) (by rw [List.getElem?_map, hx]; rfl)
      have q1 : (0 : Int) ≤ (i : Int) := by omega
      have q2 : (i : Int) < (l.length : Int) := by omega
      have hat := ixF_at (k := k) hx
      by_cases hk : k = x
      · have t1 : (k == x) = true := by simpa using hk
        rw [if_pos hk] at hat
        have HR := Lib.hid (hat.symm.trans HF.out)
        clear hat hk cells hcell hx HF
        go_wp2_with fail
        go_ret
        rw [← HR.out]
        exact ⟨rfl, rfl⟩
      · have t1 : (k == x) = false := by simpa using hk
        rw [if_neg hk] at hat
        have HR : Hid (ixF k (l.drop (i + 1)) (i + 1) = ixF k l 0) := Lib.hid (hat.symm.trans HF.out)
        clear hat hk cells hcell hx HF
        go_wp2_with fail
        go_round
        case rel => exact ⟨i + 1, by go_num, by omega, HR⟩
        case measure => simp [intOf]; omega
    · have hR : ixF k l 0 = -1 := by rw [← HF.out, List.drop_eq_nil_of_le hlt]; rfl
      have HR := Lib.hid hR
      clear hR HF hcell
      go_wp2_with fail
      go_ret
      rw [HR.out]
      exact ⟨rfl, rfl⟩
def hasF (k : Int) (l : List Int) : Bool := decide (0 ≤ ixF k l 0)
set_option maxRecDepth 100000 in
theorem contains_any (k : Int) (l : List Int) (v : Value) (w : World) (h : RdS w 1 l.length (l.map (Value.int .u8)) v) : Calls Try.prog 100 #[v, .int .u8 k] w fun e w' => e = .returned (.bool (hasF k l)) ∧ w = w' := by
  have hc := index_any k l v w h
  obtain ⟨A, c, rfl, -⟩ := h
  obtain ⟨r, hr⟩ : ∃ r, ixF k l 0 = r := ⟨_, rfl⟩
  have HR := Lib.hid hr
  rw [hr] at hc
  clear hr
  go_enter Try.func100, Try.ntmps100
  go_wp2_with fail
  refine hc.mono ?_
  clear hc
  rintro e w' ⟨rfl, rfl⟩
  go_wp2_with fail
  go_ret
  unfold hasF
  rw [HR.out]
  exact ⟨rfl, rfl⟩
set_option maxRecDepth 100000 in
theorem has_any (k : Int) (l : List Int) (v : Value) (O : Nat) (w : World) (h : RdS w 1 l.length (l.map (Value.int .u8)) v) (hO : w.cell? ⟨O, 0, none⟩ = some (.int .u8 k)) : Calls Try.prog 99 #[v, .pointer (some ⟨O, 0, none⟩)] w fun e w' => e = .returned (.bool (hasF k l)) ∧ w = w' := by
  have hc := contains_any k l v w h
  obtain ⟨A, c, rfl, -⟩ := h
  obtain ⟨r, hr⟩ : ∃ r, hasF k l = r := ⟨_, rfl⟩
  rw [hr] at hc ⊢
  clear hr
  go_enter Try.func99, Try.ntmps99
  go_wp2_with fail
  refine hc.mono ?_
  clear hc
  rintro e w' ⟨rfl, rfl⟩
  go_wp2_with fail
  go_ret
  exact ⟨rfl, rfl⟩
theorem has1 (k a : Int) : hasF k [a] = (k == a) := by
  unfold hasF ixF ixF
  by_cases h : k = a
  · rw [if_pos h]; simp [h]
  · rw [if_neg h]; simp [h]
theorem has2 (k a b : Int) : hasF k [a, b] = (k == a || k == b) := by
  unfold hasF ixF ixF ixF
  by_cases h : k = a
  · rw [if_pos h]; simp [h]
  · rw [if_neg h]
    by_cases h' : k = b
    · rw [if_pos h']; simp [h']
    · rw [if_neg h']; simp [h, h']
end Go.Proofs.Ytoplaokimahdiaa.Wi
namespace Go.Proofs.Ytoplaokimahdiaa.Wi
open Go.RowKit Go.Proofs.Ytoplaokimahdiaa.Bw Go.Proofs.Ytoplaokimahdiaa.Bs

theorem rd_lit8 (W : World) (l : List Int) (hl : l.length ≤ maxLen) : RdS (W.alloc (.cells (l.map (Value.int .u8)).toArray 5)) 1 l.length (l.map (Value.int .u8)) (.slice (some ⟨W.heap.size, 0, none⟩) l.length l.length) := by
  refine ⟨_, l.length, rfl, by simp, Nat.le_refl _, hl, fun _ => ⟨_, 0, rfl, fun j u hu => ?_⟩⟩
  rw [(NBox.new W 5 _).cell, Nat.zero_add]
  simpa using hu
theorem has_lit (k : Int) (l : List Int) (r : Bool) (hr : (decide (l.length ≤ 9) && (hasF k l == r)) = true) (O : Nat) (W W' : World) (hW : W.alloc (.cells (l.map (Value.int .u8)).toArray 5) = W') (hO : W.cell? ⟨O, 0, none⟩ = some (.int .u8 k)) :
    Calls Try.prog 99 #[.slice (some ⟨W.heap.size, 0, none⟩) l.length l.length, .pointer (some ⟨O, 0, none⟩)] W' fun e w' => e = .returned (.bool r) ∧ W' = w' := by
  simp only [Bool.and_eq_true, decide_eq_true_eq, beq_iff_eq] at hr
  subst hW
  have := has_any k l _ O _ (rd_lit8 W l (by unfold maxLen; omega)) (((Ext.refl W).alloc _).cell hO)
  rw [hr.2] at this
  exact this
end Go.Proofs.Ytoplaokimahdiaa.Wi
