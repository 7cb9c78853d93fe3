/- Chapter 17: the document's reader: byte, flag, text. -/
import Derived.Test.YtoplaokimahdiaaWiDoc
import Derived.Test.YtoplaokimahdiaaWiRdText
import Derived.IntWalk
namespace Go.Proofs.Ytoplaokimahdiaa.Wi
open Go.RowKit Go.Proofs.Ytoplaokimahdiaa.Bw Go.Proofs.Ytoplaokimahdiaa.Bs

def byteP : Rd UInt8 := fun b => match b with
  | [] => none
  | x :: r => some (x, r)
/-- A byte that was read: none is 0. -/
def ByteC (w0 w : World) (D : Nat) (bs : List UInt8) (bv : Value) (p : Option (UInt8 × List UInt8)) (e : Ending) (W' : World) : Prop :=
  Fr w W' (isB D) ∧ match p with
  | none => e = .returned (.int .u8 0) ∧ DS w0 W' D bs bv none
  | some (x, r) => e = .returned (.int .u8 (x.toNat : Int)) ∧ DS w0 W' D bs bv (some r)
theorem RdS.at_ {w : World} {bs : List UInt8} {A : Option Addr} {c a : Nat} {x : UInt8} (h : RdS w 1 bs.length (u8s bs) (.slice A bs.length c)) (hx : bs[a]? = some x) : ∃ b off, A = some ⟨b, off, none⟩ ∧ w.cell? ⟨b, off + a, none⟩ = some (.int .u8 (x.toNat : Int)) := by
  obtain ⟨A0, c0, he, -, -, -, hc⟩ := h
  simp only [Value.slice.injEq, true_and] at he
  obtain ⟨rfl, rfl⟩ := he
  have hl := (List.getElem?_eq_some_iff.1 hx).1
  obtain ⟨b, off, hA, cells⟩ := hc (by omega)
  exact ⟨b, off, hA, cells a _ (by unfold u8s; rw [List.getElem?_map, hx]; rfl)⟩
set_option maxRecDepth 100000 in
set_option maxHeartbeats 2000000 in
theorem dbyte_any (bs : List UInt8) (bv : Value) (s : Option (List UInt8)) (w0 w : World) (D : Nat) (h : DS w0 w D bs bv s) : Calls Try.prog 101 #[.pointer (some ⟨D, 0, none⟩)] w (ByteC w0 w D bs bv (s.bind byteP)) := by
  obtain ⟨a, x, hb, ha, hs⟩ := h.box
  have b0 := hb.cell 0
  have b1 := hb.cell 1
  have b2 := hb.cell 2
  have f1 := hb.frozen 1
  have f2 := hb.frozen 2
  have HH := Lib.hid h
  have HB := Lib.hid hb
  have HRD := Lib.hid h.rd
  have hl := h.len
  obtain ⟨A, c, rfl, -⟩ := h.rd
  clear hb h
  have HNO : Hid (∀ W, Ext w W → Fr w (W.setCell ⟨D, 2, none⟩ (.bool true)) (isB D) ∧ DS w0 (W.setCell ⟨D, 2, none⟩ (.bool true)) D bs (.slice A bs.length c) none) := Lib.hid (fun W hW => ⟨(Fr.of_ext hW _).trans (Fr.setCell _ _ _ _), Fr.ext (HH.out.ext.trans hW) (Fr.setCell _ _ _ _) (fun k hk => by rw [hk]; exact HH.out.hD), HH.out.hD, HH.out.rd, HH.out.len, a, true, (HB.out.ext hW).set 2 _, ha, rfl⟩)
  cases s with
  | none =>
    subst hs
    go_enter Try.func101, Try.ntmps101
    go_wp2_with fail
    go_quiet (fail)
    go_wp2_with fail
    go_ret
    obtain ⟨h1, h2⟩ := HNO.out _ ((Ext.refl w).drewN nq)
    exact ⟨h1, rfl, h2⟩
  | some r =>
    obtain ⟨rfl, rfl⟩ := hs
    rcases Nat.lt_or_ge a bs.length with hlt | hlt
    · have t1 : decide ((bs.length : Int) ≤ (a : Int)) = false := decide_eq_false (by omega)
      have t2 : decide (bs.length ≤ a) = false := decide_eq_false (by omega)
      obtain ⟨y, hy⟩ : ∃ y, bs[a]? = some y := ⟨_, List.getElem?_eq_getElem hlt⟩
      have hdr : bs.drop a = y :: bs.drop (a + 1) := drop_at hy
      obtain ⟨b, off, rfl, hcell⟩ := RdS.at_ HRD.out hy
      have HP : Hid ((some (bs.drop a)).bind byteP = some (y, bs.drop (a + 1))) := Lib.hid (by rw [hdr]; rfl)
      have HCL := Lib.hid hcell
      have q0 : (0 : Int) ≤ (a : Int) := by omega
      have q1 : ((a : Int) + 1) ≤ 100000000001 := by omega
      clear hdr hy hcell
      rw [HP.out]
      go_enter Try.func101, Try.ntmps101
      go_wp2_with fail
      go_quiet (fail)
      obtain ⟨v, hv⟩ : ∃ v, w.drewN nq = v := ⟨_, rfl⟩
      have hE : Ext w v := by rw [← hv]; exact (Ext.refl w).drewN nq
      rw [hv]
      have HB2 := Lib.hid (HB.out.ext hE)
      have HE := Lib.hid hE
      clear b0 b1 b2 f1 f2 hv hE
      have b1 := HB2.out.cell 1
      have f1 := HB2.out.frozen 1
      go_upto_region 5 with fail
      obtain ⟨u, hu⟩ : ∃ u, v.setCell ⟨D, 1, none⟩ (.int .i64 ((a : Int) + 1)) = u := ⟨_, rfl⟩
      have F2 : Fr v u (isB D) := by rw [← hu]; exact Fr.setCell _ _ _ _
      have HB3 := Lib.hid (show NBox u D 96 #[.slice (some ⟨b, off, none⟩) bs.length c, .int .i64 ((a : Int) + 1), .bool false] from by rw [← hu]; exact HB2.out.set 1 _)
      have HX := Lib.hid (show Ext w0 u from Fr.ext (HH.out.ext.trans HE.out) F2 (fun k hk => by rw [show k = D from hk]; exact HH.out.hD))
      have HF := Lib.hid ((Fr.of_ext HE.out _).trans F2)
      rw [hu]
      clear b1 f1 hu F2
      have b0 := HB3.out.cell 0
      have b1 := HB3.out.cell 1
      have c1 := HX.out.cell HCL.out
      have sm : IntKind.i64.wrap ((a : Int) + 1 - 1) = (a : Int) := by rw [Int.add_sub_cancel]; exact IntWalk.i64_in _ (by omega)
      have sm2 : IntKind.i64.wrap (a : Int) = (a : Int) := IntWalk.i64_in _ (by omega)
      have q5 : (a : Int) < (bs.length : Int) := by omega
      have q6 : (a : Int).toNat = a := by omega
      go_quiet (fail)
      clear sm sm2 q6
      go_wp2_with fail
      go_ret
      refine ⟨HF.out.trans (Fr.of_ext ((Ext.refl u).drewN nq) _), rfl, ?_⟩
      exact ⟨HX.out.drewN nq, HH.out.hD, HRD.out, HH.out.len, a + 1, false, by rw [show ((a + 1 : Nat) : Int) = (a : Int) + 1 from by omega]; exact HB3.out.ext ((Ext.refl u).drewN nq), hlt, rfl, rfl⟩
    · have t1 : decide ((bs.length : Int) ≤ (a : Int)) = true := decide_eq_true (by omega)
      have t2 : decide (bs.length ≤ a) = true := decide_eq_true (by omega)
      have HP : Hid ((some (bs.drop a)).bind byteP = none) := Lib.hid (by rw [List.drop_eq_nil_of_le hlt]; rfl)
      rw [HP.out]
      go_enter Try.func101, Try.ntmps101
      go_wp2_with fail
      go_quiet (fail)
      go_wp2_with fail
      go_ret
      obtain ⟨h1, h2⟩ := HNO.out _ ((Ext.refl w).drewN nq)
      exact ⟨h1, rfl, h2⟩
set_option maxRecDepth 100000 in
set_option maxHeartbeats 2000000 in
theorem dflag_any (bs : List UInt8) (bv : Value) (s : Option (List UInt8)) (w0 w : World) (D : Nat) (h : DS w0 w D bs bv s) : Calls Try.prog 94 #[.pointer (some ⟨D, 0, none⟩)] w (DocC w0 w D bs bv boolV (s.bind flagP)) := by
  have hc := dbyte_any bs bv s w0 w D h
  have HS : Hid (s.bind flagP = match s.bind byteP with | none => none | some (x, r) => if x.toNat ≤ 1 then some (x.toNat == 1, r) else none) := Lib.hid (by
    cases s with
    | none => rfl
    | some b => cases b <;> rfl)
  obtain ⟨p, hp⟩ : ∃ p, s.bind byteP = p := ⟨_, rfl⟩
  rw [hp] at hc HS
  clear hp h
  go_enter Try.func94, Try.ntmps94
  go_wp2_with fail
  refine hc.mono ?_
  clear hc
  rintro e w1 ⟨hF, hP⟩
  have HF := Lib.hid hF
  clear hF
  cases p with
  | none =>
    obtain ⟨rfl, hD⟩ := hP
    have HD := Lib.hid hD
    clear hD
    go_wp2_with fail
    go_ret
    refine ⟨HF.out, ?_⟩
    rw [HS.out]
    exact ⟨false, _, rfl, rfl, HD.out⟩
  | some xr =>
    obtain ⟨x, r⟩ := xr
    obtain ⟨rfl, hD⟩ := hP
    have hx := x.toNat_lt
    rcases Nat.lt_or_ge 1 x.toNat with h1 | h1
    · have t1 : decide (1 < x.toNat) = true := decide_eq_true (by omega)
      have t2 : decide ((1 : Int) < (x.toNat : Int)) = true := decide_eq_true (by omega)
      have t3 : ((x.toNat : Int) == 1) = false := by rw [beq_eq_false_iff_ne]; omega
      have HN : Hid (s.bind flagP = none) := Lib.hid (by rw [HS.out]; exact if_neg (by omega))
      obtain ⟨a, y, hb, ha, -⟩ := hD.box
      have f2 := hb.frozen 2
      have b2 := hb.cell 2
      have HB := Lib.hid hb
      have HD := Lib.hid hD
      clear hD hb
      go_wp2_with fail
      go_ret
      have F2 := Fr.setCell w1 D 2 (.bool true)
      refine ⟨HF.out.trans F2, ?_⟩
      rw [HN.out]
      exact ⟨false, _, rfl, rfl, Fr.ext HD.out.ext F2 (fun k hk => by rw [hk]; exact HD.out.hD), HD.out.hD, HD.out.rd, HD.out.len, a, true, HB.out.set 2 _, ha, rfl⟩
    · have t1 : decide (1 < x.toNat) = false := decide_eq_false (by omega)
      have t2 : decide ((1 : Int) < (x.toNat : Int)) = false := decide_eq_false (by omega)
      have t3 : ((x.toNat : Int) == 1) = (x.toNat == 1) := by rw [Bool.eq_iff_iff, beq_iff_eq, beq_iff_eq]; omega
      have HN : Hid (s.bind flagP = some (x.toNat == 1, r)) := Lib.hid (by rw [HS.out]; exact if_pos h1)
      have HD := Lib.hid hD
      clear hD
      go_wp2_with fail
      go_ret
      refine ⟨HF.out, ?_⟩
      rw [HN.out]
      exact ⟨_, rfl, rfl, HD.out⟩
/-- A window of a row of bytes, as a string. -/
theorem conv_window {W : World} {bs : List UInt8} {b off c a n : Nat} (h : RdS W 1 bs.length (u8s bs) (.slice (some ⟨b, off, none⟩) bs.length c)) (hn : a + n ≤ bs.length) (A : Option Addr) (hA : A = if c = a then some ⟨b, off, none⟩ else some ⟨b, off + a, none⟩) : (convert 25 9 (.slice A n (c - a))).run Try.prog W = .ok (.string (Sb ((bs.drop a).take n))) W := by
  obtain ⟨A0, c0, he, hl, h1, h2, hc⟩ := h
  simp only [Value.slice.injEq, true_and] at he
  obtain ⟨rfl, rfl⟩ := he
  have hlen : ((bs.drop a).take n).length = n := by rw [List.length_take, List.length_drop]; omega
  have hr : RdS W 1 ((bs.drop a).take n).length (u8s ((bs.drop a).take n)) (.slice A ((bs.drop a).take n).length (c - a)) := by
    rw [hlen]
    refine ⟨_, _, rfl, by rw [u8s_len, hlen, Nat.mul_one], by omega, by omega, fun h0 => ?_⟩
    obtain ⟨b1, o1, e1, hcell⟩ := hc (by omega)
    simp only [Option.some.injEq, Addr.mk.injEq, and_true] at e1
    obtain ⟨rfl, rfl⟩ := e1
    rw [if_neg (by omega)] at hA
    refine ⟨b, off + a, hA, fun j u hj => ?_⟩
    rw [show off + a + j = off + (a + j) by omega]
    refine hcell (a + j) u ?_
    unfold u8s at hj ⊢
    rw [List.getElem?_map, List.getElem?_take] at hj
    split at hj
    · rw [List.getElem?_drop] at hj
      rw [List.getElem?_map]
      exact hj
    · cases hj
  have := conv_rd hr
  rw [hlen] at this
  exact this
theorem textP_S (most : Nat) (s : Option (List UInt8)) : s.bind (textP most) = match s.bind (smallP (most + 1)) with | none => none | some (n, r) => if n ≤ r.length then some (Sb (r.take n), r.drop n) else none := by
  cases s with
  | none => rfl
  | some b =>
    show textP most b = match smallP (most + 1) b with | none => none | some (n, r) => if n ≤ r.length then some (Sb (r.take n), r.drop n) else none
    unfold textP
    cases smallP (most + 1) b <;> rfl
set_option maxRecDepth 100000 in
set_option maxHeartbeats 4000000 in
theorem dtext_any (most : Nat) (hm : most < 4611686018427387904) (bs : List UInt8) (bv : Value) (s : Option (List UInt8)) (w0 w : World) (D : Nat) (h : DS w0 w D bs bv s) : Calls Try.prog 95 #[.pointer (some ⟨D, 0, none⟩), .int .i64 (most : Int)] w (DocC w0 w D bs bv strV (s.bind (textP most))) := by
  have hc := dnumber_any most bs bv s w0 w D h
  have HS := Lib.hid (textP_S most s)
  have HLT := Lib.hid (fun n r (hh : s.bind (smallP (most + 1)) = some (n, r)) => (show n < most + 1 by
    cases s with
    | none => cases hh
    | some b => exact small_lt hh))
  obtain ⟨p, hp⟩ : ∃ p, s.bind (smallP (most + 1)) = p := ⟨_, rfl⟩
  rw [hp] at hc HS HLT
  have q0 : (0 : Int) ≤ (most : Int) := by omega
  clear hp h
  go_enter Try.func95, Try.ntmps95
  go_wp2_with fail
  refine hc.mono ?_
  clear hc
  rintro e w1 ⟨hF, hP⟩
  have HF := Lib.hid hF
  clear hF
  cases p with
  | none =>
    obtain ⟨rfl, hD⟩ := hP
    obtain ⟨a, y, hb, ha, rfl⟩ := hD.box
    have b2 := hb.cell 2
    have f2 := hb.frozen 2
    have HB := Lib.hid hb
    have HD := Lib.hid hD
    clear hb hD
    go_wp2_with fail
    go_quiet (fail)
    go_wp2_with fail
    go_ret
    have hE := (Ext.refl w1).drewN nq
    have F2 := (Fr.of_ext hE (isB D)).trans (Fr.setCell (w1.drewN nq) D 2 (.bool true))
    refine ⟨HF.out.trans F2, ?_⟩
    rw [HS.out]
    exact ⟨⟨#[]⟩, _, rfl, ⟨rfl, (by show (0 : Nat) ≤ maxLen; decide)⟩, Fr.ext HD.out.ext F2 (fun k hk => by rw [show k = D from hk]; exact HD.out.hD), HD.out.hD, HD.out.rd, HD.out.len, a, true, (HB.out.ext hE).set 2 _, ha, rfl⟩
  | some nr =>
    obtain ⟨n, r⟩ := nr
    obtain ⟨rfl, hD⟩ := hP
    obtain ⟨a, y, hb, ha, rfl, rfl⟩ := hD.box
    have hnm := HLT.out n _ rfl
    have hl := hD.len
    have hdl : (bs.drop a).length = bs.length - a := List.length_drop
    have b0 := hb.cell 0
    have b1 := hb.cell 1
    have b2 := hb.cell 2
    have f1 := hb.frozen 1
    have f2 := hb.frozen 2
    have HB := Lib.hid hb
    have HD := Lib.hid hD
    have HRD := Lib.hid hD.rd
    obtain ⟨A, c, rfl, -, hlc, hcm, hcell⟩ := hD.rd
    unfold maxLen at hcm
    clear hb hD
    have q1 : (0 : Int) ≤ (n : Int) := by omega
    have q2 : (0 : Int) ≤ (a : Int) := by omega
    have q3 : (a : Int) ≤ (bs.length : Int) := by omega
    have sm : IntKind.i64.wrap ((bs.length : Int) - (a : Int)) = (bs.length : Int) - (a : Int) := IntWalk.i64_in _ (by omega)
    rcases Nat.lt_or_ge (bs.length - a) n with hn | hn
    · have t1 : decide ((bs.length : Int) - (a : Int) < (n : Int)) = true := decide_eq_true (by omega)
      have HN : Hid (s.bind (textP most) = none) := Lib.hid (by rw [HS.out]; exact if_neg (by omega))
      clear hcell
      go_wp2_with fail
      go_quiet (fail)
      clear sm
      go_wp2_with fail
      go_ret
      have hE := (Ext.refl w1).drewN nq
      have F2 := (Fr.of_ext hE (isB D)).trans (Fr.setCell (w1.drewN nq) D 2 (.bool true))
      refine ⟨HF.out.trans F2, ?_⟩
      rw [HN.out]
      exact ⟨⟨#[]⟩, _, rfl, ⟨rfl, (by show (0 : Nat) ≤ maxLen; decide)⟩, Fr.ext HD.out.ext F2 (fun k hk => by rw [show k = D from hk]; exact HD.out.hD), HD.out.hD, HD.out.rd, HD.out.len, a, true, (HB.out.ext hE).set 2 _, ha, rfl⟩
    · have t1 : decide ((bs.length : Int) - (a : Int) < (n : Int)) = false := decide_eq_false (by omega)
      have HN : Hid (s.bind (textP most) = some (Sb ((bs.drop a).take n), bs.drop (a + n))) := Lib.hid (by rw [HS.out, ← List.drop_drop]; exact if_pos (by omega))
      have HSS : Hid ((Sb ((bs.drop a).take n)).size ≤ maxLen) := Lib.hid (by show ((bs.drop a).take n).length ≤ maxLen; rw [List.length_take]; unfold maxLen; omega)
      obtain ⟨st, hst⟩ : ∃ st, Sb ((bs.drop a).take n) = st := ⟨_, rfl⟩
      rw [hst] at HN HSS
      have HST := Lib.hid hst
      clear hst
      go_wp2_with fail
      go_quiet (fail)
      clear sm
      obtain ⟨v, hv⟩ : ∃ v, w1.drewN nq = v := ⟨_, rfl⟩
      have hE : Ext w1 v := by rw [← hv]; exact (Ext.refl w1).drewN nq
      rw [hv]
      have HB2 := Lib.hid (HB.out.ext hE)
      have HE := Lib.hid hE
      clear b0 b1 b2 f1 f2 hv hE
      have b1 := HB2.out.cell 1
      have f1 := HB2.out.frozen 1
      go_upto_region 6 with fail
      obtain ⟨u, hu⟩ : ∃ u, v.setCell ⟨D, 1, none⟩ (.int .i64 ((a : Int) + (n : Int))) = u := ⟨_, rfl⟩
      have F2 : Fr v u (isB D) := by rw [← hu]; exact Fr.setCell _ _ _ _
      have HB3 := Lib.hid (show NBox u D 96 #[.slice A bs.length c, .int .i64 ((a : Int) + (n : Int)), .bool false] from by rw [← hu]; exact HB2.out.set 1 _)
      have HX := Lib.hid (show Ext w0 u from Fr.ext (HD.out.ext.trans HE.out) F2 (fun k hk => by rw [show k = D from hk]; exact HD.out.hD))
      have HFF := Lib.hid (HF.out.trans ((Fr.of_ext HE.out _).trans F2))
      rw [hu]
      clear b1 f1 hu F2
      have b0 := HB3.out.cell 0
      have b1 := HB3.out.cell 1
      have sm : IntKind.i64.wrap ((a : Int) + (n : Int) - (n : Int)) = (a : Int) := by rw [Int.add_sub_cancel]; exact IntWalk.i64_in _ (by omega)
      have sm2 : IntKind.i64.wrap (a : Int) = (a : Int) := IntWalk.i64_in _ (by omega)
      have q6 : (a : Int) ≤ (a : Int) + (n : Int) := by omega
      have q7 : (a : Int) + (n : Int) ≤ (c : Int) := by omega
      have q8 : ((a : Int) + (n : Int)).toNat = a + n := by omega
      have q9 : a + n - a = n := by omega
      have fin : ∀ m, DocC w0 w D bs (.slice A bs.length c) strV (s.bind (textP most)) (.returned (.string st)) (u.drewN m) := fun m => by
        refine ⟨HFF.out.trans (Fr.of_ext ((Ext.refl u).drewN m) _), ?_⟩
        rw [HN.out]
        exact ⟨_, rfl, ⟨rfl, HSS.out⟩, HX.out.drewN m, HD.out.hD, HRD.out, HD.out.len, a + n, false, by rw [show ((a + n : Nat) : Int) = (a : Int) + (n : Int) from by omega]; exact HB3.out.ext ((Ext.refl u).drewN m), by omega, rfl, rfl⟩
      have FIN := Lib.hid fin
      clear fin
      rcases Nat.eq_zero_or_pos bs.length with hz | hz
      · obtain rfl := List.length_eq_zero_iff.1 hz
        have ha0 : a = 0 := by simpa using ha
        subst ha0
        have hn0 : n = 0 := by simpa using hn
        subst hn0
        have hr0 : ∀ m, RdS (u.drewN m) 1 ([] : List UInt8).length (u8s []) (.slice A 0 c) := fun m => RdS.ext (HX.out.drewN m) HRD.out
        have kc : ∀ m, (convert 25 9 (.slice A 0 c)).run Try.prog (u.drewN m) = .ok (.string st) (u.drewN m) := fun m => by rw [← HST.out]; exact conv_rd (hr0 m)
        clear hcell hr0
        cases A with
        | none =>
          go_quiet (fail)
          clear sm sm2 q8 q9
          go_wp2_with fail
          go_ret
          exact FIN.out nq
        | some ad =>
          go_quiet (fail)
          clear sm sm2 q8 q9
          go_wp2_with fail
          go_ret
          exact FIN.out nq
      · obtain ⟨b, off, rfl, -⟩ := hcell hz
        obtain ⟨TA, hTA⟩ : ∃ TA : Option Addr, (if c = a then (some (⟨b, off, none⟩ : Addr)) else some ⟨b, off + a, none⟩) = TA := ⟨_, rfl⟩
        have kc : ∀ m, (convert 25 9 (.slice TA n (c - a))).run Try.prog (u.drewN m) = .ok (.string st) (u.drewN m) := fun m => by rw [← HST.out]; exact conv_window (RdS.ext (HX.out.drewN m) HRD.out) (by omega) TA hTA.symm
        clear hcell
        go_quiet (fail)
        clear sm sm2 q8 q9
        go_wp2_with fail
        go_ret
        exact FIN.out nq
end Go.Proofs.Ytoplaokimahdiaa.Wi
