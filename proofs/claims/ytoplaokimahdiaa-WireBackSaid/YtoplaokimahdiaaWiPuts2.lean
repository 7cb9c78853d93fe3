/- Chapter 17: rows of pieces, attributes, operations, nodes are put. (Printed by gwputs.py.) -/
import Derived.Test.YtoplaokimahdiaaWiPath
namespace Go.Proofs.Ytoplaokimahdiaa.Wi
open Go.RowKit Go.Proofs.Ytoplaokimahdiaa.Bw Go.Proofs.Ytoplaokimahdiaa.Bs

/-- A row with an answer of its own at each place. -/
def rowL (n : Nat) (L : List (Option (List UInt8))) (most : Nat) : Option (List UInt8) := if n ≤ most then seqE (some (num n) :: L) else none
theorem drop_at {α : Type} {L : List α} {i : Nat} {r : α} (h : L[i]? = some r) : L.drop i = r :: L.drop (i + 1) := by
  have hlt := (List.getElem?_eq_some_iff.1 h).1
  have hx := (List.getElem?_eq_some_iff.1 h).2
  rw [List.drop_eq_getElem_cons hlt, hx]
set_option maxRecDepth 100000 in
set_option maxHeartbeats 1000000 in
theorem puts71 (fn : FuncId) (cap : Array Value) (enc : Pc → Option (List UInt8)) (l : List Pc) (most M : Nat) (hmost : most ≤ 1048576) (E : Nat → Prop) (J : Nat → World → Prop) (w0 w : World) (B : Nat) (v lv : Value) (bs : List UInt8) (hlv : RdP w0 l lv)
    (h : St w0 w B v bs) (hl : bs.length + 10 + most * M ≤ 100000000000000) (K : Keeps w0 B J) (hJ : J 0 w)
    (hfn : ∀ args W, (callFunc fn args).run Try.prog W = .ok (.enter fn args) W)
    (hone : ∀ i x W v1 b1, l[i]? = some x → J i W → St w0 W B v1 b1 → b1.length + M ≤ bs.length + 10 + most * M → Calls Try.prog fn (#[.agg #[.int .i64 x.keep, .int .i64 x.drop, .string x.put]] ++ cap) W fun e W' => PutC w0 W B v1 b1 E (enc x) e W' ∧ ∀ b, enc x = some b → b.length ≤ M ∧ J (i + 1) W') :
    Calls Try.prog 71 #[.pointer (some ⟨B, 0, none⟩), lv, .int .i64 (most : Int), .func (.func fn) #[] cap] w fun e W' => PutC w0 w B v bs E (rowE l most enc) e W' ∧ ∀ b, rowE l most enc = some b → J l.length W' := by
  obtain ⟨A, c, rfl, hc1, hc2, hcell⟩ := hlv
  unfold maxLen at hc2
  have hc := small_any (l.length : Int) ((most : Int) + 1) (by omega) w0 w B v bs h (by omega)
  by_cases h0 : l.length ≤ most
  · have e : smallE (l.length : Int) ((most : Int) + 1) = some (num l.length) := by
      unfold smallE
      rw [if_pos ⟨by omega, by omega⟩, Int.toNat_natCast]
    rw [e] at hc
    have hst := h
    clear e
    go_enter Try.func71, Try.ntmps71
    go_wp2_with fail
    refine hc.mono ?_
    clear hc
    rintro e w1 ⟨v1, rfl, hP⟩
    have J1 := K.fr 0 w w1 v bs hJ hst hP.fr
    have hnl := num_len (n := l.length) (by omega)
    go_wp2_with fail
    have hP1 : PutOk w0 w B v bs E (num l.length) w1 v1 := hP.any
    have HR : Hid (seqE (some (num l.length) :: (l.drop 0).map enc) = rowE l most enc) := Lib.hid (by unfold rowE; rw [if_pos h0, List.drop_zero])
    clear hP hst h
    go_loopw [18] (fun s18 wr => ∃ (i : Nat) (acc : List UInt8) (vr : Value), s18 = .int .i64 i ∧ i ≤ l.length ∧ PutOk w0 w B v bs E acc wr vr ∧ J i wr ∧ acc.length ≤ 10 + i * M ∧ Hid (seqE (some acc :: (l.drop i).map enc) = rowE l most enc)) (fun i _ => l.length - (intOf i).toNat)
    case atStart => exact ⟨0, num l.length, v1, rfl, Nat.zero_le _, hP1, J1, by omega, HR⟩
    case round =>
      obtain ⟨i, acc, vr, rfl, hi, hPr, hJr, hal, HF⟩ := hrel
      clear hP1 J1 HR hnl
      rcases Nat.lt_or_ge i l.length with hlt | hlt
      · obtain ⟨x, hx⟩ : ∃ x, l[i]? = some x := ⟨_, List.getElem?_eq_getElem hlt⟩
        obtain ⟨b0, off, rfl, hrd⟩ := hcell (by omega)
        obtain ⟨cx0, cx1, cx2, -⟩ := rdPcs_at (rdPcs_ext hPr.st.ext hrd) hx
        have cells := trivial
        have q1 : (0 : Int) ≤ (i : Int) := by omega
        have q2 : (i : Int) < (l.length : Int) := by omega
        have hmul : (i + 1) * M ≤ most * M := Nat.mul_le_mul_right M (by omega)
        have hmul2 : (i + 1) * M = i * M + M := Nat.succ_mul i M
        have hXa : Ext wr (wr.alloc (.cells #[.int .i64 x.keep, .int .i64 x.drop, .string x.put] 69)) := (Ext.refl wr).alloc _
        have HXA := Lib.hid hXa
        have hcall := hone i x (wr.alloc (.cells #[.int .i64 x.keep, .int .i64 x.drop, .string x.put] 69)) vr (bs ++ acc) hx (K.fr i wr _ vr (bs ++ acc) hJr hPr.st (Fr.of_ext hXa _)) (hPr.st.more hXa) (by rw [List.length_append]; omega)
        clear hXa
        have HX := Lib.hid ((congrArg (fun r => seqE (some acc :: r)) rfl).trans HF.out)
        have HS : Hid (seqE (some acc :: enc x :: (l.drop (i + 1)).map enc) = rowE l most enc) := Lib.hid (by
          rw [← HF.out, seqE_cons, seqE_cons, seqE_at hx])
        have HPR := Lib.hid hPr
        have HAL := Lib.hid hal
        have HM1 := Lib.hid hmul
        have HM2 := Lib.hid hmul2
        have HONE := Lib.hid hone
        clear cells hcell hrd hx hJr hPr hal HF HX hmul hmul2 hone
        go_wp2_with fail
        refine hcall.mono ?_
        clear hcall
        rintro e w2 ⟨hC, hJn⟩
        replace hC := PutC.from HXA.out hC
        cases hex : enc x with
        | none =>
          rw [hex] at hC
          obtain ⟨rfl, hNo⟩ := hC
          have hN : rowE l most enc = none := by rw [← HS.out, hex, seqE_cons]; rfl
          clear hJn hex
          go_wp2_with fail
          refine ⟨rfl, ?_⟩
          rw [hN]
          exact ⟨⟨rfl, HPR.out.no hNo⟩, fun b hb => by cases hb⟩
        | some b1 =>
          rw [hex] at hC
          obtain ⟨v2, rfl, hP2⟩ := hC
          obtain ⟨hbl, hJ2⟩ := hJn b1 hex
          have HP3 := Lib.hid (HPR.out.trans hP2)
          have HS2 : Hid (seqE (some (acc ++ b1) :: (l.drop (i + 1)).map enc) = rowE l most enc) := Lib.hid (by
            rw [← HS.out, hex, seqE_cons, seqE_cons, seqE_cons]
            cases seqE ((l.drop (i + 1)).map enc) <;> simp)
          clear hJn hex hP2
          go_wp2_with fail
          go_roundw
          case rel => exact ⟨i + 1, acc ++ b1, v2, by go_num, by omega, HP3.out, hJ2, by have := HAL.out; have := HM2.out; rw [List.length_append]; omega, HS2⟩
          case measure => simp [intOf]; omega
      · obtain rfl : i = l.length := by omega
        have hR : rowE l most enc = some acc := by
          rw [← HF.out, List.drop_length, seqE_cons]
          show some (acc ++ []) = some acc
          rw [List.append_nil]
        have HRR := Lib.hid hR
        have HPR := Lib.hid hPr
        clear hR HF hone hcell
        go_wp2_with fail
        go_end0
        rw [HRR.out]
        exact ⟨⟨_, rfl, HPR.out⟩, fun b _ => hJr⟩
  · have e : smallE (l.length : Int) ((most : Int) + 1) = none := if_neg (by omega)
    have e2 : rowE l most enc = none := if_neg h0
    rw [e] at hc
    rw [e2]
    clear h hone K hJ hcell
    go_enter Try.func71, Try.ntmps71
    go_wp2_with fail
    refine hc.mono ?_
    clear hc
    rintro e w1 ⟨rfl, hP⟩
    go_wp2_with fail
    exact ⟨rfl, ⟨rfl, hP.any⟩, fun b hb => by cases hb⟩
set_option maxRecDepth 100000 in
set_option maxHeartbeats 1000000 in
theorem puts73 (fn : FuncId) (cap : Array Value) (L : List (Option (List UInt8))) (l : List (ByteArray × ByteArray)) (hL : L.length = l.length) (most M : Nat) (hmost : most ≤ 1048576) (E : Nat → Prop) (J : Nat → World → Prop) (w0 w : World) (B : Nat) (v lv : Value) (bs : List UInt8) (hlv : RdA w0 l lv)
    (h : St w0 w B v bs) (hl : bs.length + 10 + most * M ≤ 100000000000000) (K : Keeps w0 B J) (hJ : J 0 w)
    (hfn : ∀ args W, (callFunc fn args).run Try.prog W = .ok (.enter fn args) W)
    (hone : ∀ i x r W v1 b1, l[i]? = some x → L[i]? = some r → J i W → St w0 W B v1 b1 → b1.length + M ≤ bs.length + 10 + most * M → Calls Try.prog fn (#[.agg #[.string x.1, .string x.2]] ++ cap) W fun e W' => PutC w0 W B v1 b1 E r e W' ∧ ∀ b, r = some b → b.length ≤ M ∧ J (i + 1) W') :
    Calls Try.prog 73 #[.pointer (some ⟨B, 0, none⟩), lv, .int .i64 (most : Int), .func (.func fn) #[] cap] w fun e W' => PutC w0 w B v bs E (rowL l.length L most) e W' ∧ ∀ b, rowL l.length L most = some b → J l.length W' := by
  obtain ⟨A, c, rfl, hc1, hc2, hcell⟩ := hlv
  unfold maxLen at hc2
  have hc := small_any (l.length : Int) ((most : Int) + 1) (by omega) w0 w B v bs h (by omega)
  by_cases h0 : l.length ≤ most
  · have e : smallE (l.length : Int) ((most : Int) + 1) = some (num l.length) := by
      unfold smallE
      rw [if_pos ⟨by omega, by omega⟩, Int.toNat_natCast]
    rw [e] at hc
    have hst := h
    clear e
    go_enter Try.func73, Try.ntmps73
    go_wp2_with fail
    refine hc.mono ?_
    clear hc
    rintro e w1 ⟨v1, rfl, hP⟩
    have J1 := K.fr 0 w w1 v bs hJ hst hP.fr
    have hnl := num_len (n := l.length) (by omega)
    go_wp2_with fail
    have hP1 : PutOk w0 w B v bs E (num l.length) w1 v1 := hP.any
    have HR : Hid (seqE (some (num l.length) :: L.drop 0) = rowL l.length L most) := Lib.hid (by unfold rowL; rw [if_pos h0, List.drop_zero])
    clear hP hst h
    go_loopw [18] (fun s18 wr => ∃ (i : Nat) (acc : List UInt8) (vr : Value), s18 = .int .i64 i ∧ i ≤ l.length ∧ PutOk w0 w B v bs E acc wr vr ∧ J i wr ∧ acc.length ≤ 10 + i * M ∧ Hid (seqE (some acc :: L.drop i) = rowL l.length L most)) (fun i _ => l.length - (intOf i).toNat)
    case atStart => exact ⟨0, num l.length, v1, rfl, Nat.zero_le _, hP1, J1, by omega, HR⟩
    case round =>
      obtain ⟨i, acc, vr, rfl, hi, hPr, hJr, hal, HF⟩ := hrel
      clear hP1 J1 HR hnl
      rcases Nat.lt_or_ge i l.length with hlt | hlt
      · obtain ⟨x, hx⟩ : ∃ x, l[i]? = some x := ⟨_, List.getElem?_eq_getElem hlt⟩
        obtain ⟨b0, off, rfl, hrd⟩ := hcell (by intro h; rw [h] at hlt; exact absurd hlt (Nat.not_lt_zero _))
        obtain ⟨cx0, cx1, -, -⟩ := rdAttrs_at (k := x.1) (v := x.2) (rdAttrs_ext hPr.st.ext hrd) hx
        have cells := trivial
        obtain ⟨r, hr⟩ : ∃ r, L[i]? = some r := ⟨_, List.getElem?_eq_getElem (by omega)⟩
        have q1 : (0 : Int) ≤ (i : Int) := by omega
        have q2 : (i : Int) < (l.length : Int) := by omega
        have hmul : (i + 1) * M ≤ most * M := Nat.mul_le_mul_right M (by omega)
        have hmul2 : (i + 1) * M = i * M + M := Nat.succ_mul i M
        have hXa : Ext wr (wr.alloc (.cells #[.string x.1, .string x.2] 78)) := (Ext.refl wr).alloc _
        have HXA := Lib.hid hXa
        have hcall := hone i x r (wr.alloc (.cells #[.string x.1, .string x.2] 78)) vr (bs ++ acc) hx hr (K.fr i wr _ vr (bs ++ acc) hJr hPr.st (Fr.of_ext hXa _)) (hPr.st.more hXa) (by rw [List.length_append]; omega)
        clear hXa
        have HX := trivial
        have HS : Hid (seqE (some acc :: r :: L.drop (i + 1)) = rowL l.length L most) := Lib.hid (by
          rw [← HF.out, drop_at hr])
        have HPR := Lib.hid hPr
        have HAL := Lib.hid hal
        have HM1 := Lib.hid hmul
        have HM2 := Lib.hid hmul2
        have HONE := Lib.hid hone
        clear cells hcell hrd hx hr hJr hPr hal HF HX hmul hmul2 hone
        go_wp2_with fail
        refine hcall.mono ?_
        clear hcall
        rintro e w2 ⟨hC, hJn⟩
        replace hC := PutC.from HXA.out hC
        cases r with
        | none =>
          obtain ⟨rfl, hNo⟩ := hC
          have hN : rowL l.length L most = none := by rw [← HS.out, seqE_cons]; rfl
          clear hJn
          go_wp2_with fail
          refine ⟨rfl, ?_⟩
          rw [hN]
          exact ⟨⟨rfl, HPR.out.no hNo⟩, fun b hb => by cases hb⟩
        | some b1 =>
          obtain ⟨v2, rfl, hP2⟩ := hC
          obtain ⟨hbl, hJ2⟩ := hJn b1 rfl
          have HP3 := Lib.hid (HPR.out.trans hP2)
          have HS2 : Hid (seqE (some (acc ++ b1) :: L.drop (i + 1)) = rowL l.length L most) := Lib.hid (by
            rw [← HS.out, seqE_cons, seqE_cons, seqE_cons]
            cases seqE (L.drop (i + 1)) <;> simp)
          clear hJn hP2
          go_wp2_with fail
          go_roundw
          case rel => exact ⟨i + 1, acc ++ b1, v2, by go_num, by omega, HP3.out, hJ2, by have := HAL.out; have := HM2.out; rw [List.length_append]; omega, HS2⟩
          case measure => simp [intOf]; omega
      · obtain rfl : i = l.length := by omega
        have hR : rowL l.length L most = some acc := by
          rw [← HF.out, List.drop_eq_nil_of_le (by omega), seqE_cons]
          show some (acc ++ []) = some acc
          rw [List.append_nil]
        have HRR := Lib.hid hR
        have HPR := Lib.hid hPr
        clear hR HF hone hcell
        go_wp2_with fail
        go_end0
        rw [HRR.out]
        exact ⟨⟨_, rfl, HPR.out⟩, fun b _ => hJr⟩
  · have e : smallE (l.length : Int) ((most : Int) + 1) = none := if_neg (by omega)
    have e2 : rowL l.length L most = none := if_neg h0
    rw [e] at hc
    rw [e2]
    clear h hone K hJ hcell
    go_enter Try.func73, Try.ntmps73
    go_wp2_with fail
    refine hc.mono ?_
    clear hc
    rintro e w1 ⟨rfl, hP⟩
    go_wp2_with fail
    exact ⟨rfl, ⟨rfl, hP.any⟩, fun b hb => by cases hb⟩
set_option maxRecDepth 100000 in
set_option maxHeartbeats 1000000 in
theorem puts75 (fn : FuncId) (cap : Array Value) (L : List (Option (List UInt8))) (l : List Nd) (hL : L.length = l.length) (most M : Nat) (hmost : most ≤ 1048576) (E : Nat → Prop) (J : Nat → World → Prop) (w0 w : World) (B : Nat) (v lv : Value) (bs : List UInt8) (hlv : RdK w0 l lv)
    (h : St w0 w B v bs) (hl : bs.length + 10 + most * M ≤ 100000000000000) (K : Keeps w0 B J) (hJ : J 0 w)
    (hfn : ∀ args W, (callFunc fn args).run Try.prog W = .ok (.enter fn args) W)
    (hone : ∀ i x r xv W v1 b1, l[i]? = some x → L[i]? = some r → x.rd w0 xv → J i W → St w0 W B v1 b1 → b1.length + M ≤ bs.length + 10 + most * M → Calls Try.prog fn (#[xv] ++ cap) W fun e W' => PutC w0 W B v1 b1 E r e W' ∧ ∀ b, r = some b → b.length ≤ M ∧ J (i + 1) W') :
    Calls Try.prog 75 #[.pointer (some ⟨B, 0, none⟩), lv, .int .i64 (most : Int), .func (.func fn) #[] cap] w fun e W' => PutC w0 w B v bs E (rowL l.length L most) e W' ∧ ∀ b, rowL l.length L most = some b → J l.length W' := by
  obtain ⟨A, c, rfl, hc1, hc2, hcell⟩ := hlv
  unfold maxLen at hc2
  have hc := small_any (l.length : Int) ((most : Int) + 1) (by omega) w0 w B v bs h (by omega)
  by_cases h0 : l.length ≤ most
  · have e : smallE (l.length : Int) ((most : Int) + 1) = some (num l.length) := by
      unfold smallE
      rw [if_pos ⟨by omega, by omega⟩, Int.toNat_natCast]
    rw [e] at hc
    have hst := h
    clear e
    go_enter Try.func75, Try.ntmps75
    go_wp2_with fail
    refine hc.mono ?_
    clear hc
    rintro e w1 ⟨v1, rfl, hP⟩
    have J1 := K.fr 0 w w1 v bs hJ hst hP.fr
    have hnl := num_len (n := l.length) (by omega)
    go_wp2_with fail
    have hP1 : PutOk w0 w B v bs E (num l.length) w1 v1 := hP.any
    have HR : Hid (seqE (some (num l.length) :: L.drop 0) = rowL l.length L most) := Lib.hid (by unfold rowL; rw [if_pos h0, List.drop_zero])
    clear hP hst h
    go_loopw [18] (fun s18 wr => ∃ (i : Nat) (acc : List UInt8) (vr : Value), s18 = .int .i64 i ∧ i ≤ l.length ∧ PutOk w0 w B v bs E acc wr vr ∧ J i wr ∧ acc.length ≤ 10 + i * M ∧ Hid (seqE (some acc :: L.drop i) = rowL l.length L most)) (fun i _ => l.length - (intOf i).toNat)
    case atStart => exact ⟨0, num l.length, v1, rfl, Nat.zero_le _, hP1, J1, by omega, HR⟩
    case round =>
      obtain ⟨i, acc, vr, rfl, hi, hPr, hJr, hal, HF⟩ := hrel
      clear hP1 J1 HR hnl
      rcases Nat.lt_or_ge i l.length with hlt | hlt
      · obtain ⟨x, hx⟩ : ∃ x, l[i]? = some x := ⟨_, List.getElem?_eq_getElem hlt⟩
        obtain ⟨b0, off, rfl, hrd⟩ := hcell (by intro h; rw [h] at hlt; exact absurd hlt (Nat.not_lt_zero _))
        obtain ⟨aA, ac, kA, kc, cx0, cx1, cx2, cx3, cx4, cx5, -⟩ := rdKids_get (rdKids_ext hPr.st.ext hrd) hx
        obtain ⟨aA', ac', kA', kc', dx0, dx1, dx2, dx3, dx4, dx5, HXV⟩ := rdKids_get hrd hx
        have e3 := hPr.st.ext.cell dx3
        have e5 := hPr.st.ext.cell dx5
        rw [cx3] at e3
        rw [cx5] at e5
        obtain ⟨rfl, rfl⟩ : aA = aA' ∧ ac = ac' := by simpa using e3
        obtain ⟨rfl, rfl⟩ : kA = kA' ∧ kc = kc' := by simpa using e5
        have cells := trivial
        obtain ⟨r, hr⟩ : ∃ r, L[i]? = some r := ⟨_, List.getElem?_eq_getElem (by omega)⟩
        have q1 : (0 : Int) ≤ (i : Int) := by omega
        have q2 : (i : Int) < (l.length : Int) := by omega
        have hmul : (i + 1) * M ≤ most * M := Nat.mul_le_mul_right M (by omega)
        have hmul2 : (i + 1) * M = i * M + M := Nat.succ_mul i M
        have hXa : Ext wr (wr.alloc (.cells #[.int .u64 x.id, .bool x.leaf, .string x.label, .slice aA x.attrs.length ac, .string x.text, .slice kA x.kids.length kc] 32)) := (Ext.refl wr).alloc _
        have HXA := Lib.hid hXa
        have hcall := hone i x r _ (wr.alloc (.cells #[.int .u64 x.id, .bool x.leaf, .string x.label, .slice aA x.attrs.length ac, .string x.text, .slice kA x.kids.length kc] 32)) vr (bs ++ acc) hx hr HXV (K.fr i wr _ vr (bs ++ acc) hJr hPr.st (Fr.of_ext hXa _)) (hPr.st.more hXa) (by rw [List.length_append]; omega)
        clear hXa
        have HX := trivial
        have HS : Hid (seqE (some acc :: r :: L.drop (i + 1)) = rowL l.length L most) := Lib.hid (by
          rw [← HF.out, drop_at hr])
        have HPR := Lib.hid hPr
        have HAL := Lib.hid hal
        have HM1 := Lib.hid hmul
        have HM2 := Lib.hid hmul2
        have HONE := Lib.hid hone
        clear cells hcell hrd hx hr dx0 dx1 dx2 dx3 dx4 dx5 e3 e5 HXV hJr hPr hal HF HX hmul hmul2 hone
        go_wp2_with fail
        refine hcall.mono ?_
        clear hcall
        rintro e w2 ⟨hC, hJn⟩
        replace hC := PutC.from HXA.out hC
        cases r with
        | none =>
          obtain ⟨rfl, hNo⟩ := hC
          have hN : rowL l.length L most = none := by rw [← HS.out, seqE_cons]; rfl
          clear hJn
          go_wp2_with fail
          refine ⟨rfl, ?_⟩
          rw [hN]
          exact ⟨⟨rfl, HPR.out.no hNo⟩, fun b hb => by cases hb⟩
        | some b1 =>
          obtain ⟨v2, rfl, hP2⟩ := hC
          obtain ⟨hbl, hJ2⟩ := hJn b1 rfl
          have HP3 := Lib.hid (HPR.out.trans hP2)
          have HS2 : Hid (seqE (some (acc ++ b1) :: L.drop (i + 1)) = rowL l.length L most) := Lib.hid (by
            rw [← HS.out, seqE_cons, seqE_cons, seqE_cons]
            cases seqE (L.drop (i + 1)) <;> simp)
          clear hJn hP2
          go_wp2_with fail
          go_roundw
          case rel => exact ⟨i + 1, acc ++ b1, v2, by go_num, by omega, HP3.out, hJ2, by have := HAL.out; have := HM2.out; rw [List.length_append]; omega, HS2⟩
          case measure => simp [intOf]; omega
      · obtain rfl : i = l.length := by omega
        have hR : rowL l.length L most = some acc := by
          rw [← HF.out, List.drop_eq_nil_of_le (by omega), seqE_cons]
          show some (acc ++ []) = some acc
          rw [List.append_nil]
        have HRR := Lib.hid hR
        have HPR := Lib.hid hPr
        clear hR HF hone hcell
        go_wp2_with fail
        go_end0
        rw [HRR.out]
        exact ⟨⟨_, rfl, HPR.out⟩, fun b _ => hJr⟩
  · have e : smallE (l.length : Int) ((most : Int) + 1) = none := if_neg (by omega)
    have e2 : rowL l.length L most = none := if_neg h0
    rw [e] at hc
    rw [e2]
    clear h hone K hJ hcell
    go_enter Try.func75, Try.ntmps75
    go_wp2_with fail
    refine hc.mono ?_
    clear hc
    rintro e w1 ⟨rfl, hP⟩
    go_wp2_with fail
    exact ⟨rfl, ⟨rfl, hP.any⟩, fun b hb => by cases hb⟩
set_option maxRecDepth 100000 in
set_option maxHeartbeats 1000000 in
theorem puts38 (fn : FuncId) (enc : OpD → Option (List UInt8)) (l : List OpD) (most M : Nat) (hmost : most ≤ 1048576) (E : Nat → Prop) (J : Nat → World → Prop) (w0 w : World) (B : Nat) (v lv : Value) (bs : List UInt8) (hlv : RdL w0 l lv)
    (h : St w0 w B v bs) (hl : bs.length + 10 + most * M ≤ 100000000000000) (K : Keeps w0 B J) (hJ : J 0 w)
    (hfn : ∀ args W, (callFunc fn args).run Try.prog W = .ok (.enter fn args) W)
    (hone : ∀ i x xv W v1 b1, l[i]? = some x → x.rd w0 xv → J i W → St w0 W B v1 b1 → b1.length + M ≤ bs.length + 10 + most * M → Calls Try.prog fn #[.pointer (some ⟨B, 0, none⟩), xv] W fun e W' => PutC w0 W B v1 b1 E (enc x) e W' ∧ ∀ b, enc x = some b → b.length ≤ M ∧ J (i + 1) W') :
    Calls Try.prog 38 #[.pointer (some ⟨B, 0, none⟩), lv, .int .i64 (most : Int), .func (.func fn) #[.pointer (some ⟨B, 0, none⟩)] #[]] w fun e W' => PutC w0 w B v bs E (rowE l most enc) e W' ∧ ∀ b, rowE l most enc = some b → J l.length W' := by
  obtain ⟨A, c, rfl, hc1, hc2, hcell⟩ := hlv
  unfold maxLen at hc2
  have hc := small_any (l.length : Int) ((most : Int) + 1) (by omega) w0 w B v bs h (by omega)
  by_cases h0 : l.length ≤ most
  · have e : smallE (l.length : Int) ((most : Int) + 1) = some (num l.length) := by
      unfold smallE
      rw [if_pos ⟨by omega, by omega⟩, Int.toNat_natCast]
    rw [e] at hc
    have hst := h
    clear e
    go_enter Try.func38, Try.ntmps38
    go_wp2_with fail
    refine hc.mono ?_
    clear hc
    rintro e w1 ⟨v1, rfl, hP⟩
    have J1 := K.fr 0 w w1 v bs hJ hst hP.fr
    have hnl := num_len (n := l.length) (by omega)
    go_wp2_with fail
    have hP1 : PutOk w0 w B v bs E (num l.length) w1 v1 := hP.any
    have HR : Hid (seqE (some (num l.length) :: (l.drop 0).map enc) = rowE l most enc) := Lib.hid (by unfold rowE; rw [if_pos h0, List.drop_zero])
    clear hP hst h
    go_loopw [18] (fun s18 wr => ∃ (i : Nat) (acc : List UInt8) (vr : Value), s18 = .int .i64 i ∧ i ≤ l.length ∧ PutOk w0 w B v bs E acc wr vr ∧ J i wr ∧ acc.length ≤ 10 + i * M ∧ Hid (seqE (some acc :: (l.drop i).map enc) = rowE l most enc)) (fun i _ => l.length - (intOf i).toNat)
    case atStart => exact ⟨0, num l.length, v1, rfl, Nat.zero_le _, hP1, J1, by omega, HR⟩
    case round =>
      obtain ⟨i, acc, vr, rfl, hi, hPr, hJr, hal, HF⟩ := hrel
      clear hP1 J1 HR hnl
      rcases Nat.lt_or_ge i l.length with hlt | hlt
      · obtain ⟨x, hx⟩ : ∃ x, l[i]? = some x := ⟨_, List.getElem?_eq_getElem hlt⟩
        obtain ⟨b0, off, rfl, hrd⟩ := hcell (by omega)
        obtain ⟨⟨pv, tv, cv, dx0, dx1, dx2, dx3, dx4, dx5, dx6, dx7, dx8, dx9, dx10, HXV⟩, -⟩ := rdOps_at hrd hx
        obtain ⟨pv', tv', cv', he, ⟨pA, pc, hpe, -⟩, ⟨tA, tc, hte, -⟩, ⟨cA, cc, hce, -⟩, -⟩ := id HXV
        simp only [Value.agg.injEq, Array.mk.injEq, List.cons.injEq, and_true, true_and] at he
        obtain ⟨rfl, rfl, rfl⟩ := he
        subst hpe hte hce
        have cx0 := hPr.st.ext.cell dx0
        have cx1 := hPr.st.ext.cell dx1
        have cx2 := hPr.st.ext.cell dx2
        have cx3 := hPr.st.ext.cell dx3
        have cx4 := hPr.st.ext.cell dx4
        have cx5 := hPr.st.ext.cell dx5
        have cx6 := hPr.st.ext.cell dx6
        have cx7 := hPr.st.ext.cell dx7
        have cx8 := hPr.st.ext.cell dx8
        have cx9 := hPr.st.ext.cell dx9
        have cx10 := hPr.st.ext.cell dx10
        have cells := trivial
        have q1 : (0 : Int) ≤ (i : Int) := by omega
        have q2 : (i : Int) < (l.length : Int) := by omega
        have hmul : (i + 1) * M ≤ most * M := Nat.mul_le_mul_right M (by omega)
        have hmul2 : (i + 1) * M = i * M + M := Nat.succ_mul i M
        have hXa : Ext wr (wr.alloc (.cells #[.int .u8 x.kind, .slice pA x.path.length pc, .int .i64 x.at_, .slice tA x.to.length tc, .int .u64 x.id, .bool x.leaf, .string x.label, .string x.key, .string x.value, .bool x.gone, .slice cA x.pcs.length cc] 66)) := (Ext.refl wr).alloc _
        have HXA := Lib.hid hXa
        have hcall := hone i x _ (wr.alloc (.cells #[.int .u8 x.kind, .slice pA x.path.length pc, .int .i64 x.at_, .slice tA x.to.length tc, .int .u64 x.id, .bool x.leaf, .string x.label, .string x.key, .string x.value, .bool x.gone, .slice cA x.pcs.length cc] 66)) vr (bs ++ acc) hx HXV (K.fr i wr _ vr (bs ++ acc) hJr hPr.st (Fr.of_ext hXa _)) (hPr.st.more hXa) (by rw [List.length_append]; omega)
        clear hXa
        have HX := Lib.hid ((congrArg (fun r => seqE (some acc :: r)) rfl).trans HF.out)
        have HS : Hid (seqE (some acc :: enc x :: (l.drop (i + 1)).map enc) = rowE l most enc) := Lib.hid (by
          rw [← HF.out, seqE_cons, seqE_cons, seqE_at hx])
        have HPR := Lib.hid hPr
        have HAL := Lib.hid hal
        have HM1 := Lib.hid hmul
        have HM2 := Lib.hid hmul2
        have HONE := Lib.hid hone
        clear cells hcell hrd hx dx0 dx1 dx2 dx3 dx4 dx5 dx6 dx7 dx8 dx9 dx10 HXV hJr hPr hal HF HX hmul hmul2 hone
        go_wp2_with fail
        refine hcall.mono ?_
        clear hcall
        rintro e w2 ⟨hC, hJn⟩
        replace hC := PutC.from HXA.out hC
        cases hex : enc x with
        | none =>
          rw [hex] at hC
          obtain ⟨rfl, hNo⟩ := hC
          have hN : rowE l most enc = none := by rw [← HS.out, hex, seqE_cons]; rfl
          clear hJn hex
          go_wp2_with fail
          refine ⟨rfl, ?_⟩
          rw [hN]
          exact ⟨⟨rfl, HPR.out.no hNo⟩, fun b hb => by cases hb⟩
        | some b1 =>
          rw [hex] at hC
          obtain ⟨v2, rfl, hP2⟩ := hC
          obtain ⟨hbl, hJ2⟩ := hJn b1 hex
          have HP3 := Lib.hid (HPR.out.trans hP2)
          have HS2 : Hid (seqE (some (acc ++ b1) :: (l.drop (i + 1)).map enc) = rowE l most enc) := Lib.hid (by
            rw [← HS.out, hex, seqE_cons, seqE_cons, seqE_cons]
            cases seqE ((l.drop (i + 1)).map enc) <;> simp)
          clear hJn hex hP2
          go_wp2_with fail
          go_roundw
          case rel => exact ⟨i + 1, acc ++ b1, v2, by go_num, by omega, HP3.out, hJ2, by have := HAL.out; have := HM2.out; rw [List.length_append]; omega, HS2⟩
          case measure => simp [intOf]; omega
      · obtain rfl : i = l.length := by omega
        have hR : rowE l most enc = some acc := by
          rw [← HF.out, List.drop_length, seqE_cons]
          show some (acc ++ []) = some acc
          rw [List.append_nil]
        have HRR := Lib.hid hR
        have HPR := Lib.hid hPr
        clear hR HF hone hcell
        go_wp2_with fail
        go_end0
        rw [HRR.out]
        exact ⟨⟨_, rfl, HPR.out⟩, fun b _ => hJr⟩
  · have e : smallE (l.length : Int) ((most : Int) + 1) = none := if_neg (by omega)
    have e2 : rowE l most enc = none := if_neg h0
    rw [e] at hc
    rw [e2]
    clear h hone K hJ hcell
    go_enter Try.func38, Try.ntmps38
    go_wp2_with fail
    refine hc.mono ?_
    clear hc
    rintro e w1 ⟨rfl, hP⟩
    go_wp2_with fail
    exact ⟨rfl, ⟨rfl, hP.any⟩, fun b hb => by cases hb⟩
end Go.Proofs.Ytoplaokimahdiaa.Wi
