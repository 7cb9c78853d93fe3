/- Chapter 17: the document's List. -/
import Derived.Test.YtoplaokimahdiaaWiROp
import Derived.Test.YtoplaokimahdiaaWiMayAll
namespace Go.Proofs.Ytoplaokimahdiaa.Wi
open Go.RowKit Go.Proofs.Ytoplaokimahdiaa.Bw Go.Proofs.Ytoplaokimahdiaa.Bs

theorem allO_at {l : List OpD} {i : Nat} {x : OpD} (h : l[i]? = some x) : (l.drop i).all mayO = (mayO x && (l.drop (i + 1)).all mayO) := by
  rw [drop_at h]; rfl
theorem opsB_at {l : List OpD} {i : Nat} {x : OpD} (h : l[i]? = some x) : opsB (l.drop i) = opB x ++ opsB (l.drop (i + 1)) := by
  rw [drop_at h]; rfl
theorem OpD.rd_id' {w : World} {o : OpD} {v : Value} (h : o.rd w v) : o.id ≤ 18446744073709551615 := by
  obtain ⟨pv, tv, cv, rfl, hP, hT, hC, hlb, hky, hvv, hid, hkd⟩ := h
  exact hid.2
theorem putR_none (w W : World) (h : Ext w W) : PutR w none (.returned (.slice none 0 0)) W := ⟨h, _, rfl, ⟨rfl, .inl ⟨rfl, rfl⟩⟩⟩
set_option maxRecDepth 100000 in
set_option maxHeartbeats 4000000 in
theorem listR_any (l : List OpD) (lv : Value) (w : World) (h : RdL w l lv) : Calls Try.prog 11 #[lv] w (PutR w (listE l)) := by
  have hL := h
  obtain ⟨A, c, rfl, hc1, hc2, hcell⟩ := h
  unfold maxLen at hc2
  by_cases h0 : l.length ≤ 4096
  case neg =>
    have t1 : decide (4096 < l.length) = true := decide_eq_true (by omega)
    have t2 : decide ((4096 : Int) < (l.length : Int)) = true := decide_eq_true (by omega)
    have HR : Hid (listE l = none) := Lib.hid (by rw [listE_eq, decide_eq_false h0]; rfl)
    clear hcell hL h0
    go_enter Try.func11, Try.ntmps11
    go_wp2_with fail
    go_ret
    rw [HR.out]
    exact putR_none w _ (Ext.refl w)
  have t1 : decide (4096 < l.length) = false := decide_eq_false (by omega)
  have t2 : decide ((4096 : Int) < (l.length : Int)) = false := decide_eq_false (by omega)
  have HLE : Hid (listE l = if l.all mayO then some (num l.length ++ opsB l) else none) := Lib.hid (by rw [listE_eq, decide_eq_true h0, Bool.true_and])
  have hc := numberR_any l.length (by omega) w
  have HCELL := Lib.hid hcell
  clear hcell hL
  go_enter Try.func11, Try.ntmps11
  go_wp2_with fail
  refine hc.mono ?_
  clear hc
  rintro e w1 hP
  obtain ⟨v1, rfl, hN⟩ := PutR.rd hP
  have hnl := num_len (n := l.length) (by omega)
  have HN := Lib.hid hN
  clear hP hN
  go_wp2_with fail
  go_loopw [3, 4] (fun s3 s4 wr => ∃ (i : Nat) (acc : List UInt8), s4 = .int .i64 (i : Int) ∧ i ≤ l.length ∧ New w wr s3 acc ∧ Hid (listE l = if (l.drop i).all mayO then some (acc ++ opsB (l.drop i)) else none) ∧ acc.length ≤ 10 + i * 4295100000) (fun _ i _ => l.length - (intOf i).toNat)
  case atStart => exact ⟨0, _, rfl, Nat.zero_le _, HN.out, HLE, by omega⟩
  case round =>
    obtain ⟨i, acc, rfl, hi, hN, HF, hal⟩ := hrel
    have HNN := Lib.hid hN
    have q1 : (0 : Int) ≤ (i : Int) := by omega
    clear t1 t2
    rcases Nat.lt_or_ge i l.length with hlt | hlt
    · have q2 : (i : Int) < (l.length : Int) := by omega
      obtain ⟨x, hx⟩ : ∃ x, l[i]? = some x := ⟨_, List.getElem?_eq_getElem hlt⟩
      obtain ⟨b0, off, rfl, hrd⟩ := HCELL.out (by omega)
      obtain ⟨⟨pv, tv, cv, dx0, dx1, dx2, dx3, dx4, dx5, dx6, dx7, dx8, dx9, dx10, HXV⟩, -⟩ := rdOps_at (rdOps_ext hN.ext hrd) hx
      obtain ⟨pv', tv', cv', he, ⟨pA, pc, hpe, -⟩, ⟨tA, tc, hte, -⟩, ⟨cA, cc, hce, -⟩, -⟩ := id HXV
      simp only [Value.agg.injEq, Array.mk.injEq, List.cons.injEq, and_true, true_and] at he
      obtain ⟨rfl, rfl, rfl⟩ := he
      subst hpe hte hce
      have HXX := Lib.hid HXV
      have hc := mayOp_any x _ wr HXV
      have HF2 := Lib.hid (HF.out.trans (by rw [allO_at hx, opsB_at hx]))
      obtain ⟨vA, vC, rfl, -⟩ := RdS.of_owns hN.own
      have hmul : (i + 1) * 4295100000 ≤ 4096 * 4295100000 := Nat.mul_le_mul_right _ (by omega)
      have hmul2 : (i + 1) * 4295100000 = i * 4295100000 + 4295100000 := Nat.succ_mul i _
      obtain ⟨MJ, hMJ⟩ : ∃ M, i * 4295100000 = M := ⟨_, rfl⟩
      rw [hMJ] at hal hmul2
      rw [hmul2] at hmul
      have HMJ := Lib.hid hmul2
      clear hrd hx hN HF HXV HN hmul2 hMJ
      go_wp2_with fail
      refine hc.mono ?_
      clear hc
      rintro e w2 ⟨r, rfl, rfl, hE⟩
      have ey0 := hE.cell dx0
      have ey1 := hE.cell dx1
      have ey2 := hE.cell dx2
      have ey3 := hE.cell dx3
      have ey4 := hE.cell dx4
      have ey5 := hE.cell dx5
      have ey6 := hE.cell dx6
      have ey7 := hE.cell dx7
      have ey8 := hE.cell dx8
      have ey9 := hE.cell dx9
      have ey10 := hE.cell dx10
      clear dx0 dx1 dx2 dx3 dx4 dx5 dx6 dx7 dx8 dx9 dx10
      cases hm : mayO x with
      | false =>
        have HR : Hid (listE l = none) := Lib.hid (by rw [HF2.out, hm]; rfl)
        have HE := Lib.hid hE
        clear hm hE
        go_wp2_with fail
        go_ret
        rw [HR.out]
        exact putR_none w _ (HNN.out.ext.trans HE.out)
      | true =>
        have hc := opR_any x _ w2 (OpD.rd_ext hE HXX.out) hm
        have hbl := opB_len (OpD.rd_id' HXX.out) hm
        have HLL := Lib.hid (Nat.add_le_add hal hbl)
        have hb1 : acc.length + (opB x).length ≤ 17592729600010 := Nat.le_trans (Nat.add_le_add hal hbl) (by rw [Nat.add_assoc]; exact Nat.add_le_add_left hmul 10)
        clear hal hbl hmul
        have HR : Hid (listE l = if (l.drop (i + 1)).all mayO then some ((acc ++ opB x) ++ opsB (l.drop (i + 1))) else none) := Lib.hid (by rw [HF2.out, hm, Bool.true_and, List.append_assoc])
        have HN2 := Lib.hid (HNN.out.more hE)
        clear hm hE HF2
        go_wp2_with fail
        refine hc.mono ?_
        clear hc ey0 ey1 ey2 ey3 ey4 ey5 ey6 ey7 ey8 ey9 ey10
        rintro e w3 hP
        obtain ⟨v3, rfl, hN3⟩ := PutR.rd hP
        have HOO := Lib.hid (owns_ext hN3.ext HN2.out.own)
        have HNA := Lib.hid (HN2.out.more hN3.ext)
        have HSZ := Lib.hid HNA.out.ext.size
        have HRD := Lib.hid (RdS.of_owns hN3.own)
        obtain ⟨vA2, vC2, rfl, -⟩ := RdS.of_owns hN3.own
        clear hP hN3
        go_wp2_with (at_builtin; refine wpList_append_rd rfl rfl T25 (v := _) (by rfl) HOO.out (by rfl) HRD.out (u8s_one _) (by omega) (by simp only [maxLen]; omega) HSZ.out ?_)
        intro v4 w4 O1 hg hat
        have HN1 := Lib.hid (HNA.out.app (b := opB x) O1 hg)
        obtain ⟨vA1, vC1, rfl, -⟩ := RdS.of_owns O1
        clear O1 hg hat
        go_wp2_with fail
        go_roundw
        case rel => exact ⟨i + 1, acc ++ opB x, by go_num, by omega, HN1.out, HR, by rw [HMJ.out, List.length_append, ← Nat.add_assoc]; exact HLL.out⟩
        case measure => simp [intOf]; omega
    · have HR : Hid (listE l = some acc) := Lib.hid (by rw [HF.out, List.drop_eq_nil_of_le hlt]; simp [opsB])
      obtain ⟨vA, vC, rfl, -⟩ := RdS.of_owns hN.own
      clear hN HF HN
      go_wp2_with fail
      go_ret
      rw [HR.out]
      exact HNN.out.putR
end Go.Proofs.Ytoplaokimahdiaa.Wi
