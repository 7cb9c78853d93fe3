/- Chapter 17: the law WireTrees. (Printed by glwtree.py.) -/
import Derived.Test.YtoplaokimahdiaaWiDocG
import Derived.Test.YtoplaokimahdiaaWiSameN
import Derived.Test.YtoplaokimahdiaaWiWeigh
import Derived.Test.YtoplaokimahdiaaWiLawNumbers
import Derived.Test.YtoplaokimahdiaaWiLawPaths
namespace Go.Proofs.Ytoplaokimahdiaa.Wi
open Go.RowKit Go.Proofs.Ytoplaokimahdiaa.Bw Go.Proofs.Ytoplaokimahdiaa.Bs

theorem Fr.new' {A B : World} {S T : Nat → Prop} (h : Fr A B S) (hS : ∀ k, S k → A.heap.size ≤ k) : Fr A B T := ⟨h.os, h.tape, h.output, h.size, fun k hk _ => h.block k hk (fun h0 => absurd (hS k h0) (Nat.not_le.2 hk))⟩
def nd0 : Nd := .mk 0 false ⟨#[]⟩ [] ⟨#[]⟩ []
theorem nd0_rd (W : World) : nd0.rd W (.agg #[.int .u64 0, .bool false, .string ⟨#[]⟩, .slice none 0 0, .string ⟨#[]⟩, .slice none 0 0]) := by
  unfold nd0 Nd.rd
  exact ⟨_, none, 0, rfl, by decide, by show (0 : Nat) ≤ maxLen; decide, by show (0 : Nat) ≤ maxLen; decide, ⟨none, 0, rfl, Nat.le_refl _, by decide, fun h => absurd rfl h⟩, Nat.le_refl _, by decide, fun h => absurd rfl h⟩
/-- What is got of bytes, and what the document gets. -/
theorem got_both (b : List UInt8) (hl : b.length ≤ 100000000000) : ∃ (x : Nd) (code : Int) (ok : Bool), ((code = 0 ∧ ok = true) ∨ (code = 170 ∧ ok = false)) ∧
    (∀ (bv : Value) (w : World), RdS w 1 b.length (u8s b) bv → Calls Try.prog 30 #[bv] w (fun e W' => Ext w W' ∧ ∃ v, e = .returned (.tuple #[v, .int .i64 code]) ∧ ndV w.heap.size x v W')) ∧
    (∀ (bv : Value) (w : World), RdS w 1 b.length (u8s b) bv → Calls Try.prog 31 #[bv] w (fun e W' => Ext w W' ∧ ∃ v, e = .returned (.tuple #[v, .bool ok]) ∧ ndV w.heap.size x v W')) := by
  rcases h : getD b with _ | x
  · refine ⟨nd0, 170, false, .inr ⟨rfl, rfl⟩, fun bv w hb => ?_, fun bv w hb => ?_⟩
    · refine (getNode_any b bv w hb).mono fun e W' hP => ?_
      rw [getD_got, h] at hP
      exact ⟨hP.1, _, hP.2, Late.all nd0_rd⟩
    · refine (getNodeR_any b bv w hb hl).mono fun e W' hP => ?_
      rw [h] at hP
      exact ⟨hP.1, _, hP.2, Late.all nd0_rd⟩
  · refine ⟨x, 0, true, .inl ⟨rfl, rfl⟩, fun bv w hb => ?_, fun bv w hb => ?_⟩
    · refine (getNode_any b bv w hb).mono fun e W' hP => ?_
      rw [getD_got, h] at hP
      exact hP
    · refine (getNodeR_any b bv w hb hl).mono fun e W' hP => ?_
      rw [h] at hP
      exact hP
set_option maxRecDepth 100000 in
set_option maxHeartbeats 8000000 in
theorem lawTrees (t : Nd) (b : List UInt8) (tv bv : Value) (w : World) (ht : t.rd w tv) (hb : RdS w 1 b.length (u8s b) bv) : Calls Try.prog 7 #[tv, bv] w (Ret w fun r _ => r = .bool true) := by
  obtain ⟨tA, tc, tK, td, rfl⟩ : ∃ tA tc tK td, tv = .agg #[.int .u64 t.id, .bool t.leaf, .string t.label, .slice tA t.attrs.length tc, .string t.text, .slice tK t.kids.length td] := by
    obtain ⟨av, kv, rfl, -, -, -, -, ⟨aA, ac, rfl, -⟩, ⟨kA, kc, rfl, -⟩⟩ := Nd.rd_open ht
    exact ⟨aA, ac, kA, kc, rfl⟩
  have hbm := RdS.len_le hb
  unfold maxLen at hbm
  obtain ⟨w1, hw1⟩ : ∃ W, w.alloc (.cells #[.int .u64 t.id, .bool t.leaf, .string t.label, .slice tA t.attrs.length tc, .string t.text, .slice tK t.kids.length td] 32) = W := ⟨_, rfl⟩
  obtain ⟨T, hT⟩ : ∃ T, w.heap.size = T := ⟨_, rfl⟩
  have E1 : Ext w w1 := by rw [← hw1]; exact (Ext.refl w).alloc _
  have bT : NBox w1 T 32 #[.int .u64 t.id, .bool t.leaf, .string t.label, .slice tA t.attrs.length tc, .string t.text, .slice tK t.kids.length td] := by rw [← hw1, ← hT]; exact NBox.new _ _ _
  have hc := heavy_any t _ 0 5000 w1 (Nd.rd_ext E1 ht)
  have HT := Lib.hid ht
  have HB := Lib.hid hb
  have HBT := Lib.hid bT
  have HE1 := Lib.hid E1
  have HW1 := Lib.hid hw1
  have HTT := Lib.hid hT
  have t0 := bT.cell 0
  have t1 := bT.cell 1
  have t2 := bT.cell 2
  have t3 := bT.cell 3
  have t4 := bT.cell 4
  have t5 := bT.cell 5
  obtain ⟨bA, bc, rfl, -⟩ := hb
  clear hw1 hT E1 bT ht
  go_enter Try.func7, Try.ntmps7
  go_upto_region 1 with fail
  rw [HW1.out, HTT.out]
  go_wp2_with fail
  refine hc.mono ?_
  clear hc t0 t1 t2 t3 t4 t5
  rintro e w2 ⟨r, rfl, ⟨n, rfl⟩, hE⟩
  have HE2 := Lib.hid (HE1.out.trans hE)
  have HBT2 := Lib.hid (HBT.out.ext hE)
  clear hE HBT HE1 HW1 HTT
  cases g1 : decide (5000 < n) with
  | true =>
    have hw := works_any w2
    go_wp2_with fail
    refine hw.mono ?_
    clear hw
    rintro e wf ⟨rfl, hXf⟩
    go_wp2_with fail
    go_ret
    exact ⟨_, rfl, rfl, HE2.out.trans hXf⟩
  | false =>
  rcases Nat.lt_or_ge 5000 b.length with hl | hl
  · have hw := works_any w2
    have g2 : decide (5000 < b.length) = true := decide_eq_true hl
    have g2' : decide ((5000 : Int) < (b.length : Int)) = true := decide_eq_true (by omega)
    go_wp2_with fail
    refine hw.mono ?_
    clear hw
    rintro e wf ⟨rfl, hXf⟩
    go_wp2_with fail
    go_ret
    exact ⟨_, rfl, rfl, HE2.out.trans hXf⟩
  have g2 : decide (5000 < b.length) = false := decide_eq_false (by omega)
  have g2' : decide ((5000 : Int) < (b.length : Int)) = false := decide_eq_false (by omega)
  obtain ⟨x, code, ok, hcode, hgot, hgotR⟩ := got_both b (by omega)
  have HGOT := Lib.hid hgot
  have HGOTR := Lib.hid hgotR
  have HCODE := Lib.hid hcode
  have hc := mayNode_any t _ w2 (Nd.rd_ext HE2.out HT.out)
  have HTR := Lib.hid (tree_ref t)
  obtain ⟨mm, hmm⟩ : ∃ m, mayN 0 t = m := ⟨_, rfl⟩
  have HMM := Lib.hid hmm
  rw [hmm] at hc HTR
  have t0 := HBT2.out.cell 0
  have t1 := HBT2.out.cell 1
  have t2 := HBT2.out.cell 2
  have t3 := HBT2.out.cell 3
  have t4 := HBT2.out.cell 4
  have t5 := HBT2.out.cell 5
  clear hgot hgotR hcode hmm
  go_wp2_with fail
  refine hc.mono ?_
  clear hc t0 t1 t2 t3 t4 t5
  rintro e w3 ⟨r, rfl, rfl, hE⟩
  have HE3 := Lib.hid (HE2.out.trans hE)
  have HBT3 := Lib.hid (HBT2.out.ext hE)
  clear hE HE2 HBT2
  rcases Int.lt_or_le mm 0 with hneg | hpos
  · have u1 : decide (0 ≤ mm) = false := decide_eq_false (by omega)
    obtain ⟨WB, hWB⟩ : ∃ B, ([] : List UInt8) = B := ⟨_, rfl⟩
    have HBW : Hid (bytesOf (treeE t) = WB) := Lib.hid (by rw [HTR.out, if_neg (by omega), ← hWB]; rfl)
    have HWV : Hid (RdS w3 1 WB.length (u8s WB) (.slice none 0 0)) := Lib.hid (by rw [← hWB]; exact RdS.nil_ _ _)
    have hWL : WB.length = 0 := by rw [← hWB]; rfl
    have HE4 := HE3
    have HBT4 := HBT3
    clear hWB HE3 HBT3 hWL HTR HMM
    have kc := conv_rd (RdS.ext HE4.out HB.out)
    obtain ⟨cap, w5, kb, hE5, hin⟩ := conv_bytes b w3 (by unfold maxLen; omega)
    obtain ⟨S1, hS1⟩ : ∃ S, w3.heap.size = S := ⟨_, rfl⟩
    rw [hS1] at kb hin
    have HIN := Lib.hid hin
    have HE5 := Lib.hid (HE4.out.trans hE5)
    have HWV5 := Lib.hid (RdS.ext hE5 HWV.out)
    have HBT5 := Lib.hid (HBT4.out.ext hE5)
    have HS1 := Lib.hid hS1
    have hc := HGOT.out _ w5 hin
    clear hE5 hin hS1 HE4 HWV HBT4 HGOT
    go_wp2_with (rw [HS1.out]; clear HS1)
    refine hc.mono ?_
    clear hc kc kb
    rintro e w6 ⟨hX6, v, rfl, hv⟩
    obtain ⟨xA, xc, xK, xd, rfl⟩ := hv.open
    obtain ⟨w7, hw7⟩ : ∃ W, w6.alloc (.cells #[.int .u64 0, .bool false, .string ⟨#[]⟩, .slice none 0 0, .string ⟨#[]⟩, .slice none 0 0] 32) = W := ⟨_, rfl⟩
    obtain ⟨Z, hZ⟩ : ∃ Z, w6.heap.size = Z := ⟨_, rfl⟩
    have E7 : Ext w6 w7 := by rw [← hw7]; exact (Ext.refl w6).alloc _
    have bZ : NBox w7 Z 32 #[.int .u64 0, .bool false, .string ⟨#[]⟩, .slice none 0 0, .string ⟨#[]⟩, .slice none 0 0] := by rw [← hw7, ← hZ]; exact NBox.new _ _ _
    obtain ⟨w8, hw8⟩ : ∃ W, ((((((w7.setCell ⟨Z, 0, none⟩ (.int .u64 x.id)).setCell ⟨Z, 1, none⟩ (.bool x.leaf)).setCell ⟨Z, 2, none⟩ (.string x.label)).setCell ⟨Z, 3, none⟩ (.slice xA x.attrs.length xc)).setCell ⟨Z, 4, none⟩ (.string x.text)).setCell ⟨Z, 5, none⟩ (.slice xK x.kids.length xd)) = W := ⟨_, rfl⟩
    have F8 : Fr w7 w8 (isB Z) := by rw [← hw8]; exact Fr.six _ _ _ _ _ _ _ _
    have hZ5 : w5.heap.size ≤ Z := by rw [← hZ]; exact hX6.size
    have X8 : Ext w5 w8 := Fr.ext (hX6.trans E7) F8 (fun q hq => by rw [show q = Z from hq]; exact hZ5)
    have HZ := Lib.hid (show NBox w8 Z 32 #[.int .u64 x.id, .bool x.leaf, .string x.label, .slice xA x.attrs.length xc, .string x.text, .slice xK x.kids.length xd] from by rw [← hw8]; exact bZ.six _ _ _ _ _ _)
    have HV8 := Lib.hid (show x.rd w8 (.agg #[.int .u64 x.id, .bool x.leaf, .string x.label, .slice xA x.attrs.length xc, .string x.text, .slice xK x.kids.length xd]) from hv w8 (((Fr.of_ext E7 _).trans F8).new' (fun q hq => by rw [show q = Z from hq, hZ]; exact Nat.le_refl _)))
    have HE8 := Lib.hid (HE5.out.trans X8)
    have HIN8 := Lib.hid (RdS.ext X8 HIN.out)
    have HWV8 := Lib.hid (RdS.ext X8 HWV5.out)
    have HBT8 := Lib.hid (HBT5.out.ext X8)
    have hcR := HGOTR.out _ w8 (RdS.ext HE8.out HB.out)
    have y0 := bZ.cell 0
    have z0 := bZ.frozen 0
    have y1 := bZ.cell 1
    have z1 := bZ.frozen 1
    have y2 := bZ.cell 2
    have z2 := bZ.frozen 2
    have y3 := bZ.cell 3
    have z3 := bZ.frozen 3
    have y4 := bZ.cell 4
    have z4 := bZ.frozen 4
    have y5 := bZ.cell 5
    have z5 := bZ.frozen 5
    have HW7 := Lib.hid hw7
    have HZZ := Lib.hid hZ
    have HW8 := Lib.hid hw8
    clear hw7 hZ hw8 E7 bZ F8 X8 hX6 hv HIN HWV5 HBT5 HE5 HGOTR hZ5
    go_upto_region 8 with (rw [HW7.out, HZZ.out]; clear HW7 HZZ)
    rw [HW8.out]
    clear HW8 y0 y1 y2 y3 y4 y5 z0 z1 z2 z3 z4 z5
    go_wp2_with fail
    refine hcR.mono ?_
    clear hcR
    rintro e w9 ⟨hX9, v, rfl, hv⟩
    obtain ⟨yA, yc, yK, yd, rfl⟩ := hv.open
    obtain ⟨wa, hwa⟩ : ∃ W, w9.alloc (.cells #[.int .u64 0, .bool false, .string ⟨#[]⟩, .slice none 0 0, .string ⟨#[]⟩, .slice none 0 0] 32) = W := ⟨_, rfl⟩
    obtain ⟨Y, hY⟩ : ∃ Z, w9.heap.size = Z := ⟨_, rfl⟩
    have E7 : Ext w9 wa := by rw [← hwa]; exact (Ext.refl w9).alloc _
    have bZ : NBox wa Y 32 #[.int .u64 0, .bool false, .string ⟨#[]⟩, .slice none 0 0, .string ⟨#[]⟩, .slice none 0 0] := by rw [← hwa, ← hY]; exact NBox.new _ _ _
    obtain ⟨wb, hwb⟩ : ∃ W, ((((((wa.setCell ⟨Y, 0, none⟩ (.int .u64 x.id)).setCell ⟨Y, 1, none⟩ (.bool x.leaf)).setCell ⟨Y, 2, none⟩ (.string x.label)).setCell ⟨Y, 3, none⟩ (.slice yA x.attrs.length yc)).setCell ⟨Y, 4, none⟩ (.string x.text)).setCell ⟨Y, 5, none⟩ (.slice yK x.kids.length yd)) = W := ⟨_, rfl⟩
    have F8 : Fr wa wb (isB Y) := by rw [← hwb]; exact Fr.six _ _ _ _ _ _ _ _
    have hZ5 : w8.heap.size ≤ Y := by rw [← hY]; exact hX9.size
    have X8 : Ext w8 wb := Fr.ext (hX9.trans E7) F8 (fun q hq => by rw [show q = Y from hq]; exact hZ5)
    have HY := Lib.hid (show NBox wb Y 32 #[.int .u64 x.id, .bool x.leaf, .string x.label, .slice yA x.attrs.length yc, .string x.text, .slice yK x.kids.length yd] from by rw [← hwb]; exact bZ.six _ _ _ _ _ _)
    have HVY := Lib.hid (show x.rd wb (.agg #[.int .u64 x.id, .bool x.leaf, .string x.label, .slice yA x.attrs.length yc, .string x.text, .slice yK x.kids.length yd]) from hv wb (((Fr.of_ext E7 _).trans F8).new' (fun q hq => by rw [show q = Y from hq, hY]; exact Nat.le_refl _)))
    have HVX := Lib.hid (Nd.rd_ext X8 HV8.out)
    have HEb := Lib.hid (HE8.out.trans X8)
    have HINb := Lib.hid (RdS.ext X8 HIN8.out)
    have HWVb := Lib.hid (RdS.ext X8 HWV8.out)
    have HBTb := Lib.hid (HBT8.out.ext X8)
    have HZb := Lib.hid (HZ.out.ext X8)
    have y0 := bZ.cell 0
    have z0 := bZ.frozen 0
    have y1 := bZ.cell 1
    have z1 := bZ.frozen 1
    have y2 := bZ.cell 2
    have z2 := bZ.frozen 2
    have y3 := bZ.cell 3
    have z3 := bZ.frozen 3
    have y4 := bZ.cell 4
    have z4 := bZ.frozen 4
    have y5 := bZ.cell 5
    have z5 := bZ.frozen 5
    have HW7 := Lib.hid hwa
    have HZZ := Lib.hid hY
    have HW8 := Lib.hid hwb
    clear hwa hY hwb E7 bZ F8 X8 hX9 hv HIN8 HWV8 HBT8 HE8 HZ HV8 hZ5
    go_upto_region 9 with (rw [HW7.out, HZZ.out]; clear HW7 HZZ)
    rw [HW8.out]
    clear HW8 y0 y1 y2 y3 y4 y5 z0 z1 z2 z3 z4 z5
    obtain ⟨c0, hc0⟩ : ∃ c0, wb.drew = c0 := ⟨_, rfl⟩
    have XC : Ext wb c0 := by rw [← hc0]; exact (Ext.refl _).drew
    have HXC := Lib.hid (HEb.out.trans XC)
    have t0 := (HBTb.out.ext XC).cell 0
    have z0 := (HZb.out.ext XC).cell 0
    have y0 := (HY.out.ext XC).cell 0
    have t1 := (HBTb.out.ext XC).cell 1
    have z1 := (HZb.out.ext XC).cell 1
    have y1 := (HY.out.ext XC).cell 1
    have t2 := (HBTb.out.ext XC).cell 2
    have z2 := (HZb.out.ext XC).cell 2
    have y2 := (HY.out.ext XC).cell 2
    have t3 := (HBTb.out.ext XC).cell 3
    have z3 := (HZb.out.ext XC).cell 3
    have y3 := (HY.out.ext XC).cell 3
    have t4 := (HBTb.out.ext XC).cell 4
    have z4 := (HZb.out.ext XC).cell 4
    have y4 := (HY.out.ext XC).cell 4
    have t5 := (HBTb.out.ext XC).cell 5
    have z5 := (HZb.out.ext XC).cell 5
    have y5 := (HY.out.ext XC).cell 5
    have HWB := Lib.hid (RdS.ext XC HWVb.out)
    have HIN := Lib.hid (RdS.ext XC HINb.out)
    have HB6 := Lib.hid (RdS.ext HXC.out HB.out)
    have HTC := Lib.hid (Nd.rd_ext HXC.out HT.out)
    have HVX2 := Lib.hid (Nd.rd_ext XC HVX.out)
    have HVY2 := Lib.hid (Nd.rd_ext XC HVY.out)
    obtain ⟨sw, hsw⟩ : ∃ s, Sb WB = s := ⟨_, rfl⟩
    obtain ⟨sb, hsb⟩ : ∃ s, Sb b = s := ⟨_, rfl⟩
    have HSW := Lib.hid hsw
    have HSB := Lib.hid hsb
    have e1 := str_same sw
    have e2 := str_same sb
    clear hsw hsb XC HBTb HZb HY HWVb HINb HVX HVY HT HB
    refine wp_region_held_drew (S := fun W => Ext c0 W) (by kernel_rfl) (by rw [hc0]; exact Ext.refl _) (fun hHeld => ?_)
    rw [hc0] at hHeld ⊢
    clear hc0
    rcases HCODE.out with ⟨hco, hok⟩ | ⟨hco, hok⟩
    · subst hco hok
      refine wpAnyH_take (i := 0) (oi := ⟨_, _, _, _, _, _⟩) (v := ?_) rfl (by kernel_rfl) (by kernel_rfl) (by kernel_rfl) (fun _ _ _ h => h) (Or.inl ⟨by rfl, ?_⟩) hHeld ?_
      rotate_left
      · intro w hSw
        have hSx : Ext c0 w := hSw
        clear hSw
        have t0 := hSx.cell t0
        have t1 := hSx.cell t1
        have t2 := hSx.cell t2
        have t3 := hSx.cell t3
        have t4 := hSx.cell t4
        have t5 := hSx.cell t5
        go_simp
        all_goals (first | with_reducible rfl | rw [if_pos (by omega)])
      try simp only [Act.put, List.setIfInBounds_toArray, List.set_cons_zero, List.set_cons_succ]
      refine wpAnyH_take (i := 3) (oi := ⟨_, _, _, _, _, _⟩) (v := ?_) rfl (by kernel_rfl) (by kernel_rfl) (by kernel_rfl) (fun _ _ _ h => h) (Or.inl ⟨by rfl, ?_⟩) hHeld ?_
      rotate_left
      · intro w hSw
        have hSx : Ext c0 w := hSw
        clear hSw
        go_simp
        all_goals (first | with_reducible rfl | rw [if_pos (by omega)])
      try simp only [Act.put, List.setIfInBounds_toArray, List.set_cons_zero, List.set_cons_succ]
      refine wpAnyH_take (i := 4) (oi := ⟨_, _, _, _, _, _⟩) (v := ?_) rfl (by kernel_rfl) (by kernel_rfl) (by kernel_rfl) (fun _ _ _ h => h) (Or.inl ⟨by rfl, ?_⟩) hHeld ?_
      rotate_left
      · intro w hSw
        have hSx : Ext c0 w := hSw
        clear hSw
        have k4 := conv_rd (RdS.ext hSx HWB.out)
        rw [HSW.out] at k4
        go_simp
        all_goals (first | with_reducible rfl | rw [if_pos (by omega)])
      try simp only [Act.put, List.setIfInBounds_toArray, List.set_cons_zero, List.set_cons_succ]
      refine wpAnyH_ready (rs := [1]) (by kernel_rfl) (by simp) ?_
      refine AllReadyH.cons (o := ⟨_, _, _, _, _, _⟩) rfl (fun K' hK => ?_) AllReadyH.nil
      have hq := putNode_any t _ c0 HTC.out
      go_simp
      go_at_call 16
      refine hq.mono ?_
      clear hq
      rintro e u1 ⟨hX, v1, rfl, hO⟩
      rw [HBW.out] at hO
      have k2 := conv_rd (RdS.of_owns hO)
      rw [HSW.out] at k2
      have HX1 := Lib.hid hX
      obtain ⟨pA, pC, rfl, -⟩ := RdS.of_owns hO
      clear hX hO
      refine hK.out _ _ HX1.out (fun hHeld => ?_)
      clear hK K'
      try simp only [Act.put, List.setIfInBounds_toArray, List.set_cons_zero, List.set_cons_succ]
      refine wpAnyH_ready (rs := [2]) (by kernel_rfl) (by simp) ?_
      refine AllReadyH.cons (o := ⟨_, _, _, _, _, _⟩) rfl (fun K' hK => ?_) AllReadyH.nil
      go_simp
      refine hK.out _ _ HX1.out (fun hHeld => ?_)
      clear hK K' k2
      try simp only [Act.put, List.setIfInBounds_toArray, List.set_cons_zero, List.set_cons_succ]
      refine wpAnyH_take (i := 5) (oi := ⟨_, _, _, _, _, _⟩) (v := ?_) rfl (by kernel_rfl) (by kernel_rfl) (by kernel_rfl) (fun _ _ _ h => h) (Or.inl ⟨by rfl, ?_⟩) hHeld ?_
      rotate_left
      · intro w hSw
        have hSx : Ext c0 w := hSw
        clear hSw
        go_simp
        all_goals (first | with_reducible rfl | rw [if_pos (by omega)])
      try simp only [Act.put, List.setIfInBounds_toArray, List.set_cons_zero, List.set_cons_succ]
      refine wpAnyH_take (i := 6) (oi := ⟨_, _, _, _, _, _⟩) (v := ?_) rfl (by kernel_rfl) (by kernel_rfl) (by kernel_rfl) (fun _ _ _ h => h) (Or.inl ⟨by rfl, ?_⟩) hHeld ?_
      rotate_left
      · intro w hSw
        have hSx : Ext c0 w := hSw
        clear hSw
        go_simp
        all_goals (first | with_reducible rfl | rw [if_pos (by omega)])
      try simp only [Act.put, List.setIfInBounds_toArray, List.set_cons_zero, List.set_cons_succ]
      refine wpAnyH_take (i := 7) (oi := ⟨_, _, _, _, _, _⟩) (v := ?_) rfl (by kernel_rfl) (by kernel_rfl) (by kernel_rfl) (fun _ _ _ h => h) (Or.inl ⟨by rfl, ?_⟩) hHeld ?_
      rotate_left
      · intro w hSw
        have hSx : Ext c0 w := hSw
        clear hSw
        have z0 := hSx.cell z0
        have z1 := hSx.cell z1
        have z2 := hSx.cell z2
        have z3 := hSx.cell z3
        have z4 := hSx.cell z4
        have z5 := hSx.cell z5
        go_simp
        all_goals (first | with_reducible rfl | rw [if_pos (by omega)])
      try simp only [Act.put, List.setIfInBounds_toArray, List.set_cons_zero, List.set_cons_succ]
      refine wpAnyH_take (i := 8) (oi := ⟨_, _, _, _, _, _⟩) (v := ?_) rfl (by kernel_rfl) (by kernel_rfl) (by kernel_rfl) (fun _ _ _ h => h) (Or.inl ⟨by rfl, ?_⟩) hHeld ?_
      rotate_left
      · intro w hSw
        have hSx : Ext c0 w := hSw
        clear hSw
        have y0 := hSx.cell y0
        have y1 := hSx.cell y1
        have y2 := hSx.cell y2
        have y3 := hSx.cell y3
        have y4 := hSx.cell y4
        have y5 := hSx.cell y5
        go_simp
        all_goals (first | with_reducible rfl | rw [if_pos (by omega)])
      try simp only [Act.put, List.setIfInBounds_toArray, List.set_cons_zero, List.set_cons_succ]
      refine wpAnyH_ready (rs := [9]) (by kernel_rfl) (by simp) ?_
      refine AllReadyH.cons (o := ⟨_, _, _, _, _, _⟩) rfl (fun K' hK => ?_) AllReadyH.nil
      have hq := sameNode_any x x _ _ u1 (Nd.rd_ext HX1.out HVX2.out) (Nd.rd_ext HX1.out HVY2.out)
      go_simp
      go_at_call 17
      refine hq.mono ?_
      clear hq
      rintro e u2 ⟨r, rfl, ⟨tt, rfl, htt⟩, hE⟩
      obtain rfl := htt.2 rfl
      have HX2 := Lib.hid (HX1.out.trans hE)
      clear hE htt
      refine hK.out _ _ HX2.out (fun hHeld => ?_)
      clear hK K'
      try simp only [Act.put, List.setIfInBounds_toArray, List.set_cons_zero, List.set_cons_succ]
      refine wpAnyH_take (i := 10) (oi := ⟨_, _, _, _, _, _⟩) (v := ?_) rfl (by kernel_rfl) (by kernel_rfl) (by kernel_rfl) (fun _ _ _ h => h) (Or.inl ⟨by rfl, ?_⟩) hHeld ?_
      rotate_left
      · intro w hSw
        have hSx : Ext c0 w := hSw
        clear hSw
        go_simp
        all_goals (first | with_reducible rfl | rw [if_pos (by omega)])
      try simp only [Act.put, List.setIfInBounds_toArray, List.set_cons_zero, List.set_cons_succ]
      refine wpAnyH_take (i := 11) (oi := ⟨_, _, _, _, _, _⟩) (v := ?_) rfl (by kernel_rfl) (by kernel_rfl) (by kernel_rfl) (fun _ _ _ h => h) (Or.inl ⟨by rfl, ?_⟩) hHeld ?_
      rotate_left
      · intro w hSw
        have hSx : Ext c0 w := hSw
        clear hSw
        go_simp
        all_goals (first | with_reducible rfl | rw [if_pos (by omega)])
      try simp only [Act.put, List.setIfInBounds_toArray, List.set_cons_zero, List.set_cons_succ]
      refine wpAnyH_take (i := 12) (oi := ⟨_, _, _, _, _, _⟩) (v := ?_) rfl (by kernel_rfl) (by kernel_rfl) (by kernel_rfl) (fun _ _ _ h => h) (Or.inl ⟨by rfl, ?_⟩) hHeld ?_
      rotate_left
      · intro w hSw
        have hSx : Ext c0 w := hSw
        clear hSw
        go_simp
        all_goals (first | with_reducible rfl | rw [if_pos (by omega)])
      try simp only [Act.put, List.setIfInBounds_toArray, List.set_cons_zero, List.set_cons_succ]
      refine wpAnyH_take (i := 13) (oi := ⟨_, _, _, _, _, _⟩) (v := ?_) rfl (by kernel_rfl) (by kernel_rfl) (by kernel_rfl) (fun _ _ _ h => h) (Or.inl ⟨by rfl, ?_⟩) hHeld ?_
      rotate_left
      · intro w hSw
        have hSx : Ext c0 w := hSw
        clear hSw
        go_simp
        all_goals (first | with_reducible rfl | rw [if_pos (by omega)])
      try simp only [Act.put, List.setIfInBounds_toArray, List.set_cons_zero, List.set_cons_succ]
      refine wpAnyH_take (i := 14) (oi := ⟨_, _, _, _, _, _⟩) (v := ?_) rfl (by kernel_rfl) (by kernel_rfl) (by kernel_rfl) (fun _ _ _ h => h) (Or.inl ⟨by rfl, ?_⟩) hHeld ?_
      rotate_left
      · intro w hSw
        have hSx : Ext c0 w := hSw
        clear hSw
        go_simp
        all_goals (first | with_reducible rfl | rw [if_pos (by omega)])
      try simp only [Act.put, List.setIfInBounds_toArray, List.set_cons_zero, List.set_cons_succ]
      refine wpAnyH_take (i := 15) (oi := ⟨_, _, _, _, _, _⟩) (v := ?_) rfl (by kernel_rfl) (by kernel_rfl) (by kernel_rfl) (fun _ _ _ h => h) (Or.inl ⟨by rfl, ?_⟩) hHeld ?_
      rotate_left
      · intro w hSw
        have hSx : Ext c0 w := hSw
        clear hSw
        go_simp
        all_goals (first | with_reducible rfl | rw [if_pos (by omega)])
      try simp only [Act.put, List.setIfInBounds_toArray, List.set_cons_zero, List.set_cons_succ]
      refine wpAnyH_take (i := 16) (oi := ⟨_, _, _, _, _, _⟩) (v := ?_) rfl (by kernel_rfl) (by kernel_rfl) (by kernel_rfl) (fun _ _ _ h => h) (Or.inl ⟨by rfl, ?_⟩) hHeld ?_
      rotate_left
      · intro w hSw
        have hSx : Ext c0 w := hSw
        clear hSw
        go_simp
        all_goals (first | with_reducible rfl | rw [if_pos (by omega)])
      try simp only [Act.put, List.setIfInBounds_toArray, List.set_cons_zero, List.set_cons_succ]
      refine wpAnyH_take (i := 17) (oi := ⟨_, _, _, _, _, _⟩) (v := ?_) rfl (by kernel_rfl) (by kernel_rfl) (by kernel_rfl) (fun _ _ _ h => h) (Or.inl ⟨by rfl, ?_⟩) hHeld ?_
      rotate_left
      · intro w hSw
        have hSx : Ext c0 w := hSw
        clear hSw
        go_simp
        all_goals (first | with_reducible rfl | rw [if_pos (by omega)])
      try simp only [Act.put, List.setIfInBounds_toArray, List.set_cons_zero, List.set_cons_succ]
      refine wpAnyH_take (i := 18) (oi := ⟨_, _, _, _, _, _⟩) (v := ?_) rfl (by kernel_rfl) (by kernel_rfl) (by kernel_rfl) (fun _ _ _ h => h) (Or.inl ⟨by rfl, ?_⟩) hHeld ?_
      rotate_left
      · intro w hSw
        have hSx : Ext c0 w := hSw
        clear hSw
        go_simp
        all_goals (first | with_reducible rfl | rw [if_pos (by omega)])
      try simp only [Act.put, List.setIfInBounds_toArray, List.set_cons_zero, List.set_cons_succ]
      refine wpAnyH_take (i := 19) (oi := ⟨_, _, _, _, _, _⟩) (v := ?_) rfl (by kernel_rfl) (by kernel_rfl) (by kernel_rfl) (fun _ _ _ h => h) (Or.inl ⟨by rfl, ?_⟩) hHeld ?_
      rotate_left
      · intro w hSw
        have hSx : Ext c0 w := hSw
        clear hSw
        go_simp
        all_goals (first | with_reducible rfl | rw [if_pos (by omega)])
      try simp only [Act.put, List.setIfInBounds_toArray, List.set_cons_zero, List.set_cons_succ]
      refine wpAnyH_take (i := 20) (oi := ⟨_, _, _, _, _, _⟩) (v := undef) rfl (by kernel_rfl) (by kernel_rfl) (by kernel_rfl) (fun _ _ _ h => h) (Or.inr ⟨by rfl, by rfl⟩) hHeld ?_
      try simp only [Act.put, List.setIfInBounds_toArray, List.set_cons_zero, List.set_cons_succ]
      refine wpAnyH_take (i := 21) (oi := ⟨_, _, _, _, _, _⟩) (v := undef) rfl (by kernel_rfl) (by kernel_rfl) (by kernel_rfl) (fun _ _ _ h => h) (Or.inr ⟨by rfl, by rfl⟩) hHeld ?_
      try simp only [Act.put, List.setIfInBounds_toArray, List.set_cons_zero, List.set_cons_succ]
      refine wpAnyH_take (i := 22) (oi := ⟨_, _, _, _, _, _⟩) (v := ?_) rfl (by kernel_rfl) (by kernel_rfl) (by kernel_rfl) (fun _ _ _ h => h) (Or.inl ⟨by rfl, ?_⟩) hHeld ?_
      rotate_left
      · intro w hSw
        have hSx : Ext c0 w := hSw
        clear hSw
        go_simp
        all_goals (first | with_reducible rfl | rw [if_pos (by omega)])
      try simp only [Act.put, List.setIfInBounds_toArray, List.set_cons_zero, List.set_cons_succ]
      refine wpAnyH_take (i := 23) (oi := ⟨_, _, _, _, _, _⟩) (v := ?_) rfl (by kernel_rfl) (by kernel_rfl) (by kernel_rfl) (fun _ _ _ h => h) (Or.inl ⟨by rfl, ?_⟩) hHeld ?_
      rotate_left
      · intro w hSw
        have hSx : Ext c0 w := hSw
        clear hSw
        go_simp
        all_goals (first | with_reducible rfl | rw [if_pos (by omega)])
      try simp only [Act.put, List.setIfInBounds_toArray, List.set_cons_zero, List.set_cons_succ]
      refine wpAnyH_take (i := 24) (oi := ⟨_, _, _, _, _, _⟩) (v := ?_) rfl (by kernel_rfl) (by kernel_rfl) (by kernel_rfl) (fun _ _ _ h => h) (Or.inl ⟨by rfl, ?_⟩) hHeld ?_
      rotate_left
      · intro w hSw
        have hSx : Ext c0 w := hSw
        clear hSw
        go_simp
        all_goals (first | with_reducible rfl | rw [if_pos (by omega)])
      try simp only [Act.put, List.setIfInBounds_toArray, List.set_cons_zero, List.set_cons_succ]
      refine wpAnyH_take (i := 25) (oi := ⟨_, _, _, _, _, _⟩) (v := ?_) rfl (by kernel_rfl) (by kernel_rfl) (by kernel_rfl) (fun _ _ _ h => h) (Or.inl ⟨by rfl, ?_⟩) hHeld ?_
      rotate_left
      · intro w hSw
        have hSx : Ext c0 w := hSw
        clear hSw
        go_simp
        all_goals (first | with_reducible rfl | rw [if_pos (by omega)])
      try simp only [Act.put, List.setIfInBounds_toArray, List.set_cons_zero, List.set_cons_succ]
      refine wpAnyH_take (i := 26) (oi := ⟨_, _, _, _, _, _⟩) (v := ?_) rfl (by kernel_rfl) (by kernel_rfl) (by kernel_rfl) (fun _ _ _ h => h) (Or.inl ⟨by rfl, ?_⟩) hHeld ?_
      rotate_left
      · intro w hSw
        have hSx : Ext c0 w := hSw
        clear hSw
        have k26 := conv_rd (RdS.ext hSx HIN.out)
        rw [HSB.out] at k26
        go_simp
        all_goals (first | with_reducible rfl | rw [if_pos (by omega)])
      try simp only [Act.put, List.setIfInBounds_toArray, List.set_cons_zero, List.set_cons_succ]
      refine wpAnyH_take (i := 27) (oi := ⟨_, _, _, _, _, _⟩) (v := ?_) rfl (by kernel_rfl) (by kernel_rfl) (by kernel_rfl) (fun _ _ _ h => h) (Or.inl ⟨by rfl, ?_⟩) hHeld ?_
      rotate_left
      · intro w hSw
        have hSx : Ext c0 w := hSw
        clear hSw
        go_simp
        all_goals (first | with_reducible rfl | rw [if_pos (by omega)])
      try simp only [Act.put, List.setIfInBounds_toArray, List.set_cons_zero, List.set_cons_succ]
      refine wpAnyH_take (i := 28) (oi := ⟨_, _, _, _, _, _⟩) (v := ?_) rfl (by kernel_rfl) (by kernel_rfl) (by kernel_rfl) (fun _ _ _ h => h) (Or.inl ⟨by rfl, ?_⟩) hHeld ?_
      rotate_left
      · intro w hSw
        have hSx : Ext c0 w := hSw
        clear hSw
        have k28 := conv_rd (RdS.ext hSx HB6.out)
        rw [HSB.out] at k28
        go_simp
        all_goals (first | with_reducible rfl | rw [if_pos (by omega)])
      try simp only [Act.put, List.setIfInBounds_toArray, List.set_cons_zero, List.set_cons_succ]
      refine wpAnyH_take (i := 29) (oi := ⟨_, _, _, _, _, _⟩) (v := ?_) rfl (by kernel_rfl) (by kernel_rfl) (by kernel_rfl) (fun _ _ _ h => h) (Or.inl ⟨by rfl, ?_⟩) hHeld ?_
      rotate_left
      · intro w hSw
        have hSx : Ext c0 w := hSw
        clear hSw
        go_simp
        all_goals (first | with_reducible rfl | rw [if_pos (by omega)])
      try simp only [Act.put, List.setIfInBounds_toArray, List.set_cons_zero, List.set_cons_succ]
      refine wpAnyH_take (i := 30) (oi := ⟨_, _, _, _, _, _⟩) (v := ?_) rfl (by kernel_rfl) (by kernel_rfl) (by kernel_rfl) (fun _ _ _ h => h) (Or.inl ⟨by rfl, ?_⟩) hHeld ?_
      rotate_left
      · intro w hSw
        have hSx : Ext c0 w := hSw
        clear hSw
        go_simp
        all_goals (first | with_reducible rfl | rw [if_pos (by omega)])
      try simp only [Act.put, List.setIfInBounds_toArray, List.set_cons_zero, List.set_cons_succ]
      refine wpAnyH_take (i := 31) (oi := ⟨_, _, _, _, _, _⟩) (v := ?_) rfl (by kernel_rfl) (by kernel_rfl) (by kernel_rfl) (fun _ _ _ h => h) (Or.inl ⟨by rfl, ?_⟩) hHeld ?_
      rotate_left
      · intro w hSw
        have hSx : Ext c0 w := hSw
        clear hSw
        go_simp
        all_goals (first | with_reducible rfl | rw [if_pos (by omega)])
      try simp only [Act.put, List.setIfInBounds_toArray, List.set_cons_zero, List.set_cons_succ]
      refine wpAnyH_ready (rs := [32]) (by kernel_rfl) (by simp) ?_
      refine AllReadyH.cons (o := ⟨_, _, _, _, _, _⟩) rfl (fun K' hK => ?_) AllReadyH.nil
      have hq := works_any u2
      go_simp
      go_at_call 10
      refine hq.mono ?_
      clear hq
      rintro e u3 ⟨rfl, hE⟩
      have HX3 := Lib.hid (HX2.out.trans hE)
      clear hE
      refine hK.out _ _ HX3.out (fun hHeld => ?_)
      clear hK K'
      try simp only [Act.put, List.setIfInBounds_toArray, List.set_cons_zero, List.set_cons_succ]
      refine wpAnyH_take (i := 33) (oi := ⟨_, _, _, _, _, _⟩) (v := ?_) rfl (by kernel_rfl) (by kernel_rfl) (by kernel_rfl) (fun _ _ _ h => h) (Or.inl ⟨by rfl, ?_⟩) hHeld ?_
      rotate_left
      · intro w hSw
        have hSx : Ext c0 w := hSw
        clear hSw
        go_simp
        all_goals (first | with_reducible rfl | rw [if_pos (by omega)])
      try simp only [Act.put, List.setIfInBounds_toArray, List.set_cons_zero, List.set_cons_succ]
      refine wpAnyH_take (i := 34) (oi := ⟨_, _, _, _, _, _⟩) (v := ?_) rfl (by kernel_rfl) (by kernel_rfl) (by kernel_rfl) (fun _ _ _ h => h) (Or.inl ⟨by rfl, ?_⟩) hHeld ?_
      rotate_left
      · intro w hSw
        have hSx : Ext c0 w := hSw
        clear hSw
        go_simp
        all_goals (first | with_reducible rfl | rw [if_pos (by omega)])
      try simp only [Act.put, List.setIfInBounds_toArray, List.set_cons_zero, List.set_cons_succ]
      refine wpAnyH_done (by kernel_rfl) ?_ _
      clear hHeld
      go_wp2_with fail
      go_ret
      exact ⟨_, rfl, rfl, HXC.out.trans HX3.out⟩
    · subst hco hok
      refine wpAnyH_take (i := 0) (oi := ⟨_, _, _, _, _, _⟩) (v := ?_) rfl (by kernel_rfl) (by kernel_rfl) (by kernel_rfl) (fun _ _ _ h => h) (Or.inl ⟨by rfl, ?_⟩) hHeld ?_
      rotate_left
      · intro w hSw
        have hSx : Ext c0 w := hSw
        clear hSw
        have t0 := hSx.cell t0
        have t1 := hSx.cell t1
        have t2 := hSx.cell t2
        have t3 := hSx.cell t3
        have t4 := hSx.cell t4
        have t5 := hSx.cell t5
        go_simp
        all_goals (first | with_reducible rfl | rw [if_pos (by omega)])
      try simp only [Act.put, List.setIfInBounds_toArray, List.set_cons_zero, List.set_cons_succ]
      refine wpAnyH_take (i := 3) (oi := ⟨_, _, _, _, _, _⟩) (v := ?_) rfl (by kernel_rfl) (by kernel_rfl) (by kernel_rfl) (fun _ _ _ h => h) (Or.inl ⟨by rfl, ?_⟩) hHeld ?_
      rotate_left
      · intro w hSw
        have hSx : Ext c0 w := hSw
        clear hSw
        go_simp
        all_goals (first | with_reducible rfl | rw [if_pos (by omega)])
      try simp only [Act.put, List.setIfInBounds_toArray, List.set_cons_zero, List.set_cons_succ]
      refine wpAnyH_take (i := 4) (oi := ⟨_, _, _, _, _, _⟩) (v := ?_) rfl (by kernel_rfl) (by kernel_rfl) (by kernel_rfl) (fun _ _ _ h => h) (Or.inl ⟨by rfl, ?_⟩) hHeld ?_
      rotate_left
      · intro w hSw
        have hSx : Ext c0 w := hSw
        clear hSw
        have k4 := conv_rd (RdS.ext hSx HWB.out)
        rw [HSW.out] at k4
        go_simp
        all_goals (first | with_reducible rfl | rw [if_pos (by omega)])
      try simp only [Act.put, List.setIfInBounds_toArray, List.set_cons_zero, List.set_cons_succ]
      refine wpAnyH_ready (rs := [1]) (by kernel_rfl) (by simp) ?_
      refine AllReadyH.cons (o := ⟨_, _, _, _, _, _⟩) rfl (fun K' hK => ?_) AllReadyH.nil
      have hq := putNode_any t _ c0 HTC.out
      go_simp
      go_at_call 16
      refine hq.mono ?_
      clear hq
      rintro e u1 ⟨hX, v1, rfl, hO⟩
      rw [HBW.out] at hO
      have k2 := conv_rd (RdS.of_owns hO)
      rw [HSW.out] at k2
      have HX1 := Lib.hid hX
      obtain ⟨pA, pC, rfl, -⟩ := RdS.of_owns hO
      clear hX hO
      refine hK.out _ _ HX1.out (fun hHeld => ?_)
      clear hK K'
      try simp only [Act.put, List.setIfInBounds_toArray, List.set_cons_zero, List.set_cons_succ]
      refine wpAnyH_ready (rs := [2]) (by kernel_rfl) (by simp) ?_
      refine AllReadyH.cons (o := ⟨_, _, _, _, _, _⟩) rfl (fun K' hK => ?_) AllReadyH.nil
      go_simp
      refine hK.out _ _ HX1.out (fun hHeld => ?_)
      clear hK K' k2
      try simp only [Act.put, List.setIfInBounds_toArray, List.set_cons_zero, List.set_cons_succ]
      refine wpAnyH_take (i := 5) (oi := ⟨_, _, _, _, _, _⟩) (v := ?_) rfl (by kernel_rfl) (by kernel_rfl) (by kernel_rfl) (fun _ _ _ h => h) (Or.inl ⟨by rfl, ?_⟩) hHeld ?_
      rotate_left
      · intro w hSw
        have hSx : Ext c0 w := hSw
        clear hSw
        go_simp
        all_goals (first | with_reducible rfl | rw [if_pos (by omega)])
      try simp only [Act.put, List.setIfInBounds_toArray, List.set_cons_zero, List.set_cons_succ]
      refine wpAnyH_take (i := 6) (oi := ⟨_, _, _, _, _, _⟩) (v := ?_) rfl (by kernel_rfl) (by kernel_rfl) (by kernel_rfl) (fun _ _ _ h => h) (Or.inl ⟨by rfl, ?_⟩) hHeld ?_
      rotate_left
      · intro w hSw
        have hSx : Ext c0 w := hSw
        clear hSw
        go_simp
        all_goals (first | with_reducible rfl | rw [if_pos (by omega)])
      try simp only [Act.put, List.setIfInBounds_toArray, List.set_cons_zero, List.set_cons_succ]
      refine wpAnyH_take (i := 7) (oi := ⟨_, _, _, _, _, _⟩) (v := ?_) rfl (by kernel_rfl) (by kernel_rfl) (by kernel_rfl) (fun _ _ _ h => h) (Or.inl ⟨by rfl, ?_⟩) hHeld ?_
      rotate_left
      · intro w hSw
        have hSx : Ext c0 w := hSw
        clear hSw
        have z0 := hSx.cell z0
        have z1 := hSx.cell z1
        have z2 := hSx.cell z2
        have z3 := hSx.cell z3
        have z4 := hSx.cell z4
        have z5 := hSx.cell z5
        go_simp
        all_goals (first | with_reducible rfl | rw [if_pos (by omega)])
      try simp only [Act.put, List.setIfInBounds_toArray, List.set_cons_zero, List.set_cons_succ]
      refine wpAnyH_take (i := 8) (oi := ⟨_, _, _, _, _, _⟩) (v := ?_) rfl (by kernel_rfl) (by kernel_rfl) (by kernel_rfl) (fun _ _ _ h => h) (Or.inl ⟨by rfl, ?_⟩) hHeld ?_
      rotate_left
      · intro w hSw
        have hSx : Ext c0 w := hSw
        clear hSw
        have y0 := hSx.cell y0
        have y1 := hSx.cell y1
        have y2 := hSx.cell y2
        have y3 := hSx.cell y3
        have y4 := hSx.cell y4
        have y5 := hSx.cell y5
        go_simp
        all_goals (first | with_reducible rfl | rw [if_pos (by omega)])
      try simp only [Act.put, List.setIfInBounds_toArray, List.set_cons_zero, List.set_cons_succ]
      refine wpAnyH_ready (rs := [9]) (by kernel_rfl) (by simp) ?_
      refine AllReadyH.cons (o := ⟨_, _, _, _, _, _⟩) rfl (fun K' hK => ?_) AllReadyH.nil
      have hq := sameNode_any x x _ _ u1 (Nd.rd_ext HX1.out HVX2.out) (Nd.rd_ext HX1.out HVY2.out)
      go_simp
      go_at_call 17
      refine hq.mono ?_
      clear hq
      rintro e u2 ⟨r, rfl, ⟨tt, rfl, htt⟩, hE⟩
      obtain rfl := htt.2 rfl
      have HX2 := Lib.hid (HX1.out.trans hE)
      clear hE htt
      refine hK.out _ _ HX2.out (fun hHeld => ?_)
      clear hK K'
      try simp only [Act.put, List.setIfInBounds_toArray, List.set_cons_zero, List.set_cons_succ]
      refine wpAnyH_take (i := 10) (oi := ⟨_, _, _, _, _, _⟩) (v := ?_) rfl (by kernel_rfl) (by kernel_rfl) (by kernel_rfl) (fun _ _ _ h => h) (Or.inl ⟨by rfl, ?_⟩) hHeld ?_
      rotate_left
      · intro w hSw
        have hSx : Ext c0 w := hSw
        clear hSw
        go_simp
        all_goals (first | with_reducible rfl | rw [if_pos (by omega)])
      try simp only [Act.put, List.setIfInBounds_toArray, List.set_cons_zero, List.set_cons_succ]
      refine wpAnyH_take (i := 11) (oi := ⟨_, _, _, _, _, _⟩) (v := ?_) rfl (by kernel_rfl) (by kernel_rfl) (by kernel_rfl) (fun _ _ _ h => h) (Or.inl ⟨by rfl, ?_⟩) hHeld ?_
      rotate_left
      · intro w hSw
        have hSx : Ext c0 w := hSw
        clear hSw
        go_simp
        all_goals (first | with_reducible rfl | rw [if_pos (by omega)])
      try simp only [Act.put, List.setIfInBounds_toArray, List.set_cons_zero, List.set_cons_succ]
      refine wpAnyH_take (i := 12) (oi := ⟨_, _, _, _, _, _⟩) (v := ?_) rfl (by kernel_rfl) (by kernel_rfl) (by kernel_rfl) (fun _ _ _ h => h) (Or.inl ⟨by rfl, ?_⟩) hHeld ?_
      rotate_left
      · intro w hSw
        have hSx : Ext c0 w := hSw
        clear hSw
        go_simp
        all_goals (first | with_reducible rfl | rw [if_pos (by omega)])
      try simp only [Act.put, List.setIfInBounds_toArray, List.set_cons_zero, List.set_cons_succ]
      refine wpAnyH_take (i := 13) (oi := ⟨_, _, _, _, _, _⟩) (v := ?_) rfl (by kernel_rfl) (by kernel_rfl) (by kernel_rfl) (fun _ _ _ h => h) (Or.inl ⟨by rfl, ?_⟩) hHeld ?_
      rotate_left
      · intro w hSw
        have hSx : Ext c0 w := hSw
        clear hSw
        go_simp
        all_goals (first | with_reducible rfl | rw [if_pos (by omega)])
      try simp only [Act.put, List.setIfInBounds_toArray, List.set_cons_zero, List.set_cons_succ]
      refine wpAnyH_take (i := 14) (oi := ⟨_, _, _, _, _, _⟩) (v := ?_) rfl (by kernel_rfl) (by kernel_rfl) (by kernel_rfl) (fun _ _ _ h => h) (Or.inl ⟨by rfl, ?_⟩) hHeld ?_
      rotate_left
      · intro w hSw
        have hSx : Ext c0 w := hSw
        clear hSw
        go_simp
        all_goals (first | with_reducible rfl | rw [if_pos (by omega)])
      try simp only [Act.put, List.setIfInBounds_toArray, List.set_cons_zero, List.set_cons_succ]
      refine wpAnyH_take (i := 15) (oi := ⟨_, _, _, _, _, _⟩) (v := ?_) rfl (by kernel_rfl) (by kernel_rfl) (by kernel_rfl) (fun _ _ _ h => h) (Or.inl ⟨by rfl, ?_⟩) hHeld ?_
      rotate_left
      · intro w hSw
        have hSx : Ext c0 w := hSw
        clear hSw
        go_simp
        all_goals (first | with_reducible rfl | rw [if_pos (by omega)])
      try simp only [Act.put, List.setIfInBounds_toArray, List.set_cons_zero, List.set_cons_succ]
      refine wpAnyH_take (i := 16) (oi := ⟨_, _, _, _, _, _⟩) (v := ?_) rfl (by kernel_rfl) (by kernel_rfl) (by kernel_rfl) (fun _ _ _ h => h) (Or.inl ⟨by rfl, ?_⟩) hHeld ?_
      rotate_left
      · intro w hSw
        have hSx : Ext c0 w := hSw
        clear hSw
        go_simp
        all_goals (first | with_reducible rfl | rw [if_pos (by omega)])
      try simp only [Act.put, List.setIfInBounds_toArray, List.set_cons_zero, List.set_cons_succ]
      refine wpAnyH_take (i := 17) (oi := ⟨_, _, _, _, _, _⟩) (v := ?_) rfl (by kernel_rfl) (by kernel_rfl) (by kernel_rfl) (fun _ _ _ h => h) (Or.inl ⟨by rfl, ?_⟩) hHeld ?_
      rotate_left
      · intro w hSw
        have hSx : Ext c0 w := hSw
        clear hSw
        go_simp
        all_goals (first | with_reducible rfl | rw [if_pos (by omega)])
      try simp only [Act.put, List.setIfInBounds_toArray, List.set_cons_zero, List.set_cons_succ]
      refine wpAnyH_take (i := 18) (oi := ⟨_, _, _, _, _, _⟩) (v := ?_) rfl (by kernel_rfl) (by kernel_rfl) (by kernel_rfl) (fun _ _ _ h => h) (Or.inl ⟨by rfl, ?_⟩) hHeld ?_
      rotate_left
      · intro w hSw
        have hSx : Ext c0 w := hSw
        clear hSw
        go_simp
        all_goals (first | with_reducible rfl | rw [if_pos (by omega)])
      try simp only [Act.put, List.setIfInBounds_toArray, List.set_cons_zero, List.set_cons_succ]
      refine wpAnyH_take (i := 19) (oi := ⟨_, _, _, _, _, _⟩) (v := ?_) rfl (by kernel_rfl) (by kernel_rfl) (by kernel_rfl) (fun _ _ _ h => h) (Or.inl ⟨by rfl, ?_⟩) hHeld ?_
      rotate_left
      · intro w hSw
        have hSx : Ext c0 w := hSw
        clear hSw
        go_simp
        all_goals (first | with_reducible rfl | rw [if_pos (by omega)])
      try simp only [Act.put, List.setIfInBounds_toArray, List.set_cons_zero, List.set_cons_succ]
      refine wpAnyH_take (i := 20) (oi := ⟨_, _, _, _, _, _⟩) (v := ?_) rfl (by kernel_rfl) (by kernel_rfl) (by kernel_rfl) (fun _ _ _ h => h) (Or.inl ⟨by rfl, ?_⟩) hHeld ?_
      rotate_left
      · intro w hSw
        have hSx : Ext c0 w := hSw
        clear hSw
        go_simp
        all_goals (first | with_reducible rfl | rw [if_pos (by omega)])
      try simp only [Act.put, List.setIfInBounds_toArray, List.set_cons_zero, List.set_cons_succ]
      refine wpAnyH_take (i := 21) (oi := ⟨_, _, _, _, _, _⟩) (v := ?_) rfl (by kernel_rfl) (by kernel_rfl) (by kernel_rfl) (fun _ _ _ h => h) (Or.inl ⟨by rfl, ?_⟩) hHeld ?_
      rotate_left
      · intro w hSw
        have hSx : Ext c0 w := hSw
        clear hSw
        go_simp
        all_goals (first | with_reducible rfl | rw [if_pos (by omega)])
      try simp only [Act.put, List.setIfInBounds_toArray, List.set_cons_zero, List.set_cons_succ]
      refine wpAnyH_take (i := 22) (oi := ⟨_, _, _, _, _, _⟩) (v := ?_) rfl (by kernel_rfl) (by kernel_rfl) (by kernel_rfl) (fun _ _ _ h => h) (Or.inl ⟨by rfl, ?_⟩) hHeld ?_
      rotate_left
      · intro w hSw
        have hSx : Ext c0 w := hSw
        clear hSw
        go_simp
        all_goals (first | with_reducible rfl | rw [if_pos (by omega)])
      try simp only [Act.put, List.setIfInBounds_toArray, List.set_cons_zero, List.set_cons_succ]
      refine wpAnyH_take (i := 23) (oi := ⟨_, _, _, _, _, _⟩) (v := ?_) rfl (by kernel_rfl) (by kernel_rfl) (by kernel_rfl) (fun _ _ _ h => h) (Or.inl ⟨by rfl, ?_⟩) hHeld ?_
      rotate_left
      · intro w hSw
        have hSx : Ext c0 w := hSw
        clear hSw
        go_simp
        all_goals (first | with_reducible rfl | rw [if_pos (by omega)])
      try simp only [Act.put, List.setIfInBounds_toArray, List.set_cons_zero, List.set_cons_succ]
      refine wpAnyH_take (i := 24) (oi := ⟨_, _, _, _, _, _⟩) (v := ?_) rfl (by kernel_rfl) (by kernel_rfl) (by kernel_rfl) (fun _ _ _ h => h) (Or.inl ⟨by rfl, ?_⟩) hHeld ?_
      rotate_left
      · intro w hSw
        have hSx : Ext c0 w := hSw
        clear hSw
        go_simp
        all_goals (first | with_reducible rfl | rw [if_pos (by omega)])
      try simp only [Act.put, List.setIfInBounds_toArray, List.set_cons_zero, List.set_cons_succ]
      refine wpAnyH_take (i := 25) (oi := ⟨_, _, _, _, _, _⟩) (v := ?_) rfl (by kernel_rfl) (by kernel_rfl) (by kernel_rfl) (fun _ _ _ h => h) (Or.inl ⟨by rfl, ?_⟩) hHeld ?_
      rotate_left
      · intro w hSw
        have hSx : Ext c0 w := hSw
        clear hSw
        go_simp
        all_goals (first | with_reducible rfl | rw [if_pos (by omega)])
      try simp only [Act.put, List.setIfInBounds_toArray, List.set_cons_zero, List.set_cons_succ]
      refine wpAnyH_take (i := 26) (oi := ⟨_, _, _, _, _, _⟩) (v := ?_) rfl (by kernel_rfl) (by kernel_rfl) (by kernel_rfl) (fun _ _ _ h => h) (Or.inl ⟨by rfl, ?_⟩) hHeld ?_
      rotate_left
      · intro w hSw
        have hSx : Ext c0 w := hSw
        clear hSw
        have k26 := conv_rd (RdS.ext hSx HIN.out)
        rw [HSB.out] at k26
        go_simp
        all_goals (first | with_reducible rfl | rw [if_pos (by omega)])
      try simp only [Act.put, List.setIfInBounds_toArray, List.set_cons_zero, List.set_cons_succ]
      refine wpAnyH_take (i := 27) (oi := ⟨_, _, _, _, _, _⟩) (v := ?_) rfl (by kernel_rfl) (by kernel_rfl) (by kernel_rfl) (fun _ _ _ h => h) (Or.inl ⟨by rfl, ?_⟩) hHeld ?_
      rotate_left
      · intro w hSw
        have hSx : Ext c0 w := hSw
        clear hSw
        go_simp
        all_goals (first | with_reducible rfl | rw [if_pos (by omega)])
      try simp only [Act.put, List.setIfInBounds_toArray, List.set_cons_zero, List.set_cons_succ]
      refine wpAnyH_take (i := 28) (oi := ⟨_, _, _, _, _, _⟩) (v := ?_) rfl (by kernel_rfl) (by kernel_rfl) (by kernel_rfl) (fun _ _ _ h => h) (Or.inl ⟨by rfl, ?_⟩) hHeld ?_
      rotate_left
      · intro w hSw
        have hSx : Ext c0 w := hSw
        clear hSw
        have k28 := conv_rd (RdS.ext hSx HB6.out)
        rw [HSB.out] at k28
        go_simp
        all_goals (first | with_reducible rfl | rw [if_pos (by omega)])
      try simp only [Act.put, List.setIfInBounds_toArray, List.set_cons_zero, List.set_cons_succ]
      refine wpAnyH_take (i := 29) (oi := ⟨_, _, _, _, _, _⟩) (v := ?_) rfl (by kernel_rfl) (by kernel_rfl) (by kernel_rfl) (fun _ _ _ h => h) (Or.inl ⟨by rfl, ?_⟩) hHeld ?_
      rotate_left
      · intro w hSw
        have hSx : Ext c0 w := hSw
        clear hSw
        go_simp
        all_goals (first | with_reducible rfl | rw [if_pos (by omega)])
      try simp only [Act.put, List.setIfInBounds_toArray, List.set_cons_zero, List.set_cons_succ]
      refine wpAnyH_take (i := 30) (oi := ⟨_, _, _, _, _, _⟩) (v := ?_) rfl (by kernel_rfl) (by kernel_rfl) (by kernel_rfl) (fun _ _ _ h => h) (Or.inl ⟨by rfl, ?_⟩) hHeld ?_
      rotate_left
      · intro w hSw
        have hSx : Ext c0 w := hSw
        clear hSw
        go_simp
        all_goals (first | with_reducible rfl | rw [if_pos (by omega)])
      try simp only [Act.put, List.setIfInBounds_toArray, List.set_cons_zero, List.set_cons_succ]
      refine wpAnyH_take (i := 31) (oi := ⟨_, _, _, _, _, _⟩) (v := ?_) rfl (by kernel_rfl) (by kernel_rfl) (by kernel_rfl) (fun _ _ _ h => h) (Or.inl ⟨by rfl, ?_⟩) hHeld ?_
      rotate_left
      · intro w hSw
        have hSx : Ext c0 w := hSw
        clear hSw
        go_simp
        all_goals (first | with_reducible rfl | rw [if_pos (by omega)])
      try simp only [Act.put, List.setIfInBounds_toArray, List.set_cons_zero, List.set_cons_succ]
      refine wpAnyH_ready (rs := [32]) (by kernel_rfl) (by simp) ?_
      refine AllReadyH.cons (o := ⟨_, _, _, _, _, _⟩) rfl (fun K' hK => ?_) AllReadyH.nil
      have hq := works_any u2
      go_simp
      go_at_call 10
      refine hq.mono ?_
      clear hq
      rintro e u3 ⟨rfl, hE⟩
      have HX3 := Lib.hid (HX2.out.trans hE)
      clear hE
      refine hK.out _ _ HX3.out (fun hHeld => ?_)
      clear hK K'
      try simp only [Act.put, List.setIfInBounds_toArray, List.set_cons_zero, List.set_cons_succ]
      refine wpAnyH_take (i := 33) (oi := ⟨_, _, _, _, _, _⟩) (v := ?_) rfl (by kernel_rfl) (by kernel_rfl) (by kernel_rfl) (fun _ _ _ h => h) (Or.inl ⟨by rfl, ?_⟩) hHeld ?_
      rotate_left
      · intro w hSw
        have hSx : Ext c0 w := hSw
        clear hSw
        go_simp
        all_goals (first | with_reducible rfl | rw [if_pos (by omega)])
      try simp only [Act.put, List.setIfInBounds_toArray, List.set_cons_zero, List.set_cons_succ]
      refine wpAnyH_take (i := 34) (oi := ⟨_, _, _, _, _, _⟩) (v := ?_) rfl (by kernel_rfl) (by kernel_rfl) (by kernel_rfl) (fun _ _ _ h => h) (Or.inl ⟨by rfl, ?_⟩) hHeld ?_
      rotate_left
      · intro w hSw
        have hSx : Ext c0 w := hSw
        clear hSw
        go_simp
        all_goals (first | with_reducible rfl | rw [if_pos (by omega)])
      try simp only [Act.put, List.setIfInBounds_toArray, List.set_cons_zero, List.set_cons_succ]
      refine wpAnyH_done (by kernel_rfl) ?_ _
      clear hHeld
      go_wp2_with fail
      go_ret
      exact ⟨_, rfl, rfl, HXC.out.trans HX3.out⟩
  · have u1 : decide (0 ≤ mm) = true := decide_eq_true hpos
    have hc := nodeRef_any t _ w3 (Nd.rd_ext HE3.out HT.out) (by rw [HMM.out]; exact hpos)
    have t0 := HBT3.out.cell 0
    have t1 := HBT3.out.cell 1
    have t2 := HBT3.out.cell 2
    have t3 := HBT3.out.cell 3
    have t4 := HBT3.out.cell 4
    have t5 := HBT3.out.cell 5
    go_wp2_with fail
    refine hc.mono ?_
    clear hc t0 t1 t2 t3 t4 t5
    rintro e w4 hP
    obtain ⟨v2, rfl, hN2⟩ := PutR.rd hP
    obtain ⟨WB, hWB⟩ : ∃ B, nodeB t = B := ⟨_, rfl⟩
    rw [hWB] at hN2
    have HBW : Hid (bytesOf (treeE t) = WB) := Lib.hid (by rw [HTR.out, if_pos hpos, ← hWB]; rfl)
    have HWV := Lib.hid (RdS.of_owns hN2.own)
    have HE4 := Lib.hid (HE3.out.trans hN2.ext)
    have HBT4 := Lib.hid (HBT3.out.ext hN2.ext)
    obtain ⟨vA, vC, rfl, -⟩ := RdS.of_owns hN2.own
    clear hWB hN2 hP HE3 HBT3 HTR HMM
    have kc := conv_rd (RdS.ext HE4.out HB.out)
    obtain ⟨cap, w5, kb, hE5, hin⟩ := conv_bytes b w4 (by unfold maxLen; omega)
    obtain ⟨S1, hS1⟩ : ∃ S, w4.heap.size = S := ⟨_, rfl⟩
    rw [hS1] at kb hin
    have HIN := Lib.hid hin
    have HE5 := Lib.hid (HE4.out.trans hE5)
    have HWV5 := Lib.hid (RdS.ext hE5 HWV.out)
    have HBT5 := Lib.hid (HBT4.out.ext hE5)
    have HS1 := Lib.hid hS1
    have hc := HGOT.out _ w5 hin
    clear hE5 hin hS1 HE4 HWV HBT4 HGOT
    go_wp2_with (rw [HS1.out]; clear HS1)
    refine hc.mono ?_
    clear hc kc kb
    rintro e w6 ⟨hX6, v, rfl, hv⟩
    obtain ⟨xA, xc, xK, xd, rfl⟩ := hv.open
    obtain ⟨w7, hw7⟩ : ∃ W, w6.alloc (.cells #[.int .u64 0, .bool false, .string ⟨#[]⟩, .slice none 0 0, .string ⟨#[]⟩, .slice none 0 0] 32) = W := ⟨_, rfl⟩
    obtain ⟨Z, hZ⟩ : ∃ Z, w6.heap.size = Z := ⟨_, rfl⟩
    have E7 : Ext w6 w7 := by rw [← hw7]; exact (Ext.refl w6).alloc _
    have bZ : NBox w7 Z 32 #[.int .u64 0, .bool false, .string ⟨#[]⟩, .slice none 0 0, .string ⟨#[]⟩, .slice none 0 0] := by rw [← hw7, ← hZ]; exact NBox.new _ _ _
    obtain ⟨w8, hw8⟩ : ∃ W, ((((((w7.setCell ⟨Z, 0, none⟩ (.int .u64 x.id)).setCell ⟨Z, 1, none⟩ (.bool x.leaf)).setCell ⟨Z, 2, none⟩ (.string x.label)).setCell ⟨Z, 3, none⟩ (.slice xA x.attrs.length xc)).setCell ⟨Z, 4, none⟩ (.string x.text)).setCell ⟨Z, 5, none⟩ (.slice xK x.kids.length xd)) = W := ⟨_, rfl⟩
    have F8 : Fr w7 w8 (isB Z) := by rw [← hw8]; exact Fr.six _ _ _ _ _ _ _ _
    have hZ5 : w5.heap.size ≤ Z := by rw [← hZ]; exact hX6.size
    have X8 : Ext w5 w8 := Fr.ext (hX6.trans E7) F8 (fun q hq => by rw [show q = Z from hq]; exact hZ5)
    have HZ := Lib.hid (show NBox w8 Z 32 #[.int .u64 x.id, .bool x.leaf, .string x.label, .slice xA x.attrs.length xc, .string x.text, .slice xK x.kids.length xd] from by rw [← hw8]; exact bZ.six _ _ _ _ _ _)
    have HV8 := Lib.hid (show x.rd w8 (.agg #[.int .u64 x.id, .bool x.leaf, .string x.label, .slice xA x.attrs.length xc, .string x.text, .slice xK x.kids.length xd]) from hv w8 (((Fr.of_ext E7 _).trans F8).new' (fun q hq => by rw [show q = Z from hq, hZ]; exact Nat.le_refl _)))
    have HE8 := Lib.hid (HE5.out.trans X8)
    have HIN8 := Lib.hid (RdS.ext X8 HIN.out)
    have HWV8 := Lib.hid (RdS.ext X8 HWV5.out)
    have HBT8 := Lib.hid (HBT5.out.ext X8)
    have hcR := HGOTR.out _ w8 (RdS.ext HE8.out HB.out)
    have y0 := bZ.cell 0
    have z0 := bZ.frozen 0
    have y1 := bZ.cell 1
    have z1 := bZ.frozen 1
    have y2 := bZ.cell 2
    have z2 := bZ.frozen 2
    have y3 := bZ.cell 3
    have z3 := bZ.frozen 3
    have y4 := bZ.cell 4
    have z4 := bZ.frozen 4
    have y5 := bZ.cell 5
    have z5 := bZ.frozen 5
    have HW7 := Lib.hid hw7
    have HZZ := Lib.hid hZ
    have HW8 := Lib.hid hw8
    clear hw7 hZ hw8 E7 bZ F8 X8 hX6 hv HIN HWV5 HBT5 HE5 HGOTR hZ5
    go_upto_region 8 with (rw [HW7.out, HZZ.out]; clear HW7 HZZ)
    rw [HW8.out]
    clear HW8 y0 y1 y2 y3 y4 y5 z0 z1 z2 z3 z4 z5
    go_wp2_with fail
    refine hcR.mono ?_
    clear hcR
    rintro e w9 ⟨hX9, v, rfl, hv⟩
    obtain ⟨yA, yc, yK, yd, rfl⟩ := hv.open
    obtain ⟨wa, hwa⟩ : ∃ W, w9.alloc (.cells #[.int .u64 0, .bool false, .string ⟨#[]⟩, .slice none 0 0, .string ⟨#[]⟩, .slice none 0 0] 32) = W := ⟨_, rfl⟩
    obtain ⟨Y, hY⟩ : ∃ Z, w9.heap.size = Z := ⟨_, rfl⟩
    have E7 : Ext w9 wa := by rw [← hwa]; exact (Ext.refl w9).alloc _
    have bZ : NBox wa Y 32 #[.int .u64 0, .bool false, .string ⟨#[]⟩, .slice none 0 0, .string ⟨#[]⟩, .slice none 0 0] := by rw [← hwa, ← hY]; exact NBox.new _ _ _
    obtain ⟨wb, hwb⟩ : ∃ W, ((((((wa.setCell ⟨Y, 0, none⟩ (.int .u64 x.id)).setCell ⟨Y, 1, none⟩ (.bool x.leaf)).setCell ⟨Y, 2, none⟩ (.string x.label)).setCell ⟨Y, 3, none⟩ (.slice yA x.attrs.length yc)).setCell ⟨Y, 4, none⟩ (.string x.text)).setCell ⟨Y, 5, none⟩ (.slice yK x.kids.length yd)) = W := ⟨_, rfl⟩
    have F8 : Fr wa wb (isB Y) := by rw [← hwb]; exact Fr.six _ _ _ _ _ _ _ _
    have hZ5 : w8.heap.size ≤ Y := by rw [← hY]; exact hX9.size
    have X8 : Ext w8 wb := Fr.ext (hX9.trans E7) F8 (fun q hq => by rw [show q = Y from hq]; exact hZ5)
    have HY := Lib.hid (show NBox wb Y 32 #[.int .u64 x.id, .bool x.leaf, .string x.label, .slice yA x.attrs.length yc, .string x.text, .slice yK x.kids.length yd] from by rw [← hwb]; exact bZ.six _ _ _ _ _ _)
    have HVY := Lib.hid (show x.rd wb (.agg #[.int .u64 x.id, .bool x.leaf, .string x.label, .slice yA x.attrs.length yc, .string x.text, .slice yK x.kids.length yd]) from hv wb (((Fr.of_ext E7 _).trans F8).new' (fun q hq => by rw [show q = Y from hq, hY]; exact Nat.le_refl _)))
    have HVX := Lib.hid (Nd.rd_ext X8 HV8.out)
    have HEb := Lib.hid (HE8.out.trans X8)
    have HINb := Lib.hid (RdS.ext X8 HIN8.out)
    have HWVb := Lib.hid (RdS.ext X8 HWV8.out)
    have HBTb := Lib.hid (HBT8.out.ext X8)
    have HZb := Lib.hid (HZ.out.ext X8)
    have y0 := bZ.cell 0
    have z0 := bZ.frozen 0
    have y1 := bZ.cell 1
    have z1 := bZ.frozen 1
    have y2 := bZ.cell 2
    have z2 := bZ.frozen 2
    have y3 := bZ.cell 3
    have z3 := bZ.frozen 3
    have y4 := bZ.cell 4
    have z4 := bZ.frozen 4
    have y5 := bZ.cell 5
    have z5 := bZ.frozen 5
    have HW7 := Lib.hid hwa
    have HZZ := Lib.hid hY
    have HW8 := Lib.hid hwb
    clear hwa hY hwb E7 bZ F8 X8 hX9 hv HIN8 HWV8 HBT8 HE8 HZ HV8 hZ5
    go_upto_region 9 with (rw [HW7.out, HZZ.out]; clear HW7 HZZ)
    rw [HW8.out]
    clear HW8 y0 y1 y2 y3 y4 y5 z0 z1 z2 z3 z4 z5
    obtain ⟨c0, hc0⟩ : ∃ c0, wb.drew = c0 := ⟨_, rfl⟩
    have XC : Ext wb c0 := by rw [← hc0]; exact (Ext.refl _).drew
    have HXC := Lib.hid (HEb.out.trans XC)
    have t0 := (HBTb.out.ext XC).cell 0
    have z0 := (HZb.out.ext XC).cell 0
    have y0 := (HY.out.ext XC).cell 0
    have t1 := (HBTb.out.ext XC).cell 1
    have z1 := (HZb.out.ext XC).cell 1
    have y1 := (HY.out.ext XC).cell 1
    have t2 := (HBTb.out.ext XC).cell 2
    have z2 := (HZb.out.ext XC).cell 2
    have y2 := (HY.out.ext XC).cell 2
    have t3 := (HBTb.out.ext XC).cell 3
    have z3 := (HZb.out.ext XC).cell 3
    have y3 := (HY.out.ext XC).cell 3
    have t4 := (HBTb.out.ext XC).cell 4
    have z4 := (HZb.out.ext XC).cell 4
    have y4 := (HY.out.ext XC).cell 4
    have t5 := (HBTb.out.ext XC).cell 5
    have z5 := (HZb.out.ext XC).cell 5
    have y5 := (HY.out.ext XC).cell 5
    have HWB := Lib.hid (RdS.ext XC HWVb.out)
    have HIN := Lib.hid (RdS.ext XC HINb.out)
    have HB6 := Lib.hid (RdS.ext HXC.out HB.out)
    have HTC := Lib.hid (Nd.rd_ext HXC.out HT.out)
    have HVX2 := Lib.hid (Nd.rd_ext XC HVX.out)
    have HVY2 := Lib.hid (Nd.rd_ext XC HVY.out)
    obtain ⟨sw, hsw⟩ : ∃ s, Sb WB = s := ⟨_, rfl⟩
    obtain ⟨sb, hsb⟩ : ∃ s, Sb b = s := ⟨_, rfl⟩
    have HSW := Lib.hid hsw
    have HSB := Lib.hid hsb
    have e1 := str_same sw
    have e2 := str_same sb
    clear hsw hsb XC HBTb HZb HY HWVb HINb HVX HVY HT HB
    refine wp_region_held_drew (S := fun W => Ext c0 W) (by kernel_rfl) (by rw [hc0]; exact Ext.refl _) (fun hHeld => ?_)
    rw [hc0] at hHeld ⊢
    clear hc0
    rcases HCODE.out with ⟨hco, hok⟩ | ⟨hco, hok⟩
    · subst hco hok
      refine wpAnyH_take (i := 0) (oi := ⟨_, _, _, _, _, _⟩) (v := ?_) rfl (by kernel_rfl) (by kernel_rfl) (by kernel_rfl) (fun _ _ _ h => h) (Or.inl ⟨by rfl, ?_⟩) hHeld ?_
      rotate_left
      · intro w hSw
        have hSx : Ext c0 w := hSw
        clear hSw
        have t0 := hSx.cell t0
        have t1 := hSx.cell t1
        have t2 := hSx.cell t2
        have t3 := hSx.cell t3
        have t4 := hSx.cell t4
        have t5 := hSx.cell t5
        go_simp
        all_goals (first | with_reducible rfl | rw [if_pos (by omega)])
      try simp only [Act.put, List.setIfInBounds_toArray, List.set_cons_zero, List.set_cons_succ]
      refine wpAnyH_take (i := 3) (oi := ⟨_, _, _, _, _, _⟩) (v := ?_) rfl (by kernel_rfl) (by kernel_rfl) (by kernel_rfl) (fun _ _ _ h => h) (Or.inl ⟨by rfl, ?_⟩) hHeld ?_
      rotate_left
      · intro w hSw
        have hSx : Ext c0 w := hSw
        clear hSw
        go_simp
        all_goals (first | with_reducible rfl | rw [if_pos (by omega)])
      try simp only [Act.put, List.setIfInBounds_toArray, List.set_cons_zero, List.set_cons_succ]
      refine wpAnyH_take (i := 4) (oi := ⟨_, _, _, _, _, _⟩) (v := ?_) rfl (by kernel_rfl) (by kernel_rfl) (by kernel_rfl) (fun _ _ _ h => h) (Or.inl ⟨by rfl, ?_⟩) hHeld ?_
      rotate_left
      · intro w hSw
        have hSx : Ext c0 w := hSw
        clear hSw
        have k4 := conv_rd (RdS.ext hSx HWB.out)
        rw [HSW.out] at k4
        go_simp
        all_goals (first | with_reducible rfl | rw [if_pos (by omega)])
      try simp only [Act.put, List.setIfInBounds_toArray, List.set_cons_zero, List.set_cons_succ]
      refine wpAnyH_ready (rs := [1]) (by kernel_rfl) (by simp) ?_
      refine AllReadyH.cons (o := ⟨_, _, _, _, _, _⟩) rfl (fun K' hK => ?_) AllReadyH.nil
      have hq := putNode_any t _ c0 HTC.out
      go_simp
      go_at_call 16
      refine hq.mono ?_
      clear hq
      rintro e u1 ⟨hX, v1, rfl, hO⟩
      rw [HBW.out] at hO
      have k2 := conv_rd (RdS.of_owns hO)
      rw [HSW.out] at k2
      have HX1 := Lib.hid hX
      obtain ⟨pA, pC, rfl, -⟩ := RdS.of_owns hO
      clear hX hO
      refine hK.out _ _ HX1.out (fun hHeld => ?_)
      clear hK K'
      try simp only [Act.put, List.setIfInBounds_toArray, List.set_cons_zero, List.set_cons_succ]
      refine wpAnyH_ready (rs := [2]) (by kernel_rfl) (by simp) ?_
      refine AllReadyH.cons (o := ⟨_, _, _, _, _, _⟩) rfl (fun K' hK => ?_) AllReadyH.nil
      go_simp
      refine hK.out _ _ HX1.out (fun hHeld => ?_)
      clear hK K' k2
      try simp only [Act.put, List.setIfInBounds_toArray, List.set_cons_zero, List.set_cons_succ]
      refine wpAnyH_take (i := 5) (oi := ⟨_, _, _, _, _, _⟩) (v := ?_) rfl (by kernel_rfl) (by kernel_rfl) (by kernel_rfl) (fun _ _ _ h => h) (Or.inl ⟨by rfl, ?_⟩) hHeld ?_
      rotate_left
      · intro w hSw
        have hSx : Ext c0 w := hSw
        clear hSw
        go_simp
        all_goals (first | with_reducible rfl | rw [if_pos (by omega)])
      try simp only [Act.put, List.setIfInBounds_toArray, List.set_cons_zero, List.set_cons_succ]
      refine wpAnyH_take (i := 6) (oi := ⟨_, _, _, _, _, _⟩) (v := ?_) rfl (by kernel_rfl) (by kernel_rfl) (by kernel_rfl) (fun _ _ _ h => h) (Or.inl ⟨by rfl, ?_⟩) hHeld ?_
      rotate_left
      · intro w hSw
        have hSx : Ext c0 w := hSw
        clear hSw
        go_simp
        all_goals (first | with_reducible rfl | rw [if_pos (by omega)])
      try simp only [Act.put, List.setIfInBounds_toArray, List.set_cons_zero, List.set_cons_succ]
      refine wpAnyH_take (i := 7) (oi := ⟨_, _, _, _, _, _⟩) (v := ?_) rfl (by kernel_rfl) (by kernel_rfl) (by kernel_rfl) (fun _ _ _ h => h) (Or.inl ⟨by rfl, ?_⟩) hHeld ?_
      rotate_left
      · intro w hSw
        have hSx : Ext c0 w := hSw
        clear hSw
        have z0 := hSx.cell z0
        have z1 := hSx.cell z1
        have z2 := hSx.cell z2
        have z3 := hSx.cell z3
        have z4 := hSx.cell z4
        have z5 := hSx.cell z5
        go_simp
        all_goals (first | with_reducible rfl | rw [if_pos (by omega)])
      try simp only [Act.put, List.setIfInBounds_toArray, List.set_cons_zero, List.set_cons_succ]
      refine wpAnyH_take (i := 8) (oi := ⟨_, _, _, _, _, _⟩) (v := ?_) rfl (by kernel_rfl) (by kernel_rfl) (by kernel_rfl) (fun _ _ _ h => h) (Or.inl ⟨by rfl, ?_⟩) hHeld ?_
      rotate_left
      · intro w hSw
        have hSx : Ext c0 w := hSw
        clear hSw
        have y0 := hSx.cell y0
        have y1 := hSx.cell y1
        have y2 := hSx.cell y2
        have y3 := hSx.cell y3
        have y4 := hSx.cell y4
        have y5 := hSx.cell y5
        go_simp
        all_goals (first | with_reducible rfl | rw [if_pos (by omega)])
      try simp only [Act.put, List.setIfInBounds_toArray, List.set_cons_zero, List.set_cons_succ]
      refine wpAnyH_ready (rs := [9]) (by kernel_rfl) (by simp) ?_
      refine AllReadyH.cons (o := ⟨_, _, _, _, _, _⟩) rfl (fun K' hK => ?_) AllReadyH.nil
      have hq := sameNode_any x x _ _ u1 (Nd.rd_ext HX1.out HVX2.out) (Nd.rd_ext HX1.out HVY2.out)
      go_simp
      go_at_call 17
      refine hq.mono ?_
      clear hq
      rintro e u2 ⟨r, rfl, ⟨tt, rfl, htt⟩, hE⟩
      obtain rfl := htt.2 rfl
      have HX2 := Lib.hid (HX1.out.trans hE)
      clear hE htt
      refine hK.out _ _ HX2.out (fun hHeld => ?_)
      clear hK K'
      try simp only [Act.put, List.setIfInBounds_toArray, List.set_cons_zero, List.set_cons_succ]
      refine wpAnyH_take (i := 10) (oi := ⟨_, _, _, _, _, _⟩) (v := ?_) rfl (by kernel_rfl) (by kernel_rfl) (by kernel_rfl) (fun _ _ _ h => h) (Or.inl ⟨by rfl, ?_⟩) hHeld ?_
      rotate_left
      · intro w hSw
        have hSx : Ext c0 w := hSw
        clear hSw
        go_simp
        all_goals (first | with_reducible rfl | rw [if_pos (by omega)])
      try simp only [Act.put, List.setIfInBounds_toArray, List.set_cons_zero, List.set_cons_succ]
      refine wpAnyH_take (i := 11) (oi := ⟨_, _, _, _, _, _⟩) (v := ?_) rfl (by kernel_rfl) (by kernel_rfl) (by kernel_rfl) (fun _ _ _ h => h) (Or.inl ⟨by rfl, ?_⟩) hHeld ?_
      rotate_left
      · intro w hSw
        have hSx : Ext c0 w := hSw
        clear hSw
        go_simp
        all_goals (first | with_reducible rfl | rw [if_pos (by omega)])
      try simp only [Act.put, List.setIfInBounds_toArray, List.set_cons_zero, List.set_cons_succ]
      refine wpAnyH_take (i := 12) (oi := ⟨_, _, _, _, _, _⟩) (v := ?_) rfl (by kernel_rfl) (by kernel_rfl) (by kernel_rfl) (fun _ _ _ h => h) (Or.inl ⟨by rfl, ?_⟩) hHeld ?_
      rotate_left
      · intro w hSw
        have hSx : Ext c0 w := hSw
        clear hSw
        go_simp
        all_goals (first | with_reducible rfl | rw [if_pos (by omega)])
      try simp only [Act.put, List.setIfInBounds_toArray, List.set_cons_zero, List.set_cons_succ]
      refine wpAnyH_take (i := 13) (oi := ⟨_, _, _, _, _, _⟩) (v := ?_) rfl (by kernel_rfl) (by kernel_rfl) (by kernel_rfl) (fun _ _ _ h => h) (Or.inl ⟨by rfl, ?_⟩) hHeld ?_
      rotate_left
      · intro w hSw
        have hSx : Ext c0 w := hSw
        clear hSw
        go_simp
        all_goals (first | with_reducible rfl | rw [if_pos (by omega)])
      try simp only [Act.put, List.setIfInBounds_toArray, List.set_cons_zero, List.set_cons_succ]
      refine wpAnyH_take (i := 14) (oi := ⟨_, _, _, _, _, _⟩) (v := ?_) rfl (by kernel_rfl) (by kernel_rfl) (by kernel_rfl) (fun _ _ _ h => h) (Or.inl ⟨by rfl, ?_⟩) hHeld ?_
      rotate_left
      · intro w hSw
        have hSx : Ext c0 w := hSw
        clear hSw
        go_simp
        all_goals (first | with_reducible rfl | rw [if_pos (by omega)])
      try simp only [Act.put, List.setIfInBounds_toArray, List.set_cons_zero, List.set_cons_succ]
      refine wpAnyH_take (i := 15) (oi := ⟨_, _, _, _, _, _⟩) (v := ?_) rfl (by kernel_rfl) (by kernel_rfl) (by kernel_rfl) (fun _ _ _ h => h) (Or.inl ⟨by rfl, ?_⟩) hHeld ?_
      rotate_left
      · intro w hSw
        have hSx : Ext c0 w := hSw
        clear hSw
        go_simp
        all_goals (first | with_reducible rfl | rw [if_pos (by omega)])
      try simp only [Act.put, List.setIfInBounds_toArray, List.set_cons_zero, List.set_cons_succ]
      refine wpAnyH_take (i := 16) (oi := ⟨_, _, _, _, _, _⟩) (v := ?_) rfl (by kernel_rfl) (by kernel_rfl) (by kernel_rfl) (fun _ _ _ h => h) (Or.inl ⟨by rfl, ?_⟩) hHeld ?_
      rotate_left
      · intro w hSw
        have hSx : Ext c0 w := hSw
        clear hSw
        go_simp
        all_goals (first | with_reducible rfl | rw [if_pos (by omega)])
      try simp only [Act.put, List.setIfInBounds_toArray, List.set_cons_zero, List.set_cons_succ]
      refine wpAnyH_take (i := 17) (oi := ⟨_, _, _, _, _, _⟩) (v := ?_) rfl (by kernel_rfl) (by kernel_rfl) (by kernel_rfl) (fun _ _ _ h => h) (Or.inl ⟨by rfl, ?_⟩) hHeld ?_
      rotate_left
      · intro w hSw
        have hSx : Ext c0 w := hSw
        clear hSw
        go_simp
        all_goals (first | with_reducible rfl | rw [if_pos (by omega)])
      try simp only [Act.put, List.setIfInBounds_toArray, List.set_cons_zero, List.set_cons_succ]
      refine wpAnyH_take (i := 18) (oi := ⟨_, _, _, _, _, _⟩) (v := ?_) rfl (by kernel_rfl) (by kernel_rfl) (by kernel_rfl) (fun _ _ _ h => h) (Or.inl ⟨by rfl, ?_⟩) hHeld ?_
      rotate_left
      · intro w hSw
        have hSx : Ext c0 w := hSw
        clear hSw
        go_simp
        all_goals (first | with_reducible rfl | rw [if_pos (by omega)])
      try simp only [Act.put, List.setIfInBounds_toArray, List.set_cons_zero, List.set_cons_succ]
      refine wpAnyH_take (i := 19) (oi := ⟨_, _, _, _, _, _⟩) (v := ?_) rfl (by kernel_rfl) (by kernel_rfl) (by kernel_rfl) (fun _ _ _ h => h) (Or.inl ⟨by rfl, ?_⟩) hHeld ?_
      rotate_left
      · intro w hSw
        have hSx : Ext c0 w := hSw
        clear hSw
        go_simp
        all_goals (first | with_reducible rfl | rw [if_pos (by omega)])
      try simp only [Act.put, List.setIfInBounds_toArray, List.set_cons_zero, List.set_cons_succ]
      refine wpAnyH_take (i := 20) (oi := ⟨_, _, _, _, _, _⟩) (v := undef) rfl (by kernel_rfl) (by kernel_rfl) (by kernel_rfl) (fun _ _ _ h => h) (Or.inr ⟨by rfl, by rfl⟩) hHeld ?_
      try simp only [Act.put, List.setIfInBounds_toArray, List.set_cons_zero, List.set_cons_succ]
      refine wpAnyH_take (i := 21) (oi := ⟨_, _, _, _, _, _⟩) (v := undef) rfl (by kernel_rfl) (by kernel_rfl) (by kernel_rfl) (fun _ _ _ h => h) (Or.inr ⟨by rfl, by rfl⟩) hHeld ?_
      try simp only [Act.put, List.setIfInBounds_toArray, List.set_cons_zero, List.set_cons_succ]
      refine wpAnyH_take (i := 22) (oi := ⟨_, _, _, _, _, _⟩) (v := ?_) rfl (by kernel_rfl) (by kernel_rfl) (by kernel_rfl) (fun _ _ _ h => h) (Or.inl ⟨by rfl, ?_⟩) hHeld ?_
      rotate_left
      · intro w hSw
        have hSx : Ext c0 w := hSw
        clear hSw
        go_simp
        all_goals (first | with_reducible rfl | rw [if_pos (by omega)])
      try simp only [Act.put, List.setIfInBounds_toArray, List.set_cons_zero, List.set_cons_succ]
      refine wpAnyH_take (i := 23) (oi := ⟨_, _, _, _, _, _⟩) (v := ?_) rfl (by kernel_rfl) (by kernel_rfl) (by kernel_rfl) (fun _ _ _ h => h) (Or.inl ⟨by rfl, ?_⟩) hHeld ?_
      rotate_left
      · intro w hSw
        have hSx : Ext c0 w := hSw
        clear hSw
        go_simp
        all_goals (first | with_reducible rfl | rw [if_pos (by omega)])
      try simp only [Act.put, List.setIfInBounds_toArray, List.set_cons_zero, List.set_cons_succ]
      refine wpAnyH_take (i := 24) (oi := ⟨_, _, _, _, _, _⟩) (v := ?_) rfl (by kernel_rfl) (by kernel_rfl) (by kernel_rfl) (fun _ _ _ h => h) (Or.inl ⟨by rfl, ?_⟩) hHeld ?_
      rotate_left
      · intro w hSw
        have hSx : Ext c0 w := hSw
        clear hSw
        go_simp
        all_goals (first | with_reducible rfl | rw [if_pos (by omega)])
      try simp only [Act.put, List.setIfInBounds_toArray, List.set_cons_zero, List.set_cons_succ]
      refine wpAnyH_take (i := 25) (oi := ⟨_, _, _, _, _, _⟩) (v := ?_) rfl (by kernel_rfl) (by kernel_rfl) (by kernel_rfl) (fun _ _ _ h => h) (Or.inl ⟨by rfl, ?_⟩) hHeld ?_
      rotate_left
      · intro w hSw
        have hSx : Ext c0 w := hSw
        clear hSw
        go_simp
        all_goals (first | with_reducible rfl | rw [if_pos (by omega)])
      try simp only [Act.put, List.setIfInBounds_toArray, List.set_cons_zero, List.set_cons_succ]
      refine wpAnyH_take (i := 26) (oi := ⟨_, _, _, _, _, _⟩) (v := ?_) rfl (by kernel_rfl) (by kernel_rfl) (by kernel_rfl) (fun _ _ _ h => h) (Or.inl ⟨by rfl, ?_⟩) hHeld ?_
      rotate_left
      · intro w hSw
        have hSx : Ext c0 w := hSw
        clear hSw
        have k26 := conv_rd (RdS.ext hSx HIN.out)
        rw [HSB.out] at k26
        go_simp
        all_goals (first | with_reducible rfl | rw [if_pos (by omega)])
      try simp only [Act.put, List.setIfInBounds_toArray, List.set_cons_zero, List.set_cons_succ]
      refine wpAnyH_take (i := 27) (oi := ⟨_, _, _, _, _, _⟩) (v := ?_) rfl (by kernel_rfl) (by kernel_rfl) (by kernel_rfl) (fun _ _ _ h => h) (Or.inl ⟨by rfl, ?_⟩) hHeld ?_
      rotate_left
      · intro w hSw
        have hSx : Ext c0 w := hSw
        clear hSw
        go_simp
        all_goals (first | with_reducible rfl | rw [if_pos (by omega)])
      try simp only [Act.put, List.setIfInBounds_toArray, List.set_cons_zero, List.set_cons_succ]
      refine wpAnyH_take (i := 28) (oi := ⟨_, _, _, _, _, _⟩) (v := ?_) rfl (by kernel_rfl) (by kernel_rfl) (by kernel_rfl) (fun _ _ _ h => h) (Or.inl ⟨by rfl, ?_⟩) hHeld ?_
      rotate_left
      · intro w hSw
        have hSx : Ext c0 w := hSw
        clear hSw
        have k28 := conv_rd (RdS.ext hSx HB6.out)
        rw [HSB.out] at k28
        go_simp
        all_goals (first | with_reducible rfl | rw [if_pos (by omega)])
      try simp only [Act.put, List.setIfInBounds_toArray, List.set_cons_zero, List.set_cons_succ]
      refine wpAnyH_take (i := 29) (oi := ⟨_, _, _, _, _, _⟩) (v := ?_) rfl (by kernel_rfl) (by kernel_rfl) (by kernel_rfl) (fun _ _ _ h => h) (Or.inl ⟨by rfl, ?_⟩) hHeld ?_
      rotate_left
      · intro w hSw
        have hSx : Ext c0 w := hSw
        clear hSw
        go_simp
        all_goals (first | with_reducible rfl | rw [if_pos (by omega)])
      try simp only [Act.put, List.setIfInBounds_toArray, List.set_cons_zero, List.set_cons_succ]
      refine wpAnyH_take (i := 30) (oi := ⟨_, _, _, _, _, _⟩) (v := ?_) rfl (by kernel_rfl) (by kernel_rfl) (by kernel_rfl) (fun _ _ _ h => h) (Or.inl ⟨by rfl, ?_⟩) hHeld ?_
      rotate_left
      · intro w hSw
        have hSx : Ext c0 w := hSw
        clear hSw
        go_simp
        all_goals (first | with_reducible rfl | rw [if_pos (by omega)])
      try simp only [Act.put, List.setIfInBounds_toArray, List.set_cons_zero, List.set_cons_succ]
      refine wpAnyH_take (i := 31) (oi := ⟨_, _, _, _, _, _⟩) (v := ?_) rfl (by kernel_rfl) (by kernel_rfl) (by kernel_rfl) (fun _ _ _ h => h) (Or.inl ⟨by rfl, ?_⟩) hHeld ?_
      rotate_left
      · intro w hSw
        have hSx : Ext c0 w := hSw
        clear hSw
        go_simp
        all_goals (first | with_reducible rfl | rw [if_pos (by omega)])
      try simp only [Act.put, List.setIfInBounds_toArray, List.set_cons_zero, List.set_cons_succ]
      refine wpAnyH_ready (rs := [32]) (by kernel_rfl) (by simp) ?_
      refine AllReadyH.cons (o := ⟨_, _, _, _, _, _⟩) rfl (fun K' hK => ?_) AllReadyH.nil
      have hq := works_any u2
      go_simp
      go_at_call 10
      refine hq.mono ?_
      clear hq
      rintro e u3 ⟨rfl, hE⟩
      have HX3 := Lib.hid (HX2.out.trans hE)
      clear hE
      refine hK.out _ _ HX3.out (fun hHeld => ?_)
      clear hK K'
      try simp only [Act.put, List.setIfInBounds_toArray, List.set_cons_zero, List.set_cons_succ]
      refine wpAnyH_take (i := 33) (oi := ⟨_, _, _, _, _, _⟩) (v := ?_) rfl (by kernel_rfl) (by kernel_rfl) (by kernel_rfl) (fun _ _ _ h => h) (Or.inl ⟨by rfl, ?_⟩) hHeld ?_
      rotate_left
      · intro w hSw
        have hSx : Ext c0 w := hSw
        clear hSw
        go_simp
        all_goals (first | with_reducible rfl | rw [if_pos (by omega)])
      try simp only [Act.put, List.setIfInBounds_toArray, List.set_cons_zero, List.set_cons_succ]
      refine wpAnyH_take (i := 34) (oi := ⟨_, _, _, _, _, _⟩) (v := ?_) rfl (by kernel_rfl) (by kernel_rfl) (by kernel_rfl) (fun _ _ _ h => h) (Or.inl ⟨by rfl, ?_⟩) hHeld ?_
      rotate_left
      · intro w hSw
        have hSx : Ext c0 w := hSw
        clear hSw
        go_simp
        all_goals (first | with_reducible rfl | rw [if_pos (by omega)])
      try simp only [Act.put, List.setIfInBounds_toArray, List.set_cons_zero, List.set_cons_succ]
      refine wpAnyH_done (by kernel_rfl) ?_ _
      clear hHeld
      go_wp2_with fail
      go_ret
      exact ⟨_, rfl, rfl, HXC.out.trans HX3.out⟩
    · subst hco hok
      refine wpAnyH_take (i := 0) (oi := ⟨_, _, _, _, _, _⟩) (v := ?_) rfl (by kernel_rfl) (by kernel_rfl) (by kernel_rfl) (fun _ _ _ h => h) (Or.inl ⟨by rfl, ?_⟩) hHeld ?_
      rotate_left
      · intro w hSw
        have hSx : Ext c0 w := hSw
        clear hSw
        have t0 := hSx.cell t0
        have t1 := hSx.cell t1
        have t2 := hSx.cell t2
        have t3 := hSx.cell t3
        have t4 := hSx.cell t4
        have t5 := hSx.cell t5
        go_simp
        all_goals (first | with_reducible rfl | rw [if_pos (by omega)])
      try simp only [Act.put, List.setIfInBounds_toArray, List.set_cons_zero, List.set_cons_succ]
      refine wpAnyH_take (i := 3) (oi := ⟨_, _, _, _, _, _⟩) (v := ?_) rfl (by kernel_rfl) (by kernel_rfl) (by kernel_rfl) (fun _ _ _ h => h) (Or.inl ⟨by rfl, ?_⟩) hHeld ?_
      rotate_left
      · intro w hSw
        have hSx : Ext c0 w := hSw
        clear hSw
        go_simp
        all_goals (first | with_reducible rfl | rw [if_pos (by omega)])
      try simp only [Act.put, List.setIfInBounds_toArray, List.set_cons_zero, List.set_cons_succ]
      refine wpAnyH_take (i := 4) (oi := ⟨_, _, _, _, _, _⟩) (v := ?_) rfl (by kernel_rfl) (by kernel_rfl) (by kernel_rfl) (fun _ _ _ h => h) (Or.inl ⟨by rfl, ?_⟩) hHeld ?_
      rotate_left
      · intro w hSw
        have hSx : Ext c0 w := hSw
        clear hSw
        have k4 := conv_rd (RdS.ext hSx HWB.out)
        rw [HSW.out] at k4
        go_simp
        all_goals (first | with_reducible rfl | rw [if_pos (by omega)])
      try simp only [Act.put, List.setIfInBounds_toArray, List.set_cons_zero, List.set_cons_succ]
      refine wpAnyH_ready (rs := [1]) (by kernel_rfl) (by simp) ?_
      refine AllReadyH.cons (o := ⟨_, _, _, _, _, _⟩) rfl (fun K' hK => ?_) AllReadyH.nil
      have hq := putNode_any t _ c0 HTC.out
      go_simp
      go_at_call 16
      refine hq.mono ?_
      clear hq
      rintro e u1 ⟨hX, v1, rfl, hO⟩
      rw [HBW.out] at hO
      have k2 := conv_rd (RdS.of_owns hO)
      rw [HSW.out] at k2
      have HX1 := Lib.hid hX
      obtain ⟨pA, pC, rfl, -⟩ := RdS.of_owns hO
      clear hX hO
      refine hK.out _ _ HX1.out (fun hHeld => ?_)
      clear hK K'
      try simp only [Act.put, List.setIfInBounds_toArray, List.set_cons_zero, List.set_cons_succ]
      refine wpAnyH_ready (rs := [2]) (by kernel_rfl) (by simp) ?_
      refine AllReadyH.cons (o := ⟨_, _, _, _, _, _⟩) rfl (fun K' hK => ?_) AllReadyH.nil
      go_simp
      refine hK.out _ _ HX1.out (fun hHeld => ?_)
      clear hK K' k2
      try simp only [Act.put, List.setIfInBounds_toArray, List.set_cons_zero, List.set_cons_succ]
      refine wpAnyH_take (i := 5) (oi := ⟨_, _, _, _, _, _⟩) (v := ?_) rfl (by kernel_rfl) (by kernel_rfl) (by kernel_rfl) (fun _ _ _ h => h) (Or.inl ⟨by rfl, ?_⟩) hHeld ?_
      rotate_left
      · intro w hSw
        have hSx : Ext c0 w := hSw
        clear hSw
        go_simp
        all_goals (first | with_reducible rfl | rw [if_pos (by omega)])
      try simp only [Act.put, List.setIfInBounds_toArray, List.set_cons_zero, List.set_cons_succ]
      refine wpAnyH_take (i := 6) (oi := ⟨_, _, _, _, _, _⟩) (v := ?_) rfl (by kernel_rfl) (by kernel_rfl) (by kernel_rfl) (fun _ _ _ h => h) (Or.inl ⟨by rfl, ?_⟩) hHeld ?_
      rotate_left
      · intro w hSw
        have hSx : Ext c0 w := hSw
        clear hSw
        go_simp
        all_goals (first | with_reducible rfl | rw [if_pos (by omega)])
      try simp only [Act.put, List.setIfInBounds_toArray, List.set_cons_zero, List.set_cons_succ]
      refine wpAnyH_take (i := 7) (oi := ⟨_, _, _, _, _, _⟩) (v := ?_) rfl (by kernel_rfl) (by kernel_rfl) (by kernel_rfl) (fun _ _ _ h => h) (Or.inl ⟨by rfl, ?_⟩) hHeld ?_
      rotate_left
      · intro w hSw
        have hSx : Ext c0 w := hSw
        clear hSw
        have z0 := hSx.cell z0
        have z1 := hSx.cell z1
        have z2 := hSx.cell z2
        have z3 := hSx.cell z3
        have z4 := hSx.cell z4
        have z5 := hSx.cell z5
        go_simp
        all_goals (first | with_reducible rfl | rw [if_pos (by omega)])
      try simp only [Act.put, List.setIfInBounds_toArray, List.set_cons_zero, List.set_cons_succ]
      refine wpAnyH_take (i := 8) (oi := ⟨_, _, _, _, _, _⟩) (v := ?_) rfl (by kernel_rfl) (by kernel_rfl) (by kernel_rfl) (fun _ _ _ h => h) (Or.inl ⟨by rfl, ?_⟩) hHeld ?_
      rotate_left
      · intro w hSw
        have hSx : Ext c0 w := hSw
        clear hSw
        have y0 := hSx.cell y0
        have y1 := hSx.cell y1
        have y2 := hSx.cell y2
        have y3 := hSx.cell y3
        have y4 := hSx.cell y4
        have y5 := hSx.cell y5
        go_simp
        all_goals (first | with_reducible rfl | rw [if_pos (by omega)])
      try simp only [Act.put, List.setIfInBounds_toArray, List.set_cons_zero, List.set_cons_succ]
      refine wpAnyH_ready (rs := [9]) (by kernel_rfl) (by simp) ?_
      refine AllReadyH.cons (o := ⟨_, _, _, _, _, _⟩) rfl (fun K' hK => ?_) AllReadyH.nil
      have hq := sameNode_any x x _ _ u1 (Nd.rd_ext HX1.out HVX2.out) (Nd.rd_ext HX1.out HVY2.out)
      go_simp
      go_at_call 17
      refine hq.mono ?_
      clear hq
      rintro e u2 ⟨r, rfl, ⟨tt, rfl, htt⟩, hE⟩
      obtain rfl := htt.2 rfl
      have HX2 := Lib.hid (HX1.out.trans hE)
      clear hE htt
      refine hK.out _ _ HX2.out (fun hHeld => ?_)
      clear hK K'
      try simp only [Act.put, List.setIfInBounds_toArray, List.set_cons_zero, List.set_cons_succ]
      refine wpAnyH_take (i := 10) (oi := ⟨_, _, _, _, _, _⟩) (v := ?_) rfl (by kernel_rfl) (by kernel_rfl) (by kernel_rfl) (fun _ _ _ h => h) (Or.inl ⟨by rfl, ?_⟩) hHeld ?_
      rotate_left
      · intro w hSw
        have hSx : Ext c0 w := hSw
        clear hSw
        go_simp
        all_goals (first | with_reducible rfl | rw [if_pos (by omega)])
      try simp only [Act.put, List.setIfInBounds_toArray, List.set_cons_zero, List.set_cons_succ]
      refine wpAnyH_take (i := 11) (oi := ⟨_, _, _, _, _, _⟩) (v := ?_) rfl (by kernel_rfl) (by kernel_rfl) (by kernel_rfl) (fun _ _ _ h => h) (Or.inl ⟨by rfl, ?_⟩) hHeld ?_
      rotate_left
      · intro w hSw
        have hSx : Ext c0 w := hSw
        clear hSw
        go_simp
        all_goals (first | with_reducible rfl | rw [if_pos (by omega)])
      try simp only [Act.put, List.setIfInBounds_toArray, List.set_cons_zero, List.set_cons_succ]
      refine wpAnyH_take (i := 12) (oi := ⟨_, _, _, _, _, _⟩) (v := ?_) rfl (by kernel_rfl) (by kernel_rfl) (by kernel_rfl) (fun _ _ _ h => h) (Or.inl ⟨by rfl, ?_⟩) hHeld ?_
      rotate_left
      · intro w hSw
        have hSx : Ext c0 w := hSw
        clear hSw
        go_simp
        all_goals (first | with_reducible rfl | rw [if_pos (by omega)])
      try simp only [Act.put, List.setIfInBounds_toArray, List.set_cons_zero, List.set_cons_succ]
      refine wpAnyH_take (i := 13) (oi := ⟨_, _, _, _, _, _⟩) (v := ?_) rfl (by kernel_rfl) (by kernel_rfl) (by kernel_rfl) (fun _ _ _ h => h) (Or.inl ⟨by rfl, ?_⟩) hHeld ?_
      rotate_left
      · intro w hSw
        have hSx : Ext c0 w := hSw
        clear hSw
        go_simp
        all_goals (first | with_reducible rfl | rw [if_pos (by omega)])
      try simp only [Act.put, List.setIfInBounds_toArray, List.set_cons_zero, List.set_cons_succ]
      refine wpAnyH_take (i := 14) (oi := ⟨_, _, _, _, _, _⟩) (v := ?_) rfl (by kernel_rfl) (by kernel_rfl) (by kernel_rfl) (fun _ _ _ h => h) (Or.inl ⟨by rfl, ?_⟩) hHeld ?_
      rotate_left
      · intro w hSw
        have hSx : Ext c0 w := hSw
        clear hSw
        go_simp
        all_goals (first | with_reducible rfl | rw [if_pos (by omega)])
      try simp only [Act.put, List.setIfInBounds_toArray, List.set_cons_zero, List.set_cons_succ]
      refine wpAnyH_take (i := 15) (oi := ⟨_, _, _, _, _, _⟩) (v := ?_) rfl (by kernel_rfl) (by kernel_rfl) (by kernel_rfl) (fun _ _ _ h => h) (Or.inl ⟨by rfl, ?_⟩) hHeld ?_
      rotate_left
      · intro w hSw
        have hSx : Ext c0 w := hSw
        clear hSw
        go_simp
        all_goals (first | with_reducible rfl | rw [if_pos (by omega)])
      try simp only [Act.put, List.setIfInBounds_toArray, List.set_cons_zero, List.set_cons_succ]
      refine wpAnyH_take (i := 16) (oi := ⟨_, _, _, _, _, _⟩) (v := ?_) rfl (by kernel_rfl) (by kernel_rfl) (by kernel_rfl) (fun _ _ _ h => h) (Or.inl ⟨by rfl, ?_⟩) hHeld ?_
      rotate_left
      · intro w hSw
        have hSx : Ext c0 w := hSw
        clear hSw
        go_simp
        all_goals (first | with_reducible rfl | rw [if_pos (by omega)])
      try simp only [Act.put, List.setIfInBounds_toArray, List.set_cons_zero, List.set_cons_succ]
      refine wpAnyH_take (i := 17) (oi := ⟨_, _, _, _, _, _⟩) (v := ?_) rfl (by kernel_rfl) (by kernel_rfl) (by kernel_rfl) (fun _ _ _ h => h) (Or.inl ⟨by rfl, ?_⟩) hHeld ?_
      rotate_left
      · intro w hSw
        have hSx : Ext c0 w := hSw
        clear hSw
        go_simp
        all_goals (first | with_reducible rfl | rw [if_pos (by omega)])
      try simp only [Act.put, List.setIfInBounds_toArray, List.set_cons_zero, List.set_cons_succ]
      refine wpAnyH_take (i := 18) (oi := ⟨_, _, _, _, _, _⟩) (v := ?_) rfl (by kernel_rfl) (by kernel_rfl) (by kernel_rfl) (fun _ _ _ h => h) (Or.inl ⟨by rfl, ?_⟩) hHeld ?_
      rotate_left
      · intro w hSw
        have hSx : Ext c0 w := hSw
        clear hSw
        go_simp
        all_goals (first | with_reducible rfl | rw [if_pos (by omega)])
      try simp only [Act.put, List.setIfInBounds_toArray, List.set_cons_zero, List.set_cons_succ]
      refine wpAnyH_take (i := 19) (oi := ⟨_, _, _, _, _, _⟩) (v := ?_) rfl (by kernel_rfl) (by kernel_rfl) (by kernel_rfl) (fun _ _ _ h => h) (Or.inl ⟨by rfl, ?_⟩) hHeld ?_
      rotate_left
      · intro w hSw
        have hSx : Ext c0 w := hSw
        clear hSw
        go_simp
        all_goals (first | with_reducible rfl | rw [if_pos (by omega)])
      try simp only [Act.put, List.setIfInBounds_toArray, List.set_cons_zero, List.set_cons_succ]
      refine wpAnyH_take (i := 20) (oi := ⟨_, _, _, _, _, _⟩) (v := ?_) rfl (by kernel_rfl) (by kernel_rfl) (by kernel_rfl) (fun _ _ _ h => h) (Or.inl ⟨by rfl, ?_⟩) hHeld ?_
      rotate_left
      · intro w hSw
        have hSx : Ext c0 w := hSw
        clear hSw
        go_simp
        all_goals (first | with_reducible rfl | rw [if_pos (by omega)])
      try simp only [Act.put, List.setIfInBounds_toArray, List.set_cons_zero, List.set_cons_succ]
      refine wpAnyH_take (i := 21) (oi := ⟨_, _, _, _, _, _⟩) (v := ?_) rfl (by kernel_rfl) (by kernel_rfl) (by kernel_rfl) (fun _ _ _ h => h) (Or.inl ⟨by rfl, ?_⟩) hHeld ?_
      rotate_left
      · intro w hSw
        have hSx : Ext c0 w := hSw
        clear hSw
        go_simp
        all_goals (first | with_reducible rfl | rw [if_pos (by omega)])
      try simp only [Act.put, List.setIfInBounds_toArray, List.set_cons_zero, List.set_cons_succ]
      refine wpAnyH_take (i := 22) (oi := ⟨_, _, _, _, _, _⟩) (v := ?_) rfl (by kernel_rfl) (by kernel_rfl) (by kernel_rfl) (fun _ _ _ h => h) (Or.inl ⟨by rfl, ?_⟩) hHeld ?_
      rotate_left
      · intro w hSw
        have hSx : Ext c0 w := hSw
        clear hSw
        go_simp
        all_goals (first | with_reducible rfl | rw [if_pos (by omega)])
      try simp only [Act.put, List.setIfInBounds_toArray, List.set_cons_zero, List.set_cons_succ]
      refine wpAnyH_take (i := 23) (oi := ⟨_, _, _, _, _, _⟩) (v := ?_) rfl (by kernel_rfl) (by kernel_rfl) (by kernel_rfl) (fun _ _ _ h => h) (Or.inl ⟨by rfl, ?_⟩) hHeld ?_
      rotate_left
      · intro w hSw
        have hSx : Ext c0 w := hSw
        clear hSw
        go_simp
        all_goals (first | with_reducible rfl | rw [if_pos (by omega)])
      try simp only [Act.put, List.setIfInBounds_toArray, List.set_cons_zero, List.set_cons_succ]
      refine wpAnyH_take (i := 24) (oi := ⟨_, _, _, _, _, _⟩) (v := ?_) rfl (by kernel_rfl) (by kernel_rfl) (by kernel_rfl) (fun _ _ _ h => h) (Or.inl ⟨by rfl, ?_⟩) hHeld ?_
      rotate_left
      · intro w hSw
        have hSx : Ext c0 w := hSw
        clear hSw
        go_simp
        all_goals (first | with_reducible rfl | rw [if_pos (by omega)])
      try simp only [Act.put, List.setIfInBounds_toArray, List.set_cons_zero, List.set_cons_succ]
      refine wpAnyH_take (i := 25) (oi := ⟨_, _, _, _, _, _⟩) (v := ?_) rfl (by kernel_rfl) (by kernel_rfl) (by kernel_rfl) (fun _ _ _ h => h) (Or.inl ⟨by rfl, ?_⟩) hHeld ?_
      rotate_left
      · intro w hSw
        have hSx : Ext c0 w := hSw
        clear hSw
        go_simp
        all_goals (first | with_reducible rfl | rw [if_pos (by omega)])
      try simp only [Act.put, List.setIfInBounds_toArray, List.set_cons_zero, List.set_cons_succ]
      refine wpAnyH_take (i := 26) (oi := ⟨_, _, _, _, _, _⟩) (v := ?_) rfl (by kernel_rfl) (by kernel_rfl) (by kernel_rfl) (fun _ _ _ h => h) (Or.inl ⟨by rfl, ?_⟩) hHeld ?_
      rotate_left
      · intro w hSw
        have hSx : Ext c0 w := hSw
        clear hSw
        have k26 := conv_rd (RdS.ext hSx HIN.out)
        rw [HSB.out] at k26
        go_simp
        all_goals (first | with_reducible rfl | rw [if_pos (by omega)])
      try simp only [Act.put, List.setIfInBounds_toArray, List.set_cons_zero, List.set_cons_succ]
      refine wpAnyH_take (i := 27) (oi := ⟨_, _, _, _, _, _⟩) (v := ?_) rfl (by kernel_rfl) (by kernel_rfl) (by kernel_rfl) (fun _ _ _ h => h) (Or.inl ⟨by rfl, ?_⟩) hHeld ?_
      rotate_left
      · intro w hSw
        have hSx : Ext c0 w := hSw
        clear hSw
        go_simp
        all_goals (first | with_reducible rfl | rw [if_pos (by omega)])
      try simp only [Act.put, List.setIfInBounds_toArray, List.set_cons_zero, List.set_cons_succ]
      refine wpAnyH_take (i := 28) (oi := ⟨_, _, _, _, _, _⟩) (v := ?_) rfl (by kernel_rfl) (by kernel_rfl) (by kernel_rfl) (fun _ _ _ h => h) (Or.inl ⟨by rfl, ?_⟩) hHeld ?_
      rotate_left
      · intro w hSw
        have hSx : Ext c0 w := hSw
        clear hSw
        have k28 := conv_rd (RdS.ext hSx HB6.out)
        rw [HSB.out] at k28
        go_simp
        all_goals (first | with_reducible rfl | rw [if_pos (by omega)])
      try simp only [Act.put, List.setIfInBounds_toArray, List.set_cons_zero, List.set_cons_succ]
      refine wpAnyH_take (i := 29) (oi := ⟨_, _, _, _, _, _⟩) (v := ?_) rfl (by kernel_rfl) (by kernel_rfl) (by kernel_rfl) (fun _ _ _ h => h) (Or.inl ⟨by rfl, ?_⟩) hHeld ?_
      rotate_left
      · intro w hSw
        have hSx : Ext c0 w := hSw
        clear hSw
        go_simp
        all_goals (first | with_reducible rfl | rw [if_pos (by omega)])
      try simp only [Act.put, List.setIfInBounds_toArray, List.set_cons_zero, List.set_cons_succ]
      refine wpAnyH_take (i := 30) (oi := ⟨_, _, _, _, _, _⟩) (v := ?_) rfl (by kernel_rfl) (by kernel_rfl) (by kernel_rfl) (fun _ _ _ h => h) (Or.inl ⟨by rfl, ?_⟩) hHeld ?_
      rotate_left
      · intro w hSw
        have hSx : Ext c0 w := hSw
        clear hSw
        go_simp
        all_goals (first | with_reducible rfl | rw [if_pos (by omega)])
      try simp only [Act.put, List.setIfInBounds_toArray, List.set_cons_zero, List.set_cons_succ]
      refine wpAnyH_take (i := 31) (oi := ⟨_, _, _, _, _, _⟩) (v := ?_) rfl (by kernel_rfl) (by kernel_rfl) (by kernel_rfl) (fun _ _ _ h => h) (Or.inl ⟨by rfl, ?_⟩) hHeld ?_
      rotate_left
      · intro w hSw
        have hSx : Ext c0 w := hSw
        clear hSw
        go_simp
        all_goals (first | with_reducible rfl | rw [if_pos (by omega)])
      try simp only [Act.put, List.setIfInBounds_toArray, List.set_cons_zero, List.set_cons_succ]
      refine wpAnyH_ready (rs := [32]) (by kernel_rfl) (by simp) ?_
      refine AllReadyH.cons (o := ⟨_, _, _, _, _, _⟩) rfl (fun K' hK => ?_) AllReadyH.nil
      have hq := works_any u2
      go_simp
      go_at_call 10
      refine hq.mono ?_
      clear hq
      rintro e u3 ⟨rfl, hE⟩
      have HX3 := Lib.hid (HX2.out.trans hE)
      clear hE
      refine hK.out _ _ HX3.out (fun hHeld => ?_)
      clear hK K'
      try simp only [Act.put, List.setIfInBounds_toArray, List.set_cons_zero, List.set_cons_succ]
      refine wpAnyH_take (i := 33) (oi := ⟨_, _, _, _, _, _⟩) (v := ?_) rfl (by kernel_rfl) (by kernel_rfl) (by kernel_rfl) (fun _ _ _ h => h) (Or.inl ⟨by rfl, ?_⟩) hHeld ?_
      rotate_left
      · intro w hSw
        have hSx : Ext c0 w := hSw
        clear hSw
        go_simp
        all_goals (first | with_reducible rfl | rw [if_pos (by omega)])
      try simp only [Act.put, List.setIfInBounds_toArray, List.set_cons_zero, List.set_cons_succ]
      refine wpAnyH_take (i := 34) (oi := ⟨_, _, _, _, _, _⟩) (v := ?_) rfl (by kernel_rfl) (by kernel_rfl) (by kernel_rfl) (fun _ _ _ h => h) (Or.inl ⟨by rfl, ?_⟩) hHeld ?_
      rotate_left
      · intro w hSw
        have hSx : Ext c0 w := hSw
        clear hSw
        go_simp
        all_goals (first | with_reducible rfl | rw [if_pos (by omega)])
      try simp only [Act.put, List.setIfInBounds_toArray, List.set_cons_zero, List.set_cons_succ]
      refine wpAnyH_done (by kernel_rfl) ?_ _
      clear hHeld
      go_wp2_with fail
      go_ret
      exact ⟨_, rfl, rfl, HXC.out.trans HX3.out⟩
end Go.Proofs.Ytoplaokimahdiaa.Wi
