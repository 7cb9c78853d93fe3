/- Chapter 24: indented (45). (Printed by gouback.py.) -/
import Derived.Test.YtofcbclokkjfjaaOuAsks
namespace Go.Proofs.Ytofcbclokkjfjaa.Wi
open Go.RowKit Go.Proofs.Ytofcbclokkjfjaa.Bw Go.Proofs.Ytofcbclokkjfjaa.Bs

set_option maxRecDepth 100000 in
set_option maxHeartbeats 16000000 in
theorem indented_any (t : Nd) (p : List Int) (tv pv : Value) (w : World) (ht : t.rd w tv) (hp : RdI w p pv) (hwt : t.wt ≤ 1000) (hpl : p.length ≤ 100) (hbk : backI t p = true) : Calls Try.prog 45 #[tv, pv] w (Ret w fun r _ => r = .bool true) := by
 obtain ⟨uA, uc, uK, ud, rfl⟩ := Sy.rd_open6 ht
 obtain ⟨w1, hw1⟩ : ∃ W, w.alloc (.cells #[.int .u64 t.id, .bool t.leaf, .string t.label, .slice uA t.attrs.length uc, .string t.text, .slice uK t.kids.length ud] 26) = W := ⟨_, rfl⟩
 obtain ⟨B, hB⟩ : ∃ B, w.heap.size = B := ⟨_, rfl⟩
 have E1 : Ext w w1 := by rw [← hw1]; exact (Ext.refl w).alloc _
 have HB0 := Lib.hid (show NBox w1 B 26 #[.int .u64 t.id, .bool t.leaf, .string t.label, .slice uA t.attrs.length uc, .string t.text, .slice uK t.kids.length ud] from by rw [← hw1, ← hB]; exact NBox.new w 26 _)
 have HG := Lib.hid ((Sy.GW.refl (Sy.Wo.refl w)).ext E1)
 have HE := Lib.hid E1
 have HW1 := Lib.hid hw1
 have HBB := Lib.hid hB
 have HRt := Lib.hid ht
 have HP := Lib.hid hp
 clear hw1 hB E1 ht hp
 unfold backI at hbk
 simp only [Bool.and_eq_true, Bool.or_eq_true, Bool.not_eq_true', decide_eq_true_eq] at hbk
 obtain ⟨⟨⟨⟨⟨hb1, hb2⟩, hb3⟩, hb4⟩, hb5⟩, hb6⟩ := hbk
 obtain ⟨hf1, hv1, hk1⟩ := backs_open hb1
 have HF1 := Lib.hid hf1
 have HV1 := Lib.hid hv1
 have HK1 := Lib.hid hk1
 have HB2 := Lib.hid hb2
 have HF3 := Lib.hid hb3
 have HV3 := Lib.hid hb4
 have HF5 := Lib.hid hb5
 have HV5 := Lib.hid hb6
 clear hb1 hb2 hb3 hb4 hb5 hb6 hf1 hv1 hk1
 go_enter Try.func45, Try.ntmps45
 go_upto_region 1 with fail
 rw [HW1.out, HBB.out]
 clear HW1
 have hc := ask_ind t p _ _ w1 (HG.out.rd HRt.out) (RdS.ext HE.out HP.out) (by omega) (by omega)
 obtain ⟨t0, t1, t2, t3, t4, t5⟩ := HB0.out.c6
 go_wp2_with fail
 refine hc.mono ?_
 clear hc t0 t1 t2 t3 t4 t5
 rintro e w2 ⟨hE, v, rfl, hLs⟩
 replace HE := Lib.hid (HE.out.trans hE)
 replace HG := Lib.hid (HG.out.ext hE)
 replace HB0 := Lib.hid (HB0.out.ext hE)
 clear hE
 have HLs := Lib.hid hLs
 obtain ⟨lA, lc, rfl⟩ := AnsR.slice hLs
 clear hLs
 have HIl := Lib.hid HLs.out.now
 have hc := done_any t (indC t p) _ _ _ w2 HG.out.now HRt.out HLs.out.now HF1.out
 obtain ⟨t0, t1, t2, t3, t4, t5⟩ := HB0.out.c6
 go_wp2_with fail
 refine hc.mono ?_
 clear hc t0 t1 t2 t3 t4 t5
 rintro e w3 ⟨r, rfl, ⟨q, rfl, hLL⟩, hE⟩
 have HRm := Lib.hid (HG.out.got hE hLL)
 obtain ⟨m, hm⟩ : ∃ m, (doneC t (indC t p)).1 = m := ⟨_, rfl⟩
 rw [hm] at HRm
 have HNm := Lib.hid hm
 clear hm
 obtain ⟨mA, mc, mK, md, rfl⟩ := Sy.rd_open6 HRm.out
 replace HRt := Lib.hid (HG.out.rd_glue hE HRt.out)
 replace HG := Lib.hid (HG.out.glue hE)
 replace HE := Lib.hid (HE.out.trans hE)
 replace HB0 := Lib.hid (HB0.out.ext hE)
 replace HIl := Lib.hid (HIl.out.ext hE)
 clear hE hLL
 obtain ⟨ok, hok⟩ : ∃ b, (doneC t (indC t p)).2.1 = b := ⟨_, rfl⟩
 rw [HV1.out, hok]
 rw [hok] at HK1 HB2
 have HOK := Lib.hid hok
 clear hok
 obtain ⟨wa, hwa⟩ : ∃ q, w3.alloc (.cells #[.int .u64 0, .bool false, .string ⟨#[]⟩, .slice none 0 0, .string ⟨#[]⟩, .slice none 0 0] 26) = q := ⟨_, rfl⟩
 obtain ⟨M, hP⟩ : ∃ q, w3.heap.size = q := ⟨_, rfl⟩
 have XA : Ext w3 wa := by rw [← hwa]; exact (Ext.refl _).alloc _
 have bM : NBox wa M 26 #[.int .u64 0, .bool false, .string ⟨#[]⟩, .slice none 0 0, .string ⟨#[]⟩, .slice none 0 0] := by rw [← hwa, ← hP]; exact NBox.new _ _ _
 obtain ⟨w4, hwn⟩ : ∃ q, (World.setCell (World.setCell (World.setCell (World.setCell (World.setCell (World.setCell wa ⟨M, 0, none⟩ (.int .u64 m.id)) ⟨M, 1, none⟩ (.bool m.leaf)) ⟨M, 2, none⟩ (.string m.label)) ⟨M, 3, none⟩ (.slice mA m.attrs.length mc)) ⟨M, 4, none⟩ (.string m.text)) ⟨M, 5, none⟩ (.slice mK m.kids.length md)) = q := ⟨_, rfl⟩
 have F8 : Sy.Fr wa w4 (fun k => k = M) := by rw [← hwn]; exact Sy.Fr.six _ _ _ _ _ _ _ _
 have X8 : Ext w3 w4 := Sy.Fr.ext XA F8 (fun q hq => by rw [show q = M from hq, hP]; exact Nat.le_refl _)
 have HBM : Hid (NBox w4 M 26 #[.int .u64 m.id, .bool m.leaf, .string m.label, .slice mA m.attrs.length mc, .string m.text, .slice mK m.kids.length md]) := Lib.hid (by rw [← hwn]; exact Sy.NBox.six bM _ _ _ _ _ _)
 have HLM := Lib.hid (show B < M from by rw [← hP]; exact HB0.out.lt)
 have HWM := Lib.hid (show w.heap.size ≤ M from by rw [← hP]; exact HE.out.size)
 replace HE := Lib.hid (HE.out.trans X8)
 replace HG := Lib.hid (HG.out.ext X8)
 replace HB0 := Lib.hid (HB0.out.ext X8)
 replace HIl := Lib.hid (HIl.out.ext X8)
 have HWA := Lib.hid hwa
 have HPP := Lib.hid hP
 have HWN := Lib.hid hwn
 obtain ⟨y0, y1, y2, y3, y4, y5⟩ := bM.c6
 obtain ⟨z0, z1, z2, z3, z4, z5⟩ := bM.f6
 clear hwa hP hwn XA bM F8 X8
 go_upto_region 3 with (rw [HWA.out, HPP.out]; clear HWA)
 rw [HWN.out]
 clear HWN HPP y0 z0 y1 z1 y2 z2 y3 z3 y4 z4 y5 z5
 cases ok with
 | false =>
  clear HK1 HB2
  go_upto_region 11 with fail
  have hc := ask_out t p _ _ w4 (HG.out.rd HRt.out) (RdS.ext HE.out HP.out) (by omega) (by omega)
  obtain ⟨t0, t1, t2, t3, t4, t5⟩ := HB0.out.c6
  go_wp2_with fail
  refine hc.mono ?_
  clear hc t0 t1 t2 t3 t4 t5
  rintro e a2 ⟨hE, v, rfl, hLs⟩
  replace HE := Lib.hid (HE.out.trans hE)
  replace HG := Lib.hid (HG.out.ext hE)
  replace HB0 := Lib.hid (HB0.out.ext hE)
  replace HBM := Lib.hid (HBM.out.ext hE)
  replace HIl := Lib.hid (HIl.out.ext hE)
  clear hE
  have HLs := Lib.hid hLs
  obtain ⟨lA, lc, rfl⟩ := AnsR.slice hLs
  clear hLs
  have hc := done_any t (outC t p) _ _ _ a2 HG.out.now HRt.out HLs.out.now HF3.out
  obtain ⟨t0, t1, t2, t3, t4, t5⟩ := HB0.out.c6
  go_wp2_with fail
  refine hc.mono ?_
  clear hc t0 t1 t2 t3 t4 t5
  rintro e a3 ⟨r, rfl, ⟨q, rfl, hLL⟩, hE⟩
  have HRm3 := Lib.hid (HG.out.got hE hLL)
  obtain ⟨m3, hm⟩ : ∃ m, (doneC t (outC t p)).1 = m := ⟨_, rfl⟩
  rw [hm] at HRm3
  have HNm3 := Lib.hid hm
  clear hm
  obtain ⟨gA, gc, gK, gd, rfl⟩ := Sy.rd_open6 HRm3.out
  replace HRt := Lib.hid (HG.out.rd_glue hE HRt.out)
  replace HRm := Lib.hid (HG.out.rd_glue hE HRm.out)
  replace HG := Lib.hid (HG.out.glue hE)
  replace HE := Lib.hid (HE.out.trans hE)
  replace HB0 := Lib.hid (HB0.out.ext hE)
  replace HBM := Lib.hid (HBM.out.ext hE)
  replace HIl := Lib.hid (HIl.out.ext hE)
  clear hE hLL
  rw [HV3.out]
  obtain ⟨wa, hwa⟩ : ∃ q, a3.alloc (.cells #[.int .u64 0, .bool false, .string ⟨#[]⟩, .slice none 0 0, .string ⟨#[]⟩, .slice none 0 0] 26) = q := ⟨_, rfl⟩
  obtain ⟨M3, hP⟩ : ∃ q, a3.heap.size = q := ⟨_, rfl⟩
  have XA : Ext a3 wa := by rw [← hwa]; exact (Ext.refl _).alloc _
  have bM : NBox wa M3 26 #[.int .u64 0, .bool false, .string ⟨#[]⟩, .slice none 0 0, .string ⟨#[]⟩, .slice none 0 0] := by rw [← hwa, ← hP]; exact NBox.new _ _ _
  obtain ⟨a4, hwn⟩ : ∃ q, (World.setCell (World.setCell (World.setCell (World.setCell (World.setCell (World.setCell wa ⟨M3, 0, none⟩ (.int .u64 m3.id)) ⟨M3, 1, none⟩ (.bool m3.leaf)) ⟨M3, 2, none⟩ (.string m3.label)) ⟨M3, 3, none⟩ (.slice gA m3.attrs.length gc)) ⟨M3, 4, none⟩ (.string m3.text)) ⟨M3, 5, none⟩ (.slice gK m3.kids.length gd)) = q := ⟨_, rfl⟩
  have F8 : Sy.Fr wa a4 (fun k => k = M3) := by rw [← hwn]; exact Sy.Fr.six _ _ _ _ _ _ _ _
  have X8 : Ext a3 a4 := Sy.Fr.ext XA F8 (fun q hq => by rw [show q = M3 from hq, hP]; exact Nat.le_refl _)
  have HBM3 : Hid (NBox a4 M3 26 #[.int .u64 m3.id, .bool m3.leaf, .string m3.label, .slice gA m3.attrs.length gc, .string m3.text, .slice gK m3.kids.length gd]) := Lib.hid (by rw [← hwn]; exact Sy.NBox.six bM _ _ _ _ _ _)
  have HLM3 := Lib.hid (show B < M3 from by rw [← hP]; exact HB0.out.lt)
  have HWM3 := Lib.hid (show w.heap.size ≤ M3 from by rw [← hP]; exact HE.out.size)
  replace HE := Lib.hid (HE.out.trans X8)
  replace HG := Lib.hid (HG.out.ext X8)
  replace HB0 := Lib.hid (HB0.out.ext X8)
  replace HBM := Lib.hid (HBM.out.ext X8)
  replace HIl := Lib.hid (HIl.out.ext X8)
  have HWA := Lib.hid hwa
  have HPP := Lib.hid hP
  have HWN := Lib.hid hwn
  obtain ⟨y0, y1, y2, y3, y4, y5⟩ := bM.c6
  obtain ⟨z0, z1, z2, z3, z4, z5⟩ := bM.f6
  clear hwa hP hwn XA bM F8 X8
  go_upto_region 13 with (rw [HWA.out, HPP.out]; clear HWA)
  rw [HWN.out]
  clear HWN HPP y0 z0 y1 z1 y2 z2 y3 z3 y4 z4 y5 z5
  have hc := ask_joi t p _ _ a4 (HG.out.rd HRt.out) (RdS.ext HE.out HP.out) (by omega) (by omega)
  obtain ⟨t0, t1, t2, t3, t4, t5⟩ := HB0.out.c6
  go_wp2_with fail
  refine hc.mono ?_
  clear hc t0 t1 t2 t3 t4 t5
  rintro e a5 ⟨hE, v, rfl, hLs⟩
  replace HE := Lib.hid (HE.out.trans hE)
  replace HG := Lib.hid (HG.out.ext hE)
  replace HB0 := Lib.hid (HB0.out.ext hE)
  replace HBM := Lib.hid (HBM.out.ext hE)
  replace HBM3 := Lib.hid (HBM3.out.ext hE)
  replace HIl := Lib.hid (HIl.out.ext hE)
  clear hE
  have HLs := Lib.hid hLs
  obtain ⟨lA, lc, rfl⟩ := AnsR.slice hLs
  clear hLs
  have hc := done_any t (joiC t p) _ _ _ a5 HG.out.now HRt.out HLs.out.now HF5.out
  obtain ⟨t0, t1, t2, t3, t4, t5⟩ := HB0.out.c6
  go_wp2_with fail
  refine hc.mono ?_
  clear hc t0 t1 t2 t3 t4 t5
  rintro e a6 ⟨r, rfl, ⟨q, rfl, hLL⟩, hE⟩
  have HRm4 := Lib.hid (HG.out.got hE hLL)
  obtain ⟨m4, hm⟩ : ∃ m, (doneC t (joiC t p)).1 = m := ⟨_, rfl⟩
  rw [hm] at HRm4
  have HNm4 := Lib.hid hm
  clear hm
  obtain ⟨jA, jc, jK, jd, rfl⟩ := Sy.rd_open6 HRm4.out
  replace HRt := Lib.hid (HG.out.rd_glue hE HRt.out)
  replace HRm := Lib.hid (HG.out.rd_glue hE HRm.out)
  replace HRm3 := Lib.hid (HG.out.rd_glue hE HRm3.out)
  replace HG := Lib.hid (HG.out.glue hE)
  replace HE := Lib.hid (HE.out.trans hE)
  replace HB0 := Lib.hid (HB0.out.ext hE)
  replace HBM := Lib.hid (HBM.out.ext hE)
  replace HBM3 := Lib.hid (HBM3.out.ext hE)
  replace HIl := Lib.hid (HIl.out.ext hE)
  clear hE hLL
  rw [HV5.out]
  obtain ⟨wa, hwa⟩ : ∃ q, a6.alloc (.cells #[.int .u64 0, .bool false, .string ⟨#[]⟩, .slice none 0 0, .string ⟨#[]⟩, .slice none 0 0] 26) = q := ⟨_, rfl⟩
  obtain ⟨M4, hP⟩ : ∃ q, a6.heap.size = q := ⟨_, rfl⟩
  have XA : Ext a6 wa := by rw [← hwa]; exact (Ext.refl _).alloc _
  have bM : NBox wa M4 26 #[.int .u64 0, .bool false, .string ⟨#[]⟩, .slice none 0 0, .string ⟨#[]⟩, .slice none 0 0] := by rw [← hwa, ← hP]; exact NBox.new _ _ _
  obtain ⟨a7, hwn⟩ : ∃ q, (World.setCell (World.setCell (World.setCell (World.setCell (World.setCell (World.setCell wa ⟨M4, 0, none⟩ (.int .u64 m4.id)) ⟨M4, 1, none⟩ (.bool m4.leaf)) ⟨M4, 2, none⟩ (.string m4.label)) ⟨M4, 3, none⟩ (.slice jA m4.attrs.length jc)) ⟨M4, 4, none⟩ (.string m4.text)) ⟨M4, 5, none⟩ (.slice jK m4.kids.length jd)) = q := ⟨_, rfl⟩
  have F8 : Sy.Fr wa a7 (fun k => k = M4) := by rw [← hwn]; exact Sy.Fr.six _ _ _ _ _ _ _ _
  have X8 : Ext a6 a7 := Sy.Fr.ext XA F8 (fun q hq => by rw [show q = M4 from hq, hP]; exact Nat.le_refl _)
  have HBM4 : Hid (NBox a7 M4 26 #[.int .u64 m4.id, .bool m4.leaf, .string m4.label, .slice jA m4.attrs.length jc, .string m4.text, .slice jK m4.kids.length jd]) := Lib.hid (by rw [← hwn]; exact Sy.NBox.six bM _ _ _ _ _ _)
  have HLM4 := Lib.hid (show B < M4 from by rw [← hP]; exact HB0.out.lt)
  have HWM4 := Lib.hid (show w.heap.size ≤ M4 from by rw [← hP]; exact HE.out.size)
  replace HE := Lib.hid (HE.out.trans X8)
  replace HG := Lib.hid (HG.out.ext X8)
  replace HB0 := Lib.hid (HB0.out.ext X8)
  replace HBM := Lib.hid (HBM.out.ext X8)
  replace HBM3 := Lib.hid (HBM3.out.ext X8)
  replace HIl := Lib.hid (HIl.out.ext X8)
  have HWA := Lib.hid hwa
  have HPP := Lib.hid hP
  have HWN := Lib.hid hwn
  obtain ⟨y0, y1, y2, y3, y4, y5⟩ := bM.c6
  obtain ⟨z0, z1, z2, z3, z4, z5⟩ := bM.f6
  clear hwa hP hwn XA bM F8 X8
  go_upto_region 15 with (rw [HWA.out, HPP.out]; clear HWA)
  rw [HWN.out]
  clear HWN HPP y0 z0 y1 z1 y2 z2 y3 z3 y4 z4 y5 z5
  go_wp2_with fail
  go_ret
  exact ⟨_, rfl, rfl, HE.out⟩
 | true =>
  obtain ⟨hw1, hf2, hd2⟩ := HK1.out rfl
  rw [HNm.out] at hw1 hf2 hd2
  have hne : (indC t p).2 ≠ [] := by rcases HB2.out with h | h; cases h; exact h
  obtain ⟨o, ol, hol⟩ := List.exists_cons_of_ne_nil hne
  rw [hol] at hf2 hd2
  dsimp only at hf2 hd2
  have HF2 := Lib.hid hf2
  have HD2 := Lib.hid hd2
  have hmw : m.wt ≤ 100000 := hw1
  have hz := ok_zero HOK.out
  obtain ⟨hol1, hol2⟩ := fit_mem HF1.out hz o (by rw [hol]; exact List.mem_cons_self)
  obtain ⟨_, _, pv', tv', cv', hA, ho, c0, c1, c2, c3, c4, c5, c6, c7, c8, c9, c10⟩ := Sy.lsame_at HIl.out (i := 0) (o := o) (by rw [hol]; rfl)
  obtain ⟨_, _, _, he, -, hto, -⟩ := ho
  simp only [Value.agg.injEq, Array.mk.injEq, List.cons.injEq, true_and, and_true] at he
  obtain ⟨-, rfl, -⟩ := he
  obtain ⟨qA, qc, rfl, -⟩ := id hto
  have HTO := Lib.hid hto
  cases hA
  simp only [Nat.zero_mul, Nat.add_zero] at c2 c3
  have HC23 := Lib.hid (show _ ∧ _ from ⟨c2, c3⟩)
  have hln : 0 < (indC t p).2.length := by rw [hol, List.length_cons]; omega
  have e1 : (((indC t p).2.length : Int) == 0) = false := by rw [beq_eq_false_iff_ne]; omega
  have q2 : (0 : Int) < ((indC t p).2.length : Int) := by omega
  obtain ⟨q, hq⟩ : ∃ q, o.to ++ [o.at_] = q := ⟨_, rfl⟩
  have hql : q.length ≤ 1001 := by rw [← hq, List.length_append, List.length_singleton]; omega
  rw [hq] at HF2 HD2
  have HQ := Lib.hid hq
  clear hq c0 c1 c2 c3 c4 c5 c6 c7 c8 c9 c10 hto hf2 hd2 hw1 hol hne hz
  go_upto_region 6 with fail
  obtain ⟨wd, hwd⟩ : ∃ d, w4.drew = d := ⟨_, rfl⟩
  have XD : Ext w4 wd := by rw [← hwd]; exact (Ext.refl w4).drew
  replace HE := Lib.hid (HE.out.trans XD)
  replace HG := Lib.hid (HG.out.ext XD)
  replace HB0 := Lib.hid (HB0.out.ext XD)
  replace HBM := Lib.hid (HBM.out.ext XD)
  replace HIl := Lib.hid (HIl.out.ext XD)
  have HTO' := Lib.hid (RdS.ext XD HTO.out)
  clear HTO
  refine wp_region_held_drew (S := fun W => Ext w4 W) (by kernel_rfl) (by rw [hwd]; exact XD) (fun hHeld => ?_)
  rw [hwd] at hHeld ⊢
  clear hwd
  refine tk 0 ?_ rfl (.inl ⟨by rfl, ?_⟩) hHeld ?_
  rotate_left
  ·intro w hSw
   try dsimp only at hSw
   go_simp
   all_goals (first | with_reducible rfl | rw [if_pos (by omega)])
  try simp only [Act.put, aS]
  refine tk 1 ?_ rfl (.inl ⟨by rfl, ?_⟩) hHeld ?_
  rotate_left
  ·intro w hSw
   try dsimp only at hSw
   go_simp
   all_goals (first | with_reducible rfl | rw [if_pos (by omega)])
  try simp only [Act.put, aS]
  refine tk 2 ?_ rfl (.inl ⟨by rfl, ?_⟩) hHeld ?_
  rotate_left
  ·intro w hSw
   try dsimp only at hSw
   go_simp
   all_goals (first | with_reducible rfl | rw [if_pos (by omega)])
  try simp only [Act.put, aS]
  refine tk 3 ?_ rfl (.inl ⟨by rfl, ?_⟩) hHeld ?_
  rotate_left
  ·intro w hSw
   obtain ⟨z0, z1⟩ := HC23.out
   have e0 := hSw.cell z0
   have e1_ := hSw.cell z1
   go_simp
   all_goals (first | with_reducible rfl | rw [if_pos (by omega)])
  try simp only [Act.put, aS]
  refine tk 4 ?_ rfl (.inl ⟨by rfl, ?_⟩) hHeld ?_
  rotate_left
  ·intro w hSw
   try dsimp only at hSw
   go_simp
   all_goals (first | with_reducible rfl | rw [if_pos (by omega)])
  try simp only [Act.put, aS]
  refine tk 5 ?_ rfl (.inl ⟨by rfl, ?_⟩) hHeld ?_
  rotate_left
  ·intro w hSw
   try dsimp only at hSw
   go_simp
   all_goals (first | with_reducible rfl | rw [if_pos (by omega)])
  try simp only [Act.put, aS]
  refine tk 6 ?_ rfl (.inl ⟨by rfl, ?_⟩) hHeld ?_
  rotate_left
  ·intro w hSw
   try dsimp only at hSw
   go_simp
   all_goals (first | with_reducible rfl | rw [if_pos (by omega)])
  try simp only [Act.put, aS]
  refine tk 7 ?_ rfl (.inl ⟨by rfl, ?_⟩) hHeld ?_
  rotate_left
  ·intro w hSw
   obtain ⟨z0, z1⟩ := HC23.out
   have e0 := hSw.cell z0
   have e1_ := hSw.cell z1
   go_simp
   all_goals (first | with_reducible rfl | rw [if_pos (by omega)])
  try simp only [Act.put, aS]
  have hc := child_any o.to o.at_ _ wd HTO'.out (by omega)
  rw [HQ.out] at hc
  refine wpAnyH_ready (rs := [8]) (by kernel_rfl) (by simp) ?_
  refine AllReadyH.cons (o := ⟨_, _, _, _, _, _⟩) rfl (fun K' hK => ?_) (AllReadyH.nil)
  go_simp
  go_at_call 33
  refine hc.mono ?_
  clear hc
  rintro e w5 ⟨r, rfl, hO, hE⟩
  have HOq := Lib.hid hO
  obtain ⟨rA, rc, rfl⟩ : ∃ A c, r = .slice A q.length c := by obtain ⟨A, c, h, -⟩ := owns_cells hO; exact ⟨A, c, h⟩
  refine hK.out _ _ (show Ext w4 w5 from XD.trans hE) (fun hHeld => ?_)
  clear hK K' hO XD
  try simp only [Act.put, aS]
  replace HE := Lib.hid (HE.out.trans hE)
  replace HG := Lib.hid (HG.out.ext hE)
  replace HB0 := Lib.hid (HB0.out.ext hE)
  replace HBM := Lib.hid (HBM.out.ext hE)
  replace HIl := Lib.hid (HIl.out.ext hE)
  clear hE
  refine tk 9 ?_ rfl (.inl ⟨by rfl, ?_⟩) hHeld ?_
  rotate_left
  ·intro w hSw
   try dsimp only at hSw
   go_simp
   all_goals (first | with_reducible rfl | rw [if_pos (by omega)])
  try simp only [Act.put, aS]
  refine wpAnyH_done (by kernel_rfl) ?_ _
  clear hHeld HTO'
  have hc := ask_out m q _ _ w5 (HG.out.rd HRm.out) (RdS.of_owns HOq.out) (by omega) (by omega)
  obtain ⟨t0, t1, t2, t3, t4, t5⟩ := HBM.out.c6
  go_wp2_with fail
  refine hc.mono ?_
  clear hc t0 t1 t2 t3 t4 t5
  rintro e w6 ⟨hE, v, rfl, hLs⟩
  replace HE := Lib.hid (HE.out.trans hE)
  replace HG := Lib.hid (HG.out.ext hE)
  replace HB0 := Lib.hid (HB0.out.ext hE)
  replace HBM := Lib.hid (HBM.out.ext hE)
  replace HOq := Lib.hid (Sy.World.ownsRow_ext hE HOq.out)
  replace HIl := Lib.hid (HIl.out.ext hE)
  clear hE
  have HLs := Lib.hid hLs
  obtain ⟨lA, lc, rfl⟩ := AnsR.slice hLs
  clear hLs
  have hc := done_any m (outC m q) _ _ _ w6 HG.out.now HRm.out HLs.out.now HF2.out
  obtain ⟨t0, t1, t2, t3, t4, t5⟩ := HBM.out.c6
  go_wp2_with fail
  refine hc.mono ?_
  clear hc t0 t1 t2 t3 t4 t5
  rintro e w7 ⟨r, rfl, ⟨q, rfl, hLL⟩, hE⟩
  rw [HD2.out] at hLL ⊢
  dsimp only at hLL ⊢
  have HRk := Lib.hid (HG.out.got hE hLL)
  obtain ⟨kA, kc, kK, kd, rfl⟩ := Sy.rd_open6 HRk.out
  replace HRt := Lib.hid (HG.out.rd_glue hE HRt.out)
  replace HRm := Lib.hid (HG.out.rd_glue hE HRm.out)
  replace HG := Lib.hid (HG.out.glue hE)
  replace HE := Lib.hid (HE.out.trans hE)
  replace HB0 := Lib.hid (HB0.out.ext hE)
  replace HBM := Lib.hid (HBM.out.ext hE)
  replace HOq := Lib.hid (Sy.World.ownsRow_ext hE HOq.out)
  replace HIl := Lib.hid (HIl.out.ext hE)
  clear hE hLL
  obtain ⟨wa, hwa⟩ : ∃ q, w7.alloc (.cells #[.int .u64 0, .bool false, .string ⟨#[]⟩, .slice none 0 0, .string ⟨#[]⟩, .slice none 0 0] 26) = q := ⟨_, rfl⟩
  obtain ⟨K3, hP⟩ : ∃ q, w7.heap.size = q := ⟨_, rfl⟩
  have XA : Ext w7 wa := by rw [← hwa]; exact (Ext.refl _).alloc _
  have bM : NBox wa K3 26 #[.int .u64 0, .bool false, .string ⟨#[]⟩, .slice none 0 0, .string ⟨#[]⟩, .slice none 0 0] := by rw [← hwa, ← hP]; exact NBox.new _ _ _
  obtain ⟨w8, hwn⟩ : ∃ q, (World.setCell (World.setCell (World.setCell (World.setCell (World.setCell (World.setCell wa ⟨K3, 0, none⟩ (.int .u64 t.id)) ⟨K3, 1, none⟩ (.bool t.leaf)) ⟨K3, 2, none⟩ (.string t.label)) ⟨K3, 3, none⟩ (.slice kA t.attrs.length kc)) ⟨K3, 4, none⟩ (.string t.text)) ⟨K3, 5, none⟩ (.slice kK t.kids.length kd)) = q := ⟨_, rfl⟩
  have F8 : Sy.Fr wa w8 (fun k => k = K3) := by rw [← hwn]; exact Sy.Fr.six _ _ _ _ _ _ _ _
  have X8 : Ext w7 w8 := Sy.Fr.ext XA F8 (fun q hq => by rw [show q = K3 from hq, hP]; exact Nat.le_refl _)
  have HBK3 : Hid (NBox w8 K3 26 #[.int .u64 t.id, .bool t.leaf, .string t.label, .slice kA t.attrs.length kc, .string t.text, .slice kK t.kids.length kd]) := Lib.hid (by rw [← hwn]; exact Sy.NBox.six bM _ _ _ _ _ _)
  have HLK3 := Lib.hid (show B < K3 from by rw [← hP]; exact HB0.out.lt)
  have HWK3 := Lib.hid (show w.heap.size ≤ K3 from by rw [← hP]; exact HE.out.size)
  replace HE := Lib.hid (HE.out.trans X8)
  replace HG := Lib.hid (HG.out.ext X8)
  replace HB0 := Lib.hid (HB0.out.ext X8)
  replace HBM := Lib.hid (HBM.out.ext X8)
  replace HOq := Lib.hid (Sy.World.ownsRow_ext X8 HOq.out)
  replace HIl := Lib.hid (HIl.out.ext X8)
  have HWA := Lib.hid hwa
  have HPP := Lib.hid hP
  have HWN := Lib.hid hwn
  obtain ⟨y0, y1, y2, y3, y4, y5⟩ := bM.c6
  obtain ⟨z0, z1, z2, z3, z4, z5⟩ := bM.f6
  clear hwa hP hwn XA bM F8 X8
  go_upto_region 9 with (rw [HWA.out, HPP.out]; clear HWA)
  rw [HWN.out]
  clear HWN HPP y0 z0 y1 z1 y2 z2 y3 z3 y4 z4 y5 z5
  have HSAME := Lib.hid (fun W (h1 : t.rd W (.agg #[.int .u64 t.id, .bool t.leaf, .string t.label, .slice kA t.attrs.length kc, .string t.text, .slice kK t.kids.length kd])) (h2 : t.rd W (.agg #[.int .u64 t.id, .bool t.leaf, .string t.label, .slice uA t.attrs.length uc, .string t.text, .slice uK t.kids.length ud])) => by have h := rsame_any t.cnt t t _ _ W (Nat.le_refl _) h1 h2; rw [Nd.same_refl] at h; exact h)
  have hc := HSAME.out w8 (HG.out.rd HRk.out) (HG.out.rd HRt.out)
  obtain ⟨s0, s1, s2, s3, s4, s5⟩ := HBK3.out.c6
  obtain ⟨t0, t1, t2, t3, t4, t5⟩ := HB0.out.c6
  go_wp2_with fail
  refine hc.mono ?_
  clear hc HSAME s0 t0 s1 t1 s2 t2 s3 t3 s4 t4 s5 t5
  rintro e w9 ⟨r, rfl, rfl, hE⟩
  replace HE := Lib.hid (HE.out.trans hE)
  replace HG := Lib.hid (HG.out.ext hE)
  replace HB0 := Lib.hid (HB0.out.ext hE)
  replace HBM := Lib.hid (HBM.out.ext hE)
  replace HBK3 := Lib.hid (HBK3.out.ext hE)
  replace HOq := Lib.hid (Sy.World.ownsRow_ext hE HOq.out)
  replace HIl := Lib.hid (HIl.out.ext hE)
  clear hE
  go_upto_region 11 with fail
  have hc := ask_out t p _ _ w9 (HG.out.rd HRt.out) (RdS.ext HE.out HP.out) (by omega) (by omega)
  obtain ⟨t0, t1, t2, t3, t4, t5⟩ := HB0.out.c6
  go_wp2_with fail
  refine hc.mono ?_
  clear hc t0 t1 t2 t3 t4 t5
  rintro e b2 ⟨hE, v, rfl, hLs⟩
  replace HE := Lib.hid (HE.out.trans hE)
  replace HG := Lib.hid (HG.out.ext hE)
  replace HB0 := Lib.hid (HB0.out.ext hE)
  replace HBM := Lib.hid (HBM.out.ext hE)
  replace HBK3 := Lib.hid (HBK3.out.ext hE)
  replace HOq := Lib.hid (Sy.World.ownsRow_ext hE HOq.out)
  replace HIl := Lib.hid (HIl.out.ext hE)
  clear hE
  have HLs := Lib.hid hLs
  obtain ⟨lA, lc, rfl⟩ := AnsR.slice hLs
  clear hLs
  have hc := done_any t (outC t p) _ _ _ b2 HG.out.now HRt.out HLs.out.now HF3.out
  obtain ⟨t0, t1, t2, t3, t4, t5⟩ := HB0.out.c6
  go_wp2_with fail
  refine hc.mono ?_
  clear hc t0 t1 t2 t3 t4 t5
  rintro e b3 ⟨r, rfl, ⟨q, rfl, hLL⟩, hE⟩
  have HRm3 := Lib.hid (HG.out.got hE hLL)
  obtain ⟨m3, hm⟩ : ∃ m, (doneC t (outC t p)).1 = m := ⟨_, rfl⟩
  rw [hm] at HRm3
  have HNm3 := Lib.hid hm
  clear hm
  obtain ⟨gA, gc, gK, gd, rfl⟩ := Sy.rd_open6 HRm3.out
  replace HRt := Lib.hid (HG.out.rd_glue hE HRt.out)
  replace HRm := Lib.hid (HG.out.rd_glue hE HRm.out)
  replace HRk := Lib.hid (HG.out.rd_glue hE HRk.out)
  replace HG := Lib.hid (HG.out.glue hE)
  replace HE := Lib.hid (HE.out.trans hE)
  replace HB0 := Lib.hid (HB0.out.ext hE)
  replace HBM := Lib.hid (HBM.out.ext hE)
  replace HBK3 := Lib.hid (HBK3.out.ext hE)
  replace HOq := Lib.hid (Sy.World.ownsRow_ext hE HOq.out)
  replace HIl := Lib.hid (HIl.out.ext hE)
  clear hE hLL
  rw [HV3.out]
  obtain ⟨wa, hwa⟩ : ∃ q, b3.alloc (.cells #[.int .u64 0, .bool false, .string ⟨#[]⟩, .slice none 0 0, .string ⟨#[]⟩, .slice none 0 0] 26) = q := ⟨_, rfl⟩
  obtain ⟨M3, hP⟩ : ∃ q, b3.heap.size = q := ⟨_, rfl⟩
  have XA : Ext b3 wa := by rw [← hwa]; exact (Ext.refl _).alloc _
  have bM : NBox wa M3 26 #[.int .u64 0, .bool false, .string ⟨#[]⟩, .slice none 0 0, .string ⟨#[]⟩, .slice none 0 0] := by rw [← hwa, ← hP]; exact NBox.new _ _ _
  obtain ⟨b4, hwn⟩ : ∃ q, (World.setCell (World.setCell (World.setCell (World.setCell (World.setCell (World.setCell wa ⟨M3, 0, none⟩ (.int .u64 m3.id)) ⟨M3, 1, none⟩ (.bool m3.leaf)) ⟨M3, 2, none⟩ (.string m3.label)) ⟨M3, 3, none⟩ (.slice gA m3.attrs.length gc)) ⟨M3, 4, none⟩ (.string m3.text)) ⟨M3, 5, none⟩ (.slice gK m3.kids.length gd)) = q := ⟨_, rfl⟩
  have F8 : Sy.Fr wa b4 (fun k => k = M3) := by rw [← hwn]; exact Sy.Fr.six _ _ _ _ _ _ _ _
  have X8 : Ext b3 b4 := Sy.Fr.ext XA F8 (fun q hq => by rw [show q = M3 from hq, hP]; exact Nat.le_refl _)
  have HBM3 : Hid (NBox b4 M3 26 #[.int .u64 m3.id, .bool m3.leaf, .string m3.label, .slice gA m3.attrs.length gc, .string m3.text, .slice gK m3.kids.length gd]) := Lib.hid (by rw [← hwn]; exact Sy.NBox.six bM _ _ _ _ _ _)
  have HLM3 := Lib.hid (show B < M3 from by rw [← hP]; exact HB0.out.lt)
  have HWM3 := Lib.hid (show w.heap.size ≤ M3 from by rw [← hP]; exact HE.out.size)
  replace HE := Lib.hid (HE.out.trans X8)
  replace HG := Lib.hid (HG.out.ext X8)
  replace HB0 := Lib.hid (HB0.out.ext X8)
  replace HBM := Lib.hid (HBM.out.ext X8)
  replace HBK3 := Lib.hid (HBK3.out.ext X8)
  replace HOq := Lib.hid (Sy.World.ownsRow_ext X8 HOq.out)
  replace HIl := Lib.hid (HIl.out.ext X8)
  have HWA := Lib.hid hwa
  have HPP := Lib.hid hP
  have HWN := Lib.hid hwn
  obtain ⟨y0, y1, y2, y3, y4, y5⟩ := bM.c6
  obtain ⟨z0, z1, z2, z3, z4, z5⟩ := bM.f6
  clear hwa hP hwn XA bM F8 X8
  go_upto_region 13 with (rw [HWA.out, HPP.out]; clear HWA)
  rw [HWN.out]
  clear HWN HPP y0 z0 y1 z1 y2 z2 y3 z3 y4 z4 y5 z5
  have hc := ask_joi t p _ _ b4 (HG.out.rd HRt.out) (RdS.ext HE.out HP.out) (by omega) (by omega)
  obtain ⟨t0, t1, t2, t3, t4, t5⟩ := HB0.out.c6
  go_wp2_with fail
  refine hc.mono ?_
  clear hc t0 t1 t2 t3 t4 t5
  rintro e b5 ⟨hE, v, rfl, hLs⟩
  replace HE := Lib.hid (HE.out.trans hE)
  replace HG := Lib.hid (HG.out.ext hE)
  replace HB0 := Lib.hid (HB0.out.ext hE)
  replace HBM := Lib.hid (HBM.out.ext hE)
  replace HBK3 := Lib.hid (HBK3.out.ext hE)
  replace HBM3 := Lib.hid (HBM3.out.ext hE)
  replace HOq := Lib.hid (Sy.World.ownsRow_ext hE HOq.out)
  replace HIl := Lib.hid (HIl.out.ext hE)
  clear hE
  have HLs := Lib.hid hLs
  obtain ⟨lA, lc, rfl⟩ := AnsR.slice hLs
  clear hLs
  have hc := done_any t (joiC t p) _ _ _ b5 HG.out.now HRt.out HLs.out.now HF5.out
  obtain ⟨t0, t1, t2, t3, t4, t5⟩ := HB0.out.c6
  go_wp2_with fail
  refine hc.mono ?_
  clear hc t0 t1 t2 t3 t4 t5
  rintro e b6 ⟨r, rfl, ⟨q, rfl, hLL⟩, hE⟩
  have HRm4 := Lib.hid (HG.out.got hE hLL)
  obtain ⟨m4, hm⟩ : ∃ m, (doneC t (joiC t p)).1 = m := ⟨_, rfl⟩
  rw [hm] at HRm4
  have HNm4 := Lib.hid hm
  clear hm
  obtain ⟨jA, jc, jK, jd, rfl⟩ := Sy.rd_open6 HRm4.out
  replace HRt := Lib.hid (HG.out.rd_glue hE HRt.out)
  replace HRm := Lib.hid (HG.out.rd_glue hE HRm.out)
  replace HRk := Lib.hid (HG.out.rd_glue hE HRk.out)
  replace HRm3 := Lib.hid (HG.out.rd_glue hE HRm3.out)
  replace HG := Lib.hid (HG.out.glue hE)
  replace HE := Lib.hid (HE.out.trans hE)
  replace HB0 := Lib.hid (HB0.out.ext hE)
  replace HBM := Lib.hid (HBM.out.ext hE)
  replace HBK3 := Lib.hid (HBK3.out.ext hE)
  replace HBM3 := Lib.hid (HBM3.out.ext hE)
  replace HOq := Lib.hid (Sy.World.ownsRow_ext hE HOq.out)
  replace HIl := Lib.hid (HIl.out.ext hE)
  clear hE hLL
  rw [HV5.out]
  obtain ⟨wa, hwa⟩ : ∃ q, b6.alloc (.cells #[.int .u64 0, .bool false, .string ⟨#[]⟩, .slice none 0 0, .string ⟨#[]⟩, .slice none 0 0] 26) = q := ⟨_, rfl⟩
  obtain ⟨M4, hP⟩ : ∃ q, b6.heap.size = q := ⟨_, rfl⟩
  have XA : Ext b6 wa := by rw [← hwa]; exact (Ext.refl _).alloc _
  have bM : NBox wa M4 26 #[.int .u64 0, .bool false, .string ⟨#[]⟩, .slice none 0 0, .string ⟨#[]⟩, .slice none 0 0] := by rw [← hwa, ← hP]; exact NBox.new _ _ _
  obtain ⟨b7, hwn⟩ : ∃ q, (World.setCell (World.setCell (World.setCell (World.setCell (World.setCell (World.setCell wa ⟨M4, 0, none⟩ (.int .u64 m4.id)) ⟨M4, 1, none⟩ (.bool m4.leaf)) ⟨M4, 2, none⟩ (.string m4.label)) ⟨M4, 3, none⟩ (.slice jA m4.attrs.length jc)) ⟨M4, 4, none⟩ (.string m4.text)) ⟨M4, 5, none⟩ (.slice jK m4.kids.length jd)) = q := ⟨_, rfl⟩
  have F8 : Sy.Fr wa b7 (fun k => k = M4) := by rw [← hwn]; exact Sy.Fr.six _ _ _ _ _ _ _ _
  have X8 : Ext b6 b7 := Sy.Fr.ext XA F8 (fun q hq => by rw [show q = M4 from hq, hP]; exact Nat.le_refl _)
  have HBM4 : Hid (NBox b7 M4 26 #[.int .u64 m4.id, .bool m4.leaf, .string m4.label, .slice jA m4.attrs.length jc, .string m4.text, .slice jK m4.kids.length jd]) := Lib.hid (by rw [← hwn]; exact Sy.NBox.six bM _ _ _ _ _ _)
  have HLM4 := Lib.hid (show B < M4 from by rw [← hP]; exact HB0.out.lt)
  have HWM4 := Lib.hid (show w.heap.size ≤ M4 from by rw [← hP]; exact HE.out.size)
  replace HE := Lib.hid (HE.out.trans X8)
  replace HG := Lib.hid (HG.out.ext X8)
  replace HB0 := Lib.hid (HB0.out.ext X8)
  replace HBM := Lib.hid (HBM.out.ext X8)
  replace HBK3 := Lib.hid (HBK3.out.ext X8)
  replace HBM3 := Lib.hid (HBM3.out.ext X8)
  replace HOq := Lib.hid (Sy.World.ownsRow_ext X8 HOq.out)
  replace HIl := Lib.hid (HIl.out.ext X8)
  have HWA := Lib.hid hwa
  have HPP := Lib.hid hP
  have HWN := Lib.hid hwn
  obtain ⟨y0, y1, y2, y3, y4, y5⟩ := bM.c6
  obtain ⟨z0, z1, z2, z3, z4, z5⟩ := bM.f6
  clear hwa hP hwn XA bM F8 X8
  go_upto_region 15 with (rw [HWA.out, HPP.out]; clear HWA)
  rw [HWN.out]
  clear HWN HPP y0 z0 y1 z1 y2 z2 y3 z3 y4 z4 y5 z5
  go_wp2_with fail
  go_ret
  exact ⟨_, rfl, rfl, HE.out⟩
end Go.Proofs.Ytofcbclokkjfjaa.Wi
