/- Chapter 24: OutlineBack (25). (Printed by gouback2.py.) -/
import Derived.Test.YtofcbclokkjfjaaOuIndent
namespace Go.Proofs.Ytofcbclokkjfjaa.Wi
open Go.RowKit Go.Proofs.Ytofcbclokkjfjaa.Bw Go.Proofs.Ytofcbclokkjfjaa.Bs

theorem bump_set {p : List Int} (hne : p ≠ []) {x : Int} : p.set (p.length - 1) (lastN p + x) = bump p x := by
 unfold bump
 have h := Sy.snoc_of hne
 have hl : p.length = p.dropLast.length + 1 := by rw [List.length_dropLast]; have := List.length_pos_iff.2 hne; omega
 have e : p.length - 1 = p.dropLast.length := by omega
 rw [e]
 have h2 : p.set p.dropLast.length (lastN p + x) = (p.dropLast ++ [lastN p]).set p.dropLast.length (lastN p + x) := by
  congr 1
 rw [h2, List.set_append_right _ _ (Nat.le_refl _)]
 simp
theorem rsame_self (t : Nd) (u v : Value) (w : World) (h1 : t.rd w u) (h2 : t.rd w v) : Calls Try.prog 44 #[u, v] w (Ret w fun r _ => r = .bool true) := by
 have h := rsame_any t.cnt t t u v w (Nat.le_refl _) h1 h2
 rw [Nd.same_refl] at h
 exact h
theorem own_block_lt {W : World} {b e n c g : Nat} {xs : List Value} (h : W.ownsRow b e 1 (.slice (some ⟨g, 0, none⟩) n c) n xs) : g < W.heap.size := by
 rcases h.2 with ⟨h, -⟩ | ⟨g', cap, cur, h1, -, h2, -⟩
 ·cases h
 ·cases h1
  exact (Array.getElem?_eq_some_iff.1 h2).1
set_option maxRecDepth 100000 in
set_option maxHeartbeats 16000000 in
theorem back25_any (t : Nd) (p : List Int) (cut nid : Int) (tv pv : Value) (w : World) (ht : t.rd w tv) (hp : RdI w p pv) (hid : 0 ≤ nid ∧ nid ≤ 18446744073709551615) (hwt : t.wt ≤ 400) (hpl : p.length ≤ 63) (hpv : ∀ i ∈ p, -1000 ≤ i ∧ i ≤ 1000) (hbT : backT t p cut nid = true) (hbM : backM t p = true) :
  Calls Try.prog 25 #[tv, pv, .int .i64 cut, .int .u64 nid] w (Ret w fun r _ => r = .bool true) := by
 obtain ⟨uA, uc, uK, ud, rfl⟩ := Sy.rd_open6 ht
 obtain ⟨w1, hw1⟩ : ∃ W, w.alloc (.cells #[.int .u64 t.id, .bool t.leaf, .string t.label, .slice uA t.attrs.length uc, .string t.text, .slice uK t.kids.length ud] 26) = W := ⟨_, rfl⟩
 obtain ⟨B, hB⟩ : ∃ B, w.heap.size = B := ⟨_, rfl⟩
 have E1 : Ext w w1 := by rw [← hw1]; exact (Ext.refl w).alloc _
 have HB0 := Lib.hid (show NBox w1 B 26 #[.int .u64 t.id, .bool t.leaf, .string t.label, .slice uA t.attrs.length uc, .string t.text, .slice uK t.kids.length ud] from by rw [← hw1, ← hB]; exact NBox.new w 26 _)
 have HG := Lib.hid ((Sy.GW.refl (Sy.Wo.refl w)).ext E1)
 have HE := Lib.hid E1
 have HW1 := Lib.hid hw1
 have HBB := Lib.hid hB
 have HRt := Lib.hid ht
 have HP := Lib.hid hp
 clear hw1 hB E1 ht hp
 have hwi := (Nd.weigh_iff t (top := 400) (by decide)).2 (by omega)
 have hc := weigh_any t.cnt t _ 400 w1 (Nat.le_refl _) (HG.out.rd HRt.out) (by decide) (by decide)
 obtain ⟨WG, hWG⟩ : ∃ x, t.weigh 400 = x := ⟨_, rfl⟩
 rw [hWG] at hc hwi
 have d1 : decide ((400 : Int) < WG) = false := decide_eq_false (by omega)
 obtain ⟨pA, pc, rfl, -⟩ := id HP.out
 have d2 : decide ((63 : Int) < (p.length : Int)) = false := decide_eq_false (by omega)
 unfold backT at hbT
 obtain ⟨hf1, hv1, hk1⟩ := backs_open hbT
 have HF1 := Lib.hid hf1
 have HV1 := Lib.hid hv1
 have HK1 := Lib.hid hk1
 have HBM0 := Lib.hid hbM
 have HPV := Lib.hid hpv
 clear hwi hWG hbT hf1 hv1 hk1 hbM hpv
 obtain ⟨t0, t1, t2, t3, t4, t5⟩ := HB0.out.c6
 go_enter Try.func25, Try.ntmps25
 go_upto_region 1 with fail
 rw [HW1.out, HBB.out]
 clear HW1
 go_wp2_with fail
 refine hc.mono ?_
 clear hc t0 t1 t2 t3 t4 t5
 rintro e w2 ⟨r, rfl, rfl, hE⟩
 replace HE := Lib.hid (HE.out.trans hE)
 replace HG := Lib.hid (HG.out.ext hE)
 replace HB0 := Lib.hid (HB0.out.ext hE)
 clear hE
 have hc := ask_spl t p _ _ w2 (HG.out.rd HRt.out) (RdS.ext HE.out HP.out) (by omega) (by omega) cut nid hid
 obtain ⟨t0, t1, t2, t3, t4, t5⟩ := HB0.out.c6
 go_wp2_with fail
 refine hc.mono ?_
 clear hc t0 t1 t2 t3 t4 t5
 rintro e w3 ⟨hE, v, rfl, hLs⟩
 replace HE := Lib.hid (HE.out.trans hE)
 replace HG := Lib.hid (HG.out.ext hE)
 replace HB0 := Lib.hid (HB0.out.ext hE)
 clear hE
 have HLs := Lib.hid hLs
 obtain ⟨lA, lc, rfl⟩ := AnsR.slice hLs
 clear hLs
 clear d1 d2
 have hc := done_any t (splC t p cut nid) _ _ _ w3 HG.out.now HRt.out HLs.out.now HF1.out
 obtain ⟨t0, t1, t2, t3, t4, t5⟩ := HB0.out.c6
 go_wp2_with fail
 refine hc.mono ?_
 clear hc t0 t1 t2 t3 t4 t5
 rintro e w4 ⟨r, rfl, ⟨q, rfl, hLL⟩, hE⟩
 have HRm := Lib.hid (HG.out.got hE hLL)
 obtain ⟨m, hm⟩ : ∃ m, (doneC t (splC t p cut nid)).1 = m := ⟨_, rfl⟩
 rw [hm] at HRm
 have HNm := Lib.hid hm
 clear hm
 obtain ⟨mA, mc, mK, md, rfl⟩ := Sy.rd_open6 HRm.out
 replace HRt := Lib.hid (HG.out.rd_glue hE HRt.out)
 replace HG := Lib.hid (HG.out.glue hE)
 replace HE := Lib.hid (HE.out.trans hE)
 replace HB0 := Lib.hid (HB0.out.ext hE)
 clear hE hLL
 obtain ⟨ok, hok⟩ : ∃ b, (doneC t (splC t p cut nid)).2.1 = b := ⟨_, rfl⟩
 rw [HV1.out, hok]
 rw [hok] at HK1
 clear hok
 obtain ⟨wa, hwa⟩ : ∃ q, w4.alloc (.cells #[.int .u64 0, .bool false, .string ⟨#[]⟩, .slice none 0 0, .string ⟨#[]⟩, .slice none 0 0] 26) = q := ⟨_, rfl⟩
 obtain ⟨M, hP⟩ : ∃ q, w4.heap.size = q := ⟨_, rfl⟩
 have XA : Ext w4 wa := by rw [← hwa]; exact (Ext.refl _).alloc _
 have bM : NBox wa M 26 #[.int .u64 0, .bool false, .string ⟨#[]⟩, .slice none 0 0, .string ⟨#[]⟩, .slice none 0 0] := by rw [← hwa, ← hP]; exact NBox.new _ _ _
 obtain ⟨w5, hwn⟩ : ∃ q, (World.setCell (World.setCell (World.setCell (World.setCell (World.setCell (World.setCell wa ⟨M, 0, none⟩ (.int .u64 m.id)) ⟨M, 1, none⟩ (.bool m.leaf)) ⟨M, 2, none⟩ (.string m.label)) ⟨M, 3, none⟩ (.slice mA m.attrs.length mc)) ⟨M, 4, none⟩ (.string m.text)) ⟨M, 5, none⟩ (.slice mK m.kids.length md)) = q := ⟨_, rfl⟩
 have F8 : Sy.Fr wa w5 (fun k => k = M) := by rw [← hwn]; exact Sy.Fr.six _ _ _ _ _ _ _ _
 have X8 : Ext w4 w5 := Sy.Fr.ext XA F8 (fun q hq => by rw [show q = M from hq, hP]; exact Nat.le_refl _)
 have HBM : Hid (NBox w5 M 26 #[.int .u64 m.id, .bool m.leaf, .string m.label, .slice mA m.attrs.length mc, .string m.text, .slice mK m.kids.length md]) := Lib.hid (by rw [← hwn]; exact Sy.NBox.six bM _ _ _ _ _ _)
 have HLM := Lib.hid (show B < M from by rw [← hP]; exact HB0.out.lt)
 have HWM := Lib.hid (show w.heap.size ≤ M from by rw [← hP]; exact HE.out.size)
 have HSM := Lib.hid (HG.out.fresh M (by rw [← hP]; exact Nat.le_refl _))
 replace HE := Lib.hid (HE.out.trans X8)
 replace HG := Lib.hid (HG.out.ext X8)
 replace HB0 := Lib.hid (HB0.out.ext X8)
 have HWA := Lib.hid hwa
 have HPP := Lib.hid hP
 have HWN := Lib.hid hwn
 obtain ⟨y0, y1, y2, y3, y4, y5⟩ := bM.c6
 obtain ⟨z0, z1, z2, z3, z4, z5⟩ := bM.f6
 clear hwa hP hwn XA bM F8 X8
 go_upto_region 5 with (rw [HWA.out, HPP.out]; clear HWA)
 rw [HWN.out]
 clear HWN HPP y0 z0 y1 z1 y2 z2 y3 z3 y4 z4 y5 z5
 go_upto_if 53 with fail
 go_cut [9, 10, 14, 15, 16] from 54 to 80 (fun s9 s10 s14 s15 s16 wx => ∃ (wg : World) (S : Nat → Prop), Hid (Ext w wx) ∧ Hid (NBox wx B 26 #[.int .u64 t.id, .bool t.leaf, .string t.label, .slice uA t.attrs.length uc, .string t.text, .slice uK t.kids.length ud]) ∧ Hid (NBox wx M 26 #[.int .u64 m.id, .bool m.leaf, .string m.label, .slice mA m.attrs.length mc, .string m.text, .slice mK m.kids.length md]) ∧ Hid (Sy.GW w w wg wx S) ∧ Hid (S M) ∧ Hid (t.rd wg (.agg #[.int .u64 t.id, .bool t.leaf, .string t.label, .slice uA t.attrs.length uc, .string t.text, .slice uK t.kids.length ud])))
 case first =>
  cases ok with
  | false =>
   go_wp2_with fail
   go_meet
   exact ⟨_, _, HE, HB0, HBM, HG, HSM, HRt⟩
  | true =>
   obtain ⟨hw1, hf2, hd2⟩ := HK1.out rfl
   rw [HNm.out] at hw1 hf2 hd2
   have HF2 := Lib.hid hf2
   have HD2 := Lib.hid hd2
   clear hf2 hd2
   have hc := ask_joi m p _ _ w5 (HG.out.rd HRm.out) (RdS.ext HE.out HP.out) (by omega) (by omega)
   obtain ⟨t0, t1, t2, t3, t4, t5⟩ := HBM.out.c6
   go_wp2_with fail
   refine hc.mono ?_
   clear hc t0 t1 t2 t3 t4 t5
   rintro e w6 ⟨hE, v, rfl, hLs⟩
   replace HE := Lib.hid (HE.out.trans hE)
   replace HG := Lib.hid (HG.out.ext hE)
   replace HB0 := Lib.hid (HB0.out.ext hE)
   replace HBM := Lib.hid (HBM.out.ext hE)
   clear hE
   have HLs := Lib.hid hLs
   obtain ⟨lA, lc, rfl⟩ := AnsR.slice hLs
   clear hLs
   have hc := done_any m (joiC m p) _ _ _ w6 HG.out.now HRm.out HLs.out.now HF2.out
   obtain ⟨t0, t1, t2, t3, t4, t5⟩ := HBM.out.c6
   go_wp2_with fail
   refine hc.mono ?_
   clear hc t0 t1 t2 t3 t4 t5
   rintro e w7 ⟨r, rfl, ⟨q, rfl, hLL⟩, hE⟩
   rw [HD2.out] at hLL ⊢
   dsimp only at hLL ⊢
   have HRk := Lib.hid (HG.out.got hE hLL)
   obtain ⟨kA, kc, kK, kd, rfl⟩ := Sy.rd_open6 HRk.out
   replace HSM := Lib.hid (HG.out.keep hE HSM.out HBM.out.lt)
   replace HRt := Lib.hid (HG.out.rd_glue hE HRt.out)
   replace HRm := Lib.hid (HG.out.rd_glue hE HRm.out)
   replace HG := Lib.hid (HG.out.glue hE)
   replace HE := Lib.hid (HE.out.trans hE)
   replace HB0 := Lib.hid (HB0.out.ext hE)
   replace HBM := Lib.hid (HBM.out.ext hE)
   clear hE hLL
   obtain ⟨wa, hwa⟩ : ∃ q, w7.alloc (.cells #[.int .u64 0, .bool false, .string ⟨#[]⟩, .slice none 0 0, .string ⟨#[]⟩, .slice none 0 0] 26) = q := ⟨_, rfl⟩
   obtain ⟨K1, hP⟩ : ∃ q, w7.heap.size = q := ⟨_, rfl⟩
   have XA : Ext w7 wa := by rw [← hwa]; exact (Ext.refl _).alloc _
   have bM : NBox wa K1 26 #[.int .u64 0, .bool false, .string ⟨#[]⟩, .slice none 0 0, .string ⟨#[]⟩, .slice none 0 0] := by rw [← hwa, ← hP]; exact NBox.new _ _ _
   obtain ⟨w8, hwn⟩ : ∃ q, (World.setCell (World.setCell (World.setCell (World.setCell (World.setCell (World.setCell wa ⟨K1, 0, none⟩ (.int .u64 t.id)) ⟨K1, 1, none⟩ (.bool t.leaf)) ⟨K1, 2, none⟩ (.string t.label)) ⟨K1, 3, none⟩ (.slice kA t.attrs.length kc)) ⟨K1, 4, none⟩ (.string t.text)) ⟨K1, 5, none⟩ (.slice kK t.kids.length kd)) = q := ⟨_, rfl⟩
   have F8 : Sy.Fr wa w8 (fun k => k = K1) := by rw [← hwn]; exact Sy.Fr.six _ _ _ _ _ _ _ _
   have X8 : Ext w7 w8 := Sy.Fr.ext XA F8 (fun q hq => by rw [show q = K1 from hq, hP]; exact Nat.le_refl _)
   have HBK1 : Hid (NBox w8 K1 26 #[.int .u64 t.id, .bool t.leaf, .string t.label, .slice kA t.attrs.length kc, .string t.text, .slice kK t.kids.length kd]) := Lib.hid (by rw [← hwn]; exact Sy.NBox.six bM _ _ _ _ _ _)
   have HLK1 := Lib.hid (show B < K1 from by rw [← hP]; exact HB0.out.lt)
   have HWK1 := Lib.hid (show w.heap.size ≤ K1 from by rw [← hP]; exact HE.out.size)
   replace HE := Lib.hid (HE.out.trans X8)
   replace HG := Lib.hid (HG.out.ext X8)
   replace HB0 := Lib.hid (HB0.out.ext X8)
   replace HBM := Lib.hid (HBM.out.ext X8)
   have HWA := Lib.hid hwa
   have HPP := Lib.hid hP
   have HWN := Lib.hid hwn
   obtain ⟨y0, y1, y2, y3, y4, y5⟩ := bM.c6
   obtain ⟨z0, z1, z2, z3, z4, z5⟩ := bM.f6
   clear hwa hP hwn XA bM F8 X8
   go_upto_region 10 with (rw [HWA.out, HPP.out]; clear HWA)
   rw [HWN.out]
   clear HWN HPP y0 z0 y1 z1 y2 z2 y3 z3 y4 z4 y5 z5
   have hc := rsame_self t (.agg #[.int .u64 t.id, .bool t.leaf, .string t.label, .slice kA t.attrs.length kc, .string t.text, .slice kK t.kids.length kd]) (.agg #[.int .u64 t.id, .bool t.leaf, .string t.label, .slice uA t.attrs.length uc, .string t.text, .slice uK t.kids.length ud]) w8 (HG.out.rd HRk.out) (HG.out.rd HRt.out)
   obtain ⟨s0, s1, s2, s3, s4, s5⟩ := HBK1.out.c6
   obtain ⟨t0, t1, t2, t3, t4, t5⟩ := HB0.out.c6
   go_wp2_with fail
   refine hc.mono ?_
   clear hc s0 t0 s1 t1 s2 t2 s3 t3 s4 t4 s5 t5
   rintro e w9 ⟨r, rfl, rfl, hE⟩
   replace HE := Lib.hid (HE.out.trans hE)
   replace HG := Lib.hid (HG.out.ext hE)
   replace HB0 := Lib.hid (HB0.out.ext hE)
   replace HBM := Lib.hid (HBM.out.ext hE)
   replace HBK1 := Lib.hid (HBK1.out.ext hE)
   clear hE
   go_wp2_with fail
   go_meet
   exact ⟨_, _, HE, HB0, HBM, HG, HSM, HRt⟩
 case rest =>
  obtain ⟨wg, S, HE', HB0', HBM', HG', HSM', HRt'⟩ := hcut
  clear HE HB0 HBM HG HSM HRt HRm
  have HE := HE'
  have HB0 := HB0'
  have HBM := HBM'
  have HG := HG'
  have HSM := HSM'
  have HRt := HRt'
  clear HE' HB0' HBM' HG' HSM' HRt'
  rcases Nat.eq_zero_or_pos p.length with hp0 | hp0
  ·have d1 : ((p.length : Int) == 0) = true := by rw [hp0]; rfl
   go_wp2_with fail
   refine (works_any wc).mono ?_
   rintro e u ⟨r, rfl, rfl, hE⟩
   go_wp2_with fail
   go_ret
   exact ⟨_, rfl, rfl, HE.out.trans hE⟩
  have d1 : ((p.length : Int) == 0) = false := by rw [beq_eq_false_iff_ne]; omega
  have hne : p ≠ [] := List.length_pos_iff.1 hp0
  have hb := HBM0.out
  unfold backM at hb
  simp only [hne, decide_false, Bool.false_or, Bool.and_eq_true] at hb
  obtain ⟨⟨hbu, hbd⟩, hbi⟩ := hb
  obtain ⟨hfu, hvu, hku⟩ := backs_open hbu
  obtain ⟨hfd, hvd, hkd⟩ := backs_open hbd
  have HFU := Lib.hid hfu
  have HVU := Lib.hid hvu
  have HKU := Lib.hid hku
  have HFD := Lib.hid hfd
  have HVD := Lib.hid hvd
  have HKD := Lib.hid hkd
  have HBI := Lib.hid hbi
  obtain ⟨lst, hlst⟩ : ∃ x, lastN p = x := ⟨_, rfl⟩
  have hpl1 : p[p.length - 1]? = some lst := by rw [← hlst]; exact last_at hne
  have hlb := HPV.out lst (List.mem_of_getElem? hpl1)
  obtain ⟨pu, hpu⟩ : ∃ x, bump p (-1) = x := ⟨_, rfl⟩
  obtain ⟨pd, hpd⟩ : ∃ x, bump p 1 = x := ⟨_, rfl⟩
  have HPU := Lib.hid hpu
  have HPD := Lib.hid hpd
  have HU := Lib.hid (show p.set (p.length - 1) (lst - 1) = pu from by rw [← hpu, ← bump_set hne, hlst]; rfl)
  have HD := Lib.hid (show p.set (p.length - 1) (lst + 1) = pd from by rw [← hpd, ← bump_set hne, hlst])
  clear hpu hpd
  have HPL := Lib.hid hpl1
  have x1 : (0 : Int) ≤ (p.length : Int) - 1 := by omega
  have x2 : (p.length : Int) - 1 < (p.length : Int) := by omega
  have x3 : ((p.length : Int) - 1).toNat = p.length - 1 := by omega
  have x4 : IntKind.i64.wrap ((p.length : Int) - 1) = (p.length : Int) - 1 := IntWalk.i64_in _ (by omega)
  have x5 : IntKind.i64.wrap (lst - 1) = lst - 1 := IntWalk.i64_in _ (by omega)
  have x6 : IntKind.i64.wrap (lst + 1) = lst + 1 := IntWalk.i64_in _ (by omega)
  clear hbu hbd hbi hfu hvu hku hfd hvd hkd hlst hpl1 hne HBM0
  have hc := copied_any p _ wc (RdS.ext HE.out HP.out) (by omega)
  have HXu := Lib.hid HBM.out.lt
  have HFR := Lib.hid HG.out.fresh
  go_wp2_with fail
  refine hc.mono ?_
  clear hc
  rintro e v1 ⟨r, rfl, hO, hE⟩
  have HV1S0 := Lib.hid hE.size
  replace HE := Lib.hid (HE.out.trans hE)
  replace HG := Lib.hid (HG.out.ext hE)
  replace HB0 := Lib.hid (HB0.out.ext hE)
  replace HBM := Lib.hid (HBM.out.ext hE)
  clear hE
  obtain ⟨gu, cu, rfl, hgu, hcu1, hcu2⟩ := Sy.owns_open hO hp0
  unfold maxLen at hcu2
  have HGu := Lib.hid hgu
  have HOu := Lib.hid hO
  have HOu0 := Lib.hid hO
  have HFu := Lib.hid (HFR.out gu hgu)
  clear hO hgu
  have HV1S := Lib.hid HV1S0.out
  have hc := copied_any p _ v1 (RdS.ext HE.out HP.out) (by omega)
  have HXd := Lib.hid HBM.out.lt
  go_wp2_with fail
  refine hc.mono ?_
  clear hc
  rintro e v2 ⟨r, rfl, hO, hE⟩
  replace HE := Lib.hid (HE.out.trans hE)
  replace HG := Lib.hid (HG.out.ext hE)
  replace HB0 := Lib.hid (HB0.out.ext hE)
  replace HBM := Lib.hid (HBM.out.ext hE)
  replace HOu := Lib.hid (Sy.World.ownsRow_ext hE HOu.out)
  clear hE
  obtain ⟨gd, cd, rfl, hgd, hcd1, hcd2⟩ := Sy.owns_open hO hp0
  unfold maxLen at hcd2
  have HGd := Lib.hid hgd
  have HOd := Lib.hid hO
  have HFd := Lib.hid (HFR.out gd (Nat.le_trans HV1S.out hgd))
  clear hO hgd
  have HUDu := Lib.hid (show gd ≠ gu from by
   have h1 := own_block_lt HOu0.out
   have h2 := HGd.out
   omega)
  have HUDd := Lib.hid (show gu ≠ gd from fun h => HUDu.out h.symm)
  obtain ⟨k1, k2⟩ := Sy.owns_cell HOu.out (show (p.map (Value.int .i64))[p.length - 1]? = some (.int .i64 lst) by rw [List.getElem?_map, HPL.out]; rfl)
  go_upto_region 17 with fail
  clear k1 k2
  have F9 := Sy.Fr.setCell v2 gu (p.length - 1) (.int .i64 (lst - 1))
  have hx1 := HXu.out
  have hx2 := HGu.out
  have hx3 := HLM.out
  have hx4 := HWM.out
  have HO9 := Lib.hid (Sy.owns_setAt HOu.out (p.length - 1) (.int .i64 (lst - 1)))
  obtain ⟨v3, hwn⟩ : ∃ q, World.setCell v2 ⟨gu, p.length - 1, none⟩ (.int .i64 (lst - 1)) = q := ⟨_, rfl⟩
  rw [hwn] at F9 HO9
  have HG' := Lib.hid (HG.out.fr F9 (fun q hq => by rw [show q = gu from hq]; exact ⟨HFu.out, by omega⟩))
  have HE' := Lib.hid (Sy.Fr.ext HE.out F9 (fun q hq => by rw [show q = gu from hq]; omega))
  have HB0' : Hid (NBox v3 B 26 #[.int .u64 t.id, .bool t.leaf, .string t.label, .slice uA t.attrs.length uc, .string t.text, .slice uK t.kids.length ud]) := Lib.hid (Sy.NBox.fr F9 HB0.out (show ¬ B = gu by omega))
  have HBM' : Hid (NBox v3 M 26 #[.int .u64 m.id, .bool m.leaf, .string m.label, .slice mA m.attrs.length mc, .string m.text, .slice mK m.kids.length md]) := Lib.hid (Sy.NBox.fr F9 HBM.out (show ¬ M = gu by omega))
  have HOd' := Lib.hid (Sy.owns_fr F9 HOd.out (fun b hb hk => by cases hb; exact absurd (show gd = gu from hk) HUDu.out))
  clear HG HE HB0 HBM HOu HOd
  have HG := HG'
  have HE := HE'
  have HB0 := HB0'
  have HBM := HBM'
  have HOd := HOd'
  have HOu := HO9
  clear HG' HE' HB0' HBM' HOd' HO9 hx1 hx2 hx3 hx4 F9
  rw [hwn]
  clear hwn
  obtain ⟨k1, k2⟩ := Sy.owns_cell HOd.out (show (p.map (Value.int .i64))[p.length - 1]? = some (.int .i64 lst) by rw [List.getElem?_map, HPL.out]; rfl)
  go_upto_region 18 with fail
  clear k1 k2
  have F9 := Sy.Fr.setCell v3 gd (p.length - 1) (.int .i64 (lst + 1))
  have hx1 := HXd.out
  have hx2 := HGd.out
  have hx3 := HLM.out
  have hx4 := HWM.out
  have HO9 := Lib.hid (Sy.owns_setAt HOd.out (p.length - 1) (.int .i64 (lst + 1)))
  obtain ⟨v4, hwn⟩ : ∃ q, World.setCell v3 ⟨gd, p.length - 1, none⟩ (.int .i64 (lst + 1)) = q := ⟨_, rfl⟩
  rw [hwn] at F9 HO9
  have HG' := Lib.hid (HG.out.fr F9 (fun q hq => by rw [show q = gd from hq]; exact ⟨HFd.out, by omega⟩))
  have HE' := Lib.hid (Sy.Fr.ext HE.out F9 (fun q hq => by rw [show q = gd from hq]; omega))
  have HB0' : Hid (NBox v4 B 26 #[.int .u64 t.id, .bool t.leaf, .string t.label, .slice uA t.attrs.length uc, .string t.text, .slice uK t.kids.length ud]) := Lib.hid (Sy.NBox.fr F9 HB0.out (show ¬ B = gd by omega))
  have HBM' : Hid (NBox v4 M 26 #[.int .u64 m.id, .bool m.leaf, .string m.label, .slice mA m.attrs.length mc, .string m.text, .slice mK m.kids.length md]) := Lib.hid (Sy.NBox.fr F9 HBM.out (show ¬ M = gd by omega))
  have HOu' := Lib.hid (Sy.owns_fr F9 HOu.out (fun b hb hk => by cases hb; exact absurd (show gu = gd from hk) HUDd.out))
  clear HG HE HB0 HBM HOd HOu
  have HG := HG'
  have HE := HE'
  have HB0 := HB0'
  have HBM := HBM'
  have HOu := HOu'
  have HOd := HO9
  clear HG' HE' HB0' HBM' HOu' HO9 hx1 hx2 hx3 hx4 F9
  rw [hwn]
  clear hwn
  have hc := ask_up t p _ _ v4 (HG.out.rd HRt.out) (RdS.ext HE.out HP.out) (by omega) (by omega)
  obtain ⟨t0, t1, t2, t3, t4, t5⟩ := HB0.out.c6
  go_wp2_with fail
  refine hc.mono ?_
  clear hc t0 t1 t2 t3 t4 t5
  rintro e a1 ⟨hE, v, rfl, hLs⟩
  replace HE := Lib.hid (HE.out.trans hE)
  replace HG := Lib.hid (HG.out.ext hE)
  replace HB0 := Lib.hid (HB0.out.ext hE)
  replace HBM := Lib.hid (HBM.out.ext hE)
  replace HOu := Lib.hid (Sy.World.ownsRow_ext hE HOu.out)
  replace HOd := Lib.hid (Sy.World.ownsRow_ext hE HOd.out)
  clear hE
  have HLs := Lib.hid hLs
  obtain ⟨lA, lc, rfl⟩ := AnsR.slice hLs
  clear hLs
  have hc := done_any t (upC t p) _ _ _ a1 HG.out.now HRt.out HLs.out.now HFU.out
  obtain ⟨t0, t1, t2, t3, t4, t5⟩ := HB0.out.c6
  go_wp2_with fail
  refine hc.mono ?_
  clear hc t0 t1 t2 t3 t4 t5
  rintro e a2 ⟨r, rfl, ⟨q, rfl, hLL⟩, hE⟩
  have HRm2 := Lib.hid (HG.out.got hE hLL)
  obtain ⟨m2, hm⟩ : ∃ m, (doneC t (upC t p)).1 = m := ⟨_, rfl⟩
  rw [hm] at HRm2
  have HNm2 := Lib.hid hm
  clear hm
  obtain ⟨xA, xc, xK, xd, rfl⟩ := Sy.rd_open6 HRm2.out
  replace HSM := Lib.hid (HG.out.keep hE HSM.out HBM.out.lt)
  replace HRt := Lib.hid (HG.out.rd_glue hE HRt.out)
  replace HG := Lib.hid (HG.out.glue hE)
  replace HE := Lib.hid (HE.out.trans hE)
  replace HB0 := Lib.hid (HB0.out.ext hE)
  replace HBM := Lib.hid (HBM.out.ext hE)
  replace HOu := Lib.hid (Sy.World.ownsRow_ext hE HOu.out)
  replace HOd := Lib.hid (Sy.World.ownsRow_ext hE HOd.out)
  clear hE hLL
  obtain ⟨ok, hok⟩ : ∃ b, (doneC t (upC t p)).2.1 = b := ⟨_, rfl⟩
  rw [HVU.out, hok]
  rw [hok] at HKU
  clear hok
  have F9 : Sy.Fr a2 _ (fun k => k = M) := Sy.Fr.six a2 M (.int .u64 m2.id) (.bool m2.leaf) (.string m2.label) (.slice xA m2.attrs.length xc) (.string m2.text) (.slice xK m2.kids.length xd)
  have bP := Sy.NBox.six HBM.out (.int .u64 m2.id) (.bool m2.leaf) (.string m2.label) (.slice xA m2.attrs.length xc) (.string m2.text) (.slice xK m2.kids.length xd)
  obtain ⟨a3, hwn⟩ : ∃ q, (World.setCell (World.setCell (World.setCell (World.setCell (World.setCell (World.setCell a2 ⟨M, 0, none⟩ (.int .u64 m2.id)) ⟨M, 1, none⟩ (.bool m2.leaf)) ⟨M, 2, none⟩ (.string m2.label)) ⟨M, 3, none⟩ (.slice xA m2.attrs.length xc)) ⟨M, 4, none⟩ (.string m2.text)) ⟨M, 5, none⟩ (.slice xK m2.kids.length xd)) = q := ⟨_, rfl⟩
  rw [hwn] at F9 bP
  have hwP := HWM.out
  have hBP : B < M := HLM.out
  obtain ⟨y0, y1, y2, y3, y4, y5⟩ := HBM.out.c6
  obtain ⟨z0, z1, z2, z3, z4, z5⟩ := HBM.out.f6
  have HG' := Lib.hid (HG.out.fr F9 (fun q hq => by rw [show q = M from hq]; exact ⟨HSM.out, hwP⟩))
  have HE' := Lib.hid (Sy.Fr.ext HE.out F9 (fun q hq => by rw [show q = M from hq]; exact hwP))
  have HB0' : Hid (NBox a3 B 26 #[.int .u64 t.id, .bool t.leaf, .string t.label, .slice uA t.attrs.length uc, .string t.text, .slice uK t.kids.length ud]) := Lib.hid (Sy.NBox.fr F9 HB0.out (show ¬ B = M by omega))
  have HOu' := Lib.hid (Sy.owns_fr F9 HOu.out (fun b hb hk => by have := owns_base HOu.out b hb; have hk' : b = M := hk; have := HXu.out; omega))
  have HOd' := Lib.hid (Sy.owns_fr F9 HOd.out (fun b hb hk => by have := owns_base HOd.out b hb; have hk' : b = M := hk; have := HXd.out; omega))
  replace HG := HG'; replace HE := HE'; replace HB0 := HB0'; replace HOu := HOu'; replace HOd := HOd'
  clear HG' HE' HB0' HOu' HOd'
  clear HBM
  have HBM : Hid (NBox a3 M 26 #[.int .u64 m2.id, .bool m2.leaf, .string m2.label, .slice xA m2.attrs.length xc, .string m2.text, .slice xK m2.kids.length xd]) := Lib.hid bP
  have HWN := Lib.hid hwn
  clear bP F9 hwn
  go_upto_region 20 with fail
  rw [HWN.out]
  clear HWN hwP hBP y0 z0 y1 z1 y2 z2 y3 z3 y4 z4 y5 z5
  go_upto_if 117 with fail
  go_cut [9, 10, 13, 20, 21, 22] from 118 to 144 (fun s9 s10 s13 s20 s21 s22 wx => ∃ (wg : World) (S : Nat → Prop), s13 = .bool true ∧ Hid (Ext w wx) ∧ Hid (NBox wx B 26 #[.int .u64 t.id, .bool t.leaf, .string t.label, .slice uA t.attrs.length uc, .string t.text, .slice uK t.kids.length ud]) ∧ Hid (NBox wx M 26 #[.int .u64 m2.id, .bool m2.leaf, .string m2.label, .slice xA m2.attrs.length xc, .string m2.text, .slice xK m2.kids.length xd]) ∧ Hid (Sy.GW w w wg wx S) ∧ Hid (S M) ∧ Hid (t.rd wg (.agg #[.int .u64 t.id, .bool t.leaf, .string t.label, .slice uA t.attrs.length uc, .string t.text, .slice uK t.kids.length ud])) ∧ Hid (wx.ownsRow v1.heap.size 3 1 (.slice (some ⟨gd, 0, none⟩) p.length cd) p.length ((p.map (Value.int .i64)).set (p.length - 1) (.int .i64 (lst + 1)))))
  case first =>
   cases ok with
   | false =>
    go_wp2_with fail
    go_meet
    exact ⟨_, _, rfl, HE, HB0, HBM, HG, HSM, HRt, HOd⟩
   | true =>
    obtain ⟨hw1, hf2, hd2⟩ := HKU.out rfl
    rw [HNm2.out] at hw1 hf2 hd2
    rw [HPU.out] at hf2 hd2
    have HF2 := Lib.hid hf2
    have HD2 := Lib.hid hd2
    have hbl : (pu).length ≤ 10000 := by rw [← HU.out, List.length_set]; omega
    have HRW : Hid (RdI a3 (pu) (.slice (some ⟨gu, 0, none⟩) p.length cu)) := Lib.hid (by
     rw [← HU.out]
     have h := RdS.of_owns HOu.out
     unfold RdI
     rw [List.length_set, List.map_set]
     exact h)
    clear hf2 hd2
    have hc := ask_down m2 (pu) _ _ a3 (HG.out.rd HRm2.out) HRW.out (by omega) hbl
    obtain ⟨t0, t1, t2, t3, t4, t5⟩ := HBM.out.c6
    go_wp2_with fail
    refine hc.mono ?_
    clear hc t0 t1 t2 t3 t4 t5
    rintro e a4 ⟨hE, v, rfl, hLs⟩
    replace HE := Lib.hid (HE.out.trans hE)
    replace HG := Lib.hid (HG.out.ext hE)
    replace HB0 := Lib.hid (HB0.out.ext hE)
    replace HBM := Lib.hid (HBM.out.ext hE)
    replace HOu := Lib.hid (Sy.World.ownsRow_ext hE HOu.out)
    replace HOd := Lib.hid (Sy.World.ownsRow_ext hE HOd.out)
    clear hE
    have HLs := Lib.hid hLs
    obtain ⟨lA, lc, rfl⟩ := AnsR.slice hLs
    clear hLs
    have hc := done_any m2 (downC m2 (pu)) _ _ _ a4 HG.out.now HRm2.out HLs.out.now HF2.out
    obtain ⟨t0, t1, t2, t3, t4, t5⟩ := HBM.out.c6
    go_wp2_with fail
    refine hc.mono ?_
    clear hc t0 t1 t2 t3 t4 t5
    rintro e a5 ⟨r, rfl, ⟨q, rfl, hLL⟩, hE⟩
    rw [HD2.out] at hLL ⊢
    dsimp only at hLL ⊢
    have HRk := Lib.hid (HG.out.got hE hLL)
    obtain ⟨kA, kc, kK, kd, rfl⟩ := Sy.rd_open6 HRk.out
    replace HSM := Lib.hid (HG.out.keep hE HSM.out HBM.out.lt)
    replace HRt := Lib.hid (HG.out.rd_glue hE HRt.out)
    replace HRm2 := Lib.hid (HG.out.rd_glue hE HRm2.out)
    replace HG := Lib.hid (HG.out.glue hE)
    replace HE := Lib.hid (HE.out.trans hE)
    replace HB0 := Lib.hid (HB0.out.ext hE)
    replace HBM := Lib.hid (HBM.out.ext hE)
    replace HOu := Lib.hid (Sy.World.ownsRow_ext hE HOu.out)
    replace HOd := Lib.hid (Sy.World.ownsRow_ext hE HOd.out)
    clear hE hLL
    obtain ⟨wa, hwa⟩ : ∃ q, a5.alloc (.cells #[.int .u64 0, .bool false, .string ⟨#[]⟩, .slice none 0 0, .string ⟨#[]⟩, .slice none 0 0] 26) = q := ⟨_, rfl⟩
    obtain ⟨K2, hP⟩ : ∃ q, a5.heap.size = q := ⟨_, rfl⟩
    have XA : Ext a5 wa := by rw [← hwa]; exact (Ext.refl _).alloc _
    have bM : NBox wa K2 26 #[.int .u64 0, .bool false, .string ⟨#[]⟩, .slice none 0 0, .string ⟨#[]⟩, .slice none 0 0] := by rw [← hwa, ← hP]; exact NBox.new _ _ _
    obtain ⟨a6, hwn⟩ : ∃ q, (World.setCell (World.setCell (World.setCell (World.setCell (World.setCell (World.setCell wa ⟨K2, 0, none⟩ (.int .u64 t.id)) ⟨K2, 1, none⟩ (.bool t.leaf)) ⟨K2, 2, none⟩ (.string t.label)) ⟨K2, 3, none⟩ (.slice kA t.attrs.length kc)) ⟨K2, 4, none⟩ (.string t.text)) ⟨K2, 5, none⟩ (.slice kK t.kids.length kd)) = q := ⟨_, rfl⟩
    have F8 : Sy.Fr wa a6 (fun k => k = K2) := by rw [← hwn]; exact Sy.Fr.six _ _ _ _ _ _ _ _
    have X8 : Ext a5 a6 := Sy.Fr.ext XA F8 (fun q hq => by rw [show q = K2 from hq, hP]; exact Nat.le_refl _)
    have HBK2 : Hid (NBox a6 K2 26 #[.int .u64 t.id, .bool t.leaf, .string t.label, .slice kA t.attrs.length kc, .string t.text, .slice kK t.kids.length kd]) := Lib.hid (by rw [← hwn]; exact Sy.NBox.six bM _ _ _ _ _ _)
    have HLK2 := Lib.hid (show B < K2 from by rw [← hP]; exact HB0.out.lt)
    have HWK2 := Lib.hid (show w.heap.size ≤ K2 from by rw [← hP]; exact HE.out.size)
    replace HE := Lib.hid (HE.out.trans X8)
    replace HG := Lib.hid (HG.out.ext X8)
    replace HB0 := Lib.hid (HB0.out.ext X8)
    replace HBM := Lib.hid (HBM.out.ext X8)
    replace HOu := Lib.hid (Sy.World.ownsRow_ext X8 HOu.out)
    replace HOd := Lib.hid (Sy.World.ownsRow_ext X8 HOd.out)
    have HWA := Lib.hid hwa
    have HPP := Lib.hid hP
    have HWN := Lib.hid hwn
    obtain ⟨y0, y1, y2, y3, y4, y5⟩ := bM.c6
    obtain ⟨z0, z1, z2, z3, z4, z5⟩ := bM.f6
    clear hwa hP hwn XA bM F8 X8
    go_upto_region 23 with (rw [HWA.out, HPP.out]; clear HWA)
    rw [HWN.out]
    clear HWN HPP y0 z0 y1 z1 y2 z2 y3 z3 y4 z4 y5 z5
    have hc := rsame_self t (.agg #[.int .u64 t.id, .bool t.leaf, .string t.label, .slice kA t.attrs.length kc, .string t.text, .slice kK t.kids.length kd]) (.agg #[.int .u64 t.id, .bool t.leaf, .string t.label, .slice uA t.attrs.length uc, .string t.text, .slice uK t.kids.length ud]) a6 (HG.out.rd HRk.out) (HG.out.rd HRt.out)
    obtain ⟨s0, s1, s2, s3, s4, s5⟩ := HBK2.out.c6
    obtain ⟨t0, t1, t2, t3, t4, t5⟩ := HB0.out.c6
    go_wp2_with fail
    refine hc.mono ?_
    clear hc s0 t0 s1 t1 s2 t2 s3 t3 s4 t4 s5 t5
    rintro e a7 ⟨r, rfl, rfl, hE⟩
    replace HE := Lib.hid (HE.out.trans hE)
    replace HG := Lib.hid (HG.out.ext hE)
    replace HB0 := Lib.hid (HB0.out.ext hE)
    replace HBM := Lib.hid (HBM.out.ext hE)
    replace HBK2 := Lib.hid (HBK2.out.ext hE)
    replace HOu := Lib.hid (Sy.World.ownsRow_ext hE HOu.out)
    replace HOd := Lib.hid (Sy.World.ownsRow_ext hE HOd.out)
    clear hE
    go_wp2_with fail
    go_meet
    exact ⟨_, _, rfl, HE, HB0, HBM, HG, HSM, HRt, HOd⟩
  case rest =>
   obtain ⟨wg2, S2, rfl, HE', HB0', HBM', HG', HSM', HRt', HOd'⟩ := hcut
   clear HOd HOu
   have HOd := HOd'
   clear HOd'
   clear HE HB0 HBM HG HSM HRt HRm2
   have HE := HE'
   have HB0 := HB0'
   have HBM := HBM'
   have HG := HG'
   have HSM := HSM'
   have HRt := HRt'
   clear HE' HB0' HBM' HG' HSM' HRt'
   have hc := ask_down t p _ _ wc (HG.out.rd HRt.out) (RdS.ext HE.out HP.out) (by omega) (by omega)
   obtain ⟨t0, t1, t2, t3, t4, t5⟩ := HB0.out.c6
   go_wp2_with fail
   refine hc.mono ?_
   clear hc t0 t1 t2 t3 t4 t5
   rintro e b1 ⟨hE, v, rfl, hLs⟩
   replace HE := Lib.hid (HE.out.trans hE)
   replace HG := Lib.hid (HG.out.ext hE)
   replace HB0 := Lib.hid (HB0.out.ext hE)
   replace HBM := Lib.hid (HBM.out.ext hE)
   replace HOd := Lib.hid (Sy.World.ownsRow_ext hE HOd.out)
   clear hE
   have HLs := Lib.hid hLs
   obtain ⟨lA, lc, rfl⟩ := AnsR.slice hLs
   clear hLs
   have hc := done_any t (downC t p) _ _ _ b1 HG.out.now HRt.out HLs.out.now HFD.out
   obtain ⟨t0, t1, t2, t3, t4, t5⟩ := HB0.out.c6
   go_wp2_with fail
   refine hc.mono ?_
   clear hc t0 t1 t2 t3 t4 t5
   rintro e b2 ⟨r, rfl, ⟨q, rfl, hLL⟩, hE⟩
   have HRm3 := Lib.hid (HG.out.got hE hLL)
   obtain ⟨m3, hm⟩ : ∃ m, (doneC t (downC t p)).1 = m := ⟨_, rfl⟩
   rw [hm] at HRm3
   have HNm3 := Lib.hid hm
   clear hm
   obtain ⟨zA, zc, zK, zd, rfl⟩ := Sy.rd_open6 HRm3.out
   replace HSM := Lib.hid (HG.out.keep hE HSM.out HBM.out.lt)
   replace HRt := Lib.hid (HG.out.rd_glue hE HRt.out)
   replace HG := Lib.hid (HG.out.glue hE)
   replace HE := Lib.hid (HE.out.trans hE)
   replace HB0 := Lib.hid (HB0.out.ext hE)
   replace HBM := Lib.hid (HBM.out.ext hE)
   replace HOd := Lib.hid (Sy.World.ownsRow_ext hE HOd.out)
   clear hE hLL
   obtain ⟨ok, hok⟩ : ∃ b, (doneC t (downC t p)).2.1 = b := ⟨_, rfl⟩
   rw [HVD.out, hok]
   rw [hok] at HKD
   clear hok
   have F9 : Sy.Fr b2 _ (fun k => k = M) := Sy.Fr.six b2 M (.int .u64 m3.id) (.bool m3.leaf) (.string m3.label) (.slice zA m3.attrs.length zc) (.string m3.text) (.slice zK m3.kids.length zd)
   have bP := Sy.NBox.six HBM.out (.int .u64 m3.id) (.bool m3.leaf) (.string m3.label) (.slice zA m3.attrs.length zc) (.string m3.text) (.slice zK m3.kids.length zd)
   obtain ⟨b3, hwn⟩ : ∃ q, (World.setCell (World.setCell (World.setCell (World.setCell (World.setCell (World.setCell b2 ⟨M, 0, none⟩ (.int .u64 m3.id)) ⟨M, 1, none⟩ (.bool m3.leaf)) ⟨M, 2, none⟩ (.string m3.label)) ⟨M, 3, none⟩ (.slice zA m3.attrs.length zc)) ⟨M, 4, none⟩ (.string m3.text)) ⟨M, 5, none⟩ (.slice zK m3.kids.length zd)) = q := ⟨_, rfl⟩
   rw [hwn] at F9 bP
   have hwP := HWM.out
   have hBP : B < M := HLM.out
   obtain ⟨y0, y1, y2, y3, y4, y5⟩ := HBM.out.c6
   obtain ⟨z0, z1, z2, z3, z4, z5⟩ := HBM.out.f6
   have HG' := Lib.hid (HG.out.fr F9 (fun q hq => by rw [show q = M from hq]; exact ⟨HSM.out, hwP⟩))
   have HE' := Lib.hid (Sy.Fr.ext HE.out F9 (fun q hq => by rw [show q = M from hq]; exact hwP))
   have HB0' : Hid (NBox b3 B 26 #[.int .u64 t.id, .bool t.leaf, .string t.label, .slice uA t.attrs.length uc, .string t.text, .slice uK t.kids.length ud]) := Lib.hid (Sy.NBox.fr F9 HB0.out (show ¬ B = M by omega))
   have HOd' := Lib.hid (Sy.owns_fr F9 HOd.out (fun b hb hk => by have := owns_base HOd.out b hb; have hk' : b = M := hk; have := HXd.out; omega))
   replace HG := HG'; replace HE := HE'; replace HB0 := HB0'; replace HOd := HOd'
   clear HG' HE' HB0' HOd'
   clear HBM
   have HBM : Hid (NBox b3 M 26 #[.int .u64 m3.id, .bool m3.leaf, .string m3.label, .slice zA m3.attrs.length zc, .string m3.text, .slice zK m3.kids.length zd]) := Lib.hid bP
   have HWN := Lib.hid hwn
   clear bP F9 hwn
   go_upto_region 28 with fail
   rw [HWN.out]
   clear HWN hwP hBP y0 z0 y1 z1 y2 z2 y3 z3 y4 z4 y5 z5
   go_upto_if 160 with fail
   go_cut [9, 10, 13, 23, 24, 25] from 161 to 187 (fun s9 s10 s13 s23 s24 s25 wx => ∃ (wg : World) (S : Nat → Prop), s13 = .bool true ∧ Hid (Ext w wx) ∧ Hid (NBox wx B 26 #[.int .u64 t.id, .bool t.leaf, .string t.label, .slice uA t.attrs.length uc, .string t.text, .slice uK t.kids.length ud]) ∧ Hid (NBox wx M 26 #[.int .u64 m3.id, .bool m3.leaf, .string m3.label, .slice zA m3.attrs.length zc, .string m3.text, .slice zK m3.kids.length zd]) ∧ Hid (Sy.GW w w wg wx S) ∧ Hid (S M) ∧ Hid (t.rd wg (.agg #[.int .u64 t.id, .bool t.leaf, .string t.label, .slice uA t.attrs.length uc, .string t.text, .slice uK t.kids.length ud])))
   case first =>
    cases ok with
    | false =>
     go_wp2_with fail
     go_meet
     exact ⟨_, _, rfl, HE, HB0, HBM, HG, HSM, HRt⟩
    | true =>
     obtain ⟨hw1, hf2, hd2⟩ := HKD.out rfl
     rw [HNm3.out] at hw1 hf2 hd2
     rw [HPD.out] at hf2 hd2
     have HF2 := Lib.hid hf2
     have HD2 := Lib.hid hd2
     have hbl : (pd).length ≤ 10000 := by rw [← HD.out, List.length_set]; omega
     have HRW : Hid (RdI b3 (pd) (.slice (some ⟨gd, 0, none⟩) p.length cd)) := Lib.hid (by
      rw [← HD.out]
      have h := RdS.of_owns HOd.out
      unfold RdI
      rw [List.length_set, List.map_set]
      exact h)
     clear hf2 hd2
     have hc := ask_up m3 (pd) _ _ b3 (HG.out.rd HRm3.out) HRW.out (by omega) hbl
     obtain ⟨t0, t1, t2, t3, t4, t5⟩ := HBM.out.c6
     go_wp2_with fail
     refine hc.mono ?_
     clear hc t0 t1 t2 t3 t4 t5
     rintro e b4 ⟨hE, v, rfl, hLs⟩
     replace HE := Lib.hid (HE.out.trans hE)
     replace HG := Lib.hid (HG.out.ext hE)
     replace HB0 := Lib.hid (HB0.out.ext hE)
     replace HBM := Lib.hid (HBM.out.ext hE)
     replace HOd := Lib.hid (Sy.World.ownsRow_ext hE HOd.out)
     clear hE
     have HLs := Lib.hid hLs
     obtain ⟨lA, lc, rfl⟩ := AnsR.slice hLs
     clear hLs
     have hc := done_any m3 (upC m3 (pd)) _ _ _ b4 HG.out.now HRm3.out HLs.out.now HF2.out
     obtain ⟨t0, t1, t2, t3, t4, t5⟩ := HBM.out.c6
     go_wp2_with fail
     refine hc.mono ?_
     clear hc t0 t1 t2 t3 t4 t5
     rintro e b5 ⟨r, rfl, ⟨q, rfl, hLL⟩, hE⟩
     rw [HD2.out] at hLL ⊢
     dsimp only at hLL ⊢
     have HRk := Lib.hid (HG.out.got hE hLL)
     obtain ⟨kA, kc, kK, kd, rfl⟩ := Sy.rd_open6 HRk.out
     replace HSM := Lib.hid (HG.out.keep hE HSM.out HBM.out.lt)
     replace HRt := Lib.hid (HG.out.rd_glue hE HRt.out)
     replace HRm3 := Lib.hid (HG.out.rd_glue hE HRm3.out)
     replace HG := Lib.hid (HG.out.glue hE)
     replace HE := Lib.hid (HE.out.trans hE)
     replace HB0 := Lib.hid (HB0.out.ext hE)
     replace HBM := Lib.hid (HBM.out.ext hE)
     replace HOd := Lib.hid (Sy.World.ownsRow_ext hE HOd.out)
     clear hE hLL
     obtain ⟨wa, hwa⟩ : ∃ q, b5.alloc (.cells #[.int .u64 0, .bool false, .string ⟨#[]⟩, .slice none 0 0, .string ⟨#[]⟩, .slice none 0 0] 26) = q := ⟨_, rfl⟩
     obtain ⟨K4, hP⟩ : ∃ q, b5.heap.size = q := ⟨_, rfl⟩
     have XA : Ext b5 wa := by rw [← hwa]; exact (Ext.refl _).alloc _
     have bM : NBox wa K4 26 #[.int .u64 0, .bool false, .string ⟨#[]⟩, .slice none 0 0, .string ⟨#[]⟩, .slice none 0 0] := by rw [← hwa, ← hP]; exact NBox.new _ _ _
     obtain ⟨b6, hwn⟩ : ∃ q, (World.setCell (World.setCell (World.setCell (World.setCell (World.setCell (World.setCell wa ⟨K4, 0, none⟩ (.int .u64 t.id)) ⟨K4, 1, none⟩ (.bool t.leaf)) ⟨K4, 2, none⟩ (.string t.label)) ⟨K4, 3, none⟩ (.slice kA t.attrs.length kc)) ⟨K4, 4, none⟩ (.string t.text)) ⟨K4, 5, none⟩ (.slice kK t.kids.length kd)) = q := ⟨_, rfl⟩
     have F8 : Sy.Fr wa b6 (fun k => k = K4) := by rw [← hwn]; exact Sy.Fr.six _ _ _ _ _ _ _ _
     have X8 : Ext b5 b6 := Sy.Fr.ext XA F8 (fun q hq => by rw [show q = K4 from hq, hP]; exact Nat.le_refl _)
     have HBK4 : Hid (NBox b6 K4 26 #[.int .u64 t.id, .bool t.leaf, .string t.label, .slice kA t.attrs.length kc, .string t.text, .slice kK t.kids.length kd]) := Lib.hid (by rw [← hwn]; exact Sy.NBox.six bM _ _ _ _ _ _)
     have HLK4 := Lib.hid (show B < K4 from by rw [← hP]; exact HB0.out.lt)
     have HWK4 := Lib.hid (show w.heap.size ≤ K4 from by rw [← hP]; exact HE.out.size)
     replace HE := Lib.hid (HE.out.trans X8)
     replace HG := Lib.hid (HG.out.ext X8)
     replace HB0 := Lib.hid (HB0.out.ext X8)
     replace HBM := Lib.hid (HBM.out.ext X8)
     replace HOd := Lib.hid (Sy.World.ownsRow_ext X8 HOd.out)
     have HWA := Lib.hid hwa
     have HPP := Lib.hid hP
     have HWN := Lib.hid hwn
     obtain ⟨y0, y1, y2, y3, y4, y5⟩ := bM.c6
     obtain ⟨z0, z1, z2, z3, z4, z5⟩ := bM.f6
     clear hwa hP hwn XA bM F8 X8
     go_upto_region 31 with (rw [HWA.out, HPP.out]; clear HWA)
     rw [HWN.out]
     clear HWN HPP y0 z0 y1 z1 y2 z2 y3 z3 y4 z4 y5 z5
     have hc := rsame_self t (.agg #[.int .u64 t.id, .bool t.leaf, .string t.label, .slice kA t.attrs.length kc, .string t.text, .slice kK t.kids.length kd]) (.agg #[.int .u64 t.id, .bool t.leaf, .string t.label, .slice uA t.attrs.length uc, .string t.text, .slice uK t.kids.length ud]) b6 (HG.out.rd HRk.out) (HG.out.rd HRt.out)
     obtain ⟨s0, s1, s2, s3, s4, s5⟩ := HBK4.out.c6
     obtain ⟨t0, t1, t2, t3, t4, t5⟩ := HB0.out.c6
     go_wp2_with fail
     refine hc.mono ?_
     clear hc s0 t0 s1 t1 s2 t2 s3 t3 s4 t4 s5 t5
     rintro e b7 ⟨r, rfl, rfl, hE⟩
     replace HE := Lib.hid (HE.out.trans hE)
     replace HG := Lib.hid (HG.out.ext hE)
     replace HB0 := Lib.hid (HB0.out.ext hE)
     replace HBM := Lib.hid (HBM.out.ext hE)
     replace HBK4 := Lib.hid (HBK4.out.ext hE)
     replace HOd := Lib.hid (Sy.World.ownsRow_ext hE HOd.out)
     clear hE
     go_wp2_with fail
     go_meet
     exact ⟨_, _, rfl, HE, HB0, HBM, HG, HSM, HRt⟩
   case rest =>
    obtain ⟨wg3, S3, rfl, HE', HB0', HBM', HG', HSM', HRt'⟩ := hcut
    clear HOd
    clear HE HB0 HBM HG HSM HRt HRm3
    have HE := HE'
    have HB0 := HB0'
    have HBM := HBM'
    have HG := HG'
    have HSM := HSM'
    have HRt := HRt'
    clear HE' HB0' HBM' HG' HSM' HRt'
    have hc := indented_any t p _ _ wc (HG.out.rd HRt.out) (RdS.ext HE.out HP.out) (by omega) (by omega) HBI.out
    obtain ⟨t0, t1, t2, t3, t4, t5⟩ := HB0.out.c6
    go_wp2_with fail
    refine hc.mono ?_
    clear hc t0 t1 t2 t3 t4 t5
    rintro e f1 ⟨r, rfl, rfl, hE⟩
    have HE9 := Lib.hid (HE.out.trans hE)
    clear hE
    go_wp2_with fail
    refine (works_any f1).mono ?_
    rintro e u ⟨r, rfl, rfl, hE⟩
    go_wp2_with fail
    go_ret
    exact ⟨_, rfl, rfl, HE9.out.trans hE⟩
end Go.Proofs.Ytofcbclokkjfjaa.Wi
