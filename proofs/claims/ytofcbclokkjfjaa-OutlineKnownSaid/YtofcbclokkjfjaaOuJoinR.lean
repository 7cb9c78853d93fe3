/- Chapter 24: the document's Join (22). (Printed by gojoinr.py.) -/
import Derived.Test.YtofcbclokkjfjaaOuJoin
namespace Go.Proofs.Ytofcbclokkjfjaa.Wi
open Go.RowKit Go.Proofs.Ytofcbclokkjfjaa.Bw Go.Proofs.Ytofcbclokkjfjaa.Bs

set_option maxRecDepth 100000 in
set_option maxHeartbeats 8000000 in
theorem rjoin_any (t : Nd) (p : List Int) (tv pv : Value) (w : World) (ht : t.rd w tv) (hp : RdI w p pv) (hwt : t.wt ≤ 1000000) (hpl : p.length ≤ 10000) : Calls Try.prog 22 #[tv, pv] w (AskG lsV w (askG t p joinP)) := by
 obtain ⟨tA, tc, tK, td, rfl⟩ := rd_open6 ht
 obtain ⟨w1, hw1⟩ : ∃ W, w.alloc (.cells #[.int .u64 t.id, .bool t.leaf, .string t.label, .slice tA t.attrs.length tc, .string t.text, .slice tK t.kids.length td] 26) = W := ⟨_, rfl⟩
 obtain ⟨T, hT⟩ : ∃ T, w.heap.size = T := ⟨_, rfl⟩
 have E1 : Ext w w1 := by rw [← hw1]; exact (Ext.refl w).alloc _
 have bT : NBox w1 T 26 #[.int .u64 t.id, .bool t.leaf, .string t.label, .slice tA t.attrs.length tc, .string t.text, .slice tK t.kids.length td] := by rw [← hw1, ← hT]; exact NBox.new _ _ _
 have hc := spot31_any t p _ _ w1 (Nd.rd_ext E1 ht) (RdS.ext E1 hp) (by omega)
 have hcnt : t.cnt ≤ 1000000 := by have := Nd.cnt_wt t; omega
 have HE := Lib.hid E1
 have HP := Lib.hid hp
 have HW := Lib.hid hw1
 have HTT := Lib.hid hT
 have HAP := Lib.hid (show askG t p joinP = match spotP t p with | .error k => .error k | .ok s => joinP s from rfl)
 have HSO := Lib.hid (fun s (h : spotP t p = .ok s) => spot_ok h hpl hcnt)
 have HSP := Lib.hid (fun s (h : spotP t p = .ok s) => (show s.x.attrs.length ≤ 1000000 ∧ s.p = p from by
  obtain ⟨g1, g2⟩ := spot_wt (t := t) (p := p) (s := s) h
  have g3 := attrs_wt s.x
  exact ⟨by omega, g2⟩))
 have HSK := Lib.hid (fun k (h : spotP t p = .error k) => spot_err h)
 obtain ⟨o, ho⟩ : ∃ o, spotP t p = o := ⟨_, rfl⟩
 rw [ho] at hc HAP HSO HSK HSP
 obtain ⟨t0, t1, t2, t3, t4, t5⟩ := bT.c6
 obtain ⟨aA, ac, rfl, -⟩ := hp
 clear hw1 hT E1 bT ht ho
 go_enter Try.func22, Try.ntmps22
 go_upto_region 1 with fail
 rw [HW.out, HTT.out]
 go_wp2_with fail
 refine hc.mono ?_
 clear hc t0 t1 t2 t3 t4 t5
 rintro e w2 ⟨hE, hP⟩
 have HE2 := Lib.hid (HE.out.trans hE)
 obtain ⟨wa, hwa⟩ : ∃ q, w2.alloc (.cells #[.int .u64 0, .bool false, .string ⟨#[]⟩, .slice none 0 0, .string ⟨#[]⟩, .slice none 0 0, .slice none 0 0, .int .i64 0, .int .u64 0, .bool false, .string ⟨#[]⟩, .slice none 0 0, .string ⟨#[]⟩, .slice none 0 0] 58) = q := ⟨_, rfl⟩
 obtain ⟨X, hX⟩ : ∃ q, w2.heap.size = q := ⟨_, rfl⟩
 have XA : Ext w2 wa := by rw [← hwa]; exact (Ext.refl _).alloc _
 have bX : NBox wa X 58 #[.int .u64 0, .bool false, .string ⟨#[]⟩, .slice none 0 0, .string ⟨#[]⟩, .slice none 0 0, .slice none 0 0, .int .i64 0, .int .u64 0, .bool false, .string ⟨#[]⟩, .slice none 0 0, .string ⟨#[]⟩, .slice none 0 0] := by rw [← hwa, ← hX]; exact NBox.new _ _ _
 have HWA := Lib.hid hwa
 have HXX := Lib.hid hX
 have y0 := bX.cell 0
 have y1 := bX.cell 1
 have y2 := bX.cell 2
 have y3 := bX.cell 3
 have y4 := bX.cell 4
 have y5 := bX.cell 5
 have y6 := bX.cell 6
 have y7 := bX.cell 7
 have y8 := bX.cell 8
 have y9 := bX.cell 9
 have y10 := bX.cell 10
 have y11 := bX.cell 11
 have y12 := bX.cell 12
 have y13 := bX.cell 13
 have z0 := bX.frozen 0
 have z1 := bX.frozen 1
 have z2 := bX.frozen 2
 have z3 := bX.frozen 3
 have z4 := bX.frozen 4
 have z5 := bX.frozen 5
 have z6 := bX.frozen 6
 have z7 := bX.frozen 7
 have z8 := bX.frozen 8
 have z9 := bX.frozen 9
 have z10 := bX.frozen 10
 have z11 := bX.frozen 11
 have z12 := bX.frozen 12
 have z13 := bX.frozen 13
 cases o with
 | error k =>
  subst hP
  have hk0 := HSK.out k rfl
  have kz : (k != 0) = true := by rw [bne_iff_ne]; exact hk0
  have F3 := Fr.s14 wa X (.int .u64 0) (.bool false) (.string ⟨#[]⟩) (.slice none 0 0) (.string ⟨#[]⟩) (.slice none 0 0) (.slice none 0 0) (.int .i64 0) (.int .u64 0) (.bool false) (.string ⟨#[]⟩) (.slice none 0 0) (.string ⟨#[]⟩) (.slice none 0 0)
  have HX3 := Lib.hid (Fr.ext (HE2.out.trans XA) F3 (fun q hq => by rw [show q = X from hq, ← hX]; exact HE2.out.size))
  have HR : Hid (askG t p joinP = .error k) := HAP
  clear hwa hX XA bX F3 hE
  go_wp2_with (rw [HWA.out, HXX.out]; clear HWA HXX)
  go_ret2
  rw [HR.out]
  exact ⟨HX3.out, rfl⟩
 | ok s =>
  obtain ⟨sv, rfl, hs⟩ := hP
  have ho := HSO.out s rfl
  have hsp := Lib.hid (HSP.out s rfl).2
  have HSPL : Hid (askG t p joinP = joinP s) := HAP
  obtain ⟨xA, xc, xK, xd, uA, uc, yA, yc, yK, yd, rfl, hxr, hyr, hU⟩ := hs
  obtain ⟨w3, hw3⟩ : ∃ q, (World.setCell (World.setCell (World.setCell (World.setCell (World.setCell (World.setCell (World.setCell (World.setCell (World.setCell (World.setCell (World.setCell (World.setCell (World.setCell (World.setCell wa ⟨X, 0, none⟩ (.int .u64 s.x.id)) ⟨X, 1, none⟩ (.bool s.x.leaf)) ⟨X, 2, none⟩ (.string s.x.label)) ⟨X, 3, none⟩ (.slice xA s.x.attrs.length xc)) ⟨X, 4, none⟩ (.string s.x.text)) ⟨X, 5, none⟩ (.slice xK s.x.kids.length xd)) ⟨X, 6, none⟩ (.slice uA s.up.length uc)) ⟨X, 7, none⟩ (.int .i64 s.i)) ⟨X, 8, none⟩ (.int .u64 s.par.id)) ⟨X, 9, none⟩ (.bool s.par.leaf)) ⟨X, 10, none⟩ (.string s.par.label)) ⟨X, 11, none⟩ (.slice yA s.par.attrs.length yc)) ⟨X, 12, none⟩ (.string s.par.text)) ⟨X, 13, none⟩ (.slice yK s.par.kids.length yd)) = q := ⟨_, rfl⟩
  have F3 : Fr wa w3 (fun k => k = X) := by rw [← hw3]; exact Fr.s14 _ _ _ _ _ _ _ _ _ _ _ _ _ _ _ _
  have X3 : Ext w2 w3 := Fr.ext XA F3 (fun q hq => by rw [show q = X from hq, hX]; exact Nat.le_refl _)
  have HB := Lib.hid (show NBox w3 X 58 #[.int .u64 s.x.id, .bool s.x.leaf, .string s.x.label, .slice xA s.x.attrs.length xc, .string s.x.text, .slice xK s.x.kids.length xd, .slice uA s.up.length uc, .int .i64 s.i, .int .u64 s.par.id, .bool s.par.leaf, .string s.par.label, .slice yA s.par.attrs.length yc, .string s.par.text, .slice yK s.par.kids.length yd] from by rw [← hw3]; exact bX.s14 _ _ _ _ _ _ _ _ _ _ _ _ _ _)
  have HE0 := HE
  have HE3 := Lib.hid (hE.trans X3)
  have HP1 := Lib.hid (RdS.ext HE.out HP.out)
  have HU := Lib.hid (owns_ext X3 hU)
  have HYR := Lib.hid (Nd.rd_ext (hE.trans X3) hyr)
  have HW3 := Lib.hid hw3
  have hi0 := ho.i0
  have hi1 := ho.i1
  have hul := ho.up
  have hkl := ho.kids
  clear hwa hX XA bX F3 X3 hw3 hE hU hxr hyr ho HE HE2 HSO HSK HSP HAP
  have HE := HE3
  clear HE3
  go_upto_region 2 with (rw [HWA.out, HXX.out]; clear HWA HXX)
  rw [HW3.out]
  clear HW3 y0 z0 y1 z1 y2 z2 y3 z3 y4 z4 y5 z5 y6 z6 y7 z7 y8 z8 y9 z9 y10 z10 y11 z11 y12 z12 y13 z13
  have k0 := HB.out.cell 0
  have k1 := HB.out.cell 1
  have k2 := HB.out.cell 2
  have k3 := HB.out.cell 3
  have k4 := HB.out.cell 4
  have k5 := HB.out.cell 5
  have k6 := HB.out.cell 6
  have k7 := HB.out.cell 7
  have k8 := HB.out.cell 8
  have k9 := HB.out.cell 9
  have k10 := HB.out.cell 10
  have k11 := HB.out.cell 11
  have k12 := HB.out.cell 12
  have k13 := HB.out.cell 13
  have HSP := Lib.hid (show joinP s = if s.x.leaf = false then .error 83 else if s.i < (s.par.kids.length : Int) - 1 then (match s.par.kids[(s.i + 1).toNat]? with | some k => if k.leaf then .ok (joinL s k.text) else .error 4 | none => .error 4) else .error 4 from rfl)
  cases hlf : s.x.leaf with
  | false =>
   have HR : Hid (joinP s = .error 83) := Lib.hid (by rw [HSP.out, if_pos hlf])
   rw [hlf] at k1
   go_wp2_with fail
   go_ret2
   rw [HSPL.out, HR.out]
   exact ⟨HE0.out.trans HE.out, rfl⟩
  | true =>
  rw [hlf] at k1
  have HSP2 := Lib.hid (HSP.out.trans (if_neg (by rw [hlf]; exact Bool.noConfusion)))
  clear HSP
  have q6 : IntKind.i64.wrap ((s.par.kids.length : Int) - 1) = (s.par.kids.length : Int) - 1 := IntWalk.i64_in _ (by omega)
  have q7 : IntKind.i64.wrap (s.i + 1) = s.i + 1 := IntWalk.i64_in _ (by omega)
  by_cases hc1 : s.i < (s.par.kids.length : Int) - 1
  case neg =>
   have HR : Hid (joinP s = .error 4) := Lib.hid (by rw [HSP2.out, if_neg hc1])
   have t1 : (s.i == (s.par.kids.length : Int) - 1) = true := by rw [beq_iff_eq]; omega
   go_wp2_with fail
   go_ret2
   rw [HSPL.out, HR.out]
   exact ⟨HE0.out.trans HE.out, rfl⟩
  have t1 : (s.i == (s.par.kids.length : Int) - 1) = false := by rw [beq_eq_false_iff_ne]; omega
  have q1 : (0 : Int) ≤ s.i + 1 := by omega
  have q2 : s.i + 1 < (s.par.kids.length : Int) := by omega
  have hklt : (s.i + 1).toNat < s.par.kids.length := by omega
  obtain ⟨kk, hkk⟩ : ∃ k, s.par.kids[(s.i + 1).toNat]? = some k := ⟨_, List.getElem?_eq_getElem hklt⟩
  have HSP3 : Hid (joinP s = if kk.leaf then .ok (joinL s kk.text) else .error 4) := Lib.hid (by rw [HSP2.out, if_pos hc1, hkk])
  clear HSP2
  obtain ⟨av, kv, he, -, -, -, -, -, ⟨A1, c1, e1, -, -, hrk⟩⟩ := Nd.rd_open HYR.out
  simp only [Value.agg.injEq, Array.mk.injEq, List.cons.injEq, and_true, true_and] at he
  obtain ⟨-, he⟩ := he
  rw [e1] at he
  simp only [Value.slice.injEq, true_and] at he
  obtain ⟨he1, he2⟩ := he
  obtain ⟨bk, ok, hA1, hr⟩ := hrk (by intro h0; rw [h0] at hklt; exact absurd hklt (Nat.not_lt_zero _))
  rw [hA1] at he1
  subst he1
  obtain ⟨zA, zc, zK, zd, cx0, cx1, cx2, cx3, cx4, cx5, HXV⟩ := rdKids_get hr hkk
  have HTX : Hid (okStr kk.text) := Lib.hid (by obtain ⟨_, _, _, _, _, _, h, _⟩ := Nd.rd_open HXV; exact h)
  clear hr hkk e1 he2 hA1 hrk av kv cx0 cx2 cx3 cx5 HXV HYR
  obtain ⟨m, hm⟩ : ∃ m, (s.i + 1).toNat = m := ⟨_, rfl⟩
  rw [hm] at cx1 cx4 hklt
  cases hkf : kk.leaf with
  | false =>
   have HR : Hid (joinP s = .error 4) := Lib.hid (by rw [HSP3.out, hkf]; rfl)
   rw [hkf] at cx1
   go_wp2_with fail
   go_ret2
   rw [HSPL.out, HR.out]
   exact ⟨HE0.out.trans HE.out, rfl⟩
  | true =>
  rw [hkf] at cx1
  have HR : Hid (joinP s = .ok (joinL s kk.text)) := Lib.hid (by rw [HSP3.out, hkf]; rfl)
  clear HSP3
  have HED := Lib.hid (show editL kk.text p ⟨s.x.text.size, 0, kk.text⟩ = if kk.text.size = 0 then [] else [editO p ⟨s.x.text.size, 0, kk.text⟩] from rfl)
  obtain ⟨q, hqq⟩ : ∃ q, s.up ++ [s.i + 1] = q := ⟨_, rfl⟩
  have hql : q.length ≤ 10001 := by rw [← hqq, List.length_append, List.length_cons, List.length_nil]; omega
  have HSL := Lib.hid (show joinL s kk.text = editL kk.text p ⟨s.x.text.size, 0, kk.text⟩ ++ [delO q] from by unfold joinL; rw [hqq, hsp.out])
  have HQQ := Lib.hid hqq
  clear hqq hc1 t1 hlf hsp
  cases hz : kk.text.toList.isEmpty with
  | true =>
   have hz0 : kk.text.size = 0 := by have := bytes_empty kk.text; rw [hz] at this; exact of_decide_eq_true this.symm
   have HED1' := Lib.hid (HED.out.trans (if_pos hz0))
   clear HED hz0
   obtain ⟨l, A, c, hl1, HL1, hls, hLL⟩ : ∃ (l : List OpD) (A : Option Addr) (c : Nat), l.length ≤ 1 ∧ Hid (editL kk.text p ⟨s.x.text.size, 0, kk.text⟩ = l) ∧ Value.slice none 0 0 = .slice A l.length c ∧ rowV2 RdO 38 11 w1.heap.size l (.slice A l.length c) w3 := ⟨[], none, 0, Nat.zero_le _, HED1', rfl, lsV.none_ _ _⟩
   have HL := Lib.hid hLL
   clear hLL
   go_upto_region 12 with fail
   rw [hls]
   clear hls cx1 cx4 k0 k1 k2 k3 k4 k5 k6 k7 k8 k9 k10 k11 k12 k13
   have hq := child_any s.up (s.i + 1) _ w3 (RdS.of_owns HU.out) (by omega)
   rw [HQQ.out] at hq
   have k6 := HB.out.cell 6
   have k7 := HB.out.cell 7
   go_wp2_with fail
   refine hq.mono ?_
   clear hq k6 k7 HB
   rintro e w8 ⟨r, rfl, hO, hE⟩
   have HO := Lib.hid (owns_low hO HE.out.size)
   obtain ⟨nA, nc, rfl, -⟩ := RdS.of_owns hO
   clear hO
   have HE' := Lib.hid (HE.out.trans hE)
   have HL' := Lib.hid (rowV2.ext HL.out hE)
   clear hE
   replace HE := HE'; replace HL := HL'
   clear HE' HL'
   obtain ⟨N, hN⟩ : ∃ g, w8.heap.size = g := ⟨_, rfl⟩
   obtain ⟨wo, hwo⟩ : ∃ W, w8.alloc (.cells #[.int .u8 2, .slice nA q.length nc, .int .i64 0, .slice none 0 0, .int .u64 0, .bool false, .string ⟨#[]⟩, .string ⟨#[]⟩, .string ⟨#[]⟩, .bool false, .slice none 0 0] 38) = W := ⟨_, rfl⟩
   have hE : Ext w8 wo := by rw [← hwo]; exact (Ext.refl _).alloc _
   have bN : NBox wo N 38 #[.int .u8 2, .slice nA q.length nc, .int .i64 0, .slice none 0 0, .int .u64 0, .bool false, .string ⟨#[]⟩, .string ⟨#[]⟩, .string ⟨#[]⟩, .bool false, .slice none 0 0] := by rw [← hN, ← hwo]; exact NBox.new _ _ _
   have HW := Lib.hid hwo
   have HNN := Lib.hid hN
   clear hwo hN
   have HE' := Lib.hid (HE.out.trans hE)
   have HL' := Lib.hid (rowV2.ext HL.out hE)
   have HO' := Lib.hid (owns_ext hE HO.out)
   clear hE
   replace HE := HE'; replace HL := HL'; replace HO := HO'
   clear HE' HL' HO'
   obtain ⟨us1, ho1, hla1⟩ := HL.out
   have hsz := HE.out.size
   have hS : ∀ g, (Value.slice nA q.length nc).ownBlock = some g → ¬ rowS w1.heap.size (Value.slice A l.length c) g := fun g hg hk => hk.elim (fun h => absurd (owns_base HO.out g hg) (Nat.not_le.2 h)) (fun h => owns_apart ho1 HO.out (by decide) h hg)
   have hx : Late (rowS w1.heap.size (Value.slice A l.length c)) (fun W => (delO q).rd W (.agg #[.int .u8 2, .slice nA q.length nc, .int .i64 0, .slice none 0 0, .int .u64 0, .bool false, .string ⟨#[]⟩, .string ⟨#[]⟩, .string ⟨#[]⟩, .bool false, .slice none 0 0])) wo := op_late (o := delO q) HO.out hS rfl rfl (Nat.zero_le _) (Nat.zero_le _) (Nat.zero_le _) (show (0 : Int) ≤ 0 ∧ (0 : Int) ≤ 18446744073709551615 from by decide) (show (0 : Int) ≤ 2 ∧ (2 : Int) ≤ 255 from by decide)
   have hrow := bN.row
   have hones := ones11 (c0 := .int .u8 2) (c1 := .slice nA q.length nc) (c2 := .int .i64 0) (c3 := .slice none 0 0) (c4 := .int .u64 0) (c5 := .bool false) (c6 := .string ⟨#[]⟩) (c7 := .string ⟨#[]⟩) (c8 := .string ⟨#[]⟩) (c9 := .bool false) (c10 := .slice none 0 0) ⟨rfl, rfl, rfl, rfl, rfl, rfl, rfl, rfl, rfl, rfl, rfl⟩
   go_wp2_with (first | (at_builtin; rw [HW.out, HNN.out]; refine wpList_append_rd rfl rfl T31 (v := _) (by rfl) ho1 (by rfl) hrow hones (by omega) (by simp only [maxLen]; omega) hsz ?_))
   intro v4 w9 h4 hg hat4
   have HL2 := Lib.hid (rowV2.push hla1 rfl hx hg hat4 h4)
   have HE2 := Lib.hid (Fr.ext HE.out (Fr.grown hg) (fun k hk => owns_base ho1 k hk))
   obtain ⟨L2, hL2⟩ : ∃ L, l ++ [delO q] = L := ⟨_, rfl⟩
   have HF : Hid (joinL s kk.text = L2) := Lib.hid (by rw [HSL.out, HL1.out, hL2])
   rw [hL2] at HL2
   obtain ⟨A4, c4, rfl⟩ := lsV.slice HL2.out
   clear hx hS hla1 ho1 hg hat4 h4 bN hrow hones hsz HW HNN HE HO HL hL2
   go_wp2_with fail
   go_ret2
   rw [HSPL.out, HR.out, HF.out]
   exact ⟨HE0.out.trans HE2.out, _, rfl, rowV2.low HL2.out HE0.out.size⟩
  | false =>
   have hz0 : ¬ kk.text.size = 0 := by have := bytes_empty kk.text; rw [hz] at this; exact of_decide_eq_false this.symm
   have HED1' := Lib.hid (HED.out.trans (if_neg hz0))
   clear HED hz0
   go_upto_region 11 with fail
   clear cx1 cx4 k0 k1 k2 k3 k4 k5 k6 k7 k8 k9 k10 k11 k12 k13
   obtain ⟨e0, he0⟩ : ∃ d0, w3.drew = d0 := ⟨_, rfl⟩
   have hE : Ext w3 e0 := by rw [← he0]; exact (Ext.refl _).drew
   have HE' := Lib.hid (HE.out.trans hE)
   have HB' := Lib.hid (HB.out.ext hE)
   have HU' := Lib.hid (owns_ext hE HU.out)
   clear hE
   replace HE := HE'; replace HB := HB'; replace HU := HU'
   clear HE' HB' HU'
   refine wp_region_held_drew (S := (fun W => NBox W X 58 #[.int .u64 s.x.id, .bool s.x.leaf, .string s.x.label, .slice xA s.x.attrs.length xc, .string s.x.text, .slice xK s.x.kids.length xd, .slice uA s.up.length uc, .int .i64 s.i, .int .u64 s.par.id, .bool s.par.leaf, .string s.par.label, .slice yA s.par.attrs.length yc, .string s.par.text, .slice (some ⟨bk, ok, none⟩) s.par.kids.length yd])) (by kernel_rfl) (by rw [he0]; exact HB.out) (fun hHeld => ?_)
   rw [he0] at hHeld ⊢
   clear he0
   refine tk 0 ?_ rfl (.inl ⟨by rfl, ?_⟩) hHeld ?_
   rotate_left
   ·intro w hSw
    try dsimp only at hSw
    go_simp
    all_goals (first | with_reducible rfl | rw [if_pos (by omega)])
   try simp only [Act.put, aS]
   refine tk 1 ?_ rfl (.inl ⟨by rfl, ?_⟩) hHeld ?_
   rotate_left
   ·intro w hSw
    try dsimp only at hSw
    go_simp
    all_goals (first | with_reducible rfl | rw [if_pos (by omega)])
   try simp only [Act.put, aS]
   refine tk 3 ?_ rfl (.inl ⟨by rfl, ?_⟩) hHeld ?_
   rotate_left
   ·intro w hSw
    try dsimp only at hSw
    go_simp
    all_goals (first | with_reducible rfl | rw [if_pos (by omega)])
   try simp only [Act.put, aS]
   refine tk 4 ?_ rfl (.inl ⟨by rfl, ?_⟩) hHeld ?_
   rotate_left
   ·intro w hSw
    try dsimp only at hSw
    go_simp
    all_goals (first | with_reducible rfl | rw [if_pos (by omega)])
   try simp only [Act.put, aS]
   refine tk 5 ?_ rfl (.inl ⟨by rfl, ?_⟩) hHeld ?_
   rotate_left
   ·intro w hSw
    have hb : NBox w X 58 _ := hSw
    have g0 := hb.cell 0
    have g1 := hb.cell 1
    have g2 := hb.cell 2
    have g3 := hb.cell 3
    have g4 := hb.cell 4
    have g5 := hb.cell 5
    have g6 := hb.cell 6
    have g7 := hb.cell 7
    have g8 := hb.cell 8
    have g9 := hb.cell 9
    have g10 := hb.cell 10
    have g11 := hb.cell 11
    have g12 := hb.cell 12
    have g13 := hb.cell 13
    clear hb hSw
    go_simp
    all_goals (first | with_reducible rfl | rw [if_pos (by omega)])
   try simp only [Act.put, aS]
   refine tk 6 ?_ rfl (.inl ⟨by rfl, ?_⟩) hHeld ?_
   rotate_left
   ·intro w hSw
    try dsimp only at hSw
    go_simp
    all_goals (first | with_reducible rfl | rw [if_pos (by omega)])
   try simp only [Act.put, aS]
   refine tk 7 ?_ rfl (.inl ⟨by rfl, ?_⟩) hHeld ?_
   rotate_left
   ·intro w hSw
    try dsimp only at hSw
    go_simp
    all_goals (first | with_reducible rfl | rw [if_pos (by omega)])
   try simp only [Act.put, aS]
   refine tk 8 ?_ rfl (.inl ⟨by rfl, ?_⟩) hHeld ?_
   rotate_left
   ·intro w hSw
    try dsimp only at hSw
    go_simp
    all_goals (first | with_reducible rfl | rw [if_pos (by omega)])
   try simp only [Act.put, aS]
   refine wpAnyH_ready (rs := [2, 9]) (by kernel_rfl) (by simp) ?_
   refine AllReadyH.cons (o := ⟨_, _, _, _, _, _⟩) rfl (fun K' hK => ?_) (AllReadyH.cons (o := ⟨_, _, _, _, _, _⟩) rfl (fun K' hK => ?_) AllReadyH.nil)
   ·-- the path first
    have hq := copied_any p _ e0 (RdS.ext HE.out HP1.out) (by omega)
    go_simp
    go_at_call 8
    refine hq.mono ?_
    clear hq
    rintro e e1 ⟨r, rfl, hQ, hE⟩
    have HQ := Lib.hid (owns_low hQ HE.out.size)
    obtain ⟨bA, bc, rfl, -⟩ := RdS.of_owns hQ
    clear hQ
    have HE' := Lib.hid (HE.out.trans hE)
    have HB' := Lib.hid (HB.out.ext hE)
    have HU' := Lib.hid (owns_ext hE HU.out)
    refine hK.out _ _ (show NBox _ _ _ _ from NBox.ext hE hHeld) (fun hHeld => ?_)
    clear hK K' hE
    try simp only [Act.put, aS]
    replace HE := HE'; replace HB := HB'; replace HU := HU'
    clear HE' HB' HU'
    refine wpAnyH_ready (rs := [9]) (by kernel_rfl) (by simp) ?_
    refine AllReadyH.cons (o := ⟨_, _, _, _, _, _⟩) rfl (fun K' hK => ?_) AllReadyH.nil
    obtain ⟨e2, hw⟩ : ∃ W, e1.alloc (.cells #[.int .i64 (s.x.text.size : Int), .int .i64 0, .string kk.text] 49) = W := ⟨_, rfl⟩
    obtain ⟨Qb, hN⟩ : ∃ g, e1.heap.size = g := ⟨_, rfl⟩
    have hE : Ext e1 e2 := by rw [← hw]; exact (Ext.refl _).alloc _
    have HQb := Lib.hid (show NBox e2 Qb 49 #[.int .i64 (s.x.text.size : Int), .int .i64 0, .string kk.text] from by rw [← hw, ← hN]; exact NBox.new _ _ _)
    have HLQb := Lib.hid (show w1.heap.size ≤ Qb from by rw [← hN]; exact HE.out.size)
    have HW := Lib.hid hw
    have HNN := Lib.hid hN
    clear hw hN
    have HE' := Lib.hid (HE.out.trans hE)
    have HB' := Lib.hid (HB.out.ext hE)
    have HU' := Lib.hid (owns_ext hE HU.out)
    have HQ' := Lib.hid (owns_ext hE HQ.out)
    go_simp
    rw [HW.out, HNN.out]
    refine hK.out _ _ (show NBox _ _ _ _ from NBox.ext hE hHeld) (fun hHeld => ?_)
    clear hK K' hE HW HNN
    try simp only [Act.put, aS]
    replace HE := HE'; replace HB := HB'; replace HU := HU'; replace HQ := HQ'
    clear HE' HB' HU' HQ'
    refine tk 10 ?_ rfl (.inl ⟨by rfl, ?_⟩) hHeld ?_
    rotate_left
    ·intro w hSw
     try dsimp only at hSw
     go_simp
     all_goals (first | with_reducible rfl | rw [if_pos (by omega)])
    try simp only [Act.put, aS]
    refine wpAnyH_ready (rs := [11]) (by kernel_rfl) (by simp) ?_
    refine AllReadyH.cons (o := ⟨_, _, _, _, _, _⟩) rfl (fun K' hK => ?_) AllReadyH.nil
    obtain ⟨e3, hw⟩ : ∃ W, e2.alloc (.cells #[.int .u8 6, .slice bA p.length bc, .int .i64 0, .slice none 0 0, .int .u64 0, .bool false, .string ⟨#[]⟩, .string ⟨#[]⟩, .string ⟨#[]⟩, .bool false, .slice (some ⟨Qb, 0, none⟩) 1 1] 38) = W := ⟨_, rfl⟩
    obtain ⟨N, hN⟩ : ∃ g, e2.heap.size = g := ⟨_, rfl⟩
    have hE : Ext e2 e3 := by rw [← hw]; exact (Ext.refl _).alloc _
    have HN := Lib.hid (show NBox e3 N 38 #[.int .u8 6, .slice bA p.length bc, .int .i64 0, .slice none 0 0, .int .u64 0, .bool false, .string ⟨#[]⟩, .string ⟨#[]⟩, .string ⟨#[]⟩, .bool false, .slice (some ⟨Qb, 0, none⟩) 1 1] from by rw [← hw, ← hN]; exact NBox.new _ _ _)
    have HLN := Lib.hid (show w1.heap.size ≤ N from by rw [← hN]; exact HE.out.size)
    have HW := Lib.hid hw
    have HNN := Lib.hid hN
    clear hw hN
    have HE' := Lib.hid (HE.out.trans hE)
    have HB' := Lib.hid (HB.out.ext hE)
    have HU' := Lib.hid (owns_ext hE HU.out)
    have HQ' := Lib.hid (owns_ext hE HQ.out)
    have HQb' := Lib.hid (HQb.out.ext hE)
    go_simp
    rw [HW.out, HNN.out]
    refine hK.out _ _ (show NBox _ _ _ _ from NBox.ext hE hHeld) (fun hHeld => ?_)
    clear hK K' hE HW HNN
    try simp only [Act.put, aS]
    replace HE := HE'; replace HB := HB'; replace HU := HU'; replace HQ := HQ'; replace HQb := HQb'
    clear HE' HB' HU' HQ' HQb'
    have ho1 : e3.ownsRow w1.heap.size 38 11 (.slice none 0 0) 0 [] := noRowS _ _ _ _
    have hla1 : Late (rowS w1.heap.size (.slice none 0 0)) (fun W => rowCells RdO 11 W [] []) e3 := Late.all fun _ => rfl
    have hx : Late (rowS w1.heap.size (.slice none 0 0)) (fun W => (editO p ⟨s.x.text.size, 0, kk.text⟩).rd W (.agg #[.int .u8 6, .slice bA p.length bc, .int .i64 0, .slice none 0 0, .int .u64 0, .bool false, .string ⟨#[]⟩, .string ⟨#[]⟩, .string ⟨#[]⟩, .bool false, .slice (some ⟨Qb, 0, none⟩) 1 1])) e3 := by
     intro W2 F2
     have hO2 := owns_fr F2 HQ.out (fun b hb hk => hk.elim (fun h => by have := owns_base HQ.out b hb; omega) (fun h => by cases h))
     have hq2 := HQb.out.fr F2 (fun hk => hk.elim (fun h => by have := HLQb.out; omega) (fun h => by cases h))
     refine ⟨_, _, _, rfl, RdS.of_owns hO2, RdS.nil_ _ _, ⟨_, 1, rfl, Nat.le_refl _, by simp [maxLen], fun _ => ⟨Qb, 0, rfl, hq2.cell 0, hq2.cell 1, hq2.cell 2, HTX.out, trivial⟩⟩, ?_, ?_, ?_, ⟨?_, ?_⟩, ?_, ?_⟩
     all_goals first | exact Nat.zero_le _ | (dsimp only [editO]; omega)
    refine wpAnyH_ready (rs := [12]) (by kernel_rfl) (by simp) ?_
    refine AllReadyH.cons (o := ⟨_, _, _, _, _, _⟩) rfl (fun K' hK => ?_) AllReadyH.nil
    refine wp_append_rd rfl T31 (by rfl) ho1 (by rfl) (NBox.row HN.out) (ones11 ⟨rfl, rfl, rfl, rfl, rfl, rfl, rfl, rfl, rfl, rfl, rfl⟩) (by omega) (by simp only [maxLen]; omega) HE.out.size ?_
    intro v4 e4 h4 hg hat4
    have HL := Lib.hid (rowV2.push hla1 rfl hx hg hat4 h4)
    have hE : Ext e3 e4 := Ext.grown (Ext.refl _) hg (fun k hk => by cases hk)
    have HE' := Lib.hid (HE.out.trans hE)
    have HB' := Lib.hid (HB.out.ext hE)
    have HU' := Lib.hid (owns_ext hE HU.out)
    refine hK.out _ _ (show NBox _ _ _ _ from NBox.ext hE hHeld) (fun hHeld => ?_)
    clear hK K' hE hx hla1 ho1 HQ HQb HN HLQb HLN hg hat4 h4
    try simp only [Act.put, aS]
    replace HE := HE'; replace HB := HB'; replace HU := HU'
    clear HE' HB' HU'
    obtain ⟨l, hl⟩ : ∃ L, ([] : List OpD) ++ [editO p ⟨s.x.text.size, 0, kk.text⟩] = L := ⟨_, rfl⟩
    have hl1 : l.length ≤ 1 := by rw [← hl]; exact Nat.le_refl _
    have HL1 : Hid (editL kk.text p ⟨s.x.text.size, 0, kk.text⟩ = l) := Lib.hid (by rw [HED1'.out, ← hl]; rfl)
    rw [hl] at HL
    obtain ⟨A, c, rfl⟩ := lsV.slice HL.out
    clear hl HED1'
    refine tk 13 ?_ rfl (.inl ⟨by rfl, ?_⟩) hHeld ?_
    rotate_left
    ·intro w hSw
     try dsimp only at hSw
     go_simp
     all_goals (first | with_reducible rfl | rw [if_pos (by omega)])
    try simp only [Act.put, aS]
    refine wpAnyH_done (by kernel_rfl) ?_ _
    clear hHeld
    have hq := child_any s.up (s.i + 1) _ e4 (RdS.of_owns HU.out) (by omega)
    rw [HQQ.out] at hq
    have k6 := HB.out.cell 6
    have k7 := HB.out.cell 7
    go_wp2_with fail
    refine hq.mono ?_
    clear hq k6 k7 HB
    rintro e w8 ⟨r, rfl, hO, hE⟩
    have HO := Lib.hid (owns_low hO HE.out.size)
    obtain ⟨nA, nc, rfl, -⟩ := RdS.of_owns hO
    clear hO
    have HE' := Lib.hid (HE.out.trans hE)
    have HL' := Lib.hid (rowV2.ext HL.out hE)
    clear hE
    replace HE := HE'; replace HL := HL'
    clear HE' HL'
    obtain ⟨N, hN⟩ : ∃ g, w8.heap.size = g := ⟨_, rfl⟩
    obtain ⟨wo, hwo⟩ : ∃ W, w8.alloc (.cells #[.int .u8 2, .slice nA q.length nc, .int .i64 0, .slice none 0 0, .int .u64 0, .bool false, .string ⟨#[]⟩, .string ⟨#[]⟩, .string ⟨#[]⟩, .bool false, .slice none 0 0] 38) = W := ⟨_, rfl⟩
    have hE : Ext w8 wo := by rw [← hwo]; exact (Ext.refl _).alloc _
    have bN : NBox wo N 38 #[.int .u8 2, .slice nA q.length nc, .int .i64 0, .slice none 0 0, .int .u64 0, .bool false, .string ⟨#[]⟩, .string ⟨#[]⟩, .string ⟨#[]⟩, .bool false, .slice none 0 0] := by rw [← hN, ← hwo]; exact NBox.new _ _ _
    have HW := Lib.hid hwo
    have HNN := Lib.hid hN
    clear hwo hN
    have HE' := Lib.hid (HE.out.trans hE)
    have HL' := Lib.hid (rowV2.ext HL.out hE)
    have HO' := Lib.hid (owns_ext hE HO.out)
    clear hE
    replace HE := HE'; replace HL := HL'; replace HO := HO'
    clear HE' HL' HO'
    obtain ⟨us1, ho1, hla1⟩ := HL.out
    have hsz := HE.out.size
    have hS : ∀ g, (Value.slice nA q.length nc).ownBlock = some g → ¬ rowS w1.heap.size (Value.slice A l.length c) g := fun g hg hk => hk.elim (fun h => absurd (owns_base HO.out g hg) (Nat.not_le.2 h)) (fun h => owns_apart ho1 HO.out (by decide) h hg)
    have hx : Late (rowS w1.heap.size (Value.slice A l.length c)) (fun W => (delO q).rd W (.agg #[.int .u8 2, .slice nA q.length nc, .int .i64 0, .slice none 0 0, .int .u64 0, .bool false, .string ⟨#[]⟩, .string ⟨#[]⟩, .string ⟨#[]⟩, .bool false, .slice none 0 0])) wo := op_late (o := delO q) HO.out hS rfl rfl (Nat.zero_le _) (Nat.zero_le _) (Nat.zero_le _) (show (0 : Int) ≤ 0 ∧ (0 : Int) ≤ 18446744073709551615 from by decide) (show (0 : Int) ≤ 2 ∧ (2 : Int) ≤ 255 from by decide)
    have hrow := bN.row
    have hones := ones11 (c0 := .int .u8 2) (c1 := .slice nA q.length nc) (c2 := .int .i64 0) (c3 := .slice none 0 0) (c4 := .int .u64 0) (c5 := .bool false) (c6 := .string ⟨#[]⟩) (c7 := .string ⟨#[]⟩) (c8 := .string ⟨#[]⟩) (c9 := .bool false) (c10 := .slice none 0 0) ⟨rfl, rfl, rfl, rfl, rfl, rfl, rfl, rfl, rfl, rfl, rfl⟩
    go_wp2_with (first | (at_builtin; rw [HW.out, HNN.out]; refine wpList_append_rd rfl rfl T31 (v := _) (by rfl) ho1 (by rfl) hrow hones (by omega) (by simp only [maxLen]; omega) hsz ?_))
    intro v4 w9 h4 hg hat4
    have HL2 := Lib.hid (rowV2.push hla1 rfl hx hg hat4 h4)
    have HE2 := Lib.hid (Fr.ext HE.out (Fr.grown hg) (fun k hk => owns_base ho1 k hk))
    obtain ⟨L2, hL2⟩ : ∃ L, l ++ [delO q] = L := ⟨_, rfl⟩
    have HF : Hid (joinL s kk.text = L2) := Lib.hid (by rw [HSL.out, HL1.out, hL2])
    rw [hL2] at HL2
    obtain ⟨A4, c4, rfl⟩ := lsV.slice HL2.out
    clear hx hS hla1 ho1 hg hat4 h4 bN hrow hones hsz HW HNN HE HO HL hL2
    go_wp2_with fail
    go_ret2
    rw [HSPL.out, HR.out, HF.out]
    exact ⟨HE0.out.trans HE2.out, _, rfl, rowV2.low HL2.out HE0.out.size⟩
   ·-- the piece first
    obtain ⟨e1, hw⟩ : ∃ W, e0.alloc (.cells #[.int .i64 (s.x.text.size : Int), .int .i64 0, .string kk.text] 49) = W := ⟨_, rfl⟩
    obtain ⟨Qb, hN⟩ : ∃ g, e0.heap.size = g := ⟨_, rfl⟩
    have hE : Ext e0 e1 := by rw [← hw]; exact (Ext.refl _).alloc _
    have HQb := Lib.hid (show NBox e1 Qb 49 #[.int .i64 (s.x.text.size : Int), .int .i64 0, .string kk.text] from by rw [← hw, ← hN]; exact NBox.new _ _ _)
    have HLQb := Lib.hid (show w1.heap.size ≤ Qb from by rw [← hN]; exact HE.out.size)
    have HW := Lib.hid hw
    have HNN := Lib.hid hN
    clear hw hN
    have HE' := Lib.hid (HE.out.trans hE)
    have HB' := Lib.hid (HB.out.ext hE)
    have HU' := Lib.hid (owns_ext hE HU.out)
    go_simp
    rw [HW.out, HNN.out]
    refine hK.out _ _ (show NBox _ _ _ _ from NBox.ext hE hHeld) (fun hHeld => ?_)
    clear hK K' hE HW HNN
    try simp only [Act.put, aS]
    replace HE := HE'; replace HB := HB'; replace HU := HU'
    clear HE' HB' HU'
    refine wpAnyH_ready (rs := [2]) (by kernel_rfl) (by simp) ?_
    refine AllReadyH.cons (o := ⟨_, _, _, _, _, _⟩) rfl (fun K' hK => ?_) AllReadyH.nil
    have hq := copied_any p _ e1 (RdS.ext HE.out HP1.out) (by omega)
    go_simp
    go_at_call 8
    refine hq.mono ?_
    clear hq
    rintro e e2 ⟨r, rfl, hQ, hE⟩
    have HQ := Lib.hid (owns_low hQ HE.out.size)
    obtain ⟨bA, bc, rfl, -⟩ := RdS.of_owns hQ
    clear hQ
    have HE' := Lib.hid (HE.out.trans hE)
    have HB' := Lib.hid (HB.out.ext hE)
    have HU' := Lib.hid (owns_ext hE HU.out)
    have HQb' := Lib.hid (HQb.out.ext hE)
    refine hK.out _ _ (show NBox _ _ _ _ from NBox.ext hE hHeld) (fun hHeld => ?_)
    clear hK K' hE
    try simp only [Act.put, aS]
    replace HE := HE'; replace HB := HB'; replace HU := HU'; replace HQb := HQb'
    clear HE' HB' HU' HQb'
    refine tk 10 ?_ rfl (.inl ⟨by rfl, ?_⟩) hHeld ?_
    rotate_left
    ·intro w hSw
     try dsimp only at hSw
     go_simp
     all_goals (first | with_reducible rfl | rw [if_pos (by omega)])
    try simp only [Act.put, aS]
    refine wpAnyH_ready (rs := [11]) (by kernel_rfl) (by simp) ?_
    refine AllReadyH.cons (o := ⟨_, _, _, _, _, _⟩) rfl (fun K' hK => ?_) AllReadyH.nil
    obtain ⟨e3, hw⟩ : ∃ W, e2.alloc (.cells #[.int .u8 6, .slice bA p.length bc, .int .i64 0, .slice none 0 0, .int .u64 0, .bool false, .string ⟨#[]⟩, .string ⟨#[]⟩, .string ⟨#[]⟩, .bool false, .slice (some ⟨Qb, 0, none⟩) 1 1] 38) = W := ⟨_, rfl⟩
    obtain ⟨N, hN⟩ : ∃ g, e2.heap.size = g := ⟨_, rfl⟩
    have hE : Ext e2 e3 := by rw [← hw]; exact (Ext.refl _).alloc _
    have HN := Lib.hid (show NBox e3 N 38 #[.int .u8 6, .slice bA p.length bc, .int .i64 0, .slice none 0 0, .int .u64 0, .bool false, .string ⟨#[]⟩, .string ⟨#[]⟩, .string ⟨#[]⟩, .bool false, .slice (some ⟨Qb, 0, none⟩) 1 1] from by rw [← hw, ← hN]; exact NBox.new _ _ _)
    have HLN := Lib.hid (show w1.heap.size ≤ N from by rw [← hN]; exact HE.out.size)
    have HW := Lib.hid hw
    have HNN := Lib.hid hN
    clear hw hN
    have HE' := Lib.hid (HE.out.trans hE)
    have HB' := Lib.hid (HB.out.ext hE)
    have HU' := Lib.hid (owns_ext hE HU.out)
    have HQ' := Lib.hid (owns_ext hE HQ.out)
    have HQb' := Lib.hid (HQb.out.ext hE)
    go_simp
    rw [HW.out, HNN.out]
    refine hK.out _ _ (show NBox _ _ _ _ from NBox.ext hE hHeld) (fun hHeld => ?_)
    clear hK K' hE HW HNN
    try simp only [Act.put, aS]
    replace HE := HE'; replace HB := HB'; replace HU := HU'; replace HQ := HQ'; replace HQb := HQb'
    clear HE' HB' HU' HQ' HQb'
    have ho1 : e3.ownsRow w1.heap.size 38 11 (.slice none 0 0) 0 [] := noRowS _ _ _ _
    have hla1 : Late (rowS w1.heap.size (.slice none 0 0)) (fun W => rowCells RdO 11 W [] []) e3 := Late.all fun _ => rfl
    have hx : Late (rowS w1.heap.size (.slice none 0 0)) (fun W => (editO p ⟨s.x.text.size, 0, kk.text⟩).rd W (.agg #[.int .u8 6, .slice bA p.length bc, .int .i64 0, .slice none 0 0, .int .u64 0, .bool false, .string ⟨#[]⟩, .string ⟨#[]⟩, .string ⟨#[]⟩, .bool false, .slice (some ⟨Qb, 0, none⟩) 1 1])) e3 := by
     intro W2 F2
     have hO2 := owns_fr F2 HQ.out (fun b hb hk => hk.elim (fun h => by have := owns_base HQ.out b hb; omega) (fun h => by cases h))
     have hq2 := HQb.out.fr F2 (fun hk => hk.elim (fun h => by have := HLQb.out; omega) (fun h => by cases h))
     refine ⟨_, _, _, rfl, RdS.of_owns hO2, RdS.nil_ _ _, ⟨_, 1, rfl, Nat.le_refl _, by simp [maxLen], fun _ => ⟨Qb, 0, rfl, hq2.cell 0, hq2.cell 1, hq2.cell 2, HTX.out, trivial⟩⟩, ?_, ?_, ?_, ⟨?_, ?_⟩, ?_, ?_⟩
     all_goals first | exact Nat.zero_le _ | (dsimp only [editO]; omega)
    refine wpAnyH_ready (rs := [12]) (by kernel_rfl) (by simp) ?_
    refine AllReadyH.cons (o := ⟨_, _, _, _, _, _⟩) rfl (fun K' hK => ?_) AllReadyH.nil
    refine wp_append_rd rfl T31 (by rfl) ho1 (by rfl) (NBox.row HN.out) (ones11 ⟨rfl, rfl, rfl, rfl, rfl, rfl, rfl, rfl, rfl, rfl, rfl⟩) (by omega) (by simp only [maxLen]; omega) HE.out.size ?_
    intro v4 e4 h4 hg hat4
    have HL := Lib.hid (rowV2.push hla1 rfl hx hg hat4 h4)
    have hE : Ext e3 e4 := Ext.grown (Ext.refl _) hg (fun k hk => by cases hk)
    have HE' := Lib.hid (HE.out.trans hE)
    have HB' := Lib.hid (HB.out.ext hE)
    have HU' := Lib.hid (owns_ext hE HU.out)
    refine hK.out _ _ (show NBox _ _ _ _ from NBox.ext hE hHeld) (fun hHeld => ?_)
    clear hK K' hE hx hla1 ho1 HQ HQb HN HLQb HLN hg hat4 h4
    try simp only [Act.put, aS]
    replace HE := HE'; replace HB := HB'; replace HU := HU'
    clear HE' HB' HU'
    obtain ⟨l, hl⟩ : ∃ L, ([] : List OpD) ++ [editO p ⟨s.x.text.size, 0, kk.text⟩] = L := ⟨_, rfl⟩
    have hl1 : l.length ≤ 1 := by rw [← hl]; exact Nat.le_refl _
    have HL1 : Hid (editL kk.text p ⟨s.x.text.size, 0, kk.text⟩ = l) := Lib.hid (by rw [HED1'.out, ← hl]; rfl)
    rw [hl] at HL
    obtain ⟨A, c, rfl⟩ := lsV.slice HL.out
    clear hl HED1'
    refine tk 13 ?_ rfl (.inl ⟨by rfl, ?_⟩) hHeld ?_
    rotate_left
    ·intro w hSw
     try dsimp only at hSw
     go_simp
     all_goals (first | with_reducible rfl | rw [if_pos (by omega)])
    try simp only [Act.put, aS]
    refine wpAnyH_done (by kernel_rfl) ?_ _
    clear hHeld
    have hq := child_any s.up (s.i + 1) _ e4 (RdS.of_owns HU.out) (by omega)
    rw [HQQ.out] at hq
    have k6 := HB.out.cell 6
    have k7 := HB.out.cell 7
    go_wp2_with fail
    refine hq.mono ?_
    clear hq k6 k7 HB
    rintro e w8 ⟨r, rfl, hO, hE⟩
    have HO := Lib.hid (owns_low hO HE.out.size)
    obtain ⟨nA, nc, rfl, -⟩ := RdS.of_owns hO
    clear hO
    have HE' := Lib.hid (HE.out.trans hE)
    have HL' := Lib.hid (rowV2.ext HL.out hE)
    clear hE
    replace HE := HE'; replace HL := HL'
    clear HE' HL'
    obtain ⟨N, hN⟩ : ∃ g, w8.heap.size = g := ⟨_, rfl⟩
    obtain ⟨wo, hwo⟩ : ∃ W, w8.alloc (.cells #[.int .u8 2, .slice nA q.length nc, .int .i64 0, .slice none 0 0, .int .u64 0, .bool false, .string ⟨#[]⟩, .string ⟨#[]⟩, .string ⟨#[]⟩, .bool false, .slice none 0 0] 38) = W := ⟨_, rfl⟩
    have hE : Ext w8 wo := by rw [← hwo]; exact (Ext.refl _).alloc _
    have bN : NBox wo N 38 #[.int .u8 2, .slice nA q.length nc, .int .i64 0, .slice none 0 0, .int .u64 0, .bool false, .string ⟨#[]⟩, .string ⟨#[]⟩, .string ⟨#[]⟩, .bool false, .slice none 0 0] := by rw [← hN, ← hwo]; exact NBox.new _ _ _
    have HW := Lib.hid hwo
    have HNN := Lib.hid hN
    clear hwo hN
    have HE' := Lib.hid (HE.out.trans hE)
    have HL' := Lib.hid (rowV2.ext HL.out hE)
    have HO' := Lib.hid (owns_ext hE HO.out)
    clear hE
    replace HE := HE'; replace HL := HL'; replace HO := HO'
    clear HE' HL' HO'
    obtain ⟨us1, ho1, hla1⟩ := HL.out
    have hsz := HE.out.size
    have hS : ∀ g, (Value.slice nA q.length nc).ownBlock = some g → ¬ rowS w1.heap.size (Value.slice A l.length c) g := fun g hg hk => hk.elim (fun h => absurd (owns_base HO.out g hg) (Nat.not_le.2 h)) (fun h => owns_apart ho1 HO.out (by decide) h hg)
    have hx : Late (rowS w1.heap.size (Value.slice A l.length c)) (fun W => (delO q).rd W (.agg #[.int .u8 2, .slice nA q.length nc, .int .i64 0, .slice none 0 0, .int .u64 0, .bool false, .string ⟨#[]⟩, .string ⟨#[]⟩, .string ⟨#[]⟩, .bool false, .slice none 0 0])) wo := op_late (o := delO q) HO.out hS rfl rfl (Nat.zero_le _) (Nat.zero_le _) (Nat.zero_le _) (show (0 : Int) ≤ 0 ∧ (0 : Int) ≤ 18446744073709551615 from by decide) (show (0 : Int) ≤ 2 ∧ (2 : Int) ≤ 255 from by decide)
    have hrow := bN.row
    have hones := ones11 (c0 := .int .u8 2) (c1 := .slice nA q.length nc) (c2 := .int .i64 0) (c3 := .slice none 0 0) (c4 := .int .u64 0) (c5 := .bool false) (c6 := .string ⟨#[]⟩) (c7 := .string ⟨#[]⟩) (c8 := .string ⟨#[]⟩) (c9 := .bool false) (c10 := .slice none 0 0) ⟨rfl, rfl, rfl, rfl, rfl, rfl, rfl, rfl, rfl, rfl, rfl⟩
    go_wp2_with (first | (at_builtin; rw [HW.out, HNN.out]; refine wpList_append_rd rfl rfl T31 (v := _) (by rfl) ho1 (by rfl) hrow hones (by omega) (by simp only [maxLen]; omega) hsz ?_))
    intro v4 w9 h4 hg hat4
    have HL2 := Lib.hid (rowV2.push hla1 rfl hx hg hat4 h4)
    have HE2 := Lib.hid (Fr.ext HE.out (Fr.grown hg) (fun k hk => owns_base ho1 k hk))
    obtain ⟨L2, hL2⟩ : ∃ L, l ++ [delO q] = L := ⟨_, rfl⟩
    have HF : Hid (joinL s kk.text = L2) := Lib.hid (by rw [HSL.out, HL1.out, hL2])
    rw [hL2] at HL2
    obtain ⟨A4, c4, rfl⟩ := lsV.slice HL2.out
    clear hx hS hla1 ho1 hg hat4 h4 bN hrow hones hsz HW HNN HE HO HL hL2
    go_wp2_with fail
    go_ret2
    rw [HSPL.out, HR.out, HF.out]
    exact ⟨HE0.out.trans HE2.out, _, rfl, rowV2.low HL2.out HE0.out.size⟩
end Go.Proofs.Ytofcbclokkjfjaa.Wi
