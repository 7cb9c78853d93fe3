/- Chapter 24: the document's Indent, Outdent, Up, Down (10, 12, 15, 17). (Printed by gourefs.py.) -/
import Derived.Test.YtofcbclokkjfjaaOuAsked
namespace Go.Proofs.Ytofcbclokkjfjaa.Wi
open Go.RowKit Go.Proofs.Ytofcbclokkjfjaa.Bw Go.Proofs.Ytofcbclokkjfjaa.Bs

theorem spot_err {t : Nd} {p : List Int} {k : Int} (h : spotP t p = .error k) : k ≠ 0 := by
 unfold spotP at h
 split at h
 ·cases h; decide
 ·split at h
  ·cases h; decide
  ·split at h
   ·cases h; decide
   ·cases h
set_option maxRecDepth 100000 in
set_option maxHeartbeats 8000000 in
theorem rup_any (t : Nd) (p : List Int) (tv pv : Value) (w : World) (ht : t.rd w tv) (hp : RdI w p pv) (hwt : t.wt ≤ 1000000) (hpl : p.length ≤ 10000) : Calls Try.prog 15 #[tv, pv] w (AskR w p (askP t p upP)) := by
 obtain ⟨tA, tc, tK, td, rfl⟩ := rd_open6 ht
 obtain ⟨w1, hw1⟩ : ∃ W, w.alloc (.cells #[.int .u64 t.id, .bool t.leaf, .string t.label, .slice tA t.attrs.length tc, .string t.text, .slice tK t.kids.length td] 26) = W := ⟨_, rfl⟩
 obtain ⟨T, hT⟩ : ∃ T, w.heap.size = T := ⟨_, rfl⟩
 have E1 : Ext w w1 := by rw [← hw1]; exact (Ext.refl w).alloc _
 have bT : NBox w1 T 26 #[.int .u64 t.id, .bool t.leaf, .string t.label, .slice tA t.attrs.length tc, .string t.text, .slice tK t.kids.length td] := by rw [← hw1, ← hT]; exact NBox.new _ _ _
 have hc := spot31_any t p _ _ w1 (Nd.rd_ext E1 ht) (RdS.ext E1 hp) (by omega)
 have hcnt : t.cnt ≤ 1000000 := by have := Nd.cnt_wt t; omega
 have HE := Lib.hid E1
 have HP := Lib.hid hp
 have HW := Lib.hid hw1
 have HTT := Lib.hid hT
 have HAP := Lib.hid (show askP t p upP = match spotP t p with | .error k => .error k | .ok s => upP s from rfl)
 have HSO := Lib.hid (fun s (h : spotP t p = .ok s) => spot_ok h hpl hcnt)
 have HSK := Lib.hid (fun k (h : spotP t p = .error k) => spot_err h)
 obtain ⟨o, ho⟩ : ∃ o, spotP t p = o := ⟨_, rfl⟩
 rw [ho] at hc HAP HSO HSK
 obtain ⟨t0, t1, t2, t3, t4, t5⟩ := bT.c6
 obtain ⟨aA, ac, rfl, -⟩ := hp
 clear hw1 hT E1 bT ht ho
 go_enter Try.func15, Try.ntmps15
 go_upto_region 1 with fail
 rw [HW.out, HTT.out]
 go_wp2_with fail
 refine hc.mono ?_
 clear hc t0 t1 t2 t3 t4 t5
 rintro e w2 ⟨hE, hP⟩
 have HE2 := Lib.hid (HE.out.trans hE)
 obtain ⟨wa, hwa⟩ : ∃ q, w2.alloc (.cells #[.int .u64 0, .bool false, .string ⟨#[]⟩, .slice none 0 0, .string ⟨#[]⟩, .slice none 0 0, .slice none 0 0, .int .i64 0, .int .u64 0, .bool false, .string ⟨#[]⟩, .slice none 0 0, .string ⟨#[]⟩, .slice none 0 0] 58) = q := ⟨_, rfl⟩
 obtain ⟨X, hX⟩ : ∃ q, w2.heap.size = q := ⟨_, rfl⟩
 have XA : Ext w2 wa := by rw [← hwa]; exact (Ext.refl _).alloc _
 have bX : NBox wa X 58 #[.int .u64 0, .bool false, .string ⟨#[]⟩, .slice none 0 0, .string ⟨#[]⟩, .slice none 0 0, .slice none 0 0, .int .i64 0, .int .u64 0, .bool false, .string ⟨#[]⟩, .slice none 0 0, .string ⟨#[]⟩, .slice none 0 0] := by rw [← hwa, ← hX]; exact NBox.new _ _ _
 have HWA := Lib.hid hwa
 have HXX := Lib.hid hX
 have y0 := bX.cell 0
 have y1 := bX.cell 1
 have y2 := bX.cell 2
 have y3 := bX.cell 3
 have y4 := bX.cell 4
 have y5 := bX.cell 5
 have y6 := bX.cell 6
 have y7 := bX.cell 7
 have y8 := bX.cell 8
 have y9 := bX.cell 9
 have y10 := bX.cell 10
 have y11 := bX.cell 11
 have y12 := bX.cell 12
 have y13 := bX.cell 13
 have z0 := bX.frozen 0
 have z1 := bX.frozen 1
 have z2 := bX.frozen 2
 have z3 := bX.frozen 3
 have z4 := bX.frozen 4
 have z5 := bX.frozen 5
 have z6 := bX.frozen 6
 have z7 := bX.frozen 7
 have z8 := bX.frozen 8
 have z9 := bX.frozen 9
 have z10 := bX.frozen 10
 have z11 := bX.frozen 11
 have z12 := bX.frozen 12
 have z13 := bX.frozen 13
 cases o with
 | error k =>
  subst hP
  have hk0 := HSK.out k rfl
  have kz : (k != 0) = true := by rw [bne_iff_ne]; exact hk0
  have F3 := Fr.s14 wa X (.int .u64 0) (.bool false) (.string ⟨#[]⟩) (.slice none 0 0) (.string ⟨#[]⟩) (.slice none 0 0) (.slice none 0 0) (.int .i64 0) (.int .u64 0) (.bool false) (.string ⟨#[]⟩) (.slice none 0 0) (.string ⟨#[]⟩) (.slice none 0 0)
  have HX3 := Lib.hid (Fr.ext (HE2.out.trans XA) F3 (fun q hq => by rw [show q = X from hq, ← hX]; exact HE2.out.size))
  have HR : Hid (askP t p upP = .error k) := HAP
  clear hwa hX XA bX F3 hE
  go_wp2_with (rw [HWA.out, HXX.out]; clear HWA HXX)
  go_ret2
  rw [HR.out]
  exact ⟨HX3.out, rfl⟩
 | ok s =>
  obtain ⟨sv, rfl, hs⟩ := hP
  have ho := HSO.out s rfl
  have HRS : Hid (askP t p upP = upP s) := HAP
  obtain ⟨xA, xc, xK, xd, uA, uc, yA, yc, yK, yd, rfl, hxr, hyr, hU⟩ := hs
  obtain ⟨w3, hw3⟩ : ∃ q, (World.setCell (World.setCell (World.setCell (World.setCell (World.setCell (World.setCell (World.setCell (World.setCell (World.setCell (World.setCell (World.setCell (World.setCell (World.setCell (World.setCell wa ⟨X, 0, none⟩ (.int .u64 s.x.id)) ⟨X, 1, none⟩ (.bool s.x.leaf)) ⟨X, 2, none⟩ (.string s.x.label)) ⟨X, 3, none⟩ (.slice xA s.x.attrs.length xc)) ⟨X, 4, none⟩ (.string s.x.text)) ⟨X, 5, none⟩ (.slice xK s.x.kids.length xd)) ⟨X, 6, none⟩ (.slice uA s.up.length uc)) ⟨X, 7, none⟩ (.int .i64 s.i)) ⟨X, 8, none⟩ (.int .u64 s.par.id)) ⟨X, 9, none⟩ (.bool s.par.leaf)) ⟨X, 10, none⟩ (.string s.par.label)) ⟨X, 11, none⟩ (.slice yA s.par.attrs.length yc)) ⟨X, 12, none⟩ (.string s.par.text)) ⟨X, 13, none⟩ (.slice yK s.par.kids.length yd)) = q := ⟨_, rfl⟩
  have F3 : Fr wa w3 (fun k => k = X) := by rw [← hw3]; exact Fr.s14 _ _ _ _ _ _ _ _ _ _ _ _ _ _ _ _
  have X3 : Ext w2 w3 := Fr.ext XA F3 (fun q hq => by rw [show q = X from hq, hX]; exact Nat.le_refl _)
  have HB := Lib.hid (show NBox w3 X 58 #[.int .u64 s.x.id, .bool s.x.leaf, .string s.x.label, .slice xA s.x.attrs.length xc, .string s.x.text, .slice xK s.x.kids.length xd, .slice uA s.up.length uc, .int .i64 s.i, .int .u64 s.par.id, .bool s.par.leaf, .string s.par.label, .slice yA s.par.attrs.length yc, .string s.par.text, .slice yK s.par.kids.length yd] from by rw [← hw3]; exact bX.s14 _ _ _ _ _ _ _ _ _ _ _ _ _ _)
  have HE3 := Lib.hid (HE2.out.trans X3)
  have HU := Lib.hid (owns_ext X3 hU)
  have HYR := Lib.hid (Nd.rd_ext (hE.trans X3) hyr)
  have HW3 := Lib.hid hw3
  have hi0 := ho.i0
  have hi1 := ho.i1
  have hul := ho.up
  have hkl := ho.kids
  have HLAST := Lib.hid ho.last
  clear hwa hX XA bX F3 X3 hw3 hE hU hxr hyr ho HE HE2
  go_upto_region 2 with (rw [HWA.out, HXX.out]; clear HWA HXX)
  rw [HW3.out]
  clear HW3 y0 z0 y1 z1 y2 z2 y3 z3 y4 z4 y5 z5 y6 z6 y7 z7 y8 z8 y9 z9 y10 z10 y11 z11 y12 z12 y13 z13
  have k0 := HB.out.cell 0
  have k1 := HB.out.cell 1
  have k2 := HB.out.cell 2
  have k3 := HB.out.cell 3
  have k4 := HB.out.cell 4
  have k5 := HB.out.cell 5
  have k6 := HB.out.cell 6
  have k7 := HB.out.cell 7
  have k8 := HB.out.cell 8
  have k9 := HB.out.cell 9
  have k10 := HB.out.cell 10
  have k11 := HB.out.cell 11
  have k12 := HB.out.cell 12
  have k13 := HB.out.cell 13
  by_cases hc0 : 0 < s.i
  case neg =>
   have HR : Hid (askP t p upP = .error 4) := Lib.hid (by rw [HRS.out]; exact if_neg hc0)
   have t1 : (s.i == 0) = true := by rw [beq_iff_eq]; omega
   go_wp2_with fail
   go_ret2
   rw [HR.out]
   exact ⟨HE3.out, rfl⟩
  have HR : Hid (askP t p upP = .ok (s.up, s.i - 1)) := Lib.hid (by rw [HRS.out]; exact if_pos hc0)
  have t1 : (s.i == 0) = false := by rw [beq_eq_false_iff_ne]; omega
  have q7 : IntKind.i64.wrap (s.i - 1) = s.i - 1 := IntWalk.i64_in _ (by omega)
  have hc := move32_any p s.up (s.i - 1) _ _ w3 (RdS.ext HE3.out HP.out) (RdS.of_owns HU.out) (by omega) (by omega)
  go_wp2_with fail
  refine hc.mono ?_
  clear hc
  rintro e u2 ⟨hE, v, rfl, hv⟩
  have HV := Lib.hid (hv.low HE3.out.size)
  have HX := Lib.hid (HE3.out.trans hE)
  obtain ⟨g, pA2, pc2, tA2, tc2, rfl, -⟩ := hv
  clear hE
  go_wp2_with fail
  go_ret2
  rw [HR.out]
  exact ⟨HX.out, _, rfl, HV.out⟩
set_option maxRecDepth 100000 in
set_option maxHeartbeats 8000000 in
theorem rdown_any (t : Nd) (p : List Int) (tv pv : Value) (w : World) (ht : t.rd w tv) (hp : RdI w p pv) (hwt : t.wt ≤ 1000000) (hpl : p.length ≤ 10000) : Calls Try.prog 17 #[tv, pv] w (AskR w p (askP t p downP)) := by
 obtain ⟨tA, tc, tK, td, rfl⟩ := rd_open6 ht
 obtain ⟨w1, hw1⟩ : ∃ W, w.alloc (.cells #[.int .u64 t.id, .bool t.leaf, .string t.label, .slice tA t.attrs.length tc, .string t.text, .slice tK t.kids.length td] 26) = W := ⟨_, rfl⟩
 obtain ⟨T, hT⟩ : ∃ T, w.heap.size = T := ⟨_, rfl⟩
 have E1 : Ext w w1 := by rw [← hw1]; exact (Ext.refl w).alloc _
 have bT : NBox w1 T 26 #[.int .u64 t.id, .bool t.leaf, .string t.label, .slice tA t.attrs.length tc, .string t.text, .slice tK t.kids.length td] := by rw [← hw1, ← hT]; exact NBox.new _ _ _
 have hc := spot31_any t p _ _ w1 (Nd.rd_ext E1 ht) (RdS.ext E1 hp) (by omega)
 have hcnt : t.cnt ≤ 1000000 := by have := Nd.cnt_wt t; omega
 have HE := Lib.hid E1
 have HP := Lib.hid hp
 have HW := Lib.hid hw1
 have HTT := Lib.hid hT
 have HAP := Lib.hid (show askP t p downP = match spotP t p with | .error k => .error k | .ok s => downP s from rfl)
 have HSO := Lib.hid (fun s (h : spotP t p = .ok s) => spot_ok h hpl hcnt)
 have HSK := Lib.hid (fun k (h : spotP t p = .error k) => spot_err h)
 obtain ⟨o, ho⟩ : ∃ o, spotP t p = o := ⟨_, rfl⟩
 rw [ho] at hc HAP HSO HSK
 obtain ⟨t0, t1, t2, t3, t4, t5⟩ := bT.c6
 obtain ⟨aA, ac, rfl, -⟩ := hp
 clear hw1 hT E1 bT ht ho
 go_enter Try.func17, Try.ntmps17
 go_upto_region 1 with fail
 rw [HW.out, HTT.out]
 go_wp2_with fail
 refine hc.mono ?_
 clear hc t0 t1 t2 t3 t4 t5
 rintro e w2 ⟨hE, hP⟩
 have HE2 := Lib.hid (HE.out.trans hE)
 obtain ⟨wa, hwa⟩ : ∃ q, w2.alloc (.cells #[.int .u64 0, .bool false, .string ⟨#[]⟩, .slice none 0 0, .string ⟨#[]⟩, .slice none 0 0, .slice none 0 0, .int .i64 0, .int .u64 0, .bool false, .string ⟨#[]⟩, .slice none 0 0, .string ⟨#[]⟩, .slice none 0 0] 58) = q := ⟨_, rfl⟩
 obtain ⟨X, hX⟩ : ∃ q, w2.heap.size = q := ⟨_, rfl⟩
 have XA : Ext w2 wa := by rw [← hwa]; exact (Ext.refl _).alloc _
 have bX : NBox wa X 58 #[.int .u64 0, .bool false, .string ⟨#[]⟩, .slice none 0 0, .string ⟨#[]⟩, .slice none 0 0, .slice none 0 0, .int .i64 0, .int .u64 0, .bool false, .string ⟨#[]⟩, .slice none 0 0, .string ⟨#[]⟩, .slice none 0 0] := by rw [← hwa, ← hX]; exact NBox.new _ _ _
 have HWA := Lib.hid hwa
 have HXX := Lib.hid hX
 have y0 := bX.cell 0
 have y1 := bX.cell 1
 have y2 := bX.cell 2
 have y3 := bX.cell 3
 have y4 := bX.cell 4
 have y5 := bX.cell 5
 have y6 := bX.cell 6
 have y7 := bX.cell 7
 have y8 := bX.cell 8
 have y9 := bX.cell 9
 have y10 := bX.cell 10
 have y11 := bX.cell 11
 have y12 := bX.cell 12
 have y13 := bX.cell 13
 have z0 := bX.frozen 0
 have z1 := bX.frozen 1
 have z2 := bX.frozen 2
 have z3 := bX.frozen 3
 have z4 := bX.frozen 4
 have z5 := bX.frozen 5
 have z6 := bX.frozen 6
 have z7 := bX.frozen 7
 have z8 := bX.frozen 8
 have z9 := bX.frozen 9
 have z10 := bX.frozen 10
 have z11 := bX.frozen 11
 have z12 := bX.frozen 12
 have z13 := bX.frozen 13
 cases o with
 | error k =>
  subst hP
  have hk0 := HSK.out k rfl
  have kz : (k != 0) = true := by rw [bne_iff_ne]; exact hk0
  have F3 := Fr.s14 wa X (.int .u64 0) (.bool false) (.string ⟨#[]⟩) (.slice none 0 0) (.string ⟨#[]⟩) (.slice none 0 0) (.slice none 0 0) (.int .i64 0) (.int .u64 0) (.bool false) (.string ⟨#[]⟩) (.slice none 0 0) (.string ⟨#[]⟩) (.slice none 0 0)
  have HX3 := Lib.hid (Fr.ext (HE2.out.trans XA) F3 (fun q hq => by rw [show q = X from hq, ← hX]; exact HE2.out.size))
  have HR : Hid (askP t p downP = .error k) := HAP
  clear hwa hX XA bX F3 hE
  go_wp2_with (rw [HWA.out, HXX.out]; clear HWA HXX)
  go_ret2
  rw [HR.out]
  exact ⟨HX3.out, rfl⟩
 | ok s =>
  obtain ⟨sv, rfl, hs⟩ := hP
  have ho := HSO.out s rfl
  have HRS : Hid (askP t p downP = downP s) := HAP
  obtain ⟨xA, xc, xK, xd, uA, uc, yA, yc, yK, yd, rfl, hxr, hyr, hU⟩ := hs
  obtain ⟨w3, hw3⟩ : ∃ q, (World.setCell (World.setCell (World.setCell (World.setCell (World.setCell (World.setCell (World.setCell (World.setCell (World.setCell (World.setCell (World.setCell (World.setCell (World.setCell (World.setCell wa ⟨X, 0, none⟩ (.int .u64 s.x.id)) ⟨X, 1, none⟩ (.bool s.x.leaf)) ⟨X, 2, none⟩ (.string s.x.label)) ⟨X, 3, none⟩ (.slice xA s.x.attrs.length xc)) ⟨X, 4, none⟩ (.string s.x.text)) ⟨X, 5, none⟩ (.slice xK s.x.kids.length xd)) ⟨X, 6, none⟩ (.slice uA s.up.length uc)) ⟨X, 7, none⟩ (.int .i64 s.i)) ⟨X, 8, none⟩ (.int .u64 s.par.id)) ⟨X, 9, none⟩ (.bool s.par.leaf)) ⟨X, 10, none⟩ (.string s.par.label)) ⟨X, 11, none⟩ (.slice yA s.par.attrs.length yc)) ⟨X, 12, none⟩ (.string s.par.text)) ⟨X, 13, none⟩ (.slice yK s.par.kids.length yd)) = q := ⟨_, rfl⟩
  have F3 : Fr wa w3 (fun k => k = X) := by rw [← hw3]; exact Fr.s14 _ _ _ _ _ _ _ _ _ _ _ _ _ _ _ _
  have X3 : Ext w2 w3 := Fr.ext XA F3 (fun q hq => by rw [show q = X from hq, hX]; exact Nat.le_refl _)
  have HB := Lib.hid (show NBox w3 X 58 #[.int .u64 s.x.id, .bool s.x.leaf, .string s.x.label, .slice xA s.x.attrs.length xc, .string s.x.text, .slice xK s.x.kids.length xd, .slice uA s.up.length uc, .int .i64 s.i, .int .u64 s.par.id, .bool s.par.leaf, .string s.par.label, .slice yA s.par.attrs.length yc, .string s.par.text, .slice yK s.par.kids.length yd] from by rw [← hw3]; exact bX.s14 _ _ _ _ _ _ _ _ _ _ _ _ _ _)
  have HE3 := Lib.hid (HE2.out.trans X3)
  have HU := Lib.hid (owns_ext X3 hU)
  have HYR := Lib.hid (Nd.rd_ext (hE.trans X3) hyr)
  have HW3 := Lib.hid hw3
  have hi0 := ho.i0
  have hi1 := ho.i1
  have hul := ho.up
  have hkl := ho.kids
  have HLAST := Lib.hid ho.last
  clear hwa hX XA bX F3 X3 hw3 hE hU hxr hyr ho HE HE2
  go_upto_region 2 with (rw [HWA.out, HXX.out]; clear HWA HXX)
  rw [HW3.out]
  clear HW3 y0 z0 y1 z1 y2 z2 y3 z3 y4 z4 y5 z5 y6 z6 y7 z7 y8 z8 y9 z9 y10 z10 y11 z11 y12 z12 y13 z13
  have k0 := HB.out.cell 0
  have k1 := HB.out.cell 1
  have k2 := HB.out.cell 2
  have k3 := HB.out.cell 3
  have k4 := HB.out.cell 4
  have k5 := HB.out.cell 5
  have k6 := HB.out.cell 6
  have k7 := HB.out.cell 7
  have k8 := HB.out.cell 8
  have k9 := HB.out.cell 9
  have k10 := HB.out.cell 10
  have k11 := HB.out.cell 11
  have k12 := HB.out.cell 12
  have k13 := HB.out.cell 13
  by_cases hc0 : s.i < (s.par.kids.length : Int) - 1
  case neg =>
   have HR : Hid (askP t p downP = .error 4) := Lib.hid (by rw [HRS.out]; exact if_neg hc0)
   have t1 : (s.i == (s.par.kids.length : Int) - 1) = true := by rw [beq_iff_eq]; omega
   have q6 : IntKind.i64.wrap ((s.par.kids.length : Int) - 1) = (s.par.kids.length : Int) - 1 := IntWalk.i64_in _ (by omega)
   go_wp2_with fail
   go_ret2
   rw [HR.out]
   exact ⟨HE3.out, rfl⟩
  have HR : Hid (askP t p downP = .ok (s.up, s.i + 2)) := Lib.hid (by rw [HRS.out]; exact if_pos hc0)
  have t1 : (s.i == (s.par.kids.length : Int) - 1) = false := by rw [beq_eq_false_iff_ne]; omega
  have q6 : IntKind.i64.wrap ((s.par.kids.length : Int) - 1) = (s.par.kids.length : Int) - 1 := IntWalk.i64_in _ (by omega)
  have q7 : IntKind.i64.wrap (s.i + 2) = s.i + 2 := IntWalk.i64_in _ (by omega)
  have hc := move32_any p s.up (s.i + 2) _ _ w3 (RdS.ext HE3.out HP.out) (RdS.of_owns HU.out) (by omega) (by omega)
  go_wp2_with fail
  refine hc.mono ?_
  clear hc
  rintro e u2 ⟨hE, v, rfl, hv⟩
  have HV := Lib.hid (hv.low HE3.out.size)
  have HX := Lib.hid (HE3.out.trans hE)
  obtain ⟨g, pA2, pc2, tA2, tc2, rfl, -⟩ := hv
  clear hE
  go_wp2_with fail
  go_ret2
  rw [HR.out]
  exact ⟨HX.out, _, rfl, HV.out⟩
set_option maxRecDepth 100000 in
set_option maxHeartbeats 8000000 in
theorem rindent_any (t : Nd) (p : List Int) (tv pv : Value) (w : World) (ht : t.rd w tv) (hp : RdI w p pv) (hwt : t.wt ≤ 1000000) (hpl : p.length ≤ 10000) : Calls Try.prog 10 #[tv, pv] w (AskR w p (askP t p indP)) := by
 obtain ⟨tA, tc, tK, td, rfl⟩ := rd_open6 ht
 obtain ⟨w1, hw1⟩ : ∃ W, w.alloc (.cells #[.int .u64 t.id, .bool t.leaf, .string t.label, .slice tA t.attrs.length tc, .string t.text, .slice tK t.kids.length td] 26) = W := ⟨_, rfl⟩
 obtain ⟨T, hT⟩ : ∃ T, w.heap.size = T := ⟨_, rfl⟩
 have E1 : Ext w w1 := by rw [← hw1]; exact (Ext.refl w).alloc _
 have bT : NBox w1 T 26 #[.int .u64 t.id, .bool t.leaf, .string t.label, .slice tA t.attrs.length tc, .string t.text, .slice tK t.kids.length td] := by rw [← hw1, ← hT]; exact NBox.new _ _ _
 have hc := spot31_any t p _ _ w1 (Nd.rd_ext E1 ht) (RdS.ext E1 hp) (by omega)
 have hcnt : t.cnt ≤ 1000000 := by have := Nd.cnt_wt t; omega
 have HE := Lib.hid E1
 have HP := Lib.hid hp
 have HW := Lib.hid hw1
 have HTT := Lib.hid hT
 have HAP := Lib.hid (show askP t p indP = match spotP t p with | .error k => .error k | .ok s => indP s from rfl)
 have HSO := Lib.hid (fun s (h : spotP t p = .ok s) => spot_ok h hpl hcnt)
 have HSK := Lib.hid (fun k (h : spotP t p = .error k) => spot_err h)
 obtain ⟨o, ho⟩ : ∃ o, spotP t p = o := ⟨_, rfl⟩
 rw [ho] at hc HAP HSO HSK
 obtain ⟨t0, t1, t2, t3, t4, t5⟩ := bT.c6
 obtain ⟨aA, ac, rfl, -⟩ := hp
 clear hw1 hT E1 bT ht ho
 go_enter Try.func10, Try.ntmps10
 go_upto_region 1 with fail
 rw [HW.out, HTT.out]
 go_wp2_with fail
 refine hc.mono ?_
 clear hc t0 t1 t2 t3 t4 t5
 rintro e w2 ⟨hE, hP⟩
 have HE2 := Lib.hid (HE.out.trans hE)
 obtain ⟨wa, hwa⟩ : ∃ q, w2.alloc (.cells #[.int .u64 0, .bool false, .string ⟨#[]⟩, .slice none 0 0, .string ⟨#[]⟩, .slice none 0 0, .slice none 0 0, .int .i64 0, .int .u64 0, .bool false, .string ⟨#[]⟩, .slice none 0 0, .string ⟨#[]⟩, .slice none 0 0] 58) = q := ⟨_, rfl⟩
 obtain ⟨X, hX⟩ : ∃ q, w2.heap.size = q := ⟨_, rfl⟩
 have XA : Ext w2 wa := by rw [← hwa]; exact (Ext.refl _).alloc _
 have bX : NBox wa X 58 #[.int .u64 0, .bool false, .string ⟨#[]⟩, .slice none 0 0, .string ⟨#[]⟩, .slice none 0 0, .slice none 0 0, .int .i64 0, .int .u64 0, .bool false, .string ⟨#[]⟩, .slice none 0 0, .string ⟨#[]⟩, .slice none 0 0] := by rw [← hwa, ← hX]; exact NBox.new _ _ _
 have HWA := Lib.hid hwa
 have HXX := Lib.hid hX
 have y0 := bX.cell 0
 have y1 := bX.cell 1
 have y2 := bX.cell 2
 have y3 := bX.cell 3
 have y4 := bX.cell 4
 have y5 := bX.cell 5
 have y6 := bX.cell 6
 have y7 := bX.cell 7
 have y8 := bX.cell 8
 have y9 := bX.cell 9
 have y10 := bX.cell 10
 have y11 := bX.cell 11
 have y12 := bX.cell 12
 have y13 := bX.cell 13
 have z0 := bX.frozen 0
 have z1 := bX.frozen 1
 have z2 := bX.frozen 2
 have z3 := bX.frozen 3
 have z4 := bX.frozen 4
 have z5 := bX.frozen 5
 have z6 := bX.frozen 6
 have z7 := bX.frozen 7
 have z8 := bX.frozen 8
 have z9 := bX.frozen 9
 have z10 := bX.frozen 10
 have z11 := bX.frozen 11
 have z12 := bX.frozen 12
 have z13 := bX.frozen 13
 cases o with
 | error k =>
  subst hP
  have hk0 := HSK.out k rfl
  have kz : (k != 0) = true := by rw [bne_iff_ne]; exact hk0
  have F3 := Fr.s14 wa X (.int .u64 0) (.bool false) (.string ⟨#[]⟩) (.slice none 0 0) (.string ⟨#[]⟩) (.slice none 0 0) (.slice none 0 0) (.int .i64 0) (.int .u64 0) (.bool false) (.string ⟨#[]⟩) (.slice none 0 0) (.string ⟨#[]⟩) (.slice none 0 0)
  have HX3 := Lib.hid (Fr.ext (HE2.out.trans XA) F3 (fun q hq => by rw [show q = X from hq, ← hX]; exact HE2.out.size))
  have HR : Hid (askP t p indP = .error k) := HAP
  clear hwa hX XA bX F3 hE
  go_wp2_with (rw [HWA.out, HXX.out]; clear HWA HXX)
  go_ret2
  rw [HR.out]
  exact ⟨HX3.out, rfl⟩
 | ok s =>
  obtain ⟨sv, rfl, hs⟩ := hP
  have ho := HSO.out s rfl
  have HRS : Hid (askP t p indP = indP s) := HAP
  obtain ⟨xA, xc, xK, xd, uA, uc, yA, yc, yK, yd, rfl, hxr, hyr, hU⟩ := hs
  obtain ⟨w3, hw3⟩ : ∃ q, (World.setCell (World.setCell (World.setCell (World.setCell (World.setCell (World.setCell (World.setCell (World.setCell (World.setCell (World.setCell (World.setCell (World.setCell (World.setCell (World.setCell wa ⟨X, 0, none⟩ (.int .u64 s.x.id)) ⟨X, 1, none⟩ (.bool s.x.leaf)) ⟨X, 2, none⟩ (.string s.x.label)) ⟨X, 3, none⟩ (.slice xA s.x.attrs.length xc)) ⟨X, 4, none⟩ (.string s.x.text)) ⟨X, 5, none⟩ (.slice xK s.x.kids.length xd)) ⟨X, 6, none⟩ (.slice uA s.up.length uc)) ⟨X, 7, none⟩ (.int .i64 s.i)) ⟨X, 8, none⟩ (.int .u64 s.par.id)) ⟨X, 9, none⟩ (.bool s.par.leaf)) ⟨X, 10, none⟩ (.string s.par.label)) ⟨X, 11, none⟩ (.slice yA s.par.attrs.length yc)) ⟨X, 12, none⟩ (.string s.par.text)) ⟨X, 13, none⟩ (.slice yK s.par.kids.length yd)) = q := ⟨_, rfl⟩
  have F3 : Fr wa w3 (fun k => k = X) := by rw [← hw3]; exact Fr.s14 _ _ _ _ _ _ _ _ _ _ _ _ _ _ _ _
  have X3 : Ext w2 w3 := Fr.ext XA F3 (fun q hq => by rw [show q = X from hq, hX]; exact Nat.le_refl _)
  have HB := Lib.hid (show NBox w3 X 58 #[.int .u64 s.x.id, .bool s.x.leaf, .string s.x.label, .slice xA s.x.attrs.length xc, .string s.x.text, .slice xK s.x.kids.length xd, .slice uA s.up.length uc, .int .i64 s.i, .int .u64 s.par.id, .bool s.par.leaf, .string s.par.label, .slice yA s.par.attrs.length yc, .string s.par.text, .slice yK s.par.kids.length yd] from by rw [← hw3]; exact bX.s14 _ _ _ _ _ _ _ _ _ _ _ _ _ _)
  have HE3 := Lib.hid (HE2.out.trans X3)
  have HU := Lib.hid (owns_ext X3 hU)
  have HYR := Lib.hid (Nd.rd_ext (hE.trans X3) hyr)
  have HW3 := Lib.hid hw3
  have hi0 := ho.i0
  have hi1 := ho.i1
  have hul := ho.up
  have hkl := ho.kids
  have HLAST := Lib.hid ho.last
  clear hwa hX XA bX F3 X3 hw3 hE hU hxr hyr ho HE HE2
  go_upto_region 2 with (rw [HWA.out, HXX.out]; clear HWA HXX)
  rw [HW3.out]
  clear HW3 y0 z0 y1 z1 y2 z2 y3 z3 y4 z4 y5 z5 y6 z6 y7 z7 y8 z8 y9 z9 y10 z10 y11 z11 y12 z12 y13 z13
  have k0 := HB.out.cell 0
  have k1 := HB.out.cell 1
  have k2 := HB.out.cell 2
  have k3 := HB.out.cell 3
  have k4 := HB.out.cell 4
  have k5 := HB.out.cell 5
  have k6 := HB.out.cell 6
  have k7 := HB.out.cell 7
  have k8 := HB.out.cell 8
  have k9 := HB.out.cell 9
  have k10 := HB.out.cell 10
  have k11 := HB.out.cell 11
  have k12 := HB.out.cell 12
  have k13 := HB.out.cell 13
  by_cases hc0 : 0 < s.i
  case neg =>
   have HR : Hid (askP t p indP = .error 4) := Lib.hid (by rw [HRS.out]; exact if_neg hc0)
   have t1 : (s.i == 0) = true := by rw [beq_iff_eq]; omega
   go_wp2_with fail
   go_ret2
   rw [HR.out]
   exact ⟨HE3.out, rfl⟩
  have t1 : (s.i == 0) = false := by rw [beq_eq_false_iff_ne]; omega
  have q1 : (0 : Int) ≤ s.i - 1 := by omega
  have q2 : s.i - 1 < (s.par.kids.length : Int) := by omega
  have q7 : IntKind.i64.wrap (s.i - 1) = s.i - 1 := IntWalk.i64_in _ (by omega)
  have hklt : (s.i - 1).toNat < s.par.kids.length := by omega
  obtain ⟨kk, hkk⟩ : ∃ k, s.par.kids[(s.i - 1).toNat]? = some k := ⟨_, List.getElem?_eq_getElem hklt⟩
  have HIP : Hid (askP t p indP = if kk.leaf then .error 83 else .ok (s.up ++ [s.i - 1], (kk.kids.length : Int))) := Lib.hid (by rw [HRS.out]; unfold indP; rw [if_pos hc0, hkk])
  obtain ⟨av, kv, he, -, -, -, -, -, ⟨A1, c1, e1, -, -, hrk⟩⟩ := Nd.rd_open HYR.out
  simp only [Value.agg.injEq, Array.mk.injEq, List.cons.injEq, and_true, true_and] at he
  obtain ⟨-, he⟩ := he
  rw [e1] at he
  simp only [Value.slice.injEq, true_and] at he
  obtain ⟨he1, he2⟩ := he
  obtain ⟨bk, ok, hA1, hr⟩ := hrk (by intro h0; rw [h0] at hklt; exact absurd hklt (Nat.not_lt_zero _))
  rw [hA1] at he1
  subst he1
  obtain ⟨zA, zc, zK, zd, cx0, cx1, cx2, cx3, cx4, cx5, HXV⟩ := rdKids_get hr hkk
  clear hr hkk e1 he2 hA1 hrk av kv
  obtain ⟨m, hm⟩ : ∃ m, (s.i - 1).toNat = m := ⟨_, rfl⟩
  rw [hm] at cx0 cx1 cx2 cx3 cx4 cx5 hklt
  obtain ⟨w5a, hwa⟩ : ∃ q, w3.alloc (.cells #[.int .u64 0, .bool false, .string ⟨#[]⟩, .slice none 0 0, .string ⟨#[]⟩, .slice none 0 0] 26) = q := ⟨_, rfl⟩
  obtain ⟨Zk, hZ⟩ : ∃ q, w3.heap.size = q := ⟨_, rfl⟩
  have XA : Ext w3 w5a := by rw [← hwa]; exact (Ext.refl _).alloc _
  have bZ : NBox w5a Zk 26 #[.int .u64 0, .bool false, .string ⟨#[]⟩, .slice none 0 0, .string ⟨#[]⟩, .slice none 0 0] := by rw [← hwa, ← hZ]; exact NBox.new _ _ _
  obtain ⟨w5, hwn⟩ : ∃ q, (World.setCell (World.setCell (World.setCell (World.setCell (World.setCell (World.setCell w5a ⟨Zk, 0, none⟩ (.int .u64 kk.id)) ⟨Zk, 1, none⟩ (.bool kk.leaf)) ⟨Zk, 2, none⟩ (.string kk.label)) ⟨Zk, 3, none⟩ (.slice zA kk.attrs.length zc)) ⟨Zk, 4, none⟩ (.string kk.text)) ⟨Zk, 5, none⟩ (.slice zK kk.kids.length zd)) = q := ⟨_, rfl⟩
  have F8 : Fr w5a w5 (fun k => k = Zk) := by rw [← hwn]; exact Fr.six _ _ _ _ _ _ _ _
  have X8 : Ext w3 w5 := Fr.ext XA F8 (fun q hq => by rw [show q = Zk from hq, hZ]; exact Nat.le_refl _)
  have HBZk := Lib.hid (show NBox w5 Zk 26 #[.int .u64 kk.id, .bool kk.leaf, .string kk.label, .slice zA kk.attrs.length zc, .string kk.text, .slice zK kk.kids.length zd] from by rw [← hwn]; exact bZ.six _ _ _ _ _ _)
  have HE3' := Lib.hid (HE3.out.trans X8)
  have HB' := Lib.hid (HB.out.ext X8)
  have HU' := Lib.hid (owns_ext X8 HU.out)
  obtain ⟨y0, y1, y2, y3, y4, y5⟩ := bZ.c6
  obtain ⟨z0, z1, z2, z3, z4, z5⟩ := bZ.f6
  have HWA := Lib.hid hwa
  have HZZ := Lib.hid hZ
  have HWN := Lib.hid hwn
  clear hwa hZ hwn XA bZ F8 X8
  replace HE3 := HE3'; replace HB := HB'; replace HU := HU'
  clear HE3' HB' HU'
  go_upto_region 7 with (rw [HWA.out, HZZ.out]; clear HWA HZZ)
  rw [HWN.out]
  clear HWN y0 y1 y2 y3 y4 y5 z0 z1 z2 z3 z4 z5
  clear cx0 cx1 cx2 cx3 cx4 cx5
  have z1 := HBZk.out.cell 1
  cases hlf : kk.leaf with
  | true =>
   have HR : Hid (askP t p indP = .error 83) := Lib.hid (by rw [HIP.out, hlf]; rfl)
   rw [hlf] at z1
   clear k0 k1 k2 k3 k4 k5 k6 k7 k8 k9 k10 k11 k12 k13
   go_wp2_with fail
   go_ret2
   rw [HR.out]
   exact ⟨HE3.out, rfl⟩
  | false =>
  have HR : Hid (askP t p indP = .ok (s.up ++ [s.i - 1], (kk.kids.length : Int))) := Lib.hid (by rw [HIP.out, hlf]; rfl)
  rw [hlf] at z1
  clear HIP HXV k0 k1 k2 k3 k4 k5 k6 k7 k8 k9 k10 k11 k12 k13
  go_upto_region 9 with fail
  clear z1 hlf
  obtain ⟨c0, hc0⟩ : ∃ c0, w5.drew = c0 := ⟨_, rfl⟩
  have XC : Ext w5 c0 := by rw [← hc0]; exact (Ext.refl _).drew
  have HE3' := Lib.hid (HE3.out.trans XC)
  have HB' := Lib.hid (HB.out.ext XC)
  have HBZk' := Lib.hid (HBZk.out.ext XC)
  have HU' := Lib.hid (owns_ext XC HU.out)
  clear XC
  replace HE3 := HE3'; replace HB := HB'; replace HBZk := HBZk'; replace HU := HU'
  clear HE3' HB' HBZk' HU'
  refine wp_region_held_drew (S := (fun W => NBox W X 58 #[.int .u64 s.x.id, .bool s.x.leaf, .string s.x.label, .slice xA s.x.attrs.length xc, .string s.x.text, .slice xK s.x.kids.length xd, .slice uA s.up.length uc, .int .i64 s.i, .int .u64 s.par.id, .bool s.par.leaf, .string s.par.label, .slice yA s.par.attrs.length yc, .string s.par.text, .slice (some ⟨bk, ok, none⟩) s.par.kids.length yd] ∧ NBox W Zk 26 #[.int .u64 kk.id, .bool kk.leaf, .string kk.label, .slice zA kk.attrs.length zc, .string kk.text, .slice zK kk.kids.length zd])) (by kernel_rfl) (by rw [hc0]; exact ⟨HB.out, HBZk.out⟩) (fun hHeld => ?_)
  rw [hc0] at hHeld ⊢
  clear hc0
  refine tk 0 ?_ rfl (.inl ⟨by rfl, ?_⟩) hHeld ?_
  rotate_left
  ·intro w hSw
   try dsimp only at hSw
   go_simp
   all_goals (first | with_reducible rfl | rw [if_pos (by omega)])
  try simp only [Act.put, aS]
  refine tk 1 ?_ rfl (.inl ⟨by rfl, ?_⟩) hHeld ?_
  rotate_left
  ·intro w hSw
   try dsimp only at hSw
   go_simp
   all_goals (first | with_reducible rfl | rw [if_pos (by omega)])
  try simp only [Act.put, aS]
  refine tk 2 ?_ rfl (.inl ⟨by rfl, ?_⟩) hHeld ?_
  rotate_left
  ·intro w hSw
   obtain ⟨hb, hz⟩ : NBox w X 58 _ ∧ NBox w Zk 26 _ := hSw
   have g0 := hb.cell 0
   have g1 := hb.cell 1
   have g2 := hb.cell 2
   have g3 := hb.cell 3
   have g4 := hb.cell 4
   have g5 := hb.cell 5
   have g6 := hb.cell 6
   have g7 := hb.cell 7
   have g8 := hb.cell 8
   have g9 := hb.cell 9
   have g10 := hb.cell 10
   have g11 := hb.cell 11
   have g12 := hb.cell 12
   have g13 := hb.cell 13
   obtain ⟨h0, h1, h2, h3, h4, h5⟩ := hz.c6
   clear hb hz
   go_simp
   all_goals (first | with_reducible rfl | rw [if_pos (by omega)])
  try simp only [Act.put, aS]
  refine tk 3 ?_ rfl (.inl ⟨by rfl, ?_⟩) hHeld ?_
  rotate_left
  ·intro w hSw
   try dsimp only at hSw
   go_simp
   all_goals (first | with_reducible rfl | rw [if_pos (by omega)])
  try simp only [Act.put, aS]
  refine tk 4 ?_ rfl (.inl ⟨by rfl, ?_⟩) hHeld ?_
  rotate_left
  ·intro w hSw
   obtain ⟨hb, hz⟩ : NBox w X 58 _ ∧ NBox w Zk 26 _ := hSw
   have g0 := hb.cell 0
   have g1 := hb.cell 1
   have g2 := hb.cell 2
   have g3 := hb.cell 3
   have g4 := hb.cell 4
   have g5 := hb.cell 5
   have g6 := hb.cell 6
   have g7 := hb.cell 7
   have g8 := hb.cell 8
   have g9 := hb.cell 9
   have g10 := hb.cell 10
   have g11 := hb.cell 11
   have g12 := hb.cell 12
   have g13 := hb.cell 13
   obtain ⟨h0, h1, h2, h3, h4, h5⟩ := hz.c6
   clear hb hz
   go_simp
   all_goals (first | with_reducible rfl | rw [if_pos (by omega)])
  try simp only [Act.put, aS]
  refine tk 5 ?_ rfl (.inl ⟨by rfl, ?_⟩) hHeld ?_
  rotate_left
  ·intro w hSw
   try dsimp only at hSw
   go_simp
   all_goals (first | with_reducible rfl | rw [if_pos (by omega)])
  try simp only [Act.put, aS]
  refine tk 7 ?_ rfl (.inl ⟨by rfl, ?_⟩) hHeld ?_
  rotate_left
  ·intro w hSw
   try dsimp only at hSw
   go_simp
   all_goals (first | with_reducible rfl | rw [if_pos (by omega)])
  try simp only [Act.put, aS]
  refine tk 8 ?_ rfl (.inl ⟨by rfl, ?_⟩) hHeld ?_
  rotate_left
  ·intro w hSw
   obtain ⟨hb, hz⟩ : NBox w X 58 _ ∧ NBox w Zk 26 _ := hSw
   have g0 := hb.cell 0
   have g1 := hb.cell 1
   have g2 := hb.cell 2
   have g3 := hb.cell 3
   have g4 := hb.cell 4
   have g5 := hb.cell 5
   have g6 := hb.cell 6
   have g7 := hb.cell 7
   have g8 := hb.cell 8
   have g9 := hb.cell 9
   have g10 := hb.cell 10
   have g11 := hb.cell 11
   have g12 := hb.cell 12
   have g13 := hb.cell 13
   obtain ⟨h0, h1, h2, h3, h4, h5⟩ := hz.c6
   clear hb hz
   go_simp
   all_goals (first | with_reducible rfl | rw [if_pos (by omega)])
  try simp only [Act.put, aS]
  refine tk 9 ?_ rfl (.inl ⟨by rfl, ?_⟩) hHeld ?_
  rotate_left
  ·intro w hSw
   try dsimp only at hSw
   go_simp
   all_goals (first | with_reducible rfl | rw [if_pos (by omega)])
  try simp only [Act.put, aS]
  refine wpAnyH_ready (rs := [6]) (by kernel_rfl) (by simp) ?_
  refine AllReadyH.cons (o := ⟨_, _, _, _, _, _⟩) rfl (fun K' hK => ?_) AllReadyH.nil
  have hq := child_any s.up (s.i - 1) _ c0 (RdS.of_owns HU.out) (by omega)
  go_simp
  go_at_call 33
  refine hq.mono ?_
  clear hq
  rintro e w6 ⟨r, rfl, hO, hE⟩
  have HO := Lib.hid hO
  obtain ⟨nA, nc, rfl, -⟩ := RdS.of_owns hO
  have HE3' := Lib.hid (HE3.out.trans hE)
  refine hK.out _ _ (show _ ∧ _ from ⟨HB.out.ext hE, HBZk.out.ext hE⟩) (fun hHeld => ?_)
  clear hK K' hO hE
  try simp only [Act.put, aS]
  replace HE3 := HE3'
  clear HE3'
  have hc := move32_any p (s.up ++ [s.i - 1]) (kk.kids.length : Int) _ _ w6 (RdS.ext HE3.out HP.out) (RdS.of_owns HO.out) (by omega) (by simp only [List.length_append, List.length_cons, List.length_nil]; omega)
  obtain ⟨nn, hnn⟩ : ∃ nn, (s.up ++ [s.i - 1]).length = nn := ⟨_, rfl⟩
  rw [hnn] at hc ⊢
  refine wpAnyH_ready (rs := [10]) (by kernel_rfl) (by simp) ?_
  refine AllReadyH.cons (o := ⟨_, _, _, _, _, _⟩) rfl (fun K' hK => ?_) AllReadyH.nil
  go_simp
  go_at_call 32
  refine hc.mono ?_
  clear hc
  rintro e u2 ⟨hE, v, rfl, hv⟩
  have HV := Lib.hid (hv.low HE3.out.size)
  have HX := Lib.hid (HE3.out.trans hE)
  obtain ⟨g, pA2, pc2, tA2, tc2, rfl, -⟩ := hv
  refine hK.out _ _ (show _ ∧ _ from ⟨hHeld.1.ext hE, hHeld.2.ext hE⟩) (fun hHeld => ?_)
  clear hK K' hE
  try simp only [Act.put, aS]
  refine tk 11 ?_ rfl (.inl ⟨by rfl, ?_⟩) hHeld ?_
  rotate_left
  ·intro w hSw
   try dsimp only at hSw
   go_simp
   all_goals (first | with_reducible rfl | rw [if_pos (by omega)])
  try simp only [Act.put, aS]
  refine tk 12 ?_ rfl (.inl ⟨by rfl, ?_⟩) hHeld ?_
  rotate_left
  ·intro w hSw
   try dsimp only at hSw
   go_simp
   all_goals (first | with_reducible rfl | rw [if_pos (by omega)])
  try simp only [Act.put, aS]
  refine wpAnyH_done (by kernel_rfl) ?_ _
  clear hHeld
  go_wp2_with fail
  go_ret2
  rw [HR.out]
  exact ⟨HX.out, _, rfl, HV.out⟩
set_option maxRecDepth 100000 in
set_option maxHeartbeats 8000000 in
theorem routdent_any (t : Nd) (p : List Int) (tv pv : Value) (w : World) (ht : t.rd w tv) (hp : RdI w p pv) (hwt : t.wt ≤ 1000000) (hpl : p.length ≤ 10000) : Calls Try.prog 12 #[tv, pv] w (AskR w p (askP t p outP)) := by
 obtain ⟨tA, tc, tK, td, rfl⟩ := rd_open6 ht
 obtain ⟨w1, hw1⟩ : ∃ W, w.alloc (.cells #[.int .u64 t.id, .bool t.leaf, .string t.label, .slice tA t.attrs.length tc, .string t.text, .slice tK t.kids.length td] 26) = W := ⟨_, rfl⟩
 obtain ⟨T, hT⟩ : ∃ T, w.heap.size = T := ⟨_, rfl⟩
 have E1 : Ext w w1 := by rw [← hw1]; exact (Ext.refl w).alloc _
 have bT : NBox w1 T 26 #[.int .u64 t.id, .bool t.leaf, .string t.label, .slice tA t.attrs.length tc, .string t.text, .slice tK t.kids.length td] := by rw [← hw1, ← hT]; exact NBox.new _ _ _
 have hc := spot31_any t p _ _ w1 (Nd.rd_ext E1 ht) (RdS.ext E1 hp) (by omega)
 have hcnt : t.cnt ≤ 1000000 := by have := Nd.cnt_wt t; omega
 have HE := Lib.hid E1
 have HP := Lib.hid hp
 have HW := Lib.hid hw1
 have HTT := Lib.hid hT
 have HAP := Lib.hid (show askP t p outP = match spotP t p with | .error k => .error k | .ok s => outP s from rfl)
 have HSO := Lib.hid (fun s (h : spotP t p = .ok s) => spot_ok h hpl hcnt)
 have HSK := Lib.hid (fun k (h : spotP t p = .error k) => spot_err h)
 obtain ⟨o, ho⟩ : ∃ o, spotP t p = o := ⟨_, rfl⟩
 rw [ho] at hc HAP HSO HSK
 obtain ⟨t0, t1, t2, t3, t4, t5⟩ := bT.c6
 obtain ⟨aA, ac, rfl, -⟩ := hp
 clear hw1 hT E1 bT ht ho
 go_enter Try.func12, Try.ntmps12
 go_upto_region 1 with fail
 rw [HW.out, HTT.out]
 go_wp2_with fail
 refine hc.mono ?_
 clear hc t0 t1 t2 t3 t4 t5
 rintro e w2 ⟨hE, hP⟩
 have HE2 := Lib.hid (HE.out.trans hE)
 obtain ⟨wa, hwa⟩ : ∃ q, w2.alloc (.cells #[.int .u64 0, .bool false, .string ⟨#[]⟩, .slice none 0 0, .string ⟨#[]⟩, .slice none 0 0, .slice none 0 0, .int .i64 0, .int .u64 0, .bool false, .string ⟨#[]⟩, .slice none 0 0, .string ⟨#[]⟩, .slice none 0 0] 58) = q := ⟨_, rfl⟩
 obtain ⟨X, hX⟩ : ∃ q, w2.heap.size = q := ⟨_, rfl⟩
 have XA : Ext w2 wa := by rw [← hwa]; exact (Ext.refl _).alloc _
 have bX : NBox wa X 58 #[.int .u64 0, .bool false, .string ⟨#[]⟩, .slice none 0 0, .string ⟨#[]⟩, .slice none 0 0, .slice none 0 0, .int .i64 0, .int .u64 0, .bool false, .string ⟨#[]⟩, .slice none 0 0, .string ⟨#[]⟩, .slice none 0 0] := by rw [← hwa, ← hX]; exact NBox.new _ _ _
 have HWA := Lib.hid hwa
 have HXX := Lib.hid hX
 have y0 := bX.cell 0
 have y1 := bX.cell 1
 have y2 := bX.cell 2
 have y3 := bX.cell 3
 have y4 := bX.cell 4
 have y5 := bX.cell 5
 have y6 := bX.cell 6
 have y7 := bX.cell 7
 have y8 := bX.cell 8
 have y9 := bX.cell 9
 have y10 := bX.cell 10
 have y11 := bX.cell 11
 have y12 := bX.cell 12
 have y13 := bX.cell 13
 have z0 := bX.frozen 0
 have z1 := bX.frozen 1
 have z2 := bX.frozen 2
 have z3 := bX.frozen 3
 have z4 := bX.frozen 4
 have z5 := bX.frozen 5
 have z6 := bX.frozen 6
 have z7 := bX.frozen 7
 have z8 := bX.frozen 8
 have z9 := bX.frozen 9
 have z10 := bX.frozen 10
 have z11 := bX.frozen 11
 have z12 := bX.frozen 12
 have z13 := bX.frozen 13
 cases o with
 | error k =>
  subst hP
  have hk0 := HSK.out k rfl
  have kz : (k != 0) = true := by rw [bne_iff_ne]; exact hk0
  have F3 := Fr.s14 wa X (.int .u64 0) (.bool false) (.string ⟨#[]⟩) (.slice none 0 0) (.string ⟨#[]⟩) (.slice none 0 0) (.slice none 0 0) (.int .i64 0) (.int .u64 0) (.bool false) (.string ⟨#[]⟩) (.slice none 0 0) (.string ⟨#[]⟩) (.slice none 0 0)
  have HX3 := Lib.hid (Fr.ext (HE2.out.trans XA) F3 (fun q hq => by rw [show q = X from hq, ← hX]; exact HE2.out.size))
  have HR : Hid (askP t p outP = .error k) := HAP
  clear hwa hX XA bX F3 hE
  go_wp2_with (rw [HWA.out, HXX.out]; clear HWA HXX)
  go_ret2
  rw [HR.out]
  exact ⟨HX3.out, rfl⟩
 | ok s =>
  obtain ⟨sv, rfl, hs⟩ := hP
  have ho := HSO.out s rfl
  have HRS : Hid (askP t p outP = outP s) := HAP
  obtain ⟨xA, xc, xK, xd, uA, uc, yA, yc, yK, yd, rfl, hxr, hyr, hU⟩ := hs
  obtain ⟨w3, hw3⟩ : ∃ q, (World.setCell (World.setCell (World.setCell (World.setCell (World.setCell (World.setCell (World.setCell (World.setCell (World.setCell (World.setCell (World.setCell (World.setCell (World.setCell (World.setCell wa ⟨X, 0, none⟩ (.int .u64 s.x.id)) ⟨X, 1, none⟩ (.bool s.x.leaf)) ⟨X, 2, none⟩ (.string s.x.label)) ⟨X, 3, none⟩ (.slice xA s.x.attrs.length xc)) ⟨X, 4, none⟩ (.string s.x.text)) ⟨X, 5, none⟩ (.slice xK s.x.kids.length xd)) ⟨X, 6, none⟩ (.slice uA s.up.length uc)) ⟨X, 7, none⟩ (.int .i64 s.i)) ⟨X, 8, none⟩ (.int .u64 s.par.id)) ⟨X, 9, none⟩ (.bool s.par.leaf)) ⟨X, 10, none⟩ (.string s.par.label)) ⟨X, 11, none⟩ (.slice yA s.par.attrs.length yc)) ⟨X, 12, none⟩ (.string s.par.text)) ⟨X, 13, none⟩ (.slice yK s.par.kids.length yd)) = q := ⟨_, rfl⟩
  have F3 : Fr wa w3 (fun k => k = X) := by rw [← hw3]; exact Fr.s14 _ _ _ _ _ _ _ _ _ _ _ _ _ _ _ _
  have X3 : Ext w2 w3 := Fr.ext XA F3 (fun q hq => by rw [show q = X from hq, hX]; exact Nat.le_refl _)
  have HB := Lib.hid (show NBox w3 X 58 #[.int .u64 s.x.id, .bool s.x.leaf, .string s.x.label, .slice xA s.x.attrs.length xc, .string s.x.text, .slice xK s.x.kids.length xd, .slice uA s.up.length uc, .int .i64 s.i, .int .u64 s.par.id, .bool s.par.leaf, .string s.par.label, .slice yA s.par.attrs.length yc, .string s.par.text, .slice yK s.par.kids.length yd] from by rw [← hw3]; exact bX.s14 _ _ _ _ _ _ _ _ _ _ _ _ _ _)
  have HE3 := Lib.hid (HE2.out.trans X3)
  have HU := Lib.hid (owns_ext X3 hU)
  have HYR := Lib.hid (Nd.rd_ext (hE.trans X3) hyr)
  have HW3 := Lib.hid hw3
  have hi0 := ho.i0
  have hi1 := ho.i1
  have hul := ho.up
  have hkl := ho.kids
  have HLAST := Lib.hid ho.last
  clear hwa hX XA bX F3 X3 hw3 hE hU hxr hyr ho HE HE2
  go_upto_region 2 with (rw [HWA.out, HXX.out]; clear HWA HXX)
  rw [HW3.out]
  clear HW3 y0 z0 y1 z1 y2 z2 y3 z3 y4 z4 y5 z5 y6 z6 y7 z7 y8 z8 y9 z9 y10 z10 y11 z11 y12 z12 y13 z13
  have k0 := HB.out.cell 0
  have k1 := HB.out.cell 1
  have k2 := HB.out.cell 2
  have k3 := HB.out.cell 3
  have k4 := HB.out.cell 4
  have k5 := HB.out.cell 5
  have k6 := HB.out.cell 6
  have k7 := HB.out.cell 7
  have k8 := HB.out.cell 8
  have k9 := HB.out.cell 9
  have k10 := HB.out.cell 10
  have k11 := HB.out.cell 11
  have k12 := HB.out.cell 12
  have k13 := HB.out.cell 13
  rcases Nat.eq_zero_or_pos s.up.length with hz | hz
  ·have hnil : s.up = [] := List.length_eq_zero_iff.1 hz
   have HR : Hid (askP t p outP = .error 4) := Lib.hid (by rw [HRS.out]; exact if_pos hnil)
   have t1 : (s.up.length == 0) = true := by rw [beq_iff_eq]; exact hz
   have t2 : ((s.up.length : Int) == 0) = true := by rw [beq_iff_eq]; omega
   clear hnil
   go_wp2_with fail
   go_ret2
   rw [HR.out]
   exact ⟨HE3.out, rfl⟩
  have hne : s.up ≠ [] := List.length_pos_iff.1 hz
  obtain ⟨up2, hup2⟩ : ∃ up2, s.up.dropLast = up2 := ⟨_, rfl⟩
  have hup3 := Lib.hid (show s.up.take (s.up.length - 1) = up2 from by rw [dropLast_take, hup2])
  have HR : Hid (askP t p outP = .ok (up2, lastN s.up + 1)) := Lib.hid (by rw [← hup2, HRS.out]; exact if_neg hne)
  have hll := HLAST.out hne
  have HLA := Lib.hid (last_at hne)
  have hl2 : up2.length ≤ 10000 := by rw [← hup3.out, List.length_take]; omega
  have t1 : (s.up.length == 0) = false := by rw [beq_eq_false_iff_ne]; omega
  have t2 : ((s.up.length : Int) == 0) = false := by rw [beq_eq_false_iff_ne]; omega
  have hrd := RdS.of_owns HU.out
  obtain ⟨A0, c0', e0, -, huc, -, hcell⟩ := hrd
  simp only [Value.slice.injEq, true_and] at e0
  obtain ⟨rfl, rfl⟩ := e0
  obtain ⟨bu, ou, rfl, cells⟩ := hcell hz
  have HLC := Lib.hid (cells (s.up.length - 1) (.int .i64 (lastN s.up)) (by rw [List.getElem?_map, HLA.out]; rfl))
  have r1 : (1 : Int) ≤ (s.up.length : Int) := by omega
  have r2 : (0 : Int) ≤ (s.up.length : Int) - 1 := by omega
  have r3 : (s.up.length : Int) - 1 < (s.up.length : Int) := by omega
  have r4 : ((s.up.length : Int) - 1).toNat = s.up.length - 1 := by omega
  have r5 : s.up.length - 1 ≤ uc := by omega
  have r6 : (s.up.length : Int) - 1 ≤ (uc : Int) := by omega
  have r7 : IntKind.i64.wrap ((s.up.length : Int) - 1) = (s.up.length : Int) - 1 := IntWalk.i64_in _ (by omega)
  have r8 : s.up.length - 1 < s.up.length := by omega
  have q7 : IntKind.i64.wrap (lastN s.up + 1) = lastN s.up + 1 := IntWalk.i64_in _ (by omega)
  clear cells hcell hup2 hne
  go_upto_region 7 with fail
  clear k0 k1 k2 k3 k4 k5 k6 k7 k8 k9 k10 k11 k12 k13
  obtain ⟨c0, hc0⟩ : ∃ c0, w3.drew = c0 := ⟨_, rfl⟩
  have XC : Ext w3 c0 := by rw [← hc0]; exact (Ext.refl _).drew
  have HE3' := Lib.hid (HE3.out.trans XC)
  have HB' := Lib.hid (HB.out.ext XC)
  have HU' := Lib.hid (owns_ext XC HU.out)
  have HLC' := Lib.hid (XC.cell HLC.out)
  clear XC
  replace HE3 := HE3'; replace HB := HB'; replace HU := HU'; replace HLC := HLC'
  clear HE3' HB' HU' HLC'
  have hc := move32_any p up2 (lastN s.up + 1) _ (.slice (some ⟨bu, ou, none⟩) (s.up.length - 1) uc) c0 (RdS.ext HE3.out HP.out) (by
   have := RdI.take (RdS.of_owns HU.out) (s.up.length - 1) (by omega)
   rw [hup3.out] at this
   exact this) (by omega) (by omega)
  refine wp_region_held_drew (S := (fun W => NBox W X 58 #[.int .u64 s.x.id, .bool s.x.leaf, .string s.x.label, .slice xA s.x.attrs.length xc, .string s.x.text, .slice xK s.x.kids.length xd, .slice (some ⟨bu, ou, none⟩) s.up.length uc, .int .i64 s.i, .int .u64 s.par.id, .bool s.par.leaf, .string s.par.label, .slice yA s.par.attrs.length yc, .string s.par.text, .slice yK s.par.kids.length yd] ∧ W.cell? ⟨bu, ou + (s.up.length - 1), none⟩ = some (.int .i64 (lastN s.up)))) (by kernel_rfl) (by rw [hc0]; exact ⟨HB.out, HLC.out⟩) (fun hHeld => ?_)
  rw [hc0] at hHeld ⊢
  clear hc0
  refine tk 0 ?_ rfl (.inl ⟨by rfl, ?_⟩) hHeld ?_
  rotate_left
  ·intro w hSw
   try dsimp only at hSw
   go_simp
   all_goals (first | with_reducible rfl | rw [if_pos (by omega)])
  try simp only [Act.put, aS]
  refine tk 1 ?_ rfl (.inl ⟨by rfl, ?_⟩) hHeld ?_
  rotate_left
  ·intro w hSw
   try dsimp only at hSw
   go_simp
   all_goals (first | with_reducible rfl | rw [if_pos (by omega)])
  try simp only [Act.put, aS]
  refine tk 2 ?_ rfl (.inl ⟨by rfl, ?_⟩) hHeld ?_
  rotate_left
  ·intro w hSw
   obtain ⟨hb, hz⟩ : NBox w X 58 _ ∧ _ := hSw
   have g0 := hb.cell 0
   have g1 := hb.cell 1
   have g2 := hb.cell 2
   have g3 := hb.cell 3
   have g4 := hb.cell 4
   have g5 := hb.cell 5
   have g6 := hb.cell 6
   have g7 := hb.cell 7
   have g8 := hb.cell 8
   have g9 := hb.cell 9
   have g10 := hb.cell 10
   have g11 := hb.cell 11
   have g12 := hb.cell 12
   have g13 := hb.cell 13
   clear hb
   go_simp
   all_goals (first | with_reducible rfl | rw [if_pos (by omega)])
  try simp only [Act.put, aS]
  refine tk 3 ?_ rfl (.inl ⟨by rfl, ?_⟩) hHeld ?_
  rotate_left
  ·intro w hSw
   try dsimp only at hSw
   go_simp
   all_goals (first | with_reducible rfl | rw [if_pos (by omega)])
  try simp only [Act.put, aS]
  refine tk 4 ?_ rfl (.inl ⟨by rfl, ?_⟩) hHeld ?_
  rotate_left
  ·intro w hSw
   try dsimp only at hSw
   go_simp
   all_goals (first | with_reducible rfl | rw [if_pos (by omega)])
  try simp only [Act.put, aS]
  refine tk 5 ?_ rfl (.inl ⟨by rfl, ?_⟩) hHeld ?_
  rotate_left
  ·intro w hSw
   try dsimp only at hSw
   go_simp
   all_goals (first | with_reducible rfl | rw [if_pos (by omega)])
  try simp only [Act.put, aS]
  refine tk 6 ?_ rfl (.inl ⟨by rfl, ?_⟩) hHeld ?_
  rotate_left
  ·intro w hSw
   obtain ⟨hb, hz⟩ : NBox w X 58 _ ∧ _ := hSw
   have g0 := hb.cell 0
   have g1 := hb.cell 1
   have g2 := hb.cell 2
   have g3 := hb.cell 3
   have g4 := hb.cell 4
   have g5 := hb.cell 5
   have g6 := hb.cell 6
   have g7 := hb.cell 7
   have g8 := hb.cell 8
   have g9 := hb.cell 9
   have g10 := hb.cell 10
   have g11 := hb.cell 11
   have g12 := hb.cell 12
   have g13 := hb.cell 13
   clear hb
   go_simp
   all_goals (first | with_reducible rfl | rw [if_pos (by omega)])
  try simp only [Act.put, aS]
  refine tk 7 ?_ rfl (.inl ⟨by rfl, ?_⟩) hHeld ?_
  rotate_left
  ·intro w hSw
   try dsimp only at hSw
   go_simp
   all_goals (first | with_reducible rfl | rw [if_pos (by omega)])
  try simp only [Act.put, aS]
  refine tk 8 ?_ rfl (.inl ⟨by rfl, ?_⟩) hHeld ?_
  rotate_left
  ·intro w hSw
   try dsimp only at hSw
   go_simp
   all_goals (first | with_reducible rfl | rw [if_pos (by omega)])
  try simp only [Act.put, aS]
  refine tk 9 ?_ rfl (.inl ⟨by rfl, ?_⟩) hHeld ?_
  rotate_left
  ·intro w hSw
   obtain ⟨hb, hz⟩ : NBox w X 58 _ ∧ _ := hSw
   have g0 := hb.cell 0
   have g1 := hb.cell 1
   have g2 := hb.cell 2
   have g3 := hb.cell 3
   have g4 := hb.cell 4
   have g5 := hb.cell 5
   have g6 := hb.cell 6
   have g7 := hb.cell 7
   have g8 := hb.cell 8
   have g9 := hb.cell 9
   have g10 := hb.cell 10
   have g11 := hb.cell 11
   have g12 := hb.cell 12
   have g13 := hb.cell 13
   clear hb
   go_simp
   all_goals (first | with_reducible rfl | rw [if_pos (by omega)])
  try simp only [Act.put, aS]
  refine tk 10 ?_ rfl (.inl ⟨by rfl, ?_⟩) hHeld ?_
  rotate_left
  ·intro w hSw
   try dsimp only at hSw
   go_simp
   all_goals (first | with_reducible rfl | rw [if_pos (by omega)])
  try simp only [Act.put, aS]
  refine wpAnyH_ready (rs := [11]) (by kernel_rfl) (by simp) ?_
  refine AllReadyH.cons (o := ⟨_, _, _, _, _, _⟩) rfl (fun K' hK => ?_) AllReadyH.nil
  go_simp
  go_at_call 32
  refine hc.mono ?_
  clear hc
  rintro e u2 ⟨hE, v, rfl, hv⟩
  have HV := Lib.hid (hv.low HE3.out.size)
  have HX := Lib.hid (HE3.out.trans hE)
  obtain ⟨g, pA2, pc2, tA2, tc2, rfl, -⟩ := hv
  refine hK.out _ _ (show _ ∧ _ from ⟨hHeld.1.ext hE, hE.cell hHeld.2⟩) (fun hHeld => ?_)
  clear hK K' hE
  try simp only [Act.put, aS]
  refine tk 12 ?_ rfl (.inl ⟨by rfl, ?_⟩) hHeld ?_
  rotate_left
  ·intro w hSw
   try dsimp only at hSw
   go_simp
   all_goals (first | with_reducible rfl | rw [if_pos (by omega)])
  try simp only [Act.put, aS]
  refine tk 13 ?_ rfl (.inl ⟨by rfl, ?_⟩) hHeld ?_
  rotate_left
  ·intro w hSw
   try dsimp only at hSw
   go_simp
   all_goals (first | with_reducible rfl | rw [if_pos (by omega)])
  try simp only [Act.put, aS]
  refine wpAnyH_done (by kernel_rfl) ?_ _
  clear hHeld
  go_wp2_with fail
  go_ret2
  rw [HR.out]
  exact ⟨HX.out, _, rfl, HV.out⟩
end Go.Proofs.Ytofcbclokkjfjaa.Wi
