/- Chapter 24: the closures of Indent, Outdent, Up, Down (27, 34, 37, 38). (Printed by gouclos.py.) -/
import Derived.Test.YtofcbclokkjfjaaOuMove
namespace Go.Proofs.Ytofcbclokkjfjaa.Wi
open Go.RowKit Go.Proofs.Ytofcbclokkjfjaa.Bw Go.Proofs.Ytofcbclokkjfjaa.Bs

def indP (s : SpD) : Except Int (List Int × Int) := if 0 < s.i then (match s.par.kids[(s.i - 1).toNat]? with | none => .error 0 | some k => if k.leaf then .error 83 else .ok (s.up ++ [s.i - 1], (k.kids.length : Int))) else .error 4
def outP (s : SpD) : Except Int (List Int × Int) := if s.up = [] then .error 4 else .ok (s.up.dropLast, lastN s.up + 1)
def upP (s : SpD) : Except Int (List Int × Int) := if 0 < s.i then .ok (s.up, s.i - 1) else .error 4
def downP (s : SpD) : Except Int (List Int × Int) := if s.i < (s.par.kids.length : Int) - 1 then .ok (s.up, s.i + 2) else .error 4
/-- What a closure tells. -/
def ClR (w0 w : World) (p : List Int) (o : Except Int (List Int × Int)) (e : Ending) (W' : World) : Prop := Ext w W' ∧ match o with
 | .error k => e = .panicked (ER k)
 | .ok x => ∃ v, e = .returned v ∧ MvV w0.heap.size p x.1 x.2 v W'
/-- A spot that may be. -/
structure SpOk (s : SpD) : Prop where
 i0 : 0 ≤ s.i
 i1 : s.i < s.par.kids.length
 up : s.up.length ≤ 10000
 kids : s.par.kids.length ≤ 9223372036854775807
 last : s.up ≠ [] → 0 ≤ lastN s.up ∧ lastN s.up < 9223372036854775807
set_option maxRecDepth 100000 in
set_option maxHeartbeats 8000000 in
theorem up37_any (s : SpD) (sv : Value) (w0 w : World) (hX : Ext w0 w) (hs : SpV w0 w s sv) (ho : SpOk s) : Calls Try.prog 37 #[sv] w (ClR w0 w s.p (upP s)) := by
 have hs0 := hs
 obtain ⟨xA, xc, xK, xd, pA, pc, uA, uc, yA, yc, yK, yd, rfl, hxr, hyr, hP, hU⟩ := hs
 obtain ⟨w1, hw1⟩ : ∃ W, w.alloc (.cells #[.int .u64 s.x.id, .bool s.x.leaf, .string s.x.label, .slice xA s.x.attrs.length xc, .string s.x.text, .slice xK s.x.kids.length xd, .slice pA s.p.length pc, .slice uA s.up.length uc, .int .i64 s.i, .int .u64 s.par.id, .bool s.par.leaf, .string s.par.label, .slice yA s.par.attrs.length yc, .string s.par.text, .slice yK s.par.kids.length yd] 52) = W := ⟨_, rfl⟩
 obtain ⟨X, hXX⟩ : ∃ X, w.heap.size = X := ⟨_, rfl⟩
 have E1 : Ext w w1 := by rw [← hw1]; exact (Ext.refl w).alloc _
 have bX : NBox w1 X 52 #[.int .u64 s.x.id, .bool s.x.leaf, .string s.x.label, .slice xA s.x.attrs.length xc, .string s.x.text, .slice xK s.x.kids.length xd, .slice pA s.p.length pc, .slice uA s.up.length uc, .int .i64 s.i, .int .u64 s.par.id, .bool s.par.leaf, .string s.par.label, .slice yA s.par.attrs.length yc, .string s.par.text, .slice yK s.par.kids.length yd] := by rw [← hw1, ← hXX]; exact NBox.new _ _ _
 have HE := Lib.hid E1
 have HX0 := Lib.hid hX
 have HB := Lib.hid bX
 have HU := Lib.hid (owns_ext E1 hU)
 have HS := Lib.hid (hs0.ext E1)
 have HYR := Lib.hid (Nd.rd_ext hX hyr)
 have HW := Lib.hid hw1
 have HXX := Lib.hid hXX
 have hi0 := ho.i0
 have hi1 := ho.i1
 have hul := ho.up
 have hkl := ho.kids
 have HLAST := Lib.hid ho.last
 clear hw1 hXX E1 hP hU hX hxr hyr hs0 ho
 have k0 := bX.cell 0
 have k1 := bX.cell 1
 have k2 := bX.cell 2
 have k3 := bX.cell 3
 have k4 := bX.cell 4
 have k5 := bX.cell 5
 have k6 := bX.cell 6
 have k7 := bX.cell 7
 have k8 := bX.cell 8
 have k9 := bX.cell 9
 have k10 := bX.cell 10
 have k11 := bX.cell 11
 have k12 := bX.cell 12
 have k13 := bX.cell 13
 have k14 := bX.cell 14
 clear bX
 go_enter Try.func37, Try.ntmps37
 go_upto_region 1 with fail
 rw [HW.out, HXX.out]
 clear HW HXX
 by_cases hc0 : 0 < s.i
 case neg =>
  have HR : Hid (upP s = .error 4) := Lib.hid (if_neg hc0)
  have t1 : decide (0 < s.i) = false := decide_eq_false hc0
  have hn := need_no 4 w1
  go_wp2_with fail
  refine hn.mono ?_
  rintro e u ⟨rfl, rfl⟩
  go_wp2_with fail
  rw [HR.out]
  exact ⟨rfl, HE.out, rfl⟩
 have HR : Hid (upP s = .ok (s.up, s.i - 1)) := Lib.hid (if_pos hc0)
 have t1 : decide (0 < s.i) = true := decide_eq_true hc0
 have hn := need_yes 4 w1
 go_wp2_with fail
 refine hn.mono ?_
 clear hn
 rintro e u ⟨he, rfl⟩
 obtain rfl : e = .returned (.tuple #[]) := he
 have hc := move29_any s s.up (s.i - 1) _ _ w0 w1 (HX0.out.trans HE.out) HS.out (RdS.of_owns HU.out) (by omega)
 have q7 : IntKind.i64.wrap (s.i - 1) = s.i - 1 := IntWalk.i64_in _ (by omega)
 go_wp2_with fail
 refine hc.mono ?_
 clear hc
 rintro e u2 ⟨hE, v, rfl, hv⟩
 have HV := Lib.hid hv
 have HE2 := Lib.hid (HE.out.trans hE)
 obtain ⟨g, pA2, pc2, tA2, tc2, rfl, -⟩ := hv
 clear hE
 go_wp2_with fail
 go_ret
 rw [HR.out]
 exact ⟨HE2.out, _, rfl, HV.out⟩
set_option maxRecDepth 100000 in
set_option maxHeartbeats 8000000 in
theorem down38_any (s : SpD) (sv : Value) (w0 w : World) (hX : Ext w0 w) (hs : SpV w0 w s sv) (ho : SpOk s) : Calls Try.prog 38 #[sv] w (ClR w0 w s.p (downP s)) := by
 have hs0 := hs
 obtain ⟨xA, xc, xK, xd, pA, pc, uA, uc, yA, yc, yK, yd, rfl, hxr, hyr, hP, hU⟩ := hs
 obtain ⟨w1, hw1⟩ : ∃ W, w.alloc (.cells #[.int .u64 s.x.id, .bool s.x.leaf, .string s.x.label, .slice xA s.x.attrs.length xc, .string s.x.text, .slice xK s.x.kids.length xd, .slice pA s.p.length pc, .slice uA s.up.length uc, .int .i64 s.i, .int .u64 s.par.id, .bool s.par.leaf, .string s.par.label, .slice yA s.par.attrs.length yc, .string s.par.text, .slice yK s.par.kids.length yd] 52) = W := ⟨_, rfl⟩
 obtain ⟨X, hXX⟩ : ∃ X, w.heap.size = X := ⟨_, rfl⟩
 have E1 : Ext w w1 := by rw [← hw1]; exact (Ext.refl w).alloc _
 have bX : NBox w1 X 52 #[.int .u64 s.x.id, .bool s.x.leaf, .string s.x.label, .slice xA s.x.attrs.length xc, .string s.x.text, .slice xK s.x.kids.length xd, .slice pA s.p.length pc, .slice uA s.up.length uc, .int .i64 s.i, .int .u64 s.par.id, .bool s.par.leaf, .string s.par.label, .slice yA s.par.attrs.length yc, .string s.par.text, .slice yK s.par.kids.length yd] := by rw [← hw1, ← hXX]; exact NBox.new _ _ _
 have HE := Lib.hid E1
 have HX0 := Lib.hid hX
 have HB := Lib.hid bX
 have HU := Lib.hid (owns_ext E1 hU)
 have HS := Lib.hid (hs0.ext E1)
 have HYR := Lib.hid (Nd.rd_ext hX hyr)
 have HW := Lib.hid hw1
 have HXX := Lib.hid hXX
 have hi0 := ho.i0
 have hi1 := ho.i1
 have hul := ho.up
 have hkl := ho.kids
 have HLAST := Lib.hid ho.last
 clear hw1 hXX E1 hP hU hX hxr hyr hs0 ho
 have k0 := bX.cell 0
 have k1 := bX.cell 1
 have k2 := bX.cell 2
 have k3 := bX.cell 3
 have k4 := bX.cell 4
 have k5 := bX.cell 5
 have k6 := bX.cell 6
 have k7 := bX.cell 7
 have k8 := bX.cell 8
 have k9 := bX.cell 9
 have k10 := bX.cell 10
 have k11 := bX.cell 11
 have k12 := bX.cell 12
 have k13 := bX.cell 13
 have k14 := bX.cell 14
 clear bX
 go_enter Try.func38, Try.ntmps38
 go_upto_region 1 with fail
 rw [HW.out, HXX.out]
 clear HW HXX
 by_cases hc0 : s.i < (s.par.kids.length : Int) - 1
 case neg =>
  have HR : Hid (downP s = .error 4) := Lib.hid (if_neg hc0)
  have t1 : decide (s.i < (s.par.kids.length : Int) - 1) = false := decide_eq_false hc0
  have q6 : IntKind.i64.wrap ((s.par.kids.length : Int) - 1) = (s.par.kids.length : Int) - 1 := IntWalk.i64_in _ (by omega)
  have hn := need_no 4 w1
  go_wp2_with fail
  refine hn.mono ?_
  rintro e u ⟨rfl, rfl⟩
  go_wp2_with fail
  rw [HR.out]
  exact ⟨rfl, HE.out, rfl⟩
 have HR : Hid (downP s = .ok (s.up, s.i + 2)) := Lib.hid (if_pos hc0)
 have t1 : decide (s.i < (s.par.kids.length : Int) - 1) = true := decide_eq_true hc0
 have q6 : IntKind.i64.wrap ((s.par.kids.length : Int) - 1) = (s.par.kids.length : Int) - 1 := IntWalk.i64_in _ (by omega)
 have hn := need_yes 4 w1
 go_wp2_with fail
 refine hn.mono ?_
 clear hn
 rintro e u ⟨he, rfl⟩
 obtain rfl : e = .returned (.tuple #[]) := he
 have hc := move29_any s s.up (s.i + 2) _ _ w0 w1 (HX0.out.trans HE.out) HS.out (RdS.of_owns HU.out) (by omega)
 have q7 : IntKind.i64.wrap (s.i + 2) = s.i + 2 := IntWalk.i64_in _ (by omega)
 go_wp2_with fail
 refine hc.mono ?_
 clear hc
 rintro e u2 ⟨hE, v, rfl, hv⟩
 have HV := Lib.hid hv
 have HE2 := Lib.hid (HE.out.trans hE)
 obtain ⟨g, pA2, pc2, tA2, tc2, rfl, -⟩ := hv
 clear hE
 go_wp2_with fail
 go_ret
 rw [HR.out]
 exact ⟨HE2.out, _, rfl, HV.out⟩
set_option maxRecDepth 100000 in
set_option maxHeartbeats 8000000 in
theorem out34_any (s : SpD) (sv : Value) (w0 w : World) (hX : Ext w0 w) (hs : SpV w0 w s sv) (ho : SpOk s) : Calls Try.prog 34 #[sv] w (ClR w0 w s.p (outP s)) := by
 have hs0 := hs
 obtain ⟨xA, xc, xK, xd, pA, pc, uA, uc, yA, yc, yK, yd, rfl, hxr, hyr, hP, hU⟩ := hs
 obtain ⟨w1, hw1⟩ : ∃ W, w.alloc (.cells #[.int .u64 s.x.id, .bool s.x.leaf, .string s.x.label, .slice xA s.x.attrs.length xc, .string s.x.text, .slice xK s.x.kids.length xd, .slice pA s.p.length pc, .slice uA s.up.length uc, .int .i64 s.i, .int .u64 s.par.id, .bool s.par.leaf, .string s.par.label, .slice yA s.par.attrs.length yc, .string s.par.text, .slice yK s.par.kids.length yd] 52) = W := ⟨_, rfl⟩
 obtain ⟨X, hXX⟩ : ∃ X, w.heap.size = X := ⟨_, rfl⟩
 have E1 : Ext w w1 := by rw [← hw1]; exact (Ext.refl w).alloc _
 have bX : NBox w1 X 52 #[.int .u64 s.x.id, .bool s.x.leaf, .string s.x.label, .slice xA s.x.attrs.length xc, .string s.x.text, .slice xK s.x.kids.length xd, .slice pA s.p.length pc, .slice uA s.up.length uc, .int .i64 s.i, .int .u64 s.par.id, .bool s.par.leaf, .string s.par.label, .slice yA s.par.attrs.length yc, .string s.par.text, .slice yK s.par.kids.length yd] := by rw [← hw1, ← hXX]; exact NBox.new _ _ _
 have HE := Lib.hid E1
 have HX0 := Lib.hid hX
 have HB := Lib.hid bX
 have HU := Lib.hid (owns_ext E1 hU)
 have HS := Lib.hid (hs0.ext E1)
 have HYR := Lib.hid (Nd.rd_ext hX hyr)
 have HW := Lib.hid hw1
 have HXX := Lib.hid hXX
 have hi0 := ho.i0
 have hi1 := ho.i1
 have hul := ho.up
 have hkl := ho.kids
 have HLAST := Lib.hid ho.last
 clear hw1 hXX E1 hP hU hX hxr hyr hs0 ho
 have k0 := bX.cell 0
 have k1 := bX.cell 1
 have k2 := bX.cell 2
 have k3 := bX.cell 3
 have k4 := bX.cell 4
 have k5 := bX.cell 5
 have k6 := bX.cell 6
 have k7 := bX.cell 7
 have k8 := bX.cell 8
 have k9 := bX.cell 9
 have k10 := bX.cell 10
 have k11 := bX.cell 11
 have k12 := bX.cell 12
 have k13 := bX.cell 13
 have k14 := bX.cell 14
 clear bX
 go_enter Try.func34, Try.ntmps34
 go_upto_region 1 with fail
 rw [HW.out, HXX.out]
 clear HW HXX
 have hc := parent_any s.up _ w1 (RdS.of_owns HU.out) (by omega)
 go_wp2_with fail
 refine hc.mono ?_
 clear hc
 rintro e w2 ⟨r, rfl, ⟨uv, rfl, hO⟩, hE⟩
 have HE' := Lib.hid (HE.out.trans hE)
 have HB' := Lib.hid (HB.out.ext hE)
 have HS' := Lib.hid (HS.out.ext hE)
 have HO := Lib.hid hO
 obtain ⟨up2, hup2⟩ : ∃ up2, s.up.dropLast = up2 := ⟨_, rfl⟩
 have hl2 : up2.length ≤ 10000 := by rw [← hup2, List.length_dropLast]; omega
 rw [hup2] at hO HO
 have HUP := Lib.hid hup2
 obtain ⟨u2A, u2c, rfl, -⟩ := RdS.of_owns hO
 clear hO hE hup2 k0 k1 k2 k3 k4 k5 k6 k7 k8 k9 k10 k11 k12 k13 k14
 replace HE := HE'; replace HB := HB'; replace HS := HS'
 clear HE' HB' HS'
 have k0 := HB.out.cell 0
 have k1 := HB.out.cell 1
 have k2 := HB.out.cell 2
 have k3 := HB.out.cell 3
 have k4 := HB.out.cell 4
 have k5 := HB.out.cell 5
 have k6 := HB.out.cell 6
 have k7 := HB.out.cell 7
 have k8 := HB.out.cell 8
 have k9 := HB.out.cell 9
 have k10 := HB.out.cell 10
 have k11 := HB.out.cell 11
 have k12 := HB.out.cell 12
 have k13 := HB.out.cell 13
 have k14 := HB.out.cell 14
 rcases Nat.eq_zero_or_pos s.up.length with hz | hz
 ·have hnil : s.up = [] := List.length_eq_zero_iff.1 hz
  have HR : Hid (outP s = .error 4) := Lib.hid (if_pos hnil)
  rw [show decide (0 < s.up.length) = false from decide_eq_false (by omega)]
  clear hnil hz
  have hn := need_no 4 w2
  go_wp2_with fail
  refine hn.mono ?_
  rintro e u ⟨rfl, rfl⟩
  go_wp2_with fail
  rw [HR.out]
  exact ⟨rfl, HE.out, rfl⟩
 have hne : s.up ≠ [] := List.length_pos_iff.1 hz
 have HR : Hid (outP s = .ok (up2, lastN s.up + 1)) := Lib.hid (by rw [← HUP.out]; exact if_neg hne)
 rw [show decide (0 < s.up.length) = true from decide_eq_true hz]
 have hn := need_yes 4 w2
 go_wp2_with fail
 refine hn.mono ?_
 clear hn
 rintro e u ⟨he, rfl⟩
 obtain rfl : e = .returned (.tuple #[]) := he
 have hc := move29_any s up2 (lastN s.up + 1) _ _ w0 w2 (HX0.out.trans HE.out) HS.out (RdS.of_owns HO.out) (by omega)
 have hll := HLAST.out hne
 have q7 : IntKind.i64.wrap (lastN s.up + 1) = lastN s.up + 1 := IntWalk.i64_in _ (by omega)
 clear hne hz
 go_wp2_with fail
 refine hc.mono ?_
 clear hc
 rintro e u2 ⟨hE, v, rfl, hv⟩
 have HV := Lib.hid hv
 have HE2 := Lib.hid (HE.out.trans hE)
 obtain ⟨g, pA2, pc2, tA2, tc2, rfl, -⟩ := hv
 clear hE
 go_wp2_with fail
 go_ret
 rw [HR.out]
 exact ⟨HE2.out, _, rfl, HV.out⟩
set_option maxRecDepth 100000 in
set_option maxHeartbeats 8000000 in
theorem ind27_any (s : SpD) (sv : Value) (w0 w : World) (hX : Ext w0 w) (hs : SpV w0 w s sv) (ho : SpOk s) : Calls Try.prog 27 #[sv] w (ClR w0 w s.p (indP s)) := by
 have hs0 := hs
 obtain ⟨xA, xc, xK, xd, pA, pc, uA, uc, yA, yc, yK, yd, rfl, hxr, hyr, hP, hU⟩ := hs
 obtain ⟨w1, hw1⟩ : ∃ W, w.alloc (.cells #[.int .u64 s.x.id, .bool s.x.leaf, .string s.x.label, .slice xA s.x.attrs.length xc, .string s.x.text, .slice xK s.x.kids.length xd, .slice pA s.p.length pc, .slice uA s.up.length uc, .int .i64 s.i, .int .u64 s.par.id, .bool s.par.leaf, .string s.par.label, .slice yA s.par.attrs.length yc, .string s.par.text, .slice yK s.par.kids.length yd] 52) = W := ⟨_, rfl⟩
 obtain ⟨X, hXX⟩ : ∃ X, w.heap.size = X := ⟨_, rfl⟩
 have E1 : Ext w w1 := by rw [← hw1]; exact (Ext.refl w).alloc _
 have bX : NBox w1 X 52 #[.int .u64 s.x.id, .bool s.x.leaf, .string s.x.label, .slice xA s.x.attrs.length xc, .string s.x.text, .slice xK s.x.kids.length xd, .slice pA s.p.length pc, .slice uA s.up.length uc, .int .i64 s.i, .int .u64 s.par.id, .bool s.par.leaf, .string s.par.label, .slice yA s.par.attrs.length yc, .string s.par.text, .slice yK s.par.kids.length yd] := by rw [← hw1, ← hXX]; exact NBox.new _ _ _
 have HE := Lib.hid E1
 have HX0 := Lib.hid hX
 have HB := Lib.hid bX
 have HU := Lib.hid (owns_ext E1 hU)
 have HS := Lib.hid (hs0.ext E1)
 have HYR := Lib.hid (Nd.rd_ext hX hyr)
 have HW := Lib.hid hw1
 have HXX := Lib.hid hXX
 have hi0 := ho.i0
 have hi1 := ho.i1
 have hul := ho.up
 have hkl := ho.kids
 have HLAST := Lib.hid ho.last
 clear hw1 hXX E1 hP hU hX hxr hyr hs0 ho
 have k0 := bX.cell 0
 have k1 := bX.cell 1
 have k2 := bX.cell 2
 have k3 := bX.cell 3
 have k4 := bX.cell 4
 have k5 := bX.cell 5
 have k6 := bX.cell 6
 have k7 := bX.cell 7
 have k8 := bX.cell 8
 have k9 := bX.cell 9
 have k10 := bX.cell 10
 have k11 := bX.cell 11
 have k12 := bX.cell 12
 have k13 := bX.cell 13
 have k14 := bX.cell 14
 clear bX
 go_enter Try.func27, Try.ntmps27
 go_upto_region 1 with fail
 rw [HW.out, HXX.out]
 clear HW HXX
 by_cases hc0 : 0 < s.i
 case neg =>
  have HR : Hid (indP s = .error 4) := Lib.hid (if_neg hc0)
  have t1 : decide (0 < s.i) = false := decide_eq_false hc0
  have hn := need_no 4 w1
  go_wp2_with fail
  refine hn.mono ?_
  rintro e u ⟨rfl, rfl⟩
  go_wp2_with fail
  rw [HR.out]
  exact ⟨rfl, HE.out, rfl⟩
 have t1 : decide (0 < s.i) = true := decide_eq_true hc0
 have hn := need_yes 4 w1
 go_wp2_with fail
 refine hn.mono ?_
 clear hn
 rintro e u ⟨he, rfl⟩
 obtain rfl : e = .returned (.tuple #[]) := he
 have q1 : (0 : Int) ≤ s.i - 1 := by omega
 have q2 : s.i - 1 < (s.par.kids.length : Int) := by omega
 have q7 : IntKind.i64.wrap (s.i - 1) = s.i - 1 := IntWalk.i64_in _ (by omega)
 have hklt : (s.i - 1).toNat < s.par.kids.length := by omega
 obtain ⟨kk, hkk⟩ : ∃ k, s.par.kids[(s.i - 1).toNat]? = some k := ⟨_, List.getElem?_eq_getElem hklt⟩
 have HIP : Hid (indP s = if kk.leaf then .error 83 else .ok (s.up ++ [s.i - 1], (kk.kids.length : Int))) := Lib.hid (by unfold indP; rw [if_pos hc0, hkk])
 obtain ⟨av, kv, he, -, -, -, -, -, ⟨A1, c1, e1, -, -, hrk⟩⟩ := Nd.rd_open HYR.out
 simp only [Value.agg.injEq, Array.mk.injEq, List.cons.injEq, and_true, true_and] at he
 obtain ⟨-, he⟩ := he
 rw [e1] at he
 simp only [Value.slice.injEq, true_and] at he
 obtain ⟨he1, he2⟩ := he
 obtain ⟨bk, ok, hA1, hr⟩ := hrk (by intro h0; rw [h0] at hklt; exact absurd hklt (Nat.not_lt_zero _))
 rw [hA1] at he1
 subst he1
 obtain ⟨zA, zc, zK, zd, cx0, cx1, cx2, cx3, cx4, cx5, HXV⟩ := rdKids_get (rdKids_ext HE.out hr) hkk
 clear hr hkk e1 he2 hA1 hrk av kv
 obtain ⟨m, hm⟩ : ∃ m, (s.i - 1).toNat = m := ⟨_, rfl⟩
 rw [hm] at cx0 cx1 cx2 cx3 cx4 cx5 hklt
 have q9 : s.i - 1 = (m : Int) := by omega
 have HQ9 := Lib.hid q9
 clear q9
 obtain ⟨w5a, hwa⟩ : ∃ q, w1.alloc (.cells #[.int .u64 0, .bool false, .string ⟨#[]⟩, .slice none 0 0, .string ⟨#[]⟩, .slice none 0 0] 26) = q := ⟨_, rfl⟩
 obtain ⟨Zk, hZ⟩ : ∃ q, w1.heap.size = q := ⟨_, rfl⟩
 have XA : Ext w1 w5a := by rw [← hwa]; exact (Ext.refl _).alloc _
 have bZ : NBox w5a Zk 26 #[.int .u64 0, .bool false, .string ⟨#[]⟩, .slice none 0 0, .string ⟨#[]⟩, .slice none 0 0] := by rw [← hwa, ← hZ]; exact NBox.new _ _ _
 obtain ⟨w5, hwn⟩ : ∃ q, (World.setCell (World.setCell (World.setCell (World.setCell (World.setCell (World.setCell w5a ⟨Zk, 0, none⟩ (.int .u64 kk.id)) ⟨Zk, 1, none⟩ (.bool kk.leaf)) ⟨Zk, 2, none⟩ (.string kk.label)) ⟨Zk, 3, none⟩ (.slice zA kk.attrs.length zc)) ⟨Zk, 4, none⟩ (.string kk.text)) ⟨Zk, 5, none⟩ (.slice zK kk.kids.length zd)) = q := ⟨_, rfl⟩
 have F8 : Fr w5a w5 (fun k => k = Zk) := by rw [← hwn]; exact Fr.six _ _ _ _ _ _ _ _
 have X8 : Ext w1 w5 := Fr.ext XA F8 (fun q hq => by rw [show q = Zk from hq, hZ]; exact Nat.le_refl _)
 have HBZk := Lib.hid (show NBox w5 Zk 26 #[.int .u64 kk.id, .bool kk.leaf, .string kk.label, .slice zA kk.attrs.length zc, .string kk.text, .slice zK kk.kids.length zd] from by rw [← hwn]; exact bZ.six _ _ _ _ _ _)
 have HE' := Lib.hid (HE.out.trans X8)
 have HB' := Lib.hid (HB.out.ext X8)
 have HU' := Lib.hid (owns_ext X8 HU.out)
 have HS' := Lib.hid (HS.out.ext X8)
 obtain ⟨y0, y1, y2, y3, y4, y5⟩ := bZ.c6
 obtain ⟨z0, z1, z2, z3, z4, z5⟩ := bZ.f6
 have HWA := Lib.hid hwa
 have HZZ := Lib.hid hZ
 have HWN := Lib.hid hwn
 clear hwa hZ hwn XA bZ F8 X8
 replace HE := HE'; replace HB := HB'; replace HU := HU'; replace HS := HS'
 clear HE' HB' HU' HS'
 go_upto_region 3 with (rw [HWA.out, HZZ.out]; clear HWA HZZ)
 rw [HWN.out]
 clear HWN y0 y1 y2 y3 y4 y5 z0 z1 z2 z3 z4 z5
 clear cx0 cx1 cx2 cx3 cx4 cx5
 have z1 := HBZk.out.cell 1
 cases hlf : kk.leaf with
 | true =>
  have HR : Hid (indP s = .error 83) := Lib.hid (by rw [HIP.out, hlf]; rfl)
  rw [hlf] at z1
  clear k0 k1 k2 k3 k4 k5 k6 k7 k8 k9 k10 k11 k12 k13 k14
  have hn := need_no 83 w5
  go_wp2_with fail
  refine hn.mono ?_
  rintro e u ⟨rfl, rfl⟩
  go_wp2_with fail
  rw [HR.out]
  exact ⟨rfl, HE.out, rfl⟩
 | false =>
 have HR : Hid (indP s = .ok (s.up ++ [s.i - 1], (kk.kids.length : Int))) := Lib.hid (by rw [HIP.out, hlf]; rfl)
 rw [hlf] at z1
 have hn := need_yes 83 w5
 go_wp2_with fail
 refine hn.mono ?_
 clear hn
 rintro e u ⟨he, rfl⟩
 obtain rfl : e = .returned (.tuple #[]) := he
 clear z1 hlf HIP HXV k0 k1 k2 k3 k4 k5 k6 k7 k8 k9 k10 k11 k12 k13 k14
 go_upto_region 4 with fail
 obtain ⟨c0, hc0⟩ : ∃ c0, w5.drew = c0 := ⟨_, rfl⟩
 have XC : Ext w5 c0 := by rw [← hc0]; exact (Ext.refl _).drew
 have HE' := Lib.hid (HE.out.trans XC)
 have HB' := Lib.hid (HB.out.ext XC)
 have HBZk' := Lib.hid (HBZk.out.ext XC)
 have HU' := Lib.hid (owns_ext XC HU.out)
 have HS' := Lib.hid (HS.out.ext XC)
 clear XC
 replace HE := HE'; replace HB := HB'; replace HBZk := HBZk'; replace HU := HU'; replace HS := HS'
 clear HE' HB' HBZk' HU' HS'
 refine wp_region_held_drew (S := (fun W => NBox W X 52 #[.int .u64 s.x.id, .bool s.x.leaf, .string s.x.label, .slice xA s.x.attrs.length xc, .string s.x.text, .slice xK s.x.kids.length xd, .slice pA s.p.length pc, .slice uA s.up.length uc, .int .i64 s.i, .int .u64 s.par.id, .bool s.par.leaf, .string s.par.label, .slice yA s.par.attrs.length yc, .string s.par.text, .slice (some ⟨bk, ok, none⟩) s.par.kids.length yd] ∧ NBox W Zk 26 #[.int .u64 kk.id, .bool kk.leaf, .string kk.label, .slice zA kk.attrs.length zc, .string kk.text, .slice zK kk.kids.length zd])) (by kernel_rfl) (by rw [hc0]; exact ⟨HB.out, HBZk.out⟩) (fun hHeld => ?_)
 rw [hc0] at hHeld ⊢
 clear hc0
 refine tk 0 ?_ rfl (.inl ⟨by rfl, ?_⟩) hHeld ?_
 rotate_left
 ·intro w hSw
  obtain ⟨hb, hz⟩ : NBox w X 52 _ ∧ NBox w Zk 26 _ := hSw
  have g0 := hb.cell 0
  have g1 := hb.cell 1
  have g2 := hb.cell 2
  have g3 := hb.cell 3
  have g4 := hb.cell 4
  have g5 := hb.cell 5
  have g6 := hb.cell 6
  have g7 := hb.cell 7
  have g8 := hb.cell 8
  have g9 := hb.cell 9
  have g10 := hb.cell 10
  have g11 := hb.cell 11
  have g12 := hb.cell 12
  have g13 := hb.cell 13
  have g14 := hb.cell 14
  obtain ⟨h0, h1, h2, h3, h4, h5⟩ := hz.c6
  clear hb hz
  go_simp
  all_goals (first | with_reducible rfl | rw [if_pos (by omega)])
 try simp only [Act.put, aS]
 refine tk 1 ?_ rfl (.inl ⟨by rfl, ?_⟩) hHeld ?_
 rotate_left
 ·intro w hSw
  try dsimp only at hSw
  go_simp
  all_goals (first | with_reducible rfl | rw [if_pos (by omega)])
 try simp only [Act.put, aS]
 refine tk 2 ?_ rfl (.inl ⟨by rfl, ?_⟩) hHeld ?_
 rotate_left
 ·intro w hSw
  obtain ⟨hb, hz⟩ : NBox w X 52 _ ∧ NBox w Zk 26 _ := hSw
  have g0 := hb.cell 0
  have g1 := hb.cell 1
  have g2 := hb.cell 2
  have g3 := hb.cell 3
  have g4 := hb.cell 4
  have g5 := hb.cell 5
  have g6 := hb.cell 6
  have g7 := hb.cell 7
  have g8 := hb.cell 8
  have g9 := hb.cell 9
  have g10 := hb.cell 10
  have g11 := hb.cell 11
  have g12 := hb.cell 12
  have g13 := hb.cell 13
  have g14 := hb.cell 14
  obtain ⟨h0, h1, h2, h3, h4, h5⟩ := hz.c6
  clear hb hz
  go_simp
  all_goals (first | with_reducible rfl | rw [if_pos (by omega)])
 try simp only [Act.put, aS]
 refine tk 3 ?_ rfl (.inl ⟨by rfl, ?_⟩) hHeld ?_
 rotate_left
 ·intro w hSw
  try dsimp only at hSw
  go_simp
  all_goals (first | with_reducible rfl | rw [if_pos (by omega)])
 try simp only [Act.put, aS]
 refine tk 4 ?_ rfl (.inl ⟨by rfl, ?_⟩) hHeld ?_
 rotate_left
 ·intro w hSw
  obtain ⟨hb, hz⟩ : NBox w X 52 _ ∧ NBox w Zk 26 _ := hSw
  have g0 := hb.cell 0
  have g1 := hb.cell 1
  have g2 := hb.cell 2
  have g3 := hb.cell 3
  have g4 := hb.cell 4
  have g5 := hb.cell 5
  have g6 := hb.cell 6
  have g7 := hb.cell 7
  have g8 := hb.cell 8
  have g9 := hb.cell 9
  have g10 := hb.cell 10
  have g11 := hb.cell 11
  have g12 := hb.cell 12
  have g13 := hb.cell 13
  have g14 := hb.cell 14
  obtain ⟨h0, h1, h2, h3, h4, h5⟩ := hz.c6
  clear hb hz
  go_simp
  all_goals (first | with_reducible rfl | rw [if_pos (by omega)])
 try simp only [Act.put, aS]
 refine tk 5 ?_ rfl (.inl ⟨by rfl, ?_⟩) hHeld ?_
 rotate_left
 ·intro w hSw
  try dsimp only at hSw
  go_simp
  all_goals (first | with_reducible rfl | rw [if_pos (by omega)])
 try simp only [Act.put, aS]
 refine tk 7 ?_ rfl (.inl ⟨by rfl, ?_⟩) hHeld ?_
 rotate_left
 ·intro w hSw
  try dsimp only at hSw
  go_simp
  all_goals (first | with_reducible rfl | rw [if_pos (by omega)])
 try simp only [Act.put, aS]
 refine tk 8 ?_ rfl (.inl ⟨by rfl, ?_⟩) hHeld ?_
 rotate_left
 ·intro w hSw
  obtain ⟨hb, hz⟩ : NBox w X 52 _ ∧ NBox w Zk 26 _ := hSw
  have g0 := hb.cell 0
  have g1 := hb.cell 1
  have g2 := hb.cell 2
  have g3 := hb.cell 3
  have g4 := hb.cell 4
  have g5 := hb.cell 5
  have g6 := hb.cell 6
  have g7 := hb.cell 7
  have g8 := hb.cell 8
  have g9 := hb.cell 9
  have g10 := hb.cell 10
  have g11 := hb.cell 11
  have g12 := hb.cell 12
  have g13 := hb.cell 13
  have g14 := hb.cell 14
  obtain ⟨h0, h1, h2, h3, h4, h5⟩ := hz.c6
  clear hb hz
  go_simp
  all_goals (first | with_reducible rfl | rw [if_pos (by omega)])
 try simp only [Act.put, aS]
 refine tk 9 ?_ rfl (.inl ⟨by rfl, ?_⟩) hHeld ?_
 rotate_left
 ·intro w hSw
  try dsimp only at hSw
  go_simp
  all_goals (first | with_reducible rfl | rw [if_pos (by omega)])
 try simp only [Act.put, aS]
 refine wpAnyH_ready (rs := [6]) (by kernel_rfl) (by simp) ?_
 refine AllReadyH.cons (o := ⟨_, _, _, _, _, _⟩) rfl (fun K' hK => ?_) AllReadyH.nil
 have hq := pchild_any s.up (s.i - 1) _ c0 (RdS.of_owns HU.out) (by omega)
 go_simp
 go_at_call 30
 refine hq.mono ?_
 clear hq
 rintro e w6 ⟨r, rfl, hO, hE⟩
 have HO := Lib.hid hO
 obtain ⟨nA, nc, rfl, -⟩ := RdS.of_owns hO
 have HE' := Lib.hid (HE.out.trans hE)
 have HS' := Lib.hid (HS.out.ext hE)
 refine hK.out _ _ (show _ ∧ _ from ⟨HB.out.ext hE, HBZk.out.ext hE⟩) (fun hHeld => ?_)
 clear hK K' hO hE
 try simp only [Act.put, aS]
 replace HE := HE'; replace HS := HS'
 clear HE' HS'
 have hc := move29_any s (s.up ++ [s.i - 1]) (kk.kids.length : Int) _ _ w0 w6 (HX0.out.trans HE.out) HS.out (RdS.of_owns HO.out) (by simp only [List.length_append, List.length_cons, List.length_nil]; omega)
 obtain ⟨nn, hnn⟩ : ∃ nn, (s.up ++ [s.i - 1]).length = nn := ⟨_, rfl⟩
 rw [hnn] at hc ⊢
 refine wpAnyH_ready (rs := [10]) (by kernel_rfl) (by simp) ?_
 refine AllReadyH.cons (o := ⟨_, _, _, _, _, _⟩) rfl (fun K' hK => ?_) AllReadyH.nil
 go_simp
 go_at_call 29
 refine hc.mono ?_
 clear hc
 rintro e u2 ⟨hE, v, rfl, hv⟩
 have HV := Lib.hid hv
 have HE2 := Lib.hid (HE.out.trans hE)
 obtain ⟨g, pA2, pc2, tA2, tc2, rfl, -⟩ := hv
 refine hK.out _ _ (show _ ∧ _ from ⟨hHeld.1.ext hE, hHeld.2.ext hE⟩) (fun hHeld => ?_)
 clear hK K' hE
 try simp only [Act.put, aS]
 refine tk 11 ?_ rfl (.inl ⟨by rfl, ?_⟩) hHeld ?_
 rotate_left
 ·intro w hSw
  try dsimp only at hSw
  go_simp
  all_goals (first | with_reducible rfl | rw [if_pos (by omega)])
 try simp only [Act.put, aS]
 refine wpAnyH_done (by kernel_rfl) ?_ _
 clear hHeld
 go_wp2_with fail
 go_ret
 rw [HR.out]
 exact ⟨HE2.out, _, rfl, HV.out⟩
end Go.Proofs.Ytofcbclokkjfjaa.Wi
