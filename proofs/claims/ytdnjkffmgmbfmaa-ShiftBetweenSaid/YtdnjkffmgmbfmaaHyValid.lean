/- SyValid turned to this seat. (Printed by gport.py.) -/
import Derived.Test.YtdnjkffmgmbfmaaHyMoveP
import Derived.Test.YtdnjkffmgmbfmaaHyOuOps
import Derived.Test.YtdnjkffmgmbfmaaHyBsPcs2
import Derived.Test.YtdnjkffmgmbfmaaHyBsFormedRb
import Derived.Test.YtdnjkffmgmbfmaaHyIdsW
import Derived.Test.YtdnjkffmgmbfmaaHyNdPut
import Derived.WalkKit
import Derived.Deep.Cut
import Derived.Deep.CutBlock
import Derived.BigQuiet
import Derived.Deep.QuietTactic
import Derived.IntWalk
import Derived.Test.YtdnjkffmgmbfmaaProg
namespace Go.Proofs.Ytdnjkffmgmbfmaa.Sy
open Go.RowKit Go.Proofs.Ytdnjkffmgmbfmaa.Bw Go.Proofs.Ytdnjkffmgmbfmaa.Bs
/-- Behind the first two tests. -/
def validK (t : Nd) (o : OpD) : Int :=
 if (o.kind = 2 ∨ o.kind = 3) ∧ o.path = [] then 82
 else match t.at? o.path with
  | none => 81
  | some x =>
   if o.kind = 1 then intoE x o.at_
   else if o.kind = 3 then
    (if within o.path o.to then 84 else match t.at? o.to with
     | none => 81
     | some y => intoE y o.at_)
   else if o.kind = 6 then (if x.leaf = false then 83 else apE x.text o.pcs)
   else 0
set_option maxRecDepth 100000 in
set_option maxHeartbeats 8000000 in
theorem valid_any (t : Nd) (o : OpD) (v ov : Value) (w : World) (ht : t.rd w v) (ho : o.rd w ov) (hpl : o.path.length ≤ 1000000) (htl : o.to.length ≤ 1000000) (hxt : ∀ x, t.at? o.path = some x → x.text.size ≤ 1000000000000) :
  Calls Try.prog 41 #[v, ov] w (Ret w fun r _ => r = .int .i64 (validD t o)) := by
 obtain ⟨tA, tc, tK, td, rfl⟩ := rd_open6 ht
 obtain ⟨pA, pc, oA, oc, cA, cc, rfl, hrp, hrt, hrc⟩ := rdO_cells ho
 obtain ⟨w1, hw1⟩ : ∃ W, (w.alloc (.cells #[.int .u64 t.id, .bool t.leaf, .string t.label, .slice tA t.attrs.length tc, .string t.text, .slice tK t.kids.length td] 42)).alloc (.cells #[.int .u8 o.kind, .slice pA o.path.length pc, .int .i64 o.at_, .slice oA o.to.length oc, .int .u64 o.id, .bool o.leaf, .string o.label, .string o.key, .string o.value, .bool o.gone, .slice cA o.pcs.length cc] 26) = W := ⟨_, rfl⟩
 obtain ⟨B, hB⟩ : ∃ B, w.heap.size = B := ⟨_, rfl⟩
 have s1 : (w.alloc (.cells #[.int .u64 t.id, .bool t.leaf, .string t.label, .slice tA t.attrs.length tc, .string t.text, .slice tK t.kids.length td] 42)).heap.size = B + 1 := by rw [World.size_alloc, hB]
 have E1 : Ext w w1 := by rw [← hw1]; exact ((Ext.refl w).alloc _).alloc _
 have b0 : NBox w1 B 42 #[.int .u64 t.id, .bool t.leaf, .string t.label, .slice tA t.attrs.length tc, .string t.text, .slice tK t.kids.length td] := by rw [← hw1, ← hB]; exact (NBox.new w 42 _).ext ((Ext.refl _).alloc _)
 have b1 : NBox w1 (B + 1) 26 #[.int .u8 o.kind, .slice pA o.path.length pc, .int .i64 o.at_, .slice oA o.to.length oc, .int .u64 o.id, .bool o.leaf, .string o.label, .string o.key, .string o.value, .bool o.gone, .slice cA o.pcs.length cc] := by rw [← hw1, ← s1]; exact NBox.new _ 26 _
 obtain ⟨R, hR⟩ : ∃ r, validD t o = r := ⟨_, rfl⟩
 rw [hR]
 have HR := Lib.hid hR
 have HW1 := Lib.hid hw1
 have HBB := Lib.hid hB
 have HB0 := Lib.hid b0
 have HB1 := Lib.hid b1
 have HE := Lib.hid E1
 have HT := Lib.hid ht
 have HXT := Lib.hid hxt
 clear hxt
 have HO := Lib.hid ho
 have HP := Lib.hid hrp
 have HTO := Lib.hid hrt
 have HCC := Lib.hid hrc
 have hc := rrightTop_any t _ w1 (Nd.rd_ext E1 ht)
 obtain ⟨t0, t1, t2, t3, t4, t5⟩ := b0.c6
 clear hw1 hB s1 E1 b0 b1 ht ho hrp hrt hrc hR
 go_enter Try.func41, Try.ntmps41
 go_upto_region 1 with fail
 rw [HW1.out, HBB.out]
 clear HW1
 go_wp2_with fail
 refine hc.mono ?_
 clear hc t0 t1 t2 t3 t4 t5
 rintro e w2 ⟨r, rfl, rfl, E2⟩
 replace HE := Lib.hid (HE.out.trans E2)
 replace HB0 := Lib.hid (HB0.out.ext E2)
 replace HB1 := Lib.hid (HB1.out.ext E2)
 clear E2
 rcases hri : t.right with _ | _
 ·have HX : Hid (R = 2) := Lib.hid (by rw [← HR.out, validD, if_pos hri])
  clear hri
  go_wp2_with fail
  go_ret
  exact ⟨_, rfl, by rw [HX.out]; rfl, HE.out⟩
 have hc := formedR_any o _ w2 (OpD.rd_ext HE.out HO.out)
 obtain ⟨k0, k1, k2, k3, k4, k5, k6, k7, k8, k9, k10⟩ := HB1.out.c11
 go_wp2_with fail
 refine hc.mono ?_
 clear hc k0 k1 k2 k3 k4 k5 k6 k7 k8 k9 k10
 rintro e w3 ⟨r, rfl, rfl, E2⟩
 replace HE := Lib.hid (HE.out.trans E2)
 replace HB0 := Lib.hid (HB0.out.ext E2)
 replace HB1 := Lib.hid (HB1.out.ext E2)
 clear E2
 rcases hfo : o.formed with _ | _
 ·have HX : Hid (R = 80) := Lib.hid (by rw [← HR.out, validD, if_neg (by rw [hri]; decide), if_pos hfo])
  clear hri hfo
  go_wp2_with fail
  go_ret
  exact ⟨_, rfl, by rw [HX.out]; rfl, HE.out⟩
 have hks : o.kind = 1 ∨ o.kind = 2 ∨ o.kind = 3 ∨ o.kind = 4 ∨ o.kind = 5 ∨ o.kind = 6 := formed_kind hfo
 have HRF := Lib.hid (show validD t o = validK t o from by unfold validD validK; rw [if_neg (by rw [hri]; decide), if_neg (by rw [hfo]; decide)]; rfl)
 clear hri hfo
 rcases hks with hk | hk | hk | hk | hk | hk
 ·have c1 : (o.kind == 1) = true := by rw [hk]; rfl
  have c2 : (o.kind == 2) = false := by rw [hk]; rfl
  have c3 : (o.kind == 3) = false := by rw [hk]; rfl
  have c6 : (o.kind == 6) = false := by rw [hk]; rfl
  have HK := Lib.hid hk
  clear hk
  obtain ⟨k0, k1, k2, k3, k4, k5, k6, k7, k8, k9, k10⟩ := HB1.out.c11
  go_upto_region 7 with fail
  have hc := rat_old t _ o.path _ w w3 HE.out.sub HT.out (RdS.ext HE.out HP.out)
  obtain ⟨t0, t1, t2, t3, t4, t5⟩ := HB0.out.c6
  obtain ⟨k0, k1, k2, k3, k4, k5, k6, k7, k8, k9, k10⟩ := HB1.out.c11
  go_wp2_with fail
  refine hc.mono ?_
  clear hc t0 t1 t2 t3 t4 t5 k0 k1 k2 k3 k4 k5 k6 k7 k8 k9 k10
  rintro e w4 ⟨r, rfl, ⟨xv, rfl, hx⟩, E2⟩
  obtain ⟨x, hxx⟩ : ∃ x, (t.at? o.path).getD Nd.zero = x := ⟨_, rfl⟩
  rw [hxx] at hx
  obtain ⟨xA, xc, xK, xd, rfl⟩ := rd_open6 hx
  have HX := Lib.hid hx
  have HXX := Lib.hid hxx
  replace HE := Lib.hid (HE.out.trans E2)
  replace HB0 := Lib.hid (HB0.out.ext E2)
  replace HB1 := Lib.hid (HB1.out.ext E2)
  clear E2 hx hxx
  obtain ⟨w5a, hwa⟩ : ∃ q, w4.alloc (.cells #[.int .u64 0, .bool false, .string ⟨#[]⟩, .slice none 0 0, .string ⟨#[]⟩, .slice none 0 0] 42) = q := ⟨_, rfl⟩
  obtain ⟨M, hM⟩ : ∃ q, w4.heap.size = q := ⟨_, rfl⟩
  have XA : Ext w4 w5a := by rw [← hwa]; exact (Ext.refl _).alloc _
  have bM : NBox w5a M 42 #[.int .u64 0, .bool false, .string ⟨#[]⟩, .slice none 0 0, .string ⟨#[]⟩, .slice none 0 0] := by rw [← hwa, ← hM]; exact NBox.new _ _ _
  obtain ⟨w5, hwn⟩ : ∃ q, (World.setCell (World.setCell (World.setCell (World.setCell (World.setCell (World.setCell w5a ⟨M, 0, none⟩ (.int .u64 x.id)) ⟨M, 1, none⟩ (.bool x.leaf)) ⟨M, 2, none⟩ (.string x.label)) ⟨M, 3, none⟩ (.slice xA x.attrs.length xc)) ⟨M, 4, none⟩ (.string x.text)) ⟨M, 5, none⟩ (.slice xK x.kids.length xd)) = q := ⟨_, rfl⟩
  have F8 : Fr w5a w5 (fun k => k = M) := by rw [← hwn]; exact Fr.six _ _ _ _ _ _ _ _
  have X8 : Ext w4 w5 := Fr.ext XA F8 (fun q hq => by rw [show q = M from hq, hM]; exact Nat.le_refl _)
  have HBM := Lib.hid (show NBox w5 M 42 #[.int .u64 x.id, .bool x.leaf, .string x.label, .slice xA x.attrs.length xc, .string x.text, .slice xK x.kids.length xd] from by rw [← hwn]; exact bM.six _ _ _ _ _ _)
  replace HE := Lib.hid (HE.out.trans X8)
  replace HB0 := Lib.hid (HB0.out.ext X8)
  replace HB1 := Lib.hid (HB1.out.ext X8)
  have HWA := Lib.hid hwa
  have HMM := Lib.hid hM
  have HWN := Lib.hid hwn
  obtain ⟨y0, y1, y2, y3, y4, y5⟩ := bM.c6
  obtain ⟨z0_, z1_, z2_, z3_, z4_, z5_⟩ := bM.f6
  clear hwa hM hwn XA bM F8 X8
  go_upto_region 8 with (rw [HWA.out, HMM.out]; clear HWA)
  rw [HWN.out]
  clear HWN HMM y0 z0_ y1 z1_ y2 z2_ y3 z3_ y4 z4_ y5 z5_
  rcases hat : t.at? o.path with _ | x2
  ·have HZ : Hid (R = 81) := Lib.hid (by rw [← HR.out, HRF.out, validK, if_neg (fun h => absurd h.1 (by rw [HK.out]; decide)), hat])
   clear hat
   go_wp2_with fail
   go_ret
   exact ⟨_, rfl, by rw [HZ.out]; rfl, HE.out⟩
  obtain rfl : x2 = x := by rw [← HXX.out, hat]; rfl
  have HZ : Hid (R = intoE x2 o.at_) := Lib.hid (by rw [← HR.out, HRF.out, validK, if_neg (fun h => absurd h.1 (by rw [HK.out]; decide)), hat]; simp [HK.out])
  have hc := into_any x2 _ o.at_ w5 (Nd.rd_ext HE.out HX.out)
  clear hat
  obtain ⟨k0, k1, k2, k3, k4, k5, k6, k7, k8, k9, k10⟩ := HB1.out.c11
  obtain ⟨y0, y1, y2, y3, y4, y5⟩ := HBM.out.c6
  go_wp2_with fail
  refine hc.mono ?_
  clear hc
  rintro e w6 ⟨r, rfl, rfl, E2⟩
  have HE6 := Lib.hid (HE.out.trans E2)
  clear E2
  go_wp2_with fail
  go_ret
  exact ⟨_, rfl, by rw [HZ.out]; rfl, HE6.out⟩
 ·have c1 : (o.kind == 1) = false := by rw [hk]; rfl
  have c2 : (o.kind == 2) = true := by rw [hk]; rfl
  have c3 : (o.kind == 3) = false := by rw [hk]; rfl
  have c6 : (o.kind == 6) = false := by rw [hk]; rfl
  have HK := Lib.hid hk
  clear hk
  obtain ⟨k0, k1, k2, k3, k4, k5, k6, k7, k8, k9, k10⟩ := HB1.out.c11
  rcases Nat.eq_zero_or_pos o.path.length with hz | hz
  ·have z1 : ((o.path.length : Int) == 0) = true := by rw [hz]; rfl
   have HX : Hid (R = 82) := Lib.hid (by rw [← HR.out, HRF.out, validK, if_pos ⟨by rw [HK.out]; decide, List.eq_nil_of_length_eq_zero hz⟩])
   clear hz
   go_wp2_with fail
   go_ret
   exact ⟨_, rfl, by rw [HX.out]; rfl, HE.out⟩
  have z1 : ((o.path.length : Int) == 0) = false := by rw [beq_eq_false_iff_ne]; omega
  have HNR := Lib.hid (show ¬ ((o.kind = 2 ∨ o.kind = 3) ∧ o.path = []) from fun h => by rw [h.2] at hz; exact absurd hz (Nat.lt_irrefl _))
  clear hz
  go_upto_region 7 with fail
  have hc := rat_old t _ o.path _ w w3 HE.out.sub HT.out (RdS.ext HE.out HP.out)
  obtain ⟨t0, t1, t2, t3, t4, t5⟩ := HB0.out.c6
  obtain ⟨k0, k1, k2, k3, k4, k5, k6, k7, k8, k9, k10⟩ := HB1.out.c11
  go_wp2_with fail
  refine hc.mono ?_
  clear hc t0 t1 t2 t3 t4 t5 k0 k1 k2 k3 k4 k5 k6 k7 k8 k9 k10
  rintro e w4 ⟨r, rfl, ⟨xv, rfl, hx⟩, E2⟩
  obtain ⟨x, hxx⟩ : ∃ x, (t.at? o.path).getD Nd.zero = x := ⟨_, rfl⟩
  rw [hxx] at hx
  obtain ⟨xA, xc, xK, xd, rfl⟩ := rd_open6 hx
  have HX := Lib.hid hx
  have HXX := Lib.hid hxx
  replace HE := Lib.hid (HE.out.trans E2)
  replace HB0 := Lib.hid (HB0.out.ext E2)
  replace HB1 := Lib.hid (HB1.out.ext E2)
  clear E2 hx hxx
  obtain ⟨w5a, hwa⟩ : ∃ q, w4.alloc (.cells #[.int .u64 0, .bool false, .string ⟨#[]⟩, .slice none 0 0, .string ⟨#[]⟩, .slice none 0 0] 42) = q := ⟨_, rfl⟩
  obtain ⟨M, hM⟩ : ∃ q, w4.heap.size = q := ⟨_, rfl⟩
  have XA : Ext w4 w5a := by rw [← hwa]; exact (Ext.refl _).alloc _
  have bM : NBox w5a M 42 #[.int .u64 0, .bool false, .string ⟨#[]⟩, .slice none 0 0, .string ⟨#[]⟩, .slice none 0 0] := by rw [← hwa, ← hM]; exact NBox.new _ _ _
  obtain ⟨w5, hwn⟩ : ∃ q, (World.setCell (World.setCell (World.setCell (World.setCell (World.setCell (World.setCell w5a ⟨M, 0, none⟩ (.int .u64 x.id)) ⟨M, 1, none⟩ (.bool x.leaf)) ⟨M, 2, none⟩ (.string x.label)) ⟨M, 3, none⟩ (.slice xA x.attrs.length xc)) ⟨M, 4, none⟩ (.string x.text)) ⟨M, 5, none⟩ (.slice xK x.kids.length xd)) = q := ⟨_, rfl⟩
  have F8 : Fr w5a w5 (fun k => k = M) := by rw [← hwn]; exact Fr.six _ _ _ _ _ _ _ _
  have X8 : Ext w4 w5 := Fr.ext XA F8 (fun q hq => by rw [show q = M from hq, hM]; exact Nat.le_refl _)
  have HBM := Lib.hid (show NBox w5 M 42 #[.int .u64 x.id, .bool x.leaf, .string x.label, .slice xA x.attrs.length xc, .string x.text, .slice xK x.kids.length xd] from by rw [← hwn]; exact bM.six _ _ _ _ _ _)
  replace HE := Lib.hid (HE.out.trans X8)
  replace HB0 := Lib.hid (HB0.out.ext X8)
  replace HB1 := Lib.hid (HB1.out.ext X8)
  have HWA := Lib.hid hwa
  have HMM := Lib.hid hM
  have HWN := Lib.hid hwn
  obtain ⟨y0, y1, y2, y3, y4, y5⟩ := bM.c6
  obtain ⟨z0_, z1_, z2_, z3_, z4_, z5_⟩ := bM.f6
  clear hwa hM hwn XA bM F8 X8
  go_upto_region 8 with (rw [HWA.out, HMM.out]; clear HWA)
  rw [HWN.out]
  clear HWN HMM y0 z0_ y1 z1_ y2 z2_ y3 z3_ y4 z4_ y5 z5_
  rcases hat : t.at? o.path with _ | x2
  ·have HZ : Hid (R = 81) := Lib.hid (by rw [← HR.out, HRF.out, validK, if_neg HNR.out, hat])
   clear hat
   go_wp2_with fail
   go_ret
   exact ⟨_, rfl, by rw [HZ.out]; rfl, HE.out⟩
  obtain rfl : x2 = x := by rw [← HXX.out, hat]; rfl
  have HZ : Hid (R = 0) := Lib.hid (by rw [← HR.out, HRF.out, validK, if_neg HNR.out, hat]; simp [HK.out])
  clear hat
  obtain ⟨k0, k1, k2, k3, k4, k5, k6, k7, k8, k9, k10⟩ := HB1.out.c11
  go_wp2_with fail
  go_ret
  exact ⟨_, rfl, by rw [HZ.out]; rfl, HE.out⟩
 ·have c1 : (o.kind == 1) = false := by rw [hk]; rfl
  have c2 : (o.kind == 2) = false := by rw [hk]; rfl
  have c3 : (o.kind == 3) = true := by rw [hk]; rfl
  have c6 : (o.kind == 6) = false := by rw [hk]; rfl
  have HK := Lib.hid hk
  clear hk
  obtain ⟨k0, k1, k2, k3, k4, k5, k6, k7, k8, k9, k10⟩ := HB1.out.c11
  rcases Nat.eq_zero_or_pos o.path.length with hz | hz
  ·have z1 : ((o.path.length : Int) == 0) = true := by rw [hz]; rfl
   have HX : Hid (R = 82) := Lib.hid (by rw [← HR.out, HRF.out, validK, if_pos ⟨by rw [HK.out]; decide, List.eq_nil_of_length_eq_zero hz⟩])
   clear hz
   go_wp2_with fail
   go_ret
   exact ⟨_, rfl, by rw [HX.out]; rfl, HE.out⟩
  have z1 : ((o.path.length : Int) == 0) = false := by rw [beq_eq_false_iff_ne]; omega
  have HNR := Lib.hid (show ¬ ((o.kind = 2 ∨ o.kind = 3) ∧ o.path = []) from fun h => by rw [h.2] at hz; exact absurd hz (Nat.lt_irrefl _))
  clear hz
  go_upto_region 7 with fail
  have hc := rat_old t _ o.path _ w w3 HE.out.sub HT.out (RdS.ext HE.out HP.out)
  obtain ⟨t0, t1, t2, t3, t4, t5⟩ := HB0.out.c6
  obtain ⟨k0, k1, k2, k3, k4, k5, k6, k7, k8, k9, k10⟩ := HB1.out.c11
  go_wp2_with fail
  refine hc.mono ?_
  clear hc t0 t1 t2 t3 t4 t5 k0 k1 k2 k3 k4 k5 k6 k7 k8 k9 k10
  rintro e w4 ⟨r, rfl, ⟨xv, rfl, hx⟩, E2⟩
  obtain ⟨x, hxx⟩ : ∃ x, (t.at? o.path).getD Nd.zero = x := ⟨_, rfl⟩
  rw [hxx] at hx
  obtain ⟨xA, xc, xK, xd, rfl⟩ := rd_open6 hx
  have HX := Lib.hid hx
  have HXX := Lib.hid hxx
  replace HE := Lib.hid (HE.out.trans E2)
  replace HB0 := Lib.hid (HB0.out.ext E2)
  replace HB1 := Lib.hid (HB1.out.ext E2)
  clear E2 hx hxx
  obtain ⟨w5a, hwa⟩ : ∃ q, w4.alloc (.cells #[.int .u64 0, .bool false, .string ⟨#[]⟩, .slice none 0 0, .string ⟨#[]⟩, .slice none 0 0] 42) = q := ⟨_, rfl⟩
  obtain ⟨M, hM⟩ : ∃ q, w4.heap.size = q := ⟨_, rfl⟩
  have XA : Ext w4 w5a := by rw [← hwa]; exact (Ext.refl _).alloc _
  have bM : NBox w5a M 42 #[.int .u64 0, .bool false, .string ⟨#[]⟩, .slice none 0 0, .string ⟨#[]⟩, .slice none 0 0] := by rw [← hwa, ← hM]; exact NBox.new _ _ _
  obtain ⟨w5, hwn⟩ : ∃ q, (World.setCell (World.setCell (World.setCell (World.setCell (World.setCell (World.setCell w5a ⟨M, 0, none⟩ (.int .u64 x.id)) ⟨M, 1, none⟩ (.bool x.leaf)) ⟨M, 2, none⟩ (.string x.label)) ⟨M, 3, none⟩ (.slice xA x.attrs.length xc)) ⟨M, 4, none⟩ (.string x.text)) ⟨M, 5, none⟩ (.slice xK x.kids.length xd)) = q := ⟨_, rfl⟩
  have F8 : Fr w5a w5 (fun k => k = M) := by rw [← hwn]; exact Fr.six _ _ _ _ _ _ _ _
  have X8 : Ext w4 w5 := Fr.ext XA F8 (fun q hq => by rw [show q = M from hq, hM]; exact Nat.le_refl _)
  have HBM := Lib.hid (show NBox w5 M 42 #[.int .u64 x.id, .bool x.leaf, .string x.label, .slice xA x.attrs.length xc, .string x.text, .slice xK x.kids.length xd] from by rw [← hwn]; exact bM.six _ _ _ _ _ _)
  replace HE := Lib.hid (HE.out.trans X8)
  replace HB0 := Lib.hid (HB0.out.ext X8)
  replace HB1 := Lib.hid (HB1.out.ext X8)
  have HWA := Lib.hid hwa
  have HMM := Lib.hid hM
  have HWN := Lib.hid hwn
  obtain ⟨y0, y1, y2, y3, y4, y5⟩ := bM.c6
  obtain ⟨z0_, z1_, z2_, z3_, z4_, z5_⟩ := bM.f6
  clear hwa hM hwn XA bM F8 X8
  go_upto_region 8 with (rw [HWA.out, HMM.out]; clear HWA)
  rw [HWN.out]
  clear HWN HMM y0 z0_ y1 z1_ y2 z2_ y3 z3_ y4 z4_ y5 z5_
  rcases hat : t.at? o.path with _ | x2
  ·have HZ : Hid (R = 81) := Lib.hid (by rw [← HR.out, HRF.out, validK, if_neg HNR.out, hat])
   clear hat
   go_wp2_with fail
   go_ret
   exact ⟨_, rfl, by rw [HZ.out]; rfl, HE.out⟩
  obtain rfl : x2 = x := by rw [← HXX.out, hat]; rfl
  have HAT := Lib.hid hat
  clear hat
  obtain ⟨k0, k1, k2, k3, k4, k5, k6, k7, k8, k9, k10⟩ := HB1.out.c11
  go_upto_region 14 with fail
  have hc := withinR_any o.path o.to _ _ w5 (RdS.ext HE.out HP.out) (RdS.ext HE.out HTO.out)
  go_wp2_with fail
  refine hc.mono ?_
  clear hc k0 k1 k2 k3 k4 k5 k6 k7 k8 k9 k10
  rintro e w6 ⟨r, rfl, rfl, E2⟩
  replace HE := Lib.hid (HE.out.trans E2)
  replace HB0 := Lib.hid (HB0.out.ext E2)
  replace HB1 := Lib.hid (HB1.out.ext E2)
  clear E2
  rcases hwi : within o.path o.to with _ | _
  rotate_left
  ·have HZ : Hid (R = 84) := Lib.hid (by rw [← HR.out, HRF.out, validK, if_neg HNR.out, HAT.out]; simp [HK.out, hwi])
   clear hwi
   go_wp2_with fail
   go_ret
   exact ⟨_, rfl, by rw [HZ.out]; rfl, HE.out⟩
  have HWI := Lib.hid hwi
  clear hwi
  go_upto_region 16 with fail
  have hc := rat_old t _ o.to _ w w6 HE.out.sub HT.out (RdS.ext HE.out HTO.out)
  obtain ⟨t0, t1, t2, t3, t4, t5⟩ := HB0.out.c6
  obtain ⟨k0, k1, k2, k3, k4, k5, k6, k7, k8, k9, k10⟩ := HB1.out.c11
  go_wp2_with fail
  refine hc.mono ?_
  clear hc t0 t1 t2 t3 t4 t5 k0 k1 k2 k3 k4 k5 k6 k7 k8 k9 k10
  rintro e w7 ⟨r, rfl, ⟨yv, rfl, hy⟩, E2⟩
  obtain ⟨y, hyy⟩ : ∃ y, (t.at? o.to).getD Nd.zero = y := ⟨_, rfl⟩
  rw [hyy] at hy
  obtain ⟨yA, yc, yK, yd, rfl⟩ := rd_open6 hy
  have HY := Lib.hid hy
  have HYY := Lib.hid hyy
  replace HE := Lib.hid (HE.out.trans E2)
  replace HB0 := Lib.hid (HB0.out.ext E2)
  replace HB1 := Lib.hid (HB1.out.ext E2)
  clear E2 hy hyy
  obtain ⟨w8a, hwa⟩ : ∃ q, w7.alloc (.cells #[.int .u64 0, .bool false, .string ⟨#[]⟩, .slice none 0 0, .string ⟨#[]⟩, .slice none 0 0] 42) = q := ⟨_, rfl⟩
  obtain ⟨N, hM⟩ : ∃ q, w7.heap.size = q := ⟨_, rfl⟩
  have XA : Ext w7 w8a := by rw [← hwa]; exact (Ext.refl _).alloc _
  have bM : NBox w8a N 42 #[.int .u64 0, .bool false, .string ⟨#[]⟩, .slice none 0 0, .string ⟨#[]⟩, .slice none 0 0] := by rw [← hwa, ← hM]; exact NBox.new _ _ _
  obtain ⟨w8, hwn⟩ : ∃ q, (World.setCell (World.setCell (World.setCell (World.setCell (World.setCell (World.setCell w8a ⟨N, 0, none⟩ (.int .u64 y.id)) ⟨N, 1, none⟩ (.bool y.leaf)) ⟨N, 2, none⟩ (.string y.label)) ⟨N, 3, none⟩ (.slice yA y.attrs.length yc)) ⟨N, 4, none⟩ (.string y.text)) ⟨N, 5, none⟩ (.slice yK y.kids.length yd)) = q := ⟨_, rfl⟩
  have F8 : Fr w8a w8 (fun k => k = N) := by rw [← hwn]; exact Fr.six _ _ _ _ _ _ _ _
  have X8 : Ext w7 w8 := Fr.ext XA F8 (fun q hq => by rw [show q = N from hq, hM]; exact Nat.le_refl _)
  have HBN := Lib.hid (show NBox w8 N 42 #[.int .u64 y.id, .bool y.leaf, .string y.label, .slice yA y.attrs.length yc, .string y.text, .slice yK y.kids.length yd] from by rw [← hwn]; exact bM.six _ _ _ _ _ _)
  replace HE := Lib.hid (HE.out.trans X8)
  replace HB0 := Lib.hid (HB0.out.ext X8)
  replace HB1 := Lib.hid (HB1.out.ext X8)
  have HWA := Lib.hid hwa
  have HMM := Lib.hid hM
  have HWN := Lib.hid hwn
  obtain ⟨y0, y1, y2, y3, y4, y5⟩ := bM.c6
  obtain ⟨z0_, z1_, z2_, z3_, z4_, z5_⟩ := bM.f6
  clear hwa hM hwn XA bM F8 X8
  go_upto_region 17 with (rw [HWA.out, HMM.out]; clear HWA)
  rw [HWN.out]
  clear HWN HMM y0 z0_ y1 z1_ y2 z2_ y3 z3_ y4 z4_ y5 z5_
  rcases hat : t.at? o.to with _ | y2
  ·have HZ : Hid (R = 81) := Lib.hid (by rw [← HR.out, HRF.out, validK, if_neg HNR.out, HAT.out]; simp [HK.out, HWI.out, hat])
   clear hat
   go_wp2_with fail
   go_ret
   exact ⟨_, rfl, by rw [HZ.out]; rfl, HE.out⟩
  obtain rfl : y2 = y := by rw [← HYY.out, hat]; rfl
  have HZ : Hid (R = intoE y2 o.at_) := Lib.hid (by rw [← HR.out, HRF.out, validK, if_neg HNR.out, HAT.out]; simp [HK.out, HWI.out, hat])
  have hc := into_any y2 _ o.at_ w8 (Nd.rd_ext HE.out HY.out)
  clear hat
  obtain ⟨k0, k1, k2, k3, k4, k5, k6, k7, k8, k9, k10⟩ := HB1.out.c11
  obtain ⟨y0, y1, y2, y3, y4, y5⟩ := HBN.out.c6
  go_wp2_with fail
  refine hc.mono ?_
  clear hc
  rintro e w9 ⟨r, rfl, rfl, E2⟩
  have HE9 := Lib.hid (HE.out.trans E2)
  clear E2
  go_wp2_with fail
  go_ret
  exact ⟨_, rfl, by rw [HZ.out]; rfl, HE9.out⟩
 ·have c1 : (o.kind == 1) = false := by rw [hk]; rfl
  have c2 : (o.kind == 2) = false := by rw [hk]; rfl
  have c3 : (o.kind == 3) = false := by rw [hk]; rfl
  have c6 : (o.kind == 6) = false := by rw [hk]; rfl
  have HK := Lib.hid hk
  clear hk
  obtain ⟨k0, k1, k2, k3, k4, k5, k6, k7, k8, k9, k10⟩ := HB1.out.c11
  go_upto_region 7 with fail
  have hc := rat_old t _ o.path _ w w3 HE.out.sub HT.out (RdS.ext HE.out HP.out)
  obtain ⟨t0, t1, t2, t3, t4, t5⟩ := HB0.out.c6
  obtain ⟨k0, k1, k2, k3, k4, k5, k6, k7, k8, k9, k10⟩ := HB1.out.c11
  go_wp2_with fail
  refine hc.mono ?_
  clear hc t0 t1 t2 t3 t4 t5 k0 k1 k2 k3 k4 k5 k6 k7 k8 k9 k10
  rintro e w4 ⟨r, rfl, ⟨xv, rfl, hx⟩, E2⟩
  obtain ⟨x, hxx⟩ : ∃ x, (t.at? o.path).getD Nd.zero = x := ⟨_, rfl⟩
  rw [hxx] at hx
  obtain ⟨xA, xc, xK, xd, rfl⟩ := rd_open6 hx
  have HX := Lib.hid hx
  have HXX := Lib.hid hxx
  replace HE := Lib.hid (HE.out.trans E2)
  replace HB0 := Lib.hid (HB0.out.ext E2)
  replace HB1 := Lib.hid (HB1.out.ext E2)
  clear E2 hx hxx
  obtain ⟨w5a, hwa⟩ : ∃ q, w4.alloc (.cells #[.int .u64 0, .bool false, .string ⟨#[]⟩, .slice none 0 0, .string ⟨#[]⟩, .slice none 0 0] 42) = q := ⟨_, rfl⟩
  obtain ⟨M, hM⟩ : ∃ q, w4.heap.size = q := ⟨_, rfl⟩
  have XA : Ext w4 w5a := by rw [← hwa]; exact (Ext.refl _).alloc _
  have bM : NBox w5a M 42 #[.int .u64 0, .bool false, .string ⟨#[]⟩, .slice none 0 0, .string ⟨#[]⟩, .slice none 0 0] := by rw [← hwa, ← hM]; exact NBox.new _ _ _
  obtain ⟨w5, hwn⟩ : ∃ q, (World.setCell (World.setCell (World.setCell (World.setCell (World.setCell (World.setCell w5a ⟨M, 0, none⟩ (.int .u64 x.id)) ⟨M, 1, none⟩ (.bool x.leaf)) ⟨M, 2, none⟩ (.string x.label)) ⟨M, 3, none⟩ (.slice xA x.attrs.length xc)) ⟨M, 4, none⟩ (.string x.text)) ⟨M, 5, none⟩ (.slice xK x.kids.length xd)) = q := ⟨_, rfl⟩
  have F8 : Fr w5a w5 (fun k => k = M) := by rw [← hwn]; exact Fr.six _ _ _ _ _ _ _ _
  have X8 : Ext w4 w5 := Fr.ext XA F8 (fun q hq => by rw [show q = M from hq, hM]; exact Nat.le_refl _)
  have HBM := Lib.hid (show NBox w5 M 42 #[.int .u64 x.id, .bool x.leaf, .string x.label, .slice xA x.attrs.length xc, .string x.text, .slice xK x.kids.length xd] from by rw [← hwn]; exact bM.six _ _ _ _ _ _)
  replace HE := Lib.hid (HE.out.trans X8)
  replace HB0 := Lib.hid (HB0.out.ext X8)
  replace HB1 := Lib.hid (HB1.out.ext X8)
  have HWA := Lib.hid hwa
  have HMM := Lib.hid hM
  have HWN := Lib.hid hwn
  obtain ⟨y0, y1, y2, y3, y4, y5⟩ := bM.c6
  obtain ⟨z0_, z1_, z2_, z3_, z4_, z5_⟩ := bM.f6
  clear hwa hM hwn XA bM F8 X8
  go_upto_region 8 with (rw [HWA.out, HMM.out]; clear HWA)
  rw [HWN.out]
  clear HWN HMM y0 z0_ y1 z1_ y2 z2_ y3 z3_ y4 z4_ y5 z5_
  rcases hat : t.at? o.path with _ | x2
  ·have HZ : Hid (R = 81) := Lib.hid (by rw [← HR.out, HRF.out, validK, if_neg (fun h => absurd h.1 (by rw [HK.out]; decide)), hat])
   clear hat
   go_wp2_with fail
   go_ret
   exact ⟨_, rfl, by rw [HZ.out]; rfl, HE.out⟩
  obtain rfl : x2 = x := by rw [← HXX.out, hat]; rfl
  have HZ : Hid (R = 0) := Lib.hid (by rw [← HR.out, HRF.out, validK, if_neg (fun h => absurd h.1 (by rw [HK.out]; decide)), hat]; simp [HK.out])
  clear hat
  obtain ⟨k0, k1, k2, k3, k4, k5, k6, k7, k8, k9, k10⟩ := HB1.out.c11
  go_wp2_with fail
  go_ret
  exact ⟨_, rfl, by rw [HZ.out]; rfl, HE.out⟩
 ·have c1 : (o.kind == 1) = false := by rw [hk]; rfl
  have c2 : (o.kind == 2) = false := by rw [hk]; rfl
  have c3 : (o.kind == 3) = false := by rw [hk]; rfl
  have c6 : (o.kind == 6) = false := by rw [hk]; rfl
  have HK := Lib.hid hk
  clear hk
  obtain ⟨k0, k1, k2, k3, k4, k5, k6, k7, k8, k9, k10⟩ := HB1.out.c11
  go_upto_region 7 with fail
  have hc := rat_old t _ o.path _ w w3 HE.out.sub HT.out (RdS.ext HE.out HP.out)
  obtain ⟨t0, t1, t2, t3, t4, t5⟩ := HB0.out.c6
  obtain ⟨k0, k1, k2, k3, k4, k5, k6, k7, k8, k9, k10⟩ := HB1.out.c11
  go_wp2_with fail
  refine hc.mono ?_
  clear hc t0 t1 t2 t3 t4 t5 k0 k1 k2 k3 k4 k5 k6 k7 k8 k9 k10
  rintro e w4 ⟨r, rfl, ⟨xv, rfl, hx⟩, E2⟩
  obtain ⟨x, hxx⟩ : ∃ x, (t.at? o.path).getD Nd.zero = x := ⟨_, rfl⟩
  rw [hxx] at hx
  obtain ⟨xA, xc, xK, xd, rfl⟩ := rd_open6 hx
  have HX := Lib.hid hx
  have HXX := Lib.hid hxx
  replace HE := Lib.hid (HE.out.trans E2)
  replace HB0 := Lib.hid (HB0.out.ext E2)
  replace HB1 := Lib.hid (HB1.out.ext E2)
  clear E2 hx hxx
  obtain ⟨w5a, hwa⟩ : ∃ q, w4.alloc (.cells #[.int .u64 0, .bool false, .string ⟨#[]⟩, .slice none 0 0, .string ⟨#[]⟩, .slice none 0 0] 42) = q := ⟨_, rfl⟩
  obtain ⟨M, hM⟩ : ∃ q, w4.heap.size = q := ⟨_, rfl⟩
  have XA : Ext w4 w5a := by rw [← hwa]; exact (Ext.refl _).alloc _
  have bM : NBox w5a M 42 #[.int .u64 0, .bool false, .string ⟨#[]⟩, .slice none 0 0, .string ⟨#[]⟩, .slice none 0 0] := by rw [← hwa, ← hM]; exact NBox.new _ _ _
  obtain ⟨w5, hwn⟩ : ∃ q, (World.setCell (World.setCell (World.setCell (World.setCell (World.setCell (World.setCell w5a ⟨M, 0, none⟩ (.int .u64 x.id)) ⟨M, 1, none⟩ (.bool x.leaf)) ⟨M, 2, none⟩ (.string x.label)) ⟨M, 3, none⟩ (.slice xA x.attrs.length xc)) ⟨M, 4, none⟩ (.string x.text)) ⟨M, 5, none⟩ (.slice xK x.kids.length xd)) = q := ⟨_, rfl⟩
  have F8 : Fr w5a w5 (fun k => k = M) := by rw [← hwn]; exact Fr.six _ _ _ _ _ _ _ _
  have X8 : Ext w4 w5 := Fr.ext XA F8 (fun q hq => by rw [show q = M from hq, hM]; exact Nat.le_refl _)
  have HBM := Lib.hid (show NBox w5 M 42 #[.int .u64 x.id, .bool x.leaf, .string x.label, .slice xA x.attrs.length xc, .string x.text, .slice xK x.kids.length xd] from by rw [← hwn]; exact bM.six _ _ _ _ _ _)
  replace HE := Lib.hid (HE.out.trans X8)
  replace HB0 := Lib.hid (HB0.out.ext X8)
  replace HB1 := Lib.hid (HB1.out.ext X8)
  have HWA := Lib.hid hwa
  have HMM := Lib.hid hM
  have HWN := Lib.hid hwn
  obtain ⟨y0, y1, y2, y3, y4, y5⟩ := bM.c6
  obtain ⟨z0_, z1_, z2_, z3_, z4_, z5_⟩ := bM.f6
  clear hwa hM hwn XA bM F8 X8
  go_upto_region 8 with (rw [HWA.out, HMM.out]; clear HWA)
  rw [HWN.out]
  clear HWN HMM y0 z0_ y1 z1_ y2 z2_ y3 z3_ y4 z4_ y5 z5_
  rcases hat : t.at? o.path with _ | x2
  ·have HZ : Hid (R = 81) := Lib.hid (by rw [← HR.out, HRF.out, validK, if_neg (fun h => absurd h.1 (by rw [HK.out]; decide)), hat])
   clear hat
   go_wp2_with fail
   go_ret
   exact ⟨_, rfl, by rw [HZ.out]; rfl, HE.out⟩
  obtain rfl : x2 = x := by rw [← HXX.out, hat]; rfl
  have HZ : Hid (R = 0) := Lib.hid (by rw [← HR.out, HRF.out, validK, if_neg (fun h => absurd h.1 (by rw [HK.out]; decide)), hat]; simp [HK.out])
  clear hat
  obtain ⟨k0, k1, k2, k3, k4, k5, k6, k7, k8, k9, k10⟩ := HB1.out.c11
  go_wp2_with fail
  go_ret
  exact ⟨_, rfl, by rw [HZ.out]; rfl, HE.out⟩
 ·have c1 : (o.kind == 1) = false := by rw [hk]; rfl
  have c2 : (o.kind == 2) = false := by rw [hk]; rfl
  have c3 : (o.kind == 3) = false := by rw [hk]; rfl
  have c6 : (o.kind == 6) = true := by rw [hk]; rfl
  have HK := Lib.hid hk
  clear hk
  obtain ⟨k0, k1, k2, k3, k4, k5, k6, k7, k8, k9, k10⟩ := HB1.out.c11
  go_upto_region 7 with fail
  have hc := rat_old t _ o.path _ w w3 HE.out.sub HT.out (RdS.ext HE.out HP.out)
  obtain ⟨t0, t1, t2, t3, t4, t5⟩ := HB0.out.c6
  obtain ⟨k0, k1, k2, k3, k4, k5, k6, k7, k8, k9, k10⟩ := HB1.out.c11
  go_wp2_with fail
  refine hc.mono ?_
  clear hc t0 t1 t2 t3 t4 t5 k0 k1 k2 k3 k4 k5 k6 k7 k8 k9 k10
  rintro e w4 ⟨r, rfl, ⟨xv, rfl, hx⟩, E2⟩
  obtain ⟨x, hxx⟩ : ∃ x, (t.at? o.path).getD Nd.zero = x := ⟨_, rfl⟩
  rw [hxx] at hx
  obtain ⟨xA, xc, xK, xd, rfl⟩ := rd_open6 hx
  have HX := Lib.hid hx
  have HXX := Lib.hid hxx
  replace HE := Lib.hid (HE.out.trans E2)
  replace HB0 := Lib.hid (HB0.out.ext E2)
  replace HB1 := Lib.hid (HB1.out.ext E2)
  clear E2 hx hxx
  obtain ⟨w5a, hwa⟩ : ∃ q, w4.alloc (.cells #[.int .u64 0, .bool false, .string ⟨#[]⟩, .slice none 0 0, .string ⟨#[]⟩, .slice none 0 0] 42) = q := ⟨_, rfl⟩
  obtain ⟨M, hM⟩ : ∃ q, w4.heap.size = q := ⟨_, rfl⟩
  have XA : Ext w4 w5a := by rw [← hwa]; exact (Ext.refl _).alloc _
  have bM : NBox w5a M 42 #[.int .u64 0, .bool false, .string ⟨#[]⟩, .slice none 0 0, .string ⟨#[]⟩, .slice none 0 0] := by rw [← hwa, ← hM]; exact NBox.new _ _ _
  obtain ⟨w5, hwn⟩ : ∃ q, (World.setCell (World.setCell (World.setCell (World.setCell (World.setCell (World.setCell w5a ⟨M, 0, none⟩ (.int .u64 x.id)) ⟨M, 1, none⟩ (.bool x.leaf)) ⟨M, 2, none⟩ (.string x.label)) ⟨M, 3, none⟩ (.slice xA x.attrs.length xc)) ⟨M, 4, none⟩ (.string x.text)) ⟨M, 5, none⟩ (.slice xK x.kids.length xd)) = q := ⟨_, rfl⟩
  have F8 : Fr w5a w5 (fun k => k = M) := by rw [← hwn]; exact Fr.six _ _ _ _ _ _ _ _
  have X8 : Ext w4 w5 := Fr.ext XA F8 (fun q hq => by rw [show q = M from hq, hM]; exact Nat.le_refl _)
  have HBM := Lib.hid (show NBox w5 M 42 #[.int .u64 x.id, .bool x.leaf, .string x.label, .slice xA x.attrs.length xc, .string x.text, .slice xK x.kids.length xd] from by rw [← hwn]; exact bM.six _ _ _ _ _ _)
  replace HE := Lib.hid (HE.out.trans X8)
  replace HB0 := Lib.hid (HB0.out.ext X8)
  replace HB1 := Lib.hid (HB1.out.ext X8)
  have HWA := Lib.hid hwa
  have HMM := Lib.hid hM
  have HWN := Lib.hid hwn
  obtain ⟨y0, y1, y2, y3, y4, y5⟩ := bM.c6
  obtain ⟨z0_, z1_, z2_, z3_, z4_, z5_⟩ := bM.f6
  clear hwa hM hwn XA bM F8 X8
  go_upto_region 8 with (rw [HWA.out, HMM.out]; clear HWA)
  rw [HWN.out]
  clear HWN HMM y0 z0_ y1 z1_ y2 z2_ y3 z3_ y4 z4_ y5 z5_
  rcases hat : t.at? o.path with _ | x2
  ·have HZ : Hid (R = 81) := Lib.hid (by rw [← HR.out, HRF.out, validK, if_neg (fun h => absurd h.1 (by rw [HK.out]; decide)), hat])
   clear hat
   go_wp2_with fail
   go_ret
   exact ⟨_, rfl, by rw [HZ.out]; rfl, HE.out⟩
  obtain rfl : x2 = x := by rw [← HXX.out, hat]; rfl
  have HXS := Lib.hid (HXT.out _ hat)
  rcases hlf : x2.leaf with _ | _
  ·have HZ : Hid (R = 83) := Lib.hid (by rw [← HR.out, HRF.out, validK, if_neg (fun h => absurd h.1 (by rw [HK.out]; decide)), hat]; simp [HK.out, hlf])
   clear hat
   obtain ⟨k0, k1, k2, k3, k4, k5, k6, k7, k8, k9, k10⟩ := HB1.out.c11
   obtain ⟨y0, y1, y2, y3, y4, y5⟩ := HBM.out.c6
   go_wp2_with fail
   go_ret
   exact ⟨_, rfl, by rw [HZ.out]; rfl, HE.out⟩
  have HZ : Hid (R = apE x2.text o.pcs) := Lib.hid (by rw [← HR.out, HRF.out, validK, if_neg (fun h => absurd h.1 (by rw [HK.out]; decide)), hat]; simp [HK.out, hlf])
  have hc := applyR_any x2.text o.pcs _ w5 (RdP.ext HE.out HCC.out) HXS.out
  clear hat
  obtain ⟨k0, k1, k2, k3, k4, k5, k6, k7, k8, k9, k10⟩ := HB1.out.c11
  obtain ⟨y0, y1, y2, y3, y4, y5⟩ := HBM.out.c6
  go_wp2_with fail
  refine hc.mono ?_
  clear hc
  rintro e w6 ⟨r, rfl, rfl, E2⟩
  have HE6 := Lib.hid (HE.out.trans E2)
  clear E2
  go_wp2_with fail
  go_ret
  exact ⟨_, rfl, by rw [HZ.out]; rfl, HE6.out⟩
end Go.Proofs.Ytdnjkffmgmbfmaa.Sy
