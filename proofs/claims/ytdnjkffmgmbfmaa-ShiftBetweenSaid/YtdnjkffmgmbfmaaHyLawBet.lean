/- Chapter 11: the law ShiftBetween (6). (Printed by gshb.py.) -/
import Derived.Test.YtdnjkffmgmbfmaaHyGrd
import Derived.Test.YtdnjkffmgmbfmaaHyNumW
import Derived.Test.YtdnjkffmgmbfmaaHyPathsW
import Derived.Test.YtdnjkffmgmbfmaaHyApply
import Derived.Test.YtdnjkffmgmbfmaaBsMay2
import Derived.Test.YtdnjkffmgmbfmaaHyBetP
import Derived.Deep.CutRange
namespace Go.Proofs.Ytdnjkffmgmbfmaa.Sy
open Go.RowKit Go.Proofs.Ytdnjkffmgmbfmaa.Bw Go.Proofs.Ytdnjkffmgmbfmaa.Bs

theorem light_put {top : Nat} : ∀ (l : List Pc) (n : Nat), n ≤ top → pcsLight top n l = true → n + putLen l ≤ top
 | [], n, h, _ => by rw [putLen]; omega
 | p :: r, n, h, hl => by
  rw [pcsLight, Bool.and_eq_true, decide_eq_true_eq] at hl
  have := light_put r _ hl.1 hl.2
  rw [putLen]
  omega
theorem light_opW {o : OpD} {top : Nat} (h : o.light top = true) (ht : top ≤ 300) : opW { o with id := 0 } ≤ 2000 := by
 simp only [OpD.light, Bool.and_eq_true, decide_eq_true_eq] at h
 obtain ⟨⟨⟨⟨⟨⟨-, -⟩, h1⟩, h2⟩, h3⟩, -⟩, h5⟩ := h
 have := light_put _ _ (Nat.zero_le _) h5
 unfold opW
 show 1 + o.label.size + o.key.size + o.value.size + putLen o.pcs ≤ 2000
 omega
mutual
theorem num_wt : ∀ (t : Nd) (a : Int), (numN t a).wt = t.wt
 | .mk i lf lb ats tx ks, a => by rw [numN, Nd.wt, Nd.wt, num_wtK ks]
theorem num_wtK : ∀ (ks : List Nd) (a : Int), wtK (numK ks a) = wtK ks
 | [], a => by rw [numK]
 | x :: xs, a => by rw [numK, wtK, wtK, num_wt x, num_wtK xs]
end
theorem pth_at : ∀ (p : List Int) {t : Nd}, p ∈ pthN t → ∃ x, t.at? p = some x
 | [], t, _ => ⟨t, at_nil⟩
 | a :: q, t, h => by
  obtain ⟨k, x, h1, h2, rfl⟩ := pthN_mem h
  obtain ⟨y, hy⟩ := pth_at q h2
  exact ⟨y, by rw [at_step h1]; exact hy⟩
set_option maxRecDepth 100000 in
set_option maxHeartbeats 16000000 in
theorem lawBetween (t : Nd) (o : OpD) (first : Bool) (v ov : Value) (w : World) (ht : t.rd w v) (ho : o.rd w ov) : Calls Try.prog 6 #[v, ov, .bool first] w (Ret w fun r _ => r = .bool true) := by
 obtain ⟨uA, uc, uK, ud, rfl⟩ := rd_open6 ht
 obtain ⟨pA, pc, tA, tc, cA, cc, rfl, -, -, -⟩ := rdO_cells ho
 obtain ⟨w1, hw1⟩ : ∃ W, (w.alloc (.cells #[.int .u64 t.id, .bool t.leaf, .string t.label, .slice uA t.attrs.length uc, .string t.text, .slice uK t.kids.length ud] 42)).alloc (.cells #[.int .u8 o.kind, .slice pA o.path.length pc, .int .i64 o.at_, .slice tA o.to.length tc, .int .u64 o.id, .bool o.leaf, .string o.label, .string o.key, .string o.value, .bool o.gone, .slice cA o.pcs.length cc] 26) = W := ⟨_, rfl⟩
 obtain ⟨B, hB⟩ : ∃ B, w.heap.size = B := ⟨_, rfl⟩
 have s1 : (w.alloc (.cells #[.int .u64 t.id, .bool t.leaf, .string t.label, .slice uA t.attrs.length uc, .string t.text, .slice uK t.kids.length ud] 42)).heap.size = B + 1 := by rw [World.size_alloc, hB]
 have E1 : Ext w w1 := by rw [← hw1]; exact ((Ext.refl w).alloc _).alloc _
 have HB0 := Lib.hid (show NBox w1 B 42 #[.int .u64 t.id, .bool t.leaf, .string t.label, .slice uA t.attrs.length uc, .string t.text, .slice uK t.kids.length ud] from by rw [← hw1, ← hB]; exact (NBox.new w 42 _).ext ((Ext.refl _).alloc _))
 have HB1 := Lib.hid (show NBox w1 (B + 1) 26 #[.int .u8 o.kind, .slice pA o.path.length pc, .int .i64 o.at_, .slice tA o.to.length tc, .int .u64 o.id, .bool o.leaf, .string o.label, .string o.key, .string o.value, .bool o.gone, .slice cA o.pcs.length cc] from by rw [← hw1, ← s1]; exact NBox.new _ 26 _)
 have HG := Lib.hid ((GW.refl (Wo.refl w)).ext E1)
 have HE := Lib.hid E1
 have HW1 := Lib.hid hw1
 have HBB := Lib.hid hB
 have HT := Lib.hid ht
 have HO := Lib.hid ho
 have hc := weigh_any t.cnt t _ 200 w1 (Nat.le_refl _) (Nd.rd_ext E1 ht) (by decide) (by decide)
 have HWI := Lib.hid (Nd.weigh_iff t (top := 200) (by decide))
 obtain ⟨WG, hWG⟩ : ∃ x, t.weigh 200 = x := ⟨_, rfl⟩
 rw [hWG] at hc HWI
 obtain ⟨t0, t1, t2, t3, t4, t5⟩ := HB0.out.c6
 clear hw1 hB s1 E1 ht ho hWG
 go_enter Try.func6, Try.ntmps6
 go_upto_region 1 with fail
 rw [HW1.out, HBB.out]
 clear HW1
 rcases Int.lt_or_le 200 WG with hwg | hwg
 ·have d1 : decide ((200 : Int) < WG) = true := decide_eq_true hwg
  go_wp2_with fail
  refine hc.mono ?_
  clear hc t0 t1 t2 t3 t4 t5
  rintro e w2 ⟨r, rfl, rfl, hE⟩
  have HE2 := Lib.hid (HE.out.trans hE)
  clear hE
  go_wp2_with fail
  refine (works_any w2).mono ?_
  rintro e u ⟨r, rfl, rfl, hE⟩
  go_wp2_with fail
  go_ret
  exact ⟨_, rfl, rfl, HE2.out.trans hE⟩
 have d1 : decide ((200 : Int) < WG) = false := decide_eq_false (by omega)
 have HTW := Lib.hid (HWI.out.1 hwg)
 have hq := Lib.hid (fun W (h : Ext w W) => light_any o _ 200 W (OpD.rd_ext h HO.out) (by decide))
 clear HWI hwg
 go_wp2_with fail
 refine hc.mono ?_
 clear hc t0 t1 t2 t3 t4 t5
 rintro e w2 ⟨r, rfl, rfl, hE⟩
 replace HE := Lib.hid (HE.out.trans hE)
 replace HG := Lib.hid (HG.out.ext hE)
 replace HB0 := Lib.hid (HB0.out.ext hE)
 replace HB1 := Lib.hid (HB1.out.ext hE)
 clear hE
 have hc := hq.out w2 HE.out
 clear hq
 obtain ⟨o0, o1, o2, o3, o4, o5, o6, o7, o8, o9, o10⟩ := HB1.out.c11
 obtain ⟨lt, hlt⟩ : ∃ b, o.light 200 = b := ⟨_, rfl⟩
 rw [hlt] at hc
 have HLT := Lib.hid hlt
 clear hlt
 go_wp2_with fail
 refine hc.mono ?_
 clear hc d1 o0 o1 o2 o3 o4 o5 o6 o7 o8 o9 o10
 rintro e w3 ⟨r, rfl, rfl, hE⟩
 replace HE := Lib.hid (HE.out.trans hE)
 replace HG := Lib.hid (HG.out.ext hE)
 replace HB0 := Lib.hid (HB0.out.ext hE)
 replace HB1 := Lib.hid (HB1.out.ext hE)
 clear hE
 cases lt with
 | false =>
  go_wp2_with fail
  refine (works_any w3).mono ?_
  rintro e u ⟨r, rfl, rfl, hE⟩
  go_wp2_with fail
  go_ret
  exact ⟨_, rfl, rfl, HE.out.trans hE⟩
 | true =>
  have hlo := light_open HLT.out
  have hcw := Nd.cnt_wt t
  have hwt0 := HTW.out
  have hc := num_late t.cnt t _ 1 w w3 (Nat.le_refl _) HG.out.now HT.out (by decide) (by omega)
  obtain ⟨n, hn⟩ : ∃ n, numN t 1 = n := ⟨_, rfl⟩
  rw [hn] at hc
  have hnw : n.wt = t.wt := by rw [← hn, num_wt]
  have HNN := Lib.hid hn
  clear hn
  obtain ⟨t0, t1, t2, t3, t4, t5⟩ := HB0.out.c6
  obtain ⟨f0, f1, f2, f3, f4, f5⟩ := HB0.out.f6
  go_upto_region 3 with fail
  go_wp2_with fail
  refine hc.mono ?_
  clear hc t0 t1 t2 t3 t4 t5 f0 f1 f2 f3 f4 f5
  rintro e w4 ⟨r, rfl, ⟨q, rfl, hLL⟩, hE⟩
  have HRN := Lib.hid (HG.out.got hE hLL)
  obtain ⟨nA, nc, nK, nd, rfl⟩ := rd_open6 HRN.out
  have HSB := Lib.hid (show (fun i => True ∧ (i < w3.heap.size ∨ w4.heap.size ≤ i)) B ∧ (fun i => True ∧ (i < w3.heap.size ∨ w4.heap.size ≤ i)) (B + 1) from ⟨⟨trivial, .inl HB0.out.lt⟩, ⟨trivial, .inl HB1.out.lt⟩⟩)
  replace HG := Lib.hid (HG.out.glue hE)
  replace HE := Lib.hid (HE.out.trans hE)
  replace HB0 := Lib.hid (HB0.out.ext hE)
  replace HB1 := Lib.hid (HB1.out.ext hE)
  clear hE hLL
  have hBw := HBB.out
  have F9 := Fr.six w4 B (.int .u64 n.id) (.bool n.leaf) (.string n.label) (.slice nA n.attrs.length nc) (.string n.text) (.slice nK n.kids.length nd)
  have b0 := NBox.six HB0.out (.int .u64 n.id) (.bool n.leaf) (.string n.label) (.slice nA n.attrs.length nc) (.string n.text) (.slice nK n.kids.length nd)
  obtain ⟨y0, y1, y2, y3, y4, y5⟩ := HB0.out.c6
  obtain ⟨z0, z1, z2, z3, z4, z5⟩ := HB0.out.f6
  obtain ⟨w5, hw5⟩ : ∃ q, World.setCell (World.setCell (World.setCell (World.setCell (World.setCell (World.setCell (w4) ⟨B, 0, none⟩ (.int .u64 n.id)) ⟨B, 1, none⟩ (.bool n.leaf)) ⟨B, 2, none⟩ (.string n.label)) ⟨B, 3, none⟩ (.slice nA n.attrs.length nc)) ⟨B, 4, none⟩ (.string n.text)) ⟨B, 5, none⟩ (.slice nK n.kids.length nd) = q := ⟨_, rfl⟩
  rw [hw5] at F9 b0
  replace HG := Lib.hid (HG.out.fr F9 (fun q hq => by rw [show q = B from hq]; exact ⟨HSB.out.1, Nat.le_of_eq hBw⟩))
  replace HE := Lib.hid (Fr.ext HE.out F9 (fun q hq => by rw [show q = B from hq]; exact Nat.le_of_eq hBw))
  replace HB1 := Lib.hid (HB1.out.fr F9 (show ¬ B + 1 = B by omega))
  replace HB0 := Lib.hid b0
  have HW5 := Lib.hid hw5
  clear hw5 F9 b0
  go_upto_region 4 with fail
  rw [HW5.out]
  clear HW5 y0 y1 y2 y3 y4 y5 z0 z1 z2 z3 z4 z5
  have F9 := Fr.setCell w5 (B + 1) 4 (.int .u64 0)
  have b1 : NBox _ (B + 1) 26 #[.int .u8 o.kind, .slice pA o.path.length pc, .int .i64 o.at_, .slice tA o.to.length tc, .int .u64 0, .bool o.leaf, .string o.label, .string o.key, .string o.value, .bool o.gone, .slice cA o.pcs.length cc] := HB1.out.set 4 (.int .u64 0)
  have y4 := HB1.out.cell 4
  have z4 := HB1.out.frozen 4
  obtain ⟨w6, hw6⟩ : ∃ q, w5.setCell ⟨B + 1, 4, none⟩ (.int .u64 0) = q := ⟨_, rfl⟩
  rw [hw6] at F9 b1
  replace HG := Lib.hid (HG.out.fr F9 (fun q hq => by rw [show q = B + 1 from hq]; exact ⟨HSB.out.2, by omega⟩))
  replace HE := Lib.hid (Fr.ext HE.out F9 (fun q hq => by rw [show q = B + 1 from hq]; omega))
  replace HB0 := Lib.hid (HB0.out.fr F9 (show ¬ B = B + 1 by omega))
  replace HB1 := Lib.hid b1
  have HW6 := Lib.hid hw6
  clear hw6 F9 b1 hBw HSB
  go_upto_region 5 with fail
  rw [HW6.out]
  clear HW6 y4 z4
  obtain ⟨o0, ho0⟩ : ∃ q : OpD, { o with id := 0 } = q := ⟨_, rfl⟩
  have HOK := Lib.hid (show o0.id = 0 ∧ o0.path.length ≤ 200 ∧ o0.to.length ≤ 200 from by rw [← ho0]; exact ⟨rfl, hlo⟩)
  have HO0 : Hid (o0.rd w6 (.agg #[.int .u8 o.kind, .slice pA o.path.length pc, .int .i64 o.at_, .slice tA o.to.length tc, .int .u64 0, .bool o.leaf, .string o.label, .string o.key, .string o.value, .bool o.gone, .slice cA o.pcs.length cc])) := Lib.hid (by
   obtain ⟨pv, tv, cv, he, h1, h2, h3, h4, h5, h6, -, h8⟩ := OpD.rd_ext HE.out HO.out
   simp only [Value.agg.injEq, Array.mk.injEq, List.cons.injEq, true_and, and_true] at he
   obtain ⟨rfl, rfl, rfl⟩ := he
   rw [← ho0]
   exact ⟨_, _, _, rfl, h1, h2, h3, h4, h5, h6, ⟨Int.le_refl _, show (0 : Int) ≤ 18446744073709551615 by decide⟩, h8⟩)
  have HOW := Lib.hid (show opW o0 ≤ 2000 from by rw [← ho0]; exact light_opW HLT.out (by decide))
  have HOE := Lib.hid (show o.kind = o0.kind ∧ o.path.length = o0.path.length ∧ o.at_ = o0.at_ ∧ o.to.length = o0.to.length from by rw [← ho0]; exact ⟨rfl, rfl, rfl, rfl⟩)
  clear ho0 HO HLT hlo HOE
  have hc := apply_late n o0 _ _ _ w6 HG.out.now HRN.out HO0.out (by have := HOK.out.2.1; omega) (by have := HOK.out.2.2; omega) (by omega)
  have HNW := Lib.hid (show n.wt ≤ 200 from by omega)
  clear hcw hwt0 hnw HTW HT
  obtain ⟨NT, hNT⟩ : ∃ q, (applyD n o0).1 = q := ⟨_, rfl⟩
  obtain ⟨EE, hEE⟩ : ∃ q, (applyD n o0).2 = q := ⟨_, rfl⟩
  rw [hNT, hEE] at hc
  have HNT := Lib.hid hNT
  have HEE := Lib.hid hEE
  clear hNT hEE
  obtain ⟨t0, t1, t2, t3, t4, t5⟩ := HB0.out.c6
  obtain ⟨o0, o1, o2, o3, o4, o5, o6, o7, o8, o9, o10⟩ := HB1.out.c11
  go_wp2_with fail
  refine hc.mono ?_
  clear hc t0 t1 t2 t3 t4 t5 o0 o1 o2 o3 o4 o5 o6 o7 o8 o9 o10
  rintro e w7 ⟨r, rfl, ⟨q, rfl, hLL⟩, hE⟩
  have HRM := Lib.hid (HG.out.got hE hLL)
  obtain ⟨m, hm⟩ : ∃ q, NT = q := ⟨_, rfl⟩
  rw [hm] at HRM HNT
  clear hm
  obtain ⟨mA, mc, mK, md, rfl⟩ := rd_open6 HRM.out
  replace HRN := Lib.hid (HG.out.rd_glue hE HRN.out)
  replace HG := Lib.hid (HG.out.glue hE)
  replace HE := Lib.hid (HE.out.trans hE)
  replace HB0 := Lib.hid (HB0.out.ext hE)
  replace HB1 := Lib.hid (HB1.out.ext hE)
  replace HO0 := Lib.hid (OpD.rd_ext hE HO0.out)
  clear hE hLL
  obtain ⟨wa, hwa⟩ : ∃ q, w7.alloc (.cells #[.int .u64 0, .bool false, .string ⟨#[]⟩, .slice none 0 0, .string ⟨#[]⟩, .slice none 0 0] 42) = q := ⟨_, rfl⟩
  obtain ⟨P, hP⟩ : ∃ q, w7.heap.size = q := ⟨_, rfl⟩
  have XA : Ext w7 wa := by rw [← hwa]; exact (Ext.refl _).alloc _
  have bM : NBox wa P 42 #[.int .u64 0, .bool false, .string ⟨#[]⟩, .slice none 0 0, .string ⟨#[]⟩, .slice none 0 0] := by rw [← hwa, ← hP]; exact NBox.new _ _ _
  have F8 := Fr.six wa P (.int .u64 m.id) (.bool m.leaf) (.string m.label) (.slice mA m.attrs.length mc) (.string m.text) (.slice mK m.kids.length md)
  have b6 := NBox.six bM (.int .u64 m.id) (.bool m.leaf) (.string m.label) (.slice mA m.attrs.length mc) (.string m.text) (.slice mK m.kids.length md)
  obtain ⟨w8, hwn⟩ : ∃ q, World.setCell (World.setCell (World.setCell (World.setCell (World.setCell (World.setCell (wa) ⟨P, 0, none⟩ (.int .u64 m.id)) ⟨P, 1, none⟩ (.bool m.leaf)) ⟨P, 2, none⟩ (.string m.label)) ⟨P, 3, none⟩ (.slice mA m.attrs.length mc)) ⟨P, 4, none⟩ (.string m.text)) ⟨P, 5, none⟩ (.slice mK m.kids.length md) = q := ⟨_, rfl⟩
  rw [hwn] at F8 b6
  have X8 : Ext w7 w8 := Fr.ext XA F8 (fun q hq => by rw [show q = P from hq, hP]; exact Nat.le_refl _)
  obtain ⟨y0, y1, y2, y3, y4, y5⟩ := bM.c6
  obtain ⟨z0, z1, z2, z3, z4, z5⟩ := bM.f6
  have HWA := Lib.hid hwa
  have HPP := Lib.hid hP
  have HWN := Lib.hid hwn
  replace HG := Lib.hid (HG.out.ext X8)
  replace HE := Lib.hid (HE.out.trans X8)
  replace HB0 := Lib.hid (HB0.out.ext X8)
  replace HB1 := Lib.hid (HB1.out.ext X8)
  replace HO0 := Lib.hid (OpD.rd_ext X8 HO0.out)
  have HBM := Lib.hid b6
  clear hwa hP hwn XA bM F8 X8 b6
  go_upto_region 6 with (rw [HWA.out, HPP.out]; clear HWA)
  rw [HWN.out]
  clear HWN HPP y0 y1 y2 y3 y4 y5 z0 z1 z2 z3 z4 z5
  have HRn := Lib.hid (HG.out.rd HRN.out)
  have HRm := Lib.hid (HG.out.rd HRM.out)
  clear HG HRN HRM
  by_cases hv : validD n o0 = 0
  ·have d2 : (EE != 0) = false := by rw [bne_eq_false_iff_eq, ← HEE.out, applyD, if_pos hv]
   have HMD := Lib.hid (show doD n o0 = m from by rw [← HNT.out, applyD, if_pos hv])
   have HV := Lib.hid hv
   clear hv HNT HEE
   have hcnt := Nd.cnt_wt n
   have hnw := HNW.out
   have hc := paths_any n.cnt n _ w8 (Nat.le_refl _) HRn.out (by omega)
   have HMC := Lib.hid (show m.cnt ≤ 1000000 from by
    have h1 := do_wt HV.out
    rw [HMD.out] at h1
    have h2 := Nd.cnt_wt m
    have := HOW.out
    omega)
   obtain ⟨C, hC⟩ : ∃ q, n.cnt = q := ⟨_, rfl⟩
   rw [hC] at hc hcnt
   have hC1 : 0 < C := by rw [← hC, Nd.cnt_eq]; omega
   obtain ⟨t0, t1, t2, t3, t4, t5⟩ := HB0.out.c6
   clear hC hnw
   go_wp2_with fail
   refine hc.mono ?_
   clear hc t0 t1 t2 t3 t4 t5 d2
   rintro e w9 ⟨r, rfl, ⟨xs, hown, hok⟩, hE⟩
   obtain ⟨pg, pc9, rfl, -, hpc⟩ := World.ownsRow.form hown hC1
   have HQ := Lib.hid (fun u (hu : u ∈ xs) => show ∃ p, p ∈ pthN n ∧ RdI w9 p u from by obtain ⟨p, h1, h2, _⟩ := hok u hu; exact ⟨p, h1, h2.1⟩)
   have HR := Lib.hid (RdS.of_owns hown)
   replace HE := Lib.hid (HE.out.trans hE)
   replace HB0 := Lib.hid (HB0.out.ext hE)
   replace HB1 := Lib.hid (HB1.out.ext hE)
   replace HBM := Lib.hid (HBM.out.ext hE)
   replace HO0 := Lib.hid (OpD.rd_ext hE HO0.out)
   replace HRn := Lib.hid (Nd.rd_ext hE HRn.out)
   replace HRm := Lib.hid (Nd.rd_ext hE HRm.out)
   have HCL := Lib.hid hcnt
   clear hE hown hok hpc
   go_wp2_with fail
   go_loopw [10] (fun s10 wr => ∃ i : Nat, s10 = .int .i64 (i : Int) ∧ i ≤ C ∧ Hid (Ext w9 wr)) (fun s10 _ => C - (intOf s10).toNat)
   case atStart => exact ⟨0, rfl, Nat.zero_le _, Lib.hid (Ext.refl _)⟩
   case round =>
    obtain ⟨i, rfl, hi, HEr⟩ := hrel
    rcases Nat.lt_or_ge i C with hlt | hlt
    ·obtain ⟨u, hu⟩ : ∃ u, xs[i]? = some u := ⟨_, List.getElem?_eq_getElem (by have := HR.out; obtain ⟨_, _, _, h, _⟩ := this; omega)⟩
     obtain ⟨p, hpm, hp⟩ := HQ.out u (List.mem_of_getElem? hu)
     obtain ⟨qA, qc, rfl, -⟩ := id hp
     have cu : w9.cell? ⟨pg, i, none⟩ = some (.slice qA p.length qc) := by
      obtain ⟨_, _, he, _, _, _, h5⟩ := HR.out
      obtain ⟨b', o', h6, h7⟩ := h5 (by omega)
      simp only [Value.slice.injEq, true_and] at he
      obtain ⟨rfl, rfl⟩ := he
      simp only [Option.some.injEq, Addr.mk.injEq, and_true] at h6
      obtain ⟨rfl, rfl⟩ := h6
      have := h7 i _ hu
      rwa [Nat.zero_add] at this
     obtain ⟨x, hx⟩ := pth_at p hpm
     have HX := Lib.hid hx
     have HPL := Lib.hid (show p.length ≤ 200 from by have := pthN_len p hpm; have := HCL.out; have := HNW.out; have := Nd.cnt_wt n; omega)
     have HXL := Lib.hid (show x.kids.length ≤ 200 from by have := kidIds_wt hx; unfold kidIds at this; rw [List.length_map] at this; have := HNW.out; omega)
     have HCU := Lib.hid (HEr.out.cell cu)
     have HP := Lib.hid (RdS.ext HEr.out hp)
     replace HB0 := Lib.hid (HB0.out.ext HEr.out)
     replace HB1 := Lib.hid (HB1.out.ext HEr.out)
     replace HBM := Lib.hid (HBM.out.ext HEr.out)
     replace HO0 := Lib.hid (OpD.rd_ext HEr.out HO0.out)
     replace HRn := Lib.hid (Nd.rd_ext HEr.out HRn.out)
     replace HRm := Lib.hid (Nd.rd_ext HEr.out HRm.out)
     have q1 : (0 : Int) ≤ (i : Int) := by omega
     have q2 : (i : Int) < (C : Int) := by omega
     clear hu hp hpm hx cu
     go_upto_region 12 with fail
     go_cut [11, 12] from 51 to 59 (fun s11 s12 wx => ∃ (P2 : Nat) (xA : Option Addr) (xc : Nat) (xK : Option Addr) (xd : Nat), s11 = .pointer (some ⟨P2, 0, none⟩) ∧ Hid (Ext wr wx) ∧ Hid (NBox wx P2 42 #[.int .u64 x.id, .bool x.leaf, .string x.label, .slice xA x.attrs.length xc, .string x.text, .slice xK x.kids.length xd]) ∧ Hid (x.rd wx (.agg #[.int .u64 x.id, .bool x.leaf, .string x.label, .slice xA x.attrs.length xc, .string x.text, .slice xK x.kids.length xd])))
     case first =>
      obtain ⟨wd, hwd⟩ : ∃ d, wr.drew = d := ⟨_, rfl⟩
      have HEW := Lib.hid (show Ext wr wd from by rw [← hwd]; exact (Ext.refl wr).drew)
      refine wp_region_held_drew (S := fun W => NBox W B 42 #[.int .u64 n.id, .bool n.leaf, .string n.label, .slice nA n.attrs.length nc, .string n.text, .slice nK n.kids.length nd] ∧ W.cell? ⟨pg, i, none⟩ = some (.slice qA p.length qc)) (by kernel_rfl) (by rw [hwd]; exact ⟨HB0.out.ext HEW.out, HEW.out.cell HCU.out⟩) (fun hHeld => ?_)
      rw [hwd] at hHeld ⊢
      clear hwd
      refine tk 0 ?_ rfl (.inl ⟨by rfl, ?_⟩) hHeld ?_
      rotate_left
      ·intro w hSw
       have fq := hSw.1
       obtain ⟨e0, e1, e2, e3, e4, e5⟩ := fq.c6
       go_simp
       all_goals (first | with_reducible rfl | rw [if_pos (by omega)])
      try simp only [Act.put, aS]
      refine tk 1 ?_ rfl (.inl ⟨by rfl, ?_⟩) hHeld ?_
      rotate_left
      ·intro w hSw
       try dsimp only at hSw
       go_simp
       all_goals (first | with_reducible rfl | rw [if_pos (by omega)])
      try simp only [Act.put, aS]
      refine tk 2 ?_ rfl (.inl ⟨by rfl, ?_⟩) hHeld ?_
      rotate_left
      ·intro w hSw
       try dsimp only at hSw
       go_simp
       all_goals (first | with_reducible rfl | rw [if_pos (by omega)])
      try simp only [Act.put, aS]
      refine tk 3 ?_ rfl (.inl ⟨by rfl, ?_⟩) hHeld ?_
      rotate_left
      ·intro w hSw
       try dsimp only at hSw
       go_simp
       all_goals (first | with_reducible rfl | rw [if_pos (by omega)])
      try simp only [Act.put, aS]
      refine tk 4 ?_ rfl (.inl ⟨by rfl, ?_⟩) hHeld ?_
      rotate_left
      ·intro w hSw
       have fq := hSw.2
       go_simp
       all_goals (first | with_reducible rfl | rw [if_pos (by omega)])
      try simp only [Act.put, aS]
      refine wpAnyH_ready (rs := [5, 9]) (by kernel_rfl) (by simp) ?_
      refine AllReadyH.cons (o := ⟨_, _, _, _, _, _⟩) rfl (fun K' hK => ?_) (AllReadyH.cons (o := ⟨_, _, _, _, _, _⟩) rfl (fun K' hK => ?_) (AllReadyH.nil))
      ·have hc := rat_old n (.agg #[.int .u64 n.id, .bool n.leaf, .string n.label, .slice nA n.attrs.length nc, .string n.text, .slice nK n.kids.length nd]) p (.slice qA p.length qc) wr wd HEW.out.sub HRn.out (RdS.ext HEW.out HP.out)
       rw [HX.out] at hc
       go_simp
       go_at_call 22
       refine hc.mono ?_
       clear hc
       rintro e v1 ⟨r, rfl, ⟨q, rfl, hv⟩, hE⟩
       replace hv : x.rd wr q := hv
       obtain ⟨xA, xc, xK, xd, rfl⟩ := rd_open6 hv
       have HRX := Lib.hid hv
       replace HEW := Lib.hid (HEW.out.trans hE)
       refine hK.out _ _ (show _ ∧ _ from ⟨hHeld.1.ext hE, hE.cell hHeld.2⟩) (fun hHeld => ?_)
       clear hK K' hE hv
       try simp only [Act.put, aS]
       refine tk 6 ?_ rfl (.inl ⟨by rfl, ?_⟩) hHeld ?_
       rotate_left
       ·intro w hSw
        try dsimp only at hSw
        go_simp
        all_goals (first | with_reducible rfl | rw [if_pos (by omega)])
       try simp only [Act.put, aS]
       refine tk 7 ?_ rfl (.inl ⟨by rfl, ?_⟩) hHeld ?_
       rotate_left
       ·intro w hSw
        try dsimp only at hSw
        go_simp
        all_goals (first | with_reducible rfl | rw [if_pos (by omega)])
       try simp only [Act.put, aS]
       refine tk 8 ?_ rfl (.inl ⟨by rfl, ?_⟩) hHeld ?_
       rotate_left
       ·intro w hSw
        try dsimp only at hSw
        go_simp
        all_goals (first | with_reducible rfl | rw [if_pos (by omega)])
       try simp only [Act.put, aS]
       refine wpAnyH_ready (rs := [9]) (by kernel_rfl) (by simp) ?_
       refine AllReadyH.cons (o := ⟨_, _, _, _, _, _⟩) rfl (fun K' hK => ?_) (AllReadyH.nil)
       go_simp
       obtain ⟨P2, hP⟩ : ∃ b, v1.heap.size = b := ⟨_, rfl⟩
       have hE0 : Ext v1 (v1.alloc (.cells #[.int .u64 0, .bool false, .string ⟨#[]⟩, .slice none 0 0, .string ⟨#[]⟩, .slice none 0 0] 42)) := (Ext.refl _).alloc _
       have HLP := Lib.hid (show wr.heap.size ≤ P2 from by rw [← hP]; exact HEW.out.size)
       refine hK.out _ _ (show _ ∧ _ from ⟨hHeld.1.ext hE0, hE0.cell hHeld.2⟩) (fun hHeld => ?_)
       clear hK K'
       try simp only [Act.put, aS]
       obtain ⟨v2, hd⟩ : ∃ d, v1.alloc (.cells #[.int .u64 0, .bool false, .string ⟨#[]⟩, .slice none 0 0, .string ⟨#[]⟩, .slice none 0 0] 42) = d := ⟨_, rfl⟩
       have HBP := Lib.hid (show NBox v2 P2 42 #[.int .u64 0, .bool false, .string ⟨#[]⟩, .slice none 0 0, .string ⟨#[]⟩, .slice none 0 0] from by rw [← hd, ← hP]; exact NBox.new _ _ _)
       have hE : Ext v1 v2 := by rw [← hd]; exact hE0
       clear hE0
       replace HEW := Lib.hid (HEW.out.trans hE)
       rw [hd] at hHeld ⊢
       rw [hP]
       clear hd hP hE
       refine wpAnyH_ready (rs := [10]) (by kernel_rfl) (by simp) ?_
       refine AllReadyH.cons (o := ⟨_, _, _, _, _, _⟩) rfl (fun K' hK => ?_) (AllReadyH.nil)
       obtain ⟨y0, y1, y2, y3, y4, y5⟩ := HBP.out.c6
       obtain ⟨z0, z1, z2, z3, z4, z5⟩ := HBP.out.f6
       go_simp
       have F9 := Fr.six v2 P2 (.int .u64 x.id) (.bool x.leaf) (.string x.label) (.slice xA x.attrs.length xc) (.string x.text) (.slice xK x.kids.length xd)
       have b9 := NBox.six HBP.out (.int .u64 x.id) (.bool x.leaf) (.string x.label) (.slice xA x.attrs.length xc) (.string x.text) (.slice xK x.kids.length xd)
       obtain ⟨wz, hwz⟩ : ∃ q, World.setCell (World.setCell (World.setCell (World.setCell (World.setCell (World.setCell (v2) ⟨P2, 0, none⟩ (.int .u64 x.id)) ⟨P2, 1, none⟩ (.bool x.leaf)) ⟨P2, 2, none⟩ (.string x.label)) ⟨P2, 3, none⟩ (.slice xA x.attrs.length xc)) ⟨P2, 4, none⟩ (.string x.text)) ⟨P2, 5, none⟩ (.slice xK x.kids.length xd) = q := ⟨_, rfl⟩
       rw [hwz] at F9 b9 ⊢
       have HEZ := Lib.hid (Fr.ext HEW.out F9 (fun q hq => by rw [show q = P2 from hq]; exact HLP.out))
       have HBZ := Lib.hid b9
       have HRZ := Lib.hid (Nd.rd_ext HEZ.out HRX.out)
       refine hK.out _ _ (show _ ∧ _ from ⟨HB0.out.ext HEZ.out, HEZ.out.cell HCU.out⟩) (fun hHeld => ?_)
       clear hK K' y0 y1 y2 y3 y4 y5 z0 z1 z2 z3 z4 z5 F9 b9 hwz HEW HBP
       try simp only [Act.put, aS]
       refine tk 11 ?_ rfl (.inl ⟨by rfl, ?_⟩) hHeld ?_
       rotate_left
       ·intro w hSw
        try dsimp only at hSw
        go_simp
        all_goals (first | with_reducible rfl | rw [if_pos (by omega)])
       try simp only [Act.put, aS]
       refine wpAnyH_done (by kernel_rfl) ?_ _
       clear hHeld
       go_wp2_with fail
       go_meet
       exact ⟨P2, xA, xc, xK, xd, rfl, HEZ, HBZ, HRZ⟩
      ·go_simp
       obtain ⟨P2, hP⟩ : ∃ b, wd.heap.size = b := ⟨_, rfl⟩
       have hE0 : Ext wd (wd.alloc (.cells #[.int .u64 0, .bool false, .string ⟨#[]⟩, .slice none 0 0, .string ⟨#[]⟩, .slice none 0 0] 42)) := (Ext.refl _).alloc _
       have HLP := Lib.hid (show wr.heap.size ≤ P2 from by rw [← hP]; exact HEW.out.size)
       refine hK.out _ _ (show _ ∧ _ from ⟨hHeld.1.ext hE0, hE0.cell hHeld.2⟩) (fun hHeld => ?_)
       clear hK K'
       try simp only [Act.put, aS]
       obtain ⟨v3, hd⟩ : ∃ d, wd.alloc (.cells #[.int .u64 0, .bool false, .string ⟨#[]⟩, .slice none 0 0, .string ⟨#[]⟩, .slice none 0 0] 42) = d := ⟨_, rfl⟩
       have HBP := Lib.hid (show NBox v3 P2 42 #[.int .u64 0, .bool false, .string ⟨#[]⟩, .slice none 0 0, .string ⟨#[]⟩, .slice none 0 0] from by rw [← hd, ← hP]; exact NBox.new _ _ _)
       have hE : Ext wd v3 := by rw [← hd]; exact hE0
       clear hE0
       replace HEW := Lib.hid (HEW.out.trans hE)
       rw [hd] at hHeld ⊢
       rw [hP]
       clear hd hP hE
       refine wpAnyH_ready (rs := [5]) (by kernel_rfl) (by simp) ?_
       refine AllReadyH.cons (o := ⟨_, _, _, _, _, _⟩) rfl (fun K' hK => ?_) (AllReadyH.nil)
       have hc := rat_old n (.agg #[.int .u64 n.id, .bool n.leaf, .string n.label, .slice nA n.attrs.length nc, .string n.text, .slice nK n.kids.length nd]) p (.slice qA p.length qc) wr v3 HEW.out.sub HRn.out (RdS.ext HEW.out HP.out)
       rw [HX.out] at hc
       go_simp
       go_at_call 22
       refine hc.mono ?_
       clear hc
       rintro e v4 ⟨r, rfl, ⟨q, rfl, hv⟩, hE⟩
       replace hv : x.rd wr q := hv
       obtain ⟨xA, xc, xK, xd, rfl⟩ := rd_open6 hv
       have HRX := Lib.hid hv
       replace HEW := Lib.hid (HEW.out.trans hE)
       replace HBP := Lib.hid (HBP.out.ext hE)
       refine hK.out _ _ (show _ ∧ _ from ⟨hHeld.1.ext hE, hE.cell hHeld.2⟩) (fun hHeld => ?_)
       clear hK K' hE hv
       try simp only [Act.put, aS]
       refine tk 6 ?_ rfl (.inl ⟨by rfl, ?_⟩) hHeld ?_
       rotate_left
       ·intro w hSw
        try dsimp only at hSw
        go_simp
        all_goals (first | with_reducible rfl | rw [if_pos (by omega)])
       try simp only [Act.put, aS]
       refine tk 7 ?_ rfl (.inl ⟨by rfl, ?_⟩) hHeld ?_
       rotate_left
       ·intro w hSw
        try dsimp only at hSw
        go_simp
        all_goals (first | with_reducible rfl | rw [if_pos (by omega)])
       try simp only [Act.put, aS]
       refine tk 8 ?_ rfl (.inl ⟨by rfl, ?_⟩) hHeld ?_
       rotate_left
       ·intro w hSw
        try dsimp only at hSw
        go_simp
        all_goals (first | with_reducible rfl | rw [if_pos (by omega)])
       try simp only [Act.put, aS]
       refine wpAnyH_ready (rs := [10]) (by kernel_rfl) (by simp) ?_
       refine AllReadyH.cons (o := ⟨_, _, _, _, _, _⟩) rfl (fun K' hK => ?_) (AllReadyH.nil)
       obtain ⟨y0, y1, y2, y3, y4, y5⟩ := HBP.out.c6
       obtain ⟨z0, z1, z2, z3, z4, z5⟩ := HBP.out.f6
       go_simp
       have F9 := Fr.six v4 P2 (.int .u64 x.id) (.bool x.leaf) (.string x.label) (.slice xA x.attrs.length xc) (.string x.text) (.slice xK x.kids.length xd)
       have b9 := NBox.six HBP.out (.int .u64 x.id) (.bool x.leaf) (.string x.label) (.slice xA x.attrs.length xc) (.string x.text) (.slice xK x.kids.length xd)
       obtain ⟨wz, hwz⟩ : ∃ q, World.setCell (World.setCell (World.setCell (World.setCell (World.setCell (World.setCell (v4) ⟨P2, 0, none⟩ (.int .u64 x.id)) ⟨P2, 1, none⟩ (.bool x.leaf)) ⟨P2, 2, none⟩ (.string x.label)) ⟨P2, 3, none⟩ (.slice xA x.attrs.length xc)) ⟨P2, 4, none⟩ (.string x.text)) ⟨P2, 5, none⟩ (.slice xK x.kids.length xd) = q := ⟨_, rfl⟩
       rw [hwz] at F9 b9 ⊢
       have HEZ := Lib.hid (Fr.ext HEW.out F9 (fun q hq => by rw [show q = P2 from hq]; exact HLP.out))
       have HBZ := Lib.hid b9
       have HRZ := Lib.hid (Nd.rd_ext HEZ.out HRX.out)
       refine hK.out _ _ (show _ ∧ _ from ⟨HB0.out.ext HEZ.out, HEZ.out.cell HCU.out⟩) (fun hHeld => ?_)
       clear hK K' y0 y1 y2 y3 y4 y5 z0 z1 z2 z3 z4 z5 F9 b9 hwz HEW HBP
       try simp only [Act.put, aS]
       refine tk 11 ?_ rfl (.inl ⟨by rfl, ?_⟩) hHeld ?_
       rotate_left
       ·intro w hSw
        try dsimp only at hSw
        go_simp
        all_goals (first | with_reducible rfl | rw [if_pos (by omega)])
       try simp only [Act.put, aS]
       refine wpAnyH_done (by kernel_rfl) ?_ _
       clear hHeld
       go_wp2_with fail
       go_meet
       exact ⟨P2, xA, xc, xK, xd, rfl, HEZ, HBZ, HRZ⟩
     case rest =>
      obtain ⟨P2, xA, xc, xK, xd, rfl, HEc, HBX, HRX⟩ := hcut
      have HE9 := Lib.hid (HEr.out.trans HEc.out)
      replace HCU := Lib.hid (HEc.out.cell HCU.out)
      replace HP := Lib.hid (RdS.ext HEc.out HP.out)
      replace HB0 := Lib.hid (HB0.out.ext HEc.out)
      replace HB1 := Lib.hid (HB1.out.ext HEc.out)
      replace HBM := Lib.hid (HBM.out.ext HEc.out)
      replace HO0 := Lib.hid (OpD.rd_ext HEc.out HO0.out)
      replace HRn := Lib.hid (Nd.rd_ext HEc.out HRn.out)
      replace HRm := Lib.hid (Nd.rd_ext HEc.out HRm.out)
      have BL := between_law (t0 := t) (o := o0) (s := (bop o0).sh) (alike_b o0) (wr_b o0) (by rw [HNN.out]; exact HV.out) HOK.out.1 (by rw [HNN.out]; have := HNW.out; omega) first (p := p) (y := x) (by rw [HNN.out]; exact HX.out)
      rw [HNN.out, HMD.out] at BL
      have HBL0 := Lib.hid BL
      clear BL HEr HEc HX
      go_wp2_with fail
      go_loopw [13] (fun s13 wr => ∃ a : Nat, s13 = .int .i64 (a : Int) ∧ a ≤ x.kids.length + 1 ∧ Hid (Ext wc wr)) (fun s13 _ => x.kids.length + 1 - (intOf s13).toNat)
      case atStart => exact ⟨0, rfl, Nat.zero_le _, Lib.hid (Ext.refl _)⟩
      case round =>
       obtain ⟨a, rfl, ha, HEa⟩ := hrel
       have hxl := HXL.out
       have hcl := HCL.out
       have hnw := HNW.out
       have k5 := HEa.out.cell (HBX.out.cell 5)
       rcases Nat.lt_or_ge a (x.kids.length + 1) with hal | hal
       ·have d3 : decide ((a : Int) ≤ (x.kids.length : Int)) = true := decide_eq_true (by omega)
        have XE : Ext wc wr.drew := HEa.out.trans (Ext.refl wr).drew
        obtain ⟨nod, hnod⟩ : ∃ q, (bop o0).sh.node p = q := ⟨_, rfl⟩
        obtain ⟨gv, hgv⟩ : ∃ q, (bop o0).sh.gapV p a first = q := ⟨_, rfl⟩
        have hc : Calls Try.prog 14 #[.agg #[.int .u8 o.kind, .slice pA o.path.length pc, .int .i64 o.at_, .slice tA o.to.length tc, .int .u64 0, .bool o.leaf, .string o.label, .string o.key, .string o.value, .bool o.gone, .slice cA o.pcs.length cc], .slice qA p.length qc, .int .i64 a, .bool first] wr.drew (Ret wr.drew fun r w' => ∃ (A : Option Addr) (c : Nat), r = .tuple #[.slice A (nod.getD []).length c, .int .i64 gv, .bool nod.isSome] ∧ RdI w' (nod.getD []) (.slice A (nod.getD []).length c)) :=
         (gap_any (bop o0) _ _ p a first wr.drew (bop_rd (OpD.rd_ext XE HO0.out)) (RdS.ext XE HP.out) (by have := HOK.out.2.1; show o0.path.length ≤ 1000; omega) (by have := HOK.out.2.2; show o0.to.length ≤ 1000; omega) (by have := HPL.out; omega)).mono (fun e W h => by
          obtain ⟨r, h1, h2, h3⟩ := h
          have h4 := RdG.to h2
          rw [hnod, hgv] at h4
          exact ⟨r, h1, h4, h3⟩)
        have hgp : ∀ q, nod = some q → gv = if (bop o0).sh.moves then gapP (bop o0).sh p a first else a := fun q hq => by
         rw [← hgv, Sh.gapV, hnod, hq, gapAt_b _ (wr_b o0) p a first (by omega) (by have := HXL.out; omega)]
        have HGP := Lib.hid hgp
        have HBL := Lib.hid HBL0.out
        rw [hnod] at HBL
        have HC := Lib.hid hc
        clear hnod hgv hgp hc
        go_upto_region 16 with fail
        obtain ⟨wd, hwd⟩ : ∃ d, wr.drew = d := ⟨_, rfl⟩
        rw [hwd] at HC XE
        have HXE := Lib.hid XE
        refine wp_region_held_drew (S := fun W => NBox W (B + 1) 26 #[.int .u8 o.kind, .slice pA o.path.length pc, .int .i64 o.at_, .slice tA o.to.length tc, .int .u64 0, .bool o.leaf, .string o.label, .string o.key, .string o.value, .bool o.gone, .slice cA o.pcs.length cc] ∧ W.cell? ⟨pg, i, none⟩ = some (.slice qA p.length qc)) (by kernel_rfl) (by rw [hwd]; exact ⟨HB1.out.ext HXE.out, HXE.out.cell HCU.out⟩) (fun hHeld => ?_)
        rw [hwd] at hHeld ⊢
        clear hwd XE k5
        refine tk 0 ?_ rfl (.inl ⟨by rfl, ?_⟩) hHeld ?_
        rotate_left
        ·intro w hSw
         have fq := hSw.1
         obtain ⟨e0, e1, e2, e3, e4, e5, e6, e7, e8, e9, e10⟩ := fq.c11
         go_simp
         all_goals (first | with_reducible rfl | rw [if_pos (by omega)])
        try simp only [Act.put, aS]
        refine tk 1 ?_ rfl (.inl ⟨by rfl, ?_⟩) hHeld ?_
        rotate_left
        ·intro w hSw
         try dsimp only at hSw
         go_simp
         all_goals (first | with_reducible rfl | rw [if_pos (by omega)])
        try simp only [Act.put, aS]
        refine tk 2 ?_ rfl (.inl ⟨by rfl, ?_⟩) hHeld ?_
        rotate_left
        ·intro w hSw
         try dsimp only at hSw
         go_simp
         all_goals (first | with_reducible rfl | rw [if_pos (by omega)])
        try simp only [Act.put, aS]
        refine tk 3 ?_ rfl (.inl ⟨by rfl, ?_⟩) hHeld ?_
        rotate_left
        ·intro w hSw
         try dsimp only at hSw
         go_simp
         all_goals (first | with_reducible rfl | rw [if_pos (by omega)])
        try simp only [Act.put, aS]
        refine tk 4 ?_ rfl (.inl ⟨by rfl, ?_⟩) hHeld ?_
        rotate_left
        ·intro w hSw
         have fq := hSw.2
         go_simp
         all_goals (first | with_reducible rfl | rw [if_pos (by omega)])
        try simp only [Act.put, aS]
        refine tk 5 ?_ rfl (.inl ⟨by rfl, ?_⟩) hHeld ?_
        rotate_left
        ·intro w hSw
         try dsimp only at hSw
         go_simp
         all_goals (first | with_reducible rfl | rw [if_pos (by omega)])
        try simp only [Act.put, aS]
        refine tk 6 ?_ rfl (.inl ⟨by rfl, ?_⟩) hHeld ?_
        rotate_left
        ·intro w hSw
         try dsimp only at hSw
         go_simp
         all_goals (first | with_reducible rfl | rw [if_pos (by omega)])
        try simp only [Act.put, aS]
        refine wpAnyH_ready (rs := [7]) (by kernel_rfl) (by simp) ?_
        refine AllReadyH.cons (o := ⟨_, _, _, _, _, _⟩) rfl (fun K' hK => ?_) (AllReadyH.nil)
        go_simp
        go_at_call 14
        refine HC.out.mono ?_
        clear HC
        rintro e w4 ⟨r, rfl, ⟨gA, gc, rfl, hgr⟩, hE⟩
        have HE4 := Lib.hid (HXE.out.trans hE)
        refine hK.out _ _ (show _ ∧ _ from ⟨hHeld.1.ext hE, hE.cell hHeld.2⟩) (fun hHeld => ?_)
        clear hK K' hE HXE
        try simp only [Act.put, aS]
        refine tk 8 ?_ rfl (.inl ⟨by rfl, ?_⟩) hHeld ?_
        rotate_left
        ·intro w hSw
         try dsimp only at hSw
         go_simp
         all_goals (first | with_reducible rfl | rw [if_pos (by omega)])
        try simp only [Act.put, aS]
        refine tk 9 ?_ rfl (.inl ⟨by rfl, ?_⟩) hHeld ?_
        rotate_left
        ·intro w hSw
         try dsimp only at hSw
         go_simp
         all_goals (first | with_reducible rfl | rw [if_pos (by omega)])
        try simp only [Act.put, aS]
        refine tk 10 ?_ rfl (.inl ⟨by rfl, ?_⟩) hHeld ?_
        rotate_left
        ·intro w hSw
         try dsimp only at hSw
         go_simp
         all_goals (first | with_reducible rfl | rw [if_pos (by omega)])
        try simp only [Act.put, aS]
        refine tk 11 ?_ rfl (.inl ⟨by rfl, ?_⟩) hHeld ?_
        rotate_left
        ·intro w hSw
         try dsimp only at hSw
         go_simp
         all_goals (first | with_reducible rfl | rw [if_pos (by omega)])
        try simp only [Act.put, aS]
        refine tk 12 ?_ rfl (.inl ⟨by rfl, ?_⟩) hHeld ?_
        rotate_left
        ·intro w hSw
         try dsimp only at hSw
         go_simp
         all_goals (first | with_reducible rfl | rw [if_pos (by omega)])
        try simp only [Act.put, aS]
        refine tk 13 ?_ rfl (.inl ⟨by rfl, ?_⟩) hHeld ?_
        rotate_left
        ·intro w hSw
         try dsimp only at hSw
         go_simp
         all_goals (first | with_reducible rfl | rw [if_pos (by omega)])
        try simp only [Act.put, aS]
        refine tk 14 ?_ rfl (.inl ⟨by rfl, ?_⟩) hHeld ?_
        rotate_left
        ·intro w hSw
         try dsimp only at hSw
         go_simp
         all_goals (first | with_reducible rfl | rw [if_pos (by omega)])
        try simp only [Act.put, aS]
        refine wpAnyH_done (by kernel_rfl) ?_ _
        clear hHeld
        replace HB0 := Lib.hid (HB0.out.ext HE4.out)
        replace HB1 := Lib.hid (HB1.out.ext HE4.out)
        replace HBM := Lib.hid (HBM.out.ext HE4.out)
        replace HBX := Lib.hid (HBX.out.ext HE4.out)
        replace HCU := Lib.hid (HE4.out.cell HCU.out)
        replace HRn := Lib.hid (Nd.rd_ext HE4.out HRn.out)
        replace HRm := Lib.hid (Nd.rd_ext HE4.out HRm.out)
        replace HRX := Lib.hid (Nd.rd_ext HE4.out HRX.out)
        replace HO0 := Lib.hid (OpD.rd_ext HE4.out HO0.out)
        replace HP := Lib.hid (RdS.ext HE4.out HP.out)
        cases nod with
        | none =>
         have d6 : decide (x.id ∈ m.ids) = false := decide_eq_false (HBL.out.1 rfl)
         have hc := has_any m (.agg #[.int .u64 m.id, .bool m.leaf, .string m.label, .slice mA m.attrs.length mc, .string m.text, .slice mK m.kids.length md]) x.id w4 HRm.out HMC.out
         rw [d6] at hc
         obtain ⟨m0, m1, m2, m3, m4, m5⟩ := HBM.out.c6
         have x0 := HBX.out.cell 0
         clear hgr d6
         go_wp2_with fail
         refine hc.mono ?_
         clear hc m0 m1 m2 m3 m4 m5 x0
         rintro e w5 ⟨r, rfl, rfl, hE⟩
         go_wp2_with fail
         go_roundw
         case rel => exact ⟨a + 1, by go_num, by omega, Lib.hid (HE4.out.trans hE)⟩
         case measure => simp [intOf]; omega
        | some q =>
         have HGV := Lib.hid (HGP.out q rfl).symm
         clear HGP
         obtain ⟨y, hy, hyid, hlaw⟩ := HBL.out.2 q rfl
         have hlaw2 := hlaw a (by omega) (by unfold kidIds; rw [List.length_map]; omega)
         rw [HGV.out] at hlaw2
         have HLAW := Lib.hid hlaw2
         have HYI := Lib.hid hyid
         have HY := Lib.hid hy
         clear hy hyid hlaw hlaw2
         replace hgr : RdI w4 q (.slice gA q.length gc) := hgr
         have HGR := Lib.hid hgr
         clear hgr
         obtain ⟨m0, m1, m2, m3, m4, m5⟩ := HBM.out.c6
         have hc := rat_old m (.agg #[.int .u64 m.id, .bool m.leaf, .string m.label, .slice mA m.attrs.length mc, .string m.text, .slice mK m.kids.length md]) q (.slice gA q.length gc) w4 w4 (Sub.refl w4) HRm.out HGR.out
         rw [HY.out] at hc
         go_upto_region 20 with fail
         go_wp2_with fail
         refine hc.mono ?_
         clear hc m0 m1 m2 m3 m4 m5
         rintro e w5 ⟨r, rfl, ⟨v9, rfl, hv⟩, hE⟩
         replace hv : y.rd w4 v9 := hv
         obtain ⟨yA, yc, yK, yd, rfl⟩ := rd_open6 hv
         replace hv := Nd.rd_ext hE hv
         obtain ⟨wa, hwa⟩ : ∃ q, w5.alloc (.cells #[.int .u64 0, .bool false, .string ⟨#[]⟩, .slice none 0 0, .string ⟨#[]⟩, .slice none 0 0] 42) = q := ⟨_, rfl⟩
         obtain ⟨Q, hQ⟩ : ∃ q, w5.heap.size = q := ⟨_, rfl⟩
         have XA : Ext w5 wa := by rw [← hwa]; exact (Ext.refl _).alloc _
         have bM : NBox wa Q 42 #[.int .u64 0, .bool false, .string ⟨#[]⟩, .slice none 0 0, .string ⟨#[]⟩, .slice none 0 0] := by rw [← hwa, ← hQ]; exact NBox.new _ _ _
         have F8 := Fr.six wa Q (.int .u64 y.id) (.bool y.leaf) (.string y.label) (.slice yA y.attrs.length yc) (.string y.text) (.slice yK y.kids.length yd)
         have b6 := NBox.six bM (.int .u64 y.id) (.bool y.leaf) (.string y.label) (.slice yA y.attrs.length yc) (.string y.text) (.slice yK y.kids.length yd)
         obtain ⟨w6, hwn⟩ : ∃ q, World.setCell (World.setCell (World.setCell (World.setCell (World.setCell (World.setCell (wa) ⟨Q, 0, none⟩ (.int .u64 y.id)) ⟨Q, 1, none⟩ (.bool y.leaf)) ⟨Q, 2, none⟩ (.string y.label)) ⟨Q, 3, none⟩ (.slice yA y.attrs.length yc)) ⟨Q, 4, none⟩ (.string y.text)) ⟨Q, 5, none⟩ (.slice yK y.kids.length yd) = q := ⟨_, rfl⟩
         rw [hwn] at F8 b6
         have X8 : Ext w4 w6 := hE.trans (Fr.ext XA F8 (fun q hq => by rw [show q = Q from hq, hQ]; exact Nat.le_refl _))
         have X9 : Ext w5 w6 := Fr.ext XA F8 (fun q hq => by rw [show q = Q from hq, hQ]; exact Nat.le_refl _)
         obtain ⟨y0, y1, y2, y3, y4, y5⟩ := bM.c6
         obtain ⟨z0, z1, z2, z3, z4, z5⟩ := bM.f6
         have HWA := Lib.hid hwa
         have HQQ := Lib.hid hQ
         have HWN := Lib.hid hwn
         have HBY := Lib.hid b6
         have HRY := Lib.hid (Nd.rd_ext X9 hv)
         have HE6 := Lib.hid (HE4.out.trans X8)
         replace HB0 := Lib.hid (HB0.out.ext X8)
         replace HB1 := Lib.hid (HB1.out.ext X8)
         replace HBX := Lib.hid (HBX.out.ext X8)
         replace HCU := Lib.hid (X8.cell HCU.out)
         replace HRn := Lib.hid (Nd.rd_ext X8 HRn.out)
         replace HRX := Lib.hid (Nd.rd_ext X8 HRX.out)
         replace HO0 := Lib.hid (OpD.rd_ext X8 HO0.out)
         replace HP := Lib.hid (RdS.ext X8 HP.out)
         have d6 : (y.id != x.id) = false := by rw [bne_eq_false_iff_eq]; exact HYI.out
         have d7 : decide (gv < 0) = false := decide_eq_false (by have := HLAW.out.low; omega)
         have d8 : decide ((y.kids.length : Int) < gv) = false := decide_eq_false (by have := HLAW.out.top; unfold kidIds at this; rw [List.length_map] at this; omega)
         clear hwa hQ hwn XA bM F8 X8 X9 b6 hE hv HGR HYI HBL HGV
         go_upto_region 21 with (rw [HWA.out, HQQ.out]; clear HWA)
         rw [HWN.out]
         clear HWN HQQ y0 y1 y2 y3 y4 y5 z0 z1 z2 z3 z4 z5
         obtain ⟨wd, hwd⟩ : ∃ d, w6.drew = d := ⟨_, rfl⟩
         have HEQ := Lib.hid (show Ext w6 wd from by rw [← hwd]; exact (Ext.refl w6).drew)
         refine wp_region_held_drew (S := fun W => NBox W B 42 #[.int .u64 n.id, .bool n.leaf, .string n.label, .slice nA n.attrs.length nc, .string n.text, .slice nK n.kids.length nd] ∧ NBox W (B + 1) 26 #[.int .u8 o.kind, .slice pA o.path.length pc, .int .i64 o.at_, .slice tA o.to.length tc, .int .u64 0, .bool o.leaf, .string o.label, .string o.key, .string o.value, .bool o.gone, .slice cA o.pcs.length cc] ∧ NBox W P2 42 #[.int .u64 x.id, .bool x.leaf, .string x.label, .slice xA x.attrs.length xc, .string x.text, .slice xK x.kids.length xd] ∧ NBox W Q 42 #[.int .u64 y.id, .bool y.leaf, .string y.label, .slice yA y.attrs.length yc, .string y.text, .slice yK y.kids.length yd] ∧ W.cell? ⟨pg, i, none⟩ = some (.slice qA p.length qc)) (by kernel_rfl) (by rw [hwd]; exact ⟨HB0.out.ext HEQ.out, HB1.out.ext HEQ.out, HBX.out.ext HEQ.out, HBY.out.ext HEQ.out, HEQ.out.cell HCU.out⟩) (fun hHeld => ?_)
         rw [hwd] at hHeld ⊢
         clear hwd
         refine tk 0 ?_ rfl (.inl ⟨by rfl, ?_⟩) hHeld ?_
         rotate_left
         ·intro w hSw
          try dsimp only at hSw
          go_simp
          all_goals (first | with_reducible rfl | rw [if_pos (by omega)])
         try simp only [Act.put, aS]
         refine tk 1 ?_ rfl (.inl ⟨by rfl, ?_⟩) hHeld ?_
         rotate_left
         ·intro w hSw
          try dsimp only at hSw
          go_simp
          all_goals (first | with_reducible rfl | rw [if_pos (by omega)])
         try simp only [Act.put, aS]
         refine tk 2 ?_ rfl (.inl ⟨by rfl, ?_⟩) hHeld ?_
         rotate_left
         ·intro w hSw
          try dsimp only at hSw
          go_simp
          all_goals (first | with_reducible rfl | rw [if_pos (by omega)])
         try simp only [Act.put, aS]
         refine tk 3 ?_ rfl (.inl ⟨by rfl, ?_⟩) hHeld ?_
         rotate_left
         ·intro w hSw
          try dsimp only at hSw
          go_simp
          all_goals (first | with_reducible rfl | rw [if_pos (by omega)])
         try simp only [Act.put, aS]
         refine tk 4 ?_ rfl (.inl ⟨by rfl, ?_⟩) hHeld ?_
         rotate_left
         ·intro w hSw
          have fq := hSw.2.2.2.1
          obtain ⟨e0, e1, e2, e3, e4, e5⟩ := fq.c6
          go_simp
          all_goals (first | with_reducible rfl | rw [if_pos (by omega)])
         try simp only [Act.put, aS]
         refine tk 5 ?_ rfl (.inl ⟨by rfl, ?_⟩) hHeld ?_
         rotate_left
         ·intro w hSw
          try dsimp only at hSw
          go_simp
          all_goals (first | with_reducible rfl | rw [if_pos (by omega)])
         try simp only [Act.put, aS]
         refine tk 6 ?_ rfl (.inl ⟨by rfl, ?_⟩) hHeld ?_
         rotate_left
         ·intro w hSw
          have fq := hSw.2.2.1
          obtain ⟨e0, e1, e2, e3, e4, e5⟩ := fq.c6
          go_simp
          all_goals (first | with_reducible rfl | rw [if_pos (by omega)])
         try simp only [Act.put, aS]
         refine tk 7 ?_ rfl (.inl ⟨by rfl, ?_⟩) hHeld ?_
         rotate_left
         ·intro w hSw
          try dsimp only at hSw
          go_simp
          all_goals (first | with_reducible rfl | rw [if_pos (by omega)])
         try simp only [Act.put, aS]
         refine tk 8 ?_ rfl (.inl ⟨by rfl, ?_⟩) hHeld ?_
         rotate_left
         ·intro w hSw
          try dsimp only at hSw
          go_simp
          all_goals (first | with_reducible rfl | rw [if_pos (by omega)])
         try simp only [Act.put, aS]
         refine tk 9 ?_ rfl (.inl ⟨by rfl, ?_⟩) hHeld ?_
         rotate_left
         ·intro w hSw
          try dsimp only at hSw
          go_simp
          all_goals (first | with_reducible rfl | rw [if_pos (by omega)])
         try simp only [Act.put, aS]
         refine tk 10 ?_ rfl (.inl ⟨by rfl, ?_⟩) hHeld ?_
         rotate_left
         ·intro w hSw
          try dsimp only at hSw
          go_simp
          all_goals (first | with_reducible rfl | rw [if_pos (by omega)])
         try simp only [Act.put, aS]
         refine tk 11 ?_ rfl (.inl ⟨by rfl, ?_⟩) hHeld ?_
         rotate_left
         ·intro w hSw
          try dsimp only at hSw
          go_simp
          all_goals (first | with_reducible rfl | rw [if_pos (by omega)])
         try simp only [Act.put, aS]
         refine tk 12 ?_ rfl (.inl ⟨by rfl, ?_⟩) hHeld ?_
         rotate_left
         ·intro w hSw
          try dsimp only at hSw
          go_simp
          all_goals (first | with_reducible rfl | rw [if_pos (by omega)])
         try simp only [Act.put, aS]
         refine tk 13 ?_ rfl (.inl ⟨by rfl, ?_⟩) hHeld ?_
         rotate_left
         ·intro w hSw
          try dsimp only at hSw
          go_simp
          all_goals (first | with_reducible rfl | rw [if_pos (by omega)])
         try simp only [Act.put, aS]
         refine tk 14 ?_ rfl (.inl ⟨by rfl, ?_⟩) hHeld ?_
         rotate_left
         ·intro w hSw
          try dsimp only at hSw
          go_simp
          all_goals (first | with_reducible rfl | rw [if_pos (by omega)])
         try simp only [Act.put, aS]
         refine tk 15 ?_ rfl (.inl ⟨by rfl, ?_⟩) hHeld ?_
         rotate_left
         ·intro w hSw
          try dsimp only at hSw
          go_simp
          all_goals (first | with_reducible rfl | rw [if_pos (by omega)])
         try simp only [Act.put, aS]
         refine tk 16 ?_ rfl (.inl ⟨by rfl, ?_⟩) hHeld ?_
         rotate_left
         ·intro w hSw
          have fq := hSw.2.2.2.1
          obtain ⟨e0, e1, e2, e3, e4, e5⟩ := fq.c6
          go_simp
          all_goals (first | with_reducible rfl | rw [if_pos (by omega)])
         try simp only [Act.put, aS]
         refine tk 17 ?_ rfl (.inl ⟨by rfl, ?_⟩) hHeld ?_
         rotate_left
         ·intro w hSw
          try dsimp only at hSw
          go_simp
          all_goals (first | with_reducible rfl | rw [if_pos (by omega)])
         try simp only [Act.put, aS]
         refine tk 18 ?_ rfl (.inl ⟨by rfl, ?_⟩) hHeld ?_
         rotate_left
         ·intro w hSw
          try dsimp only at hSw
          go_simp
          all_goals (first | with_reducible rfl | rw [if_pos (by omega)])
         try simp only [Act.put, aS]
         refine tk 19 ?_ rfl (.inl ⟨by rfl, ?_⟩) hHeld ?_
         rotate_left
         ·intro w hSw
          try dsimp only at hSw
          go_simp
          all_goals (first | with_reducible rfl | rw [if_pos (by omega)])
         try simp only [Act.put, aS]
         refine tk 20 ?_ rfl (.inl ⟨by rfl, ?_⟩) hHeld ?_
         rotate_left
         ·intro w hSw
          try dsimp only at hSw
          go_simp
          all_goals (first | with_reducible rfl | rw [if_pos (by omega)])
         try simp only [Act.put, aS]
         refine tk 21 ?_ rfl (.inl ⟨by rfl, ?_⟩) hHeld ?_
         rotate_left
         ·intro w hSw
          have fq := hSw.2.2.1
          obtain ⟨e0, e1, e2, e3, e4, e5⟩ := fq.c6
          go_simp
          all_goals (first | with_reducible rfl | rw [if_pos (by omega)])
         try simp only [Act.put, aS]
         refine tk 22 ?_ rfl (.inl ⟨by rfl, ?_⟩) hHeld ?_
         rotate_left
         ·intro w hSw
          have fq := hSw.2.2.2.1
          obtain ⟨e0, e1, e2, e3, e4, e5⟩ := fq.c6
          go_simp
          all_goals (first | with_reducible rfl | rw [if_pos (by omega)])
         try simp only [Act.put, aS]
         refine tk 23 ?_ rfl (.inl ⟨by rfl, ?_⟩) hHeld ?_
         rotate_left
         ·intro w hSw
          try dsimp only at hSw
          go_simp
          all_goals (first | with_reducible rfl | rw [if_pos (by omega)])
         try simp only [Act.put, aS]
         refine tk 24 ?_ rfl (.inl ⟨by rfl, ?_⟩) hHeld ?_
         rotate_left
         ·intro w hSw
          try dsimp only at hSw
          go_simp
          all_goals (first | with_reducible rfl | rw [if_pos (by omega)])
         try simp only [Act.put, aS]
         refine tk 25 ?_ rfl (.inl ⟨by rfl, ?_⟩) hHeld ?_
         rotate_left
         ·intro w hSw
          have fq := hSw.1
          obtain ⟨e0, e1, e2, e3, e4, e5⟩ := fq.c6
          go_simp
          all_goals (first | with_reducible rfl | rw [if_pos (by omega)])
         try simp only [Act.put, aS]
         refine tk 26 ?_ rfl (.inl ⟨by rfl, ?_⟩) hHeld ?_
         rotate_left
         ·intro w hSw
          have fq := hSw.2.1
          obtain ⟨e0, e1, e2, e3, e4, e5, e6, e7, e8, e9, e10⟩ := fq.c11
          go_simp
          all_goals (first | with_reducible rfl | rw [if_pos (by omega)])
         try simp only [Act.put, aS]
         refine wpAnyH_ready (rs := [27]) (by kernel_rfl) (by simp) ?_
         refine AllReadyH.cons (o := ⟨_, _, _, _, _, _⟩) rfl (fun K' hK => ?_) (AllReadyH.nil)
         have hc := moved_any n o0 (.agg #[.int .u64 n.id, .bool n.leaf, .string n.label, .slice nA n.attrs.length nc, .string n.text, .slice nK n.kids.length nd]) (.agg #[.int .u8 o.kind, .slice pA o.path.length pc, .int .i64 o.at_, .slice tA o.to.length tc, .int .u64 0, .bool o.leaf, .string o.label, .string o.key, .string o.value, .bool o.gone, .slice cA o.pcs.length cc]) wd (Nd.rd_ext HEQ.out HRn.out) (OpD.rd_ext HEQ.out HO0.out)
         go_simp
         go_at_call 25
         refine hc.mono ?_
         clear hc
         rintro e v1 ⟨r, rfl, rfl, hE⟩
         replace HEQ := Lib.hid (HEQ.out.trans hE)
         refine hK.out _ _ (show _ ∧ _ ∧ _ ∧ _ ∧ _ from ⟨hHeld.1.ext hE, hHeld.2.1.ext hE, hHeld.2.2.1.ext hE, hHeld.2.2.2.1.ext hE, hE.cell hHeld.2.2.2.2⟩) (fun hHeld => ?_)
         clear hK K' hE
         try simp only [Act.put, aS]
         refine wpAnyH_ready (rs := [28]) (by kernel_rfl) (by simp) ?_
         refine AllReadyH.cons (o := ⟨_, _, _, _, _, _⟩) rfl (fun K' hK => ?_) (AllReadyH.nil)
         have hc := lies_any x y (.agg #[.int .u64 x.id, .bool x.leaf, .string x.label, .slice xA x.attrs.length xc, .string x.text, .slice xK x.kids.length xd]) (.agg #[.int .u64 y.id, .bool y.leaf, .string y.label, .slice yA y.attrs.length yc, .string y.text, .slice yK y.kids.length yd]) a gv (movedI n o0) v1 (Nd.rd_ext HEQ.out HRX.out) (Nd.rd_ext HEQ.out HRY.out) HLAW.out.lies
         go_simp
         go_at_call 24
         refine hc.mono ?_
         clear hc
         rintro e v2 ⟨r, rfl, rfl, hE⟩
         replace HEQ := Lib.hid (HEQ.out.trans hE)
         refine hK.out _ _ (show _ ∧ _ ∧ _ ∧ _ ∧ _ from ⟨hHeld.1.ext hE, hHeld.2.1.ext hE, hHeld.2.2.1.ext hE, hHeld.2.2.2.1.ext hE, hE.cell hHeld.2.2.2.2⟩) (fun hHeld => ?_)
         clear hK K' hE
         try simp only [Act.put, aS]
         refine tk 29 ?_ rfl (.inl ⟨by rfl, ?_⟩) hHeld ?_
         rotate_left
         ·intro w hSw
          try dsimp only at hSw
          go_simp
          all_goals (first | with_reducible rfl | rw [if_pos (by omega)])
         try simp only [Act.put, aS]
         refine tk 30 ?_ rfl (.inl ⟨by rfl, ?_⟩) hHeld ?_
         rotate_left
         ·intro w hSw
          try dsimp only at hSw
          go_simp
          all_goals (first | with_reducible rfl | rw [if_pos (by omega)])
         try simp only [Act.put, aS]
         refine tk 31 ?_ rfl (.inl ⟨by rfl, ?_⟩) hHeld ?_
         rotate_left
         ·intro w hSw
          try dsimp only at hSw
          go_simp
          all_goals (first | with_reducible rfl | rw [if_pos (by omega)])
         try simp only [Act.put, aS]
         refine tk 32 ?_ rfl (.inl ⟨by rfl, ?_⟩) hHeld ?_
         rotate_left
         ·intro w hSw
          have fq := hSw.1
          obtain ⟨e0, e1, e2, e3, e4, e5⟩ := fq.c6
          go_simp
          all_goals (first | with_reducible rfl | rw [if_pos (by omega)])
         try simp only [Act.put, aS]
         refine tk 33 ?_ rfl (.inl ⟨by rfl, ?_⟩) hHeld ?_
         rotate_left
         ·intro w hSw
          have fq := hSw.2.1
          obtain ⟨e0, e1, e2, e3, e4, e5, e6, e7, e8, e9, e10⟩ := fq.c11
          go_simp
          all_goals (first | with_reducible rfl | rw [if_pos (by omega)])
         try simp only [Act.put, aS]
         refine tk 34 ?_ rfl (.inl ⟨by rfl, ?_⟩) hHeld ?_
         rotate_left
         ·intro w hSw
          try dsimp only at hSw
          go_simp
          all_goals (first | with_reducible rfl | rw [if_pos (by omega)])
         try simp only [Act.put, aS]
         refine tk 35 ?_ rfl (.inl ⟨by rfl, ?_⟩) hHeld ?_
         rotate_left
         ·intro w hSw
          try dsimp only at hSw
          go_simp
          all_goals (first | with_reducible rfl | rw [if_pos (by omega)])
         try simp only [Act.put, aS]
         refine tk 36 ?_ rfl (.inl ⟨by rfl, ?_⟩) hHeld ?_
         rotate_left
         ·intro w hSw
          try dsimp only at hSw
          go_simp
          all_goals (first | with_reducible rfl | rw [if_pos (by omega)])
         try simp only [Act.put, aS]
         refine tk 37 ?_ rfl (.inl ⟨by rfl, ?_⟩) hHeld ?_
         rotate_left
         ·intro w hSw
          have fq := hSw.2.2.2.2
          go_simp
          all_goals (first | with_reducible rfl | rw [if_pos (by omega)])
         try simp only [Act.put, aS]
         refine tk 38 ?_ rfl (.inl ⟨by rfl, ?_⟩) hHeld ?_
         rotate_left
         ·intro w hSw
          have fq := hSw.2.2.2.1
          obtain ⟨e0, e1, e2, e3, e4, e5⟩ := fq.c6
          go_simp
          all_goals (first | with_reducible rfl | rw [if_pos (by omega)])
         try simp only [Act.put, aS]
         refine tk 39 ?_ rfl (.inl ⟨by rfl, ?_⟩) hHeld ?_
         rotate_left
         ·intro w hSw
          try dsimp only at hSw
          go_simp
          all_goals (first | with_reducible rfl | rw [if_pos (by omega)])
         try simp only [Act.put, aS]
         refine tk 40 ?_ rfl (.inl ⟨by rfl, ?_⟩) hHeld ?_
         rotate_left
         ·intro w hSw
          try dsimp only at hSw
          go_simp
          all_goals (first | with_reducible rfl | rw [if_pos (by omega)])
         try simp only [Act.put, aS]
         refine tk 41 ?_ rfl (.inl ⟨by rfl, ?_⟩) hHeld ?_
         rotate_left
         ·intro w hSw
          try dsimp only at hSw
          go_simp
          all_goals (first | with_reducible rfl | rw [if_pos (by omega)])
         try simp only [Act.put, aS]
         refine wpAnyH_ready (rs := [42]) (by kernel_rfl) (by simp) ?_
         refine AllReadyH.cons (o := ⟨_, _, _, _, _, _⟩) rfl (fun K' hK => ?_) (AllReadyH.nil)
         have hc := tie_any n o0 p y (.agg #[.int .u64 n.id, .bool n.leaf, .string n.label, .slice nA n.attrs.length nc, .string n.text, .slice nK n.kids.length nd]) (.agg #[.int .u8 o.kind, .slice pA o.path.length pc, .int .i64 o.at_, .slice tA o.to.length tc, .int .u64 0, .bool o.leaf, .string o.label, .string o.key, .string o.value, .bool o.gone, .slice cA o.pcs.length cc]) (.slice qA p.length qc) (.agg #[.int .u64 y.id, .bool y.leaf, .string y.label, .slice yA y.attrs.length yc, .string y.text, .slice yK y.kids.length yd]) a gv first v2 (Nd.rd_ext HEQ.out HRn.out) (OpD.rd_ext HEQ.out HO0.out) (RdS.ext HEQ.out HP.out) (Nd.rd_ext HEQ.out HRY.out) HLAW.out.tie
         go_simp
         go_at_call 26
         refine hc.mono ?_
         clear hc
         rintro e v3 ⟨r, rfl, rfl, hE⟩
         replace HEQ := Lib.hid (HEQ.out.trans hE)
         refine hK.out _ _ (show _ ∧ _ ∧ _ ∧ _ ∧ _ from ⟨hHeld.1.ext hE, hHeld.2.1.ext hE, hHeld.2.2.1.ext hE, hHeld.2.2.2.1.ext hE, hE.cell hHeld.2.2.2.2⟩) (fun hHeld => ?_)
         clear hK K' hE
         try simp only [Act.put, aS]
         refine tk 43 ?_ rfl (.inl ⟨by rfl, ?_⟩) hHeld ?_
         rotate_left
         ·intro w hSw
          try dsimp only at hSw
          go_simp
          all_goals (first | with_reducible rfl | rw [if_pos (by omega)])
         try simp only [Act.put, aS]
         refine tk 44 ?_ rfl (.inl ⟨by rfl, ?_⟩) hHeld ?_
         rotate_left
         ·intro w hSw
          try dsimp only at hSw
          go_simp
          all_goals (first | with_reducible rfl | rw [if_pos (by omega)])
         try simp only [Act.put, aS]
         refine wpAnyH_done (by kernel_rfl) ?_ _
         clear hHeld
         go_wp2_with fail
         go_roundw
         case rel => exact ⟨a + 1, by go_num, by omega, Lib.hid (HE6.out.trans HEQ.out)⟩
         case measure => simp [intOf]; omega
       ·obtain rfl : a = x.kids.length + 1 := by omega
        have d3 : decide (((x.kids.length + 1 : Nat) : Int) ≤ (x.kids.length : Int)) = false := decide_eq_false (by omega)
        go_wp2_with fail
        go_roundw
        case rel => exact ⟨i + 1, by go_num, by omega, Lib.hid (HE9.out.trans HEa.out)⟩
        case measure => simp [intOf]; omega
    ·obtain rfl : i = C := by omega
     have HE9 := Lib.hid (HE.out.trans HEr.out)
     go_wp2_with fail
     refine (works_any wr).mono ?_
     rintro e u ⟨r, rfl, rfl, hE⟩
     go_wp2_with fail
     go_ret
     exact ⟨_, rfl, rfl, HE9.out.trans hE⟩
  ·have d2 : (EE != 0) = true := by rw [bne_iff_ne, ← HEE.out, applyD, if_neg hv]; exact hv
   clear hv
   go_wp2_with fail
   refine (works_any w8).mono ?_
   rintro e u ⟨r, rfl, rfl, hE⟩
   go_wp2_with fail
   go_ret
   exact ⟨_, rfl, rfl, HE.out.trans hE⟩
end Go.Proofs.Ytdnjkffmgmbfmaa.Sy
