/- Chapter 24: the examples hold: works (7). (Printed by gouworks.py.) -/
import Derived.Test.YtofcbclokkjfjaaOuWFacts
import Derived.Test.YtofcbclokkjfjaaOuSame2
namespace Go.Proofs.Ytofcbclokkjfjaa.Wi
open Go.RowKit Go.Proofs.Ytofcbclokkjfjaa.Bw Go.Proofs.Ytofcbclokkjfjaa.Bs

theorem lit1 (w : World) (a : Int) : RdI (w.alloc (.cells #[.int .i64 a] 3)) [a] (.slice (some ⟨w.heap.size, 0, none⟩) 1 1) :=
  RdS.of_owns (base := 0) (e := 3) ⟨rfl, .inr ⟨w.heap.size, 1, _, rfl, Nat.zero_le _, NBox.new w 3 _, Nat.le_refl _, by simp [maxLen], rfl, rfl⟩⟩
theorem lit2 (w : World) (a b : Int) : RdI (w.alloc (.cells #[.int .i64 a, .int .i64 b] 3)) [a, b] (.slice (some ⟨w.heap.size, 0, none⟩) 2 2) :=
  RdS.of_owns (base := 0) (e := 3) ⟨rfl, .inr ⟨w.heap.size, 2, _, rfl, Nat.zero_le _, NBox.new w 3 _, Nat.le_refl _, by simp [maxLen], rfl, rfl⟩⟩
set_option maxRecDepth 100000 in
set_option maxHeartbeats 8000000 in
theorem works_any (w : World) : Calls Try.prog 7 #[] w (Ret w fun r _ => r = .bool true) := by
  obtain ⟨X, hX⟩ : ∃ X, w.heap.size = X := ⟨_, rfl⟩
  have s1 : (w.alloc (.cells #[.int .u64 0, .bool true, .string ⟨#[120]⟩, .slice none 0 0, .string ⟨#[104, 101, 108, 108, 111]⟩, .slice none 0 0] 26)).heap.size = X + 1 := by rw [World.size_alloc, hX]
  have s2 : ((w.alloc (.cells #[.int .u64 0, .bool true, .string ⟨#[120]⟩, .slice none 0 0, .string ⟨#[104, 101, 108, 108, 111]⟩, .slice none 0 0] 26)).alloc (.cells #[.int .u64 0, .bool false, .string ⟨#[97]⟩, .slice none 0 0, .string ⟨#[]⟩, .slice none 0 0, .int .u64 0, .bool false, .string ⟨#[98]⟩, .slice none 0 0, .string ⟨#[]⟩, .slice none 0 0, .int .u64 0, .bool false, .string ⟨#[99]⟩, .slice none 0 0, .string ⟨#[]⟩, .slice (some ⟨X, 0, none⟩) 1 1] 26)).heap.size = X + 1 + 1 := by rw [World.size_alloc, s1]
  obtain ⟨w1, hw1⟩ : ∃ W, ((w.alloc (.cells #[.int .u64 0, .bool true, .string ⟨#[120]⟩, .slice none 0 0, .string ⟨#[104, 101, 108, 108, 111]⟩, .slice none 0 0] 26)).alloc (.cells #[.int .u64 0, .bool false, .string ⟨#[97]⟩, .slice none 0 0, .string ⟨#[]⟩, .slice none 0 0, .int .u64 0, .bool false, .string ⟨#[98]⟩, .slice none 0 0, .string ⟨#[]⟩, .slice none 0 0, .int .u64 0, .bool false, .string ⟨#[99]⟩, .slice none 0 0, .string ⟨#[]⟩, .slice (some ⟨X, 0, none⟩) 1 1] 26)).alloc (.cells #[.int .u64 0, .bool false, .string ⟨#[114]⟩, .slice none 0 0, .string ⟨#[]⟩, .slice (some ⟨X + 1, 0, none⟩) 3 3] 26) = W := ⟨_, rfl⟩
  have HE := Lib.hid (show Ext w w1 from by rw [← hw1]; exact (((Ext.refl w).alloc _).alloc _).alloc _)
  have b0 : NBox w1 X 26 #[.int .u64 0, .bool true, .string ⟨#[120]⟩, .slice none 0 0, .string ⟨#[104, 101, 108, 108, 111]⟩, .slice none 0 0] := by rw [← hw1, ← hX]; exact (NBox.new w 26 _).ext (((Ext.refl _).alloc _).alloc _)
  have b1 : NBox w1 (X + 1) 26 #[.int .u64 0, .bool false, .string ⟨#[97]⟩, .slice none 0 0, .string ⟨#[]⟩, .slice none 0 0, .int .u64 0, .bool false, .string ⟨#[98]⟩, .slice none 0 0, .string ⟨#[]⟩, .slice none 0 0, .int .u64 0, .bool false, .string ⟨#[99]⟩, .slice none 0 0, .string ⟨#[]⟩, .slice (some ⟨X, 0, none⟩) 1 1] := by rw [← hw1, ← s1]; exact (NBox.new _ 26 _).ext ((Ext.refl _).alloc _)
  have HB := Lib.hid (show NBox w1 (X + 1 + 1) 26 #[.int .u64 0, .bool false, .string ⟨#[114]⟩, .slice none 0 0, .string ⟨#[]⟩, .slice (some ⟨X + 1, 0, none⟩) 3 3] from by rw [← hw1, ← s2]; exact NBox.new _ 26 _)
  have HT := Lib.hid (exN_rd b0 b1)
  have HW := Lib.hid hw1
  have HXX := Lib.hid hX
  clear hX s1 s2 hw1 b0 b1
  go_enter Try.func7, Try.ntmps7
  go_upto_region 2 with fail
  rw [HXX.out, HW.out]
  clear HXX HW
  have k0 := HB.out.cell 0
  have k1 := HB.out.cell 1
  have k2 := HB.out.cell 2
  have k3 := HB.out.cell 3
  have k4 := HB.out.cell 4
  have k5 := HB.out.cell 5
  have X1 : Ext w1 (w1.alloc (.cells #[.int .i64 1] 3)) := (Ext.refl w1).alloc _
  have hc := indent_any exN [1] _ _ (w1.alloc (.cells #[.int .i64 1] 3)) (Nd.rd_ext X1 HT.out) (lit1 w1 1) ex_wt (by decide)
  rw [ex1] at hc
  go_wp2_with fail
  refine hc.mono ?_
  clear hc k0 k1 k2 k3 k4 k5
  rintro e w2 ⟨hE, hP⟩
  have X0 : Ext w1 w2 := X1.trans hE
  obtain ⟨v, rfl, hv⟩ := hP
  have Ha := Lib.hid hv
  obtain ⟨g0, p0, pc0, q0, qc0, rfl, -⟩ := hv
  have HE' := Lib.hid (HE.out.trans X0)
  have HB' := Lib.hid (HB.out.ext X0)
  have HT' := Lib.hid (Nd.rd_ext X0 HT.out)
  clear X1 X0 hE
  clear HE
  have HE := HE'
  clear HE'
  clear HB
  have HB := HB'
  clear HB'
  clear HT
  have HT := HT'
  clear HT'
  have k0 := HB.out.cell 0
  have k1 := HB.out.cell 1
  have k2 := HB.out.cell 2
  have k3 := HB.out.cell 3
  have k4 := HB.out.cell 4
  have k5 := HB.out.cell 5
  have X1 : Ext w2 (w2.alloc (.cells #[.int .i64 2, .int .i64 0] 3)) := (Ext.refl w2).alloc _
  have hc := outdent_any exN [2, 0] _ _ (w2.alloc (.cells #[.int .i64 2, .int .i64 0] 3)) (Nd.rd_ext X1 HT.out) (lit2 w2 2 0) ex_wt (by decide)
  rw [ex2] at hc
  go_wp2_with fail
  refine hc.mono ?_
  clear hc k0 k1 k2 k3 k4 k5
  rintro e w3 ⟨hE, hP⟩
  have X0 : Ext w2 w3 := X1.trans hE
  obtain ⟨v, rfl, hv⟩ := hP
  have Hb := Lib.hid hv
  obtain ⟨g1, p1, pc1, q1, qc1, rfl, -⟩ := hv
  have HE' := Lib.hid (HE.out.trans X0)
  have HB' := Lib.hid (HB.out.ext X0)
  have HT' := Lib.hid (Nd.rd_ext X0 HT.out)
  have Ha' := Lib.hid (Ha.out.ext X0)
  clear X1 X0 hE
  clear HE
  have HE := HE'
  clear HE'
  clear HB
  have HB := HB'
  clear HB'
  clear HT
  have HT := HT'
  clear HT'
  clear Ha
  have Ha := Ha'
  clear Ha'
  have k0 := HB.out.cell 0
  have k1 := HB.out.cell 1
  have k2 := HB.out.cell 2
  have k3 := HB.out.cell 3
  have k4 := HB.out.cell 4
  have k5 := HB.out.cell 5
  have X1 : Ext w3 (w3.alloc (.cells #[.int .i64 1] 3)) := (Ext.refl w3).alloc _
  have hc := up_any exN [1] _ _ (w3.alloc (.cells #[.int .i64 1] 3)) (Nd.rd_ext X1 HT.out) (lit1 w3 1) ex_wt (by decide)
  rw [ex3] at hc
  go_wp2_with fail
  refine hc.mono ?_
  clear hc k0 k1 k2 k3 k4 k5
  rintro e w4 ⟨hE, hP⟩
  have X0 : Ext w3 w4 := X1.trans hE
  obtain ⟨v, rfl, hv⟩ := hP
  have Hc := Lib.hid hv
  obtain ⟨g2, p2, pc2, q2, qc2, rfl, -⟩ := hv
  have HE' := Lib.hid (HE.out.trans X0)
  have HB' := Lib.hid (HB.out.ext X0)
  have HT' := Lib.hid (Nd.rd_ext X0 HT.out)
  have Ha' := Lib.hid (Ha.out.ext X0)
  have Hb' := Lib.hid (Hb.out.ext X0)
  clear X1 X0 hE
  clear HE
  have HE := HE'
  clear HE'
  clear HB
  have HB := HB'
  clear HB'
  clear HT
  have HT := HT'
  clear HT'
  clear Ha
  have Ha := Ha'
  clear Ha'
  clear Hb
  have Hb := Hb'
  clear Hb'
  have k0 := HB.out.cell 0
  have k1 := HB.out.cell 1
  have k2 := HB.out.cell 2
  have k3 := HB.out.cell 3
  have k4 := HB.out.cell 4
  have k5 := HB.out.cell 5
  have X1 : Ext w4 (w4.alloc (.cells #[.int .i64 1] 3)) := (Ext.refl w4).alloc _
  have hc := down_any exN [1] _ _ (w4.alloc (.cells #[.int .i64 1] 3)) (Nd.rd_ext X1 HT.out) (lit1 w4 1) ex_wt (by decide)
  rw [ex4] at hc
  go_wp2_with fail
  refine hc.mono ?_
  clear hc k0 k1 k2 k3 k4 k5
  rintro e w5 ⟨hE, hP⟩
  have X0 : Ext w4 w5 := X1.trans hE
  obtain ⟨v, rfl, hv⟩ := hP
  have Hd := Lib.hid hv
  obtain ⟨g3, p3, pc3, q3, qc3, rfl, -⟩ := hv
  have HE' := Lib.hid (HE.out.trans X0)
  have HB' := Lib.hid (HB.out.ext X0)
  have HT' := Lib.hid (Nd.rd_ext X0 HT.out)
  have Ha' := Lib.hid (Ha.out.ext X0)
  have Hb' := Lib.hid (Hb.out.ext X0)
  have Hc' := Lib.hid (Hc.out.ext X0)
  clear X1 X0 hE
  clear HE
  have HE := HE'
  clear HE'
  clear HB
  have HB := HB'
  clear HB'
  clear HT
  have HT := HT'
  clear HT'
  clear Ha
  have Ha := Ha'
  clear Ha'
  clear Hb
  have Hb := Hb'
  clear Hb'
  clear Hc
  have Hc := Hc'
  clear Hc'
  have k0 := HB.out.cell 0
  have k1 := HB.out.cell 1
  have k2 := HB.out.cell 2
  have k3 := HB.out.cell 3
  have k4 := HB.out.cell 4
  have k5 := HB.out.cell 5
  have X1 : Ext w5 (w5.alloc (.cells #[.int .i64 2, .int .i64 0] 3)) := (Ext.refl w5).alloc _
  have hc := split19_any 2 9 exN [2, 0] _ _ (w5.alloc (.cells #[.int .i64 2, .int .i64 0] 3)) (Nd.rd_ext X1 HT.out) (lit2 w5 2 0) ex_wt (by decide) (by decide)
  rw [ex5] at hc
  go_wp2_with fail
  refine hc.mono ?_
  clear hc k0 k1 k2 k3 k4 k5
  rintro e w6 ⟨hE, hP⟩
  have X0 : Ext w5 w6 := X1.trans hE
  obtain ⟨v, rfl, hv⟩ := hP
  have Hs := Lib.hid hv.rd
  obtain ⟨A4, c4, rfl⟩ := hv.slice
  clear hv
  have HE' := Lib.hid (HE.out.trans X0)
  have HB' := Lib.hid (HB.out.ext X0)
  have HT' := Lib.hid (Nd.rd_ext X0 HT.out)
  have Ha' := Lib.hid (Ha.out.ext X0)
  have Hb' := Lib.hid (Hb.out.ext X0)
  have Hc' := Lib.hid (Hc.out.ext X0)
  have Hd' := Lib.hid (Hd.out.ext X0)
  clear X1 X0 hE
  clear HE
  have HE := HE'
  clear HE'
  clear HB
  have HB := HB'
  clear HB'
  clear HT
  have HT := HT'
  clear HT'
  clear Ha
  have Ha := Ha'
  clear Ha'
  clear Hb
  have Hb := Hb'
  clear Hb'
  clear Hc
  have Hc := Hc'
  clear Hc'
  clear Hd
  have Hd := Hd'
  clear Hd'
  have k0 := HB.out.cell 0
  have k1 := HB.out.cell 1
  have k2 := HB.out.cell 2
  have k3 := HB.out.cell 3
  have k4 := HB.out.cell 4
  have k5 := HB.out.cell 5
  have X1 : Ext w6 (w6.alloc (.cells #[.int .i64 0] 3)) := (Ext.refl w6).alloc _
  have hc := indent_any exN [0] _ _ (w6.alloc (.cells #[.int .i64 0] 3)) (Nd.rd_ext X1 HT.out) (lit1 w6 0) ex_wt (by decide)
  rw [ex6] at hc
  go_wp2_with fail
  refine hc.mono ?_
  clear hc k0 k1 k2 k3 k4 k5
  rintro e w7 ⟨hE, hP⟩
  have X0 : Ext w6 w7 := X1.trans hE
  subst hP
  have HE' := Lib.hid (HE.out.trans X0)
  have HB' := Lib.hid (HB.out.ext X0)
  have HT' := Lib.hid (Nd.rd_ext X0 HT.out)
  have Ha' := Lib.hid (Ha.out.ext X0)
  have Hb' := Lib.hid (Hb.out.ext X0)
  have Hc' := Lib.hid (Hc.out.ext X0)
  have Hd' := Lib.hid (Hd.out.ext X0)
  have Hs' := Lib.hid (RdL.ext X0 Hs.out)
  clear X1 X0 hE
  clear HE
  have HE := HE'
  clear HE'
  clear HB
  have HB := HB'
  clear HB'
  clear HT
  have HT := HT'
  clear HT'
  clear Ha
  have Ha := Ha'
  clear Ha'
  clear Hb
  have Hb := Hb'
  clear Hb'
  clear Hc
  have Hc := Hc'
  clear Hc'
  clear Hd
  have Hd := Hd'
  clear Hd'
  clear Hs
  have Hs := Hs'
  clear Hs'
  obtain ⟨As, cs, he, -, -, hrow⟩ := Hs.out
  simp only [Value.slice.injEq] at he
  obtain ⟨rfl, -, rfl⟩ := he
  obtain ⟨sb, so, rfl, hr⟩ := hrow (show 0 < 3 by decide)
  obtain ⟨⟨pv1, tv1, cv1, x0, x1, x2, x3, x4, x5, x6, x7, x8, x9, x10, hr1⟩, ⟨pv2, tv2, cv2, y0, y1, y2, y3, y4, y5, y6, y7, y8, y9, y10, hr2⟩, ⟨pv3, tv3, cv3, z0, z1, z2, z3, z4, z5, z6, z7, z8, z9, z10, hr3⟩, -⟩ := hr
  obtain ⟨_, _, _, he, -, -, ⟨C1, dd1, hc1, -, -, hp1⟩, -⟩ := hr1
  simp only [Value.agg.injEq, Array.mk.injEq, List.cons.injEq, and_true, true_and] at he
  obtain ⟨rfl, rfl, rfl⟩ := he
  subst hc1
  obtain ⟨pb1, po1, rfl, u0, u1, u2, -⟩ := hp1 (show 0 < 1 by decide)
  obtain ⟨_, _, _, he, -, -, ⟨C3, dd3, hc3, -, -, hp3⟩, -⟩ := hr3
  simp only [Value.agg.injEq, Array.mk.injEq, List.cons.injEq, and_true, true_and] at he
  obtain ⟨rfl, rfl, rfl⟩ := he
  subst hc3
  obtain ⟨pb3, po3, rfl, v0, v1, v2, -⟩ := hp3 (show 0 < 1 by decide)
  clear hr2 hrow Hs x0 x1 x2 x3 x4 x5 x6 x7 x8 x9 y0 y1 y2 y3 y4 y6 y7 y8 y9 y10 z0 z1 z2 z3 z4 z5 z6 z7 z8 z9
  go_upto_region 10 with fail
  obtain ⟨ga, pa, pca, ta, tca, he, -, hba, -, hta⟩ := Ha.out
  simp only [Value.slice.injEq, Option.some.injEq, Addr.mk.injEq, and_true] at he
  subst he
  have a2 := hba.cell 2
  have a3 := hba.cell 3
  obtain ⟨gb, pb, pcb, tb, tcb, he, -, hbb, -, htb⟩ := Hb.out
  simp only [Value.slice.injEq, Option.some.injEq, Addr.mk.injEq, and_true] at he
  subst he
  have b2 := hbb.cell 2
  have b3 := hbb.cell 3
  obtain ⟨gc, pc, pcc, tc, tcc, he, -, hbc, -, htc⟩ := Hc.out
  simp only [Value.slice.injEq, Option.some.injEq, Addr.mk.injEq, and_true] at he
  subst he
  have c2 := hbc.cell 2
  have c3 := hbc.cell 3
  obtain ⟨gd, pd, pcd, td, tcd, he, -, hbd, -, htd⟩ := Hd.out
  simp only [Value.slice.injEq, Option.some.injEq, Addr.mk.injEq, and_true] at he
  subst he
  have d2 := hbd.cell 2
  have d3 := hbd.cell 3
  have X1 : Ext w7 (w7.alloc (.cells #[.int .i64 0] 3)) := (Ext.refl _).alloc _
  have hq := sameInts_any [0] [0] _ _ _ (RdS.ext X1 (RdS.of_owns hta)) (lit1 w7 0)
  rw [decide_eq_true rfl] at hq
  have Hx10 := Lib.hid x10
  have Hy5 := Lib.hid y5
  have Hz10 := Lib.hid z10
  have Hu0 := Lib.hid u0
  have Hu1 := Lib.hid u1
  have Hu2 := Lib.hid u2
  have Hv0 := Lib.hid v0
  have Hv1 := Lib.hid v1
  have Hv2 := Lib.hid v2
  have Hb2 := Lib.hid b2
  have Hb3 := Lib.hid b3
  have Hc2 := Lib.hid c2
  have Hd2 := Lib.hid d2
  clear hta htb htc htd hba hbb hbc hbd Ha Hb Hc Hd x10 y5 z10 u0 u1 u2 v0 v1 v2 b2 b3 c2 d2 a2
  go_wp2_with fail
  refine hq.mono ?_
  clear hq a3
  rintro e w8 ⟨r, rfl, rfl, hE⟩
  have X2 := X1.trans hE
  have x10 := X2.cell Hx10.out
  have y5 := X2.cell Hy5.out
  have z10 := X2.cell Hz10.out
  have u0 := X2.cell Hu0.out
  have u1 := X2.cell Hu1.out
  have u2 := X2.cell Hu2.out
  have v0 := X2.cell Hv0.out
  have v1 := X2.cell Hv1.out
  have v2 := X2.cell Hv2.out
  have b2 := X2.cell Hb2.out
  have b3 := X2.cell Hb3.out
  have c2 := X2.cell Hc2.out
  have d2 := X2.cell Hd2.out
  have HX := Lib.hid (HE.out.trans X2)
  clear X1 X2 hE
  go_wp2_with fail
  go_ret
  exact ⟨_, rfl, rfl, HX.out⟩
end Go.Proofs.Ytofcbclokkjfjaa.Wi
