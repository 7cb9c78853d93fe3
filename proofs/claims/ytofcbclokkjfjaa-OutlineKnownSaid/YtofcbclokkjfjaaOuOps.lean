/- Chapter 24: the examples hold: works (7). (Printed by gouworks.py.) -/
import Derived.Test.YtofcbclokkjfjaaOuWFacts
import Derived.Test.YtofcbclokkjfjaaOuSame2
import Derived.Test.YtofcbclokkjfjaaOuNodes
namespace Go.Proofs.Ytofcbclokkjfjaa.Wi
open Go.RowKit Go.Proofs.Ytofcbclokkjfjaa.Bw Go.Proofs.Ytofcbclokkjfjaa.Bs

theorem lit1 (w : World) (a : Int) : RdI (w.alloc (.cells #[.int .i64 a] 3)) [a] (.slice (some ⟨w.heap.size, 0, none⟩) 1 1) :=
 RdS.of_owns (base := 0) (e := 3) ⟨rfl, .inr ⟨w.heap.size, 1, _, rfl, Nat.zero_le _, NBox.new w 3 _, Nat.le_refl _, by simp [maxLen], rfl, rfl⟩⟩
theorem lit2 (w : World) (a b : Int) : RdI (w.alloc (.cells #[.int .i64 a, .int .i64 b] 3)) [a, b] (.slice (some ⟨w.heap.size, 0, none⟩) 2 2) :=
 RdS.of_owns (base := 0) (e := 3) ⟨rfl, .inr ⟨w.heap.size, 2, _, rfl, Nat.zero_le _, NBox.new w 3 _, Nat.le_refl _, by simp [maxLen], rfl, rfl⟩⟩
set_option maxRecDepth 100000 in
set_option maxHeartbeats 8000000 in
theorem works_any (w : World) : Calls Try.prog 7 #[] w (Ret w fun r _ => r = .bool true) := by
 obtain ⟨X, hX⟩ : ∃ X, w.heap.size = X := ⟨_, rfl⟩
 have s1 : (w.alloc (.cells #[.int .u64 0, .bool true, .string ⟨#[120]⟩, .slice none 0 0, .string ⟨#[104, 101, 108, 108, 111]⟩, .slice none 0 0] 26)).heap.size = X + 1 := by rw [World.size_alloc, hX]
 have s2 : ((w.alloc (.cells #[.int .u64 0, .bool true, .string ⟨#[120]⟩, .slice none 0 0, .string ⟨#[104, 101, 108, 108, 111]⟩, .slice none 0 0] 26)).alloc (.cells #[.int .u64 0, .bool false, .string ⟨#[97]⟩, .slice none 0 0, .string ⟨#[]⟩, .slice none 0 0, .int .u64 0, .bool false, .string ⟨#[98]⟩, .slice none 0 0, .string ⟨#[]⟩, .slice none 0 0, .int .u64 0, .bool false, .string ⟨#[99]⟩, .slice none 0 0, .string ⟨#[]⟩, .slice (some ⟨X, 0, none⟩) 1 1] 26)).heap.size = X + 1 + 1 := by rw [World.size_alloc, s1]
 obtain ⟨w1, hw1⟩ : ∃ W, ((w.alloc (.cells #[.int .u64 0, .bool true, .string ⟨#[120]⟩, .slice none 0 0, .string ⟨#[104, 101, 108, 108, 111]⟩, .slice none 0 0] 26)).alloc (.cells #[.int .u64 0, .bool false, .string ⟨#[97]⟩, .slice none 0 0, .string ⟨#[]⟩, .slice none 0 0, .int .u64 0, .bool false, .string ⟨#[98]⟩, .slice none 0 0, .string ⟨#[]⟩, .slice none 0 0, .int .u64 0, .bool false, .string ⟨#[99]⟩, .slice none 0 0, .string ⟨#[]⟩, .slice (some ⟨X, 0, none⟩) 1 1] 26)).alloc (.cells #[.int .u64 0, .bool false, .string ⟨#[114]⟩, .slice none 0 0, .string ⟨#[]⟩, .slice (some ⟨X + 1, 0, none⟩) 3 3] 26) = W := ⟨_, rfl⟩
 have HE := Lib.hid (show Ext w w1 from by rw [← hw1]; exact (((Ext.refl w).alloc _).alloc _).alloc _)
 have b0 : NBox w1 X 26 #[.int .u64 0, .bool true, .string ⟨#[120]⟩, .slice none 0 0, .string ⟨#[104, 101, 108, 108, 111]⟩, .slice none 0 0] := by rw [← hw1, ← hX]; exact (NBox.new w 26 _).ext (((Ext.refl _).alloc _).alloc _)
 have b1 : NBox w1 (X + 1) 26 #[.int .u64 0, .bool false, .string ⟨#[97]⟩, .slice none 0 0, .string ⟨#[]⟩, .slice none 0 0, .int .u64 0, .bool false, .string ⟨#[98]⟩, .slice none 0 0, .string ⟨#[]⟩, .slice none 0 0, .int .u64 0, .bool false, .string ⟨#[99]⟩, .slice none 0 0, .string ⟨#[]⟩, .slice (some ⟨X, 0, none⟩) 1 1] := by rw [← hw1, ← s1]; exact (NBox.new _ 26 _).ext ((Ext.refl _).alloc _)
 have HB := Lib.hid (show NBox w1 (X + 1 + 1) 26 #[.int .u64 0, .bool false, .string ⟨#[114]⟩, .slice none 0 0, .string ⟨#[]⟩, .slice (some ⟨X + 1, 0, none⟩) 3 3] from by rw [← hw1, ← s2]; exact NBox.new _ 26 _)
 have HT := Lib.hid (exN_rd b0 b1)
 have HW := Lib.hid hw1
 have HXX := Lib.hid hX
 clear hX s1 s2 hw1 b0 b1
 go_enter Try.func7, Try.ntmps7
 go_upto_region 2 with fail
 rw [HXX.out, HW.out]
 clear HXX HW
 obtain ⟨k0, k1, k2, k3, k4, k5⟩ := HB.out.c6
 have X1 : Ext w1 (w1.alloc (.cells #[.int .i64 1] 3)) := (Ext.refl w1).alloc _
 have hc := indent_any exN [1] _ _ (w1.alloc (.cells #[.int .i64 1] 3)) (Nd.rd_ext X1 HT.out) (lit1 w1 1) ex_wt (by decide)
 rw [ex1] at hc
 go_wp2_with fail
 refine hc.mono ?_
 clear hc k0 k1 k2 k3 k4 k5
 rintro e w2 ⟨hE, hP⟩
 have X0 : Ext w1 w2 := X1.trans hE
 obtain ⟨v, rfl, hv⟩ := hP
 have Ha := Lib.hid hv
 obtain ⟨g0, p0, pc0, q0, qc0, rfl, -⟩ := hv
 have HE' := Lib.hid (HE.out.trans X0)
 have HB' := Lib.hid (HB.out.ext X0)
 have HT' := Lib.hid (Nd.rd_ext X0 HT.out)
 clear X1 X0 hE
 replace HE := HE'; replace HB := HB'; replace HT := HT'
 clear HE' HB' HT'
 obtain ⟨k0, k1, k2, k3, k4, k5⟩ := HB.out.c6
 have X1 : Ext w2 (w2.alloc (.cells #[.int .i64 2, .int .i64 0] 3)) := (Ext.refl w2).alloc _
 have hc := outdent_any exN [2, 0] _ _ (w2.alloc (.cells #[.int .i64 2, .int .i64 0] 3)) (Nd.rd_ext X1 HT.out) (lit2 w2 2 0) ex_wt (by decide)
 rw [ex2] at hc
 go_wp2_with fail
 refine hc.mono ?_
 clear hc k0 k1 k2 k3 k4 k5
 rintro e w3 ⟨hE, hP⟩
 have X0 : Ext w2 w3 := X1.trans hE
 obtain ⟨v, rfl, hv⟩ := hP
 have Hb := Lib.hid hv
 obtain ⟨g1, p1, pc1, q1, qc1, rfl, -⟩ := hv
 have HE' := Lib.hid (HE.out.trans X0)
 have HB' := Lib.hid (HB.out.ext X0)
 have HT' := Lib.hid (Nd.rd_ext X0 HT.out)
 have Ha' := Lib.hid (Ha.out.ext X0)
 clear X1 X0 hE
 replace HE := HE'; replace HB := HB'; replace HT := HT'; replace Ha := Ha'
 clear HE' HB' HT' Ha'
 obtain ⟨k0, k1, k2, k3, k4, k5⟩ := HB.out.c6
 have X1 : Ext w3 (w3.alloc (.cells #[.int .i64 1] 3)) := (Ext.refl w3).alloc _
 have hc := up_any exN [1] _ _ (w3.alloc (.cells #[.int .i64 1] 3)) (Nd.rd_ext X1 HT.out) (lit1 w3 1) ex_wt (by decide)
 rw [ex3] at hc
 go_wp2_with fail
 refine hc.mono ?_
 clear hc k0 k1 k2 k3 k4 k5
 rintro e w4 ⟨hE, hP⟩
 have X0 : Ext w3 w4 := X1.trans hE
 obtain ⟨v, rfl, hv⟩ := hP
 have Hc := Lib.hid hv
 obtain ⟨g2, p2, pc2, q2, qc2, rfl, -⟩ := hv
 have HE' := Lib.hid (HE.out.trans X0)
 have HB' := Lib.hid (HB.out.ext X0)
 have HT' := Lib.hid (Nd.rd_ext X0 HT.out)
 have Ha' := Lib.hid (Ha.out.ext X0)
 have Hb' := Lib.hid (Hb.out.ext X0)
 clear X1 X0 hE
 replace HE := HE'; replace HB := HB'; replace HT := HT'; replace Ha := Ha'; replace Hb := Hb'
 clear HE' HB' HT' Ha' Hb'
 obtain ⟨k0, k1, k2, k3, k4, k5⟩ := HB.out.c6
 have X1 : Ext w4 (w4.alloc (.cells #[.int .i64 1] 3)) := (Ext.refl w4).alloc _
 have hc := down_any exN [1] _ _ (w4.alloc (.cells #[.int .i64 1] 3)) (Nd.rd_ext X1 HT.out) (lit1 w4 1) ex_wt (by decide)
 rw [ex4] at hc
 go_wp2_with fail
 refine hc.mono ?_
 clear hc k0 k1 k2 k3 k4 k5
 rintro e w5 ⟨hE, hP⟩
 have X0 : Ext w4 w5 := X1.trans hE
 obtain ⟨v, rfl, hv⟩ := hP
 have Hd := Lib.hid hv
 obtain ⟨g3, p3, pc3, q3, qc3, rfl, -⟩ := hv
 have HE' := Lib.hid (HE.out.trans X0)
 have HB' := Lib.hid (HB.out.ext X0)
 have HT' := Lib.hid (Nd.rd_ext X0 HT.out)
 have Ha' := Lib.hid (Ha.out.ext X0)
 have Hb' := Lib.hid (Hb.out.ext X0)
 have Hc' := Lib.hid (Hc.out.ext X0)
 clear X1 X0 hE
 replace HE := HE'; replace HB := HB'; replace HT := HT'; replace Ha := Ha'; replace Hb := Hb'; replace Hc := Hc'
 clear HE' HB' HT' Ha' Hb' Hc'
 obtain ⟨k0, k1, k2, k3, k4, k5⟩ := HB.out.c6
 have X1 : Ext w5 (w5.alloc (.cells #[.int .i64 2, .int .i64 0] 3)) := (Ext.refl w5).alloc _
 have hc := split19_any 2 9 exN [2, 0] _ _ (w5.alloc (.cells #[.int .i64 2, .int .i64 0] 3)) (Nd.rd_ext X1 HT.out) (lit2 w5 2 0) ex_wt (by decide) (by decide)
 rw [ex5] at hc
 go_wp2_with fail
 refine hc.mono ?_
 clear hc k0 k1 k2 k3 k4 k5
 rintro e w6 ⟨hE, hP⟩
 have X0 : Ext w5 w6 := X1.trans hE
 obtain ⟨v, rfl, hv⟩ := hP
 have Hs := Lib.hid hv.rd
 obtain ⟨A4, c4, rfl⟩ := hv.slice
 clear hv
 have HE' := Lib.hid (HE.out.trans X0)
 have HB' := Lib.hid (HB.out.ext X0)
 have HT' := Lib.hid (Nd.rd_ext X0 HT.out)
 have Ha' := Lib.hid (Ha.out.ext X0)
 have Hb' := Lib.hid (Hb.out.ext X0)
 have Hc' := Lib.hid (Hc.out.ext X0)
 have Hd' := Lib.hid (Hd.out.ext X0)
 clear X1 X0 hE
 replace HE := HE'; replace HB := HB'; replace HT := HT'; replace Ha := Ha'; replace Hb := Hb'; replace Hc := Hc'; replace Hd := Hd'
 clear HE' HB' HT' Ha' Hb' Hc' Hd'
 obtain ⟨k0, k1, k2, k3, k4, k5⟩ := HB.out.c6
 have X1 : Ext w6 (w6.alloc (.cells #[.int .i64 0] 3)) := (Ext.refl w6).alloc _
 have hc := indent_any exN [0] _ _ (w6.alloc (.cells #[.int .i64 0] 3)) (Nd.rd_ext X1 HT.out) (lit1 w6 0) ex_wt (by decide)
 rw [ex6] at hc
 go_wp2_with fail
 refine hc.mono ?_
 clear hc k0 k1 k2 k3 k4 k5
 rintro e w7 ⟨hE, hP⟩
 have X0 : Ext w6 w7 := X1.trans hE
 subst hP
 have HE' := Lib.hid (HE.out.trans X0)
 have HB' := Lib.hid (HB.out.ext X0)
 have HT' := Lib.hid (Nd.rd_ext X0 HT.out)
 have Ha' := Lib.hid (Ha.out.ext X0)
 have Hb' := Lib.hid (Hb.out.ext X0)
 have Hc' := Lib.hid (Hc.out.ext X0)
 have Hd' := Lib.hid (Hd.out.ext X0)
 have Hs' := Lib.hid (RdL.ext X0 Hs.out)
 clear X1 X0 hE
 replace HE := HE'; replace HB := HB'; replace HT := HT'; replace Ha := Ha'; replace Hb := Hb'; replace Hc := Hc'; replace Hd := Hd'; replace Hs := Hs'
 clear HE' HB' HT' Ha' Hb' Hc' Hd' Hs'
 obtain ⟨As, cs, he, -, -, hrow⟩ := Hs.out
 simp only [Value.slice.injEq] at he
 obtain ⟨rfl, -, rfl⟩ := he
 obtain ⟨sb, so, rfl, hr⟩ := hrow (show 0 < 3 by decide)
 obtain ⟨⟨pv1, tv1, cv1, x0, x1, x2, x3, x4, x5, x6, x7, x8, x9, x10, hr1⟩, ⟨pv2, tv2, cv2, y0, y1, y2, y3, y4, y5, y6, y7, y8, y9, y10, hr2⟩, ⟨pv3, tv3, cv3, z0, z1, z2, z3, z4, z5, z6, z7, z8, z9, z10, hr3⟩, -⟩ := hr
 obtain ⟨_, _, _, he, -, -, ⟨C1, dd1, hc1, -, -, hp1⟩, -⟩ := hr1
 simp only [Value.agg.injEq, Array.mk.injEq, List.cons.injEq, and_true, true_and] at he
 obtain ⟨rfl, rfl, rfl⟩ := he
 subst hc1
 obtain ⟨pb1, po1, rfl, u0, u1, u2, -⟩ := hp1 (show 0 < 1 by decide)
 obtain ⟨_, _, _, he, -, -, ⟨C3, dd3, hc3, -, -, hp3⟩, -⟩ := hr3
 simp only [Value.agg.injEq, Array.mk.injEq, List.cons.injEq, and_true, true_and] at he
 obtain ⟨rfl, rfl, rfl⟩ := he
 subst hc3
 obtain ⟨pb3, po3, rfl, v0, v1, v2, -⟩ := hp3 (show 0 < 1 by decide)
 clear hr2 hrow Hs x0 x1 x2 x3 x4 x5 x6 x7 x8 x9 y0 y1 y2 y3 y4 y6 y7 y8 y9 y10 z0 z1 z2 z3 z4 z5 z6 z7 z8 z9
 go_upto_region 10 with fail
 obtain ⟨ga, pa, pca, ta, tca, he, -, hba, -, hta⟩ := Ha.out
 simp only [Value.slice.injEq, Option.some.injEq, Addr.mk.injEq, and_true] at he
 subst he
 have a2 := hba.cell 2
 have a3 := hba.cell 3
 obtain ⟨gb, pb, pcb, tb, tcb, he, -, hbb, -, htb⟩ := Hb.out
 simp only [Value.slice.injEq, Option.some.injEq, Addr.mk.injEq, and_true] at he
 subst he
 have b2 := hbb.cell 2
 have b3 := hbb.cell 3
 obtain ⟨gc, pc, pcc, tc, tcc, he, -, hbc, -, htc⟩ := Hc.out
 simp only [Value.slice.injEq, Option.some.injEq, Addr.mk.injEq, and_true] at he
 subst he
 have c2 := hbc.cell 2
 have c3 := hbc.cell 3
 obtain ⟨gd, pd, pcd, td, tcd, he, -, hbd, -, htd⟩ := Hd.out
 simp only [Value.slice.injEq, Option.some.injEq, Addr.mk.injEq, and_true] at he
 subst he
 have d2 := hbd.cell 2
 have d3 := hbd.cell 3
 have X1 : Ext w7 (w7.alloc (.cells #[.int .i64 0] 3)) := (Ext.refl _).alloc _
 have hq := sameInts_any [0] [0] _ _ _ (RdS.ext X1 (RdS.of_owns hta)) (lit1 w7 0)
 rw [decide_eq_true rfl] at hq
 have Hx10 := Lib.hid x10
 have Hy5 := Lib.hid y5
 have Hz10 := Lib.hid z10
 have Hu0 := Lib.hid u0
 have Hu1 := Lib.hid u1
 have Hu2 := Lib.hid u2
 have Hv0 := Lib.hid v0
 have Hv1 := Lib.hid v1
 have Hv2 := Lib.hid v2
 have Hb2 := Lib.hid b2
 have Hb3 := Lib.hid b3
 have Hc2 := Lib.hid c2
 have Hd2 := Lib.hid d2
 clear hta htb htc htd hba hbb hbc hbd Ha Hb Hc Hd x10 y5 z10 u0 u1 u2 v0 v1 v2 b2 b3 c2 d2 a2
 go_wp2_with fail
 refine hq.mono ?_
 clear hq a3
 rintro e w8 ⟨r, rfl, rfl, hE⟩
 have X2 := X1.trans hE
 have x10 := X2.cell Hx10.out
 have y5 := X2.cell Hy5.out
 have z10 := X2.cell Hz10.out
 have u0 := X2.cell Hu0.out
 have u1 := X2.cell Hu1.out
 have u2 := X2.cell Hu2.out
 have v0 := X2.cell Hv0.out
 have v1 := X2.cell Hv1.out
 have v2 := X2.cell Hv2.out
 have b2 := X2.cell Hb2.out
 have b3 := X2.cell Hb3.out
 have c2 := X2.cell Hc2.out
 have d2 := X2.cell Hd2.out
 have HX := Lib.hid (HE.out.trans X2)
 clear X1 X2 hE
 go_wp2_with fail
 go_ret
 exact ⟨_, rfl, rfl, HX.out⟩
end Go.Proofs.Ytofcbclokkjfjaa.Wi
namespace Go.Proofs.Ytofcbclokkjfjaa.Wi
open Go.RowKit Go.Proofs.Ytofcbclokkjfjaa.Bw Go.Proofs.Ytofcbclokkjfjaa.Bs

theorem AskR.an {w W' : World} {p : List Int} {o : Except Int (List Int × Int)} {e : Ending} (h : AskR w p o e W') : Ext w W' ∧ ∃ A n c k, e = .returned (.tuple #[.slice A n c, .int .i64 k]) ∧ AnV w.heap.size W' p o (.slice A n c) (.int .i64 k) := by
 obtain ⟨hE, h⟩ := h
 refine ⟨hE, ?_⟩
 cases o with
 | error k => exact ⟨none, 0, 0, k, h, rfl, rfl⟩
 | ok x =>
  obtain ⟨v, rfl, hv⟩ := h
  have hv0 := hv
  obtain ⟨g, pA, pc, tA, tc, rfl, -⟩ := hv0
  exact ⟨some ⟨g, 0, none⟩, 1, 1, 0, rfl, hv, rfl⟩
theorem AnV.ext {lo : Nat} {W W' : World} {p : List Int} {o : Except Int (List Int × Int)} {lv ev : Value} (h : AnV lo W p o lv ev) (X : Ext W W') : AnV lo W' p o lv ev := by
 cases o with
 | error k => exact h
 | ok x => exact ⟨h.1.ext X, h.2⟩
theorem AnV.low {lo lo' : Nat} {W : World} {p : List Int} {o : Except Int (List Int × Int)} {lv ev : Value} (h : AnV lo W p o lv ev) (hl : lo' ≤ lo) : AnV lo' W p o lv ev := by
 cases o with
 | error k => exact h
 | ok x => exact ⟨h.1.low hl, h.2⟩
theorem same13_an {lo lo' : Nat} {W : World} {p : List Int} {o : Except Int (List Int × Int)} {u v : Value} {j k : Int} (hu : AnV lo W p o u (.int .i64 j)) (hv : AnV lo' W p o v (.int .i64 k)) (hp : p.length ≤ 100000) (ho : ∀ x, o = .ok x → x.1.length ≤ 100000) :
  Calls Try.prog 13 #[u, v, .int .i64 j, .int .i64 k] W (Ret W fun r _ => r = .bool true) := by
 cases o with
 | error q =>
  obtain ⟨rfl, h1⟩ := hu
  obtain ⟨rfl, h2⟩ := hv
  cases h1
  cases h2
  exact same13_nil _ W
 | ok x =>
  obtain ⟨hu, h1⟩ := hu
  obtain ⟨hv, h2⟩ := hv
  cases h1
  cases h2
  exact same13_mv p x.1 x.2 u v lo lo' W hu hv hp (ho x rfl)
theorem askP_len {t : Nd} {p : List Int} {res : SpD → Except Int (List Int × Int)} (hr : ∀ s x, res s = .ok x → x.1.length ≤ s.up.length + 1) (hp : p.length ≤ 1000) : ∀ x, askP t p res = .ok x → x.1.length ≤ 100000 := by
 intro x hx
 unfold askP at hx
 split at hx
 ·cases hx
 next s hs =>
  have h1 := hr s x hx
  have h2 : s.up = p.dropLast := by
   unfold spotP at hs
   split at hs
   ·cases hs
   ·split at hs
    ·cases hs
    ·split at hs
     ·cases hs
     ·cases hs; rfl
  rw [h2, List.length_dropLast] at h1
  omega
theorem ind_len : ∀ s x, indP s = .ok x → x.1.length ≤ s.up.length + 1 := by
 intro s x h
 unfold indP at h
 split at h
 ·split at h
  ·cases h
  ·split at h
   ·cases h
   ·cases h; simp
 ·cases h
theorem out_len : ∀ s x, outP s = .ok x → x.1.length ≤ s.up.length + 1 := by
 intro s x h
 unfold outP at h
 split at h
 ·cases h
 ·cases h; simp only [List.length_dropLast]; omega
theorem up_len : ∀ s x, upP s = .ok x → x.1.length ≤ s.up.length + 1 := by
 intro s x h
 unfold upP at h
 split at h
 ·cases h; exact Nat.le_succ _
 ·cases h
theorem down_len : ∀ s x, downP s = .ok x → x.1.length ≤ s.up.length + 1 := by
 intro s x h
 unfold downP at h
 split at h
 ·cases h; exact Nat.le_succ _
 ·cases h
end Go.Proofs.Ytofcbclokkjfjaa.Wi
namespace Go.Proofs.Ytofcbclokkjfjaa.Wi
open Go.RowKit Go.Proofs.Ytofcbclokkjfjaa.Bw

def Pc.vals (p : Pc) : List Value := [.int .i64 p.keep, .int .i64 p.drop, .string p.put]
def pcVals (l : List Pc) : List Value := l.flatMap Pc.vals
theorem pcVals_len (l : List Pc) : (pcVals l).length = l.length * 3 := by
 induction l with
 | nil => rfl
 | cons p r ih =>
  have h : pcVals (p :: r) = Pc.vals p ++ pcVals r := rfl
  rw [h, List.length_append, ih]
  simp only [Pc.vals, List.length_cons, List.length_nil]
  omega
theorem rdPcs_cell {w : World} {b : Nat} : ∀ {l : List Pc} {off : Nat}, rdPcs w b off l → ∀ {j : Nat} {u : Value}, (pcVals l)[j]? = some u → w.cell? ⟨b, off + j, none⟩ = some u
 | [], _, _, j, u, h => by simp [pcVals] at h
 | p :: r, off, ⟨h1, h2, h3, _, h5⟩, j, u, h => by
  have he : pcVals (p :: r) = [.int .i64 p.keep, .int .i64 p.drop, .string p.put] ++ pcVals r := rfl
  rw [he] at h
  match j, h with
  | 0, h => simp at h; rw [← h]; exact h1
  | 1, h => simp at h; rw [← h]; exact h2
  | 2, h => simp at h; rw [← h]; exact h3
  | j + 3, h =>
   have := rdPcs_cell h5 (j := j) (u := u) (by simpa using h)
   rw [show off + (j + 3) = off + 3 + j by omega]
   exact this
theorem rdPcs_of {w : World} {b : Nat} : ∀ {l : List Pc} {off : Nat}, (∀ p ∈ l, okStr p.put) → (∀ j u, (pcVals l)[j]? = some u → w.cell? ⟨b, off + j, none⟩ = some u) → rdPcs w b off l
 | [], _, _, _ => trivial
 | p :: r, off, hs, hc => by
  have he : pcVals (p :: r) = [.int .i64 p.keep, .int .i64 p.drop, .string p.put] ++ pcVals r := rfl
  rw [he] at hc
  refine ⟨hc 0 _ rfl, hc 1 _ rfl, hc 2 _ rfl, hs p (List.mem_cons_self ..), rdPcs_of (fun q hq => hs q (List.mem_cons_of_mem _ hq)) (fun j u hu => ?_)⟩
  have := hc (3 + j) u (by simpa [Nat.add_comm] using hu)
  rw [show off + 3 + j = off + (3 + j) by omega]
  exact this
theorem rdPcs_ok {w : World} {b : Nat} : ∀ {l : List Pc} {off : Nat}, rdPcs w b off l → ∀ p ∈ l, okStr p.put
 | [], _, _ => fun _ hp => absurd hp List.not_mem_nil
 | _ :: _, _, ⟨_, _, _, h4, h5⟩ => fun p hp => (List.mem_cons.1 hp).elim (fun e => e ▸ h4) (rdPcs_ok h5 p)
theorem RdP.okp {w : World} {l : List Pc} {v : Value} (h : RdP w l v) : ∀ p ∈ l, okStr p.put := by
 obtain ⟨A, c, rfl, a1, a2, a3⟩ := h
 intro p hp
 obtain ⟨b, off, _, hr⟩ := a3 (List.length_pos_of_mem hp)
 exact rdPcs_ok hr p hp
theorem RdP.rds {w : World} {l : List Pc} {v : Value} (h : RdP w l v) : RdS w 3 l.length (pcVals l) v := by
 obtain ⟨A, c, rfl, a1, a2, a3⟩ := h
 refine ⟨A, c, rfl, pcVals_len l, a1, a2, fun h0 => ?_⟩
 obtain ⟨b, off, rfl, hr⟩ := a3 h0
 exact ⟨b, off, rfl, fun j u hu => rdPcs_cell hr hu⟩
theorem RdP.of_owned {W : World} {base e : Nat} {l : List Pc} {v : Value} (h : W.ownsRow base e 3 v l.length (pcVals l)) (hs : ∀ p ∈ l, okStr p.put) : RdP W l v := by
 obtain ⟨A, c, rfl, a0, a1, a2, a3⟩ := RdS.of_owns h
 refine ⟨A, c, rfl, a1, a2, fun h0 => ?_⟩
 obtain ⟨b, off, rfl, hr⟩ := a3 h0
 exact ⟨b, off, rfl, rdPcs_of hs hr⟩
theorem vals_one (l : List Pc) : ∀ u ∈ pcVals l, u.oneCell' = true := by
 intro u hu
 obtain ⟨p, _, hp⟩ := List.mem_flatMap.1 hu
 simp only [Pc.vals, List.mem_cons, List.not_mem_nil, or_false] at hp
 rcases hp with rfl | rfl | rfl <;> rfl
/-- An operation whose parts memory can hold. -/
structure OkO (o : OpD) : Prop where
 label : okStr o.label
 key : okStr o.key
 value : okStr o.value
 pcs : ∀ p ∈ o.pcs, okStr p.put
 id : 0 ≤ o.id ∧ o.id ≤ 18446744073709551615
 kind : 0 ≤ o.kind ∧ o.kind ≤ 255
theorem OpD.rd_ok {w : World} {o : OpD} {v : Value} (h : o.rd w v) : OkO o := by
 obtain ⟨pv, tv, cv, rfl, h1, h2, h3, h4, h5, h6, h7, h8⟩ := h
 exact ⟨h4, h5, h6, h3.okp, h7, h8⟩
/-- What Bare makes of an operation. -/
def bareD (o : OpD) : OpD :=
 if o.kind = 1 then ⟨1, o.path, o.at_, [], o.id, o.leaf, o.label, ⟨#[]⟩, ⟨#[]⟩, false, []⟩
 else if o.kind = 2 then ⟨2, o.path, 0, [], 0, false, ⟨#[]⟩, ⟨#[]⟩, ⟨#[]⟩, false, []⟩
 else if o.kind = 3 then ⟨3, o.path, o.at_, o.to, 0, false, ⟨#[]⟩, ⟨#[]⟩, ⟨#[]⟩, false, []⟩
 else if o.kind = 4 then ⟨4, o.path, 0, [], 0, false, ⟨#[]⟩, o.key, if o.gone then ⟨#[]⟩ else o.value, o.gone, []⟩
 else if o.kind = 5 then ⟨5, o.path, 0, [], 0, false, o.label, ⟨#[]⟩, ⟨#[]⟩, false, []⟩
 else if o.kind = 6 then ⟨6, o.path, 0, [], 0, false, ⟨#[]⟩, ⟨#[]⟩, ⟨#[]⟩, false, o.pcs⟩
 else ⟨o.kind, [], 0, [], 0, false, ⟨#[]⟩, ⟨#[]⟩, ⟨#[]⟩, false, []⟩
theorem okStr_nil : okStr ⟨#[]⟩ := Nat.zero_le _
theorem bareD_ok {o : OpD} (h : OkO o) : OkO (bareD o) := by
 have e := okStr_nil
 have hk := h.kind
 unfold bareD
 repeat' split
 all_goals refine ⟨?_, ?_, ?_, ?_, ?_, ?_⟩
 all_goals first | exact e | exact h.label | exact h.key | exact h.value | exact h.pcs | exact h.id | exact h.kind | (intro p hp; exact absurd hp List.not_mem_nil) | (dsimp only; omega) | (dsimp only; split <;> first | exact e | exact h.value)
/-- A value that is an operation whose rows lie in new memory (of the piece's type tp). -/
def OpO (tp lo : Nat) (W : World) (o : OpD) (v : Value) : Prop := ∃ pA pc tA tc cA cc, v = .agg #[.int .u8 o.kind, .slice pA o.path.length pc, .int .i64 o.at_, .slice tA o.to.length tc, .int .u64 o.id, .bool o.leaf, .string o.label, .string o.key, .string o.value, .bool o.gone, .slice cA o.pcs.length cc] ∧
 W.ownsRow lo 3 1 (.slice pA o.path.length pc) o.path.length (o.path.map (Value.int .i64)) ∧ W.ownsRow lo 3 1 (.slice tA o.to.length tc) o.to.length (o.to.map (Value.int .i64)) ∧ W.ownsRow lo tp 3 (.slice cA o.pcs.length cc) o.pcs.length (pcVals o.pcs)
theorem OpO.rd {tp lo : Nat} {W : World} {o : OpD} {v : Value} (h : OpO tp lo W o v) (k : OkO o) : o.rd W v := by
 obtain ⟨pA, pc, tA, tc, cA, cc, rfl, h1, h2, h3⟩ := h
 exact ⟨_, _, _, rfl, RdS.of_owns h1, RdS.of_owns h2, RdP.of_owned h3 k.pcs, k.label, k.key, k.value, k.id, k.kind⟩
theorem OpO.ext {tp lo : Nat} {W W' : World} {o : OpD} {v : Value} (h : OpO tp lo W o v) (X : Ext W W') : OpO tp lo W' o v := by
 obtain ⟨pA, pc, tA, tc, cA, cc, rfl, h1, h2, h3⟩ := h
 exact ⟨_, _, _, _, _, _, rfl, owns_ext X h1, owns_ext X h2, owns_ext X h3⟩
theorem owns_low {W : World} {a b e sz n : Nat} {v : Value} {xs : List Value} (h : W.ownsRow a e sz v n xs) (hab : b ≤ a) : W.ownsRow b e sz v n xs := by
 refine ⟨h.1, h.2.imp id ?_⟩
 rintro ⟨g, cap, cur, h1, h2, h3⟩
 exact ⟨g, cap, cur, h1, Nat.le_trans hab h2, h3⟩
theorem OpO.low {tp lo lo' : Nat} {W : World} {o : OpD} {v : Value} (h : OpO tp lo W o v) (hl : lo' ≤ lo) : OpO tp lo' W o v := by
 obtain ⟨pA, pc, tA, tc, cA, cc, rfl, h1, h2, h3⟩ := h
 exact ⟨_, _, _, _, _, _, rfl, owns_low h1 hl, owns_low h2 hl, owns_low h3 hl⟩
/-- A change at blocks that hold neither numbers nor pieces. -/
theorem OpO.fr {tp lo t : Nat} {W W' : World} {o : OpD} {v : Value} {B : Nat} {cs : Array Value} (h : OpO tp lo W o v) (F : Fr W W' (fun k => k = B)) (hB : NBox W B t cs) (h3 : t ≠ 3) (ht : t ≠ tp) : OpO tp lo W' o v := by
 obtain ⟨pA, pc, tA, tc, cA, cc, rfl, k1, k2, k3⟩ := h
 exact ⟨_, _, _, _, _, _, rfl, owns_fr F k1 (fun g hg hk => hB.not_own k1 h3 (by rw [hg, show g = B from hk])), owns_fr F k2 (fun g hg hk => hB.not_own k2 h3 (by rw [hg, show g = B from hk])), owns_fr F k3 (fun g hg hk => hB.not_own k3 ht (by rw [hg, show g = B from hk]))⟩
/-- What one has in the middle of Bare: the operation's box, the answer's, the one that grows, the rows. -/
structure BSt (t tp : Nat) (w W : World) (X Y Z : Nat) (ov cs : Array Value) (p tq : List Int) (ps : List Pc) (pv tv cv : Value) : Prop where
 ext : Ext w W
 bx : NBox W X t ov
 byy : NBox W Y t #[.int .u8 0, .slice none 0 0, .int .i64 0, .slice none 0 0, .int .u64 0, .bool false, .string ⟨#[]⟩, .string ⟨#[]⟩, .string ⟨#[]⟩, .bool false, .slice none 0 0]
 bz : NBox W Z t cs
 lo : w.heap.size ≤ X ∧ w.heap.size ≤ Y ∧ w.heap.size ≤ Z ∧ X ≠ Z ∧ Y ≠ Z
 op : W.ownsRow w.heap.size 3 1 pv p.length (p.map (Value.int .i64))
 ot : W.ownsRow w.heap.size 3 1 tv tq.length (tq.map (Value.int .i64))
 oc : W.ownsRow w.heap.size tp 3 cv ps.length (pcVals ps)
theorem BSt.st {t tp : Nat} {w W : World} {X Y Z : Nat} {ov cs : Array Value} {p tq : List Int} {ps : List Pc} {pv tv cv : Value} (h : BSt t tp w W X Y Z ov cs p tq ps pv tv cv) (h3 : t ≠ 3) (ht : t ≠ tp) (i : Nat) (u : Value) : BSt t tp w (W.setCell ⟨Z, i, none⟩ u) X Y Z ov (cs.setIfInBounds i u) p tq ps pv tv cv := by
 obtain ⟨l1, l2, l3, l4, l5⟩ := h.lo
 have F := Fr.setCell W Z i u
 exact ⟨Fr.ext h.ext F (fun q hq => by rw [show q = Z from hq]; exact l3), h.bx.fr F l4, h.byy.fr F l5, h.bz.set i u, h.lo,
  owns_fr F h.op (fun g hg hk => h.bz.not_own h.op h3 (by rw [hg, show g = Z from hk])), owns_fr F h.ot (fun g hg hk => h.bz.not_own h.ot h3 (by rw [hg, show g = Z from hk])), owns_fr F h.oc (fun g hg hk => h.bz.not_own h.oc ht (by rw [hg, show g = Z from hk]))⟩
theorem BSt.to {t tp : Nat} {w W : World} {X Y Z : Nat} {ov cs cs' : Array Value} {p tq : List Int} {ps : List Pc} {pv tv cv : Value} (h : BSt t tp w W X Y Z ov cs p tq ps pv tv cv) (e : cs = cs') : BSt t tp w W X Y Z ov cs' p tq ps pv tv cv := e ▸ h
end Go.Proofs.Ytofcbclokkjfjaa.Wi
