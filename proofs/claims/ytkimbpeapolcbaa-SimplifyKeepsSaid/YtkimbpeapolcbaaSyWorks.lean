/- Chapter 10: the examples hold: works (11). (Printed by gsyworks.py.) -/
import Derived.Test.YtkimbpeapolcbaaSyList
namespace Go.Proofs.Ytkimbpeapolcbaa.Sy
open Go.RowKit Go.Proofs.Ytkimbpeapolcbaa.Bw Go.Proofs.Ytkimbpeapolcbaa.Bs

def ex_a : List OpD := [⟨5, [0], 0, [], 0, false, ⟨#[97]⟩, ⟨#[]⟩, ⟨#[]⟩, false, []⟩, ⟨5, [0], 0, [], 0, false, ⟨#[98]⟩, ⟨#[]⟩, ⟨#[]⟩, false, []⟩]
theorem ex_a_is : listD ex_a = [⟨5, [0], 0, [], 0, false, ⟨#[98]⟩, ⟨#[]⟩, ⟨#[]⟩, false, []⟩] := by kernel_rfl
theorem ex_a_ok : ∀ o ∈ ex_a, OkLen o := by
 intro o ho
 simp only [ex_a, List.mem_cons, List.not_mem_nil, or_false] at ho
 rcases ho with rfl | rfl <;> exact ⟨by decide, by decide, by decide⟩
def ex_b : List OpD := [⟨1, [], 1, [], 0, false, ⟨#[]⟩, ⟨#[]⟩, ⟨#[]⟩, false, []⟩, ⟨5, [1], 0, [], 0, false, ⟨#[120]⟩, ⟨#[]⟩, ⟨#[]⟩, false, []⟩, ⟨4, [1], 0, [], 0, false, ⟨#[]⟩, ⟨#[107]⟩, ⟨#[49]⟩, false, []⟩, ⟨4, [1], 0, [], 0, false, ⟨#[]⟩, ⟨#[107]⟩, ⟨#[50]⟩, false, []⟩]
theorem ex_b_is : listD ex_b = [⟨1, [], 1, [], 0, false, ⟨#[120]⟩, ⟨#[]⟩, ⟨#[]⟩, false, []⟩, ⟨4, [1], 0, [], 0, false, ⟨#[]⟩, ⟨#[107]⟩, ⟨#[50]⟩, false, []⟩] := by kernel_rfl
theorem ex_b_ok : ∀ o ∈ ex_b, OkLen o := by
 intro o ho
 simp only [ex_b, List.mem_cons, List.not_mem_nil, or_false] at ho
 rcases ho with rfl | rfl | rfl | rfl <;> exact ⟨by decide, by decide, by decide⟩
def ex_c : List OpD := [⟨3, [0], 1, [], 0, false, ⟨#[]⟩, ⟨#[]⟩, ⟨#[]⟩, false, []⟩]
theorem ex_c_is : listD ex_c = [] := by kernel_rfl
theorem ex_c_ok : ∀ o ∈ ex_c, OkLen o := by
 intro o ho
 simp only [ex_c, List.mem_cons, List.not_mem_nil, or_false] at ho
 rcases ho with rfl <;> exact ⟨by decide, by decide, by decide⟩
def ex_d : List OpD := [⟨1, [], 0, [], 0, false, ⟨#[]⟩, ⟨#[]⟩, ⟨#[]⟩, false, []⟩, ⟨2, [0], 0, [], 0, false, ⟨#[]⟩, ⟨#[]⟩, ⟨#[]⟩, false, []⟩, ⟨2, [0], 0, [], 0, false, ⟨#[]⟩, ⟨#[]⟩, ⟨#[]⟩, false, []⟩]
theorem ex_d_is : listD ex_d = [⟨2, [0], 0, [], 0, false, ⟨#[]⟩, ⟨#[]⟩, ⟨#[]⟩, false, []⟩] := by kernel_rfl
theorem ex_d_ok : ∀ o ∈ ex_d, OkLen o := by
 intro o ho
 simp only [ex_d, List.mem_cons, List.not_mem_nil, or_false] at ho
 rcases ho with rfl | rfl | rfl <;> exact ⟨by decide, by decide, by decide⟩
def ex_e : OpD := ⟨6, [], 0, [], 0, false, ⟨#[]⟩, ⟨#[]⟩, ⟨#[]⟩, false, []⟩
theorem ex_e_is : idleD ex_e = true := by kernel_rfl
theorem nilI (W : World) : RdI W [] (.slice none 0 0) := ⟨none, 0, rfl, rfl, Nat.le_refl _, by simp [maxLen], fun h => absurd h (by simp)⟩
theorem nilP (W : World) : RdP W [] (.slice none 0 0) := ⟨none, 0, rfl, Nat.le_refl _, by simp [maxLen], fun h => absurd h (by simp)⟩
theorem oneI {W : World} {g : Nat} {a : Int} (h : NBox W g 3 #[.int .i64 a]) : RdI W [a] (.slice (some ⟨g, 0, none⟩) 1 1) :=
 RdS.of_owns (base := 0) (e := 3) ⟨rfl, .inr ⟨g, 1, _, rfl, Nat.zero_le _, h, Nat.le_refl _, by simp [maxLen], rfl, rfl⟩⟩
theorem lit_ok {a : ByteArray} (h : a.size ≤ 10) : okStr a := by unfold okStr maxLen; omega
set_option maxRecDepth 100000 in
set_option maxHeartbeats 8000000 in
theorem works_any (w : World) : Calls Try.prog 11 #[] w (Ret w fun r _ => r = .bool true) := by
 have HE := Lib.hid (Ext.refl w)
 go_enter Try.func11, Try.ntmps11
 go_upto_region 1 with fail
 obtain ⟨Xa, hXa⟩ : ∃ X, w.heap.size = X := ⟨_, rfl⟩
 have sa0 : (w).heap.size = Xa := hXa
 have sa1 : ((w).alloc (.cells #[.int .i64 0] 3)).heap.size = Xa + 1 := by rw [World.size_alloc, sa0]
 have sa2 : (((w).alloc (.cells #[.int .i64 0] 3)).alloc (.cells #[.int .i64 0] 3)).heap.size = Xa + 1 + 1 := by rw [World.size_alloc, sa1]
 obtain ⟨vw2, hva⟩ : ∃ W, (((w).alloc (.cells #[.int .i64 0] 3)).alloc (.cells #[.int .i64 0] 3)).alloc (.cells #[.int .u8 5, .slice (some ⟨Xa, 0, none⟩) 1 1, .int .i64 0, .slice none 0 0, .int .u64 0, .bool false, .string ⟨#[97]⟩, .string ⟨#[]⟩, .string ⟨#[]⟩, .bool false, .slice none 0 0, .int .u8 5, .slice (some ⟨Xa + 1, 0, none⟩) 1 1, .int .i64 0, .slice none 0 0, .int .u64 0, .bool false, .string ⟨#[98]⟩, .string ⟨#[]⟩, .string ⟨#[]⟩, .bool false, .slice none 0 0] 26) = W := ⟨_, rfl⟩
 have X1 : Ext w vw2 := by rw [← hva]; exact (((Ext.refl w).alloc _).alloc _).alloc _
 have b0 : NBox vw2 (Xa) 3 #[.int .i64 0] := by rw [← hva, ← sa0]; exact (NBox.new _ 3 _).ext (((Ext.refl _).alloc _).alloc _)
 have b1 : NBox vw2 (Xa + 1) 3 #[.int .i64 0] := by rw [← hva, ← sa1]; exact (NBox.new _ 3 _).ext ((Ext.refl _).alloc _)
 have b2 : NBox vw2 (Xa + 1 + 1) 26 #[.int .u8 5, .slice (some ⟨Xa, 0, none⟩) 1 1, .int .i64 0, .slice none 0 0, .int .u64 0, .bool false, .string ⟨#[97]⟩, .string ⟨#[]⟩, .string ⟨#[]⟩, .bool false, .slice none 0 0, .int .u8 5, .slice (some ⟨Xa + 1, 0, none⟩) 1 1, .int .i64 0, .slice none 0 0, .int .u64 0, .bool false, .string ⟨#[98]⟩, .string ⟨#[]⟩, .string ⟨#[]⟩, .bool false, .slice none 0 0] := by rw [← hva, ← sa2]; exact NBox.new _ 26 _
 have hl : RdL vw2 ex_a (.slice (some ⟨Xa + 1 + 1, 0, none⟩) 2 2) := ⟨_, _, rfl, Nat.le_refl _, by simp [maxLen], fun _ => ⟨Xa + 1 + 1, 0, rfl, ⟨⟨_, _, _, b2.cell 0, b2.cell 1, b2.cell 2, b2.cell 3, b2.cell 4, b2.cell 5, b2.cell 6, b2.cell 7, b2.cell 8, b2.cell 9, b2.cell 10, _, _, _, rfl, oneI b0, nilI _, nilP _, lit_ok (by decide), lit_ok (by decide), lit_ok (by decide), by decide, by decide⟩, ⟨⟨_, _, _, b2.cell 11, b2.cell 12, b2.cell 13, b2.cell 14, b2.cell 15, b2.cell 16, b2.cell 17, b2.cell 18, b2.cell 19, b2.cell 20, b2.cell 21, _, _, _, rfl, oneI b1, nilI _, nilP _, lit_ok (by decide), lit_ok (by decide), lit_ok (by decide), by decide, by decide⟩, trivial⟩⟩⟩⟩
 have hc := list18_any ex_a _ vw2 hl (by decide) ex_a_ok
 rw [ex_a_is] at hc
 have HV := Lib.hid hva
 have HS := Lib.hid hXa
 clear hl b0 b1 b2 sa0 sa1 sa2 hva hXa
 go_upto_region 1 with fail
 go_wp2_with (first | (rw [HS.out, HV.out]; clear HS HV))
 refine hc.mono ?_
 clear hc
 rintro e w2 ⟨hE, u, rfl, hv⟩
 have X0 : Ext w w2 := X1.trans hE
 have Ha := Lib.hid (lsV.rd hv)
 obtain ⟨Aa, ca, rfl⟩ := lsV.slice hv
 have HE' := Lib.hid (HE.out.trans X0)
 clear X1 X0 hE hv
 clear HE
 have HE := HE'
 clear HE'
 go_upto_region 2 with fail
 obtain ⟨Xb, hXb⟩ : ∃ X, w2.heap.size = X := ⟨_, rfl⟩
 have sb0 : (w2).heap.size = Xb := hXb
 have sb1 : ((w2).alloc (.cells #[.int .i64 1] 3)).heap.size = Xb + 1 := by rw [World.size_alloc, sb0]
 have sb2 : (((w2).alloc (.cells #[.int .i64 1] 3)).alloc (.cells #[.int .i64 1] 3)).heap.size = Xb + 1 + 1 := by rw [World.size_alloc, sb1]
 have sb3 : ((((w2).alloc (.cells #[.int .i64 1] 3)).alloc (.cells #[.int .i64 1] 3)).alloc (.cells #[.int .i64 1] 3)).heap.size = Xb + 1 + 1 + 1 := by rw [World.size_alloc, sb2]
 obtain ⟨vw3, hvb⟩ : ∃ W, ((((w2).alloc (.cells #[.int .i64 1] 3)).alloc (.cells #[.int .i64 1] 3)).alloc (.cells #[.int .i64 1] 3)).alloc (.cells #[.int .u8 1, .slice none 0 0, .int .i64 1, .slice none 0 0, .int .u64 0, .bool false, .string ⟨#[]⟩, .string ⟨#[]⟩, .string ⟨#[]⟩, .bool false, .slice none 0 0, .int .u8 5, .slice (some ⟨Xb, 0, none⟩) 1 1, .int .i64 0, .slice none 0 0, .int .u64 0, .bool false, .string ⟨#[120]⟩, .string ⟨#[]⟩, .string ⟨#[]⟩, .bool false, .slice none 0 0, .int .u8 4, .slice (some ⟨Xb + 1, 0, none⟩) 1 1, .int .i64 0, .slice none 0 0, .int .u64 0, .bool false, .string ⟨#[]⟩, .string ⟨#[107]⟩, .string ⟨#[49]⟩, .bool false, .slice none 0 0, .int .u8 4, .slice (some ⟨Xb + 1 + 1, 0, none⟩) 1 1, .int .i64 0, .slice none 0 0, .int .u64 0, .bool false, .string ⟨#[]⟩, .string ⟨#[107]⟩, .string ⟨#[50]⟩, .bool false, .slice none 0 0] 26) = W := ⟨_, rfl⟩
 have X1 : Ext w2 vw3 := by rw [← hvb]; exact ((((Ext.refl w2).alloc _).alloc _).alloc _).alloc _
 have b0 : NBox vw3 (Xb) 3 #[.int .i64 1] := by rw [← hvb, ← sb0]; exact (NBox.new _ 3 _).ext ((((Ext.refl _).alloc _).alloc _).alloc _)
 have b1 : NBox vw3 (Xb + 1) 3 #[.int .i64 1] := by rw [← hvb, ← sb1]; exact (NBox.new _ 3 _).ext (((Ext.refl _).alloc _).alloc _)
 have b2 : NBox vw3 (Xb + 1 + 1) 3 #[.int .i64 1] := by rw [← hvb, ← sb2]; exact (NBox.new _ 3 _).ext ((Ext.refl _).alloc _)
 have b3 : NBox vw3 (Xb + 1 + 1 + 1) 26 #[.int .u8 1, .slice none 0 0, .int .i64 1, .slice none 0 0, .int .u64 0, .bool false, .string ⟨#[]⟩, .string ⟨#[]⟩, .string ⟨#[]⟩, .bool false, .slice none 0 0, .int .u8 5, .slice (some ⟨Xb, 0, none⟩) 1 1, .int .i64 0, .slice none 0 0, .int .u64 0, .bool false, .string ⟨#[120]⟩, .string ⟨#[]⟩, .string ⟨#[]⟩, .bool false, .slice none 0 0, .int .u8 4, .slice (some ⟨Xb + 1, 0, none⟩) 1 1, .int .i64 0, .slice none 0 0, .int .u64 0, .bool false, .string ⟨#[]⟩, .string ⟨#[107]⟩, .string ⟨#[49]⟩, .bool false, .slice none 0 0, .int .u8 4, .slice (some ⟨Xb + 1 + 1, 0, none⟩) 1 1, .int .i64 0, .slice none 0 0, .int .u64 0, .bool false, .string ⟨#[]⟩, .string ⟨#[107]⟩, .string ⟨#[50]⟩, .bool false, .slice none 0 0] := by rw [← hvb, ← sb3]; exact NBox.new _ 26 _
 have hl : RdL vw3 ex_b (.slice (some ⟨Xb + 1 + 1 + 1, 0, none⟩) 4 4) := ⟨_, _, rfl, Nat.le_refl _, by simp [maxLen], fun _ => ⟨Xb + 1 + 1 + 1, 0, rfl, ⟨⟨_, _, _, b3.cell 0, b3.cell 1, b3.cell 2, b3.cell 3, b3.cell 4, b3.cell 5, b3.cell 6, b3.cell 7, b3.cell 8, b3.cell 9, b3.cell 10, _, _, _, rfl, nilI _, nilI _, nilP _, lit_ok (by decide), lit_ok (by decide), lit_ok (by decide), by decide, by decide⟩, ⟨⟨_, _, _, b3.cell 11, b3.cell 12, b3.cell 13, b3.cell 14, b3.cell 15, b3.cell 16, b3.cell 17, b3.cell 18, b3.cell 19, b3.cell 20, b3.cell 21, _, _, _, rfl, oneI b0, nilI _, nilP _, lit_ok (by decide), lit_ok (by decide), lit_ok (by decide), by decide, by decide⟩, ⟨⟨_, _, _, b3.cell 22, b3.cell 23, b3.cell 24, b3.cell 25, b3.cell 26, b3.cell 27, b3.cell 28, b3.cell 29, b3.cell 30, b3.cell 31, b3.cell 32, _, _, _, rfl, oneI b1, nilI _, nilP _, lit_ok (by decide), lit_ok (by decide), lit_ok (by decide), by decide, by decide⟩, ⟨⟨_, _, _, b3.cell 33, b3.cell 34, b3.cell 35, b3.cell 36, b3.cell 37, b3.cell 38, b3.cell 39, b3.cell 40, b3.cell 41, b3.cell 42, b3.cell 43, _, _, _, rfl, oneI b2, nilI _, nilP _, lit_ok (by decide), lit_ok (by decide), lit_ok (by decide), by decide, by decide⟩, trivial⟩⟩⟩⟩⟩⟩
 have hc := list18_any ex_b _ vw3 hl (by decide) ex_b_ok
 rw [ex_b_is] at hc
 have HV := Lib.hid hvb
 have HS := Lib.hid hXb
 clear hl b0 b1 b2 b3 sb0 sb1 sb2 sb3 hvb hXb
 go_upto_region 2 with fail
 go_wp2_with (first | (rw [HS.out, HV.out]; clear HS HV))
 refine hc.mono ?_
 clear hc
 rintro e w3 ⟨hE, u, rfl, hv⟩
 have X0 : Ext w2 w3 := X1.trans hE
 have Hb := Lib.hid (lsV.rd hv)
 obtain ⟨Ab, cb, rfl⟩ := lsV.slice hv
 have HE' := Lib.hid (HE.out.trans X0)
 have Ha' := Lib.hid (RdL.ext X0 Ha.out)
 clear X1 X0 hE hv
 clear HE
 have HE := HE'
 clear HE'
 clear Ha
 have Ha := Ha'
 clear Ha'
 go_upto_region 3 with fail
 obtain ⟨Xc, hXc⟩ : ∃ X, w3.heap.size = X := ⟨_, rfl⟩
 have sc0 : (w3).heap.size = Xc := hXc
 have sc1 : ((w3).alloc (.cells #[.int .i64 0] 3)).heap.size = Xc + 1 := by rw [World.size_alloc, sc0]
 obtain ⟨vw4, hvc⟩ : ∃ W, ((w3).alloc (.cells #[.int .i64 0] 3)).alloc (.cells #[.int .u8 3, .slice (some ⟨Xc, 0, none⟩) 1 1, .int .i64 1, .slice none 0 0, .int .u64 0, .bool false, .string ⟨#[]⟩, .string ⟨#[]⟩, .string ⟨#[]⟩, .bool false, .slice none 0 0] 26) = W := ⟨_, rfl⟩
 have X1 : Ext w3 vw4 := by rw [← hvc]; exact ((Ext.refl w3).alloc _).alloc _
 have b0 : NBox vw4 (Xc) 3 #[.int .i64 0] := by rw [← hvc, ← sc0]; exact (NBox.new _ 3 _).ext ((Ext.refl _).alloc _)
 have b1 : NBox vw4 (Xc + 1) 26 #[.int .u8 3, .slice (some ⟨Xc, 0, none⟩) 1 1, .int .i64 1, .slice none 0 0, .int .u64 0, .bool false, .string ⟨#[]⟩, .string ⟨#[]⟩, .string ⟨#[]⟩, .bool false, .slice none 0 0] := by rw [← hvc, ← sc1]; exact NBox.new _ 26 _
 have hl : RdL vw4 ex_c (.slice (some ⟨Xc + 1, 0, none⟩) 1 1) := ⟨_, _, rfl, Nat.le_refl _, by simp [maxLen], fun _ => ⟨Xc + 1, 0, rfl, ⟨⟨_, _, _, b1.cell 0, b1.cell 1, b1.cell 2, b1.cell 3, b1.cell 4, b1.cell 5, b1.cell 6, b1.cell 7, b1.cell 8, b1.cell 9, b1.cell 10, _, _, _, rfl, oneI b0, nilI _, nilP _, lit_ok (by decide), lit_ok (by decide), lit_ok (by decide), by decide, by decide⟩, trivial⟩⟩⟩
 have hc := list18_any ex_c _ vw4 hl (by decide) ex_c_ok
 rw [ex_c_is] at hc
 have HV := Lib.hid hvc
 have HS := Lib.hid hXc
 clear hl b0 b1 sc0 sc1 hvc hXc
 go_upto_region 3 with fail
 go_wp2_with (first | (rw [HS.out, HV.out]; clear HS HV))
 refine hc.mono ?_
 clear hc
 rintro e w4 ⟨hE, u, rfl, hv⟩
 have X0 : Ext w3 w4 := X1.trans hE
 have Hc := Lib.hid (lsV.rd hv)
 obtain ⟨Ac, cc, rfl⟩ := lsV.slice hv
 have HE' := Lib.hid (HE.out.trans X0)
 have Ha' := Lib.hid (RdL.ext X0 Ha.out)
 have Hb' := Lib.hid (RdL.ext X0 Hb.out)
 clear X1 X0 hE hv
 clear HE
 have HE := HE'
 clear HE'
 clear Ha
 have Ha := Ha'
 clear Ha'
 clear Hb
 have Hb := Hb'
 clear Hb'
 go_upto_region 4 with fail
 obtain ⟨Xd, hXd⟩ : ∃ X, w4.heap.size = X := ⟨_, rfl⟩
 have sd0 : (w4).heap.size = Xd := hXd
 have sd1 : ((w4).alloc (.cells #[.int .i64 0] 3)).heap.size = Xd + 1 := by rw [World.size_alloc, sd0]
 have sd2 : (((w4).alloc (.cells #[.int .i64 0] 3)).alloc (.cells #[.int .i64 0] 3)).heap.size = Xd + 1 + 1 := by rw [World.size_alloc, sd1]
 obtain ⟨vw5, hvd⟩ : ∃ W, (((w4).alloc (.cells #[.int .i64 0] 3)).alloc (.cells #[.int .i64 0] 3)).alloc (.cells #[.int .u8 1, .slice none 0 0, .int .i64 0, .slice none 0 0, .int .u64 0, .bool false, .string ⟨#[]⟩, .string ⟨#[]⟩, .string ⟨#[]⟩, .bool false, .slice none 0 0, .int .u8 2, .slice (some ⟨Xd, 0, none⟩) 1 1, .int .i64 0, .slice none 0 0, .int .u64 0, .bool false, .string ⟨#[]⟩, .string ⟨#[]⟩, .string ⟨#[]⟩, .bool false, .slice none 0 0, .int .u8 2, .slice (some ⟨Xd + 1, 0, none⟩) 1 1, .int .i64 0, .slice none 0 0, .int .u64 0, .bool false, .string ⟨#[]⟩, .string ⟨#[]⟩, .string ⟨#[]⟩, .bool false, .slice none 0 0] 26) = W := ⟨_, rfl⟩
 have X1 : Ext w4 vw5 := by rw [← hvd]; exact (((Ext.refl w4).alloc _).alloc _).alloc _
 have b0 : NBox vw5 (Xd) 3 #[.int .i64 0] := by rw [← hvd, ← sd0]; exact (NBox.new _ 3 _).ext (((Ext.refl _).alloc _).alloc _)
 have b1 : NBox vw5 (Xd + 1) 3 #[.int .i64 0] := by rw [← hvd, ← sd1]; exact (NBox.new _ 3 _).ext ((Ext.refl _).alloc _)
 have b2 : NBox vw5 (Xd + 1 + 1) 26 #[.int .u8 1, .slice none 0 0, .int .i64 0, .slice none 0 0, .int .u64 0, .bool false, .string ⟨#[]⟩, .string ⟨#[]⟩, .string ⟨#[]⟩, .bool false, .slice none 0 0, .int .u8 2, .slice (some ⟨Xd, 0, none⟩) 1 1, .int .i64 0, .slice none 0 0, .int .u64 0, .bool false, .string ⟨#[]⟩, .string ⟨#[]⟩, .string ⟨#[]⟩, .bool false, .slice none 0 0, .int .u8 2, .slice (some ⟨Xd + 1, 0, none⟩) 1 1, .int .i64 0, .slice none 0 0, .int .u64 0, .bool false, .string ⟨#[]⟩, .string ⟨#[]⟩, .string ⟨#[]⟩, .bool false, .slice none 0 0] := by rw [← hvd, ← sd2]; exact NBox.new _ 26 _
 have hl : RdL vw5 ex_d (.slice (some ⟨Xd + 1 + 1, 0, none⟩) 3 3) := ⟨_, _, rfl, Nat.le_refl _, by simp [maxLen], fun _ => ⟨Xd + 1 + 1, 0, rfl, ⟨⟨_, _, _, b2.cell 0, b2.cell 1, b2.cell 2, b2.cell 3, b2.cell 4, b2.cell 5, b2.cell 6, b2.cell 7, b2.cell 8, b2.cell 9, b2.cell 10, _, _, _, rfl, nilI _, nilI _, nilP _, lit_ok (by decide), lit_ok (by decide), lit_ok (by decide), by decide, by decide⟩, ⟨⟨_, _, _, b2.cell 11, b2.cell 12, b2.cell 13, b2.cell 14, b2.cell 15, b2.cell 16, b2.cell 17, b2.cell 18, b2.cell 19, b2.cell 20, b2.cell 21, _, _, _, rfl, oneI b0, nilI _, nilP _, lit_ok (by decide), lit_ok (by decide), lit_ok (by decide), by decide, by decide⟩, ⟨⟨_, _, _, b2.cell 22, b2.cell 23, b2.cell 24, b2.cell 25, b2.cell 26, b2.cell 27, b2.cell 28, b2.cell 29, b2.cell 30, b2.cell 31, b2.cell 32, _, _, _, rfl, oneI b1, nilI _, nilP _, lit_ok (by decide), lit_ok (by decide), lit_ok (by decide), by decide, by decide⟩, trivial⟩⟩⟩⟩⟩
 have hc := list18_any ex_d _ vw5 hl (by decide) ex_d_ok
 rw [ex_d_is] at hc
 have HV := Lib.hid hvd
 have HS := Lib.hid hXd
 clear hl b0 b1 b2 sd0 sd1 sd2 hvd hXd
 go_upto_region 4 with fail
 go_wp2_with (first | (rw [HS.out, HV.out]; clear HS HV))
 refine hc.mono ?_
 clear hc
 rintro e w5 ⟨hE, u, rfl, hv⟩
 have X0 : Ext w4 w5 := X1.trans hE
 have Hd := Lib.hid (lsV.rd hv)
 obtain ⟨Ad, cd, rfl⟩ := lsV.slice hv
 have HE' := Lib.hid (HE.out.trans X0)
 have Ha' := Lib.hid (RdL.ext X0 Ha.out)
 have Hb' := Lib.hid (RdL.ext X0 Hb.out)
 have Hc' := Lib.hid (RdL.ext X0 Hc.out)
 clear X1 X0 hE hv
 clear HE
 have HE := HE'
 clear HE'
 clear Ha
 have Ha := Ha'
 clear Ha'
 clear Hb
 have Hb := Hb'
 clear Hb'
 clear Hc
 have Hc := Hc'
 clear Hc'
 obtain ⟨A1, c1, he, -, -, hrow⟩ := Ha.out
 simp only [Value.slice.injEq] at he
 obtain ⟨rfl, -, rfl⟩ := he
 obtain ⟨ab, ao, rfl, hr⟩ := hrow (show 0 < 1 by decide)
 obtain ⟨⟨pv1, tv1, cv1, x0, x1, x2, x3, x4, x5, x6, x7, x8, x9, x10, -⟩, -⟩ := hr
 obtain ⟨A2, c2, he, -, -, hrow2⟩ := Hb.out
 simp only [Value.slice.injEq] at he
 obtain ⟨rfl, -, rfl⟩ := he
 obtain ⟨bb, bo, rfl, hr⟩ := hrow2 (show 0 < 2 by decide)
 obtain ⟨⟨pv2, tv2, cv2, y0, y1, y2, y3, y4, y5, y6, y7, y8, y9, y10, -⟩, ⟨pv3, tv3, cv3, z0, z1, z2, z3, z4, z5, z6, z7, z8, z9, z10, -⟩, -⟩ := hr
 obtain ⟨A4, c4, he, -, -, hrow4⟩ := Hd.out
 simp only [Value.slice.injEq] at he
 obtain ⟨rfl, -, rfl⟩ := he
 obtain ⟨db, do_, rfl, hr⟩ := hrow4 (show 0 < 1 by decide)
 obtain ⟨⟨pv4, tv4, cv4, t0, t1, t2, t3, t4, t5, t6, t7, t8, t9, t10, -⟩, -⟩ := hr
 have hq := idle_any ex_e (.agg #[.int .u8 6, .slice none 0 0, .int .i64 0, .slice none 0 0, .int .u64 0, .bool false, .string ⟨#[]⟩, .string ⟨#[]⟩, .string ⟨#[]⟩, .bool false, .slice none 0 0]) w5 ⟨_, _, _, rfl, nilI _, nilI _, nilP _, lit_ok (by decide), lit_ok (by decide), lit_ok (by decide), by decide, by decide⟩
 rw [ex_e_is] at hq
 clear hrow hrow2 hrow4 Ha Hb Hc Hd x0 x1 x2 x3 x4 x5 x7 x8 x9 x10 y0 y1 y2 y3 y4 y5 y7 y8 y9 y10 z0 z1 z2 z3 z4 z5 z6 z7 z9 z10 t1 t2 t3 t4 t5 t6 t7 t8 t9 t10
 go_upto_region 5 with fail
 go_wp2_with fail
 refine hq.mono ?_
 clear hq x6 y6 z8 t0
 rintro e w9 ⟨r, rfl, rfl, hE⟩
 have HX := Lib.hid (HE.out.trans hE)
 clear hE
 go_wp2_with fail
 go_ret
 exact ⟨_, rfl, rfl, HX.out⟩
end Go.Proofs.Ytkimbpeapolcbaa.Sy
