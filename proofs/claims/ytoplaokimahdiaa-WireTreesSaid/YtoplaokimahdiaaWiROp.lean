/- Chapter 17: the document's Op. (Printed by gwrop.py.) -/
import Derived.Test.YtoplaokimahdiaaWiRNum2
import Derived.Test.YtoplaokimahdiaaWiNodeP
import Derived.WalkKit
namespace Go.Proofs.Ytoplaokimahdiaa.Wi
open Go.RowKit Go.Proofs.Ytoplaokimahdiaa.Bw Go.Proofs.Ytoplaokimahdiaa.Bs

theorem New.one (w : World) {W : World} (h : Ext w W) (c : UInt8) : New w (W.alloc (.cells #[.int .u8 c.toNat] 5)) (.slice (some ⟨W.heap.size, 0, none⟩) 1 1) [c] := by
  refine ⟨h.alloc _, ⟨rfl, .inr ⟨W.heap.size, 1, #[.int .u8 c.toNat], rfl, h.size, NBox.new W 5 _, Nat.le_refl _, by decide, rfl, rfl⟩⟩⟩
theorem small_nat {n : Int} (h : smallB n = true) : ∃ y : Nat, n = (y : Int) ∧ y ≤ 1048576 := by
  unfold smallB at h
  simp only [Bool.and_eq_true, decide_eq_true_eq] at h
  exact ⟨n.toNat, by omega, by omega⟩
theorem pathB_len {p : List Int} (h : mayP p = true) : (pathB p).length ≤ 650 := by
  have := pathE_eq p
  rw [h, if_pos rfl] at this
  exact pathE_len this
theorem textB_len {s : ByteArray} (h : s.size ≤ 100000000000) : (textB s).length ≤ 10 + s.size := by
  unfold textB
  have := num_len (n := s.size) (by omega)
  rw [List.length_append, bl_len]
  omega
theorem pcsB_at {l : List Pc} {i : Nat} {x : Pc} (h : l[i]? = some x) : pcsB (l.drop i) = pcB x ++ pcsB (l.drop (i + 1)) := by
  rw [drop_at h]; rfl

set_option maxRecDepth 100000 in
set_option maxHeartbeats 4000000 in
theorem opR_1 (p : List Int) (a : Int) (t : List Int) (i : Int) (lf : Bool) (lb ky vv : ByteArray) (g : Bool) (c : List Pc) (pA tA cA : Option Addr) (pc tc cc : Nat) (w : World) (hp : RdI w p (.slice pA p.length pc)) (ht : RdI w t (.slice tA t.length tc)) (hcs : RdP w c (.slice cA c.length cc))
    (hi : 0 ≤ i ∧ i ≤ 18446744073709551615) (hm : mayO ⟨1, p, a, t, i, lf, lb, ky, vv, g, c⟩ = true) : Calls Try.prog 35 #[.agg #[.int .u8 1, .slice pA p.length pc, .int .i64 a, .slice tA t.length tc, .int .u64 i, .bool lf, .string lb, .string ky, .string vv, .bool g, .slice cA c.length cc]] w (PutR w (some (opB ⟨1, p, a, t, i, lf, lb, ky, vv, g, c⟩))) := by
  unfold mayO at hm
  simp only [Bool.and_eq_true, decide_eq_true_eq] at hm
  obtain ⟨⟨⟨⟨-, hmp⟩, -⟩, ⟨⟨⟨⟨⟨⟨hsa, hmt⟩, hlb⟩, hky⟩, hvv⟩, -⟩, hcl⟩⟩, hpo⟩ := hm
  obtain ⟨y, rfl, hy⟩ := small_nat hsa
  obtain ⟨z, rfl⟩ : ∃ z : Nat, i = (z : Int) := ⟨i.toNat, by omega⟩
  obtain ⟨w1, hw1⟩ : ∃ W, w.alloc (.cells #[.int .u8 1, .slice pA p.length pc, .int .i64 (y : Int), .slice tA t.length tc, .int .u64 (z : Int), .bool lf, .string lb, .string ky, .string vv, .bool g, .slice cA c.length cc] 66) = W := ⟨_, rfl⟩
  obtain ⟨D, hDD⟩ : ∃ D, w.heap.size = D := ⟨_, rfl⟩
  have E1 : Ext w w1 := by rw [← hw1]; exact (Ext.refl w).alloc _
  have bD : NBox w1 D 66 #[.int .u8 1, .slice pA p.length pc, .int .i64 (y : Int), .slice tA t.length tc, .int .u64 (z : Int), .bool lf, .string lb, .string ky, .string vv, .bool g, .slice cA c.length cc] := by rw [← hw1, ← hDD]; exact NBox.new _ _ _
  have HPP := Lib.hid hp
  have HTT := Lib.hid ht
  have HCC := Lib.hid hcs
  have HMP := Lib.hid hmp
  have HMT := Lib.hid hmt
  have HPO := Lib.hid hpo
  have HW := Lib.hid hw1
  have HD := Lib.hid hDD
  have hzz : z < 18446744073709551616 := by omega
  obtain ⟨kb, hkb⟩ : ∃ kb : UInt8, kb = 1 := ⟨_, rfl⟩
  have hkn : (kb.toNat : Int) = 1 := by rw [hkb]; rfl
  obtain ⟨w_1, hw_1⟩ : ∃ W, w1.alloc (.cells #[.int .u8 kb.toNat] 5) = W := ⟨_, rfl⟩
  have HN1 : Hid (New w w_1 (.slice (some ⟨w1.heap.size, 0, none⟩) 1 1) [kb]) := Lib.hid (by rw [← hw_1]; exact New.one w E1 kb)
  have HD1 : Hid (NBox w_1 D 66 #[.int .u8 1, .slice pA p.length pc, .int .i64 (y : Int), .slice tA t.length tc, .int .u64 (z : Int), .bool lf, .string lb, .string ky, .string vv, .bool g, .slice cA c.length cc]) := Lib.hid (by rw [← hw_1]; exact bD.ext ((Ext.refl _).alloc _))
  rw [hkn] at hw_1
  have HW1 := Lib.hid hw_1
  have HK := Lib.hid hkb
  have d0 := bD.cell 0
  clear hw1 hDD E1 hp ht hcs hmp hmt hpo hsa hw_1 hkn hkb bD hi
  go_enter Try.func35, Try.ntmps35
  go_upto_region 1 with fail
  rw [HW.out, HD.out]
  clear HW HD
  go_upto_region 2 with fail
  have e1 : w1.alloc (.cells #[.int .u8 1] 5) = w_1 := HW1.out
  rw [e1]
  clear e1 HW1 d0
  obtain ⟨S, hS⟩ : ∃ S, w1.heap.size = S := ⟨_, rfl⟩
  rw [hS] at HN1 ⊢
  clear hS
  obtain ⟨ac1, hac⟩ : ∃ l, [kb] = l := ⟨_, rfl⟩
  have la1 : ac1.length ≤ 1 := by rw [← hac]; exact Nat.le_refl 1
  have sl1 : (.slice (some ⟨S, 0, none⟩) 1 1 : Value) = .slice (some ⟨S, 0, none⟩) ac1.length 1 := by rw [← hac]; rfl
  rw [sl1]
  rw [hac, sl1] at HN1
  have HA1 := Lib.hid hac
  clear hac sl1
  have d1 := (HD1.out).cell 1
  have hc := pathR_any p _ w_1 (RdS.ext (HN1.out.ext) HPP.out) HMP.out
  have l2 := pathB_len HMP.out
  go_wp2_with fail
  refine hc.mono ?_
  clear hc d1
  rintro e w' hP
  obtain ⟨v2, rfl, hN2⟩ := PutR.rd hP
  have HX2 := Lib.hid hN2.ext
  have HRD := Lib.hid (RdS.of_owns hN2.own)
  obtain ⟨vA2, vC2, rfl, -⟩ := RdS.of_owns hN2.own
  clear hP hN2
  have HOO := Lib.hid (owns_ext HX2.out HN1.out.own)
  have HNA := Lib.hid (HN1.out.more HX2.out)
  have HSZ := Lib.hid HNA.out.ext.size
  go_wp2_with (at_builtin; refine wpList_append_rd rfl rfl T25 (v := _) (by rfl) HOO.out (by rfl) HRD.out (u8s_one _) (by first | omega | (simp only [List.length_cons, List.length_nil]; omega)) (by first | (simp only [maxLen]; omega) | (simp only [maxLen, List.length_cons, List.length_nil]; omega)) HSZ.out ?_)
  intro v_2 w_2 O1 hg hat
  have HN2 := Lib.hid (HNA.out.app (b := pathB p) O1 hg)
  have HD2 := Lib.hid ((HD1.out.ext HX2.out).fr (Fr.grown hg) ((HD1.out.ext HX2.out).not_own HOO.out (by decide)))
  clear HOO HNA HSZ HRD HX2 O1 hg hat
  obtain ⟨ac2, hac⟩ : ∃ l, ac1 ++ pathB p = l := ⟨_, rfl⟩
  rw [hac] at HN2
  have HA2 := Lib.hid hac
  have la2 : ac2.length ≤ 651 := by rw [← HA2.out, List.length_append]; first | omega | (simp only [List.length_cons, List.length_nil]; omega)
  clear hac
  have d0 := (HD2.out).cell 0
  have d2 := (HD2.out).cell 2
  have hc := numberR_any y (by omega) w_2
  have l3 := num_len (n := y) (by omega)
  have hN := HN2.out.own
  obtain ⟨vA, vC, rfl, -⟩ := RdS.of_owns hN
  clear hN
  go_wp2_with fail
  refine hc.mono ?_
  clear hc d2
  rintro e w' hP
  obtain ⟨v2, rfl, hN2⟩ := PutR.rd hP
  have HX2 := Lib.hid hN2.ext
  have HRD := Lib.hid (RdS.of_owns hN2.own)
  obtain ⟨vA2, vC2, rfl, -⟩ := RdS.of_owns hN2.own
  clear hP hN2
  have HOO := Lib.hid (owns_ext HX2.out HN2.out.own)
  have HNA := Lib.hid (HN2.out.more HX2.out)
  have HSZ := Lib.hid HNA.out.ext.size
  go_wp2_with (at_builtin; refine wpList_append_rd rfl rfl T25 (v := _) (by rfl) HOO.out (by rfl) HRD.out (u8s_one _) (by first | omega | (simp only [List.length_cons, List.length_nil]; omega)) (by first | (simp only [maxLen]; omega) | (simp only [maxLen, List.length_cons, List.length_nil]; omega)) HSZ.out ?_)
  intro v_3 w_3 O1 hg hat
  have HN3 := Lib.hid (HNA.out.app (b := num y) O1 hg)
  have HD3 := Lib.hid ((HD2.out.ext HX2.out).fr (Fr.grown hg) ((HD2.out.ext HX2.out).not_own HOO.out (by decide)))
  clear HOO HNA HSZ HRD HX2 O1 hg hat
  obtain ⟨ac3, hac⟩ : ∃ l, ac2 ++ num y = l := ⟨_, rfl⟩
  rw [hac] at HN3
  have HA3 := Lib.hid hac
  have la3 : ac3.length ≤ 661 := by rw [← HA3.out, List.length_append]; first | omega | (simp only [List.length_cons, List.length_nil]; omega)
  clear hac
  have d4 := (HD3.out).cell 4
  have hc := numberR_any z (by omega) w_3
  have l4 := num_len (n := z) (by omega)
  have hN := HN3.out.own
  obtain ⟨vA, vC, rfl, -⟩ := RdS.of_owns hN
  clear hN
  go_wp2_with fail
  refine hc.mono ?_
  clear hc d4
  rintro e w' hP
  obtain ⟨v2, rfl, hN2⟩ := PutR.rd hP
  have HX2 := Lib.hid hN2.ext
  have HRD := Lib.hid (RdS.of_owns hN2.own)
  obtain ⟨vA2, vC2, rfl, -⟩ := RdS.of_owns hN2.own
  clear hP hN2
  have HOO := Lib.hid (owns_ext HX2.out HN3.out.own)
  have HNA := Lib.hid (HN3.out.more HX2.out)
  have HSZ := Lib.hid HNA.out.ext.size
  go_wp2_with (at_builtin; refine wpList_append_rd rfl rfl T25 (v := _) (by rfl) HOO.out (by rfl) HRD.out (u8s_one _) (by first | omega | (simp only [List.length_cons, List.length_nil]; omega)) (by first | (simp only [maxLen]; omega) | (simp only [maxLen, List.length_cons, List.length_nil]; omega)) HSZ.out ?_)
  intro v_4 w_4 O1 hg hat
  have HN4 := Lib.hid (HNA.out.app (b := num z) O1 hg)
  have HD4 := Lib.hid ((HD3.out.ext HX2.out).fr (Fr.grown hg) ((HD3.out.ext HX2.out).not_own HOO.out (by decide)))
  clear HOO HNA HSZ HRD HX2 O1 hg hat
  obtain ⟨ac4, hac⟩ : ∃ l, ac3 ++ num z = l := ⟨_, rfl⟩
  rw [hac] at HN4
  have HA4 := Lib.hid hac
  have la4 : ac4.length ≤ 671 := by rw [← HA4.out, List.length_append]; first | omega | (simp only [List.length_cons, List.length_nil]; omega)
  clear hac
  have d5 := (HD4.out).cell 5
  have hc := flagR_any lf w_4
  obtain ⟨fb, hfb⟩ : ∃ x : UInt8, (if lf then 1 else 0) = x := ⟨_, rfl⟩
  rw [hfb] at hc
  have HFB := Lib.hid hfb
  clear hfb
  have hN := HN4.out.own
  obtain ⟨vA, vC, rfl, -⟩ := RdS.of_owns hN
  clear hN
  go_wp2_with fail
  refine hc.mono ?_
  clear hc d5
  rintro e u ⟨rfl, rfl⟩
  have HX2 := Lib.hid ((Ext.refl w_4).alloc (.cells #[.int .u8 ((fb.toNat : Int))] 5))
  have HRD := Lib.hid (rd_byte w_4 (fb))
  have HOO := Lib.hid (owns_ext HX2.out HN4.out.own)
  have HNA := Lib.hid (HN4.out.more HX2.out)
  have HSZ := Lib.hid HNA.out.ext.size
  go_wp2_with (at_builtin; refine wpList_append_rd rfl rfl T25 (v := _) (by rfl) HOO.out (by rfl) HRD.out (u8s_one _) (by first | omega | (simp only [List.length_cons, List.length_nil]; omega)) (by first | (simp only [maxLen]; omega) | (simp only [maxLen, List.length_cons, List.length_nil]; omega)) HSZ.out ?_)
  intro v_5 w_5 O1 hg hat
  have HN5 := Lib.hid (HNA.out.app (b := [fb]) O1 hg)
  have HD5 := Lib.hid ((HD4.out.ext HX2.out).fr (Fr.grown hg) ((HD4.out.ext HX2.out).not_own HOO.out (by decide)))
  clear HOO HNA HSZ HRD HX2 O1 hg hat
  obtain ⟨ac5, hac⟩ : ∃ l, ac4 ++ [fb] = l := ⟨_, rfl⟩
  rw [hac] at HN5
  have HA5 := Lib.hid hac
  have la5 : ac5.length ≤ 672 := by rw [← HA5.out, List.length_append]; first | omega | (simp only [List.length_cons, List.length_nil]; omega)
  clear hac
  have d6 := (HD5.out).cell 6
  have hc := textR_any lb (by omega) w_5
  have l6 := textB_len (s := lb) (by omega)
  have hN := HN5.out.own
  obtain ⟨vA, vC, rfl, -⟩ := RdS.of_owns hN
  clear hN
  go_wp2_with fail
  refine hc.mono ?_
  clear hc d6
  rintro e w' hP
  obtain ⟨v2, rfl, hN2⟩ := PutR.rd hP
  have HX2 := Lib.hid hN2.ext
  have HRD := Lib.hid (RdS.of_owns hN2.own)
  obtain ⟨vA2, vC2, rfl, -⟩ := RdS.of_owns hN2.own
  clear hP hN2
  have HOO := Lib.hid (owns_ext HX2.out HN5.out.own)
  have HNA := Lib.hid (HN5.out.more HX2.out)
  have HSZ := Lib.hid HNA.out.ext.size
  go_wp2_with (at_builtin; refine wpList_append_rd rfl rfl T25 (v := _) (by rfl) HOO.out (by rfl) HRD.out (u8s_one _) (by first | omega | (simp only [List.length_cons, List.length_nil]; omega)) (by first | (simp only [maxLen]; omega) | (simp only [maxLen, List.length_cons, List.length_nil]; omega)) HSZ.out ?_)
  intro v_6 w_6 O1 hg hat
  have HN6 := Lib.hid (HNA.out.app (b := textB lb) O1 hg)
  have HD6 := Lib.hid ((HD5.out.ext HX2.out).fr (Fr.grown hg) ((HD5.out.ext HX2.out).not_own HOO.out (by decide)))
  clear HOO HNA HSZ HRD HX2 O1 hg hat
  obtain ⟨ac6, hac⟩ : ∃ l, ac5 ++ textB lb = l := ⟨_, rfl⟩
  rw [hac] at HN6
  have HA6 := Lib.hid hac
  have la6 : ac6.length ≤ 746 := by rw [← HA6.out, List.length_append]; first | omega | (simp only [List.length_cons, List.length_nil]; omega)
  clear hac
  have HF : Hid (opB ⟨1, p, (y : Int), t, (z : Int), lf, lb, ky, vv, g, c⟩ = ac6) := Lib.hid (by
    rw [← HA6.out, ← HA5.out, ← HA4.out, ← HA3.out, ← HA2.out, ← HA1.out, HK.out]
    show 1 :: (pathB p ++ (num y ++ num z ++ flagE lf ++ textB lb)) = _
    simp [flagE, HFB.out])
  have hN := HN6.out.own
  obtain ⟨vA, vC, rfl, -⟩ := RdS.of_owns hN
  clear hN
  go_wp2_with fail
  go_ret
  rw [HF.out]
  exact HN6.out.putR

set_option maxRecDepth 100000 in
set_option maxHeartbeats 4000000 in
theorem opR_2 (p : List Int) (a : Int) (t : List Int) (i : Int) (lf : Bool) (lb ky vv : ByteArray) (g : Bool) (c : List Pc) (pA tA cA : Option Addr) (pc tc cc : Nat) (w : World) (hp : RdI w p (.slice pA p.length pc)) (ht : RdI w t (.slice tA t.length tc)) (hcs : RdP w c (.slice cA c.length cc))
    (hi : 0 ≤ i ∧ i ≤ 18446744073709551615) (hm : mayO ⟨2, p, a, t, i, lf, lb, ky, vv, g, c⟩ = true) : Calls Try.prog 35 #[.agg #[.int .u8 2, .slice pA p.length pc, .int .i64 a, .slice tA t.length tc, .int .u64 i, .bool lf, .string lb, .string ky, .string vv, .bool g, .slice cA c.length cc]] w (PutR w (some (opB ⟨2, p, a, t, i, lf, lb, ky, vv, g, c⟩))) := by
  unfold mayO at hm
  simp only [Bool.and_eq_true, decide_eq_true_eq] at hm
  obtain ⟨⟨⟨⟨-, hmp⟩, -⟩, ⟨⟨⟨⟨⟨⟨hsa, hmt⟩, hlb⟩, hky⟩, hvv⟩, -⟩, hcl⟩⟩, hpo⟩ := hm
  obtain ⟨y, rfl, hy⟩ := small_nat hsa
  obtain ⟨z, rfl⟩ : ∃ z : Nat, i = (z : Int) := ⟨i.toNat, by omega⟩
  obtain ⟨w1, hw1⟩ : ∃ W, w.alloc (.cells #[.int .u8 2, .slice pA p.length pc, .int .i64 (y : Int), .slice tA t.length tc, .int .u64 (z : Int), .bool lf, .string lb, .string ky, .string vv, .bool g, .slice cA c.length cc] 66) = W := ⟨_, rfl⟩
  obtain ⟨D, hDD⟩ : ∃ D, w.heap.size = D := ⟨_, rfl⟩
  have E1 : Ext w w1 := by rw [← hw1]; exact (Ext.refl w).alloc _
  have bD : NBox w1 D 66 #[.int .u8 2, .slice pA p.length pc, .int .i64 (y : Int), .slice tA t.length tc, .int .u64 (z : Int), .bool lf, .string lb, .string ky, .string vv, .bool g, .slice cA c.length cc] := by rw [← hw1, ← hDD]; exact NBox.new _ _ _
  have HPP := Lib.hid hp
  have HTT := Lib.hid ht
  have HCC := Lib.hid hcs
  have HMP := Lib.hid hmp
  have HMT := Lib.hid hmt
  have HPO := Lib.hid hpo
  have HW := Lib.hid hw1
  have HD := Lib.hid hDD
  have hzz : z < 18446744073709551616 := by omega
  obtain ⟨kb, hkb⟩ : ∃ kb : UInt8, kb = 2 := ⟨_, rfl⟩
  have hkn : (kb.toNat : Int) = 2 := by rw [hkb]; rfl
  obtain ⟨w_1, hw_1⟩ : ∃ W, w1.alloc (.cells #[.int .u8 kb.toNat] 5) = W := ⟨_, rfl⟩
  have HN1 : Hid (New w w_1 (.slice (some ⟨w1.heap.size, 0, none⟩) 1 1) [kb]) := Lib.hid (by rw [← hw_1]; exact New.one w E1 kb)
  have HD1 : Hid (NBox w_1 D 66 #[.int .u8 2, .slice pA p.length pc, .int .i64 (y : Int), .slice tA t.length tc, .int .u64 (z : Int), .bool lf, .string lb, .string ky, .string vv, .bool g, .slice cA c.length cc]) := Lib.hid (by rw [← hw_1]; exact bD.ext ((Ext.refl _).alloc _))
  rw [hkn] at hw_1
  have HW1 := Lib.hid hw_1
  have HK := Lib.hid hkb
  have d0 := bD.cell 0
  clear hw1 hDD E1 hp ht hcs hmp hmt hpo hsa hw_1 hkn hkb bD hi
  go_enter Try.func35, Try.ntmps35
  go_upto_region 1 with fail
  rw [HW.out, HD.out]
  clear HW HD
  go_upto_region 2 with fail
  have e1 : w1.alloc (.cells #[.int .u8 2] 5) = w_1 := HW1.out
  rw [e1]
  clear e1 HW1 d0
  obtain ⟨S, hS⟩ : ∃ S, w1.heap.size = S := ⟨_, rfl⟩
  rw [hS] at HN1 ⊢
  clear hS
  obtain ⟨ac1, hac⟩ : ∃ l, [kb] = l := ⟨_, rfl⟩
  have la1 : ac1.length ≤ 1 := by rw [← hac]; exact Nat.le_refl 1
  have sl1 : (.slice (some ⟨S, 0, none⟩) 1 1 : Value) = .slice (some ⟨S, 0, none⟩) ac1.length 1 := by rw [← hac]; rfl
  rw [sl1]
  rw [hac, sl1] at HN1
  have HA1 := Lib.hid hac
  clear hac sl1
  have d1 := (HD1.out).cell 1
  have hc := pathR_any p _ w_1 (RdS.ext (HN1.out.ext) HPP.out) HMP.out
  have l2 := pathB_len HMP.out
  go_wp2_with fail
  refine hc.mono ?_
  clear hc d1
  rintro e w' hP
  obtain ⟨v2, rfl, hN2⟩ := PutR.rd hP
  have HX2 := Lib.hid hN2.ext
  have HRD := Lib.hid (RdS.of_owns hN2.own)
  obtain ⟨vA2, vC2, rfl, -⟩ := RdS.of_owns hN2.own
  clear hP hN2
  have HOO := Lib.hid (owns_ext HX2.out HN1.out.own)
  have HNA := Lib.hid (HN1.out.more HX2.out)
  have HSZ := Lib.hid HNA.out.ext.size
  go_wp2_with (at_builtin; refine wpList_append_rd rfl rfl T25 (v := _) (by rfl) HOO.out (by rfl) HRD.out (u8s_one _) (by first | omega | (simp only [List.length_cons, List.length_nil]; omega)) (by first | (simp only [maxLen]; omega) | (simp only [maxLen, List.length_cons, List.length_nil]; omega)) HSZ.out ?_)
  intro v_2 w_2 O1 hg hat
  have HN2 := Lib.hid (HNA.out.app (b := pathB p) O1 hg)
  have HD2 := Lib.hid ((HD1.out.ext HX2.out).fr (Fr.grown hg) ((HD1.out.ext HX2.out).not_own HOO.out (by decide)))
  clear HOO HNA HSZ HRD HX2 O1 hg hat
  obtain ⟨ac2, hac⟩ : ∃ l, ac1 ++ pathB p = l := ⟨_, rfl⟩
  rw [hac] at HN2
  have HA2 := Lib.hid hac
  have la2 : ac2.length ≤ 651 := by rw [← HA2.out, List.length_append]; first | omega | (simp only [List.length_cons, List.length_nil]; omega)
  clear hac
  have d0 := (HD2.out).cell 0
  have HF : Hid (opB ⟨2, p, (y : Int), t, (z : Int), lf, lb, ky, vv, g, c⟩ = ac2) := Lib.hid (by
    rw [← HA2.out, ← HA1.out, HK.out]
    show 2 :: (pathB p ++ ([])) = _
    simp)
  have hN := HN2.out.own
  obtain ⟨vA, vC, rfl, -⟩ := RdS.of_owns hN
  clear hN
  go_wp2_with fail
  go_ret
  rw [HF.out]
  exact HN2.out.putR

set_option maxRecDepth 100000 in
set_option maxHeartbeats 4000000 in
theorem opR_3 (p : List Int) (a : Int) (t : List Int) (i : Int) (lf : Bool) (lb ky vv : ByteArray) (g : Bool) (c : List Pc) (pA tA cA : Option Addr) (pc tc cc : Nat) (w : World) (hp : RdI w p (.slice pA p.length pc)) (ht : RdI w t (.slice tA t.length tc)) (hcs : RdP w c (.slice cA c.length cc))
    (hi : 0 ≤ i ∧ i ≤ 18446744073709551615) (hm : mayO ⟨3, p, a, t, i, lf, lb, ky, vv, g, c⟩ = true) : Calls Try.prog 35 #[.agg #[.int .u8 3, .slice pA p.length pc, .int .i64 a, .slice tA t.length tc, .int .u64 i, .bool lf, .string lb, .string ky, .string vv, .bool g, .slice cA c.length cc]] w (PutR w (some (opB ⟨3, p, a, t, i, lf, lb, ky, vv, g, c⟩))) := by
  unfold mayO at hm
  simp only [Bool.and_eq_true, decide_eq_true_eq] at hm
  obtain ⟨⟨⟨⟨-, hmp⟩, -⟩, ⟨⟨⟨⟨⟨⟨hsa, hmt⟩, hlb⟩, hky⟩, hvv⟩, -⟩, hcl⟩⟩, hpo⟩ := hm
  obtain ⟨y, rfl, hy⟩ := small_nat hsa
  obtain ⟨z, rfl⟩ : ∃ z : Nat, i = (z : Int) := ⟨i.toNat, by omega⟩
  obtain ⟨w1, hw1⟩ : ∃ W, w.alloc (.cells #[.int .u8 3, .slice pA p.length pc, .int .i64 (y : Int), .slice tA t.length tc, .int .u64 (z : Int), .bool lf, .string lb, .string ky, .string vv, .bool g, .slice cA c.length cc] 66) = W := ⟨_, rfl⟩
  obtain ⟨D, hDD⟩ : ∃ D, w.heap.size = D := ⟨_, rfl⟩
  have E1 : Ext w w1 := by rw [← hw1]; exact (Ext.refl w).alloc _
  have bD : NBox w1 D 66 #[.int .u8 3, .slice pA p.length pc, .int .i64 (y : Int), .slice tA t.length tc, .int .u64 (z : Int), .bool lf, .string lb, .string ky, .string vv, .bool g, .slice cA c.length cc] := by rw [← hw1, ← hDD]; exact NBox.new _ _ _
  have HPP := Lib.hid hp
  have HTT := Lib.hid ht
  have HCC := Lib.hid hcs
  have HMP := Lib.hid hmp
  have HMT := Lib.hid hmt
  have HPO := Lib.hid hpo
  have HW := Lib.hid hw1
  have HD := Lib.hid hDD
  have hzz : z < 18446744073709551616 := by omega
  obtain ⟨kb, hkb⟩ : ∃ kb : UInt8, kb = 3 := ⟨_, rfl⟩
  have hkn : (kb.toNat : Int) = 3 := by rw [hkb]; rfl
  obtain ⟨w_1, hw_1⟩ : ∃ W, w1.alloc (.cells #[.int .u8 kb.toNat] 5) = W := ⟨_, rfl⟩
  have HN1 : Hid (New w w_1 (.slice (some ⟨w1.heap.size, 0, none⟩) 1 1) [kb]) := Lib.hid (by rw [← hw_1]; exact New.one w E1 kb)
  have HD1 : Hid (NBox w_1 D 66 #[.int .u8 3, .slice pA p.length pc, .int .i64 (y : Int), .slice tA t.length tc, .int .u64 (z : Int), .bool lf, .string lb, .string ky, .string vv, .bool g, .slice cA c.length cc]) := Lib.hid (by rw [← hw_1]; exact bD.ext ((Ext.refl _).alloc _))
  rw [hkn] at hw_1
  have HW1 := Lib.hid hw_1
  have HK := Lib.hid hkb
  have d0 := bD.cell 0
  clear hw1 hDD E1 hp ht hcs hmp hmt hpo hsa hw_1 hkn hkb bD hi
  go_enter Try.func35, Try.ntmps35
  go_upto_region 1 with fail
  rw [HW.out, HD.out]
  clear HW HD
  go_upto_region 2 with fail
  have e1 : w1.alloc (.cells #[.int .u8 3] 5) = w_1 := HW1.out
  rw [e1]
  clear e1 HW1 d0
  obtain ⟨S, hS⟩ : ∃ S, w1.heap.size = S := ⟨_, rfl⟩
  rw [hS] at HN1 ⊢
  clear hS
  obtain ⟨ac1, hac⟩ : ∃ l, [kb] = l := ⟨_, rfl⟩
  have la1 : ac1.length ≤ 1 := by rw [← hac]; exact Nat.le_refl 1
  have sl1 : (.slice (some ⟨S, 0, none⟩) 1 1 : Value) = .slice (some ⟨S, 0, none⟩) ac1.length 1 := by rw [← hac]; rfl
  rw [sl1]
  rw [hac, sl1] at HN1
  have HA1 := Lib.hid hac
  clear hac sl1
  have d1 := (HD1.out).cell 1
  have hc := pathR_any p _ w_1 (RdS.ext (HN1.out.ext) HPP.out) HMP.out
  have l2 := pathB_len HMP.out
  go_wp2_with fail
  refine hc.mono ?_
  clear hc d1
  rintro e w' hP
  obtain ⟨v2, rfl, hN2⟩ := PutR.rd hP
  have HX2 := Lib.hid hN2.ext
  have HRD := Lib.hid (RdS.of_owns hN2.own)
  obtain ⟨vA2, vC2, rfl, -⟩ := RdS.of_owns hN2.own
  clear hP hN2
  have HOO := Lib.hid (owns_ext HX2.out HN1.out.own)
  have HNA := Lib.hid (HN1.out.more HX2.out)
  have HSZ := Lib.hid HNA.out.ext.size
  go_wp2_with (at_builtin; refine wpList_append_rd rfl rfl T25 (v := _) (by rfl) HOO.out (by rfl) HRD.out (u8s_one _) (by first | omega | (simp only [List.length_cons, List.length_nil]; omega)) (by first | (simp only [maxLen]; omega) | (simp only [maxLen, List.length_cons, List.length_nil]; omega)) HSZ.out ?_)
  intro v_2 w_2 O1 hg hat
  have HN2 := Lib.hid (HNA.out.app (b := pathB p) O1 hg)
  have HD2 := Lib.hid ((HD1.out.ext HX2.out).fr (Fr.grown hg) ((HD1.out.ext HX2.out).not_own HOO.out (by decide)))
  clear HOO HNA HSZ HRD HX2 O1 hg hat
  obtain ⟨ac2, hac⟩ : ∃ l, ac1 ++ pathB p = l := ⟨_, rfl⟩
  rw [hac] at HN2
  have HA2 := Lib.hid hac
  have la2 : ac2.length ≤ 651 := by rw [← HA2.out, List.length_append]; first | omega | (simp only [List.length_cons, List.length_nil]; omega)
  clear hac
  have d0 := (HD2.out).cell 0
  have d3 := (HD2.out).cell 3
  have hc := pathR_any t _ w_2 (RdS.ext (HN2.out.ext) HTT.out) HMT.out
  have l3 := pathB_len HMT.out
  have hN := HN2.out.own
  obtain ⟨vA, vC, rfl, -⟩ := RdS.of_owns hN
  clear hN
  go_wp2_with fail
  refine hc.mono ?_
  clear hc d3
  rintro e w' hP
  obtain ⟨v2, rfl, hN2⟩ := PutR.rd hP
  have HX2 := Lib.hid hN2.ext
  have HRD := Lib.hid (RdS.of_owns hN2.own)
  obtain ⟨vA2, vC2, rfl, -⟩ := RdS.of_owns hN2.own
  clear hP hN2
  have HOO := Lib.hid (owns_ext HX2.out HN2.out.own)
  have HNA := Lib.hid (HN2.out.more HX2.out)
  have HSZ := Lib.hid HNA.out.ext.size
  go_wp2_with (at_builtin; refine wpList_append_rd rfl rfl T25 (v := _) (by rfl) HOO.out (by rfl) HRD.out (u8s_one _) (by first | omega | (simp only [List.length_cons, List.length_nil]; omega)) (by first | (simp only [maxLen]; omega) | (simp only [maxLen, List.length_cons, List.length_nil]; omega)) HSZ.out ?_)
  intro v_3 w_3 O1 hg hat
  have HN3 := Lib.hid (HNA.out.app (b := pathB t) O1 hg)
  have HD3 := Lib.hid ((HD2.out.ext HX2.out).fr (Fr.grown hg) ((HD2.out.ext HX2.out).not_own HOO.out (by decide)))
  clear HOO HNA HSZ HRD HX2 O1 hg hat
  obtain ⟨ac3, hac⟩ : ∃ l, ac2 ++ pathB t = l := ⟨_, rfl⟩
  rw [hac] at HN3
  have HA3 := Lib.hid hac
  have la3 : ac3.length ≤ 1301 := by rw [← HA3.out, List.length_append]; first | omega | (simp only [List.length_cons, List.length_nil]; omega)
  clear hac
  have d2 := (HD3.out).cell 2
  have hc := numberR_any y (by omega) w_3
  have l4 := num_len (n := y) (by omega)
  have hN := HN3.out.own
  obtain ⟨vA, vC, rfl, -⟩ := RdS.of_owns hN
  clear hN
  go_wp2_with fail
  refine hc.mono ?_
  clear hc d2
  rintro e w' hP
  obtain ⟨v2, rfl, hN2⟩ := PutR.rd hP
  have HX2 := Lib.hid hN2.ext
  have HRD := Lib.hid (RdS.of_owns hN2.own)
  obtain ⟨vA2, vC2, rfl, -⟩ := RdS.of_owns hN2.own
  clear hP hN2
  have HOO := Lib.hid (owns_ext HX2.out HN3.out.own)
  have HNA := Lib.hid (HN3.out.more HX2.out)
  have HSZ := Lib.hid HNA.out.ext.size
  go_wp2_with (at_builtin; refine wpList_append_rd rfl rfl T25 (v := _) (by rfl) HOO.out (by rfl) HRD.out (u8s_one _) (by first | omega | (simp only [List.length_cons, List.length_nil]; omega)) (by first | (simp only [maxLen]; omega) | (simp only [maxLen, List.length_cons, List.length_nil]; omega)) HSZ.out ?_)
  intro v_4 w_4 O1 hg hat
  have HN4 := Lib.hid (HNA.out.app (b := num y) O1 hg)
  have HD4 := Lib.hid ((HD3.out.ext HX2.out).fr (Fr.grown hg) ((HD3.out.ext HX2.out).not_own HOO.out (by decide)))
  clear HOO HNA HSZ HRD HX2 O1 hg hat
  obtain ⟨ac4, hac⟩ : ∃ l, ac3 ++ num y = l := ⟨_, rfl⟩
  rw [hac] at HN4
  have HA4 := Lib.hid hac
  have la4 : ac4.length ≤ 1311 := by rw [← HA4.out, List.length_append]; first | omega | (simp only [List.length_cons, List.length_nil]; omega)
  clear hac
  have HF : Hid (opB ⟨3, p, (y : Int), t, (z : Int), lf, lb, ky, vv, g, c⟩ = ac4) := Lib.hid (by
    rw [← HA4.out, ← HA3.out, ← HA2.out, ← HA1.out, HK.out]
    show 3 :: (pathB p ++ (pathB t ++ num y)) = _
    simp)
  have hN := HN4.out.own
  obtain ⟨vA, vC, rfl, -⟩ := RdS.of_owns hN
  clear hN
  go_wp2_with fail
  go_ret
  rw [HF.out]
  exact HN4.out.putR

set_option maxRecDepth 100000 in
set_option maxHeartbeats 4000000 in
theorem opR_4 (p : List Int) (a : Int) (t : List Int) (i : Int) (lf : Bool) (lb ky vv : ByteArray) (g : Bool) (c : List Pc) (pA tA cA : Option Addr) (pc tc cc : Nat) (w : World) (hp : RdI w p (.slice pA p.length pc)) (ht : RdI w t (.slice tA t.length tc)) (hcs : RdP w c (.slice cA c.length cc))
    (hi : 0 ≤ i ∧ i ≤ 18446744073709551615) (hm : mayO ⟨4, p, a, t, i, lf, lb, ky, vv, g, c⟩ = true) : Calls Try.prog 35 #[.agg #[.int .u8 4, .slice pA p.length pc, .int .i64 a, .slice tA t.length tc, .int .u64 i, .bool lf, .string lb, .string ky, .string vv, .bool g, .slice cA c.length cc]] w (PutR w (some (opB ⟨4, p, a, t, i, lf, lb, ky, vv, g, c⟩))) := by
  unfold mayO at hm
  simp only [Bool.and_eq_true, decide_eq_true_eq] at hm
  obtain ⟨⟨⟨⟨-, hmp⟩, -⟩, ⟨⟨⟨⟨⟨⟨hsa, hmt⟩, hlb⟩, hky⟩, hvv⟩, -⟩, hcl⟩⟩, hpo⟩ := hm
  obtain ⟨y, rfl, hy⟩ := small_nat hsa
  obtain ⟨z, rfl⟩ : ∃ z : Nat, i = (z : Int) := ⟨i.toNat, by omega⟩
  obtain ⟨w1, hw1⟩ : ∃ W, w.alloc (.cells #[.int .u8 4, .slice pA p.length pc, .int .i64 (y : Int), .slice tA t.length tc, .int .u64 (z : Int), .bool lf, .string lb, .string ky, .string vv, .bool g, .slice cA c.length cc] 66) = W := ⟨_, rfl⟩
  obtain ⟨D, hDD⟩ : ∃ D, w.heap.size = D := ⟨_, rfl⟩
  have E1 : Ext w w1 := by rw [← hw1]; exact (Ext.refl w).alloc _
  have bD : NBox w1 D 66 #[.int .u8 4, .slice pA p.length pc, .int .i64 (y : Int), .slice tA t.length tc, .int .u64 (z : Int), .bool lf, .string lb, .string ky, .string vv, .bool g, .slice cA c.length cc] := by rw [← hw1, ← hDD]; exact NBox.new _ _ _
  have HPP := Lib.hid hp
  have HTT := Lib.hid ht
  have HCC := Lib.hid hcs
  have HMP := Lib.hid hmp
  have HMT := Lib.hid hmt
  have HPO := Lib.hid hpo
  have HW := Lib.hid hw1
  have HD := Lib.hid hDD
  have hzz : z < 18446744073709551616 := by omega
  obtain ⟨kb, hkb⟩ : ∃ kb : UInt8, kb = 4 := ⟨_, rfl⟩
  have hkn : (kb.toNat : Int) = 4 := by rw [hkb]; rfl
  obtain ⟨w_1, hw_1⟩ : ∃ W, w1.alloc (.cells #[.int .u8 kb.toNat] 5) = W := ⟨_, rfl⟩
  have HN1 : Hid (New w w_1 (.slice (some ⟨w1.heap.size, 0, none⟩) 1 1) [kb]) := Lib.hid (by rw [← hw_1]; exact New.one w E1 kb)
  have HD1 : Hid (NBox w_1 D 66 #[.int .u8 4, .slice pA p.length pc, .int .i64 (y : Int), .slice tA t.length tc, .int .u64 (z : Int), .bool lf, .string lb, .string ky, .string vv, .bool g, .slice cA c.length cc]) := Lib.hid (by rw [← hw_1]; exact bD.ext ((Ext.refl _).alloc _))
  rw [hkn] at hw_1
  have HW1 := Lib.hid hw_1
  have HK := Lib.hid hkb
  have d0 := bD.cell 0
  clear hw1 hDD E1 hp ht hcs hmp hmt hpo hsa hw_1 hkn hkb bD hi
  go_enter Try.func35, Try.ntmps35
  go_upto_region 1 with fail
  rw [HW.out, HD.out]
  clear HW HD
  go_upto_region 2 with fail
  have e1 : w1.alloc (.cells #[.int .u8 4] 5) = w_1 := HW1.out
  rw [e1]
  clear e1 HW1 d0
  obtain ⟨S, hS⟩ : ∃ S, w1.heap.size = S := ⟨_, rfl⟩
  rw [hS] at HN1 ⊢
  clear hS
  obtain ⟨ac1, hac⟩ : ∃ l, [kb] = l := ⟨_, rfl⟩
  have la1 : ac1.length ≤ 1 := by rw [← hac]; exact Nat.le_refl 1
  have sl1 : (.slice (some ⟨S, 0, none⟩) 1 1 : Value) = .slice (some ⟨S, 0, none⟩) ac1.length 1 := by rw [← hac]; rfl
  rw [sl1]
  rw [hac, sl1] at HN1
  have HA1 := Lib.hid hac
  clear hac sl1
  have d1 := (HD1.out).cell 1
  have hc := pathR_any p _ w_1 (RdS.ext (HN1.out.ext) HPP.out) HMP.out
  have l2 := pathB_len HMP.out
  go_wp2_with fail
  refine hc.mono ?_
  clear hc d1
  rintro e w' hP
  obtain ⟨v2, rfl, hN2⟩ := PutR.rd hP
  have HX2 := Lib.hid hN2.ext
  have HRD := Lib.hid (RdS.of_owns hN2.own)
  obtain ⟨vA2, vC2, rfl, -⟩ := RdS.of_owns hN2.own
  clear hP hN2
  have HOO := Lib.hid (owns_ext HX2.out HN1.out.own)
  have HNA := Lib.hid (HN1.out.more HX2.out)
  have HSZ := Lib.hid HNA.out.ext.size
  go_wp2_with (at_builtin; refine wpList_append_rd rfl rfl T25 (v := _) (by rfl) HOO.out (by rfl) HRD.out (u8s_one _) (by first | omega | (simp only [List.length_cons, List.length_nil]; omega)) (by first | (simp only [maxLen]; omega) | (simp only [maxLen, List.length_cons, List.length_nil]; omega)) HSZ.out ?_)
  intro v_2 w_2 O1 hg hat
  have HN2 := Lib.hid (HNA.out.app (b := pathB p) O1 hg)
  have HD2 := Lib.hid ((HD1.out.ext HX2.out).fr (Fr.grown hg) ((HD1.out.ext HX2.out).not_own HOO.out (by decide)))
  clear HOO HNA HSZ HRD HX2 O1 hg hat
  obtain ⟨ac2, hac⟩ : ∃ l, ac1 ++ pathB p = l := ⟨_, rfl⟩
  rw [hac] at HN2
  have HA2 := Lib.hid hac
  have la2 : ac2.length ≤ 651 := by rw [← HA2.out, List.length_append]; first | omega | (simp only [List.length_cons, List.length_nil]; omega)
  clear hac
  have d0 := (HD2.out).cell 0
  have d7 := (HD2.out).cell 7
  have hc := textR_any ky (by omega) w_2
  have l3 := textB_len (s := ky) (by omega)
  have hN := HN2.out.own
  obtain ⟨vA, vC, rfl, -⟩ := RdS.of_owns hN
  clear hN
  go_wp2_with fail
  refine hc.mono ?_
  clear hc d7
  rintro e w' hP
  obtain ⟨v2, rfl, hN2⟩ := PutR.rd hP
  have HX2 := Lib.hid hN2.ext
  have HRD := Lib.hid (RdS.of_owns hN2.own)
  obtain ⟨vA2, vC2, rfl, -⟩ := RdS.of_owns hN2.own
  clear hP hN2
  have HOO := Lib.hid (owns_ext HX2.out HN2.out.own)
  have HNA := Lib.hid (HN2.out.more HX2.out)
  have HSZ := Lib.hid HNA.out.ext.size
  go_wp2_with (at_builtin; refine wpList_append_rd rfl rfl T25 (v := _) (by rfl) HOO.out (by rfl) HRD.out (u8s_one _) (by first | omega | (simp only [List.length_cons, List.length_nil]; omega)) (by first | (simp only [maxLen]; omega) | (simp only [maxLen, List.length_cons, List.length_nil]; omega)) HSZ.out ?_)
  intro v_3 w_3 O1 hg hat
  have HN3 := Lib.hid (HNA.out.app (b := textB ky) O1 hg)
  have HD3 := Lib.hid ((HD2.out.ext HX2.out).fr (Fr.grown hg) ((HD2.out.ext HX2.out).not_own HOO.out (by decide)))
  clear HOO HNA HSZ HRD HX2 O1 hg hat
  obtain ⟨ac3, hac⟩ : ∃ l, ac2 ++ textB ky = l := ⟨_, rfl⟩
  rw [hac] at HN3
  have HA3 := Lib.hid hac
  have la3 : ac3.length ≤ 725 := by rw [← HA3.out, List.length_append]; first | omega | (simp only [List.length_cons, List.length_nil]; omega)
  clear hac
  have d9 := (HD3.out).cell 9
  have hc := flagR_any g w_3
  obtain ⟨fb, hfb⟩ : ∃ x : UInt8, (if g then 1 else 0) = x := ⟨_, rfl⟩
  rw [hfb] at hc
  have HFB := Lib.hid hfb
  clear hfb
  have hN := HN3.out.own
  obtain ⟨vA, vC, rfl, -⟩ := RdS.of_owns hN
  clear hN
  go_wp2_with fail
  refine hc.mono ?_
  clear hc d9
  rintro e u ⟨rfl, rfl⟩
  have HX2 := Lib.hid ((Ext.refl w_3).alloc (.cells #[.int .u8 ((fb.toNat : Int))] 5))
  have HRD := Lib.hid (rd_byte w_3 (fb))
  have HOO := Lib.hid (owns_ext HX2.out HN3.out.own)
  have HNA := Lib.hid (HN3.out.more HX2.out)
  have HSZ := Lib.hid HNA.out.ext.size
  go_wp2_with (at_builtin; refine wpList_append_rd rfl rfl T25 (v := _) (by rfl) HOO.out (by rfl) HRD.out (u8s_one _) (by first | omega | (simp only [List.length_cons, List.length_nil]; omega)) (by first | (simp only [maxLen]; omega) | (simp only [maxLen, List.length_cons, List.length_nil]; omega)) HSZ.out ?_)
  intro v_4 w_4 O1 hg hat
  have HN4 := Lib.hid (HNA.out.app (b := [fb]) O1 hg)
  have HD4 := Lib.hid ((HD3.out.ext HX2.out).fr (Fr.grown hg) ((HD3.out.ext HX2.out).not_own HOO.out (by decide)))
  clear HOO HNA HSZ HRD HX2 O1 hg hat
  obtain ⟨ac4, hac⟩ : ∃ l, ac3 ++ [fb] = l := ⟨_, rfl⟩
  rw [hac] at HN4
  have HA4 := Lib.hid hac
  have la4 : ac4.length ≤ 726 := by rw [← HA4.out, List.length_append]; first | omega | (simp only [List.length_cons, List.length_nil]; omega)
  clear hac
  have d8 := (HD4.out).cell 8
  have hc := textR_any vv (by omega) w_4
  have l5 := textB_len (s := vv) (by omega)
  have hN := HN4.out.own
  obtain ⟨vA, vC, rfl, -⟩ := RdS.of_owns hN
  clear hN
  go_wp2_with fail
  refine hc.mono ?_
  clear hc d8
  rintro e w' hP
  obtain ⟨v2, rfl, hN2⟩ := PutR.rd hP
  have HX2 := Lib.hid hN2.ext
  have HRD := Lib.hid (RdS.of_owns hN2.own)
  obtain ⟨vA2, vC2, rfl, -⟩ := RdS.of_owns hN2.own
  clear hP hN2
  have HOO := Lib.hid (owns_ext HX2.out HN4.out.own)
  have HNA := Lib.hid (HN4.out.more HX2.out)
  have HSZ := Lib.hid HNA.out.ext.size
  go_wp2_with (at_builtin; refine wpList_append_rd rfl rfl T25 (v := _) (by rfl) HOO.out (by rfl) HRD.out (u8s_one _) (by first | omega | (simp only [List.length_cons, List.length_nil]; omega)) (by first | (simp only [maxLen]; omega) | (simp only [maxLen, List.length_cons, List.length_nil]; omega)) HSZ.out ?_)
  intro v_5 w_5 O1 hg hat
  have HN5 := Lib.hid (HNA.out.app (b := textB vv) O1 hg)
  have HD5 := Lib.hid ((HD4.out.ext HX2.out).fr (Fr.grown hg) ((HD4.out.ext HX2.out).not_own HOO.out (by decide)))
  clear HOO HNA HSZ HRD HX2 O1 hg hat
  obtain ⟨ac5, hac⟩ : ∃ l, ac4 ++ textB vv = l := ⟨_, rfl⟩
  rw [hac] at HN5
  have HA5 := Lib.hid hac
  have la5 : ac5.length ≤ 992 := by rw [← HA5.out, List.length_append]; first | omega | (simp only [List.length_cons, List.length_nil]; omega)
  clear hac
  have HF : Hid (opB ⟨4, p, (y : Int), t, (z : Int), lf, lb, ky, vv, g, c⟩ = ac5) := Lib.hid (by
    rw [← HA5.out, ← HA4.out, ← HA3.out, ← HA2.out, ← HA1.out, HK.out]
    show 4 :: (pathB p ++ (textB ky ++ flagE g ++ textB vv)) = _
    simp [flagE, HFB.out])
  have hN := HN5.out.own
  obtain ⟨vA, vC, rfl, -⟩ := RdS.of_owns hN
  clear hN
  go_wp2_with fail
  go_ret
  rw [HF.out]
  exact HN5.out.putR

set_option maxRecDepth 100000 in
set_option maxHeartbeats 4000000 in
theorem opR_5 (p : List Int) (a : Int) (t : List Int) (i : Int) (lf : Bool) (lb ky vv : ByteArray) (g : Bool) (c : List Pc) (pA tA cA : Option Addr) (pc tc cc : Nat) (w : World) (hp : RdI w p (.slice pA p.length pc)) (ht : RdI w t (.slice tA t.length tc)) (hcs : RdP w c (.slice cA c.length cc))
    (hi : 0 ≤ i ∧ i ≤ 18446744073709551615) (hm : mayO ⟨5, p, a, t, i, lf, lb, ky, vv, g, c⟩ = true) : Calls Try.prog 35 #[.agg #[.int .u8 5, .slice pA p.length pc, .int .i64 a, .slice tA t.length tc, .int .u64 i, .bool lf, .string lb, .string ky, .string vv, .bool g, .slice cA c.length cc]] w (PutR w (some (opB ⟨5, p, a, t, i, lf, lb, ky, vv, g, c⟩))) := by
  unfold mayO at hm
  simp only [Bool.and_eq_true, decide_eq_true_eq] at hm
  obtain ⟨⟨⟨⟨-, hmp⟩, -⟩, ⟨⟨⟨⟨⟨⟨hsa, hmt⟩, hlb⟩, hky⟩, hvv⟩, -⟩, hcl⟩⟩, hpo⟩ := hm
  obtain ⟨y, rfl, hy⟩ := small_nat hsa
  obtain ⟨z, rfl⟩ : ∃ z : Nat, i = (z : Int) := ⟨i.toNat, by omega⟩
  obtain ⟨w1, hw1⟩ : ∃ W, w.alloc (.cells #[.int .u8 5, .slice pA p.length pc, .int .i64 (y : Int), .slice tA t.length tc, .int .u64 (z : Int), .bool lf, .string lb, .string ky, .string vv, .bool g, .slice cA c.length cc] 66) = W := ⟨_, rfl⟩
  obtain ⟨D, hDD⟩ : ∃ D, w.heap.size = D := ⟨_, rfl⟩
  have E1 : Ext w w1 := by rw [← hw1]; exact (Ext.refl w).alloc _
  have bD : NBox w1 D 66 #[.int .u8 5, .slice pA p.length pc, .int .i64 (y : Int), .slice tA t.length tc, .int .u64 (z : Int), .bool lf, .string lb, .string ky, .string vv, .bool g, .slice cA c.length cc] := by rw [← hw1, ← hDD]; exact NBox.new _ _ _
  have HPP := Lib.hid hp
  have HTT := Lib.hid ht
  have HCC := Lib.hid hcs
  have HMP := Lib.hid hmp
  have HMT := Lib.hid hmt
  have HPO := Lib.hid hpo
  have HW := Lib.hid hw1
  have HD := Lib.hid hDD
  have hzz : z < 18446744073709551616 := by omega
  obtain ⟨kb, hkb⟩ : ∃ kb : UInt8, kb = 5 := ⟨_, rfl⟩
  have hkn : (kb.toNat : Int) = 5 := by rw [hkb]; rfl
  obtain ⟨w_1, hw_1⟩ : ∃ W, w1.alloc (.cells #[.int .u8 kb.toNat] 5) = W := ⟨_, rfl⟩
  have HN1 : Hid (New w w_1 (.slice (some ⟨w1.heap.size, 0, none⟩) 1 1) [kb]) := Lib.hid (by rw [← hw_1]; exact New.one w E1 kb)
  have HD1 : Hid (NBox w_1 D 66 #[.int .u8 5, .slice pA p.length pc, .int .i64 (y : Int), .slice tA t.length tc, .int .u64 (z : Int), .bool lf, .string lb, .string ky, .string vv, .bool g, .slice cA c.length cc]) := Lib.hid (by rw [← hw_1]; exact bD.ext ((Ext.refl _).alloc _))
  rw [hkn] at hw_1
  have HW1 := Lib.hid hw_1
  have HK := Lib.hid hkb
  have d0 := bD.cell 0
  clear hw1 hDD E1 hp ht hcs hmp hmt hpo hsa hw_1 hkn hkb bD hi
  go_enter Try.func35, Try.ntmps35
  go_upto_region 1 with fail
  rw [HW.out, HD.out]
  clear HW HD
  go_upto_region 2 with fail
  have e1 : w1.alloc (.cells #[.int .u8 5] 5) = w_1 := HW1.out
  rw [e1]
  clear e1 HW1 d0
  obtain ⟨S, hS⟩ : ∃ S, w1.heap.size = S := ⟨_, rfl⟩
  rw [hS] at HN1 ⊢
  clear hS
  obtain ⟨ac1, hac⟩ : ∃ l, [kb] = l := ⟨_, rfl⟩
  have la1 : ac1.length ≤ 1 := by rw [← hac]; exact Nat.le_refl 1
  have sl1 : (.slice (some ⟨S, 0, none⟩) 1 1 : Value) = .slice (some ⟨S, 0, none⟩) ac1.length 1 := by rw [← hac]; rfl
  rw [sl1]
  rw [hac, sl1] at HN1
  have HA1 := Lib.hid hac
  clear hac sl1
  have d1 := (HD1.out).cell 1
  have hc := pathR_any p _ w_1 (RdS.ext (HN1.out.ext) HPP.out) HMP.out
  have l2 := pathB_len HMP.out
  go_wp2_with fail
  refine hc.mono ?_
  clear hc d1
  rintro e w' hP
  obtain ⟨v2, rfl, hN2⟩ := PutR.rd hP
  have HX2 := Lib.hid hN2.ext
  have HRD := Lib.hid (RdS.of_owns hN2.own)
  obtain ⟨vA2, vC2, rfl, -⟩ := RdS.of_owns hN2.own
  clear hP hN2
  have HOO := Lib.hid (owns_ext HX2.out HN1.out.own)
  have HNA := Lib.hid (HN1.out.more HX2.out)
  have HSZ := Lib.hid HNA.out.ext.size
  go_wp2_with (at_builtin; refine wpList_append_rd rfl rfl T25 (v := _) (by rfl) HOO.out (by rfl) HRD.out (u8s_one _) (by first | omega | (simp only [List.length_cons, List.length_nil]; omega)) (by first | (simp only [maxLen]; omega) | (simp only [maxLen, List.length_cons, List.length_nil]; omega)) HSZ.out ?_)
  intro v_2 w_2 O1 hg hat
  have HN2 := Lib.hid (HNA.out.app (b := pathB p) O1 hg)
  have HD2 := Lib.hid ((HD1.out.ext HX2.out).fr (Fr.grown hg) ((HD1.out.ext HX2.out).not_own HOO.out (by decide)))
  clear HOO HNA HSZ HRD HX2 O1 hg hat
  obtain ⟨ac2, hac⟩ : ∃ l, ac1 ++ pathB p = l := ⟨_, rfl⟩
  rw [hac] at HN2
  have HA2 := Lib.hid hac
  have la2 : ac2.length ≤ 651 := by rw [← HA2.out, List.length_append]; first | omega | (simp only [List.length_cons, List.length_nil]; omega)
  clear hac
  have d0 := (HD2.out).cell 0
  have d6 := (HD2.out).cell 6
  have hc := textR_any lb (by omega) w_2
  have l3 := textB_len (s := lb) (by omega)
  have hN := HN2.out.own
  obtain ⟨vA, vC, rfl, -⟩ := RdS.of_owns hN
  clear hN
  go_wp2_with fail
  refine hc.mono ?_
  clear hc d6
  rintro e w' hP
  obtain ⟨v2, rfl, hN2⟩ := PutR.rd hP
  have HX2 := Lib.hid hN2.ext
  have HRD := Lib.hid (RdS.of_owns hN2.own)
  obtain ⟨vA2, vC2, rfl, -⟩ := RdS.of_owns hN2.own
  clear hP hN2
  have HOO := Lib.hid (owns_ext HX2.out HN2.out.own)
  have HNA := Lib.hid (HN2.out.more HX2.out)
  have HSZ := Lib.hid HNA.out.ext.size
  go_wp2_with (at_builtin; refine wpList_append_rd rfl rfl T25 (v := _) (by rfl) HOO.out (by rfl) HRD.out (u8s_one _) (by first | omega | (simp only [List.length_cons, List.length_nil]; omega)) (by first | (simp only [maxLen]; omega) | (simp only [maxLen, List.length_cons, List.length_nil]; omega)) HSZ.out ?_)
  intro v_3 w_3 O1 hg hat
  have HN3 := Lib.hid (HNA.out.app (b := textB lb) O1 hg)
  have HD3 := Lib.hid ((HD2.out.ext HX2.out).fr (Fr.grown hg) ((HD2.out.ext HX2.out).not_own HOO.out (by decide)))
  clear HOO HNA HSZ HRD HX2 O1 hg hat
  obtain ⟨ac3, hac⟩ : ∃ l, ac2 ++ textB lb = l := ⟨_, rfl⟩
  rw [hac] at HN3
  have HA3 := Lib.hid hac
  have la3 : ac3.length ≤ 725 := by rw [← HA3.out, List.length_append]; first | omega | (simp only [List.length_cons, List.length_nil]; omega)
  clear hac
  have HF : Hid (opB ⟨5, p, (y : Int), t, (z : Int), lf, lb, ky, vv, g, c⟩ = ac3) := Lib.hid (by
    rw [← HA3.out, ← HA2.out, ← HA1.out, HK.out]
    show 5 :: (pathB p ++ (textB lb)) = _
    simp)
  have hN := HN3.out.own
  obtain ⟨vA, vC, rfl, -⟩ := RdS.of_owns hN
  clear hN
  go_wp2_with fail
  go_ret
  rw [HF.out]
  exact HN3.out.putR

set_option maxRecDepth 100000 in
set_option maxHeartbeats 4000000 in
theorem opR_6 (p : List Int) (a : Int) (t : List Int) (i : Int) (lf : Bool) (lb ky vv : ByteArray) (g : Bool) (c : List Pc) (pA tA cA : Option Addr) (pc tc cc : Nat) (w : World) (hp : RdI w p (.slice pA p.length pc)) (ht : RdI w t (.slice tA t.length tc)) (hcs : RdP w c (.slice cA c.length cc))
    (hi : 0 ≤ i ∧ i ≤ 18446744073709551615) (hm : mayO ⟨6, p, a, t, i, lf, lb, ky, vv, g, c⟩ = true) : Calls Try.prog 35 #[.agg #[.int .u8 6, .slice pA p.length pc, .int .i64 a, .slice tA t.length tc, .int .u64 i, .bool lf, .string lb, .string ky, .string vv, .bool g, .slice cA c.length cc]] w (PutR w (some (opB ⟨6, p, a, t, i, lf, lb, ky, vv, g, c⟩))) := by
  unfold mayO at hm
  simp only [Bool.and_eq_true, decide_eq_true_eq] at hm
  obtain ⟨⟨⟨⟨-, hmp⟩, -⟩, ⟨⟨⟨⟨⟨⟨hsa, hmt⟩, hlb⟩, hky⟩, hvv⟩, -⟩, hcl⟩⟩, hpo⟩ := hm
  obtain ⟨y, rfl, hy⟩ := small_nat hsa
  obtain ⟨z, rfl⟩ : ∃ z : Nat, i = (z : Int) := ⟨i.toNat, by omega⟩
  obtain ⟨w1, hw1⟩ : ∃ W, w.alloc (.cells #[.int .u8 6, .slice pA p.length pc, .int .i64 (y : Int), .slice tA t.length tc, .int .u64 (z : Int), .bool lf, .string lb, .string ky, .string vv, .bool g, .slice cA c.length cc] 66) = W := ⟨_, rfl⟩
  obtain ⟨D, hDD⟩ : ∃ D, w.heap.size = D := ⟨_, rfl⟩
  have E1 : Ext w w1 := by rw [← hw1]; exact (Ext.refl w).alloc _
  have bD : NBox w1 D 66 #[.int .u8 6, .slice pA p.length pc, .int .i64 (y : Int), .slice tA t.length tc, .int .u64 (z : Int), .bool lf, .string lb, .string ky, .string vv, .bool g, .slice cA c.length cc] := by rw [← hw1, ← hDD]; exact NBox.new _ _ _
  have HPP := Lib.hid hp
  have HTT := Lib.hid ht
  have HCC := Lib.hid hcs
  have HMP := Lib.hid hmp
  have HMT := Lib.hid hmt
  have HPO := Lib.hid hpo
  have HW := Lib.hid hw1
  have HD := Lib.hid hDD
  have hzz : z < 18446744073709551616 := by omega
  obtain ⟨kb, hkb⟩ : ∃ kb : UInt8, kb = 6 := ⟨_, rfl⟩
  have hkn : (kb.toNat : Int) = 6 := by rw [hkb]; rfl
  obtain ⟨w_1, hw_1⟩ : ∃ W, w1.alloc (.cells #[.int .u8 kb.toNat] 5) = W := ⟨_, rfl⟩
  have HN1 : Hid (New w w_1 (.slice (some ⟨w1.heap.size, 0, none⟩) 1 1) [kb]) := Lib.hid (by rw [← hw_1]; exact New.one w E1 kb)
  have HD1 : Hid (NBox w_1 D 66 #[.int .u8 6, .slice pA p.length pc, .int .i64 (y : Int), .slice tA t.length tc, .int .u64 (z : Int), .bool lf, .string lb, .string ky, .string vv, .bool g, .slice cA c.length cc]) := Lib.hid (by rw [← hw_1]; exact bD.ext ((Ext.refl _).alloc _))
  rw [hkn] at hw_1
  have HW1 := Lib.hid hw_1
  have HK := Lib.hid hkb
  have d0 := bD.cell 0
  clear hw1 hDD E1 hp ht hcs hmp hmt hpo hsa hw_1 hkn hkb bD hi
  go_enter Try.func35, Try.ntmps35
  go_upto_region 1 with fail
  rw [HW.out, HD.out]
  clear HW HD
  go_upto_region 2 with fail
  have e1 : w1.alloc (.cells #[.int .u8 6] 5) = w_1 := HW1.out
  rw [e1]
  clear e1 HW1 d0
  obtain ⟨S, hS⟩ : ∃ S, w1.heap.size = S := ⟨_, rfl⟩
  rw [hS] at HN1 ⊢
  clear hS
  obtain ⟨ac1, hac⟩ : ∃ l, [kb] = l := ⟨_, rfl⟩
  have la1 : ac1.length ≤ 1 := by rw [← hac]; exact Nat.le_refl 1
  have sl1 : (.slice (some ⟨S, 0, none⟩) 1 1 : Value) = .slice (some ⟨S, 0, none⟩) ac1.length 1 := by rw [← hac]; rfl
  rw [sl1]
  rw [hac, sl1] at HN1
  have HA1 := Lib.hid hac
  clear hac sl1
  have d1 := (HD1.out).cell 1
  have hc := pathR_any p _ w_1 (RdS.ext (HN1.out.ext) HPP.out) HMP.out
  have l2 := pathB_len HMP.out
  go_wp2_with fail
  refine hc.mono ?_
  clear hc d1
  rintro e w' hP
  obtain ⟨v2, rfl, hN2⟩ := PutR.rd hP
  have HX2 := Lib.hid hN2.ext
  have HRD := Lib.hid (RdS.of_owns hN2.own)
  obtain ⟨vA2, vC2, rfl, -⟩ := RdS.of_owns hN2.own
  clear hP hN2
  have HOO := Lib.hid (owns_ext HX2.out HN1.out.own)
  have HNA := Lib.hid (HN1.out.more HX2.out)
  have HSZ := Lib.hid HNA.out.ext.size
  go_wp2_with (at_builtin; refine wpList_append_rd rfl rfl T25 (v := _) (by rfl) HOO.out (by rfl) HRD.out (u8s_one _) (by first | omega | (simp only [List.length_cons, List.length_nil]; omega)) (by first | (simp only [maxLen]; omega) | (simp only [maxLen, List.length_cons, List.length_nil]; omega)) HSZ.out ?_)
  intro v_2 w_2 O1 hg hat
  have HN2 := Lib.hid (HNA.out.app (b := pathB p) O1 hg)
  have HD2 := Lib.hid ((HD1.out.ext HX2.out).fr (Fr.grown hg) ((HD1.out.ext HX2.out).not_own HOO.out (by decide)))
  clear HOO HNA HSZ HRD HX2 O1 hg hat
  obtain ⟨ac2, hac⟩ : ∃ l, ac1 ++ pathB p = l := ⟨_, rfl⟩
  rw [hac] at HN2
  have HA2 := Lib.hid hac
  have la2 : ac2.length ≤ 651 := by rw [← HA2.out, List.length_append]; first | omega | (simp only [List.length_cons, List.length_nil]; omega)
  clear hac
  have d0 := (HD2.out).cell 0
  have d10 := (HD2.out).cell 10
  have hc := numberR_any c.length (by omega) w_2
  have l3 := num_len (n := c.length) (by omega)
  have hN := HN2.out.own
  obtain ⟨vA, vC, rfl, -⟩ := RdS.of_owns hN
  clear hN
  go_wp2_with fail
  refine hc.mono ?_
  clear hc d10
  rintro e w' hP
  obtain ⟨v2, rfl, hN2⟩ := PutR.rd hP
  have HX2 := Lib.hid hN2.ext
  have HRD := Lib.hid (RdS.of_owns hN2.own)
  obtain ⟨vA2, vC2, rfl, -⟩ := RdS.of_owns hN2.own
  clear hP hN2
  have HOO := Lib.hid (owns_ext HX2.out HN2.out.own)
  have HNA := Lib.hid (HN2.out.more HX2.out)
  have HSZ := Lib.hid HNA.out.ext.size
  go_wp2_with (at_builtin; refine wpList_append_rd rfl rfl T25 (v := _) (by rfl) HOO.out (by rfl) HRD.out (u8s_one _) (by first | omega | (simp only [List.length_cons, List.length_nil]; omega)) (by first | (simp only [maxLen]; omega) | (simp only [maxLen, List.length_cons, List.length_nil]; omega)) HSZ.out ?_)
  intro v_3 w_3 O1 hg hat
  have HN3 := Lib.hid (HNA.out.app (b := num c.length) O1 hg)
  have HD3 := Lib.hid ((HD2.out.ext HX2.out).fr (Fr.grown hg) ((HD2.out.ext HX2.out).not_own HOO.out (by decide)))
  clear HOO HNA HSZ HRD HX2 O1 hg hat
  obtain ⟨ac3, hac⟩ : ∃ l, ac2 ++ num c.length = l := ⟨_, rfl⟩
  rw [hac] at HN3
  have HA3 := Lib.hid hac
  have la3 : ac3.length ≤ 661 := by rw [← HA3.out, List.length_append]; first | omega | (simp only [List.length_cons, List.length_nil]; omega)
  clear hac
  have HF0 : Hid (ac3 ++ pcsB c = opB ⟨6, p, (y : Int), t, (z : Int), lf, lb, ky, vv, g, c⟩) := Lib.hid (by
    rw [← HA3.out, ← HA2.out, ← HA1.out, HK.out]
    show _ = 6 :: (pathB p ++ (num c.length ++ pcsB c))
    simp)
  have hN := HN3.out.own
  obtain ⟨vA, vC, rfl, -⟩ := RdS.of_owns hN
  clear hN
  go_wp2_with fail
  go_loopw [3, 4] (fun s3 s4 wr => ∃ (j : Nat) (acc : List UInt8), s4 = .int .i64 (j : Int) ∧ j ≤ c.length ∧ New w wr s3 acc ∧ NBox wr D 66 #[.int .u8 6, .slice pA p.length pc, .int .i64 (y : Int), .slice tA t.length tc, .int .u64 (z : Int), .bool lf, .string lb, .string ky, .string vv, .bool g, .slice cA c.length cc] ∧ Hid (acc ++ pcsB (c.drop j) = opB ⟨6, p, (y : Int), t, (z : Int), lf, lb, ky, vv, g, c⟩) ∧ acc.length ≤ 1000 + j * 1048606) (fun _ j _ => c.length - (intOf j).toNat)
  case atStart => exact ⟨0, _, rfl, Nat.zero_le _, HN3.out, HD3.out, HF0, by omega⟩
  case round =>
    obtain ⟨j, acc, rfl, hj, hN, hD, HF, hal⟩ := hrel
    have HN1 := Lib.hid hN
    have HD1 := Lib.hid hD
    clear hN hD
    obtain ⟨w_1, rfl⟩ : ∃ W, W = wr := ⟨_, rfl⟩
    have d10 := HD1.out.cell 10
    have q1 : (0 : Int) ≤ (j : Int) := by omega
    rcases Nat.lt_or_ge j c.length with hlt | hlt
    · have q2 : (j : Int) < (c.length : Int) := by omega
      obtain ⟨x, hx⟩ : ∃ x, c[j]? = some x := ⟨_, List.getElem?_eq_getElem hlt⟩
      obtain ⟨A1, n1, e1, -, -, hr1⟩ := HCC.out
      simp only [Value.slice.injEq, true_and] at e1
      obtain ⟨rfl, rfl⟩ := e1
      obtain ⟨ba, oa, rfl, ra⟩ := hr1 (by omega)
      have hok := List.all_eq_true.1 HPO.out x (List.mem_of_getElem? hx)
      unfold pcOk at hok
      simp only [Bool.and_eq_true, decide_eq_true_eq] at hok
      obtain ⟨⟨hk1, hk2⟩, hk3⟩ := hok
      obtain ⟨y1, hy1, hyl1⟩ := small_nat hk1
      obtain ⟨y2, hy2, hyl2⟩ := small_nat hk2
      have HRA := Lib.hid ra
      have HXX := Lib.hid hx
      obtain ⟨xk, xd, xp⟩ := x
      simp only at hy1 hy2 hk3
      subst hy1 hy2
      have HPB : Hid (pcB ⟨(y1 : Int), (y2 : Int), xp⟩ = num y1 ++ num y2 ++ textB xp) := Lib.hid rfl
      have HS2 : Hid (acc ++ (num y1 ++ num y2 ++ textB xp ++ pcsB (c.drop (j + 1))) = opB ⟨6, p, (y : Int), t, (z : Int), lf, lb, ky, vv, g, c⟩) := Lib.hid (by rw [← HF.out, pcsB_at hx, HPB.out])
      have hmul : (j + 1) * 1048606 ≤ 4096 * 1048606 := Nat.mul_le_mul_right _ (by omega)
      have hmul2 : (j + 1) * 1048606 = j * 1048606 + 1048606 := Nat.succ_mul j _
      obtain ⟨MJ, hMJ⟩ : ∃ M, j * 1048606 = M := ⟨_, rfl⟩
      rw [hMJ] at hal hmul2
      rw [hmul2] at hmul
      have HMJ := Lib.hid (hmul2)
      clear hx hr1 ra HF hk1 hk2 d10 hmul2 hMJ
      obtain ⟨z0, z1, z2, -⟩ := rdPcs_at (rdPcs_ext HN1.out.ext HRA.out) HXX.out
      simp only at z0 z1 z2
      have d10 := (HD1.out).cell 10
      have hc := numberR_any y1 (by omega) w_1
      have l2 := num_len (n := y1) (by omega)
      have hN := HN1.out.own
      obtain ⟨vA, vC, rfl, -⟩ := RdS.of_owns hN
      clear hN
      go_wp2_with fail
      refine hc.mono ?_
      clear hc d10 z0 z1 z2
      rintro e w' hP
      obtain ⟨v2, rfl, hN2⟩ := PutR.rd hP
      have HX2 := Lib.hid hN2.ext
      have HRD := Lib.hid (RdS.of_owns hN2.own)
      obtain ⟨vA2, vC2, rfl, -⟩ := RdS.of_owns hN2.own
      clear hP hN2
      have HOO := Lib.hid (owns_ext HX2.out HN1.out.own)
      have HNA := Lib.hid (HN1.out.more HX2.out)
      have HSZ := Lib.hid HNA.out.ext.size
      go_wp2_with (at_builtin; refine wpList_append_rd rfl rfl T25 (v := _) (by rfl) HOO.out (by rfl) HRD.out (u8s_one _) (by first | omega | (simp only [List.length_cons, List.length_nil]; omega)) (by first | (simp only [maxLen]; omega) | (simp only [maxLen, List.length_cons, List.length_nil]; omega)) HSZ.out ?_)
      intro v_2 w_2 O1 hg hat
      have HN2 := Lib.hid (HNA.out.app (b := num y1) O1 hg)
      have HD2 := Lib.hid ((HD1.out.ext HX2.out).fr (Fr.grown hg) ((HD1.out.ext HX2.out).not_own HOO.out (by decide)))
      clear HOO HNA HSZ HRD HX2 O1 hg hat
      obtain ⟨ac2, hac⟩ : ∃ l, acc ++ num y1 = l := ⟨_, rfl⟩
      rw [hac] at HN2
      have HA2 := Lib.hid hac
      have la2 : ac2.length ≤ 1000 + MJ + 10 := by rw [← HA2.out, List.length_append]; first | omega | (simp only [List.length_cons, List.length_nil]; omega)
      clear hac
      obtain ⟨z0, z1, z2, -⟩ := rdPcs_at (rdPcs_ext HN2.out.ext HRA.out) HXX.out
      simp only at z0 z1 z2
      have d10 := (HD2.out).cell 10
      have hc := numberR_any y2 (by omega) w_2
      have l3 := num_len (n := y2) (by omega)
      have hN := HN2.out.own
      obtain ⟨vA, vC, rfl, -⟩ := RdS.of_owns hN
      clear hN
      go_wp2_with fail
      refine hc.mono ?_
      clear hc d10 z0 z1 z2
      rintro e w' hP
      obtain ⟨v2, rfl, hN2⟩ := PutR.rd hP
      have HX2 := Lib.hid hN2.ext
      have HRD := Lib.hid (RdS.of_owns hN2.own)
      obtain ⟨vA2, vC2, rfl, -⟩ := RdS.of_owns hN2.own
      clear hP hN2
      have HOO := Lib.hid (owns_ext HX2.out HN2.out.own)
      have HNA := Lib.hid (HN2.out.more HX2.out)
      have HSZ := Lib.hid HNA.out.ext.size
      go_wp2_with (at_builtin; refine wpList_append_rd rfl rfl T25 (v := _) (by rfl) HOO.out (by rfl) HRD.out (u8s_one _) (by first | omega | (simp only [List.length_cons, List.length_nil]; omega)) (by first | (simp only [maxLen]; omega) | (simp only [maxLen, List.length_cons, List.length_nil]; omega)) HSZ.out ?_)
      intro v_3 w_3 O1 hg hat
      have HN3 := Lib.hid (HNA.out.app (b := num y2) O1 hg)
      have HD3 := Lib.hid ((HD2.out.ext HX2.out).fr (Fr.grown hg) ((HD2.out.ext HX2.out).not_own HOO.out (by decide)))
      clear HOO HNA HSZ HRD HX2 O1 hg hat
      obtain ⟨ac3, hac⟩ : ∃ l, ac2 ++ num y2 = l := ⟨_, rfl⟩
      rw [hac] at HN3
      have HA3 := Lib.hid hac
      have la3 : ac3.length ≤ 1000 + MJ + 20 := by rw [← HA3.out, List.length_append]; first | omega | (simp only [List.length_cons, List.length_nil]; omega)
      clear hac
      obtain ⟨z0, z1, z2, -⟩ := rdPcs_at (rdPcs_ext HN3.out.ext HRA.out) HXX.out
      simp only at z0 z1 z2
      have d10 := (HD3.out).cell 10
      have hc := textR_any xp (by omega) w_3
      have l4 := textB_len (s := xp) (by omega)
      have hN := HN3.out.own
      obtain ⟨vA, vC, rfl, -⟩ := RdS.of_owns hN
      clear hN
      go_wp2_with fail
      refine hc.mono ?_
      clear hc d10 z0 z1 z2
      rintro e w' hP
      obtain ⟨v2, rfl, hN2⟩ := PutR.rd hP
      have HX2 := Lib.hid hN2.ext
      have HRD := Lib.hid (RdS.of_owns hN2.own)
      obtain ⟨vA2, vC2, rfl, -⟩ := RdS.of_owns hN2.own
      clear hP hN2
      have HOO := Lib.hid (owns_ext HX2.out HN3.out.own)
      have HNA := Lib.hid (HN3.out.more HX2.out)
      have HSZ := Lib.hid HNA.out.ext.size
      go_wp2_with (at_builtin; refine wpList_append_rd rfl rfl T25 (v := _) (by rfl) HOO.out (by rfl) HRD.out (u8s_one _) (by first | omega | (simp only [List.length_cons, List.length_nil]; omega)) (by first | (simp only [maxLen]; omega) | (simp only [maxLen, List.length_cons, List.length_nil]; omega)) HSZ.out ?_)
      intro v_4 w_4 O1 hg hat
      have HN4 := Lib.hid (HNA.out.app (b := textB xp) O1 hg)
      have HD4 := Lib.hid ((HD3.out.ext HX2.out).fr (Fr.grown hg) ((HD3.out.ext HX2.out).not_own HOO.out (by decide)))
      clear HOO HNA HSZ HRD HX2 O1 hg hat
      obtain ⟨ac4, hac⟩ : ∃ l, ac3 ++ textB xp = l := ⟨_, rfl⟩
      rw [hac] at HN4
      have HA4 := Lib.hid hac
      have la4 : ac4.length ≤ 1000 + MJ + 1048606 := by rw [← HA4.out, List.length_append]; first | omega | (simp only [List.length_cons, List.length_nil]; omega)
      clear hac
      have HS3 : Hid (ac4 ++ pcsB (c.drop (j + 1)) = opB ⟨6, p, (y : Int), t, (z : Int), lf, lb, ky, vv, g, c⟩) := Lib.hid (by rw [← HS2.out, ← HA4.out, ← HA3.out, ← HA2.out]; simp only [List.append_assoc])
      have hN := HN4.out.own
      obtain ⟨vA, vC, rfl, -⟩ := RdS.of_owns hN
      clear hN
      go_wp2_with fail
      go_roundw
      case rel => exact ⟨j + 1, ac4, by go_num, by omega, HN4.out, HD4.out, HS3, by rw [HMJ.out, ← Nat.add_assoc]; exact la4⟩
      case measure => simp [intOf]; omega
    · have hR : acc = opB ⟨6, p, (y : Int), t, (z : Int), lf, lb, ky, vv, g, c⟩ := by rw [← HF.out, List.drop_eq_nil_of_le hlt]; simp [pcsB]
      have HR := Lib.hid hR
      have hN := HN1.out.own
      obtain ⟨vA, vC, rfl, -⟩ := RdS.of_owns hN
      clear hN hR HF
      go_wp2_with fail
      go_ret
      rw [← HR.out]
      exact HN1.out.putR

theorem opR_any (o : OpD) (v : Value) (w : World) (h : o.rd w v) (hm : mayO o = true) : Calls Try.prog 35 #[v] w (PutR w (some (opB o))) := by
  obtain ⟨k, p, a, t, i, lf, lb, ky, vv, g, c⟩ := o
  obtain ⟨pv, tv, cv, rfl, hp, ht, hc, -, -, -, hi, -⟩ := h
  simp only at hp ht hc hi
  have hp' := hp
  have ht' := ht
  have hc' := hc
  obtain ⟨pA, pc, rfl, -⟩ := hp'
  obtain ⟨tA, tc, rfl, -⟩ := ht'
  obtain ⟨cA, cc, rfl, -⟩ := hc'
  have hk : 1 ≤ k ∧ k ≤ 6 := by
    unfold mayO at hm
    simp only [Bool.and_eq_true, decide_eq_true_eq] at hm
    exact hm.1.1.1.1
  obtain rfl | rfl | rfl | rfl | rfl | rfl : k = 1 ∨ k = 2 ∨ k = 3 ∨ k = 4 ∨ k = 5 ∨ k = 6 := by omega
  · exact opR_1 p a t i lf lb ky vv g c pA tA cA pc tc cc w hp ht hc hi hm
  · exact opR_2 p a t i lf lb ky vv g c pA tA cA pc tc cc w hp ht hc hi hm
  · exact opR_3 p a t i lf lb ky vv g c pA tA cA pc tc cc w hp ht hc hi hm
  · exact opR_4 p a t i lf lb ky vv g c pA tA cA pc tc cc w hp ht hc hi hm
  · exact opR_5 p a t i lf lb ky vv g c pA tA cA pc tc cc w hp ht hc hi hm
  · exact opR_6 p a t i lf lb ky vv g c pA tA cA pc tc cc w hp ht hc hi hm
theorem opB_len {o : OpD} (hi : o.id ≤ 18446744073709551615) (hm : mayO o = true) : (opB o).length ≤ 4295100000 := by
  have := opE_eq o
  rw [hm, if_pos rfl] at this
  exact opE_len hi this
end Go.Proofs.Ytoplaokimahdiaa.Wi
