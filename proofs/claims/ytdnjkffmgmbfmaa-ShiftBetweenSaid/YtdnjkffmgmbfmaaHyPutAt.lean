/- SyPutAt turned to this seat. (Printed by gport.py.) -/
import Derived.Test.YtdnjkffmgmbfmaaHyOuOps
import Derived.Test.YtdnjkffmgmbfmaaBwWeighPlain
import Derived.WalkKit
import Derived.Deep.Cut
import Derived.Deep.RegionHeld3
import Derived.BigQuiet
import Derived.IntWalk
import Derived.Test.YtdnjkffmgmbfmaaProg
namespace Go.Proofs.Ytdnjkffmgmbfmaa.Sy
open Go.RowKit Go.Proofs.Ytdnjkffmgmbfmaa.Bw Go.Proofs.Ytdnjkffmgmbfmaa.Bs
set_option maxRecDepth 100000 in
set_option maxHeartbeats 8000000 in
theorem put72_some (t x : Nd) (tA : Option Addr) (tc td : Nat) (a : Addr) (xv : Value) (i : Nat) (wo w : World) (hWo : Wo wo w) (ht : t.rd wo (.agg #[.int .u64 t.id, .bool t.leaf, .string t.label, .slice tA t.attrs.length tc, .string t.text, .slice (some a) t.kids.length td])) (hx : x.rd wo xv) (hi : i ≤ t.kids.length) (hkl : t.kids.length ≤ 1000000) :
  Calls Try.prog 43 #[.agg #[.int .u64 t.id, .bool t.leaf, .string t.label, .slice tA t.attrs.length tc, .string t.text, .slice (some a) t.kids.length td], .int .i64 (i : Int), xv] w (Ret w fun r w' => LateN wo w w' (insD t i x) r) := by
 obtain ⟨av, kv, hv, i0, i1, hl, htx, hA, hK⟩ := Nd.rd_open ht
 simp only [Value.agg.injEq, Array.mk.injEq, List.cons.injEq, and_true, true_and] at hv
 obtain ⟨rfl, rfl⟩ := hv
 obtain ⟨xA, xc, xK, xd, rfl⟩ := rd_open6 hx
 obtain ⟨us, hus, hrs⟩ := hK.row
 have k1 : t.kids.length ≤ td := by obtain ⟨_, _, he, e1, -⟩ := hK; simp only [Value.slice.injEq, true_and] at he; obtain ⟨-, rfl⟩ := he; exact e1
 have k2 : td ≤ 9223372036854775807 := by obtain ⟨_, _, he, -, e1, -⟩ := hK; simp only [Value.slice.injEq, true_and] at he; obtain ⟨-, rfl⟩ := he; unfold maxLen at e1; exact e1
 obtain ⟨w1, hw1⟩ : ∃ W, ((w.alloc (.cells #[.int .u64 t.id, .bool t.leaf, .string t.label, .slice tA t.attrs.length tc, .string t.text, .slice (some a) t.kids.length td] 42)).alloc (.cells #[.int .u64 x.id, .bool x.leaf, .string x.label, .slice xA x.attrs.length xc, .string x.text, .slice xK x.kids.length xd] 42)).alloc (.cells #[.int .u64 0, .bool false, .string ⟨#[]⟩, .slice none 0 0, .string ⟨#[]⟩, .slice none 0 0] 42) = W := ⟨_, rfl⟩
 obtain ⟨B, hB⟩ : ∃ B, w.heap.size = B := ⟨_, rfl⟩
 have s1 : (w.alloc (.cells #[.int .u64 t.id, .bool t.leaf, .string t.label, .slice tA t.attrs.length tc, .string t.text, .slice (some a) t.kids.length td] 42)).heap.size = B + 1 := by rw [World.size_alloc, hB]
 have s2 : ((w.alloc (.cells #[.int .u64 t.id, .bool t.leaf, .string t.label, .slice tA t.attrs.length tc, .string t.text, .slice (some a) t.kids.length td] 42)).alloc (.cells #[.int .u64 x.id, .bool x.leaf, .string x.label, .slice xA x.attrs.length xc, .string x.text, .slice xK x.kids.length xd] 42)).heap.size = B + 1 + 1 := by rw [World.size_alloc, s1]
 have E1 : Ext w w1 := by rw [← hw1]; exact (((Ext.refl w).alloc _).alloc _).alloc _
 have z1 : w1.heap.size = B + 1 + 1 + 1 := by rw [← hw1, World.size_alloc, s2]
 have b0 : NBox w1 B 42 #[.int .u64 t.id, .bool t.leaf, .string t.label, .slice tA t.attrs.length tc, .string t.text, .slice (some a) t.kids.length td] := by rw [← hw1, ← hB]; exact (NBox.new w 42 _).ext (((Ext.refl _).alloc _).alloc _)
 have b1 : NBox w1 (B + 1) 42 #[.int .u64 x.id, .bool x.leaf, .string x.label, .slice xA x.attrs.length xc, .string x.text, .slice xK x.kids.length xd] := by rw [← hw1, ← s1]; exact (NBox.new _ 42 _).ext ((Ext.refl _).alloc _)
 have b2 : NBox w1 (B + 1 + 1) 42 #[.int .u64 0, .bool false, .string ⟨#[]⟩, .slice none 0 0, .string ⟨#[]⟩, .slice none 0 0] := by rw [← hw1, ← s2]; exact NBox.new _ 42 _
 have HW1 := Lib.hid hw1
 have HBB := Lib.hid hB
 have HB0 := Lib.hid b0
 have HB1 := Lib.hid b1
 have HB2 := Lib.hid b2
 have HE := Lib.hid E1
 have HWO := Lib.hid hWo
 have HWO1 := Lib.hid (hWo.ext E1)
 have HZ1 := Lib.hid z1
 have HUS := Lib.hid hus
 have HRS := Lib.hid hrs
 have HX := Lib.hid hx
 have HT := Lib.hid (show _ ∧ _ ∧ _ ∧ _ ∧ _ from ⟨i0, i1, hl, htx, hA⟩)
 obtain ⟨t0, t1, t2, t3, t4, t5⟩ := b0.c6
 have q1 : (0 : Int) ≤ (i : Int) := by omega
 have q2 : (i : Int) ≤ (td : Int) := by omega
 have q3 : i ≤ td := by omega
 have q4 : ((i : Int)).toNat = i := by omega
 have hnil : w1.ownsRow w1.heap.size 42 6 (.slice none 0 0) 0 [] := ⟨rfl, .inl ⟨rfl, rfl⟩⟩
 have hrow1 := RdS.front (hrs.sub (hWo.ext E1).sub) hi
 have hone := rowK_one hus
 have hone1 : ∀ u ∈ us.take (i * 6), u.oneCell' = true := fun u hu => hone u (List.mem_of_mem_take hu)
 have HONE := Lib.hid hone
 clear hw1 hB s1 s2 E1 b0 b1 b2 z1 hWo ht hx hK hA hus hrs hone i0 i1 hl htx
 go_enter Try.func43, Try.ntmps43
 go_upto_region 1 with fail
 rw [HW1.out, HBB.out]
 clear HW1
 go_wp2_with (first | (at_builtin; refine wpList_append_rd rfl rfl Bw.T24 (v := _) (by rfl) hnil (by rfl) hrow1 hone1 (by omega) (by simp only [maxLen]; omega) (Nat.le_refl _) ?_))
 intro v3 w3 hown hg hat
 have X3 : Ext w1 w3 := Ext.grown (Ext.refl _) hg (fun k hk => by cases hk)
 obtain ⟨A3, c3, rfl, -⟩ := RdS.of_owns hown
 obtain ⟨w4, hw4⟩ : ∃ W, w3.alloc (.cells #[.int .u64 x.id, .bool x.leaf, .string x.label, .slice xA x.attrs.length xc, .string x.text, .slice xK x.kids.length xd] 42) = W := ⟨_, rfl⟩
 obtain ⟨N, hN⟩ : ∃ g, w3.heap.size = g := ⟨_, rfl⟩
 have X4 : Ext w3 w4 := by rw [← hw4]; exact (Ext.refl _).alloc _
 have bN : NBox w4 N 42 #[.int .u64 x.id, .bool x.leaf, .string x.label, .slice xA x.attrs.length xc, .string x.text, .slice xK x.kids.length xd] := by rw [← hw4, ← hN]; exact NBox.new _ _ _
 have hown4 := owns_ext X4 hown
 have hrow2 : RdS w4 6 1 [.int .u64 x.id, .bool x.leaf, .string x.label, .slice xA x.attrs.length xc, .string x.text, .slice xK x.kids.length xd] (.slice (some ⟨N, 0, none⟩) 1 1) := RdS.of_owns (base := 0) (e := 42) ⟨rfl, .inr ⟨N, 1, _, rfl, Nat.zero_le _, bN, Nat.le_refl _, by simp [maxLen], rfl, rfl⟩⟩
 have hone2 := rowK_one (rowK_single HX.out)
 have hb4 : w1.heap.size ≤ w4.heap.size := (X3.trans X4).size
 have HX4 := Lib.hid (X3.trans X4)
 have HW4 := Lib.hid hw4
 have HN := Lib.hid hN
 have hx := (HB1.out.ext X3)
 obtain ⟨x0, x1, x2, x3, x4, x5⟩ := hx.c6
 clear hw4 hN X3 X4 bN hown hg hat hrow1 hone1 hnil hx t0 t1 t2 t3 t4 t5
 go_wp2_with (first | (at_builtin; rw [HW4.out, HN.out]; refine wpList_append_rd rfl rfl Bw.T24 (v := _) (by rfl) hown4 (by rfl) hrow2 hone2 (by omega) (by simp only [maxLen]; omega) hb4 ?_))
 intro v5 w5 h5 hg5 hat5
 have X5 : Ext w1 w5 := Fr.ext HX4.out (Fr.grown hg5) (fun k hk => owns_base hown4 k hk)
 have HX5 := Lib.hid X5
 obtain ⟨A5, c5, rfl, -⟩ := RdS.of_owns h5
 have hb5 := X5.size
 have hone3 : ∀ u ∈ us.drop (i * 6), u.oneCell' = true := fun u hu => HONE.out u (List.mem_of_mem_drop hu)
 have hbx := HB0.out.ext X5
 obtain ⟨t0, t1, t2, t3, t4, t5⟩ := hbx.c6
 obtain ⟨f0, f1, f2, f3, f4, f5⟩ := hbx.f6
 have q5 : ((i : Int)) ≤ (t.kids.length : Int) := by omega
 have q6 : ((td : Int)) ≤ 9223372036854775807 := by omega
 clear X5 hbx hg5 hat5 hown4 hrow2 hone2 x0 x1 x2 x3 x4 x5 HX4 HW4 HN hb4
 go_upto_region 4 with fail
 rcases Nat.eq_or_lt_of_le q3 with he | hlt
 ·subst he
  have hrow3 : RdS w5 6 0 [] (.slice (some a) 0 0) := RdS.none_ (Nat.zero_le _)
  have hone3 : ∀ u ∈ ([] : List Value), u.oneCell' = true := fun u hu => absurd hu List.not_mem_nil
  have HDE := Lib.hid (show us.drop (i * 6) = [] from by rw [List.drop_eq_nil_of_le (by rw [rowK_len HUS.out]; omega)])
  go_wp2_with (first | (at_builtin; refine wpList_append_rd rfl rfl Bw.T24 (v := _) (by rfl) h5 (by rfl) hrow3 hone3 (by omega) (by simp only [maxLen]; omega) hb5 ?_))
  intro v6 w6 h6 hg6 hat6
  have h6 := own_as (m := t.kids.length + 1) (ys := us.take (i * 6) ++ [.int .u64 x.id, .bool x.leaf, .string x.label, .slice xA x.attrs.length xc, .string x.text, .slice xK x.kids.length xd] ++ us.drop (i * 6)) h6 (by omega) (by first | (simp; done) | (rw [HDE.out]; simp))
  have X6 : Ext w1 w6 := Fr.ext HX5.out (Fr.grown hg6) (fun k hk => owns_base h5 k hk)
  obtain ⟨A6, c6, rfl, -⟩ := RdS.of_owns h6
  have HX6 := Lib.hid X6
  have HO6 := Lib.hid h6
  have hbx := HB0.out.ext X6
  obtain ⟨t0, t1, t2, t3, t4, t5⟩ := hbx.c6
  obtain ⟨f0, f1, f2, f3, f4, f5⟩ := hbx.f6
  obtain ⟨w7, hw7⟩ : ∃ W, w6.setCell ⟨B, 5, none⟩ (.slice A6 (t.kids.length + 1) c6) = W := ⟨_, rfl⟩
  have F7 : Fr w6 w7 (fun k => k = B) := by rw [← hw7]; exact Fr.setCell _ _ _ _
  have b7 : NBox w7 B 42 #[.int .u64 t.id, .bool t.leaf, .string t.label, .slice tA t.attrs.length tc, .string t.text, .slice A6 (t.kids.length + 1) c6] := by rw [← hw7]; exact hbx.set 5 _
  have HF7 := Lib.hid F7
  have HB7 := Lib.hid b7
  have HBR := Lib.hid ((HB2.out.ext X6).fr F7 (by omega))
  have HW7 := Lib.hid hw7
  clear X6 h6 hg6 hat6 hbx hw7 F7 b7 h5 hrow3 hone3 HDE
  go_upto_region 5 with (rw [HW7.out]; clear HW7)
  clear t0 t1 t2 t3 t4 t5 f0 f1 f2 f3 f4 f5
  obtain ⟨t0, t1, t2, t3, t4, t5⟩ := HB7.out.c6
  obtain ⟨r0, r1, r2, r3, r4, r5⟩ := HBR.out.c6
  obtain ⟨f0, f1, f2, f3, f4, f5⟩ := HBR.out.f6
  have HF9 := Lib.hid (Fr.six w7 (B + 1 + 1) (.int .u64 t.id) (.bool t.leaf) (.string t.label) (.slice tA t.attrs.length tc) (.string t.text) (.slice A6 (t.kids.length + 1) c6))
  have HB9 := Lib.hid (HBR.out.six (.int .u64 t.id) (.bool t.leaf) (.string t.label) (.slice tA t.attrs.length tc) (.string t.text) (.slice A6 (t.kids.length + 1) c6))
  go_wp2_with fail
  refine bodyPost_ret (results_st rfl _ rfl HB9.out Try.underlying42 rfl info42) rfl ?_
  exact ⟨_, rfl, ins_late HBB.out HZ1.out HF7.out HF9.out HO6.out HUS.out HX.out HT.out hi, ins_ext HBB.out HE.out HX6.out HF7.out HF9.out⟩
 ·have hrow3 : RdS w5 6 (t.kids.length - i) (us.drop (i * 6)) (.slice (some (a.add (i * 6))) (t.kids.length - i) (td - i)) := by
   rcases Nat.eq_or_lt_of_le hi with he2 | hlt2
   ·rw [he2, Nat.sub_self, List.drop_eq_nil_of_le (by rw [rowK_len HUS.out]; exact Nat.le_refl _)]
    exact RdS.none_ (by unfold maxLen; omega)
   ·obtain ⟨b, o, rfl⟩ := RdS.addr HRS.out (by omega)
    exact RdS.back (HRS.out.sub (HWO1.out.ext HX5.out).sub) hi (fun _ => by rw [Addr.add_lit])
  have q7 : ¬ td = i := by omega
  have q8 : ¬ i = td := by omega
  have HDE := Lib.hid (show us.drop (i * 6) = us.drop (i * 6) from rfl)
  go_wp2_with (first | (at_builtin; refine wpList_append_rd rfl rfl Bw.T24 (v := _) (by rfl) h5 (by rfl) hrow3 hone3 (by omega) (by simp only [maxLen]; omega) hb5 ?_))
  intro v6 w6 h6 hg6 hat6
  have h6 := own_as (m := t.kids.length + 1) (ys := us.take (i * 6) ++ [.int .u64 x.id, .bool x.leaf, .string x.label, .slice xA x.attrs.length xc, .string x.text, .slice xK x.kids.length xd] ++ us.drop (i * 6)) h6 (by omega) (by first | (simp; done) | (rw [HDE.out]; simp))
  have X6 : Ext w1 w6 := Fr.ext HX5.out (Fr.grown hg6) (fun k hk => owns_base h5 k hk)
  obtain ⟨A6, c6, rfl, -⟩ := RdS.of_owns h6
  have HX6 := Lib.hid X6
  have HO6 := Lib.hid h6
  have hbx := HB0.out.ext X6
  obtain ⟨t0, t1, t2, t3, t4, t5⟩ := hbx.c6
  obtain ⟨f0, f1, f2, f3, f4, f5⟩ := hbx.f6
  obtain ⟨w7, hw7⟩ : ∃ W, w6.setCell ⟨B, 5, none⟩ (.slice A6 (t.kids.length + 1) c6) = W := ⟨_, rfl⟩
  have F7 : Fr w6 w7 (fun k => k = B) := by rw [← hw7]; exact Fr.setCell _ _ _ _
  have b7 : NBox w7 B 42 #[.int .u64 t.id, .bool t.leaf, .string t.label, .slice tA t.attrs.length tc, .string t.text, .slice A6 (t.kids.length + 1) c6] := by rw [← hw7]; exact hbx.set 5 _
  have HF7 := Lib.hid F7
  have HB7 := Lib.hid b7
  have HBR := Lib.hid ((HB2.out.ext X6).fr F7 (by omega))
  have HW7 := Lib.hid hw7
  clear X6 h6 hg6 hat6 hbx hw7 F7 b7 h5 hrow3 hone3 HDE
  go_upto_region 5 with (rw [HW7.out]; clear HW7)
  clear t0 t1 t2 t3 t4 t5 f0 f1 f2 f3 f4 f5
  obtain ⟨t0, t1, t2, t3, t4, t5⟩ := HB7.out.c6
  obtain ⟨r0, r1, r2, r3, r4, r5⟩ := HBR.out.c6
  obtain ⟨f0, f1, f2, f3, f4, f5⟩ := HBR.out.f6
  have HF9 := Lib.hid (Fr.six w7 (B + 1 + 1) (.int .u64 t.id) (.bool t.leaf) (.string t.label) (.slice tA t.attrs.length tc) (.string t.text) (.slice A6 (t.kids.length + 1) c6))
  have HB9 := Lib.hid (HBR.out.six (.int .u64 t.id) (.bool t.leaf) (.string t.label) (.slice tA t.attrs.length tc) (.string t.text) (.slice A6 (t.kids.length + 1) c6))
  go_wp2_with fail
  refine bodyPost_ret (results_st rfl _ rfl HB9.out Try.underlying42 rfl info42) rfl ?_
  exact ⟨_, rfl, ins_late HBB.out HZ1.out HF7.out HF9.out HO6.out HUS.out HX.out HT.out hi, ins_ext HBB.out HE.out HX6.out HF7.out HF9.out⟩
set_option maxRecDepth 100000 in
set_option maxHeartbeats 8000000 in
theorem put72_none (t x : Nd) (tA : Option Addr) (tc td : Nat) (xv : Value) (hk : t.kids = []) (wo w : World) (hWo : Wo wo w) (ht : t.rd wo (.agg #[.int .u64 t.id, .bool t.leaf, .string t.label, .slice tA t.attrs.length tc, .string t.text, .slice none 0 td])) (hx : x.rd wo xv) :
  Calls Try.prog 43 #[.agg #[.int .u64 t.id, .bool t.leaf, .string t.label, .slice tA t.attrs.length tc, .string t.text, .slice none 0 td], .int .i64 0, xv] w (Ret w fun r w' => LateN wo w w' (insD t 0 x) r) := by
 obtain ⟨av, kv, hv, i0, i1, hl, htx, hA, hK⟩ := Nd.rd_open ht
 simp only [Value.agg.injEq, Array.mk.injEq, List.cons.injEq, and_true, true_and] at hv
 obtain ⟨rfl, rfl⟩ := hv
 obtain ⟨xA, xc, xK, xd, rfl⟩ := rd_open6 hx
 obtain ⟨us, hus, hrs⟩ := hK.row
 have k1 : 0 ≤ td := Nat.zero_le _
 have k2 : td ≤ 9223372036854775807 := by obtain ⟨_, _, he, -, e1, -⟩ := hK; simp only [Value.slice.injEq] at he; obtain ⟨-, -, rfl⟩ := he; unfold maxLen at e1; exact e1
 obtain ⟨w1, hw1⟩ : ∃ W, ((w.alloc (.cells #[.int .u64 t.id, .bool t.leaf, .string t.label, .slice tA t.attrs.length tc, .string t.text, .slice none 0 td] 42)).alloc (.cells #[.int .u64 x.id, .bool x.leaf, .string x.label, .slice xA x.attrs.length xc, .string x.text, .slice xK x.kids.length xd] 42)).alloc (.cells #[.int .u64 0, .bool false, .string ⟨#[]⟩, .slice none 0 0, .string ⟨#[]⟩, .slice none 0 0] 42) = W := ⟨_, rfl⟩
 obtain ⟨B, hB⟩ : ∃ B, w.heap.size = B := ⟨_, rfl⟩
 have s1 : (w.alloc (.cells #[.int .u64 t.id, .bool t.leaf, .string t.label, .slice tA t.attrs.length tc, .string t.text, .slice none 0 td] 42)).heap.size = B + 1 := by rw [World.size_alloc, hB]
 have s2 : ((w.alloc (.cells #[.int .u64 t.id, .bool t.leaf, .string t.label, .slice tA t.attrs.length tc, .string t.text, .slice none 0 td] 42)).alloc (.cells #[.int .u64 x.id, .bool x.leaf, .string x.label, .slice xA x.attrs.length xc, .string x.text, .slice xK x.kids.length xd] 42)).heap.size = B + 1 + 1 := by rw [World.size_alloc, s1]
 have E1 : Ext w w1 := by rw [← hw1]; exact (((Ext.refl w).alloc _).alloc _).alloc _
 have z1 : w1.heap.size = B + 1 + 1 + 1 := by rw [← hw1, World.size_alloc, s2]
 have b0 : NBox w1 B 42 #[.int .u64 t.id, .bool t.leaf, .string t.label, .slice tA t.attrs.length tc, .string t.text, .slice none 0 td] := by rw [← hw1, ← hB]; exact (NBox.new w 42 _).ext (((Ext.refl _).alloc _).alloc _)
 have b1 : NBox w1 (B + 1) 42 #[.int .u64 x.id, .bool x.leaf, .string x.label, .slice xA x.attrs.length xc, .string x.text, .slice xK x.kids.length xd] := by rw [← hw1, ← s1]; exact (NBox.new _ 42 _).ext ((Ext.refl _).alloc _)
 have b2 : NBox w1 (B + 1 + 1) 42 #[.int .u64 0, .bool false, .string ⟨#[]⟩, .slice none 0 0, .string ⟨#[]⟩, .slice none 0 0] := by rw [← hw1, ← s2]; exact NBox.new _ 42 _
 have HW1 := Lib.hid hw1
 have HBB := Lib.hid hB
 have HB0 := Lib.hid b0
 have HB1 := Lib.hid b1
 have HB2 := Lib.hid b2
 have HE := Lib.hid E1
 have HWO := Lib.hid hWo
 have HWO1 := Lib.hid (hWo.ext E1)
 have HZ1 := Lib.hid z1
 have HUS := Lib.hid hus
 have HU0 := Lib.hid (show us = [] by rw [hk] at hus; exact hus)
 have HRS := Lib.hid hrs
 have HX := Lib.hid hx
 have HT := Lib.hid (show _ ∧ _ ∧ _ ∧ _ ∧ _ from ⟨i0, i1, hl, htx, hA⟩)
 obtain ⟨t0, t1, t2, t3, t4, t5⟩ := b0.c6
 have q2 : (0 : Int) ≤ (td : Int) := by omega
 have hnil : w1.ownsRow w1.heap.size 42 6 (.slice none 0 0) 0 [] := ⟨rfl, .inl ⟨rfl, rfl⟩⟩
 have hrow1 := RdS.none_ (w := w1) (s := 6) (A := none) (c := td) (by unfold maxLen; omega)
 have hone := rowK_one hus
 have hone1 : ∀ u ∈ ([] : List Value), u.oneCell' = true := fun u hu => absurd hu List.not_mem_nil
 have HONE := Lib.hid hone
 have HK0 := Lib.hid (show t.kids.length = 0 by rw [hk]; rfl)
 clear hk
 clear hw1 hB s1 s2 E1 b0 b1 b2 z1 hWo ht hx hK hA hus hrs hone i0 i1 hl htx
 go_enter Try.func43, Try.ntmps43
 go_upto_region 1 with fail
 rw [HW1.out, HBB.out]
 clear HW1
 go_wp2_with (first | (at_builtin; refine wpList_append_rd rfl rfl Bw.T24 (v := _) (by rfl) hnil (by rfl) hrow1 hone1 (by omega) (by simp only [maxLen]; omega) (Nat.le_refl _) ?_))
 intro v3 w3 hown hg hat
 have X3 : Ext w1 w3 := Ext.grown (Ext.refl _) hg (fun k hk => by cases hk)
 obtain ⟨A3, c3, rfl, -⟩ := RdS.of_owns hown
 obtain ⟨w4, hw4⟩ : ∃ W, w3.alloc (.cells #[.int .u64 x.id, .bool x.leaf, .string x.label, .slice xA x.attrs.length xc, .string x.text, .slice xK x.kids.length xd] 42) = W := ⟨_, rfl⟩
 obtain ⟨N, hN⟩ : ∃ g, w3.heap.size = g := ⟨_, rfl⟩
 have X4 : Ext w3 w4 := by rw [← hw4]; exact (Ext.refl _).alloc _
 have bN : NBox w4 N 42 #[.int .u64 x.id, .bool x.leaf, .string x.label, .slice xA x.attrs.length xc, .string x.text, .slice xK x.kids.length xd] := by rw [← hw4, ← hN]; exact NBox.new _ _ _
 have hown4 := owns_ext X4 hown
 have hrow2 : RdS w4 6 1 [.int .u64 x.id, .bool x.leaf, .string x.label, .slice xA x.attrs.length xc, .string x.text, .slice xK x.kids.length xd] (.slice (some ⟨N, 0, none⟩) 1 1) := RdS.of_owns (base := 0) (e := 42) ⟨rfl, .inr ⟨N, 1, _, rfl, Nat.zero_le _, bN, Nat.le_refl _, by simp [maxLen], rfl, rfl⟩⟩
 have hone2 := rowK_one (rowK_single HX.out)
 have hb4 : w1.heap.size ≤ w4.heap.size := (X3.trans X4).size
 have HX4 := Lib.hid (X3.trans X4)
 have HW4 := Lib.hid hw4
 have HN := Lib.hid hN
 have hx := (HB1.out.ext X3)
 obtain ⟨x0, x1, x2, x3, x4, x5⟩ := hx.c6
 clear hw4 hN X3 X4 bN hown hg hat hrow1 hone1 hnil hx t0 t1 t2 t3 t4 t5
 go_wp2_with (first | (at_builtin; rw [HW4.out, HN.out]; refine wpList_append_rd rfl rfl Bw.T24 (v := _) (by rfl) hown4 (by rfl) hrow2 hone2 (by omega) (by simp only [maxLen]; omega) hb4 ?_))
 intro v5 w5 h5 hg5 hat5
 have X5 : Ext w1 w5 := Fr.ext HX4.out (Fr.grown hg5) (fun k hk => owns_base hown4 k hk)
 have HX5 := Lib.hid X5
 obtain ⟨A5, c5, rfl, -⟩ := RdS.of_owns h5
 have hb5 := X5.size
 have hbx := HB0.out.ext X5
 obtain ⟨t0, t1, t2, t3, t4, t5⟩ := hbx.c6
 obtain ⟨f0, f1, f2, f3, f4, f5⟩ := hbx.f6
 have q6 : ((td : Int)) ≤ 9223372036854775807 := by omega
 clear X5 hbx hg5 hat5 hown4 hrow2 hone2 x0 x1 x2 x3 x4 x5 HX4 HW4 HN hb4
 go_upto_region 4 with fail
 have hrow3 : RdS w5 6 0 [] (.slice none 0 td) := RdS.none_ (by unfold maxLen; omega)
 have hone3 : ∀ u ∈ ([] : List Value), u.oneCell' = true := fun u hu => absurd hu List.not_mem_nil
 have HDE := Lib.hid (show us.drop (0 * 6) = us.drop (0 * 6) from rfl)
 go_wp2_with (first | (at_builtin; refine wpList_append_rd rfl rfl Bw.T24 (v := _) (by rfl) h5 (by rfl) hrow3 hone3 (by omega) (by simp only [maxLen]; omega) hb5 ?_))
 intro v6 w6 h6 hg6 hat6
 have h6 := own_as (m := t.kids.length + 1) (ys := ([] : List Value) ++ [.int .u64 x.id, .bool x.leaf, .string x.label, .slice xA x.attrs.length xc, .string x.text, .slice xK x.kids.length xd] ++ us.drop (0 * 6)) h6 (by have := HK0.out; omega) (by rw [show us = [] from HU0.out]; simp)
 have X6 : Ext w1 w6 := Fr.ext HX5.out (Fr.grown hg6) (fun k hk => owns_base h5 k hk)
 obtain ⟨A6, c6, rfl, -⟩ := RdS.of_owns h6
 have HX6 := Lib.hid X6
 have HO6 := Lib.hid h6
 have hbx := HB0.out.ext X6
 obtain ⟨t0, t1, t2, t3, t4, t5⟩ := hbx.c6
 obtain ⟨f0, f1, f2, f3, f4, f5⟩ := hbx.f6
 obtain ⟨w7, hw7⟩ : ∃ W, w6.setCell ⟨B, 5, none⟩ (.slice A6 (t.kids.length + 1) c6) = W := ⟨_, rfl⟩
 have F7 : Fr w6 w7 (fun k => k = B) := by rw [← hw7]; exact Fr.setCell _ _ _ _
 have b7 : NBox w7 B 42 #[.int .u64 t.id, .bool t.leaf, .string t.label, .slice tA t.attrs.length tc, .string t.text, .slice A6 (t.kids.length + 1) c6] := by rw [← hw7]; exact hbx.set 5 _
 have HF7 := Lib.hid F7
 have HB7 := Lib.hid b7
 have HBR := Lib.hid ((HB2.out.ext X6).fr F7 (by omega))
 have HW7 := Lib.hid hw7
 clear X6 h6 hg6 hat6 hbx hw7 F7 b7 h5 hrow3 hone3 HDE
 go_upto_region 5 with (rw [HW7.out]; clear HW7)
 clear t0 t1 t2 t3 t4 t5 f0 f1 f2 f3 f4 f5
 obtain ⟨t0, t1, t2, t3, t4, t5⟩ := HB7.out.c6
 obtain ⟨r0, r1, r2, r3, r4, r5⟩ := HBR.out.c6
 obtain ⟨f0, f1, f2, f3, f4, f5⟩ := HBR.out.f6
 have HF9 := Lib.hid (Fr.six w7 (B + 1 + 1) (.int .u64 t.id) (.bool t.leaf) (.string t.label) (.slice tA t.attrs.length tc) (.string t.text) (.slice A6 (t.kids.length + 1) c6))
 have HB9 := Lib.hid (HBR.out.six (.int .u64 t.id) (.bool t.leaf) (.string t.label) (.slice tA t.attrs.length tc) (.string t.text) (.slice A6 (t.kids.length + 1) c6))
 go_wp2_with fail
 refine bodyPost_ret (results_st rfl _ rfl HB9.out Try.underlying42 rfl info42) rfl ?_
 exact ⟨_, rfl, ins_late HBB.out HZ1.out HF7.out HF9.out HO6.out HUS.out HX.out HT.out (i := 0) (Nat.zero_le _), ins_ext HBB.out HE.out HX6.out HF7.out HF9.out⟩
/-- A node put at a gap. -/
theorem put72_late (t x : Nd) (v xv : Value) (i : Nat) (wo w : World) (hWo : Wo wo w) (ht : t.rd wo v) (hx : x.rd wo xv) (hi : i ≤ t.kids.length) (hkl : t.kids.length ≤ 1000000) :
  Calls Try.prog 43 #[v, .int .i64 (i : Int), xv] w (Ret w fun r w' => LateN wo w w' (insD t i x) r) := by
 obtain ⟨tA, tc, tK, td, rfl⟩ := rd_open6 ht
 rcases tK with _ | a
 ·have hk : t.kids = [] := by
   obtain ⟨av, kv, hv, -, -, -, -, -, ⟨A, c, rfl, -, -, h3⟩⟩ := Nd.rd_open ht
   simp only [Value.agg.injEq, Array.mk.injEq, List.cons.injEq, and_true, true_and, Value.slice.injEq] at hv
   by_cases hk : t.kids = []
   ·exact hk
   ·obtain ⟨b, off, hA, -⟩ := h3 hk
    exact absurd hv.2.1 (by rw [hA]; simp)
  have hi0 : i = 0 := by rw [hk] at hi; simpa using hi
  subst hi0
  have e : (.slice none t.kids.length td : Value) = .slice none 0 td := by rw [hk]; rfl
  rw [e] at ht ⊢
  exact put72_none t x tA tc td xv hk wo w hWo ht hx
 ·exact put72_some t x tA tc td a xv i wo w hWo ht hx hi hkl
end Go.Proofs.Ytdnjkffmgmbfmaa.Sy
