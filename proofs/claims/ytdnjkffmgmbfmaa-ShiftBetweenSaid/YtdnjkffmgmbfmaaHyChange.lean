/- SyDropAt turned to this seat. (Printed by gport.py.) -/
import Derived.Test.YtdnjkffmgmbfmaaHyOuOps
import Derived.Test.YtdnjkffmgmbfmaaBwWeighPlain
import Derived.WalkKit
import Derived.Deep.Cut
import Derived.Deep.RegionHeld3
import Derived.BigQuiet
import Derived.IntWalk
import Derived.Test.YtdnjkffmgmbfmaaProg
import Derived.Test.YtdnjkffmgmbfmaaHyIdsW
namespace Go.Proofs.Ytdnjkffmgmbfmaa.Sy
open Go.RowKit Go.Proofs.Ytdnjkffmgmbfmaa.Bw Go.Proofs.Ytdnjkffmgmbfmaa.Bs
set_option maxRecDepth 100000 in
set_option maxHeartbeats 8000000 in
theorem drop84_late (t : Nd) (tA : Option Addr) (tc td : Nat) (a : Addr) (i : Nat) (wo w : World) (hWo : Wo wo w) (ht : t.rd wo (.agg #[.int .u64 t.id, .bool t.leaf, .string t.label, .slice tA t.attrs.length tc, .string t.text, .slice (some a) t.kids.length td])) (hi : i < t.kids.length) (hkl : t.kids.length ≤ 1000000) :
  Calls Try.prog 60 #[.agg #[.int .u64 t.id, .bool t.leaf, .string t.label, .slice tA t.attrs.length tc, .string t.text, .slice (some a) t.kids.length td], .int .i64 (i : Int)] w (Ret w fun r w' => LateN wo w w' (delD t i) r) := by
 obtain ⟨av, kv, hv, i0, i1, hl, htx, hA, hK⟩ := Nd.rd_open ht
 simp only [Value.agg.injEq, Array.mk.injEq, List.cons.injEq, and_true, true_and] at hv
 obtain ⟨rfl, rfl⟩ := hv
 obtain ⟨us, hus, hrs⟩ := hK.row
 have k1 : t.kids.length ≤ td := by obtain ⟨_, _, he, e1, -⟩ := hK; simp only [Value.slice.injEq, true_and] at he; obtain ⟨-, rfl⟩ := he; exact e1
 have k2 : td ≤ 9223372036854775807 := by obtain ⟨_, _, he, -, e1, -⟩ := hK; simp only [Value.slice.injEq, true_and] at he; obtain ⟨-, rfl⟩ := he; unfold maxLen at e1; exact e1
 obtain ⟨w1, hw1⟩ : ∃ W, (w.alloc (.cells #[.int .u64 t.id, .bool t.leaf, .string t.label, .slice tA t.attrs.length tc, .string t.text, .slice (some a) t.kids.length td] 42)).alloc (.cells #[.int .u64 0, .bool false, .string ⟨#[]⟩, .slice none 0 0, .string ⟨#[]⟩, .slice none 0 0] 42) = W := ⟨_, rfl⟩
 obtain ⟨B, hB⟩ : ∃ B, w.heap.size = B := ⟨_, rfl⟩
 have s1 : (w.alloc (.cells #[.int .u64 t.id, .bool t.leaf, .string t.label, .slice tA t.attrs.length tc, .string t.text, .slice (some a) t.kids.length td] 42)).heap.size = B + 1 := by rw [World.size_alloc, hB]
 have E1 : Ext w w1 := by rw [← hw1]; exact ((Ext.refl w).alloc _).alloc _
 have z1 : w1.heap.size = B + 1 + 1 := by rw [← hw1, World.size_alloc, s1]
 have b0 : NBox w1 B 42 #[.int .u64 t.id, .bool t.leaf, .string t.label, .slice tA t.attrs.length tc, .string t.text, .slice (some a) t.kids.length td] := by rw [← hw1, ← hB]; exact (NBox.new w 42 _).ext ((Ext.refl _).alloc _)
 have b2 : NBox w1 (B + 1) 42 #[.int .u64 0, .bool false, .string ⟨#[]⟩, .slice none 0 0, .string ⟨#[]⟩, .slice none 0 0] := by rw [← hw1, ← s1]; exact NBox.new _ 42 _
 have HW1 := Lib.hid hw1
 have HBB := Lib.hid hB
 have HB0 := Lib.hid b0
 have HB2 := Lib.hid b2
 have HE := Lib.hid E1
 have HWO := Lib.hid hWo
 have HWO1 := Lib.hid (hWo.ext E1)
 have HZ1 := Lib.hid z1
 have HUS := Lib.hid hus
 have HRS := Lib.hid hrs
 have HT := Lib.hid (show _ ∧ _ ∧ _ ∧ _ ∧ _ from ⟨i0, i1, hl, htx, hA⟩)
 obtain ⟨t0, t1, t2, t3, t4, t5⟩ := b0.c6
 have q1 : (0 : Int) ≤ (i : Int) := by omega
 have q2 : (i : Int) ≤ (td : Int) := by omega
 have q3 : i ≤ td := by omega
 have q4 : ((i : Int)).toNat = i := by omega
 have hnil : w1.ownsRow w1.heap.size 42 6 (.slice none 0 0) 0 [] := ⟨rfl, .inl ⟨rfl, rfl⟩⟩
 have hrow1 := RdS.front (hrs.sub (hWo.ext E1).sub) (Nat.le_of_lt hi)
 have hone := rowK_one hus
 have hone1 : ∀ u ∈ us.take (i * 6), u.oneCell' = true := fun u hu => hone u (List.mem_of_mem_take hu)
 have HONE := Lib.hid hone
 clear hw1 hB s1 E1 b0 b2 z1 hWo ht hK hA hus hrs hone i0 i1 hl htx
 go_enter Try.func60, Try.ntmps60
 go_upto_region 1 with fail
 rw [HW1.out, HBB.out]
 clear HW1
 go_wp2_with (first | (at_builtin; refine wpList_append_rd rfl rfl Bw.T24 (v := _) (by rfl) hnil (by rfl) hrow1 hone1 (by omega) (by simp only [maxLen]; omega) (Nat.le_refl _) ?_))
 intro v5 w5 h5 hg5 hat5
 have X5 : Ext w1 w5 := Ext.grown (Ext.refl _) hg5 (fun k hk => by cases hk)
 have HX5 := Lib.hid X5
 obtain ⟨A5, c5, rfl, -⟩ := RdS.of_owns h5
 have hb5 := X5.size
 have hone3 : ∀ u ∈ us.drop ((i + 1) * 6), u.oneCell' = true := fun u hu => HONE.out u (List.mem_of_mem_drop hu)
 have hbx := HB0.out.ext X5
 clear t0
 have t0 := hbx.cell 0
 have f0 := hbx.frozen 0
 clear t1
 have t1 := hbx.cell 1
 have f1 := hbx.frozen 1
 clear t2
 have t2 := hbx.cell 2
 have f2 := hbx.frozen 2
 clear t3
 have t3 := hbx.cell 3
 have f3 := hbx.frozen 3
 clear t4
 have t4 := hbx.cell 4
 have f4 := hbx.frozen 4
 clear t5
 have t5 := hbx.cell 5
 have f5 := hbx.frozen 5
 have q5 : ((i : Int)) + 1 ≤ (t.kids.length : Int) := by omega
 have q6 : ((td : Int)) ≤ 9223372036854775807 := by omega
 have q9 : IntKind.i64.wrap ((i : Int) + 1) = (i : Int) + 1 := IntWalk.i64_in _ (by omega)
 have qa : (0 : Int) ≤ (i : Int) + 1 := by omega
 have qb : ((i : Int) + 1).toNat = i + 1 := by omega
 have qc : i + 1 ≤ t.kids.length := by omega
 have qd : i + 1 ≤ td := by omega
 clear X5 hbx hg5 hat5
 go_upto_region 3 with fail
 rcases Nat.eq_or_lt_of_le qd with he | hlt
 ·subst he
  have hrow3 : RdS w5 6 0 [] (.slice (some a) 0 0) := RdS.none_ (Nat.zero_le _)
  have hone3 : ∀ u ∈ ([] : List Value), u.oneCell' = true := fun u hu => absurd hu List.not_mem_nil
  have HDE := Lib.hid (show us.drop ((i + 1) * 6) = [] from by rw [List.drop_eq_nil_of_le (by rw [rowK_len HUS.out]; omega)])
  go_wp2_with (first | (at_builtin; refine wpList_append_rd rfl rfl Bw.T24 (v := _) (by rfl) h5 (by rfl) hrow3 hone3 (by omega) (by simp only [maxLen]; omega) hb5 ?_))
  intro v6 w6 h6 hg6 hat6
  have h6 := own_as (m := t.kids.length - 1) (ys := us.take (i * 6) ++ us.drop ((i + 1) * 6)) h6 (by omega) (by first | (simp; done) | (rw [HDE.out]; simp))
  have X6 : Ext w1 w6 := Fr.ext HX5.out (Fr.grown hg6) (fun k hk => owns_base h5 k hk)
  obtain ⟨A6, c6, rfl, -⟩ := RdS.of_owns h6
  have HX6 := Lib.hid X6
  have HO6 := Lib.hid h6
  have hbx := HB0.out.ext X6
  obtain ⟨t0, t1, t2, t3, t4, t5⟩ := hbx.c6
  obtain ⟨f0, f1, f2, f3, f4, f5⟩ := hbx.f6
  obtain ⟨w7, hw7⟩ : ∃ W, w6.setCell ⟨B, 5, none⟩ (.slice A6 (t.kids.length - 1) c6) = W := ⟨_, rfl⟩
  have F7 : Fr w6 w7 (fun k => k = B) := by rw [← hw7]; exact Fr.setCell _ _ _ _
  have b7 : NBox w7 B 42 #[.int .u64 t.id, .bool t.leaf, .string t.label, .slice tA t.attrs.length tc, .string t.text, .slice A6 (t.kids.length - 1) c6] := by rw [← hw7]; exact hbx.set 5 _
  have HF7 := Lib.hid F7
  have HB7 := Lib.hid b7
  have HBR := Lib.hid ((HB2.out.ext X6).fr F7 (by omega))
  have HW7 := Lib.hid hw7
  clear X6 h6 hg6 hat6 hbx hw7 F7 b7 h5 hrow3 hone3 HDE
  go_upto_region 4 with (rw [HW7.out]; clear HW7)
  clear t0 t1 t2 t3 t4 t5 f0 f1 f2 f3 f4 f5
  obtain ⟨t0, t1, t2, t3, t4, t5⟩ := HB7.out.c6
  obtain ⟨r0, r1, r2, r3, r4, r5⟩ := HBR.out.c6
  obtain ⟨f0, f1, f2, f3, f4, f5⟩ := HBR.out.f6
  have HF9 := Lib.hid (Fr.six w7 (B + 1) (.int .u64 t.id) (.bool t.leaf) (.string t.label) (.slice tA t.attrs.length tc) (.string t.text) (.slice A6 (t.kids.length - 1) c6))
  have HB9 := Lib.hid (HBR.out.six (.int .u64 t.id) (.bool t.leaf) (.string t.label) (.slice tA t.attrs.length tc) (.string t.text) (.slice A6 (t.kids.length - 1) c6))
  go_wp2_with fail
  refine bodyPost_ret (results_st rfl _ rfl HB9.out Try.underlying42 rfl info42) rfl ?_
  exact ⟨_, rfl, del_late HBB.out HZ1.out HF7.out HF9.out HO6.out HUS.out HT.out hi, del_ext HBB.out HE.out HX6.out HF7.out HF9.out⟩
 ·have hrow3 : RdS w5 6 (t.kids.length - (i + 1)) (us.drop ((i + 1) * 6)) (.slice (some (a.add ((i + 1) * 6))) (t.kids.length - (i + 1)) (td - (i + 1))) := by
   obtain ⟨b, o, rfl⟩ := RdS.addr HRS.out (by omega)
   exact RdS.back (HRS.out.sub (HWO1.out.ext HX5.out).sub) qc (fun _ => by rw [Addr.add_lit])
  have q7 : ¬ td = i + 1 := by omega
  have q8 : ¬ i + 1 = td := by omega
  have HDE := Lib.hid (show us.drop ((i + 1) * 6) = us.drop ((i + 1) * 6) from rfl)
  go_wp2_with (first | (at_builtin; refine wpList_append_rd rfl rfl Bw.T24 (v := _) (by rfl) h5 (by rfl) hrow3 hone3 (by omega) (by simp only [maxLen]; omega) hb5 ?_))
  intro v6 w6 h6 hg6 hat6
  have h6 := own_as (m := t.kids.length - 1) (ys := us.take (i * 6) ++ us.drop ((i + 1) * 6)) h6 (by omega) (by first | (simp; done) | (rw [HDE.out]; simp))
  have X6 : Ext w1 w6 := Fr.ext HX5.out (Fr.grown hg6) (fun k hk => owns_base h5 k hk)
  obtain ⟨A6, c6, rfl, -⟩ := RdS.of_owns h6
  have HX6 := Lib.hid X6
  have HO6 := Lib.hid h6
  have hbx := HB0.out.ext X6
  obtain ⟨t0, t1, t2, t3, t4, t5⟩ := hbx.c6
  obtain ⟨f0, f1, f2, f3, f4, f5⟩ := hbx.f6
  obtain ⟨w7, hw7⟩ : ∃ W, w6.setCell ⟨B, 5, none⟩ (.slice A6 (t.kids.length - 1) c6) = W := ⟨_, rfl⟩
  have F7 : Fr w6 w7 (fun k => k = B) := by rw [← hw7]; exact Fr.setCell _ _ _ _
  have b7 : NBox w7 B 42 #[.int .u64 t.id, .bool t.leaf, .string t.label, .slice tA t.attrs.length tc, .string t.text, .slice A6 (t.kids.length - 1) c6] := by rw [← hw7]; exact hbx.set 5 _
  have HF7 := Lib.hid F7
  have HB7 := Lib.hid b7
  have HBR := Lib.hid ((HB2.out.ext X6).fr F7 (by omega))
  have HW7 := Lib.hid hw7
  clear X6 h6 hg6 hat6 hbx hw7 F7 b7 h5 hrow3 hone3 HDE
  go_upto_region 4 with (rw [HW7.out]; clear HW7)
  clear t0 t1 t2 t3 t4 t5 f0 f1 f2 f3 f4 f5
  obtain ⟨t0, t1, t2, t3, t4, t5⟩ := HB7.out.c6
  obtain ⟨r0, r1, r2, r3, r4, r5⟩ := HBR.out.c6
  obtain ⟨f0, f1, f2, f3, f4, f5⟩ := HBR.out.f6
  have HF9 := Lib.hid (Fr.six w7 (B + 1) (.int .u64 t.id) (.bool t.leaf) (.string t.label) (.slice tA t.attrs.length tc) (.string t.text) (.slice A6 (t.kids.length - 1) c6))
  have HB9 := Lib.hid (HBR.out.six (.int .u64 t.id) (.bool t.leaf) (.string t.label) (.slice tA t.attrs.length tc) (.string t.text) (.slice A6 (t.kids.length - 1) c6))
  go_wp2_with fail
  refine bodyPost_ret (results_st rfl _ rfl HB9.out Try.underlying42 rfl info42) rfl ?_
  exact ⟨_, rfl, del_late HBB.out HZ1.out HF7.out HF9.out HO6.out HUS.out HT.out hi, del_ext HBB.out HE.out HX6.out HF7.out HF9.out⟩
theorem drop84_any (t : Nd) (v : Value) (i : Nat) (wo w : World) (hWo : Wo wo w) (ht : t.rd wo v) (hi : i < t.kids.length) (hkl : t.kids.length ≤ 1000000) :
  Calls Try.prog 60 #[v, .int .i64 (i : Int)] w (Ret w fun r w' => LateN wo w w' (delD t i) r) := by
 obtain ⟨tA, tc, tK, td, rfl⟩ := rd_open6 ht
 obtain ⟨av, kv, hv, -, -, -, -, -, ⟨A, c, rfl, -, -, h3⟩⟩ := Nd.rd_open ht
 simp only [Value.agg.injEq, Array.mk.injEq, List.cons.injEq, and_true, true_and, Value.slice.injEq] at hv
 obtain ⟨b, off, hA, -⟩ := h3 (by intro h; rw [h] at hi; cases hi)
 obtain ⟨-, rfl, -⟩ := hv
 subst hA
 exact drop84_late t tA tc td _ i wo w hWo ht hi hkl
end Go.Proofs.Ytdnjkffmgmbfmaa.Sy
namespace Go.Proofs.Ytdnjkffmgmbfmaa.Sy
open Go.RowKit Go.Proofs.Ytdnjkffmgmbfmaa.Bw Go.Proofs.Ytdnjkffmgmbfmaa.Bs
set_option maxRecDepth 100000 in
set_option maxHeartbeats 8000000 in
theorem change_late (t x : Nd) (v xv q : Value) (p : List Int) (wo w : World) (hWo : Wo wo w) (ht : t.rd wo v) (hx : x.rd wo xv) (hq : RdI w p q) (hwt : t.wt ≤ 1000000) :
  Calls Try.prog 42 #[v, q, xv] w (Ret w fun r w' => LateN wo w w' ((t.put p x).getD Nd.zero) r) := by
 obtain ⟨tA, tc, tK, td, rfl⟩ := rd_open6 ht
 obtain ⟨xA, xc, xK, xd, rfl⟩ := rd_open6 hx
 obtain ⟨w1, hw1⟩ : ∃ W, ((w.alloc (.cells #[.int .u64 t.id, .bool t.leaf, .string t.label, .slice tA t.attrs.length tc, .string t.text, .slice tK t.kids.length td] 42)).alloc (.cells #[.int .u64 x.id, .bool x.leaf, .string x.label, .slice xA x.attrs.length xc, .string x.text, .slice xK x.kids.length xd] 42)).alloc (.cells #[.int .u64 0, .bool false, .string ⟨#[]⟩, .slice none 0 0, .string ⟨#[]⟩, .slice none 0 0] 42) = W := ⟨_, rfl⟩
 obtain ⟨B, hB⟩ : ∃ B, w.heap.size = B := ⟨_, rfl⟩
 have s1 : (w.alloc (.cells #[.int .u64 t.id, .bool t.leaf, .string t.label, .slice tA t.attrs.length tc, .string t.text, .slice tK t.kids.length td] 42)).heap.size = B + 1 := by rw [World.size_alloc, hB]
 have s2 : ((w.alloc (.cells #[.int .u64 t.id, .bool t.leaf, .string t.label, .slice tA t.attrs.length tc, .string t.text, .slice tK t.kids.length td] 42)).alloc (.cells #[.int .u64 x.id, .bool x.leaf, .string x.label, .slice xA x.attrs.length xc, .string x.text, .slice xK x.kids.length xd] 42)).heap.size = B + 1 + 1 := by rw [World.size_alloc, s1]
 have E1 : Ext w w1 := by rw [← hw1]; exact (((Ext.refl w).alloc _).alloc _).alloc _
 have z1 : w1.heap.size = B + 1 + 1 + 1 := by rw [← hw1, World.size_alloc, s2]
 have b0 : NBox w1 B 42 #[.int .u64 t.id, .bool t.leaf, .string t.label, .slice tA t.attrs.length tc, .string t.text, .slice tK t.kids.length td] := by rw [← hw1, ← hB]; exact (NBox.new w 42 _).ext (((Ext.refl _).alloc _).alloc _)
 have b1 : NBox w1 (B + 1) 42 #[.int .u64 x.id, .bool x.leaf, .string x.label, .slice xA x.attrs.length xc, .string x.text, .slice xK x.kids.length xd] := by rw [← hw1, ← s1]; exact (NBox.new _ 42 _).ext ((Ext.refl _).alloc _)
 have b2 : NBox w1 (B + 1 + 1) 42 #[.int .u64 0, .bool false, .string ⟨#[]⟩, .slice none 0 0, .string ⟨#[]⟩, .slice none 0 0] := by rw [← hw1, ← s2]; exact NBox.new _ 42 _
 have hc := rput_late p t x _ _ q wo w1 (hWo.ext E1).sub ht hx (RdS.ext E1 hq) hwt
 have HW1 := Lib.hid hw1
 have HBB := Lib.hid hB
 have HB2 := Lib.hid b2
 have HE := Lib.hid E1
 have HWO := Lib.hid hWo
 have HZ1 := Lib.hid z1
 obtain ⟨t0, t1, t2, t3, t4, t5⟩ := b0.c6
 obtain ⟨x0, x1, x2, x3, x4, x5⟩ := b1.c6
 obtain ⟨qA, qc, rfl, -⟩ := hq
 clear hw1 hB s1 s2 E1 b0 b1 b2 z1 hWo ht hx
 go_enter Try.func42, Try.ntmps42
 go_upto_region 1 with fail
 rw [HW1.out, HBB.out]
 clear HW1
 go_wp2_with fail
 refine hc.mono ?_
 clear hc t0 x0 t1 x1 t2 x2 t3 x3 t4 x4 t5 x5
 rintro e w2 ⟨r, rfl, hR, E2⟩
 obtain ⟨v, rfl, hL⟩ := RdLate.split hR ((HWO.out.ext HE.out).ext E2).sub
 obtain ⟨y, hy⟩ : ∃ y, (t.put p x).getD Nd.zero = y := ⟨_, rfl⟩
 rw [hy] at hL
 have HY := Lib.hid hy
 obtain ⟨yA, yc, yK, yd, rfl⟩ := rd_open6 (hL.now ((HWO.out.ext HE.out).ext E2).sub)
 have HL := Lib.hid hL
 have HE2 := Lib.hid E2
 obtain ⟨w3a, hwa⟩ : ∃ q, w2.alloc (.cells #[.int .u64 0, .bool false, .string ⟨#[]⟩, .slice none 0 0, .string ⟨#[]⟩, .slice none 0 0] 42) = q := ⟨_, rfl⟩
 obtain ⟨M, hM⟩ : ∃ q, w2.heap.size = q := ⟨_, rfl⟩
 have XA : Ext w2 w3a := by rw [← hwa]; exact (Ext.refl _).alloc _
 have bM : NBox w3a M 42 #[.int .u64 0, .bool false, .string ⟨#[]⟩, .slice none 0 0, .string ⟨#[]⟩, .slice none 0 0] := by rw [← hwa, ← hM]; exact NBox.new _ _ _
 obtain ⟨w3, hwn⟩ : ∃ q, (World.setCell (World.setCell (World.setCell (World.setCell (World.setCell (World.setCell w3a ⟨M, 0, none⟩ (.int .u64 y.id)) ⟨M, 1, none⟩ (.bool y.leaf)) ⟨M, 2, none⟩ (.string y.label)) ⟨M, 3, none⟩ (.slice yA y.attrs.length yc)) ⟨M, 4, none⟩ (.string y.text)) ⟨M, 5, none⟩ (.slice yK y.kids.length yd)) = q := ⟨_, rfl⟩
 have F8 : Fr w3a w3 (fun k => k = M) := by rw [← hwn]; exact Fr.six _ _ _ _ _ _ _ _
 have X8 : Ext w2 w3 := Fr.ext XA F8 (fun q hq => by rw [show q = M from hq, hM]; exact Nat.le_refl _)
 have bM3 : NBox w3 M 42 #[.int .u64 y.id, .bool y.leaf, .string y.label, .slice yA y.attrs.length yc, .string y.text, .slice yK y.kids.length yd] := by rw [← hwn]; exact bM.six _ _ _ _ _ _
 have HX8 := Lib.hid X8
 have HB23 := Lib.hid ((HB2.out.ext E2).ext X8)
 have HWA := Lib.hid hwa
 have HMM := Lib.hid hM
 have HWN := Lib.hid hwn
 have HM3 := Lib.hid bM3
 obtain ⟨y0, y1, y2, y3, y4, y5⟩ := bM.c6
 obtain ⟨z0, z1, z2, z3, z4, z5⟩ := bM.f6
 clear hwa hM hwn XA bM F8 X8 bM3 hL E2 hy hR HB2
 go_upto_region 2 with (rw [HWA.out, HMM.out]; clear HWA)
 rw [HWN.out]
 clear HWN y0 z0 y1 z1 y2 z2 y3 z3 y4 z4 y5 z5
 obtain ⟨y0, y1, y2, y3, y4, y5⟩ := HM3.out.c6
 obtain ⟨k0, k1, k2, k3, k4, k5⟩ := HB23.out.c6
 obtain ⟨f0, f1, f2, f3, f4, f5⟩ := HB23.out.f6
 have F9 := Fr.six w3 (B + 1 + 1) (.int .u64 y.id) (.bool y.leaf) (.string y.label) (.slice yA y.attrs.length yc) (.string y.text) (.slice yK y.kids.length yd)
 have HB9 := Lib.hid (HB23.out.six (.int .u64 y.id) (.bool y.leaf) (.string y.label) (.slice yA y.attrs.length yc) (.string y.text) (.slice yK y.kids.length yd))
 have HF9 := Lib.hid F9
 clear F9
 go_wp2_with fail
 refine bodyPost_ret (results_st rfl _ rfl HB9.out Try.underlying42 rfl info42) rfl ?_
 have X9 := HX8.out
 have Z1 := HZ1.out
 have hB := HBB.out
 refine ⟨_, rfl, ?_, Fr.ext ((HE.out.trans HE2.out).trans X9) HF9.out (fun q hq => by rw [show q = B + 1 + 1 from hq, hB]; omega)⟩
 rw [HY.out]
 refine HL.out.wide (news_fr (news_ext (News.now _ _) X9 (Nat.le_refl _)) HF9.out X9.size (fun i hi => .inl (by rw [show i = B + 1 + 1 from hi]; omega))) HE.out.size (Nat.le_trans X9.size HF9.out.size)
end Go.Proofs.Ytdnjkffmgmbfmaa.Sy
