/- Chapter 17: what of an operation its kind has not, kind by kind. (Printed by gbare.py.) -/
import Derived.Test.YtoplaokimahdiaaWiBare
namespace Go.Proofs.Ytoplaokimahdiaa.Wi
open Go.RowKit Go.Proofs.Ytoplaokimahdiaa.Bw Go.Proofs.Ytoplaokimahdiaa.Bs


set_option maxRecDepth 100000 in
set_option maxHeartbeats 2000000 in
theorem bare_4_0 (p : List Int) (a : Int) (t : List Int) (i : Int) (lf : Bool) (lb ky vv : ByteArray) (g : Bool) (c : List Pc) (pA tA cA : Option Addr) (pc tc cc : Nat) (w : World) (h_id : (i == 0) = false) : Calls Try.prog 68 #[.agg #[.int .u8 4, .slice pA p.length pc, .int .i64 a, .slice tA t.length tc, .int .u64 i, .bool lf, .string lb, .string ky, .string vv, .bool g, .slice cA c.length cc]] w fun e w' => e = .returned (.bool false) ∧ Ext w w' := by
  have hmf : ∀ (fn : Fn) (first cap : Array Value) (w : World), (Instr.makeFunc fn first cap).run Try.prog w = .ok (.func fn first cap) w := fun _ _ _ _ => rfl
  have hnot : ∀ (x : Bool) (w : World), (Op.unary .not (.bool x)).run Try.prog w = .ok (.bool (!x)) w := fun _ _ => rfl
  obtain ⟨w0, hw0⟩ : ∃ W, w.alloc (.cells #[.int .u8 4, .slice pA p.length pc, .int .i64 a, .slice tA t.length tc, .int .u64 i, .bool lf, .string lb, .string ky, .string vv, .bool g, .slice cA c.length cc] 66) = W := ⟨_, rfl⟩
  have E0 : Ext w w0 := by rw [← hw0]; exact (Ext.refl w).alloc _
  have b0 : NBox w0 w.heap.size 66 #[.int .u8 4, .slice pA p.length pc, .int .i64 a, .slice tA t.length tc, .int .u64 i, .bool lf, .string lb, .string ky, .string vv, .bool g, .slice cA c.length cc] := by rw [← hw0]; exact NBox.new _ _ _
  obtain ⟨O, hO⟩ : ∃ O, w.heap.size = O := ⟨_, rfl⟩
  rw [hO] at b0
  have HW := Lib.hid hw0
  have HO := Lib.hid hO
  clear hw0 hO hnot
  go_enter Try.func68, Try.ntmps68
  go_upto_region 1 with fail
  rw [HW.out, HO.out]
  clear HW HO
  go_upto_region 2 with fail
  go_step
  dsimp only [List.append]
  have x0 := b0.cell 0
  have x2 := b0.cell 2
  have x3 := b0.cell 3
  have x4 := b0.cell 4
  have x5 := b0.cell 5
  have x6 := b0.cell 6
  have x7 := b0.cell 7
  have x8 := b0.cell 8
  have x9 := b0.cell 9
  have x10 := b0.cell 10
  go_wp2_with fail
  refine (has_lit 4 [1] false (by decide) O w0 (w0.alloc (.cells #[.int .u8 1] 5)) rfl (b0.cell 0)).mono ?_
  rintro e w1' ⟨rfl, rfl⟩
  obtain ⟨w1, hw1⟩ : ∃ W, w0.alloc (.cells #[.int .u8 1] 5) = W := ⟨_, rfl⟩
  have b1 : NBox w1 O 66 #[.int .u8 4, .slice pA p.length pc, .int .i64 a, .slice tA t.length tc, .int .u64 i, .bool lf, .string lb, .string ky, .string vv, .bool g, .slice cA c.length cc] := by rw [← hw1]; exact b0.ext ((Ext.refl _).alloc _)
  have E1 : Ext w w1 := by rw [← hw1]; exact E0.alloc _
  rw [hw1]
  clear hw1 x0 x2 x3 x4 x5 x6 x7 x8 x9 x10
  have x0 := b1.cell 0
  have x2 := b1.cell 2
  have x3 := b1.cell 3
  have x4 := b1.cell 4
  have x5 := b1.cell 5
  have x6 := b1.cell 6
  have x7 := b1.cell 7
  have x8 := b1.cell 8
  have x9 := b1.cell 9
  have x10 := b1.cell 10
  go_wp2_with fail
  go_ret
  exact ⟨rfl, E1⟩
set_option maxRecDepth 100000 in
set_option maxHeartbeats 2000000 in
theorem bare_4_1 (p : List Int) (a : Int) (t : List Int) (i : Int) (lb ky vv : ByteArray) (g : Bool) (c : List Pc) (pA tA cA : Option Addr) (pc tc cc : Nat) (w : World) (h_id : (i == 0) = true) : Calls Try.prog 68 #[.agg #[.int .u8 4, .slice pA p.length pc, .int .i64 a, .slice tA t.length tc, .int .u64 i, .bool true, .string lb, .string ky, .string vv, .bool g, .slice cA c.length cc]] w fun e w' => e = .returned (.bool false) ∧ Ext w w' := by
  have hmf : ∀ (fn : Fn) (first cap : Array Value) (w : World), (Instr.makeFunc fn first cap).run Try.prog w = .ok (.func fn first cap) w := fun _ _ _ _ => rfl
  have hnot : ∀ (x : Bool) (w : World), (Op.unary .not (.bool x)).run Try.prog w = .ok (.bool (!x)) w := fun _ _ => rfl
  obtain ⟨w0, hw0⟩ : ∃ W, w.alloc (.cells #[.int .u8 4, .slice pA p.length pc, .int .i64 a, .slice tA t.length tc, .int .u64 i, .bool true, .string lb, .string ky, .string vv, .bool g, .slice cA c.length cc] 66) = W := ⟨_, rfl⟩
  have E0 : Ext w w0 := by rw [← hw0]; exact (Ext.refl w).alloc _
  have b0 : NBox w0 w.heap.size 66 #[.int .u8 4, .slice pA p.length pc, .int .i64 a, .slice tA t.length tc, .int .u64 i, .bool true, .string lb, .string ky, .string vv, .bool g, .slice cA c.length cc] := by rw [← hw0]; exact NBox.new _ _ _
  obtain ⟨O, hO⟩ : ∃ O, w.heap.size = O := ⟨_, rfl⟩
  rw [hO] at b0
  have HW := Lib.hid hw0
  have HO := Lib.hid hO
  clear hw0 hO hnot
  go_enter Try.func68, Try.ntmps68
  go_upto_region 1 with fail
  rw [HW.out, HO.out]
  clear HW HO
  go_upto_region 2 with fail
  go_step
  dsimp only [List.append]
  have x0 := b0.cell 0
  have x2 := b0.cell 2
  have x3 := b0.cell 3
  have x4 := b0.cell 4
  have x5 := b0.cell 5
  have x6 := b0.cell 6
  have x7 := b0.cell 7
  have x8 := b0.cell 8
  have x9 := b0.cell 9
  have x10 := b0.cell 10
  go_wp2_with fail
  refine (has_lit 4 [1] false (by decide) O w0 (w0.alloc (.cells #[.int .u8 1] 5)) rfl (b0.cell 0)).mono ?_
  rintro e w1' ⟨rfl, rfl⟩
  obtain ⟨w1, hw1⟩ : ∃ W, w0.alloc (.cells #[.int .u8 1] 5) = W := ⟨_, rfl⟩
  have b1 : NBox w1 O 66 #[.int .u8 4, .slice pA p.length pc, .int .i64 a, .slice tA t.length tc, .int .u64 i, .bool true, .string lb, .string ky, .string vv, .bool g, .slice cA c.length cc] := by rw [← hw1]; exact b0.ext ((Ext.refl _).alloc _)
  have E1 : Ext w w1 := by rw [← hw1]; exact E0.alloc _
  rw [hw1]
  clear hw1 x0 x2 x3 x4 x5 x6 x7 x8 x9 x10
  have x0 := b1.cell 0
  have x2 := b1.cell 2
  have x3 := b1.cell 3
  have x4 := b1.cell 4
  have x5 := b1.cell 5
  have x6 := b1.cell 6
  have x7 := b1.cell 7
  have x8 := b1.cell 8
  have x9 := b1.cell 9
  have x10 := b1.cell 10
  go_wp2_with fail
  go_ret
  exact ⟨rfl, E1⟩
set_option maxRecDepth 100000 in
set_option maxHeartbeats 2000000 in
theorem bare_4_2 (p : List Int) (a : Int) (t : List Int) (i : Int) (lb ky vv : ByteArray) (g : Bool) (c : List Pc) (pA tA cA : Option Addr) (pc tc cc : Nat) (w : World) (h_id : (i == 0) = true) (h_at : (a == 0) = false) : Calls Try.prog 68 #[.agg #[.int .u8 4, .slice pA p.length pc, .int .i64 a, .slice tA t.length tc, .int .u64 i, .bool false, .string lb, .string ky, .string vv, .bool g, .slice cA c.length cc]] w fun e w' => e = .returned (.bool false) ∧ Ext w w' := by
  have hmf : ∀ (fn : Fn) (first cap : Array Value) (w : World), (Instr.makeFunc fn first cap).run Try.prog w = .ok (.func fn first cap) w := fun _ _ _ _ => rfl
  have hnot : ∀ (x : Bool) (w : World), (Op.unary .not (.bool x)).run Try.prog w = .ok (.bool (!x)) w := fun _ _ => rfl
  obtain ⟨w0, hw0⟩ : ∃ W, w.alloc (.cells #[.int .u8 4, .slice pA p.length pc, .int .i64 a, .slice tA t.length tc, .int .u64 i, .bool false, .string lb, .string ky, .string vv, .bool g, .slice cA c.length cc] 66) = W := ⟨_, rfl⟩
  have E0 : Ext w w0 := by rw [← hw0]; exact (Ext.refl w).alloc _
  have b0 : NBox w0 w.heap.size 66 #[.int .u8 4, .slice pA p.length pc, .int .i64 a, .slice tA t.length tc, .int .u64 i, .bool false, .string lb, .string ky, .string vv, .bool g, .slice cA c.length cc] := by rw [← hw0]; exact NBox.new _ _ _
  obtain ⟨O, hO⟩ : ∃ O, w.heap.size = O := ⟨_, rfl⟩
  rw [hO] at b0
  have HW := Lib.hid hw0
  have HO := Lib.hid hO
  clear hw0 hO hnot
  go_enter Try.func68, Try.ntmps68
  go_upto_region 1 with fail
  rw [HW.out, HO.out]
  clear HW HO
  go_upto_region 2 with fail
  go_step
  dsimp only [List.append]
  have x0 := b0.cell 0
  have x2 := b0.cell 2
  have x3 := b0.cell 3
  have x4 := b0.cell 4
  have x5 := b0.cell 5
  have x6 := b0.cell 6
  have x7 := b0.cell 7
  have x8 := b0.cell 8
  have x9 := b0.cell 9
  have x10 := b0.cell 10
  go_wp2_with fail
  refine (has_lit 4 [1] false (by decide) O w0 (w0.alloc (.cells #[.int .u8 1] 5)) rfl (b0.cell 0)).mono ?_
  rintro e w1' ⟨rfl, rfl⟩
  obtain ⟨w1, hw1⟩ : ∃ W, w0.alloc (.cells #[.int .u8 1] 5) = W := ⟨_, rfl⟩
  have b1 : NBox w1 O 66 #[.int .u8 4, .slice pA p.length pc, .int .i64 a, .slice tA t.length tc, .int .u64 i, .bool false, .string lb, .string ky, .string vv, .bool g, .slice cA c.length cc] := by rw [← hw1]; exact b0.ext ((Ext.refl _).alloc _)
  have E1 : Ext w w1 := by rw [← hw1]; exact E0.alloc _
  rw [hw1]
  clear hw1 x0 x2 x3 x4 x5 x6 x7 x8 x9 x10
  have x0 := b1.cell 0
  have x2 := b1.cell 2
  have x3 := b1.cell 3
  have x4 := b1.cell 4
  have x5 := b1.cell 5
  have x6 := b1.cell 6
  have x7 := b1.cell 7
  have x8 := b1.cell 8
  have x9 := b1.cell 9
  have x10 := b1.cell 10
  go_wp2_with fail
  refine (has_lit 4 [1, 3] false (by decide) O w1 (w1.alloc (.cells #[.int .u8 1, .int .u8 3] 5)) rfl (b1.cell 0)).mono ?_
  rintro e w2' ⟨rfl, rfl⟩
  obtain ⟨w2, hw2⟩ : ∃ W, w1.alloc (.cells #[.int .u8 1, .int .u8 3] 5) = W := ⟨_, rfl⟩
  have b2 : NBox w2 O 66 #[.int .u8 4, .slice pA p.length pc, .int .i64 a, .slice tA t.length tc, .int .u64 i, .bool false, .string lb, .string ky, .string vv, .bool g, .slice cA c.length cc] := by rw [← hw2]; exact b1.ext ((Ext.refl _).alloc _)
  have E2 : Ext w w2 := by rw [← hw2]; exact E1.alloc _
  rw [hw2]
  clear hw2 x0 x2 x3 x4 x5 x6 x7 x8 x9 x10
  have x0 := b2.cell 0
  have x2 := b2.cell 2
  have x3 := b2.cell 3
  have x4 := b2.cell 4
  have x5 := b2.cell 5
  have x6 := b2.cell 6
  have x7 := b2.cell 7
  have x8 := b2.cell 8
  have x9 := b2.cell 9
  have x10 := b2.cell 10
  go_wp2_with fail
  go_ret
  exact ⟨rfl, E2⟩
set_option maxRecDepth 100000 in
set_option maxHeartbeats 2000000 in
theorem bare_4_3 (p : List Int) (a : Int) (t : List Int) (i : Int) (lb ky vv : ByteArray) (g : Bool) (c : List Pc) (pA tA cA : Option Addr) (pc tc cc : Nat) (w : World) (h_id : (i == 0) = true) (h_at : (a == 0) = true) (h_to : ((t.length : Int) == 0) = false) : Calls Try.prog 68 #[.agg #[.int .u8 4, .slice pA p.length pc, .int .i64 a, .slice tA t.length tc, .int .u64 i, .bool false, .string lb, .string ky, .string vv, .bool g, .slice cA c.length cc]] w fun e w' => e = .returned (.bool false) ∧ Ext w w' := by
  have hmf : ∀ (fn : Fn) (first cap : Array Value) (w : World), (Instr.makeFunc fn first cap).run Try.prog w = .ok (.func fn first cap) w := fun _ _ _ _ => rfl
  have hnot : ∀ (x : Bool) (w : World), (Op.unary .not (.bool x)).run Try.prog w = .ok (.bool (!x)) w := fun _ _ => rfl
  obtain ⟨w0, hw0⟩ : ∃ W, w.alloc (.cells #[.int .u8 4, .slice pA p.length pc, .int .i64 a, .slice tA t.length tc, .int .u64 i, .bool false, .string lb, .string ky, .string vv, .bool g, .slice cA c.length cc] 66) = W := ⟨_, rfl⟩
  have E0 : Ext w w0 := by rw [← hw0]; exact (Ext.refl w).alloc _
  have b0 : NBox w0 w.heap.size 66 #[.int .u8 4, .slice pA p.length pc, .int .i64 a, .slice tA t.length tc, .int .u64 i, .bool false, .string lb, .string ky, .string vv, .bool g, .slice cA c.length cc] := by rw [← hw0]; exact NBox.new _ _ _
  obtain ⟨O, hO⟩ : ∃ O, w.heap.size = O := ⟨_, rfl⟩
  rw [hO] at b0
  have HW := Lib.hid hw0
  have HO := Lib.hid hO
  clear hw0 hO hnot
  go_enter Try.func68, Try.ntmps68
  go_upto_region 1 with fail
  rw [HW.out, HO.out]
  clear HW HO
  go_upto_region 2 with fail
  go_step
  dsimp only [List.append]
  have x0 := b0.cell 0
  have x2 := b0.cell 2
  have x3 := b0.cell 3
  have x4 := b0.cell 4
  have x5 := b0.cell 5
  have x6 := b0.cell 6
  have x7 := b0.cell 7
  have x8 := b0.cell 8
  have x9 := b0.cell 9
  have x10 := b0.cell 10
  go_wp2_with fail
  refine (has_lit 4 [1] false (by decide) O w0 (w0.alloc (.cells #[.int .u8 1] 5)) rfl (b0.cell 0)).mono ?_
  rintro e w1' ⟨rfl, rfl⟩
  obtain ⟨w1, hw1⟩ : ∃ W, w0.alloc (.cells #[.int .u8 1] 5) = W := ⟨_, rfl⟩
  have b1 : NBox w1 O 66 #[.int .u8 4, .slice pA p.length pc, .int .i64 a, .slice tA t.length tc, .int .u64 i, .bool false, .string lb, .string ky, .string vv, .bool g, .slice cA c.length cc] := by rw [← hw1]; exact b0.ext ((Ext.refl _).alloc _)
  have E1 : Ext w w1 := by rw [← hw1]; exact E0.alloc _
  rw [hw1]
  clear hw1 x0 x2 x3 x4 x5 x6 x7 x8 x9 x10
  have x0 := b1.cell 0
  have x2 := b1.cell 2
  have x3 := b1.cell 3
  have x4 := b1.cell 4
  have x5 := b1.cell 5
  have x6 := b1.cell 6
  have x7 := b1.cell 7
  have x8 := b1.cell 8
  have x9 := b1.cell 9
  have x10 := b1.cell 10
  go_wp2_with fail
  refine (has_lit 4 [1, 3] false (by decide) O w1 (w1.alloc (.cells #[.int .u8 1, .int .u8 3] 5)) rfl (b1.cell 0)).mono ?_
  rintro e w2' ⟨rfl, rfl⟩
  obtain ⟨w2, hw2⟩ : ∃ W, w1.alloc (.cells #[.int .u8 1, .int .u8 3] 5) = W := ⟨_, rfl⟩
  have b2 : NBox w2 O 66 #[.int .u8 4, .slice pA p.length pc, .int .i64 a, .slice tA t.length tc, .int .u64 i, .bool false, .string lb, .string ky, .string vv, .bool g, .slice cA c.length cc] := by rw [← hw2]; exact b1.ext ((Ext.refl _).alloc _)
  have E2 : Ext w w2 := by rw [← hw2]; exact E1.alloc _
  rw [hw2]
  clear hw2 x0 x2 x3 x4 x5 x6 x7 x8 x9 x10
  have x0 := b2.cell 0
  have x2 := b2.cell 2
  have x3 := b2.cell 3
  have x4 := b2.cell 4
  have x5 := b2.cell 5
  have x6 := b2.cell 6
  have x7 := b2.cell 7
  have x8 := b2.cell 8
  have x9 := b2.cell 9
  have x10 := b2.cell 10
  go_wp2_with fail
  refine (has_lit 4 [3] false (by decide) O w2 (w2.alloc (.cells #[.int .u8 3] 5)) rfl (b2.cell 0)).mono ?_
  rintro e w3' ⟨rfl, rfl⟩
  obtain ⟨w3, hw3⟩ : ∃ W, w2.alloc (.cells #[.int .u8 3] 5) = W := ⟨_, rfl⟩
  have b3 : NBox w3 O 66 #[.int .u8 4, .slice pA p.length pc, .int .i64 a, .slice tA t.length tc, .int .u64 i, .bool false, .string lb, .string ky, .string vv, .bool g, .slice cA c.length cc] := by rw [← hw3]; exact b2.ext ((Ext.refl _).alloc _)
  have E3 : Ext w w3 := by rw [← hw3]; exact E2.alloc _
  rw [hw3]
  clear hw3 x0 x2 x3 x4 x5 x6 x7 x8 x9 x10
  have x0 := b3.cell 0
  have x2 := b3.cell 2
  have x3 := b3.cell 3
  have x4 := b3.cell 4
  have x5 := b3.cell 5
  have x6 := b3.cell 6
  have x7 := b3.cell 7
  have x8 := b3.cell 8
  have x9 := b3.cell 9
  have x10 := b3.cell 10
  go_wp2_with fail
  go_ret
  exact ⟨rfl, E3⟩
set_option maxRecDepth 100000 in
set_option maxHeartbeats 2000000 in
theorem bare_4_4 (p : List Int) (a : Int) (t : List Int) (i : Int) (lb ky vv : ByteArray) (g : Bool) (c : List Pc) (pA tA cA : Option Addr) (pc tc cc : Nat) (w : World) (h_id : (i == 0) = true) (h_at : (a == 0) = true) (h_to : ((t.length : Int) == 0) = true) (h_label : lb.toList.isEmpty = false) : Calls Try.prog 68 #[.agg #[.int .u8 4, .slice pA p.length pc, .int .i64 a, .slice tA t.length tc, .int .u64 i, .bool false, .string lb, .string ky, .string vv, .bool g, .slice cA c.length cc]] w fun e w' => e = .returned (.bool false) ∧ Ext w w' := by
  have hmf : ∀ (fn : Fn) (first cap : Array Value) (w : World), (Instr.makeFunc fn first cap).run Try.prog w = .ok (.func fn first cap) w := fun _ _ _ _ => rfl
  have hnot : ∀ (x : Bool) (w : World), (Op.unary .not (.bool x)).run Try.prog w = .ok (.bool (!x)) w := fun _ _ => rfl
  obtain ⟨w0, hw0⟩ : ∃ W, w.alloc (.cells #[.int .u8 4, .slice pA p.length pc, .int .i64 a, .slice tA t.length tc, .int .u64 i, .bool false, .string lb, .string ky, .string vv, .bool g, .slice cA c.length cc] 66) = W := ⟨_, rfl⟩
  have E0 : Ext w w0 := by rw [← hw0]; exact (Ext.refl w).alloc _
  have b0 : NBox w0 w.heap.size 66 #[.int .u8 4, .slice pA p.length pc, .int .i64 a, .slice tA t.length tc, .int .u64 i, .bool false, .string lb, .string ky, .string vv, .bool g, .slice cA c.length cc] := by rw [← hw0]; exact NBox.new _ _ _
  obtain ⟨O, hO⟩ : ∃ O, w.heap.size = O := ⟨_, rfl⟩
  rw [hO] at b0
  have HW := Lib.hid hw0
  have HO := Lib.hid hO
  clear hw0 hO hnot
  go_enter Try.func68, Try.ntmps68
  go_upto_region 1 with fail
  rw [HW.out, HO.out]
  clear HW HO
  go_upto_region 2 with fail
  go_step
  dsimp only [List.append]
  have x0 := b0.cell 0
  have x2 := b0.cell 2
  have x3 := b0.cell 3
  have x4 := b0.cell 4
  have x5 := b0.cell 5
  have x6 := b0.cell 6
  have x7 := b0.cell 7
  have x8 := b0.cell 8
  have x9 := b0.cell 9
  have x10 := b0.cell 10
  go_wp2_with fail
  refine (has_lit 4 [1] false (by decide) O w0 (w0.alloc (.cells #[.int .u8 1] 5)) rfl (b0.cell 0)).mono ?_
  rintro e w1' ⟨rfl, rfl⟩
  obtain ⟨w1, hw1⟩ : ∃ W, w0.alloc (.cells #[.int .u8 1] 5) = W := ⟨_, rfl⟩
  have b1 : NBox w1 O 66 #[.int .u8 4, .slice pA p.length pc, .int .i64 a, .slice tA t.length tc, .int .u64 i, .bool false, .string lb, .string ky, .string vv, .bool g, .slice cA c.length cc] := by rw [← hw1]; exact b0.ext ((Ext.refl _).alloc _)
  have E1 : Ext w w1 := by rw [← hw1]; exact E0.alloc _
  rw [hw1]
  clear hw1 x0 x2 x3 x4 x5 x6 x7 x8 x9 x10
  have x0 := b1.cell 0
  have x2 := b1.cell 2
  have x3 := b1.cell 3
  have x4 := b1.cell 4
  have x5 := b1.cell 5
  have x6 := b1.cell 6
  have x7 := b1.cell 7
  have x8 := b1.cell 8
  have x9 := b1.cell 9
  have x10 := b1.cell 10
  go_wp2_with fail
  refine (has_lit 4 [1, 3] false (by decide) O w1 (w1.alloc (.cells #[.int .u8 1, .int .u8 3] 5)) rfl (b1.cell 0)).mono ?_
  rintro e w2' ⟨rfl, rfl⟩
  obtain ⟨w2, hw2⟩ : ∃ W, w1.alloc (.cells #[.int .u8 1, .int .u8 3] 5) = W := ⟨_, rfl⟩
  have b2 : NBox w2 O 66 #[.int .u8 4, .slice pA p.length pc, .int .i64 a, .slice tA t.length tc, .int .u64 i, .bool false, .string lb, .string ky, .string vv, .bool g, .slice cA c.length cc] := by rw [← hw2]; exact b1.ext ((Ext.refl _).alloc _)
  have E2 : Ext w w2 := by rw [← hw2]; exact E1.alloc _
  rw [hw2]
  clear hw2 x0 x2 x3 x4 x5 x6 x7 x8 x9 x10
  have x0 := b2.cell 0
  have x2 := b2.cell 2
  have x3 := b2.cell 3
  have x4 := b2.cell 4
  have x5 := b2.cell 5
  have x6 := b2.cell 6
  have x7 := b2.cell 7
  have x8 := b2.cell 8
  have x9 := b2.cell 9
  have x10 := b2.cell 10
  go_wp2_with fail
  refine (has_lit 4 [3] false (by decide) O w2 (w2.alloc (.cells #[.int .u8 3] 5)) rfl (b2.cell 0)).mono ?_
  rintro e w3' ⟨rfl, rfl⟩
  obtain ⟨w3, hw3⟩ : ∃ W, w2.alloc (.cells #[.int .u8 3] 5) = W := ⟨_, rfl⟩
  have b3 : NBox w3 O 66 #[.int .u8 4, .slice pA p.length pc, .int .i64 a, .slice tA t.length tc, .int .u64 i, .bool false, .string lb, .string ky, .string vv, .bool g, .slice cA c.length cc] := by rw [← hw3]; exact b2.ext ((Ext.refl _).alloc _)
  have E3 : Ext w w3 := by rw [← hw3]; exact E2.alloc _
  rw [hw3]
  clear hw3 x0 x2 x3 x4 x5 x6 x7 x8 x9 x10
  have x0 := b3.cell 0
  have x2 := b3.cell 2
  have x3 := b3.cell 3
  have x4 := b3.cell 4
  have x5 := b3.cell 5
  have x6 := b3.cell 6
  have x7 := b3.cell 7
  have x8 := b3.cell 8
  have x9 := b3.cell 9
  have x10 := b3.cell 10
  go_wp2_with fail
  refine (has_lit 4 [4] true (by decide) O w3 (w3.alloc (.cells #[.int .u8 4] 5)) rfl (b3.cell 0)).mono ?_
  rintro e w4' ⟨rfl, rfl⟩
  obtain ⟨w4, hw4⟩ : ∃ W, w3.alloc (.cells #[.int .u8 4] 5) = W := ⟨_, rfl⟩
  have b4 : NBox w4 O 66 #[.int .u8 4, .slice pA p.length pc, .int .i64 a, .slice tA t.length tc, .int .u64 i, .bool false, .string lb, .string ky, .string vv, .bool g, .slice cA c.length cc] := by rw [← hw4]; exact b3.ext ((Ext.refl _).alloc _)
  have E4 : Ext w w4 := by rw [← hw4]; exact E3.alloc _
  rw [hw4]
  clear hw4 x0 x2 x3 x4 x5 x6 x7 x8 x9 x10
  have x0 := b4.cell 0
  have x2 := b4.cell 2
  have x3 := b4.cell 3
  have x4 := b4.cell 4
  have x5 := b4.cell 5
  have x6 := b4.cell 6
  have x7 := b4.cell 7
  have x8 := b4.cell 8
  have x9 := b4.cell 9
  have x10 := b4.cell 10
  go_wp2_with fail
  refine (has_lit 4 [1, 5] false (by decide) O w4 (w4.alloc (.cells #[.int .u8 1, .int .u8 5] 5)) rfl (b4.cell 0)).mono ?_
  rintro e w5' ⟨rfl, rfl⟩
  obtain ⟨w5, hw5⟩ : ∃ W, w4.alloc (.cells #[.int .u8 1, .int .u8 5] 5) = W := ⟨_, rfl⟩
  have b5 : NBox w5 O 66 #[.int .u8 4, .slice pA p.length pc, .int .i64 a, .slice tA t.length tc, .int .u64 i, .bool false, .string lb, .string ky, .string vv, .bool g, .slice cA c.length cc] := by rw [← hw5]; exact b4.ext ((Ext.refl _).alloc _)
  have E5 : Ext w w5 := by rw [← hw5]; exact E4.alloc _
  rw [hw5]
  clear hw5 x0 x2 x3 x4 x5 x6 x7 x8 x9 x10
  have x0 := b5.cell 0
  have x2 := b5.cell 2
  have x3 := b5.cell 3
  have x4 := b5.cell 4
  have x5 := b5.cell 5
  have x6 := b5.cell 6
  have x7 := b5.cell 7
  have x8 := b5.cell 8
  have x9 := b5.cell 9
  have x10 := b5.cell 10
  go_wp2_with fail
  go_ret
  exact ⟨rfl, E5⟩
set_option maxRecDepth 100000 in
set_option maxHeartbeats 2000000 in
theorem bare_4_5 (p : List Int) (a : Int) (t : List Int) (i : Int) (lb ky vv : ByteArray) (g : Bool) (c : List Pc) (pA tA cA : Option Addr) (pc tc cc : Nat) (w : World) (h_id : (i == 0) = true) (h_at : (a == 0) = true) (h_to : ((t.length : Int) == 0) = true) (h_label : lb.toList.isEmpty = true) (h_pcs : ((c.length : Int) == 0) = false) : Calls Try.prog 68 #[.agg #[.int .u8 4, .slice pA p.length pc, .int .i64 a, .slice tA t.length tc, .int .u64 i, .bool false, .string lb, .string ky, .string vv, .bool g, .slice cA c.length cc]] w fun e w' => e = .returned (.bool false) ∧ Ext w w' := by
  have hmf : ∀ (fn : Fn) (first cap : Array Value) (w : World), (Instr.makeFunc fn first cap).run Try.prog w = .ok (.func fn first cap) w := fun _ _ _ _ => rfl
  have hnot : ∀ (x : Bool) (w : World), (Op.unary .not (.bool x)).run Try.prog w = .ok (.bool (!x)) w := fun _ _ => rfl
  obtain ⟨w0, hw0⟩ : ∃ W, w.alloc (.cells #[.int .u8 4, .slice pA p.length pc, .int .i64 a, .slice tA t.length tc, .int .u64 i, .bool false, .string lb, .string ky, .string vv, .bool g, .slice cA c.length cc] 66) = W := ⟨_, rfl⟩
  have E0 : Ext w w0 := by rw [← hw0]; exact (Ext.refl w).alloc _
  have b0 : NBox w0 w.heap.size 66 #[.int .u8 4, .slice pA p.length pc, .int .i64 a, .slice tA t.length tc, .int .u64 i, .bool false, .string lb, .string ky, .string vv, .bool g, .slice cA c.length cc] := by rw [← hw0]; exact NBox.new _ _ _
  obtain ⟨O, hO⟩ : ∃ O, w.heap.size = O := ⟨_, rfl⟩
  rw [hO] at b0
  have HW := Lib.hid hw0
  have HO := Lib.hid hO
  clear hw0 hO hnot
  go_enter Try.func68, Try.ntmps68
  go_upto_region 1 with fail
  rw [HW.out, HO.out]
  clear HW HO
  go_upto_region 2 with fail
  go_step
  dsimp only [List.append]
  have x0 := b0.cell 0
  have x2 := b0.cell 2
  have x3 := b0.cell 3
  have x4 := b0.cell 4
  have x5 := b0.cell 5
  have x6 := b0.cell 6
  have x7 := b0.cell 7
  have x8 := b0.cell 8
  have x9 := b0.cell 9
  have x10 := b0.cell 10
  go_wp2_with fail
  refine (has_lit 4 [1] false (by decide) O w0 (w0.alloc (.cells #[.int .u8 1] 5)) rfl (b0.cell 0)).mono ?_
  rintro e w1' ⟨rfl, rfl⟩
  obtain ⟨w1, hw1⟩ : ∃ W, w0.alloc (.cells #[.int .u8 1] 5) = W := ⟨_, rfl⟩
  have b1 : NBox w1 O 66 #[.int .u8 4, .slice pA p.length pc, .int .i64 a, .slice tA t.length tc, .int .u64 i, .bool false, .string lb, .string ky, .string vv, .bool g, .slice cA c.length cc] := by rw [← hw1]; exact b0.ext ((Ext.refl _).alloc _)
  have E1 : Ext w w1 := by rw [← hw1]; exact E0.alloc _
  rw [hw1]
  clear hw1 x0 x2 x3 x4 x5 x6 x7 x8 x9 x10
  have x0 := b1.cell 0
  have x2 := b1.cell 2
  have x3 := b1.cell 3
  have x4 := b1.cell 4
  have x5 := b1.cell 5
  have x6 := b1.cell 6
  have x7 := b1.cell 7
  have x8 := b1.cell 8
  have x9 := b1.cell 9
  have x10 := b1.cell 10
  go_wp2_with fail
  refine (has_lit 4 [1, 3] false (by decide) O w1 (w1.alloc (.cells #[.int .u8 1, .int .u8 3] 5)) rfl (b1.cell 0)).mono ?_
  rintro e w2' ⟨rfl, rfl⟩
  obtain ⟨w2, hw2⟩ : ∃ W, w1.alloc (.cells #[.int .u8 1, .int .u8 3] 5) = W := ⟨_, rfl⟩
  have b2 : NBox w2 O 66 #[.int .u8 4, .slice pA p.length pc, .int .i64 a, .slice tA t.length tc, .int .u64 i, .bool false, .string lb, .string ky, .string vv, .bool g, .slice cA c.length cc] := by rw [← hw2]; exact b1.ext ((Ext.refl _).alloc _)
  have E2 : Ext w w2 := by rw [← hw2]; exact E1.alloc _
  rw [hw2]
  clear hw2 x0 x2 x3 x4 x5 x6 x7 x8 x9 x10
  have x0 := b2.cell 0
  have x2 := b2.cell 2
  have x3 := b2.cell 3
  have x4 := b2.cell 4
  have x5 := b2.cell 5
  have x6 := b2.cell 6
  have x7 := b2.cell 7
  have x8 := b2.cell 8
  have x9 := b2.cell 9
  have x10 := b2.cell 10
  go_wp2_with fail
  refine (has_lit 4 [3] false (by decide) O w2 (w2.alloc (.cells #[.int .u8 3] 5)) rfl (b2.cell 0)).mono ?_
  rintro e w3' ⟨rfl, rfl⟩
  obtain ⟨w3, hw3⟩ : ∃ W, w2.alloc (.cells #[.int .u8 3] 5) = W := ⟨_, rfl⟩
  have b3 : NBox w3 O 66 #[.int .u8 4, .slice pA p.length pc, .int .i64 a, .slice tA t.length tc, .int .u64 i, .bool false, .string lb, .string ky, .string vv, .bool g, .slice cA c.length cc] := by rw [← hw3]; exact b2.ext ((Ext.refl _).alloc _)
  have E3 : Ext w w3 := by rw [← hw3]; exact E2.alloc _
  rw [hw3]
  clear hw3 x0 x2 x3 x4 x5 x6 x7 x8 x9 x10
  have x0 := b3.cell 0
  have x2 := b3.cell 2
  have x3 := b3.cell 3
  have x4 := b3.cell 4
  have x5 := b3.cell 5
  have x6 := b3.cell 6
  have x7 := b3.cell 7
  have x8 := b3.cell 8
  have x9 := b3.cell 9
  have x10 := b3.cell 10
  go_wp2_with fail
  refine (has_lit 4 [4] true (by decide) O w3 (w3.alloc (.cells #[.int .u8 4] 5)) rfl (b3.cell 0)).mono ?_
  rintro e w4' ⟨rfl, rfl⟩
  obtain ⟨w4, hw4⟩ : ∃ W, w3.alloc (.cells #[.int .u8 4] 5) = W := ⟨_, rfl⟩
  have b4 : NBox w4 O 66 #[.int .u8 4, .slice pA p.length pc, .int .i64 a, .slice tA t.length tc, .int .u64 i, .bool false, .string lb, .string ky, .string vv, .bool g, .slice cA c.length cc] := by rw [← hw4]; exact b3.ext ((Ext.refl _).alloc _)
  have E4 : Ext w w4 := by rw [← hw4]; exact E3.alloc _
  rw [hw4]
  clear hw4 x0 x2 x3 x4 x5 x6 x7 x8 x9 x10
  have x0 := b4.cell 0
  have x2 := b4.cell 2
  have x3 := b4.cell 3
  have x4 := b4.cell 4
  have x5 := b4.cell 5
  have x6 := b4.cell 6
  have x7 := b4.cell 7
  have x8 := b4.cell 8
  have x9 := b4.cell 9
  have x10 := b4.cell 10
  go_wp2_with fail
  refine (has_lit 4 [1, 5] false (by decide) O w4 (w4.alloc (.cells #[.int .u8 1, .int .u8 5] 5)) rfl (b4.cell 0)).mono ?_
  rintro e w5' ⟨rfl, rfl⟩
  obtain ⟨w5, hw5⟩ : ∃ W, w4.alloc (.cells #[.int .u8 1, .int .u8 5] 5) = W := ⟨_, rfl⟩
  have b5 : NBox w5 O 66 #[.int .u8 4, .slice pA p.length pc, .int .i64 a, .slice tA t.length tc, .int .u64 i, .bool false, .string lb, .string ky, .string vv, .bool g, .slice cA c.length cc] := by rw [← hw5]; exact b4.ext ((Ext.refl _).alloc _)
  have E5 : Ext w w5 := by rw [← hw5]; exact E4.alloc _
  rw [hw5]
  clear hw5 x0 x2 x3 x4 x5 x6 x7 x8 x9 x10
  have x0 := b5.cell 0
  have x2 := b5.cell 2
  have x3 := b5.cell 3
  have x4 := b5.cell 4
  have x5 := b5.cell 5
  have x6 := b5.cell 6
  have x7 := b5.cell 7
  have x8 := b5.cell 8
  have x9 := b5.cell 9
  have x10 := b5.cell 10
  go_wp2_with fail
  refine (has_lit 4 [6] false (by decide) O w5 (w5.alloc (.cells #[.int .u8 6] 5)) rfl (b5.cell 0)).mono ?_
  rintro e w6' ⟨rfl, rfl⟩
  obtain ⟨w6, hw6⟩ : ∃ W, w5.alloc (.cells #[.int .u8 6] 5) = W := ⟨_, rfl⟩
  have b6 : NBox w6 O 66 #[.int .u8 4, .slice pA p.length pc, .int .i64 a, .slice tA t.length tc, .int .u64 i, .bool false, .string lb, .string ky, .string vv, .bool g, .slice cA c.length cc] := by rw [← hw6]; exact b5.ext ((Ext.refl _).alloc _)
  have E6 : Ext w w6 := by rw [← hw6]; exact E5.alloc _
  rw [hw6]
  clear hw6 x0 x2 x3 x4 x5 x6 x7 x8 x9 x10
  have x0 := b6.cell 0
  have x2 := b6.cell 2
  have x3 := b6.cell 3
  have x4 := b6.cell 4
  have x5 := b6.cell 5
  have x6 := b6.cell 6
  have x7 := b6.cell 7
  have x8 := b6.cell 8
  have x9 := b6.cell 9
  have x10 := b6.cell 10
  go_wp2_with fail
  go_ret
  exact ⟨rfl, E6⟩
set_option maxRecDepth 100000 in
set_option maxHeartbeats 2000000 in
theorem bare_4_6 (p : List Int) (a : Int) (t : List Int) (i : Int) (lb ky vv : ByteArray) (g : Bool) (c : List Pc) (pA tA cA : Option Addr) (pc tc cc : Nat) (w : World) (h_id : (i == 0) = true) (h_at : (a == 0) = true) (h_to : ((t.length : Int) == 0) = true) (h_label : lb.toList.isEmpty = true) (h_pcs : ((c.length : Int) == 0) = true) : Calls Try.prog 68 #[.agg #[.int .u8 4, .slice pA p.length pc, .int .i64 a, .slice tA t.length tc, .int .u64 i, .bool false, .string lb, .string ky, .string vv, .bool g, .slice cA c.length cc]] w fun e w' => e = .returned (.bool true) ∧ Ext w w' := by
  have hmf : ∀ (fn : Fn) (first cap : Array Value) (w : World), (Instr.makeFunc fn first cap).run Try.prog w = .ok (.func fn first cap) w := fun _ _ _ _ => rfl
  have hnot : ∀ (x : Bool) (w : World), (Op.unary .not (.bool x)).run Try.prog w = .ok (.bool (!x)) w := fun _ _ => rfl
  obtain ⟨w0, hw0⟩ : ∃ W, w.alloc (.cells #[.int .u8 4, .slice pA p.length pc, .int .i64 a, .slice tA t.length tc, .int .u64 i, .bool false, .string lb, .string ky, .string vv, .bool g, .slice cA c.length cc] 66) = W := ⟨_, rfl⟩
  have E0 : Ext w w0 := by rw [← hw0]; exact (Ext.refl w).alloc _
  have b0 : NBox w0 w.heap.size 66 #[.int .u8 4, .slice pA p.length pc, .int .i64 a, .slice tA t.length tc, .int .u64 i, .bool false, .string lb, .string ky, .string vv, .bool g, .slice cA c.length cc] := by rw [← hw0]; exact NBox.new _ _ _
  obtain ⟨O, hO⟩ : ∃ O, w.heap.size = O := ⟨_, rfl⟩
  rw [hO] at b0
  have HW := Lib.hid hw0
  have HO := Lib.hid hO
  clear hw0 hO hnot
  go_enter Try.func68, Try.ntmps68
  go_upto_region 1 with fail
  rw [HW.out, HO.out]
  clear HW HO
  go_upto_region 2 with fail
  go_step
  dsimp only [List.append]
  have x0 := b0.cell 0
  have x2 := b0.cell 2
  have x3 := b0.cell 3
  have x4 := b0.cell 4
  have x5 := b0.cell 5
  have x6 := b0.cell 6
  have x7 := b0.cell 7
  have x8 := b0.cell 8
  have x9 := b0.cell 9
  have x10 := b0.cell 10
  go_wp2_with fail
  refine (has_lit 4 [1] false (by decide) O w0 (w0.alloc (.cells #[.int .u8 1] 5)) rfl (b0.cell 0)).mono ?_
  rintro e w1' ⟨rfl, rfl⟩
  obtain ⟨w1, hw1⟩ : ∃ W, w0.alloc (.cells #[.int .u8 1] 5) = W := ⟨_, rfl⟩
  have b1 : NBox w1 O 66 #[.int .u8 4, .slice pA p.length pc, .int .i64 a, .slice tA t.length tc, .int .u64 i, .bool false, .string lb, .string ky, .string vv, .bool g, .slice cA c.length cc] := by rw [← hw1]; exact b0.ext ((Ext.refl _).alloc _)
  have E1 : Ext w w1 := by rw [← hw1]; exact E0.alloc _
  rw [hw1]
  clear hw1 x0 x2 x3 x4 x5 x6 x7 x8 x9 x10
  have x0 := b1.cell 0
  have x2 := b1.cell 2
  have x3 := b1.cell 3
  have x4 := b1.cell 4
  have x5 := b1.cell 5
  have x6 := b1.cell 6
  have x7 := b1.cell 7
  have x8 := b1.cell 8
  have x9 := b1.cell 9
  have x10 := b1.cell 10
  go_wp2_with fail
  refine (has_lit 4 [1, 3] false (by decide) O w1 (w1.alloc (.cells #[.int .u8 1, .int .u8 3] 5)) rfl (b1.cell 0)).mono ?_
  rintro e w2' ⟨rfl, rfl⟩
  obtain ⟨w2, hw2⟩ : ∃ W, w1.alloc (.cells #[.int .u8 1, .int .u8 3] 5) = W := ⟨_, rfl⟩
  have b2 : NBox w2 O 66 #[.int .u8 4, .slice pA p.length pc, .int .i64 a, .slice tA t.length tc, .int .u64 i, .bool false, .string lb, .string ky, .string vv, .bool g, .slice cA c.length cc] := by rw [← hw2]; exact b1.ext ((Ext.refl _).alloc _)
  have E2 : Ext w w2 := by rw [← hw2]; exact E1.alloc _
  rw [hw2]
  clear hw2 x0 x2 x3 x4 x5 x6 x7 x8 x9 x10
  have x0 := b2.cell 0
  have x2 := b2.cell 2
  have x3 := b2.cell 3
  have x4 := b2.cell 4
  have x5 := b2.cell 5
  have x6 := b2.cell 6
  have x7 := b2.cell 7
  have x8 := b2.cell 8
  have x9 := b2.cell 9
  have x10 := b2.cell 10
  go_wp2_with fail
  refine (has_lit 4 [3] false (by decide) O w2 (w2.alloc (.cells #[.int .u8 3] 5)) rfl (b2.cell 0)).mono ?_
  rintro e w3' ⟨rfl, rfl⟩
  obtain ⟨w3, hw3⟩ : ∃ W, w2.alloc (.cells #[.int .u8 3] 5) = W := ⟨_, rfl⟩
  have b3 : NBox w3 O 66 #[.int .u8 4, .slice pA p.length pc, .int .i64 a, .slice tA t.length tc, .int .u64 i, .bool false, .string lb, .string ky, .string vv, .bool g, .slice cA c.length cc] := by rw [← hw3]; exact b2.ext ((Ext.refl _).alloc _)
  have E3 : Ext w w3 := by rw [← hw3]; exact E2.alloc _
  rw [hw3]
  clear hw3 x0 x2 x3 x4 x5 x6 x7 x8 x9 x10
  have x0 := b3.cell 0
  have x2 := b3.cell 2
  have x3 := b3.cell 3
  have x4 := b3.cell 4
  have x5 := b3.cell 5
  have x6 := b3.cell 6
  have x7 := b3.cell 7
  have x8 := b3.cell 8
  have x9 := b3.cell 9
  have x10 := b3.cell 10
  go_wp2_with fail
  refine (has_lit 4 [4] true (by decide) O w3 (w3.alloc (.cells #[.int .u8 4] 5)) rfl (b3.cell 0)).mono ?_
  rintro e w4' ⟨rfl, rfl⟩
  obtain ⟨w4, hw4⟩ : ∃ W, w3.alloc (.cells #[.int .u8 4] 5) = W := ⟨_, rfl⟩
  have b4 : NBox w4 O 66 #[.int .u8 4, .slice pA p.length pc, .int .i64 a, .slice tA t.length tc, .int .u64 i, .bool false, .string lb, .string ky, .string vv, .bool g, .slice cA c.length cc] := by rw [← hw4]; exact b3.ext ((Ext.refl _).alloc _)
  have E4 : Ext w w4 := by rw [← hw4]; exact E3.alloc _
  rw [hw4]
  clear hw4 x0 x2 x3 x4 x5 x6 x7 x8 x9 x10
  have x0 := b4.cell 0
  have x2 := b4.cell 2
  have x3 := b4.cell 3
  have x4 := b4.cell 4
  have x5 := b4.cell 5
  have x6 := b4.cell 6
  have x7 := b4.cell 7
  have x8 := b4.cell 8
  have x9 := b4.cell 9
  have x10 := b4.cell 10
  go_wp2_with fail
  refine (has_lit 4 [1, 5] false (by decide) O w4 (w4.alloc (.cells #[.int .u8 1, .int .u8 5] 5)) rfl (b4.cell 0)).mono ?_
  rintro e w5' ⟨rfl, rfl⟩
  obtain ⟨w5, hw5⟩ : ∃ W, w4.alloc (.cells #[.int .u8 1, .int .u8 5] 5) = W := ⟨_, rfl⟩
  have b5 : NBox w5 O 66 #[.int .u8 4, .slice pA p.length pc, .int .i64 a, .slice tA t.length tc, .int .u64 i, .bool false, .string lb, .string ky, .string vv, .bool g, .slice cA c.length cc] := by rw [← hw5]; exact b4.ext ((Ext.refl _).alloc _)
  have E5 : Ext w w5 := by rw [← hw5]; exact E4.alloc _
  rw [hw5]
  clear hw5 x0 x2 x3 x4 x5 x6 x7 x8 x9 x10
  have x0 := b5.cell 0
  have x2 := b5.cell 2
  have x3 := b5.cell 3
  have x4 := b5.cell 4
  have x5 := b5.cell 5
  have x6 := b5.cell 6
  have x7 := b5.cell 7
  have x8 := b5.cell 8
  have x9 := b5.cell 9
  have x10 := b5.cell 10
  go_wp2_with fail
  refine (has_lit 4 [6] false (by decide) O w5 (w5.alloc (.cells #[.int .u8 6] 5)) rfl (b5.cell 0)).mono ?_
  rintro e w6' ⟨rfl, rfl⟩
  obtain ⟨w6, hw6⟩ : ∃ W, w5.alloc (.cells #[.int .u8 6] 5) = W := ⟨_, rfl⟩
  have b6 : NBox w6 O 66 #[.int .u8 4, .slice pA p.length pc, .int .i64 a, .slice tA t.length tc, .int .u64 i, .bool false, .string lb, .string ky, .string vv, .bool g, .slice cA c.length cc] := by rw [← hw6]; exact b5.ext ((Ext.refl _).alloc _)
  have E6 : Ext w w6 := by rw [← hw6]; exact E5.alloc _
  rw [hw6]
  clear hw6 x0 x2 x3 x4 x5 x6 x7 x8 x9 x10
  have x0 := b6.cell 0
  have x2 := b6.cell 2
  have x3 := b6.cell 3
  have x4 := b6.cell 4
  have x5 := b6.cell 5
  have x6 := b6.cell 6
  have x7 := b6.cell 7
  have x8 := b6.cell 8
  have x9 := b6.cell 9
  have x10 := b6.cell 10
  go_wp2_with fail
  go_ret
  exact ⟨rfl, E6⟩
end Go.Proofs.Ytoplaokimahdiaa.Wi
