/- Chapter 07: the law ArenaNone (6). -/
import Derived.Test.YtobbdeakocgdcaaArWorks
namespace Go.Proofs.Ytobbdeakocgdcaa.Ar
open Go.RowKit Go.Proofs.Ytobbdeakocgdcaa.Bw

set_option maxRecDepth 100000 in
set_option maxHeartbeats 8000000 in
theorem lawNone (n m g : Int) (d : Da) (av : Value) (w : World) (hd : ∃ A k c, av = .slice A k c) : Calls Try.prog 6 #[.int .i64 n, .int .i64 m, .int .i64 g, d.val av] w (Ret w fun r _ => r = .bool true) := by
  obtain ⟨dA, dk, dc, rfl⟩ := hd
  obtain ⟨W, hW⟩ : ∃ W, w.alloc (.cells #[.int .u64 d.id, .bool d.leaf, .string d.label, .slice dA dk dc, .string d.text] 25) = W := ⟨_, rfl⟩
  have E0 : Ext w W := by rw [← hW]; exact (Ext.refl _).alloc _
  have B0 : NBox W w.heap.size 25 #[.int .u64 d.id, .bool d.leaf, .string d.label, .slice dA dk dc, .string d.text] := by rw [← hW]; exact NBox.new _ _ _
  have c0 := B0.cell 0
  have c1 := B0.cell 1
  have c2 := B0.cell 2
  have c3 := B0.cell 3
  have c4 := B0.cell 4
  have HW := Lib.hid hW
  have HB := Lib.hid B0
  have HX := Lib.hid (Ext.refl W)
  have HE := Lib.hid E0
  have h26 := Lib.hid (show ∀ X, Ext W X → Calls Try.prog 26 #[.pointer none, .int .i64 n, .agg #[.int .u64 d.id, .bool d.leaf, .string d.label, .slice dA dk dc, .string d.text]] X fun e w' => e = .returned (.int .i64 1) ∧ Ext X w' from fun X _ => set_nil n d _ X ⟨_, _, _, rfl⟩)
  clear hW B0 E0
  have h23 := Lib.hid (show ∀ X, Ext W X → Calls Try.prog 23 #[.pointer none, .int .i64 n, .int .i64 g, .agg #[.int .u64 d.id, .bool d.leaf, .string d.label, .slice dA dk dc, .string d.text]] X fun e w' => e = .returned (.tuple #[.int .i64 (-1), .int .i64 1]) ∧ Ext X w' from fun X _ => add_nil n g d _ X ⟨_, _, _, rfl⟩)
  unfold Da.val
  go_enter Try.func6, Try.ntmps6
  go_upto_region 2 with fail
  rw [HW.out]
  clear HW
  go_upto_region 3 with (go_at_call 23; refine (h23.out _ HX.out).mono ?_; rintro e w1 ⟨rfl, E1⟩; replace HX := Lib.hid (HX.out.trans E1))
  have hg22 := get_nil n w1
  rw [show zeroDa = .agg #[.int .u64 0, .bool false, .string ⟨#[]⟩, .slice none 0 0, .string ⟨#[]⟩] from rfl] at hg22
  go_upto_region 4 with (go_at_call 22; refine hg22.mono ?_; clear hg22; rintro e w2 ⟨rfl, E2⟩; replace HX := Lib.hid (HX.out.trans E2))
  obtain ⟨W4, hW4⟩ : ∃ X, (w2.alloc (.cells #[.int .u64 0, .bool false, .string ⟨#[]⟩, .slice none 0 0, .string ⟨#[]⟩] 25)).alloc (.cells #[.int .i64 n] 3) = X := ⟨_, rfl⟩
  have E4 : Ext w2 W4 := by rw [← hW4]; exact ((Ext.refl _).alloc _).alloc _
  have hwk := walk_nil (.slice (some ⟨w2.heap.size + 1, 0, none⟩) 1 1) W4
  rw [show walkR none = .tuple #[.int .i64 (-1), .bool false] from rfl] at hwk
  have HW4 := Lib.hid hW4
  replace HX := Lib.hid (HX.out.trans E4)
  clear hW4
  replace c0 := HX.out.cell c0
  replace c1 := HX.out.cell c1
  replace c2 := HX.out.cell c2
  replace c3 := HX.out.cell c3
  replace c4 := HX.out.cell c4
  have k24 := remove_nil n W4
  have k25 := move_nil n m g W4
  have k26 := h26.out W4 HX.out
  have H20 := Lib.hid (parent_nil n)
  have H19 := Lib.hid (kids_nil n)
  have H18 := Lib.hid slots_nil
  have H21 := Lib.hid free_nil
  have H17 := Lib.hid whole_nil
  have H9 := Lib.hid works_any
  clear h26 h23
  go_wp2_with (first
    | (go_at_call 15; rw [HW4.out]; refine hwk.mono ?_; clear hwk; rintro e u ⟨rfl, rfl⟩)
    | (go_at_call 24; refine k24.mono ?_; clear k24; rintro e u ⟨rfl, rfl⟩)
    | (go_at_call 25; refine k25.mono ?_; clear k25; rintro e u ⟨rfl, rfl⟩)
    | (go_at_call 26; refine k26.mono ?_; clear k26; rintro e u ⟨rfl, E6⟩; replace HX := Lib.hid (HX.out.trans E6))
    | (go_at_call 20; refine (H20.out _).mono ?_; rintro e u ⟨rfl, rfl⟩)
    | (go_at_call 19; refine (H19.out _).mono ?_; rintro e u ⟨rfl, rfl⟩)
    | (go_at_call 18; refine (H18.out _).mono ?_; rintro e u ⟨rfl, rfl⟩)
    | (go_at_call 21; refine (H21.out _).mono ?_; rintro e u ⟨rfl, rfl⟩)
    | (go_at_call 17; refine (H17.out _).mono ?_; rintro e u ⟨rfl, rfl⟩)
    | (go_at_call 9; refine (H9.out _).mono ?_; rintro e u ⟨r, rfl, rfl, E9⟩))
  go_ret
  exact ⟨_, rfl, rfl, HE.out.trans (HX.out.trans E9)⟩
end Go.Proofs.Ytobbdeakocgdcaa.Ar
