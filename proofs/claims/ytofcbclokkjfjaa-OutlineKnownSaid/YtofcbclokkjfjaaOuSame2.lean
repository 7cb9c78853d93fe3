/- Chapter 24: which moves are the same: Bare (50), Same (36), same (13). (Printed by gousame.py.) -/
import Derived.Test.YtofcbclokkjfjaaOuRefs
namespace Go.Proofs.Ytofcbclokkjfjaa.Wi
open Go.RowKit Go.Proofs.Ytofcbclokkjfjaa.Bw Go.Proofs.Ytofcbclokkjfjaa.Bs

theorem NBox.s11 {W : World} {B : Nat} {t : TypeId} {x0 x1 x2 x3 x4 x5 x6 x7 x8 x9 x10 : Value} (h : NBox W B t #[x0, x1, x2, x3, x4, x5, x6, x7, x8, x9, x10]) (a0 a1 a2 a3 a4 a5 a6 a7 a8 a9 a10 : Value) : NBox (World.setCell (World.setCell (World.setCell (World.setCell (World.setCell (World.setCell (World.setCell (World.setCell (World.setCell (World.setCell (World.setCell W ⟨B, 0, none⟩ a0) ⟨B, 1, none⟩ a1) ⟨B, 2, none⟩ a2) ⟨B, 3, none⟩ a3) ⟨B, 4, none⟩ a4) ⟨B, 5, none⟩ a5) ⟨B, 6, none⟩ a6) ⟨B, 7, none⟩ a7) ⟨B, 8, none⟩ a8) ⟨B, 9, none⟩ a9) ⟨B, 10, none⟩ a10) B t #[a0, a1, a2, a3, a4, a5, a6, a7, a8, a9, a10] := by
 have := (NBox.set (NBox.set (NBox.set (NBox.set (NBox.set (NBox.set (NBox.set (NBox.set (NBox.set (NBox.set (NBox.set h 0 a0) 1 a1) 2 a2) 3 a3) 4 a4) 5 a5) 6 a6) 7 a7) 8 a8) 9 a9) 10 a10)
 simpa using this
theorem Fr.s11 (W : World) (B : Nat) (a0 a1 a2 a3 a4 a5 a6 a7 a8 a9 a10 : Value) : Fr W (World.setCell (World.setCell (World.setCell (World.setCell (World.setCell (World.setCell (World.setCell (World.setCell (World.setCell (World.setCell (World.setCell W ⟨B, 0, none⟩ a0) ⟨B, 1, none⟩ a1) ⟨B, 2, none⟩ a2) ⟨B, 3, none⟩ a3) ⟨B, 4, none⟩ a4) ⟨B, 5, none⟩ a5) ⟨B, 6, none⟩ a6) ⟨B, 7, none⟩ a7) ⟨B, 8, none⟩ a8) ⟨B, 9, none⟩ a9) ⟨B, 10, none⟩ a10) (fun k => k = B) :=
 (Fr.trans (Fr.trans (Fr.trans (Fr.trans (Fr.trans (Fr.trans (Fr.trans (Fr.trans (Fr.trans (Fr.trans (Fr.setCell _ _ _ _) (Fr.setCell _ _ _ _)) (Fr.setCell _ _ _ _)) (Fr.setCell _ _ _ _)) (Fr.setCell _ _ _ _)) (Fr.setCell _ _ _ _)) (Fr.setCell _ _ _ _)) (Fr.setCell _ _ _ _)) (Fr.setCell _ _ _ _)) (Fr.setCell _ _ _ _)) (Fr.setCell _ _ _ _))
theorem info38 : (Try.prog.info? 38).map (·.size) = some 11 := by kernel_rfl
/-- A value that reads as a move. -/
def MvA (W : World) (p tq : List Int) (at_ : Int) (v : Value) : Prop := ∃ pA pc tA tc, v = .agg #[.int .u8 3, .slice pA p.length pc, .int .i64 at_, .slice tA tq.length tc, .int .u64 0, .bool false, .string ⟨#[]⟩, .string ⟨#[]⟩, .string ⟨#[]⟩, .bool false, .slice none 0 0] ∧ RdI W p (.slice pA p.length pc) ∧ RdI W tq (.slice tA tq.length tc)
theorem MvA.ext {W W' : World} {p tq : List Int} {at_ : Int} {v : Value} (h : MvA W p tq at_ v) (X : Ext W W') : MvA W' p tq at_ v := by
 obtain ⟨pA, pc, tA, tc, h1, h2, h3⟩ := h
 exact ⟨pA, pc, tA, tc, h1, RdS.ext X h2, RdS.ext X h3⟩
/-- A value that is a move with rows of its own. -/
def MvO (lo : Nat) (W : World) (p tq : List Int) (at_ : Int) (v : Value) : Prop := ∃ pA pc tA tc, v = .agg #[.int .u8 3, .slice pA p.length pc, .int .i64 at_, .slice tA tq.length tc, .int .u64 0, .bool false, .string ⟨#[]⟩, .string ⟨#[]⟩, .string ⟨#[]⟩, .bool false, .slice none 0 0] ∧ W.ownsRow lo 3 1 (.slice pA p.length pc) p.length (p.map (Value.int .i64)) ∧ W.ownsRow lo 3 1 (.slice tA tq.length tc) tq.length (tq.map (Value.int .i64))
set_option maxRecDepth 100000 in
set_option maxHeartbeats 4000000 in
theorem bare_any (p tq : List Int) (at_ : Int) (v : Value) (w : World) (h : MvA w p tq at_ v) (hp : p.length ≤ 100000) (ht : tq.length ≤ 100000) : Calls Try.prog 50 #[v] w (fun e W' => Ext w W' ∧ ∃ u, e = .returned u ∧ MvO w.heap.size W' p tq at_ u) := by
 obtain ⟨pA, pc, tA, tc, rfl, hP, hT⟩ := h
 obtain ⟨w1, hw1⟩ : ∃ W, (w.alloc (.cells #[.int .u8 3, .slice pA p.length pc, .int .i64 at_, .slice tA tq.length tc, .int .u64 0, .bool false, .string ⟨#[]⟩, .string ⟨#[]⟩, .string ⟨#[]⟩, .bool false, .slice none 0 0] 38)).alloc (.cells #[.int .u8 0, .slice none 0 0, .int .i64 0, .slice none 0 0, .int .u64 0, .bool false, .string ⟨#[]⟩, .string ⟨#[]⟩, .string ⟨#[]⟩, .bool false, .slice none 0 0] 38) = W := ⟨_, rfl⟩
 obtain ⟨X, hX⟩ : ∃ X, w.heap.size = X := ⟨_, rfl⟩
 have s1 : (w.alloc (.cells #[.int .u8 3, .slice pA p.length pc, .int .i64 at_, .slice tA tq.length tc, .int .u64 0, .bool false, .string ⟨#[]⟩, .string ⟨#[]⟩, .string ⟨#[]⟩, .bool false, .slice none 0 0] 38)).heap.size = X + 1 := by rw [World.size_alloc, hX]
 have E1 : Ext w w1 := by rw [← hw1]; exact ((Ext.refl w).alloc _).alloc _
 have bX : NBox w1 X 38 #[.int .u8 3, .slice pA p.length pc, .int .i64 at_, .slice tA tq.length tc, .int .u64 0, .bool false, .string ⟨#[]⟩, .string ⟨#[]⟩, .string ⟨#[]⟩, .bool false, .slice none 0 0] := by rw [← hw1, ← hX]; exact (NBox.new w 38 _).ext ((Ext.refl _).alloc _)
 have bY : NBox w1 (X + 1) 38 #[.int .u8 0, .slice none 0 0, .int .i64 0, .slice none 0 0, .int .u64 0, .bool false, .string ⟨#[]⟩, .string ⟨#[]⟩, .string ⟨#[]⟩, .bool false, .slice none 0 0] := by rw [← hw1, ← s1]; exact NBox.new _ _ _
 obtain ⟨w2, hw2⟩ : ∃ W, w1.alloc (.cells #[.int .u8 0, .slice none 0 0, .int .i64 0, .slice none 0 0, .int .u64 0, .bool false, .string ⟨#[]⟩, .string ⟨#[]⟩, .string ⟨#[]⟩, .bool false, .slice none 0 0] 38) = W := ⟨_, rfl⟩
 obtain ⟨Z, hZ⟩ : ∃ q, w1.heap.size = q := ⟨_, rfl⟩
 have E2 : Ext w1 w2 := by rw [← hw2]; exact (Ext.refl w1).alloc _
 have bZ : NBox w2 Z 38 #[.int .u8 0, .slice none 0 0, .int .i64 0, .slice none 0 0, .int .u64 0, .bool false, .string ⟨#[]⟩, .string ⟨#[]⟩, .string ⟨#[]⟩, .bool false, .slice none 0 0] := by rw [← hw2, ← hZ]; exact NBox.new _ _ _
 have hYZ : X + 1 < Z := by rw [← hZ]; exact bY.lt
 obtain ⟨w3, hw3⟩ : ∃ W, (World.setCell (World.setCell (World.setCell (World.setCell (World.setCell (World.setCell (World.setCell (World.setCell (World.setCell (World.setCell (World.setCell w2 ⟨Z, 0, none⟩ (.int .u8 3)) ⟨Z, 1, none⟩ (.slice none 0 0)) ⟨Z, 2, none⟩ (.int .i64 0)) ⟨Z, 3, none⟩ (.slice none 0 0)) ⟨Z, 4, none⟩ (.int .u64 0)) ⟨Z, 5, none⟩ (.bool false)) ⟨Z, 6, none⟩ (.string ⟨#[]⟩)) ⟨Z, 7, none⟩ (.string ⟨#[]⟩)) ⟨Z, 8, none⟩ (.string ⟨#[]⟩)) ⟨Z, 9, none⟩ (.bool false)) ⟨Z, 10, none⟩ (.slice none 0 0)) = W := ⟨_, rfl⟩
 have F3 : Fr w2 w3 (fun k => k = Z) := by rw [← hw3]; exact Fr.s11 _ _ _ _ _ _ _ _ _ _ _ _ _
 have hwX : w.heap.size ≤ X := by omega
 have HE := Lib.hid (Fr.ext (E1.trans E2) F3 (fun q hq => by rw [show q = Z from hq]; omega))
 have HX := Lib.hid ((bX.ext E2).fr F3 (by omega))
 have HY := Lib.hid ((bY.ext E2).fr F3 (by omega))
 have HZ := Lib.hid (show NBox w3 Z 38 #[.int .u8 3, .slice none 0 0, .int .i64 0, .slice none 0 0, .int .u64 0, .bool false, .string ⟨#[]⟩, .string ⟨#[]⟩, .string ⟨#[]⟩, .bool false, .slice none 0 0] from by rw [← hw3]; exact bZ.s11 _ _ _ _ _ _ _ _ _ _ _)
 have HP := Lib.hid hP
 have HT := Lib.hid hT
 have HW1 := Lib.hid hw1
 have HXX := Lib.hid hX
 have HW2 := Lib.hid hw2
 have HZZ := Lib.hid hZ
 have HW3 := Lib.hid hw3
 obtain ⟨x0, x1, x2, x3, x4, x5, x6, x7, x8, x9, x10⟩ := bX.c11
 obtain ⟨y0, y1, y2, y3, y4, y5, y6, y7, y8, y9, y10⟩ := bZ.c11
 obtain ⟨z0, z1, z2, z3, z4, z5, z6, z7, z8, z9, z10⟩ := bZ.f11
 clear hw1 hX s1 E1 bX bY hw2 hZ E2 bZ hw3 F3 hP hT
 go_enter Try.func50, Try.ntmps50
 go_upto_region 1 with fail
 rw [HW1.out, HXX.out]
 go_upto_region 2 with (rw [HW2.out, HZZ.out]; clear HW2 HZZ)
 rw [HW3.out]
 clear HW3 x0 y0 z0 x1 y1 z1 x2 y2 z2 x3 y3 z3 x4 y4 z4 x5 y5 z5 x6 y6 z6 x7 y7 z7 x8 y8 z8 x9 y9 z9 x10 y10 z10
 have x1 := HX.out.cell 1
 have hnil : w3.ownsRow w3.heap.size 3 1 (.slice none 0 0) 0 [] := ⟨rfl, .inl ⟨rfl, rfl⟩⟩
 have hrd := RdS.ext HE.out HP.out
 go_wp2_with (first | (at_builtin; refine wpList_append_rd rfl rfl T27 (v := _) (by rfl) hnil (by rfl) hrd (ints_one1 _) (by omega) (by simp only [maxLen]; omega) (Nat.le_refl _) ?_))
 intro v4 w4 O4 hg4 hat4
 have O4 := (show w4.ownsRow w3.heap.size 3 1 v4 p.length (p.map (Value.int .i64)) from by simpa using O4)
 have X4 : Ext w3 w4 := Ext.grown (Ext.refl w3) hg4 (fun q hq => by cases hq)
 obtain ⟨nA, nc, rfl, -⟩ := RdS.of_owns O4
 have HO4 := Lib.hid O4
 have HLO3 := Lib.hid HE.out.size
 have HE4 := Lib.hid (HE.out.trans X4)
 have HLO4 := Lib.hid HE4.out.size
 have HX4 := Lib.hid (HX.out.ext X4)
 have HY4 := Lib.hid (HY.out.ext X4)
 have HZ4 := Lib.hid (HZ.out.ext X4)
 clear O4 hg4 hat4 X4 hnil hrd x1 HE HX HY HZ
 have x3 := HX4.out.cell 3
 have x0 := HX4.out.cell 0
 have x2 := HX4.out.cell 2
 have hnil : w4.ownsRow w4.heap.size 3 1 (.slice none 0 0) 0 [] := ⟨rfl, .inl ⟨rfl, rfl⟩⟩
 have hrd := RdS.ext HE4.out HT.out
 go_wp2_with (first | (at_builtin; refine wpList_append_rd rfl rfl T27 (v := _) (by rfl) hnil (by rfl) hrd (ints_one1 _) (by omega) (by simp only [maxLen]; omega) (Nat.le_refl _) ?_))
 intro v5 w5 O5 hg5 hat5
 have O5 := (show w5.ownsRow w4.heap.size 3 1 v5 tq.length (tq.map (Value.int .i64)) from by simpa using O5)
 have X5 : Ext w4 w5 := Ext.grown (Ext.refl w4) hg5 (fun q hq => by cases hq)
 obtain ⟨mA, mc, rfl, -⟩ := RdS.of_owns O5
 have HO5 := Lib.hid O5
 have HO55 := Lib.hid (owns_ext X5 HO4.out)
 have HE5 := Lib.hid (HE4.out.trans X5)
 have HX5 := Lib.hid (HX4.out.ext X5)
 have HY5 := Lib.hid (HY4.out.ext X5)
 have HZ5 := Lib.hid (HZ4.out.ext X5)
 clear O5 hg5 hat5 X5 hnil hrd x0 x2 x3 HE4 HX4 HY4 HZ4 HO4
 have x0 := HX5.out.cell 0
 have x2 := HX5.out.cell 2
 have y2 := HZ5.out.cell 2
 have z2 := HZ5.out.frozen 2
 obtain ⟨w6, hw6⟩ : ∃ W, w5.setCell ⟨Z, 2, none⟩ (.int .i64 at_) = W := ⟨_, rfl⟩
 have F6 : Fr w5 w6 (fun k => k = Z) := by rw [← hw6]; exact Fr.setCell _ _ _ _
 have HZ6 := Lib.hid (show NBox w6 Z 38 #[.int .u8 3, .slice none 0 0, .int .i64 at_, .slice none 0 0, .int .u64 0, .bool false, .string ⟨#[]⟩, .string ⟨#[]⟩, .string ⟨#[]⟩, .bool false, .slice none 0 0] from by rw [← hw6]; exact HZ5.out.set 2 _)
 have HY6 := Lib.hid (HY5.out.fr F6 (by omega))
 have HE6 := Lib.hid (Fr.ext HE5.out F6 (fun q hq => by rw [show q = Z from hq]; omega))
 have HO65 := Lib.hid (owns_fr F6 HO55.out (fun g hg hk => HZ5.out.not_own HO55.out (by decide) (by rw [hg, show g = Z from hk])))
 have HO6 := Lib.hid (owns_fr F6 HO5.out (fun g hg hk => HZ5.out.not_own HO5.out (by decide) (by rw [hg, show g = Z from hk])))
 have HW6 := Lib.hid hw6
 clear hw6 F6
 go_upto_region 15 with fail
 rw [HW6.out]
 clear HW6 y2 z2
 clear x0 x2
 have y3 := HZ6.out.cell 3
 have z3 := HZ6.out.frozen 3
 obtain ⟨w7, hw7⟩ : ∃ W, w6.setCell ⟨Z, 3, none⟩ (.slice mA tq.length mc) = W := ⟨_, rfl⟩
 have F7 : Fr w6 w7 (fun k => k = Z) := by rw [← hw7]; exact Fr.setCell _ _ _ _
 have HZ7 := Lib.hid (show NBox w7 Z 38 #[.int .u8 3, .slice none 0 0, .int .i64 at_, .slice mA tq.length mc, .int .u64 0, .bool false, .string ⟨#[]⟩, .string ⟨#[]⟩, .string ⟨#[]⟩, .bool false, .slice none 0 0] from by rw [← hw7]; exact HZ6.out.set 3 _)
 have HY7 := Lib.hid (HY6.out.fr F7 (by omega))
 have HE7 := Lib.hid (Fr.ext HE6.out F7 (fun q hq => by rw [show q = Z from hq]; omega))
 have HO75 := Lib.hid (owns_fr F7 HO65.out (fun g hg hk => HZ6.out.not_own HO65.out (by decide) (by rw [hg, show g = Z from hk])))
 have HO7 := Lib.hid (owns_fr F7 HO6.out (fun g hg hk => HZ6.out.not_own HO6.out (by decide) (by rw [hg, show g = Z from hk])))
 have HW7 := Lib.hid hw7
 clear hw7 F7
 go_upto_region 25 with fail
 rw [HW7.out]
 clear HW7 y3 z3
 have y1 := HZ7.out.cell 1
 have z1 := HZ7.out.frozen 1
 obtain ⟨w8, hw8⟩ : ∃ W, w7.setCell ⟨Z, 1, none⟩ (.slice nA p.length nc) = W := ⟨_, rfl⟩
 have F8 : Fr w7 w8 (fun k => k = Z) := by rw [← hw8]; exact Fr.setCell _ _ _ _
 have HZ8 := Lib.hid (show NBox w8 Z 38 #[.int .u8 3, .slice nA p.length nc, .int .i64 at_, .slice mA tq.length mc, .int .u64 0, .bool false, .string ⟨#[]⟩, .string ⟨#[]⟩, .string ⟨#[]⟩, .bool false, .slice none 0 0] from by rw [← hw8]; exact HZ7.out.set 1 _)
 have HY8 := Lib.hid (HY7.out.fr F8 (by omega))
 have HE8 := Lib.hid (Fr.ext HE7.out F8 (fun q hq => by rw [show q = Z from hq]; omega))
 have HO85 := Lib.hid (owns_fr F8 HO75.out (fun g hg hk => HZ7.out.not_own HO75.out (by decide) (by rw [hg, show g = Z from hk])))
 have HO8 := Lib.hid (owns_fr F8 HO7.out (fun g hg hk => HZ7.out.not_own HO7.out (by decide) (by rw [hg, show g = Z from hk])))
 have HW8 := Lib.hid hw8
 clear hw8 F8
 go_upto_region 26 with fail
 rw [HW8.out]
 clear HW8 y1 z1
 obtain ⟨y0, y1, y2, y3, y4, y5, y6, y7, y8, y9, y10⟩ := HY8.out.c11
 obtain ⟨f0, f1, f2, f3, f4, f5, f6, f7, f8, f9, f10⟩ := HY8.out.f11
 obtain ⟨z0, z1, z2, z3, z4, z5, z6, z7, z8, z9, z10⟩ := HZ8.out.c11
 go_wp2_with fail
 have F9 := Fr.s11 w8 (X + 1) (.int .u8 3) (.slice nA p.length nc) (.int .i64 at_) (.slice mA tq.length mc) (.int .u64 0) (.bool false) (.string ⟨#[]⟩) (.string ⟨#[]⟩) (.string ⟨#[]⟩) (.bool false) (.slice none 0 0)
 refine bodyPost_ret (results_st rfl _ rfl (HY8.out.s11 _ _ _ _ _ _ _ _ _ _ _) Try.underlying38 rfl info38) rfl ?_
 exact ⟨Fr.ext HE8.out F9 (fun q hq => by rw [show q = X + 1 from hq]; omega), _, rfl, _, _, _, _, rfl, owns_lo (owns_fr F9 HO85.out (fun g hg hk => HY8.out.not_own HO85.out (by decide) (by rw [hg, show g = X + 1 from hk]))) HLO3.out, owns_lo (owns_fr F9 HO8.out (fun g hg hk => HY8.out.not_own HO8.out (by decide) (by rw [hg, show g = X + 1 from hk]))) HLO4.out⟩
set_option maxRecDepth 100000 in
set_option maxHeartbeats 1000000 in
theorem samePcs_nil (w : World) : Calls Try.prog 52 #[.slice none 0 0, .slice none 0 0] w (Ret w fun r _ => r = .bool true) := by
 go_enter Try.func52, Try.ntmps52
 go_wp2_with fail
 go_loopw [5] (fun s5 wr => s5 = .int .i64 0 ∧ wr = w) (fun _ _ => 0)
 case atStart => exact ⟨rfl, rfl⟩
 case round =>
  obtain ⟨rfl, rfl⟩ := hrel
  go_wp2_with fail
  go_ret
  exact ⟨_, rfl, rfl, Ext.refl _⟩
end Go.Proofs.Ytofcbclokkjfjaa.Wi
namespace Go.Proofs.Ytofcbclokkjfjaa.Wi
open Go.RowKit Go.Proofs.Ytofcbclokkjfjaa.Bw Go.Proofs.Ytofcbclokkjfjaa.Bs

set_option maxRecDepth 100000 in
set_option maxHeartbeats 4000000 in
theorem same36_any (p tq : List Int) (at_ : Int) (u v : Value) (w : World) (hu : MvA w p tq at_ u) (hv : MvA w p tq at_ v) (hp : p.length ≤ 100000) (ht : tq.length ≤ 100000) : Calls Try.prog 36 #[u, v] w (Ret w fun r _ => r = .bool true) := by
 obtain ⟨pA, pc, tA, tc, rfl, hP, hT⟩ := hu
 obtain ⟨qA, qc, rA, rc, rfl, hQ, hR⟩ := hv
 obtain ⟨w1, hw1⟩ : ∃ W, (w.alloc (.cells #[.int .u8 3, .slice pA p.length pc, .int .i64 at_, .slice tA tq.length tc, .int .u64 0, .bool false, .string ⟨#[]⟩, .string ⟨#[]⟩, .string ⟨#[]⟩, .bool false, .slice none 0 0] 38)).alloc (.cells #[.int .u8 3, .slice qA p.length qc, .int .i64 at_, .slice rA tq.length rc, .int .u64 0, .bool false, .string ⟨#[]⟩, .string ⟨#[]⟩, .string ⟨#[]⟩, .bool false, .slice none 0 0] 38) = W := ⟨_, rfl⟩
 obtain ⟨X, hX⟩ : ∃ X, w.heap.size = X := ⟨_, rfl⟩
 have s1 : (w.alloc (.cells #[.int .u8 3, .slice pA p.length pc, .int .i64 at_, .slice tA tq.length tc, .int .u64 0, .bool false, .string ⟨#[]⟩, .string ⟨#[]⟩, .string ⟨#[]⟩, .bool false, .slice none 0 0] 38)).heap.size = X + 1 := by rw [World.size_alloc, hX]
 have hE1 : Ext w w1 := by rw [← hw1]; exact ((Ext.refl w).alloc _).alloc _
 have bX : NBox w1 X 38 #[.int .u8 3, .slice pA p.length pc, .int .i64 at_, .slice tA tq.length tc, .int .u64 0, .bool false, .string ⟨#[]⟩, .string ⟨#[]⟩, .string ⟨#[]⟩, .bool false, .slice none 0 0] := by rw [← hw1, ← hX]; exact (NBox.new w 38 _).ext ((Ext.refl _).alloc _)
 have bY : NBox w1 (X + 1) 38 #[.int .u8 3, .slice qA p.length qc, .int .i64 at_, .slice rA tq.length rc, .int .u64 0, .bool false, .string ⟨#[]⟩, .string ⟨#[]⟩, .string ⟨#[]⟩, .bool false, .slice none 0 0] := by rw [← hw1, ← s1]; exact NBox.new _ _ _
 have hwX : w.heap.size ≤ X := by omega
 obtain ⟨Y, hY⟩ : ∃ Y, X + 1 = Y := ⟨_, rfl⟩
 rw [hY] at bY
 have HE := Lib.hid hE1
 have HX := Lib.hid bX
 have HY := Lib.hid bY
 have HXY := Lib.hid (show X ≠ Y from by omega)
 have HwX := Lib.hid hwX
 have HwY := Lib.hid (show w.heap.size ≤ Y from by omega)
 have HP := Lib.hid hP
 have HT := Lib.hid hT
 have HQ := Lib.hid hQ
 have HR := Lib.hid hR
 have HW := Lib.hid hw1
 have HXX := Lib.hid hX
 have HYY := Lib.hid hY
 clear hw1 hX s1 hE1 bX bY hP hT hQ hR hwX hY
 go_enter Try.func36, Try.ntmps36
 go_upto_region 1 with fail
 rw [HW.out, HXX.out]
 try rw [HYY.out]
 obtain ⟨g0, g1, g2, g3, g4, g5, g6, g7, g8, g9, g10⟩ := HX.out.c11
 have hq := bare_any p tq at_ (.agg #[.int .u8 3, .slice pA p.length pc, .int .i64 at_, .slice tA tq.length tc, .int .u64 0, .bool false, .string ⟨#[]⟩, .string ⟨#[]⟩, .string ⟨#[]⟩, .bool false, .slice none 0 0]) w1 ⟨_, _, _, _, rfl, RdS.ext HE.out HP.out, RdS.ext HE.out HT.out⟩ hp ht
 go_wp2_with fail
 refine hq.mono ?_
 clear hq g0 g1 g2 g3 g4 g5 g6 g7 g8 g9 g10
 rintro e w2 ⟨hE, u, rfl, pB, pd, tB, td, rfl, h1, h2⟩
 have HE' := Lib.hid (HE.out.trans hE)
 have HN1 := Lib.hid (owns_lo h1 HE.out.size)
 have HN2 := Lib.hid (owns_lo h2 HE.out.size)
 have HX' := Lib.hid (HX.out.ext hE)
 have HY' := Lib.hid (HY.out.ext hE)
 clear hE h1 h2
 replace HE := HE'; replace HX := HX'; replace HY := HY'
 clear HE' HX' HY'
 obtain ⟨k0, k1, k2, k3, k4, k5, k6, k7, k8, k9, k10⟩ := HX.out.c11
 obtain ⟨f0, f1, f2, f3, f4, f5, f6, f7, f8, f9, f10⟩ := HX.out.f11
 obtain ⟨w3, hw⟩ : ∃ W, (World.setCell (World.setCell (World.setCell (World.setCell (World.setCell (World.setCell (World.setCell (World.setCell (World.setCell (World.setCell (World.setCell w2 ⟨X, 0, none⟩ (.int .u8 3)) ⟨X, 1, none⟩ (.slice pB p.length pd)) ⟨X, 2, none⟩ (.int .i64 at_)) ⟨X, 3, none⟩ (.slice tB tq.length td)) ⟨X, 4, none⟩ (.int .u64 0)) ⟨X, 5, none⟩ (.bool false)) ⟨X, 6, none⟩ (.string ⟨#[]⟩)) ⟨X, 7, none⟩ (.string ⟨#[]⟩)) ⟨X, 8, none⟩ (.string ⟨#[]⟩)) ⟨X, 9, none⟩ (.bool false)) ⟨X, 10, none⟩ (.slice none 0 0)) = W := ⟨_, rfl⟩
 have F : Fr w2 w3 (fun k => k = X) := by rw [← hw]; exact Fr.s11 _ _ _ _ _ _ _ _ _ _ _ _ _
 have HB := Lib.hid (show NBox w3 X 38 #[.int .u8 3, .slice pB p.length pd, .int .i64 at_, .slice tB tq.length td, .int .u64 0, .bool false, .string ⟨#[]⟩, .string ⟨#[]⟩, .string ⟨#[]⟩, .bool false, .slice none 0 0] from by rw [← hw]; exact HX.out.s11 _ _ _ _ _ _ _ _ _ _ _)
 have HW := Lib.hid hw
 have HE' := Lib.hid (Fr.ext HE.out F (fun q hq => by rw [show q = X from hq]; exact HwX.out))
 have HN1' := Lib.hid (owns_fr F HN1.out (fun g hg hk => HX.out.not_own HN1.out (by decide) (by rw [hg, show g = X from hk])))
 have HN2' := Lib.hid (owns_fr F HN2.out (fun g hg hk => HX.out.not_own HN2.out (by decide) (by rw [hg, show g = X from hk])))
 have HY' := Lib.hid (HY.out.fr F (fun hh => HXY.out hh.symm))
 clear F hw HX
 replace HE := HE'; replace HN1 := HN1'; replace HN2 := HN2'; replace HY := HY'
 clear HE' HN1' HN2' HY'
 have HX := HB
 have HM1 := HN1
 have HM2 := HN2
 clear HB HN1 HN2
 go_upto_region 2 with fail
 rw [HW.out]
 clear HW k0 f0 k1 f1 k2 f2 k3 f3 k4 f4 k5 f5 k6 f6 k7 f7 k8 f8 k9 f9 k10 f10
 obtain ⟨g0, g1, g2, g3, g4, g5, g6, g7, g8, g9, g10⟩ := HY.out.c11
 have hq := bare_any p tq at_ (.agg #[.int .u8 3, .slice qA p.length qc, .int .i64 at_, .slice rA tq.length rc, .int .u64 0, .bool false, .string ⟨#[]⟩, .string ⟨#[]⟩, .string ⟨#[]⟩, .bool false, .slice none 0 0]) w3 ⟨_, _, _, _, rfl, RdS.ext HE.out HQ.out, RdS.ext HE.out HR.out⟩ hp ht
 go_wp2_with fail
 refine hq.mono ?_
 clear hq g0 g1 g2 g3 g4 g5 g6 g7 g8 g9 g10
 rintro e w4 ⟨hE, u, rfl, qB, qd, rB, rd_, rfl, h1, h2⟩
 have HE' := Lib.hid (HE.out.trans hE)
 have HN1 := Lib.hid (owns_lo h1 HE.out.size)
 have HN2 := Lib.hid (owns_lo h2 HE.out.size)
 have HX' := Lib.hid (HX.out.ext hE)
 have HY' := Lib.hid (HY.out.ext hE)
 have HM1' := Lib.hid (owns_ext hE HM1.out)
 have HM2' := Lib.hid (owns_ext hE HM2.out)
 clear hE h1 h2
 replace HE := HE'; replace HX := HX'; replace HY := HY'; replace HM1 := HM1'; replace HM2 := HM2'
 clear HE' HX' HY' HM1' HM2'
 obtain ⟨k0, k1, k2, k3, k4, k5, k6, k7, k8, k9, k10⟩ := HY.out.c11
 obtain ⟨f0, f1, f2, f3, f4, f5, f6, f7, f8, f9, f10⟩ := HY.out.f11
 obtain ⟨w5, hw⟩ : ∃ W, (World.setCell (World.setCell (World.setCell (World.setCell (World.setCell (World.setCell (World.setCell (World.setCell (World.setCell (World.setCell (World.setCell w4 ⟨Y, 0, none⟩ (.int .u8 3)) ⟨Y, 1, none⟩ (.slice qB p.length qd)) ⟨Y, 2, none⟩ (.int .i64 at_)) ⟨Y, 3, none⟩ (.slice rB tq.length rd_)) ⟨Y, 4, none⟩ (.int .u64 0)) ⟨Y, 5, none⟩ (.bool false)) ⟨Y, 6, none⟩ (.string ⟨#[]⟩)) ⟨Y, 7, none⟩ (.string ⟨#[]⟩)) ⟨Y, 8, none⟩ (.string ⟨#[]⟩)) ⟨Y, 9, none⟩ (.bool false)) ⟨Y, 10, none⟩ (.slice none 0 0)) = W := ⟨_, rfl⟩
 have F : Fr w4 w5 (fun k => k = Y) := by rw [← hw]; exact Fr.s11 _ _ _ _ _ _ _ _ _ _ _ _ _
 have HB := Lib.hid (show NBox w5 Y 38 #[.int .u8 3, .slice qB p.length qd, .int .i64 at_, .slice rB tq.length rd_, .int .u64 0, .bool false, .string ⟨#[]⟩, .string ⟨#[]⟩, .string ⟨#[]⟩, .bool false, .slice none 0 0] from by rw [← hw]; exact HY.out.s11 _ _ _ _ _ _ _ _ _ _ _)
 have HW := Lib.hid hw
 have HE' := Lib.hid (Fr.ext HE.out F (fun q hq => by rw [show q = Y from hq]; exact HwY.out))
 have HN1' := Lib.hid (owns_fr F HN1.out (fun g hg hk => HY.out.not_own HN1.out (by decide) (by rw [hg, show g = Y from hk])))
 have HN2' := Lib.hid (owns_fr F HN2.out (fun g hg hk => HY.out.not_own HN2.out (by decide) (by rw [hg, show g = Y from hk])))
 have HX' := Lib.hid (HX.out.fr F HXY.out)
 have HM1' := Lib.hid (owns_fr F HM1.out (fun g hg hk => HY.out.not_own HM1.out (by decide) (by rw [hg, show g = Y from hk])))
 have HM2' := Lib.hid (owns_fr F HM2.out (fun g hg hk => HY.out.not_own HM2.out (by decide) (by rw [hg, show g = Y from hk])))
 clear F hw HY
 replace HE := HE'; replace HN1 := HN1'; replace HN2 := HN2'; replace HX := HX'; replace HM1 := HM1'; replace HM2 := HM2'
 clear HE' HN1' HN2' HX' HM1' HM2'
 have HY := HB
 clear HB
 go_upto_region 3 with fail
 rw [HW.out]
 clear HW k0 f0 k1 f1 k2 f2 k3 f3 k4 f4 k5 f5 k6 f6 k7 f7 k8 f8 k9 f9 k10 f10
 go_step
 dsimp only [List.append]
 obtain ⟨g0, g1, g2, g3, g4, g5, g6, g7, g8, g9, g10⟩ := HX.out.c11
 obtain ⟨h0, h1, h2, h3, h4, h5, h6, h7, h8, h9, h10⟩ := HY.out.c11
 have ha : (at_ == at_) = true := beq_self_eq_true _
 have q1 := sameR_any p p _ _ w5 (RdS.of_owns HM1.out) (RdS.of_owns HN1.out)
 rw [decide_eq_true rfl] at q1
 go_wp2_with fail
 refine q1.mono ?_
 clear q1 g0 h0 g1 h1 g2 h2 g3 h3 g4 h4 g5 h5 g6 h6 g7 h7 g8 h8 g9 h9 g10 h10
 rintro e w6 ⟨r, rfl, rfl, hE⟩
 have HE' := Lib.hid (HE.out.trans hE)
 have HX' := Lib.hid (HX.out.ext hE)
 have HY' := Lib.hid (HY.out.ext hE)
 have q2 := sameR_any tq tq _ _ w6 (RdS.ext hE (RdS.of_owns HM2.out)) (RdS.ext hE (RdS.of_owns HN2.out))
 rw [decide_eq_true rfl] at q2
 clear hE
 replace HE := HE'; replace HX := HX'; replace HY := HY'
 clear HE' HX' HY'
 obtain ⟨g0, g1, g2, g3, g4, g5, g6, g7, g8, g9, g10⟩ := HX.out.c11
 obtain ⟨h0, h1, h2, h3, h4, h5, h6, h7, h8, h9, h10⟩ := HY.out.c11
 go_wp2_with fail
 refine q2.mono ?_
 clear q2 g0 h0 g1 h1 g2 h2 g3 h3 g4 h4 g5 h5 g6 h6 g7 h7 g8 h8 g9 h9 g10 h10
 rintro e w7 ⟨r, rfl, rfl, hE⟩
 have HE' := Lib.hid (HE.out.trans hE)
 have HX' := Lib.hid (HX.out.ext hE)
 have HY' := Lib.hid (HY.out.ext hE)
 have q3 := samePcs_nil w7
 clear hE
 replace HE := HE'; replace HX := HX'; replace HY := HY'
 clear HE' HX' HY'
 obtain ⟨g0, g1, g2, g3, g4, g5, g6, g7, g8, g9, g10⟩ := HX.out.c11
 obtain ⟨h0, h1, h2, h3, h4, h5, h6, h7, h8, h9, h10⟩ := HY.out.c11
 go_wp2_with fail
 refine q3.mono ?_
 clear q3 g0 h0 g1 h1 g2 h2 g3 h3 g4 h4 g5 h5 g6 h6 g7 h7 g8 h8 g9 h9 g10 h10
 rintro e w8 ⟨r, rfl, rfl, hE⟩
 have HE' := Lib.hid (HE.out.trans hE)
 clear hE HX HY
 replace HE := HE'
 clear HE'
 go_wp2_with fail
 go_ret
 exact ⟨_, rfl, rfl, HE.out⟩
/-- An answer of ask, as two values. -/
def AnV (lo : Nat) (W : World) (p : List Int) (o : Except Int (List Int × Int)) (lv ev : Value) : Prop := match o with
 | .error k => lv = .slice none 0 0 ∧ ev = .int .i64 k
 | .ok x => MvV lo p x.1 x.2 lv W ∧ ev = .int .i64 0
set_option maxRecDepth 100000 in
set_option maxHeartbeats 1000000 in
theorem same13_nil (k : Int) (w : World) : Calls Try.prog 13 #[.slice none 0 0, .slice none 0 0, .int .i64 k, .int .i64 k] w (Ret w fun r _ => r = .bool true) := by
 have hk : (k != k) = false := by simp
 have hk2 : (k == k) = true := by simp
 go_enter Try.func13, Try.ntmps13
 go_wp2_with fail
 go_loopw [9] (fun s9 wr => s9 = .int .i64 0 ∧ wr = w) (fun _ _ => 0)
 case atStart => exact ⟨rfl, rfl⟩
 case round =>
  obtain ⟨rfl, rfl⟩ := hrel
  go_wp2_with fail
  go_ret
  exact ⟨_, rfl, rfl, Ext.refl _⟩
set_option maxRecDepth 100000 in
set_option maxHeartbeats 4000000 in
theorem same13_mv (p tq : List Int) (at_ : Int) (u v : Value) (lo lo' : Nat) (w : World) (hu : MvV lo p tq at_ u w) (hv : MvV lo' p tq at_ v w) (hp : p.length ≤ 100000) (ht : tq.length ≤ 100000) : Calls Try.prog 13 #[u, v, .int .i64 0, .int .i64 0] w (Ret w fun r _ => r = .bool true) := by
 obtain ⟨g, pA, pc, tA, tc, rfl, -, hG, hP, hT⟩ := hu
 obtain ⟨h, qA, qc, rA, rc, rfl, -, hH, hQ, hR⟩ := hv
 have HG := Lib.hid hG
 have HH := Lib.hid hH
 have hq0 : Hid (∀ W, Ext w W → Calls Try.prog 36 #[.agg #[.int .u8 3, .slice pA p.length pc, .int .i64 at_, .slice tA tq.length tc, .int .u64 0, .bool false, .string ⟨#[]⟩, .string ⟨#[]⟩, .string ⟨#[]⟩, .bool false, .slice none 0 0], .agg #[.int .u8 3, .slice qA p.length qc, .int .i64 at_, .slice rA tq.length rc, .int .u64 0, .bool false, .string ⟨#[]⟩, .string ⟨#[]⟩, .string ⟨#[]⟩, .bool false, .slice none 0 0]] W (Ret W fun r _ => r = .bool true)) := Lib.hid (fun W X => same36_any p tq at_ _ _ W ⟨_, _, _, _, rfl, RdS.of_owns (owns_ext X hP), RdS.of_owns (owns_ext X hT)⟩ ⟨_, _, _, _, rfl, RdS.of_owns (owns_ext X hQ), RdS.of_owns (owns_ext X hR)⟩ hp ht)
 clear hG hH hP hT hQ hR
 go_enter Try.func13, Try.ntmps13
 go_wp2_with fail
 go_loopw [9] (fun s9 wr => ∃ i : Nat, s9 = .int .i64 (i : Int) ∧ i ≤ 1 ∧ Hid (Ext w wr)) (fun s9 _ => 1 - (intOf s9).toNat)
 case atStart => exact ⟨0, rfl, by omega, Lib.hid (Ext.refl w)⟩
 case round =>
  obtain ⟨i, rfl, hi, HE⟩ := hrel
  rcases Nat.eq_zero_or_pos i with h0 | h0
  ·subst h0
   have HG' := Lib.hid (HG.out.ext HE.out)
   have HH' := Lib.hid (HH.out.ext HE.out)
   obtain ⟨g0, g1, g2, g3, g4, g5, g6, g7, g8, g9, g10⟩ := HG'.out.c11
   obtain ⟨h0, h1, h2, h3, h4, h5, h6, h7, h8, h9, h10⟩ := HH'.out.c11
   have hc := hq0.out wr.drew HE.out.drew
   go_wp2_with fail
   go_still_tail 8, (by kernel_rfl)
   change wpList _ _ _ _ _ wr.drew
   go_wp2_with fail
   refine hc.mono ?_
   clear hc g0 h0 g1 h1 g2 h2 g3 h3 g4 h4 g5 h5 g6 h6 g7 h7 g8 h8 g9 h9 g10 h10
   rintro e w4 ⟨r, rfl, rfl, hE5⟩
   go_wp2_with fail
   go_roundw
   case rel => exact ⟨1, by go_num, by omega, Lib.hid (HE.out.drew.trans hE5)⟩
   case measure => simp [intOf]
  ·obtain rfl : i = 1 := by omega
   go_wp2_with fail
   go_ret
   exact ⟨_, rfl, rfl, HE.out⟩
end Go.Proofs.Ytofcbclokkjfjaa.Wi
