/- Chapter 24: moves that are alike are the same: Same (36), same (13). (Printed by gousame2.py.) -/
import Derived.Test.YtofcbclokkjfjaaOuSame
namespace Go.Proofs.Ytofcbclokkjfjaa.Wi
open Go.RowKit Go.Proofs.Ytofcbclokkjfjaa.Bw Go.Proofs.Ytofcbclokkjfjaa.Bs

set_option maxRecDepth 100000 in
set_option maxHeartbeats 4000000 in
theorem same36_any (p tq : List Int) (at_ : Int) (u v : Value) (w : World) (hu : MvA w p tq at_ u) (hv : MvA w p tq at_ v) (hp : p.length ≤ 100000) (ht : tq.length ≤ 100000) : Calls Try.prog 36 #[u, v] w (Ret w fun r _ => r = .bool true) := by
  obtain ⟨pA, pc, tA, tc, rfl, hP, hT⟩ := hu
  obtain ⟨qA, qc, rA, rc, rfl, hQ, hR⟩ := hv
  obtain ⟨w1, hw1⟩ : ∃ W, (w.alloc (.cells #[.int .u8 3, .slice pA p.length pc, .int .i64 at_, .slice tA tq.length tc, .int .u64 0, .bool false, .string ⟨#[]⟩, .string ⟨#[]⟩, .string ⟨#[]⟩, .bool false, .slice none 0 0] 38)).alloc (.cells #[.int .u8 3, .slice qA p.length qc, .int .i64 at_, .slice rA tq.length rc, .int .u64 0, .bool false, .string ⟨#[]⟩, .string ⟨#[]⟩, .string ⟨#[]⟩, .bool false, .slice none 0 0] 38) = W := ⟨_, rfl⟩
  obtain ⟨X, hX⟩ : ∃ X, w.heap.size = X := ⟨_, rfl⟩
  have s1 : (w.alloc (.cells #[.int .u8 3, .slice pA p.length pc, .int .i64 at_, .slice tA tq.length tc, .int .u64 0, .bool false, .string ⟨#[]⟩, .string ⟨#[]⟩, .string ⟨#[]⟩, .bool false, .slice none 0 0] 38)).heap.size = X + 1 := by rw [World.size_alloc, hX]
  have hE1 : Ext w w1 := by rw [← hw1]; exact ((Ext.refl w).alloc _).alloc _
  have bX : NBox w1 X 38 #[.int .u8 3, .slice pA p.length pc, .int .i64 at_, .slice tA tq.length tc, .int .u64 0, .bool false, .string ⟨#[]⟩, .string ⟨#[]⟩, .string ⟨#[]⟩, .bool false, .slice none 0 0] := by rw [← hw1, ← hX]; exact (NBox.new w 38 _).ext ((Ext.refl _).alloc _)
  have bY : NBox w1 (X + 1) 38 #[.int .u8 3, .slice qA p.length qc, .int .i64 at_, .slice rA tq.length rc, .int .u64 0, .bool false, .string ⟨#[]⟩, .string ⟨#[]⟩, .string ⟨#[]⟩, .bool false, .slice none 0 0] := by rw [← hw1, ← s1]; exact NBox.new _ _ _
  have hwX : w.heap.size ≤ X := by omega
  obtain ⟨Y, hY⟩ : ∃ Y, X + 1 = Y := ⟨_, rfl⟩
  rw [hY] at bY
  have HE := Lib.hid hE1
  have HX := Lib.hid bX
  have HY := Lib.hid bY
  have HXY := Lib.hid (show X ≠ Y from by omega)
  have HwX := Lib.hid hwX
  have HwY := Lib.hid (show w.heap.size ≤ Y from by omega)
  have HP := Lib.hid hP
  have HT := Lib.hid hT
  have HQ := Lib.hid hQ
  have HR := Lib.hid hR
  have HW := Lib.hid hw1
  have HXX := Lib.hid hX
  have HYY := Lib.hid hY
  clear hw1 hX s1 hE1 bX bY hP hT hQ hR hwX hY
  go_enter Try.func36, Try.ntmps36
  go_upto_region 1 with fail
  rw [HW.out, HXX.out]
  try rw [HYY.out]
  have g0 := HX.out.cell 0
  have g1 := HX.out.cell 1
  have g2 := HX.out.cell 2
  have g3 := HX.out.cell 3
  have g4 := HX.out.cell 4
  have g5 := HX.out.cell 5
  have g6 := HX.out.cell 6
  have g7 := HX.out.cell 7
  have g8 := HX.out.cell 8
  have g9 := HX.out.cell 9
  have g10 := HX.out.cell 10
  have hq := bare_any p tq at_ (.agg #[.int .u8 3, .slice pA p.length pc, .int .i64 at_, .slice tA tq.length tc, .int .u64 0, .bool false, .string ⟨#[]⟩, .string ⟨#[]⟩, .string ⟨#[]⟩, .bool false, .slice none 0 0]) w1 ⟨_, _, _, _, rfl, RdS.ext HE.out HP.out, RdS.ext HE.out HT.out⟩ hp ht
  go_wp2_with fail
  refine hq.mono ?_
  clear hq g0 g1 g2 g3 g4 g5 g6 g7 g8 g9 g10
  rintro e w2 ⟨hE, u, rfl, pB, pd, tB, td, rfl, h1, h2⟩
  have HE' := Lib.hid (HE.out.trans hE)
  have HN1 := Lib.hid (owns_lo h1 HE.out.size)
  have HN2 := Lib.hid (owns_lo h2 HE.out.size)
  have HX' := Lib.hid (HX.out.ext hE)
  have HY' := Lib.hid (HY.out.ext hE)
  clear hE h1 h2
  clear HE
  have HE := HE'
  clear HE'
  clear HX
  have HX := HX'
  clear HX'
  clear HY
  have HY := HY'
  clear HY'
  have k0 := HX.out.cell 0
  have f0 := HX.out.frozen 0
  have k1 := HX.out.cell 1
  have f1 := HX.out.frozen 1
  have k2 := HX.out.cell 2
  have f2 := HX.out.frozen 2
  have k3 := HX.out.cell 3
  have f3 := HX.out.frozen 3
  have k4 := HX.out.cell 4
  have f4 := HX.out.frozen 4
  have k5 := HX.out.cell 5
  have f5 := HX.out.frozen 5
  have k6 := HX.out.cell 6
  have f6 := HX.out.frozen 6
  have k7 := HX.out.cell 7
  have f7 := HX.out.frozen 7
  have k8 := HX.out.cell 8
  have f8 := HX.out.frozen 8
  have k9 := HX.out.cell 9
  have f9 := HX.out.frozen 9
  have k10 := HX.out.cell 10
  have f10 := HX.out.frozen 10
  obtain ⟨w3, hw⟩ : ∃ W, (World.setCell (World.setCell (World.setCell (World.setCell (World.setCell (World.setCell (World.setCell (World.setCell (World.setCell (World.setCell (World.setCell w2 ⟨X, 0, none⟩ (.int .u8 3)) ⟨X, 1, none⟩ (.slice pB p.length pd)) ⟨X, 2, none⟩ (.int .i64 at_)) ⟨X, 3, none⟩ (.slice tB tq.length td)) ⟨X, 4, none⟩ (.int .u64 0)) ⟨X, 5, none⟩ (.bool false)) ⟨X, 6, none⟩ (.string ⟨#[]⟩)) ⟨X, 7, none⟩ (.string ⟨#[]⟩)) ⟨X, 8, none⟩ (.string ⟨#[]⟩)) ⟨X, 9, none⟩ (.bool false)) ⟨X, 10, none⟩ (.slice none 0 0)) = W := ⟨_, rfl⟩
  have F : Fr w2 w3 (fun k => k = X) := by rw [← hw]; exact Fr.s11 _ _ _ _ _ _ _ _ _ _ _ _ _
  have HB := Lib.hid (show NBox w3 X 38 #[.int .u8 3, .slice pB p.length pd, .int .i64 at_, .slice tB tq.length td, .int .u64 0, .bool false, .string ⟨#[]⟩, .string ⟨#[]⟩, .string ⟨#[]⟩, .bool false, .slice none 0 0] from by rw [← hw]; exact HX.out.s11 _ _ _ _ _ _ _ _ _ _ _)
  have HW := Lib.hid hw
  have HE' := Lib.hid (Fr.ext HE.out F (fun q hq => by rw [show q = X from hq]; exact HwX.out))
  have HN1' := Lib.hid (owns_fr F HN1.out (fun g hg hk => HX.out.not_own HN1.out (by decide) (by rw [hg, show g = X from hk])))
  have HN2' := Lib.hid (owns_fr F HN2.out (fun g hg hk => HX.out.not_own HN2.out (by decide) (by rw [hg, show g = X from hk])))
  have HY' := Lib.hid (HY.out.fr F (fun hh => HXY.out hh.symm))
  clear F hw HX
  clear HE
  have HE := HE'
  clear HE'
  clear HN1
  have HN1 := HN1'
  clear HN1'
  clear HN2
  have HN2 := HN2'
  clear HN2'
  clear HY
  have HY := HY'
  clear HY'
  have HX := HB
  have HM1 := HN1
  have HM2 := HN2
  clear HB HN1 HN2
  go_upto_region 2 with fail
  rw [HW.out]
  clear HW k0 f0 k1 f1 k2 f2 k3 f3 k4 f4 k5 f5 k6 f6 k7 f7 k8 f8 k9 f9 k10 f10
  have g0 := HY.out.cell 0
  have g1 := HY.out.cell 1
  have g2 := HY.out.cell 2
  have g3 := HY.out.cell 3
  have g4 := HY.out.cell 4
  have g5 := HY.out.cell 5
  have g6 := HY.out.cell 6
  have g7 := HY.out.cell 7
  have g8 := HY.out.cell 8
  have g9 := HY.out.cell 9
  have g10 := HY.out.cell 10
  have hq := bare_any p tq at_ (.agg #[.int .u8 3, .slice qA p.length qc, .int .i64 at_, .slice rA tq.length rc, .int .u64 0, .bool false, .string ⟨#[]⟩, .string ⟨#[]⟩, .string ⟨#[]⟩, .bool false, .slice none 0 0]) w3 ⟨_, _, _, _, rfl, RdS.ext HE.out HQ.out, RdS.ext HE.out HR.out⟩ hp ht
  go_wp2_with fail
  refine hq.mono ?_
  clear hq g0 g1 g2 g3 g4 g5 g6 g7 g8 g9 g10
  rintro e w4 ⟨hE, u, rfl, qB, qd, rB, rd_, rfl, h1, h2⟩
  have HE' := Lib.hid (HE.out.trans hE)
  have HN1 := Lib.hid (owns_lo h1 HE.out.size)
  have HN2 := Lib.hid (owns_lo h2 HE.out.size)
  have HX' := Lib.hid (HX.out.ext hE)
  have HY' := Lib.hid (HY.out.ext hE)
  have HM1' := Lib.hid (owns_ext hE HM1.out)
  have HM2' := Lib.hid (owns_ext hE HM2.out)
  clear hE h1 h2
  clear HE
  have HE := HE'
  clear HE'
  clear HX
  have HX := HX'
  clear HX'
  clear HY
  have HY := HY'
  clear HY'
  clear HM1
  have HM1 := HM1'
  clear HM1'
  clear HM2
  have HM2 := HM2'
  clear HM2'
  have k0 := HY.out.cell 0
  have f0 := HY.out.frozen 0
  have k1 := HY.out.cell 1
  have f1 := HY.out.frozen 1
  have k2 := HY.out.cell 2
  have f2 := HY.out.frozen 2
  have k3 := HY.out.cell 3
  have f3 := HY.out.frozen 3
  have k4 := HY.out.cell 4
  have f4 := HY.out.frozen 4
  have k5 := HY.out.cell 5
  have f5 := HY.out.frozen 5
  have k6 := HY.out.cell 6
  have f6 := HY.out.frozen 6
  have k7 := HY.out.cell 7
  have f7 := HY.out.frozen 7
  have k8 := HY.out.cell 8
  have f8 := HY.out.frozen 8
  have k9 := HY.out.cell 9
  have f9 := HY.out.frozen 9
  have k10 := HY.out.cell 10
  have f10 := HY.out.frozen 10
  obtain ⟨w5, hw⟩ : ∃ W, (World.setCell (World.setCell (World.setCell (World.setCell (World.setCell (World.setCell (World.setCell (World.setCell (World.setCell (World.setCell (World.setCell w4 ⟨Y, 0, none⟩ (.int .u8 3)) ⟨Y, 1, none⟩ (.slice qB p.length qd)) ⟨Y, 2, none⟩ (.int .i64 at_)) ⟨Y, 3, none⟩ (.slice rB tq.length rd_)) ⟨Y, 4, none⟩ (.int .u64 0)) ⟨Y, 5, none⟩ (.bool false)) ⟨Y, 6, none⟩ (.string ⟨#[]⟩)) ⟨Y, 7, none⟩ (.string ⟨#[]⟩)) ⟨Y, 8, none⟩ (.string ⟨#[]⟩)) ⟨Y, 9, none⟩ (.bool false)) ⟨Y, 10, none⟩ (.slice none 0 0)) = W := ⟨_, rfl⟩
  have F : Fr w4 w5 (fun k => k = Y) := by rw [← hw]; exact Fr.s11 _ _ _ _ _ _ _ _ _ _ _ _ _
  have HB := Lib.hid (show NBox w5 Y 38 #[.int .u8 3, .slice qB p.length qd, .int .i64 at_, .slice rB tq.length rd_, .int .u64 0, .bool false, .string ⟨#[]⟩, .string ⟨#[]⟩, .string ⟨#[]⟩, .bool false, .slice none 0 0] from by rw [← hw]; exact HY.out.s11 _ _ _ _ _ _ _ _ _ _ _)
  have HW := Lib.hid hw
  have HE' := Lib.hid (Fr.ext HE.out F (fun q hq => by rw [show q = Y from hq]; exact HwY.out))
  have HN1' := Lib.hid (owns_fr F HN1.out (fun g hg hk => HY.out.not_own HN1.out (by decide) (by rw [hg, show g = Y from hk])))
  have HN2' := Lib.hid (owns_fr F HN2.out (fun g hg hk => HY.out.not_own HN2.out (by decide) (by rw [hg, show g = Y from hk])))
  have HX' := Lib.hid (HX.out.fr F HXY.out)
  have HM1' := Lib.hid (owns_fr F HM1.out (fun g hg hk => HY.out.not_own HM1.out (by decide) (by rw [hg, show g = Y from hk])))
  have HM2' := Lib.hid (owns_fr F HM2.out (fun g hg hk => HY.out.not_own HM2.out (by decide) (by rw [hg, show g = Y from hk])))
  clear F hw HY
  clear HE
  have HE := HE'
  clear HE'
  clear HN1
  have HN1 := HN1'
  clear HN1'
  clear HN2
  have HN2 := HN2'
  clear HN2'
  clear HX
  have HX := HX'
  clear HX'
  clear HM1
  have HM1 := HM1'
  clear HM1'
  clear HM2
  have HM2 := HM2'
  clear HM2'
  have HY := HB
  clear HB
  go_upto_region 3 with fail
  rw [HW.out]
  clear HW k0 f0 k1 f1 k2 f2 k3 f3 k4 f4 k5 f5 k6 f6 k7 f7 k8 f8 k9 f9 k10 f10
  go_step
  dsimp only [List.append]
  have g0 := HX.out.cell 0
  have h0 := HY.out.cell 0
  have g1 := HX.out.cell 1
  have h1 := HY.out.cell 1
  have g2 := HX.out.cell 2
  have h2 := HY.out.cell 2
  have g3 := HX.out.cell 3
  have h3 := HY.out.cell 3
  have g4 := HX.out.cell 4
  have h4 := HY.out.cell 4
  have g5 := HX.out.cell 5
  have h5 := HY.out.cell 5
  have g6 := HX.out.cell 6
  have h6 := HY.out.cell 6
  have g7 := HX.out.cell 7
  have h7 := HY.out.cell 7
  have g8 := HX.out.cell 8
  have h8 := HY.out.cell 8
  have g9 := HX.out.cell 9
  have h9 := HY.out.cell 9
  have g10 := HX.out.cell 10
  have h10 := HY.out.cell 10
  have ha : (at_ == at_) = true := beq_self_eq_true _
  have q1 := sameR_any p p _ _ w5 (RdS.of_owns HM1.out) (RdS.of_owns HN1.out)
  rw [decide_eq_true rfl] at q1
  go_wp2_with fail
  refine q1.mono ?_
  clear q1 g0 h0 g1 h1 g2 h2 g3 h3 g4 h4 g5 h5 g6 h6 g7 h7 g8 h8 g9 h9 g10 h10
  rintro e w6 ⟨r, rfl, rfl, hE⟩
  have HE' := Lib.hid (HE.out.trans hE)
  have HX' := Lib.hid (HX.out.ext hE)
  have HY' := Lib.hid (HY.out.ext hE)
  have q2 := sameR_any tq tq _ _ w6 (RdS.ext hE (RdS.of_owns HM2.out)) (RdS.ext hE (RdS.of_owns HN2.out))
  rw [decide_eq_true rfl] at q2
  clear hE
  clear HE
  have HE := HE'
  clear HE'
  clear HX
  have HX := HX'
  clear HX'
  clear HY
  have HY := HY'
  clear HY'
  have g0 := HX.out.cell 0
  have h0 := HY.out.cell 0
  have g1 := HX.out.cell 1
  have h1 := HY.out.cell 1
  have g2 := HX.out.cell 2
  have h2 := HY.out.cell 2
  have g3 := HX.out.cell 3
  have h3 := HY.out.cell 3
  have g4 := HX.out.cell 4
  have h4 := HY.out.cell 4
  have g5 := HX.out.cell 5
  have h5 := HY.out.cell 5
  have g6 := HX.out.cell 6
  have h6 := HY.out.cell 6
  have g7 := HX.out.cell 7
  have h7 := HY.out.cell 7
  have g8 := HX.out.cell 8
  have h8 := HY.out.cell 8
  have g9 := HX.out.cell 9
  have h9 := HY.out.cell 9
  have g10 := HX.out.cell 10
  have h10 := HY.out.cell 10
  go_wp2_with fail
  refine q2.mono ?_
  clear q2 g0 h0 g1 h1 g2 h2 g3 h3 g4 h4 g5 h5 g6 h6 g7 h7 g8 h8 g9 h9 g10 h10
  rintro e w7 ⟨r, rfl, rfl, hE⟩
  have HE' := Lib.hid (HE.out.trans hE)
  have HX' := Lib.hid (HX.out.ext hE)
  have HY' := Lib.hid (HY.out.ext hE)
  have q3 := samePcs_nil w7
  clear hE
  clear HE
  have HE := HE'
  clear HE'
  clear HX
  have HX := HX'
  clear HX'
  clear HY
  have HY := HY'
  clear HY'
  have g0 := HX.out.cell 0
  have h0 := HY.out.cell 0
  have g1 := HX.out.cell 1
  have h1 := HY.out.cell 1
  have g2 := HX.out.cell 2
  have h2 := HY.out.cell 2
  have g3 := HX.out.cell 3
  have h3 := HY.out.cell 3
  have g4 := HX.out.cell 4
  have h4 := HY.out.cell 4
  have g5 := HX.out.cell 5
  have h5 := HY.out.cell 5
  have g6 := HX.out.cell 6
  have h6 := HY.out.cell 6
  have g7 := HX.out.cell 7
  have h7 := HY.out.cell 7
  have g8 := HX.out.cell 8
  have h8 := HY.out.cell 8
  have g9 := HX.out.cell 9
  have h9 := HY.out.cell 9
  have g10 := HX.out.cell 10
  have h10 := HY.out.cell 10
  go_wp2_with fail
  refine q3.mono ?_
  clear q3 g0 h0 g1 h1 g2 h2 g3 h3 g4 h4 g5 h5 g6 h6 g7 h7 g8 h8 g9 h9 g10 h10
  rintro e w8 ⟨r, rfl, rfl, hE⟩
  have HE' := Lib.hid (HE.out.trans hE)
  clear hE HX HY
  clear HE
  have HE := HE'
  clear HE'
  go_wp2_with fail
  go_ret
  exact ⟨_, rfl, rfl, HE.out⟩
/-- An answer of ask, as two values. -/
def AnV (lo : Nat) (W : World) (p : List Int) (o : Except Int (List Int × Int)) (lv ev : Value) : Prop := match o with
  | .error k => lv = .slice none 0 0 ∧ ev = .int .i64 k
  | .ok x => MvV lo p x.1 x.2 lv W ∧ ev = .int .i64 0
set_option maxRecDepth 100000 in
set_option maxHeartbeats 1000000 in
theorem same13_nil (k : Int) (w : World) : Calls Try.prog 13 #[.slice none 0 0, .slice none 0 0, .int .i64 k, .int .i64 k] w (Ret w fun r _ => r = .bool true) := by
  have hk : (k != k) = false := by simp
  have hk2 : (k == k) = true := by simp
  go_enter Try.func13, Try.ntmps13
  go_wp2_with fail
  go_loopw [9] (fun s9 wr => s9 = .int .i64 0 ∧ wr = w) (fun _ _ => 0)
  case atStart => exact ⟨rfl, rfl⟩
  case round =>
    obtain ⟨rfl, rfl⟩ := hrel
    go_wp2_with fail
    go_ret
    exact ⟨_, rfl, rfl, Ext.refl _⟩
set_option maxRecDepth 100000 in
set_option maxHeartbeats 4000000 in
theorem same13_mv (p tq : List Int) (at_ : Int) (u v : Value) (lo lo' : Nat) (w : World) (hu : MvV lo p tq at_ u w) (hv : MvV lo' p tq at_ v w) (hp : p.length ≤ 100000) (ht : tq.length ≤ 100000) : Calls Try.prog 13 #[u, v, .int .i64 0, .int .i64 0] w (Ret w fun r _ => r = .bool true) := by
  obtain ⟨g, pA, pc, tA, tc, rfl, -, hG, hP, hT⟩ := hu
  obtain ⟨h, qA, qc, rA, rc, rfl, -, hH, hQ, hR⟩ := hv
  have HG := Lib.hid hG
  have HH := Lib.hid hH
  have hq0 : Hid (∀ W, Ext w W → Calls Try.prog 36 #[.agg #[.int .u8 3, .slice pA p.length pc, .int .i64 at_, .slice tA tq.length tc, .int .u64 0, .bool false, .string ⟨#[]⟩, .string ⟨#[]⟩, .string ⟨#[]⟩, .bool false, .slice none 0 0], .agg #[.int .u8 3, .slice qA p.length qc, .int .i64 at_, .slice rA tq.length rc, .int .u64 0, .bool false, .string ⟨#[]⟩, .string ⟨#[]⟩, .string ⟨#[]⟩, .bool false, .slice none 0 0]] W (Ret W fun r _ => r = .bool true)) := Lib.hid (fun W X => same36_any p tq at_ _ _ W ⟨_, _, _, _, rfl, RdS.of_owns (owns_ext X hP), RdS.of_owns (owns_ext X hT)⟩ ⟨_, _, _, _, rfl, RdS.of_owns (owns_ext X hQ), RdS.of_owns (owns_ext X hR)⟩ hp ht)
  clear hG hH hP hT hQ hR
  go_enter Try.func13, Try.ntmps13
  go_wp2_with fail
  go_loopw [9] (fun s9 wr => ∃ i : Nat, s9 = .int .i64 (i : Int) ∧ i ≤ 1 ∧ Hid (Ext w wr)) (fun s9 _ => 1 - (intOf s9).toNat)
  case atStart => exact ⟨0, rfl, by omega, Lib.hid (Ext.refl w)⟩
  case round =>
    obtain ⟨i, rfl, hi, HE⟩ := hrel
    rcases Nat.eq_zero_or_pos i with h0 | h0
    · subst h0
      have HG' := Lib.hid (HG.out.ext HE.out)
      have HH' := Lib.hid (HH.out.ext HE.out)
      have g0 := HG'.out.cell 0
      have h0 := HH'.out.cell 0
      have g1 := HG'.out.cell 1
      have h1 := HH'.out.cell 1
      have g2 := HG'.out.cell 2
      have h2 := HH'.out.cell 2
      have g3 := HG'.out.cell 3
      have h3 := HH'.out.cell 3
      have g4 := HG'.out.cell 4
      have h4 := HH'.out.cell 4
      have g5 := HG'.out.cell 5
      have h5 := HH'.out.cell 5
      have g6 := HG'.out.cell 6
      have h6 := HH'.out.cell 6
      have g7 := HG'.out.cell 7
      have h7 := HH'.out.cell 7
      have g8 := HG'.out.cell 8
      have h8 := HH'.out.cell 8
      have g9 := HG'.out.cell 9
      have h9 := HH'.out.cell 9
      have g10 := HG'.out.cell 10
      have h10 := HH'.out.cell 10
      have hc := hq0.out wr.drew HE.out.drew
      go_wp2_with fail
      go_still_tail 8, (by kernel_rfl)
      change wpList _ _ _ _ _ wr.drew
      go_wp2_with fail
      refine hc.mono ?_
      clear hc g0 h0 g1 h1 g2 h2 g3 h3 g4 h4 g5 h5 g6 h6 g7 h7 g8 h8 g9 h9 g10 h10
      rintro e w4 ⟨r, rfl, rfl, hE5⟩
      go_wp2_with fail
      go_roundw
      case rel => exact ⟨1, by go_num, by omega, Lib.hid (HE.out.drew.trans hE5)⟩
      case measure => simp [intOf]
    · obtain rfl : i = 1 := by omega
      go_wp2_with fail
      go_ret
      exact ⟨_, rfl, rfl, HE.out⟩
end Go.Proofs.Ytofcbclokkjfjaa.Wi
