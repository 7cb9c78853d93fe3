/- Chapter 24: what is alike is the same: samePieces (52), Same (36), same (13). (Printed by gousameg.py.) -/
import Derived.Test.YtofcbclokkjfjaaOuBare
import Derived.Test.YtofcbclokkjfjaaOuEdit
namespace Go.Proofs.Ytofcbclokkjfjaa.Wi
open Go.RowKit Go.Proofs.Ytofcbclokkjfjaa.Bw Go.Proofs.Ytofcbclokkjfjaa.Bs

set_option maxRecDepth 100000 in
set_option maxHeartbeats 2000000 in
theorem samePcs_refl (l : List Pc) (v u : Value) (w : World) (ha : RdP w l v) (hb : RdP w l u) : Calls Try.prog 52 #[v, u] w (Ret w fun r _ => r = .bool true) := by
 obtain ⟨A, ac, rfl, a1, a2, a3⟩ := ha
 obtain ⟨B, bc, rfl, b1, b2, b3⟩ := hb
 unfold maxLen at a2 b2
 go_enter Try.func52, Try.ntmps52
 go_wp2_with fail
 go_loopw [5] (fun s5 wr => ∃ i : Nat, s5 = .int .i64 i ∧ i ≤ l.length ∧ Ext w wr) (fun i _ => l.length - (intOf i).toNat)
 case atStart => exact ⟨0, rfl, Nat.zero_le _, Ext.refl w⟩
 case round =>
  obtain ⟨i, rfl, hi, hE⟩ := hrel
  rcases Nat.lt_or_ge i l.length with hlt | hlt
  ·obtain ⟨p, hp⟩ : ∃ p, l[i]? = some p := ⟨_, List.getElem?_eq_getElem hlt⟩
   obtain ⟨ba, oa, rfl, ra⟩ := a3 (by omega)
   obtain ⟨bb, ob, rfl, rb⟩ := b3 (by omega)
   obtain ⟨e1, e2, e3, e4⟩ := rdPcs_at (rdPcs_ext hE ra) hp
   obtain ⟨g1, g2, g3, g4⟩ := rdPcs_at (rdPcs_ext hE rb) hp
   have q1 : (0 : Int) ≤ (i : Int) := by omega
   have q2 : (i : Int) < (l.length : Int) := by omega
   have hc1 : (p.keep == p.keep) = true := beq_self_eq_true _
   have hc2 : (p.drop == p.drop) = true := beq_self_eq_true _
   have hc3 : (p.put.toList == p.put.toList) = true := beq_self_eq_true _
   clear hp ra rb a3 b3
   go_wp2_with fail
   go_quiet (fail)
   go_wp2_with fail
   go_roundw
   case rel => exact ⟨i + 1, by go_num, by omega, hE.drewN _⟩
   case measure => simp [intOf]; omega
  ·go_wp2_with fail
   go_ret
   exact ⟨_, rfl, rfl, hE⟩
theorem OpO.cells {tp lo : Nat} {W : World} {o : OpD} {v : Value} (h : OpO tp lo W o v) : ∃ pA pc tA tc cA cc, v = .agg #[.int .u8 o.kind, .slice pA o.path.length pc, .int .i64 o.at_, .slice tA o.to.length tc, .int .u64 o.id, .bool o.leaf, .string o.label, .string o.key, .string o.value, .bool o.gone, .slice cA o.pcs.length cc] ∧ RdI W o.path (.slice pA o.path.length pc) ∧ RdI W o.to (.slice tA o.to.length tc) ∧ ((∀ p ∈ o.pcs, okStr p.put) → RdP W o.pcs (.slice cA o.pcs.length cc)) := by
 obtain ⟨pA, pc, tA, tc, cA, cc, rfl, h1, h2, h3⟩ := h
 exact ⟨_, _, _, _, _, _, rfl, RdS.of_owns h1, RdS.of_owns h2, fun hs => RdP.of_owned h3 hs⟩
theorem OpD.rd_cells {W : World} {o : OpD} {v : Value} (h : o.rd W v) : ∃ pA pc tA tc cA cc, v = .agg #[.int .u8 o.kind, .slice pA o.path.length pc, .int .i64 o.at_, .slice tA o.to.length tc, .int .u64 o.id, .bool o.leaf, .string o.label, .string o.key, .string o.value, .bool o.gone, .slice cA o.pcs.length cc] := by
 obtain ⟨pv, tv, cv, rfl, ⟨pA, pc, rfl, -⟩, ⟨tA, tc, rfl, -⟩, ⟨cA, cc, rfl, -⟩, -⟩ := h
 exact ⟨_, _, _, _, _, _, rfl⟩
set_option maxRecDepth 100000 in
set_option maxHeartbeats 4000000 in
theorem same36_eq (o q : OpD) (u v : Value) (w : World) (hu : o.rd w u) (hv : q.rd w v) (hoq : bareD o = bareD q) (h1 : o.path.length ≤ 100000 ∧ o.to.length ≤ 100000 ∧ o.pcs.length ≤ 100000) (h2 : q.path.length ≤ 100000 ∧ q.to.length ≤ 100000 ∧ q.pcs.length ≤ 100000) : Calls Try.prog 36 #[u, v] w (Ret w fun r _ => r = .bool true) := by
 have HU := Lib.hid hu
 have HV := Lib.hid hv
 obtain ⟨pA, pc, tA, tc, cA, cc, rfl⟩ := OpD.rd_cells hu
 obtain ⟨qA, qc, rA, rc, dA, dc, rfl⟩ := OpD.rd_cells hv
 obtain ⟨w1, hw1⟩ : ∃ W, (w.alloc (.cells #[.int .u8 o.kind, .slice pA o.path.length pc, .int .i64 o.at_, .slice tA o.to.length tc, .int .u64 o.id, .bool o.leaf, .string o.label, .string o.key, .string o.value, .bool o.gone, .slice cA o.pcs.length cc] 38)).alloc (.cells #[.int .u8 q.kind, .slice qA q.path.length qc, .int .i64 q.at_, .slice rA q.to.length rc, .int .u64 q.id, .bool q.leaf, .string q.label, .string q.key, .string q.value, .bool q.gone, .slice dA q.pcs.length dc] 38) = W := ⟨_, rfl⟩
 obtain ⟨X, hX⟩ : ∃ X, w.heap.size = X := ⟨_, rfl⟩
 have s1 : (w.alloc (.cells #[.int .u8 o.kind, .slice pA o.path.length pc, .int .i64 o.at_, .slice tA o.to.length tc, .int .u64 o.id, .bool o.leaf, .string o.label, .string o.key, .string o.value, .bool o.gone, .slice cA o.pcs.length cc] 38)).heap.size = X + 1 := by rw [World.size_alloc, hX]
 have hE1 : Ext w w1 := by rw [← hw1]; exact ((Ext.refl w).alloc _).alloc _
 have bX : NBox w1 X 38 #[.int .u8 o.kind, .slice pA o.path.length pc, .int .i64 o.at_, .slice tA o.to.length tc, .int .u64 o.id, .bool o.leaf, .string o.label, .string o.key, .string o.value, .bool o.gone, .slice cA o.pcs.length cc] := by rw [← hw1, ← hX]; exact (NBox.new w 38 _).ext ((Ext.refl _).alloc _)
 have bY : NBox w1 (X + 1) 38 #[.int .u8 q.kind, .slice qA q.path.length qc, .int .i64 q.at_, .slice rA q.to.length rc, .int .u64 q.id, .bool q.leaf, .string q.label, .string q.key, .string q.value, .bool q.gone, .slice dA q.pcs.length dc] := by rw [← hw1, ← s1]; exact NBox.new _ _ _
 have hwX : w.heap.size ≤ X := by omega
 obtain ⟨Y, hY⟩ : ∃ Y, X + 1 = Y := ⟨_, rfl⟩
 rw [hY] at bY
 obtain ⟨b, hb⟩ : ∃ b, bareD o = b := ⟨_, rfl⟩
 have HOK := Lib.hid (show ∀ p ∈ b.pcs, okStr p.put from by rw [← hb]; exact (bareD_ok (OpD.rd_ok hu)).pcs)
 have HE := Lib.hid hE1
 have HX := Lib.hid bX
 have HY := Lib.hid bY
 have HXY := Lib.hid (show X ≠ Y from by omega)
 have HwX := Lib.hid hwX
 have HwY := Lib.hid (show w.heap.size ≤ Y from by omega)
 have HW := Lib.hid hw1
 have HXX := Lib.hid hX
 have HYY := Lib.hid hY
 have q1 := bare50_any o _ w1 (OpD.rd_ext hE1 hu) h1.1 h1.2.1 h1.2.2
 rw [hb] at q1
 have HQ2 : Hid (∀ W, Ext w W → Calls Try.prog 50 #[.agg #[.int .u8 q.kind, .slice qA q.path.length qc, .int .i64 q.at_, .slice rA q.to.length rc, .int .u64 q.id, .bool q.leaf, .string q.label, .string q.key, .string q.value, .bool q.gone, .slice dA q.pcs.length dc]] W (fun e W' => Ext W W' ∧ ∃ u, e = .returned u ∧ OpO 49 W.heap.size W' b u)) := Lib.hid (fun W X => by
  have := bare50_any q _ W (OpD.rd_ext X hv) h2.1 h2.2.1 h2.2.2
  rw [← hoq, hb] at this
  exact this)
 clear hw1 hX s1 hE1 bX bY hwX hY hb hoq hu hv
 go_enter Try.func36, Try.ntmps36
 go_upto_region 1 with fail
 rw [HW.out, HXX.out]
 try rw [HYY.out]
 obtain ⟨g0, g1, g2, g3, g4, g5, g6, g7, g8, g9, g10⟩ := HX.out.c11
 go_wp2_with fail
 refine q1.mono ?_
 clear q1 g0 g1 g2 g3 g4 g5 g6 g7 g8 g9 g10
 rintro e w2 ⟨hE, u, rfl, hO⟩
 have HO0 := Lib.hid (hO.low HE.out.size)
 obtain ⟨iA, ic, jA, jc, kA, kc, rfl, -⟩ := hO
 have HE' := Lib.hid (HE.out.trans hE)
 have HX' := Lib.hid (HX.out.ext hE)
 have HY' := Lib.hid (HY.out.ext hE)
 clear hE
 replace HE := HE'; replace HX := HX'; replace HY := HY'
 clear HE' HX' HY'
 obtain ⟨k0, k1, k2, k3, k4, k5, k6, k7, k8, k9, k10⟩ := HX.out.c11
 obtain ⟨f0, f1, f2, f3, f4, f5, f6, f7, f8, f9, f10⟩ := HX.out.f11
 obtain ⟨w3, hw⟩ : ∃ W, (World.setCell (World.setCell (World.setCell (World.setCell (World.setCell (World.setCell (World.setCell (World.setCell (World.setCell (World.setCell (World.setCell w2 ⟨X, 0, none⟩ (.int .u8 b.kind)) ⟨X, 1, none⟩ (.slice iA b.path.length ic)) ⟨X, 2, none⟩ (.int .i64 b.at_)) ⟨X, 3, none⟩ (.slice jA b.to.length jc)) ⟨X, 4, none⟩ (.int .u64 b.id)) ⟨X, 5, none⟩ (.bool b.leaf)) ⟨X, 6, none⟩ (.string b.label)) ⟨X, 7, none⟩ (.string b.key)) ⟨X, 8, none⟩ (.string b.value)) ⟨X, 9, none⟩ (.bool b.gone)) ⟨X, 10, none⟩ (.slice kA b.pcs.length kc)) = W := ⟨_, rfl⟩
 have F : Fr w2 w3 (fun k => k = X) := by rw [← hw]; exact Fr.s11 _ _ _ _ _ _ _ _ _ _ _ _ _
 have HB := Lib.hid (show NBox w3 X 38 #[.int .u8 b.kind, .slice iA b.path.length ic, .int .i64 b.at_, .slice jA b.to.length jc, .int .u64 b.id, .bool b.leaf, .string b.label, .string b.key, .string b.value, .bool b.gone, .slice kA b.pcs.length kc] from by rw [← hw]; exact HX.out.s11 _ _ _ _ _ _ _ _ _ _ _)
 have HW := Lib.hid hw
 have HE' := Lib.hid (Fr.ext HE.out F (fun q hq => by rw [show q = X from hq]; exact HwX.out))
 have HO1 := Lib.hid (HO0.out.fr F HX.out (by decide) (by decide))
 have HY' := Lib.hid (HY.out.fr F (fun hh => HXY.out hh.symm))
 clear F hw HX HO0
 have HX := HB
 clear HB
 replace HE := HE'; replace HY := HY'
 clear HE' HY'
 go_upto_region 2 with fail
 rw [HW.out]
 clear HW k0 f0 k1 f1 k2 f2 k3 f3 k4 f4 k5 f5 k6 f6 k7 f7 k8 f8 k9 f9 k10 f10
 have q2 := HQ2.out w3 HE.out
 clear HQ2
 obtain ⟨g0, g1, g2, g3, g4, g5, g6, g7, g8, g9, g10⟩ := HY.out.c11
 go_wp2_with fail
 refine q2.mono ?_
 clear q2 g0 g1 g2 g3 g4 g5 g6 g7 g8 g9 g10
 rintro e w4 ⟨hE, u, rfl, hO⟩
 have HO0 := Lib.hid (hO.low HE.out.size)
 obtain ⟨lA, lc, mA, mc, nA, nc, rfl, -⟩ := hO
 have HE' := Lib.hid (HE.out.trans hE)
 have HX' := Lib.hid (HX.out.ext hE)
 have HY' := Lib.hid (HY.out.ext hE)
 have HO1' := Lib.hid (HO1.out.ext hE)
 clear hE
 replace HE := HE'; replace HX := HX'; replace HY := HY'; replace HO1 := HO1'
 clear HE' HX' HY' HO1'
 obtain ⟨k0, k1, k2, k3, k4, k5, k6, k7, k8, k9, k10⟩ := HY.out.c11
 obtain ⟨f0, f1, f2, f3, f4, f5, f6, f7, f8, f9, f10⟩ := HY.out.f11
 obtain ⟨w5, hw⟩ : ∃ W, (World.setCell (World.setCell (World.setCell (World.setCell (World.setCell (World.setCell (World.setCell (World.setCell (World.setCell (World.setCell (World.setCell w4 ⟨Y, 0, none⟩ (.int .u8 b.kind)) ⟨Y, 1, none⟩ (.slice lA b.path.length lc)) ⟨Y, 2, none⟩ (.int .i64 b.at_)) ⟨Y, 3, none⟩ (.slice mA b.to.length mc)) ⟨Y, 4, none⟩ (.int .u64 b.id)) ⟨Y, 5, none⟩ (.bool b.leaf)) ⟨Y, 6, none⟩ (.string b.label)) ⟨Y, 7, none⟩ (.string b.key)) ⟨Y, 8, none⟩ (.string b.value)) ⟨Y, 9, none⟩ (.bool b.gone)) ⟨Y, 10, none⟩ (.slice nA b.pcs.length nc)) = W := ⟨_, rfl⟩
 have F : Fr w4 w5 (fun k => k = Y) := by rw [← hw]; exact Fr.s11 _ _ _ _ _ _ _ _ _ _ _ _ _
 have HB := Lib.hid (show NBox w5 Y 38 #[.int .u8 b.kind, .slice lA b.path.length lc, .int .i64 b.at_, .slice mA b.to.length mc, .int .u64 b.id, .bool b.leaf, .string b.label, .string b.key, .string b.value, .bool b.gone, .slice nA b.pcs.length nc] from by rw [← hw]; exact HY.out.s11 _ _ _ _ _ _ _ _ _ _ _)
 have HW := Lib.hid hw
 have HE' := Lib.hid (Fr.ext HE.out F (fun q hq => by rw [show q = Y from hq]; exact HwY.out))
 have HO2 := Lib.hid (HO0.out.fr F HY.out (by decide) (by decide))
 have HX' := Lib.hid (HX.out.fr F HXY.out)
 have HO1' := Lib.hid (HO1.out.fr F HY.out (by decide) (by decide))
 clear F hw HY HO0
 have HY := HB
 clear HB
 replace HE := HE'; replace HX := HX'; replace HO1 := HO1'
 clear HE' HX' HO1'
 go_upto_region 3 with fail
 rw [HW.out]
 clear HW k0 f0 k1 f1 k2 f2 k3 f3 k4 f4 k5 f5 k6 f6 k7 f7 k8 f8 k9 f9 k10 f10
 have HR1 : Hid (∀ W, Ext w5 W → RdI W b.path (.slice iA b.path.length ic) ∧ RdI W b.to (.slice jA b.to.length jc) ∧ RdP W b.pcs (.slice kA b.pcs.length kc)) := Lib.hid (fun W X => by
  obtain ⟨_, _, _, _, _, _, he, k1, k2, k3⟩ := OpO.cells (HO1.out.ext X)
  simp only [Value.agg.injEq, Array.mk.injEq, List.cons.injEq, Value.slice.injEq, true_and, and_true] at he
  obtain ⟨⟨rfl, rfl⟩, ⟨rfl, rfl⟩, rfl, rfl⟩ := he
  exact ⟨k1, k2, k3 HOK.out⟩)
 have HR2 : Hid (∀ W, Ext w5 W → RdI W b.path (.slice lA b.path.length lc) ∧ RdI W b.to (.slice mA b.to.length mc) ∧ RdP W b.pcs (.slice nA b.pcs.length nc)) := Lib.hid (fun W X => by
  obtain ⟨_, _, _, _, _, _, he, k1, k2, k3⟩ := OpO.cells (HO2.out.ext X)
  simp only [Value.agg.injEq, Array.mk.injEq, List.cons.injEq, Value.slice.injEq, true_and, and_true] at he
  obtain ⟨⟨rfl, rfl⟩, ⟨rfl, rfl⟩, rfl, rfl⟩ := he
  exact ⟨k1, k2, k3 HOK.out⟩)
 clear HO1 HO2 HOK
 have HE5 := Lib.hid (Ext.refl w5)
 go_step
 dsimp only [List.append]
 have e0 : (b.kind == b.kind) = true := beq_self_eq_true _
 have e2 : (b.at_ == b.at_) = true := beq_self_eq_true _
 have e4 : (b.id == b.id) = true := beq_self_eq_true _
 have e5 : (b.leaf == b.leaf) = true := beq_self_eq_true _
 have e6 : (b.label.toList == b.label.toList) = true := beq_self_eq_true _
 have e7 : (b.key.toList == b.key.toList) = true := beq_self_eq_true _
 have e8 : (b.value.toList == b.value.toList) = true := beq_self_eq_true _
 have e9 : (b.gone == b.gone) = true := beq_self_eq_true _
 have q := sameR_any b.path b.path _ _ w5 (HR1.out w5 HE5.out).1 (HR2.out w5 HE5.out).1
 rw [decide_eq_true rfl] at q
 obtain ⟨g0, g1, g2, g3, g4, g5, g6, g7, g8, g9, g10⟩ := HX.out.c11
 obtain ⟨h0, h1, h2, h3, h4, h5, h6, h7, h8, h9, h10⟩ := HY.out.c11
 go_wp2_with fail
 refine q.mono ?_
 clear q g0 h0 g1 h1 g2 h2 g3 h3 g4 h4 g5 h5 g6 h6 g7 h7 g8 h8 g9 h9 g10 h10
 rintro e w6 ⟨r, rfl, rfl, hE⟩
 have HE' := Lib.hid (HE.out.trans hE)
 have HE5' := Lib.hid (HE5.out.trans hE)
 have HX' := Lib.hid (HX.out.ext hE)
 have HY' := Lib.hid (HY.out.ext hE)
 clear hE
 replace HE := HE'; replace HE5 := HE5'; replace HX := HX'; replace HY := HY'
 clear HE' HE5' HX' HY'
 have q := sameR_any b.to b.to _ _ w6 (HR1.out w6 HE5.out).2.1 (HR2.out w6 HE5.out).2.1
 rw [decide_eq_true rfl] at q
 obtain ⟨g0, g1, g2, g3, g4, g5, g6, g7, g8, g9, g10⟩ := HX.out.c11
 obtain ⟨h0, h1, h2, h3, h4, h5, h6, h7, h8, h9, h10⟩ := HY.out.c11
 go_wp2_with fail
 refine q.mono ?_
 clear q g0 h0 g1 h1 g2 h2 g3 h3 g4 h4 g5 h5 g6 h6 g7 h7 g8 h8 g9 h9 g10 h10
 rintro e w7 ⟨r, rfl, rfl, hE⟩
 have HE' := Lib.hid (HE.out.trans hE)
 have HE5' := Lib.hid (HE5.out.trans hE)
 have HX' := Lib.hid (HX.out.ext hE)
 have HY' := Lib.hid (HY.out.ext hE)
 clear hE
 replace HE := HE'; replace HE5 := HE5'; replace HX := HX'; replace HY := HY'
 clear HE' HE5' HX' HY'
 have q := samePcs_refl b.pcs _ _ w7 (HR1.out w7 HE5.out).2.2 (HR2.out w7 HE5.out).2.2
 obtain ⟨g0, g1, g2, g3, g4, g5, g6, g7, g8, g9, g10⟩ := HX.out.c11
 obtain ⟨h0, h1, h2, h3, h4, h5, h6, h7, h8, h9, h10⟩ := HY.out.c11
 go_wp2_with fail
 refine q.mono ?_
 clear q g0 h0 g1 h1 g2 h2 g3 h3 g4 h4 g5 h5 g6 h6 g7 h7 g8 h8 g9 h9 g10 h10
 rintro e w8 ⟨r, rfl, rfl, hE⟩
 have HE' := Lib.hid (HE.out.trans hE)
 have HE5' := Lib.hid (HE5.out.trans hE)
 have HX' := Lib.hid (HX.out.ext hE)
 have HY' := Lib.hid (HY.out.ext hE)
 clear hE
 replace HE := HE'; replace HE5 := HE5'; replace HX := HX'; replace HY := HY'
 clear HE' HE5' HX' HY'
 go_wp2_with fail
 go_ret
 exact ⟨_, rfl, rfl, HE.out⟩
theorem lsame_at {w : World} {l : List OpD} {A : Option Addr} {c : Nat} (h : RdL w l (.slice A l.length c)) {i : Nat} {o : OpD} (hi : l[i]? = some o) : ∃ b off pv tv cv, A = some ⟨b, off, none⟩ ∧ o.rd w (.agg #[.int .u8 o.kind, pv, .int .i64 o.at_, tv, .int .u64 o.id, .bool o.leaf, .string o.label, .string o.key, .string o.value, .bool o.gone, cv]) ∧
  w.cell? ⟨b, off + i * 11, none⟩ = some (.int .u8 o.kind) ∧ w.cell? ⟨b, off + i * 11 + 1, none⟩ = some pv ∧ w.cell? ⟨b, off + i * 11 + 2, none⟩ = some (.int .i64 o.at_) ∧ w.cell? ⟨b, off + i * 11 + 3, none⟩ = some tv ∧ w.cell? ⟨b, off + i * 11 + 4, none⟩ = some (.int .u64 o.id) ∧
  w.cell? ⟨b, off + i * 11 + 5, none⟩ = some (.bool o.leaf) ∧ w.cell? ⟨b, off + i * 11 + 6, none⟩ = some (.string o.label) ∧ w.cell? ⟨b, off + i * 11 + 7, none⟩ = some (.string o.key) ∧ w.cell? ⟨b, off + i * 11 + 8, none⟩ = some (.string o.value) ∧ w.cell? ⟨b, off + i * 11 + 9, none⟩ = some (.bool o.gone) ∧ w.cell? ⟨b, off + i * 11 + 10, none⟩ = some cv := by
 obtain ⟨A', c', he, h1, h2, h3⟩ := h
 cases he
 have hlt : i < l.length := (List.getElem?_eq_some_iff.1 hi).1
 obtain ⟨b, off, rfl, hr⟩ := h3 (by omega)
 obtain ⟨⟨pv, tv, cv, k0, k1, k2, k3, k4, k5, k6, k7, k8, k9, k10, k11⟩, -⟩ := rdOps_at hr hi
 exact ⟨b, off, pv, tv, cv, rfl, k11, k0, k1, k2, k3, k4, k5, k6, k7, k8, k9, k10⟩
def OkLen (o : OpD) : Prop := o.path.length ≤ 100000 ∧ o.to.length ≤ 100000 ∧ o.pcs.length ≤ 100000
set_option maxRecDepth 100000 in
set_option maxHeartbeats 4000000 in
theorem same13_ls (l : List OpD) (k : Int) (u v : Value) (w : World) (hu : RdL w l u) (hv : RdL w l v) (hl : ∀ o ∈ l, OkLen o) : Calls Try.prog 13 #[u, v, .int .i64 k, .int .i64 k] w (Ret w fun r _ => r = .bool true) := by
 have hk : (k != k) = false := by simp
 have hk2 : (k == k) = true := by simp
 obtain ⟨A, ac, rfl, a1, a2, -⟩ := id hu
 obtain ⟨B, bc, rfl, b1, b2, -⟩ := id hv
 have HU := Lib.hid hu
 have HV := Lib.hid hv
 have HL := Lib.hid hl
 unfold maxLen at a2 b2
 clear hu hv hl
 go_enter Try.func13, Try.ntmps13
 go_wp2_with fail
 clear hk hk2
 go_loopw [9] (fun s9 wr => ∃ i : Nat, s9 = .int .i64 (i : Int) ∧ i ≤ l.length ∧ Hid (Ext w wr)) (fun s9 _ => l.length - (intOf s9).toNat)
 case atStart => exact ⟨0, rfl, by omega, Lib.hid (Ext.refl w)⟩
 case round =>
  obtain ⟨i, rfl, hi, HE⟩ := hrel
  rcases Nat.lt_or_ge i l.length with hlt | hlt
  ·obtain ⟨o, ho⟩ : ∃ o, l[i]? = some o := ⟨_, List.getElem?_eq_getElem hlt⟩
   obtain ⟨ba, oa, pv, tv, cv, rfl, r1, c0, c1, c2, c3, c4, c5, c6, c7, c8, c9, c10⟩ := lsame_at (HU.out.ext HE.out) ho
   obtain ⟨bb, ob, qv, rv, dv, rfl, r2, d0, d1, d2, d3, d4, d5, d6, d7, d8, d9, d10⟩ := lsame_at (HV.out.ext HE.out) ho
   have hol := HL.out o (List.mem_of_getElem? ho)
   have hc := same36_eq o o _ _ wr.drew (OpD.rd_ext (Ext.refl _).drew r1) (OpD.rd_ext (Ext.refl _).drew r2) rfl hol hol
   obtain ⟨pA, pc, tA, tc, cA, cc, he⟩ := OpD.rd_cells r1
   simp only [Value.agg.injEq, Array.mk.injEq, List.cons.injEq, true_and, and_true] at he
   obtain ⟨rfl, rfl, rfl⟩ := he
   obtain ⟨qA, qc, rA, rc, dA, dc, he⟩ := OpD.rd_cells r2
   simp only [Value.agg.injEq, Array.mk.injEq, List.cons.injEq, true_and, and_true] at he
   obtain ⟨rfl, rfl, rfl⟩ := he
   have q1 : (0 : Int) ≤ (i : Int) := by omega
   have q2 : (i : Int) < (l.length : Int) := by omega
   clear r1 r2 ho hol
   go_wp2_with fail
   go_still_tail 8, (by kernel_rfl)
   change wpList _ _ _ _ _ wr.drew
   go_wp2_with fail
   refine hc.mono ?_
   clear hc c0 c1 c2 c3 c4 c5 c6 c7 c8 c9 c10 d0 d1 d2 d3 d4 d5 d6 d7 d8 d9 d10
   rintro e w4 ⟨r, rfl, rfl, hE5⟩
   go_wp2_with fail
   go_roundw
   case rel => exact ⟨i + 1, by go_num, by omega, Lib.hid (HE.out.drew.trans hE5)⟩
   case measure => simp [intOf]; omega
  ·go_wp2_with fail
   go_ret
   exact ⟨_, rfl, rfl, HE.out⟩
end Go.Proofs.Ytofcbclokkjfjaa.Wi
