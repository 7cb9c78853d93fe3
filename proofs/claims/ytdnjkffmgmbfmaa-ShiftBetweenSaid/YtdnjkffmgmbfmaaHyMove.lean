/- SyMove turned to this seat. (Printed by gport.py.) -/
import Derived.Test.YtdnjkffmgmbfmaaHyGrd
import Derived.Test.YtdnjkffmgmbfmaaHyMoveP
import Derived.Test.YtdnjkffmgmbfmaaHyNdPut
import Derived.Test.YtdnjkffmgmbfmaaHyWithout
import Derived.Test.YtdnjkffmgmbfmaaHyPutAt
import Derived.WalkKit
import Derived.Deep.Cut
import Derived.Deep.RegionHeld3
import Derived.StillTailTactics
import Derived.BigQuiet
import Derived.Deep.QuietTactic
import Derived.IntWalk
import Derived.Test.YtdnjkffmgmbfmaaProg
namespace Go.Proofs.Ytdnjkffmgmbfmaa.Sy
open Go.RowKit Go.Proofs.Ytdnjkffmgmbfmaa.Bw Go.Proofs.Ytdnjkffmgmbfmaa.Bs
theorem owns_cell {W : World} {base e g n cap : Nat} {xs : List Value} (h : W.ownsRow base e 1 (.slice (some ⟨g, 0, none⟩) n cap) n xs) {i : Nat} {u : Value} (hu : xs[i]? = some u) : W.cell? ⟨g, i, none⟩ = some u ∧ W.frozen? ⟨g, i, none⟩ = false := by
 refine ⟨by have := h.cells (g := g) rfl i u hu; rwa [Addr.add_lit, Nat.zero_add] at this, ?_⟩
 rcases h.2 with ⟨h1, _⟩ | ⟨g', cap', cur, hv, _, hg, _⟩
 ·cases h1
 ·simp only [Value.slice.injEq, Option.some.injEq, Addr.mk.injEq, true_and, and_true] at hv
  obtain ⟨rfl, rfl⟩ := hv
  simp [World.frozen?, hg]
/-- One of it, set. -/
theorem owns_setAt {W : World} {base e g n cap : Nat} {xs : List Value} (h : W.ownsRow base e 1 (.slice (some ⟨g, 0, none⟩) n cap) n xs) (i : Nat) (u : Value) : (W.setCell ⟨g, i, none⟩ u).ownsRow base e 1 (.slice (some ⟨g, 0, none⟩) n cap) n (xs.set i u) := by
 refine ⟨by simpa using h.1, ?_⟩
 rcases h.2 with ⟨h1, _⟩ | ⟨g', cap', cur, hv, hb, hg, h4, h5, h6, h7⟩
 ·cases h1
 ·have hv0 := hv
  simp only [Value.slice.injEq, Option.some.injEq, Addr.mk.injEq, true_and, and_true] at hv0
  obtain ⟨rfl, rfl⟩ := hv0
  refine .inr ⟨g, cap, cur.setIfInBounds i u, rfl, hb, ?_, h4, h5, by simpa using h6, ?_⟩
  ·simp [World.setCell, Array.getElem?_modify, hg]
  ·rw [Array.toList_setIfInBounds, List.take_set, h7]
theorem World.ownsRow_ext {W W2 : World} (h : Ext W W2) {b e s n : Nat} {v : Value} {xs : List Value} (k : W.ownsRow b e s v n xs) : W2.ownsRow b e s v n xs := owns_fr (Fr.of_ext h (fun _ => False)) k (fun _ _ h => h)
theorem owns_open {W : World} {b e n : Nat} {v : Value} {xs : List Value} (k : W.ownsRow b e 1 v n xs) (hn : 0 < n) : ∃ g cap, v = .slice (some ⟨g, 0, none⟩) n cap ∧ b ≤ g ∧ n ≤ cap ∧ cap ≤ maxLen := by
 rcases k.2 with ⟨-, h⟩ | ⟨g, cap, cur, h1, h2, -, h3, h4, -⟩
 ·omega
 ·exact ⟨g, cap, h1, h2, h3, h4⟩
set_option maxRecDepth 100000 in
set_option maxHeartbeats 16000000 in
/-- A move of a node that is there. -/
theorem move_late (t x y : Nd) (o : OpD) (v ov : Value) (wo w : World) (hWo : Wo wo w) (ht : t.rd wo v) (ho : o.rd w ov) (hx : t.at? o.path = some x) (hy : t.at? o.to = some y)
  (h0 : 0 ≤ o.at_) (h1 : o.at_ ≤ y.kids.length) (hnw : within o.path o.to = false) (hpl : o.path.length ≤ 1000) (htl : o.to.length ≤ 1000) (hpv : ∀ i ∈ o.path, 0 ≤ i ∧ i ≤ 1048576) (hwt : t.wt ≤ 400000) :
  Calls Try.prog 45 #[v, ov] w (Ret w fun r w' => LateN wo w w' (moveD t o) r) := by
 obtain ⟨uA, uc, uK, ud, rfl⟩ := rd_open6 ht
 obtain ⟨pA, pc, tA, tc, cA, cc, rfl, hrp, hrt, hrc⟩ := rdO_cells ho
 obtain ⟨w1, hw1⟩ : ∃ W, ((w.alloc (.cells #[.int .u64 t.id, .bool t.leaf, .string t.label, .slice uA t.attrs.length uc, .string t.text, .slice uK t.kids.length ud] 42)).alloc (.cells #[.int .u8 o.kind, .slice pA o.path.length pc, .int .i64 o.at_, .slice tA o.to.length tc, .int .u64 o.id, .bool o.leaf, .string o.label, .string o.key, .string o.value, .bool o.gone, .slice cA o.pcs.length cc] 26)).alloc (.cells #[.int .u64 0, .bool false, .string ⟨#[]⟩, .slice none 0 0, .string ⟨#[]⟩, .slice none 0 0] 42) = W := ⟨_, rfl⟩
 obtain ⟨B, hB⟩ : ∃ B, w.heap.size = B := ⟨_, rfl⟩
 have s1 : (w.alloc (.cells #[.int .u64 t.id, .bool t.leaf, .string t.label, .slice uA t.attrs.length uc, .string t.text, .slice uK t.kids.length ud] 42)).heap.size = B + 1 := by rw [World.size_alloc, hB]
 have s2 : ((w.alloc (.cells #[.int .u64 t.id, .bool t.leaf, .string t.label, .slice uA t.attrs.length uc, .string t.text, .slice uK t.kids.length ud] 42)).alloc (.cells #[.int .u8 o.kind, .slice pA o.path.length pc, .int .i64 o.at_, .slice tA o.to.length tc, .int .u64 o.id, .bool o.leaf, .string o.label, .string o.key, .string o.value, .bool o.gone, .slice cA o.pcs.length cc] 26)).heap.size = B + 1 + 1 := by rw [World.size_alloc, s1]
 have E1 : Ext w w1 := by rw [← hw1]; exact (((Ext.refl w).alloc _).alloc _).alloc _
 have HB0 := Lib.hid (show NBox w1 B 42 #[.int .u64 t.id, .bool t.leaf, .string t.label, .slice uA t.attrs.length uc, .string t.text, .slice uK t.kids.length ud] from by rw [← hw1, ← hB]; exact (NBox.new w 42 _).ext (((Ext.refl _).alloc _).alloc _))
 have HB1 := Lib.hid (show NBox w1 (B + 1) 26 #[.int .u8 o.kind, .slice pA o.path.length pc, .int .i64 o.at_, .slice tA o.to.length tc, .int .u64 o.id, .bool o.leaf, .string o.label, .string o.key, .string o.value, .bool o.gone, .slice cA o.pcs.length cc] from by rw [← hw1, ← s1]; exact (NBox.new _ 26 _).ext ((Ext.refl _).alloc _))
 have HB2 := Lib.hid (show NBox w1 (B + 1 + 1) 42 #[.int .u64 0, .bool false, .string ⟨#[]⟩, .slice none 0 0, .string ⟨#[]⟩, .slice none 0 0] from by rw [← hw1, ← s2]; exact NBox.new _ 42 _)
 have HG := Lib.hid ((GW.refl hWo).ext E1)
 have HE := Lib.hid E1
 have HW1 := Lib.hid hw1
 have HBB := Lib.hid hB
 have HT := Lib.hid ht
 have HP := Lib.hid hrp
 have HTO := Lib.hid hrt
 have HXA := Lib.hid hx
 have HYA := Lib.hid hy
 obtain ⟨i, hi⟩ : ∃ i : Nat, o.at_ = (i : Int) := ⟨o.at_.toNat, by omega⟩
 have hi2 : i ≤ y.kids.length := by omega
 have HI := Lib.hid hi
 have ykl : y.kids.length ≤ 1000000 := by
  have a1 := at_wt o.to hy
  have a2 := wtK_len y.kids
  have a3 := Nd.wt_eq y
  omega
 have HNW := Lib.hid hnw
 have HWO := Lib.hid hWo
 have hBo : wo.heap.size ≤ B := by rw [← hB]; exact hWo.size
 clear hw1 hB s1 s2 E1 hWo ht ho hrp hrt hrc hx hy hi hnw h0 h1
 go_enter Try.func45, Try.ntmps45
 go_upto_region 1 with fail
 rw [HW1.out, HBB.out]
 clear HW1
 have hc := rat_old t _ o.path _ wo w1 HG.out.now.sub HT.out (RdS.ext HE.out HP.out)
 obtain ⟨t0, t1, t2, t3, t4, t5⟩ := HB0.out.c6
 obtain ⟨k0, k1, k2, k3, k4, k5, k6, k7, k8, k9, k10⟩ := HB1.out.c11
 go_wp2_with fail
 refine hc.mono ?_
 clear hc t0 t1 t2 t3 t4 t5 k0 k1 k2 k3 k4 k5 k6 k7 k8 k9 k10
 rintro e w2 ⟨r, rfl, ⟨xv, rfl, hx⟩, E2⟩
 rw [HXA.out] at hx ⊢
 replace hx : x.rd wo xv := hx
 obtain ⟨xA, xc, xK, xd, rfl⟩ := rd_open6 hx
 have HX := Lib.hid hx
 replace HE := Lib.hid (HE.out.trans E2)
 replace HG := Lib.hid (HG.out.ext E2)
 replace HB0 := Lib.hid (HB0.out.ext E2)
 replace HB1 := Lib.hid (HB1.out.ext E2)
 replace HB2 := Lib.hid (HB2.out.ext E2)
 clear E2 hx
 obtain ⟨w3a, hwa⟩ : ∃ q, w2.alloc (.cells #[.int .u64 0, .bool false, .string ⟨#[]⟩, .slice none 0 0, .string ⟨#[]⟩, .slice none 0 0] 42) = q := ⟨_, rfl⟩
 obtain ⟨M, hM⟩ : ∃ q, w2.heap.size = q := ⟨_, rfl⟩
 have XA : Ext w2 w3a := by rw [← hwa]; exact (Ext.refl _).alloc _
 have bM : NBox w3a M 42 #[.int .u64 0, .bool false, .string ⟨#[]⟩, .slice none 0 0, .string ⟨#[]⟩, .slice none 0 0] := by rw [← hwa, ← hM]; exact NBox.new _ _ _
 obtain ⟨w3, hwn⟩ : ∃ q, (World.setCell (World.setCell (World.setCell (World.setCell (World.setCell (World.setCell w3a ⟨M, 0, none⟩ (.int .u64 x.id)) ⟨M, 1, none⟩ (.bool x.leaf)) ⟨M, 2, none⟩ (.string x.label)) ⟨M, 3, none⟩ (.slice xA x.attrs.length xc)) ⟨M, 4, none⟩ (.string x.text)) ⟨M, 5, none⟩ (.slice xK x.kids.length xd)) = q := ⟨_, rfl⟩
 have F8 : Fr w3a w3 (fun k => k = M) := by rw [← hwn]; exact Fr.six _ _ _ _ _ _ _ _
 have X8 : Ext w2 w3 := Fr.ext XA F8 (fun q hq => by rw [show q = M from hq, hM]; exact Nat.le_refl _)
 have HBM := Lib.hid (show NBox w3 M 42 #[.int .u64 x.id, .bool x.leaf, .string x.label, .slice xA x.attrs.length xc, .string x.text, .slice xK x.kids.length xd] from by rw [← hwn]; exact bM.six _ _ _ _ _ _)
 replace HE := Lib.hid (HE.out.trans X8)
 replace HG := Lib.hid (HG.out.ext X8)
 replace HB0 := Lib.hid (HB0.out.ext X8)
 replace HB1 := Lib.hid (HB1.out.ext X8)
 replace HB2 := Lib.hid (HB2.out.ext X8)
 have HWA := Lib.hid hwa
 have HMM := Lib.hid hM
 have HWN := Lib.hid hwn
 obtain ⟨y0, y1, y2, y3, y4, y5⟩ := bM.c6
 obtain ⟨z0_, z1_, z2_, z3_, z4_, z5_⟩ := bM.f6
 clear hwa hM hwn XA bM F8 X8
 go_upto_region 2 with (rw [HWA.out, HMM.out]; clear HWA)
 rw [HWN.out]
 clear HWN HMM y0 z0_ y1 z1_ y2 z2_ y3 z3_ y4 z4_ y5 z5_
 have hc := rat_old t _ o.to _ wo w3 HG.out.now.sub HT.out (RdS.ext HE.out HTO.out)
 obtain ⟨t0, t1, t2, t3, t4, t5⟩ := HB0.out.c6
 obtain ⟨k0, k1, k2, k3, k4, k5, k6, k7, k8, k9, k10⟩ := HB1.out.c11
 go_wp2_with fail
 refine hc.mono ?_
 clear hc t0 t1 t2 t3 t4 t5 k0 k1 k2 k3 k4 k5 k6 k7 k8 k9 k10
 rintro e w4 ⟨r, rfl, ⟨yv, rfl, hy⟩, E2⟩
 rw [HYA.out] at hy ⊢
 replace hy : y.rd wo yv := hy
 obtain ⟨yA, yc, yK, yd, rfl⟩ := rd_open6 hy
 have HY := Lib.hid hy
 replace HE := Lib.hid (HE.out.trans E2)
 replace HG := Lib.hid (HG.out.ext E2)
 replace HB0 := Lib.hid (HB0.out.ext E2)
 replace HB1 := Lib.hid (HB1.out.ext E2)
 replace HB2 := Lib.hid (HB2.out.ext E2)
 replace HBM := Lib.hid (HBM.out.ext E2)
 clear E2 hy
 obtain ⟨w5a, hwa⟩ : ∃ q, w4.alloc (.cells #[.int .u64 0, .bool false, .string ⟨#[]⟩, .slice none 0 0, .string ⟨#[]⟩, .slice none 0 0] 42) = q := ⟨_, rfl⟩
 obtain ⟨N, hM⟩ : ∃ q, w4.heap.size = q := ⟨_, rfl⟩
 have XA : Ext w4 w5a := by rw [← hwa]; exact (Ext.refl _).alloc _
 have bM : NBox w5a N 42 #[.int .u64 0, .bool false, .string ⟨#[]⟩, .slice none 0 0, .string ⟨#[]⟩, .slice none 0 0] := by rw [← hwa, ← hM]; exact NBox.new _ _ _
 obtain ⟨w5, hwn⟩ : ∃ q, (World.setCell (World.setCell (World.setCell (World.setCell (World.setCell (World.setCell w5a ⟨N, 0, none⟩ (.int .u64 y.id)) ⟨N, 1, none⟩ (.bool y.leaf)) ⟨N, 2, none⟩ (.string y.label)) ⟨N, 3, none⟩ (.slice yA y.attrs.length yc)) ⟨N, 4, none⟩ (.string y.text)) ⟨N, 5, none⟩ (.slice yK y.kids.length yd)) = q := ⟨_, rfl⟩
 have F8 : Fr w5a w5 (fun k => k = N) := by rw [← hwn]; exact Fr.six _ _ _ _ _ _ _ _
 have X8 : Ext w4 w5 := Fr.ext XA F8 (fun q hq => by rw [show q = N from hq, hM]; exact Nat.le_refl _)
 have HBN := Lib.hid (show NBox w5 N 42 #[.int .u64 y.id, .bool y.leaf, .string y.label, .slice yA y.attrs.length yc, .string y.text, .slice yK y.kids.length yd] from by rw [← hwn]; exact bM.six _ _ _ _ _ _)
 replace HE := Lib.hid (HE.out.trans X8)
 replace HG := Lib.hid (HG.out.ext X8)
 replace HB0 := Lib.hid (HB0.out.ext X8)
 replace HB1 := Lib.hid (HB1.out.ext X8)
 replace HB2 := Lib.hid (HB2.out.ext X8)
 replace HBM := Lib.hid (HBM.out.ext X8)
 have HWA := Lib.hid hwa
 have HMM := Lib.hid hM
 have HWN := Lib.hid hwn
 obtain ⟨y0, y1, y2, y3, y4, y5⟩ := bM.c6
 obtain ⟨z0_, z1_, z2_, z3_, z4_, z5_⟩ := bM.f6
 clear hwa hM hwn XA bM F8 X8
 go_upto_region 3 with (rw [HWA.out, HMM.out]; clear HWA)
 rw [HWN.out]
 clear HWN HMM y0 z0_ y1 z1_ y2 z2_ y3 z3_ y4 z4_ y5 z5_
 obtain ⟨m, hm⟩ : ∃ m, (t.put o.to (insD y i x)).getD Nd.zero = m := ⟨_, rfl⟩
 have HM := Lib.hid hm
 clear hm
 go_cut [9] from 9 to 41 (fun s9 wx => ∃ (P : Nat) (wg : World) (S : Nat → Prop) (mA : Option Addr) (mc : Nat) (mK : Option Addr) (md : Nat), s9 = .pointer (some ⟨P, 0, none⟩) ∧ Hid (Ext w wx) ∧ Hid (NBox wx (B + 1) 26 #[.int .u8 o.kind, .slice pA o.path.length pc, .int .i64 o.at_, .slice tA o.to.length tc, .int .u64 o.id, .bool o.leaf, .string o.label, .string o.key, .string o.value, .bool o.gone, .slice cA o.pcs.length cc]) ∧ Hid (NBox wx (B + 1 + 1) 42 #[.int .u64 0, .bool false, .string ⟨#[]⟩, .slice none 0 0, .string ⟨#[]⟩, .slice none 0 0]) ∧ Hid (NBox wx P 42 #[.int .u64 m.id, .bool m.leaf, .string m.label, .slice mA m.attrs.length mc, .string m.text, .slice mK m.kids.length md]) ∧ Hid (GW wo w wg wx S) ∧ Hid (S (B + 1 + 1)) ∧ Hid (m.rd wg (.agg #[.int .u64 m.id, .bool m.leaf, .string m.label, .slice mA m.attrs.length mc, .string m.text, .slice mK m.kids.length md])))
 case first =>
  obtain ⟨wd, hwd⟩ : ∃ d, w5.drew = d := ⟨_, rfl⟩
  have XD : Ext w5 wd := by rw [← hwd]; exact (Ext.refl w5).drew
  replace HE := Lib.hid (HE.out.trans XD)
  replace HG := Lib.hid (HG.out.ext XD)
  replace HB0 := Lib.hid (HB0.out.ext XD)
  replace HB1 := Lib.hid (HB1.out.ext XD)
  replace HB2 := Lib.hid (HB2.out.ext XD)
  replace HBM := Lib.hid (HBM.out.ext XD)
  replace HBN := Lib.hid (HBN.out.ext XD)
  have HS := Lib.hid (show (fun _ : Nat => True) (B + 1 + 1) from trivial)
  refine wp_region_held_drew (S := fun W => NBox W B 42 #[.int .u64 t.id, .bool t.leaf, .string t.label, .slice uA t.attrs.length uc, .string t.text, .slice uK t.kids.length ud] ∧ NBox W (B + 1) 26 #[.int .u8 o.kind, .slice pA o.path.length pc, .int .i64 o.at_, .slice tA o.to.length tc, .int .u64 o.id, .bool o.leaf, .string o.label, .string o.key, .string o.value, .bool o.gone, .slice cA o.pcs.length cc] ∧ NBox W M 42 #[.int .u64 x.id, .bool x.leaf, .string x.label, .slice xA x.attrs.length xc, .string x.text, .slice xK x.kids.length xd] ∧ NBox W N 42 #[.int .u64 y.id, .bool y.leaf, .string y.label, .slice yA y.attrs.length yc, .string y.text, .slice yK y.kids.length yd]) (by kernel_rfl) (by rw [hwd]; exact ⟨HB0.out, HB1.out, HBM.out, HBN.out⟩) (fun hHeld => ?_)
  rw [hwd] at hHeld ⊢
  clear hwd XD
  refine tk 0 ?_ rfl (.inl ⟨by rfl, ?_⟩) hHeld ?_
  rotate_left
  ·intro w hSw
   have fq := hSw
   obtain ⟨q0, q1, q2, q3⟩ := fq
   obtain ⟨e0, e1, e2, e3, e4, e5⟩ := q0.c6
   go_simp
   all_goals (first | with_reducible rfl | rw [if_pos (by omega)])
  try simp only [Act.put, aS]
  refine tk 1 ?_ rfl (.inl ⟨by rfl, ?_⟩) hHeld ?_
  rotate_left
  ·intro w hSw
   try dsimp only at hSw
   go_simp
   all_goals (first | with_reducible rfl | rw [if_pos (by omega)])
  try simp only [Act.put, aS]
  refine tk 2 ?_ rfl (.inl ⟨by rfl, ?_⟩) hHeld ?_
  rotate_left
  ·intro w hSw
   have fq := hSw
   obtain ⟨q0, q1, q2, q3⟩ := fq
   obtain ⟨e0, e1, e2, e3, e4, e5, e6, e7, e8, e9, e10⟩ := q1.c11
   go_simp
   all_goals (first | with_reducible rfl | rw [if_pos (by omega)])
  try simp only [Act.put, aS]
  refine tk 3 ?_ rfl (.inl ⟨by rfl, ?_⟩) hHeld ?_
  rotate_left
  ·intro w hSw
   have fq := hSw
   obtain ⟨q0, q1, q2, q3⟩ := fq
   obtain ⟨e0, e1, e2, e3, e4, e5⟩ := q3.c6
   go_simp
   all_goals (first | with_reducible rfl | rw [if_pos (by omega)])
  try simp only [Act.put, aS]
  refine tk 4 ?_ rfl (.inl ⟨by rfl, ?_⟩) hHeld ?_
  rotate_left
  ·intro w hSw
   try dsimp only at hSw
   go_simp
   all_goals (first | with_reducible rfl | rw [if_pos (by omega)])
  try simp only [Act.put, aS]
  refine tk 5 ?_ rfl (.inl ⟨by rfl, ?_⟩) hHeld ?_
  rotate_left
  ·intro w hSw
   have fq := hSw
   obtain ⟨q0, q1, q2, q3⟩ := fq
   obtain ⟨e0, e1, e2, e3, e4, e5, e6, e7, e8, e9, e10⟩ := q1.c11
   go_simp
   all_goals (first | with_reducible rfl | rw [if_pos (by omega)])
  try simp only [Act.put, aS]
  refine tk 6 ?_ rfl (.inl ⟨by rfl, ?_⟩) hHeld ?_
  rotate_left
  ·intro w hSw
   have fq := hSw
   obtain ⟨q0, q1, q2, q3⟩ := fq
   obtain ⟨e0, e1, e2, e3, e4, e5⟩ := q2.c6
   go_simp
   all_goals (first | with_reducible rfl | rw [if_pos (by omega)])
  try simp only [Act.put, aS]
  refine wpAnyH_ready (rs := [7, 9]) (by kernel_rfl) (by simp) ?_
  refine AllReadyH.cons (o := ⟨_, _, _, _, _, _⟩) rfl (fun K' hK => ?_) (AllReadyH.cons (o := ⟨_, _, _, _, _, _⟩) rfl (fun K' hK => ?_) (AllReadyH.nil))
  ·have hc := put72_late y x _ _ i wo wd HG.out.now HY.out HX.out hi2 ykl
   rw [← HI.out] at hc
   go_simp
   go_at_call 43
   refine hc.mono ?_
   clear hc
   rintro e v1 ⟨r, rfl, hL, hE⟩
   have HZ := Lib.hid (HG.out.got hE hL)
   obtain ⟨z, hz⟩ : ∃ z, insD y i x = z := ⟨_, rfl⟩
   rw [hz] at HZ
   have HZZ := Lib.hid hz
   obtain ⟨zA, zc, zK, zd, rfl⟩ := rd_open6 HZ.out
   have HT7 := Lib.hid (HG.out.rd_glue hE HT.out)
   replace HS := Lib.hid (HG.out.keep hE HS.out HB2.out.lt)
   replace HG := Lib.hid (HG.out.glue hE)
   replace HE := Lib.hid (HE.out.trans hE)
   replace HB0 := Lib.hid (HB0.out.ext hE)
   replace HB1 := Lib.hid (HB1.out.ext hE)
   replace HB2 := Lib.hid (HB2.out.ext hE)
   replace HBM := Lib.hid (HBM.out.ext hE)
   replace HBN := Lib.hid (HBN.out.ext hE)
   refine hK.out _ _ (show _ ∧ _ ∧ _ ∧ _ from ⟨hHeld.1.ext hE, hHeld.2.1.ext hE, hHeld.2.2.1.ext hE, hHeld.2.2.2.ext hE⟩) (fun hHeld => ?_)
   clear hK K' hE hL hz
   try simp only [Act.put, aS]
   refine wpAnyH_ready (rs := [8, 9]) (by kernel_rfl) (by simp) ?_
   refine AllReadyH.cons (o := ⟨_, _, _, _, _, _⟩) rfl (fun K' hK => ?_) (AllReadyH.cons (o := ⟨_, _, _, _, _, _⟩) rfl (fun K' hK => ?_) (AllReadyH.nil))
   ·have hc := change_late t z _ _ _ o.to _ v1 HG.out.now HT7.out HZ.out (RdS.ext HE.out HTO.out) (by omega)
    go_simp
    go_at_call 42
    refine hc.mono ?_
    clear hc
    rintro e v2 ⟨r, rfl, hL, hE⟩
    rw [← HZZ.out, HM.out] at hL
    have HMR := Lib.hid (HG.out.got hE hL)
    obtain ⟨mA, mc, mK, md, rfl⟩ := rd_open6 HMR.out
    replace HS := Lib.hid (HG.out.keep hE HS.out HB2.out.lt)
    replace HG := Lib.hid (HG.out.glue hE)
    replace HE := Lib.hid (HE.out.trans hE)
    replace HB0 := Lib.hid (HB0.out.ext hE)
    replace HB1 := Lib.hid (HB1.out.ext hE)
    replace HB2 := Lib.hid (HB2.out.ext hE)
    replace HBM := Lib.hid (HBM.out.ext hE)
    replace HBN := Lib.hid (HBN.out.ext hE)
    refine hK.out _ _ (show _ ∧ _ ∧ _ ∧ _ from ⟨hHeld.1.ext hE, hHeld.2.1.ext hE, hHeld.2.2.1.ext hE, hHeld.2.2.2.ext hE⟩) (fun hHeld => ?_)
    clear hK K' hE hL
    try simp only [Act.put, aS]
    refine wpAnyH_ready (rs := [9]) (by kernel_rfl) (by simp) ?_
    refine AllReadyH.cons (o := ⟨_, _, _, _, _, _⟩) rfl (fun K' hK => ?_) (AllReadyH.nil)
    go_simp
    obtain ⟨P, hP⟩ : ∃ b, v2.heap.size = b := ⟨_, rfl⟩
    have HSP := Lib.hid (HG.out.fresh P (by rw [← hP]; exact Nat.le_refl _))
    have HLP := Lib.hid (show B + 1 + 1 < P from by rw [← hP]; exact HB2.out.lt)
    have HPM := Lib.hid (show M ≠ P from by rw [← hP]; exact Nat.ne_of_lt HBM.out.lt)
    have HPN := Lib.hid (show N ≠ P from by rw [← hP]; exact Nat.ne_of_lt HBN.out.lt)
    have hE0 : Ext v2 (v2.alloc (.cells #[.int .u64 0, .bool false, .string ⟨#[]⟩, .slice none 0 0, .string ⟨#[]⟩, .slice none 0 0] 42)) := (Ext.refl _).alloc _
    refine hK.out _ _ (show _ ∧ _ ∧ _ ∧ _ from ⟨hHeld.1.ext hE0, hHeld.2.1.ext hE0, hHeld.2.2.1.ext hE0, hHeld.2.2.2.ext hE0⟩) (fun hHeld => ?_)
    clear hK K'
    try simp only [Act.put, aS]
    obtain ⟨v3, hd⟩ : ∃ d, v2.alloc (.cells #[.int .u64 0, .bool false, .string ⟨#[]⟩, .slice none 0 0, .string ⟨#[]⟩, .slice none 0 0] 42) = d := ⟨_, rfl⟩
    have HBP := Lib.hid (show NBox v3 P 42 #[.int .u64 0, .bool false, .string ⟨#[]⟩, .slice none 0 0, .string ⟨#[]⟩, .slice none 0 0] from by rw [← hd, ← hP]; exact NBox.new _ _ _)
    have hE : Ext v2 v3 := by rw [← hd]; exact hE0
    clear hE0
    replace HE := Lib.hid (HE.out.trans hE)
    replace HG := Lib.hid (HG.out.ext hE)
    replace HB0 := Lib.hid (HB0.out.ext hE)
    replace HB1 := Lib.hid (HB1.out.ext hE)
    replace HB2 := Lib.hid (HB2.out.ext hE)
    replace HBM := Lib.hid (HBM.out.ext hE)
    replace HBN := Lib.hid (HBN.out.ext hE)
    rw [hd] at hHeld ⊢
    rw [hP]
    clear hd hP hE
    refine wpAnyH_ready (rs := [10]) (by kernel_rfl) (by simp) ?_
    refine AllReadyH.cons (o := ⟨_, _, _, _, _, _⟩) rfl (fun K' hK => ?_) (AllReadyH.nil)
    obtain ⟨y0, y1, y2, y3, y4, y5⟩ := HBP.out.c6
    obtain ⟨z0, z1, z2, z3, z4, z5⟩ := HBP.out.f6
    go_simp
    have F9 := Fr.six v3 P (.int .u64 m.id) (.bool m.leaf) (.string m.label) (.slice mA m.attrs.length mc) (.string m.text) (.slice mK m.kids.length md)
    have HBP' := Lib.hid (HBP.out.six (.int .u64 m.id) (.bool m.leaf) (.string m.label) (.slice mA m.attrs.length mc) (.string m.text) (.slice mK m.kids.length md))
    have HBB' := HBB.out
    have hP0 : B + 1 + 1 < P := HLP.out
    have hPM : M ≠ P := HPM.out
    have hPN : N ≠ P := HPN.out
    have HG' := Lib.hid (HG.out.fr F9 (fun q hq => by rw [show q = P from hq]; exact ⟨HSP.out, by omega⟩))
    have HE' := Lib.hid (Fr.ext HE.out F9 (fun q hq => by rw [show q = P from hq, HBB']; omega))
    have HB1' := Lib.hid (HB1.out.fr F9 (show ¬ B + 1 = P by omega))
    have HB2' := Lib.hid (HB2.out.fr F9 (show ¬ B + 1 + 1 = P by omega))
    refine hK.out _ _ (show _ ∧ _ ∧ _ ∧ _ from ⟨hHeld.1.fr F9 (show ¬ B = P by omega), HB1'.out, hHeld.2.2.1.fr F9 hPM, hHeld.2.2.2.fr F9 hPN⟩) (fun hHeld => ?_)
    clear hK K' y0 z0 y1 z1 y2 z2 y3 z3 y4 z4 y5 z5
    try simp only [Act.put, aS]
    refine wpAnyH_done (by kernel_rfl) ?_ _
    clear hHeld
    go_wp2_with fail
    go_meet
    exact ⟨P, _, _, mA, mc, mK, md, rfl, HE', HB1', HB2', HBP', HG', HS, HMR⟩
   ·go_simp
    obtain ⟨P, hP⟩ : ∃ b, v1.heap.size = b := ⟨_, rfl⟩
    have HSP := Lib.hid (HG.out.fresh P (by rw [← hP]; exact Nat.le_refl _))
    have HLP := Lib.hid (show B + 1 + 1 < P from by rw [← hP]; exact HB2.out.lt)
    have HPM := Lib.hid (show M ≠ P from by rw [← hP]; exact Nat.ne_of_lt HBM.out.lt)
    have HPN := Lib.hid (show N ≠ P from by rw [← hP]; exact Nat.ne_of_lt HBN.out.lt)
    have hE0 : Ext v1 (v1.alloc (.cells #[.int .u64 0, .bool false, .string ⟨#[]⟩, .slice none 0 0, .string ⟨#[]⟩, .slice none 0 0] 42)) := (Ext.refl _).alloc _
    refine hK.out _ _ (show _ ∧ _ ∧ _ ∧ _ from ⟨hHeld.1.ext hE0, hHeld.2.1.ext hE0, hHeld.2.2.1.ext hE0, hHeld.2.2.2.ext hE0⟩) (fun hHeld => ?_)
    clear hK K'
    try simp only [Act.put, aS]
    obtain ⟨v4, hd⟩ : ∃ d, v1.alloc (.cells #[.int .u64 0, .bool false, .string ⟨#[]⟩, .slice none 0 0, .string ⟨#[]⟩, .slice none 0 0] 42) = d := ⟨_, rfl⟩
    have HBP := Lib.hid (show NBox v4 P 42 #[.int .u64 0, .bool false, .string ⟨#[]⟩, .slice none 0 0, .string ⟨#[]⟩, .slice none 0 0] from by rw [← hd, ← hP]; exact NBox.new _ _ _)
    have hE : Ext v1 v4 := by rw [← hd]; exact hE0
    clear hE0
    replace HE := Lib.hid (HE.out.trans hE)
    replace HG := Lib.hid (HG.out.ext hE)
    replace HB0 := Lib.hid (HB0.out.ext hE)
    replace HB1 := Lib.hid (HB1.out.ext hE)
    replace HB2 := Lib.hid (HB2.out.ext hE)
    replace HBM := Lib.hid (HBM.out.ext hE)
    replace HBN := Lib.hid (HBN.out.ext hE)
    rw [hd] at hHeld ⊢
    rw [hP]
    clear hd hP hE
    refine wpAnyH_ready (rs := [8]) (by kernel_rfl) (by simp) ?_
    refine AllReadyH.cons (o := ⟨_, _, _, _, _, _⟩) rfl (fun K' hK => ?_) (AllReadyH.nil)
    have hc := change_late t z _ _ _ o.to _ v4 HG.out.now HT7.out HZ.out (RdS.ext HE.out HTO.out) (by omega)
    go_simp
    go_at_call 42
    refine hc.mono ?_
    clear hc
    rintro e v5 ⟨r, rfl, hL, hE⟩
    rw [← HZZ.out, HM.out] at hL
    have HMR := Lib.hid (HG.out.got hE hL)
    obtain ⟨mA, mc, mK, md, rfl⟩ := rd_open6 HMR.out
    replace HS := Lib.hid (HG.out.keep hE HS.out HB2.out.lt)
    replace HSP := Lib.hid (HG.out.keep hE HSP.out HBP.out.lt)
    replace HG := Lib.hid (HG.out.glue hE)
    replace HE := Lib.hid (HE.out.trans hE)
    replace HB0 := Lib.hid (HB0.out.ext hE)
    replace HB1 := Lib.hid (HB1.out.ext hE)
    replace HB2 := Lib.hid (HB2.out.ext hE)
    replace HBM := Lib.hid (HBM.out.ext hE)
    replace HBN := Lib.hid (HBN.out.ext hE)
    replace HBP := Lib.hid (HBP.out.ext hE)
    refine hK.out _ _ (show _ ∧ _ ∧ _ ∧ _ from ⟨hHeld.1.ext hE, hHeld.2.1.ext hE, hHeld.2.2.1.ext hE, hHeld.2.2.2.ext hE⟩) (fun hHeld => ?_)
    clear hK K' hE hL
    try simp only [Act.put, aS]
    refine wpAnyH_ready (rs := [10]) (by kernel_rfl) (by simp) ?_
    refine AllReadyH.cons (o := ⟨_, _, _, _, _, _⟩) rfl (fun K' hK => ?_) (AllReadyH.nil)
    obtain ⟨y0, y1, y2, y3, y4, y5⟩ := HBP.out.c6
    obtain ⟨z0, z1, z2, z3, z4, z5⟩ := HBP.out.f6
    go_simp
    have F9 := Fr.six v5 P (.int .u64 m.id) (.bool m.leaf) (.string m.label) (.slice mA m.attrs.length mc) (.string m.text) (.slice mK m.kids.length md)
    have HBP' := Lib.hid (HBP.out.six (.int .u64 m.id) (.bool m.leaf) (.string m.label) (.slice mA m.attrs.length mc) (.string m.text) (.slice mK m.kids.length md))
    have HBB' := HBB.out
    have hP0 : B + 1 + 1 < P := HLP.out
    have hPM : M ≠ P := HPM.out
    have hPN : N ≠ P := HPN.out
    have HG' := Lib.hid (HG.out.fr F9 (fun q hq => by rw [show q = P from hq]; exact ⟨HSP.out, by omega⟩))
    have HE' := Lib.hid (Fr.ext HE.out F9 (fun q hq => by rw [show q = P from hq, HBB']; omega))
    have HB1' := Lib.hid (HB1.out.fr F9 (show ¬ B + 1 = P by omega))
    have HB2' := Lib.hid (HB2.out.fr F9 (show ¬ B + 1 + 1 = P by omega))
    refine hK.out _ _ (show _ ∧ _ ∧ _ ∧ _ from ⟨hHeld.1.fr F9 (show ¬ B = P by omega), HB1'.out, hHeld.2.2.1.fr F9 hPM, hHeld.2.2.2.fr F9 hPN⟩) (fun hHeld => ?_)
    clear hK K' y0 z0 y1 z1 y2 z2 y3 z3 y4 z4 y5 z5
    try simp only [Act.put, aS]
    refine wpAnyH_done (by kernel_rfl) ?_ _
    clear hHeld
    go_wp2_with fail
    go_meet
    exact ⟨P, _, _, mA, mc, mK, md, rfl, HE', HB1', HB2', HBP', HG', HS, HMR⟩
  ·go_simp
   obtain ⟨P, hP⟩ : ∃ b, wd.heap.size = b := ⟨_, rfl⟩
   have HSP := Lib.hid (HG.out.fresh P (by rw [← hP]; exact Nat.le_refl _))
   have HLP := Lib.hid (show B + 1 + 1 < P from by rw [← hP]; exact HB2.out.lt)
   have HPM := Lib.hid (show M ≠ P from by rw [← hP]; exact Nat.ne_of_lt HBM.out.lt)
   have HPN := Lib.hid (show N ≠ P from by rw [← hP]; exact Nat.ne_of_lt HBN.out.lt)
   have hE0 : Ext wd (wd.alloc (.cells #[.int .u64 0, .bool false, .string ⟨#[]⟩, .slice none 0 0, .string ⟨#[]⟩, .slice none 0 0] 42)) := (Ext.refl _).alloc _
   refine hK.out _ _ (show _ ∧ _ ∧ _ ∧ _ from ⟨hHeld.1.ext hE0, hHeld.2.1.ext hE0, hHeld.2.2.1.ext hE0, hHeld.2.2.2.ext hE0⟩) (fun hHeld => ?_)
   clear hK K'
   try simp only [Act.put, aS]
   obtain ⟨v6, hd⟩ : ∃ d, wd.alloc (.cells #[.int .u64 0, .bool false, .string ⟨#[]⟩, .slice none 0 0, .string ⟨#[]⟩, .slice none 0 0] 42) = d := ⟨_, rfl⟩
   have HBP := Lib.hid (show NBox v6 P 42 #[.int .u64 0, .bool false, .string ⟨#[]⟩, .slice none 0 0, .string ⟨#[]⟩, .slice none 0 0] from by rw [← hd, ← hP]; exact NBox.new _ _ _)
   have hE : Ext wd v6 := by rw [← hd]; exact hE0
   clear hE0
   replace HE := Lib.hid (HE.out.trans hE)
   replace HG := Lib.hid (HG.out.ext hE)
   replace HB0 := Lib.hid (HB0.out.ext hE)
   replace HB1 := Lib.hid (HB1.out.ext hE)
   replace HB2 := Lib.hid (HB2.out.ext hE)
   replace HBM := Lib.hid (HBM.out.ext hE)
   replace HBN := Lib.hid (HBN.out.ext hE)
   rw [hd] at hHeld ⊢
   rw [hP]
   clear hd hP hE
   refine wpAnyH_ready (rs := [7]) (by kernel_rfl) (by simp) ?_
   refine AllReadyH.cons (o := ⟨_, _, _, _, _, _⟩) rfl (fun K' hK => ?_) (AllReadyH.nil)
   have hc := put72_late y x _ _ i wo v6 HG.out.now HY.out HX.out hi2 ykl
   rw [← HI.out] at hc
   go_simp
   go_at_call 43
   refine hc.mono ?_
   clear hc
   rintro e v7 ⟨r, rfl, hL, hE⟩
   have HZ := Lib.hid (HG.out.got hE hL)
   obtain ⟨z, hz⟩ : ∃ z, insD y i x = z := ⟨_, rfl⟩
   rw [hz] at HZ
   have HZZ := Lib.hid hz
   obtain ⟨zA, zc, zK, zd, rfl⟩ := rd_open6 HZ.out
   have HT7 := Lib.hid (HG.out.rd_glue hE HT.out)
   replace HS := Lib.hid (HG.out.keep hE HS.out HB2.out.lt)
   replace HSP := Lib.hid (HG.out.keep hE HSP.out HBP.out.lt)
   replace HG := Lib.hid (HG.out.glue hE)
   replace HE := Lib.hid (HE.out.trans hE)
   replace HB0 := Lib.hid (HB0.out.ext hE)
   replace HB1 := Lib.hid (HB1.out.ext hE)
   replace HB2 := Lib.hid (HB2.out.ext hE)
   replace HBM := Lib.hid (HBM.out.ext hE)
   replace HBN := Lib.hid (HBN.out.ext hE)
   replace HBP := Lib.hid (HBP.out.ext hE)
   refine hK.out _ _ (show _ ∧ _ ∧ _ ∧ _ from ⟨hHeld.1.ext hE, hHeld.2.1.ext hE, hHeld.2.2.1.ext hE, hHeld.2.2.2.ext hE⟩) (fun hHeld => ?_)
   clear hK K' hE hL hz
   try simp only [Act.put, aS]
   refine wpAnyH_ready (rs := [8]) (by kernel_rfl) (by simp) ?_
   refine AllReadyH.cons (o := ⟨_, _, _, _, _, _⟩) rfl (fun K' hK => ?_) (AllReadyH.nil)
   have hc := change_late t z _ _ _ o.to _ v7 HG.out.now HT7.out HZ.out (RdS.ext HE.out HTO.out) (by omega)
   go_simp
   go_at_call 42
   refine hc.mono ?_
   clear hc
   rintro e v8 ⟨r, rfl, hL, hE⟩
   rw [← HZZ.out, HM.out] at hL
   have HMR := Lib.hid (HG.out.got hE hL)
   obtain ⟨mA, mc, mK, md, rfl⟩ := rd_open6 HMR.out
   replace HS := Lib.hid (HG.out.keep hE HS.out HB2.out.lt)
   replace HSP := Lib.hid (HG.out.keep hE HSP.out HBP.out.lt)
   replace HG := Lib.hid (HG.out.glue hE)
   replace HE := Lib.hid (HE.out.trans hE)
   replace HB0 := Lib.hid (HB0.out.ext hE)
   replace HB1 := Lib.hid (HB1.out.ext hE)
   replace HB2 := Lib.hid (HB2.out.ext hE)
   replace HBM := Lib.hid (HBM.out.ext hE)
   replace HBN := Lib.hid (HBN.out.ext hE)
   replace HBP := Lib.hid (HBP.out.ext hE)
   refine hK.out _ _ (show _ ∧ _ ∧ _ ∧ _ from ⟨hHeld.1.ext hE, hHeld.2.1.ext hE, hHeld.2.2.1.ext hE, hHeld.2.2.2.ext hE⟩) (fun hHeld => ?_)
   clear hK K' hE hL
   try simp only [Act.put, aS]
   refine wpAnyH_ready (rs := [10]) (by kernel_rfl) (by simp) ?_
   refine AllReadyH.cons (o := ⟨_, _, _, _, _, _⟩) rfl (fun K' hK => ?_) (AllReadyH.nil)
   obtain ⟨y0, y1, y2, y3, y4, y5⟩ := HBP.out.c6
   obtain ⟨z0, z1, z2, z3, z4, z5⟩ := HBP.out.f6
   go_simp
   have F9 := Fr.six v8 P (.int .u64 m.id) (.bool m.leaf) (.string m.label) (.slice mA m.attrs.length mc) (.string m.text) (.slice mK m.kids.length md)
   have HBP' := Lib.hid (HBP.out.six (.int .u64 m.id) (.bool m.leaf) (.string m.label) (.slice mA m.attrs.length mc) (.string m.text) (.slice mK m.kids.length md))
   have HBB' := HBB.out
   have hP0 : B + 1 + 1 < P := HLP.out
   have hPM : M ≠ P := HPM.out
   have hPN : N ≠ P := HPN.out
   have HG' := Lib.hid (HG.out.fr F9 (fun q hq => by rw [show q = P from hq]; exact ⟨HSP.out, by omega⟩))
   have HE' := Lib.hid (Fr.ext HE.out F9 (fun q hq => by rw [show q = P from hq, HBB']; omega))
   have HB1' := Lib.hid (HB1.out.fr F9 (show ¬ B + 1 = P by omega))
   have HB2' := Lib.hid (HB2.out.fr F9 (show ¬ B + 1 + 1 = P by omega))
   refine hK.out _ _ (show _ ∧ _ ∧ _ ∧ _ from ⟨hHeld.1.fr F9 (show ¬ B = P by omega), HB1'.out, hHeld.2.2.1.fr F9 hPM, hHeld.2.2.2.fr F9 hPN⟩) (fun hHeld => ?_)
   clear hK K' y0 z0 y1 z1 y2 z2 y3 z3 y4 z4 y5 z5
   try simp only [Act.put, aS]
   refine wpAnyH_done (by kernel_rfl) ?_ _
   clear hHeld
   go_wp2_with fail
   go_meet
   exact ⟨P, _, _, mA, mc, mK, md, rfl, HE', HB1', HB2', HBP', HG', HS, HMR⟩
 case rest =>
  obtain ⟨P, wg, S, mA, mc, mK, md, rfl, HE', HB1', HB2', HBP, HG', HS, HMR⟩ := hcut
  clear HE HB0 HB1 HB2 HBM HBN HG
  have HE := HE'
  have HB1 := HB1'
  have HB2 := HB2'
  have HG := HG'
  clear HE' HB1' HB2' HG' HX HY HWO HT
  have HFH := Lib.hid HG.out.fresh
  have HPL := Lib.hid HBP.out.lt
  have HRL := Lib.hid HB2.out.lt
  obtain ⟨f1, f2, f3, f4⟩ := move_from HXA.out HYA.out HI.out hi2 HNW.out HM.out
  have hmw : m.wt ≤ 1000000 := by
   have := at_wt _ HXA.out
   omega
  obtain ⟨k, z, hk, hz, hkx, hwd, -⟩ := without_is f1 f2
  have hkl := (List.getElem?_eq_some_iff.1 hkx).1
  have hzl : z.kids.length ≤ 1000000 := by
   have a1 := at_wt _ hz
   have a2 := wtK_len z.kids
   have a3 := Nd.wt_eq z
   omega
  have HF1 := Lib.hid f1
  have HK := Lib.hid hk
  have HZA := Lib.hid hz
  have HWD := Lib.hid (f4.trans hwd)
  have HKL := Lib.hid hkl
  have hpos : 0 < o.path.length := by
   have := sh_len o.to o.at_ o.path
   rw [← from_sh] at this
   have := List.length_pos_iff.2 f1
   omega
  clear f1 f2 f3 f4 hk hz hkx hwd hkl
  have hc := copied_any o.path _ wc (RdS.ext HE.out HP.out) (by omega)
  obtain ⟨k0, k1, k2, k3, k4, k5, k6, k7, k8, k9, k10⟩ := HB1.out.c11
  go_wp2_with fail
  refine hc.mono ?_
  clear hc
  rintro e w7 ⟨r, rfl, hO, E2⟩
  replace HE := Lib.hid (HE.out.trans E2)
  replace HG := Lib.hid (HG.out.ext E2)
  replace HB1 := Lib.hid (HB1.out.ext E2)
  replace HB2 := Lib.hid (HB2.out.ext E2)
  replace HBP := Lib.hid (HBP.out.ext E2)
  obtain ⟨g, cap, rfl, hgb, hc1, hc2⟩ := owns_open hO hpos
  unfold maxLen at hc2
  have HO := Lib.hid hO
  have HGB := Lib.hid hgb
  have HSZ := Lib.hid E2.size
  clear E2 hO hgb k0 k1 k2 k3 k4 k5 k6 k7 k8 k9 k10
  obtain ⟨fr, hfr⟩ : ∃ fr, fromD o = fr := ⟨_, rfl⟩
  have HFR := Lib.hid hfr
  obtain ⟨k0, k1, k2, k3, k4, k5, k6, k7, k8, k9, k10⟩ := HB1.out.c11
  go_upto_region 6 with fail
  clear hfr k0 k1 k2 k3 k4 k5 k6 k7 k8 k9 k10
  have HFL := Lib.hid (show fr.length = o.path.length from by rw [← HFR.out, from_sh, sh_len])
  rw [HFR.out] at HF1 HK HZA HWD
  rcases Nat.lt_or_ge o.to.length o.path.length with hA | hA
  ·rcases hwi : within o.to o.path with _ | _
   ·have HQ : Hid (fr = o.path) := Lib.hid (by rw [← HFR.out, from_sh]; unfold shP; rw [if_neg (by rw [hwi]; simp)])
    have d1 : decide ((o.to.length : Int) < (o.path.length : Int)) = true := decide_eq_true (by omega)
    obtain ⟨wd, hwd⟩ : ∃ d, w7.drew = d := ⟨_, rfl⟩
    have XD : Ext w7 wd := by rw [← hwd]; exact (Ext.refl w7).drew
    replace HE := Lib.hid (HE.out.trans XD)
    replace HG := Lib.hid (HG.out.ext XD)
    replace HB1 := Lib.hid (HB1.out.ext XD)
    replace HB2 := Lib.hid (HB2.out.ext XD)
    replace HBP := Lib.hid (HBP.out.ext XD)
    replace HO := Lib.hid (World.ownsRow_ext XD HO.out)
    refine wp_region_held_drew (S := fun W => NBox W (B + 1) 26 #[.int .u8 o.kind, .slice pA o.path.length pc, .int .i64 o.at_, .slice tA o.to.length tc, .int .u64 o.id, .bool o.leaf, .string o.label, .string o.key, .string o.value, .bool o.gone, .slice cA o.pcs.length cc] ∧ W.ownsRow wc.heap.size 3 1 (.slice (some ⟨g, 0, none⟩) o.path.length cap) o.path.length (o.path.map (Value.int .i64))) (by kernel_rfl) (by rw [hwd]; exact ⟨HB1.out, HO.out⟩) (fun hHeld => ?_)
    rw [hwd] at hHeld ⊢
    clear hwd
    refine tk 0 ?_ rfl (.inl ⟨by rfl, ?_⟩) hHeld ?_
    rotate_left
    ·intro w hSw
     try dsimp only at hSw
     go_simp
     all_goals (first | with_reducible rfl | rw [if_pos (by omega)])
    try simp only [Act.put, aS]
    refine tk 2 ?_ rfl (.inl ⟨by rfl, ?_⟩) hHeld ?_
    rotate_left
    ·intro w hSw
     try dsimp only at hSw
     go_simp
     all_goals (first | with_reducible rfl | rw [if_pos (by omega)])
    try simp only [Act.put, aS]
    refine tk 1 ?_ rfl (.inl ⟨by rfl, ?_⟩) hHeld ?_
    rotate_left
    ·intro w hSw
     try dsimp only at hSw
     go_simp
     all_goals (first | with_reducible rfl | rw [if_pos (by omega)])
    try simp only [Act.put, aS]
    refine tk 3 ?_ rfl (.inl ⟨by rfl, ?_⟩) hHeld ?_
    rotate_left
    ·intro w hSw
     try dsimp only at hSw
     go_simp
     all_goals (first | with_reducible rfl | rw [if_pos (by omega)])
    try simp only [Act.put, aS]
    refine tk 4 ?_ rfl (.inl ⟨by rfl, ?_⟩) hHeld ?_
    rotate_left
    ·intro w hSw
     try dsimp only at hSw
     go_simp
     all_goals (first | with_reducible rfl | rw [if_pos (by omega)])
    try simp only [Act.put, aS]
    refine tk 5 ?_ rfl (.inl ⟨by rfl, ?_⟩) hHeld ?_
    rotate_left
    ·intro w hSw
     try dsimp only at hSw
     go_simp
     all_goals (first | with_reducible rfl | rw [if_pos (by omega)])
    try simp only [Act.put, aS]
    refine tk 6 ?_ rfl (.inl ⟨by rfl, ?_⟩) hHeld ?_
    rotate_left
    ·intro w hSw
     have fq := hSw
     obtain ⟨q0, q1⟩ := fq
     obtain ⟨e0, e1, e2, e3, e4, e5, e6, e7, e8, e9, e10⟩ := q0.c11
     go_simp
     all_goals (first | with_reducible rfl | rw [if_pos (by omega)])
    try simp only [Act.put, aS]
    refine tk 7 ?_ rfl (.inl ⟨by rfl, ?_⟩) hHeld ?_
    rotate_left
    ·intro w hSw
     try dsimp only at hSw
     go_simp
     all_goals (first | with_reducible rfl | rw [if_pos (by omega)])
    try simp only [Act.put, aS]
    have hc := withinR_any o.to o.path _ _ wd (RdS.ext HE.out HTO.out) (RdS.of_owns HO.out)
    refine wpAnyH_ready (rs := [8]) (by kernel_rfl) (by simp) ?_
    refine AllReadyH.cons (o := ⟨_, _, _, _, _, _⟩) rfl (fun K' hK => ?_) (AllReadyH.nil)
    go_simp
    go_at_call 55
    refine hc.mono ?_
    clear hc
    rintro e w8 ⟨r, rfl, rfl, hE⟩
    replace HE := Lib.hid (HE.out.trans hE)
    replace HG := Lib.hid (HG.out.ext hE)
    replace HB1 := Lib.hid (HB1.out.ext hE)
    replace HB2 := Lib.hid (HB2.out.ext hE)
    replace HBP := Lib.hid (HBP.out.ext hE)
    replace HO := Lib.hid (World.ownsRow_ext hE HO.out)
    refine hK.out _ _ (show _ ∧ _ from ⟨hHeld.1.ext hE, World.ownsRow_ext hE hHeld.2⟩) (fun hHeld => ?_)
    clear hK K' hE
    try simp only [Act.put, aS]
    rw [hwi]
    refine tk 9 ?_ rfl (.inl ⟨by rfl, ?_⟩) hHeld ?_
    rotate_left
    ·intro w hSw
     try dsimp only at hSw
     go_simp
     all_goals (first | with_reducible rfl | rw [if_pos (by omega)])
    try simp only [Act.put, aS]
    refine tk 10 ?_ rfl (.inl ⟨by rfl, ?_⟩) hHeld ?_
    rotate_left
    ·intro w hSw
     try dsimp only at hSw
     go_simp
     all_goals (first | with_reducible rfl | rw [if_pos (by omega)])
    try simp only [Act.put, aS]
    refine wpAnyH_take (i := 11) (oi := ⟨_, _, _, _, _, _⟩) (v := undef) rfl (by kernel_rfl) (by kernel_rfl) (by kernel_rfl) (fun _ _ _ h => h) (Or.inr ⟨by rfl, by rfl⟩) hHeld ?_
    try simp only [Act.put, aS]
    refine wpAnyH_take (i := 12) (oi := ⟨_, _, _, _, _, _⟩) (v := undef) rfl (by kernel_rfl) (by kernel_rfl) (by kernel_rfl) (fun _ _ _ h => h) (Or.inr ⟨by rfl, by rfl⟩) hHeld ?_
    try simp only [Act.put, aS]
    refine wpAnyH_take (i := 13) (oi := ⟨_, _, _, _, _, _⟩) (v := undef) rfl (by kernel_rfl) (by kernel_rfl) (by kernel_rfl) (fun _ _ _ h => h) (Or.inr ⟨by rfl, by rfl⟩) hHeld ?_
    try simp only [Act.put, aS]
    refine wpAnyH_take (i := 14) (oi := ⟨_, _, _, _, _, _⟩) (v := undef) rfl (by kernel_rfl) (by kernel_rfl) (by kernel_rfl) (fun _ _ _ h => h) (Or.inr ⟨by rfl, by rfl⟩) hHeld ?_
    try simp only [Act.put, aS]
    refine wpAnyH_take (i := 15) (oi := ⟨_, _, _, _, _, _⟩) (v := undef) rfl (by kernel_rfl) (by kernel_rfl) (by kernel_rfl) (fun _ _ _ h => h) (Or.inr ⟨by rfl, by rfl⟩) hHeld ?_
    try simp only [Act.put, aS]
    refine wpAnyH_take (i := 16) (oi := ⟨_, _, _, _, _, _⟩) (v := undef) rfl (by kernel_rfl) (by kernel_rfl) (by kernel_rfl) (fun _ _ _ h => h) (Or.inr ⟨by rfl, by rfl⟩) hHeld ?_
    try simp only [Act.put, aS]
    refine wpAnyH_take (i := 17) (oi := ⟨_, _, _, _, _, _⟩) (v := undef) rfl (by kernel_rfl) (by kernel_rfl) (by kernel_rfl) (fun _ _ _ h => h) (Or.inr ⟨by rfl, by rfl⟩) hHeld ?_
    try simp only [Act.put, aS]
    refine tk 18 ?_ rfl (.inl ⟨by rfl, ?_⟩) hHeld ?_
    rotate_left
    ·intro w hSw
     try dsimp only at hSw
     go_simp
     all_goals (first | with_reducible rfl | rw [if_pos (by omega)])
    try simp only [Act.put, aS]
    refine wpAnyH_done (by kernel_rfl) ?_ _
    clear hHeld
    have RDI : RdI w8 fr (.slice (some ⟨g, 0, none⟩) o.path.length cap) := by rw [HQ.out]; exact RdS.of_owns HO.out
    have hc := without_late m z _ _ fr k wg w8 HG.out.now HMR.out RDI HF1.out HZA.out HK.out HKL.out (by rw [HFL.out]; omega) hmw hzl
    obtain ⟨y0, y1, y2, y3, y4, y5⟩ := HBP.out.c6
    go_wp2_with fail
    refine hc.mono ?_
    clear hc y0 y1 y2 y3 y4 y5
    rintro e w9 ⟨r, rfl, hL, hE⟩
    have HZR := Lib.hid (HG.out.got hE hL)
    rw [← HWD.out] at HZR
    obtain ⟨n, hn⟩ : ∃ n, moveD t o = n := ⟨_, rfl⟩
    rw [hn] at HZR
    have HNN := Lib.hid hn
    obtain ⟨nA, nc, nK, nd, rfl⟩ := rd_open6 HZR.out
    have HS' := Lib.hid (HG.out.keep hE HS.out HB2.out.lt)
    clear HS
    replace HG := Lib.hid (HG.out.glue hE)
    replace HE := Lib.hid (HE.out.trans hE)
    replace HB2 := Lib.hid (HB2.out.ext hE)
    clear hE hL hn
    obtain ⟨y0, y1, y2, y3, y4, y5⟩ := HB2.out.c6
    obtain ⟨z0, z1, z2, z3, z4, z5⟩ := HB2.out.f6
    have F9 := Fr.six w9 (B + 1 + 1) (.int .u64 n.id) (.bool n.leaf) (.string n.label) (.slice nA n.attrs.length nc) (.string n.text) (.slice nK n.kids.length nd)
    have HB9 := Lib.hid (HB2.out.six (.int .u64 n.id) (.bool n.leaf) (.string n.label) (.slice nA n.attrs.length nc) (.string n.text) (.slice nK n.kids.length nd))
    have hBB := HBB.out
    have HF9 := Lib.hid F9
    have HG9 := Lib.hid (HG.out.fr F9 (fun q hq => by rw [show q = B + 1 + 1 from hq]; exact ⟨HS'.out, by omega⟩))
    have HE9 := Lib.hid (Fr.ext HE.out F9 (fun q hq => by rw [show q = B + 1 + 1 from hq, hBB]; omega))
    clear F9 hBB
    go_wp2_with fail
    refine bodyPost_ret (results_st rfl _ rfl HB9.out Try.underlying42 rfl info42) rfl ?_
    exact ⟨_, rfl, by rw [HNN.out]; exact HG9.out.late HZR.out, HE9.out⟩
   ·obtain ⟨pd, hpd⟩ : ∃ pd, o.path[o.to.length]? = some pd := ⟨_, List.getElem?_eq_getElem hA⟩
    have hgd : o.path.getD o.to.length 0 = pd := by rw [List.getD_eq_getElem?_getD, hpd]; rfl
    rcases Int.lt_or_le pd o.at_ with hl | hl
    ·have HQ : Hid (fr = o.path) := Lib.hid (by rw [← HFR.out, from_sh]; unfold shP; rw [if_neg (by rw [hgd]; omega)])
     have d1 : decide ((o.to.length : Int) < (o.path.length : Int)) = true := decide_eq_true (by omega)
     have d2 : decide (o.at_ ≤ pd) = false := decide_eq_false (by omega)
     have x1 : (0 : Int) ≤ (o.to.length : Int) := by omega
     have x2 : (o.to.length : Int) < (o.path.length : Int) := by omega
     have x3 : ((o.to.length : Int)).toNat = o.to.length := by omega
     obtain ⟨wd, hwd⟩ : ∃ d, w7.drew = d := ⟨_, rfl⟩
     have XD : Ext w7 wd := by rw [← hwd]; exact (Ext.refl w7).drew
     replace HE := Lib.hid (HE.out.trans XD)
     replace HG := Lib.hid (HG.out.ext XD)
     replace HB1 := Lib.hid (HB1.out.ext XD)
     replace HB2 := Lib.hid (HB2.out.ext XD)
     replace HBP := Lib.hid (HBP.out.ext XD)
     replace HO := Lib.hid (World.ownsRow_ext XD HO.out)
     refine wp_region_held_drew (S := fun W => NBox W (B + 1) 26 #[.int .u8 o.kind, .slice pA o.path.length pc, .int .i64 o.at_, .slice tA o.to.length tc, .int .u64 o.id, .bool o.leaf, .string o.label, .string o.key, .string o.value, .bool o.gone, .slice cA o.pcs.length cc] ∧ W.ownsRow wc.heap.size 3 1 (.slice (some ⟨g, 0, none⟩) o.path.length cap) o.path.length (o.path.map (Value.int .i64))) (by kernel_rfl) (by rw [hwd]; exact ⟨HB1.out, HO.out⟩) (fun hHeld => ?_)
     rw [hwd] at hHeld ⊢
     clear hwd
     refine tk 0 ?_ rfl (.inl ⟨by rfl, ?_⟩) hHeld ?_
     rotate_left
     ·intro w hSw
      try dsimp only at hSw
      go_simp
      all_goals (first | with_reducible rfl | rw [if_pos (by omega)])
     try simp only [Act.put, aS]
     refine tk 2 ?_ rfl (.inl ⟨by rfl, ?_⟩) hHeld ?_
     rotate_left
     ·intro w hSw
      try dsimp only at hSw
      go_simp
      all_goals (first | with_reducible rfl | rw [if_pos (by omega)])
     try simp only [Act.put, aS]
     refine tk 1 ?_ rfl (.inl ⟨by rfl, ?_⟩) hHeld ?_
     rotate_left
     ·intro w hSw
      try dsimp only at hSw
      go_simp
      all_goals (first | with_reducible rfl | rw [if_pos (by omega)])
     try simp only [Act.put, aS]
     refine tk 3 ?_ rfl (.inl ⟨by rfl, ?_⟩) hHeld ?_
     rotate_left
     ·intro w hSw
      try dsimp only at hSw
      go_simp
      all_goals (first | with_reducible rfl | rw [if_pos (by omega)])
     try simp only [Act.put, aS]
     refine tk 4 ?_ rfl (.inl ⟨by rfl, ?_⟩) hHeld ?_
     rotate_left
     ·intro w hSw
      try dsimp only at hSw
      go_simp
      all_goals (first | with_reducible rfl | rw [if_pos (by omega)])
     try simp only [Act.put, aS]
     refine tk 5 ?_ rfl (.inl ⟨by rfl, ?_⟩) hHeld ?_
     rotate_left
     ·intro w hSw
      try dsimp only at hSw
      go_simp
      all_goals (first | with_reducible rfl | rw [if_pos (by omega)])
     try simp only [Act.put, aS]
     refine tk 6 ?_ rfl (.inl ⟨by rfl, ?_⟩) hHeld ?_
     rotate_left
     ·intro w hSw
      have fq := hSw
      obtain ⟨q0, q1⟩ := fq
      obtain ⟨e0, e1, e2, e3, e4, e5, e6, e7, e8, e9, e10⟩ := q0.c11
      go_simp
      all_goals (first | with_reducible rfl | rw [if_pos (by omega)])
     try simp only [Act.put, aS]
     refine tk 7 ?_ rfl (.inl ⟨by rfl, ?_⟩) hHeld ?_
     rotate_left
     ·intro w hSw
      try dsimp only at hSw
      go_simp
      all_goals (first | with_reducible rfl | rw [if_pos (by omega)])
     try simp only [Act.put, aS]
     have hc := withinR_any o.to o.path _ _ wd (RdS.ext HE.out HTO.out) (RdS.of_owns HO.out)
     refine wpAnyH_ready (rs := [8]) (by kernel_rfl) (by simp) ?_
     refine AllReadyH.cons (o := ⟨_, _, _, _, _, _⟩) rfl (fun K' hK => ?_) (AllReadyH.nil)
     go_simp
     go_at_call 55
     refine hc.mono ?_
     clear hc
     rintro e w8 ⟨r, rfl, rfl, hE⟩
     replace HE := Lib.hid (HE.out.trans hE)
     replace HG := Lib.hid (HG.out.ext hE)
     replace HB1 := Lib.hid (HB1.out.ext hE)
     replace HB2 := Lib.hid (HB2.out.ext hE)
     replace HBP := Lib.hid (HBP.out.ext hE)
     replace HO := Lib.hid (World.ownsRow_ext hE HO.out)
     refine hK.out _ _ (show _ ∧ _ from ⟨hHeld.1.ext hE, World.ownsRow_ext hE hHeld.2⟩) (fun hHeld => ?_)
     clear hK K' hE
     try simp only [Act.put, aS]
     rw [hwi]
     refine tk 9 ?_ rfl (.inl ⟨by rfl, ?_⟩) hHeld ?_
     rotate_left
     ·intro w hSw
      try dsimp only at hSw
      go_simp
      all_goals (first | with_reducible rfl | rw [if_pos (by omega)])
     try simp only [Act.put, aS]
     refine tk 10 ?_ rfl (.inl ⟨by rfl, ?_⟩) hHeld ?_
     rotate_left
     ·intro w hSw
      try dsimp only at hSw
      go_simp
      all_goals (first | with_reducible rfl | rw [if_pos (by omega)])
     try simp only [Act.put, aS]
     refine tk 11 ?_ rfl (.inl ⟨by rfl, ?_⟩) hHeld ?_
     rotate_left
     ·intro w hSw
      try dsimp only at hSw
      go_simp
      all_goals (first | with_reducible rfl | rw [if_pos (by omega)])
     try simp only [Act.put, aS]
     refine tk 12 ?_ rfl (.inl ⟨by rfl, ?_⟩) hHeld ?_
     rotate_left
     ·intro w hSw
      try dsimp only at hSw
      go_simp
      all_goals (first | with_reducible rfl | rw [if_pos (by omega)])
     try simp only [Act.put, aS]
     refine tk 13 ?_ rfl (.inl ⟨by rfl, ?_⟩) hHeld ?_
     rotate_left
     ·intro w hSw
      try dsimp only at hSw
      go_simp
      all_goals (first | with_reducible rfl | rw [if_pos (by omega)])
     try simp only [Act.put, aS]
     refine tk 14 ?_ rfl (.inl ⟨by rfl, ?_⟩) hHeld ?_
     rotate_left
     ·intro w hSw
      have fq := hSw
      obtain ⟨q0, q1⟩ := fq
      have e0 := (owns_cell q1 (show (o.path.map (Value.int .i64))[o.to.length]? = some (.int .i64 pd) by rw [List.getElem?_map, hpd]; rfl)).1
      go_simp
      all_goals (first | with_reducible rfl | rw [if_pos (by omega)])
     try simp only [Act.put, aS]
     refine tk 15 ?_ rfl (.inl ⟨by rfl, ?_⟩) hHeld ?_
     rotate_left
     ·intro w hSw
      try dsimp only at hSw
      go_simp
      all_goals (first | with_reducible rfl | rw [if_pos (by omega)])
     try simp only [Act.put, aS]
     refine tk 16 ?_ rfl (.inl ⟨by rfl, ?_⟩) hHeld ?_
     rotate_left
     ·intro w hSw
      have fq := hSw
      obtain ⟨q0, q1⟩ := fq
      obtain ⟨e0, e1, e2, e3, e4, e5, e6, e7, e8, e9, e10⟩ := q0.c11
      go_simp
      all_goals (first | with_reducible rfl | rw [if_pos (by omega)])
     try simp only [Act.put, aS]
     refine tk 17 ?_ rfl (.inl ⟨by rfl, ?_⟩) hHeld ?_
     rotate_left
     ·intro w hSw
      try dsimp only at hSw
      go_simp
      all_goals (first | with_reducible rfl | rw [if_pos (by omega)])
     try simp only [Act.put, aS]
     refine tk 18 ?_ rfl (.inl ⟨by rfl, ?_⟩) hHeld ?_
     rotate_left
     ·intro w hSw
      try dsimp only at hSw
      go_simp
      all_goals (first | with_reducible rfl | rw [if_pos (by omega)])
     try simp only [Act.put, aS]
     refine wpAnyH_done (by kernel_rfl) ?_ _
     clear hHeld
     have RDI : RdI w8 fr (.slice (some ⟨g, 0, none⟩) o.path.length cap) := by rw [HQ.out]; exact RdS.of_owns HO.out
     have hc := without_late m z _ _ fr k wg w8 HG.out.now HMR.out RDI HF1.out HZA.out HK.out HKL.out (by rw [HFL.out]; omega) hmw hzl
     obtain ⟨y0, y1, y2, y3, y4, y5⟩ := HBP.out.c6
     go_wp2_with fail
     refine hc.mono ?_
     clear hc y0 y1 y2 y3 y4 y5
     rintro e w9 ⟨r, rfl, hL, hE⟩
     have HZR := Lib.hid (HG.out.got hE hL)
     rw [← HWD.out] at HZR
     obtain ⟨n, hn⟩ : ∃ n, moveD t o = n := ⟨_, rfl⟩
     rw [hn] at HZR
     have HNN := Lib.hid hn
     obtain ⟨nA, nc, nK, nd, rfl⟩ := rd_open6 HZR.out
     have HS' := Lib.hid (HG.out.keep hE HS.out HB2.out.lt)
     clear HS
     replace HG := Lib.hid (HG.out.glue hE)
     replace HE := Lib.hid (HE.out.trans hE)
     replace HB2 := Lib.hid (HB2.out.ext hE)
     clear hE hL hn
     obtain ⟨y0, y1, y2, y3, y4, y5⟩ := HB2.out.c6
     obtain ⟨z0, z1, z2, z3, z4, z5⟩ := HB2.out.f6
     have F9 := Fr.six w9 (B + 1 + 1) (.int .u64 n.id) (.bool n.leaf) (.string n.label) (.slice nA n.attrs.length nc) (.string n.text) (.slice nK n.kids.length nd)
     have HB9 := Lib.hid (HB2.out.six (.int .u64 n.id) (.bool n.leaf) (.string n.label) (.slice nA n.attrs.length nc) (.string n.text) (.slice nK n.kids.length nd))
     have hBB := HBB.out
     have HF9 := Lib.hid F9
     have HG9 := Lib.hid (HG.out.fr F9 (fun q hq => by rw [show q = B + 1 + 1 from hq]; exact ⟨HS'.out, by omega⟩))
     have HE9 := Lib.hid (Fr.ext HE.out F9 (fun q hq => by rw [show q = B + 1 + 1 from hq, hBB]; omega))
     clear F9 hBB
     go_wp2_with fail
     refine bodyPost_ret (results_st rfl _ rfl HB9.out Try.underlying42 rfl info42) rfl ?_
     exact ⟨_, rfl, by rw [HNN.out]; exact HG9.out.late HZR.out, HE9.out⟩
    ·have HQ : Hid (fr = o.path.set o.to.length (pd + 1)) := Lib.hid (by rw [← HFR.out, from_sh]; unfold shP; rw [if_pos ⟨hA, hwi, by rw [hgd]; exact hl⟩, hgd])
     have d1 : decide ((o.to.length : Int) < (o.path.length : Int)) = true := decide_eq_true (by omega)
     have d2 : decide (o.at_ ≤ pd) = true := decide_eq_true hl
     have hpb := hpv pd (List.mem_of_getElem? hpd)
     have d3 : IntKind.i64.wrap (pd + 1) = pd + 1 := IntWalk.i64_in _ (by omega)
     have x1 : (0 : Int) ≤ (o.to.length : Int) := by omega
     have x2 : (o.to.length : Int) < (o.path.length : Int) := by omega
     have x3 : ((o.to.length : Int)).toNat = o.to.length := by omega
     obtain ⟨wd, hwd⟩ : ∃ d, w7.drew = d := ⟨_, rfl⟩
     have XD : Ext w7 wd := by rw [← hwd]; exact (Ext.refl w7).drew
     replace HE := Lib.hid (HE.out.trans XD)
     replace HG := Lib.hid (HG.out.ext XD)
     replace HB1 := Lib.hid (HB1.out.ext XD)
     replace HB2 := Lib.hid (HB2.out.ext XD)
     replace HBP := Lib.hid (HBP.out.ext XD)
     replace HO := Lib.hid (World.ownsRow_ext XD HO.out)
     refine wp_region_held_drew (S := fun W => NBox W (B + 1) 26 #[.int .u8 o.kind, .slice pA o.path.length pc, .int .i64 o.at_, .slice tA o.to.length tc, .int .u64 o.id, .bool o.leaf, .string o.label, .string o.key, .string o.value, .bool o.gone, .slice cA o.pcs.length cc] ∧ W.ownsRow wc.heap.size 3 1 (.slice (some ⟨g, 0, none⟩) o.path.length cap) o.path.length (o.path.map (Value.int .i64))) (by kernel_rfl) (by rw [hwd]; exact ⟨HB1.out, HO.out⟩) (fun hHeld => ?_)
     rw [hwd] at hHeld ⊢
     clear hwd
     refine tk 0 ?_ rfl (.inl ⟨by rfl, ?_⟩) hHeld ?_
     rotate_left
     ·intro w hSw
      try dsimp only at hSw
      go_simp
      all_goals (first | with_reducible rfl | rw [if_pos (by omega)])
     try simp only [Act.put, aS]
     refine tk 2 ?_ rfl (.inl ⟨by rfl, ?_⟩) hHeld ?_
     rotate_left
     ·intro w hSw
      try dsimp only at hSw
      go_simp
      all_goals (first | with_reducible rfl | rw [if_pos (by omega)])
     try simp only [Act.put, aS]
     refine tk 1 ?_ rfl (.inl ⟨by rfl, ?_⟩) hHeld ?_
     rotate_left
     ·intro w hSw
      try dsimp only at hSw
      go_simp
      all_goals (first | with_reducible rfl | rw [if_pos (by omega)])
     try simp only [Act.put, aS]
     refine tk 3 ?_ rfl (.inl ⟨by rfl, ?_⟩) hHeld ?_
     rotate_left
     ·intro w hSw
      try dsimp only at hSw
      go_simp
      all_goals (first | with_reducible rfl | rw [if_pos (by omega)])
     try simp only [Act.put, aS]
     refine tk 4 ?_ rfl (.inl ⟨by rfl, ?_⟩) hHeld ?_
     rotate_left
     ·intro w hSw
      try dsimp only at hSw
      go_simp
      all_goals (first | with_reducible rfl | rw [if_pos (by omega)])
     try simp only [Act.put, aS]
     refine tk 5 ?_ rfl (.inl ⟨by rfl, ?_⟩) hHeld ?_
     rotate_left
     ·intro w hSw
      try dsimp only at hSw
      go_simp
      all_goals (first | with_reducible rfl | rw [if_pos (by omega)])
     try simp only [Act.put, aS]
     refine tk 6 ?_ rfl (.inl ⟨by rfl, ?_⟩) hHeld ?_
     rotate_left
     ·intro w hSw
      have fq := hSw
      obtain ⟨q0, q1⟩ := fq
      obtain ⟨e0, e1, e2, e3, e4, e5, e6, e7, e8, e9, e10⟩ := q0.c11
      go_simp
      all_goals (first | with_reducible rfl | rw [if_pos (by omega)])
     try simp only [Act.put, aS]
     refine tk 7 ?_ rfl (.inl ⟨by rfl, ?_⟩) hHeld ?_
     rotate_left
     ·intro w hSw
      try dsimp only at hSw
      go_simp
      all_goals (first | with_reducible rfl | rw [if_pos (by omega)])
     try simp only [Act.put, aS]
     have hc := withinR_any o.to o.path _ _ wd (RdS.ext HE.out HTO.out) (RdS.of_owns HO.out)
     refine wpAnyH_ready (rs := [8]) (by kernel_rfl) (by simp) ?_
     refine AllReadyH.cons (o := ⟨_, _, _, _, _, _⟩) rfl (fun K' hK => ?_) (AllReadyH.nil)
     go_simp
     go_at_call 55
     refine hc.mono ?_
     clear hc
     rintro e w8 ⟨r, rfl, rfl, hE⟩
     replace HE := Lib.hid (HE.out.trans hE)
     replace HG := Lib.hid (HG.out.ext hE)
     replace HB1 := Lib.hid (HB1.out.ext hE)
     replace HB2 := Lib.hid (HB2.out.ext hE)
     replace HBP := Lib.hid (HBP.out.ext hE)
     replace HO := Lib.hid (World.ownsRow_ext hE HO.out)
     refine hK.out _ _ (show _ ∧ _ from ⟨hHeld.1.ext hE, World.ownsRow_ext hE hHeld.2⟩) (fun hHeld => ?_)
     clear hK K' hE
     try simp only [Act.put, aS]
     rw [hwi]
     refine tk 9 ?_ rfl (.inl ⟨by rfl, ?_⟩) hHeld ?_
     rotate_left
     ·intro w hSw
      try dsimp only at hSw
      go_simp
      all_goals (first | with_reducible rfl | rw [if_pos (by omega)])
     try simp only [Act.put, aS]
     refine tk 10 ?_ rfl (.inl ⟨by rfl, ?_⟩) hHeld ?_
     rotate_left
     ·intro w hSw
      try dsimp only at hSw
      go_simp
      all_goals (first | with_reducible rfl | rw [if_pos (by omega)])
     try simp only [Act.put, aS]
     refine tk 11 ?_ rfl (.inl ⟨by rfl, ?_⟩) hHeld ?_
     rotate_left
     ·intro w hSw
      try dsimp only at hSw
      go_simp
      all_goals (first | with_reducible rfl | rw [if_pos (by omega)])
     try simp only [Act.put, aS]
     refine tk 12 ?_ rfl (.inl ⟨by rfl, ?_⟩) hHeld ?_
     rotate_left
     ·intro w hSw
      try dsimp only at hSw
      go_simp
      all_goals (first | with_reducible rfl | rw [if_pos (by omega)])
     try simp only [Act.put, aS]
     refine tk 13 ?_ rfl (.inl ⟨by rfl, ?_⟩) hHeld ?_
     rotate_left
     ·intro w hSw
      try dsimp only at hSw
      go_simp
      all_goals (first | with_reducible rfl | rw [if_pos (by omega)])
     try simp only [Act.put, aS]
     refine tk 14 ?_ rfl (.inl ⟨by rfl, ?_⟩) hHeld ?_
     rotate_left
     ·intro w hSw
      have fq := hSw
      obtain ⟨q0, q1⟩ := fq
      have e0 := (owns_cell q1 (show (o.path.map (Value.int .i64))[o.to.length]? = some (.int .i64 pd) by rw [List.getElem?_map, hpd]; rfl)).1
      go_simp
      all_goals (first | with_reducible rfl | rw [if_pos (by omega)])
     try simp only [Act.put, aS]
     refine tk 15 ?_ rfl (.inl ⟨by rfl, ?_⟩) hHeld ?_
     rotate_left
     ·intro w hSw
      try dsimp only at hSw
      go_simp
      all_goals (first | with_reducible rfl | rw [if_pos (by omega)])
     try simp only [Act.put, aS]
     refine tk 16 ?_ rfl (.inl ⟨by rfl, ?_⟩) hHeld ?_
     rotate_left
     ·intro w hSw
      have fq := hSw
      obtain ⟨q0, q1⟩ := fq
      obtain ⟨e0, e1, e2, e3, e4, e5, e6, e7, e8, e9, e10⟩ := q0.c11
      go_simp
      all_goals (first | with_reducible rfl | rw [if_pos (by omega)])
     try simp only [Act.put, aS]
     refine tk 17 ?_ rfl (.inl ⟨by rfl, ?_⟩) hHeld ?_
     rotate_left
     ·intro w hSw
      try dsimp only at hSw
      go_simp
      all_goals (first | with_reducible rfl | rw [if_pos (by omega)])
     try simp only [Act.put, aS]
     refine tk 18 ?_ rfl (.inl ⟨by rfl, ?_⟩) hHeld ?_
     rotate_left
     ·intro w hSw
      try dsimp only at hSw
      go_simp
      all_goals (first | with_reducible rfl | rw [if_pos (by omega)])
     try simp only [Act.put, aS]
     refine wpAnyH_done (by kernel_rfl) ?_ _
     clear hHeld
     obtain ⟨c1, c2⟩ := owns_cell HO.out (show (o.path.map (Value.int .i64))[o.to.length]? = some (.int .i64 pd) by rw [List.getElem?_map, hpd]; rfl)
     go_upto_region 8 with fail
     clear c1 c2
     have FD := Fr.setCell w8 g o.to.length (.int .i64 (pd + 1))
     have HO9 := Lib.hid (owns_setAt HO.out o.to.length (.int .i64 (pd + 1)))
     have hg1 := HGB.out
     have hg2 := HPL.out
     have hg3 := HRL.out
     have hBBB := HBB.out
     have HG' := Lib.hid (HG.out.fr FD (fun q hq => by rw [show q = g from hq]; exact ⟨HFH.out g hg1, by omega⟩))
     have HE' := Lib.hid (Fr.ext HE.out FD (fun q hq => by rw [show q = g from hq, hBBB]; omega))
     have HBP' := Lib.hid (HBP.out.fr FD (show ¬ P = g by omega))
     have HB2' := Lib.hid (HB2.out.fr FD (show ¬ B + 1 + 1 = g by omega))
     have XO := Lib.hid ((show Fr w8 _ _ from FD).size)
     clear HG HE HBP HB2 HO
     obtain ⟨w10, hw10⟩ : ∃ q, World.setCell w8 ⟨g, o.to.length, none⟩ (.int .i64 (pd + 1)) = q := ⟨_, rfl⟩
     have HG : Hid (GW wo w wg w10 S) := Lib.hid (by rw [← hw10]; exact HG'.out)
     have HE : Hid (Ext w w10) := Lib.hid (by rw [← hw10]; exact HE'.out)
     have HBP : Hid (NBox w10 P 42 #[.int .u64 m.id, .bool m.leaf, .string m.label, .slice mA m.attrs.length mc, .string m.text, .slice mK m.kids.length md]) := Lib.hid (by rw [← hw10]; exact HBP'.out)
     have HB2 : Hid (NBox w10 (B + 1 + 1) 42 #[.int .u64 0, .bool false, .string ⟨#[]⟩, .slice none 0 0, .string ⟨#[]⟩, .slice none 0 0]) := Lib.hid (by rw [← hw10]; exact HB2'.out)
     have RDI : RdI w10 fr (.slice (some ⟨g, 0, none⟩) o.path.length cap) := by
      rw [HQ.out, ← hw10]
      have := RdS.of_owns HO9.out
      unfold RdI
      rw [List.length_set, List.map_set]
      exact this
     clear HG' HE' HBP' HB2' HO9 FD hg1 hg2 hg3 hBBB XO
     rw [hw10]
     clear hw10
     have hc := without_late m z _ _ fr k wg w10 HG.out.now HMR.out RDI HF1.out HZA.out HK.out HKL.out (by rw [HFL.out]; omega) hmw hzl
     obtain ⟨y0, y1, y2, y3, y4, y5⟩ := HBP.out.c6
     go_wp2_with fail
     refine hc.mono ?_
     clear hc y0 y1 y2 y3 y4 y5
     rintro e w9 ⟨r, rfl, hL, hE⟩
     have HZR := Lib.hid (HG.out.got hE hL)
     rw [← HWD.out] at HZR
     obtain ⟨n, hn⟩ : ∃ n, moveD t o = n := ⟨_, rfl⟩
     rw [hn] at HZR
     have HNN := Lib.hid hn
     obtain ⟨nA, nc, nK, nd, rfl⟩ := rd_open6 HZR.out
     have HS' := Lib.hid (HG.out.keep hE HS.out HB2.out.lt)
     clear HS
     replace HG := Lib.hid (HG.out.glue hE)
     replace HE := Lib.hid (HE.out.trans hE)
     replace HB2 := Lib.hid (HB2.out.ext hE)
     clear hE hL hn
     obtain ⟨y0, y1, y2, y3, y4, y5⟩ := HB2.out.c6
     obtain ⟨z0, z1, z2, z3, z4, z5⟩ := HB2.out.f6
     have F9 := Fr.six w9 (B + 1 + 1) (.int .u64 n.id) (.bool n.leaf) (.string n.label) (.slice nA n.attrs.length nc) (.string n.text) (.slice nK n.kids.length nd)
     have HB9 := Lib.hid (HB2.out.six (.int .u64 n.id) (.bool n.leaf) (.string n.label) (.slice nA n.attrs.length nc) (.string n.text) (.slice nK n.kids.length nd))
     have hBB := HBB.out
     have HF9 := Lib.hid F9
     have HG9 := Lib.hid (HG.out.fr F9 (fun q hq => by rw [show q = B + 1 + 1 from hq]; exact ⟨HS'.out, by omega⟩))
     have HE9 := Lib.hid (Fr.ext HE.out F9 (fun q hq => by rw [show q = B + 1 + 1 from hq, hBB]; omega))
     clear F9 hBB
     go_wp2_with fail
     refine bodyPost_ret (results_st rfl _ rfl HB9.out Try.underlying42 rfl info42) rfl ?_
     exact ⟨_, rfl, by rw [HNN.out]; exact HG9.out.late HZR.out, HE9.out⟩
  ·have HQ : Hid (fr = o.path) := Lib.hid (by rw [← HFR.out, from_sh]; unfold shP; rw [if_neg (by omega)])
   have d1 : decide ((o.to.length : Int) < (o.path.length : Int)) = false := decide_eq_false (by omega)
   have d0 : decide (o.to.length < o.path.length) = false := decide_eq_false (by omega)
   obtain ⟨wd, hwd⟩ : ∃ d, w7.drew = d := ⟨_, rfl⟩
   have XD : Ext w7 wd := by rw [← hwd]; exact (Ext.refl w7).drew
   replace HE := Lib.hid (HE.out.trans XD)
   replace HG := Lib.hid (HG.out.ext XD)
   replace HB1 := Lib.hid (HB1.out.ext XD)
   replace HB2 := Lib.hid (HB2.out.ext XD)
   replace HBP := Lib.hid (HBP.out.ext XD)
   replace HO := Lib.hid (World.ownsRow_ext XD HO.out)
   refine wp_region_held_drew (S := fun W => NBox W (B + 1) 26 #[.int .u8 o.kind, .slice pA o.path.length pc, .int .i64 o.at_, .slice tA o.to.length tc, .int .u64 o.id, .bool o.leaf, .string o.label, .string o.key, .string o.value, .bool o.gone, .slice cA o.pcs.length cc] ∧ W.ownsRow wc.heap.size 3 1 (.slice (some ⟨g, 0, none⟩) o.path.length cap) o.path.length (o.path.map (Value.int .i64))) (by kernel_rfl) (by rw [hwd]; exact ⟨HB1.out, HO.out⟩) (fun hHeld => ?_)
   rw [hwd] at hHeld ⊢
   clear hwd
   refine tk 0 ?_ rfl (.inl ⟨by rfl, ?_⟩) hHeld ?_
   rotate_left
   ·intro w hSw
    try dsimp only at hSw
    go_simp
    all_goals (first | with_reducible rfl | rw [if_pos (by omega)])
   try simp only [Act.put, aS]
   refine tk 2 ?_ rfl (.inl ⟨by rfl, ?_⟩) hHeld ?_
   rotate_left
   ·intro w hSw
    try dsimp only at hSw
    go_simp
    all_goals (first | with_reducible rfl | rw [if_pos (by omega)])
   try simp only [Act.put, aS]
   refine tk 1 ?_ rfl (.inl ⟨by rfl, ?_⟩) hHeld ?_
   rotate_left
   ·intro w hSw
    try dsimp only at hSw
    go_simp
    all_goals (first | with_reducible rfl | rw [if_pos (by omega)])
   try simp only [Act.put, aS]
   refine tk 3 ?_ rfl (.inl ⟨by rfl, ?_⟩) hHeld ?_
   rotate_left
   ·intro w hSw
    try dsimp only at hSw
    go_simp
    all_goals (first | with_reducible rfl | rw [if_pos (by omega)])
   try simp only [Act.put, aS]
   refine tk 4 ?_ rfl (.inl ⟨by rfl, ?_⟩) hHeld ?_
   rotate_left
   ·intro w hSw
    try dsimp only at hSw
    go_simp
    all_goals (first | with_reducible rfl | rw [if_pos (by omega)])
   try simp only [Act.put, aS]
   refine wpAnyH_take (i := 5) (oi := ⟨_, _, _, _, _, _⟩) (v := undef) rfl (by kernel_rfl) (by kernel_rfl) (by kernel_rfl) (fun _ _ _ h => h) (Or.inr ⟨by rfl, by rfl⟩) hHeld ?_
   try simp only [Act.put, aS]
   refine wpAnyH_take (i := 6) (oi := ⟨_, _, _, _, _, _⟩) (v := undef) rfl (by kernel_rfl) (by kernel_rfl) (by kernel_rfl) (fun _ _ _ h => h) (Or.inr ⟨by rfl, by rfl⟩) hHeld ?_
   try simp only [Act.put, aS]
   refine wpAnyH_take (i := 7) (oi := ⟨_, _, _, _, _, _⟩) (v := undef) rfl (by kernel_rfl) (by kernel_rfl) (by kernel_rfl) (fun _ _ _ h => h) (Or.inr ⟨by rfl, by rfl⟩) hHeld ?_
   try simp only [Act.put, aS]
   refine wpAnyH_take (i := 8) (oi := ⟨_, _, _, _, _, _⟩) (v := undef) rfl (by kernel_rfl) (by kernel_rfl) (by kernel_rfl) (fun _ _ _ h => h) (Or.inr ⟨by rfl, by rfl⟩) hHeld ?_
   try simp only [Act.put, aS]
   refine tk 9 ?_ rfl (.inl ⟨by rfl, ?_⟩) hHeld ?_
   rotate_left
   ·intro w hSw
    try dsimp only at hSw
    go_simp
    all_goals (first | with_reducible rfl | rw [if_pos (by omega)])
   try simp only [Act.put, aS]
   refine tk 10 ?_ rfl (.inl ⟨by rfl, ?_⟩) hHeld ?_
   rotate_left
   ·intro w hSw
    try dsimp only at hSw
    go_simp
    all_goals (first | with_reducible rfl | rw [if_pos (by omega)])
   try simp only [Act.put, aS]
   refine wpAnyH_take (i := 11) (oi := ⟨_, _, _, _, _, _⟩) (v := undef) rfl (by kernel_rfl) (by kernel_rfl) (by kernel_rfl) (fun _ _ _ h => h) (Or.inr ⟨by rfl, by rfl⟩) hHeld ?_
   try simp only [Act.put, aS]
   refine wpAnyH_take (i := 12) (oi := ⟨_, _, _, _, _, _⟩) (v := undef) rfl (by kernel_rfl) (by kernel_rfl) (by kernel_rfl) (fun _ _ _ h => h) (Or.inr ⟨by rfl, by rfl⟩) hHeld ?_
   try simp only [Act.put, aS]
   refine wpAnyH_take (i := 13) (oi := ⟨_, _, _, _, _, _⟩) (v := undef) rfl (by kernel_rfl) (by kernel_rfl) (by kernel_rfl) (fun _ _ _ h => h) (Or.inr ⟨by rfl, by rfl⟩) hHeld ?_
   try simp only [Act.put, aS]
   refine wpAnyH_take (i := 14) (oi := ⟨_, _, _, _, _, _⟩) (v := undef) rfl (by kernel_rfl) (by kernel_rfl) (by kernel_rfl) (fun _ _ _ h => h) (Or.inr ⟨by rfl, by rfl⟩) hHeld ?_
   try simp only [Act.put, aS]
   refine wpAnyH_take (i := 15) (oi := ⟨_, _, _, _, _, _⟩) (v := undef) rfl (by kernel_rfl) (by kernel_rfl) (by kernel_rfl) (fun _ _ _ h => h) (Or.inr ⟨by rfl, by rfl⟩) hHeld ?_
   try simp only [Act.put, aS]
   refine wpAnyH_take (i := 16) (oi := ⟨_, _, _, _, _, _⟩) (v := undef) rfl (by kernel_rfl) (by kernel_rfl) (by kernel_rfl) (fun _ _ _ h => h) (Or.inr ⟨by rfl, by rfl⟩) hHeld ?_
   try simp only [Act.put, aS]
   refine wpAnyH_take (i := 17) (oi := ⟨_, _, _, _, _, _⟩) (v := undef) rfl (by kernel_rfl) (by kernel_rfl) (by kernel_rfl) (fun _ _ _ h => h) (Or.inr ⟨by rfl, by rfl⟩) hHeld ?_
   try simp only [Act.put, aS]
   refine tk 18 ?_ rfl (.inl ⟨by rfl, ?_⟩) hHeld ?_
   rotate_left
   ·intro w hSw
    try dsimp only at hSw
    go_simp
    all_goals (first | with_reducible rfl | rw [if_pos (by omega)])
   try simp only [Act.put, aS]
   refine wpAnyH_done (by kernel_rfl) ?_ _
   clear hHeld
   have RDI : RdI wd fr (.slice (some ⟨g, 0, none⟩) o.path.length cap) := by rw [HQ.out]; exact RdS.of_owns HO.out
   have hc := without_late m z _ _ fr k wg wd HG.out.now HMR.out RDI HF1.out HZA.out HK.out HKL.out (by rw [HFL.out]; omega) hmw hzl
   obtain ⟨y0, y1, y2, y3, y4, y5⟩ := HBP.out.c6
   go_wp2_with fail
   refine hc.mono ?_
   clear hc y0 y1 y2 y3 y4 y5
   rintro e w9 ⟨r, rfl, hL, hE⟩
   have HZR := Lib.hid (HG.out.got hE hL)
   rw [← HWD.out] at HZR
   obtain ⟨n, hn⟩ : ∃ n, moveD t o = n := ⟨_, rfl⟩
   rw [hn] at HZR
   have HNN := Lib.hid hn
   obtain ⟨nA, nc, nK, nd, rfl⟩ := rd_open6 HZR.out
   have HS' := Lib.hid (HG.out.keep hE HS.out HB2.out.lt)
   clear HS
   replace HG := Lib.hid (HG.out.glue hE)
   replace HE := Lib.hid (HE.out.trans hE)
   replace HB2 := Lib.hid (HB2.out.ext hE)
   clear hE hL hn
   obtain ⟨y0, y1, y2, y3, y4, y5⟩ := HB2.out.c6
   obtain ⟨z0, z1, z2, z3, z4, z5⟩ := HB2.out.f6
   have F9 := Fr.six w9 (B + 1 + 1) (.int .u64 n.id) (.bool n.leaf) (.string n.label) (.slice nA n.attrs.length nc) (.string n.text) (.slice nK n.kids.length nd)
   have HB9 := Lib.hid (HB2.out.six (.int .u64 n.id) (.bool n.leaf) (.string n.label) (.slice nA n.attrs.length nc) (.string n.text) (.slice nK n.kids.length nd))
   have hBB := HBB.out
   have HF9 := Lib.hid F9
   have HG9 := Lib.hid (HG.out.fr F9 (fun q hq => by rw [show q = B + 1 + 1 from hq]; exact ⟨HS'.out, by omega⟩))
   have HE9 := Lib.hid (Fr.ext HE.out F9 (fun q hq => by rw [show q = B + 1 + 1 from hq, hBB]; omega))
   clear F9 hBB
   go_wp2_with fail
   refine bodyPost_ret (results_st rfl _ rfl HB9.out Try.underlying42 rfl info42) rfl ?_
   exact ⟨_, rfl, by rw [HNN.out]; exact HG9.out.late HZR.out, HE9.out⟩
end Go.Proofs.Ytdnjkffmgmbfmaa.Sy
