/- SyWithout turned to this seat. (Printed by gport.py.) -/
import Derived.Test.YtdnjkffmgmbfmaaHyChange
import Derived.Test.YtdnjkffmgmbfmaaHyNdPut
import Derived.Test.YtdnjkffmgmbfmaaHyBsMay2
import Derived.WalkKit
import Derived.Deep.Cut
import Derived.Deep.RegionHeld3
import Derived.StillTailTactics
import Derived.BigQuiet
import Derived.IntWalk
import Derived.Test.YtdnjkffmgmbfmaaProg
namespace Go.Proofs.Ytdnjkffmgmbfmaa.Sy
open Go.RowKit Go.Proofs.Ytdnjkffmgmbfmaa.Bw Go.Proofs.Ytdnjkffmgmbfmaa.Bs
/-- May a node come to a gap of one's children? -/
def intoE (t : Nd) (i : Int) : Int := if t.leaf then 83 else if (t.kids.length : Int) < i then 81 else 0
set_option maxRecDepth 100000 in
set_option maxHeartbeats 4000000 in
theorem into_any (t : Nd) (v : Value) (i : Int) (w : World) (ht : t.rd w v) : Calls Try.prog 58 #[v, .int .i64 i] w (Ret w fun r _ => r = .int .i64 (intoE t i)) := by
 obtain ⟨tA, tc, tK, td, rfl⟩ := rd_open6 ht
 obtain ⟨e, he⟩ : ∃ e, intoE t i = e := ⟨_, rfl⟩
 rw [he]
 unfold intoE at he
 clear ht
 rcases hl : t.leaf with _ | _
 ·rw [hl] at he
  rcases Int.lt_or_le (t.kids.length : Int) i with h | h
  ·have d1 : decide ((t.kids.length : Int) < i) = true := decide_eq_true h
   have HE : Hid (e = 81) := Lib.hid (by rw [← he]; simp [h])
   clear he hl
   go_enter Try.func58, Try.ntmps58
   go_wp2_with fail
   go_ret
   exact ⟨_, rfl, by rw [HE.out]; rfl, (Ext.refl w).alloc _⟩
  ·have d1 : decide ((t.kids.length : Int) < i) = false := decide_eq_false (by omega)
   have HE : Hid (e = 0) := Lib.hid (by rw [← he]; simp [Int.not_lt.2 h])
   clear he hl
   go_enter Try.func58, Try.ntmps58
   go_wp2_with fail
   go_ret
   exact ⟨_, rfl, by rw [HE.out]; rfl, (Ext.refl w).alloc _⟩
 ·have HE : Hid (e = 83) := Lib.hid (by rw [← he, hl]; rfl)
  clear he hl
  go_enter Try.func58, Try.ntmps58
  go_wp2_with fail
  go_ret
  exact ⟨_, rfl, by rw [HE.out]; rfl, (Ext.refl w).alloc _⟩
set_option maxRecDepth 100000 in
set_option maxHeartbeats 8000000 in
theorem without_late (t x : Nd) (v pv : Value) (p : List Int) (i : Nat) (wo w : World) (hWo : Wo wo w) (ht : t.rd wo v) (hp : RdI w p pv) (hne : p ≠ []) (hat : t.at? p.dropLast = some x) (hl : lastN p = i) (hi : i < x.kids.length) (hpl : p.length ≤ 1000000) (hwt : t.wt ≤ 1000000) (hkl : x.kids.length ≤ 1000000) :
  Calls Try.prog 44 #[v, pv] w (Ret w fun r w' => LateN wo w w' ((t.put p.dropLast (delD x i)).getD Nd.zero) r) := by
 obtain ⟨tA, tc, tK, td, rfl⟩ := rd_open6 ht
 obtain ⟨up, hup⟩ : ∃ up, p.dropLast = up := ⟨_, rfl⟩
 have hup2 : p.take (p.length - 1) = up := by rw [← hup, List.dropLast_eq_take]
 rw [hup] at hat ⊢
 obtain ⟨w1, hw1⟩ : ∃ W, (w.alloc (.cells #[.int .u64 t.id, .bool t.leaf, .string t.label, .slice tA t.attrs.length tc, .string t.text, .slice tK t.kids.length td] 42)).alloc (.cells #[.int .u64 0, .bool false, .string ⟨#[]⟩, .slice none 0 0, .string ⟨#[]⟩, .slice none 0 0] 42) = W := ⟨_, rfl⟩
 obtain ⟨B, hB⟩ : ∃ B, w.heap.size = B := ⟨_, rfl⟩
 have s1 : (w.alloc (.cells #[.int .u64 t.id, .bool t.leaf, .string t.label, .slice tA t.attrs.length tc, .string t.text, .slice tK t.kids.length td] 42)).heap.size = B + 1 := by rw [World.size_alloc, hB]
 have E1 : Ext w w1 := by rw [← hw1]; exact ((Ext.refl w).alloc _).alloc _
 have z1 : w1.heap.size = B + 1 + 1 := by rw [← hw1, World.size_alloc, s1]
 have b0 : NBox w1 B 42 #[.int .u64 t.id, .bool t.leaf, .string t.label, .slice tA t.attrs.length tc, .string t.text, .slice tK t.kids.length td] := by rw [← hw1, ← hB]; exact (NBox.new w 42 _).ext ((Ext.refl _).alloc _)
 have b2 : NBox w1 (B + 1) 42 #[.int .u64 0, .bool false, .string ⟨#[]⟩, .slice none 0 0, .string ⟨#[]⟩, .slice none 0 0] := by rw [← hw1, ← s1]; exact NBox.new _ 42 _
 have hpos : 0 < p.length := List.length_pos_iff.2 hne
 have hcell0 : ∃ b o c, pv = .slice (some ⟨b, o, none⟩) p.length c ∧ p.length ≤ c ∧ c ≤ maxLen ∧ w.cell? ⟨b, o + (p.length - 1), none⟩ = some (.int .i64 (i : Int)) := by
  obtain ⟨A, c, rfl, -, h1, h2, h3⟩ := hp
  obtain ⟨b, o, rfl, h4⟩ := h3 hpos
  exact ⟨b, o, c, rfl, h1, h2, h4 _ _ (by rw [List.getElem?_map, last_at hne, hl]; rfl)⟩
 obtain ⟨pb, po, pc, rfl, pc1, pc2, pcell⟩ := hcell0
 unfold maxLen at pc2
 have hq0 : RdI w up (.slice (some ⟨pb, po, none⟩) (p.length - 1) pc) := by rw [← hup2]; exact RdI.take hp (p.length - 1) (by omega)
 have hul : up.length = p.length - 1 := by rw [← hup2, List.length_take]; omega
 have hc := rat_old t _ up _ wo w1 (hWo.ext E1).sub ht (RdS.ext E1 hq0)
 have HQ0 := Lib.hid hq0
 have HPC := Lib.hid pcell
 have HW1 := Lib.hid hw1
 have HBB := Lib.hid hB
 have HB0 := Lib.hid b0
 have HB2 := Lib.hid b2
 have HE := Lib.hid E1
 have HWO := Lib.hid hWo
 have HZ1 := Lib.hid z1
 have HT := Lib.hid ht
 have HAT := Lib.hid hat
 obtain ⟨t0, t1, t2, t3, t4, t5⟩ := b0.c6
 have q1 : (1 : Int) ≤ (p.length : Int) := by omega
 have q2 : (0 : Int) ≤ (p.length : Int) - 1 := by omega
 have q3 : (p.length : Int) - 1 < (p.length : Int) := by omega
 have q4 : ((p.length : Int) - 1).toNat = p.length - 1 := by omega
 have q5 : p.length - 1 ≤ pc := by omega
 have q6 : (p.length : Int) - 1 ≤ (pc : Int) := by omega
 have q7 : IntKind.i64.wrap ((p.length : Int) - 1) = (p.length : Int) - 1 := IntWalk.i64_in _ (by omega)
 have q8 : p.length - 1 < p.length := by omega
 clear hw1 hB s1 E1 b0 b2 z1 hWo ht hp hne hat hl hup hup2 hq0 pcell hul
 go_enter Try.func44, Try.ntmps44
 go_upto_region 1 with fail
 rw [HW1.out, HBB.out]
 clear HW1
 go_wp2_with fail
 refine hc.mono ?_
 clear hc t0 t1 t2 t3 t4 t5
 rintro e w2 ⟨r, rfl, ⟨xv, rfl, hx⟩, E2⟩
 rw [HAT.out] at hx ⊢
 replace hx : x.rd wo xv := hx
 obtain ⟨xA, xc, xK, xd, rfl⟩ := rd_open6 hx
 have HX := Lib.hid hx
 have HE2 := Lib.hid E2
 obtain ⟨w3a, hwa⟩ : ∃ q, w2.alloc (.cells #[.int .u64 0, .bool false, .string ⟨#[]⟩, .slice none 0 0, .string ⟨#[]⟩, .slice none 0 0] 42) = q := ⟨_, rfl⟩
 obtain ⟨M, hM⟩ : ∃ q, w2.heap.size = q := ⟨_, rfl⟩
 have XA : Ext w2 w3a := by rw [← hwa]; exact (Ext.refl _).alloc _
 have bM : NBox w3a M 42 #[.int .u64 0, .bool false, .string ⟨#[]⟩, .slice none 0 0, .string ⟨#[]⟩, .slice none 0 0] := by rw [← hwa, ← hM]; exact NBox.new _ _ _
 obtain ⟨w3, hwn⟩ : ∃ q, (World.setCell (World.setCell (World.setCell (World.setCell (World.setCell (World.setCell w3a ⟨M, 0, none⟩ (.int .u64 x.id)) ⟨M, 1, none⟩ (.bool x.leaf)) ⟨M, 2, none⟩ (.string x.label)) ⟨M, 3, none⟩ (.slice xA x.attrs.length xc)) ⟨M, 4, none⟩ (.string x.text)) ⟨M, 5, none⟩ (.slice xK x.kids.length xd)) = q := ⟨_, rfl⟩
 have F8 : Fr w3a w3 (fun k => k = M) := by rw [← hwn]; exact Fr.six _ _ _ _ _ _ _ _
 have X8 : Ext w2 w3 := Fr.ext XA F8 (fun q hq => by rw [show q = M from hq, hM]; exact Nat.le_refl _)
 have bM3 : NBox w3 M 42 #[.int .u64 x.id, .bool x.leaf, .string x.label, .slice xA x.attrs.length xc, .string x.text, .slice xK x.kids.length xd] := by rw [← hwn]; exact bM.six _ _ _ _ _ _
 have HX8 := Lib.hid X8
 have HB23 := Lib.hid ((HB2.out.ext E2).ext X8)
 have HB03 := Lib.hid ((HB0.out.ext E2).ext X8)
 have HWA := Lib.hid hwa
 have HMM := Lib.hid hM
 have HWN := Lib.hid hwn
 have HM3 := Lib.hid bM3
 obtain ⟨y0, y1, y2, y3, y4, y5⟩ := bM.c6
 obtain ⟨z0, z1, z2, z3, z4, z5⟩ := bM.f6
 clear hwa hM hwn XA bM F8 X8 bM3 E2 hx HB2 HB0
 go_upto_region 3 with (rw [HWA.out, HMM.out]; clear HWA)
 rw [HWN.out]
 clear HWN y0 z0 y1 z1 y2 z2 y3 z3 y4 z4 y5 z5
 obtain ⟨y0, y1, y2, y3, y4, y5⟩ := HM3.out.c6
 obtain ⟨t0, t1, t2, t3, t4, t5⟩ := HB03.out.c6
 have pcell := ((HE.out.trans HE2.out).trans HX8.out).cell HPC.out
 obtain ⟨wd, hwd⟩ : ∃ d, w3.drew = d := ⟨_, rfl⟩
 have XD := Lib.hid (show Ext w3 wd from by rw [← hwd]; exact (Ext.refl w3).drew)
 have WOD := Lib.hid ((((HWO.out.ext HE.out).ext HE2.out).ext HX8.out).ext XD.out)
 have hc := drop84_any x _ i wo wd WOD.out HX.out hi hkl
 have hpb : pb < B := by have := cell_block HPC.out; rw [HBB.out] at this; exact this
 have hMB : B + 1 < M := by have h1 := HZ1.out; have h2 := HE2.out.size; have h3 := HMM.out; omega
 refine wp_region_held_drew (S := fun W => NBox W B 42 #[.int .u64 t.id, .bool t.leaf, .string t.label, .slice tA t.attrs.length tc, .string t.text, .slice tK t.kids.length td] ∧ NBox W M 42 #[.int .u64 x.id, .bool x.leaf, .string x.label, .slice xA x.attrs.length xc, .string x.text, .slice xK x.kids.length xd] ∧ W.cell? ⟨pb, po + (p.length - 1), none⟩ = some (.int .i64 (i : Int))) (by kernel_rfl) (by rw [hwd]; exact ⟨HB03.out.ext XD.out, HM3.out.ext XD.out, XD.out.cell pcell⟩) (fun hHeld => ?_)
 rw [hwd] at hHeld ⊢
 clear hwd
 refine tk 0 ?_ rfl (.inl ⟨by rfl, ?_⟩) hHeld ?_
 rotate_left
 ·intro w hSw
  obtain ⟨e0, e1, e2, e3, e4, e5⟩ := hSw.1.c6
  go_simp
  all_goals (first | with_reducible rfl | rw [if_pos (by omega)])
 try simp only [Act.put, aS]
 refine tk 1 ?_ rfl (.inl ⟨by rfl, ?_⟩) hHeld ?_
 rotate_left
 ·intro w hSw
  try dsimp only at hSw
  go_simp
  all_goals (first | with_reducible rfl | rw [if_pos (by omega)])
 try simp only [Act.put, aS]
 refine tk 2 ?_ rfl (.inl ⟨by rfl, ?_⟩) hHeld ?_
 rotate_left
 ·intro w hSw
  obtain ⟨e0, e1, e2, e3, e4, e5⟩ := hSw.2.1.c6
  go_simp
  all_goals (first | with_reducible rfl | rw [if_pos (by omega)])
 try simp only [Act.put, aS]
 refine tk 3 ?_ rfl (.inl ⟨by rfl, ?_⟩) hHeld ?_
 rotate_left
 ·intro w hSw
  try dsimp only at hSw
  go_simp
  all_goals (first | with_reducible rfl | rw [if_pos (by omega)])
 try simp only [Act.put, aS]
 refine tk 4 ?_ rfl (.inl ⟨by rfl, ?_⟩) hHeld ?_
 rotate_left
 ·intro w hSw
  try dsimp only at hSw
  go_simp
  all_goals (first | with_reducible rfl | rw [if_pos (by omega)])
 try simp only [Act.put, aS]
 refine tk 5 ?_ rfl (.inl ⟨by rfl, ?_⟩) hHeld ?_
 rotate_left
 ·intro w hSw
  try dsimp only at hSw
  go_simp
  all_goals (first | with_reducible rfl | rw [if_pos (by omega)])
 try simp only [Act.put, aS]
 refine tk 6 ?_ rfl (.inl ⟨by rfl, ?_⟩) hHeld ?_
 rotate_left
 ·intro w hSw
  try dsimp only at hSw
  go_simp
  all_goals (first | with_reducible rfl | rw [if_pos (by omega)])
 try simp only [Act.put, aS]
 refine tk 7 ?_ rfl (.inl ⟨by rfl, ?_⟩) hHeld ?_
 rotate_left
 ·intro w hSw
  try dsimp only at hSw
  go_simp
  all_goals (first | with_reducible rfl | rw [if_pos (by omega)])
 try simp only [Act.put, aS]
 refine tk 8 ?_ rfl (.inl ⟨by rfl, ?_⟩) hHeld ?_
 rotate_left
 ·intro w hSw
  have e9 := hSw.2.2
  go_simp
  all_goals (first | with_reducible rfl | rw [if_pos (by omega)])
 try simp only [Act.put, aS]
 refine wpAnyH_ready (rs := [9]) (by kernel_rfl) (by simp) ?_
 refine AllReadyH.cons (o := ⟨_, _, _, _, _, _⟩) rfl (fun K' hK => ?_) (AllReadyH.nil)
 go_simp
 go_at_call 60
 refine hc.mono ?_
 clear hc t0 y0 t1 y1 t2 y2 t3 y3 t4 y4 t5 y5 pcell
 rintro e w5 ⟨r, rfl, hL, hE5⟩
 obtain ⟨y, hy⟩ : ∃ y, delD x i = y := ⟨_, rfl⟩
 rw [hy] at hL
 have HYY := Lib.hid hy
 obtain ⟨yA, yc, yK, yd, rfl⟩ := rd_open6 (hL.now (WOD.out.ext hE5).sub)
 have HL := Lib.hid hL
 have HE5 := Lib.hid hE5
 have HW5 := Lib.hid ((((HE.out.trans HE2.out).trans HX8.out).trans XD.out).trans hE5)
 have hc := change_late t y _ _ _ up (glue wo wd w5) w5 (glue_wo WOD.out hE5) (Nd.rd_sub (glue_mine WOD.out.size hE5.size) HT.out) (hL.glue WOD.out.size hE5.size) (RdS.ext HW5.out HQ0.out) hwt
 have WOG := Lib.hid (glue_wo WOD.out hE5)
 refine hK.out _ _ (show _ ∧ _ ∧ _ from ⟨hHeld.1.ext hE5, hHeld.2.1.ext hE5, hE5.cell hHeld.2.2⟩) (fun hHeld => ?_)
 clear hK K' hE5 hL hy
 try simp only [Act.put, aS]
 refine wpAnyH_ready (rs := [10]) (by kernel_rfl) (by simp) ?_
 refine AllReadyH.cons (o := ⟨_, _, _, _, _, _⟩) rfl (fun K' hK => ?_) (AllReadyH.nil)
 go_simp
 go_at_call 42
 refine hc.mono ?_
 clear hc
 rintro e w6 ⟨r, rfl, hL2, hE6⟩
 obtain ⟨z, hz⟩ : ∃ z, (t.put up y).getD Nd.zero = z := ⟨_, rfl⟩
 rw [hz] at hL2
 have HZZ := Lib.hid hz
 obtain ⟨zA, zc, zK, zd, rfl⟩ := rd_open6 (hL2.now (WOG.out.ext hE6).sub)
 have HL2 := Lib.hid hL2
 have HE6 := Lib.hid hE6
 have HBR := Lib.hid (((HB23.out.ext XD.out).ext HE5.out).ext hE6)
 refine hK.out _ _ (show _ ∧ _ ∧ _ from ⟨hHeld.1.ext hE6, hHeld.2.1.ext hE6, hE6.cell hHeld.2.2⟩) (fun hHeld => ?_)
 clear hK K' hE6 hL2 hz
 try simp only [Act.put, aS]
 refine wpAnyH_ready (rs := [11]) (by kernel_rfl) (by simp) ?_
 refine AllReadyH.cons (o := ⟨_, _, _, _, _, _⟩) rfl (fun K' hK => ?_) (AllReadyH.nil)
 obtain ⟨k0, k1, k2, k3, k4, k5⟩ := HBR.out.c6
 obtain ⟨f0, f1, f2, f3, f4, f5⟩ := HBR.out.f6
 go_simp
 have F9 := Fr.six w6 (B + 1) (.int .u64 z.id) (.bool z.leaf) (.string z.label) (.slice zA z.attrs.length zc) (.string z.text) (.slice zK z.kids.length zd)
 have HB9 := Lib.hid (HBR.out.six (.int .u64 z.id) (.bool z.leaf) (.string z.label) (.slice zA z.attrs.length zc) (.string z.text) (.slice zK z.kids.length zd))
 have HF9 := Lib.hid F9
 have X9 := Lib.hid (Fr.ext (HW5.out.trans HE6.out) F9 (fun q hq => by rw [show q = B + 1 from hq, HBB.out]; omega))
 have hd1 := hHeld.1.fr F9 (show ¬ B = B + 1 by omega)
 have hd2 := hHeld.2.1.fr F9 (show ¬ M = B + 1 by omega)
 have hd3 := (cell_same (p := ⟨pb, po + (p.length - 1), none⟩) (F9.block pb (cell_block hHeld.2.2) (show ¬ pb = B + 1 by omega))).trans hHeld.2.2
 refine hK.out _ _ (show _ ∧ _ ∧ _ from ⟨hd1, hd2, hd3⟩) (fun hHeld => ?_)
 clear hK K' F9 hd1 hd2 hd3 k0 f0 k1 f1 k2 f2 k3 f3 k4 f4 k5 f5
 try simp only [Act.put, aS]
 refine wpAnyH_done (by kernel_rfl) ?_ _
 clear hHeld
 go_wp2_with fail
 refine bodyPost_ret (results_st rfl _ rfl HB9.out Try.underlying42 rfl info42) rfl ?_
 refine ⟨_, rfl, ?_, X9.out⟩
 rw [HYY.out, HZZ.out]
 have h1 := HZ1.out
 have h2 := ((HE2.out.trans HX8.out).trans XD.out).size
 have h3 := HE5.out.size
 have h4 := HE6.out.size
 have h5 := HBB.out
 have h6 := HF9.out.size
 exact HL2.out.deep (news_fr (news_ext (News.now _ _) HE6.out (Nat.le_refl _)) HF9.out h4 (fun q hq => .inl (by rw [show q = B + 1 from hq]; omega))) (news_fr (News.now _ _) HF9.out (Nat.le_refl _) (fun q hq => .inl (by rw [show q = B + 1 from hq]; omega))) (by omega) (by omega) (by omega) (by omega)
end Go.Proofs.Ytdnjkffmgmbfmaa.Sy
