/- SyWithout turned to this seat. (Printed by gport.py.) -/
import Derived.Test.YtofcbclokkjfjaaOyChange
import Derived.Test.YtofcbclokkjfjaaOyNdPut
import Derived.Test.YtofcbclokkjfjaaOyLxFrame
import Derived.WalkKit
import Derived.Deep.Cut
import Derived.Deep.RegionHeld3
import Derived.StillTailTactics
import Derived.BigQuiet
import Derived.IntWalk
import Derived.Test.YtofcbclokkjfjaaProg
import Derived.Test.YtofcbclokkjfjaaOyAttrAt
import Derived.Test.YtofcbclokkjfjaaOyOuOps
namespace Go.Proofs.Ytofcbclokkjfjaa.Sy
open Go.RowKit Go.Proofs.Ytofcbclokkjfjaa.Bw Go.Proofs.Ytofcbclokkjfjaa.Bs
/-- May a node come to a gap of one's children? -/
def intoE (t : Nd) (i : Int) : Int := if t.leaf then 83 else if (t.kids.length : Int) < i then 81 else 0
set_option maxRecDepth 100000 in
set_option maxHeartbeats 4000000 in
theorem into_any (t : Nd) (v : Value) (i : Int) (w : World) (ht : t.rd w v) : Calls Try.prog 74 #[v, .int .i64 i] w (Ret w fun r _ => r = .int .i64 (intoE t i)) := by
 obtain ⟨tA, tc, tK, td, rfl⟩ := rd_open6 ht
 obtain ⟨e, he⟩ : ∃ e, intoE t i = e := ⟨_, rfl⟩
 rw [he]
 unfold intoE at he
 clear ht
 rcases hl : t.leaf with _ | _
 ·rw [hl] at he
  rcases Int.lt_or_le (t.kids.length : Int) i with h | h
  ·have d1 : decide ((t.kids.length : Int) < i) = true := decide_eq_true h
   have HE : Hid (e = 81) := Lib.hid (by rw [← he]; simp [h])
   clear he hl
   go_enter Try.func74, Try.ntmps74
   go_wp2_with fail
   go_ret
   exact ⟨_, rfl, by rw [HE.out]; rfl, (Ext.refl w).alloc _⟩
  ·have d1 : decide ((t.kids.length : Int) < i) = false := decide_eq_false (by omega)
   have HE : Hid (e = 0) := Lib.hid (by rw [← he]; simp [Int.not_lt.2 h])
   clear he hl
   go_enter Try.func74, Try.ntmps74
   go_wp2_with fail
   go_ret
   exact ⟨_, rfl, by rw [HE.out]; rfl, (Ext.refl w).alloc _⟩
 ·have HE : Hid (e = 83) := Lib.hid (by rw [← he, hl]; rfl)
  clear he hl
  go_enter Try.func74, Try.ntmps74
  go_wp2_with fail
  go_ret
  exact ⟨_, rfl, by rw [HE.out]; rfl, (Ext.refl w).alloc _⟩
set_option maxRecDepth 100000 in
set_option maxHeartbeats 8000000 in
theorem without_late (t x : Nd) (v pv : Value) (p : List Int) (i : Nat) (wo w : World) (hWo : Wo wo w) (ht : t.rd wo v) (hp : RdI w p pv) (hne : p ≠ []) (hat : t.at? p.dropLast = some x) (hl : lastN p = i) (hi : i < x.kids.length) (hpl : p.length ≤ 1000000) (hwt : t.wt ≤ 1000000) (hkl : x.kids.length ≤ 1000000) :
  Calls Try.prog 66 #[v, pv] w (Ret w fun r w' => LateN wo w w' ((t.put p.dropLast (delD x i)).getD Nd.zero) r) := by
 obtain ⟨tA, tc, tK, td, rfl⟩ := rd_open6 ht
 obtain ⟨up, hup⟩ : ∃ up, p.dropLast = up := ⟨_, rfl⟩
 have hup2 : p.take (p.length - 1) = up := by rw [← hup, List.dropLast_eq_take]
 rw [hup] at hat ⊢
 obtain ⟨w1, hw1⟩ : ∃ W, (w.alloc (.cells #[.int .u64 t.id, .bool t.leaf, .string t.label, .slice tA t.attrs.length tc, .string t.text, .slice tK t.kids.length td] 26)).alloc (.cells #[.int .u64 0, .bool false, .string ⟨#[]⟩, .slice none 0 0, .string ⟨#[]⟩, .slice none 0 0] 26) = W := ⟨_, rfl⟩
 obtain ⟨B, hB⟩ : ∃ B, w.heap.size = B := ⟨_, rfl⟩
 have s1 : (w.alloc (.cells #[.int .u64 t.id, .bool t.leaf, .string t.label, .slice tA t.attrs.length tc, .string t.text, .slice tK t.kids.length td] 26)).heap.size = B + 1 := by rw [World.size_alloc, hB]
 have E1 : Ext w w1 := by rw [← hw1]; exact ((Ext.refl w).alloc _).alloc _
 have z1 : w1.heap.size = B + 1 + 1 := by rw [← hw1, World.size_alloc, s1]
 have b0 : NBox w1 B 26 #[.int .u64 t.id, .bool t.leaf, .string t.label, .slice tA t.attrs.length tc, .string t.text, .slice tK t.kids.length td] := by rw [← hw1, ← hB]; exact (NBox.new w 26 _).ext ((Ext.refl _).alloc _)
 have b2 : NBox w1 (B + 1) 26 #[.int .u64 0, .bool false, .string ⟨#[]⟩, .slice none 0 0, .string ⟨#[]⟩, .slice none 0 0] := by rw [← hw1, ← s1]; exact NBox.new _ 26 _
 have hpos : 0 < p.length := List.length_pos_iff.2 hne
 have hcell0 : ∃ b o c, pv = .slice (some ⟨b, o, none⟩) p.length c ∧ p.length ≤ c ∧ c ≤ maxLen ∧ w.cell? ⟨b, o + (p.length - 1), none⟩ = some (.int .i64 (i : Int)) := by
  obtain ⟨A, c, rfl, -, h1, h2, h3⟩ := hp
  obtain ⟨b, o, rfl, h4⟩ := h3 hpos
  exact ⟨b, o, c, rfl, h1, h2, h4 _ _ (by rw [List.getElem?_map, last_at hne, hl]; rfl)⟩
 obtain ⟨pb, po, pc, rfl, pc1, pc2, pcell⟩ := hcell0
 unfold maxLen at pc2
 have hq0 : RdI w up (.slice (some ⟨pb, po, none⟩) (p.length - 1) pc) := by rw [← hup2]; exact RdI.take hp (p.length - 1) (by omega)
 have hul : up.length = p.length - 1 := by rw [← hup2, List.length_take]; omega
 have hc := rat_sub t _ up _ wo w1 (hWo.ext E1).sub ht (RdS.ext E1 hq0)
 have HQ0 := Lib.hid hq0
 have HPC := Lib.hid pcell
 have HW1 := Lib.hid hw1
 have HBB := Lib.hid hB
 have HB0 := Lib.hid b0
 have HB2 := Lib.hid b2
 have HE := Lib.hid E1
 have HWO := Lib.hid hWo
 have HZ1 := Lib.hid z1
 have HT := Lib.hid ht
 have HAT := Lib.hid hat
 obtain ⟨t0, t1, t2, t3, t4, t5⟩ := b0.c6
 have q1 : (1 : Int) ≤ (p.length : Int) := by omega
 have q2 : (0 : Int) ≤ (p.length : Int) - 1 := by omega
 have q3 : (p.length : Int) - 1 < (p.length : Int) := by omega
 have q4 : ((p.length : Int) - 1).toNat = p.length - 1 := by omega
 have q5 : p.length - 1 ≤ pc := by omega
 have q6 : (p.length : Int) - 1 ≤ (pc : Int) := by omega
 have q7 : IntKind.i64.wrap ((p.length : Int) - 1) = (p.length : Int) - 1 := IntWalk.i64_in _ (by omega)
 have q8 : p.length - 1 < p.length := by omega
 clear hw1 hB s1 E1 b0 b2 z1 hWo ht hp hne hat hl hup hup2 hq0 pcell hul
 go_enter Try.func66, Try.ntmps66
 go_upto_region 1 with fail
 rw [HW1.out, HBB.out]
 clear HW1
 go_wp2_with fail
 refine hc.mono ?_
 clear hc t0 t1 t2 t3 t4 t5
 rintro e w2 ⟨r, rfl, ⟨xv, rfl, hx⟩, E2⟩
 rw [HAT.out] at hx ⊢
 replace hx : x.rd wo xv := hx
 obtain ⟨xA, xc, xK, xd, rfl⟩ := rd_open6 hx
 have HX := Lib.hid hx
 have HE2 := Lib.hid E2
 obtain ⟨w3a, hwa⟩ : ∃ q, w2.alloc (.cells #[.int .u64 0, .bool false, .string ⟨#[]⟩, .slice none 0 0, .string ⟨#[]⟩, .slice none 0 0] 26) = q := ⟨_, rfl⟩
 obtain ⟨M, hM⟩ : ∃ q, w2.heap.size = q := ⟨_, rfl⟩
 have XA : Ext w2 w3a := by rw [← hwa]; exact (Ext.refl _).alloc _
 have bM : NBox w3a M 26 #[.int .u64 0, .bool false, .string ⟨#[]⟩, .slice none 0 0, .string ⟨#[]⟩, .slice none 0 0] := by rw [← hwa, ← hM]; exact NBox.new _ _ _
 obtain ⟨w3, hwn⟩ : ∃ q, (World.setCell (World.setCell (World.setCell (World.setCell (World.setCell (World.setCell w3a ⟨M, 0, none⟩ (.int .u64 x.id)) ⟨M, 1, none⟩ (.bool x.leaf)) ⟨M, 2, none⟩ (.string x.label)) ⟨M, 3, none⟩ (.slice xA x.attrs.length xc)) ⟨M, 4, none⟩ (.string x.text)) ⟨M, 5, none⟩ (.slice xK x.kids.length xd)) = q := ⟨_, rfl⟩
 have F8 : Fr w3a w3 (fun k => k = M) := by rw [← hwn]; exact Fr.six _ _ _ _ _ _ _ _
 have X8 : Ext w2 w3 := Fr.ext XA F8 (fun q hq => by rw [show q = M from hq, hM]; exact Nat.le_refl _)
 have bM3 : NBox w3 M 26 #[.int .u64 x.id, .bool x.leaf, .string x.label, .slice xA x.attrs.length xc, .string x.text, .slice xK x.kids.length xd] := by rw [← hwn]; exact bM.six _ _ _ _ _ _
 have HX8 := Lib.hid X8
 have HB23 := Lib.hid ((HB2.out.ext E2).ext X8)
 have HB03 := Lib.hid ((HB0.out.ext E2).ext X8)
 have HWA := Lib.hid hwa
 have HMM := Lib.hid hM
 have HWN := Lib.hid hwn
 have HM3 := Lib.hid bM3
 obtain ⟨y0, y1, y2, y3, y4, y5⟩ := bM.c6
 obtain ⟨z0, z1, z2, z3, z4, z5⟩ := bM.f6
 clear hwa hM hwn XA bM F8 X8 bM3 E2 hx HB2 HB0
 go_upto_region 3 with (rw [HWA.out, HMM.out]; clear HWA)
 rw [HWN.out]
 clear HWN y0 z0 y1 z1 y2 z2 y3 z3 y4 z4 y5 z5
 obtain ⟨y0, y1, y2, y3, y4, y5⟩ := HM3.out.c6
 obtain ⟨t0, t1, t2, t3, t4, t5⟩ := HB03.out.c6
 have pcell := ((HE.out.trans HE2.out).trans HX8.out).cell HPC.out
 obtain ⟨wd, hwd⟩ : ∃ d, w3.drew = d := ⟨_, rfl⟩
 have XD := Lib.hid (show Ext w3 wd from by rw [← hwd]; exact (Ext.refl w3).drew)
 have WOD := Lib.hid ((((HWO.out.ext HE.out).ext HE2.out).ext HX8.out).ext XD.out)
 have hc := drop84_any x _ i wo wd WOD.out HX.out hi hkl
 have hpb : pb < B := by have := cell_block HPC.out; rw [HBB.out] at this; exact this
 have hMB : B + 1 < M := by have h1 := HZ1.out; have h2 := HE2.out.size; have h3 := HMM.out; omega
 refine wp_region_held_drew (S := fun W => NBox W B 26 #[.int .u64 t.id, .bool t.leaf, .string t.label, .slice tA t.attrs.length tc, .string t.text, .slice tK t.kids.length td] ∧ NBox W M 26 #[.int .u64 x.id, .bool x.leaf, .string x.label, .slice xA x.attrs.length xc, .string x.text, .slice xK x.kids.length xd] ∧ W.cell? ⟨pb, po + (p.length - 1), none⟩ = some (.int .i64 (i : Int))) (by kernel_rfl) (by rw [hwd]; exact ⟨HB03.out.ext XD.out, HM3.out.ext XD.out, XD.out.cell pcell⟩) (fun hHeld => ?_)
 rw [hwd] at hHeld ⊢
 clear hwd
 refine tk 0 ?_ rfl (.inl ⟨by rfl, ?_⟩) hHeld ?_
 rotate_left
 ·intro w hSw
  obtain ⟨e0, e1, e2, e3, e4, e5⟩ := hSw.1.c6
  go_simp
  all_goals (first | with_reducible rfl | rw [if_pos (by omega)])
 try simp only [Act.put, aS]
 refine tk 1 ?_ rfl (.inl ⟨by rfl, ?_⟩) hHeld ?_
 rotate_left
 ·intro w hSw
  try dsimp only at hSw
  go_simp
  all_goals (first | with_reducible rfl | rw [if_pos (by omega)])
 try simp only [Act.put, aS]
 refine tk 2 ?_ rfl (.inl ⟨by rfl, ?_⟩) hHeld ?_
 rotate_left
 ·intro w hSw
  obtain ⟨e0, e1, e2, e3, e4, e5⟩ := hSw.2.1.c6
  go_simp
  all_goals (first | with_reducible rfl | rw [if_pos (by omega)])
 try simp only [Act.put, aS]
 refine tk 3 ?_ rfl (.inl ⟨by rfl, ?_⟩) hHeld ?_
 rotate_left
 ·intro w hSw
  try dsimp only at hSw
  go_simp
  all_goals (first | with_reducible rfl | rw [if_pos (by omega)])
 try simp only [Act.put, aS]
 refine tk 4 ?_ rfl (.inl ⟨by rfl, ?_⟩) hHeld ?_
 rotate_left
 ·intro w hSw
  try dsimp only at hSw
  go_simp
  all_goals (first | with_reducible rfl | rw [if_pos (by omega)])
 try simp only [Act.put, aS]
 refine tk 5 ?_ rfl (.inl ⟨by rfl, ?_⟩) hHeld ?_
 rotate_left
 ·intro w hSw
  try dsimp only at hSw
  go_simp
  all_goals (first | with_reducible rfl | rw [if_pos (by omega)])
 try simp only [Act.put, aS]
 refine tk 6 ?_ rfl (.inl ⟨by rfl, ?_⟩) hHeld ?_
 rotate_left
 ·intro w hSw
  try dsimp only at hSw
  go_simp
  all_goals (first | with_reducible rfl | rw [if_pos (by omega)])
 try simp only [Act.put, aS]
 refine tk 7 ?_ rfl (.inl ⟨by rfl, ?_⟩) hHeld ?_
 rotate_left
 ·intro w hSw
  try dsimp only at hSw
  go_simp
  all_goals (first | with_reducible rfl | rw [if_pos (by omega)])
 try simp only [Act.put, aS]
 refine tk 8 ?_ rfl (.inl ⟨by rfl, ?_⟩) hHeld ?_
 rotate_left
 ·intro w hSw
  have e9 := hSw.2.2
  go_simp
  all_goals (first | with_reducible rfl | rw [if_pos (by omega)])
 try simp only [Act.put, aS]
 refine wpAnyH_ready (rs := [9]) (by kernel_rfl) (by simp) ?_
 refine AllReadyH.cons (o := ⟨_, _, _, _, _, _⟩) rfl (fun K' hK => ?_) (AllReadyH.nil)
 go_simp
 go_at_call 77
 refine hc.mono ?_
 clear hc t0 y0 t1 y1 t2 y2 t3 y3 t4 y4 t5 y5 pcell
 rintro e w5 ⟨r, rfl, hL, hE5⟩
 obtain ⟨y, hy⟩ : ∃ y, delD x i = y := ⟨_, rfl⟩
 rw [hy] at hL
 have HYY := Lib.hid hy
 obtain ⟨yA, yc, yK, yd, rfl⟩ := rd_open6 (hL.now (WOD.out.ext hE5).sub)
 have HL := Lib.hid hL
 have HE5 := Lib.hid hE5
 have HW5 := Lib.hid ((((HE.out.trans HE2.out).trans HX8.out).trans XD.out).trans hE5)
 have hc := change_late t y _ _ _ up (glue wo wd w5) w5 (glue_wo WOD.out hE5) (Nd.rd_sub (glue_mine WOD.out.size hE5.size) HT.out) (hL.glue WOD.out.size hE5.size) (RdS.ext HW5.out HQ0.out) hwt
 have WOG := Lib.hid (glue_wo WOD.out hE5)
 refine hK.out _ _ (show _ ∧ _ ∧ _ from ⟨hHeld.1.ext hE5, hHeld.2.1.ext hE5, hE5.cell hHeld.2.2⟩) (fun hHeld => ?_)
 clear hK K' hE5 hL hy
 try simp only [Act.put, aS]
 refine wpAnyH_ready (rs := [10]) (by kernel_rfl) (by simp) ?_
 refine AllReadyH.cons (o := ⟨_, _, _, _, _, _⟩) rfl (fun K' hK => ?_) (AllReadyH.nil)
 go_simp
 go_at_call 64
 refine hc.mono ?_
 clear hc
 rintro e w6 ⟨r, rfl, hL2, hE6⟩
 obtain ⟨z, hz⟩ : ∃ z, (t.put up y).getD Nd.zero = z := ⟨_, rfl⟩
 rw [hz] at hL2
 have HZZ := Lib.hid hz
 obtain ⟨zA, zc, zK, zd, rfl⟩ := rd_open6 (hL2.now (WOG.out.ext hE6).sub)
 have HL2 := Lib.hid hL2
 have HE6 := Lib.hid hE6
 have HBR := Lib.hid (((HB23.out.ext XD.out).ext HE5.out).ext hE6)
 refine hK.out _ _ (show _ ∧ _ ∧ _ from ⟨hHeld.1.ext hE6, hHeld.2.1.ext hE6, hE6.cell hHeld.2.2⟩) (fun hHeld => ?_)
 clear hK K' hE6 hL2 hz
 try simp only [Act.put, aS]
 refine wpAnyH_ready (rs := [11]) (by kernel_rfl) (by simp) ?_
 refine AllReadyH.cons (o := ⟨_, _, _, _, _, _⟩) rfl (fun K' hK => ?_) (AllReadyH.nil)
 obtain ⟨k0, k1, k2, k3, k4, k5⟩ := HBR.out.c6
 obtain ⟨f0, f1, f2, f3, f4, f5⟩ := HBR.out.f6
 go_simp
 have F9 := Fr.six w6 (B + 1) (.int .u64 z.id) (.bool z.leaf) (.string z.label) (.slice zA z.attrs.length zc) (.string z.text) (.slice zK z.kids.length zd)
 have HB9 := Lib.hid (HBR.out.six (.int .u64 z.id) (.bool z.leaf) (.string z.label) (.slice zA z.attrs.length zc) (.string z.text) (.slice zK z.kids.length zd))
 have HF9 := Lib.hid F9
 have X9 := Lib.hid (Fr.ext (HW5.out.trans HE6.out) F9 (fun q hq => by rw [show q = B + 1 from hq, HBB.out]; omega))
 have hd1 := hHeld.1.fr F9 (show ¬ B = B + 1 by omega)
 have hd2 := hHeld.2.1.fr F9 (show ¬ M = B + 1 by omega)
 have hd3 := (cell_same (p := ⟨pb, po + (p.length - 1), none⟩) (F9.block pb (cell_block hHeld.2.2) (show ¬ pb = B + 1 by omega))).trans hHeld.2.2
 refine hK.out _ _ (show _ ∧ _ ∧ _ from ⟨hd1, hd2, hd3⟩) (fun hHeld => ?_)
 clear hK K' F9 hd1 hd2 hd3 k0 f0 k1 f1 k2 f2 k3 f3 k4 f4 k5 f5
 try simp only [Act.put, aS]
 refine wpAnyH_done (by kernel_rfl) ?_ _
 clear hHeld
 go_wp2_with fail
 refine bodyPost_ret (results_st rfl _ rfl HB9.out Try.underlying26 rfl info42) rfl ?_
 refine ⟨_, rfl, ?_, X9.out⟩
 rw [HYY.out, HZZ.out]
 have h1 := HZ1.out
 have h2 := ((HE2.out.trans HX8.out).trans XD.out).size
 have h3 := HE5.out.size
 have h4 := HE6.out.size
 have h5 := HBB.out
 have h6 := HF9.out.size
 exact HL2.out.deep (news_fr (news_ext (News.now _ _) HE6.out (Nat.le_refl _)) HF9.out h4 (fun q hq => .inl (by rw [show q = B + 1 from hq]; omega))) (news_fr (News.now _ _) HF9.out (Nat.le_refl _) (fun q hq => .inl (by rw [show q = B + 1 from hq]; omega))) (by omega) (by omega) (by omega) (by omega)
end Go.Proofs.Ytofcbclokkjfjaa.Sy
namespace Go.Proofs.Ytofcbclokkjfjaa.Sy
open Go.RowKit Go.Proofs.Ytofcbclokkjfjaa.Bw Go.Proofs.Ytofcbclokkjfjaa.Bs
/-- A node with another label; with another text. -/
def labT (t : Nd) (s : ByteArray) : Nd := .mk t.id t.leaf s t.attrs t.text t.kids
def txtT (t : Nd) (s : ByteArray) : Nd := .mk t.id t.leaf t.label t.attrs s t.kids
/-- Is it refused, and why? -/
def validD (t : Nd) (o : OpD) : Int :=
 if t.right = false then 2
 else if o.formed = false then 80
 else if (o.kind = 2 ∨ o.kind = 3) ∧ o.path = [] then 82
 else match t.at? o.path with
  | none => 81
  | some x =>
   if o.kind = 1 then intoE x o.at_
   else if o.kind = 3 then
    (if within o.path o.to then 84 else match t.at? o.to with
     | none => 81
     | some y => intoE y o.at_)
   else if o.kind = 6 then (if x.leaf = false then 83 else apE x.text o.pcs)
   else 0
/-- A tree without the node at a path. -/
def withoutD (t : Nd) (p : List Int) : Nd := (t.put p.dropLast (delD ((t.at? p.dropLast).getD Nd.zero) (lastN p).toNat)).getD Nd.zero
/-- Where the node of a move stands when it has been put. -/
def fromD (o : OpD) : List Int :=
 if o.to.length < o.path.length ∧ within o.to o.path = true ∧ o.at_ ≤ o.path.getD o.to.length 0 then o.path.set o.to.length (o.path.getD o.to.length 0 + 1) else o.path
def moveD (t : Nd) (o : OpD) : Nd :=
 withoutD ((t.put o.to (insD ((t.at? o.to).getD Nd.zero) o.at_.toNat ((t.at? o.path).getD Nd.zero))).getD Nd.zero) (fromD o)
def newD (o : OpD) : Nd := .mk o.id o.leaf o.label [] ⟨#[]⟩ []
/-- A tree behind an operation that is valid. -/
def doD (t : Nd) (o : OpD) : Nd :=
 let x := (t.at? o.path).getD Nd.zero
 if o.kind = 1 then (t.put o.path (insD x o.at_.toNat (newD o))).getD Nd.zero
 else if o.kind = 2 then withoutD t o.path
 else if o.kind = 3 then moveD t o
 else if o.kind = 4 then (t.put o.path (attrT x o)).getD Nd.zero
 else if o.kind = 5 then (t.put o.path (labT x o.label)).getD Nd.zero
 else (t.put o.path (txtT x (apS x.text o.pcs))).getD Nd.zero
def applyD (t : Nd) (o : OpD) : Nd × Int := if validD t o = 0 then (doD t o, 0) else (Nd.zero, validD t o)
/-- All of a list, one by one: the tree, how many, and why it stopped. -/
def allGo (t : Nd) : Nat → List OpD → Nd × Nat × Int
 | n, [] => (t, n, 0)
 | n, o :: r => if validD t o = 0 then allGo (doD t o) (n + 1) r else (Nd.zero, n, validD t o)
def allD (t : Nd) (l : List OpD) : Nd × Nat × Int := if t.right = false then (Nd.zero, 0, 2) else allGo t 0 l
end Go.Proofs.Ytofcbclokkjfjaa.Sy
namespace Go.Proofs.Ytofcbclokkjfjaa.Bw
open Go.RowKit
theorem put_split {t x a : Nd} {i : Int} {p : List Int} (h : t.put (i :: p) x = some a) : ∃ (m : Nat) (k k' : Nd), i = m ∧ t.kids[m]? = some k ∧ k.put p x = some k' ∧ a = t.withKids (t.kids.set m k') := by
  by_cases hc : i < 0 ∨ (t.kids.length : Int) ≤ i
  · rw [put_out hc] at h; cases h
  · obtain ⟨m, rfl⟩ := Int.eq_ofNat_of_zero_le (show 0 ≤ i by omega)
    obtain ⟨k, hk⟩ : ∃ k, t.kids[m]? = some k := ⟨_, List.getElem?_eq_getElem (by omega)⟩
    cases hp : k.put p x with
    | none => rw [put_none hk hp] at h; cases h
    | some k' =>
      rw [put_some hk hp] at h
      cases h
      exact ⟨m, k, k', rfl, hk, hp, rfl⟩
theorem withKids_kids (t : Nd) (l : List Nd) : (t.withKids l).kids = l := rfl
theorem withKids_self (t : Nd) : t.withKids t.kids = t := by cases t; rfl
theorem withKids_twice (t : Nd) (l m : List Nd) : (t.withKids l).withKids m = t.withKids m := rfl
theorem put_back : ∀ (p : List Int) (t x a b : Nd), t.put p x = some a → t.at? p = some b → a.put p b = some t
  | [], t, x, a, b, h, hb => by rw [at_nil] at hb; cases hb; exact put_nil
  | i :: p, t, x, a, b, h, hb => by
    obtain ⟨m, k, k', rfl, hk, hp, rfl⟩ := put_split h
    have hm := (List.getElem?_eq_some_iff.1 hk).1
    rw [at_some (by omega) (by rw [Int.toNat_natCast]; exact hk)] at hb
    have hr := put_back p k x k' b hp hb
    rw [put_some (t := t.withKids (t.kids.set m k')) (k := k') (k' := k) (by rw [withKids_kids]; simp [hm]) hr, withKids_twice, withKids_kids, List.set_set]
    have : t.kids.set m k = t.kids := by
      apply List.ext_getElem?
      intro j
      rw [List.getElem?_set]
      split
      · rename_i hj; subst hj; rw [hk]
      · rfl
    rw [this, withKids_self]
theorem cntK_set : ∀ (l : List Nd) (m : Nat) (k k' : Nd), l[m]? = some k → cntK (l.set m k') + k.cnt = cntK l + k'.cnt
  | y :: r, 0, k, k', h => by
    simp only [List.getElem?_cons_zero, Option.some.injEq] at h
    subst h
    rw [List.set_cons_zero, cntK, cntK]; omega
  | y :: r, m + 1, k, k', h => by
    have := cntK_set r m k k' (by simpa using h)
    rw [List.set_cons_succ, cntK, cntK]; omega
theorem wtK_set : ∀ (l : List Nd) (m : Nat) (k k' : Nd), l[m]? = some k → wtK (l.set m k') + k.wt = wtK l + k'.wt
  | y :: r, 0, k, k', h => by
    simp only [List.getElem?_cons_zero, Option.some.injEq] at h
    subst h
    rw [List.set_cons_zero, wtK, wtK]; omega
  | y :: r, m + 1, k, k', h => by
    have := wtK_set r m k k' (by simpa using h)
    rw [List.set_cons_succ, wtK, wtK]; omega
theorem put_cnt : ∀ (p : List Int) (t x a b : Nd), t.put p x = some a → t.at? p = some b → a.cnt + b.cnt = t.cnt + x.cnt
  | [], t, x, a, b, h, hb => by rw [at_nil] at hb; rw [put_nil] at h; cases hb; cases h; omega
  | i :: p, t, x, a, b, h, hb => by
    obtain ⟨m, k, k', rfl, hk, hp, rfl⟩ := put_split h
    rw [at_some (by omega) (by rw [Int.toNat_natCast]; exact hk)] at hb
    have h1 := put_cnt p k x k' b hp hb
    have h2 := cntK_set t.kids m k k' hk
    rw [Nd.cnt_eq (t.withKids _), withKids_kids, Nd.cnt_eq t]
    omega
theorem put_wt : ∀ (p : List Int) (t x a b : Nd), t.put p x = some a → t.at? p = some b → a.wt + b.wt = t.wt + x.wt
  | [], t, x, a, b, h, hb => by rw [at_nil] at hb; rw [put_nil] at h; cases hb; cases h; omega
  | i :: p, t, x, a, b, h, hb => by
    obtain ⟨m, k, k', rfl, hk, hp, rfl⟩ := put_split h
    rw [at_some (by omega) (by rw [Int.toNat_natCast]; exact hk)] at hb
    have h1 := put_wt p k x k' b hp hb
    have h2 := wtK_set t.kids m k k' hk
    rw [Nd.wt_eq (t.withKids _), withKids_kids, Nd.wt_eq t]
    show 1 + t.label.size + t.text.size + wtA t.attrs + _ + _ = _
    omega
end Go.Proofs.Ytofcbclokkjfjaa.Bw
namespace Go.Proofs.Ytofcbclokkjfjaa.Sy
open Go.RowKit Go.Proofs.Ytofcbclokkjfjaa.Bw Go.Proofs.Ytofcbclokkjfjaa.Bs
theorem at_step {t c : Nd} {m : Nat} {p : List Int} (h : t.kids[m]? = some c) : t.at? ((m : Int) :: p) = c.at? p := at_some (by omega) (by rw [Int.toNat_natCast]; exact h)
theorem at_snoc : ∀ (p : List Int) (i : Int) {t x : Nd}, t.at? (p ++ [i]) = some x → ∃ (m : Nat) (b : Nd), i = m ∧ t.at? p = some b ∧ b.kids[m]? = some x
 | [], i, t, x, h => by
  obtain ⟨m, c, rfl, hk, hc⟩ := at_split (show t.at? (i :: []) = some x from h)
  rw [at_nil] at hc
  cases hc
  exact ⟨m, t, rfl, at_nil, hk⟩
 | j :: p, i, t, x, h => by
  obtain ⟨m, c, rfl, hk, hc⟩ := at_split (show t.at? (j :: (p ++ [i])) = some x from h)
  obtain ⟨m', b, rfl, hb, hx⟩ := at_snoc p i hc
  exact ⟨m', b, rfl, by rw [at_step hk]; exact hb, hx⟩
theorem at_wt : ∀ (p : List Int) {t b : Nd}, t.at? p = some b → b.wt ≤ t.wt
 | [], t, b, h => by rw [at_nil] at h; cases h; exact Nat.le_refl _
 | i :: p, t, b, h => by
  obtain ⟨m, c, rfl, hk, hc⟩ := at_split h
  have h1 := at_wt p hc
  have h2 := wtK_mem (List.mem_of_getElem? hk)
  rw [Nd.wt_eq t]
  omega
theorem put_is {p : List Int} {t b : Nd} (x : Nd) (h : t.at? p = some b) : ∃ a, t.put p x = some a := by
 have := at_put p t x
 rw [h] at this
 exact Option.isSome_iff_exists.1 this.symm
theorem ins_kids (n : Nd) (i : Nat) (x : Nd) : (insD n i x).kids = n.kids.take i ++ [x] ++ n.kids.drop i := rfl
theorem del_kids (n : Nd) (i : Nat) : (delD n i).kids = n.kids.take i ++ n.kids.drop (i + 1) := rfl
theorem ins_lt {n x : Nd} {i j : Nat} (hi : i ≤ n.kids.length) (h : j < i) : (insD n i x).kids[j]? = n.kids[j]? := by
 rw [ins_kids, List.append_assoc, List.getElem?_append_left (by rw [List.length_take]; omega), List.getElem?_take_of_lt h]
theorem ins_gt {n x : Nd} {i j : Nat} (hi : i ≤ n.kids.length) (h : i ≤ j) : (insD n i x).kids[j + 1]? = n.kids[j]? := by
 rw [ins_kids, List.append_assoc, List.getElem?_append_right (by rw [List.length_take]; omega)]
 have : j + 1 - (n.kids.take i).length = (j - i) + 1 := by rw [List.length_take]; omega
 rw [this, List.singleton_append, List.getElem?_cons_succ, List.getElem?_drop]
 congr 1
 omega
theorem wtK_app : ∀ a b : List Nd, wtK (a ++ b) = wtK a + wtK b
 | [], b => by rw [List.nil_append, wtK]; omega
 | k :: r, b => by rw [List.cons_append, wtK, wtK, wtK_app r b]; omega
theorem ins_wt (n : Nd) (i : Nat) (x : Nd) : (insD n i x).wt = n.wt + x.wt := by
 have h := wtK_app (n.kids.take i) (n.kids.drop i)
 rw [List.take_append_drop] at h
 rw [Nd.wt_eq, Nd.wt_eq n, ins_kids, wtK_app, wtK_app, h]
 show 1 + n.label.size + n.text.size + wtA n.attrs + (_ + wtK [x] + _) = _
 have : wtK [x] = x.wt := by rw [wtK, wtK]; omega
 omega
theorem del_wt {n x : Nd} {i : Nat} (hx : n.kids[i]? = some x) : (delD n i).wt + x.wt = n.wt := by
 obtain ⟨hi, hx⟩ := List.getElem?_eq_some_iff.1 hx
 have e : n.kids.drop i = x :: n.kids.drop (i + 1) := by rw [← hx]; exact List.drop_eq_getElem_cons hi
 have h := wtK_app (n.kids.take i) (n.kids.drop i)
 rw [List.take_append_drop, e, wtK] at h
 rw [Nd.wt_eq, Nd.wt_eq n, del_kids, wtK_app, h]
 show 1 + n.label.size + n.text.size + wtA n.attrs + _ + _ = _
 omega
theorem less_eq : ∀ x y : List UInt8, Op.bytesLess x y = decide (x < y)
 | [], [] => by simp [Op.bytesLess]
 | [], b :: y => by simp [Op.bytesLess]
 | a :: x, [] => by simp [Op.bytesLess]
 | a :: x, b :: y => by
  have ih := less_eq x y
  by_cases h1 : a < b <;> by_cases h2 : a = b <;> by_cases h3 : x < y <;> simp [Op.bytesLess, ih, List.cons_lt_cons_iff, h1, h2, h3]
theorem less_irr (x : List UInt8) : Op.bytesLess x x = false := by rw [less_eq]; exact decide_eq_false (List.lt_irrefl x)
def keyNe (k : ByteArray) (a : Atr) : Bool := !(a.1.toList == k.toList)
theorem atS_done (k v : ByteArray) : ∀ l : List Atr, atS k v l true = l.filter (keyNe k)
 | [] => rfl
 | a :: r => by
  rw [atS, List.filter_cons]
  simp only [Bool.not_true, Bool.false_and, Bool.false_eq_true, if_false, List.nil_append, Bool.true_or, atS_done k v r]
  unfold keyNe
  cases a.1.toList == k.toList <;> rfl
theorem ne_of_less {a : Atr} {k : ByteArray} (h : geS a.1 k = false) : (a.1.toList == k.toList) = false := by
 rw [beq_eq_false_iff_ne]
 intro e
 unfold geS at h
 rw [e, less_irr] at h
 cases h
theorem atS_ge {k v : ByteArray} {a : Atr} {r : List Atr} (h : geS a.1 k = true) : atS k v (a :: r) false = (k, v) :: (a :: r).filter (keyNe k) := by
 rw [atS, h]
 simp only [Bool.not_false, Bool.true_and, if_true, Bool.or_true, atS_done, List.filter_cons]
 unfold keyNe
 cases a.1.toList == k.toList <;> rfl
theorem atS_lt {k v : ByteArray} {a : Atr} {r : List Atr} {d : Bool} (h : geS a.1 k = false) : atS k v (a :: r) d = a :: atS k v r d := by
 rw [atS, h, ne_of_less h]
 cases d <;> rfl
end Go.Proofs.Ytofcbclokkjfjaa.Sy
namespace Go.Proofs.Ytofcbclokkjfjaa.Sy
open Go.RowKit Go.Proofs.Ytofcbclokkjfjaa.Bw Go.Proofs.Ytofcbclokkjfjaa.Bs
theorem within_cons (a b : Int) (p q : List Int) : within (a :: p) (b :: q) = (decide (b = a) && within p q) := by
 unfold within
 simp only [List.length_cons, List.take_succ_cons, List.cons.injEq]
 by_cases h1 : b = a <;> by_cases h2 : p.length ≤ q.length <;> by_cases h3 : q.take p.length = p <;> simp [h1, h2, h3]
def shP (du : List Int) (i : Int) (p : List Int) : List Int :=
 if du.length < p.length ∧ within du p = true ∧ i ≤ p.getD du.length 0 then p.set du.length (p.getD du.length 0 + 1) else p
theorem from_sh (o : OpD) : fromD o = shP o.to o.at_ o.path := rfl
theorem sh_cons (a : Int) (du : List Int) (i : Int) (q : List Int) : shP (a :: du) i (a :: q) = a :: shP du i q := by
 unfold shP
 rw [within_cons]
 simp only [List.length_cons, Nat.add_lt_add_iff_right, decide_true, Bool.true_and, List.getD_cons_succ, List.set_cons_succ]
 split <;> rfl
theorem sh_len (du : List Int) (i : Int) (p : List Int) : (shP du i p).length = p.length := by
 unfold shP
 split
 ·rw [List.length_set]
 ·rfl
theorem shift_at : ∀ (du p : List Int) {t n y x m : Nd} {i : Nat}, t.at? du = some n → t.put du (insD n i x) = some m → i ≤ n.kids.length → within p du = false → t.at? p = some y → m.at? (shP du i p) = some y
 | [], p, t, n, y, x, m, i, hn, hm, hi, hw, hy => by
  rw [at_nil] at hn
  rw [Bw.put_nil] at hm
  cases hn
  cases hm
  cases p with
  | nil => rw [within_nil] at hw; cases hw
  | cons j q =>
   obtain ⟨k, c, rfl, hk, hc⟩ := at_split hy
   unfold shP
   rw [within_nil]
   rcases Nat.lt_or_ge k i with hlt | hge
   ·rw [if_neg (by simp only [List.length_nil, List.getD_cons_zero]; omega), at_step (c := c) (by rw [ins_lt hi hlt]; exact hk)]
    exact hc
   ·rw [if_pos ⟨by simp, rfl, by simp only [List.length_nil, List.getD_cons_zero]; omega⟩]
    simp only [List.length_nil, List.getD_cons_zero, List.set_cons_zero]
    rw [show ((k : Int) + 1) = ((k + 1 : Nat) : Int) by omega, at_step (c := c) (by rw [ins_gt hi hge]; exact hk)]
    exact hc
 | a :: du, p, t, n, y, x, m, i, hn, hm, hi, hw, hy => by
  obtain ⟨ka, c, rfl, hk, hc⟩ := at_split hn
  obtain ⟨ka', c', d, he, hk', hp, rfl⟩ := put_split hm
  obtain rfl : ka = ka' := by omega
  rw [hk] at hk'
  cases hk'
  have hka := (List.getElem?_eq_some_iff.1 hk).1
  cases p with
  | nil => rw [within_nil] at hw; cases hw
  | cons j q =>
   obtain ⟨kj, e, rfl, hj, he2⟩ := at_split hy
   by_cases hkj : kj = ka
   ·subst hkj
    rw [hk] at hj
    cases hj
    rw [within_cons] at hw
    simp only [decide_true, Bool.true_and] at hw
    rw [sh_cons, at_step (c := d) (by rw [withKids_kids]; simp [hka])]
    exact shift_at du q hc hp hi hw he2
   ·have hsh : shP ((ka : Int) :: du) i ((kj : Int) :: q) = (kj : Int) :: q := by
     unfold shP
     rw [within_cons, if_neg]
     rintro ⟨-, h, -⟩
     rw [Bool.and_eq_true, decide_eq_true_eq] at h
     omega
    rw [hsh, at_step (c := e) (by rw [withKids_kids, List.getElem?_set, if_neg (fun h => hkj h.symm)]; exact hj)]
    exact he2
theorem snoc_of {p : List Int} (h : p ≠ []) : p = p.dropLast ++ [lastN p] := by
 have h1 := List.dropLast_concat_getLast h
 rw [← h1]
 congr 2
 ·rw [h1]
 ·unfold lastN
  rw [h1, List.getLastD_eq_getLast?, List.getLast?_eq_some_getLast h]
  rfl
theorem without_is {t x : Nd} {p : List Int} (hne : p ≠ []) (hx : t.at? p = some x) : ∃ (k : Nat) (z : Nd), lastN p = k ∧ t.at? p.dropLast = some z ∧ z.kids[k]? = some x ∧ withoutD t p = (t.put p.dropLast (delD z k)).getD Nd.zero ∧ (withoutD t p).wt + x.wt = t.wt := by
 rw [snoc_of hne] at hx
 obtain ⟨k, z, hk, hz, hkx⟩ := at_snoc _ _ hx
 obtain ⟨a, ha⟩ := put_is (delD z k) hz
 have hw : withoutD t p = a := by
  unfold withoutD
  rw [hk, hz, Int.toNat_natCast]
  show (t.put p.dropLast (delD z k)).getD Nd.zero = a
  rw [ha]; rfl
 refine ⟨k, z, hk, hz, hkx, by rw [hw, ha]; rfl, ?_⟩
 have h1 := put_wt _ _ _ _ _ ha hz
 have h2 := del_wt hkx
 rw [hw]
 omega
/-- What a move needs. -/
theorem move_from {t x y : Nd} {o : OpD} (hx : t.at? o.path = some x) (hy : t.at? o.to = some y) {i : Nat} (hi : o.at_ = i) (h1 : i ≤ y.kids.length) (hnw : within o.path o.to = false) {m : Nd} (hm : (t.put o.to (insD y i x)).getD Nd.zero = m) :
  fromD o ≠ [] ∧ m.at? (fromD o) = some x ∧ m.wt = t.wt + x.wt ∧ moveD t o = withoutD m (fromD o) := by
 obtain ⟨a, ha⟩ := put_is (insD y i x) hy
 rw [ha] at hm
 obtain rfl : a = m := hm
 refine ⟨fun h => ?_, ?_, ?_, ?_⟩
 ·have := sh_len o.to o.at_ o.path
  rw [← from_sh, h] at this
  have h0 : o.path = [] := List.eq_nil_of_length_eq_zero this.symm
  rw [h0, within_nil] at hnw
  cases hnw
 ·rw [from_sh, hi]
  exact shift_at _ _ hy ha h1 hnw hx
 ·have h2 := put_wt _ _ _ _ _ ha hy
  have h3 := ins_wt y i x
  omega
 ·unfold moveD
  rw [hy, hx, hi, Int.toNat_natCast]
  show withoutD ((t.put o.to (insD y i x)).getD Nd.zero) (fromD o) = _
  rw [ha]; rfl
end Go.Proofs.Ytofcbclokkjfjaa.Sy
