/- Chapter 24: the document's Split (20). (Printed by gousplitr.py.) -/
import Derived.Test.YtofcbclokkjfjaaOuRefs
import Derived.Test.YtofcbclokkjfjaaOuSplit
import Derived.Test.YtofcbclokkjfjaaOuOps
namespace Go.Proofs.Ytofcbclokkjfjaa.Wi
open Go.RowKit Go.Proofs.Ytofcbclokkjfjaa.Bw Go.Proofs.Ytofcbclokkjfjaa.Bs

theorem noRowS (W : World) (lo e sz : Nat) : W.ownsRow lo e sz (.slice none 0 0) 0 [] := ⟨by simp, .inl ⟨rfl, rfl⟩⟩
/-- One more operation, behind an append. -/
theorem rowV2.push {lo : Nat} {l : List OpD} {o : OpD} {v v4 : Value} {us cs : List Value} {w w4 : World} (h2 : Late (rowS lo v) (fun W => rowCells RdO 11 W l us) w) (hcs : cs.length = 11)
  (hx : Late (rowS lo v) (fun W => o.rd W (.agg cs.toArray)) w) (hg : w.grownBy w4 v.ownBlock) (hat : v4.ownBlock = v.ownBlock ∨ v4.ownBlock = some w.heap.size)
  (h4 : w4.ownsRow lo 38 11 v4 (l.length + 1) (us ++ cs)) : rowV2 RdO 38 11 lo (l ++ [o]) v4 w4 :=
 rowV2.app h2 (m := [o]) (hx.imp fun _ h => ⟨cs, [], hcs, h, (List.append_nil _).symm, rfl⟩) hg hat h4
set_option maxRecDepth 100000 in
set_option maxHeartbeats 8000000 in
theorem rsplit_any (cut id : Int) (t : Nd) (p : List Int) (tv pv : Value) (w : World) (ht : t.rd w tv) (hp : RdI w p pv) (hwt : t.wt ≤ 1000000) (hpl : p.length ≤ 10000) (hid : 0 ≤ id ∧ id ≤ 18446744073709551615) : Calls Try.prog 20 #[tv, pv, .int .i64 cut, .int .u64 id] w (AskG lsV w (askG t p (splP cut id))) := by
 obtain ⟨tA, tc, tK, td, rfl⟩ := rd_open6 ht
 obtain ⟨w1, hw1⟩ : ∃ W, w.alloc (.cells #[.int .u64 t.id, .bool t.leaf, .string t.label, .slice tA t.attrs.length tc, .string t.text, .slice tK t.kids.length td] 26) = W := ⟨_, rfl⟩
 obtain ⟨T, hT⟩ : ∃ T, w.heap.size = T := ⟨_, rfl⟩
 have E1 : Ext w w1 := by rw [← hw1]; exact (Ext.refl w).alloc _
 have bT : NBox w1 T 26 #[.int .u64 t.id, .bool t.leaf, .string t.label, .slice tA t.attrs.length tc, .string t.text, .slice tK t.kids.length td] := by rw [← hw1, ← hT]; exact NBox.new _ _ _
 have hc := spot31_any t p _ _ w1 (Nd.rd_ext E1 ht) (RdS.ext E1 hp) (by omega)
 have hcnt : t.cnt ≤ 1000000 := by have := Nd.cnt_wt t; omega
 have HE := Lib.hid E1
 have HP := Lib.hid hp
 have HW := Lib.hid hw1
 have HTT := Lib.hid hT
 have HID := Lib.hid hid
 have HAP := Lib.hid (show askG t p (splP cut id) = match spotP t p with | .error k => .error k | .ok s => splP cut id s from rfl)
 have HSO := Lib.hid (fun s (h : spotP t p = .ok s) => spot_ok h hpl hcnt)
 have HSP := Lib.hid (fun s (h : spotP t p = .ok s) => (show s.x.attrs.length ≤ 1000000 ∧ s.p = p from by
  obtain ⟨g1, g2⟩ := spot_wt (t := t) (p := p) (s := s) h
  have g3 := attrs_wt s.x
  exact ⟨by omega, g2⟩))
 have HSK := Lib.hid (fun k (h : spotP t p = .error k) => spot_err h)
 obtain ⟨o, ho⟩ : ∃ o, spotP t p = o := ⟨_, rfl⟩
 rw [ho] at hc HAP HSO HSK HSP
 obtain ⟨t0, t1, t2, t3, t4, t5⟩ := bT.c6
 obtain ⟨aA, ac, rfl, -⟩ := hp
 clear hw1 hT E1 bT ht ho hid
 go_enter Try.func20, Try.ntmps20
 go_upto_region 1 with fail
 rw [HW.out, HTT.out]
 go_wp2_with fail
 refine hc.mono ?_
 clear hc t0 t1 t2 t3 t4 t5
 rintro e w2 ⟨hE, hP⟩
 have HE2 := Lib.hid (HE.out.trans hE)
 obtain ⟨wa, hwa⟩ : ∃ q, w2.alloc (.cells #[.int .u64 0, .bool false, .string ⟨#[]⟩, .slice none 0 0, .string ⟨#[]⟩, .slice none 0 0, .slice none 0 0, .int .i64 0, .int .u64 0, .bool false, .string ⟨#[]⟩, .slice none 0 0, .string ⟨#[]⟩, .slice none 0 0] 58) = q := ⟨_, rfl⟩
 obtain ⟨X, hX⟩ : ∃ q, w2.heap.size = q := ⟨_, rfl⟩
 have XA : Ext w2 wa := by rw [← hwa]; exact (Ext.refl _).alloc _
 have bX : NBox wa X 58 #[.int .u64 0, .bool false, .string ⟨#[]⟩, .slice none 0 0, .string ⟨#[]⟩, .slice none 0 0, .slice none 0 0, .int .i64 0, .int .u64 0, .bool false, .string ⟨#[]⟩, .slice none 0 0, .string ⟨#[]⟩, .slice none 0 0] := by rw [← hwa, ← hX]; exact NBox.new _ _ _
 have HWA := Lib.hid hwa
 have HXX := Lib.hid hX
 have y0 := bX.cell 0
 have y1 := bX.cell 1
 have y2 := bX.cell 2
 have y3 := bX.cell 3
 have y4 := bX.cell 4
 have y5 := bX.cell 5
 have y6 := bX.cell 6
 have y7 := bX.cell 7
 have y8 := bX.cell 8
 have y9 := bX.cell 9
 have y10 := bX.cell 10
 have y11 := bX.cell 11
 have y12 := bX.cell 12
 have y13 := bX.cell 13
 have z0 := bX.frozen 0
 have z1 := bX.frozen 1
 have z2 := bX.frozen 2
 have z3 := bX.frozen 3
 have z4 := bX.frozen 4
 have z5 := bX.frozen 5
 have z6 := bX.frozen 6
 have z7 := bX.frozen 7
 have z8 := bX.frozen 8
 have z9 := bX.frozen 9
 have z10 := bX.frozen 10
 have z11 := bX.frozen 11
 have z12 := bX.frozen 12
 have z13 := bX.frozen 13
 cases o with
 | error k =>
  subst hP
  have hk0 := HSK.out k rfl
  have kz : (k != 0) = true := by rw [bne_iff_ne]; exact hk0
  have F3 := Fr.s14 wa X (.int .u64 0) (.bool false) (.string ⟨#[]⟩) (.slice none 0 0) (.string ⟨#[]⟩) (.slice none 0 0) (.slice none 0 0) (.int .i64 0) (.int .u64 0) (.bool false) (.string ⟨#[]⟩) (.slice none 0 0) (.string ⟨#[]⟩) (.slice none 0 0)
  have HX3 := Lib.hid (Fr.ext (HE2.out.trans XA) F3 (fun q hq => by rw [show q = X from hq, ← hX]; exact HE2.out.size))
  have HR : Hid (askG t p (splP cut id) = .error k) := HAP
  clear hwa hX XA bX F3 hE
  go_wp2_with (rw [HWA.out, HXX.out]; clear HWA HXX)
  go_ret2
  rw [HR.out]
  exact ⟨HX3.out, rfl⟩
 | ok s =>
  obtain ⟨sv, rfl, hs⟩ := hP
  have ho := HSO.out s rfl
  have hat := (HSP.out s rfl).1
  have hsp := Lib.hid (HSP.out s rfl).2
  have HSPL : Hid (askG t p (splP cut id) = splP cut id s) := HAP
  obtain ⟨xA, xc, xK, xd, uA, uc, yA, yc, yK, yd, rfl, hxr, hyr, hU⟩ := hs
  have HLAB : Hid (okStr s.x.label) := Lib.hid (by obtain ⟨_, _, _, _, _, h, _, _⟩ := Nd.rd_open hxr; exact h)
  have HTXT : Hid (okStr s.x.text) := Lib.hid (by obtain ⟨_, _, _, _, _, _, h, _⟩ := Nd.rd_open hxr; exact h)
  obtain ⟨w3, hw3⟩ : ∃ q, (World.setCell (World.setCell (World.setCell (World.setCell (World.setCell (World.setCell (World.setCell (World.setCell (World.setCell (World.setCell (World.setCell (World.setCell (World.setCell (World.setCell wa ⟨X, 0, none⟩ (.int .u64 s.x.id)) ⟨X, 1, none⟩ (.bool s.x.leaf)) ⟨X, 2, none⟩ (.string s.x.label)) ⟨X, 3, none⟩ (.slice xA s.x.attrs.length xc)) ⟨X, 4, none⟩ (.string s.x.text)) ⟨X, 5, none⟩ (.slice xK s.x.kids.length xd)) ⟨X, 6, none⟩ (.slice uA s.up.length uc)) ⟨X, 7, none⟩ (.int .i64 s.i)) ⟨X, 8, none⟩ (.int .u64 s.par.id)) ⟨X, 9, none⟩ (.bool s.par.leaf)) ⟨X, 10, none⟩ (.string s.par.label)) ⟨X, 11, none⟩ (.slice yA s.par.attrs.length yc)) ⟨X, 12, none⟩ (.string s.par.text)) ⟨X, 13, none⟩ (.slice yK s.par.kids.length yd)) = q := ⟨_, rfl⟩
  have F3 : Fr wa w3 (fun k => k = X) := by rw [← hw3]; exact Fr.s14 _ _ _ _ _ _ _ _ _ _ _ _ _ _ _ _
  have X3 : Ext w2 w3 := Fr.ext XA F3 (fun q hq => by rw [show q = X from hq, hX]; exact Nat.le_refl _)
  have HB := Lib.hid (show NBox w3 X 58 #[.int .u64 s.x.id, .bool s.x.leaf, .string s.x.label, .slice xA s.x.attrs.length xc, .string s.x.text, .slice xK s.x.kids.length xd, .slice uA s.up.length uc, .int .i64 s.i, .int .u64 s.par.id, .bool s.par.leaf, .string s.par.label, .slice yA s.par.attrs.length yc, .string s.par.text, .slice yK s.par.kids.length yd] from by rw [← hw3]; exact bX.s14 _ _ _ _ _ _ _ _ _ _ _ _ _ _)
  have HE0 := HE
  have HE3 := Lib.hid (hE.trans X3)
  have HP1 := Lib.hid (RdS.ext HE.out HP.out)
  have HU := Lib.hid (owns_ext X3 hU)
  have HXR0 := Lib.hid hxr
  have HW3 := Lib.hid hw3
  have hi0 := ho.i0
  have hi1 := ho.i1
  have hul := ho.up
  have hkl := ho.kids
  clear hwa hX XA bX F3 X3 hw3 hE hU hxr hyr ho HE HE2 HSO HSK HSP HAP
  have HE := HE3
  clear HE3
  go_upto_region 2 with (rw [HWA.out, HXX.out]; clear HWA HXX)
  rw [HW3.out]
  clear HW3 y0 z0 y1 z1 y2 z2 y3 z3 y4 z4 y5 z5 y6 z6 y7 z7 y8 z8 y9 z9 y10 z10 y11 z11 y12 z12 y13 z13
  have k0 := HB.out.cell 0
  have k1 := HB.out.cell 1
  have k2 := HB.out.cell 2
  have k3 := HB.out.cell 3
  have k4 := HB.out.cell 4
  have k5 := HB.out.cell 5
  have k6 := HB.out.cell 6
  have k7 := HB.out.cell 7
  have k8 := HB.out.cell 8
  have k9 := HB.out.cell 9
  have k10 := HB.out.cell 10
  have k11 := HB.out.cell 11
  have k12 := HB.out.cell 12
  have k13 := HB.out.cell 13
  have HSP := Lib.hid (show splP cut id s = if s.x.leaf = false then .error 83 else if 0 ≤ cut ∧ cut ≤ (s.x.text.size : Int) then .ok (splL cut id s (s.x.text.extract cut.toNat s.x.text.size)) else .error 2 from rfl)
  cases hlf : s.x.leaf with
  | false =>
   have HR : Hid (splP cut id s = .error 83) := Lib.hid (by rw [HSP.out, if_pos hlf])
   rw [hlf] at k1
   go_wp2_with fail
   go_ret2
   rw [HSPL.out, HR.out]
   exact ⟨HE0.out.trans HE.out, rfl⟩
  | true =>
  rw [hlf] at k1
  have HSP2 := Lib.hid (show splP cut id s = if 0 ≤ cut ∧ cut ≤ (s.x.text.size : Int) then .ok (splL cut id s (s.x.text.extract cut.toNat s.x.text.size)) else .error 2 from by rw [HSP.out, if_neg (by rw [hlf]; exact Bool.noConfusion)])
  clear HSP
  by_cases hc1 : 0 ≤ cut
  case neg =>
   have HR : Hid (splP cut id s = .error 2) := Lib.hid (by rw [HSP2.out, if_neg (fun h => hc1 h.1)])
   have t1 : decide (cut < 0) = true := decide_eq_true (by omega)
   go_wp2_with fail
   go_ret2
   rw [HSPL.out, HR.out]
   exact ⟨HE0.out.trans HE.out, rfl⟩
  have t1 : decide (cut < 0) = false := decide_eq_false (by omega)
  by_cases hc2 : cut ≤ (s.x.text.size : Int)
  case neg =>
   have HR : Hid (splP cut id s = .error 2) := Lib.hid (by rw [HSP2.out, if_neg (fun h => hc2 h.2)])
   have t2 : decide ((s.x.text.size : Int) < cut) = true := decide_eq_true (by omega)
   go_wp2_with fail
   go_ret2
   rw [HSPL.out, HR.out]
   exact ⟨HE0.out.trans HE.out, rfl⟩
  have t2 : decide ((s.x.text.size : Int) < cut) = false := decide_eq_false (by omega)
  have HR : Hid (splP cut id s = .ok (splL cut id s (s.x.text.extract cut.toNat s.x.text.size))) := Lib.hid (by rw [HSP2.out, if_pos ⟨hc1, hc2⟩])
  clear HSP2
  have q7 : IntKind.i64.wrap (s.i + 1) = s.i + 1 := IntWalk.i64_in _ (by omega)
  obtain ⟨m, rfl⟩ := Int.eq_ofNat_of_zero_le hc1
  have hmt : m ≤ s.x.text.size := by omega
  obtain ⟨rest, hrest⟩ : ∃ r, s.x.text.extract m s.x.text.size = r := ⟨_, rfl⟩
  rw [show (Int.toNat (m : Int)) = m from rfl, hrest] at HR
  obtain ⟨q, hqq⟩ : ∃ q, s.up ++ [s.i + 1] = q := ⟨_, rfl⟩
  have hql : q.length ≤ 10001 := by rw [← hqq, List.length_append, List.length_cons, List.length_nil]; omega
  have HREST : Hid (okStr rest) := Lib.hid (by have h := HTXT.out; unfold okStr at h ⊢; rw [← hrest, ByteArray.size_extract]; omega)
  have HSL := Lib.hid (show splL m id s rest = editL rest p ⟨m, rest.size, ⟨#[]⟩⟩ ++ [newO s.up (s.i + 1) id s.x.label] ++ s.x.attrs.map (atrO q) ++ editL rest q ⟨0, 0, rest⟩ from by unfold splL; rw [hqq, hsp.out])
  have hq := child_any s.up (s.i + 1) _ w3 (RdS.of_owns HU.out) (by omega)
  rw [hqq] at hq
  go_wp2_with fail
  refine hq.mono ?_
  clear hq k0 k1 k2 k3 k4 k5 k6 k7 k8 k9 k10 k11 k12 k13 hqq hsp
  rintro e w4 ⟨r, rfl, hO, hE⟩
  have HO := Lib.hid (owns_low hO HE.out.size)
  obtain ⟨nA, nc, rfl, -⟩ := RdS.of_owns hO
  clear hO
  have HE' := Lib.hid (HE.out.trans hE)
  have HB' := Lib.hid (HB.out.ext hE)
  have HU' := Lib.hid (owns_ext hE HU.out)
  clear hE
  replace HE := HE'; replace HB := HB'; replace HU := HU'
  clear HE' HB' HU'
  have HED1 := Lib.hid (show editL rest p ⟨m, rest.size, ⟨#[]⟩⟩ = if rest.size = 0 then [] else [editO p ⟨m, rest.size, ⟨#[]⟩⟩] from rfl)
  have HED2 := Lib.hid (show editL rest q ⟨0, 0, rest⟩ = if rest.size = 0 then [] else [editO q ⟨0, 0, rest⟩] from rfl)
  clear hc1 hc2 t1 t2 hlf
  cases hz : rest.toList.isEmpty with
  | true =>
   have hz0 : rest.size = 0 := by have := bytes_empty rest; rw [hz] at this; exact of_decide_eq_true this.symm
   have HED1' := Lib.hid (HED1.out.trans (if_pos hz0))
   have HED2' := Lib.hid (HED2.out.trans (if_pos hz0))
   clear HED1 HED2 hz0
   obtain ⟨l, A, c, hl1, HL1, hls, hLL⟩ : ∃ (l : List OpD) (A : Option Addr) (c : Nat), l.length ≤ 1 ∧ Hid (editL rest p ⟨m, rest.size, ⟨#[]⟩⟩ = l) ∧ Value.slice none 0 0 = .slice A l.length c ∧ rowV2 RdO 38 11 w1.heap.size l (.slice A l.length c) w4 := ⟨[], none, 0, Nat.zero_le _, HED1', rfl, lsV.none_ _ _⟩
   have HL := Lib.hid hLL
   clear hLL
   go_upto_region 13 with fail
   rw [hls]
   clear hls
   go_upto_region 13 with fail
   obtain ⟨e0, he0⟩ : ∃ d0, w4.drew = d0 := ⟨_, rfl⟩
   have hE : Ext w4 e0 := by rw [← he0]; exact (Ext.refl _).drew
   have HE' := Lib.hid (HE.out.trans hE)
   have HB' := Lib.hid (HB.out.ext hE)
   have HU' := Lib.hid (owns_ext hE HU.out)
   have HO' := Lib.hid (owns_ext hE HO.out)
   have HL' := Lib.hid (rowV2.ext HL.out hE)
   clear hE
   replace HE := HE'; replace HB := HB'; replace HU := HU'; replace HO := HO'; replace HL := HL'
   clear HE' HB' HU' HO' HL'
   refine wp_region_held_drew (S := (fun W => NBox W X 58 #[.int .u64 s.x.id, .bool s.x.leaf, .string s.x.label, .slice xA s.x.attrs.length xc, .string s.x.text, .slice xK s.x.kids.length xd, .slice uA s.up.length uc, .int .i64 s.i, .int .u64 s.par.id, .bool s.par.leaf, .string s.par.label, .slice yA s.par.attrs.length yc, .string s.par.text, .slice yK s.par.kids.length yd])) (by kernel_rfl) (by rw [he0]; exact HB.out) (fun hHeld => ?_)
   rw [he0] at hHeld ⊢
   clear he0
   refine tk 0 ?_ rfl (.inl ⟨by rfl, ?_⟩) hHeld ?_
   rotate_left
   ·intro w hSw
    try dsimp only at hSw
    go_simp
    all_goals (first | with_reducible rfl | rw [if_pos (by omega)])
   try simp only [Act.put, aS]
   refine tk 1 ?_ rfl (.inl ⟨by rfl, ?_⟩) hHeld ?_
   rotate_left
   ·intro w hSw
    try dsimp only at hSw
    go_simp
    all_goals (first | with_reducible rfl | rw [if_pos (by omega)])
   try simp only [Act.put, aS]
   refine tk 2 ?_ rfl (.inl ⟨by rfl, ?_⟩) hHeld ?_
   rotate_left
   ·intro w hSw
    have hb : NBox w X 58 _ := hSw
    have g0 := hb.cell 0
    have g1 := hb.cell 1
    have g2 := hb.cell 2
    have g3 := hb.cell 3
    have g4 := hb.cell 4
    have g5 := hb.cell 5
    have g6 := hb.cell 6
    have g7 := hb.cell 7
    have g8 := hb.cell 8
    have g9 := hb.cell 9
    have g10 := hb.cell 10
    have g11 := hb.cell 11
    have g12 := hb.cell 12
    have g13 := hb.cell 13
    clear hb hSw
    go_simp
    all_goals (first | with_reducible rfl | rw [if_pos (by omega)])
   try simp only [Act.put, aS]
   refine tk 4 ?_ rfl (.inl ⟨by rfl, ?_⟩) hHeld ?_
   rotate_left
   ·intro w hSw
    try dsimp only at hSw
    go_simp
    all_goals (first | with_reducible rfl | rw [if_pos (by omega)])
   try simp only [Act.put, aS]
   refine tk 5 ?_ rfl (.inl ⟨by rfl, ?_⟩) hHeld ?_
   rotate_left
   ·intro w hSw
    have hb : NBox w X 58 _ := hSw
    have g0 := hb.cell 0
    have g1 := hb.cell 1
    have g2 := hb.cell 2
    have g3 := hb.cell 3
    have g4 := hb.cell 4
    have g5 := hb.cell 5
    have g6 := hb.cell 6
    have g7 := hb.cell 7
    have g8 := hb.cell 8
    have g9 := hb.cell 9
    have g10 := hb.cell 10
    have g11 := hb.cell 11
    have g12 := hb.cell 12
    have g13 := hb.cell 13
    clear hb hSw
    go_simp
    all_goals (first | with_reducible rfl | rw [if_pos (by omega)])
   try simp only [Act.put, aS]
   refine tk 6 ?_ rfl (.inl ⟨by rfl, ?_⟩) hHeld ?_
   rotate_left
   ·intro w hSw
    try dsimp only at hSw
    go_simp
    all_goals (first | with_reducible rfl | rw [if_pos (by omega)])
   try simp only [Act.put, aS]
   refine tk 7 ?_ rfl (.inl ⟨by rfl, ?_⟩) hHeld ?_
   rotate_left
   ·intro w hSw
    try dsimp only at hSw
    go_simp
    all_goals (first | with_reducible rfl | rw [if_pos (by omega)])
   try simp only [Act.put, aS]
   refine tk 8 ?_ rfl (.inl ⟨by rfl, ?_⟩) hHeld ?_
   rotate_left
   ·intro w hSw
    try dsimp only at hSw
    go_simp
    all_goals (first | with_reducible rfl | rw [if_pos (by omega)])
   try simp only [Act.put, aS]
   refine tk 9 ?_ rfl (.inl ⟨by rfl, ?_⟩) hHeld ?_
   rotate_left
   ·intro w hSw
    try dsimp only at hSw
    go_simp
    all_goals (first | with_reducible rfl | rw [if_pos (by omega)])
   try simp only [Act.put, aS]
   refine tk 10 ?_ rfl (.inl ⟨by rfl, ?_⟩) hHeld ?_
   rotate_left
   ·intro w hSw
    have hb : NBox w X 58 _ := hSw
    have g0 := hb.cell 0
    have g1 := hb.cell 1
    have g2 := hb.cell 2
    have g3 := hb.cell 3
    have g4 := hb.cell 4
    have g5 := hb.cell 5
    have g6 := hb.cell 6
    have g7 := hb.cell 7
    have g8 := hb.cell 8
    have g9 := hb.cell 9
    have g10 := hb.cell 10
    have g11 := hb.cell 11
    have g12 := hb.cell 12
    have g13 := hb.cell 13
    clear hb hSw
    go_simp
    all_goals (first | with_reducible rfl | rw [if_pos (by omega)])
   try simp only [Act.put, aS]
   refine wpAnyH_ready (rs := [3]) (by kernel_rfl) (by simp) ?_
   refine AllReadyH.cons (o := ⟨_, _, _, _, _, _⟩) rfl (fun K' hK => ?_) AllReadyH.nil
   have hq := copied_any s.up _ e0 (RdS.of_owns HU.out) (by omega)
   go_simp
   go_at_call 8
   refine hq.mono ?_
   clear hq
   rintro e e1 ⟨r, rfl, hQ, hE⟩
   have HQ := Lib.hid (owns_low hQ HE.out.size)
   obtain ⟨bA, bc, rfl, -⟩ := RdS.of_owns hQ
   clear hQ
   have HE' := Lib.hid (HE.out.trans hE)
   have HB' := Lib.hid (HB.out.ext hE)
   have HU' := Lib.hid (owns_ext hE HU.out)
   have HO' := Lib.hid (owns_ext hE HO.out)
   have HL' := Lib.hid (rowV2.ext HL.out hE)
   refine hK.out _ _ (show NBox _ _ _ _ from NBox.ext hE hHeld) (fun hHeld => ?_)
   clear hK K' hE
   try simp only [Act.put, aS]
   replace HE := HE'; replace HB := HB'; replace HU := HU'; replace HO := HO'; replace HL := HL'
   clear HE' HB' HU' HO' HL'
   refine tk 11 ?_ rfl (.inl ⟨by rfl, ?_⟩) hHeld ?_
   rotate_left
   ·intro w hSw
    try dsimp only at hSw
    go_simp
    all_goals (first | with_reducible rfl | rw [if_pos (by omega)])
   try simp only [Act.put, aS]
   obtain ⟨e2, hw⟩ : ∃ W, e1.alloc (.cells #[.int .u8 1, .slice bA s.up.length bc, .int .i64 (s.i + 1), .slice none 0 0, .int .u64 id, .bool true, .string s.x.label, .string ⟨#[]⟩, .string ⟨#[]⟩, .bool false, .slice none 0 0] 38) = W := ⟨_, rfl⟩
   obtain ⟨N, hN⟩ : ∃ g, e1.heap.size = g := ⟨_, rfl⟩
   have hE : Ext e1 e2 := by rw [← hw]; exact (Ext.refl _).alloc _
   have HN := Lib.hid (show NBox e2 N 38 #[.int .u8 1, .slice bA s.up.length bc, .int .i64 (s.i + 1), .slice none 0 0, .int .u64 id, .bool true, .string s.x.label, .string ⟨#[]⟩, .string ⟨#[]⟩, .bool false, .slice none 0 0] from by rw [← hw, ← hN]; exact NBox.new _ _ _)
   have HW := Lib.hid hw
   have HNN := Lib.hid hN
   clear hw hN
   have HE' := Lib.hid (HE.out.trans hE)
   have HB' := Lib.hid (HB.out.ext hE)
   have HO' := Lib.hid (owns_ext hE HO.out)
   have HL' := Lib.hid (rowV2.ext HL.out hE)
   have HQ' := Lib.hid (owns_ext hE HQ.out)
   refine wpAnyH_ready (rs := [12]) (by kernel_rfl) (by simp) ?_
   refine AllReadyH.cons (o := ⟨_, _, _, _, _, _⟩) rfl (fun K' hK => ?_) AllReadyH.nil
   go_simp
   rw [HW.out, HNN.out]
   refine hK.out _ _ (show NBox _ _ _ _ from NBox.ext hE hHeld) (fun hHeld => ?_)
   clear hK K' hE HW HNN
   try simp only [Act.put, aS]
   replace HE := HE'; replace HB := HB'; replace HO := HO'; replace HL := HL'; replace HQ := HQ'
   clear HE' HB' HO' HL' HQ'
   obtain ⟨us1, ho1, hla1⟩ := HL.out
   have hS : ∀ g, (Value.slice bA s.up.length bc).ownBlock = some g → ¬ rowS w1.heap.size (.slice A l.length c) g := fun g hg hk => hk.elim (fun h => absurd (owns_base HQ.out g hg) (Nat.not_le.2 h)) (fun h => owns_apart ho1 HQ.out (by decide) h hg)
   have hx : Late (rowS w1.heap.size (.slice A l.length c)) (fun W => (newO s.up (s.i + 1) id s.x.label).rd W (.agg #[.int .u8 1, .slice bA s.up.length bc, .int .i64 (s.i + 1), .slice none 0 0, .int .u64 id, .bool true, .string s.x.label, .string ⟨#[]⟩, .string ⟨#[]⟩, .bool false, .slice none 0 0])) e2 := op_late (o := newO s.up (s.i + 1) id s.x.label) HQ.out hS rfl rfl HLAB.out (Nat.zero_le _) (Nat.zero_le _) HID.out (show (0 : Int) ≤ 1 ∧ (1 : Int) ≤ 255 from by decide)
   refine wpAnyH_ready (rs := [13]) (by kernel_rfl) (by simp) ?_
   refine AllReadyH.cons (o := ⟨_, _, _, _, _, _⟩) rfl (fun K' hK => ?_) AllReadyH.nil
   refine wp_append_rd rfl T31 (by rfl) ho1 (by rfl) (NBox.row HN.out) (ones11 ⟨rfl, rfl, rfl, rfl, rfl, rfl, rfl, rfl, rfl, rfl, rfl⟩) (by omega) (by simp only [maxLen]; omega) HE.out.size ?_
   intro v4 e3 h4 hg hat4
   have HL2 := Lib.hid (rowV2.push hla1 rfl hx hg hat4 h4)
   have F := Fr.grown hg
   have HE' := Lib.hid (Fr.ext HE.out F (fun k hk => owns_base ho1 k hk))
   have HB' := Lib.hid (HB.out.fr F (fun hk => HB.out.not_own ho1 (by decide) hk))
   have HO' := Lib.hid (owns_fr F HO.out (fun g hg hk => owns_apart ho1 HO.out (by decide) hk hg))
   have hHeld' : NBox e3 X 58 _ := NBox.fr F hHeld (fun hk => NBox.not_own hHeld ho1 (by decide) hk)
   refine hK.out _ _ (show NBox _ _ _ _ from hHeld') (fun hHeld => ?_)
   clear hK K' F hx hS hla1 ho1 hHeld' HQ HL HN hg hat4 h4
   try simp only [Act.put, aS]
   replace HE := HE'; replace HB := HB'; replace HO := HO'
   clear HE' HB' HO'
   obtain ⟨L2, hL2⟩ : ∃ L, l ++ [newO s.up (s.i + 1) id s.x.label] = L := ⟨_, rfl⟩
   rw [hL2] at HL2
   have HSL2 := Lib.hid (show splL m id s rest = L2 ++ s.x.attrs.map (atrO q) ++ editL rest q ⟨0, 0, rest⟩ from by rw [HSL.out, HL1.out, hL2])
   have hl2 : L2.length ≤ 2 := by rw [← hL2, List.length_append]; simp only [List.length_cons, List.length_nil]; omega
   obtain ⟨A2, c2, rfl⟩ := lsV.slice HL2.out
   clear hL2 HL1 hl1
   refine tk 14 ?_ rfl (.inl ⟨by rfl, ?_⟩) hHeld ?_
   rotate_left
   ·intro w hSw
    try dsimp only at hSw
    go_simp
    all_goals (first | with_reducible rfl | rw [if_pos (by omega)])
   try simp only [Act.put, aS]
   refine wpAnyH_done (by kernel_rfl) ?_ _
   clear hHeld
   have k3 := HB.out.cell 3
   go_wp2_with fail
   clear k3
   go_loopw [14, 15] (fun s14 s15 wr => ∃ (j : Nat) (l : List OpD) (A : Option Addr) (c : Nat), s15 = .int .i64 (j : Int) ∧ j ≤ s.x.attrs.length ∧ s14 = .slice A l.length c ∧ l.length ≤ 2 + j ∧ Hid (Ext w1 wr) ∧ Hid (NBox wr X 58 #[.int .u64 s.x.id, .bool s.x.leaf, .string s.x.label, .slice xA s.x.attrs.length xc, .string s.x.text, .slice xK s.x.kids.length xd, .slice uA s.up.length uc, .int .i64 s.i, .int .u64 s.par.id, .bool s.par.leaf, .string s.par.label, .slice yA s.par.attrs.length yc, .string s.par.text, .slice yK s.par.kids.length yd]) ∧ Hid (wr.ownsRow w1.heap.size 3 1 (.slice nA q.length nc) q.length (q.map (Value.int .i64))) ∧ Hid (rowV2 RdO 38 11 w1.heap.size l (.slice A l.length c) wr) ∧ Hid (splL m id s rest = l ++ (s.x.attrs.drop j).map (atrO q) ++ editL rest q ⟨0, 0, rest⟩)) (fun _ s15 _ => s.x.attrs.length - (intOf s15).toNat)
   case atStart => exact ⟨0, L2, A2, c2, rfl, Nat.zero_le _, rfl, hl2, HE, HB, HO, HL2, HSL2⟩
   case round =>
    clear HE HO HB HL2 HSL2 hl2
    obtain ⟨j, l, A, c, rfl, hj, rfl, hll, HE, HB, HO, HL, HN9⟩ := hrel
    have k3 := HB.out.cell 3
    rcases Nat.lt_or_ge j s.x.attrs.length with hlt | hlt
    ·have q1 : (0 : Int) ≤ (j : Int) := by omega
     have q2 : (j : Int) < (s.x.attrs.length : Int) := by omega
     obtain ⟨⟨ak, av⟩, ha⟩ : ∃ x, s.x.attrs[j]? = some x := ⟨_, List.getElem?_eq_getElem hlt⟩
     obtain ⟨av0, kv0, he, -, -, -, -, ⟨aA, ac, hav, -, -, hra⟩, -⟩ := Nd.rd_open HXR0.out
     simp only [Value.agg.injEq, Array.mk.injEq, List.cons.injEq, and_true, true_and] at he
     obtain ⟨hav0, -⟩ := he
     rw [hav] at hav0
     simp only [Value.slice.injEq, true_and] at hav0
     obtain ⟨rfl, rfl⟩ := hav0
     obtain ⟨ab, ao, rfl, hr⟩ := hra (by intro h0; rw [h0] at hlt; exact absurd hlt (Nat.not_lt_zero _))
     obtain ⟨hk1, hk2, a0, a1⟩ := rdAttrs_at (rdAttrs_ext HE.out hr) ha
     have HAB : Hid (ab < w1.heap.size) := Lib.hid (by have h := (rdAttrs_at hr ha).1; exact lt_of_cell h)
     have HN' := Lib.hid (show splL m id s rest = (l ++ [atrO q (ak, av)]) ++ (s.x.attrs.drop (j + 1)).map (atrO q) ++ editL rest q ⟨0, 0, rest⟩ from by rw [HN9.out, drop_at ha, List.map_cons, List.append_assoc l [_]]; rfl)
     clear hr hra hav ha HN9
     go_upto_region 17 with fail
     clear k3
     obtain ⟨e0, he0⟩ : ∃ d0, wr.drew = d0 := ⟨_, rfl⟩
     have hE : Ext wr e0 := by rw [← he0]; exact (Ext.refl _).drew
     have HE' := Lib.hid (HE.out.trans hE)
     have HB' := Lib.hid (HB.out.ext hE)
     have HO' := Lib.hid (owns_ext hE HO.out)
     have HL' := Lib.hid (rowV2.ext HL.out hE)
     have hk1' := Lib.hid (hE.cell hk1)
     have hk2' := Lib.hid (hE.cell hk2)
     clear hE hk1 hk2
     replace HE := HE'; replace HB := HB'; replace HO := HO'; replace HL := HL'
     clear HE' HB' HO' HL'
     refine wp_region_held_drew (S := (fun W => NBox W X 58 #[.int .u64 s.x.id, .bool s.x.leaf, .string s.x.label, .slice (some ⟨ab, ao, none⟩) s.x.attrs.length xc, .string s.x.text, .slice xK s.x.kids.length xd, .slice uA s.up.length uc, .int .i64 s.i, .int .u64 s.par.id, .bool s.par.leaf, .string s.par.label, .slice yA s.par.attrs.length yc, .string s.par.text, .slice yK s.par.kids.length yd] ∧ W.cell? ⟨ab, ao + j * 2, none⟩ = some (.string ak) ∧ W.cell? ⟨ab, ao + j * 2 + 1, none⟩ = some (.string av))) (by kernel_rfl) (by rw [he0]; exact ⟨HB.out, hk1'.out, hk2'.out⟩) (fun hHeld => ?_)
     rw [he0] at hHeld ⊢
     clear he0 hk1' hk2'
     refine tk 0 ?_ rfl (.inl ⟨by rfl, ?_⟩) hHeld ?_
     rotate_left
     ·intro w hSw
      try dsimp only at hSw
      go_simp
      all_goals (first | with_reducible rfl | rw [if_pos (by omega)])
     try simp only [Act.put, aS]
     refine tk 1 ?_ rfl (.inl ⟨by rfl, ?_⟩) hHeld ?_
     rotate_left
     ·intro w hSw
      try dsimp only at hSw
      go_simp
      all_goals (first | with_reducible rfl | rw [if_pos (by omega)])
     try simp only [Act.put, aS]
     refine tk 3 ?_ rfl (.inl ⟨by rfl, ?_⟩) hHeld ?_
     rotate_left
     ·intro w hSw
      try dsimp only at hSw
      go_simp
      all_goals (first | with_reducible rfl | rw [if_pos (by omega)])
     try simp only [Act.put, aS]
     refine tk 4 ?_ rfl (.inl ⟨by rfl, ?_⟩) hHeld ?_
     rotate_left
     ·intro w hSw
      try dsimp only at hSw
      go_simp
      all_goals (first | with_reducible rfl | rw [if_pos (by omega)])
     try simp only [Act.put, aS]
     refine tk 5 ?_ rfl (.inl ⟨by rfl, ?_⟩) hHeld ?_
     rotate_left
     ·intro w hSw
      obtain ⟨hb, hz1, hz2⟩ : NBox w X 58 _ ∧ _ := hSw
      have g0 := hb.cell 0
      have g1 := hb.cell 1
      have g2 := hb.cell 2
      have g3 := hb.cell 3
      have g4 := hb.cell 4
      have g5 := hb.cell 5
      have g6 := hb.cell 6
      have g7 := hb.cell 7
      have g8 := hb.cell 8
      have g9 := hb.cell 9
      have g10 := hb.cell 10
      have g11 := hb.cell 11
      have g12 := hb.cell 12
      have g13 := hb.cell 13
      clear hb
      go_simp
      all_goals (first | with_reducible rfl | rw [if_pos (by omega)])
     try simp only [Act.put, aS]
     refine tk 6 ?_ rfl (.inl ⟨by rfl, ?_⟩) hHeld ?_
     rotate_left
     ·intro w hSw
      try dsimp only at hSw
      go_simp
      all_goals (first | with_reducible rfl | rw [if_pos (by omega)])
     try simp only [Act.put, aS]
     refine tk 7 ?_ rfl (.inl ⟨by rfl, ?_⟩) hHeld ?_
     rotate_left
     ·intro w hSw
      try dsimp only at hSw
      go_simp
      all_goals (first | with_reducible rfl | rw [if_pos (by omega)])
     try simp only [Act.put, aS]
     refine tk 8 ?_ rfl (.inl ⟨by rfl, ?_⟩) hHeld ?_
     rotate_left
     ·intro w hSw
      try dsimp only at hSw
      go_simp
      all_goals (first | with_reducible rfl | rw [if_pos (by omega)])
     try simp only [Act.put, aS]
     refine tk 9 ?_ rfl (.inl ⟨by rfl, ?_⟩) hHeld ?_
     rotate_left
     ·intro w hSw
      obtain ⟨hb, hz1, hz2⟩ : NBox w X 58 _ ∧ _ := hSw
      have g0 := hb.cell 0
      have g1 := hb.cell 1
      have g2 := hb.cell 2
      have g3 := hb.cell 3
      have g4 := hb.cell 4
      have g5 := hb.cell 5
      have g6 := hb.cell 6
      have g7 := hb.cell 7
      have g8 := hb.cell 8
      have g9 := hb.cell 9
      have g10 := hb.cell 10
      have g11 := hb.cell 11
      have g12 := hb.cell 12
      have g13 := hb.cell 13
      clear hb
      go_simp
      all_goals (first | with_reducible rfl | rw [if_pos (by omega)])
     try simp only [Act.put, aS]
     refine tk 10 ?_ rfl (.inl ⟨by rfl, ?_⟩) hHeld ?_
     rotate_left
     ·intro w hSw
      try dsimp only at hSw
      go_simp
      all_goals (first | with_reducible rfl | rw [if_pos (by omega)])
     try simp only [Act.put, aS]
     refine tk 11 ?_ rfl (.inl ⟨by rfl, ?_⟩) hHeld ?_
     rotate_left
     ·intro w hSw
      try dsimp only at hSw
      go_simp
      all_goals (first | with_reducible rfl | rw [if_pos (by omega)])
     try simp only [Act.put, aS]
     refine tk 12 ?_ rfl (.inl ⟨by rfl, ?_⟩) hHeld ?_
     rotate_left
     ·intro w hSw
      obtain ⟨hb, hz1, hz2⟩ : NBox w X 58 _ ∧ _ := hSw
      have g0 := hb.cell 0
      have g1 := hb.cell 1
      have g2 := hb.cell 2
      have g3 := hb.cell 3
      have g4 := hb.cell 4
      have g5 := hb.cell 5
      have g6 := hb.cell 6
      have g7 := hb.cell 7
      have g8 := hb.cell 8
      have g9 := hb.cell 9
      have g10 := hb.cell 10
      have g11 := hb.cell 11
      have g12 := hb.cell 12
      have g13 := hb.cell 13
      clear hb
      go_simp
      all_goals (first | with_reducible rfl | rw [if_pos (by omega)])
     try simp only [Act.put, aS]
     refine tk 13 ?_ rfl (.inl ⟨by rfl, ?_⟩) hHeld ?_
     rotate_left
     ·intro w hSw
      try dsimp only at hSw
      go_simp
      all_goals (first | with_reducible rfl | rw [if_pos (by omega)])
     try simp only [Act.put, aS]
     refine tk 14 ?_ rfl (.inl ⟨by rfl, ?_⟩) hHeld ?_
     rotate_left
     ·intro w hSw
      try dsimp only at hSw
      go_simp
      all_goals (first | with_reducible rfl | rw [if_pos (by omega)])
     try simp only [Act.put, aS]
     refine tk 15 ?_ rfl (.inl ⟨by rfl, ?_⟩) hHeld ?_
     rotate_left
     ·intro w hSw
      try dsimp only at hSw
      go_simp
      all_goals (first | with_reducible rfl | rw [if_pos (by omega)])
     try simp only [Act.put, aS]
     refine tk 16 ?_ rfl (.inl ⟨by rfl, ?_⟩) hHeld ?_
     rotate_left
     ·intro w hSw
      obtain ⟨hb, hz1, hz2⟩ : NBox w X 58 _ ∧ _ := hSw
      have g0 := hb.cell 0
      have g1 := hb.cell 1
      have g2 := hb.cell 2
      have g3 := hb.cell 3
      have g4 := hb.cell 4
      have g5 := hb.cell 5
      have g6 := hb.cell 6
      have g7 := hb.cell 7
      have g8 := hb.cell 8
      have g9 := hb.cell 9
      have g10 := hb.cell 10
      have g11 := hb.cell 11
      have g12 := hb.cell 12
      have g13 := hb.cell 13
      clear hb
      go_simp
      all_goals (first | with_reducible rfl | rw [if_pos (by omega)])
     try simp only [Act.put, aS]
     refine wpAnyH_ready (rs := [2]) (by kernel_rfl) (by simp) ?_
     refine AllReadyH.cons (o := ⟨_, _, _, _, _, _⟩) rfl (fun K' hK => ?_) AllReadyH.nil
     have hq := copied_any q _ e0 (RdS.of_owns HO.out) (by omega)
     go_simp
     go_at_call 8
     refine hq.mono ?_
     clear hq
     rintro e e1 ⟨r, rfl, hQ, hE⟩
     have HQ := Lib.hid (owns_low hQ HE.out.size)
     obtain ⟨bA, bc, rfl, -⟩ := RdS.of_owns hQ
     clear hQ
     have HE' := Lib.hid (HE.out.trans hE)
     have HB' := Lib.hid (HB.out.ext hE)
     have HO' := Lib.hid (owns_ext hE HO.out)
     have HL' := Lib.hid (rowV2.ext HL.out hE)
     refine hK.out _ _ (show _ ∧ _ from ⟨hHeld.1.ext hE, hE.cell hHeld.2.1, hE.cell hHeld.2.2⟩) (fun hHeld => ?_)
     clear hK K' hE
     try simp only [Act.put, aS]
     replace HE := HE'; replace HB := HB'; replace HO := HO'; replace HL := HL'
     clear HE' HB' HO' HL'
     refine tk 17 ?_ rfl (.inl ⟨by rfl, ?_⟩) hHeld ?_
     rotate_left
     ·intro w hSw
      try dsimp only at hSw
      go_simp
      all_goals (first | with_reducible rfl | rw [if_pos (by omega)])
     try simp only [Act.put, aS]
     obtain ⟨e2, hw⟩ : ∃ W, e1.alloc (.cells #[.int .u8 4, .slice bA q.length bc, .int .i64 0, .slice none 0 0, .int .u64 0, .bool false, .string ⟨#[]⟩, .string ak, .string av, .bool false, .slice none 0 0] 38) = W := ⟨_, rfl⟩
     obtain ⟨N, hN⟩ : ∃ g, e1.heap.size = g := ⟨_, rfl⟩
     have hE : Ext e1 e2 := by rw [← hw]; exact (Ext.refl _).alloc _
     have HN := Lib.hid (show NBox e2 N 38 #[.int .u8 4, .slice bA q.length bc, .int .i64 0, .slice none 0 0, .int .u64 0, .bool false, .string ⟨#[]⟩, .string ak, .string av, .bool false, .slice none 0 0] from by rw [← hw, ← hN]; exact NBox.new _ _ _)
     have HW := Lib.hid hw
     have HNN := Lib.hid hN
     clear hw hN
     have HE' := Lib.hid (HE.out.trans hE)
     have HB' := Lib.hid (HB.out.ext hE)
     have HO' := Lib.hid (owns_ext hE HO.out)
     have HL' := Lib.hid (rowV2.ext HL.out hE)
     have HQ' := Lib.hid (owns_ext hE HQ.out)
     refine wpAnyH_ready (rs := [18]) (by kernel_rfl) (by simp) ?_
     refine AllReadyH.cons (o := ⟨_, _, _, _, _, _⟩) rfl (fun K' hK => ?_) AllReadyH.nil
     go_simp
     rw [HW.out, HNN.out]
     refine hK.out _ _ (show _ ∧ _ from ⟨hHeld.1.ext hE, hE.cell hHeld.2.1, hE.cell hHeld.2.2⟩) (fun hHeld => ?_)
     clear hK K' hE HW HNN
     try simp only [Act.put, aS]
     replace HE := HE'; replace HB := HB'; replace HO := HO'; replace HL := HL'; replace HQ := HQ'
     clear HE' HB' HO' HL' HQ'
     obtain ⟨us1, ho1, hla1⟩ := HL.out
     have hS : ∀ g, (Value.slice bA q.length bc).ownBlock = some g → ¬ rowS w1.heap.size (.slice A l.length c) g := fun g hg hk => hk.elim (fun h => absurd (owns_base HQ.out g hg) (Nat.not_le.2 h)) (fun h => owns_apart ho1 HQ.out (by decide) h hg)
     have hx : Late (rowS w1.heap.size (.slice A l.length c)) (fun W => (atrO q (ak, av)).rd W (.agg #[.int .u8 4, .slice bA q.length bc, .int .i64 0, .slice none 0 0, .int .u64 0, .bool false, .string ⟨#[]⟩, .string ak, .string av, .bool false, .slice none 0 0])) e2 := op_late (o := atrO q (ak, av)) HQ.out hS rfl rfl (Nat.zero_le _) a0 a1 (show (0 : Int) ≤ 0 ∧ (0 : Int) ≤ 18446744073709551615 from by decide) (show (0 : Int) ≤ 4 ∧ (4 : Int) ≤ 255 from by decide)
     refine wpAnyH_ready (rs := [19]) (by kernel_rfl) (by simp) ?_
     refine AllReadyH.cons (o := ⟨_, _, _, _, _, _⟩) rfl (fun K' hK => ?_) AllReadyH.nil
     refine wp_append_rd rfl T31 (by rfl) ho1 (by rfl) (NBox.row HN.out) (ones11 ⟨rfl, rfl, rfl, rfl, rfl, rfl, rfl, rfl, rfl, rfl, rfl⟩) (by omega) (by simp only [maxLen]; omega) HE.out.size ?_
     intro v4 e3 h4 hg hat4
     have HL2 := Lib.hid (rowV2.push hla1 rfl hx hg hat4 h4)
     have F := Fr.grown hg
     have HE' := Lib.hid (Fr.ext HE.out F (fun k hk => owns_base ho1 k hk))
     have HB' := Lib.hid (HB.out.fr F (fun hk => HB.out.not_own ho1 (by decide) hk))
     have HO' := Lib.hid (owns_fr F HO.out (fun g hg hk => owns_apart ho1 HO.out (by decide) hk hg))
     have hAB : ¬ (Value.slice A l.length c).ownBlock = some ab := fun hk => absurd (owns_base ho1 ab hk) (Nat.not_le.2 HAB.out)
     have hHeld' := (⟨NBox.fr F hHeld.1 (fun hk => NBox.not_own hHeld.1 ho1 (by decide) hk), F.cell hAB hHeld.2.1, F.cell hAB hHeld.2.2⟩ : _ ∧ _ ∧ _)
     refine hK.out _ _ (show _ ∧ _ from hHeld') (fun hHeld => ?_)
     clear hK K' F hx hS hla1 ho1 hHeld' hAB HQ HL HN hg hat4 h4
     try simp only [Act.put, aS]
     replace HE := HE'; replace HB := HB'; replace HO := HO'
     clear HE' HB' HO'
     obtain ⟨L3, hL3⟩ : ∃ L, l ++ [atrO q (ak, av)] = L := ⟨_, rfl⟩
     have hl3 : L3.length ≤ 2 + (j + 1) := by rw [← hL3, List.length_append]; simp only [List.length_cons, List.length_nil]; omega
     rw [hL3] at HL2 HN'
     obtain ⟨A3, c3, rfl⟩ := lsV.slice HL2.out
     clear hL3
     refine tk 20 ?_ rfl (.inl ⟨by rfl, ?_⟩) hHeld ?_
     rotate_left
     ·intro w hSw
      try dsimp only at hSw
      go_simp
      all_goals (first | with_reducible rfl | rw [if_pos (by omega)])
     try simp only [Act.put, aS]
     refine wpAnyH_done (by kernel_rfl) ?_ _
     clear hHeld
     go_wp2_with fail
     go_roundw
     case rel => exact ⟨j + 1, L3, A3, c3, by go_num, by omega, rfl, hl3, HE, HB, HO, HL2, HN'⟩
     case measure => simp [intOf]; omega
    ·obtain rfl : j = s.x.attrs.length := by omega
     have q1 : ¬ ((s.x.attrs.length : Int) < (s.x.attrs.length : Int)) := Int.lt_irrefl _
     have HN' := Lib.hid (show splL m id s rest = l ++ editL rest q ⟨0, 0, rest⟩ from by rw [HN9.out, List.drop_eq_nil_of_le (Nat.le_refl _)]; simp)
     clear HN9 q1
     have HF : Hid (splL m id s rest = l) := Lib.hid (by rw [HN'.out, HED2'.out, List.append_nil])
     go_wp2_with fail
     go_ret2
     rw [HSPL.out, HR.out, HF.out]
     exact ⟨HE0.out.trans HE.out, _, rfl, rowV2.low HL.out HE0.out.size⟩
  | false =>
   have hz0 : ¬ rest.size = 0 := by have := bytes_empty rest; rw [hz] at this; exact of_decide_eq_false this.symm
   have HED1' := Lib.hid (HED1.out.trans (if_neg hz0))
   have HED2' := Lib.hid (HED2.out.trans (if_neg hz0))
   clear HED1 HED2 hz0
   have hq := copied_any p _ w4 (RdS.ext HE.out HP1.out) (by omega)
   go_wp2_with fail
   refine hq.mono ?_
   clear hq
   rintro e w5 ⟨r, rfl, hQ, hE⟩
   have HQ := Lib.hid (owns_low hQ HE.out.size)
   obtain ⟨bA, bc, rfl, -⟩ := RdS.of_owns hQ
   clear hQ
   have HE' := Lib.hid (HE.out.trans hE)
   have HB' := Lib.hid (HB.out.ext hE)
   have HU' := Lib.hid (owns_ext hE HU.out)
   have HO' := Lib.hid (owns_ext hE HO.out)
   clear hE
   replace HE := HE'; replace HB := HB'; replace HU := HU'; replace HO := HO'
   clear HE' HB' HU' HO'
   obtain ⟨Q, hQQ⟩ : ∃ g, w5.heap.size = g := ⟨_, rfl⟩
   obtain ⟨wp, hwp⟩ : ∃ W, w5.alloc (.cells #[.int .i64 (m : Int), .int .i64 (rest.size : Int), .string ⟨#[]⟩] 49) = W := ⟨_, rfl⟩
   have sp : wp.heap.size = Q + 1 := by rw [← hwp, World.size_alloc, hQQ]
   obtain ⟨wo, hwo⟩ : ∃ W, wp.alloc (.cells #[.int .u8 6, .slice bA p.length bc, .int .i64 0, .slice none 0 0, .int .u64 0, .bool false, .string ⟨#[]⟩, .string ⟨#[]⟩, .string ⟨#[]⟩, .bool false, .slice (some ⟨Q, 0, none⟩) 1 1] 38) = W := ⟨_, rfl⟩
   have hE1 : Ext w5 wp := by rw [← hwp]; exact (Ext.refl _).alloc _
   have hE2 : Ext wp wo := by rw [← hwo]; exact (Ext.refl _).alloc _
   have bP : NBox wo Q 49 #[.int .i64 (m : Int), .int .i64 (rest.size : Int), .string ⟨#[]⟩] := by rw [← hQQ]; exact NBox.ext hE2 (by rw [← hwp]; exact NBox.new _ _ _)
   have bN : NBox wo (Q + 1) 38 #[.int .u8 6, .slice bA p.length bc, .int .i64 0, .slice none 0 0, .int .u64 0, .bool false, .string ⟨#[]⟩, .string ⟨#[]⟩, .string ⟨#[]⟩, .bool false, .slice (some ⟨Q, 0, none⟩) 1 1] := by rw [← sp, ← hwo]; exact NBox.new _ _ _
   have hQl : w1.heap.size ≤ Q := by rw [← hQQ]; exact HE.out.size
   have hE := hE1.trans hE2
   have HE' := Lib.hid (HE.out.trans hE)
   have HB' := Lib.hid (HB.out.ext hE)
   have HU' := Lib.hid (owns_ext hE HU.out)
   have HO' := Lib.hid (owns_ext hE HO.out)
   have HQ' := Lib.hid (owns_ext hE HQ.out)
   have HWO := Lib.hid (show (w5.alloc (.cells #[.int .i64 (m : Int), .int .i64 (rest.size : Int), .string ⟨#[]⟩] 49)).alloc (.cells #[.int .u8 6, .slice bA p.length bc, .int .i64 0, .slice none 0 0, .int .u64 0, .bool false, .string ⟨#[]⟩, .string ⟨#[]⟩, .string ⟨#[]⟩, .bool false, .slice (some ⟨w5.heap.size, 0, none⟩) 1 1] 38) = wo from by rw [hwp, hQQ]; exact hwo)
   have HQQ := Lib.hid hQQ
   clear hwp hwo hQQ sp hE1 hE2 hE
   replace HE := HE'; replace HB := HB'; replace HU := HU'; replace HO := HO'; replace HQ := HQ'
   clear HE' HB' HU' HO' HQ'
   have ho1 : wo.ownsRow w1.heap.size 38 11 (.slice none 0 0) 0 [] := noRowS _ _ _ _
   have hla1 : Late (rowS w1.heap.size (.slice none 0 0)) (fun W => rowCells RdO 11 W [] []) wo := Late.all fun _ => rfl
   have hsz := HE.out.size
   have hx : Late (rowS w1.heap.size (.slice none 0 0)) (fun W => (editO p ⟨m, rest.size, ⟨#[]⟩⟩).rd W (.agg #[.int .u8 6, .slice bA p.length bc, .int .i64 0, .slice none 0 0, .int .u64 0, .bool false, .string ⟨#[]⟩, .string ⟨#[]⟩, .string ⟨#[]⟩, .bool false, .slice (some ⟨Q, 0, none⟩) 1 1])) wo := by
    intro W2 F2
    have hO2 := owns_fr F2 HQ.out (fun b hb hk => hk.elim (fun h => by have := owns_base HQ.out b hb; omega) (fun h => owns_apart ho1 HQ.out (by decide) h hb))
    have hq2 := bP.fr F2 (fun hk => hk.elim (fun h => by omega) (fun h => bP.not_own ho1 (by decide) h))
    refine ⟨_, _, _, rfl, RdS.of_owns hO2, RdS.nil_ _ _, ⟨_, 1, rfl, Nat.le_refl _, by simp [maxLen], fun _ => ⟨Q, 0, rfl, hq2.cell 0, hq2.cell 1, hq2.cell 2, Nat.zero_le _, trivial⟩⟩, ?_, ?_, ?_, ⟨?_, ?_⟩, ?_, ?_⟩
    all_goals first | exact Nat.zero_le _ | (dsimp only [editO]; omega)
   have hrow := bN.row
   have hones := ones11 (c0 := .int .u8 6) (c1 := .slice bA p.length bc) (c2 := .int .i64 0) (c3 := .slice none 0 0) (c4 := .int .u64 0) (c5 := .bool false) (c6 := .string ⟨#[]⟩) (c7 := .string ⟨#[]⟩) (c8 := .string ⟨#[]⟩) (c9 := .bool false) (c10 := .slice (some ⟨Q, 0, none⟩) 1 1) ⟨rfl, rfl, rfl, rfl, rfl, rfl, rfl, rfl, rfl, rfl, rfl⟩
   go_wp2_with (first | (at_builtin; rw [HWO.out, HQQ.out]; refine wpList_append_rd rfl rfl T31 (v := _) (by rfl) ho1 (by rfl) hrow hones (by omega) (by simp only [maxLen]; omega) hsz ?_; intro v4 w6 h4 hg hat4))
   have HL2 := Lib.hid (rowV2.push hla1 rfl hx hg hat4 h4)
   have F := Fr.grown hg
   have HE' := Lib.hid (Fr.ext HE.out F (fun k hk => owns_base ho1 k hk))
   have HB' := Lib.hid (HB.out.fr F (fun hk => HB.out.not_own ho1 (by decide) hk))
   have HU' := Lib.hid (owns_fr F HU.out (fun g hg hk => owns_apart ho1 HU.out (by decide) hk hg))
   have HO' := Lib.hid (owns_fr F HO.out (fun g hg hk => owns_apart ho1 HO.out (by decide) hk hg))
   clear hx hla1 ho1 hg hat4 h4 HQ bP bN hrow hones hsz F HWO HQQ
   replace HE := HE'; replace HB := HB'; replace HU := HU'; replace HO := HO'
   clear HE' HB' HU' HO'
   obtain ⟨l, hl⟩ : ∃ L, ([] : List OpD) ++ [editO p ⟨m, rest.size, ⟨#[]⟩⟩] = L := ⟨_, rfl⟩
   have hl1 : l.length ≤ 1 := by rw [← hl]; exact Nat.le_refl _
   have HL1 : Hid (editL rest p ⟨m, rest.size, ⟨#[]⟩⟩ = l) := Lib.hid (by rw [HED1'.out, ← hl]; rfl)
   rw [hl] at HL2
   obtain ⟨A, c, rfl⟩ := lsV.slice HL2.out
   have HL := HL2
   clear HL2 hl HED1'
   go_upto_region 13 with fail
   obtain ⟨e0, he0⟩ : ∃ d0, w6.drew = d0 := ⟨_, rfl⟩
   have hE : Ext w6 e0 := by rw [← he0]; exact (Ext.refl _).drew
   have HE' := Lib.hid (HE.out.trans hE)
   have HB' := Lib.hid (HB.out.ext hE)
   have HU' := Lib.hid (owns_ext hE HU.out)
   have HO' := Lib.hid (owns_ext hE HO.out)
   have HL' := Lib.hid (rowV2.ext HL.out hE)
   clear hE
   replace HE := HE'; replace HB := HB'; replace HU := HU'; replace HO := HO'; replace HL := HL'
   clear HE' HB' HU' HO' HL'
   refine wp_region_held_drew (S := (fun W => NBox W X 58 #[.int .u64 s.x.id, .bool s.x.leaf, .string s.x.label, .slice xA s.x.attrs.length xc, .string s.x.text, .slice xK s.x.kids.length xd, .slice uA s.up.length uc, .int .i64 s.i, .int .u64 s.par.id, .bool s.par.leaf, .string s.par.label, .slice yA s.par.attrs.length yc, .string s.par.text, .slice yK s.par.kids.length yd])) (by kernel_rfl) (by rw [he0]; exact HB.out) (fun hHeld => ?_)
   rw [he0] at hHeld ⊢
   clear he0
   refine tk 0 ?_ rfl (.inl ⟨by rfl, ?_⟩) hHeld ?_
   rotate_left
   ·intro w hSw
    try dsimp only at hSw
    go_simp
    all_goals (first | with_reducible rfl | rw [if_pos (by omega)])
   try simp only [Act.put, aS]
   refine tk 1 ?_ rfl (.inl ⟨by rfl, ?_⟩) hHeld ?_
   rotate_left
   ·intro w hSw
    try dsimp only at hSw
    go_simp
    all_goals (first | with_reducible rfl | rw [if_pos (by omega)])
   try simp only [Act.put, aS]
   refine tk 2 ?_ rfl (.inl ⟨by rfl, ?_⟩) hHeld ?_
   rotate_left
   ·intro w hSw
    have hb : NBox w X 58 _ := hSw
    have g0 := hb.cell 0
    have g1 := hb.cell 1
    have g2 := hb.cell 2
    have g3 := hb.cell 3
    have g4 := hb.cell 4
    have g5 := hb.cell 5
    have g6 := hb.cell 6
    have g7 := hb.cell 7
    have g8 := hb.cell 8
    have g9 := hb.cell 9
    have g10 := hb.cell 10
    have g11 := hb.cell 11
    have g12 := hb.cell 12
    have g13 := hb.cell 13
    clear hb hSw
    go_simp
    all_goals (first | with_reducible rfl | rw [if_pos (by omega)])
   try simp only [Act.put, aS]
   refine tk 4 ?_ rfl (.inl ⟨by rfl, ?_⟩) hHeld ?_
   rotate_left
   ·intro w hSw
    try dsimp only at hSw
    go_simp
    all_goals (first | with_reducible rfl | rw [if_pos (by omega)])
   try simp only [Act.put, aS]
   refine tk 5 ?_ rfl (.inl ⟨by rfl, ?_⟩) hHeld ?_
   rotate_left
   ·intro w hSw
    have hb : NBox w X 58 _ := hSw
    have g0 := hb.cell 0
    have g1 := hb.cell 1
    have g2 := hb.cell 2
    have g3 := hb.cell 3
    have g4 := hb.cell 4
    have g5 := hb.cell 5
    have g6 := hb.cell 6
    have g7 := hb.cell 7
    have g8 := hb.cell 8
    have g9 := hb.cell 9
    have g10 := hb.cell 10
    have g11 := hb.cell 11
    have g12 := hb.cell 12
    have g13 := hb.cell 13
    clear hb hSw
    go_simp
    all_goals (first | with_reducible rfl | rw [if_pos (by omega)])
   try simp only [Act.put, aS]
   refine tk 6 ?_ rfl (.inl ⟨by rfl, ?_⟩) hHeld ?_
   rotate_left
   ·intro w hSw
    try dsimp only at hSw
    go_simp
    all_goals (first | with_reducible rfl | rw [if_pos (by omega)])
   try simp only [Act.put, aS]
   refine tk 7 ?_ rfl (.inl ⟨by rfl, ?_⟩) hHeld ?_
   rotate_left
   ·intro w hSw
    try dsimp only at hSw
    go_simp
    all_goals (first | with_reducible rfl | rw [if_pos (by omega)])
   try simp only [Act.put, aS]
   refine tk 8 ?_ rfl (.inl ⟨by rfl, ?_⟩) hHeld ?_
   rotate_left
   ·intro w hSw
    try dsimp only at hSw
    go_simp
    all_goals (first | with_reducible rfl | rw [if_pos (by omega)])
   try simp only [Act.put, aS]
   refine tk 9 ?_ rfl (.inl ⟨by rfl, ?_⟩) hHeld ?_
   rotate_left
   ·intro w hSw
    try dsimp only at hSw
    go_simp
    all_goals (first | with_reducible rfl | rw [if_pos (by omega)])
   try simp only [Act.put, aS]
   refine tk 10 ?_ rfl (.inl ⟨by rfl, ?_⟩) hHeld ?_
   rotate_left
   ·intro w hSw
    have hb : NBox w X 58 _ := hSw
    have g0 := hb.cell 0
    have g1 := hb.cell 1
    have g2 := hb.cell 2
    have g3 := hb.cell 3
    have g4 := hb.cell 4
    have g5 := hb.cell 5
    have g6 := hb.cell 6
    have g7 := hb.cell 7
    have g8 := hb.cell 8
    have g9 := hb.cell 9
    have g10 := hb.cell 10
    have g11 := hb.cell 11
    have g12 := hb.cell 12
    have g13 := hb.cell 13
    clear hb hSw
    go_simp
    all_goals (first | with_reducible rfl | rw [if_pos (by omega)])
   try simp only [Act.put, aS]
   refine wpAnyH_ready (rs := [3]) (by kernel_rfl) (by simp) ?_
   refine AllReadyH.cons (o := ⟨_, _, _, _, _, _⟩) rfl (fun K' hK => ?_) AllReadyH.nil
   have hq := copied_any s.up _ e0 (RdS.of_owns HU.out) (by omega)
   go_simp
   go_at_call 8
   refine hq.mono ?_
   clear hq
   rintro e e1 ⟨r, rfl, hQ, hE⟩
   have HQ := Lib.hid (owns_low hQ HE.out.size)
   obtain ⟨bA, bc, rfl, -⟩ := RdS.of_owns hQ
   clear hQ
   have HE' := Lib.hid (HE.out.trans hE)
   have HB' := Lib.hid (HB.out.ext hE)
   have HU' := Lib.hid (owns_ext hE HU.out)
   have HO' := Lib.hid (owns_ext hE HO.out)
   have HL' := Lib.hid (rowV2.ext HL.out hE)
   refine hK.out _ _ (show NBox _ _ _ _ from NBox.ext hE hHeld) (fun hHeld => ?_)
   clear hK K' hE
   try simp only [Act.put, aS]
   replace HE := HE'; replace HB := HB'; replace HU := HU'; replace HO := HO'; replace HL := HL'
   clear HE' HB' HU' HO' HL'
   refine tk 11 ?_ rfl (.inl ⟨by rfl, ?_⟩) hHeld ?_
   rotate_left
   ·intro w hSw
    try dsimp only at hSw
    go_simp
    all_goals (first | with_reducible rfl | rw [if_pos (by omega)])
   try simp only [Act.put, aS]
   obtain ⟨e2, hw⟩ : ∃ W, e1.alloc (.cells #[.int .u8 1, .slice bA s.up.length bc, .int .i64 (s.i + 1), .slice none 0 0, .int .u64 id, .bool true, .string s.x.label, .string ⟨#[]⟩, .string ⟨#[]⟩, .bool false, .slice none 0 0] 38) = W := ⟨_, rfl⟩
   obtain ⟨N, hN⟩ : ∃ g, e1.heap.size = g := ⟨_, rfl⟩
   have hE : Ext e1 e2 := by rw [← hw]; exact (Ext.refl _).alloc _
   have HN := Lib.hid (show NBox e2 N 38 #[.int .u8 1, .slice bA s.up.length bc, .int .i64 (s.i + 1), .slice none 0 0, .int .u64 id, .bool true, .string s.x.label, .string ⟨#[]⟩, .string ⟨#[]⟩, .bool false, .slice none 0 0] from by rw [← hw, ← hN]; exact NBox.new _ _ _)
   have HW := Lib.hid hw
   have HNN := Lib.hid hN
   clear hw hN
   have HE' := Lib.hid (HE.out.trans hE)
   have HB' := Lib.hid (HB.out.ext hE)
   have HO' := Lib.hid (owns_ext hE HO.out)
   have HL' := Lib.hid (rowV2.ext HL.out hE)
   have HQ' := Lib.hid (owns_ext hE HQ.out)
   refine wpAnyH_ready (rs := [12]) (by kernel_rfl) (by simp) ?_
   refine AllReadyH.cons (o := ⟨_, _, _, _, _, _⟩) rfl (fun K' hK => ?_) AllReadyH.nil
   go_simp
   rw [HW.out, HNN.out]
   refine hK.out _ _ (show NBox _ _ _ _ from NBox.ext hE hHeld) (fun hHeld => ?_)
   clear hK K' hE HW HNN
   try simp only [Act.put, aS]
   replace HE := HE'; replace HB := HB'; replace HO := HO'; replace HL := HL'; replace HQ := HQ'
   clear HE' HB' HO' HL' HQ'
   obtain ⟨us1, ho1, hla1⟩ := HL.out
   have hS : ∀ g, (Value.slice bA s.up.length bc).ownBlock = some g → ¬ rowS w1.heap.size (.slice A l.length c) g := fun g hg hk => hk.elim (fun h => absurd (owns_base HQ.out g hg) (Nat.not_le.2 h)) (fun h => owns_apart ho1 HQ.out (by decide) h hg)
   have hx : Late (rowS w1.heap.size (.slice A l.length c)) (fun W => (newO s.up (s.i + 1) id s.x.label).rd W (.agg #[.int .u8 1, .slice bA s.up.length bc, .int .i64 (s.i + 1), .slice none 0 0, .int .u64 id, .bool true, .string s.x.label, .string ⟨#[]⟩, .string ⟨#[]⟩, .bool false, .slice none 0 0])) e2 := op_late (o := newO s.up (s.i + 1) id s.x.label) HQ.out hS rfl rfl HLAB.out (Nat.zero_le _) (Nat.zero_le _) HID.out (show (0 : Int) ≤ 1 ∧ (1 : Int) ≤ 255 from by decide)
   refine wpAnyH_ready (rs := [13]) (by kernel_rfl) (by simp) ?_
   refine AllReadyH.cons (o := ⟨_, _, _, _, _, _⟩) rfl (fun K' hK => ?_) AllReadyH.nil
   refine wp_append_rd rfl T31 (by rfl) ho1 (by rfl) (NBox.row HN.out) (ones11 ⟨rfl, rfl, rfl, rfl, rfl, rfl, rfl, rfl, rfl, rfl, rfl⟩) (by omega) (by simp only [maxLen]; omega) HE.out.size ?_
   intro v4 e3 h4 hg hat4
   have HL2 := Lib.hid (rowV2.push hla1 rfl hx hg hat4 h4)
   have F := Fr.grown hg
   have HE' := Lib.hid (Fr.ext HE.out F (fun k hk => owns_base ho1 k hk))
   have HB' := Lib.hid (HB.out.fr F (fun hk => HB.out.not_own ho1 (by decide) hk))
   have HO' := Lib.hid (owns_fr F HO.out (fun g hg hk => owns_apart ho1 HO.out (by decide) hk hg))
   have hHeld' : NBox e3 X 58 _ := NBox.fr F hHeld (fun hk => NBox.not_own hHeld ho1 (by decide) hk)
   refine hK.out _ _ (show NBox _ _ _ _ from hHeld') (fun hHeld => ?_)
   clear hK K' F hx hS hla1 ho1 hHeld' HQ HL HN hg hat4 h4
   try simp only [Act.put, aS]
   replace HE := HE'; replace HB := HB'; replace HO := HO'
   clear HE' HB' HO'
   obtain ⟨L2, hL2⟩ : ∃ L, l ++ [newO s.up (s.i + 1) id s.x.label] = L := ⟨_, rfl⟩
   rw [hL2] at HL2
   have HSL2 := Lib.hid (show splL m id s rest = L2 ++ s.x.attrs.map (atrO q) ++ editL rest q ⟨0, 0, rest⟩ from by rw [HSL.out, HL1.out, hL2])
   have hl2 : L2.length ≤ 2 := by rw [← hL2, List.length_append]; simp only [List.length_cons, List.length_nil]; omega
   obtain ⟨A2, c2, rfl⟩ := lsV.slice HL2.out
   clear hL2 HL1 hl1
   refine tk 14 ?_ rfl (.inl ⟨by rfl, ?_⟩) hHeld ?_
   rotate_left
   ·intro w hSw
    try dsimp only at hSw
    go_simp
    all_goals (first | with_reducible rfl | rw [if_pos (by omega)])
   try simp only [Act.put, aS]
   refine wpAnyH_done (by kernel_rfl) ?_ _
   clear hHeld
   have k3 := HB.out.cell 3
   go_wp2_with fail
   clear k3
   go_loopw [14, 15] (fun s14 s15 wr => ∃ (j : Nat) (l : List OpD) (A : Option Addr) (c : Nat), s15 = .int .i64 (j : Int) ∧ j ≤ s.x.attrs.length ∧ s14 = .slice A l.length c ∧ l.length ≤ 2 + j ∧ Hid (Ext w1 wr) ∧ Hid (NBox wr X 58 #[.int .u64 s.x.id, .bool s.x.leaf, .string s.x.label, .slice xA s.x.attrs.length xc, .string s.x.text, .slice xK s.x.kids.length xd, .slice uA s.up.length uc, .int .i64 s.i, .int .u64 s.par.id, .bool s.par.leaf, .string s.par.label, .slice yA s.par.attrs.length yc, .string s.par.text, .slice yK s.par.kids.length yd]) ∧ Hid (wr.ownsRow w1.heap.size 3 1 (.slice nA q.length nc) q.length (q.map (Value.int .i64))) ∧ Hid (rowV2 RdO 38 11 w1.heap.size l (.slice A l.length c) wr) ∧ Hid (splL m id s rest = l ++ (s.x.attrs.drop j).map (atrO q) ++ editL rest q ⟨0, 0, rest⟩)) (fun _ s15 _ => s.x.attrs.length - (intOf s15).toNat)
   case atStart => exact ⟨0, L2, A2, c2, rfl, Nat.zero_le _, rfl, hl2, HE, HB, HO, HL2, HSL2⟩
   case round =>
    clear HE HO HB HL2 HSL2 hl2
    obtain ⟨j, l, A, c, rfl, hj, rfl, hll, HE, HB, HO, HL, HN9⟩ := hrel
    have k3 := HB.out.cell 3
    rcases Nat.lt_or_ge j s.x.attrs.length with hlt | hlt
    ·have q1 : (0 : Int) ≤ (j : Int) := by omega
     have q2 : (j : Int) < (s.x.attrs.length : Int) := by omega
     obtain ⟨⟨ak, av⟩, ha⟩ : ∃ x, s.x.attrs[j]? = some x := ⟨_, List.getElem?_eq_getElem hlt⟩
     obtain ⟨av0, kv0, he, -, -, -, -, ⟨aA, ac, hav, -, -, hra⟩, -⟩ := Nd.rd_open HXR0.out
     simp only [Value.agg.injEq, Array.mk.injEq, List.cons.injEq, and_true, true_and] at he
     obtain ⟨hav0, -⟩ := he
     rw [hav] at hav0
     simp only [Value.slice.injEq, true_and] at hav0
     obtain ⟨rfl, rfl⟩ := hav0
     obtain ⟨ab, ao, rfl, hr⟩ := hra (by intro h0; rw [h0] at hlt; exact absurd hlt (Nat.not_lt_zero _))
     obtain ⟨hk1, hk2, a0, a1⟩ := rdAttrs_at (rdAttrs_ext HE.out hr) ha
     have HAB : Hid (ab < w1.heap.size) := Lib.hid (by have h := (rdAttrs_at hr ha).1; exact lt_of_cell h)
     have HN' := Lib.hid (show splL m id s rest = (l ++ [atrO q (ak, av)]) ++ (s.x.attrs.drop (j + 1)).map (atrO q) ++ editL rest q ⟨0, 0, rest⟩ from by rw [HN9.out, drop_at ha, List.map_cons, List.append_assoc l [_]]; rfl)
     clear hr hra hav ha HN9
     go_upto_region 17 with fail
     clear k3
     obtain ⟨e0, he0⟩ : ∃ d0, wr.drew = d0 := ⟨_, rfl⟩
     have hE : Ext wr e0 := by rw [← he0]; exact (Ext.refl _).drew
     have HE' := Lib.hid (HE.out.trans hE)
     have HB' := Lib.hid (HB.out.ext hE)
     have HO' := Lib.hid (owns_ext hE HO.out)
     have HL' := Lib.hid (rowV2.ext HL.out hE)
     have hk1' := Lib.hid (hE.cell hk1)
     have hk2' := Lib.hid (hE.cell hk2)
     clear hE hk1 hk2
     replace HE := HE'; replace HB := HB'; replace HO := HO'; replace HL := HL'
     clear HE' HB' HO' HL'
     refine wp_region_held_drew (S := (fun W => NBox W X 58 #[.int .u64 s.x.id, .bool s.x.leaf, .string s.x.label, .slice (some ⟨ab, ao, none⟩) s.x.attrs.length xc, .string s.x.text, .slice xK s.x.kids.length xd, .slice uA s.up.length uc, .int .i64 s.i, .int .u64 s.par.id, .bool s.par.leaf, .string s.par.label, .slice yA s.par.attrs.length yc, .string s.par.text, .slice yK s.par.kids.length yd] ∧ W.cell? ⟨ab, ao + j * 2, none⟩ = some (.string ak) ∧ W.cell? ⟨ab, ao + j * 2 + 1, none⟩ = some (.string av))) (by kernel_rfl) (by rw [he0]; exact ⟨HB.out, hk1'.out, hk2'.out⟩) (fun hHeld => ?_)
     rw [he0] at hHeld ⊢
     clear he0 hk1' hk2'
     refine tk 0 ?_ rfl (.inl ⟨by rfl, ?_⟩) hHeld ?_
     rotate_left
     ·intro w hSw
      try dsimp only at hSw
      go_simp
      all_goals (first | with_reducible rfl | rw [if_pos (by omega)])
     try simp only [Act.put, aS]
     refine tk 1 ?_ rfl (.inl ⟨by rfl, ?_⟩) hHeld ?_
     rotate_left
     ·intro w hSw
      try dsimp only at hSw
      go_simp
      all_goals (first | with_reducible rfl | rw [if_pos (by omega)])
     try simp only [Act.put, aS]
     refine tk 3 ?_ rfl (.inl ⟨by rfl, ?_⟩) hHeld ?_
     rotate_left
     ·intro w hSw
      try dsimp only at hSw
      go_simp
      all_goals (first | with_reducible rfl | rw [if_pos (by omega)])
     try simp only [Act.put, aS]
     refine tk 4 ?_ rfl (.inl ⟨by rfl, ?_⟩) hHeld ?_
     rotate_left
     ·intro w hSw
      try dsimp only at hSw
      go_simp
      all_goals (first | with_reducible rfl | rw [if_pos (by omega)])
     try simp only [Act.put, aS]
     refine tk 5 ?_ rfl (.inl ⟨by rfl, ?_⟩) hHeld ?_
     rotate_left
     ·intro w hSw
      obtain ⟨hb, hz1, hz2⟩ : NBox w X 58 _ ∧ _ := hSw
      have g0 := hb.cell 0
      have g1 := hb.cell 1
      have g2 := hb.cell 2
      have g3 := hb.cell 3
      have g4 := hb.cell 4
      have g5 := hb.cell 5
      have g6 := hb.cell 6
      have g7 := hb.cell 7
      have g8 := hb.cell 8
      have g9 := hb.cell 9
      have g10 := hb.cell 10
      have g11 := hb.cell 11
      have g12 := hb.cell 12
      have g13 := hb.cell 13
      clear hb
      go_simp
      all_goals (first | with_reducible rfl | rw [if_pos (by omega)])
     try simp only [Act.put, aS]
     refine tk 6 ?_ rfl (.inl ⟨by rfl, ?_⟩) hHeld ?_
     rotate_left
     ·intro w hSw
      try dsimp only at hSw
      go_simp
      all_goals (first | with_reducible rfl | rw [if_pos (by omega)])
     try simp only [Act.put, aS]
     refine tk 7 ?_ rfl (.inl ⟨by rfl, ?_⟩) hHeld ?_
     rotate_left
     ·intro w hSw
      try dsimp only at hSw
      go_simp
      all_goals (first | with_reducible rfl | rw [if_pos (by omega)])
     try simp only [Act.put, aS]
     refine tk 8 ?_ rfl (.inl ⟨by rfl, ?_⟩) hHeld ?_
     rotate_left
     ·intro w hSw
      try dsimp only at hSw
      go_simp
      all_goals (first | with_reducible rfl | rw [if_pos (by omega)])
     try simp only [Act.put, aS]
     refine tk 9 ?_ rfl (.inl ⟨by rfl, ?_⟩) hHeld ?_
     rotate_left
     ·intro w hSw
      obtain ⟨hb, hz1, hz2⟩ : NBox w X 58 _ ∧ _ := hSw
      have g0 := hb.cell 0
      have g1 := hb.cell 1
      have g2 := hb.cell 2
      have g3 := hb.cell 3
      have g4 := hb.cell 4
      have g5 := hb.cell 5
      have g6 := hb.cell 6
      have g7 := hb.cell 7
      have g8 := hb.cell 8
      have g9 := hb.cell 9
      have g10 := hb.cell 10
      have g11 := hb.cell 11
      have g12 := hb.cell 12
      have g13 := hb.cell 13
      clear hb
      go_simp
      all_goals (first | with_reducible rfl | rw [if_pos (by omega)])
     try simp only [Act.put, aS]
     refine tk 10 ?_ rfl (.inl ⟨by rfl, ?_⟩) hHeld ?_
     rotate_left
     ·intro w hSw
      try dsimp only at hSw
      go_simp
      all_goals (first | with_reducible rfl | rw [if_pos (by omega)])
     try simp only [Act.put, aS]
     refine tk 11 ?_ rfl (.inl ⟨by rfl, ?_⟩) hHeld ?_
     rotate_left
     ·intro w hSw
      try dsimp only at hSw
      go_simp
      all_goals (first | with_reducible rfl | rw [if_pos (by omega)])
     try simp only [Act.put, aS]
     refine tk 12 ?_ rfl (.inl ⟨by rfl, ?_⟩) hHeld ?_
     rotate_left
     ·intro w hSw
      obtain ⟨hb, hz1, hz2⟩ : NBox w X 58 _ ∧ _ := hSw
      have g0 := hb.cell 0
      have g1 := hb.cell 1
      have g2 := hb.cell 2
      have g3 := hb.cell 3
      have g4 := hb.cell 4
      have g5 := hb.cell 5
      have g6 := hb.cell 6
      have g7 := hb.cell 7
      have g8 := hb.cell 8
      have g9 := hb.cell 9
      have g10 := hb.cell 10
      have g11 := hb.cell 11
      have g12 := hb.cell 12
      have g13 := hb.cell 13
      clear hb
      go_simp
      all_goals (first | with_reducible rfl | rw [if_pos (by omega)])
     try simp only [Act.put, aS]
     refine tk 13 ?_ rfl (.inl ⟨by rfl, ?_⟩) hHeld ?_
     rotate_left
     ·intro w hSw
      try dsimp only at hSw
      go_simp
      all_goals (first | with_reducible rfl | rw [if_pos (by omega)])
     try simp only [Act.put, aS]
     refine tk 14 ?_ rfl (.inl ⟨by rfl, ?_⟩) hHeld ?_
     rotate_left
     ·intro w hSw
      try dsimp only at hSw
      go_simp
      all_goals (first | with_reducible rfl | rw [if_pos (by omega)])
     try simp only [Act.put, aS]
     refine tk 15 ?_ rfl (.inl ⟨by rfl, ?_⟩) hHeld ?_
     rotate_left
     ·intro w hSw
      try dsimp only at hSw
      go_simp
      all_goals (first | with_reducible rfl | rw [if_pos (by omega)])
     try simp only [Act.put, aS]
     refine tk 16 ?_ rfl (.inl ⟨by rfl, ?_⟩) hHeld ?_
     rotate_left
     ·intro w hSw
      obtain ⟨hb, hz1, hz2⟩ : NBox w X 58 _ ∧ _ := hSw
      have g0 := hb.cell 0
      have g1 := hb.cell 1
      have g2 := hb.cell 2
      have g3 := hb.cell 3
      have g4 := hb.cell 4
      have g5 := hb.cell 5
      have g6 := hb.cell 6
      have g7 := hb.cell 7
      have g8 := hb.cell 8
      have g9 := hb.cell 9
      have g10 := hb.cell 10
      have g11 := hb.cell 11
      have g12 := hb.cell 12
      have g13 := hb.cell 13
      clear hb
      go_simp
      all_goals (first | with_reducible rfl | rw [if_pos (by omega)])
     try simp only [Act.put, aS]
     refine wpAnyH_ready (rs := [2]) (by kernel_rfl) (by simp) ?_
     refine AllReadyH.cons (o := ⟨_, _, _, _, _, _⟩) rfl (fun K' hK => ?_) AllReadyH.nil
     have hq := copied_any q _ e0 (RdS.of_owns HO.out) (by omega)
     go_simp
     go_at_call 8
     refine hq.mono ?_
     clear hq
     rintro e e1 ⟨r, rfl, hQ, hE⟩
     have HQ := Lib.hid (owns_low hQ HE.out.size)
     obtain ⟨bA, bc, rfl, -⟩ := RdS.of_owns hQ
     clear hQ
     have HE' := Lib.hid (HE.out.trans hE)
     have HB' := Lib.hid (HB.out.ext hE)
     have HO' := Lib.hid (owns_ext hE HO.out)
     have HL' := Lib.hid (rowV2.ext HL.out hE)
     refine hK.out _ _ (show _ ∧ _ from ⟨hHeld.1.ext hE, hE.cell hHeld.2.1, hE.cell hHeld.2.2⟩) (fun hHeld => ?_)
     clear hK K' hE
     try simp only [Act.put, aS]
     replace HE := HE'; replace HB := HB'; replace HO := HO'; replace HL := HL'
     clear HE' HB' HO' HL'
     refine tk 17 ?_ rfl (.inl ⟨by rfl, ?_⟩) hHeld ?_
     rotate_left
     ·intro w hSw
      try dsimp only at hSw
      go_simp
      all_goals (first | with_reducible rfl | rw [if_pos (by omega)])
     try simp only [Act.put, aS]
     obtain ⟨e2, hw⟩ : ∃ W, e1.alloc (.cells #[.int .u8 4, .slice bA q.length bc, .int .i64 0, .slice none 0 0, .int .u64 0, .bool false, .string ⟨#[]⟩, .string ak, .string av, .bool false, .slice none 0 0] 38) = W := ⟨_, rfl⟩
     obtain ⟨N, hN⟩ : ∃ g, e1.heap.size = g := ⟨_, rfl⟩
     have hE : Ext e1 e2 := by rw [← hw]; exact (Ext.refl _).alloc _
     have HN := Lib.hid (show NBox e2 N 38 #[.int .u8 4, .slice bA q.length bc, .int .i64 0, .slice none 0 0, .int .u64 0, .bool false, .string ⟨#[]⟩, .string ak, .string av, .bool false, .slice none 0 0] from by rw [← hw, ← hN]; exact NBox.new _ _ _)
     have HW := Lib.hid hw
     have HNN := Lib.hid hN
     clear hw hN
     have HE' := Lib.hid (HE.out.trans hE)
     have HB' := Lib.hid (HB.out.ext hE)
     have HO' := Lib.hid (owns_ext hE HO.out)
     have HL' := Lib.hid (rowV2.ext HL.out hE)
     have HQ' := Lib.hid (owns_ext hE HQ.out)
     refine wpAnyH_ready (rs := [18]) (by kernel_rfl) (by simp) ?_
     refine AllReadyH.cons (o := ⟨_, _, _, _, _, _⟩) rfl (fun K' hK => ?_) AllReadyH.nil
     go_simp
     rw [HW.out, HNN.out]
     refine hK.out _ _ (show _ ∧ _ from ⟨hHeld.1.ext hE, hE.cell hHeld.2.1, hE.cell hHeld.2.2⟩) (fun hHeld => ?_)
     clear hK K' hE HW HNN
     try simp only [Act.put, aS]
     replace HE := HE'; replace HB := HB'; replace HO := HO'; replace HL := HL'; replace HQ := HQ'
     clear HE' HB' HO' HL' HQ'
     obtain ⟨us1, ho1, hla1⟩ := HL.out
     have hS : ∀ g, (Value.slice bA q.length bc).ownBlock = some g → ¬ rowS w1.heap.size (.slice A l.length c) g := fun g hg hk => hk.elim (fun h => absurd (owns_base HQ.out g hg) (Nat.not_le.2 h)) (fun h => owns_apart ho1 HQ.out (by decide) h hg)
     have hx : Late (rowS w1.heap.size (.slice A l.length c)) (fun W => (atrO q (ak, av)).rd W (.agg #[.int .u8 4, .slice bA q.length bc, .int .i64 0, .slice none 0 0, .int .u64 0, .bool false, .string ⟨#[]⟩, .string ak, .string av, .bool false, .slice none 0 0])) e2 := op_late (o := atrO q (ak, av)) HQ.out hS rfl rfl (Nat.zero_le _) a0 a1 (show (0 : Int) ≤ 0 ∧ (0 : Int) ≤ 18446744073709551615 from by decide) (show (0 : Int) ≤ 4 ∧ (4 : Int) ≤ 255 from by decide)
     refine wpAnyH_ready (rs := [19]) (by kernel_rfl) (by simp) ?_
     refine AllReadyH.cons (o := ⟨_, _, _, _, _, _⟩) rfl (fun K' hK => ?_) AllReadyH.nil
     refine wp_append_rd rfl T31 (by rfl) ho1 (by rfl) (NBox.row HN.out) (ones11 ⟨rfl, rfl, rfl, rfl, rfl, rfl, rfl, rfl, rfl, rfl, rfl⟩) (by omega) (by simp only [maxLen]; omega) HE.out.size ?_
     intro v4 e3 h4 hg hat4
     have HL2 := Lib.hid (rowV2.push hla1 rfl hx hg hat4 h4)
     have F := Fr.grown hg
     have HE' := Lib.hid (Fr.ext HE.out F (fun k hk => owns_base ho1 k hk))
     have HB' := Lib.hid (HB.out.fr F (fun hk => HB.out.not_own ho1 (by decide) hk))
     have HO' := Lib.hid (owns_fr F HO.out (fun g hg hk => owns_apart ho1 HO.out (by decide) hk hg))
     have hAB : ¬ (Value.slice A l.length c).ownBlock = some ab := fun hk => absurd (owns_base ho1 ab hk) (Nat.not_le.2 HAB.out)
     have hHeld' := (⟨NBox.fr F hHeld.1 (fun hk => NBox.not_own hHeld.1 ho1 (by decide) hk), F.cell hAB hHeld.2.1, F.cell hAB hHeld.2.2⟩ : _ ∧ _ ∧ _)
     refine hK.out _ _ (show _ ∧ _ from hHeld') (fun hHeld => ?_)
     clear hK K' F hx hS hla1 ho1 hHeld' hAB HQ HL HN hg hat4 h4
     try simp only [Act.put, aS]
     replace HE := HE'; replace HB := HB'; replace HO := HO'
     clear HE' HB' HO'
     obtain ⟨L3, hL3⟩ : ∃ L, l ++ [atrO q (ak, av)] = L := ⟨_, rfl⟩
     have hl3 : L3.length ≤ 2 + (j + 1) := by rw [← hL3, List.length_append]; simp only [List.length_cons, List.length_nil]; omega
     rw [hL3] at HL2 HN'
     obtain ⟨A3, c3, rfl⟩ := lsV.slice HL2.out
     clear hL3
     refine tk 20 ?_ rfl (.inl ⟨by rfl, ?_⟩) hHeld ?_
     rotate_left
     ·intro w hSw
      try dsimp only at hSw
      go_simp
      all_goals (first | with_reducible rfl | rw [if_pos (by omega)])
     try simp only [Act.put, aS]
     refine wpAnyH_done (by kernel_rfl) ?_ _
     clear hHeld
     go_wp2_with fail
     go_roundw
     case rel => exact ⟨j + 1, L3, A3, c3, by go_num, by omega, rfl, hl3, HE, HB, HO, HL2, HN'⟩
     case measure => simp [intOf]; omega
    ·obtain rfl : j = s.x.attrs.length := by omega
     have q1 : ¬ ((s.x.attrs.length : Int) < (s.x.attrs.length : Int)) := Int.lt_irrefl _
     have HN' := Lib.hid (show splL m id s rest = l ++ editL rest q ⟨0, 0, rest⟩ from by rw [HN9.out, List.drop_eq_nil_of_le (Nat.le_refl _)]; simp)
     clear HN9 q1
     have hq := copied_any q _ wr (RdS.of_owns HO.out) (by omega)
     go_wp2_with fail
     clear k3
     refine hq.mono ?_
     clear hq
     rintro e w8 ⟨r, rfl, hQ, hE⟩
     have HQ := Lib.hid (owns_low hQ HE.out.size)
     obtain ⟨bA, bc, rfl, -⟩ := RdS.of_owns hQ
     clear hQ
     have HE' := Lib.hid (HE.out.trans hE)
     have HB' := Lib.hid (HB.out.ext hE)
     have HO' := Lib.hid (owns_ext hE HO.out)
     have HL' := Lib.hid (rowV2.ext HL.out hE)
     clear hE
     replace HE := HE'; replace HB := HB'; replace HO := HO'; replace HL := HL'
     clear HE' HB' HO' HL'
     obtain ⟨Q, hQQ⟩ : ∃ g, w8.heap.size = g := ⟨_, rfl⟩
     obtain ⟨wp, hwp⟩ : ∃ W, w8.alloc (.cells #[.int .i64 0, .int .i64 0, .string rest] 49) = W := ⟨_, rfl⟩
     have sp : wp.heap.size = Q + 1 := by rw [← hwp, World.size_alloc, hQQ]
     obtain ⟨wo, hwo⟩ : ∃ W, wp.alloc (.cells #[.int .u8 6, .slice bA q.length bc, .int .i64 0, .slice none 0 0, .int .u64 0, .bool false, .string ⟨#[]⟩, .string ⟨#[]⟩, .string ⟨#[]⟩, .bool false, .slice (some ⟨Q, 0, none⟩) 1 1] 38) = W := ⟨_, rfl⟩
     have hE1 : Ext w8 wp := by rw [← hwp]; exact (Ext.refl _).alloc _
     have hE2 : Ext wp wo := by rw [← hwo]; exact (Ext.refl _).alloc _
     have bP : NBox wo Q 49 #[.int .i64 0, .int .i64 0, .string rest] := by rw [← hQQ]; exact NBox.ext hE2 (by rw [← hwp]; exact NBox.new _ _ _)
     have bN : NBox wo (Q + 1) 38 #[.int .u8 6, .slice bA q.length bc, .int .i64 0, .slice none 0 0, .int .u64 0, .bool false, .string ⟨#[]⟩, .string ⟨#[]⟩, .string ⟨#[]⟩, .bool false, .slice (some ⟨Q, 0, none⟩) 1 1] := by rw [← sp, ← hwo]; exact NBox.new _ _ _
     have hQl : w1.heap.size ≤ Q := by rw [← hQQ]; exact HE.out.size
     have hE := hE1.trans hE2
     have HE' := Lib.hid (HE.out.trans hE)
     have HB' := Lib.hid (HB.out.ext hE)
     have HO' := Lib.hid (owns_ext hE HO.out)
     have HL' := Lib.hid (rowV2.ext HL.out hE)
     have HQ' := Lib.hid (owns_ext hE HQ.out)
     have HWO := Lib.hid (show (w8.alloc (.cells #[.int .i64 0, .int .i64 0, .string rest] 49)).alloc (.cells #[.int .u8 6, .slice bA q.length bc, .int .i64 0, .slice none 0 0, .int .u64 0, .bool false, .string ⟨#[]⟩, .string ⟨#[]⟩, .string ⟨#[]⟩, .bool false, .slice (some ⟨w8.heap.size, 0, none⟩) 1 1] 38) = wo from by rw [hwp, hQQ]; exact hwo)
     have HQQ := Lib.hid hQQ
     clear hwp hwo hQQ sp hE1 hE2 hE
     replace HE := HE'; replace HB := HB'; replace HO := HO'; replace HL := HL'; replace HQ := HQ'
     clear HE' HB' HO' HL' HQ'
     obtain ⟨us1, ho1, hla1⟩ := HL.out
     have hsz := HE.out.size
     have hx : Late (rowS w1.heap.size (.slice A l.length c)) (fun W => (editO q ⟨0, 0, rest⟩).rd W (.agg #[.int .u8 6, .slice bA q.length bc, .int .i64 0, .slice none 0 0, .int .u64 0, .bool false, .string ⟨#[]⟩, .string ⟨#[]⟩, .string ⟨#[]⟩, .bool false, .slice (some ⟨Q, 0, none⟩) 1 1])) wo := by
      intro W2 F2
      have hO2 := owns_fr F2 HQ.out (fun b hb hk => hk.elim (fun h => by have := owns_base HQ.out b hb; omega) (fun h => owns_apart ho1 HQ.out (by decide) h hb))
      have hq2 := bP.fr F2 (fun hk => hk.elim (fun h => by omega) (fun h => bP.not_own ho1 (by decide) h))
      refine ⟨_, _, _, rfl, RdS.of_owns hO2, RdS.nil_ _ _, ⟨_, 1, rfl, Nat.le_refl _, by simp [maxLen], fun _ => ⟨Q, 0, rfl, hq2.cell 0, hq2.cell 1, hq2.cell 2, HREST.out, trivial⟩⟩, ?_, ?_, ?_, ⟨?_, ?_⟩, ?_, ?_⟩
      all_goals first | exact Nat.zero_le _ | (dsimp only [editO]; omega)
     have hrow := bN.row
     have hones := ones11 (c0 := .int .u8 6) (c1 := .slice bA q.length bc) (c2 := .int .i64 0) (c3 := .slice none 0 0) (c4 := .int .u64 0) (c5 := .bool false) (c6 := .string ⟨#[]⟩) (c7 := .string ⟨#[]⟩) (c8 := .string ⟨#[]⟩) (c9 := .bool false) (c10 := .slice (some ⟨Q, 0, none⟩) 1 1) ⟨rfl, rfl, rfl, rfl, rfl, rfl, rfl, rfl, rfl, rfl, rfl⟩
     go_wp2_with (first | (at_builtin; rw [HWO.out, HQQ.out]; refine wpList_append_rd rfl rfl T31 (v := _) (by rfl) ho1 (by rfl) hrow hones (by omega) (by simp only [maxLen]; omega) hsz ?_; intro v4 w9 h4 hg hat4))
     have HL2 := Lib.hid (rowV2.push hla1 rfl hx hg hat4 h4)
     have F := Fr.grown hg
     have HE' := Lib.hid (Fr.ext HE.out F (fun k hk => owns_base ho1 k hk))
     have HB' := Lib.hid (HB.out.fr F (fun hk => HB.out.not_own ho1 (by decide) hk))
     have HO' := Lib.hid (owns_fr F HO.out (fun g hg hk => owns_apart ho1 HO.out (by decide) hk hg))
     have HF : Hid (splL m id s rest = l ++ [editO q ⟨0, 0, rest⟩]) := Lib.hid (by rw [HN'.out, HED2'.out])
     obtain ⟨L4, hL4⟩ : ∃ L, l ++ [editO q ⟨0, 0, rest⟩] = L := ⟨_, rfl⟩
     rw [hL4] at HL2 HF
     obtain ⟨A4, c4, rfl⟩ := lsV.slice HL2.out
     clear hx hla1 ho1 hg hat4 h4 HQ bP bN hrow hones hsz F HWO HQQ HE HB HB' HO HO' HL hL4
     go_wp2_with fail
     go_ret2
     rw [HSPL.out, HR.out, HF.out]
     exact ⟨HE0.out.trans HE'.out, _, rfl, rowV2.low HL2.out HE0.out.size⟩
end Go.Proofs.Ytofcbclokkjfjaa.Wi
