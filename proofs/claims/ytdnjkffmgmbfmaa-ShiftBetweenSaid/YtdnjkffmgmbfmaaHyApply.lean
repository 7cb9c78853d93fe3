/- SyApply turned to this seat. (Printed by gport.py.) -/
import Derived.Test.YtdnjkffmgmbfmaaHyMove
import Derived.Test.YtdnjkffmgmbfmaaHyValid
import Derived.Test.YtdnjkffmgmbfmaaHyShiftT
import Derived.Test.YtdnjkffmgmbfmaaProg
namespace Go.Proofs.Ytdnjkffmgmbfmaa.Sy
open Go.RowKit Go.Proofs.Ytdnjkffmgmbfmaa.Bw Go.Proofs.Ytdnjkffmgmbfmaa.Bs
theorem zero_rd (W : World) : Nd.zero.rd W (.agg #[.int .u64 0, .bool false, .string ⟨#[]⟩, .slice none 0 0, .string ⟨#[]⟩, .slice none 0 0]) := by
 unfold Nd.zero Nd.rd
 exact ⟨_, none, 0, rfl, ⟨by decide, by decide⟩, Nat.zero_le _, Nat.zero_le _, ⟨none, 0, rfl, Nat.le_refl _, Nat.zero_le _, fun h => absurd rfl h⟩, Nat.le_refl _, Nat.zero_le _, fun h => absurd rfl h⟩
theorem new_rd {o : OpD} {W0 : World} {ov : Value} (h : o.rd W0 ov) (W : World) : (newD o).rd W (.agg #[.int .u64 o.id, .bool o.leaf, .string o.label, .slice none 0 0, .string ⟨#[]⟩, .slice none 0 0]) := by
 obtain ⟨pv, tv, cv, -, -, -, -, hok⟩ := h
 unfold newD Nd.rd
 exact ⟨_, none, 0, rfl, hok.2.2.2.1, hok.1, Nat.zero_le _, ⟨none, 0, rfl, Nat.le_refl _, Nat.zero_le _, fun h => absurd rfl h⟩, Nat.le_refl _, Nat.zero_le _, fun h => absurd rfl h⟩
theorem lab_rd {x : Nd} {W : World} {c0 c1 c2 c3 c4 c5 : Value} {s : ByteArray} (h : x.rd W (.agg #[c0, c1, c2, c3, c4, c5])) (hs : okStr s) : (labT x s).rd W (.agg #[c0, c1, .string s, c3, c4, c5]) := by
 cases x with
 | mk i lf lb ats tx ks =>
  unfold Nd.rd at h
  obtain ⟨av, A, c, he, h1, h2, h3, h4, h5, h6, h7⟩ := h
  simp only [Value.agg.injEq, Array.mk.injEq, List.cons.injEq, and_true] at he
  obtain ⟨rfl, rfl, rfl, rfl, rfl, rfl⟩ := he
  unfold labT
  unfold Nd.rd
  exact ⟨_, A, c, rfl, h1, hs, h3, h4, h5, h6, h7⟩
theorem txt_rd {x : Nd} {W : World} {c0 c1 c2 c3 c4 c5 : Value} {s : ByteArray} (h : x.rd W (.agg #[c0, c1, c2, c3, c4, c5])) (hs : okStr s) : (txtT x s).rd W (.agg #[c0, c1, c2, c3, .string s, c5]) := by
 cases x with
 | mk i lf lb ats tx ks =>
  unfold Nd.rd at h
  obtain ⟨av, A, c, he, h1, h2, h3, h4, h5, h6, h7⟩ := h
  simp only [Value.agg.injEq, Array.mk.injEq, List.cons.injEq, and_true] at he
  obtain ⟨rfl, rfl, rfl, rfl, rfl, rfl⟩ := he
  unfold txtT
  unfold Nd.rd
  exact ⟨_, A, c, rfl, h1, h2, hs, h4, h5, h6, h7⟩
set_option maxRecDepth 100000 in
set_option maxHeartbeats 16000000 in
/-- A tree behind an operation, or why not. -/
theorem apply_late (t : Nd) (o : OpD) (v ov : Value) (wo w : World) (hWo : Wo wo w) (ht : t.rd wo v) (ho : o.rd w ov) (hpl : o.path.length ≤ 1000) (htl : o.to.length ≤ 1000) (hwt : t.wt ≤ 400000) :
  Calls Try.prog 20 #[v, ov] w (Ret w fun r w' => ∃ q, r = .tuple #[q, .int .i64 (applyD t o).2] ∧ LateN wo w w' (applyD t o).1 q) := by
 obtain ⟨uA, uc, uK, ud, rfl⟩ := rd_open6 ht
 obtain ⟨pA, pc, tA, tc, cA, cc, rfl, hrp, hrt, hrc⟩ := rdO_cells ho
 obtain ⟨w1, hw1⟩ : ∃ W, ((w.alloc (.cells #[.int .u64 t.id, .bool t.leaf, .string t.label, .slice uA t.attrs.length uc, .string t.text, .slice uK t.kids.length ud] 42)).alloc (.cells #[.int .u8 o.kind, .slice pA o.path.length pc, .int .i64 o.at_, .slice tA o.to.length tc, .int .u64 o.id, .bool o.leaf, .string o.label, .string o.key, .string o.value, .bool o.gone, .slice cA o.pcs.length cc] 26)).alloc (.cells #[.int .u64 0, .bool false, .string ⟨#[]⟩, .slice none 0 0, .string ⟨#[]⟩, .slice none 0 0] 42) = W := ⟨_, rfl⟩
 obtain ⟨B, hB⟩ : ∃ B, w.heap.size = B := ⟨_, rfl⟩
 have s1 : (w.alloc (.cells #[.int .u64 t.id, .bool t.leaf, .string t.label, .slice uA t.attrs.length uc, .string t.text, .slice uK t.kids.length ud] 42)).heap.size = B + 1 := by rw [World.size_alloc, hB]
 have s2 : ((w.alloc (.cells #[.int .u64 t.id, .bool t.leaf, .string t.label, .slice uA t.attrs.length uc, .string t.text, .slice uK t.kids.length ud] 42)).alloc (.cells #[.int .u8 o.kind, .slice pA o.path.length pc, .int .i64 o.at_, .slice tA o.to.length tc, .int .u64 o.id, .bool o.leaf, .string o.label, .string o.key, .string o.value, .bool o.gone, .slice cA o.pcs.length cc] 26)).heap.size = B + 1 + 1 := by rw [World.size_alloc, s1]
 have E1 : Ext w w1 := by rw [← hw1]; exact (((Ext.refl w).alloc _).alloc _).alloc _
 have HB0 := Lib.hid (show NBox w1 B 42 #[.int .u64 t.id, .bool t.leaf, .string t.label, .slice uA t.attrs.length uc, .string t.text, .slice uK t.kids.length ud] from by rw [← hw1, ← hB]; exact (NBox.new w 42 _).ext (((Ext.refl _).alloc _).alloc _))
 have HB1 := Lib.hid (show NBox w1 (B + 1) 26 #[.int .u8 o.kind, .slice pA o.path.length pc, .int .i64 o.at_, .slice tA o.to.length tc, .int .u64 o.id, .bool o.leaf, .string o.label, .string o.key, .string o.value, .bool o.gone, .slice cA o.pcs.length cc] from by rw [← hw1, ← s1]; exact (NBox.new _ 26 _).ext ((Ext.refl _).alloc _))
 have HB2 := Lib.hid (show NBox w1 (B + 1 + 1) 42 #[.int .u64 0, .bool false, .string ⟨#[]⟩, .slice none 0 0, .string ⟨#[]⟩, .slice none 0 0] from by rw [← hw1, ← s2]; exact NBox.new _ 42 _)
 have HG := Lib.hid ((GW.refl hWo).ext E1)
 have HE := Lib.hid E1
 have HW1 := Lib.hid hw1
 have HBB := Lib.hid hB
 have HT := Lib.hid ht
 have HO := Lib.hid ho
 have HP := Lib.hid hrp
 have HTO := Lib.hid hrt
 have HCC := Lib.hid hrc
 have hBo : wo.heap.size ≤ B := by rw [← hB]; exact hWo.size
 have hc := valid_any t o _ _ w1 (HG.out.rd ht) (OpD.rd_ext E1 ho) (by omega) (by omega) (fun x hx => by
  have a1 := at_wt _ hx
  have a2 := Nd.wt_eq x
  omega)
 obtain ⟨E, hE⟩ : ∃ E, validD t o = E := ⟨_, rfl⟩
 rw [hE] at hc
 have HV := Lib.hid hE
 obtain ⟨t0, t1, t2, t3, t4, t5⟩ := HB0.out.c6
 obtain ⟨k0, k1, k2, k3, k4, k5, k6, k7, k8, k9, k10⟩ := HB1.out.c11
 clear hw1 hB s1 s2 E1 hWo ht ho hrp hrt hrc hE
 go_enter Try.func20, Try.ntmps20
 go_upto_region 1 with fail
 rw [HW1.out, HBB.out]
 clear HW1
 go_wp2_with fail
 refine hc.mono ?_
 clear hc t0 t1 t2 t3 t4 t5 k0 k1 k2 k3 k4 k5 k6 k7 k8 k9 k10
 rintro e w2 ⟨r, rfl, rfl, E2⟩
 replace HE := Lib.hid (HE.out.trans E2)
 replace HG := Lib.hid (HG.out.ext E2)
 replace HB0 := Lib.hid (HB0.out.ext E2)
 replace HB1 := Lib.hid (HB1.out.ext E2)
 replace HB2 := Lib.hid (HB2.out.ext E2)
 clear E2
 by_cases hE0 : E = 0
 rotate_left
 ·have e1 : (E == 0) = false := by rw [beq_eq_false_iff_ne]; exact hE0
  have e2 : (E != 0) = true := by rw [bne, e1]; rfl
  have HR := Lib.hid (show applyD t o = (Nd.zero, E) from by unfold applyD; rw [if_neg (by rw [HV.out]; exact hE0), HV.out])
  clear hE0
  obtain ⟨y0, y1, y2, y3, y4, y5⟩ := HB2.out.c6
  obtain ⟨z0, z1, z2, z3, z4, z5⟩ := HB2.out.f6
  have F9 := Fr.six w2 (B + 1 + 1) (.int .u64 0) (.bool false) (.string ⟨#[]⟩) (.slice none 0 0) (.string ⟨#[]⟩) (.slice none 0 0)
  have HB9 := Lib.hid (HB2.out.six (.int .u64 0) (.bool false) (.string ⟨#[]⟩) (.slice none 0 0) (.string ⟨#[]⟩) (.slice none 0 0))
  have hBB := HBB.out
  have HE9 := Lib.hid (Fr.ext HE.out F9 (fun q hq => by rw [show q = B + 1 + 1 from hq, hBB]; omega))
  clear F9 hBB
  go_wp2_with fail
  refine bodyPost_ret (results_nd rfl rfl rfl HB9.out Try.underlying42 rfl info42) rfl ?_
  exact ⟨_, rfl, ⟨_, (by rw [HR.out]; rfl), fun W _ _ => by rw [HR.out]; exact zero_rd W⟩, HE9.out⟩
 subst hE0
 have HR := Lib.hid (show applyD t o = (doD t o, 0) from by unfold applyD; rw [if_pos HV.out])
 have hv := HV.out
 obtain ⟨x, hx⟩ := valid_at hv
 have HXA := Lib.hid hx
 have hks := formed_kind ((valid_iff t o).1 hv).2.1
 have hxw := at_wt _ hx
 have xkl : x.kids.length ≤ 1000000 ∧ x.attrs.length ≤ 1000000 ∧ x.text.size ≤ 1000000 := by
  have a2 := wtK_len x.kids
  have a4 := wtA_len x.attrs
  have a3 := Nd.wt_eq x
  omega
 clear hv hx hxw
 go_upto_region 4 with fail
 have hc := rat_old t _ o.path _ wo w2 HG.out.now.sub HT.out (RdS.ext HE.out HP.out)
 obtain ⟨t0, t1, t2, t3, t4, t5⟩ := HB0.out.c6
 obtain ⟨k0, k1, k2, k3, k4, k5, k6, k7, k8, k9, k10⟩ := HB1.out.c11
 go_wp2_with fail
 refine hc.mono ?_
 clear hc t0 t1 t2 t3 t4 t5 k0 k1 k2 k3 k4 k5 k6 k7 k8 k9 k10
 rintro e w3 ⟨r, rfl, ⟨xv, rfl, hx⟩, E2⟩
 rw [HXA.out] at hx ⊢
 replace hx : x.rd wo xv := hx
 obtain ⟨xA, xc, xK, xd, rfl⟩ := rd_open6 hx
 have HX := Lib.hid hx
 replace HE := Lib.hid (HE.out.trans E2)
 replace HG := Lib.hid (HG.out.ext E2)
 replace HB0 := Lib.hid (HB0.out.ext E2)
 replace HB1 := Lib.hid (HB1.out.ext E2)
 replace HB2 := Lib.hid (HB2.out.ext E2)
 clear E2 hx
 obtain ⟨w4a, hwa⟩ : ∃ q, w3.alloc (.cells #[.int .u64 0, .bool false, .string ⟨#[]⟩, .slice none 0 0, .string ⟨#[]⟩, .slice none 0 0] 42) = q := ⟨_, rfl⟩
 obtain ⟨M, hM⟩ : ∃ q, w3.heap.size = q := ⟨_, rfl⟩
 have HLM0 := Lib.hid (show B + 1 + 1 < M from by rw [← hM]; exact HB2.out.lt)
 have XA : Ext w3 w4a := by rw [← hwa]; exact (Ext.refl _).alloc _
 have bM : NBox w4a M 42 #[.int .u64 0, .bool false, .string ⟨#[]⟩, .slice none 0 0, .string ⟨#[]⟩, .slice none 0 0] := by rw [← hwa, ← hM]; exact NBox.new _ _ _
 obtain ⟨w4, hwn⟩ : ∃ q, (World.setCell (World.setCell (World.setCell (World.setCell (World.setCell (World.setCell w4a ⟨M, 0, none⟩ (.int .u64 x.id)) ⟨M, 1, none⟩ (.bool x.leaf)) ⟨M, 2, none⟩ (.string x.label)) ⟨M, 3, none⟩ (.slice xA x.attrs.length xc)) ⟨M, 4, none⟩ (.string x.text)) ⟨M, 5, none⟩ (.slice xK x.kids.length xd)) = q := ⟨_, rfl⟩
 have F8 : Fr w4a w4 (fun k => k = M) := by rw [← hwn]; exact Fr.six _ _ _ _ _ _ _ _
 have X8 : Ext w3 w4 := Fr.ext XA F8 (fun q hq => by rw [show q = M from hq, hM]; exact Nat.le_refl _)
 have HBM := Lib.hid (show NBox w4 M 42 #[.int .u64 x.id, .bool x.leaf, .string x.label, .slice xA x.attrs.length xc, .string x.text, .slice xK x.kids.length xd] from by rw [← hwn]; exact bM.six _ _ _ _ _ _)
 replace HE := Lib.hid (HE.out.trans X8)
 replace HG := Lib.hid (HG.out.ext X8)
 replace HB0 := Lib.hid (HB0.out.ext X8)
 replace HB1 := Lib.hid (HB1.out.ext X8)
 replace HB2 := Lib.hid (HB2.out.ext X8)
 have HWA := Lib.hid hwa
 have HMM := Lib.hid hM
 have HWN := Lib.hid hwn
 obtain ⟨y0, y1, y2, y3, y4, y5⟩ := bM.c6
 obtain ⟨z0_, z1_, z2_, z3_, z4_, z5_⟩ := bM.f6
 clear hwa hM hwn XA bM F8 X8
 go_upto_region 5 with (rw [HWA.out, HMM.out]; clear HWA)
 rw [HWN.out]
 clear HWN HMM y0 z0_ y1 z1_ y2 z2_ y3 z3_ y4 z4_ y5 z5_
 have HLM := Lib.hid (show B + 1 + 1 < M from HLM0.out)
 rcases hks with hk | hk | hk | hk | hk | hk
 ·have c1 : (o.kind == 1) = true := by rw [hk]; rfl
  have c2 : (o.kind == 2) = false := by rw [hk]; rfl
  have c3 : (o.kind == 3) = false := by rw [hk]; rfl
  have c4 : (o.kind == 4) = false := by rw [hk]; rfl
  have c5 : (o.kind == 5) = false := by rw [hk]; rfl
  have c6 : (o.kind == 6) = false := by rw [hk]; rfl
  have HK := Lib.hid hk
  clear hk
  obtain ⟨x', hx', hlf, hat0, hat1⟩ := valid1 HV.out HK.out
  rw [HXA.out] at hx'
  cases hx'
  obtain ⟨i, hi⟩ : ∃ i : Nat, o.at_ = (i : Int) := ⟨o.at_.toNat, by omega⟩
  have hi2 : i ≤ x.kids.length := by omega
  have HI := Lib.hid hi
  have HDO := Lib.hid (show doD t o = (t.put o.path (insD x i (newD o))).getD Nd.zero from by unfold doD; rw [HXA.out]; simp [HK.out, HI.out])
  clear hi hat0 hat1 hlf
  obtain ⟨k0, k1, k2, k3, k4, k5, k6, k7, k8, k9, k10⟩ := HB1.out.c11
  go_upto_region 7 with fail
  clear k0 k1 k2 k3 k4 k5 k6 k7 k8 k9 k10
  obtain ⟨wd, hwd⟩ : ∃ d, w4.drew = d := ⟨_, rfl⟩
  have XD : Ext w4 wd := by rw [← hwd]; exact (Ext.refl w4).drew
  replace HE := Lib.hid (HE.out.trans XD)
  replace HG := Lib.hid (HG.out.ext XD)
  replace HB0 := Lib.hid (HB0.out.ext XD)
  replace HB1 := Lib.hid (HB1.out.ext XD)
  replace HB2 := Lib.hid (HB2.out.ext XD)
  replace HBM := Lib.hid (HBM.out.ext XD)
  have HS := Lib.hid (show (fun _ : Nat => True) (B + 1 + 1) from trivial)
  refine wp_region_held_drew (S := fun W => NBox W B 42 #[.int .u64 t.id, .bool t.leaf, .string t.label, .slice uA t.attrs.length uc, .string t.text, .slice uK t.kids.length ud] ∧ NBox W (B + 1) 26 #[.int .u8 o.kind, .slice pA o.path.length pc, .int .i64 o.at_, .slice tA o.to.length tc, .int .u64 o.id, .bool o.leaf, .string o.label, .string o.key, .string o.value, .bool o.gone, .slice cA o.pcs.length cc] ∧ NBox W M 42 #[.int .u64 x.id, .bool x.leaf, .string x.label, .slice xA x.attrs.length xc, .string x.text, .slice xK x.kids.length xd]) (by kernel_rfl) (by rw [hwd]; exact ⟨HB0.out, HB1.out, HBM.out⟩) (fun hHeld => ?_)
  rw [hwd] at hHeld ⊢
  clear hwd XD
  refine tk 0 ?_ rfl (.inl ⟨by rfl, ?_⟩) hHeld ?_
  rotate_left
  ·intro w hSw
   have fq := hSw
   obtain ⟨q0, q1, q2⟩ := fq
   obtain ⟨e0, e1, e2, e3, e4, e5⟩ := q0.c6
   go_simp
   all_goals (first | with_reducible rfl | rw [if_pos (by omega)])
  try simp only [Act.put, aS]
  refine tk 1 ?_ rfl (.inl ⟨by rfl, ?_⟩) hHeld ?_
  rotate_left
  ·intro w hSw
   try dsimp only at hSw
   go_simp
   all_goals (first | with_reducible rfl | rw [if_pos (by omega)])
  try simp only [Act.put, aS]
  refine tk 2 ?_ rfl (.inl ⟨by rfl, ?_⟩) hHeld ?_
  rotate_left
  ·intro w hSw
   have fq := hSw
   obtain ⟨q0, q1, q2⟩ := fq
   obtain ⟨e0, e1, e2, e3, e4, e5, e6, e7, e8, e9, e10⟩ := q1.c11
   go_simp
   all_goals (first | with_reducible rfl | rw [if_pos (by omega)])
  try simp only [Act.put, aS]
  refine tk 3 ?_ rfl (.inl ⟨by rfl, ?_⟩) hHeld ?_
  rotate_left
  ·intro w hSw
   have fq := hSw
   obtain ⟨q0, q1, q2⟩ := fq
   obtain ⟨e0, e1, e2, e3, e4, e5⟩ := q2.c6
   go_simp
   all_goals (first | with_reducible rfl | rw [if_pos (by omega)])
  try simp only [Act.put, aS]
  refine tk 4 ?_ rfl (.inl ⟨by rfl, ?_⟩) hHeld ?_
  rotate_left
  ·intro w hSw
   try dsimp only at hSw
   go_simp
   all_goals (first | with_reducible rfl | rw [if_pos (by omega)])
  try simp only [Act.put, aS]
  refine tk 5 ?_ rfl (.inl ⟨by rfl, ?_⟩) hHeld ?_
  rotate_left
  ·intro w hSw
   have fq := hSw
   obtain ⟨q0, q1, q2⟩ := fq
   obtain ⟨e0, e1, e2, e3, e4, e5, e6, e7, e8, e9, e10⟩ := q1.c11
   go_simp
   all_goals (first | with_reducible rfl | rw [if_pos (by omega)])
  try simp only [Act.put, aS]
  refine tk 6 ?_ rfl (.inl ⟨by rfl, ?_⟩) hHeld ?_
  rotate_left
  ·intro w hSw
   try dsimp only at hSw
   go_simp
   all_goals (first | with_reducible rfl | rw [if_pos (by omega)])
  try simp only [Act.put, aS]
  refine tk 7 ?_ rfl (.inl ⟨by rfl, ?_⟩) hHeld ?_
  rotate_left
  ·intro w hSw
   have fq := hSw
   obtain ⟨q0, q1, q2⟩ := fq
   obtain ⟨e0, e1, e2, e3, e4, e5, e6, e7, e8, e9, e10⟩ := q1.c11
   go_simp
   all_goals (first | with_reducible rfl | rw [if_pos (by omega)])
  try simp only [Act.put, aS]
  refine tk 8 ?_ rfl (.inl ⟨by rfl, ?_⟩) hHeld ?_
  rotate_left
  ·intro w hSw
   try dsimp only at hSw
   go_simp
   all_goals (first | with_reducible rfl | rw [if_pos (by omega)])
  try simp only [Act.put, aS]
  refine tk 9 ?_ rfl (.inl ⟨by rfl, ?_⟩) hHeld ?_
  rotate_left
  ·intro w hSw
   have fq := hSw
   obtain ⟨q0, q1, q2⟩ := fq
   obtain ⟨e0, e1, e2, e3, e4, e5, e6, e7, e8, e9, e10⟩ := q1.c11
   go_simp
   all_goals (first | with_reducible rfl | rw [if_pos (by omega)])
  try simp only [Act.put, aS]
  refine tk 10 ?_ rfl (.inl ⟨by rfl, ?_⟩) hHeld ?_
  rotate_left
  ·intro w hSw
   try dsimp only at hSw
   go_simp
   all_goals (first | with_reducible rfl | rw [if_pos (by omega)])
  try simp only [Act.put, aS]
  refine tk 11 ?_ rfl (.inl ⟨by rfl, ?_⟩) hHeld ?_
  rotate_left
  ·intro w hSw
   have fq := hSw
   obtain ⟨q0, q1, q2⟩ := fq
   obtain ⟨e0, e1, e2, e3, e4, e5, e6, e7, e8, e9, e10⟩ := q1.c11
   go_simp
   all_goals (first | with_reducible rfl | rw [if_pos (by omega)])
  try simp only [Act.put, aS]
  refine tk 12 ?_ rfl (.inl ⟨by rfl, ?_⟩) hHeld ?_
  rotate_left
  ·intro w hSw
   try dsimp only at hSw
   go_simp
   all_goals (first | with_reducible rfl | rw [if_pos (by omega)])
  try simp only [Act.put, aS]
  have hc := put72_late x (newD o) _ _ i wo wd HG.out.now HX.out (new_rd HO.out wo) hi2 xkl.1
  rw [← HI.out] at hc
  refine wpAnyH_ready (rs := [13]) (by kernel_rfl) (by simp) ?_
  refine AllReadyH.cons (o := ⟨_, _, _, _, _, _⟩) rfl (fun K' hK => ?_) (AllReadyH.nil)
  go_simp
  go_at_call 43
  refine hc.mono ?_
  clear hc
  rintro e w5 ⟨r, rfl, hL, hE⟩
  have HZ := Lib.hid (HG.out.got hE hL)
  obtain ⟨z, hz⟩ : ∃ z, insD x i (newD o) = z := ⟨_, rfl⟩
  rw [hz] at HZ
  have HZZ := Lib.hid hz
  obtain ⟨zA, zc, zK, zd, rfl⟩ := rd_open6 HZ.out
  have HT7 := Lib.hid (HG.out.rd_glue hE HT.out)
  replace HS := Lib.hid (HG.out.keep hE HS.out HB2.out.lt)
  replace HG := Lib.hid (HG.out.glue hE)
  replace HE := Lib.hid (HE.out.trans hE)
  replace HB0 := Lib.hid (HB0.out.ext hE)
  replace HB1 := Lib.hid (HB1.out.ext hE)
  replace HB2 := Lib.hid (HB2.out.ext hE)
  replace HBM := Lib.hid (HBM.out.ext hE)
  refine hK.out _ _ (show _ ∧ _ ∧ _ from ⟨hHeld.1.ext hE, hHeld.2.1.ext hE, hHeld.2.2.ext hE⟩) (fun hHeld => ?_)
  clear hK K' hE hL hz
  try simp only [Act.put, aS]
  have hc := change_late t z _ _ _ o.path _ w5 HG.out.now HT7.out HZ.out (RdS.ext HE.out HP.out) (by omega)
  refine wpAnyH_ready (rs := [14]) (by kernel_rfl) (by simp) ?_
  refine AllReadyH.cons (o := ⟨_, _, _, _, _, _⟩) rfl (fun K' hK => ?_) (AllReadyH.nil)
  go_simp
  go_at_call 42
  refine hc.mono ?_
  clear hc
  rintro e w6 ⟨r, rfl, hL, hE⟩
  rw [← HZZ.out] at hL
  have HZR := Lib.hid (HG.out.got hE hL)
  obtain ⟨n, hn⟩ : ∃ n, (t.put o.path (insD x i (newD o))).getD Nd.zero = n := ⟨_, rfl⟩
  rw [hn] at HZR
  have HNN := Lib.hid hn
  obtain ⟨nA, nc, nK, nd, rfl⟩ := rd_open6 HZR.out
  have HS' := Lib.hid (HG.out.keep hE HS.out HB2.out.lt)
  clear HS
  replace HG := Lib.hid (HG.out.glue hE)
  replace HE := Lib.hid (HE.out.trans hE)
  replace HB2 := Lib.hid (HB2.out.ext hE)
  clear hL hn
  refine hK.out _ _ (show _ ∧ _ ∧ _ from ⟨hHeld.1.ext hE, hHeld.2.1.ext hE, hHeld.2.2.ext hE⟩) (fun hHeld => ?_)
  clear hK K' hE
  try simp only [Act.put, aS]
  refine wpAnyH_ready (rs := [15]) (by kernel_rfl) (by simp) ?_
  refine AllReadyH.cons (o := ⟨_, _, _, _, _, _⟩) rfl (fun K' hK => ?_) (AllReadyH.nil)
  obtain ⟨y0, y1, y2, y3, y4, y5⟩ := HB2.out.c6
  obtain ⟨z0, z1, z2, z3, z4, z5⟩ := HB2.out.f6
  go_simp
  have F9 := Fr.six w6 (B + 1 + 1) (.int .u64 n.id) (.bool n.leaf) (.string n.label) (.slice nA n.attrs.length nc) (.string n.text) (.slice nK n.kids.length nd)
  have HB9 := Lib.hid (HB2.out.six (.int .u64 n.id) (.bool n.leaf) (.string n.label) (.slice nA n.attrs.length nc) (.string n.text) (.slice nK n.kids.length nd))
  have hBB := HBB.out
  have HF9 := Lib.hid F9
  have HG9 := Lib.hid (HG.out.fr F9 (fun q hq => by rw [show q = B + 1 + 1 from hq]; exact ⟨HS'.out, by omega⟩))
  have HE9 := Lib.hid (Fr.ext HE.out F9 (fun q hq => by rw [show q = B + 1 + 1 from hq, hBB]; omega))
  clear hBB
  have hM2 : B + 1 + 1 < M := HLM.out
  refine hK.out _ _ (show _ ∧ _ ∧ _ from ⟨hHeld.1.fr F9 (show ¬ B = B + 1 + 1 by omega), hHeld.2.1.fr F9 (show ¬ B + 1 = B + 1 + 1 by omega), hHeld.2.2.fr F9 (show ¬ M = B + 1 + 1 by omega)⟩) (fun hHeld => ?_)
  clear hK K' F9 y0 z0 y1 z1 y2 z2 y3 z3 y4 z4 y5 z5
  try simp only [Act.put, aS]
  refine tk 16 ?_ rfl (.inl ⟨by rfl, ?_⟩) hHeld ?_
  rotate_left
  ·intro w hSw
   try dsimp only at hSw
   go_simp
   all_goals (first | with_reducible rfl | rw [if_pos (by omega)])
  try simp only [Act.put, aS]
  refine wpAnyH_done (by kernel_rfl) ?_ _
  clear hHeld
  go_wp2_with fail
  refine bodyPost_ret (results_nd rfl rfl rfl HB9.out Try.underlying42 rfl info42) rfl ?_
  exact ⟨_, rfl, ⟨_, (by rw [HR.out]; rfl), by rw [HR.out, HDO.out, HNN.out]; exact HG9.out.late HZR.out⟩, HE9.out⟩
 ·have c1 : (o.kind == 1) = false := by rw [hk]; rfl
  have c2 : (o.kind == 2) = true := by rw [hk]; rfl
  have c3 : (o.kind == 3) = false := by rw [hk]; rfl
  have c4 : (o.kind == 4) = false := by rw [hk]; rfl
  have c5 : (o.kind == 5) = false := by rw [hk]; rfl
  have c6 : (o.kind == 6) = false := by rw [hk]; rfl
  have HK := Lib.hid hk
  clear hk
  have hv := (valid_iff t o).1 HV.out
  obtain ⟨k, z, hk, hz, hkx, hwd, -⟩ := without_is (hv.2.2.1 (.inl HK.out)) HXA.out
  have hne := hv.2.2.1 (.inl HK.out)
  have hkl := (List.getElem?_eq_some_iff.1 hkx).1
  have hzl : z.kids.length ≤ 1000000 := by
   have a1 := at_wt _ hz
   have a2 := wtK_len z.kids
   have a3 := Nd.wt_eq z
   omega
  have HDO := Lib.hid (show doD t o = withoutD t o.path from by unfold doD; simp [HK.out])
  have hc := without_late t z _ _ o.path k wo w4 HG.out.now HT.out (RdS.ext HE.out HP.out) hne hz hk hkl (by omega) (by omega) hzl
  rw [← hwd] at hc
  clear hv hk hz hkx hwd hne hkl
  have HS := Lib.hid (show (fun _ : Nat => True) (B + 1 + 1) from trivial)
  obtain ⟨t0, t1, t2, t3, t4, t5⟩ := HB0.out.c6
  obtain ⟨k0, k1, k2, k3, k4, k5, k6, k7, k8, k9, k10⟩ := HB1.out.c11
  go_wp2_with fail
  refine hc.mono ?_
  clear hc
  rintro e w6 ⟨r, rfl, hL, hE⟩
  have HZR := Lib.hid (HG.out.got hE hL)
  obtain ⟨n, hn⟩ : ∃ n, withoutD t o.path = n := ⟨_, rfl⟩
  rw [hn] at HZR
  have HNN := Lib.hid hn
  obtain ⟨nA, nc, nK, nd, rfl⟩ := rd_open6 HZR.out
  have HS' := Lib.hid (HG.out.keep hE HS.out HB2.out.lt)
  clear HS
  replace HG := Lib.hid (HG.out.glue hE)
  replace HE := Lib.hid (HE.out.trans hE)
  replace HB2 := Lib.hid (HB2.out.ext hE)
  clear hL hn
  clear hE
  obtain ⟨y0, y1, y2, y3, y4, y5⟩ := HB2.out.c6
  obtain ⟨z0, z1, z2, z3, z4, z5⟩ := HB2.out.f6
  have F9 := Fr.six w6 (B + 1 + 1) (.int .u64 n.id) (.bool n.leaf) (.string n.label) (.slice nA n.attrs.length nc) (.string n.text) (.slice nK n.kids.length nd)
  have HB9 := Lib.hid (HB2.out.six (.int .u64 n.id) (.bool n.leaf) (.string n.label) (.slice nA n.attrs.length nc) (.string n.text) (.slice nK n.kids.length nd))
  have hBB := HBB.out
  have HF9 := Lib.hid F9
  have HG9 := Lib.hid (HG.out.fr F9 (fun q hq => by rw [show q = B + 1 + 1 from hq]; exact ⟨HS'.out, by omega⟩))
  have HE9 := Lib.hid (Fr.ext HE.out F9 (fun q hq => by rw [show q = B + 1 + 1 from hq, hBB]; omega))
  clear hBB
  clear F9
  go_wp2_with fail
  refine bodyPost_ret (results_nd rfl rfl rfl HB9.out Try.underlying42 rfl info42) rfl ?_
  exact ⟨_, rfl, ⟨_, (by rw [HR.out]; rfl), by rw [HR.out, HDO.out, HNN.out]; exact HG9.out.late HZR.out⟩, HE9.out⟩
 ·have c1 : (o.kind == 1) = false := by rw [hk]; rfl
  have c2 : (o.kind == 2) = false := by rw [hk]; rfl
  have c3 : (o.kind == 3) = true := by rw [hk]; rfl
  have c4 : (o.kind == 4) = false := by rw [hk]; rfl
  have c5 : (o.kind == 5) = false := by rw [hk]; rfl
  have c6 : (o.kind == 6) = false := by rw [hk]; rfl
  have HK := Lib.hid hk
  clear hk
  obtain ⟨x', y, hx', hy, hne, hwi, hlf, hat0, hat1⟩ := valid3 HV.out HK.out
  have hpv := (formed_pv ((valid_iff t o).1 HV.out).2.1).2
  have HDO := Lib.hid (show doD t o = moveD t o from by unfold doD; simp [HK.out])
  have hc := move_late t x y o _ _ wo w4 HG.out.now HT.out (OpD.rd_ext HE.out HO.out) HXA.out hy hat0 hat1 hwi hpl htl hpv hwt
  clear hx' hy hne hwi hlf hat0 hat1 hpv
  have HS := Lib.hid (show (fun _ : Nat => True) (B + 1 + 1) from trivial)
  obtain ⟨t0, t1, t2, t3, t4, t5⟩ := HB0.out.c6
  obtain ⟨k0, k1, k2, k3, k4, k5, k6, k7, k8, k9, k10⟩ := HB1.out.c11
  go_wp2_with fail
  refine hc.mono ?_
  clear hc
  rintro e w6 ⟨r, rfl, hL, hE⟩
  have HZR := Lib.hid (HG.out.got hE hL)
  obtain ⟨n, hn⟩ : ∃ n, moveD t o = n := ⟨_, rfl⟩
  rw [hn] at HZR
  have HNN := Lib.hid hn
  obtain ⟨nA, nc, nK, nd, rfl⟩ := rd_open6 HZR.out
  have HS' := Lib.hid (HG.out.keep hE HS.out HB2.out.lt)
  clear HS
  replace HG := Lib.hid (HG.out.glue hE)
  replace HE := Lib.hid (HE.out.trans hE)
  replace HB2 := Lib.hid (HB2.out.ext hE)
  clear hL hn
  clear hE
  obtain ⟨y0, y1, y2, y3, y4, y5⟩ := HB2.out.c6
  obtain ⟨z0, z1, z2, z3, z4, z5⟩ := HB2.out.f6
  have F9 := Fr.six w6 (B + 1 + 1) (.int .u64 n.id) (.bool n.leaf) (.string n.label) (.slice nA n.attrs.length nc) (.string n.text) (.slice nK n.kids.length nd)
  have HB9 := Lib.hid (HB2.out.six (.int .u64 n.id) (.bool n.leaf) (.string n.label) (.slice nA n.attrs.length nc) (.string n.text) (.slice nK n.kids.length nd))
  have hBB := HBB.out
  have HF9 := Lib.hid F9
  have HG9 := Lib.hid (HG.out.fr F9 (fun q hq => by rw [show q = B + 1 + 1 from hq]; exact ⟨HS'.out, by omega⟩))
  have HE9 := Lib.hid (Fr.ext HE.out F9 (fun q hq => by rw [show q = B + 1 + 1 from hq, hBB]; omega))
  clear hBB
  clear F9
  go_wp2_with fail
  refine bodyPost_ret (results_nd rfl rfl rfl HB9.out Try.underlying42 rfl info42) rfl ?_
  exact ⟨_, rfl, ⟨_, (by rw [HR.out]; rfl), by rw [HR.out, HDO.out, HNN.out]; exact HG9.out.late HZR.out⟩, HE9.out⟩
 ·have c1 : (o.kind == 1) = false := by rw [hk]; rfl
  have c2 : (o.kind == 2) = false := by rw [hk]; rfl
  have c3 : (o.kind == 3) = false := by rw [hk]; rfl
  have c4 : (o.kind == 4) = true := by rw [hk]; rfl
  have c5 : (o.kind == 5) = false := by rw [hk]; rfl
  have c6 : (o.kind == 6) = false := by rw [hk]; rfl
  have HK := Lib.hid hk
  clear hk
  have HDO := Lib.hid (show doD t o = (t.put o.path (attrT x o)).getD Nd.zero from by unfold doD; rw [HXA.out]; simp [HK.out])
  obtain ⟨k0, k1, k2, k3, k4, k5, k6, k7, k8, k9, k10⟩ := HB1.out.c11
  go_upto_region 13 with fail
  clear k0 k1 k2 k3 k4 k5 k6 k7 k8 k9 k10
  obtain ⟨wd, hwd⟩ : ∃ d, w4.drew = d := ⟨_, rfl⟩
  have XD : Ext w4 wd := by rw [← hwd]; exact (Ext.refl w4).drew
  replace HE := Lib.hid (HE.out.trans XD)
  replace HG := Lib.hid (HG.out.ext XD)
  replace HB0 := Lib.hid (HB0.out.ext XD)
  replace HB1 := Lib.hid (HB1.out.ext XD)
  replace HB2 := Lib.hid (HB2.out.ext XD)
  replace HBM := Lib.hid (HBM.out.ext XD)
  have HS := Lib.hid (show (fun _ : Nat => True) (B + 1 + 1) from trivial)
  refine wp_region_held_drew (S := fun W => NBox W B 42 #[.int .u64 t.id, .bool t.leaf, .string t.label, .slice uA t.attrs.length uc, .string t.text, .slice uK t.kids.length ud] ∧ NBox W (B + 1) 26 #[.int .u8 o.kind, .slice pA o.path.length pc, .int .i64 o.at_, .slice tA o.to.length tc, .int .u64 o.id, .bool o.leaf, .string o.label, .string o.key, .string o.value, .bool o.gone, .slice cA o.pcs.length cc] ∧ NBox W M 42 #[.int .u64 x.id, .bool x.leaf, .string x.label, .slice xA x.attrs.length xc, .string x.text, .slice xK x.kids.length xd]) (by kernel_rfl) (by rw [hwd]; exact ⟨HB0.out, HB1.out, HBM.out⟩) (fun hHeld => ?_)
  rw [hwd] at hHeld ⊢
  clear hwd XD
  refine tk 0 ?_ rfl (.inl ⟨by rfl, ?_⟩) hHeld ?_
  rotate_left
  ·intro w hSw
   have fq := hSw
   obtain ⟨q0, q1, q2⟩ := fq
   obtain ⟨e0, e1, e2, e3, e4, e5⟩ := q0.c6
   go_simp
   all_goals (first | with_reducible rfl | rw [if_pos (by omega)])
  try simp only [Act.put, aS]
  refine tk 1 ?_ rfl (.inl ⟨by rfl, ?_⟩) hHeld ?_
  rotate_left
  ·intro w hSw
   try dsimp only at hSw
   go_simp
   all_goals (first | with_reducible rfl | rw [if_pos (by omega)])
  try simp only [Act.put, aS]
  refine tk 2 ?_ rfl (.inl ⟨by rfl, ?_⟩) hHeld ?_
  rotate_left
  ·intro w hSw
   have fq := hSw
   obtain ⟨q0, q1, q2⟩ := fq
   obtain ⟨e0, e1, e2, e3, e4, e5, e6, e7, e8, e9, e10⟩ := q1.c11
   go_simp
   all_goals (first | with_reducible rfl | rw [if_pos (by omega)])
  try simp only [Act.put, aS]
  refine tk 3 ?_ rfl (.inl ⟨by rfl, ?_⟩) hHeld ?_
  rotate_left
  ·intro w hSw
   have fq := hSw
   obtain ⟨q0, q1, q2⟩ := fq
   obtain ⟨e0, e1, e2, e3, e4, e5⟩ := q2.c6
   go_simp
   all_goals (first | with_reducible rfl | rw [if_pos (by omega)])
  try simp only [Act.put, aS]
  refine tk 4 ?_ rfl (.inl ⟨by rfl, ?_⟩) hHeld ?_
  rotate_left
  ·intro w hSw
   have fq := hSw
   obtain ⟨q0, q1, q2⟩ := fq
   obtain ⟨e0, e1, e2, e3, e4, e5, e6, e7, e8, e9, e10⟩ := q1.c11
   go_simp
   all_goals (first | with_reducible rfl | rw [if_pos (by omega)])
  try simp only [Act.put, aS]
  have hc := attr_late x o _ _ wo wd HG.out.now HX.out (OpD.rd_ext HE.out HO.out) xkl.2.1
  refine wpAnyH_ready (rs := [5]) (by kernel_rfl) (by simp) ?_
  refine AllReadyH.cons (o := ⟨_, _, _, _, _, _⟩) rfl (fun K' hK => ?_) (AllReadyH.nil)
  go_simp
  go_at_call 46
  refine hc.mono ?_
  clear hc
  rintro e w5 ⟨r, rfl, hL, hE⟩
  have HZ := Lib.hid (HG.out.got hE hL)
  obtain ⟨z, hz⟩ : ∃ z, attrT x o = z := ⟨_, rfl⟩
  rw [hz] at HZ
  have HZZ := Lib.hid hz
  obtain ⟨zA, zc, zK, zd, rfl⟩ := rd_open6 HZ.out
  have HT7 := Lib.hid (HG.out.rd_glue hE HT.out)
  replace HS := Lib.hid (HG.out.keep hE HS.out HB2.out.lt)
  replace HG := Lib.hid (HG.out.glue hE)
  replace HE := Lib.hid (HE.out.trans hE)
  replace HB0 := Lib.hid (HB0.out.ext hE)
  replace HB1 := Lib.hid (HB1.out.ext hE)
  replace HB2 := Lib.hid (HB2.out.ext hE)
  replace HBM := Lib.hid (HBM.out.ext hE)
  refine hK.out _ _ (show _ ∧ _ ∧ _ from ⟨hHeld.1.ext hE, hHeld.2.1.ext hE, hHeld.2.2.ext hE⟩) (fun hHeld => ?_)
  clear hK K' hE hL hz
  try simp only [Act.put, aS]
  have hc := change_late t z _ _ _ o.path _ w5 HG.out.now HT7.out HZ.out (RdS.ext HE.out HP.out) (by omega)
  refine wpAnyH_ready (rs := [6]) (by kernel_rfl) (by simp) ?_
  refine AllReadyH.cons (o := ⟨_, _, _, _, _, _⟩) rfl (fun K' hK => ?_) (AllReadyH.nil)
  go_simp
  go_at_call 42
  refine hc.mono ?_
  clear hc
  rintro e w6 ⟨r, rfl, hL, hE⟩
  rw [← HZZ.out] at hL
  have HZR := Lib.hid (HG.out.got hE hL)
  obtain ⟨n, hn⟩ : ∃ n, (t.put o.path (attrT x o)).getD Nd.zero = n := ⟨_, rfl⟩
  rw [hn] at HZR
  have HNN := Lib.hid hn
  obtain ⟨nA, nc, nK, nd, rfl⟩ := rd_open6 HZR.out
  have HS' := Lib.hid (HG.out.keep hE HS.out HB2.out.lt)
  clear HS
  replace HG := Lib.hid (HG.out.glue hE)
  replace HE := Lib.hid (HE.out.trans hE)
  replace HB2 := Lib.hid (HB2.out.ext hE)
  clear hL hn
  refine hK.out _ _ (show _ ∧ _ ∧ _ from ⟨hHeld.1.ext hE, hHeld.2.1.ext hE, hHeld.2.2.ext hE⟩) (fun hHeld => ?_)
  clear hK K' hE
  try simp only [Act.put, aS]
  refine wpAnyH_ready (rs := [7]) (by kernel_rfl) (by simp) ?_
  refine AllReadyH.cons (o := ⟨_, _, _, _, _, _⟩) rfl (fun K' hK => ?_) (AllReadyH.nil)
  obtain ⟨y0, y1, y2, y3, y4, y5⟩ := HB2.out.c6
  obtain ⟨z0, z1, z2, z3, z4, z5⟩ := HB2.out.f6
  go_simp
  have F9 := Fr.six w6 (B + 1 + 1) (.int .u64 n.id) (.bool n.leaf) (.string n.label) (.slice nA n.attrs.length nc) (.string n.text) (.slice nK n.kids.length nd)
  have HB9 := Lib.hid (HB2.out.six (.int .u64 n.id) (.bool n.leaf) (.string n.label) (.slice nA n.attrs.length nc) (.string n.text) (.slice nK n.kids.length nd))
  have hBB := HBB.out
  have HF9 := Lib.hid F9
  have HG9 := Lib.hid (HG.out.fr F9 (fun q hq => by rw [show q = B + 1 + 1 from hq]; exact ⟨HS'.out, by omega⟩))
  have HE9 := Lib.hid (Fr.ext HE.out F9 (fun q hq => by rw [show q = B + 1 + 1 from hq, hBB]; omega))
  clear hBB
  have hM2 : B + 1 + 1 < M := HLM.out
  refine hK.out _ _ (show _ ∧ _ ∧ _ from ⟨hHeld.1.fr F9 (show ¬ B = B + 1 + 1 by omega), hHeld.2.1.fr F9 (show ¬ B + 1 = B + 1 + 1 by omega), hHeld.2.2.fr F9 (show ¬ M = B + 1 + 1 by omega)⟩) (fun hHeld => ?_)
  clear hK K' F9 y0 z0 y1 z1 y2 z2 y3 z3 y4 z4 y5 z5
  try simp only [Act.put, aS]
  refine tk 8 ?_ rfl (.inl ⟨by rfl, ?_⟩) hHeld ?_
  rotate_left
  ·intro w hSw
   try dsimp only at hSw
   go_simp
   all_goals (first | with_reducible rfl | rw [if_pos (by omega)])
  try simp only [Act.put, aS]
  refine wpAnyH_done (by kernel_rfl) ?_ _
  clear hHeld
  go_wp2_with fail
  refine bodyPost_ret (results_nd rfl rfl rfl HB9.out Try.underlying42 rfl info42) rfl ?_
  exact ⟨_, rfl, ⟨_, (by rw [HR.out]; rfl), by rw [HR.out, HDO.out, HNN.out]; exact HG9.out.late HZR.out⟩, HE9.out⟩
 ·have c1 : (o.kind == 1) = false := by rw [hk]; rfl
  have c2 : (o.kind == 2) = false := by rw [hk]; rfl
  have c3 : (o.kind == 3) = false := by rw [hk]; rfl
  have c4 : (o.kind == 4) = false := by rw [hk]; rfl
  have c5 : (o.kind == 5) = true := by rw [hk]; rfl
  have c6 : (o.kind == 6) = false := by rw [hk]; rfl
  have HK := Lib.hid hk
  clear hk
  have hlb : okStr o.label := by
   obtain ⟨_, _, _, -, -, -, -, hok⟩ := HO.out
   exact hok.1
  have HXN := Lib.hid (lab_rd HX.out hlb)
  have HDO := Lib.hid (show doD t o = (t.put o.path (labT x o.label)).getD Nd.zero from by unfold doD; rw [HXA.out]; simp [HK.out])
  obtain ⟨k0, k1, k2, k3, k4, k5, k6, k7, k8, k9, k10⟩ := HB1.out.c11
  obtain ⟨y0, y1, y2, y3, y4, y5⟩ := HBM.out.c6
  obtain ⟨z0, z1, z2, z3, z4, z5⟩ := HBM.out.f6
  go_upto_region 16 with fail
  clear k0 k1 k2 k3 k4 k5 k6 k7 k8 k9 k10 y0 z0 y1 z1 y2 z2 y3 z3 y4 z4 y5 z5
  have FD := Fr.setCell w4 M 2 (.string o.label)
  have hM2 : B + 1 + 1 < M := HLM.out
  obtain ⟨w5, hw5⟩ : ∃ q, World.setCell w4 ⟨M, 2, none⟩ (.string o.label) = q := ⟨_, rfl⟩
  rw [hw5] at FD
  have hBBB := HBB.out
  have HG' := Lib.hid (HG.out.fr FD (fun q hq => by rw [show q = M from hq]; exact ⟨trivial, by omega⟩))
  have HE' := Lib.hid (Fr.ext HE.out FD (fun q hq => by rw [show q = M from hq, hBBB]; omega))
  have HB0' := Lib.hid (HB0.out.fr FD (show ¬ B = M by omega))
  have HB1' := Lib.hid (HB1.out.fr FD (show ¬ B + 1 = M by omega))
  have HB2' := Lib.hid (HB2.out.fr FD (show ¬ B + 1 + 1 = M by omega))
  have HBM' : Hid (NBox w5 M 42 #[.int .u64 x.id, .bool x.leaf, .string o.label, .slice xA x.attrs.length xc, .string x.text, .slice xK x.kids.length xd]) := Lib.hid (by rw [← hw5]; exact HBM.out.set 2 (.string o.label))
  clear HG HE HB0 HB1 HB2 HBM hBBB FD
  have HG := HG'
  have HE := HE'
  have HB0 := HB0'
  have HB1 := HB1'
  have HB2 := HB2'
  have HBM := HBM'
  clear HG' HE' HB0' HB1' HB2' HBM'
  rw [hw5]
  clear hw5
  have HS := Lib.hid (show (fun _ : Nat => True) (B + 1 + 1) from trivial)
  have hc := change_late t (labT x o.label) _ _ _ o.path wo w5 HG.out.now HT.out HXN.out (RdS.ext HE.out HP.out) (by omega)
  obtain ⟨t0, t1, t2, t3, t4, t5⟩ := HB0.out.c6
  obtain ⟨k0, k1, k2, k3, k4, k5, k6, k7, k8, k9, k10⟩ := HB1.out.c11
  obtain ⟨s0, s1, s2, s3, s4, s5⟩ := HBM.out.c6
  go_wp2_with fail
  refine hc.mono ?_
  clear hc
  rintro e w6 ⟨r, rfl, hL, hE⟩
  have HZR := Lib.hid (HG.out.got hE hL)
  obtain ⟨n, hn⟩ : ∃ n, (t.put o.path (labT x o.label)).getD Nd.zero = n := ⟨_, rfl⟩
  rw [hn] at HZR
  have HNN := Lib.hid hn
  obtain ⟨nA, nc, nK, nd, rfl⟩ := rd_open6 HZR.out
  have HS' := Lib.hid (HG.out.keep hE HS.out HB2.out.lt)
  clear HS
  replace HG := Lib.hid (HG.out.glue hE)
  replace HE := Lib.hid (HE.out.trans hE)
  replace HB2 := Lib.hid (HB2.out.ext hE)
  clear hL hn
  clear hE
  obtain ⟨y0, y1, y2, y3, y4, y5⟩ := HB2.out.c6
  obtain ⟨z0, z1, z2, z3, z4, z5⟩ := HB2.out.f6
  have F9 := Fr.six w6 (B + 1 + 1) (.int .u64 n.id) (.bool n.leaf) (.string n.label) (.slice nA n.attrs.length nc) (.string n.text) (.slice nK n.kids.length nd)
  have HB9 := Lib.hid (HB2.out.six (.int .u64 n.id) (.bool n.leaf) (.string n.label) (.slice nA n.attrs.length nc) (.string n.text) (.slice nK n.kids.length nd))
  have hBB := HBB.out
  have HF9 := Lib.hid F9
  have HG9 := Lib.hid (HG.out.fr F9 (fun q hq => by rw [show q = B + 1 + 1 from hq]; exact ⟨HS'.out, by omega⟩))
  have HE9 := Lib.hid (Fr.ext HE.out F9 (fun q hq => by rw [show q = B + 1 + 1 from hq, hBB]; omega))
  clear hBB
  clear F9
  go_wp2_with fail
  refine bodyPost_ret (results_nd rfl rfl rfl HB9.out Try.underlying42 rfl info42) rfl ?_
  exact ⟨_, rfl, ⟨_, (by rw [HR.out]; rfl), by rw [HR.out, HDO.out, HNN.out]; exact HG9.out.late HZR.out⟩, HE9.out⟩
 ·have c1 : (o.kind == 1) = false := by rw [hk]; rfl
  have c2 : (o.kind == 2) = false := by rw [hk]; rfl
  have c3 : (o.kind == 3) = false := by rw [hk]; rfl
  have c4 : (o.kind == 4) = false := by rw [hk]; rfl
  have c5 : (o.kind == 5) = false := by rw [hk]; rfl
  have c6 : (o.kind == 6) = true := by rw [hk]; rfl
  have HK := Lib.hid hk
  clear hk
  obtain ⟨x', hx', hlf, hae⟩ := valid6 HV.out HK.out
  rw [HXA.out] at hx'
  cases hx'
  have hlb : okStr (apS x.text o.pcs) := by
   have h1 := right_nn (apE_yes hae)
   have h3 := put_le h1.1
   have h4 := h1.2.1
   have h5 := apS_put hae
   have h2 := xkl.2.2
   unfold okStr maxLen
   omega
  have HXN := Lib.hid (txt_rd HX.out hlb)
  have HDO := Lib.hid (show doD t o = (t.put o.path (txtT x (apS x.text o.pcs))).getD Nd.zero from by unfold doD; rw [HXA.out]; simp [HK.out])
  have hc := applyR_any x.text o.pcs _ w4 (RdP.ext HE.out HCC.out) (by omega)
  clear hlf hae
  obtain ⟨k0, k1, k2, k3, k4, k5, k6, k7, k8, k9, k10⟩ := HB1.out.c11
  obtain ⟨y0, y1, y2, y3, y4, y5⟩ := HBM.out.c6
  go_wp2_with fail
  refine hc.mono ?_
  clear hc
  rintro e w4' ⟨r, rfl, rfl, hE⟩
  replace HE := Lib.hid (HE.out.trans hE)
  replace HG := Lib.hid (HG.out.ext hE)
  replace HB0 := Lib.hid (HB0.out.ext hE)
  replace HB1 := Lib.hid (HB1.out.ext hE)
  replace HB2 := Lib.hid (HB2.out.ext hE)
  replace HBM := Lib.hid (HBM.out.ext hE)
  clear hE k0 k1 k2 k3 k4 k5 k6 k7 k8 k9 k10 y0 y1 y2 y3 y4 y5
  obtain ⟨y0, y1, y2, y3, y4, y5⟩ := HBM.out.c6
  obtain ⟨z0, z1, z2, z3, z4, z5⟩ := HBM.out.f6
  go_upto_region 18 with fail
  clear y0 z0 y1 z1 y2 z2 y3 z3 y4 z4 y5 z5
  have FD := Fr.setCell w4' M 4 (.string (apS x.text o.pcs))
  have hM2 : B + 1 + 1 < M := HLM.out
  obtain ⟨w5, hw5⟩ : ∃ q, World.setCell w4' ⟨M, 4, none⟩ (.string (apS x.text o.pcs)) = q := ⟨_, rfl⟩
  rw [hw5] at FD
  have hBBB := HBB.out
  have HG' := Lib.hid (HG.out.fr FD (fun q hq => by rw [show q = M from hq]; exact ⟨trivial, by omega⟩))
  have HE' := Lib.hid (Fr.ext HE.out FD (fun q hq => by rw [show q = M from hq, hBBB]; omega))
  have HB0' := Lib.hid (HB0.out.fr FD (show ¬ B = M by omega))
  have HB1' := Lib.hid (HB1.out.fr FD (show ¬ B + 1 = M by omega))
  have HB2' := Lib.hid (HB2.out.fr FD (show ¬ B + 1 + 1 = M by omega))
  have HBM' : Hid (NBox w5 M 42 #[.int .u64 x.id, .bool x.leaf, .string x.label, .slice xA x.attrs.length xc, .string (apS x.text o.pcs), .slice xK x.kids.length xd]) := Lib.hid (by rw [← hw5]; exact HBM.out.set 4 (.string (apS x.text o.pcs)))
  clear HG HE HB0 HB1 HB2 HBM hBBB FD
  have HG := HG'
  have HE := HE'
  have HB0 := HB0'
  have HB1 := HB1'
  have HB2 := HB2'
  have HBM := HBM'
  clear HG' HE' HB0' HB1' HB2' HBM'
  rw [hw5]
  clear hw5
  have HS := Lib.hid (show (fun _ : Nat => True) (B + 1 + 1) from trivial)
  have hc := change_late t (txtT x (apS x.text o.pcs)) _ _ _ o.path wo w5 HG.out.now HT.out HXN.out (RdS.ext HE.out HP.out) (by omega)
  obtain ⟨t0, t1, t2, t3, t4, t5⟩ := HB0.out.c6
  obtain ⟨k0, k1, k2, k3, k4, k5, k6, k7, k8, k9, k10⟩ := HB1.out.c11
  obtain ⟨s0, s1, s2, s3, s4, s5⟩ := HBM.out.c6
  go_wp2_with fail
  refine hc.mono ?_
  clear hc
  rintro e w6 ⟨r, rfl, hL, hE⟩
  have HZR := Lib.hid (HG.out.got hE hL)
  obtain ⟨n, hn⟩ : ∃ n, (t.put o.path (txtT x (apS x.text o.pcs))).getD Nd.zero = n := ⟨_, rfl⟩
  rw [hn] at HZR
  have HNN := Lib.hid hn
  obtain ⟨nA, nc, nK, nd, rfl⟩ := rd_open6 HZR.out
  have HS' := Lib.hid (HG.out.keep hE HS.out HB2.out.lt)
  clear HS
  replace HG := Lib.hid (HG.out.glue hE)
  replace HE := Lib.hid (HE.out.trans hE)
  replace HB2 := Lib.hid (HB2.out.ext hE)
  clear hL hn
  clear hE
  obtain ⟨y0, y1, y2, y3, y4, y5⟩ := HB2.out.c6
  obtain ⟨z0, z1, z2, z3, z4, z5⟩ := HB2.out.f6
  have F9 := Fr.six w6 (B + 1 + 1) (.int .u64 n.id) (.bool n.leaf) (.string n.label) (.slice nA n.attrs.length nc) (.string n.text) (.slice nK n.kids.length nd)
  have HB9 := Lib.hid (HB2.out.six (.int .u64 n.id) (.bool n.leaf) (.string n.label) (.slice nA n.attrs.length nc) (.string n.text) (.slice nK n.kids.length nd))
  have hBB := HBB.out
  have HF9 := Lib.hid F9
  have HG9 := Lib.hid (HG.out.fr F9 (fun q hq => by rw [show q = B + 1 + 1 from hq]; exact ⟨HS'.out, by omega⟩))
  have HE9 := Lib.hid (Fr.ext HE.out F9 (fun q hq => by rw [show q = B + 1 + 1 from hq, hBB]; omega))
  clear hBB
  clear F9
  go_wp2_with fail
  refine bodyPost_ret (results_nd rfl rfl rfl HB9.out Try.underlying42 rfl info42) rfl ?_
  exact ⟨_, rfl, ⟨_, (by rw [HR.out]; rfl), by rw [HR.out, HDO.out, HNN.out]; exact HG9.out.late HZR.out⟩, HE9.out⟩
end Go.Proofs.Ytdnjkffmgmbfmaa.Sy
