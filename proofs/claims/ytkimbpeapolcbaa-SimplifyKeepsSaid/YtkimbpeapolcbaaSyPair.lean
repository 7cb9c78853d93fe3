/- Chapter 10: busy (33), Pair (13). (Printed by gsypair.py.) -/
import Derived.Test.YtkimbpeapolcbaaSyListD
import Derived.Test.YtkimbpeapolcbaaSyBare
import Derived.Test.YtkimbpeapolcbaaSyIdle
namespace Go.Proofs.Ytkimbpeapolcbaa.Sy
open Go.RowKit Go.Proofs.Ytkimbpeapolcbaa.Bw Go.Proofs.Ytkimbpeapolcbaa.Bs

set_option maxRecDepth 100000 in
set_option maxHeartbeats 2000000 in
theorem busy_any (o : OpD) (v : Value) (w : World) (h : o.rd w v) : Calls Try.prog 33 #[v] w (Ret w fun r _ => r = .bool (busyD o)) := by
 have HRD := Lib.hid h
 obtain ⟨pA, pc, tA, tc, cA, cc, rfl, -, -, -⟩ := rdO_cells h
 obtain ⟨w1, hw1⟩ : ∃ W, w.alloc (.cells #[.int .u8 o.kind, .slice pA o.path.length pc, .int .i64 o.at_, .slice tA o.to.length tc, .int .u64 o.id, .bool o.leaf, .string o.label, .string o.key, .string o.value, .bool o.gone, .slice cA o.pcs.length cc] 26) = W := ⟨_, rfl⟩
 obtain ⟨X, hX⟩ : ∃ X, w.heap.size = X := ⟨_, rfl⟩
 have E1 : Ext w w1 := by rw [← hw1]; exact (Ext.refl w).alloc _
 have HE := Lib.hid E1
 have HB := Lib.hid (show NBox w1 X 26 #[.int .u8 o.kind, .slice pA o.path.length pc, .int .i64 o.at_, .slice tA o.to.length tc, .int .u64 o.id, .bool o.leaf, .string o.label, .string o.key, .string o.value, .bool o.gone, .slice cA o.pcs.length cc] from by rw [← hw1, ← hX]; exact NBox.new _ _ _)
 have HW := Lib.hid hw1
 have HXX := Lib.hid hX
 have hc := formed_any o _ w1 (OpD.rd_ext E1 h)
 have HBD := Lib.hid (show busyD o = (o.formed && !idleD o) from rfl)
 obtain ⟨f, hf⟩ : ∃ f, o.formed = f := ⟨_, rfl⟩
 rw [hf] at hc HBD
 have k0 := HB.out.cell 0
 have k1 := HB.out.cell 1
 have k2 := HB.out.cell 2
 have k3 := HB.out.cell 3
 have k4 := HB.out.cell 4
 have k5 := HB.out.cell 5
 have k6 := HB.out.cell 6
 have k7 := HB.out.cell 7
 have k8 := HB.out.cell 8
 have k9 := HB.out.cell 9
 have k10 := HB.out.cell 10
 clear hw1 hX E1 h hf
 go_enter Try.func33, Try.ntmps33
 go_upto_region 1 with fail
 rw [HW.out, HXX.out]
 clear HW HXX
 go_wp2_with fail
 refine hc.mono ?_
 clear hc k0 k1 k2 k3 k4 k5 k6 k7 k8 k9 k10
 rintro e w2 ⟨r, rfl, rfl, hE⟩
 have HE' := Lib.hid (HE.out.trans hE)
 have HB' := Lib.hid (HB.out.ext hE)
 clear hE HE HB
 cases f with
 | false =>
  go_wp2_with fail
  go_ret
  exact ⟨_, rfl, (congrArg Value.bool HBD.out).symm, HE'.out⟩
 | true =>
 have k0 := HB'.out.cell 0
 have k1 := HB'.out.cell 1
 have k2 := HB'.out.cell 2
 have k3 := HB'.out.cell 3
 have k4 := HB'.out.cell 4
 have k5 := HB'.out.cell 5
 have k6 := HB'.out.cell 6
 have k7 := HB'.out.cell 7
 have k8 := HB'.out.cell 8
 have k9 := HB'.out.cell 9
 have k10 := HB'.out.cell 10
 have hc := idle_any o _ w2 (OpD.rd_ext HE'.out HRD.out)
 go_wp2_with fail
 refine hc.mono ?_
 clear hc k0 k1 k2 k3 k4 k5 k6 k7 k8 k9 k10
 rintro e w3 ⟨r, rfl, rfl, hE⟩
 have HE2 := Lib.hid (HE'.out.trans hE)
 clear hE HE' HB'
 go_wp2_with fail
 go_ret
 exact ⟨_, rfl, (congrArg Value.bool HBD.out).symm, HE2.out⟩
theorem rdPcs_fr {W W' : World} {Y : Nat} (F : Fr W W' (fun k => k = Y)) {b : Nat} (hb : b ≠ Y) : ∀ {off : Nat} {l : List Pc}, rdPcs W b off l → rdPcs W' b off l
 | _, [], _ => trivial
 | _, _ :: _, ⟨h1, h2, h3, h4, h5⟩ => ⟨F.cell hb h1, F.cell hb h2, F.cell hb h3, h4, rdPcs_fr F hb h5⟩
/-- A row of pieces does not lie in an operation's box. -/
theorem RdP.keep {W W' : World} {l : List Pc} {v : Value} {Y t : Nat} {c1 c3 c10 : Value} {n0 n2 n4 : Int} {b5 b9 : Bool} {s6 s7 s8 : ByteArray} (h : RdP W l v) (hY : NBox W Y t #[.int .u8 n0, c1, .int .i64 n2, c3, .int .u64 n4, .bool b5, .string s6, .string s7, .string s8, .bool b9, c10])
  (F : Fr W W' (fun k => k = Y)) (h1 : ∀ n, c1 ≠ .int .i64 n) (h3 : ∀ n, c3 ≠ .int .i64 n) : RdP W' l v := by
 obtain ⟨A, c, rfl, a1, a2, a3⟩ := h
 refine ⟨A, c, rfl, a1, a2, fun h0 => ?_⟩
 obtain ⟨b, off, rfl, hr⟩ := a3 h0
 refine ⟨b, off, rfl, rdPcs_fr F ?_ hr⟩
 rintro rfl
 cases l with
 | nil => exact absurd h0 (by simp)
 | cons p r =>
  obtain ⟨e1, e2, -⟩ := hr
  rw [hY.cell] at e1 e2
  match off, e1, e2 with
  | 0, e1, _ => simp at e1
  | 1, e1, _ => simp at e1; exact h1 _ e1
  | 2, _, e2 => simp at e2; exact h3 _ e2
  | 3, e1, _ => simp at e1; exact h3 _ e1
  | 4, e1, _ => simp at e1
  | 5, e1, _ => simp at e1
  | 6, e1, _ => simp at e1
  | 7, e1, _ => simp at e1
  | 8, e1, _ => simp at e1
  | 9, e1, _ => simp at e1
  | 10, _, e2 => simp at e2
  | n + 11, e1, _ => simp at e1
theorem rowV2.nil_ (lo : Nat) (W : World) : lsV lo [] (.slice none 0 0) W := lsV.none_ lo W
set_option maxRecDepth 100000 in
set_option maxHeartbeats 8000000 in
theorem pair13_own (a b : OpD) (u v : Value) (w : World) (hu : a.rd w u) (hv : b.rd w v) (la : OkLen a) (lb : OkLen b) : Calls Try.prog 13 #[u, v] w (PrO w (pairD a b)) := by
 have HU := Lib.hid hu
 have HV := Lib.hid hv
 obtain ⟨pA, pc, tA, tc, cA, cc, rfl, hP, hT, hC⟩ := rdO_cells hu
 obtain ⟨qA, qc, rA, rc, dA, dc, rfl, hQ, hR, hD⟩ := rdO_cells hv
 obtain ⟨w1, hw1⟩ : ∃ W, (w.alloc (.cells #[.int .u8 a.kind, .slice pA a.path.length pc, .int .i64 a.at_, .slice tA a.to.length tc, .int .u64 a.id, .bool a.leaf, .string a.label, .string a.key, .string a.value, .bool a.gone, .slice cA a.pcs.length cc] 26)).alloc (.cells #[.int .u8 b.kind, .slice qA b.path.length qc, .int .i64 b.at_, .slice rA b.to.length rc, .int .u64 b.id, .bool b.leaf, .string b.label, .string b.key, .string b.value, .bool b.gone, .slice dA b.pcs.length dc] 26) = W := ⟨_, rfl⟩
 obtain ⟨X, hX⟩ : ∃ X, w.heap.size = X := ⟨_, rfl⟩
 have s1 : (w.alloc (.cells #[.int .u8 a.kind, .slice pA a.path.length pc, .int .i64 a.at_, .slice tA a.to.length tc, .int .u64 a.id, .bool a.leaf, .string a.label, .string a.key, .string a.value, .bool a.gone, .slice cA a.pcs.length cc] 26)).heap.size = X + 1 := by rw [World.size_alloc, hX]
 have E1 : Ext w w1 := by rw [← hw1]; exact ((Ext.refl w).alloc _).alloc _
 have bX : NBox w1 X 26 #[.int .u8 a.kind, .slice pA a.path.length pc, .int .i64 a.at_, .slice tA a.to.length tc, .int .u64 a.id, .bool a.leaf, .string a.label, .string a.key, .string a.value, .bool a.gone, .slice cA a.pcs.length cc] := by rw [← hw1, ← hX]; exact (NBox.new w 26 _).ext ((Ext.refl _).alloc _)
 have bY : NBox w1 (X + 1) 26 #[.int .u8 b.kind, .slice qA b.path.length qc, .int .i64 b.at_, .slice rA b.to.length rc, .int .u64 b.id, .bool b.leaf, .string b.label, .string b.key, .string b.value, .bool b.gone, .slice dA b.pcs.length dc] := by rw [← hw1, ← s1]; exact NBox.new _ _ _
 have hwX : w.heap.size ≤ X := by omega
 obtain ⟨Y, hY⟩ : ∃ Y, X + 1 = Y := ⟨_, rfl⟩
 rw [hY] at bY
 have HE := Lib.hid E1
 have HX := Lib.hid bX
 have HY := Lib.hid bY
 have HXY := Lib.hid (show X ≠ Y from by omega)
 have HwX := Lib.hid hwX
 have HwY := Lib.hid (show w.heap.size ≤ Y from by omega)
 have HP := Lib.hid hP
 have HC := Lib.hid hC
 have HQ := Lib.hid hQ
 have HD := Lib.hid hD
 have HW := Lib.hid hw1
 have HXX := Lib.hid hX
 have HYY := Lib.hid hY
 have HLA := Lib.hid la
 have HLB := Lib.hid lb
 have lpa := la.1
 have lpb := lb.1
 have HPD := Lib.hid (show pairD a b = if busyD a && busyD b then pairT a b else none from rfl)
 clear hw1 hX s1 E1 bX bY hwX hY hu hv hP hT hC hQ hR hD la lb
 go_enter Try.func13, Try.ntmps13
 go_wp2_with fail
 rw [HW.out, HXX.out]
 try rw [HYY.out]
 clear HW HXX HYY
 refine wp_scope_fwd 0 rfl ?_
 obtain ⟨ba, hba⟩ : ∃ x, busyD a = x := ⟨_, rfl⟩
 obtain ⟨bb, hbb⟩ : ∃ x, busyD b = x := ⟨_, rfl⟩
 rw [hba, hbb] at HPD
 have g0 := HX.out.cell 0
 have g1 := HX.out.cell 1
 have g2 := HX.out.cell 2
 have g3 := HX.out.cell 3
 have g4 := HX.out.cell 4
 have g5 := HX.out.cell 5
 have g6 := HX.out.cell 6
 have g7 := HX.out.cell 7
 have g8 := HX.out.cell 8
 have g9 := HX.out.cell 9
 have g10 := HX.out.cell 10
 have q := busy_any a _ w1 (OpD.rd_ext HE.out HU.out)
 rw [hba] at q
 go_wp2_with fail
 refine q.mono ?_
 clear q g0 g1 g2 g3 g4 g5 g6 g7 g8 g9 g10
 rintro e w2 ⟨r, rfl, rfl, hE⟩
 have HE' := Lib.hid (HE.out.trans hE)
 have HX' := Lib.hid (HX.out.ext hE)
 have HY' := Lib.hid (HY.out.ext hE)
 clear hE
 clear HE
 have HE := HE'
 clear HE'
 clear HX
 have HX := HX'
 clear HX'
 clear HY
 have HY := HY'
 clear HY'
 cases ba with
 | false =>
  have HPR : Hid (pairD a b = none) := Lib.hid (by rw [HPD.out]; rfl)
  clear hba hbb
  go_wp2_with fail
  go_step3
  (try simp only [Exit.then])
  (try simp only [Exit.inBlock])
  (try simp only [Exit.then])
  refine fwd_goto ?_
  go_wp2_with fail
  rw [Exit.noGoto_ret]
  go_ret2
  rw [HPR.out]
  exact ⟨HE.out, rfl⟩
 | true =>
 have h0 := HY.out.cell 0
 have h1 := HY.out.cell 1
 have h2 := HY.out.cell 2
 have h3 := HY.out.cell 3
 have h4 := HY.out.cell 4
 have h5 := HY.out.cell 5
 have h6 := HY.out.cell 6
 have h7 := HY.out.cell 7
 have h8 := HY.out.cell 8
 have h9 := HY.out.cell 9
 have h10 := HY.out.cell 10
 have q := busy_any b _ w2 (OpD.rd_ext HE.out HV.out)
 rw [hbb] at q
 go_wp2_with fail
 refine q.mono ?_
 clear q h0 h1 h2 h3 h4 h5 h6 h7 h8 h9 h10
 rintro e w3 ⟨r, rfl, rfl, hE⟩
 have HE' := Lib.hid (HE.out.trans hE)
 have HX' := Lib.hid (HX.out.ext hE)
 have HY' := Lib.hid (HY.out.ext hE)
 clear hE
 clear HE
 have HE := HE'
 clear HE'
 clear HX
 have HX := HX'
 clear HX'
 clear HY
 have HY := HY'
 clear HY'
 cases bb with
 | false =>
  have HPR : Hid (pairD a b = none) := Lib.hid (by rw [HPD.out]; rfl)
  clear hba hbb
  go_wp2_with fail
  go_step3
  (try simp only [Exit.then])
  (try simp only [Exit.inBlock])
  (try simp only [Exit.then])
  refine fwd_goto ?_
  go_wp2_with fail
  rw [Exit.noGoto_ret]
  go_ret2
  rw [HPR.out]
  exact ⟨HE.out, rfl⟩
 | true =>
 have HPR : Hid (pairD a b = pairT a b) := Lib.hid (by rw [HPD.out]; rfl)
 clear HPD hba hbb
 have HPT := Lib.hid (show pairT a b = if insHit a b ∧ b.kind = 2 then some [] else if insHit a b ∧ b.kind = 5 then some [bareD { a with label := b.label }] else if a.kind = b.kind ∧ a.path = b.path then pairS a b else none from rfl)
 have HPS := Lib.hid (show pairS a b = if a.kind = 5 then some [bareD b] else if a.kind = 4 then (if a.key = b.key then some [bareD b] else none) else if a.kind = 6 then (if coE a.pcs b.pcs = 0 then (if (coL a.pcs b.pcs).length = 0 then some [] else some [bareD { b with pcs := coL a.pcs b.pcs }]) else none) else none from rfl)
 go_upto_region 4 with fail
 obtain ⟨d0, hd0⟩ : ∃ d, w3.drew = d := ⟨_, rfl⟩
 have hE : Ext w3 d0 := by rw [← hd0]; exact (Ext.refl _).drew
 have HE' := Lib.hid (HE.out.trans hE)
 have HX' := Lib.hid (HX.out.ext hE)
 have HY' := Lib.hid (HY.out.ext hE)
 clear hE
 clear HE
 have HE := HE'
 clear HE'
 clear HX
 have HX := HX'
 clear HX'
 clear HY
 have HY := HY'
 clear HY'
 refine wp_region_held_drew (S := (fun W => NBox W X 26 #[.int .u8 a.kind, .slice pA a.path.length pc, .int .i64 a.at_, .slice tA a.to.length tc, .int .u64 a.id, .bool a.leaf, .string a.label, .string a.key, .string a.value, .bool a.gone, .slice cA a.pcs.length cc] ∧ NBox W Y 26 #[.int .u8 b.kind, .slice qA b.path.length qc, .int .i64 b.at_, .slice rA b.to.length rc, .int .u64 b.id, .bool b.leaf, .string b.label, .string b.key, .string b.value, .bool b.gone, .slice dA b.pcs.length dc])) (by kernel_rfl) (by rw [hd0]; exact ⟨HX.out, HY.out⟩) (fun hHeld => ?_)
 rw [hd0] at hHeld ⊢
 clear hd0
 refine wpAnyH_take (i := 0) (oi := ⟨_, _, _, _, _, _⟩) (v := ?_) rfl (by kernel_rfl) (by kernel_rfl) (by kernel_rfl) (fun _ _ _ h => h) (Or.inl ⟨by rfl, ?_⟩) hHeld ?_
 rotate_left
 ·intro w hSw
  try dsimp only at hSw
  go_simp
  all_goals (first | with_reducible rfl | rw [if_pos (by omega)])
 try simp only [Act.put, aS]
 refine wpAnyH_take (i := 1) (oi := ⟨_, _, _, _, _, _⟩) (v := ?_) rfl (by kernel_rfl) (by kernel_rfl) (by kernel_rfl) (fun _ _ _ h => h) (Or.inl ⟨by rfl, ?_⟩) hHeld ?_
 rotate_left
 ·intro w hSw
  obtain ⟨hb, hz⟩ : NBox w X 26 _ ∧ NBox w Y 26 _ := hSw
  have g0 := hb.cell 0
  have h0 := hz.cell 0
  have g1 := hb.cell 1
  have h1 := hz.cell 1
  have g2 := hb.cell 2
  have h2 := hz.cell 2
  have g3 := hb.cell 3
  have h3 := hz.cell 3
  have g4 := hb.cell 4
  have h4 := hz.cell 4
  have g5 := hb.cell 5
  have h5 := hz.cell 5
  have g6 := hb.cell 6
  have h6 := hz.cell 6
  have g7 := hb.cell 7
  have h7 := hz.cell 7
  have g8 := hb.cell 8
  have h8 := hz.cell 8
  have g9 := hb.cell 9
  have h9 := hz.cell 9
  have g10 := hb.cell 10
  have h10 := hz.cell 10
  clear hb hz
  go_simp
  all_goals (first | with_reducible rfl | rw [if_pos (by omega)])
 try simp only [Act.put, aS]
 refine wpAnyH_take (i := 2) (oi := ⟨_, _, _, _, _, _⟩) (v := ?_) rfl (by kernel_rfl) (by kernel_rfl) (by kernel_rfl) (fun _ _ _ h => h) (Or.inl ⟨by rfl, ?_⟩) hHeld ?_
 rotate_left
 ·intro w hSw
  try dsimp only at hSw
  go_simp
  all_goals (first | with_reducible rfl | rw [if_pos (by omega)])
 try simp only [Act.put, aS]
 refine wpAnyH_take (i := 3) (oi := ⟨_, _, _, _, _, _⟩) (v := ?_) rfl (by kernel_rfl) (by kernel_rfl) (by kernel_rfl) (fun _ _ _ h => h) (Or.inl ⟨by rfl, ?_⟩) hHeld ?_
 rotate_left
 ·intro w hSw
  try dsimp only at hSw
  go_simp
  all_goals (first | with_reducible rfl | rw [if_pos (by omega)])
 try simp only [Act.put, aS]
 by_cases hk1 : a.kind = 1
 case neg =>
  have t1 : (a.kind == 1) = false := beq_eq_false_iff_ne.2 hk1
  have HT := Lib.hid (show pairT a b = if a.kind = b.kind ∧ a.path = b.path then pairS a b else none from by rw [HPT.out, if_neg (fun h => hk1 h.1.1), if_neg (fun h => hk1 h.1.1)])
  rw [t1]
  refine wpAnyH_take (i := 4) (oi := ⟨_, _, _, _, _, _⟩) (v := undef) rfl (by kernel_rfl) (by kernel_rfl) (by kernel_rfl) (fun _ _ _ h => h) (Or.inr ⟨by rfl, by rfl⟩) hHeld ?_
  try simp only [Act.put, aS]
  refine wpAnyH_take (i := 5) (oi := ⟨_, _, _, _, _, _⟩) (v := undef) rfl (by kernel_rfl) (by kernel_rfl) (by kernel_rfl) (fun _ _ _ h => h) (Or.inr ⟨by rfl, by rfl⟩) hHeld ?_
  try simp only [Act.put, aS]
  refine wpAnyH_take (i := 6) (oi := ⟨_, _, _, _, _, _⟩) (v := undef) rfl (by kernel_rfl) (by kernel_rfl) (by kernel_rfl) (fun _ _ _ h => h) (Or.inr ⟨by rfl, by rfl⟩) hHeld ?_
  try simp only [Act.put, aS]
  refine wpAnyH_take (i := 7) (oi := ⟨_, _, _, _, _, _⟩) (v := undef) rfl (by kernel_rfl) (by kernel_rfl) (by kernel_rfl) (fun _ _ _ h => h) (Or.inr ⟨by rfl, by rfl⟩) hHeld ?_
  try simp only [Act.put, aS]
  refine wpAnyH_take (i := 8) (oi := ⟨_, _, _, _, _, _⟩) (v := undef) rfl (by kernel_rfl) (by kernel_rfl) (by kernel_rfl) (fun _ _ _ h => h) (Or.inr ⟨by rfl, by rfl⟩) hHeld ?_
  try simp only [Act.put, aS]
  refine wpAnyH_take (i := 9) (oi := ⟨_, _, _, _, _, _⟩) (v := undef) rfl (by kernel_rfl) (by kernel_rfl) (by kernel_rfl) (fun _ _ _ h => h) (Or.inr ⟨by rfl, by rfl⟩) hHeld ?_
  try simp only [Act.put, aS]
  refine wpAnyH_take (i := 10) (oi := ⟨_, _, _, _, _, _⟩) (v := undef) rfl (by kernel_rfl) (by kernel_rfl) (by kernel_rfl) (fun _ _ _ h => h) (Or.inr ⟨by rfl, by rfl⟩) hHeld ?_
  try simp only [Act.put, aS]
  refine wpAnyH_take (i := 11) (oi := ⟨_, _, _, _, _, _⟩) (v := undef) rfl (by kernel_rfl) (by kernel_rfl) (by kernel_rfl) (fun _ _ _ h => h) (Or.inr ⟨by rfl, by rfl⟩) hHeld ?_
  try simp only [Act.put, aS]
  refine wpAnyH_take (i := 12) (oi := ⟨_, _, _, _, _, _⟩) (v := ?_) rfl (by kernel_rfl) (by kernel_rfl) (by kernel_rfl) (fun _ _ _ h => h) (Or.inl ⟨by rfl, ?_⟩) hHeld ?_
  rotate_left
  ·intro w hSw
   try dsimp only at hSw
   go_simp
   all_goals (first | with_reducible rfl | rw [if_pos (by omega)])
  try simp only [Act.put, aS]
  refine wpAnyH_done (by kernel_rfl) ?_ _
  clear hHeld
  clear t1
  have g0 := HX.out.cell 0
  have h0 := HY.out.cell 0
  have g1 := HX.out.cell 1
  have h1 := HY.out.cell 1
  by_cases hkk : a.kind = b.kind
  case neg =>
   have t0 : (a.kind != b.kind) = true := bne_iff_ne.2 hkk
   have HR : Hid (pairT a b = none) := Lib.hid (by rw [HT.out, if_neg (fun h => hkk h.1)])
   go_wp2_with fail
   go_step3
   (try simp only [Exit.then])
   (try simp only [Exit.inBlock])
   (try simp only [Exit.then])
   refine fwd_goto ?_
   go_wp2_with fail
   rw [Exit.noGoto_ret]
   go_ret2
   rw [HPR.out, HR.out]
   exact ⟨HE.out, rfl⟩
  have t0 : (a.kind != b.kind) = false := by rw [bne_eq_false_iff_eq]; exact hkk
  have q := pathSame_any a.path b.path _ _ d0 (RdS.ext HE.out HP.out) (RdS.ext HE.out HQ.out)
  go_wp2_with fail
  refine q.mono ?_
  clear q g0 h0 g1 h1
  rintro e d0s ⟨r, rfl, rfl, hE⟩
  have HE' := Lib.hid (HE.out.trans hE)
  have HX' := Lib.hid (HX.out.ext hE)
  have HY' := Lib.hid (HY.out.ext hE)
  clear hE
  clear HE
  have HE := HE'
  clear HE'
  clear HX
  have HX := HX'
  clear HX'
  clear HY
  have HY := HY'
  clear HY'
  have g0 := HX.out.cell 0
  have g7 := HX.out.cell 7
  have h7 := HY.out.cell 7
  by_cases hpp : a.path = b.path
  case neg =>
   have s0 : decide (a.path = b.path) = false := decide_eq_false hpp
   have HR : Hid (pairT a b = none) := Lib.hid (by rw [HT.out, if_neg (fun h => hpp h.2)])
   clear hpp
   go_wp2_with fail
   go_step3
   (try simp only [Exit.then])
   (try simp only [Exit.inBlock])
   (try simp only [Exit.then])
   refine fwd_goto ?_
   go_wp2_with fail
   rw [Exit.noGoto_ret]
   go_ret2
   rw [HPR.out, HR.out]
   exact ⟨HE.out, rfl⟩
  have s0 : decide (a.path = b.path) = true := decide_eq_true hpp
  have HT2 := Lib.hid (HT.out.trans (if_pos ⟨hkk, hpp⟩))
  clear hkk hpp t0
  by_cases k5 : a.kind = 5
  ·have t5 : (a.kind == 5) = true := beq_iff_eq.2 k5
   have HR : Hid (pairT a b = some [bareD b]) := Lib.hid (by rw [HT2.out, HPS.out, if_pos k5])
   clear k5 hk1 g7 h7
   have h0 := HY.out.cell 0
   have h1 := HY.out.cell 1
   have h2 := HY.out.cell 2
   have h3 := HY.out.cell 3
   have h4 := HY.out.cell 4
   have h5 := HY.out.cell 5
   have h6 := HY.out.cell 6
   have h7 := HY.out.cell 7
   have h8 := HY.out.cell 8
   have h9 := HY.out.cell 9
   have h10 := HY.out.cell 10
   have hok := bareD_ok (OpD.rd_ok HV.out)
   have q := bare35_any (b) _ d0s (OpD.rd_ext HE.out HV.out) HLB.out.1 HLB.out.2.1 HLB.out.2.2
   go_wp2_with fail
   refine q.mono ?_
   clear q h0 h1 h2 h3 h4 h5 h6 h7 h8 h9 h10
   rintro e w20 ⟨hE, u9, rfl, hO⟩
   have hO := hO.low HE.out.size
   have HE' := Lib.hid (HE.out.trans hE)
   clear hE
   clear HE
   have HE := HE'
   clear HE'
   obtain ⟨eA, ec, fA, fc, sA, sc, rfl, k1, k2, k3⟩ := hO
   obtain ⟨B, hB⟩ : ∃ B, (bareD (b)) = B := ⟨_, rfl⟩
   rw [hB] at k1 k2 k3 HR ⊢
   have hok' := hok
   rw [hB] at hok'
   clear hB hok
   obtain ⟨wl, hwl⟩ : ∃ W, w20.alloc (.cells #[.int .u8 B.kind, .slice eA B.path.length ec, .int .i64 B.at_, .slice fA B.to.length fc, .int .u64 B.id, .bool B.leaf, .string B.label, .string B.key, .string B.value, .bool B.gone, .slice sA B.pcs.length sc] 26) = W := ⟨_, rfl⟩
   obtain ⟨N, hN⟩ : ∃ g, w20.heap.size = g := ⟨_, rfl⟩
   have X9 : Ext w20 wl := by rw [← hwl]; exact (Ext.refl _).alloc _
   have bN : NBox wl N 26 #[.int .u8 B.kind, .slice eA B.path.length ec, .int .i64 B.at_, .slice fA B.to.length fc, .int .u64 B.id, .bool B.leaf, .string B.label, .string B.key, .string B.value, .bool B.gone, .slice sA B.pcs.length sc] := by rw [← hwl, ← hN]; exact NBox.new _ _ _
   have HEL := Lib.hid (HE.out.trans X9)
   have hlo : w.heap.size ≤ N := by rw [← hN]; exact HE.out.size
   have HLL := Lib.hid (show lsO w.heap.size [B] (.slice (some ⟨N, 0, none⟩) 1 1) wl from .inr ⟨B, N, _, _, _, _, _, _, rfl, rfl, hlo, hok', bN, OpO.ext ⟨_, _, _, _, _, _, rfl, k1, k2, k3⟩ X9⟩)
   have HWL := Lib.hid hwl
   have HNL := Lib.hid hN
   clear hwl hN X9 bN hlo k1 k2 k3 hok'
   go_wp2_with fail
   rw [HWL.out, HNL.out]
   rw [fwd_ret]
   go_ret2
   rw [HPR.out, HR.out]
   exact ⟨HEL.out, _, rfl, HLL.out⟩
  have t5 : (a.kind == 5) = false := beq_eq_false_iff_ne.2 k5
  by_cases k4 : a.kind = 4
  ·have t4 : (a.kind == 4) = true := beq_iff_eq.2 k4
   have t6 : (a.kind == 6) = false := by rw [k4]; rfl
   by_cases hk : a.key = b.key
   case neg =>
    have s1 : (a.key.toList == b.key.toList) = false := beq_str_no hk
    have s2 : (a.key.toList != b.key.toList) = true := by rw [bne, s1]; rfl
    have HR : Hid (pairT a b = none) := Lib.hid (by rw [HT2.out, HPS.out, if_neg k5, if_pos k4, if_neg hk])
    clear hk k4 k5 hk1
    go_wp2_with fail
    go_step3
    (try simp only [Exit.then])
    (try simp only [Exit.inBlock])
    (try simp only [Exit.then])
    refine fwd_goto ?_
    go_wp2_with fail
    rw [Exit.noGoto_ret]
    go_ret2
    rw [HPR.out, HR.out]
    exact ⟨HE.out, rfl⟩
   have s1 : (a.key.toList == b.key.toList) = true := beq_str_yes hk
   have s2 : (a.key.toList != b.key.toList) = false := by rw [bne, s1]; rfl
   have HR : Hid (pairT a b = some [bareD b]) := Lib.hid (by rw [HT2.out, HPS.out, if_neg k5, if_pos k4, if_pos hk])
   clear hk k4 k5 hk1
   have h0 := HY.out.cell 0
   have h1 := HY.out.cell 1
   have h2 := HY.out.cell 2
   have h3 := HY.out.cell 3
   have h4 := HY.out.cell 4
   have h5 := HY.out.cell 5
   have h6 := HY.out.cell 6
   have h7 := HY.out.cell 7
   have h8 := HY.out.cell 8
   have h9 := HY.out.cell 9
   have h10 := HY.out.cell 10
   have hok := bareD_ok (OpD.rd_ok HV.out)
   have q := bare35_any (b) _ d0s (OpD.rd_ext HE.out HV.out) HLB.out.1 HLB.out.2.1 HLB.out.2.2
   go_wp2_with fail
   refine q.mono ?_
   clear q h0 h1 h2 h3 h4 h5 h6 h7 h8 h9 h10
   rintro e w20 ⟨hE, u9, rfl, hO⟩
   have hO := hO.low HE.out.size
   have HE' := Lib.hid (HE.out.trans hE)
   clear hE
   clear HE
   have HE := HE'
   clear HE'
   obtain ⟨eA, ec, fA, fc, sA, sc, rfl, k1, k2, k3⟩ := hO
   obtain ⟨B, hB⟩ : ∃ B, (bareD (b)) = B := ⟨_, rfl⟩
   rw [hB] at k1 k2 k3 HR ⊢
   have hok' := hok
   rw [hB] at hok'
   clear hB hok
   obtain ⟨wl, hwl⟩ : ∃ W, w20.alloc (.cells #[.int .u8 B.kind, .slice eA B.path.length ec, .int .i64 B.at_, .slice fA B.to.length fc, .int .u64 B.id, .bool B.leaf, .string B.label, .string B.key, .string B.value, .bool B.gone, .slice sA B.pcs.length sc] 26) = W := ⟨_, rfl⟩
   obtain ⟨N, hN⟩ : ∃ g, w20.heap.size = g := ⟨_, rfl⟩
   have X9 : Ext w20 wl := by rw [← hwl]; exact (Ext.refl _).alloc _
   have bN : NBox wl N 26 #[.int .u8 B.kind, .slice eA B.path.length ec, .int .i64 B.at_, .slice fA B.to.length fc, .int .u64 B.id, .bool B.leaf, .string B.label, .string B.key, .string B.value, .bool B.gone, .slice sA B.pcs.length sc] := by rw [← hwl, ← hN]; exact NBox.new _ _ _
   have HEL := Lib.hid (HE.out.trans X9)
   have hlo : w.heap.size ≤ N := by rw [← hN]; exact HE.out.size
   have HLL := Lib.hid (show lsO w.heap.size [B] (.slice (some ⟨N, 0, none⟩) 1 1) wl from .inr ⟨B, N, _, _, _, _, _, _, rfl, rfl, hlo, hok', bN, OpO.ext ⟨_, _, _, _, _, _, rfl, k1, k2, k3⟩ X9⟩)
   have HWL := Lib.hid hwl
   have HNL := Lib.hid hN
   clear hwl hN X9 bN hlo k1 k2 k3 hok'
   go_wp2_with fail
   rw [HWL.out, HNL.out]
   rw [fwd_ret]
   go_ret2
   rw [HPR.out, HR.out]
   exact ⟨HEL.out, _, rfl, HLL.out⟩
  have t4 : (a.kind == 4) = false := beq_eq_false_iff_ne.2 k4
  by_cases k6 : a.kind = 6
  case neg =>
   have t6 : (a.kind == 6) = false := beq_eq_false_iff_ne.2 k6
   have HR : Hid (pairT a b = none) := Lib.hid (by rw [HT2.out, HPS.out, if_neg k5, if_neg k4, if_neg k6])
   clear k4 k5 k6 hk1
   go_wp2_with fail
   go_step3
   (try simp only [Exit.then])
   (try simp only [Exit.inBlock])
   (try simp only [Exit.then])
   refine fwd_goto ?_
   go_wp2_with fail
   rw [Exit.noGoto_ret]
   go_ret2
   rw [HPR.out, HR.out]
   exact ⟨HE.out, rfl⟩
  have t6 : (a.kind == 6) = true := beq_iff_eq.2 k6
  have HT3 := Lib.hid (show pairT a b = (if coE a.pcs b.pcs = 0 then (if (coL a.pcs b.pcs).length = 0 then some [] else some [bareD { b with pcs := coL a.pcs b.pcs }]) else none) from by rw [HT2.out, HPS.out, if_neg k5, if_neg k4, if_pos k6])
  clear k4 k5 k6 hk1 HT2 HPS g7 h7
  have g10 := HX.out.cell 10
  have h10 := HY.out.cell 10
  have q := compose_any a.pcs b.pcs _ _ d0s (RdP.ext HE.out HC.out) (RdP.ext HE.out HD.out)
  have HCL := Lib.hid (coL_len a.pcs b.pcs)
  obtain ⟨ce, hce⟩ : ∃ x, coE a.pcs b.pcs = x := ⟨_, rfl⟩
  obtain ⟨cl, hcl⟩ : ∃ x, coL a.pcs b.pcs = x := ⟨_, rfl⟩
  rw [hce, hcl] at q HT3
  rw [hcl] at HCL
  clear hce hcl
  go_wp2_with fail
  refine q.mono ?_
  clear q g0 g10 h10
  rintro e w13 ⟨v', rfl, hcr, hE⟩
  have HE' := Lib.hid (HE.out.trans hE)
  have HX' := Lib.hid (HX.out.ext hE)
  have HY' := Lib.hid (HY.out.ext hE)
  clear hE
  clear HE
  have HE := HE'
  clear HE'
  clear HX
  have HX := HX'
  clear HX'
  clear HY
  have HY := HY'
  clear HY'
  have HCR := Lib.hid hcr
  obtain ⟨lA, lc, rfl, -⟩ := hcr
  by_cases he : ce = 0
  case neg =>
   have u0 : (ce != 0) = true := bne_iff_ne.2 he
   have HR : Hid (pairT a b = none) := Lib.hid (by rw [HT3.out, if_neg he])
   clear he
   go_wp2_with fail
   go_step3
   (try simp only [Exit.then])
   (try simp only [Exit.inBlock])
   (try simp only [Exit.then])
   refine fwd_goto ?_
   go_wp2_with fail
   rw [Exit.noGoto_ret]
   go_ret2
   rw [HPR.out, HR.out]
   exact ⟨HE.out, rfl⟩
  have u0 : (ce != 0) = false := by rw [bne_eq_false_iff_eq]; exact he
  have HT4 := Lib.hid (HT3.out.trans (if_pos he))
  clear he HT3
  by_cases hn : cl.length = 0
  ·have u1 : ((cl.length : Int) == 0) = true := by rw [hn]; rfl
   have u2 : (cl.length == 0) = true := beq_iff_eq.2 hn
   have HR : Hid (pairT a b = some []) := Lib.hid (by rw [HT4.out, if_pos hn])
   clear hn
   go_wp2_with fail
   rw [fwd_ret]
   go_ret2
   rw [HPR.out, HR.out]
   exact ⟨HE.out, _, rfl, .inl ⟨rfl, rfl⟩⟩
  have u1 : ((cl.length : Int) == 0) = false := by rw [beq_eq_false_iff_ne]; omega
  have u2 : (cl.length == 0) = false := beq_eq_false_iff_ne.2 hn
  have HR : Hid (pairT a b = some [bareD { b with pcs := cl }]) := Lib.hid (by rw [HT4.out, if_neg hn])
  clear hn HT4
  have h10 := HY.out.cell 10
  have z10 := HY.out.frozen 10
  obtain ⟨w14, hw⟩ : ∃ W, w13.setCell ⟨Y, 10, none⟩ (.slice lA cl.length lc) = W := ⟨_, rfl⟩
  have F : Fr w13 w14 (fun k => k = Y) := by rw [← hw]; exact Fr.setCell _ _ _ _
  have HW := Lib.hid hw
  have HE' := Lib.hid (Fr.ext HE.out F (fun q hq => by rw [show q = Y from hq]; exact HwY.out))
  have HY' := Lib.hid (show NBox w14 Y 26 #[.int .u8 b.kind, .slice qA b.path.length qc, .int .i64 b.at_, .slice rA b.to.length rc, .int .u64 b.id, .bool b.leaf, .string b.label, .string b.key, .string b.value, .bool b.gone, .slice lA cl.length lc] from by rw [← hw]; exact HY.out.set 10 _)
  have HCR' := Lib.hid (show RdP w14 cl (.slice lA cl.length lc) from HCR.out.keep HY.out F (fun _ h => by cases h) (fun _ h => by cases h))
  clear hw F HX
  clear HE
  have HE := HE'
  clear HE'
  clear HY
  have HY := HY'
  clear HY'
  clear HCR
  have HCR := HCR'
  clear HCR'
  go_upto_region 22 with fail
  rw [HW.out]
  clear HW h10 z10 u0 u1 u2 t4 t5 t6 s0
  have HRB : Hid (OpD.rd w14 { b with pcs := cl } (.agg #[.int .u8 b.kind, .slice qA b.path.length qc, .int .i64 b.at_, .slice rA b.to.length rc, .int .u64 b.id, .bool b.leaf, .string b.label, .string b.key, .string b.value, .bool b.gone, .slice lA cl.length lc])) := Lib.hid (by
   obtain ⟨pv, tv, cv, he, k1, k2, -, k4⟩ := OpD.rd_ext HE.out HV.out
   simp only [Value.agg.injEq, Array.mk.injEq, List.cons.injEq, true_and, and_true] at he
   obtain ⟨rfl, rfl, -⟩ := he
   exact ⟨_, _, _, rfl, k1, k2, HCR.out, k4⟩)
  have h0 := HY.out.cell 0
  have h1 := HY.out.cell 1
  have h2 := HY.out.cell 2
  have h3 := HY.out.cell 3
  have h4 := HY.out.cell 4
  have h5 := HY.out.cell 5
  have h6 := HY.out.cell 6
  have h7 := HY.out.cell 7
  have h8 := HY.out.cell 8
  have h9 := HY.out.cell 9
  have h10 := HY.out.cell 10
  have hok := bareD_ok (OpD.rd_ok HRB.out)
  have q := bare35_any ({ b with pcs := cl }) _ w14 (HRB.out) HLB.out.1 HLB.out.2.1 HCL.out
  go_wp2_with fail
  refine q.mono ?_
  clear q h0 h1 h2 h3 h4 h5 h6 h7 h8 h9 h10
  rintro e w20 ⟨hE, u9, rfl, hO⟩
  have hO := hO.low HE.out.size
  have HE' := Lib.hid (HE.out.trans hE)
  clear hE
  clear HE
  have HE := HE'
  clear HE'
  obtain ⟨eA, ec, fA, fc, sA, sc, rfl, k1, k2, k3⟩ := hO
  obtain ⟨B, hB⟩ : ∃ B, (bareD ({ b with pcs := cl })) = B := ⟨_, rfl⟩
  rw [hB] at k1 k2 k3 HR ⊢
  have hok' := hok
  rw [hB] at hok'
  clear hB hok
  obtain ⟨wl, hwl⟩ : ∃ W, w20.alloc (.cells #[.int .u8 B.kind, .slice eA B.path.length ec, .int .i64 B.at_, .slice fA B.to.length fc, .int .u64 B.id, .bool B.leaf, .string B.label, .string B.key, .string B.value, .bool B.gone, .slice sA B.pcs.length sc] 26) = W := ⟨_, rfl⟩
  obtain ⟨N, hN⟩ : ∃ g, w20.heap.size = g := ⟨_, rfl⟩
  have X9 : Ext w20 wl := by rw [← hwl]; exact (Ext.refl _).alloc _
  have bN : NBox wl N 26 #[.int .u8 B.kind, .slice eA B.path.length ec, .int .i64 B.at_, .slice fA B.to.length fc, .int .u64 B.id, .bool B.leaf, .string B.label, .string B.key, .string B.value, .bool B.gone, .slice sA B.pcs.length sc] := by rw [← hwl, ← hN]; exact NBox.new _ _ _
  have HEL := Lib.hid (HE.out.trans X9)
  have hlo : w.heap.size ≤ N := by rw [← hN]; exact HE.out.size
  have HLL := Lib.hid (show lsO w.heap.size [B] (.slice (some ⟨N, 0, none⟩) 1 1) wl from .inr ⟨B, N, _, _, _, _, _, _, rfl, rfl, hlo, hok', bN, OpO.ext ⟨_, _, _, _, _, _, rfl, k1, k2, k3⟩ X9⟩)
  have HWL := Lib.hid hwl
  have HNL := Lib.hid hN
  clear hwl hN X9 bN hlo k1 k2 k3 hok'
  go_wp2_with fail
  rw [HWL.out, HNL.out]
  rw [fwd_ret]
  go_ret2
  rw [HPR.out, HR.out]
  exact ⟨HEL.out, _, rfl, HLL.out⟩
 have t1 : (a.kind == 1) = true := beq_iff_eq.2 hk1
 rw [t1]
 refine wpAnyH_take (i := 4) (oi := ⟨_, _, _, _, _, _⟩) (v := ?_) rfl (by kernel_rfl) (by kernel_rfl) (by kernel_rfl) (fun _ _ _ h => h) (Or.inl ⟨by rfl, ?_⟩) hHeld ?_
 rotate_left
 ·intro w hSw
  try dsimp only at hSw
  go_simp
  all_goals (first | with_reducible rfl | rw [if_pos (by omega)])
 try simp only [Act.put, aS]
 refine wpAnyH_take (i := 5) (oi := ⟨_, _, _, _, _, _⟩) (v := ?_) rfl (by kernel_rfl) (by kernel_rfl) (by kernel_rfl) (fun _ _ _ h => h) (Or.inl ⟨by rfl, ?_⟩) hHeld ?_
 rotate_left
 ·intro w hSw
  obtain ⟨hb, hz⟩ : NBox w X 26 _ ∧ NBox w Y 26 _ := hSw
  have g0 := hb.cell 0
  have h0 := hz.cell 0
  have g1 := hb.cell 1
  have h1 := hz.cell 1
  have g2 := hb.cell 2
  have h2 := hz.cell 2
  have g3 := hb.cell 3
  have h3 := hz.cell 3
  have g4 := hb.cell 4
  have h4 := hz.cell 4
  have g5 := hb.cell 5
  have h5 := hz.cell 5
  have g6 := hb.cell 6
  have h6 := hz.cell 6
  have g7 := hb.cell 7
  have h7 := hz.cell 7
  have g8 := hb.cell 8
  have h8 := hz.cell 8
  have g9 := hb.cell 9
  have h9 := hz.cell 9
  have g10 := hb.cell 10
  have h10 := hz.cell 10
  clear hb hz
  go_simp
  all_goals (first | with_reducible rfl | rw [if_pos (by omega)])
 try simp only [Act.put, aS]
 refine wpAnyH_take (i := 6) (oi := ⟨_, _, _, _, _, _⟩) (v := ?_) rfl (by kernel_rfl) (by kernel_rfl) (by kernel_rfl) (fun _ _ _ h => h) (Or.inl ⟨by rfl, ?_⟩) hHeld ?_
 rotate_left
 ·intro w hSw
  try dsimp only at hSw
  go_simp
  all_goals (first | with_reducible rfl | rw [if_pos (by omega)])
 try simp only [Act.put, aS]
 refine wpAnyH_take (i := 7) (oi := ⟨_, _, _, _, _, _⟩) (v := ?_) rfl (by kernel_rfl) (by kernel_rfl) (by kernel_rfl) (fun _ _ _ h => h) (Or.inl ⟨by rfl, ?_⟩) hHeld ?_
 rotate_left
 ·intro w hSw
  obtain ⟨hb, hz⟩ : NBox w X 26 _ ∧ NBox w Y 26 _ := hSw
  have g0 := hb.cell 0
  have h0 := hz.cell 0
  have g1 := hb.cell 1
  have h1 := hz.cell 1
  have g2 := hb.cell 2
  have h2 := hz.cell 2
  have g3 := hb.cell 3
  have h3 := hz.cell 3
  have g4 := hb.cell 4
  have h4 := hz.cell 4
  have g5 := hb.cell 5
  have h5 := hz.cell 5
  have g6 := hb.cell 6
  have h6 := hz.cell 6
  have g7 := hb.cell 7
  have h7 := hz.cell 7
  have g8 := hb.cell 8
  have h8 := hz.cell 8
  have g9 := hb.cell 9
  have h9 := hz.cell 9
  have g10 := hb.cell 10
  have h10 := hz.cell 10
  clear hb hz
  go_simp
  all_goals (first | with_reducible rfl | rw [if_pos (by omega)])
 try simp only [Act.put, aS]
 refine wpAnyH_take (i := 9) (oi := ⟨_, _, _, _, _, _⟩) (v := ?_) rfl (by kernel_rfl) (by kernel_rfl) (by kernel_rfl) (fun _ _ _ h => h) (Or.inl ⟨by rfl, ?_⟩) hHeld ?_
 rotate_left
 ·intro w hSw
  try dsimp only at hSw
  go_simp
  all_goals (first | with_reducible rfl | rw [if_pos (by omega)])
 try simp only [Act.put, aS]
 refine wpAnyH_take (i := 10) (oi := ⟨_, _, _, _, _, _⟩) (v := ?_) rfl (by kernel_rfl) (by kernel_rfl) (by kernel_rfl) (fun _ _ _ h => h) (Or.inl ⟨by rfl, ?_⟩) hHeld ?_
 rotate_left
 ·intro w hSw
  obtain ⟨hb, hz⟩ : NBox w X 26 _ ∧ NBox w Y 26 _ := hSw
  have g0 := hb.cell 0
  have h0 := hz.cell 0
  have g1 := hb.cell 1
  have h1 := hz.cell 1
  have g2 := hb.cell 2
  have h2 := hz.cell 2
  have g3 := hb.cell 3
  have h3 := hz.cell 3
  have g4 := hb.cell 4
  have h4 := hz.cell 4
  have g5 := hb.cell 5
  have h5 := hz.cell 5
  have g6 := hb.cell 6
  have h6 := hz.cell 6
  have g7 := hb.cell 7
  have h7 := hz.cell 7
  have g8 := hb.cell 8
  have h8 := hz.cell 8
  have g9 := hb.cell 9
  have h9 := hz.cell 9
  have g10 := hb.cell 10
  have h10 := hz.cell 10
  clear hb hz
  go_simp
  all_goals (first | with_reducible rfl | rw [if_pos (by omega)])
 try simp only [Act.put, aS]
 refine wpAnyH_ready (rs := [8]) (by kernel_rfl) (by simp) ?_
 refine AllReadyH.cons (o := ⟨_, _, _, _, _, _⟩) rfl (fun K' hK => ?_) (AllReadyH.nil)
 have q := pchild_any a.path a.at_ _ d0 (RdS.ext HE.out HP.out) (by omega)
 go_simp
 go_at_call 34
 refine q.mono ?_
 clear q
 rintro e d1 ⟨r, rfl, hO, hE⟩
 have HO := Lib.hid hO
 obtain ⟨nA, nc, rfl, -⟩ := RdS.of_owns hO
 obtain ⟨cp, hcp⟩ : ∃ x, a.path ++ [a.at_] = x := ⟨_, rfl⟩
 rw [hcp] at HO
 rw [hcp]
 have HE' := Lib.hid (HE.out.trans hE)
 have HX' := Lib.hid (HX.out.ext hE)
 have HY' := Lib.hid (HY.out.ext hE)
 refine hK.out _ _ (show _ ∧ _ from ⟨hHeld.1.ext hE, hHeld.2.ext hE⟩) (fun hHeld => ?_)
 clear hK K' hO hE
 try simp only [Act.put, aS]
 clear HE
 have HE := HE'
 clear HE'
 clear HX
 have HX := HX'
 clear HX'
 clear HY
 have HY := HY'
 clear HY'
 refine wpAnyH_ready (rs := [11]) (by kernel_rfl) (by simp) ?_
 refine AllReadyH.cons (o := ⟨_, _, _, _, _, _⟩) rfl (fun K' hK => ?_) (AllReadyH.nil)
 have q := pathSame_any cp b.path _ _ d1 (RdS.of_owns HO.out) (RdS.ext HE.out HQ.out)
 obtain ⟨sb_, hsb⟩ : ∃ x, decide (cp = b.path) = x := ⟨_, rfl⟩
 rw [hsb] at q
 go_simp
 go_at_call 29
 refine q.mono ?_
 clear q
 rintro e d2 ⟨r, rfl, rfl, hE⟩
 have HE' := Lib.hid (HE.out.trans hE)
 have HX' := Lib.hid (HX.out.ext hE)
 have HY' := Lib.hid (HY.out.ext hE)
 refine hK.out _ _ (show _ ∧ _ from ⟨hHeld.1.ext hE, hHeld.2.ext hE⟩) (fun hHeld => ?_)
 clear hK K' hE HO
 try simp only [Act.put, aS]
 clear HE
 have HE := HE'
 clear HE'
 clear HX
 have HX := HX'
 clear HX'
 clear HY
 have HY := HY'
 clear HY'
 refine wpAnyH_take (i := 12) (oi := ⟨_, _, _, _, _, _⟩) (v := ?_) rfl (by kernel_rfl) (by kernel_rfl) (by kernel_rfl) (fun _ _ _ h => h) (Or.inl ⟨by rfl, ?_⟩) hHeld ?_
 rotate_left
 ·intro w hSw
  try dsimp only at hSw
  go_simp
  all_goals (first | with_reducible rfl | rw [if_pos (by omega)])
 try simp only [Act.put, aS]
 refine wpAnyH_done (by kernel_rfl) ?_ _
 clear hHeld
 clear t1
 cases sb_ with
 | false =>
  have hni : ¬ insHit a b := fun h => of_decide_eq_false hsb (hcp ▸ h.2)
  have HT := Lib.hid (show pairT a b = if a.kind = b.kind ∧ a.path = b.path then pairS a b else none from by rw [HPT.out, if_neg (fun h => hni h.1), if_neg (fun h => hni h.1)])
  clear hni hsb hcp
  have g0 := HX.out.cell 0
  have h0 := HY.out.cell 0
  have g1 := HX.out.cell 1
  have h1 := HY.out.cell 1
  by_cases hkk : a.kind = b.kind
  case neg =>
   have t0 : (a.kind != b.kind) = true := bne_iff_ne.2 hkk
   have HR : Hid (pairT a b = none) := Lib.hid (by rw [HT.out, if_neg (fun h => hkk h.1)])
   go_wp2_with fail
   go_step3
   (try simp only [Exit.then])
   (try simp only [Exit.inBlock])
   (try simp only [Exit.then])
   refine fwd_goto ?_
   go_wp2_with fail
   rw [Exit.noGoto_ret]
   go_ret2
   rw [HPR.out, HR.out]
   exact ⟨HE.out, rfl⟩
  have t0 : (a.kind != b.kind) = false := by rw [bne_eq_false_iff_eq]; exact hkk
  have q := pathSame_any a.path b.path _ _ d2 (RdS.ext HE.out HP.out) (RdS.ext HE.out HQ.out)
  go_wp2_with fail
  refine q.mono ?_
  clear q g0 h0 g1 h1
  rintro e d2s ⟨r, rfl, rfl, hE⟩
  have HE' := Lib.hid (HE.out.trans hE)
  have HX' := Lib.hid (HX.out.ext hE)
  have HY' := Lib.hid (HY.out.ext hE)
  clear hE
  clear HE
  have HE := HE'
  clear HE'
  clear HX
  have HX := HX'
  clear HX'
  clear HY
  have HY := HY'
  clear HY'
  have g0 := HX.out.cell 0
  have g7 := HX.out.cell 7
  have h7 := HY.out.cell 7
  by_cases hpp : a.path = b.path
  case neg =>
   have s0 : decide (a.path = b.path) = false := decide_eq_false hpp
   have HR : Hid (pairT a b = none) := Lib.hid (by rw [HT.out, if_neg (fun h => hpp h.2)])
   clear hpp
   go_wp2_with fail
   go_step3
   (try simp only [Exit.then])
   (try simp only [Exit.inBlock])
   (try simp only [Exit.then])
   refine fwd_goto ?_
   go_wp2_with fail
   rw [Exit.noGoto_ret]
   go_ret2
   rw [HPR.out, HR.out]
   exact ⟨HE.out, rfl⟩
  have s0 : decide (a.path = b.path) = true := decide_eq_true hpp
  have HT2 := Lib.hid (HT.out.trans (if_pos ⟨hkk, hpp⟩))
  clear hkk hpp t0
  have HR : Hid (pairT a b = none) := Lib.hid (by rw [HT2.out, HPS.out, hk1]; rfl)
  have t5 : (a.kind == 5) = false := by rw [hk1]; rfl
  have t4 : (a.kind == 4) = false := by rw [hk1]; rfl
  have t6 : (a.kind == 6) = false := by rw [hk1]; rfl
  clear hk1
  go_wp2_with fail
  go_step3
  (try simp only [Exit.then])
  (try simp only [Exit.inBlock])
  (try simp only [Exit.then])
  refine fwd_goto ?_
  go_wp2_with fail
  rw [Exit.noGoto_ret]
  go_ret2
  rw [HPR.out, HR.out]
  exact ⟨HE.out, rfl⟩
 | true =>
  have hni : insHit a b := ⟨hk1, hcp.trans (of_decide_eq_true hsb)⟩
  clear hsb hcp
  have h0 := HY.out.cell 0
  by_cases b2 : b.kind = 2
  ·have v2 : (b.kind == 2) = true := beq_iff_eq.2 b2
   have HR : Hid (pairT a b = some []) := Lib.hid (by rw [HPT.out, if_pos ⟨hni, b2⟩])
   clear b2 hni hk1
   go_wp2_with fail
   rw [fwd_ret]
   go_ret2
   rw [HPR.out, HR.out]
   exact ⟨HE.out, _, rfl, .inl ⟨rfl, rfl⟩⟩
  have v2 : (b.kind == 2) = false := beq_eq_false_iff_ne.2 b2
  by_cases b5 : b.kind = 5
  case neg =>
   have v5 : (b.kind == 5) = false := beq_eq_false_iff_ne.2 b5
   have HT := Lib.hid (show pairT a b = if a.kind = b.kind ∧ a.path = b.path then pairS a b else none from by rw [HPT.out, if_neg (fun h => b2 h.2), if_neg (fun h => b5 h.2)])
   clear hni b2 b5
   have g0 := HX.out.cell 0
   have h0 := HY.out.cell 0
   have g1 := HX.out.cell 1
   have h1 := HY.out.cell 1
   by_cases hkk : a.kind = b.kind
   case neg =>
    have t0 : (a.kind != b.kind) = true := bne_iff_ne.2 hkk
    have HR : Hid (pairT a b = none) := Lib.hid (by rw [HT.out, if_neg (fun h => hkk h.1)])
    go_wp2_with fail
    go_step3
    (try simp only [Exit.then])
    (try simp only [Exit.inBlock])
    (try simp only [Exit.then])
    refine fwd_goto ?_
    go_wp2_with fail
    rw [Exit.noGoto_ret]
    go_ret2
    rw [HPR.out, HR.out]
    exact ⟨HE.out, rfl⟩
   have t0 : (a.kind != b.kind) = false := by rw [bne_eq_false_iff_eq]; exact hkk
   have q := pathSame_any a.path b.path _ _ d2 (RdS.ext HE.out HP.out) (RdS.ext HE.out HQ.out)
   go_wp2_with fail
   refine q.mono ?_
   clear q g0 h0 g1 h1
   rintro e d2s ⟨r, rfl, rfl, hE⟩
   have HE' := Lib.hid (HE.out.trans hE)
   have HX' := Lib.hid (HX.out.ext hE)
   have HY' := Lib.hid (HY.out.ext hE)
   clear hE
   clear HE
   have HE := HE'
   clear HE'
   clear HX
   have HX := HX'
   clear HX'
   clear HY
   have HY := HY'
   clear HY'
   have g0 := HX.out.cell 0
   have g7 := HX.out.cell 7
   have h7 := HY.out.cell 7
   by_cases hpp : a.path = b.path
   case neg =>
    have s0 : decide (a.path = b.path) = false := decide_eq_false hpp
    have HR : Hid (pairT a b = none) := Lib.hid (by rw [HT.out, if_neg (fun h => hpp h.2)])
    clear hpp
    go_wp2_with fail
    go_step3
    (try simp only [Exit.then])
    (try simp only [Exit.inBlock])
    (try simp only [Exit.then])
    refine fwd_goto ?_
    go_wp2_with fail
    rw [Exit.noGoto_ret]
    go_ret2
    rw [HPR.out, HR.out]
    exact ⟨HE.out, rfl⟩
   have s0 : decide (a.path = b.path) = true := decide_eq_true hpp
   have HT2 := Lib.hid (HT.out.trans (if_pos ⟨hkk, hpp⟩))
   clear hkk hpp t0
   have HR : Hid (pairT a b = none) := Lib.hid (by rw [HT2.out, HPS.out, hk1]; rfl)
   have t5 : (a.kind == 5) = false := by rw [hk1]; rfl
   have t4 : (a.kind == 4) = false := by rw [hk1]; rfl
   have t6 : (a.kind == 6) = false := by rw [hk1]; rfl
   clear hk1
   go_wp2_with fail
   go_step3
   (try simp only [Exit.then])
   (try simp only [Exit.inBlock])
   (try simp only [Exit.then])
   refine fwd_goto ?_
   go_wp2_with fail
   rw [Exit.noGoto_ret]
   go_ret2
   rw [HPR.out, HR.out]
   exact ⟨HE.out, rfl⟩
  have v5 : (b.kind == 5) = true := beq_iff_eq.2 b5
  have HR : Hid (pairT a b = some [bareD { a with label := b.label }]) := Lib.hid (by rw [HPT.out, if_neg (fun h => b2 h.2), if_pos ⟨hni, b5⟩])
  clear hni b2 b5 hk1
  have h6 := HY.out.cell 6
  have g6 := HX.out.cell 6
  have z6 := HX.out.frozen 6
  obtain ⟨w14, hw⟩ : ∃ W, d2.setCell ⟨X, 6, none⟩ (.string b.label) = W := ⟨_, rfl⟩
  have F : Fr d2 w14 (fun k => k = X) := by rw [← hw]; exact Fr.setCell _ _ _ _
  have HW := Lib.hid hw
  have HE' := Lib.hid (Fr.ext HE.out F (fun q hq => by rw [show q = X from hq]; exact HwX.out))
  have HX' := Lib.hid (show NBox w14 X 26 #[.int .u8 a.kind, .slice pA a.path.length pc, .int .i64 a.at_, .slice tA a.to.length tc, .int .u64 a.id, .bool a.leaf, .string b.label, .string a.key, .string a.value, .bool a.gone, .slice cA a.pcs.length cc] from by rw [← hw]; exact HX.out.set 6 _)
  clear hw F HY
  clear HE
  have HE := HE'
  clear HE'
  clear HX
  have HX := HX'
  clear HX'
  go_upto_region 10 with fail
  rw [HW.out]
  clear HW h6 g6 z6 h0 v2 v5
  have HRB : Hid (OpD.rd w14 { a with label := b.label } (.agg #[.int .u8 a.kind, .slice pA a.path.length pc, .int .i64 a.at_, .slice tA a.to.length tc, .int .u64 a.id, .bool a.leaf, .string b.label, .string a.key, .string a.value, .bool a.gone, .slice cA a.pcs.length cc])) := Lib.hid (by
   obtain ⟨pv, tv, cv, he, k1, k2, k3, -, k5⟩ := OpD.rd_ext HE.out HU.out
   simp only [Value.agg.injEq, Array.mk.injEq, List.cons.injEq, true_and, and_true] at he
   obtain ⟨rfl, rfl, rfl⟩ := he
   exact ⟨_, _, _, rfl, k1, k2, k3, (OpD.rd_ok HV.out).label, k5⟩)
  have g0 := HX.out.cell 0
  have g1 := HX.out.cell 1
  have g2 := HX.out.cell 2
  have g3 := HX.out.cell 3
  have g4 := HX.out.cell 4
  have g5 := HX.out.cell 5
  have g6 := HX.out.cell 6
  have g7 := HX.out.cell 7
  have g8 := HX.out.cell 8
  have g9 := HX.out.cell 9
  have g10 := HX.out.cell 10
  have hok := bareD_ok (OpD.rd_ok HRB.out)
  have q := bare35_any ({ a with label := b.label }) _ w14 (HRB.out) HLA.out.1 HLA.out.2.1 HLA.out.2.2
  go_wp2_with fail
  refine q.mono ?_
  clear q g0 g1 g2 g3 g4 g5 g6 g7 g8 g9 g10
  rintro e w20 ⟨hE, u9, rfl, hO⟩
  have hO := hO.low HE.out.size
  have HE' := Lib.hid (HE.out.trans hE)
  clear hE
  clear HE
  have HE := HE'
  clear HE'
  obtain ⟨eA, ec, fA, fc, sA, sc, rfl, k1, k2, k3⟩ := hO
  obtain ⟨B, hB⟩ : ∃ B, (bareD ({ a with label := b.label })) = B := ⟨_, rfl⟩
  rw [hB] at k1 k2 k3 HR ⊢
  have hok' := hok
  rw [hB] at hok'
  clear hB hok
  obtain ⟨wl, hwl⟩ : ∃ W, w20.alloc (.cells #[.int .u8 B.kind, .slice eA B.path.length ec, .int .i64 B.at_, .slice fA B.to.length fc, .int .u64 B.id, .bool B.leaf, .string B.label, .string B.key, .string B.value, .bool B.gone, .slice sA B.pcs.length sc] 26) = W := ⟨_, rfl⟩
  obtain ⟨N, hN⟩ : ∃ g, w20.heap.size = g := ⟨_, rfl⟩
  have X9 : Ext w20 wl := by rw [← hwl]; exact (Ext.refl _).alloc _
  have bN : NBox wl N 26 #[.int .u8 B.kind, .slice eA B.path.length ec, .int .i64 B.at_, .slice fA B.to.length fc, .int .u64 B.id, .bool B.leaf, .string B.label, .string B.key, .string B.value, .bool B.gone, .slice sA B.pcs.length sc] := by rw [← hwl, ← hN]; exact NBox.new _ _ _
  have HEL := Lib.hid (HE.out.trans X9)
  have hlo : w.heap.size ≤ N := by rw [← hN]; exact HE.out.size
  have HLL := Lib.hid (show lsO w.heap.size [B] (.slice (some ⟨N, 0, none⟩) 1 1) wl from .inr ⟨B, N, _, _, _, _, _, _, rfl, rfl, hlo, hok', bN, OpO.ext ⟨_, _, _, _, _, _, rfl, k1, k2, k3⟩ X9⟩)
  have HWL := Lib.hid hwl
  have HNL := Lib.hid hN
  clear hwl hN X9 bN hlo k1 k2 k3 hok'
  go_wp2_with fail
  rw [HWL.out, HNL.out]
  rw [fwd_ret]
  go_ret2
  rw [HPR.out, HR.out]
  exact ⟨HEL.out, _, rfl, HLL.out⟩
theorem pair13_any (a b : OpD) (u v : Value) (w : World) (hu : a.rd w u) (hv : b.rd w v) (la : OkLen a) (lb : OkLen b) : Calls Try.prog 13 #[u, v] w (PrR w (pairD a b)) := (pair13_own a b u v w hu hv la lb).mono fun _ _ h => h.pr
end Go.Proofs.Ytkimbpeapolcbaa.Sy
