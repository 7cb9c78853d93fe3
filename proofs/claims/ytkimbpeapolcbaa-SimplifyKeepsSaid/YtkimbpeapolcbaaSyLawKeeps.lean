/- Chapter 10: the law SimplifyKeeps (6). (Printed by gsylawk.py.) -/
import Derived.Test.YtkimbpeapolcbaaSyOuBareP
import Derived.Test.YtkimbpeapolcbaaSyWorks
import Derived.Test.YtkimbpeapolcbaaSyNdWeighWalk
namespace Go.Proofs.Ytkimbpeapolcbaa.Sy
open Go.RowKit Go.Proofs.Ytkimbpeapolcbaa.Bw Go.Proofs.Ytkimbpeapolcbaa.Bs

set_option maxRecDepth 100000 in
set_option maxHeartbeats 8000000 in
theorem lawKeeps (t : Nd) (l : List OpD) (v lv : Value) (w : World) (ht : t.rd w v) (hl : RdL w l lv) : Calls Try.prog 6 #[v, lv] w (Ret w fun r _ => r = .bool true) := by
 obtain ⟨uA, uc, uK, ud, rfl⟩ := rd_open6 ht
 obtain ⟨LA, Lc, rfl, l1, l2, -⟩ := id hl
 obtain ⟨w1, hw1⟩ : ∃ W, w.alloc (.cells #[.int .u64 t.id, .bool t.leaf, .string t.label, .slice uA t.attrs.length uc, .string t.text, .slice uK t.kids.length ud] 42) = W := ⟨_, rfl⟩
 obtain ⟨B, hB⟩ : ∃ B, w.heap.size = B := ⟨_, rfl⟩
 have E1 : Ext w w1 := by rw [← hw1]; exact (Ext.refl w).alloc _
 have HB0 := Lib.hid (show NBox w1 B 42 #[.int .u64 t.id, .bool t.leaf, .string t.label, .slice uA t.attrs.length uc, .string t.text, .slice uK t.kids.length ud] from by rw [← hw1, ← hB]; exact NBox.new w 42 _)
 have HE := Lib.hid E1
 have HW1 := Lib.hid hw1
 have HBB := Lib.hid hB
 have HT := Lib.hid ht
 have HL := Lib.hid hl
 have hc := weigh_any t.cnt t _ 200 w1 (Nat.le_refl _) (Nd.rd_ext E1 ht) (by decide) (by decide)
 have HWI := Lib.hid (Nd.weigh_iff t (top := 200) (by decide))
 obtain ⟨WG, hWG⟩ : ∃ x, t.weigh 200 = x := ⟨_, rfl⟩
 rw [hWG] at hc HWI
 have t0 := HB0.out.cell 0
 have t1 := HB0.out.cell 1
 have t2 := HB0.out.cell 2
 have t3 := HB0.out.cell 3
 have t4 := HB0.out.cell 4
 have t5 := HB0.out.cell 5
 clear hw1 hB E1 ht hl hWG
 go_enter Try.func6, Try.ntmps6
 go_upto_region 1 with fail
 rw [HW1.out, HBB.out]
 clear HW1 HBB
 rcases Int.lt_or_le 200 WG with hwg | hwg
 ·have d1 : decide ((200 : Int) < WG) = true := decide_eq_true hwg
  go_wp2_with fail
  refine hc.mono ?_
  clear hc t0 t1 t2 t3 t4 t5
  rintro e w2 ⟨r, rfl, rfl, hE⟩
  have HE2 := Lib.hid (HE.out.trans hE)
  clear hE
  go_wp2_with fail
  refine (works_any w2).mono ?_
  rintro e u ⟨r, rfl, rfl, hE⟩
  go_wp2_with fail
  go_ret
  exact ret_bool (by rfl) (HE2.out.trans hE)
 have d1 : decide ((200 : Int) < WG) = false := decide_eq_false (by omega)
 have HTW := Lib.hid (HWI.out.1 hwg)
 have hq := Lib.hid (fun W (X : Ext w W) => few_any l _ W (HL.out.ext X))
 clear HWI hwg
 go_wp2_with fail
 refine hc.mono ?_
 clear hc t0 t1 t2 t3 t4 t5
 rintro e w2 ⟨r, rfl, rfl, hE⟩
 replace HE := Lib.hid (HE.out.trans hE)
 replace HB0 := Lib.hid (HB0.out.ext hE)
 clear hE
 have hc := hq.out w2 HE.out
 clear hq
 go_wp2_with fail
 refine hc.mono ?_
 clear hc
 rintro e w3 ⟨r, rfl, ⟨b, rfl, hb⟩, hE⟩
 replace HE := Lib.hid (HE.out.trans hE)
 replace HB0 := Lib.hid (HB0.out.ext hE)
 clear hE d1
 cases b with
 | false =>
  clear hb
  go_wp2_with fail
  refine (works_any w3).mono ?_
  rintro e u ⟨r, rfl, rfl, hE⟩
  go_wp2_with fail
  go_ret
  exact ret_bool (by rfl) (HE.out.trans hE)
 | true =>
 obtain ⟨hl30, hlight⟩ := hb rfl
 have HLT := Lib.hid hlight
 obtain ⟨⟨g1, g2⟩, g3, g4⟩ := light_few hl30 hlight
 have HLK := Lib.hid (fun (h : (allD t l).2.2 = 0) => keeps h)
 have hc := all_late t l _ _ w3 w3 (Wo.refl w3) (Nd.rd_ext HE.out HT.out) (HL.out.ext HE.out) g2 (by have := HTW.out; omega)
 have HD4 := Lib.hid (show _ ∧ _ from ⟨g3, g4⟩)
 have HQL : Hid (∀ W, Ext w W → Calls Try.prog 18 #[.slice LA l.length Lc] W (fun e W' => Ext W W' ∧ ∃ u, e = .returned u ∧ lsV W.heap.size (listD l) u W')) := Lib.hid (fun W X => list18_any l _ W (HL.out.ext X) (by omega) (fun o ho => (HLT.out o ho).ok))
 clear hb hlight g1 g2 g3 g4 hl30
 obtain ⟨a, ha⟩ : ∃ a, (allD t l).1 = a := ⟨_, rfl⟩
 obtain ⟨c, hcc⟩ : ∃ a, (allD t l).2.1 = a := ⟨_, rfl⟩
 obtain ⟨E, hEE⟩ : ∃ a, (allD t l).2.2 = a := ⟨_, rfl⟩
 obtain ⟨D, hD⟩ : ∃ D, listD l = D := ⟨_, rfl⟩
 rw [ha, hcc, hEE] at hc
 rw [ha, hEE, hD] at HLK
 rw [hD] at HD4 HQL
 clear ha hcc hEE hD
 have t0 := HB0.out.cell 0
 have t1 := HB0.out.cell 1
 have t2 := HB0.out.cell 2
 have t3 := HB0.out.cell 3
 have t4 := HB0.out.cell 4
 have t5 := HB0.out.cell 5
 go_wp2_with fail
 refine hc.mono ?_
 clear hc t0 t1 t2 t3 t4 t5
 rintro e w4 ⟨r, rfl, ⟨q, rfl, hLL⟩, hE⟩
 have HA := Lib.hid (hLL.now hE.sub)
 obtain ⟨aA, ac, aK, ad, rfl⟩ := rd_open6 HA.out
 replace HE := Lib.hid (HE.out.trans hE)
 replace HB0 := Lib.hid (HB0.out.ext hE)
 clear hE hLL
 obtain ⟨w5a, hwa⟩ : ∃ q, w4.alloc (.cells #[.int .u64 0, .bool false, .string ⟨#[]⟩, .slice none 0 0, .string ⟨#[]⟩, .slice none 0 0] 42) = q := ⟨_, rfl⟩
 obtain ⟨P, hP⟩ : ∃ q, w4.heap.size = q := ⟨_, rfl⟩
 have XA : Ext w4 w5a := by rw [← hwa]; exact (Ext.refl _).alloc _
 have bM : NBox w5a P 42 #[.int .u64 0, .bool false, .string ⟨#[]⟩, .slice none 0 0, .string ⟨#[]⟩, .slice none 0 0] := by rw [← hwa, ← hP]; exact NBox.new _ _ _
 have F8 := Fr.six w5a P (.int .u64 a.id) (.bool a.leaf) (.string a.label) (.slice aA a.attrs.length ac) (.string a.text) (.slice aK a.kids.length ad)
 have bM2 := bM.six (.int .u64 a.id) (.bool a.leaf) (.string a.label) (.slice aA a.attrs.length ac) (.string a.text) (.slice aK a.kids.length ad)
 obtain ⟨w5, hwn⟩ : ∃ q, World.setCell (World.setCell (World.setCell (World.setCell (World.setCell (World.setCell w5a ⟨P, 0, none⟩ (.int .u64 a.id)) ⟨P, 1, none⟩ (.bool a.leaf)) ⟨P, 2, none⟩ (.string a.label)) ⟨P, 3, none⟩ (.slice aA a.attrs.length ac)) ⟨P, 4, none⟩ (.string a.text)) ⟨P, 5, none⟩ (.slice aK a.kids.length ad) = q := ⟨_, rfl⟩
 rw [hwn] at F8 bM2
 have X8 : Ext w4 w5 := Fr.ext XA F8 (fun q hq => by rw [show q = P from hq, hP]; exact Nat.le_refl _)
 have HBP := Lib.hid bM2
 replace HE := Lib.hid (HE.out.trans X8)
 replace HB0 := Lib.hid (HB0.out.ext X8)
 have HA5 := Lib.hid (Nd.rd_ext X8 HA.out)
 have HWA := Lib.hid hwa
 have HPP := Lib.hid hP
 have HWN := Lib.hid hwn
 have y0 := bM.cell 0
 have z0 := bM.frozen 0
 have y1 := bM.cell 1
 have z1 := bM.frozen 1
 have y2 := bM.cell 2
 have z2 := bM.frozen 2
 have y3 := bM.cell 3
 have z3 := bM.frozen 3
 have y4 := bM.cell 4
 have z4 := bM.frozen 4
 have y5 := bM.cell 5
 have z5 := bM.frozen 5
 clear hwa hP hwn XA bM F8 bM2 X8 HA
 go_upto_region 4 with (rw [HWA.out, HPP.out]; clear HWA)
 rw [HWN.out]
 clear HWN HPP y0 z0 y1 z1 y2 z2 y3 z3 y4 z4 y5 z5
 by_cases hE0 : E = 0
 rotate_left
 ·have e1 : (E == 0) = false := by rw [beq_eq_false_iff_ne]; exact hE0
  have e2 : (E != 0) = true := by rw [bne, e1]; rfl
  clear hE0
  go_wp2_with fail
  refine (works_any w5).mono ?_
  rintro e u ⟨r, rfl, rfl, hE⟩
  go_wp2_with fail
  go_ret
  exact ret_bool (by rfl) (HE.out.trans hE)
 subst hE0
 have HKP := Lib.hid (HLK.out rfl)
 clear HLK
 go_upto_region 6 with fail
 have HQ : Hid (∀ (dv : Value) (W : World), Wo w5 W → RdL W D dv → Calls Try.prog 21 #[.agg #[.int .u64 t.id, .bool t.leaf, .string t.label, .slice uA t.attrs.length uc, .string t.text, .slice uK t.kids.length ud], dv] W (Ret W fun r w' => ∃ q, r = .tuple #[q, .int .i64 ((allD t D).2.1 : Nat), .int .i64 (allD t D).2.2] ∧ LateN w5 W w' (allD t D).1 q)) := Lib.hid (fun dv W X hd => all_late t D _ dv w5 W X (Nd.rd_ext HE.out HT.out) hd HD4.out.2 (by have := HTW.out; have := HD4.out.1; omega))
 have HKD := Lib.hid HKP.out
 rw [HKP.out] at HQ
 dsimp only at HQ
 have HG := Lib.hid (GW.refl (Wo.refl w5))
 go_cut [8, 9, 10] from 11 to 48 (fun s8 s9 s10 wx => ∃ (Q : Nat) (bA : Option Addr) (bc : Nat) (bK : Option Addr) (bd : Nat), s8 = .pointer (some ⟨Q, 0, none⟩) ∧ s9 = .int .i64 ((D.length : Nat) : Int) ∧ s10 = .int .i64 0 ∧ Hid (Ext w wx) ∧ Hid (NBox wx P 42 #[.int .u64 a.id, .bool a.leaf, .string a.label, .slice aA a.attrs.length ac, .string a.text, .slice aK a.kids.length ad]) ∧ Hid (NBox wx Q 42 #[.int .u64 a.id, .bool a.leaf, .string a.label, .slice bA a.attrs.length bc, .string a.text, .slice bK a.kids.length bd]) ∧ Hid (a.rd wx (.agg #[.int .u64 a.id, .bool a.leaf, .string a.label, .slice aA a.attrs.length ac, .string a.text, .slice aK a.kids.length ad])) ∧ Hid (a.rd wx (.agg #[.int .u64 a.id, .bool a.leaf, .string a.label, .slice bA a.attrs.length bc, .string a.text, .slice bK a.kids.length bd])))
 case first =>
  have HE5 := Lib.hid HE.out
  obtain ⟨wd, hwd⟩ : ∃ d, w5.drew = d := ⟨_, rfl⟩
  have XD : Ext w5 wd := by rw [← hwd]; exact (Ext.refl w5).drew
  replace HE := Lib.hid (HE.out.trans XD)
  replace HB0 := Lib.hid (HB0.out.ext XD)
  replace HBP := Lib.hid (HBP.out.ext XD)
  replace HG := Lib.hid (HG.out.ext XD)
  refine wp_region_held_drew (S := fun W => NBox W B 42 #[.int .u64 t.id, .bool t.leaf, .string t.label, .slice uA t.attrs.length uc, .string t.text, .slice uK t.kids.length ud]) (by kernel_rfl) (by rw [hwd]; exact HB0.out) (fun hHeld => ?_)
  rw [hwd] at hHeld ⊢
  clear hwd XD
  refine wpAnyH_take (i := 0) (oi := ⟨_, _, _, _, _, _⟩) (v := ?_) rfl (by kernel_rfl) (by kernel_rfl) (by kernel_rfl) (fun _ _ _ h => h) (Or.inl ⟨by rfl, ?_⟩) hHeld ?_
  rotate_left
  ·intro w hSw
   have fq : NBox _ _ _ _ := hSw
   have e0 := fq.cell 0
   have e1 := fq.cell 1
   have e2 := fq.cell 2
   have e3 := fq.cell 3
   have e4 := fq.cell 4
   have e5 := fq.cell 5
   go_simp
   all_goals (first | with_reducible rfl | rw [if_pos (by omega)])
  try simp only [Act.put, aS]
  refine wpAnyH_take (i := 1) (oi := ⟨_, _, _, _, _, _⟩) (v := ?_) rfl (by kernel_rfl) (by kernel_rfl) (by kernel_rfl) (fun _ _ _ h => h) (Or.inl ⟨by rfl, ?_⟩) hHeld ?_
  rotate_left
  ·intro w hSw
   try dsimp only at hSw
   go_simp
   all_goals (first | with_reducible rfl | rw [if_pos (by omega)])
  try simp only [Act.put, aS]
  refine wpAnyH_ready (rs := [2, 8]) (by kernel_rfl) (by simp) ?_
  refine AllReadyH.cons (o := ⟨_, _, _, _, _, _⟩) rfl (fun K' hK => ?_) (AllReadyH.cons (o := ⟨_, _, _, _, _, _⟩) rfl (fun K' hK => ?_) (AllReadyH.nil))
  ·have hc := HQL.out wd HE.out
   go_simp
   go_at_call 18
   refine hc.mono ?_
   clear hc
   rintro e v1 ⟨hE, u, rfl, hv⟩
   have HD := Lib.hid (lsV.rd hv)
   obtain ⟨dA, dc, rfl⟩ := lsV.slice hv
   replace HE := Lib.hid (HE.out.trans hE)
   replace HB0 := Lib.hid (HB0.out.ext hE)
   replace HBP := Lib.hid (HBP.out.ext hE)
   replace HG := Lib.hid (HG.out.ext hE)
   refine hK.out _ _ (show NBox _ _ _ _ from NBox.ext hE hHeld) (fun hHeld => ?_)
   clear hK K' hE hv
   try simp only [Act.put, aS]
   refine wpAnyH_ready (rs := [3, 8]) (by kernel_rfl) (by simp) ?_
   refine AllReadyH.cons (o := ⟨_, _, _, _, _, _⟩) rfl (fun K' hK => ?_) (AllReadyH.cons (o := ⟨_, _, _, _, _, _⟩) rfl (fun K' hK => ?_) (AllReadyH.nil))
   ·have hc := HQ.out _ v1 HG.out.now HD.out
    go_simp
    go_at_call 21
    refine hc.mono ?_
    clear hc
    rintro e v2 ⟨r, rfl, ⟨q, rfl, hLL⟩, hE⟩
    have HAB := Lib.hid (HG.out.got hE hLL)
    obtain ⟨bA, bc, bK, bd, rfl⟩ := rd_open6 HAB.out
    replace HA5 := Lib.hid (HG.out.rd_glue hE HA5.out)
    replace HG := Lib.hid (HG.out.glue hE)
    replace HE := Lib.hid (HE.out.trans hE)
    replace HB0 := Lib.hid (HB0.out.ext hE)
    replace HBP := Lib.hid (HBP.out.ext hE)
    refine hK.out _ _ (show NBox _ _ _ _ from NBox.ext hE hHeld) (fun hHeld => ?_)
    clear hK K' hE hLL HD
    try simp only [Act.put, aS]
    refine wpAnyH_take (i := 4) (oi := ⟨_, _, _, _, _, _⟩) (v := ?_) rfl (by kernel_rfl) (by kernel_rfl) (by kernel_rfl) (fun _ _ _ h => h) (Or.inl ⟨by rfl, ?_⟩) hHeld ?_
    rotate_left
    ·intro w hSw
     try dsimp only at hSw
     go_simp
     all_goals (first | with_reducible rfl | rw [if_pos (by omega)])
    try simp only [Act.put, aS]
    refine wpAnyH_take (i := 5) (oi := ⟨_, _, _, _, _, _⟩) (v := ?_) rfl (by kernel_rfl) (by kernel_rfl) (by kernel_rfl) (fun _ _ _ h => h) (Or.inl ⟨by rfl, ?_⟩) hHeld ?_
    rotate_left
    ·intro w hSw
     try dsimp only at hSw
     go_simp
     all_goals (first | with_reducible rfl | rw [if_pos (by omega)])
    try simp only [Act.put, aS]
    refine wpAnyH_take (i := 6) (oi := ⟨_, _, _, _, _, _⟩) (v := ?_) rfl (by kernel_rfl) (by kernel_rfl) (by kernel_rfl) (fun _ _ _ h => h) (Or.inl ⟨by rfl, ?_⟩) hHeld ?_
    rotate_left
    ·intro w hSw
     try dsimp only at hSw
     go_simp
     all_goals (first | with_reducible rfl | rw [if_pos (by omega)])
    try simp only [Act.put, aS]
    refine wpAnyH_take (i := 7) (oi := ⟨_, _, _, _, _, _⟩) (v := ?_) rfl (by kernel_rfl) (by kernel_rfl) (by kernel_rfl) (fun _ _ _ h => h) (Or.inl ⟨by rfl, ?_⟩) hHeld ?_
    rotate_left
    ·intro w hSw
     try dsimp only at hSw
     go_simp
     all_goals (first | with_reducible rfl | rw [if_pos (by omega)])
    try simp only [Act.put, aS]
    refine wpAnyH_ready (rs := [8]) (by kernel_rfl) (by simp) ?_
    refine AllReadyH.cons (o := ⟨_, _, _, _, _, _⟩) rfl (fun K' hK => ?_) (AllReadyH.nil)
    go_simp
    obtain ⟨Q, hQ⟩ : ∃ b, v2.heap.size = b := ⟨_, rfl⟩
    have HSQ := Lib.hid (HG.out.fresh Q (by rw [← hQ]; exact Nat.le_refl _))
    have HWQ := Lib.hid (show w5.heap.size ≤ Q from by rw [← hQ]; exact HG.out.low)
    have HPQ := Lib.hid (show P ≠ Q from by rw [← hQ]; exact Nat.ne_of_lt HBP.out.lt)
    have HBQ0 := Lib.hid (show B ≠ Q from by rw [← hQ]; exact Nat.ne_of_lt HB0.out.lt)
    have hE0 : Ext v2 (v2.alloc (.cells #[.int .u64 0, .bool false, .string ⟨#[]⟩, .slice none 0 0, .string ⟨#[]⟩, .slice none 0 0] 42)) := (Ext.refl _).alloc _
    refine hK.out _ _ (show NBox _ _ _ _ from NBox.ext hE0 hHeld) (fun hHeld => ?_)
    clear hK K'
    try simp only [Act.put, aS]
    obtain ⟨v3, hd⟩ : ∃ d, v2.alloc (.cells #[.int .u64 0, .bool false, .string ⟨#[]⟩, .slice none 0 0, .string ⟨#[]⟩, .slice none 0 0] 42) = d := ⟨_, rfl⟩
    have HBQ := Lib.hid (show NBox v3 Q 42 #[.int .u64 0, .bool false, .string ⟨#[]⟩, .slice none 0 0, .string ⟨#[]⟩, .slice none 0 0] from by rw [← hd, ← hQ]; exact NBox.new _ _ _)
    have hE : Ext v2 v3 := by rw [← hd]; exact hE0
    clear hE0
    replace HE := Lib.hid (HE.out.trans hE)
    replace HB0 := Lib.hid (HB0.out.ext hE)
    replace HBP := Lib.hid (HBP.out.ext hE)
    replace HG := Lib.hid (HG.out.ext hE)
    rw [hd] at hHeld ⊢
    rw [hQ]
    clear hd hQ hE
    refine wpAnyH_ready (rs := [9]) (by kernel_rfl) (by simp) ?_
    refine AllReadyH.cons (o := ⟨_, _, _, _, _, _⟩) rfl (fun K' hK => ?_) (AllReadyH.nil)
    have y0 := HBQ.out.cell 0
    have z0 := HBQ.out.frozen 0
    have y1 := HBQ.out.cell 1
    have z1 := HBQ.out.frozen 1
    have y2 := HBQ.out.cell 2
    have z2 := HBQ.out.frozen 2
    have y3 := HBQ.out.cell 3
    have z3 := HBQ.out.frozen 3
    have y4 := HBQ.out.cell 4
    have z4 := HBQ.out.frozen 4
    have y5 := HBQ.out.cell 5
    have z5 := HBQ.out.frozen 5
    go_simp
    have F9 := Fr.six v3 Q (.int .u64 a.id) (.bool a.leaf) (.string a.label) (.slice bA a.attrs.length bc) (.string a.text) (.slice bK a.kids.length bd)
    have HBQ' := Lib.hid (HBQ.out.six (.int .u64 a.id) (.bool a.leaf) (.string a.label) (.slice bA a.attrs.length bc) (.string a.text) (.slice bK a.kids.length bd))
    have hPQ : P ≠ Q := HPQ.out
    have hBQ : B ≠ Q := HBQ0.out
    have hwQ : w5.heap.size ≤ Q := HWQ.out
    have h5 : w.heap.size ≤ w5.heap.size := HE5.out.size
    have HE' := Lib.hid (Fr.ext HE.out F9 (fun q hq => by rw [show q = Q from hq]; omega))
    have HBP' := Lib.hid (HBP.out.fr F9 (show ¬ P = Q from hPQ))
    have HG' := HG.out.fr F9 (fun q hq => by rw [show q = Q from hq]; exact ⟨HSQ.out, hwQ⟩)
    have HA' := Lib.hid (HG'.rd HA5.out)
    have HAB' := Lib.hid (HG'.rd HAB.out)
    refine hK.out _ _ (show NBox _ _ _ _ from NBox.fr F9 hHeld (show ¬ B = Q from hBQ)) (fun hHeld => ?_)
    clear hK K' HG' y0 z0 y1 z1 y2 z2 y3 z3 y4 z4 y5 z5
    try simp only [Act.put, aS]
    refine wpAnyH_take (i := 10) (oi := ⟨_, _, _, _, _, _⟩) (v := ?_) rfl (by kernel_rfl) (by kernel_rfl) (by kernel_rfl) (fun _ _ _ h => h) (Or.inl ⟨by rfl, ?_⟩) hHeld ?_
    rotate_left
    ·intro w hSw
     try dsimp only at hSw
     go_simp
     all_goals (first | with_reducible rfl | rw [if_pos (by omega)])
    try simp only [Act.put, aS]
    refine wpAnyH_take (i := 11) (oi := ⟨_, _, _, _, _, _⟩) (v := ?_) rfl (by kernel_rfl) (by kernel_rfl) (by kernel_rfl) (fun _ _ _ h => h) (Or.inl ⟨by rfl, ?_⟩) hHeld ?_
    rotate_left
    ·intro w hSw
     try dsimp only at hSw
     go_simp
     all_goals (first | with_reducible rfl | rw [if_pos (by omega)])
    try simp only [Act.put, aS]
    refine wpAnyH_done (by kernel_rfl) ?_ _
    clear hHeld
    go_wp2_with fail
    go_meet
    exact ⟨Q, bA, bc, bK, bd, rfl, rfl, rfl, HE', HBP', HBQ', HA', HAB'⟩
   ·go_simp
    obtain ⟨Q, hQ⟩ : ∃ b, v1.heap.size = b := ⟨_, rfl⟩
    have HSQ := Lib.hid (HG.out.fresh Q (by rw [← hQ]; exact Nat.le_refl _))
    have HWQ := Lib.hid (show w5.heap.size ≤ Q from by rw [← hQ]; exact HG.out.low)
    have HPQ := Lib.hid (show P ≠ Q from by rw [← hQ]; exact Nat.ne_of_lt HBP.out.lt)
    have HBQ0 := Lib.hid (show B ≠ Q from by rw [← hQ]; exact Nat.ne_of_lt HB0.out.lt)
    have hE0 : Ext v1 (v1.alloc (.cells #[.int .u64 0, .bool false, .string ⟨#[]⟩, .slice none 0 0, .string ⟨#[]⟩, .slice none 0 0] 42)) := (Ext.refl _).alloc _
    refine hK.out _ _ (show NBox _ _ _ _ from NBox.ext hE0 hHeld) (fun hHeld => ?_)
    clear hK K'
    try simp only [Act.put, aS]
    obtain ⟨v4, hd⟩ : ∃ d, v1.alloc (.cells #[.int .u64 0, .bool false, .string ⟨#[]⟩, .slice none 0 0, .string ⟨#[]⟩, .slice none 0 0] 42) = d := ⟨_, rfl⟩
    have HBQ := Lib.hid (show NBox v4 Q 42 #[.int .u64 0, .bool false, .string ⟨#[]⟩, .slice none 0 0, .string ⟨#[]⟩, .slice none 0 0] from by rw [← hd, ← hQ]; exact NBox.new _ _ _)
    have hE : Ext v1 v4 := by rw [← hd]; exact hE0
    clear hE0
    replace HE := Lib.hid (HE.out.trans hE)
    replace HB0 := Lib.hid (HB0.out.ext hE)
    replace HBP := Lib.hid (HBP.out.ext hE)
    replace HG := Lib.hid (HG.out.ext hE)
    replace HD := Lib.hid (HD.out.ext hE)
    rw [hd] at hHeld ⊢
    rw [hQ]
    clear hd hQ hE
    refine wpAnyH_ready (rs := [3]) (by kernel_rfl) (by simp) ?_
    refine AllReadyH.cons (o := ⟨_, _, _, _, _, _⟩) rfl (fun K' hK => ?_) (AllReadyH.nil)
    have hc := HQ.out _ v4 HG.out.now HD.out
    go_simp
    go_at_call 21
    refine hc.mono ?_
    clear hc
    rintro e v5 ⟨r, rfl, ⟨q, rfl, hLL⟩, hE⟩
    have HAB := Lib.hid (HG.out.got hE hLL)
    obtain ⟨bA, bc, bK, bd, rfl⟩ := rd_open6 HAB.out
    replace HA5 := Lib.hid (HG.out.rd_glue hE HA5.out)
    replace HSQ := Lib.hid (HG.out.keep hE HSQ.out HBQ.out.lt)
    replace HG := Lib.hid (HG.out.glue hE)
    replace HE := Lib.hid (HE.out.trans hE)
    replace HB0 := Lib.hid (HB0.out.ext hE)
    replace HBP := Lib.hid (HBP.out.ext hE)
    replace HBQ := Lib.hid (HBQ.out.ext hE)
    refine hK.out _ _ (show NBox _ _ _ _ from NBox.ext hE hHeld) (fun hHeld => ?_)
    clear hK K' hE hLL HD
    try simp only [Act.put, aS]
    refine wpAnyH_take (i := 4) (oi := ⟨_, _, _, _, _, _⟩) (v := ?_) rfl (by kernel_rfl) (by kernel_rfl) (by kernel_rfl) (fun _ _ _ h => h) (Or.inl ⟨by rfl, ?_⟩) hHeld ?_
    rotate_left
    ·intro w hSw
     try dsimp only at hSw
     go_simp
     all_goals (first | with_reducible rfl | rw [if_pos (by omega)])
    try simp only [Act.put, aS]
    refine wpAnyH_take (i := 5) (oi := ⟨_, _, _, _, _, _⟩) (v := ?_) rfl (by kernel_rfl) (by kernel_rfl) (by kernel_rfl) (fun _ _ _ h => h) (Or.inl ⟨by rfl, ?_⟩) hHeld ?_
    rotate_left
    ·intro w hSw
     try dsimp only at hSw
     go_simp
     all_goals (first | with_reducible rfl | rw [if_pos (by omega)])
    try simp only [Act.put, aS]
    refine wpAnyH_take (i := 6) (oi := ⟨_, _, _, _, _, _⟩) (v := ?_) rfl (by kernel_rfl) (by kernel_rfl) (by kernel_rfl) (fun _ _ _ h => h) (Or.inl ⟨by rfl, ?_⟩) hHeld ?_
    rotate_left
    ·intro w hSw
     try dsimp only at hSw
     go_simp
     all_goals (first | with_reducible rfl | rw [if_pos (by omega)])
    try simp only [Act.put, aS]
    refine wpAnyH_take (i := 7) (oi := ⟨_, _, _, _, _, _⟩) (v := ?_) rfl (by kernel_rfl) (by kernel_rfl) (by kernel_rfl) (fun _ _ _ h => h) (Or.inl ⟨by rfl, ?_⟩) hHeld ?_
    rotate_left
    ·intro w hSw
     try dsimp only at hSw
     go_simp
     all_goals (first | with_reducible rfl | rw [if_pos (by omega)])
    try simp only [Act.put, aS]
    refine wpAnyH_ready (rs := [9]) (by kernel_rfl) (by simp) ?_
    refine AllReadyH.cons (o := ⟨_, _, _, _, _, _⟩) rfl (fun K' hK => ?_) (AllReadyH.nil)
    have y0 := HBQ.out.cell 0
    have z0 := HBQ.out.frozen 0
    have y1 := HBQ.out.cell 1
    have z1 := HBQ.out.frozen 1
    have y2 := HBQ.out.cell 2
    have z2 := HBQ.out.frozen 2
    have y3 := HBQ.out.cell 3
    have z3 := HBQ.out.frozen 3
    have y4 := HBQ.out.cell 4
    have z4 := HBQ.out.frozen 4
    have y5 := HBQ.out.cell 5
    have z5 := HBQ.out.frozen 5
    go_simp
    have F9 := Fr.six v5 Q (.int .u64 a.id) (.bool a.leaf) (.string a.label) (.slice bA a.attrs.length bc) (.string a.text) (.slice bK a.kids.length bd)
    have HBQ' := Lib.hid (HBQ.out.six (.int .u64 a.id) (.bool a.leaf) (.string a.label) (.slice bA a.attrs.length bc) (.string a.text) (.slice bK a.kids.length bd))
    have hPQ : P ≠ Q := HPQ.out
    have hBQ : B ≠ Q := HBQ0.out
    have hwQ : w5.heap.size ≤ Q := HWQ.out
    have h5 : w.heap.size ≤ w5.heap.size := HE5.out.size
    have HE' := Lib.hid (Fr.ext HE.out F9 (fun q hq => by rw [show q = Q from hq]; omega))
    have HBP' := Lib.hid (HBP.out.fr F9 (show ¬ P = Q from hPQ))
    have HG' := HG.out.fr F9 (fun q hq => by rw [show q = Q from hq]; exact ⟨HSQ.out, hwQ⟩)
    have HA' := Lib.hid (HG'.rd HA5.out)
    have HAB' := Lib.hid (HG'.rd HAB.out)
    refine hK.out _ _ (show NBox _ _ _ _ from NBox.fr F9 hHeld (show ¬ B = Q from hBQ)) (fun hHeld => ?_)
    clear hK K' HG' y0 z0 y1 z1 y2 z2 y3 z3 y4 z4 y5 z5
    try simp only [Act.put, aS]
    refine wpAnyH_take (i := 10) (oi := ⟨_, _, _, _, _, _⟩) (v := ?_) rfl (by kernel_rfl) (by kernel_rfl) (by kernel_rfl) (fun _ _ _ h => h) (Or.inl ⟨by rfl, ?_⟩) hHeld ?_
    rotate_left
    ·intro w hSw
     try dsimp only at hSw
     go_simp
     all_goals (first | with_reducible rfl | rw [if_pos (by omega)])
    try simp only [Act.put, aS]
    refine wpAnyH_take (i := 11) (oi := ⟨_, _, _, _, _, _⟩) (v := ?_) rfl (by kernel_rfl) (by kernel_rfl) (by kernel_rfl) (fun _ _ _ h => h) (Or.inl ⟨by rfl, ?_⟩) hHeld ?_
    rotate_left
    ·intro w hSw
     try dsimp only at hSw
     go_simp
     all_goals (first | with_reducible rfl | rw [if_pos (by omega)])
    try simp only [Act.put, aS]
    refine wpAnyH_done (by kernel_rfl) ?_ _
    clear hHeld
    go_wp2_with fail
    go_meet
    exact ⟨Q, bA, bc, bK, bd, rfl, rfl, rfl, HE', HBP', HBQ', HA', HAB'⟩
  ·go_simp
   obtain ⟨Q, hQ⟩ : ∃ b, wd.heap.size = b := ⟨_, rfl⟩
   have HSQ := Lib.hid (HG.out.fresh Q (by rw [← hQ]; exact Nat.le_refl _))
   have HWQ := Lib.hid (show w5.heap.size ≤ Q from by rw [← hQ]; exact HG.out.low)
   have HPQ := Lib.hid (show P ≠ Q from by rw [← hQ]; exact Nat.ne_of_lt HBP.out.lt)
   have HBQ0 := Lib.hid (show B ≠ Q from by rw [← hQ]; exact Nat.ne_of_lt HB0.out.lt)
   have hE0 : Ext wd (wd.alloc (.cells #[.int .u64 0, .bool false, .string ⟨#[]⟩, .slice none 0 0, .string ⟨#[]⟩, .slice none 0 0] 42)) := (Ext.refl _).alloc _
   refine hK.out _ _ (show NBox _ _ _ _ from NBox.ext hE0 hHeld) (fun hHeld => ?_)
   clear hK K'
   try simp only [Act.put, aS]
   obtain ⟨v6, hd⟩ : ∃ d, wd.alloc (.cells #[.int .u64 0, .bool false, .string ⟨#[]⟩, .slice none 0 0, .string ⟨#[]⟩, .slice none 0 0] 42) = d := ⟨_, rfl⟩
   have HBQ := Lib.hid (show NBox v6 Q 42 #[.int .u64 0, .bool false, .string ⟨#[]⟩, .slice none 0 0, .string ⟨#[]⟩, .slice none 0 0] from by rw [← hd, ← hQ]; exact NBox.new _ _ _)
   have hE : Ext wd v6 := by rw [← hd]; exact hE0
   clear hE0
   replace HE := Lib.hid (HE.out.trans hE)
   replace HB0 := Lib.hid (HB0.out.ext hE)
   replace HBP := Lib.hid (HBP.out.ext hE)
   replace HG := Lib.hid (HG.out.ext hE)
   rw [hd] at hHeld ⊢
   rw [hQ]
   clear hd hQ hE
   refine wpAnyH_ready (rs := [2]) (by kernel_rfl) (by simp) ?_
   refine AllReadyH.cons (o := ⟨_, _, _, _, _, _⟩) rfl (fun K' hK => ?_) (AllReadyH.nil)
   have hc := HQL.out v6 HE.out
   go_simp
   go_at_call 18
   refine hc.mono ?_
   clear hc
   rintro e v7 ⟨hE, u, rfl, hv⟩
   have HD := Lib.hid (lsV.rd hv)
   obtain ⟨dA, dc, rfl⟩ := lsV.slice hv
   replace HE := Lib.hid (HE.out.trans hE)
   replace HB0 := Lib.hid (HB0.out.ext hE)
   replace HBP := Lib.hid (HBP.out.ext hE)
   replace HG := Lib.hid (HG.out.ext hE)
   replace HBQ := Lib.hid (HBQ.out.ext hE)
   refine hK.out _ _ (show NBox _ _ _ _ from NBox.ext hE hHeld) (fun hHeld => ?_)
   clear hK K' hE hv
   try simp only [Act.put, aS]
   refine wpAnyH_ready (rs := [3]) (by kernel_rfl) (by simp) ?_
   refine AllReadyH.cons (o := ⟨_, _, _, _, _, _⟩) rfl (fun K' hK => ?_) (AllReadyH.nil)
   have hc := HQ.out _ v7 HG.out.now HD.out
   go_simp
   go_at_call 21
   refine hc.mono ?_
   clear hc
   rintro e v8 ⟨r, rfl, ⟨q, rfl, hLL⟩, hE⟩
   have HAB := Lib.hid (HG.out.got hE hLL)
   obtain ⟨bA, bc, bK, bd, rfl⟩ := rd_open6 HAB.out
   replace HA5 := Lib.hid (HG.out.rd_glue hE HA5.out)
   replace HSQ := Lib.hid (HG.out.keep hE HSQ.out HBQ.out.lt)
   replace HG := Lib.hid (HG.out.glue hE)
   replace HE := Lib.hid (HE.out.trans hE)
   replace HB0 := Lib.hid (HB0.out.ext hE)
   replace HBP := Lib.hid (HBP.out.ext hE)
   replace HBQ := Lib.hid (HBQ.out.ext hE)
   refine hK.out _ _ (show NBox _ _ _ _ from NBox.ext hE hHeld) (fun hHeld => ?_)
   clear hK K' hE hLL HD
   try simp only [Act.put, aS]
   refine wpAnyH_take (i := 4) (oi := ⟨_, _, _, _, _, _⟩) (v := ?_) rfl (by kernel_rfl) (by kernel_rfl) (by kernel_rfl) (fun _ _ _ h => h) (Or.inl ⟨by rfl, ?_⟩) hHeld ?_
   rotate_left
   ·intro w hSw
    try dsimp only at hSw
    go_simp
    all_goals (first | with_reducible rfl | rw [if_pos (by omega)])
   try simp only [Act.put, aS]
   refine wpAnyH_take (i := 5) (oi := ⟨_, _, _, _, _, _⟩) (v := ?_) rfl (by kernel_rfl) (by kernel_rfl) (by kernel_rfl) (fun _ _ _ h => h) (Or.inl ⟨by rfl, ?_⟩) hHeld ?_
   rotate_left
   ·intro w hSw
    try dsimp only at hSw
    go_simp
    all_goals (first | with_reducible rfl | rw [if_pos (by omega)])
   try simp only [Act.put, aS]
   refine wpAnyH_take (i := 6) (oi := ⟨_, _, _, _, _, _⟩) (v := ?_) rfl (by kernel_rfl) (by kernel_rfl) (by kernel_rfl) (fun _ _ _ h => h) (Or.inl ⟨by rfl, ?_⟩) hHeld ?_
   rotate_left
   ·intro w hSw
    try dsimp only at hSw
    go_simp
    all_goals (first | with_reducible rfl | rw [if_pos (by omega)])
   try simp only [Act.put, aS]
   refine wpAnyH_take (i := 7) (oi := ⟨_, _, _, _, _, _⟩) (v := ?_) rfl (by kernel_rfl) (by kernel_rfl) (by kernel_rfl) (fun _ _ _ h => h) (Or.inl ⟨by rfl, ?_⟩) hHeld ?_
   rotate_left
   ·intro w hSw
    try dsimp only at hSw
    go_simp
    all_goals (first | with_reducible rfl | rw [if_pos (by omega)])
   try simp only [Act.put, aS]
   refine wpAnyH_ready (rs := [9]) (by kernel_rfl) (by simp) ?_
   refine AllReadyH.cons (o := ⟨_, _, _, _, _, _⟩) rfl (fun K' hK => ?_) (AllReadyH.nil)
   have y0 := HBQ.out.cell 0
   have z0 := HBQ.out.frozen 0
   have y1 := HBQ.out.cell 1
   have z1 := HBQ.out.frozen 1
   have y2 := HBQ.out.cell 2
   have z2 := HBQ.out.frozen 2
   have y3 := HBQ.out.cell 3
   have z3 := HBQ.out.frozen 3
   have y4 := HBQ.out.cell 4
   have z4 := HBQ.out.frozen 4
   have y5 := HBQ.out.cell 5
   have z5 := HBQ.out.frozen 5
   go_simp
   have F9 := Fr.six v8 Q (.int .u64 a.id) (.bool a.leaf) (.string a.label) (.slice bA a.attrs.length bc) (.string a.text) (.slice bK a.kids.length bd)
   have HBQ' := Lib.hid (HBQ.out.six (.int .u64 a.id) (.bool a.leaf) (.string a.label) (.slice bA a.attrs.length bc) (.string a.text) (.slice bK a.kids.length bd))
   have hPQ : P ≠ Q := HPQ.out
   have hBQ : B ≠ Q := HBQ0.out
   have hwQ : w5.heap.size ≤ Q := HWQ.out
   have h5 : w.heap.size ≤ w5.heap.size := HE5.out.size
   have HE' := Lib.hid (Fr.ext HE.out F9 (fun q hq => by rw [show q = Q from hq]; omega))
   have HBP' := Lib.hid (HBP.out.fr F9 (show ¬ P = Q from hPQ))
   have HG' := HG.out.fr F9 (fun q hq => by rw [show q = Q from hq]; exact ⟨HSQ.out, hwQ⟩)
   have HA' := Lib.hid (HG'.rd HA5.out)
   have HAB' := Lib.hid (HG'.rd HAB.out)
   refine hK.out _ _ (show NBox _ _ _ _ from NBox.fr F9 hHeld (show ¬ B = Q from hBQ)) (fun hHeld => ?_)
   clear hK K' HG' y0 z0 y1 z1 y2 z2 y3 z3 y4 z4 y5 z5
   try simp only [Act.put, aS]
   refine wpAnyH_take (i := 10) (oi := ⟨_, _, _, _, _, _⟩) (v := ?_) rfl (by kernel_rfl) (by kernel_rfl) (by kernel_rfl) (fun _ _ _ h => h) (Or.inl ⟨by rfl, ?_⟩) hHeld ?_
   rotate_left
   ·intro w hSw
    try dsimp only at hSw
    go_simp
    all_goals (first | with_reducible rfl | rw [if_pos (by omega)])
   try simp only [Act.put, aS]
   refine wpAnyH_take (i := 11) (oi := ⟨_, _, _, _, _, _⟩) (v := ?_) rfl (by kernel_rfl) (by kernel_rfl) (by kernel_rfl) (fun _ _ _ h => h) (Or.inl ⟨by rfl, ?_⟩) hHeld ?_
   rotate_left
   ·intro w hSw
    try dsimp only at hSw
    go_simp
    all_goals (first | with_reducible rfl | rw [if_pos (by omega)])
   try simp only [Act.put, aS]
   refine wpAnyH_done (by kernel_rfl) ?_ _
   clear hHeld
   go_wp2_with fail
   go_meet
   exact ⟨Q, bA, bc, bK, bd, rfl, rfl, rfl, HE', HBP', HBQ', HA', HAB'⟩
 case rest =>
  obtain ⟨Q, bA, bc, bK, bd, rfl, rfl, rfl, HE', HBP', HBQ, HA', HAB⟩ := hcut
  clear HE HB0 HBP HG HA5
  have hc := rsame_any a.cnt a a _ _ wc (Nat.le_refl _) HA'.out HAB.out
  rw [Nd.same_refl] at hc
  have y0 := HBP'.out.cell 0
  have y1 := HBP'.out.cell 1
  have y2 := HBP'.out.cell 2
  have y3 := HBP'.out.cell 3
  have y4 := HBP'.out.cell 4
  have y5 := HBP'.out.cell 5
  have s0 := HBQ.out.cell 0
  have s1 := HBQ.out.cell 1
  have s2 := HBQ.out.cell 2
  have s3 := HBQ.out.cell 3
  have s4 := HBQ.out.cell 4
  have s5 := HBQ.out.cell 5
  go_wp2_with fail
  refine hc.mono ?_
  clear hc
  rintro e w6 ⟨r, rfl, rfl, hE⟩
  have HE6 := Lib.hid (HE'.out.trans hE)
  clear hE
  go_wp2_with fail
  refine (works_any w6).mono ?_
  rintro e u ⟨r, rfl, rfl, hE⟩
  go_wp2_with fail
  go_ret
  exact ret_bool (by rfl) (HE6.out.trans hE)
end Go.Proofs.Ytkimbpeapolcbaa.Sy
