/- Chapter 24: Join's closure (42), Join (21). (Printed by gojoin.py.) -/
import Derived.Test.YtofcbclokkjfjaaOuSplitR
namespace Go.Proofs.Ytofcbclokkjfjaa.Wi
open Go.RowKit Go.Proofs.Ytofcbclokkjfjaa.Bw Go.Proofs.Ytofcbclokkjfjaa.Bs

def delO (p : List Int) : OpD := ⟨2, p, 0, [], 0, false, ⟨#[]⟩, ⟨#[]⟩, ⟨#[]⟩, false, []⟩
def joinL (s : SpD) (txt : ByteArray) : List OpD := editL txt s.p ⟨s.x.text.size, 0, txt⟩ ++ [delO (s.up ++ [s.i + 1])]
def joinP (s : SpD) : Except Int (List OpD) := if s.x.leaf = false then .error 83 else if s.i < (s.par.kids.length : Int) - 1 then (match s.par.kids[(s.i + 1).toNat]? with | some k => if k.leaf then .ok (joinL s k.text) else .error 4 | none => .error 4) else .error 4
set_option maxRecDepth 100000 in
set_option maxHeartbeats 8000000 in
theorem join42_any (s : SpD) (sv : Value) (w0 w : World) (hX : Ext w0 w) (hs : SpV w0 w s sv) (ho : SpOk s) :
  Calls Try.prog 42 #[sv] w (ClG lsV w0 w (joinP s)) := by
 obtain ⟨xA, xc, xK, xd, pA, pc, uA, uc, yA, yc, yK, yd, rfl, hxr, hyr, hP, hU⟩ := hs
 obtain ⟨w1, hw1⟩ : ∃ W, w.alloc (.cells #[.int .u64 s.x.id, .bool s.x.leaf, .string s.x.label, .slice xA s.x.attrs.length xc, .string s.x.text, .slice xK s.x.kids.length xd, .slice pA s.p.length pc, .slice uA s.up.length uc, .int .i64 s.i, .int .u64 s.par.id, .bool s.par.leaf, .string s.par.label, .slice yA s.par.attrs.length yc, .string s.par.text, .slice yK s.par.kids.length yd] 52) = W := ⟨_, rfl⟩
 obtain ⟨X, hXX⟩ : ∃ X, w.heap.size = X := ⟨_, rfl⟩
 have E1 : Ext w w1 := by rw [← hw1]; exact (Ext.refl w).alloc _
 have bX : NBox w1 X 52 #[.int .u64 s.x.id, .bool s.x.leaf, .string s.x.label, .slice xA s.x.attrs.length xc, .string s.x.text, .slice xK s.x.kids.length xd, .slice pA s.p.length pc, .slice uA s.up.length uc, .int .i64 s.i, .int .u64 s.par.id, .bool s.par.leaf, .string s.par.label, .slice yA s.par.attrs.length yc, .string s.par.text, .slice yK s.par.kids.length yd] := by rw [← hw1, ← hXX]; exact NBox.new _ _ _
 have HE := Lib.hid E1
 have HX0 := Lib.hid hX
 have HLX := Lib.hid (show w0.heap.size ≤ w.heap.size from hX.size)
 have HB := Lib.hid bX
 have HU := Lib.hid (owns_ext E1 hU)
 have HPP := Lib.hid (owns_ext E1 hP)
 have HYR := Lib.hid (Nd.rd_ext (hX.trans E1) hyr)
 have HW := Lib.hid hw1
 have HXX := Lib.hid hXX
 have hi0 := ho.i0
 have hi1 := ho.i1
 have hul := ho.up
 have hkl := ho.kids
 clear hw1 hXX E1 hP hU hX hxr hyr ho
 have k0 := bX.cell 0
 have k1 := bX.cell 1
 have k2 := bX.cell 2
 have k3 := bX.cell 3
 have k4 := bX.cell 4
 have k5 := bX.cell 5
 have k6 := bX.cell 6
 have k7 := bX.cell 7
 have k8 := bX.cell 8
 have k9 := bX.cell 9
 have k10 := bX.cell 10
 have k11 := bX.cell 11
 have k12 := bX.cell 12
 have k13 := bX.cell 13
 have k14 := bX.cell 14
 clear bX
 have HSP := Lib.hid (show joinP s = if s.x.leaf = false then .error 83 else if s.i < (s.par.kids.length : Int) - 1 then (match s.par.kids[(s.i + 1).toNat]? with | some k => if k.leaf then .ok (joinL s k.text) else .error 4 | none => .error 4) else .error 4 from rfl)
 go_enter Try.func42, Try.ntmps42
 go_upto_region 1 with fail
 rw [HW.out, HXX.out]
 clear HW HXX
 cases hlf : s.x.leaf with
 | false =>
  have HR : Hid (joinP s = .error 83) := Lib.hid (by rw [HSP.out, if_pos hlf])
  rw [hlf] at k1
  have hn := need_no 83 w1
  go_wp2_with fail
  refine hn.mono ?_
  rintro e u ⟨rfl, rfl⟩
  go_wp2_with fail
  rw [HR.out]
  exact ⟨rfl, HE.out, rfl⟩
 | true =>
 rw [hlf] at k1
 have HSP2 := Lib.hid (HSP.out.trans (if_neg (by rw [hlf]; exact Bool.noConfusion)))
 clear HSP
 have hn := need_yes 83 w1
 go_wp2_with fail
 refine hn.mono ?_
 clear hn
 rintro e u ⟨he, rfl⟩
 obtain rfl : e = .returned (.tuple #[]) := he
 have q6 : IntKind.i64.wrap ((s.par.kids.length : Int) - 1) = (s.par.kids.length : Int) - 1 := IntWalk.i64_in _ (by omega)
 have q7 : IntKind.i64.wrap (s.i + 1) = s.i + 1 := IntWalk.i64_in _ (by omega)
 by_cases hc1 : s.i < (s.par.kids.length : Int) - 1
 case neg =>
  have HR : Hid (joinP s = .error 4) := Lib.hid (by rw [HSP2.out, if_neg hc1])
  have t1 : decide (s.i < (s.par.kids.length : Int) - 1) = false := decide_eq_false hc1
  have hn := need_no 4 w1
  go_wp2_with fail
  refine hn.mono ?_
  rintro e u ⟨rfl, rfl⟩
  go_wp2_with fail
  rw [HR.out]
  exact ⟨rfl, HE.out, rfl⟩
 have t1 : decide (s.i < (s.par.kids.length : Int) - 1) = true := decide_eq_true hc1
 have q1 : (0 : Int) ≤ s.i + 1 := by omega
 have q2 : s.i + 1 < (s.par.kids.length : Int) := by omega
 have hklt : (s.i + 1).toNat < s.par.kids.length := by omega
 obtain ⟨kk, hkk⟩ : ∃ k, s.par.kids[(s.i + 1).toNat]? = some k := ⟨_, List.getElem?_eq_getElem hklt⟩
 have HSP3 : Hid (joinP s = if kk.leaf then .ok (joinL s kk.text) else .error 4) := Lib.hid (by rw [HSP2.out, if_pos hc1, hkk])
 clear HSP2
 obtain ⟨av, kv, he, -, -, -, -, -, ⟨A1, c1, e1, -, -, hrk⟩⟩ := Nd.rd_open HYR.out
 simp only [Value.agg.injEq, Array.mk.injEq, List.cons.injEq, and_true, true_and] at he
 obtain ⟨-, he⟩ := he
 rw [e1] at he
 simp only [Value.slice.injEq, true_and] at he
 obtain ⟨he1, he2⟩ := he
 obtain ⟨bk, ok, hA1, hr⟩ := hrk (by intro h0; rw [h0] at hklt; exact absurd hklt (Nat.not_lt_zero _))
 rw [hA1] at he1
 subst he1
 obtain ⟨zA, zc, zK, zd, cx0, cx1, cx2, cx3, cx4, cx5, HXV⟩ := rdKids_get hr hkk
 have HTX : Hid (okStr kk.text) := Lib.hid (by obtain ⟨_, _, _, _, _, _, h, _⟩ := Nd.rd_open HXV; exact h)
 clear hr hkk e1 he2 hA1 hrk av kv cx0 cx2 cx3 cx5 HXV HYR
 obtain ⟨m, hm⟩ : ∃ m, (s.i + 1).toNat = m := ⟨_, rfl⟩
 rw [hm] at cx1 cx4 hklt
 cases hkf : kk.leaf with
 | false =>
  have HR : Hid (joinP s = .error 4) := Lib.hid (by rw [HSP3.out, hkf]; rfl)
  rw [hkf] at cx1
  have hn := need_no 4 w1
  go_wp2_with fail
  refine hn.mono ?_
  rintro e u ⟨rfl, rfl⟩
  go_wp2_with fail
  rw [HR.out]
  exact ⟨rfl, HE.out, rfl⟩
 | true =>
 rw [hkf] at cx1
 have HR : Hid (joinP s = .ok (joinL s kk.text)) := Lib.hid (by rw [HSP3.out, hkf]; rfl)
 clear HSP3
 have hn := need_yes 4 w1
 go_wp2_with fail
 refine hn.mono ?_
 clear hn
 rintro e u ⟨he, rfl⟩
 obtain rfl : e = .returned (.tuple #[]) := he
 have HED := Lib.hid (show editL kk.text s.p ⟨s.x.text.size, 0, kk.text⟩ = if kk.text.size = 0 then [] else [editO s.p ⟨s.x.text.size, 0, kk.text⟩] from rfl)
 obtain ⟨q, hqq⟩ : ∃ q, s.up ++ [s.i + 1] = q := ⟨_, rfl⟩
 have hql : q.length ≤ 10001 := by rw [← hqq, List.length_append, List.length_cons, List.length_nil]; omega
 have HSL := Lib.hid (show joinL s kk.text = editL kk.text s.p ⟨s.x.text.size, 0, kk.text⟩ ++ [delO q] from by unfold joinL; rw [hqq])
 have HQQ := Lib.hid hqq
 clear hqq hc1 t1 hlf hkf cx1
 cases hz : kk.text.toList.isEmpty with
 | true =>
  have hz0 : kk.text.size = 0 := by have := bytes_empty kk.text; rw [hz] at this; exact of_decide_eq_true this.symm
  have HED1' := Lib.hid (HED.out.trans (if_pos hz0))
  clear HED hz0
  obtain ⟨l, A, c, hl1, HL1, hls, hLL⟩ : ∃ (l : List OpD) (A : Option Addr) (c : Nat), l.length ≤ 1 ∧ Hid (editL kk.text s.p ⟨s.x.text.size, 0, kk.text⟩ = l) ∧ Value.slice none 0 0 = .slice A l.length c ∧ rowV2 RdO 38 11 w0.heap.size l (.slice A l.length c) w1 := ⟨[], none, 0, Nat.zero_le _, HED1', rfl, lsV.none_ _ _⟩
  have HL := Lib.hid hLL
  have HLB : Hid (∀ k, (Value.slice A l.length c).ownBlock = some k → w.heap.size ≤ k) := Lib.hid (fun k hk => by rw [← hls] at hk; cases hk)
  clear hLL
  go_upto_region 7 with fail
  rw [hls]
  clear hls cx4 k0 k1 k2 k3 k4 k5 k6 k7 k8 k9 k10 k11 k12 k13 k14
  have hq := pchild_any s.up (s.i + 1) _ w1 (RdS.of_owns HU.out) (by omega)
  rw [HQQ.out] at hq
  have k7 := HB.out.cell 7
  have k8 := HB.out.cell 8
  go_wp2_with fail
  refine hq.mono ?_
  clear hq k7 k8 HB
  rintro e w8 ⟨r, rfl, hO, hE⟩
  have HO := Lib.hid (owns_low hO (Nat.le_trans HLX.out HE.out.size))
  obtain ⟨nA, nc, rfl, -⟩ := RdS.of_owns hO
  clear hO
  have HE' := Lib.hid (HE.out.trans hE)
  have HL' := Lib.hid (rowV2.ext HL.out hE)
  clear hE
  replace HE := HE'; replace HL := HL'
  clear HE' HL'
  obtain ⟨N, hN⟩ : ∃ g, w8.heap.size = g := ⟨_, rfl⟩
  obtain ⟨wo, hwo⟩ : ∃ W, w8.alloc (.cells #[.int .u8 2, .slice nA q.length nc, .int .i64 0, .slice none 0 0, .int .u64 0, .bool false, .string ⟨#[]⟩, .string ⟨#[]⟩, .string ⟨#[]⟩, .bool false, .slice none 0 0] 38) = W := ⟨_, rfl⟩
  have hE : Ext w8 wo := by rw [← hwo]; exact (Ext.refl _).alloc _
  have bN : NBox wo N 38 #[.int .u8 2, .slice nA q.length nc, .int .i64 0, .slice none 0 0, .int .u64 0, .bool false, .string ⟨#[]⟩, .string ⟨#[]⟩, .string ⟨#[]⟩, .bool false, .slice none 0 0] := by rw [← hN, ← hwo]; exact NBox.new _ _ _
  have HW := Lib.hid hwo
  have HNN := Lib.hid hN
  clear hwo hN
  have HE' := Lib.hid (HE.out.trans hE)
  have HL' := Lib.hid (rowV2.ext HL.out hE)
  have HO' := Lib.hid (owns_ext hE HO.out)
  clear hE
  replace HE := HE'; replace HL := HL'; replace HO := HO'
  clear HE' HL' HO'
  obtain ⟨us1, ho1, hla1⟩ := HL.out
  have hsz := Nat.le_trans HLX.out HE.out.size
  have hS : ∀ g, (Value.slice nA q.length nc).ownBlock = some g → ¬ rowS w0.heap.size (Value.slice A l.length c) g := fun g hg hk => hk.elim (fun h => absurd (owns_base HO.out g hg) (Nat.not_le.2 h)) (fun h => owns_apart ho1 HO.out (by decide) h hg)
  have hx : Late (rowS w0.heap.size (Value.slice A l.length c)) (fun W => (delO q).rd W (.agg #[.int .u8 2, .slice nA q.length nc, .int .i64 0, .slice none 0 0, .int .u64 0, .bool false, .string ⟨#[]⟩, .string ⟨#[]⟩, .string ⟨#[]⟩, .bool false, .slice none 0 0])) wo := op_late (o := delO q) HO.out hS rfl rfl (Nat.zero_le _) (Nat.zero_le _) (Nat.zero_le _) (show (0 : Int) ≤ 0 ∧ (0 : Int) ≤ 18446744073709551615 from by decide) (show (0 : Int) ≤ 2 ∧ (2 : Int) ≤ 255 from by decide)
  have hrow := bN.row
  have hones := ones11 (c0 := .int .u8 2) (c1 := .slice nA q.length nc) (c2 := .int .i64 0) (c3 := .slice none 0 0) (c4 := .int .u64 0) (c5 := .bool false) (c6 := .string ⟨#[]⟩) (c7 := .string ⟨#[]⟩) (c8 := .string ⟨#[]⟩) (c9 := .bool false) (c10 := .slice none 0 0) ⟨rfl, rfl, rfl, rfl, rfl, rfl, rfl, rfl, rfl, rfl, rfl⟩
  go_wp2_with (first | (at_builtin; rw [HW.out, HNN.out]; refine wpList_append_rd rfl rfl T31 (v := _) (by rfl) ho1 (by rfl) hrow hones (by omega) (by simp only [maxLen]; omega) hsz ?_; intro v4 w9 h4 hg hat4))
  have HL2 := Lib.hid (rowV2.push hla1 rfl hx hg hat4 h4)
  have HE2 := Lib.hid (Fr.ext HE.out (Fr.grown hg) (fun k hk => HLB.out k hk))
  obtain ⟨L2, hL2⟩ : ∃ L, l ++ [delO q] = L := ⟨_, rfl⟩
  have HF : Hid (joinL s kk.text = L2) := Lib.hid (by rw [HSL.out, HL1.out, hL2])
  rw [hL2] at HL2
  obtain ⟨A4, c4, rfl⟩ := lsV.slice HL2.out
  clear hx hS hla1 ho1 hg hat4 h4 bN hrow hones hsz HW HNN HE HO HL hL2
  go_wp2_with fail
  go_ret
  rw [HR.out, HF.out]
  exact ⟨HE2.out, _, rfl, HL2.out⟩
 | false =>
  have hz0 : ¬ kk.text.size = 0 := by have := bytes_empty kk.text; rw [hz] at this; exact of_decide_eq_false this.symm
  have HED1' := Lib.hid (HED.out.trans (if_neg hz0))
  clear HED hz0
  obtain ⟨Q, hQQ⟩ : ∃ g, w1.heap.size = g := ⟨_, rfl⟩
  obtain ⟨wp, hwp⟩ : ∃ W, w1.alloc (.cells #[.int .i64 (s.x.text.size : Int), .int .i64 0, .string kk.text] 49) = W := ⟨_, rfl⟩
  have sp : wp.heap.size = Q + 1 := by rw [← hwp, World.size_alloc, hQQ]
  obtain ⟨wo, hwo⟩ : ∃ W, wp.alloc (.cells #[.int .u8 6, .slice pA s.p.length pc, .int .i64 0, .slice none 0 0, .int .u64 0, .bool false, .string ⟨#[]⟩, .string ⟨#[]⟩, .string ⟨#[]⟩, .bool false, .slice (some ⟨Q, 0, none⟩) 1 1] 38) = W := ⟨_, rfl⟩
  have hE1 : Ext w1 wp := by rw [← hwp]; exact (Ext.refl _).alloc _
  have hE2 : Ext wp wo := by rw [← hwo]; exact (Ext.refl _).alloc _
  have bP : NBox wo Q 49 #[.int .i64 (s.x.text.size : Int), .int .i64 0, .string kk.text] := by rw [← hQQ]; exact NBox.ext hE2 (by rw [← hwp]; exact NBox.new _ _ _)
  have bN : NBox wo (Q + 1) 38 #[.int .u8 6, .slice pA s.p.length pc, .int .i64 0, .slice none 0 0, .int .u64 0, .bool false, .string ⟨#[]⟩, .string ⟨#[]⟩, .string ⟨#[]⟩, .bool false, .slice (some ⟨Q, 0, none⟩) 1 1] := by rw [← sp, ← hwo]; exact NBox.new _ _ _
  have hQl : w0.heap.size ≤ Q := by rw [← hQQ]; exact Nat.le_trans HLX.out HE.out.size
  have hE := hE1.trans hE2
  have HB' := Lib.hid (HB.out.ext hE)
  have HU' := Lib.hid (owns_ext hE HU.out)
  have HPP' := Lib.hid (owns_ext hE HPP.out)
  have HE' := Lib.hid (HE.out.trans hE)
  have HWO := Lib.hid (show (w1.alloc (.cells #[.int .i64 (s.x.text.size : Int), .int .i64 0, .string kk.text] 49)).alloc (.cells #[.int .u8 6, .slice pA s.p.length pc, .int .i64 0, .slice none 0 0, .int .u64 0, .bool false, .string ⟨#[]⟩, .string ⟨#[]⟩, .string ⟨#[]⟩, .bool false, .slice (some ⟨w1.heap.size, 0, none⟩) 1 1] 38) = wo from by rw [hwp, hQQ]; exact hwo)
  have HQ0 := Lib.hid hQQ
  clear hwp hwo hQQ sp hE1 hE2 hE
  replace HE := HE'; replace HB := HB'; replace HU := HU'; replace HPP := HPP'
  clear HE' HB' HU' HPP'
  have ho1 : wo.ownsRow w0.heap.size 38 11 (.slice none 0 0) 0 [] := noRowS _ _ _ _
  have hla1 : Late (rowS w0.heap.size (.slice none 0 0)) (fun W => rowCells RdO 11 W [] []) wo := Late.all fun _ => rfl
  have hsz := Nat.le_trans HLX.out HE.out.size
  have hx : Late (rowS w0.heap.size (.slice none 0 0)) (fun W => (editO s.p ⟨s.x.text.size, 0, kk.text⟩).rd W (.agg #[.int .u8 6, .slice pA s.p.length pc, .int .i64 0, .slice none 0 0, .int .u64 0, .bool false, .string ⟨#[]⟩, .string ⟨#[]⟩, .string ⟨#[]⟩, .bool false, .slice (some ⟨Q, 0, none⟩) 1 1])) wo := by
   intro W2 F2
   have hO2 := owns_fr F2 HPP.out (fun b hb hk => hk.elim (fun h => by have := owns_base HPP.out b hb; omega) (fun h => by cases h))
   have hq2 := bP.fr F2 (fun hk => hk.elim (fun h => by omega) (fun h => by cases h))
   refine ⟨_, _, _, rfl, RdS.of_owns hO2, RdS.nil_ _ _, ⟨_, 1, rfl, Nat.le_refl _, by simp [maxLen], fun _ => ⟨Q, 0, rfl, hq2.cell 0, hq2.cell 1, hq2.cell 2, HTX.out, trivial⟩⟩, ?_, ?_, ?_, ⟨?_, ?_⟩, ?_, ?_⟩
   all_goals first | exact Nat.zero_le _ | (dsimp only [editO]; omega)
  have hrow := bN.row
  have hones := ones11 (c0 := .int .u8 6) (c1 := .slice pA s.p.length pc) (c2 := .int .i64 0) (c3 := .slice none 0 0) (c4 := .int .u64 0) (c5 := .bool false) (c6 := .string ⟨#[]⟩) (c7 := .string ⟨#[]⟩) (c8 := .string ⟨#[]⟩) (c9 := .bool false) (c10 := .slice (some ⟨Q, 0, none⟩) 1 1) ⟨rfl, rfl, rfl, rfl, rfl, rfl, rfl, rfl, rfl, rfl, rfl⟩
  go_wp2_with (first | (at_builtin; rw [HWO.out, HQ0.out]; refine wpList_append_rd rfl rfl T31 (v := _) (by rfl) ho1 (by rfl) hrow hones (by omega) (by simp only [maxLen]; omega) hsz ?_))
  intro v4 w6 h4 hg hat4
  have HL := Lib.hid (rowV2.push hla1 rfl hx hg hat4 h4)
  have X4 : Ext wo w6 := Ext.grown (Ext.refl _) hg (fun k hk => by cases hk)
  have HLB : Hid (∀ k, v4.ownBlock = some k → w.heap.size ≤ k) := Lib.hid (fun k hk => hat4.elim (fun h => by rw [h] at hk; cases hk) (fun h => by rw [h] at hk; cases hk; exact HE.out.size))
  have hE := X4
  have HE' := Lib.hid (HE.out.trans hE)
  have HB' := Lib.hid (HB.out.ext hE)
  have HU' := Lib.hid (owns_ext hE HU.out)
  have HPP' := Lib.hid (owns_ext hE HPP.out)
  clear hE X4 hx hla1 ho1 hg hat4 h4 bP bN hrow hones hsz HWO HQ0 hQl
  replace HE := HE'; replace HB := HB'; replace HU := HU'; replace HPP := HPP'
  clear HE' HB' HU' HPP'
  obtain ⟨l, hl⟩ : ∃ L, ([] : List OpD) ++ [editO s.p ⟨s.x.text.size, 0, kk.text⟩] = L := ⟨_, rfl⟩
  have hl1 : l.length ≤ 1 := by rw [← hl]; exact Nat.le_refl _
  have HL1 : Hid (editL kk.text s.p ⟨s.x.text.size, 0, kk.text⟩ = l) := Lib.hid (by rw [HED1'.out, ← hl]; rfl)
  rw [hl] at HL
  obtain ⟨A, c, rfl⟩ := lsV.slice HL.out
  clear hl HED1' cx4 k0 k1 k2 k3 k4 k5 k6 k7 k8 k9 k10 k11 k12 k13 k14
  go_upto_region 7 with fail
  have hq := pchild_any s.up (s.i + 1) _ w6 (RdS.of_owns HU.out) (by omega)
  rw [HQQ.out] at hq
  have k7 := HB.out.cell 7
  have k8 := HB.out.cell 8
  go_wp2_with fail
  refine hq.mono ?_
  clear hq k7 k8 HB
  rintro e w8 ⟨r, rfl, hO, hE⟩
  have HO := Lib.hid (owns_low hO (Nat.le_trans HLX.out HE.out.size))
  obtain ⟨nA, nc, rfl, -⟩ := RdS.of_owns hO
  clear hO
  have HE' := Lib.hid (HE.out.trans hE)
  have HL' := Lib.hid (rowV2.ext HL.out hE)
  clear hE
  replace HE := HE'; replace HL := HL'
  clear HE' HL'
  obtain ⟨N, hN⟩ : ∃ g, w8.heap.size = g := ⟨_, rfl⟩
  obtain ⟨wo, hwo⟩ : ∃ W, w8.alloc (.cells #[.int .u8 2, .slice nA q.length nc, .int .i64 0, .slice none 0 0, .int .u64 0, .bool false, .string ⟨#[]⟩, .string ⟨#[]⟩, .string ⟨#[]⟩, .bool false, .slice none 0 0] 38) = W := ⟨_, rfl⟩
  have hE : Ext w8 wo := by rw [← hwo]; exact (Ext.refl _).alloc _
  have bN : NBox wo N 38 #[.int .u8 2, .slice nA q.length nc, .int .i64 0, .slice none 0 0, .int .u64 0, .bool false, .string ⟨#[]⟩, .string ⟨#[]⟩, .string ⟨#[]⟩, .bool false, .slice none 0 0] := by rw [← hN, ← hwo]; exact NBox.new _ _ _
  have HW := Lib.hid hwo
  have HNN := Lib.hid hN
  clear hwo hN
  have HE' := Lib.hid (HE.out.trans hE)
  have HL' := Lib.hid (rowV2.ext HL.out hE)
  have HO' := Lib.hid (owns_ext hE HO.out)
  clear hE
  replace HE := HE'; replace HL := HL'; replace HO := HO'
  clear HE' HL' HO'
  obtain ⟨us1, ho1, hla1⟩ := HL.out
  have hsz := Nat.le_trans HLX.out HE.out.size
  have hS : ∀ g, (Value.slice nA q.length nc).ownBlock = some g → ¬ rowS w0.heap.size (Value.slice A l.length c) g := fun g hg hk => hk.elim (fun h => absurd (owns_base HO.out g hg) (Nat.not_le.2 h)) (fun h => owns_apart ho1 HO.out (by decide) h hg)
  have hx : Late (rowS w0.heap.size (Value.slice A l.length c)) (fun W => (delO q).rd W (.agg #[.int .u8 2, .slice nA q.length nc, .int .i64 0, .slice none 0 0, .int .u64 0, .bool false, .string ⟨#[]⟩, .string ⟨#[]⟩, .string ⟨#[]⟩, .bool false, .slice none 0 0])) wo := op_late (o := delO q) HO.out hS rfl rfl (Nat.zero_le _) (Nat.zero_le _) (Nat.zero_le _) (show (0 : Int) ≤ 0 ∧ (0 : Int) ≤ 18446744073709551615 from by decide) (show (0 : Int) ≤ 2 ∧ (2 : Int) ≤ 255 from by decide)
  have hrow := bN.row
  have hones := ones11 (c0 := .int .u8 2) (c1 := .slice nA q.length nc) (c2 := .int .i64 0) (c3 := .slice none 0 0) (c4 := .int .u64 0) (c5 := .bool false) (c6 := .string ⟨#[]⟩) (c7 := .string ⟨#[]⟩) (c8 := .string ⟨#[]⟩) (c9 := .bool false) (c10 := .slice none 0 0) ⟨rfl, rfl, rfl, rfl, rfl, rfl, rfl, rfl, rfl, rfl, rfl⟩
  go_wp2_with (first | (at_builtin; rw [HW.out, HNN.out]; refine wpList_append_rd rfl rfl T31 (v := _) (by rfl) ho1 (by rfl) hrow hones (by omega) (by simp only [maxLen]; omega) hsz ?_; intro v4 w9 h4 hg hat4))
  have HL2 := Lib.hid (rowV2.push hla1 rfl hx hg hat4 h4)
  have HE2 := Lib.hid (Fr.ext HE.out (Fr.grown hg) (fun k hk => HLB.out k hk))
  obtain ⟨L2, hL2⟩ : ∃ L, l ++ [delO q] = L := ⟨_, rfl⟩
  have HF : Hid (joinL s kk.text = L2) := Lib.hid (by rw [HSL.out, HL1.out, hL2])
  rw [hL2] at HL2
  obtain ⟨A4, c4, rfl⟩ := lsV.slice HL2.out
  clear hx hS hla1 ho1 hg hat4 h4 bN hrow hones hsz HW HNN HE HO HL hL2
  go_wp2_with fail
  go_ret
  rw [HR.out, HF.out]
  exact ⟨HE2.out, _, rfl, HL2.out⟩
theorem enters42 : ∀ args W, (callFunc 42 args).run Try.prog W = .ok (.enter 42 args) W := fun args W => by kernel_rfl
set_option maxRecDepth 100000 in
set_option maxHeartbeats 2000000 in
theorem join21_any (t : Nd) (p : List Int) (tv pv : Value) (w : World) (ht : t.rd w tv) (hp : RdI w p pv) (hwt : t.wt ≤ 1000000) (hpl : p.length ≤ 10000) : Calls Try.prog 21 #[tv, pv] w (AskG lsV w (askG t p joinP)) := by
 obtain ⟨tA, tc, tK, td, rfl⟩ := rd_open6 ht
 obtain ⟨w1, hw1⟩ : ∃ W, w.alloc (.cells #[.int .u64 t.id, .bool t.leaf, .string t.label, .slice tA t.attrs.length tc, .string t.text, .slice tK t.kids.length td] 26) = W := ⟨_, rfl⟩
 obtain ⟨T, hT⟩ : ∃ T, w.heap.size = T := ⟨_, rfl⟩
 have E1 : Ext w w1 := by rw [← hw1]; exact (Ext.refl w).alloc _
 have bT : NBox w1 T 26 #[.int .u64 t.id, .bool t.leaf, .string t.label, .slice tA t.attrs.length tc, .string t.text, .slice tK t.kids.length td] := by rw [← hw1, ← hT]; exact NBox.new w 26 _
 have hc := ask26_gen lsV resV_ls 42 #[] enters42 joinP w1 t p (fun s sv w0 w2 _ _ X2 hsv hok => join42_any s sv w0 w2 X2 hsv hok) _ _ (Nd.rd_ext E1 ht) (RdS.ext E1 hp) hwt hpl
 have HE := Lib.hid E1
 have HW := Lib.hid hw1
 have HTT := Lib.hid hT
 obtain ⟨o, ho⟩ : ∃ o, askG t p joinP = o := ⟨_, rfl⟩
 rw [ho] at hc ⊢
 obtain ⟨t0, t1, t2, t3, t4, t5⟩ := bT.c6
 obtain ⟨aA, ac, rfl, -⟩ := hp
 clear hw1 hT E1 bT ht ho
 go_enter Try.func21, Try.ntmps21
 go_upto_region 1 with fail
 rw [HW.out, HTT.out]
 go_wp2_with fail
 refine hc.mono ?_
 clear hc t0 t1 t2 t3 t4 t5
 rintro e w2 ⟨hE, hP⟩
 have HX := Lib.hid (HE.out.trans hE)
 clear hE
 cases o with
 | error k =>
  subst hP
  go_wp2_with fail
  go_ret2
  exact ⟨HX.out, rfl⟩
 | ok x =>
  obtain ⟨v, rfl, hv⟩ := hP
  have HV := Lib.hid (resV_ls.low hv HE.out.size)
  obtain ⟨A, n, c, rfl⟩ := resV_ls.sl hv
  clear hv
  go_wp2_with fail
  go_ret2
  exact ⟨HX.out, _, rfl, HV.out⟩
end Go.Proofs.Ytofcbclokkjfjaa.Wi
