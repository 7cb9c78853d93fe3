/- Chapter 24: Split's closure (39). (Printed by gousplit.py.) -/
import Derived.Test.YtofcbclokkjfjaaOuEdit
namespace Go.Proofs.Ytofcbclokkjfjaa.Wi
open Go.RowKit Go.Proofs.Ytofcbclokkjfjaa.Bw Go.Proofs.Ytofcbclokkjfjaa.Bs

def newO (p : List Int) (i id : Int) (lb : ByteArray) : OpD := ⟨1, p, i, [], id, true, lb, ⟨#[]⟩, ⟨#[]⟩, false, []⟩
def atrO (p : List Int) (a : Atr) : OpD := ⟨4, p, 0, [], 0, false, ⟨#[]⟩, a.1, a.2, false, []⟩
def splL (cut id : Int) (s : SpD) (rest : ByteArray) : List OpD := editL rest s.p ⟨cut, rest.size, ⟨#[]⟩⟩ ++ [newO s.up (s.i + 1) id s.x.label] ++ s.x.attrs.map (atrO (s.up ++ [s.i + 1])) ++ editL rest (s.up ++ [s.i + 1]) ⟨0, 0, rest⟩
def splP (cut id : Int) (s : SpD) : Except Int (List OpD) := if s.x.leaf = false then .error 83 else if 0 ≤ cut ∧ cut ≤ (s.x.text.size : Int) then .ok (splL cut id s (s.x.text.extract cut.toNat s.x.text.size)) else .error 2
set_option maxRecDepth 100000 in
set_option maxHeartbeats 8000000 in
theorem spl39_any (cut id : Int) (C I : Nat) (s : SpD) (sv : Value) (w0 w : World) (hX : Ext w0 w) (hs : SpV w0 w s sv) (ho : SpOk s) (hC : w.cell? ⟨C, 0, none⟩ = some (.int .i64 cut)) (hI : w.cell? ⟨I, 0, none⟩ = some (.int .u64 id)) (hid : 0 ≤ id ∧ id ≤ 18446744073709551615) (hpl : s.p.length ≤ 10000) (hat : s.x.attrs.length ≤ 1000000) :
  Calls Try.prog 39 #[sv, .pointer (some ⟨C, 0, none⟩), .pointer (some ⟨I, 0, none⟩)] w (ClG lsV w0 w (splP cut id s)) := by
 have hs0 := hs
 obtain ⟨xA, xc, xK, xd, pA, pc, uA, uc, yA, yc, yK, yd, rfl, hxr, hyr, hP, hU⟩ := hs
 obtain ⟨w1, hw1⟩ : ∃ W, w.alloc (.cells #[.int .u64 s.x.id, .bool s.x.leaf, .string s.x.label, .slice xA s.x.attrs.length xc, .string s.x.text, .slice xK s.x.kids.length xd, .slice pA s.p.length pc, .slice uA s.up.length uc, .int .i64 s.i, .int .u64 s.par.id, .bool s.par.leaf, .string s.par.label, .slice yA s.par.attrs.length yc, .string s.par.text, .slice yK s.par.kids.length yd] 52) = W := ⟨_, rfl⟩
 obtain ⟨X, hXX⟩ : ∃ X, w.heap.size = X := ⟨_, rfl⟩
 have E1 : Ext w w1 := by rw [← hw1]; exact (Ext.refl w).alloc _
 have bX : NBox w1 X 52 #[.int .u64 s.x.id, .bool s.x.leaf, .string s.x.label, .slice xA s.x.attrs.length xc, .string s.x.text, .slice xK s.x.kids.length xd, .slice pA s.p.length pc, .slice uA s.up.length uc, .int .i64 s.i, .int .u64 s.par.id, .bool s.par.leaf, .string s.par.label, .slice yA s.par.attrs.length yc, .string s.par.text, .slice yK s.par.kids.length yd] := by rw [← hw1, ← hXX]; exact NBox.new _ _ _
 have HE := Lib.hid E1
 have HX0 := Lib.hid hX
 have HB := Lib.hid bX
 have HU := Lib.hid (owns_ext E1 hU)
 have HPP := Lib.hid (owns_ext E1 hP)
 have HXR := Lib.hid (Nd.rd_ext (hX.trans E1) hxr)
 have HXR0 := Lib.hid hxr
 have hmf : ∀ (fn : Fn) (first cap : Array Value) (w : World), (Instr.makeFunc fn first cap).run Try.prog w = .ok (.func fn first cap) w := fun _ _ _ _ => rfl
 have HW := Lib.hid hw1
 have HXX := Lib.hid hXX
 have hi0 := ho.i0
 have hi1 := ho.i1
 have hul := ho.up
 have hkl := ho.kids
 have HID := Lib.hid hid
 have HCL := Lib.hid (lt_of_cell hC)
 have HIL := Lib.hid (lt_of_cell hI)
 have HLAB : Hid (okStr s.x.label) := Lib.hid (by obtain ⟨_, _, _, _, _, h, _, _⟩ := Nd.rd_open hxr; exact h)
 have HTXT : Hid (okStr s.x.text) := Lib.hid (by obtain ⟨_, _, _, _, _, _, h, _⟩ := Nd.rd_open hxr; exact h)
 have c0 := E1.cell hC
 have i0 := E1.cell hI
 have HC := Lib.hid c0
 have HI := Lib.hid i0
 clear hw1 hXX E1 hP hU hX hxr hyr hs0 ho hC hI hid
 have k0 := bX.cell 0
 have k1 := bX.cell 1
 have k2 := bX.cell 2
 have k3 := bX.cell 3
 have k4 := bX.cell 4
 have k5 := bX.cell 5
 have k6 := bX.cell 6
 have k7 := bX.cell 7
 have k8 := bX.cell 8
 have k9 := bX.cell 9
 have k10 := bX.cell 10
 have k11 := bX.cell 11
 have k12 := bX.cell 12
 have k13 := bX.cell 13
 have k14 := bX.cell 14
 clear bX
 have HSP := Lib.hid (show splP cut id s = if s.x.leaf = false then .error 83 else if 0 ≤ cut ∧ cut ≤ (s.x.text.size : Int) then .ok (splL cut id s (s.x.text.extract cut.toNat s.x.text.size)) else .error 2 from rfl)
 go_enter Try.func39, Try.ntmps39
 go_upto_region 1 with fail
 rw [HW.out, HXX.out]
 clear HW HXX
 cases hlf : s.x.leaf with
 | false =>
  have HR : Hid (splP cut id s = .error 83) := Lib.hid (by rw [HSP.out, if_pos hlf])
  rw [hlf] at k1
  have hn := need_no 83 w1
  go_wp2_with fail
  refine hn.mono ?_
  rintro e u ⟨rfl, rfl⟩
  go_wp2_with fail
  rw [HR.out]
  exact ⟨rfl, HE.out, rfl⟩
 | true =>
 rw [hlf] at k1
 have HSP2 := Lib.hid (show splP cut id s = if 0 ≤ cut ∧ cut ≤ (s.x.text.size : Int) then .ok (splL cut id s (s.x.text.extract cut.toNat s.x.text.size)) else .error 2 from by rw [HSP.out, if_neg (by rw [hlf]; exact Bool.noConfusion)])
 clear HSP
 have hn := need_yes 83 w1
 go_wp2_with fail
 refine hn.mono ?_
 clear hn
 rintro e u ⟨he, rfl⟩
 obtain rfl : e = .returned (.tuple #[]) := he
 by_cases hc1 : 0 ≤ cut
 case neg =>
  have HR : Hid (splP cut id s = .error 2) := Lib.hid (by rw [HSP2.out, if_neg (fun h => hc1 h.1)])
  have t1 : decide (0 ≤ cut) = false := decide_eq_false hc1
  have hn := need_no 2 w1
  go_wp2_with fail
  refine hn.mono ?_
  rintro e u ⟨rfl, rfl⟩
  go_wp2_with fail
  rw [HR.out]
  exact ⟨rfl, HE.out, rfl⟩
 have t1 : decide (0 ≤ cut) = true := decide_eq_true hc1
 by_cases hc2 : cut ≤ (s.x.text.size : Int)
 case neg =>
  have HR : Hid (splP cut id s = .error 2) := Lib.hid (by rw [HSP2.out, if_neg (fun h => hc2 h.2)])
  have t2 : decide (cut ≤ (s.x.text.size : Int)) = false := decide_eq_false hc2
  have hn := need_no 2 w1
  go_wp2_with fail
  refine hn.mono ?_
  rintro e u ⟨rfl, rfl⟩
  go_wp2_with fail
  rw [HR.out]
  exact ⟨rfl, HE.out, rfl⟩
 have t2 : decide (cut ≤ (s.x.text.size : Int)) = true := decide_eq_true hc2
 have HR : Hid (splP cut id s = .ok (splL cut id s (s.x.text.extract cut.toNat s.x.text.size))) := Lib.hid (by rw [HSP2.out, if_pos ⟨hc1, hc2⟩])
 clear HSP2
 have hn := need_yes 2 w1
 go_wp2_with fail
 refine hn.mono ?_
 clear hn
 rintro e u ⟨he, rfl⟩
 obtain rfl : e = .returned (.tuple #[]) := he
 have q7 : IntKind.i64.wrap (s.i + 1) = s.i + 1 := IntWalk.i64_in _ (by omega)
 obtain ⟨m, rfl⟩ := Int.eq_ofNat_of_zero_le hc1
 have hmt : m ≤ s.x.text.size := by omega
 obtain ⟨rest, hrest⟩ : ∃ r, s.x.text.extract m s.x.text.size = r := ⟨_, rfl⟩
 rw [show (Int.toNat (m : Int)) = m from rfl, hrest] at HR
 obtain ⟨q, hqq⟩ : ∃ q, s.up ++ [s.i + 1] = q := ⟨_, rfl⟩
 have hql : q.length ≤ 10001 := by rw [← hqq, List.length_append, List.length_cons, List.length_nil]; omega
 have HREST : Hid (okStr rest) := Lib.hid (by have h := HTXT.out; unfold okStr at h ⊢; rw [← hrest, ByteArray.size_extract]; omega)
 have HSL := Lib.hid (show splL m id s rest = editL rest s.p ⟨m, rest.size, ⟨#[]⟩⟩ ++ [newO s.up (s.i + 1) id s.x.label] ++ s.x.attrs.map (atrO q) ++ editL rest q ⟨0, 0, rest⟩ from by unfold splL; rw [hqq])
 go_upto_region 3 with fail
 clear k0 k1 k2 k3 k4 k5 k6 k7 k8 k9 k10 k11 k12 k13 k14 c0 i0 hlf t1 t2 hc2
 obtain ⟨d0, hd0⟩ : ∃ d0, w1.drew = d0 := ⟨_, rfl⟩
 have XC : Ext w1 d0 := by rw [← hd0]; exact (Ext.refl _).drew
 have HE' := Lib.hid (HE.out.trans XC)
 have HB' := Lib.hid (HB.out.ext XC)
 have HU' := Lib.hid (owns_ext XC HU.out)
 have HPP' := Lib.hid (owns_ext XC HPP.out)
 have HXR' := Lib.hid (Nd.rd_ext XC HXR.out)
 have HC' := Lib.hid (XC.cell HC.out)
 have HI' := Lib.hid (XC.cell HI.out)
 clear XC
 replace HE := HE'; replace HB := HB'; replace HU := HU'; replace HPP := HPP'; replace HXR := HXR'; replace HC := HC'; replace HI := HI'
 clear HE' HB' HU' HPP' HXR' HC' HI'
 refine wp_region_held_drew (S := (fun W => NBox W X 52 #[.int .u64 s.x.id, .bool s.x.leaf, .string s.x.label, .slice xA s.x.attrs.length xc, .string s.x.text, .slice xK s.x.kids.length xd, .slice pA s.p.length pc, .slice uA s.up.length uc, .int .i64 s.i, .int .u64 s.par.id, .bool s.par.leaf, .string s.par.label, .slice yA s.par.attrs.length yc, .string s.par.text, .slice yK s.par.kids.length yd] ∧ W.cell? ⟨C, 0, none⟩ = some (.int .i64 (m : Int)))) (by kernel_rfl) (by rw [hd0]; exact ⟨HB.out, HC.out⟩) (fun hHeld => ?_)
 rw [hd0] at hHeld ⊢
 clear hd0
 refine tk 0 ?_ rfl (.inl ⟨by rfl, ?_⟩) hHeld ?_
 rotate_left
 ·intro w hSw
  try dsimp only at hSw
  go_simp
  all_goals (first | with_reducible rfl | rw [if_pos (by omega)])
 try simp only [Act.put, aS]
 refine tk 1 ?_ rfl (.inl ⟨by rfl, ?_⟩) hHeld ?_
 rotate_left
 ·intro w hSw
  try dsimp only at hSw
  go_simp
  all_goals (first | with_reducible rfl | rw [if_pos (by omega)])
 try simp only [Act.put, aS]
 refine tk 2 ?_ rfl (.inl ⟨by rfl, ?_⟩) hHeld ?_
 rotate_left
 ·intro w hSw
  obtain ⟨hb, hz⟩ : NBox w X 52 _ ∧ _ := hSw
  have g0 := hb.cell 0
  have g1 := hb.cell 1
  have g2 := hb.cell 2
  have g3 := hb.cell 3
  have g4 := hb.cell 4
  have g5 := hb.cell 5
  have g6 := hb.cell 6
  have g7 := hb.cell 7
  have g8 := hb.cell 8
  have g9 := hb.cell 9
  have g10 := hb.cell 10
  have g11 := hb.cell 11
  have g12 := hb.cell 12
  have g13 := hb.cell 13
  have g14 := hb.cell 14
  clear hb
  go_simp
  all_goals (first | with_reducible rfl | rw [if_pos (by omega)])
 try simp only [Act.put, aS]
 refine tk 3 ?_ rfl (.inl ⟨by rfl, ?_⟩) hHeld ?_
 rotate_left
 ·intro w hSw
  obtain ⟨hb, hz⟩ : NBox w X 52 _ ∧ _ := hSw
  have g0 := hb.cell 0
  have g1 := hb.cell 1
  have g2 := hb.cell 2
  have g3 := hb.cell 3
  have g4 := hb.cell 4
  have g5 := hb.cell 5
  have g6 := hb.cell 6
  have g7 := hb.cell 7
  have g8 := hb.cell 8
  have g9 := hb.cell 9
  have g10 := hb.cell 10
  have g11 := hb.cell 11
  have g12 := hb.cell 12
  have g13 := hb.cell 13
  have g14 := hb.cell 14
  clear hb
  go_simp
  all_goals (first | with_reducible rfl | rw [if_pos (by omega)])
 try simp only [Act.put, aS]
 refine tk 4 ?_ rfl (.inl ⟨by rfl, ?_⟩) hHeld ?_
 rotate_left
 ·intro w hSw
  try dsimp only at hSw
  go_simp
  all_goals (first | with_reducible rfl | rw [if_pos (by omega)])
 try simp only [Act.put, aS]
 refine tk 5 ?_ rfl (.inl ⟨by rfl, ?_⟩) hHeld ?_
 rotate_left
 ·intro w hSw
  try dsimp only at hSw
  go_simp
  all_goals (first | with_reducible rfl | rw [if_pos (by omega)])
 try simp only [Act.put, aS]
 refine tk 6 ?_ rfl (.inl ⟨by rfl, ?_⟩) hHeld ?_
 rotate_left
 ·intro w hSw
  obtain ⟨hb, hz⟩ : NBox w X 52 _ ∧ _ := hSw
  have g0 := hb.cell 0
  have g1 := hb.cell 1
  have g2 := hb.cell 2
  have g3 := hb.cell 3
  have g4 := hb.cell 4
  have g5 := hb.cell 5
  have g6 := hb.cell 6
  have g7 := hb.cell 7
  have g8 := hb.cell 8
  have g9 := hb.cell 9
  have g10 := hb.cell 10
  have g11 := hb.cell 11
  have g12 := hb.cell 12
  have g13 := hb.cell 13
  have g14 := hb.cell 14
  clear hb
  go_simp
  all_goals (first | with_reducible rfl | rw [if_pos (by omega)])
 try simp only [Act.put, aS]
 refine tk 7 ?_ rfl (.inl ⟨by rfl, ?_⟩) hHeld ?_
 rotate_left
 ·intro w hSw
  try dsimp only at hSw
  go_simp
  all_goals (first | with_reducible rfl | rw [if_pos (by omega)])
 try simp only [Act.put, aS]
 refine tk 8 ?_ rfl (.inl ⟨by rfl, ?_⟩) hHeld ?_
 rotate_left
 ·intro w hSw
  obtain ⟨hb, hz⟩ : NBox w X 52 _ ∧ _ := hSw
  have g0 := hb.cell 0
  have g1 := hb.cell 1
  have g2 := hb.cell 2
  have g3 := hb.cell 3
  have g4 := hb.cell 4
  have g5 := hb.cell 5
  have g6 := hb.cell 6
  have g7 := hb.cell 7
  have g8 := hb.cell 8
  have g9 := hb.cell 9
  have g10 := hb.cell 10
  have g11 := hb.cell 11
  have g12 := hb.cell 12
  have g13 := hb.cell 13
  have g14 := hb.cell 14
  clear hb
  go_simp
  all_goals (first | with_reducible rfl | rw [if_pos (by omega)])
 try simp only [Act.put, aS]
 refine tk 9 ?_ rfl (.inl ⟨by rfl, ?_⟩) hHeld ?_
 rotate_left
 ·intro w hSw
  try dsimp only at hSw
  go_simp
  all_goals (first | with_reducible rfl | rw [if_pos (by omega)])
 try simp only [Act.put, aS]
 refine wpAnyH_ready (rs := [10, 11]) (by kernel_rfl) (by simp) ?_
 refine AllReadyH.cons (o := ⟨_, _, _, _, _, _⟩) rfl (fun K' hK => ?_) (AllReadyH.cons (o := ⟨_, _, _, _, _, _⟩) rfl (fun K' hK => ?_) AllReadyH.nil)
 ·-- the path first
  have hq := pchild_any s.up (s.i + 1) _ d0 (RdS.of_owns HU.out) (by omega)
  rw [hqq] at hq
  go_simp
  go_at_call 30
  refine hq.mono ?_
  clear hq
  rintro e d1 ⟨r, rfl, hO, hE⟩
  have HO := Lib.hid (owns_lo hO (Nat.le_trans HX0.out.size HE.out.size))
  obtain ⟨nA, nc, rfl, -⟩ := RdS.of_owns hO
  have HE' := Lib.hid (HE.out.trans hE)
  have HB' := Lib.hid (HB.out.ext hE)
  have HU' := Lib.hid (owns_ext hE HU.out)
  have HPP' := Lib.hid (owns_ext hE HPP.out)
  have HXR' := Lib.hid (Nd.rd_ext hE HXR.out)
  have HC' := Lib.hid (hE.cell HC.out)
  have HI' := Lib.hid (hE.cell HI.out)
  refine hK.out _ _ (show _ ∧ _ from ⟨hHeld.1.ext hE, hE.cell hHeld.2⟩) (fun hHeld => ?_)
  clear hK K' hO hE
  try simp only [Act.put, aS]
  replace HE := HE'; replace HB := HB'; replace HU := HU'; replace HPP := HPP'; replace HXR := HXR'; replace HC := HC'; replace HI := HI'
  clear HE' HB' HU' HPP' HXR' HC' HI'
  refine wpAnyH_ready (rs := [11]) (by kernel_rfl) (by simp) ?_
  refine AllReadyH.cons (o := ⟨_, _, _, _, _, _⟩) rfl (fun K' hK => ?_) AllReadyH.nil
  obtain ⟨d2, hw⟩ : ∃ W, d1.alloc (.cells #[.string ⟨#[]⟩] 9) = W := ⟨_, rfl⟩
  obtain ⟨R, hRR⟩ : ∃ g, d1.heap.size = g := ⟨_, rfl⟩
  have hE : Ext d1 d2 := by rw [← hw]; exact (Ext.refl _).alloc _
  have HR9 := Lib.hid (show NBox d2 R 9 #[.string ⟨#[]⟩] from by rw [← hw, ← hRR]; exact NBox.new _ _ _)
  have HLR := Lib.hid (show w.heap.size ≤ R from by rw [← hRR]; exact HE.out.size)
  have HXN := Lib.hid (show X ≠ R from by rw [← hRR]; exact Nat.ne_of_lt HB.out.lt)
  have HCN := Lib.hid (show C ≠ R from by rw [← hRR]; exact Nat.ne_of_lt (lt_of_cell HC.out))
  have HIN := Lib.hid (show I ≠ R from by rw [← hRR]; exact Nat.ne_of_lt (lt_of_cell HI.out))
  have HW := Lib.hid hw
  have HRR := Lib.hid hRR
  clear hw hRR
  have HE' := Lib.hid (HE.out.trans hE)
  have HB' := Lib.hid (HB.out.ext hE)
  have HU' := Lib.hid (owns_ext hE HU.out)
  have HPP' := Lib.hid (owns_ext hE HPP.out)
  have HXR' := Lib.hid (Nd.rd_ext hE HXR.out)
  have HC' := Lib.hid (hE.cell HC.out)
  have HI' := Lib.hid (hE.cell HI.out)
  have HO' := Lib.hid (owns_ext hE HO.out)
  go_simp
  rw [HW.out, HRR.out]
  refine hK.out _ _ (show _ ∧ _ from ⟨hHeld.1.ext hE, hE.cell hHeld.2⟩) (fun hHeld => ?_)
  clear hK K' hE HW HRR
  try simp only [Act.put, aS]
  replace HE := HE'; replace HB := HB'; replace HU := HU'; replace HPP := HPP'; replace HXR := HXR'; replace HC := HC'; replace HI := HI'; replace HO := HO'
  clear HE' HB' HU' HPP' HXR' HC' HI' HO'
  have r0 := HR9.out.cell 0
  have r1 := HR9.out.frozen 0
  refine wpAnyH_ready (rs := [12]) (by kernel_rfl) (by simp) ?_
  refine AllReadyH.cons (o := ⟨_, _, _, _, _, _⟩) rfl (fun K' hK => ?_) AllReadyH.nil
  go_simp
  obtain ⟨d3, hw⟩ : ∃ W, d2.setCell ⟨R, 0, none⟩ (.string rest) = W := ⟨_, rfl⟩
  have F : Fr d2 d3 (fun k => k = R) := by rw [← hw]; exact Fr.setCell _ _ _ _
  have HR9' := Lib.hid (show NBox d3 R 9 #[.string rest] from by rw [← hw]; exact HR9.out.set 0 _)
  rw [hw]
  have HE' := Lib.hid (Fr.ext HE.out F (fun q hq => by rw [show q = R from hq]; exact HLR.out))
  have HB' := Lib.hid (HB.out.fr F HXN.out)
  have HU' := Lib.hid (owns_fr F HU.out (fun g hg hk => HR9.out.not_own HU.out (by decide) (by rw [hg, show g = R from hk])))
  have HPP' := Lib.hid (owns_fr F HPP.out (fun g hg hk => HR9.out.not_own HPP.out (by decide) (by rw [hg, show g = R from hk])))
  have HO' := Lib.hid (owns_fr F HO.out (fun g hg hk => HR9.out.not_own HO.out (by decide) (by rw [hg, show g = R from hk])))
  have HC' := Lib.hid (F.cell HCN.out HC.out)
  have HI' := Lib.hid (F.cell HIN.out HI.out)
  refine hK.out _ _ (show _ ∧ _ from ⟨HB'.out, HC'.out⟩) (fun hHeld => ?_)
  clear hK K' F hw r0 r1 HXR
  try simp only [Act.put, aS]
  replace HE := HE'; replace HB := HB'; replace HU := HU'; replace HPP := HPP'; replace HO := HO'; replace HC := HC'; replace HI := HI'; replace HR9 := HR9'
  clear HE' HB' HU' HPP' HO' HC' HI' HR9'
  refine tk 13 ?_ rfl (.inl ⟨by rfl, ?_⟩) hHeld ?_
  rotate_left
  ·intro w hSw
   try dsimp only at hSw
   go_simp
   all_goals (first | with_reducible rfl | rw [if_pos (by omega)])
  try simp only [Act.put, aS]
  refine wpAnyH_done (by kernel_rfl) ?_ _
  clear hHeld
  have hHR : (HR9.out.cell 0 : _) = HR9.out.cell 0 := rfl
  clear hHR
  go_upto_region 5 with fail
  obtain ⟨e0, he0⟩ : ∃ d0, d3.drew = d0 := ⟨_, rfl⟩
  have hE : Ext d3 e0 := by rw [← he0]; exact (Ext.refl _).drew
  have HE' := Lib.hid (HE.out.trans hE)
  have HB' := Lib.hid (HB.out.ext hE)
  have HU' := Lib.hid (owns_ext hE HU.out)
  have HPP' := Lib.hid (owns_ext hE HPP.out)
  have HO' := Lib.hid (owns_ext hE HO.out)
  have HC' := Lib.hid (hE.cell HC.out)
  have HI' := Lib.hid (hE.cell HI.out)
  have HR9' := Lib.hid (HR9.out.ext hE)
  clear hE
  replace HE := HE'; replace HB := HB'; replace HU := HU'; replace HPP := HPP'; replace HO := HO'; replace HC := HC'; replace HI := HI'; replace HR9 := HR9'
  clear HE' HB' HU' HPP' HO' HC' HI' HR9'
  refine wp_region_held_drew (S := (fun W => NBox W X 52 #[.int .u64 s.x.id, .bool s.x.leaf, .string s.x.label, .slice xA s.x.attrs.length xc, .string s.x.text, .slice xK s.x.kids.length xd, .slice pA s.p.length pc, .slice uA s.up.length uc, .int .i64 s.i, .int .u64 s.par.id, .bool s.par.leaf, .string s.par.label, .slice yA s.par.attrs.length yc, .string s.par.text, .slice yK s.par.kids.length yd] ∧ W.cell? ⟨C, 0, none⟩ = some (.int .i64 (m : Int)) ∧ W.cell? ⟨I, 0, none⟩ = some (.int .u64 id) ∧ W.cell? ⟨R, 0, none⟩ = some (.string rest))) (by kernel_rfl) (by rw [he0]; exact ⟨HB.out, HC.out, HI.out, HR9.out.cell 0⟩) (fun hHeld => ?_)
  rw [he0] at hHeld ⊢
  clear he0
  refine tk 0 ?_ rfl (.inl ⟨by rfl, ?_⟩) hHeld ?_
  rotate_left
  ·intro w hSw
   try dsimp only at hSw
   go_simp
   all_goals (first | with_reducible rfl | rw [if_pos (by omega)])
  try simp only [Act.put, aS]
  refine tk 1 ?_ rfl (.inl ⟨by rfl, ?_⟩) hHeld ?_
  rotate_left
  ·intro w hSw
   try dsimp only at hSw
   go_simp
   all_goals (first | with_reducible rfl | rw [if_pos (by omega)])
  try simp only [Act.put, aS]
  refine tk 2 ?_ rfl (.inl ⟨by rfl, ?_⟩) hHeld ?_
  rotate_left
  ·intro w hSw
   obtain ⟨hb, hz1, hz2, hz3⟩ : NBox w X 52 _ ∧ _ := hSw
   have g0 := hb.cell 0
   have g1 := hb.cell 1
   have g2 := hb.cell 2
   have g3 := hb.cell 3
   have g4 := hb.cell 4
   have g5 := hb.cell 5
   have g6 := hb.cell 6
   have g7 := hb.cell 7
   have g8 := hb.cell 8
   have g9 := hb.cell 9
   have g10 := hb.cell 10
   have g11 := hb.cell 11
   have g12 := hb.cell 12
   have g13 := hb.cell 13
   have g14 := hb.cell 14
   clear hb
   go_simp
   all_goals (first | with_reducible rfl | rw [if_pos (by omega)])
  try simp only [Act.put, aS]
  refine tk 3 ?_ rfl (.inl ⟨by rfl, ?_⟩) hHeld ?_
  rotate_left
  ·intro w hSw
   obtain ⟨hb, hz1, hz2, hz3⟩ : NBox w X 52 _ ∧ _ := hSw
   have g0 := hb.cell 0
   have g1 := hb.cell 1
   have g2 := hb.cell 2
   have g3 := hb.cell 3
   have g4 := hb.cell 4
   have g5 := hb.cell 5
   have g6 := hb.cell 6
   have g7 := hb.cell 7
   have g8 := hb.cell 8
   have g9 := hb.cell 9
   have g10 := hb.cell 10
   have g11 := hb.cell 11
   have g12 := hb.cell 12
   have g13 := hb.cell 13
   have g14 := hb.cell 14
   clear hb
   go_simp
   all_goals (first | with_reducible rfl | rw [if_pos (by omega)])
  try simp only [Act.put, aS]
  refine tk 4 ?_ rfl (.inl ⟨by rfl, ?_⟩) hHeld ?_
  rotate_left
  ·intro w hSw
   obtain ⟨hb, hz1, hz2, hz3⟩ : NBox w X 52 _ ∧ _ := hSw
   have g0 := hb.cell 0
   have g1 := hb.cell 1
   have g2 := hb.cell 2
   have g3 := hb.cell 3
   have g4 := hb.cell 4
   have g5 := hb.cell 5
   have g6 := hb.cell 6
   have g7 := hb.cell 7
   have g8 := hb.cell 8
   have g9 := hb.cell 9
   have g10 := hb.cell 10
   have g11 := hb.cell 11
   have g12 := hb.cell 12
   have g13 := hb.cell 13
   have g14 := hb.cell 14
   clear hb
   go_simp
   all_goals (first | with_reducible rfl | rw [if_pos (by omega)])
  try simp only [Act.put, aS]
  refine tk 5 ?_ rfl (.inl ⟨by rfl, ?_⟩) hHeld ?_
  rotate_left
  ·intro w hSw
   try dsimp only at hSw
   go_simp
   all_goals (first | with_reducible rfl | rw [if_pos (by omega)])
  try simp only [Act.put, aS]
  refine tk 6 ?_ rfl (.inl ⟨by rfl, ?_⟩) hHeld ?_
  rotate_left
  ·intro w hSw
   try dsimp only at hSw
   go_simp
   all_goals (first | with_reducible rfl | rw [if_pos (by omega)])
  try simp only [Act.put, aS]
  refine tk 8 ?_ rfl (.inl ⟨by rfl, ?_⟩) hHeld ?_
  rotate_left
  ·intro w hSw
   try dsimp only at hSw
   go_simp
   all_goals (first | with_reducible rfl | rw [if_pos (by omega)])
  try simp only [Act.put, aS]
  refine tk 9 ?_ rfl (.inl ⟨by rfl, ?_⟩) hHeld ?_
  rotate_left
  ·intro w hSw
   obtain ⟨hb, hz1, hz2, hz3⟩ : NBox w X 52 _ ∧ _ := hSw
   have g0 := hb.cell 0
   have g1 := hb.cell 1
   have g2 := hb.cell 2
   have g3 := hb.cell 3
   have g4 := hb.cell 4
   have g5 := hb.cell 5
   have g6 := hb.cell 6
   have g7 := hb.cell 7
   have g8 := hb.cell 8
   have g9 := hb.cell 9
   have g10 := hb.cell 10
   have g11 := hb.cell 11
   have g12 := hb.cell 12
   have g13 := hb.cell 13
   have g14 := hb.cell 14
   clear hb
   go_simp
   all_goals (first | with_reducible rfl | rw [if_pos (by omega)])
  try simp only [Act.put, aS]
  refine tk 10 ?_ rfl (.inl ⟨by rfl, ?_⟩) hHeld ?_
  rotate_left
  ·intro w hSw
   try dsimp only at hSw
   go_simp
   all_goals (first | with_reducible rfl | rw [if_pos (by omega)])
  try simp only [Act.put, aS]
  refine tk 11 ?_ rfl (.inl ⟨by rfl, ?_⟩) hHeld ?_
  rotate_left
  ·intro w hSw
   obtain ⟨hb, hz1, hz2, hz3⟩ : NBox w X 52 _ ∧ _ := hSw
   have g0 := hb.cell 0
   have g1 := hb.cell 1
   have g2 := hb.cell 2
   have g3 := hb.cell 3
   have g4 := hb.cell 4
   have g5 := hb.cell 5
   have g6 := hb.cell 6
   have g7 := hb.cell 7
   have g8 := hb.cell 8
   have g9 := hb.cell 9
   have g10 := hb.cell 10
   have g11 := hb.cell 11
   have g12 := hb.cell 12
   have g13 := hb.cell 13
   have g14 := hb.cell 14
   clear hb
   go_simp
   all_goals (first | with_reducible rfl | rw [if_pos (by omega)])
  try simp only [Act.put, aS]
  refine tk 12 ?_ rfl (.inl ⟨by rfl, ?_⟩) hHeld ?_
  rotate_left
  ·intro w hSw
   try dsimp only at hSw
   go_simp
   all_goals (first | with_reducible rfl | rw [if_pos (by omega)])
  try simp only [Act.put, aS]
  refine tk 13 ?_ rfl (.inl ⟨by rfl, ?_⟩) hHeld ?_
  rotate_left
  ·intro w hSw
   obtain ⟨hb, hz1, hz2, hz3⟩ : NBox w X 52 _ ∧ _ := hSw
   have g0 := hb.cell 0
   have g1 := hb.cell 1
   have g2 := hb.cell 2
   have g3 := hb.cell 3
   have g4 := hb.cell 4
   have g5 := hb.cell 5
   have g6 := hb.cell 6
   have g7 := hb.cell 7
   have g8 := hb.cell 8
   have g9 := hb.cell 9
   have g10 := hb.cell 10
   have g11 := hb.cell 11
   have g12 := hb.cell 12
   have g13 := hb.cell 13
   have g14 := hb.cell 14
   clear hb
   go_simp
   all_goals (first | with_reducible rfl | rw [if_pos (by omega)])
  try simp only [Act.put, aS]
  refine tk 14 ?_ rfl (.inl ⟨by rfl, ?_⟩) hHeld ?_
  rotate_left
  ·intro w hSw
   try dsimp only at hSw
   go_simp
   all_goals (first | with_reducible rfl | rw [if_pos (by omega)])
  try simp only [Act.put, aS]
  refine tk 15 ?_ rfl (.inl ⟨by rfl, ?_⟩) hHeld ?_
  rotate_left
  ·intro w hSw
   try dsimp only at hSw
   go_simp
   all_goals (first | with_reducible rfl | rw [if_pos (by omega)])
  try simp only [Act.put, aS]
  refine tk 16 ?_ rfl (.inl ⟨by rfl, ?_⟩) hHeld ?_
  rotate_left
  ·intro w hSw
   obtain ⟨hb, hz1, hz2, hz3⟩ : NBox w X 52 _ ∧ _ := hSw
   have g0 := hb.cell 0
   have g1 := hb.cell 1
   have g2 := hb.cell 2
   have g3 := hb.cell 3
   have g4 := hb.cell 4
   have g5 := hb.cell 5
   have g6 := hb.cell 6
   have g7 := hb.cell 7
   have g8 := hb.cell 8
   have g9 := hb.cell 9
   have g10 := hb.cell 10
   have g11 := hb.cell 11
   have g12 := hb.cell 12
   have g13 := hb.cell 13
   have g14 := hb.cell 14
   clear hb
   go_simp
   all_goals (first | with_reducible rfl | rw [if_pos (by omega)])
  try simp only [Act.put, aS]
  refine tk 17 ?_ rfl (.inl ⟨by rfl, ?_⟩) hHeld ?_
  rotate_left
  ·intro w hSw
   try dsimp only at hSw
   go_simp
   all_goals (first | with_reducible rfl | rw [if_pos (by omega)])
  try simp only [Act.put, aS]
  refine wpAnyH_ready (rs := [7, 18]) (by kernel_rfl) (by simp) ?_
  refine AllReadyH.cons (o := ⟨_, _, _, _, _, _⟩) rfl (fun K' hK => ?_) (AllReadyH.cons (o := ⟨_, _, _, _, _, _⟩) rfl (fun K' hK => ?_) AllReadyH.nil)
  ·-- the edit first
   have hq := edit40_any s.p ⟨m, rest.size, ⟨#[]⟩⟩ rest _ e0 R (RdS.of_owns HPP.out) (HR9.out.cell 0) (by omega) (Nat.zero_le _)
   obtain ⟨L1, hL1⟩ : ∃ L, editL rest s.p ⟨m, rest.size, ⟨#[]⟩⟩ = L := ⟨_, rfl⟩
   have hl1 : L1.length ≤ 1 := by rw [← hL1]; exact editL_len _ _ _
   rw [hL1] at hq
   have HL1 := Lib.hid hL1
   clear hL1
   go_simp
   go_at_call 40
   refine hq.mono ?_
   clear hq
   rintro e e1 ⟨hE, v, rfl, hv⟩
   have HL := Lib.hid (rowV2.low hv (Nat.le_trans HX0.out.size HE.out.size))
   have HLB : Hid (∀ k, v.ownBlock = some k → w.heap.size ≤ k) := Lib.hid (fun k hk => by obtain ⟨_, h, _⟩ := hv; exact Nat.le_trans HE.out.size (owns_base h k hk))
   obtain ⟨A1, c1, rfl⟩ := lsV.slice hv
   have HE' := Lib.hid (HE.out.trans hE)
   have HB' := Lib.hid (HB.out.ext hE)
   have HU' := Lib.hid (owns_ext hE HU.out)
   have HPP' := Lib.hid (owns_ext hE HPP.out)
   have HO' := Lib.hid (owns_ext hE HO.out)
   have HC' := Lib.hid (hE.cell HC.out)
   have HI' := Lib.hid (hE.cell HI.out)
   have HR9' := Lib.hid (HR9.out.ext hE)
   refine hK.out _ _ (show _ ∧ _ from ⟨hHeld.1.ext hE, hE.cell hHeld.2.1, hE.cell hHeld.2.2.1, hE.cell hHeld.2.2.2⟩) (fun hHeld => ?_)
   clear hK K' hE hv
   try simp only [Act.put, aS]
   replace HE := HE'; replace HB := HB'; replace HU := HU'; replace HPP := HPP'; replace HO := HO'; replace HC := HC'; replace HI := HI'; replace HR9 := HR9'
   clear HE' HB' HU' HPP' HO' HC' HI' HR9'
   refine wpAnyH_ready (rs := [18]) (by kernel_rfl) (by simp) ?_
   refine AllReadyH.cons (o := ⟨_, _, _, _, _, _⟩) rfl (fun K' hK => ?_) AllReadyH.nil
   obtain ⟨e2, hw⟩ : ∃ W, e1.alloc (.cells #[.int .u8 1, .slice uA s.up.length uc, .int .i64 (s.i + 1), .slice none 0 0, .int .u64 id, .bool true, .string s.x.label, .string ⟨#[]⟩, .string ⟨#[]⟩, .bool false, .slice none 0 0] 38) = W := ⟨_, rfl⟩
   obtain ⟨N, hN⟩ : ∃ g, e1.heap.size = g := ⟨_, rfl⟩
   have hE : Ext e1 e2 := by rw [← hw]; exact (Ext.refl _).alloc _
   have HN := Lib.hid (show NBox e2 N 38 #[.int .u8 1, .slice uA s.up.length uc, .int .i64 (s.i + 1), .slice none 0 0, .int .u64 id, .bool true, .string s.x.label, .string ⟨#[]⟩, .string ⟨#[]⟩, .bool false, .slice none 0 0] from by rw [← hw, ← hN]; exact NBox.new _ _ _)
   have HW := Lib.hid hw
   have HNN := Lib.hid hN
   clear hw hN
   have HE' := Lib.hid (HE.out.trans hE)
   have HB' := Lib.hid (HB.out.ext hE)
   have HU' := Lib.hid (owns_ext hE HU.out)
   have HPP' := Lib.hid (owns_ext hE HPP.out)
   have HO' := Lib.hid (owns_ext hE HO.out)
   have HC' := Lib.hid (hE.cell HC.out)
   have HI' := Lib.hid (hE.cell HI.out)
   have HR9' := Lib.hid (HR9.out.ext hE)
   have HL' := Lib.hid (lsV.ext HL.out hE)
   go_simp
   rw [HW.out, HNN.out]
   refine hK.out _ _ (show _ ∧ _ from ⟨hHeld.1.ext hE, hE.cell hHeld.2.1, hE.cell hHeld.2.2.1, hE.cell hHeld.2.2.2⟩) (fun hHeld => ?_)
   clear hK K' hE HW HNN
   try simp only [Act.put, aS]
   replace HE := HE'; replace HB := HB'; replace HU := HU'; replace HPP := HPP'; replace HO := HO'; replace HC := HC'; replace HI := HI'; replace HR9 := HR9'; replace HL := HL'
   clear HE' HB' HU' HPP' HO' HC' HI' HR9' HL'
   obtain ⟨us1, ho1, hla1⟩ := HL.out
   have hS : ∀ g, (Value.slice uA s.up.length uc).ownBlock = some g → ¬ rowS w0.heap.size (Value.slice A1 L1.length c1) g := fun g hg hk => hk.elim (fun h => absurd (owns_base HU.out g hg) (Nat.not_le.2 h)) (fun h => owns_apart ho1 HU.out (by decide) h hg)
   have hx : Late (rowS w0.heap.size (Value.slice A1 L1.length c1)) (fun W => rowCells RdO 11 W [newO s.up (s.i + 1) id s.x.label] [.int .u8 1, .slice uA s.up.length uc, .int .i64 (s.i + 1), .slice none 0 0, .int .u64 id, .bool true, .string s.x.label, .string ⟨#[]⟩, .string ⟨#[]⟩, .bool false, .slice none 0 0]) e2 := (op_late (o := newO s.up (s.i + 1) id s.x.label) HU.out hS rfl rfl HLAB.out (Nat.zero_le _) (Nat.zero_le _) HID.out (show (0 : Int) ≤ 1 ∧ (1 : Int) ≤ 255 from by decide)).imp fun W h => ⟨[.int .u8 1, .slice uA s.up.length uc, .int .i64 (s.i + 1), .slice none 0 0, .int .u64 id, .bool true, .string s.x.label, .string ⟨#[]⟩, .string ⟨#[]⟩, .bool false, .slice none 0 0], [], rfl, h, (List.append_nil _).symm, rfl⟩
   refine wpAnyH_ready (rs := [19]) (by kernel_rfl) (by simp) ?_
   refine AllReadyH.cons (o := ⟨_, _, _, _, _, _⟩) rfl (fun K' hK => ?_) AllReadyH.nil
   refine wp_append_rd rfl T31 (by rfl) ho1 (by rfl) (NBox.row HN.out) (ones11 ⟨rfl, rfl, rfl, rfl, rfl, rfl, rfl, rfl, rfl, rfl, rfl⟩) (by omega) (by simp only [maxLen]; omega) (Nat.le_trans HX0.out.size HE.out.size) ?_
   intro v4 w4 h4 hg hat4
   have HL2 := Lib.hid (rowV2.app hla1 hx hg hat4 h4)
   have F := Fr.grown hg
   have HE' := Lib.hid (Fr.ext HE.out F (fun k hk => HLB.out k hk))
   have HB' := Lib.hid (HB.out.fr F (fun hk => HB.out.not_own ho1 (by decide) hk))
   have HR9' := Lib.hid (HR9.out.fr F (fun hk => HR9.out.not_own ho1 (by decide) hk))
   have HO' := Lib.hid (owns_fr F HO.out (fun g hg hk => owns_apart ho1 HO.out (by decide) hk hg))
   have HPP' := Lib.hid (owns_fr F HPP.out (fun g hg hk => owns_apart ho1 HPP.out (by decide) hk hg))
   have HC' := Lib.hid (F.cell (fun hk => absurd (HLB.out _ hk) (Nat.not_le.2 HCL.out)) HC.out)
   have HI' := Lib.hid (F.cell (fun hk => absurd (HLB.out _ hk) (Nat.not_le.2 HIL.out)) HI.out)
   have HLB' := Lib.hid (fun k (hk : v4.ownBlock = some k) => hat4.elim (fun h => HLB.out k (h ▸ hk)) (fun h => by rw [h] at hk; cases hk; exact HE.out.size))
   refine hK.out _ _ (show _ ∧ _ from ⟨HB'.out, HC'.out, HI'.out, HR9'.out.cell 0⟩) (fun hHeld => ?_)
   clear hK K' F hx hS hla1 HU HPP HPP' HC HC' HI HI' HL HN hg hat4 h4
   try simp only [Act.put, aS]
   replace HE := HE'; replace HB := HB'; replace HO := HO'; replace HR9 := HR9'; replace HLB := HLB'
   clear HE' HB' HO' HR9' HLB'
   obtain ⟨L2, hL2⟩ : ∃ L, L1 ++ [newO s.up (s.i + 1) id s.x.label] = L := ⟨_, rfl⟩
   rw [hL2] at HL2
   have HSL2 := Lib.hid (show splL m id s rest = L2 ++ s.x.attrs.map (atrO q) ++ editL rest q ⟨0, 0, rest⟩ from by rw [HSL.out, HL1.out, hL2])
   have hl2 : L2.length ≤ 2 := by rw [← hL2, List.length_append]; simp only [List.length_cons, List.length_nil]; omega
   obtain ⟨A2, c2, rfl⟩ := lsV.slice HL2.out
   clear hL2 HL1 hl1 ho1
   refine tk 20 ?_ rfl (.inl ⟨by rfl, ?_⟩) hHeld ?_
   rotate_left
   ·intro w hSw
    try dsimp only at hSw
    go_simp
    all_goals (first | with_reducible rfl | rw [if_pos (by omega)])
   try simp only [Act.put, aS]
   refine wpAnyH_done (by kernel_rfl) ?_ _
   clear hHeld
   have k3 := HB.out.cell 3
   go_wp2_with fail
   clear k3 HB
   go_loopw [8, 62] (fun s8 s62 wr => ∃ (j : Nat) (l : List OpD) (A : Option Addr) (c : Nat), s62 = .int .i64 (j : Int) ∧ j ≤ s.x.attrs.length ∧ s8 = .slice A l.length c ∧ l.length ≤ 2 + j ∧ Hid (Ext w wr) ∧ Hid (wr.ownsRow w0.heap.size 3 1 (.slice nA q.length nc) q.length (q.map (Value.int .i64))) ∧ Hid (NBox wr R 9 #[.string rest]) ∧ Hid (∀ k, (Value.slice A l.length c).ownBlock = some k → w.heap.size ≤ k) ∧ Hid (rowV2 RdO 38 11 w0.heap.size l (.slice A l.length c) wr) ∧ Hid (splL m id s rest = l ++ (s.x.attrs.drop j).map (atrO q) ++ editL rest q ⟨0, 0, rest⟩)) (fun _ j _ => s.x.attrs.length - (intOf j).toNat)
   case atStart => exact ⟨0, L2, A2, c2, rfl, Nat.zero_le _, rfl, hl2, HE, HO, HR9, HLB, HL2, HSL2⟩
   case round =>
    clear HE HO HR9 HLB HL2 HSL2 hl2
    obtain ⟨j, l, A, c, rfl, hj, rfl, hll, HE, HO, HR9, HLB, HL9, HN9⟩ := hrel
    rcases Nat.lt_or_ge j s.x.attrs.length with hlt | hlt
    ·have q1 : (0 : Int) ≤ (j : Int) := by omega
     have q2 : (j : Int) < (s.x.attrs.length : Int) := by omega
     obtain ⟨⟨ak, av⟩, ha⟩ : ∃ x, s.x.attrs[j]? = some x := ⟨_, List.getElem?_eq_getElem hlt⟩
     obtain ⟨av0, kv0, he, -, -, -, -, ⟨aA, ac, hav, -, -, hra⟩, -⟩ := Nd.rd_open HXR0.out
     simp only [Value.agg.injEq, Array.mk.injEq, List.cons.injEq, and_true, true_and] at he
     obtain ⟨hav0, -⟩ := he
     rw [hav] at hav0
     simp only [Value.slice.injEq, true_and] at hav0
     obtain ⟨rfl, rfl⟩ := hav0
     obtain ⟨ab, ao, rfl, hr⟩ := hra (by intro h0; rw [h0] at hlt; exact absurd hlt (Nat.not_lt_zero _))
     obtain ⟨hk1, hk2, a0, a1⟩ := rdAttrs_at (rdAttrs_ext (HX0.out.trans HE.out) hr) ha
     have HN' := Lib.hid (show splL m id s rest = (l ++ [atrO q (ak, av)]) ++ (s.x.attrs.drop (j + 1)).map (atrO q) ++ editL rest q ⟨0, 0, rest⟩ from by rw [HN9.out, drop_at ha, List.map_cons, List.append_assoc l [_]]; rfl)
     clear hr hra hav ha HN9
     obtain ⟨w5, hw5⟩ : ∃ W, wr.alloc (.cells #[.string ⟨#[]⟩, .string ⟨#[]⟩] 45) = W := ⟨_, rfl⟩
     obtain ⟨Z, hZ⟩ : ∃ g, wr.heap.size = g := ⟨_, rfl⟩
     have hE : Ext wr w5 := by rw [← hw5]; exact (Ext.refl _).alloc _
     have bZ : NBox w5 Z 45 #[.string ⟨#[]⟩, .string ⟨#[]⟩] := by rw [← hw5, ← hZ]; exact NBox.new _ _ _
     have HwZ := Lib.hid (show w.heap.size ≤ Z from by rw [← hZ]; exact HE.out.size)
     obtain ⟨w6, hw6⟩ : ∃ W, (w5.setCell ⟨Z, 0, none⟩ (.string ak)).setCell ⟨Z, 1, none⟩ (.string av) = W := ⟨_, rfl⟩
     have F6 : Fr w5 w6 (fun k => k = Z) := by rw [← hw6]; exact (Fr.setCell _ _ _ _).trans (Fr.setCell _ _ _ _)
     have HZB := Lib.hid (show NBox w6 Z 45 #[.string ak, .string av] from by rw [← hw6]; exact (bZ.set 0 _).set 1 _)
     have HW5 := Lib.hid hw5
     have HZZ := Lib.hid hZ
     have HW6 := Lib.hid hw6
     have y0 := bZ.cell 0
     have z0 := bZ.frozen 0
     have y1 := (bZ.set 0 (.string ak)).cell 1
     have z1 := (bZ.set 0 (.string ak)).frozen 1
     have hE : Ext wr w6 := Fr.ext hE F6 (fun k hk => by rw [show k = Z from hk, ← hZ]; exact Nat.le_refl _)
     have HE' := Lib.hid (HE.out.trans hE)
     have HO' := Lib.hid (owns_ext hE HO.out)
     have HR9' := Lib.hid (HR9.out.ext hE)
     have HL9' := Lib.hid (rowV2.ext HL9.out hE)
     clear hw5 hZ hw6 hE F6 bZ
     replace HE := HE'; replace HO := HO'; replace HR9 := HR9'; replace HL9 := HL9'
     clear HE' HO' HR9' HL9'
     go_upto_region 9 with (rw [HW5.out, HZZ.out]; clear HW5 HZZ)
     rw [HW6.out]
     clear HW6 y0 y1 z0 z1 hk1 hk2
     obtain ⟨e0, he0⟩ : ∃ d0, w6.drew = d0 := ⟨_, rfl⟩
     have hE : Ext w6 e0 := by rw [← he0]; exact (Ext.refl _).drew
     have HZB' := Lib.hid (HZB.out.ext hE)
     have HE' := Lib.hid (HE.out.trans hE)
     have HO' := Lib.hid (owns_ext hE HO.out)
     have HR9' := Lib.hid (HR9.out.ext hE)
     have HL9' := Lib.hid (rowV2.ext HL9.out hE)
     clear hE
     replace HE := HE'; replace HO := HO'; replace HR9 := HR9'; replace HL9 := HL9'; replace HZB := HZB'
     clear HE' HO' HR9' HL9' HZB'
     refine wp_region_held_drew (S := (fun W => NBox W Z 45 #[.string ak, .string av])) (by kernel_rfl) (by rw [he0]; exact HZB.out) (fun hHeld => ?_)
     rw [he0] at hHeld ⊢
     clear he0
     refine tk 0 ?_ rfl (.inl ⟨by rfl, ?_⟩) hHeld ?_
     rotate_left
     ·intro w hSw
      try dsimp only at hSw
      go_simp
      all_goals (first | with_reducible rfl | rw [if_pos (by omega)])
     try simp only [Act.put, aS]
     refine tk 1 ?_ rfl (.inl ⟨by rfl, ?_⟩) hHeld ?_
     rotate_left
     ·intro w hSw
      try dsimp only at hSw
      go_simp
      all_goals (first | with_reducible rfl | rw [if_pos (by omega)])
     try simp only [Act.put, aS]
     refine tk 3 ?_ rfl (.inl ⟨by rfl, ?_⟩) hHeld ?_
     rotate_left
     ·intro w hSw
      try dsimp only at hSw
      go_simp
      all_goals (first | with_reducible rfl | rw [if_pos (by omega)])
     try simp only [Act.put, aS]
     refine tk 4 ?_ rfl (.inl ⟨by rfl, ?_⟩) hHeld ?_
     rotate_left
     ·intro w hSw
      have hb : NBox w Z 45 _ := hSw
      have g0 := hb.cell 0
      have g1 := hb.cell 1
      clear hb hSw
      go_simp
      all_goals (first | with_reducible rfl | rw [if_pos (by omega)])
     try simp only [Act.put, aS]
     refine tk 5 ?_ rfl (.inl ⟨by rfl, ?_⟩) hHeld ?_
     rotate_left
     ·intro w hSw
      try dsimp only at hSw
      go_simp
      all_goals (first | with_reducible rfl | rw [if_pos (by omega)])
     try simp only [Act.put, aS]
     refine tk 6 ?_ rfl (.inl ⟨by rfl, ?_⟩) hHeld ?_
     rotate_left
     ·intro w hSw
      have hb : NBox w Z 45 _ := hSw
      have g0 := hb.cell 0
      have g1 := hb.cell 1
      clear hb hSw
      go_simp
      all_goals (first | with_reducible rfl | rw [if_pos (by omega)])
     try simp only [Act.put, aS]
     refine wpAnyH_ready (rs := [2]) (by kernel_rfl) (by simp) ?_
     refine AllReadyH.cons (o := ⟨_, _, _, _, _, _⟩) rfl (fun K' hK => ?_) AllReadyH.nil
     have hq := clone_any q _ e0 (RdS.of_owns HO.out) (by omega)
     go_simp
     go_at_call 41
     refine hq.mono ?_
     clear hq
     rintro e e1 ⟨r, rfl, hQ, hE⟩
     have HQ := Lib.hid (owns_lo hQ (Nat.le_trans HX0.out.size HE.out.size))
     obtain ⟨bA, bc, rfl, -⟩ := RdS.of_owns hQ
     have HE' := Lib.hid (HE.out.trans hE)
     have HO' := Lib.hid (owns_ext hE HO.out)
     have HR9' := Lib.hid (HR9.out.ext hE)
     have HL9' := Lib.hid (rowV2.ext HL9.out hE)
     refine hK.out _ _ (show NBox _ _ _ _ from NBox.ext hE hHeld) (fun hHeld => ?_)
     clear hK K' hQ hE
     try simp only [Act.put, aS]
     replace HE := HE'; replace HO := HO'; replace HR9 := HR9'; replace HL9 := HL9'
     clear HE' HO' HR9' HL9'
     refine tk 7 ?_ rfl (.inl ⟨by rfl, ?_⟩) hHeld ?_
     rotate_left
     ·intro w hSw
      try dsimp only at hSw
      go_simp
      all_goals (first | with_reducible rfl | rw [if_pos (by omega)])
     try simp only [Act.put, aS]
     obtain ⟨e2, hw⟩ : ∃ W, e1.alloc (.cells #[.int .u8 4, .slice bA q.length bc, .int .i64 0, .slice none 0 0, .int .u64 0, .bool false, .string ⟨#[]⟩, .string ak, .string av, .bool false, .slice none 0 0] 38) = W := ⟨_, rfl⟩
     obtain ⟨N, hN⟩ : ∃ g, e1.heap.size = g := ⟨_, rfl⟩
     have hE : Ext e1 e2 := by rw [← hw]; exact (Ext.refl _).alloc _
     have HN := Lib.hid (show NBox e2 N 38 #[.int .u8 4, .slice bA q.length bc, .int .i64 0, .slice none 0 0, .int .u64 0, .bool false, .string ⟨#[]⟩, .string ak, .string av, .bool false, .slice none 0 0] from by rw [← hw, ← hN]; exact NBox.new _ _ _)
     have HW := Lib.hid hw
     have HNN := Lib.hid hN
     clear hw hN
     have HE' := Lib.hid (HE.out.trans hE)
     have HO' := Lib.hid (owns_ext hE HO.out)
     have HR9' := Lib.hid (HR9.out.ext hE)
     have HL9' := Lib.hid (rowV2.ext HL9.out hE)
     have HQ' := Lib.hid (owns_ext hE HQ.out)
     refine wpAnyH_ready (rs := [8]) (by kernel_rfl) (by simp) ?_
     refine AllReadyH.cons (o := ⟨_, _, _, _, _, _⟩) rfl (fun K' hK => ?_) AllReadyH.nil
     go_simp
     rw [HW.out, HNN.out]
     refine hK.out _ _ (show NBox _ _ _ _ from NBox.ext hE hHeld) (fun hHeld => ?_)
     clear hK K' hE HW HNN
     try simp only [Act.put, aS]
     replace HE := HE'; replace HO := HO'; replace HR9 := HR9'; replace HL9 := HL9'; replace HQ := HQ'
     clear HE' HO' HR9' HL9' HQ'
     obtain ⟨us1, ho1, hla1⟩ := HL9.out
     have hS : ∀ g, (Value.slice bA q.length bc).ownBlock = some g → ¬ rowS w0.heap.size (Value.slice A l.length c) g := fun g hg hk => hk.elim (fun h => absurd (owns_base HQ.out g hg) (Nat.not_le.2 h)) (fun h => owns_apart ho1 HQ.out (by decide) h hg)
     have hx : Late (rowS w0.heap.size (Value.slice A l.length c)) (fun W => rowCells RdO 11 W [atrO q (ak, av)] [.int .u8 4, .slice bA q.length bc, .int .i64 0, .slice none 0 0, .int .u64 0, .bool false, .string ⟨#[]⟩, .string ak, .string av, .bool false, .slice none 0 0]) e2 := (op_late (o := atrO q (ak, av)) HQ.out hS rfl rfl (Nat.zero_le _) a0 a1 (show (0 : Int) ≤ 0 ∧ (0 : Int) ≤ 18446744073709551615 from by decide) (show (0 : Int) ≤ 4 ∧ (4 : Int) ≤ 255 from by decide)).imp fun W h => ⟨[.int .u8 4, .slice bA q.length bc, .int .i64 0, .slice none 0 0, .int .u64 0, .bool false, .string ⟨#[]⟩, .string ak, .string av, .bool false, .slice none 0 0], [], rfl, h, (List.append_nil _).symm, rfl⟩
     refine wpAnyH_ready (rs := [9]) (by kernel_rfl) (by simp) ?_
     refine AllReadyH.cons (o := ⟨_, _, _, _, _, _⟩) rfl (fun K' hK => ?_) AllReadyH.nil
     refine wp_append_rd rfl T31 (by rfl) ho1 (by rfl) (NBox.row HN.out) (ones11 ⟨rfl, rfl, rfl, rfl, rfl, rfl, rfl, rfl, rfl, rfl, rfl⟩) (by omega) (by simp only [maxLen]; omega) (Nat.le_trans HX0.out.size HE.out.size) ?_
     intro v4 w4 h4 hg hat4
     have HL2 := Lib.hid (rowV2.app hla1 hx hg hat4 h4)
     have F := Fr.grown hg
     have HE' := Lib.hid (Fr.ext HE.out F (fun k hk => HLB.out k hk))
     have HR9' := Lib.hid (HR9.out.fr F (fun hk => HR9.out.not_own ho1 (by decide) hk))
     have HO' := Lib.hid (owns_fr F HO.out (fun g hg hk => owns_apart ho1 HO.out (by decide) hk hg))
     have HLB' := Lib.hid (fun k (hk : v4.ownBlock = some k) => hat4.elim (fun h => HLB.out k (h ▸ hk)) (fun h => by rw [h] at hk; cases hk; exact HE.out.size))
     have hZ4 : NBox w4 Z 45 #[.string ak, .string av] := NBox.fr F hHeld (fun hk => NBox.not_own hHeld ho1 (by decide) hk)
     refine hK.out _ _ (show NBox _ _ _ _ from hZ4) (fun hHeld => ?_)
     clear hK K' F hx hS hla1 hZ4 HQ HL9 HN hg hat4 h4
     try simp only [Act.put, aS]
     replace HE := HE'; replace HO := HO'; replace HR9 := HR9'; replace HLB := HLB'
     clear HE' HO' HR9' HLB'
     obtain ⟨L3, hL3⟩ : ∃ L, l ++ [atrO q (ak, av)] = L := ⟨_, rfl⟩
     have hl3 : L3.length ≤ 2 + (j + 1) := by rw [← hL3, List.length_append]; simp only [List.length_cons, List.length_nil]; omega
     rw [hL3] at HL2 HN'
     obtain ⟨A3, c3, rfl⟩ := lsV.slice HL2.out
     clear hL3 ho1
     refine tk 10 ?_ rfl (.inl ⟨by rfl, ?_⟩) hHeld ?_
     rotate_left
     ·intro w hSw
      try dsimp only at hSw
      go_simp
      all_goals (first | with_reducible rfl | rw [if_pos (by omega)])
     try simp only [Act.put, aS]
     refine wpAnyH_done (by kernel_rfl) ?_ _
     clear hHeld
     go_wp2_with fail
     go_roundw
     case rel => exact ⟨j + 1, L3, A3, c3, by go_num, by omega, rfl, hl3, HE, HO, HR9, HLB, HL2, HN'⟩
     case measure => simp [intOf]; omega
    ·obtain rfl : j = s.x.attrs.length := by omega
     have q1 : ¬ ((s.x.attrs.length : Int) < (s.x.attrs.length : Int)) := Int.lt_irrefl _
     have HN' := Lib.hid (show splL m id s rest = l ++ editL rest q ⟨0, 0, rest⟩ from by rw [HN9.out, List.drop_eq_nil_of_le (Nat.le_refl _)]; simp)
     clear HN9 q1
     obtain ⟨us1, ho1, hla1⟩ := HL9.out
     have HOB := Lib.hid (fun k (hk : (Value.slice A l.length c).ownBlock = some k) => (ho1.lt k hk).2)
     have hq := edit40_any q ⟨0, 0, rest⟩ rest _ wr R (RdS.of_owns HO.out) (HR9.out.cell 0) (by omega) HREST.out
     obtain ⟨L3, hL3⟩ : ∃ L, editL rest q ⟨0, 0, rest⟩ = L := ⟨_, rfl⟩
     have hl3 : L3.length ≤ 1 := by rw [← hL3]; exact editL_len _ _ _
     rw [hL3] at hq HN'
     have r9 := HR9.out.cell 0
     clear hL3
     go_wp2_with fail
     refine hq.mono ?_
     clear hq r9
     rintro e w4 ⟨hE, v, rfl, hv⟩
     have HE' := Lib.hid (HE.out.trans hE)
     have hv0 := hv
     obtain ⟨us3, ho3, hla3⟩ := hv0
     obtain ⟨A3, c3, rfl⟩ := lsV.slice hv
     have ho4 := owns_ext hE ho1
     have hlo := Nat.le_trans HX0.out.size HE.out.size
     have hx : Late (rowS w0.heap.size (Value.slice A l.length c)) (fun W => rowCells RdO 11 W L3 us3) w4 := hla3.sub (fun k hk => .inl (hk.elim (fun h => Nat.lt_of_lt_of_le h hlo) (fun h => HOB.out k h)))
     have hla4 := hla1.ext hE
     have hones := rowCells_ones L3 us3 hla3.now
     have hsz := Nat.le_trans hlo hE.size
     clear hv hE hla1 ho1 HL9 HOB
     replace HE := HE'
     clear HE'
     go_wp2_with (first | (at_builtin; refine wpList_append_rd rfl rfl T31 (v := _) (by rfl) ho4 (by rfl) (RdS.of_owns ho3) hones (by omega) (by simp only [maxLen]; omega) hsz ?_; intro v5 w5 h5 hg hat5))
     have HL5 := Lib.hid (rowV2.app hla4 hx hg hat5 h5)
     have HE' := Lib.hid (Fr.ext HE.out (Fr.grown hg) (fun k hk => HLB.out k hk))
     obtain ⟨A5, c5, rfl⟩ := lsV.slice HL5.out
     clear hx hla4 hla3 hones ho3 ho4 hg hat5 h5
     go_ret
     rw [HR.out, HN'.out]
     exact ⟨HE'.out, _, rfl, HL5.out⟩
  ·-- the new leaf first
   obtain ⟨e1, hw⟩ : ∃ W, e0.alloc (.cells #[.int .u8 1, .slice uA s.up.length uc, .int .i64 (s.i + 1), .slice none 0 0, .int .u64 id, .bool true, .string s.x.label, .string ⟨#[]⟩, .string ⟨#[]⟩, .bool false, .slice none 0 0] 38) = W := ⟨_, rfl⟩
   obtain ⟨N, hN⟩ : ∃ g, e0.heap.size = g := ⟨_, rfl⟩
   have hE : Ext e0 e1 := by rw [← hw]; exact (Ext.refl _).alloc _
   have HN := Lib.hid (show NBox e1 N 38 #[.int .u8 1, .slice uA s.up.length uc, .int .i64 (s.i + 1), .slice none 0 0, .int .u64 id, .bool true, .string s.x.label, .string ⟨#[]⟩, .string ⟨#[]⟩, .bool false, .slice none 0 0] from by rw [← hw, ← hN]; exact NBox.new _ _ _)
   have HW := Lib.hid hw
   have HNN := Lib.hid hN
   clear hw hN
   have HE' := Lib.hid (HE.out.trans hE)
   have HB' := Lib.hid (HB.out.ext hE)
   have HU' := Lib.hid (owns_ext hE HU.out)
   have HPP' := Lib.hid (owns_ext hE HPP.out)
   have HO' := Lib.hid (owns_ext hE HO.out)
   have HC' := Lib.hid (hE.cell HC.out)
   have HI' := Lib.hid (hE.cell HI.out)
   have HR9' := Lib.hid (HR9.out.ext hE)
   go_simp
   rw [HW.out, HNN.out]
   refine hK.out _ _ (show _ ∧ _ from ⟨hHeld.1.ext hE, hE.cell hHeld.2.1, hE.cell hHeld.2.2.1, hE.cell hHeld.2.2.2⟩) (fun hHeld => ?_)
   clear hK K' hE HW HNN
   try simp only [Act.put, aS]
   replace HE := HE'; replace HB := HB'; replace HU := HU'; replace HPP := HPP'; replace HO := HO'; replace HC := HC'; replace HI := HI'; replace HR9 := HR9'
   clear HE' HB' HU' HPP' HO' HC' HI' HR9'
   refine wpAnyH_ready (rs := [7]) (by kernel_rfl) (by simp) ?_
   refine AllReadyH.cons (o := ⟨_, _, _, _, _, _⟩) rfl (fun K' hK => ?_) AllReadyH.nil
   have hq := edit40_any s.p ⟨m, rest.size, ⟨#[]⟩⟩ rest _ e1 R (RdS.of_owns HPP.out) (HR9.out.cell 0) (by omega) (Nat.zero_le _)
   obtain ⟨L1, hL1⟩ : ∃ L, editL rest s.p ⟨m, rest.size, ⟨#[]⟩⟩ = L := ⟨_, rfl⟩
   have hl1 : L1.length ≤ 1 := by rw [← hL1]; exact editL_len _ _ _
   rw [hL1] at hq
   have HL1 := Lib.hid hL1
   clear hL1
   go_simp
   go_at_call 40
   refine hq.mono ?_
   clear hq
   rintro e e2 ⟨hE, v, rfl, hv⟩
   have HL := Lib.hid (rowV2.low hv (Nat.le_trans HX0.out.size HE.out.size))
   have HLB : Hid (∀ k, v.ownBlock = some k → w.heap.size ≤ k) := Lib.hid (fun k hk => by obtain ⟨_, h, _⟩ := hv; exact Nat.le_trans HE.out.size (owns_base h k hk))
   obtain ⟨A1, c1, rfl⟩ := lsV.slice hv
   have HE' := Lib.hid (HE.out.trans hE)
   have HB' := Lib.hid (HB.out.ext hE)
   have HU' := Lib.hid (owns_ext hE HU.out)
   have HPP' := Lib.hid (owns_ext hE HPP.out)
   have HO' := Lib.hid (owns_ext hE HO.out)
   have HC' := Lib.hid (hE.cell HC.out)
   have HI' := Lib.hid (hE.cell HI.out)
   have HR9' := Lib.hid (HR9.out.ext hE)
   have HN' := Lib.hid (HN.out.ext hE)
   refine hK.out _ _ (show _ ∧ _ from ⟨hHeld.1.ext hE, hE.cell hHeld.2.1, hE.cell hHeld.2.2.1, hE.cell hHeld.2.2.2⟩) (fun hHeld => ?_)
   clear hK K' hE hv
   try simp only [Act.put, aS]
   replace HE := HE'; replace HB := HB'; replace HU := HU'; replace HPP := HPP'; replace HO := HO'; replace HC := HC'; replace HI := HI'; replace HR9 := HR9'; replace HN := HN'
   clear HE' HB' HU' HPP' HO' HC' HI' HR9' HN'
   obtain ⟨us1, ho1, hla1⟩ := HL.out
   have hS : ∀ g, (Value.slice uA s.up.length uc).ownBlock = some g → ¬ rowS w0.heap.size (Value.slice A1 L1.length c1) g := fun g hg hk => hk.elim (fun h => absurd (owns_base HU.out g hg) (Nat.not_le.2 h)) (fun h => owns_apart ho1 HU.out (by decide) h hg)
   have hx : Late (rowS w0.heap.size (Value.slice A1 L1.length c1)) (fun W => rowCells RdO 11 W [newO s.up (s.i + 1) id s.x.label] [.int .u8 1, .slice uA s.up.length uc, .int .i64 (s.i + 1), .slice none 0 0, .int .u64 id, .bool true, .string s.x.label, .string ⟨#[]⟩, .string ⟨#[]⟩, .bool false, .slice none 0 0]) e2 := (op_late (o := newO s.up (s.i + 1) id s.x.label) HU.out hS rfl rfl HLAB.out (Nat.zero_le _) (Nat.zero_le _) HID.out (show (0 : Int) ≤ 1 ∧ (1 : Int) ≤ 255 from by decide)).imp fun W h => ⟨[.int .u8 1, .slice uA s.up.length uc, .int .i64 (s.i + 1), .slice none 0 0, .int .u64 id, .bool true, .string s.x.label, .string ⟨#[]⟩, .string ⟨#[]⟩, .bool false, .slice none 0 0], [], rfl, h, (List.append_nil _).symm, rfl⟩
   refine wpAnyH_ready (rs := [19]) (by kernel_rfl) (by simp) ?_
   refine AllReadyH.cons (o := ⟨_, _, _, _, _, _⟩) rfl (fun K' hK => ?_) AllReadyH.nil
   refine wp_append_rd rfl T31 (by rfl) ho1 (by rfl) (NBox.row HN.out) (ones11 ⟨rfl, rfl, rfl, rfl, rfl, rfl, rfl, rfl, rfl, rfl, rfl⟩) (by omega) (by simp only [maxLen]; omega) (Nat.le_trans HX0.out.size HE.out.size) ?_
   intro v4 w4 h4 hg hat4
   have HL2 := Lib.hid (rowV2.app hla1 hx hg hat4 h4)
   have F := Fr.grown hg
   have HE' := Lib.hid (Fr.ext HE.out F (fun k hk => HLB.out k hk))
   have HB' := Lib.hid (HB.out.fr F (fun hk => HB.out.not_own ho1 (by decide) hk))
   have HR9' := Lib.hid (HR9.out.fr F (fun hk => HR9.out.not_own ho1 (by decide) hk))
   have HO' := Lib.hid (owns_fr F HO.out (fun g hg hk => owns_apart ho1 HO.out (by decide) hk hg))
   have HPP' := Lib.hid (owns_fr F HPP.out (fun g hg hk => owns_apart ho1 HPP.out (by decide) hk hg))
   have HC' := Lib.hid (F.cell (fun hk => absurd (HLB.out _ hk) (Nat.not_le.2 HCL.out)) HC.out)
   have HI' := Lib.hid (F.cell (fun hk => absurd (HLB.out _ hk) (Nat.not_le.2 HIL.out)) HI.out)
   have HLB' := Lib.hid (fun k (hk : v4.ownBlock = some k) => hat4.elim (fun h => HLB.out k (h ▸ hk)) (fun h => by rw [h] at hk; cases hk; exact HE.out.size))
   refine hK.out _ _ (show _ ∧ _ from ⟨HB'.out, HC'.out, HI'.out, HR9'.out.cell 0⟩) (fun hHeld => ?_)
   clear hK K' F hx hS hla1 HU HPP HPP' HC HC' HI HI' HL HN hg hat4 h4
   try simp only [Act.put, aS]
   replace HE := HE'; replace HB := HB'; replace HO := HO'; replace HR9 := HR9'; replace HLB := HLB'
   clear HE' HB' HO' HR9' HLB'
   obtain ⟨L2, hL2⟩ : ∃ L, L1 ++ [newO s.up (s.i + 1) id s.x.label] = L := ⟨_, rfl⟩
   rw [hL2] at HL2
   have HSL2 := Lib.hid (show splL m id s rest = L2 ++ s.x.attrs.map (atrO q) ++ editL rest q ⟨0, 0, rest⟩ from by rw [HSL.out, HL1.out, hL2])
   have hl2 : L2.length ≤ 2 := by rw [← hL2, List.length_append]; simp only [List.length_cons, List.length_nil]; omega
   obtain ⟨A2, c2, rfl⟩ := lsV.slice HL2.out
   clear hL2 HL1 hl1 ho1
   refine tk 20 ?_ rfl (.inl ⟨by rfl, ?_⟩) hHeld ?_
   rotate_left
   ·intro w hSw
    try dsimp only at hSw
    go_simp
    all_goals (first | with_reducible rfl | rw [if_pos (by omega)])
   try simp only [Act.put, aS]
   refine wpAnyH_done (by kernel_rfl) ?_ _
   clear hHeld
   have k3 := HB.out.cell 3
   go_wp2_with fail
   clear k3 HB
   go_loopw [8, 62] (fun s8 s62 wr => ∃ (j : Nat) (l : List OpD) (A : Option Addr) (c : Nat), s62 = .int .i64 (j : Int) ∧ j ≤ s.x.attrs.length ∧ s8 = .slice A l.length c ∧ l.length ≤ 2 + j ∧ Hid (Ext w wr) ∧ Hid (wr.ownsRow w0.heap.size 3 1 (.slice nA q.length nc) q.length (q.map (Value.int .i64))) ∧ Hid (NBox wr R 9 #[.string rest]) ∧ Hid (∀ k, (Value.slice A l.length c).ownBlock = some k → w.heap.size ≤ k) ∧ Hid (rowV2 RdO 38 11 w0.heap.size l (.slice A l.length c) wr) ∧ Hid (splL m id s rest = l ++ (s.x.attrs.drop j).map (atrO q) ++ editL rest q ⟨0, 0, rest⟩)) (fun _ j _ => s.x.attrs.length - (intOf j).toNat)
   case atStart => exact ⟨0, L2, A2, c2, rfl, Nat.zero_le _, rfl, hl2, HE, HO, HR9, HLB, HL2, HSL2⟩
   case round =>
    clear HE HO HR9 HLB HL2 HSL2 hl2
    obtain ⟨j, l, A, c, rfl, hj, rfl, hll, HE, HO, HR9, HLB, HL9, HN9⟩ := hrel
    rcases Nat.lt_or_ge j s.x.attrs.length with hlt | hlt
    ·have q1 : (0 : Int) ≤ (j : Int) := by omega
     have q2 : (j : Int) < (s.x.attrs.length : Int) := by omega
     obtain ⟨⟨ak, av⟩, ha⟩ : ∃ x, s.x.attrs[j]? = some x := ⟨_, List.getElem?_eq_getElem hlt⟩
     obtain ⟨av0, kv0, he, -, -, -, -, ⟨aA, ac, hav, -, -, hra⟩, -⟩ := Nd.rd_open HXR0.out
     simp only [Value.agg.injEq, Array.mk.injEq, List.cons.injEq, and_true, true_and] at he
     obtain ⟨hav0, -⟩ := he
     rw [hav] at hav0
     simp only [Value.slice.injEq, true_and] at hav0
     obtain ⟨rfl, rfl⟩ := hav0
     obtain ⟨ab, ao, rfl, hr⟩ := hra (by intro h0; rw [h0] at hlt; exact absurd hlt (Nat.not_lt_zero _))
     obtain ⟨hk1, hk2, a0, a1⟩ := rdAttrs_at (rdAttrs_ext (HX0.out.trans HE.out) hr) ha
     have HN' := Lib.hid (show splL m id s rest = (l ++ [atrO q (ak, av)]) ++ (s.x.attrs.drop (j + 1)).map (atrO q) ++ editL rest q ⟨0, 0, rest⟩ from by rw [HN9.out, drop_at ha, List.map_cons, List.append_assoc l [_]]; rfl)
     clear hr hra hav ha HN9
     obtain ⟨w5, hw5⟩ : ∃ W, wr.alloc (.cells #[.string ⟨#[]⟩, .string ⟨#[]⟩] 45) = W := ⟨_, rfl⟩
     obtain ⟨Z, hZ⟩ : ∃ g, wr.heap.size = g := ⟨_, rfl⟩
     have hE : Ext wr w5 := by rw [← hw5]; exact (Ext.refl _).alloc _
     have bZ : NBox w5 Z 45 #[.string ⟨#[]⟩, .string ⟨#[]⟩] := by rw [← hw5, ← hZ]; exact NBox.new _ _ _
     have HwZ := Lib.hid (show w.heap.size ≤ Z from by rw [← hZ]; exact HE.out.size)
     obtain ⟨w6, hw6⟩ : ∃ W, (w5.setCell ⟨Z, 0, none⟩ (.string ak)).setCell ⟨Z, 1, none⟩ (.string av) = W := ⟨_, rfl⟩
     have F6 : Fr w5 w6 (fun k => k = Z) := by rw [← hw6]; exact (Fr.setCell _ _ _ _).trans (Fr.setCell _ _ _ _)
     have HZB := Lib.hid (show NBox w6 Z 45 #[.string ak, .string av] from by rw [← hw6]; exact (bZ.set 0 _).set 1 _)
     have HW5 := Lib.hid hw5
     have HZZ := Lib.hid hZ
     have HW6 := Lib.hid hw6
     have y0 := bZ.cell 0
     have z0 := bZ.frozen 0
     have y1 := (bZ.set 0 (.string ak)).cell 1
     have z1 := (bZ.set 0 (.string ak)).frozen 1
     have hE : Ext wr w6 := Fr.ext hE F6 (fun k hk => by rw [show k = Z from hk, ← hZ]; exact Nat.le_refl _)
     have HE' := Lib.hid (HE.out.trans hE)
     have HO' := Lib.hid (owns_ext hE HO.out)
     have HR9' := Lib.hid (HR9.out.ext hE)
     have HL9' := Lib.hid (rowV2.ext HL9.out hE)
     clear hw5 hZ hw6 hE F6 bZ
     replace HE := HE'; replace HO := HO'; replace HR9 := HR9'; replace HL9 := HL9'
     clear HE' HO' HR9' HL9'
     go_upto_region 9 with (rw [HW5.out, HZZ.out]; clear HW5 HZZ)
     rw [HW6.out]
     clear HW6 y0 y1 z0 z1 hk1 hk2
     obtain ⟨e0, he0⟩ : ∃ d0, w6.drew = d0 := ⟨_, rfl⟩
     have hE : Ext w6 e0 := by rw [← he0]; exact (Ext.refl _).drew
     have HZB' := Lib.hid (HZB.out.ext hE)
     have HE' := Lib.hid (HE.out.trans hE)
     have HO' := Lib.hid (owns_ext hE HO.out)
     have HR9' := Lib.hid (HR9.out.ext hE)
     have HL9' := Lib.hid (rowV2.ext HL9.out hE)
     clear hE
     replace HE := HE'; replace HO := HO'; replace HR9 := HR9'; replace HL9 := HL9'; replace HZB := HZB'
     clear HE' HO' HR9' HL9' HZB'
     refine wp_region_held_drew (S := (fun W => NBox W Z 45 #[.string ak, .string av])) (by kernel_rfl) (by rw [he0]; exact HZB.out) (fun hHeld => ?_)
     rw [he0] at hHeld ⊢
     clear he0
     refine tk 0 ?_ rfl (.inl ⟨by rfl, ?_⟩) hHeld ?_
     rotate_left
     ·intro w hSw
      try dsimp only at hSw
      go_simp
      all_goals (first | with_reducible rfl | rw [if_pos (by omega)])
     try simp only [Act.put, aS]
     refine tk 1 ?_ rfl (.inl ⟨by rfl, ?_⟩) hHeld ?_
     rotate_left
     ·intro w hSw
      try dsimp only at hSw
      go_simp
      all_goals (first | with_reducible rfl | rw [if_pos (by omega)])
     try simp only [Act.put, aS]
     refine tk 3 ?_ rfl (.inl ⟨by rfl, ?_⟩) hHeld ?_
     rotate_left
     ·intro w hSw
      try dsimp only at hSw
      go_simp
      all_goals (first | with_reducible rfl | rw [if_pos (by omega)])
     try simp only [Act.put, aS]
     refine tk 4 ?_ rfl (.inl ⟨by rfl, ?_⟩) hHeld ?_
     rotate_left
     ·intro w hSw
      have hb : NBox w Z 45 _ := hSw
      have g0 := hb.cell 0
      have g1 := hb.cell 1
      clear hb hSw
      go_simp
      all_goals (first | with_reducible rfl | rw [if_pos (by omega)])
     try simp only [Act.put, aS]
     refine tk 5 ?_ rfl (.inl ⟨by rfl, ?_⟩) hHeld ?_
     rotate_left
     ·intro w hSw
      try dsimp only at hSw
      go_simp
      all_goals (first | with_reducible rfl | rw [if_pos (by omega)])
     try simp only [Act.put, aS]
     refine tk 6 ?_ rfl (.inl ⟨by rfl, ?_⟩) hHeld ?_
     rotate_left
     ·intro w hSw
      have hb : NBox w Z 45 _ := hSw
      have g0 := hb.cell 0
      have g1 := hb.cell 1
      clear hb hSw
      go_simp
      all_goals (first | with_reducible rfl | rw [if_pos (by omega)])
     try simp only [Act.put, aS]
     refine wpAnyH_ready (rs := [2]) (by kernel_rfl) (by simp) ?_
     refine AllReadyH.cons (o := ⟨_, _, _, _, _, _⟩) rfl (fun K' hK => ?_) AllReadyH.nil
     have hq := clone_any q _ e0 (RdS.of_owns HO.out) (by omega)
     go_simp
     go_at_call 41
     refine hq.mono ?_
     clear hq
     rintro e e1 ⟨r, rfl, hQ, hE⟩
     have HQ := Lib.hid (owns_lo hQ (Nat.le_trans HX0.out.size HE.out.size))
     obtain ⟨bA, bc, rfl, -⟩ := RdS.of_owns hQ
     have HE' := Lib.hid (HE.out.trans hE)
     have HO' := Lib.hid (owns_ext hE HO.out)
     have HR9' := Lib.hid (HR9.out.ext hE)
     have HL9' := Lib.hid (rowV2.ext HL9.out hE)
     refine hK.out _ _ (show NBox _ _ _ _ from NBox.ext hE hHeld) (fun hHeld => ?_)
     clear hK K' hQ hE
     try simp only [Act.put, aS]
     replace HE := HE'; replace HO := HO'; replace HR9 := HR9'; replace HL9 := HL9'
     clear HE' HO' HR9' HL9'
     refine tk 7 ?_ rfl (.inl ⟨by rfl, ?_⟩) hHeld ?_
     rotate_left
     ·intro w hSw
      try dsimp only at hSw
      go_simp
      all_goals (first | with_reducible rfl | rw [if_pos (by omega)])
     try simp only [Act.put, aS]
     obtain ⟨e2, hw⟩ : ∃ W, e1.alloc (.cells #[.int .u8 4, .slice bA q.length bc, .int .i64 0, .slice none 0 0, .int .u64 0, .bool false, .string ⟨#[]⟩, .string ak, .string av, .bool false, .slice none 0 0] 38) = W := ⟨_, rfl⟩
     obtain ⟨N, hN⟩ : ∃ g, e1.heap.size = g := ⟨_, rfl⟩
     have hE : Ext e1 e2 := by rw [← hw]; exact (Ext.refl _).alloc _
     have HN := Lib.hid (show NBox e2 N 38 #[.int .u8 4, .slice bA q.length bc, .int .i64 0, .slice none 0 0, .int .u64 0, .bool false, .string ⟨#[]⟩, .string ak, .string av, .bool false, .slice none 0 0] from by rw [← hw, ← hN]; exact NBox.new _ _ _)
     have HW := Lib.hid hw
     have HNN := Lib.hid hN
     clear hw hN
     have HE' := Lib.hid (HE.out.trans hE)
     have HO' := Lib.hid (owns_ext hE HO.out)
     have HR9' := Lib.hid (HR9.out.ext hE)
     have HL9' := Lib.hid (rowV2.ext HL9.out hE)
     have HQ' := Lib.hid (owns_ext hE HQ.out)
     refine wpAnyH_ready (rs := [8]) (by kernel_rfl) (by simp) ?_
     refine AllReadyH.cons (o := ⟨_, _, _, _, _, _⟩) rfl (fun K' hK => ?_) AllReadyH.nil
     go_simp
     rw [HW.out, HNN.out]
     refine hK.out _ _ (show NBox _ _ _ _ from NBox.ext hE hHeld) (fun hHeld => ?_)
     clear hK K' hE HW HNN
     try simp only [Act.put, aS]
     replace HE := HE'; replace HO := HO'; replace HR9 := HR9'; replace HL9 := HL9'; replace HQ := HQ'
     clear HE' HO' HR9' HL9' HQ'
     obtain ⟨us1, ho1, hla1⟩ := HL9.out
     have hS : ∀ g, (Value.slice bA q.length bc).ownBlock = some g → ¬ rowS w0.heap.size (Value.slice A l.length c) g := fun g hg hk => hk.elim (fun h => absurd (owns_base HQ.out g hg) (Nat.not_le.2 h)) (fun h => owns_apart ho1 HQ.out (by decide) h hg)
     have hx : Late (rowS w0.heap.size (Value.slice A l.length c)) (fun W => rowCells RdO 11 W [atrO q (ak, av)] [.int .u8 4, .slice bA q.length bc, .int .i64 0, .slice none 0 0, .int .u64 0, .bool false, .string ⟨#[]⟩, .string ak, .string av, .bool false, .slice none 0 0]) e2 := (op_late (o := atrO q (ak, av)) HQ.out hS rfl rfl (Nat.zero_le _) a0 a1 (show (0 : Int) ≤ 0 ∧ (0 : Int) ≤ 18446744073709551615 from by decide) (show (0 : Int) ≤ 4 ∧ (4 : Int) ≤ 255 from by decide)).imp fun W h => ⟨[.int .u8 4, .slice bA q.length bc, .int .i64 0, .slice none 0 0, .int .u64 0, .bool false, .string ⟨#[]⟩, .string ak, .string av, .bool false, .slice none 0 0], [], rfl, h, (List.append_nil _).symm, rfl⟩
     refine wpAnyH_ready (rs := [9]) (by kernel_rfl) (by simp) ?_
     refine AllReadyH.cons (o := ⟨_, _, _, _, _, _⟩) rfl (fun K' hK => ?_) AllReadyH.nil
     refine wp_append_rd rfl T31 (by rfl) ho1 (by rfl) (NBox.row HN.out) (ones11 ⟨rfl, rfl, rfl, rfl, rfl, rfl, rfl, rfl, rfl, rfl, rfl⟩) (by omega) (by simp only [maxLen]; omega) (Nat.le_trans HX0.out.size HE.out.size) ?_
     intro v4 w4 h4 hg hat4
     have HL2 := Lib.hid (rowV2.app hla1 hx hg hat4 h4)
     have F := Fr.grown hg
     have HE' := Lib.hid (Fr.ext HE.out F (fun k hk => HLB.out k hk))
     have HR9' := Lib.hid (HR9.out.fr F (fun hk => HR9.out.not_own ho1 (by decide) hk))
     have HO' := Lib.hid (owns_fr F HO.out (fun g hg hk => owns_apart ho1 HO.out (by decide) hk hg))
     have HLB' := Lib.hid (fun k (hk : v4.ownBlock = some k) => hat4.elim (fun h => HLB.out k (h ▸ hk)) (fun h => by rw [h] at hk; cases hk; exact HE.out.size))
     have hZ4 : NBox w4 Z 45 #[.string ak, .string av] := NBox.fr F hHeld (fun hk => NBox.not_own hHeld ho1 (by decide) hk)
     refine hK.out _ _ (show NBox _ _ _ _ from hZ4) (fun hHeld => ?_)
     clear hK K' F hx hS hla1 hZ4 HQ HL9 HN hg hat4 h4
     try simp only [Act.put, aS]
     replace HE := HE'; replace HO := HO'; replace HR9 := HR9'; replace HLB := HLB'
     clear HE' HO' HR9' HLB'
     obtain ⟨L3, hL3⟩ : ∃ L, l ++ [atrO q (ak, av)] = L := ⟨_, rfl⟩
     have hl3 : L3.length ≤ 2 + (j + 1) := by rw [← hL3, List.length_append]; simp only [List.length_cons, List.length_nil]; omega
     rw [hL3] at HL2 HN'
     obtain ⟨A3, c3, rfl⟩ := lsV.slice HL2.out
     clear hL3 ho1
     refine tk 10 ?_ rfl (.inl ⟨by rfl, ?_⟩) hHeld ?_
     rotate_left
     ·intro w hSw
      try dsimp only at hSw
      go_simp
      all_goals (first | with_reducible rfl | rw [if_pos (by omega)])
     try simp only [Act.put, aS]
     refine wpAnyH_done (by kernel_rfl) ?_ _
     clear hHeld
     go_wp2_with fail
     go_roundw
     case rel => exact ⟨j + 1, L3, A3, c3, by go_num, by omega, rfl, hl3, HE, HO, HR9, HLB, HL2, HN'⟩
     case measure => simp [intOf]; omega
    ·obtain rfl : j = s.x.attrs.length := by omega
     have q1 : ¬ ((s.x.attrs.length : Int) < (s.x.attrs.length : Int)) := Int.lt_irrefl _
     have HN' := Lib.hid (show splL m id s rest = l ++ editL rest q ⟨0, 0, rest⟩ from by rw [HN9.out, List.drop_eq_nil_of_le (Nat.le_refl _)]; simp)
     clear HN9 q1
     obtain ⟨us1, ho1, hla1⟩ := HL9.out
     have HOB := Lib.hid (fun k (hk : (Value.slice A l.length c).ownBlock = some k) => (ho1.lt k hk).2)
     have hq := edit40_any q ⟨0, 0, rest⟩ rest _ wr R (RdS.of_owns HO.out) (HR9.out.cell 0) (by omega) HREST.out
     obtain ⟨L3, hL3⟩ : ∃ L, editL rest q ⟨0, 0, rest⟩ = L := ⟨_, rfl⟩
     have hl3 : L3.length ≤ 1 := by rw [← hL3]; exact editL_len _ _ _
     rw [hL3] at hq HN'
     have r9 := HR9.out.cell 0
     clear hL3
     go_wp2_with fail
     refine hq.mono ?_
     clear hq r9
     rintro e w4 ⟨hE, v, rfl, hv⟩
     have HE' := Lib.hid (HE.out.trans hE)
     have hv0 := hv
     obtain ⟨us3, ho3, hla3⟩ := hv0
     obtain ⟨A3, c3, rfl⟩ := lsV.slice hv
     have ho4 := owns_ext hE ho1
     have hlo := Nat.le_trans HX0.out.size HE.out.size
     have hx : Late (rowS w0.heap.size (Value.slice A l.length c)) (fun W => rowCells RdO 11 W L3 us3) w4 := hla3.sub (fun k hk => .inl (hk.elim (fun h => Nat.lt_of_lt_of_le h hlo) (fun h => HOB.out k h)))
     have hla4 := hla1.ext hE
     have hones := rowCells_ones L3 us3 hla3.now
     have hsz := Nat.le_trans hlo hE.size
     clear hv hE hla1 ho1 HL9 HOB
     replace HE := HE'
     clear HE'
     go_wp2_with (first | (at_builtin; refine wpList_append_rd rfl rfl T31 (v := _) (by rfl) ho4 (by rfl) (RdS.of_owns ho3) hones (by omega) (by simp only [maxLen]; omega) hsz ?_; intro v5 w5 h5 hg hat5))
     have HL5 := Lib.hid (rowV2.app hla4 hx hg hat5 h5)
     have HE' := Lib.hid (Fr.ext HE.out (Fr.grown hg) (fun k hk => HLB.out k hk))
     obtain ⟨A5, c5, rfl⟩ := lsV.slice HL5.out
     clear hx hla4 hla3 hones ho3 ho4 hg hat5 h5
     go_ret
     rw [HR.out, HN'.out]
     exact ⟨HE'.out, _, rfl, HL5.out⟩
 ·-- the box first
  obtain ⟨d1, hw⟩ : ∃ W, d0.alloc (.cells #[.string ⟨#[]⟩] 9) = W := ⟨_, rfl⟩
  obtain ⟨R, hRR⟩ : ∃ g, d0.heap.size = g := ⟨_, rfl⟩
  have hE : Ext d0 d1 := by rw [← hw]; exact (Ext.refl _).alloc _
  have HR9 := Lib.hid (show NBox d1 R 9 #[.string ⟨#[]⟩] from by rw [← hw, ← hRR]; exact NBox.new _ _ _)
  have HLR := Lib.hid (show w.heap.size ≤ R from by rw [← hRR]; exact HE.out.size)
  have HXN := Lib.hid (show X ≠ R from by rw [← hRR]; exact Nat.ne_of_lt HB.out.lt)
  have HCN := Lib.hid (show C ≠ R from by rw [← hRR]; exact Nat.ne_of_lt (lt_of_cell HC.out))
  have HIN := Lib.hid (show I ≠ R from by rw [← hRR]; exact Nat.ne_of_lt (lt_of_cell HI.out))
  have HW := Lib.hid hw
  have HRR := Lib.hid hRR
  clear hw hRR
  have HE' := Lib.hid (HE.out.trans hE)
  have HB' := Lib.hid (HB.out.ext hE)
  have HU' := Lib.hid (owns_ext hE HU.out)
  have HPP' := Lib.hid (owns_ext hE HPP.out)
  have HXR' := Lib.hid (Nd.rd_ext hE HXR.out)
  have HC' := Lib.hid (hE.cell HC.out)
  have HI' := Lib.hid (hE.cell HI.out)
  go_simp
  rw [HW.out, HRR.out]
  refine hK.out _ _ (show _ ∧ _ from ⟨hHeld.1.ext hE, hE.cell hHeld.2⟩) (fun hHeld => ?_)
  clear hK K' hE HW HRR
  try simp only [Act.put, aS]
  replace HE := HE'; replace HB := HB'; replace HU := HU'; replace HPP := HPP'; replace HXR := HXR'; replace HC := HC'; replace HI := HI'
  clear HE' HB' HU' HPP' HXR' HC' HI'
  refine wpAnyH_ready (rs := [10]) (by kernel_rfl) (by simp) ?_
  refine AllReadyH.cons (o := ⟨_, _, _, _, _, _⟩) rfl (fun K' hK => ?_) AllReadyH.nil
  have hq := pchild_any s.up (s.i + 1) _ d1 (RdS.of_owns HU.out) (by omega)
  rw [hqq] at hq
  go_simp
  go_at_call 30
  refine hq.mono ?_
  clear hq
  rintro e d2 ⟨r, rfl, hO, hE⟩
  have HO := Lib.hid (owns_lo hO (Nat.le_trans HX0.out.size HE.out.size))
  obtain ⟨nA, nc, rfl, -⟩ := RdS.of_owns hO
  have HE' := Lib.hid (HE.out.trans hE)
  have HB' := Lib.hid (HB.out.ext hE)
  have HU' := Lib.hid (owns_ext hE HU.out)
  have HPP' := Lib.hid (owns_ext hE HPP.out)
  have HXR' := Lib.hid (Nd.rd_ext hE HXR.out)
  have HC' := Lib.hid (hE.cell HC.out)
  have HI' := Lib.hid (hE.cell HI.out)
  have HR9' := Lib.hid (HR9.out.ext hE)
  refine hK.out _ _ (show _ ∧ _ from ⟨hHeld.1.ext hE, hE.cell hHeld.2⟩) (fun hHeld => ?_)
  clear hK K' hO hE
  try simp only [Act.put, aS]
  replace HE := HE'; replace HB := HB'; replace HU := HU'; replace HPP := HPP'; replace HXR := HXR'; replace HC := HC'; replace HI := HI'; replace HR9 := HR9'
  clear HE' HB' HU' HPP' HXR' HC' HI' HR9'
  have r0 := HR9.out.cell 0
  have r1 := HR9.out.frozen 0
  refine wpAnyH_ready (rs := [12]) (by kernel_rfl) (by simp) ?_
  refine AllReadyH.cons (o := ⟨_, _, _, _, _, _⟩) rfl (fun K' hK => ?_) AllReadyH.nil
  go_simp
  obtain ⟨d3, hw⟩ : ∃ W, d2.setCell ⟨R, 0, none⟩ (.string rest) = W := ⟨_, rfl⟩
  have F : Fr d2 d3 (fun k => k = R) := by rw [← hw]; exact Fr.setCell _ _ _ _
  have HR9' := Lib.hid (show NBox d3 R 9 #[.string rest] from by rw [← hw]; exact HR9.out.set 0 _)
  rw [hw]
  have HE' := Lib.hid (Fr.ext HE.out F (fun q hq => by rw [show q = R from hq]; exact HLR.out))
  have HB' := Lib.hid (HB.out.fr F HXN.out)
  have HU' := Lib.hid (owns_fr F HU.out (fun g hg hk => HR9.out.not_own HU.out (by decide) (by rw [hg, show g = R from hk])))
  have HPP' := Lib.hid (owns_fr F HPP.out (fun g hg hk => HR9.out.not_own HPP.out (by decide) (by rw [hg, show g = R from hk])))
  have HO' := Lib.hid (owns_fr F HO.out (fun g hg hk => HR9.out.not_own HO.out (by decide) (by rw [hg, show g = R from hk])))
  have HC' := Lib.hid (F.cell HCN.out HC.out)
  have HI' := Lib.hid (F.cell HIN.out HI.out)
  refine hK.out _ _ (show _ ∧ _ from ⟨HB'.out, HC'.out⟩) (fun hHeld => ?_)
  clear hK K' F hw r0 r1 HXR
  try simp only [Act.put, aS]
  replace HE := HE'; replace HB := HB'; replace HU := HU'; replace HPP := HPP'; replace HO := HO'; replace HC := HC'; replace HI := HI'; replace HR9 := HR9'
  clear HE' HB' HU' HPP' HO' HC' HI' HR9'
  refine tk 13 ?_ rfl (.inl ⟨by rfl, ?_⟩) hHeld ?_
  rotate_left
  ·intro w hSw
   try dsimp only at hSw
   go_simp
   all_goals (first | with_reducible rfl | rw [if_pos (by omega)])
  try simp only [Act.put, aS]
  refine wpAnyH_done (by kernel_rfl) ?_ _
  clear hHeld
  have hHR : (HR9.out.cell 0 : _) = HR9.out.cell 0 := rfl
  clear hHR
  go_upto_region 5 with fail
  obtain ⟨e0, he0⟩ : ∃ d0, d3.drew = d0 := ⟨_, rfl⟩
  have hE : Ext d3 e0 := by rw [← he0]; exact (Ext.refl _).drew
  have HE' := Lib.hid (HE.out.trans hE)
  have HB' := Lib.hid (HB.out.ext hE)
  have HU' := Lib.hid (owns_ext hE HU.out)
  have HPP' := Lib.hid (owns_ext hE HPP.out)
  have HO' := Lib.hid (owns_ext hE HO.out)
  have HC' := Lib.hid (hE.cell HC.out)
  have HI' := Lib.hid (hE.cell HI.out)
  have HR9' := Lib.hid (HR9.out.ext hE)
  clear hE
  replace HE := HE'; replace HB := HB'; replace HU := HU'; replace HPP := HPP'; replace HO := HO'; replace HC := HC'; replace HI := HI'; replace HR9 := HR9'
  clear HE' HB' HU' HPP' HO' HC' HI' HR9'
  refine wp_region_held_drew (S := (fun W => NBox W X 52 #[.int .u64 s.x.id, .bool s.x.leaf, .string s.x.label, .slice xA s.x.attrs.length xc, .string s.x.text, .slice xK s.x.kids.length xd, .slice pA s.p.length pc, .slice uA s.up.length uc, .int .i64 s.i, .int .u64 s.par.id, .bool s.par.leaf, .string s.par.label, .slice yA s.par.attrs.length yc, .string s.par.text, .slice yK s.par.kids.length yd] ∧ W.cell? ⟨C, 0, none⟩ = some (.int .i64 (m : Int)) ∧ W.cell? ⟨I, 0, none⟩ = some (.int .u64 id) ∧ W.cell? ⟨R, 0, none⟩ = some (.string rest))) (by kernel_rfl) (by rw [he0]; exact ⟨HB.out, HC.out, HI.out, HR9.out.cell 0⟩) (fun hHeld => ?_)
  rw [he0] at hHeld ⊢
  clear he0
  refine tk 0 ?_ rfl (.inl ⟨by rfl, ?_⟩) hHeld ?_
  rotate_left
  ·intro w hSw
   try dsimp only at hSw
   go_simp
   all_goals (first | with_reducible rfl | rw [if_pos (by omega)])
  try simp only [Act.put, aS]
  refine tk 1 ?_ rfl (.inl ⟨by rfl, ?_⟩) hHeld ?_
  rotate_left
  ·intro w hSw
   try dsimp only at hSw
   go_simp
   all_goals (first | with_reducible rfl | rw [if_pos (by omega)])
  try simp only [Act.put, aS]
  refine tk 2 ?_ rfl (.inl ⟨by rfl, ?_⟩) hHeld ?_
  rotate_left
  ·intro w hSw
   obtain ⟨hb, hz1, hz2, hz3⟩ : NBox w X 52 _ ∧ _ := hSw
   have g0 := hb.cell 0
   have g1 := hb.cell 1
   have g2 := hb.cell 2
   have g3 := hb.cell 3
   have g4 := hb.cell 4
   have g5 := hb.cell 5
   have g6 := hb.cell 6
   have g7 := hb.cell 7
   have g8 := hb.cell 8
   have g9 := hb.cell 9
   have g10 := hb.cell 10
   have g11 := hb.cell 11
   have g12 := hb.cell 12
   have g13 := hb.cell 13
   have g14 := hb.cell 14
   clear hb
   go_simp
   all_goals (first | with_reducible rfl | rw [if_pos (by omega)])
  try simp only [Act.put, aS]
  refine tk 3 ?_ rfl (.inl ⟨by rfl, ?_⟩) hHeld ?_
  rotate_left
  ·intro w hSw
   obtain ⟨hb, hz1, hz2, hz3⟩ : NBox w X 52 _ ∧ _ := hSw
   have g0 := hb.cell 0
   have g1 := hb.cell 1
   have g2 := hb.cell 2
   have g3 := hb.cell 3
   have g4 := hb.cell 4
   have g5 := hb.cell 5
   have g6 := hb.cell 6
   have g7 := hb.cell 7
   have g8 := hb.cell 8
   have g9 := hb.cell 9
   have g10 := hb.cell 10
   have g11 := hb.cell 11
   have g12 := hb.cell 12
   have g13 := hb.cell 13
   have g14 := hb.cell 14
   clear hb
   go_simp
   all_goals (first | with_reducible rfl | rw [if_pos (by omega)])
  try simp only [Act.put, aS]
  refine tk 4 ?_ rfl (.inl ⟨by rfl, ?_⟩) hHeld ?_
  rotate_left
  ·intro w hSw
   obtain ⟨hb, hz1, hz2, hz3⟩ : NBox w X 52 _ ∧ _ := hSw
   have g0 := hb.cell 0
   have g1 := hb.cell 1
   have g2 := hb.cell 2
   have g3 := hb.cell 3
   have g4 := hb.cell 4
   have g5 := hb.cell 5
   have g6 := hb.cell 6
   have g7 := hb.cell 7
   have g8 := hb.cell 8
   have g9 := hb.cell 9
   have g10 := hb.cell 10
   have g11 := hb.cell 11
   have g12 := hb.cell 12
   have g13 := hb.cell 13
   have g14 := hb.cell 14
   clear hb
   go_simp
   all_goals (first | with_reducible rfl | rw [if_pos (by omega)])
  try simp only [Act.put, aS]
  refine tk 5 ?_ rfl (.inl ⟨by rfl, ?_⟩) hHeld ?_
  rotate_left
  ·intro w hSw
   try dsimp only at hSw
   go_simp
   all_goals (first | with_reducible rfl | rw [if_pos (by omega)])
  try simp only [Act.put, aS]
  refine tk 6 ?_ rfl (.inl ⟨by rfl, ?_⟩) hHeld ?_
  rotate_left
  ·intro w hSw
   try dsimp only at hSw
   go_simp
   all_goals (first | with_reducible rfl | rw [if_pos (by omega)])
  try simp only [Act.put, aS]
  refine tk 8 ?_ rfl (.inl ⟨by rfl, ?_⟩) hHeld ?_
  rotate_left
  ·intro w hSw
   try dsimp only at hSw
   go_simp
   all_goals (first | with_reducible rfl | rw [if_pos (by omega)])
  try simp only [Act.put, aS]
  refine tk 9 ?_ rfl (.inl ⟨by rfl, ?_⟩) hHeld ?_
  rotate_left
  ·intro w hSw
   obtain ⟨hb, hz1, hz2, hz3⟩ : NBox w X 52 _ ∧ _ := hSw
   have g0 := hb.cell 0
   have g1 := hb.cell 1
   have g2 := hb.cell 2
   have g3 := hb.cell 3
   have g4 := hb.cell 4
   have g5 := hb.cell 5
   have g6 := hb.cell 6
   have g7 := hb.cell 7
   have g8 := hb.cell 8
   have g9 := hb.cell 9
   have g10 := hb.cell 10
   have g11 := hb.cell 11
   have g12 := hb.cell 12
   have g13 := hb.cell 13
   have g14 := hb.cell 14
   clear hb
   go_simp
   all_goals (first | with_reducible rfl | rw [if_pos (by omega)])
  try simp only [Act.put, aS]
  refine tk 10 ?_ rfl (.inl ⟨by rfl, ?_⟩) hHeld ?_
  rotate_left
  ·intro w hSw
   try dsimp only at hSw
   go_simp
   all_goals (first | with_reducible rfl | rw [if_pos (by omega)])
  try simp only [Act.put, aS]
  refine tk 11 ?_ rfl (.inl ⟨by rfl, ?_⟩) hHeld ?_
  rotate_left
  ·intro w hSw
   obtain ⟨hb, hz1, hz2, hz3⟩ : NBox w X 52 _ ∧ _ := hSw
   have g0 := hb.cell 0
   have g1 := hb.cell 1
   have g2 := hb.cell 2
   have g3 := hb.cell 3
   have g4 := hb.cell 4
   have g5 := hb.cell 5
   have g6 := hb.cell 6
   have g7 := hb.cell 7
   have g8 := hb.cell 8
   have g9 := hb.cell 9
   have g10 := hb.cell 10
   have g11 := hb.cell 11
   have g12 := hb.cell 12
   have g13 := hb.cell 13
   have g14 := hb.cell 14
   clear hb
   go_simp
   all_goals (first | with_reducible rfl | rw [if_pos (by omega)])
  try simp only [Act.put, aS]
  refine tk 12 ?_ rfl (.inl ⟨by rfl, ?_⟩) hHeld ?_
  rotate_left
  ·intro w hSw
   try dsimp only at hSw
   go_simp
   all_goals (first | with_reducible rfl | rw [if_pos (by omega)])
  try simp only [Act.put, aS]
  refine tk 13 ?_ rfl (.inl ⟨by rfl, ?_⟩) hHeld ?_
  rotate_left
  ·intro w hSw
   obtain ⟨hb, hz1, hz2, hz3⟩ : NBox w X 52 _ ∧ _ := hSw
   have g0 := hb.cell 0
   have g1 := hb.cell 1
   have g2 := hb.cell 2
   have g3 := hb.cell 3
   have g4 := hb.cell 4
   have g5 := hb.cell 5
   have g6 := hb.cell 6
   have g7 := hb.cell 7
   have g8 := hb.cell 8
   have g9 := hb.cell 9
   have g10 := hb.cell 10
   have g11 := hb.cell 11
   have g12 := hb.cell 12
   have g13 := hb.cell 13
   have g14 := hb.cell 14
   clear hb
   go_simp
   all_goals (first | with_reducible rfl | rw [if_pos (by omega)])
  try simp only [Act.put, aS]
  refine tk 14 ?_ rfl (.inl ⟨by rfl, ?_⟩) hHeld ?_
  rotate_left
  ·intro w hSw
   try dsimp only at hSw
   go_simp
   all_goals (first | with_reducible rfl | rw [if_pos (by omega)])
  try simp only [Act.put, aS]
  refine tk 15 ?_ rfl (.inl ⟨by rfl, ?_⟩) hHeld ?_
  rotate_left
  ·intro w hSw
   try dsimp only at hSw
   go_simp
   all_goals (first | with_reducible rfl | rw [if_pos (by omega)])
  try simp only [Act.put, aS]
  refine tk 16 ?_ rfl (.inl ⟨by rfl, ?_⟩) hHeld ?_
  rotate_left
  ·intro w hSw
   obtain ⟨hb, hz1, hz2, hz3⟩ : NBox w X 52 _ ∧ _ := hSw
   have g0 := hb.cell 0
   have g1 := hb.cell 1
   have g2 := hb.cell 2
   have g3 := hb.cell 3
   have g4 := hb.cell 4
   have g5 := hb.cell 5
   have g6 := hb.cell 6
   have g7 := hb.cell 7
   have g8 := hb.cell 8
   have g9 := hb.cell 9
   have g10 := hb.cell 10
   have g11 := hb.cell 11
   have g12 := hb.cell 12
   have g13 := hb.cell 13
   have g14 := hb.cell 14
   clear hb
   go_simp
   all_goals (first | with_reducible rfl | rw [if_pos (by omega)])
  try simp only [Act.put, aS]
  refine tk 17 ?_ rfl (.inl ⟨by rfl, ?_⟩) hHeld ?_
  rotate_left
  ·intro w hSw
   try dsimp only at hSw
   go_simp
   all_goals (first | with_reducible rfl | rw [if_pos (by omega)])
  try simp only [Act.put, aS]
  refine wpAnyH_ready (rs := [7, 18]) (by kernel_rfl) (by simp) ?_
  refine AllReadyH.cons (o := ⟨_, _, _, _, _, _⟩) rfl (fun K' hK => ?_) (AllReadyH.cons (o := ⟨_, _, _, _, _, _⟩) rfl (fun K' hK => ?_) AllReadyH.nil)
  ·-- the edit first
   have hq := edit40_any s.p ⟨m, rest.size, ⟨#[]⟩⟩ rest _ e0 R (RdS.of_owns HPP.out) (HR9.out.cell 0) (by omega) (Nat.zero_le _)
   obtain ⟨L1, hL1⟩ : ∃ L, editL rest s.p ⟨m, rest.size, ⟨#[]⟩⟩ = L := ⟨_, rfl⟩
   have hl1 : L1.length ≤ 1 := by rw [← hL1]; exact editL_len _ _ _
   rw [hL1] at hq
   have HL1 := Lib.hid hL1
   clear hL1
   go_simp
   go_at_call 40
   refine hq.mono ?_
   clear hq
   rintro e e1 ⟨hE, v, rfl, hv⟩
   have HL := Lib.hid (rowV2.low hv (Nat.le_trans HX0.out.size HE.out.size))
   have HLB : Hid (∀ k, v.ownBlock = some k → w.heap.size ≤ k) := Lib.hid (fun k hk => by obtain ⟨_, h, _⟩ := hv; exact Nat.le_trans HE.out.size (owns_base h k hk))
   obtain ⟨A1, c1, rfl⟩ := lsV.slice hv
   have HE' := Lib.hid (HE.out.trans hE)
   have HB' := Lib.hid (HB.out.ext hE)
   have HU' := Lib.hid (owns_ext hE HU.out)
   have HPP' := Lib.hid (owns_ext hE HPP.out)
   have HO' := Lib.hid (owns_ext hE HO.out)
   have HC' := Lib.hid (hE.cell HC.out)
   have HI' := Lib.hid (hE.cell HI.out)
   have HR9' := Lib.hid (HR9.out.ext hE)
   refine hK.out _ _ (show _ ∧ _ from ⟨hHeld.1.ext hE, hE.cell hHeld.2.1, hE.cell hHeld.2.2.1, hE.cell hHeld.2.2.2⟩) (fun hHeld => ?_)
   clear hK K' hE hv
   try simp only [Act.put, aS]
   replace HE := HE'; replace HB := HB'; replace HU := HU'; replace HPP := HPP'; replace HO := HO'; replace HC := HC'; replace HI := HI'; replace HR9 := HR9'
   clear HE' HB' HU' HPP' HO' HC' HI' HR9'
   refine wpAnyH_ready (rs := [18]) (by kernel_rfl) (by simp) ?_
   refine AllReadyH.cons (o := ⟨_, _, _, _, _, _⟩) rfl (fun K' hK => ?_) AllReadyH.nil
   obtain ⟨e2, hw⟩ : ∃ W, e1.alloc (.cells #[.int .u8 1, .slice uA s.up.length uc, .int .i64 (s.i + 1), .slice none 0 0, .int .u64 id, .bool true, .string s.x.label, .string ⟨#[]⟩, .string ⟨#[]⟩, .bool false, .slice none 0 0] 38) = W := ⟨_, rfl⟩
   obtain ⟨N, hN⟩ : ∃ g, e1.heap.size = g := ⟨_, rfl⟩
   have hE : Ext e1 e2 := by rw [← hw]; exact (Ext.refl _).alloc _
   have HN := Lib.hid (show NBox e2 N 38 #[.int .u8 1, .slice uA s.up.length uc, .int .i64 (s.i + 1), .slice none 0 0, .int .u64 id, .bool true, .string s.x.label, .string ⟨#[]⟩, .string ⟨#[]⟩, .bool false, .slice none 0 0] from by rw [← hw, ← hN]; exact NBox.new _ _ _)
   have HW := Lib.hid hw
   have HNN := Lib.hid hN
   clear hw hN
   have HE' := Lib.hid (HE.out.trans hE)
   have HB' := Lib.hid (HB.out.ext hE)
   have HU' := Lib.hid (owns_ext hE HU.out)
   have HPP' := Lib.hid (owns_ext hE HPP.out)
   have HO' := Lib.hid (owns_ext hE HO.out)
   have HC' := Lib.hid (hE.cell HC.out)
   have HI' := Lib.hid (hE.cell HI.out)
   have HR9' := Lib.hid (HR9.out.ext hE)
   have HL' := Lib.hid (lsV.ext HL.out hE)
   go_simp
   rw [HW.out, HNN.out]
   refine hK.out _ _ (show _ ∧ _ from ⟨hHeld.1.ext hE, hE.cell hHeld.2.1, hE.cell hHeld.2.2.1, hE.cell hHeld.2.2.2⟩) (fun hHeld => ?_)
   clear hK K' hE HW HNN
   try simp only [Act.put, aS]
   replace HE := HE'; replace HB := HB'; replace HU := HU'; replace HPP := HPP'; replace HO := HO'; replace HC := HC'; replace HI := HI'; replace HR9 := HR9'; replace HL := HL'
   clear HE' HB' HU' HPP' HO' HC' HI' HR9' HL'
   obtain ⟨us1, ho1, hla1⟩ := HL.out
   have hS : ∀ g, (Value.slice uA s.up.length uc).ownBlock = some g → ¬ rowS w0.heap.size (Value.slice A1 L1.length c1) g := fun g hg hk => hk.elim (fun h => absurd (owns_base HU.out g hg) (Nat.not_le.2 h)) (fun h => owns_apart ho1 HU.out (by decide) h hg)
   have hx : Late (rowS w0.heap.size (Value.slice A1 L1.length c1)) (fun W => rowCells RdO 11 W [newO s.up (s.i + 1) id s.x.label] [.int .u8 1, .slice uA s.up.length uc, .int .i64 (s.i + 1), .slice none 0 0, .int .u64 id, .bool true, .string s.x.label, .string ⟨#[]⟩, .string ⟨#[]⟩, .bool false, .slice none 0 0]) e2 := (op_late (o := newO s.up (s.i + 1) id s.x.label) HU.out hS rfl rfl HLAB.out (Nat.zero_le _) (Nat.zero_le _) HID.out (show (0 : Int) ≤ 1 ∧ (1 : Int) ≤ 255 from by decide)).imp fun W h => ⟨[.int .u8 1, .slice uA s.up.length uc, .int .i64 (s.i + 1), .slice none 0 0, .int .u64 id, .bool true, .string s.x.label, .string ⟨#[]⟩, .string ⟨#[]⟩, .bool false, .slice none 0 0], [], rfl, h, (List.append_nil _).symm, rfl⟩
   refine wpAnyH_ready (rs := [19]) (by kernel_rfl) (by simp) ?_
   refine AllReadyH.cons (o := ⟨_, _, _, _, _, _⟩) rfl (fun K' hK => ?_) AllReadyH.nil
   refine wp_append_rd rfl T31 (by rfl) ho1 (by rfl) (NBox.row HN.out) (ones11 ⟨rfl, rfl, rfl, rfl, rfl, rfl, rfl, rfl, rfl, rfl, rfl⟩) (by omega) (by simp only [maxLen]; omega) (Nat.le_trans HX0.out.size HE.out.size) ?_
   intro v4 w4 h4 hg hat4
   have HL2 := Lib.hid (rowV2.app hla1 hx hg hat4 h4)
   have F := Fr.grown hg
   have HE' := Lib.hid (Fr.ext HE.out F (fun k hk => HLB.out k hk))
   have HB' := Lib.hid (HB.out.fr F (fun hk => HB.out.not_own ho1 (by decide) hk))
   have HR9' := Lib.hid (HR9.out.fr F (fun hk => HR9.out.not_own ho1 (by decide) hk))
   have HO' := Lib.hid (owns_fr F HO.out (fun g hg hk => owns_apart ho1 HO.out (by decide) hk hg))
   have HPP' := Lib.hid (owns_fr F HPP.out (fun g hg hk => owns_apart ho1 HPP.out (by decide) hk hg))
   have HC' := Lib.hid (F.cell (fun hk => absurd (HLB.out _ hk) (Nat.not_le.2 HCL.out)) HC.out)
   have HI' := Lib.hid (F.cell (fun hk => absurd (HLB.out _ hk) (Nat.not_le.2 HIL.out)) HI.out)
   have HLB' := Lib.hid (fun k (hk : v4.ownBlock = some k) => hat4.elim (fun h => HLB.out k (h ▸ hk)) (fun h => by rw [h] at hk; cases hk; exact HE.out.size))
   refine hK.out _ _ (show _ ∧ _ from ⟨HB'.out, HC'.out, HI'.out, HR9'.out.cell 0⟩) (fun hHeld => ?_)
   clear hK K' F hx hS hla1 HU HPP HPP' HC HC' HI HI' HL HN hg hat4 h4
   try simp only [Act.put, aS]
   replace HE := HE'; replace HB := HB'; replace HO := HO'; replace HR9 := HR9'; replace HLB := HLB'
   clear HE' HB' HO' HR9' HLB'
   obtain ⟨L2, hL2⟩ : ∃ L, L1 ++ [newO s.up (s.i + 1) id s.x.label] = L := ⟨_, rfl⟩
   rw [hL2] at HL2
   have HSL2 := Lib.hid (show splL m id s rest = L2 ++ s.x.attrs.map (atrO q) ++ editL rest q ⟨0, 0, rest⟩ from by rw [HSL.out, HL1.out, hL2])
   have hl2 : L2.length ≤ 2 := by rw [← hL2, List.length_append]; simp only [List.length_cons, List.length_nil]; omega
   obtain ⟨A2, c2, rfl⟩ := lsV.slice HL2.out
   clear hL2 HL1 hl1 ho1
   refine tk 20 ?_ rfl (.inl ⟨by rfl, ?_⟩) hHeld ?_
   rotate_left
   ·intro w hSw
    try dsimp only at hSw
    go_simp
    all_goals (first | with_reducible rfl | rw [if_pos (by omega)])
   try simp only [Act.put, aS]
   refine wpAnyH_done (by kernel_rfl) ?_ _
   clear hHeld
   have k3 := HB.out.cell 3
   go_wp2_with fail
   clear k3 HB
   go_loopw [8, 62] (fun s8 s62 wr => ∃ (j : Nat) (l : List OpD) (A : Option Addr) (c : Nat), s62 = .int .i64 (j : Int) ∧ j ≤ s.x.attrs.length ∧ s8 = .slice A l.length c ∧ l.length ≤ 2 + j ∧ Hid (Ext w wr) ∧ Hid (wr.ownsRow w0.heap.size 3 1 (.slice nA q.length nc) q.length (q.map (Value.int .i64))) ∧ Hid (NBox wr R 9 #[.string rest]) ∧ Hid (∀ k, (Value.slice A l.length c).ownBlock = some k → w.heap.size ≤ k) ∧ Hid (rowV2 RdO 38 11 w0.heap.size l (.slice A l.length c) wr) ∧ Hid (splL m id s rest = l ++ (s.x.attrs.drop j).map (atrO q) ++ editL rest q ⟨0, 0, rest⟩)) (fun _ j _ => s.x.attrs.length - (intOf j).toNat)
   case atStart => exact ⟨0, L2, A2, c2, rfl, Nat.zero_le _, rfl, hl2, HE, HO, HR9, HLB, HL2, HSL2⟩
   case round =>
    clear HE HO HR9 HLB HL2 HSL2 hl2
    obtain ⟨j, l, A, c, rfl, hj, rfl, hll, HE, HO, HR9, HLB, HL9, HN9⟩ := hrel
    rcases Nat.lt_or_ge j s.x.attrs.length with hlt | hlt
    ·have q1 : (0 : Int) ≤ (j : Int) := by omega
     have q2 : (j : Int) < (s.x.attrs.length : Int) := by omega
     obtain ⟨⟨ak, av⟩, ha⟩ : ∃ x, s.x.attrs[j]? = some x := ⟨_, List.getElem?_eq_getElem hlt⟩
     obtain ⟨av0, kv0, he, -, -, -, -, ⟨aA, ac, hav, -, -, hra⟩, -⟩ := Nd.rd_open HXR0.out
     simp only [Value.agg.injEq, Array.mk.injEq, List.cons.injEq, and_true, true_and] at he
     obtain ⟨hav0, -⟩ := he
     rw [hav] at hav0
     simp only [Value.slice.injEq, true_and] at hav0
     obtain ⟨rfl, rfl⟩ := hav0
     obtain ⟨ab, ao, rfl, hr⟩ := hra (by intro h0; rw [h0] at hlt; exact absurd hlt (Nat.not_lt_zero _))
     obtain ⟨hk1, hk2, a0, a1⟩ := rdAttrs_at (rdAttrs_ext (HX0.out.trans HE.out) hr) ha
     have HN' := Lib.hid (show splL m id s rest = (l ++ [atrO q (ak, av)]) ++ (s.x.attrs.drop (j + 1)).map (atrO q) ++ editL rest q ⟨0, 0, rest⟩ from by rw [HN9.out, drop_at ha, List.map_cons, List.append_assoc l [_]]; rfl)
     clear hr hra hav ha HN9
     obtain ⟨w5, hw5⟩ : ∃ W, wr.alloc (.cells #[.string ⟨#[]⟩, .string ⟨#[]⟩] 45) = W := ⟨_, rfl⟩
     obtain ⟨Z, hZ⟩ : ∃ g, wr.heap.size = g := ⟨_, rfl⟩
     have hE : Ext wr w5 := by rw [← hw5]; exact (Ext.refl _).alloc _
     have bZ : NBox w5 Z 45 #[.string ⟨#[]⟩, .string ⟨#[]⟩] := by rw [← hw5, ← hZ]; exact NBox.new _ _ _
     have HwZ := Lib.hid (show w.heap.size ≤ Z from by rw [← hZ]; exact HE.out.size)
     obtain ⟨w6, hw6⟩ : ∃ W, (w5.setCell ⟨Z, 0, none⟩ (.string ak)).setCell ⟨Z, 1, none⟩ (.string av) = W := ⟨_, rfl⟩
     have F6 : Fr w5 w6 (fun k => k = Z) := by rw [← hw6]; exact (Fr.setCell _ _ _ _).trans (Fr.setCell _ _ _ _)
     have HZB := Lib.hid (show NBox w6 Z 45 #[.string ak, .string av] from by rw [← hw6]; exact (bZ.set 0 _).set 1 _)
     have HW5 := Lib.hid hw5
     have HZZ := Lib.hid hZ
     have HW6 := Lib.hid hw6
     have y0 := bZ.cell 0
     have z0 := bZ.frozen 0
     have y1 := (bZ.set 0 (.string ak)).cell 1
     have z1 := (bZ.set 0 (.string ak)).frozen 1
     have hE : Ext wr w6 := Fr.ext hE F6 (fun k hk => by rw [show k = Z from hk, ← hZ]; exact Nat.le_refl _)
     have HE' := Lib.hid (HE.out.trans hE)
     have HO' := Lib.hid (owns_ext hE HO.out)
     have HR9' := Lib.hid (HR9.out.ext hE)
     have HL9' := Lib.hid (rowV2.ext HL9.out hE)
     clear hw5 hZ hw6 hE F6 bZ
     replace HE := HE'; replace HO := HO'; replace HR9 := HR9'; replace HL9 := HL9'
     clear HE' HO' HR9' HL9'
     go_upto_region 9 with (rw [HW5.out, HZZ.out]; clear HW5 HZZ)
     rw [HW6.out]
     clear HW6 y0 y1 z0 z1 hk1 hk2
     obtain ⟨e0, he0⟩ : ∃ d0, w6.drew = d0 := ⟨_, rfl⟩
     have hE : Ext w6 e0 := by rw [← he0]; exact (Ext.refl _).drew
     have HZB' := Lib.hid (HZB.out.ext hE)
     have HE' := Lib.hid (HE.out.trans hE)
     have HO' := Lib.hid (owns_ext hE HO.out)
     have HR9' := Lib.hid (HR9.out.ext hE)
     have HL9' := Lib.hid (rowV2.ext HL9.out hE)
     clear hE
     replace HE := HE'; replace HO := HO'; replace HR9 := HR9'; replace HL9 := HL9'; replace HZB := HZB'
     clear HE' HO' HR9' HL9' HZB'
     refine wp_region_held_drew (S := (fun W => NBox W Z 45 #[.string ak, .string av])) (by kernel_rfl) (by rw [he0]; exact HZB.out) (fun hHeld => ?_)
     rw [he0] at hHeld ⊢
     clear he0
     refine tk 0 ?_ rfl (.inl ⟨by rfl, ?_⟩) hHeld ?_
     rotate_left
     ·intro w hSw
      try dsimp only at hSw
      go_simp
      all_goals (first | with_reducible rfl | rw [if_pos (by omega)])
     try simp only [Act.put, aS]
     refine tk 1 ?_ rfl (.inl ⟨by rfl, ?_⟩) hHeld ?_
     rotate_left
     ·intro w hSw
      try dsimp only at hSw
      go_simp
      all_goals (first | with_reducible rfl | rw [if_pos (by omega)])
     try simp only [Act.put, aS]
     refine tk 3 ?_ rfl (.inl ⟨by rfl, ?_⟩) hHeld ?_
     rotate_left
     ·intro w hSw
      try dsimp only at hSw
      go_simp
      all_goals (first | with_reducible rfl | rw [if_pos (by omega)])
     try simp only [Act.put, aS]
     refine tk 4 ?_ rfl (.inl ⟨by rfl, ?_⟩) hHeld ?_
     rotate_left
     ·intro w hSw
      have hb : NBox w Z 45 _ := hSw
      have g0 := hb.cell 0
      have g1 := hb.cell 1
      clear hb hSw
      go_simp
      all_goals (first | with_reducible rfl | rw [if_pos (by omega)])
     try simp only [Act.put, aS]
     refine tk 5 ?_ rfl (.inl ⟨by rfl, ?_⟩) hHeld ?_
     rotate_left
     ·intro w hSw
      try dsimp only at hSw
      go_simp
      all_goals (first | with_reducible rfl | rw [if_pos (by omega)])
     try simp only [Act.put, aS]
     refine tk 6 ?_ rfl (.inl ⟨by rfl, ?_⟩) hHeld ?_
     rotate_left
     ·intro w hSw
      have hb : NBox w Z 45 _ := hSw
      have g0 := hb.cell 0
      have g1 := hb.cell 1
      clear hb hSw
      go_simp
      all_goals (first | with_reducible rfl | rw [if_pos (by omega)])
     try simp only [Act.put, aS]
     refine wpAnyH_ready (rs := [2]) (by kernel_rfl) (by simp) ?_
     refine AllReadyH.cons (o := ⟨_, _, _, _, _, _⟩) rfl (fun K' hK => ?_) AllReadyH.nil
     have hq := clone_any q _ e0 (RdS.of_owns HO.out) (by omega)
     go_simp
     go_at_call 41
     refine hq.mono ?_
     clear hq
     rintro e e1 ⟨r, rfl, hQ, hE⟩
     have HQ := Lib.hid (owns_lo hQ (Nat.le_trans HX0.out.size HE.out.size))
     obtain ⟨bA, bc, rfl, -⟩ := RdS.of_owns hQ
     have HE' := Lib.hid (HE.out.trans hE)
     have HO' := Lib.hid (owns_ext hE HO.out)
     have HR9' := Lib.hid (HR9.out.ext hE)
     have HL9' := Lib.hid (rowV2.ext HL9.out hE)
     refine hK.out _ _ (show NBox _ _ _ _ from NBox.ext hE hHeld) (fun hHeld => ?_)
     clear hK K' hQ hE
     try simp only [Act.put, aS]
     replace HE := HE'; replace HO := HO'; replace HR9 := HR9'; replace HL9 := HL9'
     clear HE' HO' HR9' HL9'
     refine tk 7 ?_ rfl (.inl ⟨by rfl, ?_⟩) hHeld ?_
     rotate_left
     ·intro w hSw
      try dsimp only at hSw
      go_simp
      all_goals (first | with_reducible rfl | rw [if_pos (by omega)])
     try simp only [Act.put, aS]
     obtain ⟨e2, hw⟩ : ∃ W, e1.alloc (.cells #[.int .u8 4, .slice bA q.length bc, .int .i64 0, .slice none 0 0, .int .u64 0, .bool false, .string ⟨#[]⟩, .string ak, .string av, .bool false, .slice none 0 0] 38) = W := ⟨_, rfl⟩
     obtain ⟨N, hN⟩ : ∃ g, e1.heap.size = g := ⟨_, rfl⟩
     have hE : Ext e1 e2 := by rw [← hw]; exact (Ext.refl _).alloc _
     have HN := Lib.hid (show NBox e2 N 38 #[.int .u8 4, .slice bA q.length bc, .int .i64 0, .slice none 0 0, .int .u64 0, .bool false, .string ⟨#[]⟩, .string ak, .string av, .bool false, .slice none 0 0] from by rw [← hw, ← hN]; exact NBox.new _ _ _)
     have HW := Lib.hid hw
     have HNN := Lib.hid hN
     clear hw hN
     have HE' := Lib.hid (HE.out.trans hE)
     have HO' := Lib.hid (owns_ext hE HO.out)
     have HR9' := Lib.hid (HR9.out.ext hE)
     have HL9' := Lib.hid (rowV2.ext HL9.out hE)
     have HQ' := Lib.hid (owns_ext hE HQ.out)
     refine wpAnyH_ready (rs := [8]) (by kernel_rfl) (by simp) ?_
     refine AllReadyH.cons (o := ⟨_, _, _, _, _, _⟩) rfl (fun K' hK => ?_) AllReadyH.nil
     go_simp
     rw [HW.out, HNN.out]
     refine hK.out _ _ (show NBox _ _ _ _ from NBox.ext hE hHeld) (fun hHeld => ?_)
     clear hK K' hE HW HNN
     try simp only [Act.put, aS]
     replace HE := HE'; replace HO := HO'; replace HR9 := HR9'; replace HL9 := HL9'; replace HQ := HQ'
     clear HE' HO' HR9' HL9' HQ'
     obtain ⟨us1, ho1, hla1⟩ := HL9.out
     have hS : ∀ g, (Value.slice bA q.length bc).ownBlock = some g → ¬ rowS w0.heap.size (Value.slice A l.length c) g := fun g hg hk => hk.elim (fun h => absurd (owns_base HQ.out g hg) (Nat.not_le.2 h)) (fun h => owns_apart ho1 HQ.out (by decide) h hg)
     have hx : Late (rowS w0.heap.size (Value.slice A l.length c)) (fun W => rowCells RdO 11 W [atrO q (ak, av)] [.int .u8 4, .slice bA q.length bc, .int .i64 0, .slice none 0 0, .int .u64 0, .bool false, .string ⟨#[]⟩, .string ak, .string av, .bool false, .slice none 0 0]) e2 := (op_late (o := atrO q (ak, av)) HQ.out hS rfl rfl (Nat.zero_le _) a0 a1 (show (0 : Int) ≤ 0 ∧ (0 : Int) ≤ 18446744073709551615 from by decide) (show (0 : Int) ≤ 4 ∧ (4 : Int) ≤ 255 from by decide)).imp fun W h => ⟨[.int .u8 4, .slice bA q.length bc, .int .i64 0, .slice none 0 0, .int .u64 0, .bool false, .string ⟨#[]⟩, .string ak, .string av, .bool false, .slice none 0 0], [], rfl, h, (List.append_nil _).symm, rfl⟩
     refine wpAnyH_ready (rs := [9]) (by kernel_rfl) (by simp) ?_
     refine AllReadyH.cons (o := ⟨_, _, _, _, _, _⟩) rfl (fun K' hK => ?_) AllReadyH.nil
     refine wp_append_rd rfl T31 (by rfl) ho1 (by rfl) (NBox.row HN.out) (ones11 ⟨rfl, rfl, rfl, rfl, rfl, rfl, rfl, rfl, rfl, rfl, rfl⟩) (by omega) (by simp only [maxLen]; omega) (Nat.le_trans HX0.out.size HE.out.size) ?_
     intro v4 w4 h4 hg hat4
     have HL2 := Lib.hid (rowV2.app hla1 hx hg hat4 h4)
     have F := Fr.grown hg
     have HE' := Lib.hid (Fr.ext HE.out F (fun k hk => HLB.out k hk))
     have HR9' := Lib.hid (HR9.out.fr F (fun hk => HR9.out.not_own ho1 (by decide) hk))
     have HO' := Lib.hid (owns_fr F HO.out (fun g hg hk => owns_apart ho1 HO.out (by decide) hk hg))
     have HLB' := Lib.hid (fun k (hk : v4.ownBlock = some k) => hat4.elim (fun h => HLB.out k (h ▸ hk)) (fun h => by rw [h] at hk; cases hk; exact HE.out.size))
     have hZ4 : NBox w4 Z 45 #[.string ak, .string av] := NBox.fr F hHeld (fun hk => NBox.not_own hHeld ho1 (by decide) hk)
     refine hK.out _ _ (show NBox _ _ _ _ from hZ4) (fun hHeld => ?_)
     clear hK K' F hx hS hla1 hZ4 HQ HL9 HN hg hat4 h4
     try simp only [Act.put, aS]
     replace HE := HE'; replace HO := HO'; replace HR9 := HR9'; replace HLB := HLB'
     clear HE' HO' HR9' HLB'
     obtain ⟨L3, hL3⟩ : ∃ L, l ++ [atrO q (ak, av)] = L := ⟨_, rfl⟩
     have hl3 : L3.length ≤ 2 + (j + 1) := by rw [← hL3, List.length_append]; simp only [List.length_cons, List.length_nil]; omega
     rw [hL3] at HL2 HN'
     obtain ⟨A3, c3, rfl⟩ := lsV.slice HL2.out
     clear hL3 ho1
     refine tk 10 ?_ rfl (.inl ⟨by rfl, ?_⟩) hHeld ?_
     rotate_left
     ·intro w hSw
      try dsimp only at hSw
      go_simp
      all_goals (first | with_reducible rfl | rw [if_pos (by omega)])
     try simp only [Act.put, aS]
     refine wpAnyH_done (by kernel_rfl) ?_ _
     clear hHeld
     go_wp2_with fail
     go_roundw
     case rel => exact ⟨j + 1, L3, A3, c3, by go_num, by omega, rfl, hl3, HE, HO, HR9, HLB, HL2, HN'⟩
     case measure => simp [intOf]; omega
    ·obtain rfl : j = s.x.attrs.length := by omega
     have q1 : ¬ ((s.x.attrs.length : Int) < (s.x.attrs.length : Int)) := Int.lt_irrefl _
     have HN' := Lib.hid (show splL m id s rest = l ++ editL rest q ⟨0, 0, rest⟩ from by rw [HN9.out, List.drop_eq_nil_of_le (Nat.le_refl _)]; simp)
     clear HN9 q1
     obtain ⟨us1, ho1, hla1⟩ := HL9.out
     have HOB := Lib.hid (fun k (hk : (Value.slice A l.length c).ownBlock = some k) => (ho1.lt k hk).2)
     have hq := edit40_any q ⟨0, 0, rest⟩ rest _ wr R (RdS.of_owns HO.out) (HR9.out.cell 0) (by omega) HREST.out
     obtain ⟨L3, hL3⟩ : ∃ L, editL rest q ⟨0, 0, rest⟩ = L := ⟨_, rfl⟩
     have hl3 : L3.length ≤ 1 := by rw [← hL3]; exact editL_len _ _ _
     rw [hL3] at hq HN'
     have r9 := HR9.out.cell 0
     clear hL3
     go_wp2_with fail
     refine hq.mono ?_
     clear hq r9
     rintro e w4 ⟨hE, v, rfl, hv⟩
     have HE' := Lib.hid (HE.out.trans hE)
     have hv0 := hv
     obtain ⟨us3, ho3, hla3⟩ := hv0
     obtain ⟨A3, c3, rfl⟩ := lsV.slice hv
     have ho4 := owns_ext hE ho1
     have hlo := Nat.le_trans HX0.out.size HE.out.size
     have hx : Late (rowS w0.heap.size (Value.slice A l.length c)) (fun W => rowCells RdO 11 W L3 us3) w4 := hla3.sub (fun k hk => .inl (hk.elim (fun h => Nat.lt_of_lt_of_le h hlo) (fun h => HOB.out k h)))
     have hla4 := hla1.ext hE
     have hones := rowCells_ones L3 us3 hla3.now
     have hsz := Nat.le_trans hlo hE.size
     clear hv hE hla1 ho1 HL9 HOB
     replace HE := HE'
     clear HE'
     go_wp2_with (first | (at_builtin; refine wpList_append_rd rfl rfl T31 (v := _) (by rfl) ho4 (by rfl) (RdS.of_owns ho3) hones (by omega) (by simp only [maxLen]; omega) hsz ?_; intro v5 w5 h5 hg hat5))
     have HL5 := Lib.hid (rowV2.app hla4 hx hg hat5 h5)
     have HE' := Lib.hid (Fr.ext HE.out (Fr.grown hg) (fun k hk => HLB.out k hk))
     obtain ⟨A5, c5, rfl⟩ := lsV.slice HL5.out
     clear hx hla4 hla3 hones ho3 ho4 hg hat5 h5
     go_ret
     rw [HR.out, HN'.out]
     exact ⟨HE'.out, _, rfl, HL5.out⟩
  ·-- the new leaf first
   obtain ⟨e1, hw⟩ : ∃ W, e0.alloc (.cells #[.int .u8 1, .slice uA s.up.length uc, .int .i64 (s.i + 1), .slice none 0 0, .int .u64 id, .bool true, .string s.x.label, .string ⟨#[]⟩, .string ⟨#[]⟩, .bool false, .slice none 0 0] 38) = W := ⟨_, rfl⟩
   obtain ⟨N, hN⟩ : ∃ g, e0.heap.size = g := ⟨_, rfl⟩
   have hE : Ext e0 e1 := by rw [← hw]; exact (Ext.refl _).alloc _
   have HN := Lib.hid (show NBox e1 N 38 #[.int .u8 1, .slice uA s.up.length uc, .int .i64 (s.i + 1), .slice none 0 0, .int .u64 id, .bool true, .string s.x.label, .string ⟨#[]⟩, .string ⟨#[]⟩, .bool false, .slice none 0 0] from by rw [← hw, ← hN]; exact NBox.new _ _ _)
   have HW := Lib.hid hw
   have HNN := Lib.hid hN
   clear hw hN
   have HE' := Lib.hid (HE.out.trans hE)
   have HB' := Lib.hid (HB.out.ext hE)
   have HU' := Lib.hid (owns_ext hE HU.out)
   have HPP' := Lib.hid (owns_ext hE HPP.out)
   have HO' := Lib.hid (owns_ext hE HO.out)
   have HC' := Lib.hid (hE.cell HC.out)
   have HI' := Lib.hid (hE.cell HI.out)
   have HR9' := Lib.hid (HR9.out.ext hE)
   go_simp
   rw [HW.out, HNN.out]
   refine hK.out _ _ (show _ ∧ _ from ⟨hHeld.1.ext hE, hE.cell hHeld.2.1, hE.cell hHeld.2.2.1, hE.cell hHeld.2.2.2⟩) (fun hHeld => ?_)
   clear hK K' hE HW HNN
   try simp only [Act.put, aS]
   replace HE := HE'; replace HB := HB'; replace HU := HU'; replace HPP := HPP'; replace HO := HO'; replace HC := HC'; replace HI := HI'; replace HR9 := HR9'
   clear HE' HB' HU' HPP' HO' HC' HI' HR9'
   refine wpAnyH_ready (rs := [7]) (by kernel_rfl) (by simp) ?_
   refine AllReadyH.cons (o := ⟨_, _, _, _, _, _⟩) rfl (fun K' hK => ?_) AllReadyH.nil
   have hq := edit40_any s.p ⟨m, rest.size, ⟨#[]⟩⟩ rest _ e1 R (RdS.of_owns HPP.out) (HR9.out.cell 0) (by omega) (Nat.zero_le _)
   obtain ⟨L1, hL1⟩ : ∃ L, editL rest s.p ⟨m, rest.size, ⟨#[]⟩⟩ = L := ⟨_, rfl⟩
   have hl1 : L1.length ≤ 1 := by rw [← hL1]; exact editL_len _ _ _
   rw [hL1] at hq
   have HL1 := Lib.hid hL1
   clear hL1
   go_simp
   go_at_call 40
   refine hq.mono ?_
   clear hq
   rintro e e2 ⟨hE, v, rfl, hv⟩
   have HL := Lib.hid (rowV2.low hv (Nat.le_trans HX0.out.size HE.out.size))
   have HLB : Hid (∀ k, v.ownBlock = some k → w.heap.size ≤ k) := Lib.hid (fun k hk => by obtain ⟨_, h, _⟩ := hv; exact Nat.le_trans HE.out.size (owns_base h k hk))
   obtain ⟨A1, c1, rfl⟩ := lsV.slice hv
   have HE' := Lib.hid (HE.out.trans hE)
   have HB' := Lib.hid (HB.out.ext hE)
   have HU' := Lib.hid (owns_ext hE HU.out)
   have HPP' := Lib.hid (owns_ext hE HPP.out)
   have HO' := Lib.hid (owns_ext hE HO.out)
   have HC' := Lib.hid (hE.cell HC.out)
   have HI' := Lib.hid (hE.cell HI.out)
   have HR9' := Lib.hid (HR9.out.ext hE)
   have HN' := Lib.hid (HN.out.ext hE)
   refine hK.out _ _ (show _ ∧ _ from ⟨hHeld.1.ext hE, hE.cell hHeld.2.1, hE.cell hHeld.2.2.1, hE.cell hHeld.2.2.2⟩) (fun hHeld => ?_)
   clear hK K' hE hv
   try simp only [Act.put, aS]
   replace HE := HE'; replace HB := HB'; replace HU := HU'; replace HPP := HPP'; replace HO := HO'; replace HC := HC'; replace HI := HI'; replace HR9 := HR9'; replace HN := HN'
   clear HE' HB' HU' HPP' HO' HC' HI' HR9' HN'
   obtain ⟨us1, ho1, hla1⟩ := HL.out
   have hS : ∀ g, (Value.slice uA s.up.length uc).ownBlock = some g → ¬ rowS w0.heap.size (Value.slice A1 L1.length c1) g := fun g hg hk => hk.elim (fun h => absurd (owns_base HU.out g hg) (Nat.not_le.2 h)) (fun h => owns_apart ho1 HU.out (by decide) h hg)
   have hx : Late (rowS w0.heap.size (Value.slice A1 L1.length c1)) (fun W => rowCells RdO 11 W [newO s.up (s.i + 1) id s.x.label] [.int .u8 1, .slice uA s.up.length uc, .int .i64 (s.i + 1), .slice none 0 0, .int .u64 id, .bool true, .string s.x.label, .string ⟨#[]⟩, .string ⟨#[]⟩, .bool false, .slice none 0 0]) e2 := (op_late (o := newO s.up (s.i + 1) id s.x.label) HU.out hS rfl rfl HLAB.out (Nat.zero_le _) (Nat.zero_le _) HID.out (show (0 : Int) ≤ 1 ∧ (1 : Int) ≤ 255 from by decide)).imp fun W h => ⟨[.int .u8 1, .slice uA s.up.length uc, .int .i64 (s.i + 1), .slice none 0 0, .int .u64 id, .bool true, .string s.x.label, .string ⟨#[]⟩, .string ⟨#[]⟩, .bool false, .slice none 0 0], [], rfl, h, (List.append_nil _).symm, rfl⟩
   refine wpAnyH_ready (rs := [19]) (by kernel_rfl) (by simp) ?_
   refine AllReadyH.cons (o := ⟨_, _, _, _, _, _⟩) rfl (fun K' hK => ?_) AllReadyH.nil
   refine wp_append_rd rfl T31 (by rfl) ho1 (by rfl) (NBox.row HN.out) (ones11 ⟨rfl, rfl, rfl, rfl, rfl, rfl, rfl, rfl, rfl, rfl, rfl⟩) (by omega) (by simp only [maxLen]; omega) (Nat.le_trans HX0.out.size HE.out.size) ?_
   intro v4 w4 h4 hg hat4
   have HL2 := Lib.hid (rowV2.app hla1 hx hg hat4 h4)
   have F := Fr.grown hg
   have HE' := Lib.hid (Fr.ext HE.out F (fun k hk => HLB.out k hk))
   have HB' := Lib.hid (HB.out.fr F (fun hk => HB.out.not_own ho1 (by decide) hk))
   have HR9' := Lib.hid (HR9.out.fr F (fun hk => HR9.out.not_own ho1 (by decide) hk))
   have HO' := Lib.hid (owns_fr F HO.out (fun g hg hk => owns_apart ho1 HO.out (by decide) hk hg))
   have HPP' := Lib.hid (owns_fr F HPP.out (fun g hg hk => owns_apart ho1 HPP.out (by decide) hk hg))
   have HC' := Lib.hid (F.cell (fun hk => absurd (HLB.out _ hk) (Nat.not_le.2 HCL.out)) HC.out)
   have HI' := Lib.hid (F.cell (fun hk => absurd (HLB.out _ hk) (Nat.not_le.2 HIL.out)) HI.out)
   have HLB' := Lib.hid (fun k (hk : v4.ownBlock = some k) => hat4.elim (fun h => HLB.out k (h ▸ hk)) (fun h => by rw [h] at hk; cases hk; exact HE.out.size))
   refine hK.out _ _ (show _ ∧ _ from ⟨HB'.out, HC'.out, HI'.out, HR9'.out.cell 0⟩) (fun hHeld => ?_)
   clear hK K' F hx hS hla1 HU HPP HPP' HC HC' HI HI' HL HN hg hat4 h4
   try simp only [Act.put, aS]
   replace HE := HE'; replace HB := HB'; replace HO := HO'; replace HR9 := HR9'; replace HLB := HLB'
   clear HE' HB' HO' HR9' HLB'
   obtain ⟨L2, hL2⟩ : ∃ L, L1 ++ [newO s.up (s.i + 1) id s.x.label] = L := ⟨_, rfl⟩
   rw [hL2] at HL2
   have HSL2 := Lib.hid (show splL m id s rest = L2 ++ s.x.attrs.map (atrO q) ++ editL rest q ⟨0, 0, rest⟩ from by rw [HSL.out, HL1.out, hL2])
   have hl2 : L2.length ≤ 2 := by rw [← hL2, List.length_append]; simp only [List.length_cons, List.length_nil]; omega
   obtain ⟨A2, c2, rfl⟩ := lsV.slice HL2.out
   clear hL2 HL1 hl1 ho1
   refine tk 20 ?_ rfl (.inl ⟨by rfl, ?_⟩) hHeld ?_
   rotate_left
   ·intro w hSw
    try dsimp only at hSw
    go_simp
    all_goals (first | with_reducible rfl | rw [if_pos (by omega)])
   try simp only [Act.put, aS]
   refine wpAnyH_done (by kernel_rfl) ?_ _
   clear hHeld
   have k3 := HB.out.cell 3
   go_wp2_with fail
   clear k3 HB
   go_loopw [8, 62] (fun s8 s62 wr => ∃ (j : Nat) (l : List OpD) (A : Option Addr) (c : Nat), s62 = .int .i64 (j : Int) ∧ j ≤ s.x.attrs.length ∧ s8 = .slice A l.length c ∧ l.length ≤ 2 + j ∧ Hid (Ext w wr) ∧ Hid (wr.ownsRow w0.heap.size 3 1 (.slice nA q.length nc) q.length (q.map (Value.int .i64))) ∧ Hid (NBox wr R 9 #[.string rest]) ∧ Hid (∀ k, (Value.slice A l.length c).ownBlock = some k → w.heap.size ≤ k) ∧ Hid (rowV2 RdO 38 11 w0.heap.size l (.slice A l.length c) wr) ∧ Hid (splL m id s rest = l ++ (s.x.attrs.drop j).map (atrO q) ++ editL rest q ⟨0, 0, rest⟩)) (fun _ j _ => s.x.attrs.length - (intOf j).toNat)
   case atStart => exact ⟨0, L2, A2, c2, rfl, Nat.zero_le _, rfl, hl2, HE, HO, HR9, HLB, HL2, HSL2⟩
   case round =>
    clear HE HO HR9 HLB HL2 HSL2 hl2
    obtain ⟨j, l, A, c, rfl, hj, rfl, hll, HE, HO, HR9, HLB, HL9, HN9⟩ := hrel
    rcases Nat.lt_or_ge j s.x.attrs.length with hlt | hlt
    ·have q1 : (0 : Int) ≤ (j : Int) := by omega
     have q2 : (j : Int) < (s.x.attrs.length : Int) := by omega
     obtain ⟨⟨ak, av⟩, ha⟩ : ∃ x, s.x.attrs[j]? = some x := ⟨_, List.getElem?_eq_getElem hlt⟩
     obtain ⟨av0, kv0, he, -, -, -, -, ⟨aA, ac, hav, -, -, hra⟩, -⟩ := Nd.rd_open HXR0.out
     simp only [Value.agg.injEq, Array.mk.injEq, List.cons.injEq, and_true, true_and] at he
     obtain ⟨hav0, -⟩ := he
     rw [hav] at hav0
     simp only [Value.slice.injEq, true_and] at hav0
     obtain ⟨rfl, rfl⟩ := hav0
     obtain ⟨ab, ao, rfl, hr⟩ := hra (by intro h0; rw [h0] at hlt; exact absurd hlt (Nat.not_lt_zero _))
     obtain ⟨hk1, hk2, a0, a1⟩ := rdAttrs_at (rdAttrs_ext (HX0.out.trans HE.out) hr) ha
     have HN' := Lib.hid (show splL m id s rest = (l ++ [atrO q (ak, av)]) ++ (s.x.attrs.drop (j + 1)).map (atrO q) ++ editL rest q ⟨0, 0, rest⟩ from by rw [HN9.out, drop_at ha, List.map_cons, List.append_assoc l [_]]; rfl)
     clear hr hra hav ha HN9
     obtain ⟨w5, hw5⟩ : ∃ W, wr.alloc (.cells #[.string ⟨#[]⟩, .string ⟨#[]⟩] 45) = W := ⟨_, rfl⟩
     obtain ⟨Z, hZ⟩ : ∃ g, wr.heap.size = g := ⟨_, rfl⟩
     have hE : Ext wr w5 := by rw [← hw5]; exact (Ext.refl _).alloc _
     have bZ : NBox w5 Z 45 #[.string ⟨#[]⟩, .string ⟨#[]⟩] := by rw [← hw5, ← hZ]; exact NBox.new _ _ _
     have HwZ := Lib.hid (show w.heap.size ≤ Z from by rw [← hZ]; exact HE.out.size)
     obtain ⟨w6, hw6⟩ : ∃ W, (w5.setCell ⟨Z, 0, none⟩ (.string ak)).setCell ⟨Z, 1, none⟩ (.string av) = W := ⟨_, rfl⟩
     have F6 : Fr w5 w6 (fun k => k = Z) := by rw [← hw6]; exact (Fr.setCell _ _ _ _).trans (Fr.setCell _ _ _ _)
     have HZB := Lib.hid (show NBox w6 Z 45 #[.string ak, .string av] from by rw [← hw6]; exact (bZ.set 0 _).set 1 _)
     have HW5 := Lib.hid hw5
     have HZZ := Lib.hid hZ
     have HW6 := Lib.hid hw6
     have y0 := bZ.cell 0
     have z0 := bZ.frozen 0
     have y1 := (bZ.set 0 (.string ak)).cell 1
     have z1 := (bZ.set 0 (.string ak)).frozen 1
     have hE : Ext wr w6 := Fr.ext hE F6 (fun k hk => by rw [show k = Z from hk, ← hZ]; exact Nat.le_refl _)
     have HE' := Lib.hid (HE.out.trans hE)
     have HO' := Lib.hid (owns_ext hE HO.out)
     have HR9' := Lib.hid (HR9.out.ext hE)
     have HL9' := Lib.hid (rowV2.ext HL9.out hE)
     clear hw5 hZ hw6 hE F6 bZ
     replace HE := HE'; replace HO := HO'; replace HR9 := HR9'; replace HL9 := HL9'
     clear HE' HO' HR9' HL9'
     go_upto_region 9 with (rw [HW5.out, HZZ.out]; clear HW5 HZZ)
     rw [HW6.out]
     clear HW6 y0 y1 z0 z1 hk1 hk2
     obtain ⟨e0, he0⟩ : ∃ d0, w6.drew = d0 := ⟨_, rfl⟩
     have hE : Ext w6 e0 := by rw [← he0]; exact (Ext.refl _).drew
     have HZB' := Lib.hid (HZB.out.ext hE)
     have HE' := Lib.hid (HE.out.trans hE)
     have HO' := Lib.hid (owns_ext hE HO.out)
     have HR9' := Lib.hid (HR9.out.ext hE)
     have HL9' := Lib.hid (rowV2.ext HL9.out hE)
     clear hE
     replace HE := HE'; replace HO := HO'; replace HR9 := HR9'; replace HL9 := HL9'; replace HZB := HZB'
     clear HE' HO' HR9' HL9' HZB'
     refine wp_region_held_drew (S := (fun W => NBox W Z 45 #[.string ak, .string av])) (by kernel_rfl) (by rw [he0]; exact HZB.out) (fun hHeld => ?_)
     rw [he0] at hHeld ⊢
     clear he0
     refine tk 0 ?_ rfl (.inl ⟨by rfl, ?_⟩) hHeld ?_
     rotate_left
     ·intro w hSw
      try dsimp only at hSw
      go_simp
      all_goals (first | with_reducible rfl | rw [if_pos (by omega)])
     try simp only [Act.put, aS]
     refine tk 1 ?_ rfl (.inl ⟨by rfl, ?_⟩) hHeld ?_
     rotate_left
     ·intro w hSw
      try dsimp only at hSw
      go_simp
      all_goals (first | with_reducible rfl | rw [if_pos (by omega)])
     try simp only [Act.put, aS]
     refine tk 3 ?_ rfl (.inl ⟨by rfl, ?_⟩) hHeld ?_
     rotate_left
     ·intro w hSw
      try dsimp only at hSw
      go_simp
      all_goals (first | with_reducible rfl | rw [if_pos (by omega)])
     try simp only [Act.put, aS]
     refine tk 4 ?_ rfl (.inl ⟨by rfl, ?_⟩) hHeld ?_
     rotate_left
     ·intro w hSw
      have hb : NBox w Z 45 _ := hSw
      have g0 := hb.cell 0
      have g1 := hb.cell 1
      clear hb hSw
      go_simp
      all_goals (first | with_reducible rfl | rw [if_pos (by omega)])
     try simp only [Act.put, aS]
     refine tk 5 ?_ rfl (.inl ⟨by rfl, ?_⟩) hHeld ?_
     rotate_left
     ·intro w hSw
      try dsimp only at hSw
      go_simp
      all_goals (first | with_reducible rfl | rw [if_pos (by omega)])
     try simp only [Act.put, aS]
     refine tk 6 ?_ rfl (.inl ⟨by rfl, ?_⟩) hHeld ?_
     rotate_left
     ·intro w hSw
      have hb : NBox w Z 45 _ := hSw
      have g0 := hb.cell 0
      have g1 := hb.cell 1
      clear hb hSw
      go_simp
      all_goals (first | with_reducible rfl | rw [if_pos (by omega)])
     try simp only [Act.put, aS]
     refine wpAnyH_ready (rs := [2]) (by kernel_rfl) (by simp) ?_
     refine AllReadyH.cons (o := ⟨_, _, _, _, _, _⟩) rfl (fun K' hK => ?_) AllReadyH.nil
     have hq := clone_any q _ e0 (RdS.of_owns HO.out) (by omega)
     go_simp
     go_at_call 41
     refine hq.mono ?_
     clear hq
     rintro e e1 ⟨r, rfl, hQ, hE⟩
     have HQ := Lib.hid (owns_lo hQ (Nat.le_trans HX0.out.size HE.out.size))
     obtain ⟨bA, bc, rfl, -⟩ := RdS.of_owns hQ
     have HE' := Lib.hid (HE.out.trans hE)
     have HO' := Lib.hid (owns_ext hE HO.out)
     have HR9' := Lib.hid (HR9.out.ext hE)
     have HL9' := Lib.hid (rowV2.ext HL9.out hE)
     refine hK.out _ _ (show NBox _ _ _ _ from NBox.ext hE hHeld) (fun hHeld => ?_)
     clear hK K' hQ hE
     try simp only [Act.put, aS]
     replace HE := HE'; replace HO := HO'; replace HR9 := HR9'; replace HL9 := HL9'
     clear HE' HO' HR9' HL9'
     refine tk 7 ?_ rfl (.inl ⟨by rfl, ?_⟩) hHeld ?_
     rotate_left
     ·intro w hSw
      try dsimp only at hSw
      go_simp
      all_goals (first | with_reducible rfl | rw [if_pos (by omega)])
     try simp only [Act.put, aS]
     obtain ⟨e2, hw⟩ : ∃ W, e1.alloc (.cells #[.int .u8 4, .slice bA q.length bc, .int .i64 0, .slice none 0 0, .int .u64 0, .bool false, .string ⟨#[]⟩, .string ak, .string av, .bool false, .slice none 0 0] 38) = W := ⟨_, rfl⟩
     obtain ⟨N, hN⟩ : ∃ g, e1.heap.size = g := ⟨_, rfl⟩
     have hE : Ext e1 e2 := by rw [← hw]; exact (Ext.refl _).alloc _
     have HN := Lib.hid (show NBox e2 N 38 #[.int .u8 4, .slice bA q.length bc, .int .i64 0, .slice none 0 0, .int .u64 0, .bool false, .string ⟨#[]⟩, .string ak, .string av, .bool false, .slice none 0 0] from by rw [← hw, ← hN]; exact NBox.new _ _ _)
     have HW := Lib.hid hw
     have HNN := Lib.hid hN
     clear hw hN
     have HE' := Lib.hid (HE.out.trans hE)
     have HO' := Lib.hid (owns_ext hE HO.out)
     have HR9' := Lib.hid (HR9.out.ext hE)
     have HL9' := Lib.hid (rowV2.ext HL9.out hE)
     have HQ' := Lib.hid (owns_ext hE HQ.out)
     refine wpAnyH_ready (rs := [8]) (by kernel_rfl) (by simp) ?_
     refine AllReadyH.cons (o := ⟨_, _, _, _, _, _⟩) rfl (fun K' hK => ?_) AllReadyH.nil
     go_simp
     rw [HW.out, HNN.out]
     refine hK.out _ _ (show NBox _ _ _ _ from NBox.ext hE hHeld) (fun hHeld => ?_)
     clear hK K' hE HW HNN
     try simp only [Act.put, aS]
     replace HE := HE'; replace HO := HO'; replace HR9 := HR9'; replace HL9 := HL9'; replace HQ := HQ'
     clear HE' HO' HR9' HL9' HQ'
     obtain ⟨us1, ho1, hla1⟩ := HL9.out
     have hS : ∀ g, (Value.slice bA q.length bc).ownBlock = some g → ¬ rowS w0.heap.size (Value.slice A l.length c) g := fun g hg hk => hk.elim (fun h => absurd (owns_base HQ.out g hg) (Nat.not_le.2 h)) (fun h => owns_apart ho1 HQ.out (by decide) h hg)
     have hx : Late (rowS w0.heap.size (Value.slice A l.length c)) (fun W => rowCells RdO 11 W [atrO q (ak, av)] [.int .u8 4, .slice bA q.length bc, .int .i64 0, .slice none 0 0, .int .u64 0, .bool false, .string ⟨#[]⟩, .string ak, .string av, .bool false, .slice none 0 0]) e2 := (op_late (o := atrO q (ak, av)) HQ.out hS rfl rfl (Nat.zero_le _) a0 a1 (show (0 : Int) ≤ 0 ∧ (0 : Int) ≤ 18446744073709551615 from by decide) (show (0 : Int) ≤ 4 ∧ (4 : Int) ≤ 255 from by decide)).imp fun W h => ⟨[.int .u8 4, .slice bA q.length bc, .int .i64 0, .slice none 0 0, .int .u64 0, .bool false, .string ⟨#[]⟩, .string ak, .string av, .bool false, .slice none 0 0], [], rfl, h, (List.append_nil _).symm, rfl⟩
     refine wpAnyH_ready (rs := [9]) (by kernel_rfl) (by simp) ?_
     refine AllReadyH.cons (o := ⟨_, _, _, _, _, _⟩) rfl (fun K' hK => ?_) AllReadyH.nil
     refine wp_append_rd rfl T31 (by rfl) ho1 (by rfl) (NBox.row HN.out) (ones11 ⟨rfl, rfl, rfl, rfl, rfl, rfl, rfl, rfl, rfl, rfl, rfl⟩) (by omega) (by simp only [maxLen]; omega) (Nat.le_trans HX0.out.size HE.out.size) ?_
     intro v4 w4 h4 hg hat4
     have HL2 := Lib.hid (rowV2.app hla1 hx hg hat4 h4)
     have F := Fr.grown hg
     have HE' := Lib.hid (Fr.ext HE.out F (fun k hk => HLB.out k hk))
     have HR9' := Lib.hid (HR9.out.fr F (fun hk => HR9.out.not_own ho1 (by decide) hk))
     have HO' := Lib.hid (owns_fr F HO.out (fun g hg hk => owns_apart ho1 HO.out (by decide) hk hg))
     have HLB' := Lib.hid (fun k (hk : v4.ownBlock = some k) => hat4.elim (fun h => HLB.out k (h ▸ hk)) (fun h => by rw [h] at hk; cases hk; exact HE.out.size))
     have hZ4 : NBox w4 Z 45 #[.string ak, .string av] := NBox.fr F hHeld (fun hk => NBox.not_own hHeld ho1 (by decide) hk)
     refine hK.out _ _ (show NBox _ _ _ _ from hZ4) (fun hHeld => ?_)
     clear hK K' F hx hS hla1 hZ4 HQ HL9 HN hg hat4 h4
     try simp only [Act.put, aS]
     replace HE := HE'; replace HO := HO'; replace HR9 := HR9'; replace HLB := HLB'
     clear HE' HO' HR9' HLB'
     obtain ⟨L3, hL3⟩ : ∃ L, l ++ [atrO q (ak, av)] = L := ⟨_, rfl⟩
     have hl3 : L3.length ≤ 2 + (j + 1) := by rw [← hL3, List.length_append]; simp only [List.length_cons, List.length_nil]; omega
     rw [hL3] at HL2 HN'
     obtain ⟨A3, c3, rfl⟩ := lsV.slice HL2.out
     clear hL3 ho1
     refine tk 10 ?_ rfl (.inl ⟨by rfl, ?_⟩) hHeld ?_
     rotate_left
     ·intro w hSw
      try dsimp only at hSw
      go_simp
      all_goals (first | with_reducible rfl | rw [if_pos (by omega)])
     try simp only [Act.put, aS]
     refine wpAnyH_done (by kernel_rfl) ?_ _
     clear hHeld
     go_wp2_with fail
     go_roundw
     case rel => exact ⟨j + 1, L3, A3, c3, by go_num, by omega, rfl, hl3, HE, HO, HR9, HLB, HL2, HN'⟩
     case measure => simp [intOf]; omega
    ·obtain rfl : j = s.x.attrs.length := by omega
     have q1 : ¬ ((s.x.attrs.length : Int) < (s.x.attrs.length : Int)) := Int.lt_irrefl _
     have HN' := Lib.hid (show splL m id s rest = l ++ editL rest q ⟨0, 0, rest⟩ from by rw [HN9.out, List.drop_eq_nil_of_le (Nat.le_refl _)]; simp)
     clear HN9 q1
     obtain ⟨us1, ho1, hla1⟩ := HL9.out
     have HOB := Lib.hid (fun k (hk : (Value.slice A l.length c).ownBlock = some k) => (ho1.lt k hk).2)
     have hq := edit40_any q ⟨0, 0, rest⟩ rest _ wr R (RdS.of_owns HO.out) (HR9.out.cell 0) (by omega) HREST.out
     obtain ⟨L3, hL3⟩ : ∃ L, editL rest q ⟨0, 0, rest⟩ = L := ⟨_, rfl⟩
     have hl3 : L3.length ≤ 1 := by rw [← hL3]; exact editL_len _ _ _
     rw [hL3] at hq HN'
     have r9 := HR9.out.cell 0
     clear hL3
     go_wp2_with fail
     refine hq.mono ?_
     clear hq r9
     rintro e w4 ⟨hE, v, rfl, hv⟩
     have HE' := Lib.hid (HE.out.trans hE)
     have hv0 := hv
     obtain ⟨us3, ho3, hla3⟩ := hv0
     obtain ⟨A3, c3, rfl⟩ := lsV.slice hv
     have ho4 := owns_ext hE ho1
     have hlo := Nat.le_trans HX0.out.size HE.out.size
     have hx : Late (rowS w0.heap.size (Value.slice A l.length c)) (fun W => rowCells RdO 11 W L3 us3) w4 := hla3.sub (fun k hk => .inl (hk.elim (fun h => Nat.lt_of_lt_of_le h hlo) (fun h => HOB.out k h)))
     have hla4 := hla1.ext hE
     have hones := rowCells_ones L3 us3 hla3.now
     have hsz := Nat.le_trans hlo hE.size
     clear hv hE hla1 ho1 HL9 HOB
     replace HE := HE'
     clear HE'
     go_wp2_with (first | (at_builtin; refine wpList_append_rd rfl rfl T31 (v := _) (by rfl) ho4 (by rfl) (RdS.of_owns ho3) hones (by omega) (by simp only [maxLen]; omega) hsz ?_; intro v5 w5 h5 hg hat5))
     have HL5 := Lib.hid (rowV2.app hla4 hx hg hat5 h5)
     have HE' := Lib.hid (Fr.ext HE.out (Fr.grown hg) (fun k hk => HLB.out k hk))
     obtain ⟨A5, c5, rfl⟩ := lsV.slice HL5.out
     clear hx hla4 hla3 hones ho3 ho4 hg hat5 h5
     go_ret
     rw [HR.out, HN'.out]
     exact ⟨HE'.out, _, rfl, HL5.out⟩

end Go.Proofs.Ytofcbclokkjfjaa.Wi
