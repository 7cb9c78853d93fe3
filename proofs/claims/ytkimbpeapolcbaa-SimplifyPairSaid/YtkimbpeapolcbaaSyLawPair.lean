/- Chapter 10: the law SimplifyPair (4). (Printed by gsylawp.py.) -/
import Derived.Test.YtkimbpeapolcbaaSyLight
import Derived.Test.YtkimbpeapolcbaaSyOuSame
import Derived.Test.YtkimbpeapolcbaaSyWorks
import Derived.Test.YtkimbpeapolcbaaSyPairR
import Derived.Test.YtkimbpeapolcbaaSySame15
namespace Go.Proofs.Ytkimbpeapolcbaa.Sy
open Go.RowKit Go.Proofs.Ytkimbpeapolcbaa.Bw Go.Proofs.Ytkimbpeapolcbaa.Bs

set_option maxRecDepth 100000 in
set_option maxHeartbeats 8000000 in
theorem lawPair (a b : OpD) (u v : Value) (w : World) (hu : a.rd w u) (hv : b.rd w v) : Calls Try.prog 4 #[u, v] w (Ret w fun r _ => r = .bool true) := by
  have HU := Lib.hid hu
  have HV := Lib.hid hv
  obtain ⟨pA, pc, tA, tc, cA, cc, rfl, -, -, -⟩ := rdO_cells hu
  obtain ⟨qA, qc, rA, rc, dA, dc, rfl, -, -, -⟩ := rdO_cells hv
  obtain ⟨w1, hw1⟩ : ∃ W, (w.alloc (.cells #[.int .u8 a.kind, .slice pA a.path.length pc, .int .i64 a.at_, .slice tA a.to.length tc, .int .u64 a.id, .bool a.leaf, .string a.label, .string a.key, .string a.value, .bool a.gone, .slice cA a.pcs.length cc] 26)).alloc (.cells #[.int .u8 b.kind, .slice qA b.path.length qc, .int .i64 b.at_, .slice rA b.to.length rc, .int .u64 b.id, .bool b.leaf, .string b.label, .string b.key, .string b.value, .bool b.gone, .slice dA b.pcs.length dc] 26) = W := ⟨_, rfl⟩
  obtain ⟨X, hX⟩ : ∃ X, w.heap.size = X := ⟨_, rfl⟩
  have s1 : (w.alloc (.cells #[.int .u8 a.kind, .slice pA a.path.length pc, .int .i64 a.at_, .slice tA a.to.length tc, .int .u64 a.id, .bool a.leaf, .string a.label, .string a.key, .string a.value, .bool a.gone, .slice cA a.pcs.length cc] 26)).heap.size = X + 1 := by rw [World.size_alloc, hX]
  have E1 : Ext w w1 := by rw [← hw1]; exact ((Ext.refl w).alloc _).alloc _
  have bX : NBox w1 X 26 #[.int .u8 a.kind, .slice pA a.path.length pc, .int .i64 a.at_, .slice tA a.to.length tc, .int .u64 a.id, .bool a.leaf, .string a.label, .string a.key, .string a.value, .bool a.gone, .slice cA a.pcs.length cc] := by rw [← hw1, ← hX]; exact (NBox.new w 26 _).ext ((Ext.refl _).alloc _)
  have bY : NBox w1 (X + 1) 26 #[.int .u8 b.kind, .slice qA b.path.length qc, .int .i64 b.at_, .slice rA b.to.length rc, .int .u64 b.id, .bool b.leaf, .string b.label, .string b.key, .string b.value, .bool b.gone, .slice dA b.pcs.length dc] := by rw [← hw1, ← s1]; exact NBox.new _ _ _
  obtain ⟨Y, hY⟩ : ∃ Y, X + 1 = Y := ⟨_, rfl⟩
  rw [hY] at bY
  have HE := Lib.hid E1
  have HX := Lib.hid bX
  have HY := Lib.hid bY
  have HW := Lib.hid hw1
  have HXX := Lib.hid hX
  have HYY := Lib.hid hY
  clear hw1 hX s1 E1 bX bY hY hu hv
  go_enter Try.func4, Try.ntmps4
  go_upto_region 1 with fail
  rw [HW.out, HXX.out]
  try rw [HYY.out]
  clear HW HXX HYY
  have g0 := HX.out.cell 0
  have g1 := HX.out.cell 1
  have g2 := HX.out.cell 2
  have g3 := HX.out.cell 3
  have g4 := HX.out.cell 4
  have g5 := HX.out.cell 5
  have g6 := HX.out.cell 6
  have g7 := HX.out.cell 7
  have g8 := HX.out.cell 8
  have g9 := HX.out.cell 9
  have g10 := HX.out.cell 10
  have q := light8_any a _ w1 (OpD.rd_ext HE.out HU.out)
  go_wp2_with fail
  refine q.mono ?_
  clear q g0 g1 g2 g3 g4 g5 g6 g7 g8 g9 g10
  rintro e w2 ⟨r, rfl, ⟨la, rfl, hla⟩, hE⟩
  have HE' := Lib.hid (HE.out.trans hE)
  have HX' := Lib.hid (HX.out.ext hE)
  have HY' := Lib.hid (HY.out.ext hE)
  clear hE
  clear HE
  have HE := HE'
  clear HE'
  clear HX
  have HX := HX'
  clear HX'
  clear HY
  have HY := HY'
  clear HY'
  cases la with
  | false =>
    clear hla
    go_wp2_with fail
    refine (works_any w2).mono ?_
    rintro e u ⟨r, rfl, rfl, hE⟩
    go_wp2_with fail
    go_ret
    exact ret_bool (by rfl) (HE.out.trans hE)
  | true =>
  have HLA := Lib.hid (hla rfl)
  clear hla
  have h0 := HY.out.cell 0
  have h1 := HY.out.cell 1
  have h2 := HY.out.cell 2
  have h3 := HY.out.cell 3
  have h4 := HY.out.cell 4
  have h5 := HY.out.cell 5
  have h6 := HY.out.cell 6
  have h7 := HY.out.cell 7
  have h8 := HY.out.cell 8
  have h9 := HY.out.cell 9
  have h10 := HY.out.cell 10
  have q := light8_any b _ w2 (OpD.rd_ext HE.out HV.out)
  go_wp2_with fail
  refine q.mono ?_
  clear q h0 h1 h2 h3 h4 h5 h6 h7 h8 h9 h10
  rintro e w3 ⟨r, rfl, ⟨lb, rfl, hlb⟩, hE⟩
  have HE' := Lib.hid (HE.out.trans hE)
  have HX' := Lib.hid (HX.out.ext hE)
  have HY' := Lib.hid (HY.out.ext hE)
  clear hE
  clear HE
  have HE := HE'
  clear HE'
  clear HX
  have HX := HX'
  clear HX'
  clear HY
  have HY := HY'
  clear HY'
  cases lb with
  | false =>
    clear hlb
    go_wp2_with fail
    refine (works_any w3).mono ?_
    rintro e u ⟨r, rfl, rfl, hE⟩
    go_wp2_with fail
    go_ret
    exact ret_bool (by rfl) (HE.out.trans hE)
  | true =>
  have HLB := Lib.hid (hlb rfl)
  clear hlb
  obtain ⟨ab, hab⟩ : ∃ x, bareD a = x := ⟨_, rfl⟩
  obtain ⟨bb, hbb⟩ : ∃ x, bareD b = x := ⟨_, rfl⟩
  have HAB := Lib.hid hab
  have HBB := Lib.hid hbb
  have HKA := Lib.hid (show OkO ab from by rw [← hab]; exact bareD_ok (OpD.rd_ok HU.out))
  have HKB := Lib.hid (show OkO bb from by rw [← hbb]; exact bareD_ok (OpD.rd_ok HV.out))
  have HCA : Hid (∀ W, Ext w W → Calls Try.prog 12 #[.agg #[.int .u8 a.kind, .slice pA a.path.length pc, .int .i64 a.at_, .slice tA a.to.length tc, .int .u64 a.id, .bool a.leaf, .string a.label, .string a.key, .string a.value, .bool a.gone, .slice cA a.pcs.length cc]] W (fun e W' => Ext W W' ∧ ∃ u, e = .returned u ∧ OpO 35 W.heap.size W' ab u)) := Lib.hid (fun W X => by
    have := bare50_any a _ W (OpD.rd_ext X HU.out) HLA.out.ok.1 HLA.out.ok.2.1 HLA.out.ok.2.2
    rw [hab] at this
    exact this)
  have HCB : Hid (∀ W, Ext w W → Calls Try.prog 12 #[.agg #[.int .u8 b.kind, .slice qA b.path.length qc, .int .i64 b.at_, .slice rA b.to.length rc, .int .u64 b.id, .bool b.leaf, .string b.label, .string b.key, .string b.value, .bool b.gone, .slice dA b.pcs.length dc]] W (fun e W' => Ext W W' ∧ ∃ u, e = .returned u ∧ OpO 35 W.heap.size W' bb u)) := Lib.hid (fun W X => by
    have := bare50_any b _ W (OpD.rd_ext X HV.out) HLB.out.ok.1 HLB.out.ok.2.1 HLB.out.ok.2.2
    rw [hbb] at this
    exact this)
  clear hab hbb
  go_upto_region 3 with fail
  go_cut [5, 6] from 23 to 26 (fun s5 s6 wx => ∃ (P Q : Nat) (aA : Option Addr) (ac : Nat) (bA : Option Addr) (bc : Nat) (eA : Option Addr) (ec : Nat) (fA : Option Addr) (fc : Nat) (sA : Option Addr) (sc : Nat) (uA : Option Addr) (uc : Nat), s5 = .pointer (some ⟨P, 0, none⟩) ∧ s6 = .pointer (some ⟨Q, 0, none⟩) ∧ Hid (Ext w wx) ∧ Hid (NBox wx X 26 #[.int .u8 a.kind, .slice pA a.path.length pc, .int .i64 a.at_, .slice tA a.to.length tc, .int .u64 a.id, .bool a.leaf, .string a.label, .string a.key, .string a.value, .bool a.gone, .slice cA a.pcs.length cc]) ∧ Hid (NBox wx Y 26 #[.int .u8 b.kind, .slice qA b.path.length qc, .int .i64 b.at_, .slice rA b.to.length rc, .int .u64 b.id, .bool b.leaf, .string b.label, .string b.key, .string b.value, .bool b.gone, .slice dA b.pcs.length dc]) ∧ Hid (NBox wx P 26 #[.int .u8 ab.kind, .slice aA ab.path.length ac, .int .i64 ab.at_, .slice bA ab.to.length bc, .int .u64 ab.id, .bool ab.leaf, .string ab.label, .string ab.key, .string ab.value, .bool ab.gone, .slice eA ab.pcs.length ec]) ∧ Hid (NBox wx Q 26 #[.int .u8 bb.kind, .slice fA bb.path.length fc, .int .i64 bb.at_, .slice sA bb.to.length sc, .int .u64 bb.id, .bool bb.leaf, .string bb.label, .string bb.key, .string bb.value, .bool bb.gone, .slice uA bb.pcs.length uc]) ∧ Hid (OpO 35 w.heap.size wx ab (.agg #[.int .u8 ab.kind, .slice aA ab.path.length ac, .int .i64 ab.at_, .slice bA ab.to.length bc, .int .u64 ab.id, .bool ab.leaf, .string ab.label, .string ab.key, .string ab.value, .bool ab.gone, .slice eA ab.pcs.length ec])) ∧ Hid (OpO 35 w.heap.size wx bb (.agg #[.int .u8 bb.kind, .slice fA bb.path.length fc, .int .i64 bb.at_, .slice sA bb.to.length sc, .int .u64 bb.id, .bool bb.leaf, .string bb.label, .string bb.key, .string bb.value, .bool bb.gone, .slice uA bb.pcs.length uc])))
  case first =>
    obtain ⟨d0, hd0⟩ : ∃ d, w3.drew = d := ⟨_, rfl⟩
    have hE : Ext w3 d0 := by rw [← hd0]; exact (Ext.refl _).drew
    have HE' := Lib.hid (HE.out.trans hE)
    have HX' := Lib.hid (HX.out.ext hE)
    have HY' := Lib.hid (HY.out.ext hE)
    clear hE
    clear HE
    have HE := HE'
    clear HE'
    clear HX
    have HX := HX'
    clear HX'
    clear HY
    have HY := HY'
    clear HY'
    refine wp_region_held_drew (S := fun W => NBox W X 26 #[.int .u8 a.kind, .slice pA a.path.length pc, .int .i64 a.at_, .slice tA a.to.length tc, .int .u64 a.id, .bool a.leaf, .string a.label, .string a.key, .string a.value, .bool a.gone, .slice cA a.pcs.length cc] ∧ NBox W Y 26 #[.int .u8 b.kind, .slice qA b.path.length qc, .int .i64 b.at_, .slice rA b.to.length rc, .int .u64 b.id, .bool b.leaf, .string b.label, .string b.key, .string b.value, .bool b.gone, .slice dA b.pcs.length dc]) (by kernel_rfl) (by rw [hd0]; exact ⟨HX.out, HY.out⟩) (fun hHeld => ?_)
    rw [hd0] at hHeld ⊢
    clear hd0
    refine wpAnyH_take (i := 0) (oi := ⟨_, _, _, _, _, _⟩) (v := ?_) rfl (by kernel_rfl) (by kernel_rfl) (by kernel_rfl) (fun _ _ _ h => h) (Or.inl ⟨by rfl, ?_⟩) hHeld ?_
    rotate_left
    · intro w hSw
      obtain ⟨hb, hz⟩ : NBox w X 26 _ ∧ NBox w Y 26 _ := hSw
      have g0 := hb.cell 0
      have h0 := hz.cell 0
      have g1 := hb.cell 1
      have h1 := hz.cell 1
      have g2 := hb.cell 2
      have h2 := hz.cell 2
      have g3 := hb.cell 3
      have h3 := hz.cell 3
      have g4 := hb.cell 4
      have h4 := hz.cell 4
      have g5 := hb.cell 5
      have h5 := hz.cell 5
      have g6 := hb.cell 6
      have h6 := hz.cell 6
      have g7 := hb.cell 7
      have h7 := hz.cell 7
      have g8 := hb.cell 8
      have h8 := hz.cell 8
      have g9 := hb.cell 9
      have h9 := hz.cell 9
      have g10 := hb.cell 10
      have h10 := hz.cell 10
      clear hb hz
      go_simp
      all_goals (first | with_reducible rfl | rw [if_pos (by omega)])
    try simp only [Act.put, List.setIfInBounds_toArray, List.set_cons_zero, List.set_cons_succ]
    refine wpAnyH_take (i := 2) (oi := ⟨_, _, _, _, _, _⟩) (v := ?_) rfl (by kernel_rfl) (by kernel_rfl) (by kernel_rfl) (fun _ _ _ h => h) (Or.inl ⟨by rfl, ?_⟩) hHeld ?_
    rotate_left
    · intro w hSw
      obtain ⟨hb, hz⟩ : NBox w X 26 _ ∧ NBox w Y 26 _ := hSw
      have g0 := hb.cell 0
      have h0 := hz.cell 0
      have g1 := hb.cell 1
      have h1 := hz.cell 1
      have g2 := hb.cell 2
      have h2 := hz.cell 2
      have g3 := hb.cell 3
      have h3 := hz.cell 3
      have g4 := hb.cell 4
      have h4 := hz.cell 4
      have g5 := hb.cell 5
      have h5 := hz.cell 5
      have g6 := hb.cell 6
      have h6 := hz.cell 6
      have g7 := hb.cell 7
      have h7 := hz.cell 7
      have g8 := hb.cell 8
      have h8 := hz.cell 8
      have g9 := hb.cell 9
      have h9 := hz.cell 9
      have g10 := hb.cell 10
      have h10 := hz.cell 10
      clear hb hz
      go_simp
      all_goals (first | with_reducible rfl | rw [if_pos (by omega)])
    try simp only [Act.put, List.setIfInBounds_toArray, List.set_cons_zero, List.set_cons_succ]
    refine wpAnyH_ready (rs := [1, 4, 5]) (by kernel_rfl) (by simp) ?_
    refine AllReadyH.cons (o := ⟨_, _, _, _, _, _⟩) rfl (fun K' hK => ?_) (AllReadyH.cons (o := ⟨_, _, _, _, _, _⟩) rfl (fun K' hK => ?_) (AllReadyH.cons (o := ⟨_, _, _, _, _, _⟩) rfl (fun K' hK => ?_) (AllReadyH.nil)))
    · have q := HCA.out d0 HE.out
      go_simp
      go_at_call 12
      refine q.mono ?_
      clear q
      rintro e d1 ⟨hE, u9, rfl, hO⟩
      have HOA := Lib.hid (hO.low HE.out.size)
      obtain ⟨aA, ac, bA, bc, eA, ec, rfl, -⟩ := hO
      have HE' := Lib.hid (HE.out.trans hE)
      have HX' := Lib.hid (HX.out.ext hE)
      have HY' := Lib.hid (HY.out.ext hE)
      refine hK.out _ _ (show _ ∧ _ from ⟨hHeld.1.ext hE, hHeld.2.ext hE⟩) (fun hHeld => ?_)
      clear hK K' hE
      try simp only [Act.put, List.setIfInBounds_toArray, List.set_cons_zero, List.set_cons_succ]
      clear HE
      have HE := HE'
      clear HE'
      clear HX
      have HX := HX'
      clear HX'
      clear HY
      have HY := HY'
      clear HY'
      refine wpAnyH_ready (rs := [3, 4, 5]) (by kernel_rfl) (by simp) ?_
      refine AllReadyH.cons (o := ⟨_, _, _, _, _, _⟩) rfl (fun K' hK => ?_) (AllReadyH.cons (o := ⟨_, _, _, _, _, _⟩) rfl (fun K' hK => ?_) (AllReadyH.cons (o := ⟨_, _, _, _, _, _⟩) rfl (fun K' hK => ?_) (AllReadyH.nil)))
      · have q := HCB.out d1 HE.out
        go_simp
        go_at_call 12
        refine q.mono ?_
        clear q
        rintro e d2 ⟨hE, u9, rfl, hO⟩
        have HOB := Lib.hid (hO.low HE.out.size)
        obtain ⟨fA, fc, sA, sc, uA, uc, rfl, -⟩ := hO
        have HE' := Lib.hid (HE.out.trans hE)
        have HX' := Lib.hid (HX.out.ext hE)
        have HY' := Lib.hid (HY.out.ext hE)
        have HOA' := Lib.hid (HOA.out.ext hE)
        refine hK.out _ _ (show _ ∧ _ from ⟨hHeld.1.ext hE, hHeld.2.ext hE⟩) (fun hHeld => ?_)
        clear hK K' hE
        try simp only [Act.put, List.setIfInBounds_toArray, List.set_cons_zero, List.set_cons_succ]
        clear HE
        have HE := HE'
        clear HE'
        clear HX
        have HX := HX'
        clear HX'
        clear HY
        have HY := HY'
        clear HY'
        clear HOA
        have HOA := HOA'
        clear HOA'
        refine wpAnyH_ready (rs := [4, 5]) (by kernel_rfl) (by simp) ?_
        refine AllReadyH.cons (o := ⟨_, _, _, _, _, _⟩) rfl (fun K' hK => ?_) (AllReadyH.cons (o := ⟨_, _, _, _, _, _⟩) rfl (fun K' hK => ?_) (AllReadyH.nil))
        · obtain ⟨d3, hw⟩ : ∃ W, d2.alloc (.cells #[.int .u8 0, .slice none 0 0, .int .i64 0, .slice none 0 0, .int .u64 0, .bool false, .string ⟨#[]⟩, .string ⟨#[]⟩, .string ⟨#[]⟩, .bool false, .slice none 0 0] 26) = W := ⟨_, rfl⟩
          obtain ⟨P, hZ⟩ : ∃ g, d2.heap.size = g := ⟨_, rfl⟩
          have hE : Ext d2 d3 := by rw [← hw]; exact (Ext.refl _).alloc _
          have HP := Lib.hid (show NBox d3 P 26 #[.int .u8 0, .slice none 0 0, .int .i64 0, .slice none 0 0, .int .u64 0, .bool false, .string ⟨#[]⟩, .string ⟨#[]⟩, .string ⟨#[]⟩, .bool false, .slice none 0 0] from by rw [← hw, ← hZ]; exact NBox.new _ _ _)
          have HNP := Lib.hid (show w.heap.size ≤ P ∧ X ≠ P ∧ Y ≠ P from ⟨by rw [← hZ]; exact HE.out.size, by rw [← hZ]; exact Nat.ne_of_lt HX.out.lt, by rw [← hZ]; exact Nat.ne_of_lt HY.out.lt⟩)
          have HW := Lib.hid hw
          have HZZ := Lib.hid hZ
          clear hw hZ
          go_simp
          rw [HW.out, HZZ.out]
          have HE' := Lib.hid (HE.out.trans hE)
          have HX' := Lib.hid (HX.out.ext hE)
          have HY' := Lib.hid (HY.out.ext hE)
          have HOA' := Lib.hid (HOA.out.ext hE)
          have HOB' := Lib.hid (HOB.out.ext hE)
          refine hK.out _ _ (show _ ∧ _ from ⟨hHeld.1.ext hE, hHeld.2.ext hE⟩) (fun hHeld => ?_)
          clear hK K' hE HW HZZ
          try simp only [Act.put, List.setIfInBounds_toArray, List.set_cons_zero, List.set_cons_succ]
          clear HE
          have HE := HE'
          clear HE'
          clear HX
          have HX := HX'
          clear HX'
          clear HY
          have HY := HY'
          clear HY'
          clear HOA
          have HOA := HOA'
          clear HOA'
          clear HOB
          have HOB := HOB'
          clear HOB'
          refine wpAnyH_ready (rs := [5]) (by kernel_rfl) (by simp) ?_
          refine AllReadyH.cons (o := ⟨_, _, _, _, _, _⟩) rfl (fun K' hK => ?_) (AllReadyH.nil)
          obtain ⟨d4, hw⟩ : ∃ W, d3.alloc (.cells #[.int .u8 0, .slice none 0 0, .int .i64 0, .slice none 0 0, .int .u64 0, .bool false, .string ⟨#[]⟩, .string ⟨#[]⟩, .string ⟨#[]⟩, .bool false, .slice none 0 0] 26) = W := ⟨_, rfl⟩
          obtain ⟨Q, hZ⟩ : ∃ g, d3.heap.size = g := ⟨_, rfl⟩
          have hE : Ext d3 d4 := by rw [← hw]; exact (Ext.refl _).alloc _
          have HQ := Lib.hid (show NBox d4 Q 26 #[.int .u8 0, .slice none 0 0, .int .i64 0, .slice none 0 0, .int .u64 0, .bool false, .string ⟨#[]⟩, .string ⟨#[]⟩, .string ⟨#[]⟩, .bool false, .slice none 0 0] from by rw [← hw, ← hZ]; exact NBox.new _ _ _)
          have HNQ := Lib.hid (show w.heap.size ≤ Q ∧ X ≠ Q ∧ Y ≠ Q ∧ P ≠ Q from ⟨by rw [← hZ]; exact HE.out.size, by rw [← hZ]; exact Nat.ne_of_lt HX.out.lt, by rw [← hZ]; exact Nat.ne_of_lt HY.out.lt, by rw [← hZ]; exact Nat.ne_of_lt HP.out.lt⟩)
          have HW := Lib.hid hw
          have HZZ := Lib.hid hZ
          clear hw hZ
          go_simp
          rw [HW.out, HZZ.out]
          have HE' := Lib.hid (HE.out.trans hE)
          have HX' := Lib.hid (HX.out.ext hE)
          have HY' := Lib.hid (HY.out.ext hE)
          have HOA' := Lib.hid (HOA.out.ext hE)
          have HOB' := Lib.hid (HOB.out.ext hE)
          have HP' := Lib.hid (HP.out.ext hE)
          refine hK.out _ _ (show _ ∧ _ from ⟨hHeld.1.ext hE, hHeld.2.ext hE⟩) (fun hHeld => ?_)
          clear hK K' hE HW HZZ
          try simp only [Act.put, List.setIfInBounds_toArray, List.set_cons_zero, List.set_cons_succ]
          clear HE
          have HE := HE'
          clear HE'
          clear HX
          have HX := HX'
          clear HX'
          clear HY
          have HY := HY'
          clear HY'
          clear HOA
          have HOA := HOA'
          clear HOA'
          clear HOB
          have HOB := HOB'
          clear HOB'
          clear HP
          have HP := HP'
          clear HP'
          have y0 := HP.out.cell 0
          have z0 := HP.out.frozen 0
          have y1 := HP.out.cell 1
          have z1 := HP.out.frozen 1
          have y2 := HP.out.cell 2
          have z2 := HP.out.frozen 2
          have y3 := HP.out.cell 3
          have z3 := HP.out.frozen 3
          have y4 := HP.out.cell 4
          have z4 := HP.out.frozen 4
          have y5 := HP.out.cell 5
          have z5 := HP.out.frozen 5
          have y6 := HP.out.cell 6
          have z6 := HP.out.frozen 6
          have y7 := HP.out.cell 7
          have z7 := HP.out.frozen 7
          have y8 := HP.out.cell 8
          have z8 := HP.out.frozen 8
          have y9 := HP.out.cell 9
          have z9 := HP.out.frozen 9
          have y10 := HP.out.cell 10
          have z10 := HP.out.frozen 10
          obtain ⟨x6, hw⟩ : ∃ W, (World.setCell (World.setCell (World.setCell (World.setCell (World.setCell (World.setCell (World.setCell (World.setCell (World.setCell (World.setCell (World.setCell d4 ⟨P, 0, none⟩ (.int .u8 ab.kind)) ⟨P, 1, none⟩ (.slice aA ab.path.length ac)) ⟨P, 2, none⟩ (.int .i64 ab.at_)) ⟨P, 3, none⟩ (.slice bA ab.to.length bc)) ⟨P, 4, none⟩ (.int .u64 ab.id)) ⟨P, 5, none⟩ (.bool ab.leaf)) ⟨P, 6, none⟩ (.string ab.label)) ⟨P, 7, none⟩ (.string ab.key)) ⟨P, 8, none⟩ (.string ab.value)) ⟨P, 9, none⟩ (.bool ab.gone)) ⟨P, 10, none⟩ (.slice eA ab.pcs.length ec)) = W := ⟨_, rfl⟩
          have F : Fr d4 x6 (fun k => k = P) := by rw [← hw]; exact Fr.s11 _ _ _ _ _ _ _ _ _ _ _ _ _
          have HP' := Lib.hid (show NBox x6 P 26 #[.int .u8 ab.kind, .slice aA ab.path.length ac, .int .i64 ab.at_, .slice bA ab.to.length bc, .int .u64 ab.id, .bool ab.leaf, .string ab.label, .string ab.key, .string ab.value, .bool ab.gone, .slice eA ab.pcs.length ec] from by rw [← hw]; exact HP.out.s11 _ _ _ _ _ _ _ _ _ _ _)
          have HOA' := Lib.hid (HOA.out.fr F HP.out (by decide) (by decide))
          have HOB' := Lib.hid (HOB.out.fr F HP.out (by decide) (by decide))
          have HE' := Lib.hid (Fr.ext HE.out F (fun q hq => by rw [show q = P from hq]; exact HNP.out.1))
          have HX' := Lib.hid (HX.out.fr F HNP.out.2.1)
          have HY' := Lib.hid (HY.out.fr F HNP.out.2.2)
          have HQ' := Lib.hid (HQ.out.fr F (fun e => HNQ.out.2.2.2 e.symm))
          have HW := Lib.hid hw
          clear hw F
          refine wpAnyH_ready (rs := [6]) (by kernel_rfl) (by simp) ?_
          refine AllReadyH.cons (o := ⟨_, _, _, _, _, _⟩) rfl (fun K' hK => ?_) (AllReadyH.nil)
          go_simp
          rw [HW.out]
          refine hK.out _ _ (show _ ∧ _ from ⟨HX'.out, HY'.out⟩) (fun hHeld => ?_)
          clear hK K' HW y0 z0 y1 z1 y2 z2 y3 z3 y4 z4 y5 z5 y6 z6 y7 z7 y8 z8 y9 z9 y10 z10
          try simp only [Act.put, List.setIfInBounds_toArray, List.set_cons_zero, List.set_cons_succ]
          clear HP
          have HP := HP'
          clear HP'
          clear HQ
          have HQ := HQ'
          clear HQ'
          clear HOA
          have HOA := HOA'
          clear HOA'
          clear HOB
          have HOB := HOB'
          clear HOB'
          clear HE
          have HE := HE'
          clear HE'
          clear HX
          have HX := HX'
          clear HX'
          clear HY
          have HY := HY'
          clear HY'
          have y0 := HQ.out.cell 0
          have z0 := HQ.out.frozen 0
          have y1 := HQ.out.cell 1
          have z1 := HQ.out.frozen 1
          have y2 := HQ.out.cell 2
          have z2 := HQ.out.frozen 2
          have y3 := HQ.out.cell 3
          have z3 := HQ.out.frozen 3
          have y4 := HQ.out.cell 4
          have z4 := HQ.out.frozen 4
          have y5 := HQ.out.cell 5
          have z5 := HQ.out.frozen 5
          have y6 := HQ.out.cell 6
          have z6 := HQ.out.frozen 6
          have y7 := HQ.out.cell 7
          have z7 := HQ.out.frozen 7
          have y8 := HQ.out.cell 8
          have z8 := HQ.out.frozen 8
          have y9 := HQ.out.cell 9
          have z9 := HQ.out.frozen 9
          have y10 := HQ.out.cell 10
          have z10 := HQ.out.frozen 10
          obtain ⟨x7, hw⟩ : ∃ W, (World.setCell (World.setCell (World.setCell (World.setCell (World.setCell (World.setCell (World.setCell (World.setCell (World.setCell (World.setCell (World.setCell x6 ⟨Q, 0, none⟩ (.int .u8 bb.kind)) ⟨Q, 1, none⟩ (.slice fA bb.path.length fc)) ⟨Q, 2, none⟩ (.int .i64 bb.at_)) ⟨Q, 3, none⟩ (.slice sA bb.to.length sc)) ⟨Q, 4, none⟩ (.int .u64 bb.id)) ⟨Q, 5, none⟩ (.bool bb.leaf)) ⟨Q, 6, none⟩ (.string bb.label)) ⟨Q, 7, none⟩ (.string bb.key)) ⟨Q, 8, none⟩ (.string bb.value)) ⟨Q, 9, none⟩ (.bool bb.gone)) ⟨Q, 10, none⟩ (.slice uA bb.pcs.length uc)) = W := ⟨_, rfl⟩
          have F : Fr x6 x7 (fun k => k = Q) := by rw [← hw]; exact Fr.s11 _ _ _ _ _ _ _ _ _ _ _ _ _
          have HQ' := Lib.hid (show NBox x7 Q 26 #[.int .u8 bb.kind, .slice fA bb.path.length fc, .int .i64 bb.at_, .slice sA bb.to.length sc, .int .u64 bb.id, .bool bb.leaf, .string bb.label, .string bb.key, .string bb.value, .bool bb.gone, .slice uA bb.pcs.length uc] from by rw [← hw]; exact HQ.out.s11 _ _ _ _ _ _ _ _ _ _ _)
          have HOA' := Lib.hid (HOA.out.fr F HQ.out (by decide) (by decide))
          have HOB' := Lib.hid (HOB.out.fr F HQ.out (by decide) (by decide))
          have HE' := Lib.hid (Fr.ext HE.out F (fun q hq => by rw [show q = Q from hq]; exact HNQ.out.1))
          have HX' := Lib.hid (HX.out.fr F HNQ.out.2.1)
          have HY' := Lib.hid (HY.out.fr F HNQ.out.2.2.1)
          have HP' := Lib.hid (HP.out.fr F (fun e => HNQ.out.2.2.2 e))
          have HW := Lib.hid hw
          clear hw F
          refine wpAnyH_ready (rs := [7]) (by kernel_rfl) (by simp) ?_
          refine AllReadyH.cons (o := ⟨_, _, _, _, _, _⟩) rfl (fun K' hK => ?_) (AllReadyH.nil)
          go_simp
          rw [HW.out]
          refine hK.out _ _ (show _ ∧ _ from ⟨HX'.out, HY'.out⟩) (fun hHeld => ?_)
          clear hK K' HW y0 z0 y1 z1 y2 z2 y3 z3 y4 z4 y5 z5 y6 z6 y7 z7 y8 z8 y9 z9 y10 z10
          try simp only [Act.put, List.setIfInBounds_toArray, List.set_cons_zero, List.set_cons_succ]
          clear HP
          have HP := HP'
          clear HP'
          clear HQ
          have HQ := HQ'
          clear HQ'
          clear HOA
          have HOA := HOA'
          clear HOA'
          clear HOB
          have HOB := HOB'
          clear HOB'
          clear HE
          have HE := HE'
          clear HE'
          clear HX
          have HX := HX'
          clear HX'
          clear HY
          have HY := HY'
          clear HY'
          refine wpAnyH_done (by kernel_rfl) ?_ _
          clear hHeld
          go_wp2_with fail
          go_meet
          case rel => exact ⟨P, Q, _, _, _, _, _, _, _, _, _, _, _, _, rfl, rfl, HE, HX, HY, HP, HQ, HOA, HOB⟩
        · obtain ⟨d3, hw⟩ : ∃ W, d2.alloc (.cells #[.int .u8 0, .slice none 0 0, .int .i64 0, .slice none 0 0, .int .u64 0, .bool false, .string ⟨#[]⟩, .string ⟨#[]⟩, .string ⟨#[]⟩, .bool false, .slice none 0 0] 26) = W := ⟨_, rfl⟩
          obtain ⟨Q, hZ⟩ : ∃ g, d2.heap.size = g := ⟨_, rfl⟩
          have hE : Ext d2 d3 := by rw [← hw]; exact (Ext.refl _).alloc _
          have HQ := Lib.hid (show NBox d3 Q 26 #[.int .u8 0, .slice none 0 0, .int .i64 0, .slice none 0 0, .int .u64 0, .bool false, .string ⟨#[]⟩, .string ⟨#[]⟩, .string ⟨#[]⟩, .bool false, .slice none 0 0] from by rw [← hw, ← hZ]; exact NBox.new _ _ _)
          have HNQ := Lib.hid (show w.heap.size ≤ Q ∧ X ≠ Q ∧ Y ≠ Q from ⟨by rw [← hZ]; exact HE.out.size, by rw [← hZ]; exact Nat.ne_of_lt HX.out.lt, by rw [← hZ]; exact Nat.ne_of_lt HY.out.lt⟩)
          have HW := Lib.hid hw
          have HZZ := Lib.hid hZ
          clear hw hZ
          go_simp
          rw [HW.out, HZZ.out]
          have HE' := Lib.hid (HE.out.trans hE)
          have HX' := Lib.hid (HX.out.ext hE)
          have HY' := Lib.hid (HY.out.ext hE)
          have HOA' := Lib.hid (HOA.out.ext hE)
          have HOB' := Lib.hid (HOB.out.ext hE)
          refine hK.out _ _ (show _ ∧ _ from ⟨hHeld.1.ext hE, hHeld.2.ext hE⟩) (fun hHeld => ?_)
          clear hK K' hE HW HZZ
          try simp only [Act.put, List.setIfInBounds_toArray, List.set_cons_zero, List.set_cons_succ]
          clear HE
          have HE := HE'
          clear HE'
          clear HX
          have HX := HX'
          clear HX'
          clear HY
          have HY := HY'
          clear HY'
          clear HOA
          have HOA := HOA'
          clear HOA'
          clear HOB
          have HOB := HOB'
          clear HOB'
          refine wpAnyH_ready (rs := [4]) (by kernel_rfl) (by simp) ?_
          refine AllReadyH.cons (o := ⟨_, _, _, _, _, _⟩) rfl (fun K' hK => ?_) (AllReadyH.nil)
          obtain ⟨d4, hw⟩ : ∃ W, d3.alloc (.cells #[.int .u8 0, .slice none 0 0, .int .i64 0, .slice none 0 0, .int .u64 0, .bool false, .string ⟨#[]⟩, .string ⟨#[]⟩, .string ⟨#[]⟩, .bool false, .slice none 0 0] 26) = W := ⟨_, rfl⟩
          obtain ⟨P, hZ⟩ : ∃ g, d3.heap.size = g := ⟨_, rfl⟩
          have hE : Ext d3 d4 := by rw [← hw]; exact (Ext.refl _).alloc _
          have HP := Lib.hid (show NBox d4 P 26 #[.int .u8 0, .slice none 0 0, .int .i64 0, .slice none 0 0, .int .u64 0, .bool false, .string ⟨#[]⟩, .string ⟨#[]⟩, .string ⟨#[]⟩, .bool false, .slice none 0 0] from by rw [← hw, ← hZ]; exact NBox.new _ _ _)
          have HNP := Lib.hid (show w.heap.size ≤ P ∧ X ≠ P ∧ Y ≠ P ∧ Q ≠ P from ⟨by rw [← hZ]; exact HE.out.size, by rw [← hZ]; exact Nat.ne_of_lt HX.out.lt, by rw [← hZ]; exact Nat.ne_of_lt HY.out.lt, by rw [← hZ]; exact Nat.ne_of_lt HQ.out.lt⟩)
          have HW := Lib.hid hw
          have HZZ := Lib.hid hZ
          clear hw hZ
          go_simp
          rw [HW.out, HZZ.out]
          have HE' := Lib.hid (HE.out.trans hE)
          have HX' := Lib.hid (HX.out.ext hE)
          have HY' := Lib.hid (HY.out.ext hE)
          have HOA' := Lib.hid (HOA.out.ext hE)
          have HOB' := Lib.hid (HOB.out.ext hE)
          have HQ' := Lib.hid (HQ.out.ext hE)
          refine hK.out _ _ (show _ ∧ _ from ⟨hHeld.1.ext hE, hHeld.2.ext hE⟩) (fun hHeld => ?_)
          clear hK K' hE HW HZZ
          try simp only [Act.put, List.setIfInBounds_toArray, List.set_cons_zero, List.set_cons_succ]
          clear HE
          have HE := HE'
          clear HE'
          clear HX
          have HX := HX'
          clear HX'
          clear HY
          have HY := HY'
          clear HY'
          clear HOA
          have HOA := HOA'
          clear HOA'
          clear HOB
          have HOB := HOB'
          clear HOB'
          clear HQ
          have HQ := HQ'
          clear HQ'
          have y0 := HP.out.cell 0
          have z0 := HP.out.frozen 0
          have y1 := HP.out.cell 1
          have z1 := HP.out.frozen 1
          have y2 := HP.out.cell 2
          have z2 := HP.out.frozen 2
          have y3 := HP.out.cell 3
          have z3 := HP.out.frozen 3
          have y4 := HP.out.cell 4
          have z4 := HP.out.frozen 4
          have y5 := HP.out.cell 5
          have z5 := HP.out.frozen 5
          have y6 := HP.out.cell 6
          have z6 := HP.out.frozen 6
          have y7 := HP.out.cell 7
          have z7 := HP.out.frozen 7
          have y8 := HP.out.cell 8
          have z8 := HP.out.frozen 8
          have y9 := HP.out.cell 9
          have z9 := HP.out.frozen 9
          have y10 := HP.out.cell 10
          have z10 := HP.out.frozen 10
          obtain ⟨x6, hw⟩ : ∃ W, (World.setCell (World.setCell (World.setCell (World.setCell (World.setCell (World.setCell (World.setCell (World.setCell (World.setCell (World.setCell (World.setCell d4 ⟨P, 0, none⟩ (.int .u8 ab.kind)) ⟨P, 1, none⟩ (.slice aA ab.path.length ac)) ⟨P, 2, none⟩ (.int .i64 ab.at_)) ⟨P, 3, none⟩ (.slice bA ab.to.length bc)) ⟨P, 4, none⟩ (.int .u64 ab.id)) ⟨P, 5, none⟩ (.bool ab.leaf)) ⟨P, 6, none⟩ (.string ab.label)) ⟨P, 7, none⟩ (.string ab.key)) ⟨P, 8, none⟩ (.string ab.value)) ⟨P, 9, none⟩ (.bool ab.gone)) ⟨P, 10, none⟩ (.slice eA ab.pcs.length ec)) = W := ⟨_, rfl⟩
          have F : Fr d4 x6 (fun k => k = P) := by rw [← hw]; exact Fr.s11 _ _ _ _ _ _ _ _ _ _ _ _ _
          have HP' := Lib.hid (show NBox x6 P 26 #[.int .u8 ab.kind, .slice aA ab.path.length ac, .int .i64 ab.at_, .slice bA ab.to.length bc, .int .u64 ab.id, .bool ab.leaf, .string ab.label, .string ab.key, .string ab.value, .bool ab.gone, .slice eA ab.pcs.length ec] from by rw [← hw]; exact HP.out.s11 _ _ _ _ _ _ _ _ _ _ _)
          have HOA' := Lib.hid (HOA.out.fr F HP.out (by decide) (by decide))
          have HOB' := Lib.hid (HOB.out.fr F HP.out (by decide) (by decide))
          have HE' := Lib.hid (Fr.ext HE.out F (fun q hq => by rw [show q = P from hq]; exact HNP.out.1))
          have HX' := Lib.hid (HX.out.fr F HNP.out.2.1)
          have HY' := Lib.hid (HY.out.fr F HNP.out.2.2.1)
          have HQ' := Lib.hid (HQ.out.fr F (fun e => HNP.out.2.2.2 e))
          have HW := Lib.hid hw
          clear hw F
          refine wpAnyH_ready (rs := [6]) (by kernel_rfl) (by simp) ?_
          refine AllReadyH.cons (o := ⟨_, _, _, _, _, _⟩) rfl (fun K' hK => ?_) (AllReadyH.nil)
          go_simp
          rw [HW.out]
          refine hK.out _ _ (show _ ∧ _ from ⟨HX'.out, HY'.out⟩) (fun hHeld => ?_)
          clear hK K' HW y0 z0 y1 z1 y2 z2 y3 z3 y4 z4 y5 z5 y6 z6 y7 z7 y8 z8 y9 z9 y10 z10
          try simp only [Act.put, List.setIfInBounds_toArray, List.set_cons_zero, List.set_cons_succ]
          clear HP
          have HP := HP'
          clear HP'
          clear HQ
          have HQ := HQ'
          clear HQ'
          clear HOA
          have HOA := HOA'
          clear HOA'
          clear HOB
          have HOB := HOB'
          clear HOB'
          clear HE
          have HE := HE'
          clear HE'
          clear HX
          have HX := HX'
          clear HX'
          clear HY
          have HY := HY'
          clear HY'
          have y0 := HQ.out.cell 0
          have z0 := HQ.out.frozen 0
          have y1 := HQ.out.cell 1
          have z1 := HQ.out.frozen 1
          have y2 := HQ.out.cell 2
          have z2 := HQ.out.frozen 2
          have y3 := HQ.out.cell 3
          have z3 := HQ.out.frozen 3
          have y4 := HQ.out.cell 4
          have z4 := HQ.out.frozen 4
          have y5 := HQ.out.cell 5
          have z5 := HQ.out.frozen 5
          have y6 := HQ.out.cell 6
          have z6 := HQ.out.frozen 6
          have y7 := HQ.out.cell 7
          have z7 := HQ.out.frozen 7
          have y8 := HQ.out.cell 8
          have z8 := HQ.out.frozen 8
          have y9 := HQ.out.cell 9
          have z9 := HQ.out.frozen 9
          have y10 := HQ.out.cell 10
          have z10 := HQ.out.frozen 10
          obtain ⟨x7, hw⟩ : ∃ W, (World.setCell (World.setCell (World.setCell (World.setCell (World.setCell (World.setCell (World.setCell (World.setCell (World.setCell (World.setCell (World.setCell x6 ⟨Q, 0, none⟩ (.int .u8 bb.kind)) ⟨Q, 1, none⟩ (.slice fA bb.path.length fc)) ⟨Q, 2, none⟩ (.int .i64 bb.at_)) ⟨Q, 3, none⟩ (.slice sA bb.to.length sc)) ⟨Q, 4, none⟩ (.int .u64 bb.id)) ⟨Q, 5, none⟩ (.bool bb.leaf)) ⟨Q, 6, none⟩ (.string bb.label)) ⟨Q, 7, none⟩ (.string bb.key)) ⟨Q, 8, none⟩ (.string bb.value)) ⟨Q, 9, none⟩ (.bool bb.gone)) ⟨Q, 10, none⟩ (.slice uA bb.pcs.length uc)) = W := ⟨_, rfl⟩
          have F : Fr x6 x7 (fun k => k = Q) := by rw [← hw]; exact Fr.s11 _ _ _ _ _ _ _ _ _ _ _ _ _
          have HQ' := Lib.hid (show NBox x7 Q 26 #[.int .u8 bb.kind, .slice fA bb.path.length fc, .int .i64 bb.at_, .slice sA bb.to.length sc, .int .u64 bb.id, .bool bb.leaf, .string bb.label, .string bb.key, .string bb.value, .bool bb.gone, .slice uA bb.pcs.length uc] from by rw [← hw]; exact HQ.out.s11 _ _ _ _ _ _ _ _ _ _ _)
          have HOA' := Lib.hid (HOA.out.fr F HQ.out (by decide) (by decide))
          have HOB' := Lib.hid (HOB.out.fr F HQ.out (by decide) (by decide))
          have HE' := Lib.hid (Fr.ext HE.out F (fun q hq => by rw [show q = Q from hq]; exact HNQ.out.1))
          have HX' := Lib.hid (HX.out.fr F HNQ.out.2.1)
          have HY' := Lib.hid (HY.out.fr F HNQ.out.2.2)
          have HP' := Lib.hid (HP.out.fr F (fun e => HNP.out.2.2.2 e.symm))
          have HW := Lib.hid hw
          clear hw F
          refine wpAnyH_ready (rs := [7]) (by kernel_rfl) (by simp) ?_
          refine AllReadyH.cons (o := ⟨_, _, _, _, _, _⟩) rfl (fun K' hK => ?_) (AllReadyH.nil)
          go_simp
          rw [HW.out]
          refine hK.out _ _ (show _ ∧ _ from ⟨HX'.out, HY'.out⟩) (fun hHeld => ?_)
          clear hK K' HW y0 z0 y1 z1 y2 z2 y3 z3 y4 z4 y5 z5 y6 z6 y7 z7 y8 z8 y9 z9 y10 z10
          try simp only [Act.put, List.setIfInBounds_toArray, List.set_cons_zero, List.set_cons_succ]
          clear HP
          have HP := HP'
          clear HP'
          clear HQ
          have HQ := HQ'
          clear HQ'
          clear HOA
          have HOA := HOA'
          clear HOA'
          clear HOB
          have HOB := HOB'
          clear HOB'
          clear HE
          have HE := HE'
          clear HE'
          clear HX
          have HX := HX'
          clear HX'
          clear HY
          have HY := HY'
          clear HY'
          refine wpAnyH_done (by kernel_rfl) ?_ _
          clear hHeld
          go_wp2_with fail
          go_meet
          case rel => exact ⟨P, Q, _, _, _, _, _, _, _, _, _, _, _, _, rfl, rfl, HE, HX, HY, HP, HQ, HOA, HOB⟩
      · obtain ⟨d2, hw⟩ : ∃ W, d1.alloc (.cells #[.int .u8 0, .slice none 0 0, .int .i64 0, .slice none 0 0, .int .u64 0, .bool false, .string ⟨#[]⟩, .string ⟨#[]⟩, .string ⟨#[]⟩, .bool false, .slice none 0 0] 26) = W := ⟨_, rfl⟩
        obtain ⟨P, hZ⟩ : ∃ g, d1.heap.size = g := ⟨_, rfl⟩
        have hE : Ext d1 d2 := by rw [← hw]; exact (Ext.refl _).alloc _
        have HP := Lib.hid (show NBox d2 P 26 #[.int .u8 0, .slice none 0 0, .int .i64 0, .slice none 0 0, .int .u64 0, .bool false, .string ⟨#[]⟩, .string ⟨#[]⟩, .string ⟨#[]⟩, .bool false, .slice none 0 0] from by rw [← hw, ← hZ]; exact NBox.new _ _ _)
        have HNP := Lib.hid (show w.heap.size ≤ P ∧ X ≠ P ∧ Y ≠ P from ⟨by rw [← hZ]; exact HE.out.size, by rw [← hZ]; exact Nat.ne_of_lt HX.out.lt, by rw [← hZ]; exact Nat.ne_of_lt HY.out.lt⟩)
        have HW := Lib.hid hw
        have HZZ := Lib.hid hZ
        clear hw hZ
        go_simp
        rw [HW.out, HZZ.out]
        have HE' := Lib.hid (HE.out.trans hE)
        have HX' := Lib.hid (HX.out.ext hE)
        have HY' := Lib.hid (HY.out.ext hE)
        have HOA' := Lib.hid (HOA.out.ext hE)
        refine hK.out _ _ (show _ ∧ _ from ⟨hHeld.1.ext hE, hHeld.2.ext hE⟩) (fun hHeld => ?_)
        clear hK K' hE HW HZZ
        try simp only [Act.put, List.setIfInBounds_toArray, List.set_cons_zero, List.set_cons_succ]
        clear HE
        have HE := HE'
        clear HE'
        clear HX
        have HX := HX'
        clear HX'
        clear HY
        have HY := HY'
        clear HY'
        clear HOA
        have HOA := HOA'
        clear HOA'
        refine wpAnyH_ready (rs := [3, 5]) (by kernel_rfl) (by simp) ?_
        refine AllReadyH.cons (o := ⟨_, _, _, _, _, _⟩) rfl (fun K' hK => ?_) (AllReadyH.cons (o := ⟨_, _, _, _, _, _⟩) rfl (fun K' hK => ?_) (AllReadyH.nil))
        · have q := HCB.out d2 HE.out
          go_simp
          go_at_call 12
          refine q.mono ?_
          clear q
          rintro e d3 ⟨hE, u9, rfl, hO⟩
          have HOB := Lib.hid (hO.low HE.out.size)
          obtain ⟨fA, fc, sA, sc, uA, uc, rfl, -⟩ := hO
          have HE' := Lib.hid (HE.out.trans hE)
          have HX' := Lib.hid (HX.out.ext hE)
          have HY' := Lib.hid (HY.out.ext hE)
          have HOA' := Lib.hid (HOA.out.ext hE)
          have HP' := Lib.hid (HP.out.ext hE)
          refine hK.out _ _ (show _ ∧ _ from ⟨hHeld.1.ext hE, hHeld.2.ext hE⟩) (fun hHeld => ?_)
          clear hK K' hE
          try simp only [Act.put, List.setIfInBounds_toArray, List.set_cons_zero, List.set_cons_succ]
          clear HE
          have HE := HE'
          clear HE'
          clear HX
          have HX := HX'
          clear HX'
          clear HY
          have HY := HY'
          clear HY'
          clear HOA
          have HOA := HOA'
          clear HOA'
          clear HP
          have HP := HP'
          clear HP'
          refine wpAnyH_ready (rs := [5]) (by kernel_rfl) (by simp) ?_
          refine AllReadyH.cons (o := ⟨_, _, _, _, _, _⟩) rfl (fun K' hK => ?_) (AllReadyH.nil)
          obtain ⟨d4, hw⟩ : ∃ W, d3.alloc (.cells #[.int .u8 0, .slice none 0 0, .int .i64 0, .slice none 0 0, .int .u64 0, .bool false, .string ⟨#[]⟩, .string ⟨#[]⟩, .string ⟨#[]⟩, .bool false, .slice none 0 0] 26) = W := ⟨_, rfl⟩
          obtain ⟨Q, hZ⟩ : ∃ g, d3.heap.size = g := ⟨_, rfl⟩
          have hE : Ext d3 d4 := by rw [← hw]; exact (Ext.refl _).alloc _
          have HQ := Lib.hid (show NBox d4 Q 26 #[.int .u8 0, .slice none 0 0, .int .i64 0, .slice none 0 0, .int .u64 0, .bool false, .string ⟨#[]⟩, .string ⟨#[]⟩, .string ⟨#[]⟩, .bool false, .slice none 0 0] from by rw [← hw, ← hZ]; exact NBox.new _ _ _)
          have HNQ := Lib.hid (show w.heap.size ≤ Q ∧ X ≠ Q ∧ Y ≠ Q ∧ P ≠ Q from ⟨by rw [← hZ]; exact HE.out.size, by rw [← hZ]; exact Nat.ne_of_lt HX.out.lt, by rw [← hZ]; exact Nat.ne_of_lt HY.out.lt, by rw [← hZ]; exact Nat.ne_of_lt HP.out.lt⟩)
          have HW := Lib.hid hw
          have HZZ := Lib.hid hZ
          clear hw hZ
          go_simp
          rw [HW.out, HZZ.out]
          have HE' := Lib.hid (HE.out.trans hE)
          have HX' := Lib.hid (HX.out.ext hE)
          have HY' := Lib.hid (HY.out.ext hE)
          have HOA' := Lib.hid (HOA.out.ext hE)
          have HP' := Lib.hid (HP.out.ext hE)
          have HOB' := Lib.hid (HOB.out.ext hE)
          refine hK.out _ _ (show _ ∧ _ from ⟨hHeld.1.ext hE, hHeld.2.ext hE⟩) (fun hHeld => ?_)
          clear hK K' hE HW HZZ
          try simp only [Act.put, List.setIfInBounds_toArray, List.set_cons_zero, List.set_cons_succ]
          clear HE
          have HE := HE'
          clear HE'
          clear HX
          have HX := HX'
          clear HX'
          clear HY
          have HY := HY'
          clear HY'
          clear HOA
          have HOA := HOA'
          clear HOA'
          clear HP
          have HP := HP'
          clear HP'
          clear HOB
          have HOB := HOB'
          clear HOB'
          have y0 := HP.out.cell 0
          have z0 := HP.out.frozen 0
          have y1 := HP.out.cell 1
          have z1 := HP.out.frozen 1
          have y2 := HP.out.cell 2
          have z2 := HP.out.frozen 2
          have y3 := HP.out.cell 3
          have z3 := HP.out.frozen 3
          have y4 := HP.out.cell 4
          have z4 := HP.out.frozen 4
          have y5 := HP.out.cell 5
          have z5 := HP.out.frozen 5
          have y6 := HP.out.cell 6
          have z6 := HP.out.frozen 6
          have y7 := HP.out.cell 7
          have z7 := HP.out.frozen 7
          have y8 := HP.out.cell 8
          have z8 := HP.out.frozen 8
          have y9 := HP.out.cell 9
          have z9 := HP.out.frozen 9
          have y10 := HP.out.cell 10
          have z10 := HP.out.frozen 10
          obtain ⟨x6, hw⟩ : ∃ W, (World.setCell (World.setCell (World.setCell (World.setCell (World.setCell (World.setCell (World.setCell (World.setCell (World.setCell (World.setCell (World.setCell d4 ⟨P, 0, none⟩ (.int .u8 ab.kind)) ⟨P, 1, none⟩ (.slice aA ab.path.length ac)) ⟨P, 2, none⟩ (.int .i64 ab.at_)) ⟨P, 3, none⟩ (.slice bA ab.to.length bc)) ⟨P, 4, none⟩ (.int .u64 ab.id)) ⟨P, 5, none⟩ (.bool ab.leaf)) ⟨P, 6, none⟩ (.string ab.label)) ⟨P, 7, none⟩ (.string ab.key)) ⟨P, 8, none⟩ (.string ab.value)) ⟨P, 9, none⟩ (.bool ab.gone)) ⟨P, 10, none⟩ (.slice eA ab.pcs.length ec)) = W := ⟨_, rfl⟩
          have F : Fr d4 x6 (fun k => k = P) := by rw [← hw]; exact Fr.s11 _ _ _ _ _ _ _ _ _ _ _ _ _
          have HP' := Lib.hid (show NBox x6 P 26 #[.int .u8 ab.kind, .slice aA ab.path.length ac, .int .i64 ab.at_, .slice bA ab.to.length bc, .int .u64 ab.id, .bool ab.leaf, .string ab.label, .string ab.key, .string ab.value, .bool ab.gone, .slice eA ab.pcs.length ec] from by rw [← hw]; exact HP.out.s11 _ _ _ _ _ _ _ _ _ _ _)
          have HOA' := Lib.hid (HOA.out.fr F HP.out (by decide) (by decide))
          have HOB' := Lib.hid (HOB.out.fr F HP.out (by decide) (by decide))
          have HE' := Lib.hid (Fr.ext HE.out F (fun q hq => by rw [show q = P from hq]; exact HNP.out.1))
          have HX' := Lib.hid (HX.out.fr F HNP.out.2.1)
          have HY' := Lib.hid (HY.out.fr F HNP.out.2.2)
          have HQ' := Lib.hid (HQ.out.fr F (fun e => HNQ.out.2.2.2 e.symm))
          have HW := Lib.hid hw
          clear hw F
          refine wpAnyH_ready (rs := [6]) (by kernel_rfl) (by simp) ?_
          refine AllReadyH.cons (o := ⟨_, _, _, _, _, _⟩) rfl (fun K' hK => ?_) (AllReadyH.nil)
          go_simp
          rw [HW.out]
          refine hK.out _ _ (show _ ∧ _ from ⟨HX'.out, HY'.out⟩) (fun hHeld => ?_)
          clear hK K' HW y0 z0 y1 z1 y2 z2 y3 z3 y4 z4 y5 z5 y6 z6 y7 z7 y8 z8 y9 z9 y10 z10
          try simp only [Act.put, List.setIfInBounds_toArray, List.set_cons_zero, List.set_cons_succ]
          clear HP
          have HP := HP'
          clear HP'
          clear HQ
          have HQ := HQ'
          clear HQ'
          clear HOA
          have HOA := HOA'
          clear HOA'
          clear HOB
          have HOB := HOB'
          clear HOB'
          clear HE
          have HE := HE'
          clear HE'
          clear HX
          have HX := HX'
          clear HX'
          clear HY
          have HY := HY'
          clear HY'
          have y0 := HQ.out.cell 0
          have z0 := HQ.out.frozen 0
          have y1 := HQ.out.cell 1
          have z1 := HQ.out.frozen 1
          have y2 := HQ.out.cell 2
          have z2 := HQ.out.frozen 2
          have y3 := HQ.out.cell 3
          have z3 := HQ.out.frozen 3
          have y4 := HQ.out.cell 4
          have z4 := HQ.out.frozen 4
          have y5 := HQ.out.cell 5
          have z5 := HQ.out.frozen 5
          have y6 := HQ.out.cell 6
          have z6 := HQ.out.frozen 6
          have y7 := HQ.out.cell 7
          have z7 := HQ.out.frozen 7
          have y8 := HQ.out.cell 8
          have z8 := HQ.out.frozen 8
          have y9 := HQ.out.cell 9
          have z9 := HQ.out.frozen 9
          have y10 := HQ.out.cell 10
          have z10 := HQ.out.frozen 10
          obtain ⟨x7, hw⟩ : ∃ W, (World.setCell (World.setCell (World.setCell (World.setCell (World.setCell (World.setCell (World.setCell (World.setCell (World.setCell (World.setCell (World.setCell x6 ⟨Q, 0, none⟩ (.int .u8 bb.kind)) ⟨Q, 1, none⟩ (.slice fA bb.path.length fc)) ⟨Q, 2, none⟩ (.int .i64 bb.at_)) ⟨Q, 3, none⟩ (.slice sA bb.to.length sc)) ⟨Q, 4, none⟩ (.int .u64 bb.id)) ⟨Q, 5, none⟩ (.bool bb.leaf)) ⟨Q, 6, none⟩ (.string bb.label)) ⟨Q, 7, none⟩ (.string bb.key)) ⟨Q, 8, none⟩ (.string bb.value)) ⟨Q, 9, none⟩ (.bool bb.gone)) ⟨Q, 10, none⟩ (.slice uA bb.pcs.length uc)) = W := ⟨_, rfl⟩
          have F : Fr x6 x7 (fun k => k = Q) := by rw [← hw]; exact Fr.s11 _ _ _ _ _ _ _ _ _ _ _ _ _
          have HQ' := Lib.hid (show NBox x7 Q 26 #[.int .u8 bb.kind, .slice fA bb.path.length fc, .int .i64 bb.at_, .slice sA bb.to.length sc, .int .u64 bb.id, .bool bb.leaf, .string bb.label, .string bb.key, .string bb.value, .bool bb.gone, .slice uA bb.pcs.length uc] from by rw [← hw]; exact HQ.out.s11 _ _ _ _ _ _ _ _ _ _ _)
          have HOA' := Lib.hid (HOA.out.fr F HQ.out (by decide) (by decide))
          have HOB' := Lib.hid (HOB.out.fr F HQ.out (by decide) (by decide))
          have HE' := Lib.hid (Fr.ext HE.out F (fun q hq => by rw [show q = Q from hq]; exact HNQ.out.1))
          have HX' := Lib.hid (HX.out.fr F HNQ.out.2.1)
          have HY' := Lib.hid (HY.out.fr F HNQ.out.2.2.1)
          have HP' := Lib.hid (HP.out.fr F (fun e => HNQ.out.2.2.2 e))
          have HW := Lib.hid hw
          clear hw F
          refine wpAnyH_ready (rs := [7]) (by kernel_rfl) (by simp) ?_
          refine AllReadyH.cons (o := ⟨_, _, _, _, _, _⟩) rfl (fun K' hK => ?_) (AllReadyH.nil)
          go_simp
          rw [HW.out]
          refine hK.out _ _ (show _ ∧ _ from ⟨HX'.out, HY'.out⟩) (fun hHeld => ?_)
          clear hK K' HW y0 z0 y1 z1 y2 z2 y3 z3 y4 z4 y5 z5 y6 z6 y7 z7 y8 z8 y9 z9 y10 z10
          try simp only [Act.put, List.setIfInBounds_toArray, List.set_cons_zero, List.set_cons_succ]
          clear HP
          have HP := HP'
          clear HP'
          clear HQ
          have HQ := HQ'
          clear HQ'
          clear HOA
          have HOA := HOA'
          clear HOA'
          clear HOB
          have HOB := HOB'
          clear HOB'
          clear HE
          have HE := HE'
          clear HE'
          clear HX
          have HX := HX'
          clear HX'
          clear HY
          have HY := HY'
          clear HY'
          refine wpAnyH_done (by kernel_rfl) ?_ _
          clear hHeld
          go_wp2_with fail
          go_meet
          case rel => exact ⟨P, Q, _, _, _, _, _, _, _, _, _, _, _, _, rfl, rfl, HE, HX, HY, HP, HQ, HOA, HOB⟩
        · obtain ⟨d3, hw⟩ : ∃ W, d2.alloc (.cells #[.int .u8 0, .slice none 0 0, .int .i64 0, .slice none 0 0, .int .u64 0, .bool false, .string ⟨#[]⟩, .string ⟨#[]⟩, .string ⟨#[]⟩, .bool false, .slice none 0 0] 26) = W := ⟨_, rfl⟩
          obtain ⟨Q, hZ⟩ : ∃ g, d2.heap.size = g := ⟨_, rfl⟩
          have hE : Ext d2 d3 := by rw [← hw]; exact (Ext.refl _).alloc _
          have HQ := Lib.hid (show NBox d3 Q 26 #[.int .u8 0, .slice none 0 0, .int .i64 0, .slice none 0 0, .int .u64 0, .bool false, .string ⟨#[]⟩, .string ⟨#[]⟩, .string ⟨#[]⟩, .bool false, .slice none 0 0] from by rw [← hw, ← hZ]; exact NBox.new _ _ _)
          have HNQ := Lib.hid (show w.heap.size ≤ Q ∧ X ≠ Q ∧ Y ≠ Q ∧ P ≠ Q from ⟨by rw [← hZ]; exact HE.out.size, by rw [← hZ]; exact Nat.ne_of_lt HX.out.lt, by rw [← hZ]; exact Nat.ne_of_lt HY.out.lt, by rw [← hZ]; exact Nat.ne_of_lt HP.out.lt⟩)
          have HW := Lib.hid hw
          have HZZ := Lib.hid hZ
          clear hw hZ
          go_simp
          rw [HW.out, HZZ.out]
          have HE' := Lib.hid (HE.out.trans hE)
          have HX' := Lib.hid (HX.out.ext hE)
          have HY' := Lib.hid (HY.out.ext hE)
          have HOA' := Lib.hid (HOA.out.ext hE)
          have HP' := Lib.hid (HP.out.ext hE)
          refine hK.out _ _ (show _ ∧ _ from ⟨hHeld.1.ext hE, hHeld.2.ext hE⟩) (fun hHeld => ?_)
          clear hK K' hE HW HZZ
          try simp only [Act.put, List.setIfInBounds_toArray, List.set_cons_zero, List.set_cons_succ]
          clear HE
          have HE := HE'
          clear HE'
          clear HX
          have HX := HX'
          clear HX'
          clear HY
          have HY := HY'
          clear HY'
          clear HOA
          have HOA := HOA'
          clear HOA'
          clear HP
          have HP := HP'
          clear HP'
          refine wpAnyH_ready (rs := [3]) (by kernel_rfl) (by simp) ?_
          refine AllReadyH.cons (o := ⟨_, _, _, _, _, _⟩) rfl (fun K' hK => ?_) (AllReadyH.nil)
          have q := HCB.out d3 HE.out
          go_simp
          go_at_call 12
          refine q.mono ?_
          clear q
          rintro e d4 ⟨hE, u9, rfl, hO⟩
          have HOB := Lib.hid (hO.low HE.out.size)
          obtain ⟨fA, fc, sA, sc, uA, uc, rfl, -⟩ := hO
          have HE' := Lib.hid (HE.out.trans hE)
          have HX' := Lib.hid (HX.out.ext hE)
          have HY' := Lib.hid (HY.out.ext hE)
          have HOA' := Lib.hid (HOA.out.ext hE)
          have HP' := Lib.hid (HP.out.ext hE)
          have HQ' := Lib.hid (HQ.out.ext hE)
          refine hK.out _ _ (show _ ∧ _ from ⟨hHeld.1.ext hE, hHeld.2.ext hE⟩) (fun hHeld => ?_)
          clear hK K' hE
          try simp only [Act.put, List.setIfInBounds_toArray, List.set_cons_zero, List.set_cons_succ]
          clear HE
          have HE := HE'
          clear HE'
          clear HX
          have HX := HX'
          clear HX'
          clear HY
          have HY := HY'
          clear HY'
          clear HOA
          have HOA := HOA'
          clear HOA'
          clear HP
          have HP := HP'
          clear HP'
          clear HQ
          have HQ := HQ'
          clear HQ'
          have y0 := HP.out.cell 0
          have z0 := HP.out.frozen 0
          have y1 := HP.out.cell 1
          have z1 := HP.out.frozen 1
          have y2 := HP.out.cell 2
          have z2 := HP.out.frozen 2
          have y3 := HP.out.cell 3
          have z3 := HP.out.frozen 3
          have y4 := HP.out.cell 4
          have z4 := HP.out.frozen 4
          have y5 := HP.out.cell 5
          have z5 := HP.out.frozen 5
          have y6 := HP.out.cell 6
          have z6 := HP.out.frozen 6
          have y7 := HP.out.cell 7
          have z7 := HP.out.frozen 7
          have y8 := HP.out.cell 8
          have z8 := HP.out.frozen 8
          have y9 := HP.out.cell 9
          have z9 := HP.out.frozen 9
          have y10 := HP.out.cell 10
          have z10 := HP.out.frozen 10
          obtain ⟨x6, hw⟩ : ∃ W, (World.setCell (World.setCell (World.setCell (World.setCell (World.setCell (World.setCell (World.setCell (World.setCell (World.setCell (World.setCell (World.setCell d4 ⟨P, 0, none⟩ (.int .u8 ab.kind)) ⟨P, 1, none⟩ (.slice aA ab.path.length ac)) ⟨P, 2, none⟩ (.int .i64 ab.at_)) ⟨P, 3, none⟩ (.slice bA ab.to.length bc)) ⟨P, 4, none⟩ (.int .u64 ab.id)) ⟨P, 5, none⟩ (.bool ab.leaf)) ⟨P, 6, none⟩ (.string ab.label)) ⟨P, 7, none⟩ (.string ab.key)) ⟨P, 8, none⟩ (.string ab.value)) ⟨P, 9, none⟩ (.bool ab.gone)) ⟨P, 10, none⟩ (.slice eA ab.pcs.length ec)) = W := ⟨_, rfl⟩
          have F : Fr d4 x6 (fun k => k = P) := by rw [← hw]; exact Fr.s11 _ _ _ _ _ _ _ _ _ _ _ _ _
          have HP' := Lib.hid (show NBox x6 P 26 #[.int .u8 ab.kind, .slice aA ab.path.length ac, .int .i64 ab.at_, .slice bA ab.to.length bc, .int .u64 ab.id, .bool ab.leaf, .string ab.label, .string ab.key, .string ab.value, .bool ab.gone, .slice eA ab.pcs.length ec] from by rw [← hw]; exact HP.out.s11 _ _ _ _ _ _ _ _ _ _ _)
          have HOA' := Lib.hid (HOA.out.fr F HP.out (by decide) (by decide))
          have HOB' := Lib.hid (HOB.out.fr F HP.out (by decide) (by decide))
          have HE' := Lib.hid (Fr.ext HE.out F (fun q hq => by rw [show q = P from hq]; exact HNP.out.1))
          have HX' := Lib.hid (HX.out.fr F HNP.out.2.1)
          have HY' := Lib.hid (HY.out.fr F HNP.out.2.2)
          have HQ' := Lib.hid (HQ.out.fr F (fun e => HNQ.out.2.2.2 e.symm))
          have HW := Lib.hid hw
          clear hw F
          refine wpAnyH_ready (rs := [6]) (by kernel_rfl) (by simp) ?_
          refine AllReadyH.cons (o := ⟨_, _, _, _, _, _⟩) rfl (fun K' hK => ?_) (AllReadyH.nil)
          go_simp
          rw [HW.out]
          refine hK.out _ _ (show _ ∧ _ from ⟨HX'.out, HY'.out⟩) (fun hHeld => ?_)
          clear hK K' HW y0 z0 y1 z1 y2 z2 y3 z3 y4 z4 y5 z5 y6 z6 y7 z7 y8 z8 y9 z9 y10 z10
          try simp only [Act.put, List.setIfInBounds_toArray, List.set_cons_zero, List.set_cons_succ]
          clear HP
          have HP := HP'
          clear HP'
          clear HQ
          have HQ := HQ'
          clear HQ'
          clear HOA
          have HOA := HOA'
          clear HOA'
          clear HOB
          have HOB := HOB'
          clear HOB'
          clear HE
          have HE := HE'
          clear HE'
          clear HX
          have HX := HX'
          clear HX'
          clear HY
          have HY := HY'
          clear HY'
          have y0 := HQ.out.cell 0
          have z0 := HQ.out.frozen 0
          have y1 := HQ.out.cell 1
          have z1 := HQ.out.frozen 1
          have y2 := HQ.out.cell 2
          have z2 := HQ.out.frozen 2
          have y3 := HQ.out.cell 3
          have z3 := HQ.out.frozen 3
          have y4 := HQ.out.cell 4
          have z4 := HQ.out.frozen 4
          have y5 := HQ.out.cell 5
          have z5 := HQ.out.frozen 5
          have y6 := HQ.out.cell 6
          have z6 := HQ.out.frozen 6
          have y7 := HQ.out.cell 7
          have z7 := HQ.out.frozen 7
          have y8 := HQ.out.cell 8
          have z8 := HQ.out.frozen 8
          have y9 := HQ.out.cell 9
          have z9 := HQ.out.frozen 9
          have y10 := HQ.out.cell 10
          have z10 := HQ.out.frozen 10
          obtain ⟨x7, hw⟩ : ∃ W, (World.setCell (World.setCell (World.setCell (World.setCell (World.setCell (World.setCell (World.setCell (World.setCell (World.setCell (World.setCell (World.setCell x6 ⟨Q, 0, none⟩ (.int .u8 bb.kind)) ⟨Q, 1, none⟩ (.slice fA bb.path.length fc)) ⟨Q, 2, none⟩ (.int .i64 bb.at_)) ⟨Q, 3, none⟩ (.slice sA bb.to.length sc)) ⟨Q, 4, none⟩ (.int .u64 bb.id)) ⟨Q, 5, none⟩ (.bool bb.leaf)) ⟨Q, 6, none⟩ (.string bb.label)) ⟨Q, 7, none⟩ (.string bb.key)) ⟨Q, 8, none⟩ (.string bb.value)) ⟨Q, 9, none⟩ (.bool bb.gone)) ⟨Q, 10, none⟩ (.slice uA bb.pcs.length uc)) = W := ⟨_, rfl⟩
          have F : Fr x6 x7 (fun k => k = Q) := by rw [← hw]; exact Fr.s11 _ _ _ _ _ _ _ _ _ _ _ _ _
          have HQ' := Lib.hid (show NBox x7 Q 26 #[.int .u8 bb.kind, .slice fA bb.path.length fc, .int .i64 bb.at_, .slice sA bb.to.length sc, .int .u64 bb.id, .bool bb.leaf, .string bb.label, .string bb.key, .string bb.value, .bool bb.gone, .slice uA bb.pcs.length uc] from by rw [← hw]; exact HQ.out.s11 _ _ _ _ _ _ _ _ _ _ _)
          have HOA' := Lib.hid (HOA.out.fr F HQ.out (by decide) (by decide))
          have HOB' := Lib.hid (HOB.out.fr F HQ.out (by decide) (by decide))
          have HE' := Lib.hid (Fr.ext HE.out F (fun q hq => by rw [show q = Q from hq]; exact HNQ.out.1))
          have HX' := Lib.hid (HX.out.fr F HNQ.out.2.1)
          have HY' := Lib.hid (HY.out.fr F HNQ.out.2.2.1)
          have HP' := Lib.hid (HP.out.fr F (fun e => HNQ.out.2.2.2 e))
          have HW := Lib.hid hw
          clear hw F
          refine wpAnyH_ready (rs := [7]) (by kernel_rfl) (by simp) ?_
          refine AllReadyH.cons (o := ⟨_, _, _, _, _, _⟩) rfl (fun K' hK => ?_) (AllReadyH.nil)
          go_simp
          rw [HW.out]
          refine hK.out _ _ (show _ ∧ _ from ⟨HX'.out, HY'.out⟩) (fun hHeld => ?_)
          clear hK K' HW y0 z0 y1 z1 y2 z2 y3 z3 y4 z4 y5 z5 y6 z6 y7 z7 y8 z8 y9 z9 y10 z10
          try simp only [Act.put, List.setIfInBounds_toArray, List.set_cons_zero, List.set_cons_succ]
          clear HP
          have HP := HP'
          clear HP'
          clear HQ
          have HQ := HQ'
          clear HQ'
          clear HOA
          have HOA := HOA'
          clear HOA'
          clear HOB
          have HOB := HOB'
          clear HOB'
          clear HE
          have HE := HE'
          clear HE'
          clear HX
          have HX := HX'
          clear HX'
          clear HY
          have HY := HY'
          clear HY'
          refine wpAnyH_done (by kernel_rfl) ?_ _
          clear hHeld
          go_wp2_with fail
          go_meet
          case rel => exact ⟨P, Q, _, _, _, _, _, _, _, _, _, _, _, _, rfl, rfl, HE, HX, HY, HP, HQ, HOA, HOB⟩
      · obtain ⟨d2, hw⟩ : ∃ W, d1.alloc (.cells #[.int .u8 0, .slice none 0 0, .int .i64 0, .slice none 0 0, .int .u64 0, .bool false, .string ⟨#[]⟩, .string ⟨#[]⟩, .string ⟨#[]⟩, .bool false, .slice none 0 0] 26) = W := ⟨_, rfl⟩
        obtain ⟨Q, hZ⟩ : ∃ g, d1.heap.size = g := ⟨_, rfl⟩
        have hE : Ext d1 d2 := by rw [← hw]; exact (Ext.refl _).alloc _
        have HQ := Lib.hid (show NBox d2 Q 26 #[.int .u8 0, .slice none 0 0, .int .i64 0, .slice none 0 0, .int .u64 0, .bool false, .string ⟨#[]⟩, .string ⟨#[]⟩, .string ⟨#[]⟩, .bool false, .slice none 0 0] from by rw [← hw, ← hZ]; exact NBox.new _ _ _)
        have HNQ := Lib.hid (show w.heap.size ≤ Q ∧ X ≠ Q ∧ Y ≠ Q from ⟨by rw [← hZ]; exact HE.out.size, by rw [← hZ]; exact Nat.ne_of_lt HX.out.lt, by rw [← hZ]; exact Nat.ne_of_lt HY.out.lt⟩)
        have HW := Lib.hid hw
        have HZZ := Lib.hid hZ
        clear hw hZ
        go_simp
        rw [HW.out, HZZ.out]
        have HE' := Lib.hid (HE.out.trans hE)
        have HX' := Lib.hid (HX.out.ext hE)
        have HY' := Lib.hid (HY.out.ext hE)
        have HOA' := Lib.hid (HOA.out.ext hE)
        refine hK.out _ _ (show _ ∧ _ from ⟨hHeld.1.ext hE, hHeld.2.ext hE⟩) (fun hHeld => ?_)
        clear hK K' hE HW HZZ
        try simp only [Act.put, List.setIfInBounds_toArray, List.set_cons_zero, List.set_cons_succ]
        clear HE
        have HE := HE'
        clear HE'
        clear HX
        have HX := HX'
        clear HX'
        clear HY
        have HY := HY'
        clear HY'
        clear HOA
        have HOA := HOA'
        clear HOA'
        refine wpAnyH_ready (rs := [3, 4]) (by kernel_rfl) (by simp) ?_
        refine AllReadyH.cons (o := ⟨_, _, _, _, _, _⟩) rfl (fun K' hK => ?_) (AllReadyH.cons (o := ⟨_, _, _, _, _, _⟩) rfl (fun K' hK => ?_) (AllReadyH.nil))
        · have q := HCB.out d2 HE.out
          go_simp
          go_at_call 12
          refine q.mono ?_
          clear q
          rintro e d3 ⟨hE, u9, rfl, hO⟩
          have HOB := Lib.hid (hO.low HE.out.size)
          obtain ⟨fA, fc, sA, sc, uA, uc, rfl, -⟩ := hO
          have HE' := Lib.hid (HE.out.trans hE)
          have HX' := Lib.hid (HX.out.ext hE)
          have HY' := Lib.hid (HY.out.ext hE)
          have HOA' := Lib.hid (HOA.out.ext hE)
          have HQ' := Lib.hid (HQ.out.ext hE)
          refine hK.out _ _ (show _ ∧ _ from ⟨hHeld.1.ext hE, hHeld.2.ext hE⟩) (fun hHeld => ?_)
          clear hK K' hE
          try simp only [Act.put, List.setIfInBounds_toArray, List.set_cons_zero, List.set_cons_succ]
          clear HE
          have HE := HE'
          clear HE'
          clear HX
          have HX := HX'
          clear HX'
          clear HY
          have HY := HY'
          clear HY'
          clear HOA
          have HOA := HOA'
          clear HOA'
          clear HQ
          have HQ := HQ'
          clear HQ'
          refine wpAnyH_ready (rs := [4]) (by kernel_rfl) (by simp) ?_
          refine AllReadyH.cons (o := ⟨_, _, _, _, _, _⟩) rfl (fun K' hK => ?_) (AllReadyH.nil)
          obtain ⟨d4, hw⟩ : ∃ W, d3.alloc (.cells #[.int .u8 0, .slice none 0 0, .int .i64 0, .slice none 0 0, .int .u64 0, .bool false, .string ⟨#[]⟩, .string ⟨#[]⟩, .string ⟨#[]⟩, .bool false, .slice none 0 0] 26) = W := ⟨_, rfl⟩
          obtain ⟨P, hZ⟩ : ∃ g, d3.heap.size = g := ⟨_, rfl⟩
          have hE : Ext d3 d4 := by rw [← hw]; exact (Ext.refl _).alloc _
          have HP := Lib.hid (show NBox d4 P 26 #[.int .u8 0, .slice none 0 0, .int .i64 0, .slice none 0 0, .int .u64 0, .bool false, .string ⟨#[]⟩, .string ⟨#[]⟩, .string ⟨#[]⟩, .bool false, .slice none 0 0] from by rw [← hw, ← hZ]; exact NBox.new _ _ _)
          have HNP := Lib.hid (show w.heap.size ≤ P ∧ X ≠ P ∧ Y ≠ P ∧ Q ≠ P from ⟨by rw [← hZ]; exact HE.out.size, by rw [← hZ]; exact Nat.ne_of_lt HX.out.lt, by rw [← hZ]; exact Nat.ne_of_lt HY.out.lt, by rw [← hZ]; exact Nat.ne_of_lt HQ.out.lt⟩)
          have HW := Lib.hid hw
          have HZZ := Lib.hid hZ
          clear hw hZ
          go_simp
          rw [HW.out, HZZ.out]
          have HE' := Lib.hid (HE.out.trans hE)
          have HX' := Lib.hid (HX.out.ext hE)
          have HY' := Lib.hid (HY.out.ext hE)
          have HOA' := Lib.hid (HOA.out.ext hE)
          have HQ' := Lib.hid (HQ.out.ext hE)
          have HOB' := Lib.hid (HOB.out.ext hE)
          refine hK.out _ _ (show _ ∧ _ from ⟨hHeld.1.ext hE, hHeld.2.ext hE⟩) (fun hHeld => ?_)
          clear hK K' hE HW HZZ
          try simp only [Act.put, List.setIfInBounds_toArray, List.set_cons_zero, List.set_cons_succ]
          clear HE
          have HE := HE'
          clear HE'
          clear HX
          have HX := HX'
          clear HX'
          clear HY
          have HY := HY'
          clear HY'
          clear HOA
          have HOA := HOA'
          clear HOA'
          clear HQ
          have HQ := HQ'
          clear HQ'
          clear HOB
          have HOB := HOB'
          clear HOB'
          have y0 := HP.out.cell 0
          have z0 := HP.out.frozen 0
          have y1 := HP.out.cell 1
          have z1 := HP.out.frozen 1
          have y2 := HP.out.cell 2
          have z2 := HP.out.frozen 2
          have y3 := HP.out.cell 3
          have z3 := HP.out.frozen 3
          have y4 := HP.out.cell 4
          have z4 := HP.out.frozen 4
          have y5 := HP.out.cell 5
          have z5 := HP.out.frozen 5
          have y6 := HP.out.cell 6
          have z6 := HP.out.frozen 6
          have y7 := HP.out.cell 7
          have z7 := HP.out.frozen 7
          have y8 := HP.out.cell 8
          have z8 := HP.out.frozen 8
          have y9 := HP.out.cell 9
          have z9 := HP.out.frozen 9
          have y10 := HP.out.cell 10
          have z10 := HP.out.frozen 10
          obtain ⟨x6, hw⟩ : ∃ W, (World.setCell (World.setCell (World.setCell (World.setCell (World.setCell (World.setCell (World.setCell (World.setCell (World.setCell (World.setCell (World.setCell d4 ⟨P, 0, none⟩ (.int .u8 ab.kind)) ⟨P, 1, none⟩ (.slice aA ab.path.length ac)) ⟨P, 2, none⟩ (.int .i64 ab.at_)) ⟨P, 3, none⟩ (.slice bA ab.to.length bc)) ⟨P, 4, none⟩ (.int .u64 ab.id)) ⟨P, 5, none⟩ (.bool ab.leaf)) ⟨P, 6, none⟩ (.string ab.label)) ⟨P, 7, none⟩ (.string ab.key)) ⟨P, 8, none⟩ (.string ab.value)) ⟨P, 9, none⟩ (.bool ab.gone)) ⟨P, 10, none⟩ (.slice eA ab.pcs.length ec)) = W := ⟨_, rfl⟩
          have F : Fr d4 x6 (fun k => k = P) := by rw [← hw]; exact Fr.s11 _ _ _ _ _ _ _ _ _ _ _ _ _
          have HP' := Lib.hid (show NBox x6 P 26 #[.int .u8 ab.kind, .slice aA ab.path.length ac, .int .i64 ab.at_, .slice bA ab.to.length bc, .int .u64 ab.id, .bool ab.leaf, .string ab.label, .string ab.key, .string ab.value, .bool ab.gone, .slice eA ab.pcs.length ec] from by rw [← hw]; exact HP.out.s11 _ _ _ _ _ _ _ _ _ _ _)
          have HOA' := Lib.hid (HOA.out.fr F HP.out (by decide) (by decide))
          have HOB' := Lib.hid (HOB.out.fr F HP.out (by decide) (by decide))
          have HE' := Lib.hid (Fr.ext HE.out F (fun q hq => by rw [show q = P from hq]; exact HNP.out.1))
          have HX' := Lib.hid (HX.out.fr F HNP.out.2.1)
          have HY' := Lib.hid (HY.out.fr F HNP.out.2.2.1)
          have HQ' := Lib.hid (HQ.out.fr F (fun e => HNP.out.2.2.2 e))
          have HW := Lib.hid hw
          clear hw F
          refine wpAnyH_ready (rs := [6]) (by kernel_rfl) (by simp) ?_
          refine AllReadyH.cons (o := ⟨_, _, _, _, _, _⟩) rfl (fun K' hK => ?_) (AllReadyH.nil)
          go_simp
          rw [HW.out]
          refine hK.out _ _ (show _ ∧ _ from ⟨HX'.out, HY'.out⟩) (fun hHeld => ?_)
          clear hK K' HW y0 z0 y1 z1 y2 z2 y3 z3 y4 z4 y5 z5 y6 z6 y7 z7 y8 z8 y9 z9 y10 z10
          try simp only [Act.put, List.setIfInBounds_toArray, List.set_cons_zero, List.set_cons_succ]
          clear HP
          have HP := HP'
          clear HP'
          clear HQ
          have HQ := HQ'
          clear HQ'
          clear HOA
          have HOA := HOA'
          clear HOA'
          clear HOB
          have HOB := HOB'
          clear HOB'
          clear HE
          have HE := HE'
          clear HE'
          clear HX
          have HX := HX'
          clear HX'
          clear HY
          have HY := HY'
          clear HY'
          have y0 := HQ.out.cell 0
          have z0 := HQ.out.frozen 0
          have y1 := HQ.out.cell 1
          have z1 := HQ.out.frozen 1
          have y2 := HQ.out.cell 2
          have z2 := HQ.out.frozen 2
          have y3 := HQ.out.cell 3
          have z3 := HQ.out.frozen 3
          have y4 := HQ.out.cell 4
          have z4 := HQ.out.frozen 4
          have y5 := HQ.out.cell 5
          have z5 := HQ.out.frozen 5
          have y6 := HQ.out.cell 6
          have z6 := HQ.out.frozen 6
          have y7 := HQ.out.cell 7
          have z7 := HQ.out.frozen 7
          have y8 := HQ.out.cell 8
          have z8 := HQ.out.frozen 8
          have y9 := HQ.out.cell 9
          have z9 := HQ.out.frozen 9
          have y10 := HQ.out.cell 10
          have z10 := HQ.out.frozen 10
          obtain ⟨x7, hw⟩ : ∃ W, (World.setCell (World.setCell (World.setCell (World.setCell (World.setCell (World.setCell (World.setCell (World.setCell (World.setCell (World.setCell (World.setCell x6 ⟨Q, 0, none⟩ (.int .u8 bb.kind)) ⟨Q, 1, none⟩ (.slice fA bb.path.length fc)) ⟨Q, 2, none⟩ (.int .i64 bb.at_)) ⟨Q, 3, none⟩ (.slice sA bb.to.length sc)) ⟨Q, 4, none⟩ (.int .u64 bb.id)) ⟨Q, 5, none⟩ (.bool bb.leaf)) ⟨Q, 6, none⟩ (.string bb.label)) ⟨Q, 7, none⟩ (.string bb.key)) ⟨Q, 8, none⟩ (.string bb.value)) ⟨Q, 9, none⟩ (.bool bb.gone)) ⟨Q, 10, none⟩ (.slice uA bb.pcs.length uc)) = W := ⟨_, rfl⟩
          have F : Fr x6 x7 (fun k => k = Q) := by rw [← hw]; exact Fr.s11 _ _ _ _ _ _ _ _ _ _ _ _ _
          have HQ' := Lib.hid (show NBox x7 Q 26 #[.int .u8 bb.kind, .slice fA bb.path.length fc, .int .i64 bb.at_, .slice sA bb.to.length sc, .int .u64 bb.id, .bool bb.leaf, .string bb.label, .string bb.key, .string bb.value, .bool bb.gone, .slice uA bb.pcs.length uc] from by rw [← hw]; exact HQ.out.s11 _ _ _ _ _ _ _ _ _ _ _)
          have HOA' := Lib.hid (HOA.out.fr F HQ.out (by decide) (by decide))
          have HOB' := Lib.hid (HOB.out.fr F HQ.out (by decide) (by decide))
          have HE' := Lib.hid (Fr.ext HE.out F (fun q hq => by rw [show q = Q from hq]; exact HNQ.out.1))
          have HX' := Lib.hid (HX.out.fr F HNQ.out.2.1)
          have HY' := Lib.hid (HY.out.fr F HNQ.out.2.2)
          have HP' := Lib.hid (HP.out.fr F (fun e => HNP.out.2.2.2 e.symm))
          have HW := Lib.hid hw
          clear hw F
          refine wpAnyH_ready (rs := [7]) (by kernel_rfl) (by simp) ?_
          refine AllReadyH.cons (o := ⟨_, _, _, _, _, _⟩) rfl (fun K' hK => ?_) (AllReadyH.nil)
          go_simp
          rw [HW.out]
          refine hK.out _ _ (show _ ∧ _ from ⟨HX'.out, HY'.out⟩) (fun hHeld => ?_)
          clear hK K' HW y0 z0 y1 z1 y2 z2 y3 z3 y4 z4 y5 z5 y6 z6 y7 z7 y8 z8 y9 z9 y10 z10
          try simp only [Act.put, List.setIfInBounds_toArray, List.set_cons_zero, List.set_cons_succ]
          clear HP
          have HP := HP'
          clear HP'
          clear HQ
          have HQ := HQ'
          clear HQ'
          clear HOA
          have HOA := HOA'
          clear HOA'
          clear HOB
          have HOB := HOB'
          clear HOB'
          clear HE
          have HE := HE'
          clear HE'
          clear HX
          have HX := HX'
          clear HX'
          clear HY
          have HY := HY'
          clear HY'
          refine wpAnyH_done (by kernel_rfl) ?_ _
          clear hHeld
          go_wp2_with fail
          go_meet
          case rel => exact ⟨P, Q, _, _, _, _, _, _, _, _, _, _, _, _, rfl, rfl, HE, HX, HY, HP, HQ, HOA, HOB⟩
        · obtain ⟨d3, hw⟩ : ∃ W, d2.alloc (.cells #[.int .u8 0, .slice none 0 0, .int .i64 0, .slice none 0 0, .int .u64 0, .bool false, .string ⟨#[]⟩, .string ⟨#[]⟩, .string ⟨#[]⟩, .bool false, .slice none 0 0] 26) = W := ⟨_, rfl⟩
          obtain ⟨P, hZ⟩ : ∃ g, d2.heap.size = g := ⟨_, rfl⟩
          have hE : Ext d2 d3 := by rw [← hw]; exact (Ext.refl _).alloc _
          have HP := Lib.hid (show NBox d3 P 26 #[.int .u8 0, .slice none 0 0, .int .i64 0, .slice none 0 0, .int .u64 0, .bool false, .string ⟨#[]⟩, .string ⟨#[]⟩, .string ⟨#[]⟩, .bool false, .slice none 0 0] from by rw [← hw, ← hZ]; exact NBox.new _ _ _)
          have HNP := Lib.hid (show w.heap.size ≤ P ∧ X ≠ P ∧ Y ≠ P ∧ Q ≠ P from ⟨by rw [← hZ]; exact HE.out.size, by rw [← hZ]; exact Nat.ne_of_lt HX.out.lt, by rw [← hZ]; exact Nat.ne_of_lt HY.out.lt, by rw [← hZ]; exact Nat.ne_of_lt HQ.out.lt⟩)
          have HW := Lib.hid hw
          have HZZ := Lib.hid hZ
          clear hw hZ
          go_simp
          rw [HW.out, HZZ.out]
          have HE' := Lib.hid (HE.out.trans hE)
          have HX' := Lib.hid (HX.out.ext hE)
          have HY' := Lib.hid (HY.out.ext hE)
          have HOA' := Lib.hid (HOA.out.ext hE)
          have HQ' := Lib.hid (HQ.out.ext hE)
          refine hK.out _ _ (show _ ∧ _ from ⟨hHeld.1.ext hE, hHeld.2.ext hE⟩) (fun hHeld => ?_)
          clear hK K' hE HW HZZ
          try simp only [Act.put, List.setIfInBounds_toArray, List.set_cons_zero, List.set_cons_succ]
          clear HE
          have HE := HE'
          clear HE'
          clear HX
          have HX := HX'
          clear HX'
          clear HY
          have HY := HY'
          clear HY'
          clear HOA
          have HOA := HOA'
          clear HOA'
          clear HQ
          have HQ := HQ'
          clear HQ'
          refine wpAnyH_ready (rs := [3]) (by kernel_rfl) (by simp) ?_
          refine AllReadyH.cons (o := ⟨_, _, _, _, _, _⟩) rfl (fun K' hK => ?_) (AllReadyH.nil)
          have q := HCB.out d3 HE.out
          go_simp
          go_at_call 12
          refine q.mono ?_
          clear q
          rintro e d4 ⟨hE, u9, rfl, hO⟩
          have HOB := Lib.hid (hO.low HE.out.size)
          obtain ⟨fA, fc, sA, sc, uA, uc, rfl, -⟩ := hO
          have HE' := Lib.hid (HE.out.trans hE)
          have HX' := Lib.hid (HX.out.ext hE)
          have HY' := Lib.hid (HY.out.ext hE)
          have HOA' := Lib.hid (HOA.out.ext hE)
          have HQ' := Lib.hid (HQ.out.ext hE)
          have HP' := Lib.hid (HP.out.ext hE)
          refine hK.out _ _ (show _ ∧ _ from ⟨hHeld.1.ext hE, hHeld.2.ext hE⟩) (fun hHeld => ?_)
          clear hK K' hE
          try simp only [Act.put, List.setIfInBounds_toArray, List.set_cons_zero, List.set_cons_succ]
          clear HE
          have HE := HE'
          clear HE'
          clear HX
          have HX := HX'
          clear HX'
          clear HY
          have HY := HY'
          clear HY'
          clear HOA
          have HOA := HOA'
          clear HOA'
          clear HQ
          have HQ := HQ'
          clear HQ'
          clear HP
          have HP := HP'
          clear HP'
          have y0 := HP.out.cell 0
          have z0 := HP.out.frozen 0
          have y1 := HP.out.cell 1
          have z1 := HP.out.frozen 1
          have y2 := HP.out.cell 2
          have z2 := HP.out.frozen 2
          have y3 := HP.out.cell 3
          have z3 := HP.out.frozen 3
          have y4 := HP.out.cell 4
          have z4 := HP.out.frozen 4
          have y5 := HP.out.cell 5
          have z5 := HP.out.frozen 5
          have y6 := HP.out.cell 6
          have z6 := HP.out.frozen 6
          have y7 := HP.out.cell 7
          have z7 := HP.out.frozen 7
          have y8 := HP.out.cell 8
          have z8 := HP.out.frozen 8
          have y9 := HP.out.cell 9
          have z9 := HP.out.frozen 9
          have y10 := HP.out.cell 10
          have z10 := HP.out.frozen 10
          obtain ⟨x6, hw⟩ : ∃ W, (World.setCell (World.setCell (World.setCell (World.setCell (World.setCell (World.setCell (World.setCell (World.setCell (World.setCell (World.setCell (World.setCell d4 ⟨P, 0, none⟩ (.int .u8 ab.kind)) ⟨P, 1, none⟩ (.slice aA ab.path.length ac)) ⟨P, 2, none⟩ (.int .i64 ab.at_)) ⟨P, 3, none⟩ (.slice bA ab.to.length bc)) ⟨P, 4, none⟩ (.int .u64 ab.id)) ⟨P, 5, none⟩ (.bool ab.leaf)) ⟨P, 6, none⟩ (.string ab.label)) ⟨P, 7, none⟩ (.string ab.key)) ⟨P, 8, none⟩ (.string ab.value)) ⟨P, 9, none⟩ (.bool ab.gone)) ⟨P, 10, none⟩ (.slice eA ab.pcs.length ec)) = W := ⟨_, rfl⟩
          have F : Fr d4 x6 (fun k => k = P) := by rw [← hw]; exact Fr.s11 _ _ _ _ _ _ _ _ _ _ _ _ _
          have HP' := Lib.hid (show NBox x6 P 26 #[.int .u8 ab.kind, .slice aA ab.path.length ac, .int .i64 ab.at_, .slice bA ab.to.length bc, .int .u64 ab.id, .bool ab.leaf, .string ab.label, .string ab.key, .string ab.value, .bool ab.gone, .slice eA ab.pcs.length ec] from by rw [← hw]; exact HP.out.s11 _ _ _ _ _ _ _ _ _ _ _)
          have HOA' := Lib.hid (HOA.out.fr F HP.out (by decide) (by decide))
          have HOB' := Lib.hid (HOB.out.fr F HP.out (by decide) (by decide))
          have HE' := Lib.hid (Fr.ext HE.out F (fun q hq => by rw [show q = P from hq]; exact HNP.out.1))
          have HX' := Lib.hid (HX.out.fr F HNP.out.2.1)
          have HY' := Lib.hid (HY.out.fr F HNP.out.2.2.1)
          have HQ' := Lib.hid (HQ.out.fr F (fun e => HNP.out.2.2.2 e))
          have HW := Lib.hid hw
          clear hw F
          refine wpAnyH_ready (rs := [6]) (by kernel_rfl) (by simp) ?_
          refine AllReadyH.cons (o := ⟨_, _, _, _, _, _⟩) rfl (fun K' hK => ?_) (AllReadyH.nil)
          go_simp
          rw [HW.out]
          refine hK.out _ _ (show _ ∧ _ from ⟨HX'.out, HY'.out⟩) (fun hHeld => ?_)
          clear hK K' HW y0 z0 y1 z1 y2 z2 y3 z3 y4 z4 y5 z5 y6 z6 y7 z7 y8 z8 y9 z9 y10 z10
          try simp only [Act.put, List.setIfInBounds_toArray, List.set_cons_zero, List.set_cons_succ]
          clear HP
          have HP := HP'
          clear HP'
          clear HQ
          have HQ := HQ'
          clear HQ'
          clear HOA
          have HOA := HOA'
          clear HOA'
          clear HOB
          have HOB := HOB'
          clear HOB'
          clear HE
          have HE := HE'
          clear HE'
          clear HX
          have HX := HX'
          clear HX'
          clear HY
          have HY := HY'
          clear HY'
          have y0 := HQ.out.cell 0
          have z0 := HQ.out.frozen 0
          have y1 := HQ.out.cell 1
          have z1 := HQ.out.frozen 1
          have y2 := HQ.out.cell 2
          have z2 := HQ.out.frozen 2
          have y3 := HQ.out.cell 3
          have z3 := HQ.out.frozen 3
          have y4 := HQ.out.cell 4
          have z4 := HQ.out.frozen 4
          have y5 := HQ.out.cell 5
          have z5 := HQ.out.frozen 5
          have y6 := HQ.out.cell 6
          have z6 := HQ.out.frozen 6
          have y7 := HQ.out.cell 7
          have z7 := HQ.out.frozen 7
          have y8 := HQ.out.cell 8
          have z8 := HQ.out.frozen 8
          have y9 := HQ.out.cell 9
          have z9 := HQ.out.frozen 9
          have y10 := HQ.out.cell 10
          have z10 := HQ.out.frozen 10
          obtain ⟨x7, hw⟩ : ∃ W, (World.setCell (World.setCell (World.setCell (World.setCell (World.setCell (World.setCell (World.setCell (World.setCell (World.setCell (World.setCell (World.setCell x6 ⟨Q, 0, none⟩ (.int .u8 bb.kind)) ⟨Q, 1, none⟩ (.slice fA bb.path.length fc)) ⟨Q, 2, none⟩ (.int .i64 bb.at_)) ⟨Q, 3, none⟩ (.slice sA bb.to.length sc)) ⟨Q, 4, none⟩ (.int .u64 bb.id)) ⟨Q, 5, none⟩ (.bool bb.leaf)) ⟨Q, 6, none⟩ (.string bb.label)) ⟨Q, 7, none⟩ (.string bb.key)) ⟨Q, 8, none⟩ (.string bb.value)) ⟨Q, 9, none⟩ (.bool bb.gone)) ⟨Q, 10, none⟩ (.slice uA bb.pcs.length uc)) = W := ⟨_, rfl⟩
          have F : Fr x6 x7 (fun k => k = Q) := by rw [← hw]; exact Fr.s11 _ _ _ _ _ _ _ _ _ _ _ _ _
          have HQ' := Lib.hid (show NBox x7 Q 26 #[.int .u8 bb.kind, .slice fA bb.path.length fc, .int .i64 bb.at_, .slice sA bb.to.length sc, .int .u64 bb.id, .bool bb.leaf, .string bb.label, .string bb.key, .string bb.value, .bool bb.gone, .slice uA bb.pcs.length uc] from by rw [← hw]; exact HQ.out.s11 _ _ _ _ _ _ _ _ _ _ _)
          have HOA' := Lib.hid (HOA.out.fr F HQ.out (by decide) (by decide))
          have HOB' := Lib.hid (HOB.out.fr F HQ.out (by decide) (by decide))
          have HE' := Lib.hid (Fr.ext HE.out F (fun q hq => by rw [show q = Q from hq]; exact HNQ.out.1))
          have HX' := Lib.hid (HX.out.fr F HNQ.out.2.1)
          have HY' := Lib.hid (HY.out.fr F HNQ.out.2.2)
          have HP' := Lib.hid (HP.out.fr F (fun e => HNP.out.2.2.2 e.symm))
          have HW := Lib.hid hw
          clear hw F
          refine wpAnyH_ready (rs := [7]) (by kernel_rfl) (by simp) ?_
          refine AllReadyH.cons (o := ⟨_, _, _, _, _, _⟩) rfl (fun K' hK => ?_) (AllReadyH.nil)
          go_simp
          rw [HW.out]
          refine hK.out _ _ (show _ ∧ _ from ⟨HX'.out, HY'.out⟩) (fun hHeld => ?_)
          clear hK K' HW y0 z0 y1 z1 y2 z2 y3 z3 y4 z4 y5 z5 y6 z6 y7 z7 y8 z8 y9 z9 y10 z10
          try simp only [Act.put, List.setIfInBounds_toArray, List.set_cons_zero, List.set_cons_succ]
          clear HP
          have HP := HP'
          clear HP'
          clear HQ
          have HQ := HQ'
          clear HQ'
          clear HOA
          have HOA := HOA'
          clear HOA'
          clear HOB
          have HOB := HOB'
          clear HOB'
          clear HE
          have HE := HE'
          clear HE'
          clear HX
          have HX := HX'
          clear HX'
          clear HY
          have HY := HY'
          clear HY'
          refine wpAnyH_done (by kernel_rfl) ?_ _
          clear hHeld
          go_wp2_with fail
          go_meet
          case rel => exact ⟨P, Q, _, _, _, _, _, _, _, _, _, _, _, _, rfl, rfl, HE, HX, HY, HP, HQ, HOA, HOB⟩
    · obtain ⟨d1, hw⟩ : ∃ W, d0.alloc (.cells #[.int .u8 0, .slice none 0 0, .int .i64 0, .slice none 0 0, .int .u64 0, .bool false, .string ⟨#[]⟩, .string ⟨#[]⟩, .string ⟨#[]⟩, .bool false, .slice none 0 0] 26) = W := ⟨_, rfl⟩
      obtain ⟨P, hZ⟩ : ∃ g, d0.heap.size = g := ⟨_, rfl⟩
      have hE : Ext d0 d1 := by rw [← hw]; exact (Ext.refl _).alloc _
      have HP := Lib.hid (show NBox d1 P 26 #[.int .u8 0, .slice none 0 0, .int .i64 0, .slice none 0 0, .int .u64 0, .bool false, .string ⟨#[]⟩, .string ⟨#[]⟩, .string ⟨#[]⟩, .bool false, .slice none 0 0] from by rw [← hw, ← hZ]; exact NBox.new _ _ _)
      have HNP := Lib.hid (show w.heap.size ≤ P ∧ X ≠ P ∧ Y ≠ P from ⟨by rw [← hZ]; exact HE.out.size, by rw [← hZ]; exact Nat.ne_of_lt HX.out.lt, by rw [← hZ]; exact Nat.ne_of_lt HY.out.lt⟩)
      have HW := Lib.hid hw
      have HZZ := Lib.hid hZ
      clear hw hZ
      go_simp
      rw [HW.out, HZZ.out]
      have HE' := Lib.hid (HE.out.trans hE)
      have HX' := Lib.hid (HX.out.ext hE)
      have HY' := Lib.hid (HY.out.ext hE)
      refine hK.out _ _ (show _ ∧ _ from ⟨hHeld.1.ext hE, hHeld.2.ext hE⟩) (fun hHeld => ?_)
      clear hK K' hE HW HZZ
      try simp only [Act.put, List.setIfInBounds_toArray, List.set_cons_zero, List.set_cons_succ]
      clear HE
      have HE := HE'
      clear HE'
      clear HX
      have HX := HX'
      clear HX'
      clear HY
      have HY := HY'
      clear HY'
      refine wpAnyH_ready (rs := [1, 5]) (by kernel_rfl) (by simp) ?_
      refine AllReadyH.cons (o := ⟨_, _, _, _, _, _⟩) rfl (fun K' hK => ?_) (AllReadyH.cons (o := ⟨_, _, _, _, _, _⟩) rfl (fun K' hK => ?_) (AllReadyH.nil))
      · have q := HCA.out d1 HE.out
        go_simp
        go_at_call 12
        refine q.mono ?_
        clear q
        rintro e d2 ⟨hE, u9, rfl, hO⟩
        have HOA := Lib.hid (hO.low HE.out.size)
        obtain ⟨aA, ac, bA, bc, eA, ec, rfl, -⟩ := hO
        have HE' := Lib.hid (HE.out.trans hE)
        have HX' := Lib.hid (HX.out.ext hE)
        have HY' := Lib.hid (HY.out.ext hE)
        have HP' := Lib.hid (HP.out.ext hE)
        refine hK.out _ _ (show _ ∧ _ from ⟨hHeld.1.ext hE, hHeld.2.ext hE⟩) (fun hHeld => ?_)
        clear hK K' hE
        try simp only [Act.put, List.setIfInBounds_toArray, List.set_cons_zero, List.set_cons_succ]
        clear HE
        have HE := HE'
        clear HE'
        clear HX
        have HX := HX'
        clear HX'
        clear HY
        have HY := HY'
        clear HY'
        clear HP
        have HP := HP'
        clear HP'
        refine wpAnyH_ready (rs := [3, 5]) (by kernel_rfl) (by simp) ?_
        refine AllReadyH.cons (o := ⟨_, _, _, _, _, _⟩) rfl (fun K' hK => ?_) (AllReadyH.cons (o := ⟨_, _, _, _, _, _⟩) rfl (fun K' hK => ?_) (AllReadyH.nil))
        · have q := HCB.out d2 HE.out
          go_simp
          go_at_call 12
          refine q.mono ?_
          clear q
          rintro e d3 ⟨hE, u9, rfl, hO⟩
          have HOB := Lib.hid (hO.low HE.out.size)
          obtain ⟨fA, fc, sA, sc, uA, uc, rfl, -⟩ := hO
          have HE' := Lib.hid (HE.out.trans hE)
          have HX' := Lib.hid (HX.out.ext hE)
          have HY' := Lib.hid (HY.out.ext hE)
          have HP' := Lib.hid (HP.out.ext hE)
          have HOA' := Lib.hid (HOA.out.ext hE)
          refine hK.out _ _ (show _ ∧ _ from ⟨hHeld.1.ext hE, hHeld.2.ext hE⟩) (fun hHeld => ?_)
          clear hK K' hE
          try simp only [Act.put, List.setIfInBounds_toArray, List.set_cons_zero, List.set_cons_succ]
          clear HE
          have HE := HE'
          clear HE'
          clear HX
          have HX := HX'
          clear HX'
          clear HY
          have HY := HY'
          clear HY'
          clear HP
          have HP := HP'
          clear HP'
          clear HOA
          have HOA := HOA'
          clear HOA'
          refine wpAnyH_ready (rs := [5]) (by kernel_rfl) (by simp) ?_
          refine AllReadyH.cons (o := ⟨_, _, _, _, _, _⟩) rfl (fun K' hK => ?_) (AllReadyH.nil)
          obtain ⟨d4, hw⟩ : ∃ W, d3.alloc (.cells #[.int .u8 0, .slice none 0 0, .int .i64 0, .slice none 0 0, .int .u64 0, .bool false, .string ⟨#[]⟩, .string ⟨#[]⟩, .string ⟨#[]⟩, .bool false, .slice none 0 0] 26) = W := ⟨_, rfl⟩
          obtain ⟨Q, hZ⟩ : ∃ g, d3.heap.size = g := ⟨_, rfl⟩
          have hE : Ext d3 d4 := by rw [← hw]; exact (Ext.refl _).alloc _
          have HQ := Lib.hid (show NBox d4 Q 26 #[.int .u8 0, .slice none 0 0, .int .i64 0, .slice none 0 0, .int .u64 0, .bool false, .string ⟨#[]⟩, .string ⟨#[]⟩, .string ⟨#[]⟩, .bool false, .slice none 0 0] from by rw [← hw, ← hZ]; exact NBox.new _ _ _)
          have HNQ := Lib.hid (show w.heap.size ≤ Q ∧ X ≠ Q ∧ Y ≠ Q ∧ P ≠ Q from ⟨by rw [← hZ]; exact HE.out.size, by rw [← hZ]; exact Nat.ne_of_lt HX.out.lt, by rw [← hZ]; exact Nat.ne_of_lt HY.out.lt, by rw [← hZ]; exact Nat.ne_of_lt HP.out.lt⟩)
          have HW := Lib.hid hw
          have HZZ := Lib.hid hZ
          clear hw hZ
          go_simp
          rw [HW.out, HZZ.out]
          have HE' := Lib.hid (HE.out.trans hE)
          have HX' := Lib.hid (HX.out.ext hE)
          have HY' := Lib.hid (HY.out.ext hE)
          have HP' := Lib.hid (HP.out.ext hE)
          have HOA' := Lib.hid (HOA.out.ext hE)
          have HOB' := Lib.hid (HOB.out.ext hE)
          refine hK.out _ _ (show _ ∧ _ from ⟨hHeld.1.ext hE, hHeld.2.ext hE⟩) (fun hHeld => ?_)
          clear hK K' hE HW HZZ
          try simp only [Act.put, List.setIfInBounds_toArray, List.set_cons_zero, List.set_cons_succ]
          clear HE
          have HE := HE'
          clear HE'
          clear HX
          have HX := HX'
          clear HX'
          clear HY
          have HY := HY'
          clear HY'
          clear HP
          have HP := HP'
          clear HP'
          clear HOA
          have HOA := HOA'
          clear HOA'
          clear HOB
          have HOB := HOB'
          clear HOB'
          have y0 := HP.out.cell 0
          have z0 := HP.out.frozen 0
          have y1 := HP.out.cell 1
          have z1 := HP.out.frozen 1
          have y2 := HP.out.cell 2
          have z2 := HP.out.frozen 2
          have y3 := HP.out.cell 3
          have z3 := HP.out.frozen 3
          have y4 := HP.out.cell 4
          have z4 := HP.out.frozen 4
          have y5 := HP.out.cell 5
          have z5 := HP.out.frozen 5
          have y6 := HP.out.cell 6
          have z6 := HP.out.frozen 6
          have y7 := HP.out.cell 7
          have z7 := HP.out.frozen 7
          have y8 := HP.out.cell 8
          have z8 := HP.out.frozen 8
          have y9 := HP.out.cell 9
          have z9 := HP.out.frozen 9
          have y10 := HP.out.cell 10
          have z10 := HP.out.frozen 10
          obtain ⟨x6, hw⟩ : ∃ W, (World.setCell (World.setCell (World.setCell (World.setCell (World.setCell (World.setCell (World.setCell (World.setCell (World.setCell (World.setCell (World.setCell d4 ⟨P, 0, none⟩ (.int .u8 ab.kind)) ⟨P, 1, none⟩ (.slice aA ab.path.length ac)) ⟨P, 2, none⟩ (.int .i64 ab.at_)) ⟨P, 3, none⟩ (.slice bA ab.to.length bc)) ⟨P, 4, none⟩ (.int .u64 ab.id)) ⟨P, 5, none⟩ (.bool ab.leaf)) ⟨P, 6, none⟩ (.string ab.label)) ⟨P, 7, none⟩ (.string ab.key)) ⟨P, 8, none⟩ (.string ab.value)) ⟨P, 9, none⟩ (.bool ab.gone)) ⟨P, 10, none⟩ (.slice eA ab.pcs.length ec)) = W := ⟨_, rfl⟩
          have F : Fr d4 x6 (fun k => k = P) := by rw [← hw]; exact Fr.s11 _ _ _ _ _ _ _ _ _ _ _ _ _
          have HP' := Lib.hid (show NBox x6 P 26 #[.int .u8 ab.kind, .slice aA ab.path.length ac, .int .i64 ab.at_, .slice bA ab.to.length bc, .int .u64 ab.id, .bool ab.leaf, .string ab.label, .string ab.key, .string ab.value, .bool ab.gone, .slice eA ab.pcs.length ec] from by rw [← hw]; exact HP.out.s11 _ _ _ _ _ _ _ _ _ _ _)
          have HOA' := Lib.hid (HOA.out.fr F HP.out (by decide) (by decide))
          have HOB' := Lib.hid (HOB.out.fr F HP.out (by decide) (by decide))
          have HE' := Lib.hid (Fr.ext HE.out F (fun q hq => by rw [show q = P from hq]; exact HNP.out.1))
          have HX' := Lib.hid (HX.out.fr F HNP.out.2.1)
          have HY' := Lib.hid (HY.out.fr F HNP.out.2.2)
          have HQ' := Lib.hid (HQ.out.fr F (fun e => HNQ.out.2.2.2 e.symm))
          have HW := Lib.hid hw
          clear hw F
          refine wpAnyH_ready (rs := [6]) (by kernel_rfl) (by simp) ?_
          refine AllReadyH.cons (o := ⟨_, _, _, _, _, _⟩) rfl (fun K' hK => ?_) (AllReadyH.nil)
          go_simp
          rw [HW.out]
          refine hK.out _ _ (show _ ∧ _ from ⟨HX'.out, HY'.out⟩) (fun hHeld => ?_)
          clear hK K' HW y0 z0 y1 z1 y2 z2 y3 z3 y4 z4 y5 z5 y6 z6 y7 z7 y8 z8 y9 z9 y10 z10
          try simp only [Act.put, List.setIfInBounds_toArray, List.set_cons_zero, List.set_cons_succ]
          clear HP
          have HP := HP'
          clear HP'
          clear HQ
          have HQ := HQ'
          clear HQ'
          clear HOA
          have HOA := HOA'
          clear HOA'
          clear HOB
          have HOB := HOB'
          clear HOB'
          clear HE
          have HE := HE'
          clear HE'
          clear HX
          have HX := HX'
          clear HX'
          clear HY
          have HY := HY'
          clear HY'
          have y0 := HQ.out.cell 0
          have z0 := HQ.out.frozen 0
          have y1 := HQ.out.cell 1
          have z1 := HQ.out.frozen 1
          have y2 := HQ.out.cell 2
          have z2 := HQ.out.frozen 2
          have y3 := HQ.out.cell 3
          have z3 := HQ.out.frozen 3
          have y4 := HQ.out.cell 4
          have z4 := HQ.out.frozen 4
          have y5 := HQ.out.cell 5
          have z5 := HQ.out.frozen 5
          have y6 := HQ.out.cell 6
          have z6 := HQ.out.frozen 6
          have y7 := HQ.out.cell 7
          have z7 := HQ.out.frozen 7
          have y8 := HQ.out.cell 8
          have z8 := HQ.out.frozen 8
          have y9 := HQ.out.cell 9
          have z9 := HQ.out.frozen 9
          have y10 := HQ.out.cell 10
          have z10 := HQ.out.frozen 10
          obtain ⟨x7, hw⟩ : ∃ W, (World.setCell (World.setCell (World.setCell (World.setCell (World.setCell (World.setCell (World.setCell (World.setCell (World.setCell (World.setCell (World.setCell x6 ⟨Q, 0, none⟩ (.int .u8 bb.kind)) ⟨Q, 1, none⟩ (.slice fA bb.path.length fc)) ⟨Q, 2, none⟩ (.int .i64 bb.at_)) ⟨Q, 3, none⟩ (.slice sA bb.to.length sc)) ⟨Q, 4, none⟩ (.int .u64 bb.id)) ⟨Q, 5, none⟩ (.bool bb.leaf)) ⟨Q, 6, none⟩ (.string bb.label)) ⟨Q, 7, none⟩ (.string bb.key)) ⟨Q, 8, none⟩ (.string bb.value)) ⟨Q, 9, none⟩ (.bool bb.gone)) ⟨Q, 10, none⟩ (.slice uA bb.pcs.length uc)) = W := ⟨_, rfl⟩
          have F : Fr x6 x7 (fun k => k = Q) := by rw [← hw]; exact Fr.s11 _ _ _ _ _ _ _ _ _ _ _ _ _
          have HQ' := Lib.hid (show NBox x7 Q 26 #[.int .u8 bb.kind, .slice fA bb.path.length fc, .int .i64 bb.at_, .slice sA bb.to.length sc, .int .u64 bb.id, .bool bb.leaf, .string bb.label, .string bb.key, .string bb.value, .bool bb.gone, .slice uA bb.pcs.length uc] from by rw [← hw]; exact HQ.out.s11 _ _ _ _ _ _ _ _ _ _ _)
          have HOA' := Lib.hid (HOA.out.fr F HQ.out (by decide) (by decide))
          have HOB' := Lib.hid (HOB.out.fr F HQ.out (by decide) (by decide))
          have HE' := Lib.hid (Fr.ext HE.out F (fun q hq => by rw [show q = Q from hq]; exact HNQ.out.1))
          have HX' := Lib.hid (HX.out.fr F HNQ.out.2.1)
          have HY' := Lib.hid (HY.out.fr F HNQ.out.2.2.1)
          have HP' := Lib.hid (HP.out.fr F (fun e => HNQ.out.2.2.2 e))
          have HW := Lib.hid hw
          clear hw F
          refine wpAnyH_ready (rs := [7]) (by kernel_rfl) (by simp) ?_
          refine AllReadyH.cons (o := ⟨_, _, _, _, _, _⟩) rfl (fun K' hK => ?_) (AllReadyH.nil)
          go_simp
          rw [HW.out]
          refine hK.out _ _ (show _ ∧ _ from ⟨HX'.out, HY'.out⟩) (fun hHeld => ?_)
          clear hK K' HW y0 z0 y1 z1 y2 z2 y3 z3 y4 z4 y5 z5 y6 z6 y7 z7 y8 z8 y9 z9 y10 z10
          try simp only [Act.put, List.setIfInBounds_toArray, List.set_cons_zero, List.set_cons_succ]
          clear HP
          have HP := HP'
          clear HP'
          clear HQ
          have HQ := HQ'
          clear HQ'
          clear HOA
          have HOA := HOA'
          clear HOA'
          clear HOB
          have HOB := HOB'
          clear HOB'
          clear HE
          have HE := HE'
          clear HE'
          clear HX
          have HX := HX'
          clear HX'
          clear HY
          have HY := HY'
          clear HY'
          refine wpAnyH_done (by kernel_rfl) ?_ _
          clear hHeld
          go_wp2_with fail
          go_meet
          case rel => exact ⟨P, Q, _, _, _, _, _, _, _, _, _, _, _, _, rfl, rfl, HE, HX, HY, HP, HQ, HOA, HOB⟩
        · obtain ⟨d3, hw⟩ : ∃ W, d2.alloc (.cells #[.int .u8 0, .slice none 0 0, .int .i64 0, .slice none 0 0, .int .u64 0, .bool false, .string ⟨#[]⟩, .string ⟨#[]⟩, .string ⟨#[]⟩, .bool false, .slice none 0 0] 26) = W := ⟨_, rfl⟩
          obtain ⟨Q, hZ⟩ : ∃ g, d2.heap.size = g := ⟨_, rfl⟩
          have hE : Ext d2 d3 := by rw [← hw]; exact (Ext.refl _).alloc _
          have HQ := Lib.hid (show NBox d3 Q 26 #[.int .u8 0, .slice none 0 0, .int .i64 0, .slice none 0 0, .int .u64 0, .bool false, .string ⟨#[]⟩, .string ⟨#[]⟩, .string ⟨#[]⟩, .bool false, .slice none 0 0] from by rw [← hw, ← hZ]; exact NBox.new _ _ _)
          have HNQ := Lib.hid (show w.heap.size ≤ Q ∧ X ≠ Q ∧ Y ≠ Q ∧ P ≠ Q from ⟨by rw [← hZ]; exact HE.out.size, by rw [← hZ]; exact Nat.ne_of_lt HX.out.lt, by rw [← hZ]; exact Nat.ne_of_lt HY.out.lt, by rw [← hZ]; exact Nat.ne_of_lt HP.out.lt⟩)
          have HW := Lib.hid hw
          have HZZ := Lib.hid hZ
          clear hw hZ
          go_simp
          rw [HW.out, HZZ.out]
          have HE' := Lib.hid (HE.out.trans hE)
          have HX' := Lib.hid (HX.out.ext hE)
          have HY' := Lib.hid (HY.out.ext hE)
          have HP' := Lib.hid (HP.out.ext hE)
          have HOA' := Lib.hid (HOA.out.ext hE)
          refine hK.out _ _ (show _ ∧ _ from ⟨hHeld.1.ext hE, hHeld.2.ext hE⟩) (fun hHeld => ?_)
          clear hK K' hE HW HZZ
          try simp only [Act.put, List.setIfInBounds_toArray, List.set_cons_zero, List.set_cons_succ]
          clear HE
          have HE := HE'
          clear HE'
          clear HX
          have HX := HX'
          clear HX'
          clear HY
          have HY := HY'
          clear HY'
          clear HP
          have HP := HP'
          clear HP'
          clear HOA
          have HOA := HOA'
          clear HOA'
          refine wpAnyH_ready (rs := [3]) (by kernel_rfl) (by simp) ?_
          refine AllReadyH.cons (o := ⟨_, _, _, _, _, _⟩) rfl (fun K' hK => ?_) (AllReadyH.nil)
          have q := HCB.out d3 HE.out
          go_simp
          go_at_call 12
          refine q.mono ?_
          clear q
          rintro e d4 ⟨hE, u9, rfl, hO⟩
          have HOB := Lib.hid (hO.low HE.out.size)
          obtain ⟨fA, fc, sA, sc, uA, uc, rfl, -⟩ := hO
          have HE' := Lib.hid (HE.out.trans hE)
          have HX' := Lib.hid (HX.out.ext hE)
          have HY' := Lib.hid (HY.out.ext hE)
          have HP' := Lib.hid (HP.out.ext hE)
          have HOA' := Lib.hid (HOA.out.ext hE)
          have HQ' := Lib.hid (HQ.out.ext hE)
          refine hK.out _ _ (show _ ∧ _ from ⟨hHeld.1.ext hE, hHeld.2.ext hE⟩) (fun hHeld => ?_)
          clear hK K' hE
          try simp only [Act.put, List.setIfInBounds_toArray, List.set_cons_zero, List.set_cons_succ]
          clear HE
          have HE := HE'
          clear HE'
          clear HX
          have HX := HX'
          clear HX'
          clear HY
          have HY := HY'
          clear HY'
          clear HP
          have HP := HP'
          clear HP'
          clear HOA
          have HOA := HOA'
          clear HOA'
          clear HQ
          have HQ := HQ'
          clear HQ'
          have y0 := HP.out.cell 0
          have z0 := HP.out.frozen 0
          have y1 := HP.out.cell 1
          have z1 := HP.out.frozen 1
          have y2 := HP.out.cell 2
          have z2 := HP.out.frozen 2
          have y3 := HP.out.cell 3
          have z3 := HP.out.frozen 3
          have y4 := HP.out.cell 4
          have z4 := HP.out.frozen 4
          have y5 := HP.out.cell 5
          have z5 := HP.out.frozen 5
          have y6 := HP.out.cell 6
          have z6 := HP.out.frozen 6
          have y7 := HP.out.cell 7
          have z7 := HP.out.frozen 7
          have y8 := HP.out.cell 8
          have z8 := HP.out.frozen 8
          have y9 := HP.out.cell 9
          have z9 := HP.out.frozen 9
          have y10 := HP.out.cell 10
          have z10 := HP.out.frozen 10
          obtain ⟨x6, hw⟩ : ∃ W, (World.setCell (World.setCell (World.setCell (World.setCell (World.setCell (World.setCell (World.setCell (World.setCell (World.setCell (World.setCell (World.setCell d4 ⟨P, 0, none⟩ (.int .u8 ab.kind)) ⟨P, 1, none⟩ (.slice aA ab.path.length ac)) ⟨P, 2, none⟩ (.int .i64 ab.at_)) ⟨P, 3, none⟩ (.slice bA ab.to.length bc)) ⟨P, 4, none⟩ (.int .u64 ab.id)) ⟨P, 5, none⟩ (.bool ab.leaf)) ⟨P, 6, none⟩ (.string ab.label)) ⟨P, 7, none⟩ (.string ab.key)) ⟨P, 8, none⟩ (.string ab.value)) ⟨P, 9, none⟩ (.bool ab.gone)) ⟨P, 10, none⟩ (.slice eA ab.pcs.length ec)) = W := ⟨_, rfl⟩
          have F : Fr d4 x6 (fun k => k = P) := by rw [← hw]; exact Fr.s11 _ _ _ _ _ _ _ _ _ _ _ _ _
          have HP' := Lib.hid (show NBox x6 P 26 #[.int .u8 ab.kind, .slice aA ab.path.length ac, .int .i64 ab.at_, .slice bA ab.to.length bc, .int .u64 ab.id, .bool ab.leaf, .string ab.label, .string ab.key, .string ab.value, .bool ab.gone, .slice eA ab.pcs.length ec] from by rw [← hw]; exact HP.out.s11 _ _ _ _ _ _ _ _ _ _ _)
          have HOA' := Lib.hid (HOA.out.fr F HP.out (by decide) (by decide))
          have HOB' := Lib.hid (HOB.out.fr F HP.out (by decide) (by decide))
          have HE' := Lib.hid (Fr.ext HE.out F (fun q hq => by rw [show q = P from hq]; exact HNP.out.1))
          have HX' := Lib.hid (HX.out.fr F HNP.out.2.1)
          have HY' := Lib.hid (HY.out.fr F HNP.out.2.2)
          have HQ' := Lib.hid (HQ.out.fr F (fun e => HNQ.out.2.2.2 e.symm))
          have HW := Lib.hid hw
          clear hw F
          refine wpAnyH_ready (rs := [6]) (by kernel_rfl) (by simp) ?_
          refine AllReadyH.cons (o := ⟨_, _, _, _, _, _⟩) rfl (fun K' hK => ?_) (AllReadyH.nil)
          go_simp
          rw [HW.out]
          refine hK.out _ _ (show _ ∧ _ from ⟨HX'.out, HY'.out⟩) (fun hHeld => ?_)
          clear hK K' HW y0 z0 y1 z1 y2 z2 y3 z3 y4 z4 y5 z5 y6 z6 y7 z7 y8 z8 y9 z9 y10 z10
          try simp only [Act.put, List.setIfInBounds_toArray, List.set_cons_zero, List.set_cons_succ]
          clear HP
          have HP := HP'
          clear HP'
          clear HQ
          have HQ := HQ'
          clear HQ'
          clear HOA
          have HOA := HOA'
          clear HOA'
          clear HOB
          have HOB := HOB'
          clear HOB'
          clear HE
          have HE := HE'
          clear HE'
          clear HX
          have HX := HX'
          clear HX'
          clear HY
          have HY := HY'
          clear HY'
          have y0 := HQ.out.cell 0
          have z0 := HQ.out.frozen 0
          have y1 := HQ.out.cell 1
          have z1 := HQ.out.frozen 1
          have y2 := HQ.out.cell 2
          have z2 := HQ.out.frozen 2
          have y3 := HQ.out.cell 3
          have z3 := HQ.out.frozen 3
          have y4 := HQ.out.cell 4
          have z4 := HQ.out.frozen 4
          have y5 := HQ.out.cell 5
          have z5 := HQ.out.frozen 5
          have y6 := HQ.out.cell 6
          have z6 := HQ.out.frozen 6
          have y7 := HQ.out.cell 7
          have z7 := HQ.out.frozen 7
          have y8 := HQ.out.cell 8
          have z8 := HQ.out.frozen 8
          have y9 := HQ.out.cell 9
          have z9 := HQ.out.frozen 9
          have y10 := HQ.out.cell 10
          have z10 := HQ.out.frozen 10
          obtain ⟨x7, hw⟩ : ∃ W, (World.setCell (World.setCell (World.setCell (World.setCell (World.setCell (World.setCell (World.setCell (World.setCell (World.setCell (World.setCell (World.setCell x6 ⟨Q, 0, none⟩ (.int .u8 bb.kind)) ⟨Q, 1, none⟩ (.slice fA bb.path.length fc)) ⟨Q, 2, none⟩ (.int .i64 bb.at_)) ⟨Q, 3, none⟩ (.slice sA bb.to.length sc)) ⟨Q, 4, none⟩ (.int .u64 bb.id)) ⟨Q, 5, none⟩ (.bool bb.leaf)) ⟨Q, 6, none⟩ (.string bb.label)) ⟨Q, 7, none⟩ (.string bb.key)) ⟨Q, 8, none⟩ (.string bb.value)) ⟨Q, 9, none⟩ (.bool bb.gone)) ⟨Q, 10, none⟩ (.slice uA bb.pcs.length uc)) = W := ⟨_, rfl⟩
          have F : Fr x6 x7 (fun k => k = Q) := by rw [← hw]; exact Fr.s11 _ _ _ _ _ _ _ _ _ _ _ _ _
          have HQ' := Lib.hid (show NBox x7 Q 26 #[.int .u8 bb.kind, .slice fA bb.path.length fc, .int .i64 bb.at_, .slice sA bb.to.length sc, .int .u64 bb.id, .bool bb.leaf, .string bb.label, .string bb.key, .string bb.value, .bool bb.gone, .slice uA bb.pcs.length uc] from by rw [← hw]; exact HQ.out.s11 _ _ _ _ _ _ _ _ _ _ _)
          have HOA' := Lib.hid (HOA.out.fr F HQ.out (by decide) (by decide))
          have HOB' := Lib.hid (HOB.out.fr F HQ.out (by decide) (by decide))
          have HE' := Lib.hid (Fr.ext HE.out F (fun q hq => by rw [show q = Q from hq]; exact HNQ.out.1))
          have HX' := Lib.hid (HX.out.fr F HNQ.out.2.1)
          have HY' := Lib.hid (HY.out.fr F HNQ.out.2.2.1)
          have HP' := Lib.hid (HP.out.fr F (fun e => HNQ.out.2.2.2 e))
          have HW := Lib.hid hw
          clear hw F
          refine wpAnyH_ready (rs := [7]) (by kernel_rfl) (by simp) ?_
          refine AllReadyH.cons (o := ⟨_, _, _, _, _, _⟩) rfl (fun K' hK => ?_) (AllReadyH.nil)
          go_simp
          rw [HW.out]
          refine hK.out _ _ (show _ ∧ _ from ⟨HX'.out, HY'.out⟩) (fun hHeld => ?_)
          clear hK K' HW y0 z0 y1 z1 y2 z2 y3 z3 y4 z4 y5 z5 y6 z6 y7 z7 y8 z8 y9 z9 y10 z10
          try simp only [Act.put, List.setIfInBounds_toArray, List.set_cons_zero, List.set_cons_succ]
          clear HP
          have HP := HP'
          clear HP'
          clear HQ
          have HQ := HQ'
          clear HQ'
          clear HOA
          have HOA := HOA'
          clear HOA'
          clear HOB
          have HOB := HOB'
          clear HOB'
          clear HE
          have HE := HE'
          clear HE'
          clear HX
          have HX := HX'
          clear HX'
          clear HY
          have HY := HY'
          clear HY'
          refine wpAnyH_done (by kernel_rfl) ?_ _
          clear hHeld
          go_wp2_with fail
          go_meet
          case rel => exact ⟨P, Q, _, _, _, _, _, _, _, _, _, _, _, _, rfl, rfl, HE, HX, HY, HP, HQ, HOA, HOB⟩
      · obtain ⟨d2, hw⟩ : ∃ W, d1.alloc (.cells #[.int .u8 0, .slice none 0 0, .int .i64 0, .slice none 0 0, .int .u64 0, .bool false, .string ⟨#[]⟩, .string ⟨#[]⟩, .string ⟨#[]⟩, .bool false, .slice none 0 0] 26) = W := ⟨_, rfl⟩
        obtain ⟨Q, hZ⟩ : ∃ g, d1.heap.size = g := ⟨_, rfl⟩
        have hE : Ext d1 d2 := by rw [← hw]; exact (Ext.refl _).alloc _
        have HQ := Lib.hid (show NBox d2 Q 26 #[.int .u8 0, .slice none 0 0, .int .i64 0, .slice none 0 0, .int .u64 0, .bool false, .string ⟨#[]⟩, .string ⟨#[]⟩, .string ⟨#[]⟩, .bool false, .slice none 0 0] from by rw [← hw, ← hZ]; exact NBox.new _ _ _)
        have HNQ := Lib.hid (show w.heap.size ≤ Q ∧ X ≠ Q ∧ Y ≠ Q ∧ P ≠ Q from ⟨by rw [← hZ]; exact HE.out.size, by rw [← hZ]; exact Nat.ne_of_lt HX.out.lt, by rw [← hZ]; exact Nat.ne_of_lt HY.out.lt, by rw [← hZ]; exact Nat.ne_of_lt HP.out.lt⟩)
        have HW := Lib.hid hw
        have HZZ := Lib.hid hZ
        clear hw hZ
        go_simp
        rw [HW.out, HZZ.out]
        have HE' := Lib.hid (HE.out.trans hE)
        have HX' := Lib.hid (HX.out.ext hE)
        have HY' := Lib.hid (HY.out.ext hE)
        have HP' := Lib.hid (HP.out.ext hE)
        refine hK.out _ _ (show _ ∧ _ from ⟨hHeld.1.ext hE, hHeld.2.ext hE⟩) (fun hHeld => ?_)
        clear hK K' hE HW HZZ
        try simp only [Act.put, List.setIfInBounds_toArray, List.set_cons_zero, List.set_cons_succ]
        clear HE
        have HE := HE'
        clear HE'
        clear HX
        have HX := HX'
        clear HX'
        clear HY
        have HY := HY'
        clear HY'
        clear HP
        have HP := HP'
        clear HP'
        refine wpAnyH_ready (rs := [1]) (by kernel_rfl) (by simp) ?_
        refine AllReadyH.cons (o := ⟨_, _, _, _, _, _⟩) rfl (fun K' hK => ?_) (AllReadyH.nil)
        have q := HCA.out d2 HE.out
        go_simp
        go_at_call 12
        refine q.mono ?_
        clear q
        rintro e d3 ⟨hE, u9, rfl, hO⟩
        have HOA := Lib.hid (hO.low HE.out.size)
        obtain ⟨aA, ac, bA, bc, eA, ec, rfl, -⟩ := hO
        have HE' := Lib.hid (HE.out.trans hE)
        have HX' := Lib.hid (HX.out.ext hE)
        have HY' := Lib.hid (HY.out.ext hE)
        have HP' := Lib.hid (HP.out.ext hE)
        have HQ' := Lib.hid (HQ.out.ext hE)
        refine hK.out _ _ (show _ ∧ _ from ⟨hHeld.1.ext hE, hHeld.2.ext hE⟩) (fun hHeld => ?_)
        clear hK K' hE
        try simp only [Act.put, List.setIfInBounds_toArray, List.set_cons_zero, List.set_cons_succ]
        clear HE
        have HE := HE'
        clear HE'
        clear HX
        have HX := HX'
        clear HX'
        clear HY
        have HY := HY'
        clear HY'
        clear HP
        have HP := HP'
        clear HP'
        clear HQ
        have HQ := HQ'
        clear HQ'
        refine wpAnyH_ready (rs := [3]) (by kernel_rfl) (by simp) ?_
        refine AllReadyH.cons (o := ⟨_, _, _, _, _, _⟩) rfl (fun K' hK => ?_) (AllReadyH.nil)
        have q := HCB.out d3 HE.out
        go_simp
        go_at_call 12
        refine q.mono ?_
        clear q
        rintro e d4 ⟨hE, u9, rfl, hO⟩
        have HOB := Lib.hid (hO.low HE.out.size)
        obtain ⟨fA, fc, sA, sc, uA, uc, rfl, -⟩ := hO
        have HE' := Lib.hid (HE.out.trans hE)
        have HX' := Lib.hid (HX.out.ext hE)
        have HY' := Lib.hid (HY.out.ext hE)
        have HP' := Lib.hid (HP.out.ext hE)
        have HQ' := Lib.hid (HQ.out.ext hE)
        have HOA' := Lib.hid (HOA.out.ext hE)
        refine hK.out _ _ (show _ ∧ _ from ⟨hHeld.1.ext hE, hHeld.2.ext hE⟩) (fun hHeld => ?_)
        clear hK K' hE
        try simp only [Act.put, List.setIfInBounds_toArray, List.set_cons_zero, List.set_cons_succ]
        clear HE
        have HE := HE'
        clear HE'
        clear HX
        have HX := HX'
        clear HX'
        clear HY
        have HY := HY'
        clear HY'
        clear HP
        have HP := HP'
        clear HP'
        clear HQ
        have HQ := HQ'
        clear HQ'
        clear HOA
        have HOA := HOA'
        clear HOA'
        have y0 := HP.out.cell 0
        have z0 := HP.out.frozen 0
        have y1 := HP.out.cell 1
        have z1 := HP.out.frozen 1
        have y2 := HP.out.cell 2
        have z2 := HP.out.frozen 2
        have y3 := HP.out.cell 3
        have z3 := HP.out.frozen 3
        have y4 := HP.out.cell 4
        have z4 := HP.out.frozen 4
        have y5 := HP.out.cell 5
        have z5 := HP.out.frozen 5
        have y6 := HP.out.cell 6
        have z6 := HP.out.frozen 6
        have y7 := HP.out.cell 7
        have z7 := HP.out.frozen 7
        have y8 := HP.out.cell 8
        have z8 := HP.out.frozen 8
        have y9 := HP.out.cell 9
        have z9 := HP.out.frozen 9
        have y10 := HP.out.cell 10
        have z10 := HP.out.frozen 10
        obtain ⟨x6, hw⟩ : ∃ W, (World.setCell (World.setCell (World.setCell (World.setCell (World.setCell (World.setCell (World.setCell (World.setCell (World.setCell (World.setCell (World.setCell d4 ⟨P, 0, none⟩ (.int .u8 ab.kind)) ⟨P, 1, none⟩ (.slice aA ab.path.length ac)) ⟨P, 2, none⟩ (.int .i64 ab.at_)) ⟨P, 3, none⟩ (.slice bA ab.to.length bc)) ⟨P, 4, none⟩ (.int .u64 ab.id)) ⟨P, 5, none⟩ (.bool ab.leaf)) ⟨P, 6, none⟩ (.string ab.label)) ⟨P, 7, none⟩ (.string ab.key)) ⟨P, 8, none⟩ (.string ab.value)) ⟨P, 9, none⟩ (.bool ab.gone)) ⟨P, 10, none⟩ (.slice eA ab.pcs.length ec)) = W := ⟨_, rfl⟩
        have F : Fr d4 x6 (fun k => k = P) := by rw [← hw]; exact Fr.s11 _ _ _ _ _ _ _ _ _ _ _ _ _
        have HP' := Lib.hid (show NBox x6 P 26 #[.int .u8 ab.kind, .slice aA ab.path.length ac, .int .i64 ab.at_, .slice bA ab.to.length bc, .int .u64 ab.id, .bool ab.leaf, .string ab.label, .string ab.key, .string ab.value, .bool ab.gone, .slice eA ab.pcs.length ec] from by rw [← hw]; exact HP.out.s11 _ _ _ _ _ _ _ _ _ _ _)
        have HOA' := Lib.hid (HOA.out.fr F HP.out (by decide) (by decide))
        have HOB' := Lib.hid (HOB.out.fr F HP.out (by decide) (by decide))
        have HE' := Lib.hid (Fr.ext HE.out F (fun q hq => by rw [show q = P from hq]; exact HNP.out.1))
        have HX' := Lib.hid (HX.out.fr F HNP.out.2.1)
        have HY' := Lib.hid (HY.out.fr F HNP.out.2.2)
        have HQ' := Lib.hid (HQ.out.fr F (fun e => HNQ.out.2.2.2 e.symm))
        have HW := Lib.hid hw
        clear hw F
        refine wpAnyH_ready (rs := [6]) (by kernel_rfl) (by simp) ?_
        refine AllReadyH.cons (o := ⟨_, _, _, _, _, _⟩) rfl (fun K' hK => ?_) (AllReadyH.nil)
        go_simp
        rw [HW.out]
        refine hK.out _ _ (show _ ∧ _ from ⟨HX'.out, HY'.out⟩) (fun hHeld => ?_)
        clear hK K' HW y0 z0 y1 z1 y2 z2 y3 z3 y4 z4 y5 z5 y6 z6 y7 z7 y8 z8 y9 z9 y10 z10
        try simp only [Act.put, List.setIfInBounds_toArray, List.set_cons_zero, List.set_cons_succ]
        clear HP
        have HP := HP'
        clear HP'
        clear HQ
        have HQ := HQ'
        clear HQ'
        clear HOA
        have HOA := HOA'
        clear HOA'
        clear HOB
        have HOB := HOB'
        clear HOB'
        clear HE
        have HE := HE'
        clear HE'
        clear HX
        have HX := HX'
        clear HX'
        clear HY
        have HY := HY'
        clear HY'
        have y0 := HQ.out.cell 0
        have z0 := HQ.out.frozen 0
        have y1 := HQ.out.cell 1
        have z1 := HQ.out.frozen 1
        have y2 := HQ.out.cell 2
        have z2 := HQ.out.frozen 2
        have y3 := HQ.out.cell 3
        have z3 := HQ.out.frozen 3
        have y4 := HQ.out.cell 4
        have z4 := HQ.out.frozen 4
        have y5 := HQ.out.cell 5
        have z5 := HQ.out.frozen 5
        have y6 := HQ.out.cell 6
        have z6 := HQ.out.frozen 6
        have y7 := HQ.out.cell 7
        have z7 := HQ.out.frozen 7
        have y8 := HQ.out.cell 8
        have z8 := HQ.out.frozen 8
        have y9 := HQ.out.cell 9
        have z9 := HQ.out.frozen 9
        have y10 := HQ.out.cell 10
        have z10 := HQ.out.frozen 10
        obtain ⟨x7, hw⟩ : ∃ W, (World.setCell (World.setCell (World.setCell (World.setCell (World.setCell (World.setCell (World.setCell (World.setCell (World.setCell (World.setCell (World.setCell x6 ⟨Q, 0, none⟩ (.int .u8 bb.kind)) ⟨Q, 1, none⟩ (.slice fA bb.path.length fc)) ⟨Q, 2, none⟩ (.int .i64 bb.at_)) ⟨Q, 3, none⟩ (.slice sA bb.to.length sc)) ⟨Q, 4, none⟩ (.int .u64 bb.id)) ⟨Q, 5, none⟩ (.bool bb.leaf)) ⟨Q, 6, none⟩ (.string bb.label)) ⟨Q, 7, none⟩ (.string bb.key)) ⟨Q, 8, none⟩ (.string bb.value)) ⟨Q, 9, none⟩ (.bool bb.gone)) ⟨Q, 10, none⟩ (.slice uA bb.pcs.length uc)) = W := ⟨_, rfl⟩
        have F : Fr x6 x7 (fun k => k = Q) := by rw [← hw]; exact Fr.s11 _ _ _ _ _ _ _ _ _ _ _ _ _
        have HQ' := Lib.hid (show NBox x7 Q 26 #[.int .u8 bb.kind, .slice fA bb.path.length fc, .int .i64 bb.at_, .slice sA bb.to.length sc, .int .u64 bb.id, .bool bb.leaf, .string bb.label, .string bb.key, .string bb.value, .bool bb.gone, .slice uA bb.pcs.length uc] from by rw [← hw]; exact HQ.out.s11 _ _ _ _ _ _ _ _ _ _ _)
        have HOA' := Lib.hid (HOA.out.fr F HQ.out (by decide) (by decide))
        have HOB' := Lib.hid (HOB.out.fr F HQ.out (by decide) (by decide))
        have HE' := Lib.hid (Fr.ext HE.out F (fun q hq => by rw [show q = Q from hq]; exact HNQ.out.1))
        have HX' := Lib.hid (HX.out.fr F HNQ.out.2.1)
        have HY' := Lib.hid (HY.out.fr F HNQ.out.2.2.1)
        have HP' := Lib.hid (HP.out.fr F (fun e => HNQ.out.2.2.2 e))
        have HW := Lib.hid hw
        clear hw F
        refine wpAnyH_ready (rs := [7]) (by kernel_rfl) (by simp) ?_
        refine AllReadyH.cons (o := ⟨_, _, _, _, _, _⟩) rfl (fun K' hK => ?_) (AllReadyH.nil)
        go_simp
        rw [HW.out]
        refine hK.out _ _ (show _ ∧ _ from ⟨HX'.out, HY'.out⟩) (fun hHeld => ?_)
        clear hK K' HW y0 z0 y1 z1 y2 z2 y3 z3 y4 z4 y5 z5 y6 z6 y7 z7 y8 z8 y9 z9 y10 z10
        try simp only [Act.put, List.setIfInBounds_toArray, List.set_cons_zero, List.set_cons_succ]
        clear HP
        have HP := HP'
        clear HP'
        clear HQ
        have HQ := HQ'
        clear HQ'
        clear HOA
        have HOA := HOA'
        clear HOA'
        clear HOB
        have HOB := HOB'
        clear HOB'
        clear HE
        have HE := HE'
        clear HE'
        clear HX
        have HX := HX'
        clear HX'
        clear HY
        have HY := HY'
        clear HY'
        refine wpAnyH_done (by kernel_rfl) ?_ _
        clear hHeld
        go_wp2_with fail
        go_meet
        case rel => exact ⟨P, Q, _, _, _, _, _, _, _, _, _, _, _, _, rfl, rfl, HE, HX, HY, HP, HQ, HOA, HOB⟩
    · obtain ⟨d1, hw⟩ : ∃ W, d0.alloc (.cells #[.int .u8 0, .slice none 0 0, .int .i64 0, .slice none 0 0, .int .u64 0, .bool false, .string ⟨#[]⟩, .string ⟨#[]⟩, .string ⟨#[]⟩, .bool false, .slice none 0 0] 26) = W := ⟨_, rfl⟩
      obtain ⟨Q, hZ⟩ : ∃ g, d0.heap.size = g := ⟨_, rfl⟩
      have hE : Ext d0 d1 := by rw [← hw]; exact (Ext.refl _).alloc _
      have HQ := Lib.hid (show NBox d1 Q 26 #[.int .u8 0, .slice none 0 0, .int .i64 0, .slice none 0 0, .int .u64 0, .bool false, .string ⟨#[]⟩, .string ⟨#[]⟩, .string ⟨#[]⟩, .bool false, .slice none 0 0] from by rw [← hw, ← hZ]; exact NBox.new _ _ _)
      have HNQ := Lib.hid (show w.heap.size ≤ Q ∧ X ≠ Q ∧ Y ≠ Q from ⟨by rw [← hZ]; exact HE.out.size, by rw [← hZ]; exact Nat.ne_of_lt HX.out.lt, by rw [← hZ]; exact Nat.ne_of_lt HY.out.lt⟩)
      have HW := Lib.hid hw
      have HZZ := Lib.hid hZ
      clear hw hZ
      go_simp
      rw [HW.out, HZZ.out]
      have HE' := Lib.hid (HE.out.trans hE)
      have HX' := Lib.hid (HX.out.ext hE)
      have HY' := Lib.hid (HY.out.ext hE)
      refine hK.out _ _ (show _ ∧ _ from ⟨hHeld.1.ext hE, hHeld.2.ext hE⟩) (fun hHeld => ?_)
      clear hK K' hE HW HZZ
      try simp only [Act.put, List.setIfInBounds_toArray, List.set_cons_zero, List.set_cons_succ]
      clear HE
      have HE := HE'
      clear HE'
      clear HX
      have HX := HX'
      clear HX'
      clear HY
      have HY := HY'
      clear HY'
      refine wpAnyH_ready (rs := [1, 4]) (by kernel_rfl) (by simp) ?_
      refine AllReadyH.cons (o := ⟨_, _, _, _, _, _⟩) rfl (fun K' hK => ?_) (AllReadyH.cons (o := ⟨_, _, _, _, _, _⟩) rfl (fun K' hK => ?_) (AllReadyH.nil))
      · have q := HCA.out d1 HE.out
        go_simp
        go_at_call 12
        refine q.mono ?_
        clear q
        rintro e d2 ⟨hE, u9, rfl, hO⟩
        have HOA := Lib.hid (hO.low HE.out.size)
        obtain ⟨aA, ac, bA, bc, eA, ec, rfl, -⟩ := hO
        have HE' := Lib.hid (HE.out.trans hE)
        have HX' := Lib.hid (HX.out.ext hE)
        have HY' := Lib.hid (HY.out.ext hE)
        have HQ' := Lib.hid (HQ.out.ext hE)
        refine hK.out _ _ (show _ ∧ _ from ⟨hHeld.1.ext hE, hHeld.2.ext hE⟩) (fun hHeld => ?_)
        clear hK K' hE
        try simp only [Act.put, List.setIfInBounds_toArray, List.set_cons_zero, List.set_cons_succ]
        clear HE
        have HE := HE'
        clear HE'
        clear HX
        have HX := HX'
        clear HX'
        clear HY
        have HY := HY'
        clear HY'
        clear HQ
        have HQ := HQ'
        clear HQ'
        refine wpAnyH_ready (rs := [3, 4]) (by kernel_rfl) (by simp) ?_
        refine AllReadyH.cons (o := ⟨_, _, _, _, _, _⟩) rfl (fun K' hK => ?_) (AllReadyH.cons (o := ⟨_, _, _, _, _, _⟩) rfl (fun K' hK => ?_) (AllReadyH.nil))
        · have q := HCB.out d2 HE.out
          go_simp
          go_at_call 12
          refine q.mono ?_
          clear q
          rintro e d3 ⟨hE, u9, rfl, hO⟩
          have HOB := Lib.hid (hO.low HE.out.size)
          obtain ⟨fA, fc, sA, sc, uA, uc, rfl, -⟩ := hO
          have HE' := Lib.hid (HE.out.trans hE)
          have HX' := Lib.hid (HX.out.ext hE)
          have HY' := Lib.hid (HY.out.ext hE)
          have HQ' := Lib.hid (HQ.out.ext hE)
          have HOA' := Lib.hid (HOA.out.ext hE)
          refine hK.out _ _ (show _ ∧ _ from ⟨hHeld.1.ext hE, hHeld.2.ext hE⟩) (fun hHeld => ?_)
          clear hK K' hE
          try simp only [Act.put, List.setIfInBounds_toArray, List.set_cons_zero, List.set_cons_succ]
          clear HE
          have HE := HE'
          clear HE'
          clear HX
          have HX := HX'
          clear HX'
          clear HY
          have HY := HY'
          clear HY'
          clear HQ
          have HQ := HQ'
          clear HQ'
          clear HOA
          have HOA := HOA'
          clear HOA'
          refine wpAnyH_ready (rs := [4]) (by kernel_rfl) (by simp) ?_
          refine AllReadyH.cons (o := ⟨_, _, _, _, _, _⟩) rfl (fun K' hK => ?_) (AllReadyH.nil)
          obtain ⟨d4, hw⟩ : ∃ W, d3.alloc (.cells #[.int .u8 0, .slice none 0 0, .int .i64 0, .slice none 0 0, .int .u64 0, .bool false, .string ⟨#[]⟩, .string ⟨#[]⟩, .string ⟨#[]⟩, .bool false, .slice none 0 0] 26) = W := ⟨_, rfl⟩
          obtain ⟨P, hZ⟩ : ∃ g, d3.heap.size = g := ⟨_, rfl⟩
          have hE : Ext d3 d4 := by rw [← hw]; exact (Ext.refl _).alloc _
          have HP := Lib.hid (show NBox d4 P 26 #[.int .u8 0, .slice none 0 0, .int .i64 0, .slice none 0 0, .int .u64 0, .bool false, .string ⟨#[]⟩, .string ⟨#[]⟩, .string ⟨#[]⟩, .bool false, .slice none 0 0] from by rw [← hw, ← hZ]; exact NBox.new _ _ _)
          have HNP := Lib.hid (show w.heap.size ≤ P ∧ X ≠ P ∧ Y ≠ P ∧ Q ≠ P from ⟨by rw [← hZ]; exact HE.out.size, by rw [← hZ]; exact Nat.ne_of_lt HX.out.lt, by rw [← hZ]; exact Nat.ne_of_lt HY.out.lt, by rw [← hZ]; exact Nat.ne_of_lt HQ.out.lt⟩)
          have HW := Lib.hid hw
          have HZZ := Lib.hid hZ
          clear hw hZ
          go_simp
          rw [HW.out, HZZ.out]
          have HE' := Lib.hid (HE.out.trans hE)
          have HX' := Lib.hid (HX.out.ext hE)
          have HY' := Lib.hid (HY.out.ext hE)
          have HQ' := Lib.hid (HQ.out.ext hE)
          have HOA' := Lib.hid (HOA.out.ext hE)
          have HOB' := Lib.hid (HOB.out.ext hE)
          refine hK.out _ _ (show _ ∧ _ from ⟨hHeld.1.ext hE, hHeld.2.ext hE⟩) (fun hHeld => ?_)
          clear hK K' hE HW HZZ
          try simp only [Act.put, List.setIfInBounds_toArray, List.set_cons_zero, List.set_cons_succ]
          clear HE
          have HE := HE'
          clear HE'
          clear HX
          have HX := HX'
          clear HX'
          clear HY
          have HY := HY'
          clear HY'
          clear HQ
          have HQ := HQ'
          clear HQ'
          clear HOA
          have HOA := HOA'
          clear HOA'
          clear HOB
          have HOB := HOB'
          clear HOB'
          have y0 := HP.out.cell 0
          have z0 := HP.out.frozen 0
          have y1 := HP.out.cell 1
          have z1 := HP.out.frozen 1
          have y2 := HP.out.cell 2
          have z2 := HP.out.frozen 2
          have y3 := HP.out.cell 3
          have z3 := HP.out.frozen 3
          have y4 := HP.out.cell 4
          have z4 := HP.out.frozen 4
          have y5 := HP.out.cell 5
          have z5 := HP.out.frozen 5
          have y6 := HP.out.cell 6
          have z6 := HP.out.frozen 6
          have y7 := HP.out.cell 7
          have z7 := HP.out.frozen 7
          have y8 := HP.out.cell 8
          have z8 := HP.out.frozen 8
          have y9 := HP.out.cell 9
          have z9 := HP.out.frozen 9
          have y10 := HP.out.cell 10
          have z10 := HP.out.frozen 10
          obtain ⟨x6, hw⟩ : ∃ W, (World.setCell (World.setCell (World.setCell (World.setCell (World.setCell (World.setCell (World.setCell (World.setCell (World.setCell (World.setCell (World.setCell d4 ⟨P, 0, none⟩ (.int .u8 ab.kind)) ⟨P, 1, none⟩ (.slice aA ab.path.length ac)) ⟨P, 2, none⟩ (.int .i64 ab.at_)) ⟨P, 3, none⟩ (.slice bA ab.to.length bc)) ⟨P, 4, none⟩ (.int .u64 ab.id)) ⟨P, 5, none⟩ (.bool ab.leaf)) ⟨P, 6, none⟩ (.string ab.label)) ⟨P, 7, none⟩ (.string ab.key)) ⟨P, 8, none⟩ (.string ab.value)) ⟨P, 9, none⟩ (.bool ab.gone)) ⟨P, 10, none⟩ (.slice eA ab.pcs.length ec)) = W := ⟨_, rfl⟩
          have F : Fr d4 x6 (fun k => k = P) := by rw [← hw]; exact Fr.s11 _ _ _ _ _ _ _ _ _ _ _ _ _
          have HP' := Lib.hid (show NBox x6 P 26 #[.int .u8 ab.kind, .slice aA ab.path.length ac, .int .i64 ab.at_, .slice bA ab.to.length bc, .int .u64 ab.id, .bool ab.leaf, .string ab.label, .string ab.key, .string ab.value, .bool ab.gone, .slice eA ab.pcs.length ec] from by rw [← hw]; exact HP.out.s11 _ _ _ _ _ _ _ _ _ _ _)
          have HOA' := Lib.hid (HOA.out.fr F HP.out (by decide) (by decide))
          have HOB' := Lib.hid (HOB.out.fr F HP.out (by decide) (by decide))
          have HE' := Lib.hid (Fr.ext HE.out F (fun q hq => by rw [show q = P from hq]; exact HNP.out.1))
          have HX' := Lib.hid (HX.out.fr F HNP.out.2.1)
          have HY' := Lib.hid (HY.out.fr F HNP.out.2.2.1)
          have HQ' := Lib.hid (HQ.out.fr F (fun e => HNP.out.2.2.2 e))
          have HW := Lib.hid hw
          clear hw F
          refine wpAnyH_ready (rs := [6]) (by kernel_rfl) (by simp) ?_
          refine AllReadyH.cons (o := ⟨_, _, _, _, _, _⟩) rfl (fun K' hK => ?_) (AllReadyH.nil)
          go_simp
          rw [HW.out]
          refine hK.out _ _ (show _ ∧ _ from ⟨HX'.out, HY'.out⟩) (fun hHeld => ?_)
          clear hK K' HW y0 z0 y1 z1 y2 z2 y3 z3 y4 z4 y5 z5 y6 z6 y7 z7 y8 z8 y9 z9 y10 z10
          try simp only [Act.put, List.setIfInBounds_toArray, List.set_cons_zero, List.set_cons_succ]
          clear HP
          have HP := HP'
          clear HP'
          clear HQ
          have HQ := HQ'
          clear HQ'
          clear HOA
          have HOA := HOA'
          clear HOA'
          clear HOB
          have HOB := HOB'
          clear HOB'
          clear HE
          have HE := HE'
          clear HE'
          clear HX
          have HX := HX'
          clear HX'
          clear HY
          have HY := HY'
          clear HY'
          have y0 := HQ.out.cell 0
          have z0 := HQ.out.frozen 0
          have y1 := HQ.out.cell 1
          have z1 := HQ.out.frozen 1
          have y2 := HQ.out.cell 2
          have z2 := HQ.out.frozen 2
          have y3 := HQ.out.cell 3
          have z3 := HQ.out.frozen 3
          have y4 := HQ.out.cell 4
          have z4 := HQ.out.frozen 4
          have y5 := HQ.out.cell 5
          have z5 := HQ.out.frozen 5
          have y6 := HQ.out.cell 6
          have z6 := HQ.out.frozen 6
          have y7 := HQ.out.cell 7
          have z7 := HQ.out.frozen 7
          have y8 := HQ.out.cell 8
          have z8 := HQ.out.frozen 8
          have y9 := HQ.out.cell 9
          have z9 := HQ.out.frozen 9
          have y10 := HQ.out.cell 10
          have z10 := HQ.out.frozen 10
          obtain ⟨x7, hw⟩ : ∃ W, (World.setCell (World.setCell (World.setCell (World.setCell (World.setCell (World.setCell (World.setCell (World.setCell (World.setCell (World.setCell (World.setCell x6 ⟨Q, 0, none⟩ (.int .u8 bb.kind)) ⟨Q, 1, none⟩ (.slice fA bb.path.length fc)) ⟨Q, 2, none⟩ (.int .i64 bb.at_)) ⟨Q, 3, none⟩ (.slice sA bb.to.length sc)) ⟨Q, 4, none⟩ (.int .u64 bb.id)) ⟨Q, 5, none⟩ (.bool bb.leaf)) ⟨Q, 6, none⟩ (.string bb.label)) ⟨Q, 7, none⟩ (.string bb.key)) ⟨Q, 8, none⟩ (.string bb.value)) ⟨Q, 9, none⟩ (.bool bb.gone)) ⟨Q, 10, none⟩ (.slice uA bb.pcs.length uc)) = W := ⟨_, rfl⟩
          have F : Fr x6 x7 (fun k => k = Q) := by rw [← hw]; exact Fr.s11 _ _ _ _ _ _ _ _ _ _ _ _ _
          have HQ' := Lib.hid (show NBox x7 Q 26 #[.int .u8 bb.kind, .slice fA bb.path.length fc, .int .i64 bb.at_, .slice sA bb.to.length sc, .int .u64 bb.id, .bool bb.leaf, .string bb.label, .string bb.key, .string bb.value, .bool bb.gone, .slice uA bb.pcs.length uc] from by rw [← hw]; exact HQ.out.s11 _ _ _ _ _ _ _ _ _ _ _)
          have HOA' := Lib.hid (HOA.out.fr F HQ.out (by decide) (by decide))
          have HOB' := Lib.hid (HOB.out.fr F HQ.out (by decide) (by decide))
          have HE' := Lib.hid (Fr.ext HE.out F (fun q hq => by rw [show q = Q from hq]; exact HNQ.out.1))
          have HX' := Lib.hid (HX.out.fr F HNQ.out.2.1)
          have HY' := Lib.hid (HY.out.fr F HNQ.out.2.2)
          have HP' := Lib.hid (HP.out.fr F (fun e => HNP.out.2.2.2 e.symm))
          have HW := Lib.hid hw
          clear hw F
          refine wpAnyH_ready (rs := [7]) (by kernel_rfl) (by simp) ?_
          refine AllReadyH.cons (o := ⟨_, _, _, _, _, _⟩) rfl (fun K' hK => ?_) (AllReadyH.nil)
          go_simp
          rw [HW.out]
          refine hK.out _ _ (show _ ∧ _ from ⟨HX'.out, HY'.out⟩) (fun hHeld => ?_)
          clear hK K' HW y0 z0 y1 z1 y2 z2 y3 z3 y4 z4 y5 z5 y6 z6 y7 z7 y8 z8 y9 z9 y10 z10
          try simp only [Act.put, List.setIfInBounds_toArray, List.set_cons_zero, List.set_cons_succ]
          clear HP
          have HP := HP'
          clear HP'
          clear HQ
          have HQ := HQ'
          clear HQ'
          clear HOA
          have HOA := HOA'
          clear HOA'
          clear HOB
          have HOB := HOB'
          clear HOB'
          clear HE
          have HE := HE'
          clear HE'
          clear HX
          have HX := HX'
          clear HX'
          clear HY
          have HY := HY'
          clear HY'
          refine wpAnyH_done (by kernel_rfl) ?_ _
          clear hHeld
          go_wp2_with fail
          go_meet
          case rel => exact ⟨P, Q, _, _, _, _, _, _, _, _, _, _, _, _, rfl, rfl, HE, HX, HY, HP, HQ, HOA, HOB⟩
        · obtain ⟨d3, hw⟩ : ∃ W, d2.alloc (.cells #[.int .u8 0, .slice none 0 0, .int .i64 0, .slice none 0 0, .int .u64 0, .bool false, .string ⟨#[]⟩, .string ⟨#[]⟩, .string ⟨#[]⟩, .bool false, .slice none 0 0] 26) = W := ⟨_, rfl⟩
          obtain ⟨P, hZ⟩ : ∃ g, d2.heap.size = g := ⟨_, rfl⟩
          have hE : Ext d2 d3 := by rw [← hw]; exact (Ext.refl _).alloc _
          have HP := Lib.hid (show NBox d3 P 26 #[.int .u8 0, .slice none 0 0, .int .i64 0, .slice none 0 0, .int .u64 0, .bool false, .string ⟨#[]⟩, .string ⟨#[]⟩, .string ⟨#[]⟩, .bool false, .slice none 0 0] from by rw [← hw, ← hZ]; exact NBox.new _ _ _)
          have HNP := Lib.hid (show w.heap.size ≤ P ∧ X ≠ P ∧ Y ≠ P ∧ Q ≠ P from ⟨by rw [← hZ]; exact HE.out.size, by rw [← hZ]; exact Nat.ne_of_lt HX.out.lt, by rw [← hZ]; exact Nat.ne_of_lt HY.out.lt, by rw [← hZ]; exact Nat.ne_of_lt HQ.out.lt⟩)
          have HW := Lib.hid hw
          have HZZ := Lib.hid hZ
          clear hw hZ
          go_simp
          rw [HW.out, HZZ.out]
          have HE' := Lib.hid (HE.out.trans hE)
          have HX' := Lib.hid (HX.out.ext hE)
          have HY' := Lib.hid (HY.out.ext hE)
          have HQ' := Lib.hid (HQ.out.ext hE)
          have HOA' := Lib.hid (HOA.out.ext hE)
          refine hK.out _ _ (show _ ∧ _ from ⟨hHeld.1.ext hE, hHeld.2.ext hE⟩) (fun hHeld => ?_)
          clear hK K' hE HW HZZ
          try simp only [Act.put, List.setIfInBounds_toArray, List.set_cons_zero, List.set_cons_succ]
          clear HE
          have HE := HE'
          clear HE'
          clear HX
          have HX := HX'
          clear HX'
          clear HY
          have HY := HY'
          clear HY'
          clear HQ
          have HQ := HQ'
          clear HQ'
          clear HOA
          have HOA := HOA'
          clear HOA'
          refine wpAnyH_ready (rs := [3]) (by kernel_rfl) (by simp) ?_
          refine AllReadyH.cons (o := ⟨_, _, _, _, _, _⟩) rfl (fun K' hK => ?_) (AllReadyH.nil)
          have q := HCB.out d3 HE.out
          go_simp
          go_at_call 12
          refine q.mono ?_
          clear q
          rintro e d4 ⟨hE, u9, rfl, hO⟩
          have HOB := Lib.hid (hO.low HE.out.size)
          obtain ⟨fA, fc, sA, sc, uA, uc, rfl, -⟩ := hO
          have HE' := Lib.hid (HE.out.trans hE)
          have HX' := Lib.hid (HX.out.ext hE)
          have HY' := Lib.hid (HY.out.ext hE)
          have HQ' := Lib.hid (HQ.out.ext hE)
          have HOA' := Lib.hid (HOA.out.ext hE)
          have HP' := Lib.hid (HP.out.ext hE)
          refine hK.out _ _ (show _ ∧ _ from ⟨hHeld.1.ext hE, hHeld.2.ext hE⟩) (fun hHeld => ?_)
          clear hK K' hE
          try simp only [Act.put, List.setIfInBounds_toArray, List.set_cons_zero, List.set_cons_succ]
          clear HE
          have HE := HE'
          clear HE'
          clear HX
          have HX := HX'
          clear HX'
          clear HY
          have HY := HY'
          clear HY'
          clear HQ
          have HQ := HQ'
          clear HQ'
          clear HOA
          have HOA := HOA'
          clear HOA'
          clear HP
          have HP := HP'
          clear HP'
          have y0 := HP.out.cell 0
          have z0 := HP.out.frozen 0
          have y1 := HP.out.cell 1
          have z1 := HP.out.frozen 1
          have y2 := HP.out.cell 2
          have z2 := HP.out.frozen 2
          have y3 := HP.out.cell 3
          have z3 := HP.out.frozen 3
          have y4 := HP.out.cell 4
          have z4 := HP.out.frozen 4
          have y5 := HP.out.cell 5
          have z5 := HP.out.frozen 5
          have y6 := HP.out.cell 6
          have z6 := HP.out.frozen 6
          have y7 := HP.out.cell 7
          have z7 := HP.out.frozen 7
          have y8 := HP.out.cell 8
          have z8 := HP.out.frozen 8
          have y9 := HP.out.cell 9
          have z9 := HP.out.frozen 9
          have y10 := HP.out.cell 10
          have z10 := HP.out.frozen 10
          obtain ⟨x6, hw⟩ : ∃ W, (World.setCell (World.setCell (World.setCell (World.setCell (World.setCell (World.setCell (World.setCell (World.setCell (World.setCell (World.setCell (World.setCell d4 ⟨P, 0, none⟩ (.int .u8 ab.kind)) ⟨P, 1, none⟩ (.slice aA ab.path.length ac)) ⟨P, 2, none⟩ (.int .i64 ab.at_)) ⟨P, 3, none⟩ (.slice bA ab.to.length bc)) ⟨P, 4, none⟩ (.int .u64 ab.id)) ⟨P, 5, none⟩ (.bool ab.leaf)) ⟨P, 6, none⟩ (.string ab.label)) ⟨P, 7, none⟩ (.string ab.key)) ⟨P, 8, none⟩ (.string ab.value)) ⟨P, 9, none⟩ (.bool ab.gone)) ⟨P, 10, none⟩ (.slice eA ab.pcs.length ec)) = W := ⟨_, rfl⟩
          have F : Fr d4 x6 (fun k => k = P) := by rw [← hw]; exact Fr.s11 _ _ _ _ _ _ _ _ _ _ _ _ _
          have HP' := Lib.hid (show NBox x6 P 26 #[.int .u8 ab.kind, .slice aA ab.path.length ac, .int .i64 ab.at_, .slice bA ab.to.length bc, .int .u64 ab.id, .bool ab.leaf, .string ab.label, .string ab.key, .string ab.value, .bool ab.gone, .slice eA ab.pcs.length ec] from by rw [← hw]; exact HP.out.s11 _ _ _ _ _ _ _ _ _ _ _)
          have HOA' := Lib.hid (HOA.out.fr F HP.out (by decide) (by decide))
          have HOB' := Lib.hid (HOB.out.fr F HP.out (by decide) (by decide))
          have HE' := Lib.hid (Fr.ext HE.out F (fun q hq => by rw [show q = P from hq]; exact HNP.out.1))
          have HX' := Lib.hid (HX.out.fr F HNP.out.2.1)
          have HY' := Lib.hid (HY.out.fr F HNP.out.2.2.1)
          have HQ' := Lib.hid (HQ.out.fr F (fun e => HNP.out.2.2.2 e))
          have HW := Lib.hid hw
          clear hw F
          refine wpAnyH_ready (rs := [6]) (by kernel_rfl) (by simp) ?_
          refine AllReadyH.cons (o := ⟨_, _, _, _, _, _⟩) rfl (fun K' hK => ?_) (AllReadyH.nil)
          go_simp
          rw [HW.out]
          refine hK.out _ _ (show _ ∧ _ from ⟨HX'.out, HY'.out⟩) (fun hHeld => ?_)
          clear hK K' HW y0 z0 y1 z1 y2 z2 y3 z3 y4 z4 y5 z5 y6 z6 y7 z7 y8 z8 y9 z9 y10 z10
          try simp only [Act.put, List.setIfInBounds_toArray, List.set_cons_zero, List.set_cons_succ]
          clear HP
          have HP := HP'
          clear HP'
          clear HQ
          have HQ := HQ'
          clear HQ'
          clear HOA
          have HOA := HOA'
          clear HOA'
          clear HOB
          have HOB := HOB'
          clear HOB'
          clear HE
          have HE := HE'
          clear HE'
          clear HX
          have HX := HX'
          clear HX'
          clear HY
          have HY := HY'
          clear HY'
          have y0 := HQ.out.cell 0
          have z0 := HQ.out.frozen 0
          have y1 := HQ.out.cell 1
          have z1 := HQ.out.frozen 1
          have y2 := HQ.out.cell 2
          have z2 := HQ.out.frozen 2
          have y3 := HQ.out.cell 3
          have z3 := HQ.out.frozen 3
          have y4 := HQ.out.cell 4
          have z4 := HQ.out.frozen 4
          have y5 := HQ.out.cell 5
          have z5 := HQ.out.frozen 5
          have y6 := HQ.out.cell 6
          have z6 := HQ.out.frozen 6
          have y7 := HQ.out.cell 7
          have z7 := HQ.out.frozen 7
          have y8 := HQ.out.cell 8
          have z8 := HQ.out.frozen 8
          have y9 := HQ.out.cell 9
          have z9 := HQ.out.frozen 9
          have y10 := HQ.out.cell 10
          have z10 := HQ.out.frozen 10
          obtain ⟨x7, hw⟩ : ∃ W, (World.setCell (World.setCell (World.setCell (World.setCell (World.setCell (World.setCell (World.setCell (World.setCell (World.setCell (World.setCell (World.setCell x6 ⟨Q, 0, none⟩ (.int .u8 bb.kind)) ⟨Q, 1, none⟩ (.slice fA bb.path.length fc)) ⟨Q, 2, none⟩ (.int .i64 bb.at_)) ⟨Q, 3, none⟩ (.slice sA bb.to.length sc)) ⟨Q, 4, none⟩ (.int .u64 bb.id)) ⟨Q, 5, none⟩ (.bool bb.leaf)) ⟨Q, 6, none⟩ (.string bb.label)) ⟨Q, 7, none⟩ (.string bb.key)) ⟨Q, 8, none⟩ (.string bb.value)) ⟨Q, 9, none⟩ (.bool bb.gone)) ⟨Q, 10, none⟩ (.slice uA bb.pcs.length uc)) = W := ⟨_, rfl⟩
          have F : Fr x6 x7 (fun k => k = Q) := by rw [← hw]; exact Fr.s11 _ _ _ _ _ _ _ _ _ _ _ _ _
          have HQ' := Lib.hid (show NBox x7 Q 26 #[.int .u8 bb.kind, .slice fA bb.path.length fc, .int .i64 bb.at_, .slice sA bb.to.length sc, .int .u64 bb.id, .bool bb.leaf, .string bb.label, .string bb.key, .string bb.value, .bool bb.gone, .slice uA bb.pcs.length uc] from by rw [← hw]; exact HQ.out.s11 _ _ _ _ _ _ _ _ _ _ _)
          have HOA' := Lib.hid (HOA.out.fr F HQ.out (by decide) (by decide))
          have HOB' := Lib.hid (HOB.out.fr F HQ.out (by decide) (by decide))
          have HE' := Lib.hid (Fr.ext HE.out F (fun q hq => by rw [show q = Q from hq]; exact HNQ.out.1))
          have HX' := Lib.hid (HX.out.fr F HNQ.out.2.1)
          have HY' := Lib.hid (HY.out.fr F HNQ.out.2.2)
          have HP' := Lib.hid (HP.out.fr F (fun e => HNP.out.2.2.2 e.symm))
          have HW := Lib.hid hw
          clear hw F
          refine wpAnyH_ready (rs := [7]) (by kernel_rfl) (by simp) ?_
          refine AllReadyH.cons (o := ⟨_, _, _, _, _, _⟩) rfl (fun K' hK => ?_) (AllReadyH.nil)
          go_simp
          rw [HW.out]
          refine hK.out _ _ (show _ ∧ _ from ⟨HX'.out, HY'.out⟩) (fun hHeld => ?_)
          clear hK K' HW y0 z0 y1 z1 y2 z2 y3 z3 y4 z4 y5 z5 y6 z6 y7 z7 y8 z8 y9 z9 y10 z10
          try simp only [Act.put, List.setIfInBounds_toArray, List.set_cons_zero, List.set_cons_succ]
          clear HP
          have HP := HP'
          clear HP'
          clear HQ
          have HQ := HQ'
          clear HQ'
          clear HOA
          have HOA := HOA'
          clear HOA'
          clear HOB
          have HOB := HOB'
          clear HOB'
          clear HE
          have HE := HE'
          clear HE'
          clear HX
          have HX := HX'
          clear HX'
          clear HY
          have HY := HY'
          clear HY'
          refine wpAnyH_done (by kernel_rfl) ?_ _
          clear hHeld
          go_wp2_with fail
          go_meet
          case rel => exact ⟨P, Q, _, _, _, _, _, _, _, _, _, _, _, _, rfl, rfl, HE, HX, HY, HP, HQ, HOA, HOB⟩
      · obtain ⟨d2, hw⟩ : ∃ W, d1.alloc (.cells #[.int .u8 0, .slice none 0 0, .int .i64 0, .slice none 0 0, .int .u64 0, .bool false, .string ⟨#[]⟩, .string ⟨#[]⟩, .string ⟨#[]⟩, .bool false, .slice none 0 0] 26) = W := ⟨_, rfl⟩
        obtain ⟨P, hZ⟩ : ∃ g, d1.heap.size = g := ⟨_, rfl⟩
        have hE : Ext d1 d2 := by rw [← hw]; exact (Ext.refl _).alloc _
        have HP := Lib.hid (show NBox d2 P 26 #[.int .u8 0, .slice none 0 0, .int .i64 0, .slice none 0 0, .int .u64 0, .bool false, .string ⟨#[]⟩, .string ⟨#[]⟩, .string ⟨#[]⟩, .bool false, .slice none 0 0] from by rw [← hw, ← hZ]; exact NBox.new _ _ _)
        have HNP := Lib.hid (show w.heap.size ≤ P ∧ X ≠ P ∧ Y ≠ P ∧ Q ≠ P from ⟨by rw [← hZ]; exact HE.out.size, by rw [← hZ]; exact Nat.ne_of_lt HX.out.lt, by rw [← hZ]; exact Nat.ne_of_lt HY.out.lt, by rw [← hZ]; exact Nat.ne_of_lt HQ.out.lt⟩)
        have HW := Lib.hid hw
        have HZZ := Lib.hid hZ
        clear hw hZ
        go_simp
        rw [HW.out, HZZ.out]
        have HE' := Lib.hid (HE.out.trans hE)
        have HX' := Lib.hid (HX.out.ext hE)
        have HY' := Lib.hid (HY.out.ext hE)
        have HQ' := Lib.hid (HQ.out.ext hE)
        refine hK.out _ _ (show _ ∧ _ from ⟨hHeld.1.ext hE, hHeld.2.ext hE⟩) (fun hHeld => ?_)
        clear hK K' hE HW HZZ
        try simp only [Act.put, List.setIfInBounds_toArray, List.set_cons_zero, List.set_cons_succ]
        clear HE
        have HE := HE'
        clear HE'
        clear HX
        have HX := HX'
        clear HX'
        clear HY
        have HY := HY'
        clear HY'
        clear HQ
        have HQ := HQ'
        clear HQ'
        refine wpAnyH_ready (rs := [1]) (by kernel_rfl) (by simp) ?_
        refine AllReadyH.cons (o := ⟨_, _, _, _, _, _⟩) rfl (fun K' hK => ?_) (AllReadyH.nil)
        have q := HCA.out d2 HE.out
        go_simp
        go_at_call 12
        refine q.mono ?_
        clear q
        rintro e d3 ⟨hE, u9, rfl, hO⟩
        have HOA := Lib.hid (hO.low HE.out.size)
        obtain ⟨aA, ac, bA, bc, eA, ec, rfl, -⟩ := hO
        have HE' := Lib.hid (HE.out.trans hE)
        have HX' := Lib.hid (HX.out.ext hE)
        have HY' := Lib.hid (HY.out.ext hE)
        have HQ' := Lib.hid (HQ.out.ext hE)
        have HP' := Lib.hid (HP.out.ext hE)
        refine hK.out _ _ (show _ ∧ _ from ⟨hHeld.1.ext hE, hHeld.2.ext hE⟩) (fun hHeld => ?_)
        clear hK K' hE
        try simp only [Act.put, List.setIfInBounds_toArray, List.set_cons_zero, List.set_cons_succ]
        clear HE
        have HE := HE'
        clear HE'
        clear HX
        have HX := HX'
        clear HX'
        clear HY
        have HY := HY'
        clear HY'
        clear HQ
        have HQ := HQ'
        clear HQ'
        clear HP
        have HP := HP'
        clear HP'
        refine wpAnyH_ready (rs := [3]) (by kernel_rfl) (by simp) ?_
        refine AllReadyH.cons (o := ⟨_, _, _, _, _, _⟩) rfl (fun K' hK => ?_) (AllReadyH.nil)
        have q := HCB.out d3 HE.out
        go_simp
        go_at_call 12
        refine q.mono ?_
        clear q
        rintro e d4 ⟨hE, u9, rfl, hO⟩
        have HOB := Lib.hid (hO.low HE.out.size)
        obtain ⟨fA, fc, sA, sc, uA, uc, rfl, -⟩ := hO
        have HE' := Lib.hid (HE.out.trans hE)
        have HX' := Lib.hid (HX.out.ext hE)
        have HY' := Lib.hid (HY.out.ext hE)
        have HQ' := Lib.hid (HQ.out.ext hE)
        have HP' := Lib.hid (HP.out.ext hE)
        have HOA' := Lib.hid (HOA.out.ext hE)
        refine hK.out _ _ (show _ ∧ _ from ⟨hHeld.1.ext hE, hHeld.2.ext hE⟩) (fun hHeld => ?_)
        clear hK K' hE
        try simp only [Act.put, List.setIfInBounds_toArray, List.set_cons_zero, List.set_cons_succ]
        clear HE
        have HE := HE'
        clear HE'
        clear HX
        have HX := HX'
        clear HX'
        clear HY
        have HY := HY'
        clear HY'
        clear HQ
        have HQ := HQ'
        clear HQ'
        clear HP
        have HP := HP'
        clear HP'
        clear HOA
        have HOA := HOA'
        clear HOA'
        have y0 := HP.out.cell 0
        have z0 := HP.out.frozen 0
        have y1 := HP.out.cell 1
        have z1 := HP.out.frozen 1
        have y2 := HP.out.cell 2
        have z2 := HP.out.frozen 2
        have y3 := HP.out.cell 3
        have z3 := HP.out.frozen 3
        have y4 := HP.out.cell 4
        have z4 := HP.out.frozen 4
        have y5 := HP.out.cell 5
        have z5 := HP.out.frozen 5
        have y6 := HP.out.cell 6
        have z6 := HP.out.frozen 6
        have y7 := HP.out.cell 7
        have z7 := HP.out.frozen 7
        have y8 := HP.out.cell 8
        have z8 := HP.out.frozen 8
        have y9 := HP.out.cell 9
        have z9 := HP.out.frozen 9
        have y10 := HP.out.cell 10
        have z10 := HP.out.frozen 10
        obtain ⟨x6, hw⟩ : ∃ W, (World.setCell (World.setCell (World.setCell (World.setCell (World.setCell (World.setCell (World.setCell (World.setCell (World.setCell (World.setCell (World.setCell d4 ⟨P, 0, none⟩ (.int .u8 ab.kind)) ⟨P, 1, none⟩ (.slice aA ab.path.length ac)) ⟨P, 2, none⟩ (.int .i64 ab.at_)) ⟨P, 3, none⟩ (.slice bA ab.to.length bc)) ⟨P, 4, none⟩ (.int .u64 ab.id)) ⟨P, 5, none⟩ (.bool ab.leaf)) ⟨P, 6, none⟩ (.string ab.label)) ⟨P, 7, none⟩ (.string ab.key)) ⟨P, 8, none⟩ (.string ab.value)) ⟨P, 9, none⟩ (.bool ab.gone)) ⟨P, 10, none⟩ (.slice eA ab.pcs.length ec)) = W := ⟨_, rfl⟩
        have F : Fr d4 x6 (fun k => k = P) := by rw [← hw]; exact Fr.s11 _ _ _ _ _ _ _ _ _ _ _ _ _
        have HP' := Lib.hid (show NBox x6 P 26 #[.int .u8 ab.kind, .slice aA ab.path.length ac, .int .i64 ab.at_, .slice bA ab.to.length bc, .int .u64 ab.id, .bool ab.leaf, .string ab.label, .string ab.key, .string ab.value, .bool ab.gone, .slice eA ab.pcs.length ec] from by rw [← hw]; exact HP.out.s11 _ _ _ _ _ _ _ _ _ _ _)
        have HOA' := Lib.hid (HOA.out.fr F HP.out (by decide) (by decide))
        have HOB' := Lib.hid (HOB.out.fr F HP.out (by decide) (by decide))
        have HE' := Lib.hid (Fr.ext HE.out F (fun q hq => by rw [show q = P from hq]; exact HNP.out.1))
        have HX' := Lib.hid (HX.out.fr F HNP.out.2.1)
        have HY' := Lib.hid (HY.out.fr F HNP.out.2.2.1)
        have HQ' := Lib.hid (HQ.out.fr F (fun e => HNP.out.2.2.2 e))
        have HW := Lib.hid hw
        clear hw F
        refine wpAnyH_ready (rs := [6]) (by kernel_rfl) (by simp) ?_
        refine AllReadyH.cons (o := ⟨_, _, _, _, _, _⟩) rfl (fun K' hK => ?_) (AllReadyH.nil)
        go_simp
        rw [HW.out]
        refine hK.out _ _ (show _ ∧ _ from ⟨HX'.out, HY'.out⟩) (fun hHeld => ?_)
        clear hK K' HW y0 z0 y1 z1 y2 z2 y3 z3 y4 z4 y5 z5 y6 z6 y7 z7 y8 z8 y9 z9 y10 z10
        try simp only [Act.put, List.setIfInBounds_toArray, List.set_cons_zero, List.set_cons_succ]
        clear HP
        have HP := HP'
        clear HP'
        clear HQ
        have HQ := HQ'
        clear HQ'
        clear HOA
        have HOA := HOA'
        clear HOA'
        clear HOB
        have HOB := HOB'
        clear HOB'
        clear HE
        have HE := HE'
        clear HE'
        clear HX
        have HX := HX'
        clear HX'
        clear HY
        have HY := HY'
        clear HY'
        have y0 := HQ.out.cell 0
        have z0 := HQ.out.frozen 0
        have y1 := HQ.out.cell 1
        have z1 := HQ.out.frozen 1
        have y2 := HQ.out.cell 2
        have z2 := HQ.out.frozen 2
        have y3 := HQ.out.cell 3
        have z3 := HQ.out.frozen 3
        have y4 := HQ.out.cell 4
        have z4 := HQ.out.frozen 4
        have y5 := HQ.out.cell 5
        have z5 := HQ.out.frozen 5
        have y6 := HQ.out.cell 6
        have z6 := HQ.out.frozen 6
        have y7 := HQ.out.cell 7
        have z7 := HQ.out.frozen 7
        have y8 := HQ.out.cell 8
        have z8 := HQ.out.frozen 8
        have y9 := HQ.out.cell 9
        have z9 := HQ.out.frozen 9
        have y10 := HQ.out.cell 10
        have z10 := HQ.out.frozen 10
        obtain ⟨x7, hw⟩ : ∃ W, (World.setCell (World.setCell (World.setCell (World.setCell (World.setCell (World.setCell (World.setCell (World.setCell (World.setCell (World.setCell (World.setCell x6 ⟨Q, 0, none⟩ (.int .u8 bb.kind)) ⟨Q, 1, none⟩ (.slice fA bb.path.length fc)) ⟨Q, 2, none⟩ (.int .i64 bb.at_)) ⟨Q, 3, none⟩ (.slice sA bb.to.length sc)) ⟨Q, 4, none⟩ (.int .u64 bb.id)) ⟨Q, 5, none⟩ (.bool bb.leaf)) ⟨Q, 6, none⟩ (.string bb.label)) ⟨Q, 7, none⟩ (.string bb.key)) ⟨Q, 8, none⟩ (.string bb.value)) ⟨Q, 9, none⟩ (.bool bb.gone)) ⟨Q, 10, none⟩ (.slice uA bb.pcs.length uc)) = W := ⟨_, rfl⟩
        have F : Fr x6 x7 (fun k => k = Q) := by rw [← hw]; exact Fr.s11 _ _ _ _ _ _ _ _ _ _ _ _ _
        have HQ' := Lib.hid (show NBox x7 Q 26 #[.int .u8 bb.kind, .slice fA bb.path.length fc, .int .i64 bb.at_, .slice sA bb.to.length sc, .int .u64 bb.id, .bool bb.leaf, .string bb.label, .string bb.key, .string bb.value, .bool bb.gone, .slice uA bb.pcs.length uc] from by rw [← hw]; exact HQ.out.s11 _ _ _ _ _ _ _ _ _ _ _)
        have HOA' := Lib.hid (HOA.out.fr F HQ.out (by decide) (by decide))
        have HOB' := Lib.hid (HOB.out.fr F HQ.out (by decide) (by decide))
        have HE' := Lib.hid (Fr.ext HE.out F (fun q hq => by rw [show q = Q from hq]; exact HNQ.out.1))
        have HX' := Lib.hid (HX.out.fr F HNQ.out.2.1)
        have HY' := Lib.hid (HY.out.fr F HNQ.out.2.2)
        have HP' := Lib.hid (HP.out.fr F (fun e => HNP.out.2.2.2 e.symm))
        have HW := Lib.hid hw
        clear hw F
        refine wpAnyH_ready (rs := [7]) (by kernel_rfl) (by simp) ?_
        refine AllReadyH.cons (o := ⟨_, _, _, _, _, _⟩) rfl (fun K' hK => ?_) (AllReadyH.nil)
        go_simp
        rw [HW.out]
        refine hK.out _ _ (show _ ∧ _ from ⟨HX'.out, HY'.out⟩) (fun hHeld => ?_)
        clear hK K' HW y0 z0 y1 z1 y2 z2 y3 z3 y4 z4 y5 z5 y6 z6 y7 z7 y8 z8 y9 z9 y10 z10
        try simp only [Act.put, List.setIfInBounds_toArray, List.set_cons_zero, List.set_cons_succ]
        clear HP
        have HP := HP'
        clear HP'
        clear HQ
        have HQ := HQ'
        clear HQ'
        clear HOA
        have HOA := HOA'
        clear HOA'
        clear HOB
        have HOB := HOB'
        clear HOB'
        clear HE
        have HE := HE'
        clear HE'
        clear HX
        have HX := HX'
        clear HX'
        clear HY
        have HY := HY'
        clear HY'
        refine wpAnyH_done (by kernel_rfl) ?_ _
        clear hHeld
        go_wp2_with fail
        go_meet
        case rel => exact ⟨P, Q, _, _, _, _, _, _, _, _, _, _, _, _, rfl, rfl, HE, HX, HY, HP, HQ, HOA, HOB⟩
  case rest =>
  clear HE HX HY HCA HCB
  obtain ⟨P, Q, aA, ac, bA, bc, eA, ec, fA, fc, sA, sc, uA, uc, rfl, rfl, HE, HX, HY, HP, HQ, HOA, HOB⟩ := hcut
  obtain ⟨L, hL⟩ : ∃ L, wc.heap.size = L := ⟨_, rfl⟩
  have HE0 := HE
  have HX0 := HX
  have HY0 := HY
  have HP0 := HP
  have HQ0 := HQ
  have HOA0 := HOA
  have HOB0 := HOB
  have g0 := HP.out.cell 0
  have g1 := HP.out.cell 1
  have g2 := HP.out.cell 2
  have g3 := HP.out.cell 3
  have g4 := HP.out.cell 4
  have g5 := HP.out.cell 5
  have g6 := HP.out.cell 6
  have g7 := HP.out.cell 7
  have g8 := HP.out.cell 8
  have g9 := HP.out.cell 9
  have g10 := HP.out.cell 10
  have h0 := HQ.out.cell 0
  have h1 := HQ.out.cell 1
  have h2 := HQ.out.cell 2
  have h3 := HQ.out.cell 3
  have h4 := HQ.out.cell 4
  have h5 := HQ.out.cell 5
  have h6 := HQ.out.cell 6
  have h7 := HQ.out.cell 7
  have h8 := HQ.out.cell 8
  have h9 := HQ.out.cell 9
  have h10 := HQ.out.cell 10
  have hoka : OkLen ab := by have := bareD_len2 HLA.out.ok; rw [HAB.out] at this; exact this
  have hokb : OkLen bb := by have := bareD_len2 HLB.out.ok; rw [HBB.out] at this; exact this
  have q := pair13_own ab bb _ _ wc (HOA.out.rd HKA.out) (HOB.out.rd HKB.out) hoka hokb
  have HPB := Lib.hid (show pairD ab bb = pairD a b from by rw [← HAB.out, ← HBB.out]; exact pairD_bare a b)
  rw [HPB.out] at q
  have HPK := Lib.hid (fun l (h : pairD a b = some l) => (pairD_ok h HLA.out.ok HLB.out.ok).2)
  have HQR : Hid (∀ W, Ext w W → Calls Try.prog 14 #[.agg #[.int .u8 a.kind, .slice pA a.path.length pc, .int .i64 a.at_, .slice tA a.to.length tc, .int .u64 a.id, .bool a.leaf, .string a.label, .string a.key, .string a.value, .bool a.gone, .slice cA a.pcs.length cc], .agg #[.int .u8 b.kind, .slice qA b.path.length qc, .int .i64 b.at_, .slice rA b.to.length rc, .int .u64 b.id, .bool b.leaf, .string b.label, .string b.key, .string b.value, .bool b.gone, .slice dA b.pcs.length dc]] W (PrR W (pairD a b))) := Lib.hid (fun W X => pair14_any a b _ _ W (OpD.rd_ext X HU.out) (OpD.rd_ext X HV.out) HLA.out.ok HLB.out.ok (by have := HLA.out.sum; omega) (by have := HLB.out.sum; omega) (by have := HLA.out.pcs; omega) (by have := HLB.out.pcs; omega))
  obtain ⟨o, ho⟩ : ∃ o, pairD a b = o := ⟨_, rfl⟩
  rw [ho] at q HPK HQR
  have HHO := Lib.hid (show OkLen ab ∧ OkLen bb from ⟨hoka, hokb⟩)
  clear HPB ho hoka hokb
  go_wp2_with fail
  refine q.mono ?_
  clear q g0 g1 g2 g3 g4 g5 g6 g7 g8 g9 g10 h0 h1 h2 h3 h4 h5 h6 h7 h8 h9 h10
  rintro e w4 ⟨hE, hP1⟩
  have X4 := Lib.hid hE
  have HE' := Lib.hid (HE.out.trans hE)
  have HX' := Lib.hid (HX.out.ext hE)
  have HY' := Lib.hid (HY.out.ext hE)
  have HP' := Lib.hid (HP.out.ext hE)
  have HQ' := Lib.hid (HQ.out.ext hE)
  have HOA' := Lib.hid (HOA.out.ext hE)
  have HOB' := Lib.hid (HOB.out.ext hE)
  clear hE
  clear HE
  have HE := HE'
  clear HE'
  clear HX
  have HX := HX'
  clear HX'
  clear HY
  have HY := HY'
  clear HY'
  clear HP
  have HP := HP'
  clear HP'
  clear HQ
  have HQ := HQ'
  clear HQ'
  clear HOA
  have HOA := HOA'
  clear HOA'
  clear HOB
  have HOB := HOB'
  clear HOB'
  have g0 := HX.out.cell 0
  have g1 := HX.out.cell 1
  have g2 := HX.out.cell 2
  have g3 := HX.out.cell 3
  have g4 := HX.out.cell 4
  have g5 := HX.out.cell 5
  have g6 := HX.out.cell 6
  have g7 := HX.out.cell 7
  have g8 := HX.out.cell 8
  have g9 := HX.out.cell 9
  have g10 := HX.out.cell 10
  have h0 := HY.out.cell 0
  have h1 := HY.out.cell 1
  have h2 := HY.out.cell 2
  have h3 := HY.out.cell 3
  have h4 := HY.out.cell 4
  have h5 := HY.out.cell 5
  have h6 := HY.out.cell 6
  have h7 := HY.out.cell 7
  have h8 := HY.out.cell 8
  have h9 := HY.out.cell 9
  have h10 := HY.out.cell 10
  cases o with
  | none =>
    subst hP1
    have q := HQR.out w4 HE.out
    go_wp2_with fail
    refine q.mono ?_
    clear q g0 g1 g2 g3 g4 g5 g6 g7 g8 g9 g10 h0 h1 h2 h3 h4 h5 h6 h7 h8 h9 h10
    rintro e w5 ⟨hE, hP2⟩
    subst hP2
    have HE' := Lib.hid (HE.out.trans hE)
    have HX' := Lib.hid (HX.out.ext hE)
    have HY' := Lib.hid (HY.out.ext hE)
    have HP' := Lib.hid (HP.out.ext hE)
    have HQ' := Lib.hid (HQ.out.ext hE)
    have HOA' := Lib.hid (HOA.out.ext hE)
    have HOB' := Lib.hid (HOB.out.ext hE)
    clear hE
    clear HE
    have HE := HE'
    clear HE'
    clear HX
    have HX := HX'
    clear HX'
    clear HY
    have HY := HY'
    clear HY'
    clear HP
    have HP := HP'
    clear HP'
    clear HQ
    have HQ := HQ'
    clear HQ'
    clear HOA
    have HOA := HOA'
    clear HOA'
    clear HOB
    have HOB := HOB'
    clear HOB'
    have q := same15_ls [] _ _ w5 (lsV.rd (lsV.none_ 0 _)) (lsV.rd (lsV.none_ 0 _)) (fun o ho => absurd ho List.not_mem_nil)
    go_wp2_with fail
    refine q.mono ?_
    clear q
    rintro e w6 ⟨r, rfl, rfl, hE⟩
    have HE' := Lib.hid (HE.out.trans hE)
    have HX' := Lib.hid (HX.out.ext hE)
    have HY' := Lib.hid (HY.out.ext hE)
    have HP' := Lib.hid (HP.out.ext hE)
    have HQ' := Lib.hid (HQ.out.ext hE)
    have HOA' := Lib.hid (HOA.out.ext hE)
    have HOB' := Lib.hid (HOB.out.ext hE)
    clear hE
    clear HE
    have HE := HE'
    clear HE'
    clear HX
    have HX := HX'
    clear HX'
    clear HY
    have HY := HY'
    clear HY'
    clear HP
    have HP := HP'
    clear HP'
    clear HQ
    have HQ := HQ'
    clear HQ'
    clear HOA
    have HOA := HOA'
    clear HOA'
    clear HOB
    have HOB := HOB'
    clear HOB'
    go_wp2_with fail
    go_loopw [11] (fun s11 wr => s11 = .int .i64 0 ∧ wr = w6) (fun _ _ => 0)
    case atStart => exact ⟨rfl, rfl⟩
    case round =>
      obtain ⟨rfl, rfl⟩ := hrel
      go_upto_region 19 with fail
      have hE : Ext wr wr := Ext.refl _
      have HE' := Lib.hid (HE.out.trans hE)
      have HX' := Lib.hid (HX.out.ext hE)
      have HY' := Lib.hid (HY.out.ext hE)
      have HP' := Lib.hid (HP.out.ext hE)
      have HQ' := Lib.hid (HQ.out.ext hE)
      have HOA' := Lib.hid (HOA.out.ext hE)
      have HOB' := Lib.hid (HOB.out.ext hE)
      clear hE
      clear HE
      have HE := HE'
      clear HE'
      clear HX
      have HX := HX'
      clear HX'
      clear HY
      have HY := HY'
      clear HY'
      clear HP
      have HP := HP'
      clear HP'
      clear HQ
      have HQ := HQ'
      clear HQ'
      clear HOA
      have HOA := HOA'
      clear HOA'
      clear HOB
      have HOB := HOB'
      clear HOB'
      have g0 := HP.out.cell 0
      have g1 := HP.out.cell 1
      have g2 := HP.out.cell 2
      have g3 := HP.out.cell 3
      have g4 := HP.out.cell 4
      have g5 := HP.out.cell 5
      have g6 := HP.out.cell 6
      have g7 := HP.out.cell 7
      have g8 := HP.out.cell 8
      have g9 := HP.out.cell 9
      have g10 := HP.out.cell 10
      have h0 := HX.out.cell 0
      have h1 := HX.out.cell 1
      have h2 := HX.out.cell 2
      have h3 := HX.out.cell 3
      have h4 := HX.out.cell 4
      have h5 := HX.out.cell 5
      have h6 := HX.out.cell 6
      have h7 := HX.out.cell 7
      have h8 := HX.out.cell 8
      have h9 := HX.out.cell 9
      have h10 := HX.out.cell 10
      have q := same36_eq ab a _ _ wr (HOA.out.rd HKA.out) (OpD.rd_ext HE.out HU.out) (by rw [← HAB.out]; exact bareD_bare a) HHO.out.1 HLA.out.ok
      go_wp2_with fail
      refine q.mono ?_
      clear q g0 g1 g2 g3 g4 g5 g6 g7 g8 g9 g10 h0 h1 h2 h3 h4 h5 h6 h7 h8 h9 h10
      rintro e y1_ ⟨r, rfl, rfl, hE⟩
      have HE' := Lib.hid (HE.out.trans hE)
      have HX' := Lib.hid (HX.out.ext hE)
      have HY' := Lib.hid (HY.out.ext hE)
      have HP' := Lib.hid (HP.out.ext hE)
      have HQ' := Lib.hid (HQ.out.ext hE)
      have HOA' := Lib.hid (HOA.out.ext hE)
      have HOB' := Lib.hid (HOB.out.ext hE)
      clear hE
      clear HE
      have HE := HE'
      clear HE'
      clear HX
      have HX := HX'
      clear HX'
      clear HY
      have HY := HY'
      clear HY'
      clear HP
      have HP := HP'
      clear HP'
      clear HQ
      have HQ := HQ'
      clear HQ'
      clear HOA
      have HOA := HOA'
      clear HOA'
      clear HOB
      have HOB := HOB'
      clear HOB'
      have g0 := HQ.out.cell 0
      have g1 := HQ.out.cell 1
      have g2 := HQ.out.cell 2
      have g3 := HQ.out.cell 3
      have g4 := HQ.out.cell 4
      have g5 := HQ.out.cell 5
      have g6 := HQ.out.cell 6
      have g7 := HQ.out.cell 7
      have g8 := HQ.out.cell 8
      have g9 := HQ.out.cell 9
      have g10 := HQ.out.cell 10
      have h0 := HY.out.cell 0
      have h1 := HY.out.cell 1
      have h2 := HY.out.cell 2
      have h3 := HY.out.cell 3
      have h4 := HY.out.cell 4
      have h5 := HY.out.cell 5
      have h6 := HY.out.cell 6
      have h7 := HY.out.cell 7
      have h8 := HY.out.cell 8
      have h9 := HY.out.cell 9
      have h10 := HY.out.cell 10
      have q := same36_eq bb b _ _ y1_ (HOB.out.rd HKB.out) (OpD.rd_ext HE.out HV.out) (by rw [← HBB.out]; exact bareD_bare b) HHO.out.2 HLB.out.ok
      go_wp2_with fail
      refine q.mono ?_
      clear q g0 g1 g2 g3 g4 g5 g6 g7 g8 g9 g10 h0 h1 h2 h3 h4 h5 h6 h7 h8 h9 h10
      rintro e y2_ ⟨r, rfl, rfl, hE⟩
      have HE' := Lib.hid (HE.out.trans hE)
      clear hE HE
      have HE := HE'
      clear HE'
      go_wp2_with fail
      refine (works_any y2_).mono ?_
      rintro e u ⟨r, rfl, rfl, hE⟩
      go_wp2_with fail
      go_ret
      exact ret_bool (by rfl) (HE.out.trans hE)
  | some l =>
    obtain ⟨vx, rfl, hx⟩ := hP1
    have hlen := HPK.out l rfl
    have HLS := Lib.hid hx.ls
    have HXO := Lib.hid hx
    obtain ⟨xA, xc, rfl⟩ := lsV.slice hx.ls
    clear hx
    have q := HQR.out w4 HE.out
    go_wp2_with fail
    refine q.mono ?_
    clear q g0 g1 g2 g3 g4 g5 g6 g7 g8 g9 g10 h0 h1 h2 h3 h4 h5 h6 h7 h8 h9 h10
    rintro e w5 ⟨hE, hP2⟩
    obtain ⟨vy, rfl, hy⟩ := hP2
    have HYS := Lib.hid (lsV.rd hy)
    obtain ⟨yA, yc, rfl⟩ := lsV.slice hy
    have HLS2 := Lib.hid (lsV.rd (HLS.out.ext hE))
    have X5 := Lib.hid hE
    have HE' := Lib.hid (HE.out.trans hE)
    have HX' := Lib.hid (HX.out.ext hE)
    have HY' := Lib.hid (HY.out.ext hE)
    have HP' := Lib.hid (HP.out.ext hE)
    have HQ' := Lib.hid (HQ.out.ext hE)
    have HOA' := Lib.hid (HOA.out.ext hE)
    have HOB' := Lib.hid (HOB.out.ext hE)
    clear hE
    clear HE
    have HE := HE'
    clear HE'
    clear HX
    have HX := HX'
    clear HX'
    clear HY
    have HY := HY'
    clear HY'
    clear HP
    have HP := HP'
    clear HP'
    clear HQ
    have HQ := HQ'
    clear HQ'
    clear HOA
    have HOA := HOA'
    clear HOA'
    clear HOB
    have HOB := HOB'
    clear HOB'
    clear hy HLS
    have q := same15_ls l _ _ w5 (HLS2.out) (HYS.out) hlen
    go_wp2_with fail
    refine q.mono ?_
    clear q
    rintro e w6 ⟨r, rfl, rfl, hE⟩
    have X6 := Lib.hid (X5.out.trans hE)
    have HE' := Lib.hid (HE.out.trans hE)
    have HX' := Lib.hid (HX.out.ext hE)
    have HY' := Lib.hid (HY.out.ext hE)
    have HP' := Lib.hid (HP.out.ext hE)
    have HQ' := Lib.hid (HQ.out.ext hE)
    have HOA' := Lib.hid (HOA.out.ext hE)
    have HOB' := Lib.hid (HOB.out.ext hE)
    clear hE
    clear HE
    have HE := HE'
    clear HE'
    clear HX
    have HX := HX'
    clear HX'
    clear HY
    have HY := HY'
    clear HY'
    clear HP
    have HP := HP'
    clear HP'
    clear HQ
    have HQ := HQ'
    clear HQ'
    clear HOA
    have HOA := HOA'
    clear HOA'
    clear HOB
    have HOB := HOB'
    clear HOB'
    clear HLS2 HYS X5 HPK HQR
    have HLEN := Lib.hid hlen
    clear hlen
    rcases HXO.out with ⟨rfl, he⟩ | ⟨B, g, mA, mc, nA, nc, kA, kc, rfl, he, hgl, -, hbx, hob⟩
    · cases he
      clear HXO X6
      go_wp2_with fail
      go_loopw [11] (fun s11 wr => s11 = .int .i64 0 ∧ wr = w6) (fun _ _ => 0)
      case atStart => exact ⟨rfl, rfl⟩
      case round =>
        obtain ⟨rfl, rfl⟩ := hrel
        go_upto_region 19 with fail
        have hE : Ext wr wr := Ext.refl _
        have HE' := Lib.hid (HE.out.trans hE)
        have HX' := Lib.hid (HX.out.ext hE)
        have HY' := Lib.hid (HY.out.ext hE)
        have HP' := Lib.hid (HP.out.ext hE)
        have HQ' := Lib.hid (HQ.out.ext hE)
        have HOA' := Lib.hid (HOA.out.ext hE)
        have HOB' := Lib.hid (HOB.out.ext hE)
        clear hE
        clear HE
        have HE := HE'
        clear HE'
        clear HX
        have HX := HX'
        clear HX'
        clear HY
        have HY := HY'
        clear HY'
        clear HP
        have HP := HP'
        clear HP'
        clear HQ
        have HQ := HQ'
        clear HQ'
        clear HOA
        have HOA := HOA'
        clear HOA'
        clear HOB
        have HOB := HOB'
        clear HOB'
        have g0 := HP.out.cell 0
        have g1 := HP.out.cell 1
        have g2 := HP.out.cell 2
        have g3 := HP.out.cell 3
        have g4 := HP.out.cell 4
        have g5 := HP.out.cell 5
        have g6 := HP.out.cell 6
        have g7 := HP.out.cell 7
        have g8 := HP.out.cell 8
        have g9 := HP.out.cell 9
        have g10 := HP.out.cell 10
        have h0 := HX.out.cell 0
        have h1 := HX.out.cell 1
        have h2 := HX.out.cell 2
        have h3 := HX.out.cell 3
        have h4 := HX.out.cell 4
        have h5 := HX.out.cell 5
        have h6 := HX.out.cell 6
        have h7 := HX.out.cell 7
        have h8 := HX.out.cell 8
        have h9 := HX.out.cell 9
        have h10 := HX.out.cell 10
        have q := same36_eq ab a _ _ wr (HOA.out.rd HKA.out) (OpD.rd_ext HE.out HU.out) (by rw [← HAB.out]; exact bareD_bare a) HHO.out.1 HLA.out.ok
        go_wp2_with fail
        refine q.mono ?_
        clear q g0 g1 g2 g3 g4 g5 g6 g7 g8 g9 g10 h0 h1 h2 h3 h4 h5 h6 h7 h8 h9 h10
        rintro e y1_ ⟨r, rfl, rfl, hE⟩
        have HE' := Lib.hid (HE.out.trans hE)
        have HX' := Lib.hid (HX.out.ext hE)
        have HY' := Lib.hid (HY.out.ext hE)
        have HP' := Lib.hid (HP.out.ext hE)
        have HQ' := Lib.hid (HQ.out.ext hE)
        have HOA' := Lib.hid (HOA.out.ext hE)
        have HOB' := Lib.hid (HOB.out.ext hE)
        clear hE
        clear HE
        have HE := HE'
        clear HE'
        clear HX
        have HX := HX'
        clear HX'
        clear HY
        have HY := HY'
        clear HY'
        clear HP
        have HP := HP'
        clear HP'
        clear HQ
        have HQ := HQ'
        clear HQ'
        clear HOA
        have HOA := HOA'
        clear HOA'
        clear HOB
        have HOB := HOB'
        clear HOB'
        have g0 := HQ.out.cell 0
        have g1 := HQ.out.cell 1
        have g2 := HQ.out.cell 2
        have g3 := HQ.out.cell 3
        have g4 := HQ.out.cell 4
        have g5 := HQ.out.cell 5
        have g6 := HQ.out.cell 6
        have g7 := HQ.out.cell 7
        have g8 := HQ.out.cell 8
        have g9 := HQ.out.cell 9
        have g10 := HQ.out.cell 10
        have h0 := HY.out.cell 0
        have h1 := HY.out.cell 1
        have h2 := HY.out.cell 2
        have h3 := HY.out.cell 3
        have h4 := HY.out.cell 4
        have h5 := HY.out.cell 5
        have h6 := HY.out.cell 6
        have h7 := HY.out.cell 7
        have h8 := HY.out.cell 8
        have h9 := HY.out.cell 9
        have h10 := HY.out.cell 10
        have q := same36_eq bb b _ _ y1_ (HOB.out.rd HKB.out) (OpD.rd_ext HE.out HV.out) (by rw [← HBB.out]; exact bareD_bare b) HHO.out.2 HLB.out.ok
        go_wp2_with fail
        refine q.mono ?_
        clear q g0 g1 g2 g3 g4 g5 g6 g7 g8 g9 g10 h0 h1 h2 h3 h4 h5 h6 h7 h8 h9 h10
        rintro e y2_ ⟨r, rfl, rfl, hE⟩
        have HE' := Lib.hid (HE.out.trans hE)
        clear hE HE
        have HE := HE'
        clear HE'
        go_wp2_with fail
        refine (works_any y2_).mono ?_
        rintro e u ⟨r, rfl, rfl, hE⟩
        go_wp2_with fail
        go_ret
        exact ret_bool (by rfl) (HE.out.trans hE)
    · cases he
      obtain ⟨hBp, -, hBc⟩ := HLEN.out B (List.mem_singleton.2 rfl)
      obtain ⟨_, _, _, _, _, _, hcc, o1, -, o3⟩ := hob
      simp only [Value.agg.injEq, Array.mk.injEq, List.cons.injEq, Value.slice.injEq, true_and, and_true] at hcc
      obtain ⟨⟨rfl, rfl⟩, ⟨rfl, rfl⟩, rfl, rfl⟩ := hcc
      rw [hL] at hgl o1 o3
      have HG := Lib.hid (hbx.ext X6.out)
      have HM : Hid (∃ us : List Int, us.length = B.path.length ∧ w6.ownsRow L 3 1 (.slice mA B.path.length mc) B.path.length (us.map (Value.int .i64))) := Lib.hid ⟨B.path, rfl, owns_ext X6.out o1⟩
      have HN : Hid (∃ cs : List Value, w6.ownsRow L 35 3 (.slice kA B.pcs.length kc) B.pcs.length cs) := Lib.hid ⟨_, owns_ext X6.out o3⟩
      have X9 := Lib.hid (X4.out.trans X6.out)
      have HLL := Lib.hid hL
      clear hbx o1 o3 HXO hL X4 X6
      go_wp2_with fail
      go_loopw [11] (fun s11 wr => ∃ i : Nat, s11 = .int .i64 (i : Int) ∧ i ≤ 1 ∧ Hid (Ext wc wr) ∧ Hid (NBox wr g 26 #[.int .u8 B.kind, .slice mA B.path.length mc, .int .i64 B.at_, .slice nA B.to.length nc, .int .u64 B.id, .bool B.leaf, .string B.label, .string B.key, .string B.value, .bool B.gone, .slice kA B.pcs.length kc]) ∧ Hid (∃ us : List Int, us.length = B.path.length ∧ wr.ownsRow L 3 1 (.slice mA B.path.length mc) B.path.length (us.map (Value.int .i64))) ∧ Hid (∃ cs : List Value, wr.ownsRow L 35 3 (.slice kA B.pcs.length kc) B.pcs.length cs)) (fun i _ => 1 - (intOf i).toNat)
      case atStart => exact ⟨0, rfl, by omega, X9, HG, HM, HN⟩
      case round =>
        clear X9 HG HM HN
        obtain ⟨i, rfl, hi, X9, HG, HM, HN⟩ := hrel
        rcases Nat.eq_zero_or_pos i with h0 | h0
        · subst h0
          have q0 : (0 : Int) < 1 := by decide
          go_upto_region 11 with fail
          go_wp2_with fail
          go_loopw [12] (fun s12 wr => ∃ k : Nat, s12 = .int .i64 (k : Int) ∧ k ≤ B.path.length ∧ Hid (Ext wc wr) ∧ Hid (NBox wr g 26 #[.int .u8 B.kind, .slice mA B.path.length mc, .int .i64 B.at_, .slice nA B.to.length nc, .int .u64 B.id, .bool B.leaf, .string B.label, .string B.key, .string B.value, .bool B.gone, .slice kA B.pcs.length kc]) ∧ Hid (∃ us : List Int, us.length = B.path.length ∧ wr.ownsRow L 3 1 (.slice mA B.path.length mc) B.path.length (us.map (Value.int .i64))) ∧ Hid (∃ cs : List Value, wr.ownsRow L 35 3 (.slice kA B.pcs.length kc) B.pcs.length cs)) (fun k _ => B.path.length - (intOf k).toNat)
          case atStart => exact ⟨0, rfl, by omega, X9, HG, HM, HN⟩
          case round =>
            clear X9 HG HM HN
            obtain ⟨k, rfl, hk, X9, HG, HM, HN⟩ := hrel
            have g1 := HG.out.cell 1
            rcases Nat.lt_or_ge k B.path.length with hlt | hlt
            · have q1 : (0 : Int) ≤ (k : Int) := by omega
              have q2 : (k : Int) < (B.path.length : Int) := by omega
              obtain ⟨us, hul, hrow⟩ := HM.out
              obtain ⟨cs, hrow2⟩ := HN.out
              obtain ⟨q, hq⟩ : ∃ q, mA = some ⟨q, 0, none⟩ := by
                rcases hrow.2 with ⟨_, h2⟩ | ⟨q, _, _, hv, _⟩
                · omega
                · cases hv; exact ⟨q, rfl⟩
              subst hq
              obtain ⟨uk, huk⟩ : ∃ uk, us[k]? = some uk := ⟨_, List.getElem?_eq_getElem (by omega)⟩
              obtain ⟨z0, z1⟩ := owns_cellN hrow (i := k) (u := .int .i64 uk) (by rw [List.getElem?_map, huk]; rfl)
              have F := Fr.setCell wr q k (.int .i64 (-5))
              have hLq := owns_base hrow q rfl
              have X9' := Lib.hid (Fr.ext X9.out F (fun b hb => by rw [show b = q from hb, HLL.out]; exact hLq))
              have HG' := Lib.hid (HG.out.fr F (fun hb => HG.out.not_own hrow (by decide) (by rw [show g = q from hb]; rfl)))
              have HN' : Hid (∃ cs : List Value, (wr.setCell ⟨q, k, none⟩ (.int .i64 (-5))).ownsRow L 35 3 (.slice kA B.pcs.length kc) B.pcs.length cs) := Lib.hid ⟨cs, owns_fr F hrow2 (fun b hb hk => owns_apart hrow hrow2 (by decide) (g := b) (by rw [show b = q from hk]; rfl) hb)⟩
              have HM' : Hid (∃ us : List Int, us.length = B.path.length ∧ (wr.setCell ⟨q, k, none⟩ (.int .i64 (-5))).ownsRow L 3 1 (.slice (some ⟨q, 0, none⟩) B.path.length mc) B.path.length (us.map (Value.int .i64))) := Lib.hid ⟨us.set k (-5), by rw [List.length_set]; exact hul, by rw [List.map_set]; exact owns_setAtN hrow k _⟩
              clear hrow hrow2 F hLq X9 HG HM HN
              go_wp2_with fail
              go_roundw
              case rel => exact ⟨k + 1, by go_num, by omega, X9', HG', HM', HN'⟩
              case measure => simp [intOf]; omega
            · obtain rfl : k = B.path.length := by omega
              clear hlt hk
              go_wp2_with fail
              clear g1
              go_loopw [13] (fun s13 wr => ∃ k : Nat, s13 = .int .i64 (k : Int) ∧ k ≤ B.pcs.length ∧ Hid (Ext wc wr) ∧ Hid (NBox wr g 26 #[.int .u8 B.kind, .slice mA B.path.length mc, .int .i64 B.at_, .slice nA B.to.length nc, .int .u64 B.id, .bool B.leaf, .string B.label, .string B.key, .string B.value, .bool B.gone, .slice kA B.pcs.length kc]) ∧ Hid (∃ us : List Int, us.length = B.path.length ∧ wr.ownsRow L 3 1 (.slice mA B.path.length mc) B.path.length (us.map (Value.int .i64))) ∧ Hid (∃ cs : List Value, wr.ownsRow L 35 3 (.slice kA B.pcs.length kc) B.pcs.length cs)) (fun k _ => B.pcs.length - (intOf k).toNat)
              case atStart => exact ⟨0, rfl, by omega, X9, HG, HM, HN⟩
              case round =>
                clear X9 HG HM HN
                obtain ⟨k, rfl, hk, X9, HG, HM, HN⟩ := hrel
                have g10 := HG.out.cell 10
                rcases Nat.lt_or_ge k B.pcs.length with hlt | hlt
                · have q1 : (0 : Int) ≤ (k : Int) := by omega
                  have q2 : (k : Int) < (B.pcs.length : Int) := by omega
                  obtain ⟨us, hul, hrow2⟩ := HM.out
                  obtain ⟨cs, hrow⟩ := HN.out
                  obtain ⟨q, hq⟩ : ∃ q, kA = some ⟨q, 0, none⟩ := by
                    rcases hrow.2 with ⟨_, h2⟩ | ⟨q, _, _, hv, _⟩
                    · omega
                    · cases hv; exact ⟨q, rfl⟩
                  subst hq
                  have hcl := hrow.1
                  obtain ⟨uk, huk⟩ : ∃ uk, cs[k * 3]? = some uk := ⟨_, List.getElem?_eq_getElem (by rw [hcl]; omega)⟩
                  obtain ⟨z0, z1⟩ := owns_cellN hrow (i := k * 3) (u := uk) huk
                  have F := Fr.setCell wr q (k * 3) (.int .i64 (-5))
                  have hLq := owns_base hrow q rfl
                  have X9' := Lib.hid (Fr.ext X9.out F (fun b hb => by rw [show b = q from hb, HLL.out]; exact hLq))
                  have HG' := Lib.hid (HG.out.fr F (fun hb => HG.out.not_own hrow (by decide) (by rw [show g = q from hb]; rfl)))
                  have HM' : Hid (∃ us : List Int, us.length = B.path.length ∧ (wr.setCell ⟨q, k * 3, none⟩ (.int .i64 (-5))).ownsRow L 3 1 (.slice mA B.path.length mc) B.path.length (us.map (Value.int .i64))) := Lib.hid ⟨us, hul, owns_fr F hrow2 (fun b hb hk => owns_apart hrow hrow2 (by decide) (g := b) (by rw [show b = q from hk]; rfl) hb)⟩
                  have HN' : Hid (∃ cs : List Value, (wr.setCell ⟨q, k * 3, none⟩ (.int .i64 (-5))).ownsRow L 35 3 (.slice (some ⟨q, 0, none⟩) B.pcs.length kc) B.pcs.length cs) := Lib.hid ⟨_, owns_setAtN hrow (k * 3) _⟩
                  clear hrow hrow2 F hLq X9 HG HM HN hcl huk
                  go_wp2_with fail
                  go_roundw
                  case rel => exact ⟨k + 1, by go_num, by omega, X9', HG', HM', HN'⟩
                  case measure => simp [intOf]; omega
                · obtain rfl : k = B.pcs.length := by omega
                  go_wp2_with fail
                  go_roundw
                  case rel => exact ⟨1, by go_num, by omega, X9, HG, HM, HN⟩
                  case measure => simp [intOf]
        · obtain rfl : i = 1 := by omega
          go_upto_region 19 with fail
          clear HG HM HN
          have HE' := Lib.hid (HE0.out.trans X9.out)
          have HX' := Lib.hid (HX0.out.ext X9.out)
          have HY' := Lib.hid (HY0.out.ext X9.out)
          have HP' := Lib.hid (HP0.out.ext X9.out)
          have HQ' := Lib.hid (HQ0.out.ext X9.out)
          have HOA' := Lib.hid (HOA0.out.ext X9.out)
          have HOB' := Lib.hid (HOB0.out.ext X9.out)
          clear HE HX HY HP HQ HOA HOB HE0 HX0 HY0 HP0 HQ0 HOA0 HOB0 X9
          have HE := HE'
          have HX := HX'
          have HY := HY'
          have HP := HP'
          have HQ := HQ'
          have HOA := HOA'
          have HOB := HOB'
          clear HE' HX' HY' HP' HQ' HOA' HOB'
          have g0 := HP.out.cell 0
          have g1 := HP.out.cell 1
          have g2 := HP.out.cell 2
          have g3 := HP.out.cell 3
          have g4 := HP.out.cell 4
          have g5 := HP.out.cell 5
          have g6 := HP.out.cell 6
          have g7 := HP.out.cell 7
          have g8 := HP.out.cell 8
          have g9 := HP.out.cell 9
          have g10 := HP.out.cell 10
          have h0 := HX.out.cell 0
          have h1 := HX.out.cell 1
          have h2 := HX.out.cell 2
          have h3 := HX.out.cell 3
          have h4 := HX.out.cell 4
          have h5 := HX.out.cell 5
          have h6 := HX.out.cell 6
          have h7 := HX.out.cell 7
          have h8 := HX.out.cell 8
          have h9 := HX.out.cell 9
          have h10 := HX.out.cell 10
          have q := same36_eq ab a _ _ wr (HOA.out.rd HKA.out) (OpD.rd_ext HE.out HU.out) (by rw [← HAB.out]; exact bareD_bare a) HHO.out.1 HLA.out.ok
          go_wp2_with fail
          refine q.mono ?_
          clear q g0 g1 g2 g3 g4 g5 g6 g7 g8 g9 g10 h0 h1 h2 h3 h4 h5 h6 h7 h8 h9 h10
          rintro e y1_ ⟨r, rfl, rfl, hE⟩
          have HE' := Lib.hid (HE.out.trans hE)
          have HX' := Lib.hid (HX.out.ext hE)
          have HY' := Lib.hid (HY.out.ext hE)
          have HP' := Lib.hid (HP.out.ext hE)
          have HQ' := Lib.hid (HQ.out.ext hE)
          have HOA' := Lib.hid (HOA.out.ext hE)
          have HOB' := Lib.hid (HOB.out.ext hE)
          clear hE
          clear HE
          have HE := HE'
          clear HE'
          clear HX
          have HX := HX'
          clear HX'
          clear HY
          have HY := HY'
          clear HY'
          clear HP
          have HP := HP'
          clear HP'
          clear HQ
          have HQ := HQ'
          clear HQ'
          clear HOA
          have HOA := HOA'
          clear HOA'
          clear HOB
          have HOB := HOB'
          clear HOB'
          have g0 := HQ.out.cell 0
          have g1 := HQ.out.cell 1
          have g2 := HQ.out.cell 2
          have g3 := HQ.out.cell 3
          have g4 := HQ.out.cell 4
          have g5 := HQ.out.cell 5
          have g6 := HQ.out.cell 6
          have g7 := HQ.out.cell 7
          have g8 := HQ.out.cell 8
          have g9 := HQ.out.cell 9
          have g10 := HQ.out.cell 10
          have h0 := HY.out.cell 0
          have h1 := HY.out.cell 1
          have h2 := HY.out.cell 2
          have h3 := HY.out.cell 3
          have h4 := HY.out.cell 4
          have h5 := HY.out.cell 5
          have h6 := HY.out.cell 6
          have h7 := HY.out.cell 7
          have h8 := HY.out.cell 8
          have h9 := HY.out.cell 9
          have h10 := HY.out.cell 10
          have q := same36_eq bb b _ _ y1_ (HOB.out.rd HKB.out) (OpD.rd_ext HE.out HV.out) (by rw [← HBB.out]; exact bareD_bare b) HHO.out.2 HLB.out.ok
          go_wp2_with fail
          refine q.mono ?_
          clear q g0 g1 g2 g3 g4 g5 g6 g7 g8 g9 g10 h0 h1 h2 h3 h4 h5 h6 h7 h8 h9 h10
          rintro e y2_ ⟨r, rfl, rfl, hE⟩
          have HE' := Lib.hid (HE.out.trans hE)
          clear hE HE
          have HE := HE'
          clear HE'
          go_wp2_with fail
          refine (works_any y2_).mono ?_
          rintro e u ⟨r, rfl, rfl, hE⟩
          go_wp2_with fail
          go_ret
          exact ret_bool (by rfl) (HE.out.trans hE)
end Go.Proofs.Ytkimbpeapolcbaa.Sy
