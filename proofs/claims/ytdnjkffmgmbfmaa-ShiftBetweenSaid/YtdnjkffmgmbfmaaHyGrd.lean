/- Chapter 11: tie (26). (Printed by gsh.py.) -/
import Derived.Test.YtdnjkffmgmbfmaaHyTwoW
import Derived.Deep.RegionHeld
import Derived.Test.YtdnjkffmgmbfmaaHyIdsW
namespace Go.Proofs.Ytdnjkffmgmbfmaa.Sy
open Go.RowKit Go.Proofs.Ytdnjkffmgmbfmaa.Bw Go.Proofs.Ytdnjkffmgmbfmaa.Bs

set_option maxRecDepth 100000 in
set_option maxHeartbeats 8000000 in
theorem tie_any (t : Nd) (o : OpD) (p : List Int) (y : Nd) (tv ov pv yv : Value) (a g : Int) (first : Bool) (w : World) (ht : t.rd w tv) (ho : o.rd w ov) (hp : RdI w p pv) (hy : y.rd w yv)
  (hti : (o.kind = 1 ∧ o.path = p ∨ o.kind = 3 ∧ o.to = p) → 0 ≤ placeL (kidIds y) (movedI t o) ∧ (placeL (kidIds y) (movedI t o) < g ↔ o.at_ < a ∨ o.at_ = a ∧ first = false)) :
  Calls Try.prog 26 #[tv, ov, pv, yv, .int .i64 a, .int .i64 g, .bool first] w (Ret w fun r _ => r = .bool true) := by
 obtain ⟨uA, uc, uK, ud, rfl⟩ := rd_open6 ht
 obtain ⟨pA, pc, tA, tc, cA, cc, rfl, hP, hTo, -⟩ := rdO_cells ho
 obtain ⟨vA, vc, vK, vd, rfl⟩ := rd_open6 hy
 obtain ⟨xA, xc, rfl, -⟩ := id hp
 obtain ⟨w1, hw1⟩ : ∃ W, ((w.alloc (.cells #[.int .u64 t.id, .bool t.leaf, .string t.label, .slice uA t.attrs.length uc, .string t.text, .slice uK t.kids.length ud] 42)).alloc (.cells #[.int .u8 o.kind, .slice pA o.path.length pc, .int .i64 o.at_, .slice tA o.to.length tc, .int .u64 o.id, .bool o.leaf, .string o.label, .string o.key, .string o.value, .bool o.gone, .slice cA o.pcs.length cc] 26)).alloc (.cells #[.int .u64 y.id, .bool y.leaf, .string y.label, .slice vA y.attrs.length vc, .string y.text, .slice vK y.kids.length vd] 42) = W := ⟨_, rfl⟩
 obtain ⟨B, hB⟩ : ∃ B, w.heap.size = B := ⟨_, rfl⟩
 have s1 : (w.alloc (.cells #[.int .u64 t.id, .bool t.leaf, .string t.label, .slice uA t.attrs.length uc, .string t.text, .slice uK t.kids.length ud] 42)).heap.size = B + 1 := by rw [World.size_alloc, hB]
 have s2 : ((w.alloc (.cells #[.int .u64 t.id, .bool t.leaf, .string t.label, .slice uA t.attrs.length uc, .string t.text, .slice uK t.kids.length ud] 42)).alloc (.cells #[.int .u8 o.kind, .slice pA o.path.length pc, .int .i64 o.at_, .slice tA o.to.length tc, .int .u64 o.id, .bool o.leaf, .string o.label, .string o.key, .string o.value, .bool o.gone, .slice cA o.pcs.length cc] 26)).heap.size = B + 1 + 1 := by rw [World.size_alloc, s1]
 have E1 : Ext w w1 := by rw [← hw1]; exact (((Ext.refl w).alloc _).alloc _).alloc _
 have HB0 := Lib.hid (show NBox w1 B 42 #[.int .u64 t.id, .bool t.leaf, .string t.label, .slice uA t.attrs.length uc, .string t.text, .slice uK t.kids.length ud] from by rw [← hw1, ← hB]; exact (NBox.new w 42 _).ext (((Ext.refl _).alloc _).alloc _))
 have HB1 := Lib.hid (show NBox w1 (B + 1) 26 #[.int .u8 o.kind, .slice pA o.path.length pc, .int .i64 o.at_, .slice tA o.to.length tc, .int .u64 o.id, .bool o.leaf, .string o.label, .string o.key, .string o.value, .bool o.gone, .slice cA o.pcs.length cc] from by rw [← hw1, ← s1]; exact (NBox.new _ 26 _).ext ((Ext.refl _).alloc _))
 have HB2 := Lib.hid (show NBox w1 (B + 1 + 1) 42 #[.int .u64 y.id, .bool y.leaf, .string y.label, .slice vA y.attrs.length vc, .string y.text, .slice vK y.kids.length vd] from by rw [← hw1, ← s2]; exact NBox.new _ 42 _)
 have HE := Lib.hid E1
 have HW1 := Lib.hid hw1
 have HBB := Lib.hid hB
 have HTT := Lib.hid (Nd.rd_ext E1 ht)
 have HYY := Lib.hid (Nd.rd_ext E1 hy)
 have HOO := Lib.hid (OpD.rd_ext E1 ho)
 have HRP := Lib.hid (RdS.ext E1 hP)
 have HRT := Lib.hid (RdS.ext E1 hTo)
 have HPX := Lib.hid (RdS.ext E1 hp)
 have HTI := Lib.hid hti
 clear hw1 hB s1 s2 E1 ht hy ho hP hTo hp hti
 have o0 := HB1.out.cell 0
 have o1 := HB1.out.cell 1
 have o3 := HB1.out.cell 3
 go_enter Try.func26, Try.ntmps26
 go_upto_region 1 with fail
 rw [HW1.out, HBB.out]
 clear HW1
 by_cases hk : o.kind = 1
 ·have d1 : (o.kind == 1) = true := by rw [beq_iff_eq]; exact hk
  have d2 : (o.kind != 1) = false := by rw [bne_eq_false_iff_eq]; exact hk
  have HK := Lib.hid hk
  clear hk
  by_cases hs : o.path = p
  ·have d5 : decide (o.path = p) = true := decide_eq_true hs
   have HS := Lib.hid (HTI.out (.inl ⟨HK.out, hs⟩))
   clear hs
   have hc37 := sameR_any o.path p (.slice pA o.path.length pc) (.slice xA p.length xc) w1 HRP.out HPX.out
   rw [d5] at hc37
   go_upto_region 6 with (refine hc37.mono ?_; clear hc37; rintro e w2 ⟨r, rfl, rfl, hE⟩; have HE2 := Lib.hid hE; clear hE)
   replace HB0 := Lib.hid (HB0.out.ext HE2.out)
   replace HB1 := Lib.hid (HB1.out.ext HE2.out)
   replace HB2 := Lib.hid (HB2.out.ext HE2.out)
   have HS1 := HS.out.1
   have HS2 := HS.out.2
   obtain ⟨mv, hmv⟩ : ∃ q, movedI t o = q := ⟨_, rfl⟩
   rw [hmv] at HS1 HS2
   obtain ⟨now, hnow⟩ : ∃ q, placeL (kidIds y) mv = q := ⟨_, rfl⟩
   rw [hnow] at HS1 HS2
   have HMV := Lib.hid hmv
   have HNOW := Lib.hid hnow
   have HH1 := Lib.hid HS1
   have HH2 := Lib.hid HS2
   obtain ⟨wd, hwd⟩ : ∃ d, w2.drew = d := ⟨_, rfl⟩
   have HXD := Lib.hid (show Ext w2 wd from by rw [← hwd]; exact (Ext.refl w2).drew)
   clear HS hmv hnow HS1 HS2
   refine wp_region_held_drew (S := fun W => NBox W B 42 #[.int .u64 t.id, .bool t.leaf, .string t.label, .slice uA t.attrs.length uc, .string t.text, .slice uK t.kids.length ud] ∧ NBox W (B + 1) 26 #[.int .u8 o.kind, .slice pA o.path.length pc, .int .i64 o.at_, .slice tA o.to.length tc, .int .u64 o.id, .bool o.leaf, .string o.label, .string o.key, .string o.value, .bool o.gone, .slice cA o.pcs.length cc] ∧ NBox W (B + 1 + 1) 42 #[.int .u64 y.id, .bool y.leaf, .string y.label, .slice vA y.attrs.length vc, .string y.text, .slice vK y.kids.length vd]) (by kernel_rfl) (by rw [hwd]; exact ⟨HB0.out.ext HXD.out, HB1.out.ext HXD.out, HB2.out.ext HXD.out⟩) (fun hHeld => ?_)
   rw [hwd] at hHeld ⊢
   clear hwd
   refine tk 0 ?_ rfl (.inl ⟨by rfl, ?_⟩) hHeld ?_
   rotate_left
   ·intro w hSw
    have fq := hSw.2.2
    obtain ⟨e0, e1, e2, e3, e4, e5⟩ := fq.c6
    go_simp
    all_goals (first | with_reducible rfl | rw [if_pos (by omega)])
   try simp only [Act.put, aS]
   refine tk 1 ?_ rfl (.inl ⟨by rfl, ?_⟩) hHeld ?_
   rotate_left
   ·intro w hSw
    have fq := hSw.1
    obtain ⟨e0, e1, e2, e3, e4, e5⟩ := fq.c6
    go_simp
    all_goals (first | with_reducible rfl | rw [if_pos (by omega)])
   try simp only [Act.put, aS]
   refine tk 2 ?_ rfl (.inl ⟨by rfl, ?_⟩) hHeld ?_
   rotate_left
   ·intro w hSw
    have fq := hSw.2.1
    obtain ⟨e0, e1, e2, e3, e4, e5, e6, e7, e8, e9, e10⟩ := fq.c11
    go_simp
    all_goals (first | with_reducible rfl | rw [if_pos (by omega)])
   try simp only [Act.put, aS]
   refine wpAnyH_ready (rs := [3]) (by kernel_rfl) (by simp) ?_
   refine AllReadyH.cons (o := ⟨_, _, _, _, _, _⟩) rfl (fun K' hK => ?_) (AllReadyH.nil)
   have hc := moved_any t o _ _ wd (Nd.rd_ext (HE2.out.trans HXD.out) HTT.out) (OpD.rd_ext (HE2.out.trans HXD.out) HOO.out)
   rw [HMV.out] at hc
   go_simp
   go_at_call 25
   refine hc.mono ?_
   clear hc
   rintro e w3 ⟨r, rfl, rfl, hEa⟩
   replace hEa := Lib.hid hEa
   refine hK.out _ _ (show _ ∧ _ ∧ _ from ⟨hHeld.1.ext hEa.out, hHeld.2.1.ext hEa.out, hHeld.2.2.ext hEa.out⟩) (fun hHeld => ?_)
   clear hK K'
   try simp only [Act.put, aS]
   refine wpAnyH_ready (rs := [4]) (by kernel_rfl) (by simp) ?_
   refine AllReadyH.cons (o := ⟨_, _, _, _, _, _⟩) rfl (fun K' hK => ?_) (AllReadyH.nil)
   have hc := place_any y _ mv w3 (Nd.rd_ext (HE2.out.trans (HXD.out.trans hEa.out)) HYY.out)
   rw [HNOW.out] at hc
   go_simp
   go_at_call 49
   refine hc.mono ?_
   clear hc
   rintro e w4 ⟨r, rfl, rfl, hEb⟩
   replace hEb := Lib.hid hEb
   refine hK.out _ _ (show _ ∧ _ ∧ _ from ⟨hHeld.1.ext hEb.out, hHeld.2.1.ext hEb.out, hHeld.2.2.ext hEb.out⟩) (fun hHeld => ?_)
   clear hK K'
   try simp only [Act.put, aS]
   refine tk 5 ?_ rfl (.inl ⟨by rfl, ?_⟩) hHeld ?_
   rotate_left
   ·intro w hSw
    try dsimp only at hSw
    go_simp
    all_goals (first | with_reducible rfl | rw [if_pos (by omega)])
   try simp only [Act.put, aS]
   refine wpAnyH_done (by kernel_rfl) ?_ _
   clear hHeld
   have HE3 := Lib.hid (HE.out.trans (HE2.out.trans (HXD.out.trans (hEa.out.trans hEb.out))))
   have o2 := (HXD.out.trans (hEa.out.trans hEb.out)).cell (HB1.out.cell 2)
   have HS1 := HH1.out
   have HS2 := HH2.out
   clear HH1 HH2 HXD hEa hEb
   have d6 : decide ((0 : Int) ≤ now) = true := decide_eq_true HS1
   rcases Int.lt_or_le now g with h1 | h1
   ·have d7 : decide (now < g) = true := decide_eq_true h1
    rcases HS2.1 h1 with h2 | ⟨h2, h3⟩
    ·have d8 : decide (o.at_ < a) = true := decide_eq_true h2
     clear HS1 HS2 h2
     go_wp2_with fail
     go_ret
     exact ⟨_, rfl, rfl, HE3.out⟩
    ·have d8 : decide (o.at_ < a) = false := decide_eq_false (by omega)
     have d9 : (o.at_ == a) = true := by rw [beq_iff_eq]; exact h2
     subst h3
     clear HS1 HS2 h2
     go_wp2_with fail
     go_ret
     exact ⟨_, rfl, rfl, HE3.out⟩
   ·have d7 : decide (now < g) = false := decide_eq_false (by omega)
    have h9 : ¬ (o.at_ < a ∨ o.at_ = a ∧ first = false) := fun h => by have := HS2.2 h; omega
    have d8 : decide (o.at_ < a) = false := decide_eq_false (fun h => h9 (.inl h))
    by_cases h2 : o.at_ = a
    ·have d9 : (o.at_ == a) = true := by rw [beq_iff_eq]; exact h2
     obtain rfl : first = true := by
      cases first with
      | true => rfl
      | false => exact absurd (.inr ⟨h2, rfl⟩) h9
     clear HS1 HS2 h2 h9
     go_wp2_with fail
     go_ret
     exact ⟨_, rfl, rfl, HE3.out⟩
    ·have d9 : (o.at_ == a) = false := by rw [beq_eq_false_iff_ne]; exact h2
     clear HS1 HS2 h2 h9
     go_wp2_with fail
     go_ret
     exact ⟨_, rfl, rfl, HE3.out⟩
  ·have d5 : decide (o.path = p) = false := decide_eq_false hs
   clear hs
   have hc37 := sameR_any o.path p (.slice pA o.path.length pc) (.slice xA p.length xc) w1 HRP.out HPX.out
   rw [d5] at hc37
   go_wp2_with (refine hc37.mono ?_; clear hc37; rintro e w2 ⟨r, rfl, rfl, hE⟩; have HE2 := Lib.hid hE; clear hE)
   go_ret
   exact ⟨_, rfl, rfl, HE.out.trans HE2.out⟩
 ·have d1 : (o.kind == 1) = false := by rw [beq_eq_false_iff_ne]; exact hk
  have d2 : (o.kind != 1) = true := by rw [bne_iff_ne]; exact hk
  by_cases hk3 : o.kind = 3
  ·have d3 : (o.kind != 3) = false := by rw [bne_eq_false_iff_eq]; exact hk3
   have HK := Lib.hid hk3
   clear hk hk3
   by_cases hs : o.to = p
   ·have d5 : decide (o.to = p) = true := decide_eq_true hs
    have HS := Lib.hid (HTI.out (.inr ⟨HK.out, hs⟩))
    clear hs
    have hc37 := sameR_any o.to p (.slice tA o.to.length tc) (.slice xA p.length xc) w1 HRT.out HPX.out
    rw [d5] at hc37
    go_upto_region 6 with (refine hc37.mono ?_; clear hc37; rintro e w2 ⟨r, rfl, rfl, hE⟩; have HE2 := Lib.hid hE; clear hE)
    replace HB0 := Lib.hid (HB0.out.ext HE2.out)
    replace HB1 := Lib.hid (HB1.out.ext HE2.out)
    replace HB2 := Lib.hid (HB2.out.ext HE2.out)
    have HS1 := HS.out.1
    have HS2 := HS.out.2
    obtain ⟨mv, hmv⟩ : ∃ q, movedI t o = q := ⟨_, rfl⟩
    rw [hmv] at HS1 HS2
    obtain ⟨now, hnow⟩ : ∃ q, placeL (kidIds y) mv = q := ⟨_, rfl⟩
    rw [hnow] at HS1 HS2
    have HMV := Lib.hid hmv
    have HNOW := Lib.hid hnow
    have HH1 := Lib.hid HS1
    have HH2 := Lib.hid HS2
    obtain ⟨wd, hwd⟩ : ∃ d, w2.drew = d := ⟨_, rfl⟩
    have HXD := Lib.hid (show Ext w2 wd from by rw [← hwd]; exact (Ext.refl w2).drew)
    clear HS hmv hnow HS1 HS2
    refine wp_region_held_drew (S := fun W => NBox W B 42 #[.int .u64 t.id, .bool t.leaf, .string t.label, .slice uA t.attrs.length uc, .string t.text, .slice uK t.kids.length ud] ∧ NBox W (B + 1) 26 #[.int .u8 o.kind, .slice pA o.path.length pc, .int .i64 o.at_, .slice tA o.to.length tc, .int .u64 o.id, .bool o.leaf, .string o.label, .string o.key, .string o.value, .bool o.gone, .slice cA o.pcs.length cc] ∧ NBox W (B + 1 + 1) 42 #[.int .u64 y.id, .bool y.leaf, .string y.label, .slice vA y.attrs.length vc, .string y.text, .slice vK y.kids.length vd]) (by kernel_rfl) (by rw [hwd]; exact ⟨HB0.out.ext HXD.out, HB1.out.ext HXD.out, HB2.out.ext HXD.out⟩) (fun hHeld => ?_)
    rw [hwd] at hHeld ⊢
    clear hwd
    refine tk 0 ?_ rfl (.inl ⟨by rfl, ?_⟩) hHeld ?_
    rotate_left
    ·intro w hSw
     have fq := hSw.2.2
     obtain ⟨e0, e1, e2, e3, e4, e5⟩ := fq.c6
     go_simp
     all_goals (first | with_reducible rfl | rw [if_pos (by omega)])
    try simp only [Act.put, aS]
    refine tk 1 ?_ rfl (.inl ⟨by rfl, ?_⟩) hHeld ?_
    rotate_left
    ·intro w hSw
     have fq := hSw.1
     obtain ⟨e0, e1, e2, e3, e4, e5⟩ := fq.c6
     go_simp
     all_goals (first | with_reducible rfl | rw [if_pos (by omega)])
    try simp only [Act.put, aS]
    refine tk 2 ?_ rfl (.inl ⟨by rfl, ?_⟩) hHeld ?_
    rotate_left
    ·intro w hSw
     have fq := hSw.2.1
     obtain ⟨e0, e1, e2, e3, e4, e5, e6, e7, e8, e9, e10⟩ := fq.c11
     go_simp
     all_goals (first | with_reducible rfl | rw [if_pos (by omega)])
    try simp only [Act.put, aS]
    refine wpAnyH_ready (rs := [3]) (by kernel_rfl) (by simp) ?_
    refine AllReadyH.cons (o := ⟨_, _, _, _, _, _⟩) rfl (fun K' hK => ?_) (AllReadyH.nil)
    have hc := moved_any t o _ _ wd (Nd.rd_ext (HE2.out.trans HXD.out) HTT.out) (OpD.rd_ext (HE2.out.trans HXD.out) HOO.out)
    rw [HMV.out] at hc
    go_simp
    go_at_call 25
    refine hc.mono ?_
    clear hc
    rintro e w3 ⟨r, rfl, rfl, hEa⟩
    replace hEa := Lib.hid hEa
    refine hK.out _ _ (show _ ∧ _ ∧ _ from ⟨hHeld.1.ext hEa.out, hHeld.2.1.ext hEa.out, hHeld.2.2.ext hEa.out⟩) (fun hHeld => ?_)
    clear hK K'
    try simp only [Act.put, aS]
    refine wpAnyH_ready (rs := [4]) (by kernel_rfl) (by simp) ?_
    refine AllReadyH.cons (o := ⟨_, _, _, _, _, _⟩) rfl (fun K' hK => ?_) (AllReadyH.nil)
    have hc := place_any y _ mv w3 (Nd.rd_ext (HE2.out.trans (HXD.out.trans hEa.out)) HYY.out)
    rw [HNOW.out] at hc
    go_simp
    go_at_call 49
    refine hc.mono ?_
    clear hc
    rintro e w4 ⟨r, rfl, rfl, hEb⟩
    replace hEb := Lib.hid hEb
    refine hK.out _ _ (show _ ∧ _ ∧ _ from ⟨hHeld.1.ext hEb.out, hHeld.2.1.ext hEb.out, hHeld.2.2.ext hEb.out⟩) (fun hHeld => ?_)
    clear hK K'
    try simp only [Act.put, aS]
    refine tk 5 ?_ rfl (.inl ⟨by rfl, ?_⟩) hHeld ?_
    rotate_left
    ·intro w hSw
     try dsimp only at hSw
     go_simp
     all_goals (first | with_reducible rfl | rw [if_pos (by omega)])
    try simp only [Act.put, aS]
    refine wpAnyH_done (by kernel_rfl) ?_ _
    clear hHeld
    have HE3 := Lib.hid (HE.out.trans (HE2.out.trans (HXD.out.trans (hEa.out.trans hEb.out))))
    have o2 := (HXD.out.trans (hEa.out.trans hEb.out)).cell (HB1.out.cell 2)
    have HS1 := HH1.out
    have HS2 := HH2.out
    clear HH1 HH2 HXD hEa hEb
    have d6 : decide ((0 : Int) ≤ now) = true := decide_eq_true HS1
    rcases Int.lt_or_le now g with h1 | h1
    ·have d7 : decide (now < g) = true := decide_eq_true h1
     rcases HS2.1 h1 with h2 | ⟨h2, h3⟩
     ·have d8 : decide (o.at_ < a) = true := decide_eq_true h2
      clear HS1 HS2 h2
      go_wp2_with fail
      go_ret
      exact ⟨_, rfl, rfl, HE3.out⟩
     ·have d8 : decide (o.at_ < a) = false := decide_eq_false (by omega)
      have d9 : (o.at_ == a) = true := by rw [beq_iff_eq]; exact h2
      subst h3
      clear HS1 HS2 h2
      go_wp2_with fail
      go_ret
      exact ⟨_, rfl, rfl, HE3.out⟩
    ·have d7 : decide (now < g) = false := decide_eq_false (by omega)
     have h9 : ¬ (o.at_ < a ∨ o.at_ = a ∧ first = false) := fun h => by have := HS2.2 h; omega
     have d8 : decide (o.at_ < a) = false := decide_eq_false (fun h => h9 (.inl h))
     by_cases h2 : o.at_ = a
     ·have d9 : (o.at_ == a) = true := by rw [beq_iff_eq]; exact h2
      obtain rfl : first = true := by
       cases first with
       | true => rfl
       | false => exact absurd (.inr ⟨h2, rfl⟩) h9
      clear HS1 HS2 h2 h9
      go_wp2_with fail
      go_ret
      exact ⟨_, rfl, rfl, HE3.out⟩
     ·have d9 : (o.at_ == a) = false := by rw [beq_eq_false_iff_ne]; exact h2
      clear HS1 HS2 h2 h9
      go_wp2_with fail
      go_ret
      exact ⟨_, rfl, rfl, HE3.out⟩
   ·have d5 : decide (o.to = p) = false := decide_eq_false hs
    clear hs
    have hc37 := sameR_any o.to p (.slice tA o.to.length tc) (.slice xA p.length xc) w1 HRT.out HPX.out
    rw [d5] at hc37
    go_wp2_with (refine hc37.mono ?_; clear hc37; rintro e w2 ⟨r, rfl, rfl, hE⟩; have HE2 := Lib.hid hE; clear hE)
    go_ret
    exact ⟨_, rfl, rfl, HE.out.trans HE2.out⟩
  ·have d3 : (o.kind != 3) = true := by rw [bne_iff_ne]; exact hk3
   clear hk hk3
   go_wp2_with fail
   go_ret
   exact ⟨_, rfl, rfl, HE.out⟩
end Go.Proofs.Ytdnjkffmgmbfmaa.Sy
namespace Go.Proofs.Ytdnjkffmgmbfmaa.Sy
open Go.RowKit Go.Proofs.Ytdnjkffmgmbfmaa.Bw Go.Proofs.Ytdnjkffmgmbfmaa.Bs
/-- wg's cells stand in each world that has those of wo, and what was made since w as it is in cur, but for S. -/
structure GW (wo w wg cur : World) (S : Nat → Prop) : Prop where
  grd : ∀ W, Sub wo W → (∀ k, w.heap.size ≤ k → k < cur.heap.size → ¬ S k → W.heap[k]? = cur.heap[k]?) → Sub wg W
  base : Wo wo cur
  size : wg.heap.size ≤ cur.heap.size
  low : w.heap.size ≤ cur.heap.size
  fresh : ∀ i, cur.heap.size ≤ i → S i
theorem GW.refl {wo w : World} (h : Wo wo w) : GW wo w wo w (fun _ => True) := ⟨fun _ h _ => h, h, h.size, Nat.le_refl _, fun _ _ => trivial⟩
theorem GW.ext {wo w wg a b : World} {S : Nat → Prop} (h : GW wo w wg a S) (k : Ext a b) : GW wo w wg b S :=
  ⟨fun W hW hN => h.grd W hW (fun i p q r => (hN i p (Nat.lt_of_lt_of_le q k.size) r).trans (k.block i q)), h.base.ext k, Nat.le_trans h.size k.size, Nat.le_trans h.low k.size, fun i hi => h.fresh i (Nat.le_trans k.size hi)⟩
theorem GW.fr {wo w wg a b : World} {S S' : Nat → Prop} (h : GW wo w wg a S) (k : Fr a b S') (hs : ∀ i, S' i → S i ∧ wo.heap.size ≤ i) : GW wo w wg b S :=
  ⟨fun W hW hN => h.grd W hW (fun i p q r => (hN i p (Nat.lt_of_lt_of_le q k.size) r).trans (k.block i q (fun hh => r (hs i hh).1))), h.base.fr k (fun i hi => (hs i hi).2), Nat.le_trans h.size k.size, Nat.le_trans h.low k.size, fun i hi => h.fresh i (Nat.le_trans k.size hi)⟩
theorem GW.now {wo w wg a : World} {S : Nat → Prop} (h : GW wo w wg a S) : Wo wg a := ⟨h.grd a h.base.sub (fun _ _ _ _ => rfl), h.size⟩
theorem GW.glue {wo w wg a b : World} {S : Nat → Prop} (h : GW wo w wg a S) (k : Ext a b) : GW wo w (Bw.glue wg a b) b (fun i => S i ∧ (i < a.heap.size ∨ b.heap.size ≤ i)) :=
  ⟨fun W hW hN => by
    have h2 := (h.ext k).grd
    refine glue_to (h.grd W hW (fun i p q r => ?_)) (fun i p q => hN i (Nat.le_trans h.low p) q (fun c => c.2.elim (fun x => absurd x (Nat.not_lt.2 p)) (fun x => absurd q (Nat.not_lt.2 x))))
    exact (hN i p (Nat.lt_of_lt_of_le q k.size) (fun c => r c.1)).trans (k.block i q),
   h.base.ext k, by rw [glue_size]; exact Nat.le_refl _, Nat.le_trans h.low k.size, fun i hi => ⟨h.fresh i (Nat.le_trans k.size hi), .inr hi⟩⟩
theorem GW.rd_glue {wo w wg a b : World} {S : Nat → Prop} (h : GW wo w wg a S) (k : Ext a b) {t : Nd} {r : Value} (hr : t.rd wg r) : t.rd (Bw.glue wg a b) r := Nd.rd_sub (glue_mine h.size k.size) hr
theorem GW.got {wo w wg a b : World} {S : Nat → Prop} (h : GW wo w wg a S) (k : Ext a b) {t : Nd} {r : Value} (hl : LateN wg a b t r) : t.rd (Bw.glue wg a b) r := hl.glue h.size k.size
theorem GW.late {wo w wg a : World} {S : Nat → Prop} (h : GW wo w wg a S) {t : Nd} {r : Value} (hr : t.rd wg r) : LateN wo w a t r := fun W hW hN => Nd.rd_sub (h.grd W hW (fun i p q _ => hN i p q)) hr
theorem GW.rd {wo w wg a : World} {S : Nat → Prop} (h : GW wo w wg a S) {t : Nd} {r : Value} (hr : t.rd wg r) : t.rd a r := Nd.rd_sub h.now.sub hr
/-- What was written since stays writable. -/
theorem GW.keep {wo w wg a b : World} {S : Nat → Prop} (_h : GW wo w wg a S) (_k : Ext a b) {i : Nat} (hi : S i) (hl : i < a.heap.size) : (fun i => S i ∧ (i < a.heap.size ∨ b.heap.size ≤ i)) i := ⟨hi, .inl hl⟩
end Go.Proofs.Ytdnjkffmgmbfmaa.Sy
