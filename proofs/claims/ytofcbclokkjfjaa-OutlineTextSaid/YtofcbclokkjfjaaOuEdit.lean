/- Chapter 24: edit, the closure in Split's closure (40). (Printed by gouedit.py.) -/
import Derived.Test.YtofcbclokkjfjaaOuLists
namespace Go.Proofs.Ytofcbclokkjfjaa.Wi
open Go.RowKit Go.Proofs.Ytofcbclokkjfjaa.Bw Go.Proofs.Ytofcbclokkjfjaa.Bs

def editL (rest : ByteArray) (p : List Int) (x : Pc) : List OpD := if rest.size = 0 then [] else [editO p x]
theorem editL_len (rest : ByteArray) (p : List Int) (x : Pc) : (editL rest p x).length ≤ 1 := by unfold editL; split <;> simp
theorem bytes_empty (s : ByteArray) : s.toList.isEmpty = decide (s.size = 0) := by
  rw [ByteArray.toList_eq, show s.size = s.data.toList.length from (Array.length_toList).symm]
  cases s.data.toList <;> simp
set_option maxRecDepth 100000 in
set_option maxHeartbeats 4000000 in
theorem edit40_any (p : List Int) (x : Pc) (rest : ByteArray) (pv : Value) (w : World) (R : Nat) (hp : RdI w p pv) (hR : w.cell? ⟨R, 0, none⟩ = some (.string rest)) (hl : p.length ≤ 1000000) (hx : okStr x.put) :
    Calls Try.prog 40 #[pv, .agg #[.int .i64 x.keep, .int .i64 x.drop, .string x.put], .pointer (some ⟨R, 0, none⟩)] w (fun e W' => Ext w W' ∧ ∃ v, e = .returned v ∧ lsV w.heap.size (editL rest p x) v W') := by
  obtain ⟨w1, hw1⟩ : ∃ W, w.alloc (.cells #[.int .i64 x.keep, .int .i64 x.drop, .string x.put] 49) = W := ⟨_, rfl⟩
  obtain ⟨X, hX⟩ : ∃ X, w.heap.size = X := ⟨_, rfl⟩
  have E1 : Ext w w1 := by rw [← hw1]; exact (Ext.refl w).alloc _
  have HB := Lib.hid (show NBox w1 X 49 #[.int .i64 x.keep, .int .i64 x.drop, .string x.put] from by rw [← hw1, ← hX]; exact NBox.new _ _ _)
  have HE := Lib.hid E1
  have HP := Lib.hid hp
  have HW := Lib.hid hw1
  have HXX := Lib.hid hX
  have r0 := E1.cell hR
  obtain ⟨pA, pc, rfl, -⟩ := hp
  have HED := Lib.hid (show editL rest p x = if rest.size = 0 then [] else [editO p x] from rfl)
  clear hw1 hX E1 hR
  cases hz : rest.toList.isEmpty with
  | true =>
    have HZ : Hid (editL rest p x = []) := Lib.hid (by rw [HED.out, if_pos (by have := bytes_empty rest; rw [hz] at this; exact of_decide_eq_true this.symm)])
    go_enter Try.func40, Try.ntmps40
    go_upto_region 1 with fail
    rw [HW.out, HXX.out]
    go_wp2_with fail
    go_ret
    rw [HZ.out]
    exact ⟨HE.out, _, rfl, lsV.none_ _ _⟩
  | false =>
  have HZ : Hid (editL rest p x = [editO p x]) := Lib.hid (by rw [HED.out, if_neg (by have := bytes_empty rest; rw [hz] at this; exact of_decide_eq_false this.symm)])
  rw [HZ.out]
  go_enter Try.func40, Try.ntmps40
  go_upto_region 1 with fail
  rw [HW.out, HXX.out]
  go_upto_region 3 with fail
  clear r0 hz HED HZ
  obtain ⟨c0, hc0⟩ : ∃ c0, w1.drew = c0 := ⟨_, rfl⟩
  have XC : Ext w1 c0 := by rw [← hc0]; exact (Ext.refl _).drew
  have HE' := Lib.hid (HE.out.trans XC)
  have HB' := Lib.hid (HB.out.ext XC)
  clear XC
  clear HE
  have HE := HE'
  clear HE'
  clear HB
  have HB := HB'
  clear HB'
  refine wp_region_held_drew (S := fun W => NBox W X 49 #[.int .i64 x.keep, .int .i64 x.drop, .string x.put]) (by kernel_rfl) (by rw [hc0]; exact HB.out) (fun hHeld => ?_)
  rw [hc0] at hHeld ⊢
  clear hc0
  refine wpAnyH_take (i := 0) (oi := ⟨_, _, _, _, _, _⟩) (v := ?_) rfl (by kernel_rfl) (by kernel_rfl) (by kernel_rfl) (fun _ _ _ h => h) (Or.inl ⟨by rfl, ?_⟩) hHeld ?_
  rotate_left
  · intro w hSw
    try dsimp only at hSw
    go_simp
    all_goals (first | with_reducible rfl | rw [if_pos (by omega)])
  try simp only [Act.put, List.setIfInBounds_toArray, List.set_cons_zero, List.set_cons_succ]
  refine wpAnyH_take (i := 2) (oi := ⟨_, _, _, _, _, _⟩) (v := ?_) rfl (by kernel_rfl) (by kernel_rfl) (by kernel_rfl) (fun _ _ _ h => h) (Or.inl ⟨by rfl, ?_⟩) hHeld ?_
  rotate_left
  · intro w hSw
    have hb : NBox w X 49 _ := hSw
    have g0 := hb.cell 0
    have g1 := hb.cell 1
    have g2 := hb.cell 2
    clear hb hSw
    go_simp
    all_goals (first | with_reducible rfl | rw [if_pos (by omega)])
  try simp only [Act.put, List.setIfInBounds_toArray, List.set_cons_zero, List.set_cons_succ]
  refine wpAnyH_ready (rs := [1, 3]) (by kernel_rfl) (by simp) ?_
  refine AllReadyH.cons (o := ⟨_, _, _, _, _, _⟩) rfl (fun K' hK => ?_) (AllReadyH.cons (o := ⟨_, _, _, _, _, _⟩) rfl (fun K' hK => ?_) AllReadyH.nil)
  · -- the path first
    have hq := clone_any p _ c0 (RdS.ext HE.out HP.out) hl
    go_simp
    go_at_call 41
    refine hq.mono ?_
    clear hq
    rintro e w2 ⟨r, rfl, hO, hE⟩
    have HO := Lib.hid (owns_lo hO HE.out.size)
    obtain ⟨nA, nc, rfl, -⟩ := RdS.of_owns hO
    have HE' := Lib.hid (HE.out.trans hE)
    refine hK.out _ _ (show NBox _ _ _ _ from NBox.ext hE hHeld) (fun hHeld => ?_)
    clear hK K' hE
    try simp only [Act.put, List.setIfInBounds_toArray, List.set_cons_zero, List.set_cons_succ]
    clear hO
    clear HE
    have HE := HE'
    clear HE'
    obtain ⟨w3, hww3⟩ : ∃ W, w2.alloc (.cells #[.int .i64 x.keep, .int .i64 x.drop, .string x.put] 49) = W := ⟨_, rfl⟩
    obtain ⟨q, hq⟩ : ∃ g, w2.heap.size = g := ⟨_, rfl⟩
    have hE : Ext w2 w3 := by rw [← hww3]; exact (Ext.refl _).alloc _
    have HNq := Lib.hid (show NBox w3 q 49 #[.int .i64 x.keep, .int .i64 x.drop, .string x.put] from by rw [← hww3, ← hq]; exact NBox.new _ _ _)
    have HLq := Lib.hid (show w.heap.size ≤ q from by rw [← hq]; exact HE.out.size)
    have HE' := Lib.hid (HE.out.trans hE)
    have HWw3 := Lib.hid hww3
    have HSq := Lib.hid hq
    clear hww3 hq
    have HO' := Lib.hid (owns_ext hE HO.out)
    refine wpAnyH_ready (rs := [3]) (by kernel_rfl) (by simp) ?_
    refine AllReadyH.cons (o := ⟨_, _, _, _, _, _⟩) rfl (fun K' hK => ?_) AllReadyH.nil
    go_simp
    rw [HWw3.out, HSq.out]
    refine hK.out _ _ (show NBox _ _ _ _ from NBox.ext hE hHeld) (fun hHeld => ?_)
    clear hK K' hE
    try simp only [Act.put, List.setIfInBounds_toArray, List.set_cons_zero, List.set_cons_succ]
    clear HE
    have HE := HE'
    clear HE'
    clear HO
    have HO := HO'
    clear HO'
    refine wpAnyH_take (i := 4) (oi := ⟨_, _, _, _, _, _⟩) (v := ?_) rfl (by kernel_rfl) (by kernel_rfl) (by kernel_rfl) (fun _ _ _ h => h) (Or.inl ⟨by rfl, ?_⟩) hHeld ?_
    rotate_left
    · intro w hSw
      try dsimp only at hSw
      go_simp
      all_goals (first | with_reducible rfl | rw [if_pos (by omega)])
    try simp only [Act.put, List.setIfInBounds_toArray, List.set_cons_zero, List.set_cons_succ]
    obtain ⟨w4, hww4⟩ : ∃ W, w3.alloc (.cells #[.int .u8 6, .slice nA p.length nc, .int .i64 0, .slice none 0 0, .int .u64 0, .bool false, .string ⟨#[]⟩, .string ⟨#[]⟩, .string ⟨#[]⟩, .bool false, .slice (some ⟨q, 0, none⟩) 1 1] 38) = W := ⟨_, rfl⟩
    obtain ⟨g, hg⟩ : ∃ g, w3.heap.size = g := ⟨_, rfl⟩
    have hE : Ext w3 w4 := by rw [← hww4]; exact (Ext.refl _).alloc _
    have HNg := Lib.hid (show NBox w4 g 38 #[.int .u8 6, .slice nA p.length nc, .int .i64 0, .slice none 0 0, .int .u64 0, .bool false, .string ⟨#[]⟩, .string ⟨#[]⟩, .string ⟨#[]⟩, .bool false, .slice (some ⟨q, 0, none⟩) 1 1] from by rw [← hww4, ← hg]; exact NBox.new _ _ _)
    have HLg := Lib.hid (show w.heap.size ≤ g from by rw [← hg]; exact HE.out.size)
    have HE' := Lib.hid (HE.out.trans hE)
    have HWw4 := Lib.hid hww4
    have HSg := Lib.hid hg
    clear hww4 hg
    have HO' := Lib.hid (owns_ext hE HO.out)
    have HNq' := Lib.hid (HNq.out.ext hE)
    have HBg := Lib.hid (show (Value.slice nA p.length nc).ownBlock ≠ some g from fun h => absurd (HO.out.lt g h).2 (by rw [← HSg.out]; exact Nat.lt_irrefl _))
    have HQg := Lib.hid (show q ≠ g from fun h => absurd HNq.out.lt (by rw [h, ← HSg.out]; exact Nat.lt_irrefl _))
    refine wpAnyH_ready (rs := [5]) (by kernel_rfl) (by simp) ?_
    refine AllReadyH.cons (o := ⟨_, _, _, _, _, _⟩) rfl (fun K' hK => ?_) AllReadyH.nil
    go_simp
    rw [HWw4.out, HSg.out]
    refine hK.out _ _ (show NBox _ _ _ _ from NBox.ext hE hHeld) (fun hHeld => ?_)
    clear hK K' hE
    try simp only [Act.put, List.setIfInBounds_toArray, List.set_cons_zero, List.set_cons_succ]
    clear HE
    have HE := HE'
    clear HE'
    clear HO
    have HO := HO'
    clear HO'
    clear HNq
    have HNq := HNq'
    clear HNq'
    refine wpAnyH_take (i := 6) (oi := ⟨_, _, _, _, _, _⟩) (v := ?_) rfl (by kernel_rfl) (by kernel_rfl) (by kernel_rfl) (fun _ _ _ h => h) (Or.inl ⟨by rfl, ?_⟩) hHeld ?_
    rotate_left
    · intro w hSw
      try dsimp only at hSw
      go_simp
      all_goals (first | with_reducible rfl | rw [if_pos (by omega)])
    try simp only [Act.put, List.setIfInBounds_toArray, List.set_cons_zero, List.set_cons_succ]
    refine wpAnyH_done (by kernel_rfl) ?_ _
    clear hHeld
    go_wp2_with fail
    go_ret
    exact ⟨HE.out, _, rfl, lsV.one HNg.out HLg.out (editO_late HO.out HNq.out HLq.out HBg.out HQg.out hx)⟩
  · -- the piece first
    obtain ⟨w2, hww2⟩ : ∃ W, c0.alloc (.cells #[.int .i64 x.keep, .int .i64 x.drop, .string x.put] 49) = W := ⟨_, rfl⟩
    obtain ⟨q, hq⟩ : ∃ g, c0.heap.size = g := ⟨_, rfl⟩
    have hE : Ext c0 w2 := by rw [← hww2]; exact (Ext.refl _).alloc _
    have HNq := Lib.hid (show NBox w2 q 49 #[.int .i64 x.keep, .int .i64 x.drop, .string x.put] from by rw [← hww2, ← hq]; exact NBox.new _ _ _)
    have HLq := Lib.hid (show w.heap.size ≤ q from by rw [← hq]; exact HE.out.size)
    have HE' := Lib.hid (HE.out.trans hE)
    have HWw2 := Lib.hid hww2
    have HSq := Lib.hid hq
    clear hww2 hq
    go_simp
    rw [HWw2.out, HSq.out]
    refine hK.out _ _ (show NBox _ _ _ _ from NBox.ext hE hHeld) (fun hHeld => ?_)
    clear hK K' hE
    try simp only [Act.put, List.setIfInBounds_toArray, List.set_cons_zero, List.set_cons_succ]
    clear HE
    have HE := HE'
    clear HE'
    refine wpAnyH_ready (rs := [1]) (by kernel_rfl) (by simp) ?_
    refine AllReadyH.cons (o := ⟨_, _, _, _, _, _⟩) rfl (fun K' hK => ?_) AllReadyH.nil
    have hq := clone_any p _ w2 (RdS.ext HE.out HP.out) hl
    go_simp
    go_at_call 41
    refine hq.mono ?_
    clear hq
    rintro e w3 ⟨r, rfl, hO, hE⟩
    have HO := Lib.hid (owns_lo hO HE.out.size)
    obtain ⟨nA, nc, rfl, -⟩ := RdS.of_owns hO
    have HE' := Lib.hid (HE.out.trans hE)
    have HNq' := Lib.hid (HNq.out.ext hE)
    refine hK.out _ _ (show NBox _ _ _ _ from NBox.ext hE hHeld) (fun hHeld => ?_)
    clear hK K' hE
    try simp only [Act.put, List.setIfInBounds_toArray, List.set_cons_zero, List.set_cons_succ]
    clear hO
    clear HE
    have HE := HE'
    clear HE'
    clear HNq
    have HNq := HNq'
    clear HNq'
    refine wpAnyH_take (i := 4) (oi := ⟨_, _, _, _, _, _⟩) (v := ?_) rfl (by kernel_rfl) (by kernel_rfl) (by kernel_rfl) (fun _ _ _ h => h) (Or.inl ⟨by rfl, ?_⟩) hHeld ?_
    rotate_left
    · intro w hSw
      try dsimp only at hSw
      go_simp
      all_goals (first | with_reducible rfl | rw [if_pos (by omega)])
    try simp only [Act.put, List.setIfInBounds_toArray, List.set_cons_zero, List.set_cons_succ]
    obtain ⟨w4, hww4⟩ : ∃ W, w3.alloc (.cells #[.int .u8 6, .slice nA p.length nc, .int .i64 0, .slice none 0 0, .int .u64 0, .bool false, .string ⟨#[]⟩, .string ⟨#[]⟩, .string ⟨#[]⟩, .bool false, .slice (some ⟨q, 0, none⟩) 1 1] 38) = W := ⟨_, rfl⟩
    obtain ⟨g, hg⟩ : ∃ g, w3.heap.size = g := ⟨_, rfl⟩
    have hE : Ext w3 w4 := by rw [← hww4]; exact (Ext.refl _).alloc _
    have HNg := Lib.hid (show NBox w4 g 38 #[.int .u8 6, .slice nA p.length nc, .int .i64 0, .slice none 0 0, .int .u64 0, .bool false, .string ⟨#[]⟩, .string ⟨#[]⟩, .string ⟨#[]⟩, .bool false, .slice (some ⟨q, 0, none⟩) 1 1] from by rw [← hww4, ← hg]; exact NBox.new _ _ _)
    have HLg := Lib.hid (show w.heap.size ≤ g from by rw [← hg]; exact HE.out.size)
    have HE' := Lib.hid (HE.out.trans hE)
    have HWw4 := Lib.hid hww4
    have HSg := Lib.hid hg
    clear hww4 hg
    have HO' := Lib.hid (owns_ext hE HO.out)
    have HNq' := Lib.hid (HNq.out.ext hE)
    have HBg := Lib.hid (show (Value.slice nA p.length nc).ownBlock ≠ some g from fun h => absurd (HO.out.lt g h).2 (by rw [← HSg.out]; exact Nat.lt_irrefl _))
    have HQg := Lib.hid (show q ≠ g from fun h => absurd HNq.out.lt (by rw [h, ← HSg.out]; exact Nat.lt_irrefl _))
    refine wpAnyH_ready (rs := [5]) (by kernel_rfl) (by simp) ?_
    refine AllReadyH.cons (o := ⟨_, _, _, _, _, _⟩) rfl (fun K' hK => ?_) AllReadyH.nil
    go_simp
    rw [HWw4.out, HSg.out]
    refine hK.out _ _ (show NBox _ _ _ _ from NBox.ext hE hHeld) (fun hHeld => ?_)
    clear hK K' hE
    try simp only [Act.put, List.setIfInBounds_toArray, List.set_cons_zero, List.set_cons_succ]
    clear HE
    have HE := HE'
    clear HE'
    clear HO
    have HO := HO'
    clear HO'
    clear HNq
    have HNq := HNq'
    clear HNq'
    refine wpAnyH_take (i := 6) (oi := ⟨_, _, _, _, _, _⟩) (v := ?_) rfl (by kernel_rfl) (by kernel_rfl) (by kernel_rfl) (fun _ _ _ h => h) (Or.inl ⟨by rfl, ?_⟩) hHeld ?_
    rotate_left
    · intro w hSw
      try dsimp only at hSw
      go_simp
      all_goals (first | with_reducible rfl | rw [if_pos (by omega)])
    try simp only [Act.put, List.setIfInBounds_toArray, List.set_cons_zero, List.set_cons_succ]
    refine wpAnyH_done (by kernel_rfl) ?_ _
    clear hHeld
    go_wp2_with fail
    go_ret
    exact ⟨HE.out, _, rfl, lsV.one HNg.out HLg.out (editO_late HO.out HNq.out HLq.out HBg.out HQg.out hx)⟩
end Go.Proofs.Ytofcbclokkjfjaa.Wi
