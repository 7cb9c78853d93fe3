/- Chapter 10: which operations are idle: Idle (9), the document's (10). (Printed by gsyidle.py.) -/
import Derived.Test.YtkimbpeapolcbaaSyBsFormedb
import Derived.Test.YtkimbpeapolcbaaSyBsFormedRb
import Derived.Test.YtkimbpeapolcbaaSyOuInts
import Derived.WalkKit
import Derived.Deep.Cut
import Derived.Deep.CutRange
import Derived.Deep.RegionHeld3
import Derived.BigQuiet
import Derived.IntWalk
namespace Go.Proofs.Ytkimbpeapolcbaa.Sy
open Go.RowKit Go.Proofs.Ytkimbpeapolcbaa.Bw Go.Proofs.Ytkimbpeapolcbaa.Bs

def lastGap (o : OpD) : Bool := decide (0 < o.path.length) && decide (o.path.dropLast = o.to) && (o.at_ == lastN o.path || o.at_ == lastN o.path + 1)
/-- Does an operation do nothing? -/
def idleD (o : OpD) : Bool := o.formed && (if o.kind = 6 then decide ((normR o.pcs).length = 0) else if o.kind = 3 then lastGap o else false)
theorem formed_may {o : OpD} (h : o.formed = true) : may o.path = true := by
  unfold OpD.formed at h
  rw [Bool.and_eq_true] at h
  exact h.1
theorem may_last {p : List Int} (h : may p = true) (hp : 0 < p.length) : 0 ≤ lastN p ∧ lastN p < 1048576 := by
  have hne : p ≠ [] := List.length_pos_iff.1 hp
  unfold may at h
  rw [Bool.and_eq_true] at h
  have hm : lastN p ∈ p := List.mem_of_getElem? (last_at hne)
  have := List.all_eq_true.1 h.2 _ hm
  unfold okN at this
  simp only [Bool.and_eq_true, decide_eq_true_eq] at this
  omega
theorem rdO_cells {W : World} {o : OpD} {v : Value} (h : o.rd W v) : ∃ pA pc tA tc cA cc, v = .agg #[.int .u8 o.kind, .slice pA o.path.length pc, .int .i64 o.at_, .slice tA o.to.length tc, .int .u64 o.id, .bool o.leaf, .string o.label, .string o.key, .string o.value, .bool o.gone, .slice cA o.pcs.length cc] ∧ RdI W o.path (.slice pA o.path.length pc) ∧ RdI W o.to (.slice tA o.to.length tc) ∧ RdP W o.pcs (.slice cA o.pcs.length cc) := by
  obtain ⟨pv, tv, cv, rfl, h1, h2, h3, -⟩ := h
  obtain ⟨pA, pc, rfl, -⟩ := id h1
  obtain ⟨tA, tc, rfl, -⟩ := id h2
  obtain ⟨cA, cc, rfl, -⟩ := id h3
  exact ⟨_, _, _, _, _, _, rfl, h1, h2, h3⟩
set_option maxRecDepth 100000 in
set_option maxHeartbeats 4000000 in
theorem idle_any (o : OpD) (v : Value) (w : World) (h : o.rd w v) : Calls Try.prog 9 #[v] w (Ret w fun r _ => r = .bool (idleD o)) := by
  have HRD := Lib.hid h
  obtain ⟨pA, pc, tA, tc, cA, cc, rfl, hP, hT, hC⟩ := rdO_cells h
  obtain ⟨w1, hw1⟩ : ∃ W, w.alloc (.cells #[.int .u8 o.kind, .slice pA o.path.length pc, .int .i64 o.at_, .slice tA o.to.length tc, .int .u64 o.id, .bool o.leaf, .string o.label, .string o.key, .string o.value, .bool o.gone, .slice cA o.pcs.length cc] 26) = W := ⟨_, rfl⟩
  obtain ⟨X, hX⟩ : ∃ X, w.heap.size = X := ⟨_, rfl⟩
  have E1 : Ext w w1 := by rw [← hw1]; exact (Ext.refl w).alloc _
  have HE := Lib.hid E1
  have HB := Lib.hid (show NBox w1 X 26 #[.int .u8 o.kind, .slice pA o.path.length pc, .int .i64 o.at_, .slice tA o.to.length tc, .int .u64 o.id, .bool o.leaf, .string o.label, .string o.key, .string o.value, .bool o.gone, .slice cA o.pcs.length cc] from by rw [← hw1, ← hX]; exact NBox.new _ _ _)
  have HP := Lib.hid hP
  have HT := Lib.hid hT
  have HC := Lib.hid hC
  have HW := Lib.hid hw1
  have HXX := Lib.hid hX
  have HID := Lib.hid (show idleD o = (o.formed && (if o.kind = 6 then decide ((normR o.pcs).length = 0) else if o.kind = 3 then lastGap o else false)) from rfl)
  have hc := formed_any o _ w1 (OpD.rd_ext E1 h)
  have HFM := Lib.hid (fun (hf : o.formed = true) => formed_may hf)
  obtain ⟨f, hf⟩ : ∃ f, o.formed = f := ⟨_, rfl⟩
  rw [hf] at hc HID HFM
  have k0 := HB.out.cell 0
  have k1 := HB.out.cell 1
  have k2 := HB.out.cell 2
  have k3 := HB.out.cell 3
  have k4 := HB.out.cell 4
  have k5 := HB.out.cell 5
  have k6 := HB.out.cell 6
  have k7 := HB.out.cell 7
  have k8 := HB.out.cell 8
  have k9 := HB.out.cell 9
  have k10 := HB.out.cell 10
  clear hw1 hX E1 h hP hT hC hf
  go_enter Try.func9, Try.ntmps9
  go_upto_region 1 with fail
  rw [HW.out, HXX.out]
  clear HW HXX
  go_wp2_with fail
  refine hc.mono ?_
  clear hc k0 k1 k2 k3 k4 k5 k6 k7 k8 k9 k10
  rintro e w2 ⟨r, rfl, rfl, hE⟩
  have HE' := Lib.hid (HE.out.trans hE)
  have HB' := Lib.hid (HB.out.ext hE)
  clear hE HE HB
  have HE := HE'
  have HB := HB'
  clear HE' HB'
  cases f with
  | false =>
    go_wp2_with fail
    go_ret
    exact ⟨_, rfl, by rw [HID.out]; rfl, HE.out⟩
  | true =>
  have HMAY := Lib.hid (HFM.out rfl)
  clear HFM
  have hlen := may_len HMAY.out
  have k0 := HB.out.cell 0
  by_cases h6 : o.kind = 6
  · have t6 : (o.kind == 6) = true := beq_iff_eq.2 h6
    have HR : Hid (idleD o = decide ((normR o.pcs).length = 0)) := Lib.hid (by rw [HID.out, if_pos h6]; rfl)
    have k10 := HB.out.cell 10
    have hq := Norm_any o.pcs _ w2 (RdP.ext HE.out HC.out)
    clear h6
    go_wp2_with fail
    refine hq.mono ?_
    clear hq k0 k10
    rintro e w3 ⟨v', rfl, hO, hE⟩
    have HE2 := Lib.hid (HE.out.trans hE)
    obtain ⟨nA, nc, rfl, -⟩ := RdS.of_owns hO
    obtain ⟨n, hn⟩ : ∃ n, (normR o.pcs).length = n := ⟨_, rfl⟩
    rw [hn] at HR
    have HT0 := Lib.hid (show ((n : Int) == 0) = decide (n = 0) from by by_cases h : n = 0 <;> simp [h])
    rw [hn]
    clear hE hO hn
    go_wp2_with fail
    go_ret
    exact ⟨_, rfl, congrArg Value.bool (HT0.out.trans HR.out.symm), HE2.out⟩
  have t6 : (o.kind == 6) = false := beq_eq_false_iff_ne.2 h6
  by_cases h3 : o.kind = 3
  · have t3 : (o.kind == 3) = true := beq_iff_eq.2 h3
    have HR : Hid (idleD o = lastGap o) := Lib.hid (by rw [HID.out, if_neg h6, if_pos h3]; rfl)
    have k1 := HB.out.cell 1
    have hq := parentB_any o.path _ w2 (RdS.ext HE.out HP.out) (by omega)
    clear h6 h3
    go_wp2_with fail
    refine hq.mono ?_
    clear hq k0 k1
    rintro e w3 ⟨r, rfl, ⟨r', rfl, hO⟩, hE⟩
    have HE2 := Lib.hid (HE.out.trans hE)
    have HB2 := Lib.hid (HB.out.ext hE)
    have HO := Lib.hid hO
    obtain ⟨uA, uc, rfl, -⟩ := RdS.of_owns hO
    clear hE hO HE HB
    rcases Nat.eq_zero_or_pos o.path.length with hz | hz
    · have b0 : decide (0 < o.path.length) = false := decide_eq_false (by omega)
      have HF : Hid (lastGap o = false) := Lib.hid (by unfold lastGap; rw [b0]; rfl)
      go_wp2_with fail
      go_ret
      exact ⟨_, rfl, (congrArg Value.bool (HR.out.trans HF.out)).symm, HE2.out⟩
    · have b0 : decide (0 < o.path.length) = true := decide_eq_true hz
      obtain ⟨hl0, hl1⟩ := may_last HMAY.out hz
      have q7 : IntKind.i64.wrap (lastN o.path + 1) = lastN o.path + 1 := IntWalk.i64_in _ (by omega)
      have HF := Lib.hid (show lastGap o = (decide (o.path.dropLast = o.to) && (o.at_ == lastN o.path || o.at_ == lastN o.path + 1)) from by unfold lastGap; rw [b0]; rfl)
      have hq := pathSame_any o.path.dropLast o.to _ _ w3 (RdS.of_owns HO.out) (RdS.ext HE2.out HT.out)
      have k3 := HB2.out.cell 3
      obtain ⟨s, hs⟩ : ∃ s, decide (o.path.dropLast = o.to) = s := ⟨_, rfl⟩
      rw [hs] at hq HF
      obtain ⟨dl, hdl⟩ : ∃ d, o.path.dropLast.length = d := ⟨_, rfl⟩
      rw [hdl] at hq ⊢
      clear hs hdl HO
      go_wp2_with fail
      refine hq.mono ?_
      clear hq k3
      rintro e w4 ⟨r, rfl, rfl, hE⟩
      have HE3 := Lib.hid (HE2.out.trans hE)
      have HB3 := Lib.hid (HB2.out.ext hE)
      clear hE HE2 HB2
      have k2 := HB3.out.cell 2
      cases s with
      | false =>
        go_wp2_with fail
        go_ret
        exact ⟨_, rfl, by rw [HR.out, HF.out]; rfl, HE3.out⟩
      | true =>
        rcases h4 : (o.at_ == lastN o.path) with _ | _
        · have HG : Hid (lastGap o = (o.at_ == lastN o.path + 1)) := Lib.hid (by rw [HF.out, h4]; rfl)
          go_wp2_with fail
          go_ret
          exact ⟨_, rfl, (congrArg Value.bool (HR.out.trans HG.out)).symm, HE3.out⟩
        · have HG : Hid (lastGap o = true) := Lib.hid (by rw [HF.out, h4]; rfl)
          go_wp2_with fail
          go_ret
          exact ⟨_, rfl, (congrArg Value.bool (HR.out.trans HG.out)).symm, HE3.out⟩
  have t3 : (o.kind == 3) = false := beq_eq_false_iff_ne.2 h3
  have HR : Hid (idleD o = false) := Lib.hid (by rw [HID.out, if_neg h6, if_neg h3]; rfl)
  clear h6 h3
  go_wp2_with fail
  go_ret
  exact ⟨_, rfl, (congrArg Value.bool HR.out).symm, HE.out⟩
set_option maxRecDepth 100000 in
set_option maxHeartbeats 4000000 in
theorem idleR_any (o : OpD) (v : Value) (w : World) (h : o.rd w v) : Calls Try.prog 10 #[v] w (Ret w fun r _ => r = .bool (idleD o)) := by
  have HRD := Lib.hid h
  obtain ⟨pA, pc, tA, tc, cA, cc, rfl, hP, hT, hC⟩ := rdO_cells h
  obtain ⟨w1, hw1⟩ : ∃ W, w.alloc (.cells #[.int .u8 o.kind, .slice pA o.path.length pc, .int .i64 o.at_, .slice tA o.to.length tc, .int .u64 o.id, .bool o.leaf, .string o.label, .string o.key, .string o.value, .bool o.gone, .slice cA o.pcs.length cc] 26) = W := ⟨_, rfl⟩
  obtain ⟨X, hX⟩ : ∃ X, w.heap.size = X := ⟨_, rfl⟩
  have E1 : Ext w w1 := by rw [← hw1]; exact (Ext.refl w).alloc _
  have HE := Lib.hid E1
  have HB := Lib.hid (show NBox w1 X 26 #[.int .u8 o.kind, .slice pA o.path.length pc, .int .i64 o.at_, .slice tA o.to.length tc, .int .u64 o.id, .bool o.leaf, .string o.label, .string o.key, .string o.value, .bool o.gone, .slice cA o.pcs.length cc] from by rw [← hw1, ← hX]; exact NBox.new _ _ _)
  have HP := Lib.hid hP
  have HT := Lib.hid hT
  have HC := Lib.hid hC
  have HW := Lib.hid hw1
  have HXX := Lib.hid hX
  have HID := Lib.hid (show idleD o = (o.formed && (if o.kind = 6 then decide ((normR o.pcs).length = 0) else if o.kind = 3 then lastGap o else false)) from rfl)
  have hc := formedR_any o _ w1 (OpD.rd_ext E1 h)
  have HFM := Lib.hid (fun (hf : o.formed = true) => formed_may hf)
  obtain ⟨f, hf⟩ : ∃ f, o.formed = f := ⟨_, rfl⟩
  rw [hf] at hc HID HFM
  have k0 := HB.out.cell 0
  have k1 := HB.out.cell 1
  have k2 := HB.out.cell 2
  have k3 := HB.out.cell 3
  have k4 := HB.out.cell 4
  have k5 := HB.out.cell 5
  have k6 := HB.out.cell 6
  have k7 := HB.out.cell 7
  have k8 := HB.out.cell 8
  have k9 := HB.out.cell 9
  have k10 := HB.out.cell 10
  clear hw1 hX E1 h hP hT hC hf
  go_enter Try.func10, Try.ntmps10
  go_upto_region 1 with fail
  rw [HW.out, HXX.out]
  clear HW HXX
  go_wp2_with fail
  refine hc.mono ?_
  clear hc k0 k1 k2 k3 k4 k5 k6 k7 k8 k9 k10
  rintro e w2 ⟨r, rfl, rfl, hE⟩
  have HE' := Lib.hid (HE.out.trans hE)
  have HB' := Lib.hid (HB.out.ext hE)
  clear hE HE HB
  have HE := HE'
  have HB := HB'
  clear HE' HB'
  cases f with
  | false =>
    go_wp2_with fail
    go_ret
    exact ⟨_, rfl, by rw [HID.out]; rfl, HE.out⟩
  | true =>
  have HMAY := Lib.hid (HFM.out rfl)
  clear HFM
  have hlen := may_len HMAY.out
  have k0 := HB.out.cell 0
  by_cases h6 : o.kind = 6
  · have t6 : (o.kind == 6) = true := beq_iff_eq.2 h6
    have HR : Hid (idleD o = decide ((normR o.pcs).length = 0)) := Lib.hid (by rw [HID.out, if_pos h6]; rfl)
    have k10 := HB.out.cell 10
    have hq := refNorm_any o.pcs _ w2 (RdP.ext HE.out HC.out)
    clear h6
    go_wp2_with fail
    refine hq.mono ?_
    clear hq k0 k10
    rintro e w3 ⟨v', rfl, hO, hE⟩
    have HE2 := Lib.hid (HE.out.trans hE)
    obtain ⟨nA, nc, rfl, -⟩ := RdS.of_owns hO
    obtain ⟨n, hn⟩ : ∃ n, (normR o.pcs).length = n := ⟨_, rfl⟩
    rw [hn] at HR
    have HT0 := Lib.hid (show ((n : Int) == 0) = decide (n = 0) from by by_cases h : n = 0 <;> simp [h])
    rw [hn]
    clear hE hO hn
    go_wp2_with fail
    go_ret
    exact ⟨_, rfl, congrArg Value.bool (HT0.out.trans HR.out.symm), HE2.out⟩
  have t6 : (o.kind == 6) = false := beq_eq_false_iff_ne.2 h6
  by_cases h3 : o.kind = 3
  case neg =>
    have t3 : (o.kind != 3) = true := bne_iff_ne.2 h3
    have HR : Hid (idleD o = false) := Lib.hid (by rw [HID.out, if_neg h6, if_neg h3]; rfl)
    clear h6 h3
    go_wp2_with fail
    go_ret
    exact ⟨_, rfl, (congrArg Value.bool HR.out).symm, HE.out⟩
  have t3 : (o.kind != 3) = false := by rw [h3]; rfl
  have HR : Hid (idleD o = lastGap o) := Lib.hid (by rw [HID.out, if_neg h6, if_pos h3]; rfl)
  have k1 := HB.out.cell 1
  clear h6 h3
  rcases Nat.eq_zero_or_pos o.path.length with hz | hz
  · have b0 : decide (0 < o.path.length) = false := decide_eq_false (by omega)
    have t1 : ((o.path.length : Int) == 0) = true := by rw [beq_iff_eq]; omega
    have t2 : (o.path.length == 0) = true := by rw [beq_iff_eq]; exact hz
    have HF : Hid (lastGap o = false) := Lib.hid (by unfold lastGap; rw [b0]; rfl)
    go_wp2_with fail
    go_ret
    exact ⟨_, rfl, (congrArg Value.bool (HR.out.trans HF.out)).symm, HE.out⟩
  have b0 : decide (0 < o.path.length) = true := decide_eq_true hz
  have t1 : ((o.path.length : Int) == 0) = false := by rw [beq_eq_false_iff_ne]; omega
  have t2 : (o.path.length == 0) = false := by rw [beq_eq_false_iff_ne]; omega
  obtain ⟨hl0, hl1⟩ := may_last HMAY.out hz
  have q7 : IntKind.i64.wrap (lastN o.path + 1) = lastN o.path + 1 := IntWalk.i64_in _ (by omega)
  have HF := Lib.hid (show lastGap o = (decide (o.path.dropLast = o.to) && (o.at_ == lastN o.path || o.at_ == lastN o.path + 1)) from by unfold lastGap; rw [b0]; rfl)
  have hne : o.path ≠ [] := List.length_pos_iff.1 hz
  have hrd := RdS.ext HE.out HP.out
  obtain ⟨A0, c0', e0, -, huc, hmx, hcell⟩ := hrd
  simp only [Value.slice.injEq, true_and] at e0
  obtain ⟨rfl, rfl⟩ := e0
  obtain ⟨ba, oa, rfl, cells⟩ := hcell hz
  have HLC := Lib.hid (cells (o.path.length - 1) (.int .i64 (lastN o.path)) (by rw [List.getElem?_map, last_at hne]; rfl))
  have r1 : (1 : Int) ≤ (o.path.length : Int) := by omega
  have r2 : (0 : Int) ≤ (o.path.length : Int) - 1 := by omega
  have r3 : (o.path.length : Int) - 1 < (o.path.length : Int) := by omega
  have r4 : ((o.path.length : Int) - 1).toNat = o.path.length - 1 := by omega
  have r5 : o.path.length - 1 ≤ pc := by omega
  have r6 : (o.path.length : Int) - 1 ≤ (pc : Int) := by omega
  have r7 : IntKind.i64.wrap ((o.path.length : Int) - 1) = (o.path.length : Int) - 1 := IntWalk.i64_in _ (by omega)
  have r8 : o.path.length - 1 < o.path.length := by omega
  clear cells hcell hne
  go_upto_region 8 with fail
  clear k0 k1
  obtain ⟨d0, hd0⟩ : ∃ d, w2.drew = d := ⟨_, rfl⟩
  have hE : Ext w2 d0 := by rw [← hd0]; exact (Ext.refl _).drew
  have HE2 := Lib.hid (HE.out.trans hE)
  have HB2 := Lib.hid (HB.out.ext hE)
  have HLC2 := Lib.hid (hE.cell HLC.out)
  clear hE HE HB HLC
  have hq := sameR_any o.path.dropLast o.to (.slice (some ⟨ba, oa, none⟩) (o.path.length - 1) pc) _ d0 (by
      have := RdI.take (RdS.ext HE2.out HP.out) (o.path.length - 1) (by omega)
      rw [dropLast_take] at this
      exact this) (RdS.ext HE2.out HT.out)
  obtain ⟨s, hs⟩ : ∃ s, decide (o.path.dropLast = o.to) = s := ⟨_, rfl⟩
  rw [hs] at hq HF
  clear hs
  refine wp_region_held_drew (S := (fun W => NBox W X 26 #[.int .u8 o.kind, .slice (some ⟨ba, oa, none⟩) o.path.length pc, .int .i64 o.at_, .slice tA o.to.length tc, .int .u64 o.id, .bool o.leaf, .string o.label, .string o.key, .string o.value, .bool o.gone, .slice cA o.pcs.length cc] ∧ W.cell? ⟨ba, oa + (o.path.length - 1), none⟩ = some (.int .i64 (lastN o.path)))) (by kernel_rfl) (by rw [hd0]; exact ⟨HB2.out, HLC2.out⟩) (fun hHeld => ?_)
  rw [hd0] at hHeld ⊢
  clear hd0
  refine wpAnyH_take (i := 0) (oi := ⟨_, _, _, _, _, _⟩) (v := ?_) rfl (by kernel_rfl) (by kernel_rfl) (by kernel_rfl) (fun _ _ _ h => h) (Or.inl ⟨by rfl, ?_⟩) hHeld ?_
  rotate_left
  · intro w hSw
    try dsimp only at hSw
    go_simp
    all_goals (first | with_reducible rfl | rw [if_pos (by omega)])
  try simp only [Act.put, List.setIfInBounds_toArray, List.set_cons_zero, List.set_cons_succ]
  refine wpAnyH_take (i := 1) (oi := ⟨_, _, _, _, _, _⟩) (v := ?_) rfl (by kernel_rfl) (by kernel_rfl) (by kernel_rfl) (fun _ _ _ h => h) (Or.inl ⟨by rfl, ?_⟩) hHeld ?_
  rotate_left
  · intro w hSw
    obtain ⟨hb, hz1⟩ : NBox w X 26 _ ∧ _ := hSw
    have g0 := hb.cell 0
    have g1 := hb.cell 1
    have g2 := hb.cell 2
    have g3 := hb.cell 3
    have g4 := hb.cell 4
    have g5 := hb.cell 5
    have g6 := hb.cell 6
    have g7 := hb.cell 7
    have g8 := hb.cell 8
    have g9 := hb.cell 9
    have g10 := hb.cell 10
    clear hb
    go_simp
    all_goals (first | with_reducible rfl | rw [if_pos (by omega)])
  try simp only [Act.put, List.setIfInBounds_toArray, List.set_cons_zero, List.set_cons_succ]
  refine wpAnyH_take (i := 2) (oi := ⟨_, _, _, _, _, _⟩) (v := ?_) rfl (by kernel_rfl) (by kernel_rfl) (by kernel_rfl) (fun _ _ _ h => h) (Or.inl ⟨by rfl, ?_⟩) hHeld ?_
  rotate_left
  · intro w hSw
    try dsimp only at hSw
    go_simp
    all_goals (first | with_reducible rfl | rw [if_pos (by omega)])
  try simp only [Act.put, List.setIfInBounds_toArray, List.set_cons_zero, List.set_cons_succ]
  refine wpAnyH_take (i := 3) (oi := ⟨_, _, _, _, _, _⟩) (v := ?_) rfl (by kernel_rfl) (by kernel_rfl) (by kernel_rfl) (fun _ _ _ h => h) (Or.inl ⟨by rfl, ?_⟩) hHeld ?_
  rotate_left
  · intro w hSw
    try dsimp only at hSw
    go_simp
    all_goals (first | with_reducible rfl | rw [if_pos (by omega)])
  try simp only [Act.put, List.setIfInBounds_toArray, List.set_cons_zero, List.set_cons_succ]
  refine wpAnyH_take (i := 4) (oi := ⟨_, _, _, _, _, _⟩) (v := ?_) rfl (by kernel_rfl) (by kernel_rfl) (by kernel_rfl) (fun _ _ _ h => h) (Or.inl ⟨by rfl, ?_⟩) hHeld ?_
  rotate_left
  · intro w hSw
    try dsimp only at hSw
    go_simp
    all_goals (first | with_reducible rfl | rw [if_pos (by omega)])
  try simp only [Act.put, List.setIfInBounds_toArray, List.set_cons_zero, List.set_cons_succ]
  refine wpAnyH_take (i := 5) (oi := ⟨_, _, _, _, _, _⟩) (v := ?_) rfl (by kernel_rfl) (by kernel_rfl) (by kernel_rfl) (fun _ _ _ h => h) (Or.inl ⟨by rfl, ?_⟩) hHeld ?_
  rotate_left
  · intro w hSw
    obtain ⟨hb, hz1⟩ : NBox w X 26 _ ∧ _ := hSw
    have g0 := hb.cell 0
    have g1 := hb.cell 1
    have g2 := hb.cell 2
    have g3 := hb.cell 3
    have g4 := hb.cell 4
    have g5 := hb.cell 5
    have g6 := hb.cell 6
    have g7 := hb.cell 7
    have g8 := hb.cell 8
    have g9 := hb.cell 9
    have g10 := hb.cell 10
    clear hb
    go_simp
    all_goals (first | with_reducible rfl | rw [if_pos (by omega)])
  try simp only [Act.put, List.setIfInBounds_toArray, List.set_cons_zero, List.set_cons_succ]
  refine wpAnyH_ready (rs := [6]) (by kernel_rfl) (by simp) ?_
  refine AllReadyH.cons (o := ⟨_, _, _, _, _, _⟩) rfl (fun K' hK => ?_) AllReadyH.nil
  go_simp
  go_at_call 32
  refine hq.mono ?_
  clear hq
  rintro e w4 ⟨r, rfl, rfl, hE⟩
  have HE3 := Lib.hid (HE2.out.trans hE)
  refine hK.out _ _ (show _ ∧ _ from ⟨hHeld.1.ext hE, hE.cell hHeld.2⟩) (fun hHeld => ?_)
  clear hK K' hE HE2 HB2 HLC2
  try simp only [Act.put, List.setIfInBounds_toArray, List.set_cons_zero, List.set_cons_succ]
  cases s with
  | false =>
    have HG : Hid (lastGap o = false) := Lib.hid (by rw [HF.out]; rfl)
    refine wpAnyH_take (i := 7) (oi := ⟨_, _, _, _, _, _⟩) (v := ?_) rfl (by kernel_rfl) (by kernel_rfl) (by kernel_rfl) (fun _ _ _ h => h) (Or.inl ⟨by rfl, ?_⟩) hHeld ?_
    rotate_left
    · intro w hSw
      try dsimp only at hSw
      go_simp
      all_goals (first | with_reducible rfl | rw [if_pos (by omega)])
    try simp only [Act.put, List.setIfInBounds_toArray, List.set_cons_zero, List.set_cons_succ]
    refine wpAnyH_take (i := 8) (oi := ⟨_, _, _, _, _, _⟩) (v := undef) rfl (by kernel_rfl) (by kernel_rfl) (by kernel_rfl) (fun _ _ _ h => h) (Or.inr ⟨by rfl, by rfl⟩) hHeld ?_
    try simp only [Act.put, List.setIfInBounds_toArray, List.set_cons_zero, List.set_cons_succ]
    refine wpAnyH_take (i := 9) (oi := ⟨_, _, _, _, _, _⟩) (v := undef) rfl (by kernel_rfl) (by kernel_rfl) (by kernel_rfl) (fun _ _ _ h => h) (Or.inr ⟨by rfl, by rfl⟩) hHeld ?_
    try simp only [Act.put, List.setIfInBounds_toArray, List.set_cons_zero, List.set_cons_succ]
    refine wpAnyH_take (i := 10) (oi := ⟨_, _, _, _, _, _⟩) (v := undef) rfl (by kernel_rfl) (by kernel_rfl) (by kernel_rfl) (fun _ _ _ h => h) (Or.inr ⟨by rfl, by rfl⟩) hHeld ?_
    try simp only [Act.put, List.setIfInBounds_toArray, List.set_cons_zero, List.set_cons_succ]
    refine wpAnyH_take (i := 11) (oi := ⟨_, _, _, _, _, _⟩) (v := undef) rfl (by kernel_rfl) (by kernel_rfl) (by kernel_rfl) (fun _ _ _ h => h) (Or.inr ⟨by rfl, by rfl⟩) hHeld ?_
    try simp only [Act.put, List.setIfInBounds_toArray, List.set_cons_zero, List.set_cons_succ]
    refine wpAnyH_take (i := 12) (oi := ⟨_, _, _, _, _, _⟩) (v := undef) rfl (by kernel_rfl) (by kernel_rfl) (by kernel_rfl) (fun _ _ _ h => h) (Or.inr ⟨by rfl, by rfl⟩) hHeld ?_
    try simp only [Act.put, List.setIfInBounds_toArray, List.set_cons_zero, List.set_cons_succ]
    refine wpAnyH_take (i := 13) (oi := ⟨_, _, _, _, _, _⟩) (v := undef) rfl (by kernel_rfl) (by kernel_rfl) (by kernel_rfl) (fun _ _ _ h => h) (Or.inr ⟨by rfl, by rfl⟩) hHeld ?_
    try simp only [Act.put, List.setIfInBounds_toArray, List.set_cons_zero, List.set_cons_succ]
    refine wpAnyH_take (i := 14) (oi := ⟨_, _, _, _, _, _⟩) (v := undef) rfl (by kernel_rfl) (by kernel_rfl) (by kernel_rfl) (fun _ _ _ h => h) (Or.inr ⟨by rfl, by rfl⟩) hHeld ?_
    try simp only [Act.put, List.setIfInBounds_toArray, List.set_cons_zero, List.set_cons_succ]
    refine wpAnyH_take (i := 15) (oi := ⟨_, _, _, _, _, _⟩) (v := undef) rfl (by kernel_rfl) (by kernel_rfl) (by kernel_rfl) (fun _ _ _ h => h) (Or.inr ⟨by rfl, by rfl⟩) hHeld ?_
    try simp only [Act.put, List.setIfInBounds_toArray, List.set_cons_zero, List.set_cons_succ]
    refine wpAnyH_take (i := 16) (oi := ⟨_, _, _, _, _, _⟩) (v := undef) rfl (by kernel_rfl) (by kernel_rfl) (by kernel_rfl) (fun _ _ _ h => h) (Or.inr ⟨by rfl, by rfl⟩) hHeld ?_
    try simp only [Act.put, List.setIfInBounds_toArray, List.set_cons_zero, List.set_cons_succ]
    refine wpAnyH_take (i := 17) (oi := ⟨_, _, _, _, _, _⟩) (v := undef) rfl (by kernel_rfl) (by kernel_rfl) (by kernel_rfl) (fun _ _ _ h => h) (Or.inr ⟨by rfl, by rfl⟩) hHeld ?_
    try simp only [Act.put, List.setIfInBounds_toArray, List.set_cons_zero, List.set_cons_succ]
    refine wpAnyH_take (i := 18) (oi := ⟨_, _, _, _, _, _⟩) (v := undef) rfl (by kernel_rfl) (by kernel_rfl) (by kernel_rfl) (fun _ _ _ h => h) (Or.inr ⟨by rfl, by rfl⟩) hHeld ?_
    try simp only [Act.put, List.setIfInBounds_toArray, List.set_cons_zero, List.set_cons_succ]
    refine wpAnyH_take (i := 19) (oi := ⟨_, _, _, _, _, _⟩) (v := undef) rfl (by kernel_rfl) (by kernel_rfl) (by kernel_rfl) (fun _ _ _ h => h) (Or.inr ⟨by rfl, by rfl⟩) hHeld ?_
    try simp only [Act.put, List.setIfInBounds_toArray, List.set_cons_zero, List.set_cons_succ]
    refine wpAnyH_take (i := 20) (oi := ⟨_, _, _, _, _, _⟩) (v := undef) rfl (by kernel_rfl) (by kernel_rfl) (by kernel_rfl) (fun _ _ _ h => h) (Or.inr ⟨by rfl, by rfl⟩) hHeld ?_
    try simp only [Act.put, List.setIfInBounds_toArray, List.set_cons_zero, List.set_cons_succ]
    refine wpAnyH_take (i := 21) (oi := ⟨_, _, _, _, _, _⟩) (v := undef) rfl (by kernel_rfl) (by kernel_rfl) (by kernel_rfl) (fun _ _ _ h => h) (Or.inr ⟨by rfl, by rfl⟩) hHeld ?_
    try simp only [Act.put, List.setIfInBounds_toArray, List.set_cons_zero, List.set_cons_succ]
    refine wpAnyH_take (i := 22) (oi := ⟨_, _, _, _, _, _⟩) (v := undef) rfl (by kernel_rfl) (by kernel_rfl) (by kernel_rfl) (fun _ _ _ h => h) (Or.inr ⟨by rfl, by rfl⟩) hHeld ?_
    try simp only [Act.put, List.setIfInBounds_toArray, List.set_cons_zero, List.set_cons_succ]
    refine wpAnyH_take (i := 23) (oi := ⟨_, _, _, _, _, _⟩) (v := undef) rfl (by kernel_rfl) (by kernel_rfl) (by kernel_rfl) (fun _ _ _ h => h) (Or.inr ⟨by rfl, by rfl⟩) hHeld ?_
    try simp only [Act.put, List.setIfInBounds_toArray, List.set_cons_zero, List.set_cons_succ]
    refine wpAnyH_take (i := 24) (oi := ⟨_, _, _, _, _, _⟩) (v := undef) rfl (by kernel_rfl) (by kernel_rfl) (by kernel_rfl) (fun _ _ _ h => h) (Or.inr ⟨by rfl, by rfl⟩) hHeld ?_
    try simp only [Act.put, List.setIfInBounds_toArray, List.set_cons_zero, List.set_cons_succ]
    refine wpAnyH_take (i := 25) (oi := ⟨_, _, _, _, _, _⟩) (v := undef) rfl (by kernel_rfl) (by kernel_rfl) (by kernel_rfl) (fun _ _ _ h => h) (Or.inr ⟨by rfl, by rfl⟩) hHeld ?_
    try simp only [Act.put, List.setIfInBounds_toArray, List.set_cons_zero, List.set_cons_succ]
    refine wpAnyH_take (i := 26) (oi := ⟨_, _, _, _, _, _⟩) (v := undef) rfl (by kernel_rfl) (by kernel_rfl) (by kernel_rfl) (fun _ _ _ h => h) (Or.inr ⟨by rfl, by rfl⟩) hHeld ?_
    try simp only [Act.put, List.setIfInBounds_toArray, List.set_cons_zero, List.set_cons_succ]
    refine wpAnyH_take (i := 27) (oi := ⟨_, _, _, _, _, _⟩) (v := ?_) rfl (by kernel_rfl) (by kernel_rfl) (by kernel_rfl) (fun _ _ _ h => h) (Or.inl ⟨by rfl, ?_⟩) hHeld ?_
    rotate_left
    · intro w hSw
      try dsimp only at hSw
      go_simp
      all_goals (first | with_reducible rfl | rw [if_pos (by omega)])
    try simp only [Act.put, List.setIfInBounds_toArray, List.set_cons_zero, List.set_cons_succ]
    refine wpAnyH_take (i := 28) (oi := ⟨_, _, _, _, _, _⟩) (v := ?_) rfl (by kernel_rfl) (by kernel_rfl) (by kernel_rfl) (fun _ _ _ h => h) (Or.inl ⟨by rfl, ?_⟩) hHeld ?_
    rotate_left
    · intro w hSw
      try dsimp only at hSw
      go_simp
      all_goals (first | with_reducible rfl | rw [if_pos (by omega)])
    try simp only [Act.put, List.setIfInBounds_toArray, List.set_cons_zero, List.set_cons_succ]
    refine wpAnyH_done (by kernel_rfl) ?_ _
    clear hHeld
    go_wp2_with fail
    go_ret
    exact ⟨_, rfl, (congrArg Value.bool (HR.out.trans HG.out)).symm, HE3.out⟩
  | true =>
  rcases h4 : (o.at_ == lastN o.path) with _ | _
  · have HG : Hid (lastGap o = (o.at_ == lastN o.path + 1)) := Lib.hid (by rw [HF.out, h4]; rfl)
    refine wpAnyH_take (i := 7) (oi := ⟨_, _, _, _, _, _⟩) (v := ?_) rfl (by kernel_rfl) (by kernel_rfl) (by kernel_rfl) (fun _ _ _ h => h) (Or.inl ⟨by rfl, ?_⟩) hHeld ?_
    rotate_left
    · intro w hSw
      try dsimp only at hSw
      go_simp
      all_goals (first | with_reducible rfl | rw [if_pos (by omega)])
    try simp only [Act.put, List.setIfInBounds_toArray, List.set_cons_zero, List.set_cons_succ]
    refine wpAnyH_take (i := 8) (oi := ⟨_, _, _, _, _, _⟩) (v := ?_) rfl (by kernel_rfl) (by kernel_rfl) (by kernel_rfl) (fun _ _ _ h => h) (Or.inl ⟨by rfl, ?_⟩) hHeld ?_
    rotate_left
    · intro w hSw
      try dsimp only at hSw
      go_simp
      all_goals (first | with_reducible rfl | rw [if_pos (by omega)])
    try simp only [Act.put, List.setIfInBounds_toArray, List.set_cons_zero, List.set_cons_succ]
    refine wpAnyH_take (i := 9) (oi := ⟨_, _, _, _, _, _⟩) (v := ?_) rfl (by kernel_rfl) (by kernel_rfl) (by kernel_rfl) (fun _ _ _ h => h) (Or.inl ⟨by rfl, ?_⟩) hHeld ?_
    rotate_left
    · intro w hSw
      obtain ⟨hb, hz1⟩ : NBox w X 26 _ ∧ _ := hSw
      have g0 := hb.cell 0
      have g1 := hb.cell 1
      have g2 := hb.cell 2
      have g3 := hb.cell 3
      have g4 := hb.cell 4
      have g5 := hb.cell 5
      have g6 := hb.cell 6
      have g7 := hb.cell 7
      have g8 := hb.cell 8
      have g9 := hb.cell 9
      have g10 := hb.cell 10
      clear hb
      go_simp
      all_goals (first | with_reducible rfl | rw [if_pos (by omega)])
    try simp only [Act.put, List.setIfInBounds_toArray, List.set_cons_zero, List.set_cons_succ]
    refine wpAnyH_take (i := 10) (oi := ⟨_, _, _, _, _, _⟩) (v := ?_) rfl (by kernel_rfl) (by kernel_rfl) (by kernel_rfl) (fun _ _ _ h => h) (Or.inl ⟨by rfl, ?_⟩) hHeld ?_
    rotate_left
    · intro w hSw
      try dsimp only at hSw
      go_simp
      all_goals (first | with_reducible rfl | rw [if_pos (by omega)])
    try simp only [Act.put, List.setIfInBounds_toArray, List.set_cons_zero, List.set_cons_succ]
    refine wpAnyH_take (i := 11) (oi := ⟨_, _, _, _, _, _⟩) (v := ?_) rfl (by kernel_rfl) (by kernel_rfl) (by kernel_rfl) (fun _ _ _ h => h) (Or.inl ⟨by rfl, ?_⟩) hHeld ?_
    rotate_left
    · intro w hSw
      obtain ⟨hb, hz1⟩ : NBox w X 26 _ ∧ _ := hSw
      have g0 := hb.cell 0
      have g1 := hb.cell 1
      have g2 := hb.cell 2
      have g3 := hb.cell 3
      have g4 := hb.cell 4
      have g5 := hb.cell 5
      have g6 := hb.cell 6
      have g7 := hb.cell 7
      have g8 := hb.cell 8
      have g9 := hb.cell 9
      have g10 := hb.cell 10
      clear hb
      go_simp
      all_goals (first | with_reducible rfl | rw [if_pos (by omega)])
    try simp only [Act.put, List.setIfInBounds_toArray, List.set_cons_zero, List.set_cons_succ]
    refine wpAnyH_take (i := 12) (oi := ⟨_, _, _, _, _, _⟩) (v := ?_) rfl (by kernel_rfl) (by kernel_rfl) (by kernel_rfl) (fun _ _ _ h => h) (Or.inl ⟨by rfl, ?_⟩) hHeld ?_
    rotate_left
    · intro w hSw
      try dsimp only at hSw
      go_simp
      all_goals (first | with_reducible rfl | rw [if_pos (by omega)])
    try simp only [Act.put, List.setIfInBounds_toArray, List.set_cons_zero, List.set_cons_succ]
    refine wpAnyH_take (i := 13) (oi := ⟨_, _, _, _, _, _⟩) (v := ?_) rfl (by kernel_rfl) (by kernel_rfl) (by kernel_rfl) (fun _ _ _ h => h) (Or.inl ⟨by rfl, ?_⟩) hHeld ?_
    rotate_left
    · intro w hSw
      try dsimp only at hSw
      go_simp
      all_goals (first | with_reducible rfl | rw [if_pos (by omega)])
    try simp only [Act.put, List.setIfInBounds_toArray, List.set_cons_zero, List.set_cons_succ]
    refine wpAnyH_take (i := 14) (oi := ⟨_, _, _, _, _, _⟩) (v := ?_) rfl (by kernel_rfl) (by kernel_rfl) (by kernel_rfl) (fun _ _ _ h => h) (Or.inl ⟨by rfl, ?_⟩) hHeld ?_
    rotate_left
    · intro w hSw
      obtain ⟨hb, hz1⟩ : NBox w X 26 _ ∧ _ := hSw
      have g0 := hb.cell 0
      have g1 := hb.cell 1
      have g2 := hb.cell 2
      have g3 := hb.cell 3
      have g4 := hb.cell 4
      have g5 := hb.cell 5
      have g6 := hb.cell 6
      have g7 := hb.cell 7
      have g8 := hb.cell 8
      have g9 := hb.cell 9
      have g10 := hb.cell 10
      clear hb
      go_simp
      all_goals (first | with_reducible rfl | rw [if_pos (by omega)])
    try simp only [Act.put, List.setIfInBounds_toArray, List.set_cons_zero, List.set_cons_succ]
    refine wpAnyH_take (i := 15) (oi := ⟨_, _, _, _, _, _⟩) (v := ?_) rfl (by kernel_rfl) (by kernel_rfl) (by kernel_rfl) (fun _ _ _ h => h) (Or.inl ⟨by rfl, ?_⟩) hHeld ?_
    rotate_left
    · intro w hSw
      try dsimp only at hSw
      go_simp
      all_goals (first | with_reducible rfl | rw [if_pos (by omega)])
    try simp only [Act.put, List.setIfInBounds_toArray, List.set_cons_zero, List.set_cons_succ]
    refine wpAnyH_take (i := 16) (oi := ⟨_, _, _, _, _, _⟩) (v := ?_) rfl (by kernel_rfl) (by kernel_rfl) (by kernel_rfl) (fun _ _ _ h => h) (Or.inl ⟨by rfl, ?_⟩) hHeld ?_
    rotate_left
    · intro w hSw
      try dsimp only at hSw
      go_simp
      all_goals (first | with_reducible rfl | rw [if_pos (by omega)])
    try simp only [Act.put, List.setIfInBounds_toArray, List.set_cons_zero, List.set_cons_succ]
    refine wpAnyH_take (i := 17) (oi := ⟨_, _, _, _, _, _⟩) (v := ?_) rfl (by kernel_rfl) (by kernel_rfl) (by kernel_rfl) (fun _ _ _ h => h) (Or.inl ⟨by rfl, ?_⟩) hHeld ?_
    rotate_left
    · intro w hSw
      try dsimp only at hSw
      go_simp
      all_goals (first | with_reducible rfl | rw [if_pos (by omega)])
    try simp only [Act.put, List.setIfInBounds_toArray, List.set_cons_zero, List.set_cons_succ]
    refine wpAnyH_take (i := 18) (oi := ⟨_, _, _, _, _, _⟩) (v := ?_) rfl (by kernel_rfl) (by kernel_rfl) (by kernel_rfl) (fun _ _ _ h => h) (Or.inl ⟨by rfl, ?_⟩) hHeld ?_
    rotate_left
    · intro w hSw
      obtain ⟨hb, hz1⟩ : NBox w X 26 _ ∧ _ := hSw
      have g0 := hb.cell 0
      have g1 := hb.cell 1
      have g2 := hb.cell 2
      have g3 := hb.cell 3
      have g4 := hb.cell 4
      have g5 := hb.cell 5
      have g6 := hb.cell 6
      have g7 := hb.cell 7
      have g8 := hb.cell 8
      have g9 := hb.cell 9
      have g10 := hb.cell 10
      clear hb
      go_simp
      all_goals (first | with_reducible rfl | rw [if_pos (by omega)])
    try simp only [Act.put, List.setIfInBounds_toArray, List.set_cons_zero, List.set_cons_succ]
    refine wpAnyH_take (i := 19) (oi := ⟨_, _, _, _, _, _⟩) (v := ?_) rfl (by kernel_rfl) (by kernel_rfl) (by kernel_rfl) (fun _ _ _ h => h) (Or.inl ⟨by rfl, ?_⟩) hHeld ?_
    rotate_left
    · intro w hSw
      try dsimp only at hSw
      go_simp
      all_goals (first | with_reducible rfl | rw [if_pos (by omega)])
    try simp only [Act.put, List.setIfInBounds_toArray, List.set_cons_zero, List.set_cons_succ]
    refine wpAnyH_take (i := 20) (oi := ⟨_, _, _, _, _, _⟩) (v := ?_) rfl (by kernel_rfl) (by kernel_rfl) (by kernel_rfl) (fun _ _ _ h => h) (Or.inl ⟨by rfl, ?_⟩) hHeld ?_
    rotate_left
    · intro w hSw
      obtain ⟨hb, hz1⟩ : NBox w X 26 _ ∧ _ := hSw
      have g0 := hb.cell 0
      have g1 := hb.cell 1
      have g2 := hb.cell 2
      have g3 := hb.cell 3
      have g4 := hb.cell 4
      have g5 := hb.cell 5
      have g6 := hb.cell 6
      have g7 := hb.cell 7
      have g8 := hb.cell 8
      have g9 := hb.cell 9
      have g10 := hb.cell 10
      clear hb
      go_simp
      all_goals (first | with_reducible rfl | rw [if_pos (by omega)])
    try simp only [Act.put, List.setIfInBounds_toArray, List.set_cons_zero, List.set_cons_succ]
    refine wpAnyH_take (i := 21) (oi := ⟨_, _, _, _, _, _⟩) (v := ?_) rfl (by kernel_rfl) (by kernel_rfl) (by kernel_rfl) (fun _ _ _ h => h) (Or.inl ⟨by rfl, ?_⟩) hHeld ?_
    rotate_left
    · intro w hSw
      try dsimp only at hSw
      go_simp
      all_goals (first | with_reducible rfl | rw [if_pos (by omega)])
    try simp only [Act.put, List.setIfInBounds_toArray, List.set_cons_zero, List.set_cons_succ]
    refine wpAnyH_take (i := 22) (oi := ⟨_, _, _, _, _, _⟩) (v := ?_) rfl (by kernel_rfl) (by kernel_rfl) (by kernel_rfl) (fun _ _ _ h => h) (Or.inl ⟨by rfl, ?_⟩) hHeld ?_
    rotate_left
    · intro w hSw
      try dsimp only at hSw
      go_simp
      all_goals (first | with_reducible rfl | rw [if_pos (by omega)])
    try simp only [Act.put, List.setIfInBounds_toArray, List.set_cons_zero, List.set_cons_succ]
    refine wpAnyH_take (i := 23) (oi := ⟨_, _, _, _, _, _⟩) (v := ?_) rfl (by kernel_rfl) (by kernel_rfl) (by kernel_rfl) (fun _ _ _ h => h) (Or.inl ⟨by rfl, ?_⟩) hHeld ?_
    rotate_left
    · intro w hSw
      obtain ⟨hb, hz1⟩ : NBox w X 26 _ ∧ _ := hSw
      have g0 := hb.cell 0
      have g1 := hb.cell 1
      have g2 := hb.cell 2
      have g3 := hb.cell 3
      have g4 := hb.cell 4
      have g5 := hb.cell 5
      have g6 := hb.cell 6
      have g7 := hb.cell 7
      have g8 := hb.cell 8
      have g9 := hb.cell 9
      have g10 := hb.cell 10
      clear hb
      go_simp
      all_goals (first | with_reducible rfl | rw [if_pos (by omega)])
    try simp only [Act.put, List.setIfInBounds_toArray, List.set_cons_zero, List.set_cons_succ]
    refine wpAnyH_take (i := 24) (oi := ⟨_, _, _, _, _, _⟩) (v := ?_) rfl (by kernel_rfl) (by kernel_rfl) (by kernel_rfl) (fun _ _ _ h => h) (Or.inl ⟨by rfl, ?_⟩) hHeld ?_
    rotate_left
    · intro w hSw
      try dsimp only at hSw
      go_simp
      all_goals (first | with_reducible rfl | rw [if_pos (by omega)])
    try simp only [Act.put, List.setIfInBounds_toArray, List.set_cons_zero, List.set_cons_succ]
    refine wpAnyH_take (i := 25) (oi := ⟨_, _, _, _, _, _⟩) (v := ?_) rfl (by kernel_rfl) (by kernel_rfl) (by kernel_rfl) (fun _ _ _ h => h) (Or.inl ⟨by rfl, ?_⟩) hHeld ?_
    rotate_left
    · intro w hSw
      try dsimp only at hSw
      go_simp
      all_goals (first | with_reducible rfl | rw [if_pos (by omega)])
    try simp only [Act.put, List.setIfInBounds_toArray, List.set_cons_zero, List.set_cons_succ]
    refine wpAnyH_take (i := 26) (oi := ⟨_, _, _, _, _, _⟩) (v := ?_) rfl (by kernel_rfl) (by kernel_rfl) (by kernel_rfl) (fun _ _ _ h => h) (Or.inl ⟨by rfl, ?_⟩) hHeld ?_
    rotate_left
    · intro w hSw
      try dsimp only at hSw
      go_simp
      all_goals (first | with_reducible rfl | rw [if_pos (by omega)])
    try simp only [Act.put, List.setIfInBounds_toArray, List.set_cons_zero, List.set_cons_succ]
    refine wpAnyH_take (i := 27) (oi := ⟨_, _, _, _, _, _⟩) (v := ?_) rfl (by kernel_rfl) (by kernel_rfl) (by kernel_rfl) (fun _ _ _ h => h) (Or.inl ⟨by rfl, ?_⟩) hHeld ?_
    rotate_left
    · intro w hSw
      try dsimp only at hSw
      go_simp
      all_goals (first | with_reducible rfl | rw [if_pos (by omega)])
    try simp only [Act.put, List.setIfInBounds_toArray, List.set_cons_zero, List.set_cons_succ]
    refine wpAnyH_take (i := 28) (oi := ⟨_, _, _, _, _, _⟩) (v := ?_) rfl (by kernel_rfl) (by kernel_rfl) (by kernel_rfl) (fun _ _ _ h => h) (Or.inl ⟨by rfl, ?_⟩) hHeld ?_
    rotate_left
    · intro w hSw
      try dsimp only at hSw
      go_simp
      all_goals (first | with_reducible rfl | rw [if_pos (by omega)])
    try simp only [Act.put, List.setIfInBounds_toArray, List.set_cons_zero, List.set_cons_succ]
    refine wpAnyH_done (by kernel_rfl) ?_ _
    clear hHeld
    go_wp2_with fail
    go_ret
    exact ⟨_, rfl, (congrArg Value.bool (HR.out.trans HG.out)).symm, HE3.out⟩
  · have HG : Hid (lastGap o = true) := Lib.hid (by rw [HF.out, h4]; rfl)
    refine wpAnyH_take (i := 7) (oi := ⟨_, _, _, _, _, _⟩) (v := ?_) rfl (by kernel_rfl) (by kernel_rfl) (by kernel_rfl) (fun _ _ _ h => h) (Or.inl ⟨by rfl, ?_⟩) hHeld ?_
    rotate_left
    · intro w hSw
      try dsimp only at hSw
      go_simp
      all_goals (first | with_reducible rfl | rw [if_pos (by omega)])
    try simp only [Act.put, List.setIfInBounds_toArray, List.set_cons_zero, List.set_cons_succ]
    refine wpAnyH_take (i := 8) (oi := ⟨_, _, _, _, _, _⟩) (v := ?_) rfl (by kernel_rfl) (by kernel_rfl) (by kernel_rfl) (fun _ _ _ h => h) (Or.inl ⟨by rfl, ?_⟩) hHeld ?_
    rotate_left
    · intro w hSw
      try dsimp only at hSw
      go_simp
      all_goals (first | with_reducible rfl | rw [if_pos (by omega)])
    try simp only [Act.put, List.setIfInBounds_toArray, List.set_cons_zero, List.set_cons_succ]
    refine wpAnyH_take (i := 9) (oi := ⟨_, _, _, _, _, _⟩) (v := ?_) rfl (by kernel_rfl) (by kernel_rfl) (by kernel_rfl) (fun _ _ _ h => h) (Or.inl ⟨by rfl, ?_⟩) hHeld ?_
    rotate_left
    · intro w hSw
      obtain ⟨hb, hz1⟩ : NBox w X 26 _ ∧ _ := hSw
      have g0 := hb.cell 0
      have g1 := hb.cell 1
      have g2 := hb.cell 2
      have g3 := hb.cell 3
      have g4 := hb.cell 4
      have g5 := hb.cell 5
      have g6 := hb.cell 6
      have g7 := hb.cell 7
      have g8 := hb.cell 8
      have g9 := hb.cell 9
      have g10 := hb.cell 10
      clear hb
      go_simp
      all_goals (first | with_reducible rfl | rw [if_pos (by omega)])
    try simp only [Act.put, List.setIfInBounds_toArray, List.set_cons_zero, List.set_cons_succ]
    refine wpAnyH_take (i := 10) (oi := ⟨_, _, _, _, _, _⟩) (v := ?_) rfl (by kernel_rfl) (by kernel_rfl) (by kernel_rfl) (fun _ _ _ h => h) (Or.inl ⟨by rfl, ?_⟩) hHeld ?_
    rotate_left
    · intro w hSw
      try dsimp only at hSw
      go_simp
      all_goals (first | with_reducible rfl | rw [if_pos (by omega)])
    try simp only [Act.put, List.setIfInBounds_toArray, List.set_cons_zero, List.set_cons_succ]
    refine wpAnyH_take (i := 11) (oi := ⟨_, _, _, _, _, _⟩) (v := ?_) rfl (by kernel_rfl) (by kernel_rfl) (by kernel_rfl) (fun _ _ _ h => h) (Or.inl ⟨by rfl, ?_⟩) hHeld ?_
    rotate_left
    · intro w hSw
      obtain ⟨hb, hz1⟩ : NBox w X 26 _ ∧ _ := hSw
      have g0 := hb.cell 0
      have g1 := hb.cell 1
      have g2 := hb.cell 2
      have g3 := hb.cell 3
      have g4 := hb.cell 4
      have g5 := hb.cell 5
      have g6 := hb.cell 6
      have g7 := hb.cell 7
      have g8 := hb.cell 8
      have g9 := hb.cell 9
      have g10 := hb.cell 10
      clear hb
      go_simp
      all_goals (first | with_reducible rfl | rw [if_pos (by omega)])
    try simp only [Act.put, List.setIfInBounds_toArray, List.set_cons_zero, List.set_cons_succ]
    refine wpAnyH_take (i := 12) (oi := ⟨_, _, _, _, _, _⟩) (v := ?_) rfl (by kernel_rfl) (by kernel_rfl) (by kernel_rfl) (fun _ _ _ h => h) (Or.inl ⟨by rfl, ?_⟩) hHeld ?_
    rotate_left
    · intro w hSw
      try dsimp only at hSw
      go_simp
      all_goals (first | with_reducible rfl | rw [if_pos (by omega)])
    try simp only [Act.put, List.setIfInBounds_toArray, List.set_cons_zero, List.set_cons_succ]
    refine wpAnyH_take (i := 13) (oi := ⟨_, _, _, _, _, _⟩) (v := ?_) rfl (by kernel_rfl) (by kernel_rfl) (by kernel_rfl) (fun _ _ _ h => h) (Or.inl ⟨by rfl, ?_⟩) hHeld ?_
    rotate_left
    · intro w hSw
      try dsimp only at hSw
      go_simp
      all_goals (first | with_reducible rfl | rw [if_pos (by omega)])
    try simp only [Act.put, List.setIfInBounds_toArray, List.set_cons_zero, List.set_cons_succ]
    refine wpAnyH_take (i := 14) (oi := ⟨_, _, _, _, _, _⟩) (v := ?_) rfl (by kernel_rfl) (by kernel_rfl) (by kernel_rfl) (fun _ _ _ h => h) (Or.inl ⟨by rfl, ?_⟩) hHeld ?_
    rotate_left
    · intro w hSw
      obtain ⟨hb, hz1⟩ : NBox w X 26 _ ∧ _ := hSw
      have g0 := hb.cell 0
      have g1 := hb.cell 1
      have g2 := hb.cell 2
      have g3 := hb.cell 3
      have g4 := hb.cell 4
      have g5 := hb.cell 5
      have g6 := hb.cell 6
      have g7 := hb.cell 7
      have g8 := hb.cell 8
      have g9 := hb.cell 9
      have g10 := hb.cell 10
      clear hb
      go_simp
      all_goals (first | with_reducible rfl | rw [if_pos (by omega)])
    try simp only [Act.put, List.setIfInBounds_toArray, List.set_cons_zero, List.set_cons_succ]
    refine wpAnyH_take (i := 15) (oi := ⟨_, _, _, _, _, _⟩) (v := ?_) rfl (by kernel_rfl) (by kernel_rfl) (by kernel_rfl) (fun _ _ _ h => h) (Or.inl ⟨by rfl, ?_⟩) hHeld ?_
    rotate_left
    · intro w hSw
      try dsimp only at hSw
      go_simp
      all_goals (first | with_reducible rfl | rw [if_pos (by omega)])
    try simp only [Act.put, List.setIfInBounds_toArray, List.set_cons_zero, List.set_cons_succ]
    refine wpAnyH_take (i := 16) (oi := ⟨_, _, _, _, _, _⟩) (v := ?_) rfl (by kernel_rfl) (by kernel_rfl) (by kernel_rfl) (fun _ _ _ h => h) (Or.inl ⟨by rfl, ?_⟩) hHeld ?_
    rotate_left
    · intro w hSw
      try dsimp only at hSw
      go_simp
      all_goals (first | with_reducible rfl | rw [if_pos (by omega)])
    try simp only [Act.put, List.setIfInBounds_toArray, List.set_cons_zero, List.set_cons_succ]
    refine wpAnyH_take (i := 17) (oi := ⟨_, _, _, _, _, _⟩) (v := undef) rfl (by kernel_rfl) (by kernel_rfl) (by kernel_rfl) (fun _ _ _ h => h) (Or.inr ⟨by rfl, by rfl⟩) hHeld ?_
    try simp only [Act.put, List.setIfInBounds_toArray, List.set_cons_zero, List.set_cons_succ]
    refine wpAnyH_take (i := 18) (oi := ⟨_, _, _, _, _, _⟩) (v := undef) rfl (by kernel_rfl) (by kernel_rfl) (by kernel_rfl) (fun _ _ _ h => h) (Or.inr ⟨by rfl, by rfl⟩) hHeld ?_
    try simp only [Act.put, List.setIfInBounds_toArray, List.set_cons_zero, List.set_cons_succ]
    refine wpAnyH_take (i := 19) (oi := ⟨_, _, _, _, _, _⟩) (v := undef) rfl (by kernel_rfl) (by kernel_rfl) (by kernel_rfl) (fun _ _ _ h => h) (Or.inr ⟨by rfl, by rfl⟩) hHeld ?_
    try simp only [Act.put, List.setIfInBounds_toArray, List.set_cons_zero, List.set_cons_succ]
    refine wpAnyH_take (i := 20) (oi := ⟨_, _, _, _, _, _⟩) (v := undef) rfl (by kernel_rfl) (by kernel_rfl) (by kernel_rfl) (fun _ _ _ h => h) (Or.inr ⟨by rfl, by rfl⟩) hHeld ?_
    try simp only [Act.put, List.setIfInBounds_toArray, List.set_cons_zero, List.set_cons_succ]
    refine wpAnyH_take (i := 21) (oi := ⟨_, _, _, _, _, _⟩) (v := undef) rfl (by kernel_rfl) (by kernel_rfl) (by kernel_rfl) (fun _ _ _ h => h) (Or.inr ⟨by rfl, by rfl⟩) hHeld ?_
    try simp only [Act.put, List.setIfInBounds_toArray, List.set_cons_zero, List.set_cons_succ]
    refine wpAnyH_take (i := 22) (oi := ⟨_, _, _, _, _, _⟩) (v := undef) rfl (by kernel_rfl) (by kernel_rfl) (by kernel_rfl) (fun _ _ _ h => h) (Or.inr ⟨by rfl, by rfl⟩) hHeld ?_
    try simp only [Act.put, List.setIfInBounds_toArray, List.set_cons_zero, List.set_cons_succ]
    refine wpAnyH_take (i := 23) (oi := ⟨_, _, _, _, _, _⟩) (v := undef) rfl (by kernel_rfl) (by kernel_rfl) (by kernel_rfl) (fun _ _ _ h => h) (Or.inr ⟨by rfl, by rfl⟩) hHeld ?_
    try simp only [Act.put, List.setIfInBounds_toArray, List.set_cons_zero, List.set_cons_succ]
    refine wpAnyH_take (i := 24) (oi := ⟨_, _, _, _, _, _⟩) (v := undef) rfl (by kernel_rfl) (by kernel_rfl) (by kernel_rfl) (fun _ _ _ h => h) (Or.inr ⟨by rfl, by rfl⟩) hHeld ?_
    try simp only [Act.put, List.setIfInBounds_toArray, List.set_cons_zero, List.set_cons_succ]
    refine wpAnyH_take (i := 25) (oi := ⟨_, _, _, _, _, _⟩) (v := undef) rfl (by kernel_rfl) (by kernel_rfl) (by kernel_rfl) (fun _ _ _ h => h) (Or.inr ⟨by rfl, by rfl⟩) hHeld ?_
    try simp only [Act.put, List.setIfInBounds_toArray, List.set_cons_zero, List.set_cons_succ]
    refine wpAnyH_take (i := 26) (oi := ⟨_, _, _, _, _, _⟩) (v := ?_) rfl (by kernel_rfl) (by kernel_rfl) (by kernel_rfl) (fun _ _ _ h => h) (Or.inl ⟨by rfl, ?_⟩) hHeld ?_
    rotate_left
    · intro w hSw
      try dsimp only at hSw
      go_simp
      all_goals (first | with_reducible rfl | rw [if_pos (by omega)])
    try simp only [Act.put, List.setIfInBounds_toArray, List.set_cons_zero, List.set_cons_succ]
    refine wpAnyH_take (i := 27) (oi := ⟨_, _, _, _, _, _⟩) (v := ?_) rfl (by kernel_rfl) (by kernel_rfl) (by kernel_rfl) (fun _ _ _ h => h) (Or.inl ⟨by rfl, ?_⟩) hHeld ?_
    rotate_left
    · intro w hSw
      try dsimp only at hSw
      go_simp
      all_goals (first | with_reducible rfl | rw [if_pos (by omega)])
    try simp only [Act.put, List.setIfInBounds_toArray, List.set_cons_zero, List.set_cons_succ]
    refine wpAnyH_take (i := 28) (oi := ⟨_, _, _, _, _, _⟩) (v := ?_) rfl (by kernel_rfl) (by kernel_rfl) (by kernel_rfl) (fun _ _ _ h => h) (Or.inl ⟨by rfl, ?_⟩) hHeld ?_
    rotate_left
    · intro w hSw
      try dsimp only at hSw
      go_simp
      all_goals (first | with_reducible rfl | rw [if_pos (by omega)])
    try simp only [Act.put, List.setIfInBounds_toArray, List.set_cons_zero, List.set_cons_succ]
    refine wpAnyH_done (by kernel_rfl) ?_ _
    clear hHeld
    go_wp2_with fail
    go_ret
    exact ⟨_, rfl, (congrArg Value.bool (HR.out.trans HG.out)).symm, HE3.out⟩
end Go.Proofs.Ytkimbpeapolcbaa.Sy
