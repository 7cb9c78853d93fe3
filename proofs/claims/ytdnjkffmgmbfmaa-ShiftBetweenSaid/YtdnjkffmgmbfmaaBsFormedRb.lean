/- Chapter 11: formed operations. -/
import Derived.Test.YtdnjkffmgmbfmaaBsFormedRa
namespace Go.Proofs.Ytdnjkffmgmbfmaa.Bs
open Go.RowKit Go.Proofs.Ytdnjkffmgmbfmaa.Bw

set_option maxRecDepth 100000 in
set_option maxHeartbeats 4000000 in
theorem formedR_4 (o : OpD) (v : Value) (w : World) (h : o.rd w v) (hk : o.kind = 4) : Calls Try.prog 54 #[v] w (Ret w fun r _ => r = .bool o.formed) := by
 obtain ⟨pv, tv, cv, rfl, hP, hT, hC, s1, s2, s3⟩ := h
 have hP0 := hP
 have hT0 := hT
 have hC0 := hC
 obtain ⟨pA, pc, rfl, _⟩ := hP0
 obtain ⟨tA, tc, rfl, _⟩ := hT0
 obtain ⟨cA, cc, rfl, _⟩ := hC0
 unfold okStr maxLen at s1 s3
 obtain ⟨w1, hw1⟩ : ∃ w1, w.alloc (.cells #[.int .u8 o.kind, .slice pA o.path.length pc, .int .i64 o.at_, .slice tA o.to.length tc, .int .u64 o.id, .bool o.leaf, .string o.label, .string o.key, .string o.value, .bool o.gone, .slice cA o.pcs.length cc] 26) = w1 := ⟨_, rfl⟩
 have hE1 : Ext w w1 := by rw [← hw1]; exact (Ext.refl w).alloc _
 have B0 : w1.cell? ⟨w.heap.size, 0, none⟩ = some (.int .u8 o.kind) := by rw [← hw1]; exact (NBox.new _ _ _).cell 0
 have B1 : w1.cell? ⟨w.heap.size, 1, none⟩ = some (.slice pA o.path.length pc) := by rw [← hw1]; exact (NBox.new _ _ _).cell 1
 have B2 : w1.cell? ⟨w.heap.size, 2, none⟩ = some (.int .i64 o.at_) := by rw [← hw1]; exact (NBox.new _ _ _).cell 2
 have B7 : w1.cell? ⟨w.heap.size, 7, none⟩ = some (.string o.key) := by rw [← hw1]; exact (NBox.new _ _ _).cell 7
 have B8 : w1.cell? ⟨w.heap.size, 8, none⟩ = some (.string o.value) := by rw [← hw1]; exact (NBox.new _ _ _).cell 8
 have B9 : w1.cell? ⟨w.heap.size, 9, none⟩ = some (.bool o.gone) := by rw [← hw1]; exact (NBox.new _ _ _).cell 9
 have E := Ext.refl w1
 have H1 := Lib.hid hw1
 clear hw1
 have k1 : (o.kind == 1) = false := by rw [hk]; rfl
 have k2 : (o.kind == 2) = false := by rw [hk]; rfl
 have k3 : (o.kind == 3) = false := by rw [hk]; rfl
 have k4 : (o.kind == 4) = true := by rw [hk]; rfl
 have HF : Hid (o.formed = (may o.path && (keyOk o.key && (o.gone || decide (o.value.size ≤ 256))))) := by simp [Hid, OpD.formed, hk]
 have hcP : ∀ W, Ext w1 W → Calls Try.prog 67 #[.slice pA o.path.length pc] W (Ret W fun r _ => r = .bool (may o.path)) := fun W hW => mayR_any _ _ _ (RdS.ext (hE1.trans hW) hP)
 have hcK : ∀ W, Ext w1 W → Calls Try.prog 68 #[.string o.key] W (Ret W fun r _ => r = .bool (keyOk o.key)) := fun W hW => rkey_any _ _ s2
 clear hP hT hC s2 hk
 generalize may o.path = m at hcP HF
 generalize keyOk o.key = kb at hcK HF
 generalize hgn : o.gone = gn at *
 rcases m with _ | _
 ·go_enter Try.func54, Try.ntmps54
  go_wp2_with (first | (rw [H1.out]; clear H1) | (go_at_call 67; refine (hcP _ E).mono ?_; clear hcP; rintro e u ⟨r, rfl, rfl, hE⟩; replace E := Ext.trans E hE; clear hE; have B0' := E.cell B0; have B1' := E.cell B1; have B2' := E.cell B2; have B7' := E.cell B7; have B8' := E.cell B8; have B9' := E.cell B9) | (go_at_call 68; refine (hcK _ E).mono ?_; clear hcK; rintro e u ⟨r, rfl, rfl, hE⟩; replace E := Ext.trans E hE; clear hE; have B0' := E.cell B0; have B1' := E.cell B1; have B2' := E.cell B2; have B7' := E.cell B7; have B8' := E.cell B8; have B9' := E.cell B9))
  go_ret
  exact ret_bool (by rw [HF.out]; rfl) (hE1.trans E)
 ·rcases Int.lt_or_le o.at_ 0 with ha | ha
  ·have ha1 : decide (0 ≤ o.at_) = false := decide_eq_false (by omega)
   have hga : gapOk o.at_ = false := by rw [gapOk, ha1]; rfl
   rcases kb with _ | _
   ·go_enter Try.func54, Try.ntmps54
    go_wp2_with (first | (rw [H1.out]; clear H1) | (go_at_call 67; refine (hcP _ E).mono ?_; clear hcP; rintro e u ⟨r, rfl, rfl, hE⟩; replace E := Ext.trans E hE; clear hE; have B0' := E.cell B0; have B1' := E.cell B1; have B2' := E.cell B2; have B7' := E.cell B7; have B8' := E.cell B8; have B9' := E.cell B9) | (go_at_call 68; refine (hcK _ E).mono ?_; clear hcK; rintro e u ⟨r, rfl, rfl, hE⟩; replace E := Ext.trans E hE; clear hE; have B0' := E.cell B0; have B1' := E.cell B1; have B2' := E.cell B2; have B7' := E.cell B7; have B8' := E.cell B8; have B9' := E.cell B9))
    go_ret
    exact ret_bool (by rw [HF.out]; rfl) (hE1.trans E)
   ·rcases gn with _ | _
    ·rcases Nat.lt_or_ge 256 o.value.size with hs | hs
     ·have hs1 : decide (o.value.size ≤ 256) = false := decide_eq_false (by omega)
      have hs2 : decide ((o.value.size : Int) ≤ 256) = false := decide_eq_false (by omega)
      go_enter Try.func54, Try.ntmps54
      go_wp2_with (first | (rw [H1.out]; clear H1) | (go_at_call 67; refine (hcP _ E).mono ?_; clear hcP; rintro e u ⟨r, rfl, rfl, hE⟩; replace E := Ext.trans E hE; clear hE; have B0' := E.cell B0; have B1' := E.cell B1; have B2' := E.cell B2; have B7' := E.cell B7; have B8' := E.cell B8; have B9' := E.cell B9) | (go_at_call 68; refine (hcK _ E).mono ?_; clear hcK; rintro e u ⟨r, rfl, rfl, hE⟩; replace E := Ext.trans E hE; clear hE; have B0' := E.cell B0; have B1' := E.cell B1; have B2' := E.cell B2; have B7' := E.cell B7; have B8' := E.cell B8; have B9' := E.cell B9))
      go_ret
      exact ret_bool (by rw [HF.out, hs1]; rfl) (hE1.trans E)
     ·have hs1 : decide (o.value.size ≤ 256) = true := decide_eq_true hs
      have hs2 : decide ((o.value.size : Int) ≤ 256) = true := decide_eq_true (by omega)
      go_enter Try.func54, Try.ntmps54
      go_wp2_with (first | (rw [H1.out]; clear H1) | (go_at_call 67; refine (hcP _ E).mono ?_; clear hcP; rintro e u ⟨r, rfl, rfl, hE⟩; replace E := Ext.trans E hE; clear hE; have B0' := E.cell B0; have B1' := E.cell B1; have B2' := E.cell B2; have B7' := E.cell B7; have B8' := E.cell B8; have B9' := E.cell B9) | (go_at_call 68; refine (hcK _ E).mono ?_; clear hcK; rintro e u ⟨r, rfl, rfl, hE⟩; replace E := Ext.trans E hE; clear hE; have B0' := E.cell B0; have B1' := E.cell B1; have B2' := E.cell B2; have B7' := E.cell B7; have B8' := E.cell B8; have B9' := E.cell B9))
      go_ret
      exact ret_bool (by rw [HF.out, hs1]; rfl) (hE1.trans E)
    ·go_enter Try.func54, Try.ntmps54
     go_wp2_with (first | (rw [H1.out]; clear H1) | (go_at_call 67; refine (hcP _ E).mono ?_; clear hcP; rintro e u ⟨r, rfl, rfl, hE⟩; replace E := Ext.trans E hE; clear hE; have B0' := E.cell B0; have B1' := E.cell B1; have B2' := E.cell B2; have B7' := E.cell B7; have B8' := E.cell B8; have B9' := E.cell B9) | (go_at_call 68; refine (hcK _ E).mono ?_; clear hcK; rintro e u ⟨r, rfl, rfl, hE⟩; replace E := Ext.trans E hE; clear hE; have B0' := E.cell B0; have B1' := E.cell B1; have B2' := E.cell B2; have B7' := E.cell B7; have B8' := E.cell B8; have B9' := E.cell B9))
     go_ret
     exact ret_bool (by rw [HF.out]; rfl) (hE1.trans E)
  have ha1 : decide (0 ≤ o.at_) = true := decide_eq_true ha
  rcases Int.lt_or_le 1048576 o.at_ with hb | hb
  ·have ha2 : decide (o.at_ ≤ 1048576) = false := decide_eq_false (by omega)
   have hga : gapOk o.at_ = false := by rw [gapOk, ha2, Bool.and_false]
   rcases kb with _ | _
   ·go_enter Try.func54, Try.ntmps54
    go_wp2_with (first | (rw [H1.out]; clear H1) | (go_at_call 67; refine (hcP _ E).mono ?_; clear hcP; rintro e u ⟨r, rfl, rfl, hE⟩; replace E := Ext.trans E hE; clear hE; have B0' := E.cell B0; have B1' := E.cell B1; have B2' := E.cell B2; have B7' := E.cell B7; have B8' := E.cell B8; have B9' := E.cell B9) | (go_at_call 68; refine (hcK _ E).mono ?_; clear hcK; rintro e u ⟨r, rfl, rfl, hE⟩; replace E := Ext.trans E hE; clear hE; have B0' := E.cell B0; have B1' := E.cell B1; have B2' := E.cell B2; have B7' := E.cell B7; have B8' := E.cell B8; have B9' := E.cell B9))
    go_ret
    exact ret_bool (by rw [HF.out]; rfl) (hE1.trans E)
   ·rcases gn with _ | _
    ·rcases Nat.lt_or_ge 256 o.value.size with hs | hs
     ·have hs1 : decide (o.value.size ≤ 256) = false := decide_eq_false (by omega)
      have hs2 : decide ((o.value.size : Int) ≤ 256) = false := decide_eq_false (by omega)
      go_enter Try.func54, Try.ntmps54
      go_wp2_with (first | (rw [H1.out]; clear H1) | (go_at_call 67; refine (hcP _ E).mono ?_; clear hcP; rintro e u ⟨r, rfl, rfl, hE⟩; replace E := Ext.trans E hE; clear hE; have B0' := E.cell B0; have B1' := E.cell B1; have B2' := E.cell B2; have B7' := E.cell B7; have B8' := E.cell B8; have B9' := E.cell B9) | (go_at_call 68; refine (hcK _ E).mono ?_; clear hcK; rintro e u ⟨r, rfl, rfl, hE⟩; replace E := Ext.trans E hE; clear hE; have B0' := E.cell B0; have B1' := E.cell B1; have B2' := E.cell B2; have B7' := E.cell B7; have B8' := E.cell B8; have B9' := E.cell B9))
      go_ret
      exact ret_bool (by rw [HF.out, hs1]; rfl) (hE1.trans E)
     ·have hs1 : decide (o.value.size ≤ 256) = true := decide_eq_true hs
      have hs2 : decide ((o.value.size : Int) ≤ 256) = true := decide_eq_true (by omega)
      go_enter Try.func54, Try.ntmps54
      go_wp2_with (first | (rw [H1.out]; clear H1) | (go_at_call 67; refine (hcP _ E).mono ?_; clear hcP; rintro e u ⟨r, rfl, rfl, hE⟩; replace E := Ext.trans E hE; clear hE; have B0' := E.cell B0; have B1' := E.cell B1; have B2' := E.cell B2; have B7' := E.cell B7; have B8' := E.cell B8; have B9' := E.cell B9) | (go_at_call 68; refine (hcK _ E).mono ?_; clear hcK; rintro e u ⟨r, rfl, rfl, hE⟩; replace E := Ext.trans E hE; clear hE; have B0' := E.cell B0; have B1' := E.cell B1; have B2' := E.cell B2; have B7' := E.cell B7; have B8' := E.cell B8; have B9' := E.cell B9))
      go_ret
      exact ret_bool (by rw [HF.out, hs1]; rfl) (hE1.trans E)
    ·go_enter Try.func54, Try.ntmps54
     go_wp2_with (first | (rw [H1.out]; clear H1) | (go_at_call 67; refine (hcP _ E).mono ?_; clear hcP; rintro e u ⟨r, rfl, rfl, hE⟩; replace E := Ext.trans E hE; clear hE; have B0' := E.cell B0; have B1' := E.cell B1; have B2' := E.cell B2; have B7' := E.cell B7; have B8' := E.cell B8; have B9' := E.cell B9) | (go_at_call 68; refine (hcK _ E).mono ?_; clear hcK; rintro e u ⟨r, rfl, rfl, hE⟩; replace E := Ext.trans E hE; clear hE; have B0' := E.cell B0; have B1' := E.cell B1; have B2' := E.cell B2; have B7' := E.cell B7; have B8' := E.cell B8; have B9' := E.cell B9))
     go_ret
     exact ret_bool (by rw [HF.out]; rfl) (hE1.trans E)
  have ha2 : decide (o.at_ ≤ 1048576) = true := decide_eq_true hb
  have hga : gapOk o.at_ = true := by rw [gapOk, ha1, ha2]; rfl
  rcases kb with _ | _
  ·go_enter Try.func54, Try.ntmps54
   go_wp2_with (first | (rw [H1.out]; clear H1) | (go_at_call 67; refine (hcP _ E).mono ?_; clear hcP; rintro e u ⟨r, rfl, rfl, hE⟩; replace E := Ext.trans E hE; clear hE; have B0' := E.cell B0; have B1' := E.cell B1; have B2' := E.cell B2; have B7' := E.cell B7; have B8' := E.cell B8; have B9' := E.cell B9) | (go_at_call 68; refine (hcK _ E).mono ?_; clear hcK; rintro e u ⟨r, rfl, rfl, hE⟩; replace E := Ext.trans E hE; clear hE; have B0' := E.cell B0; have B1' := E.cell B1; have B2' := E.cell B2; have B7' := E.cell B7; have B8' := E.cell B8; have B9' := E.cell B9))
   go_ret
   exact ret_bool (by rw [HF.out]; rfl) (hE1.trans E)
  ·rcases gn with _ | _
   ·rcases Nat.lt_or_ge 256 o.value.size with hs | hs
    ·have hs1 : decide (o.value.size ≤ 256) = false := decide_eq_false (by omega)
     have hs2 : decide ((o.value.size : Int) ≤ 256) = false := decide_eq_false (by omega)
     go_enter Try.func54, Try.ntmps54
     go_wp2_with (first | (rw [H1.out]; clear H1) | (go_at_call 67; refine (hcP _ E).mono ?_; clear hcP; rintro e u ⟨r, rfl, rfl, hE⟩; replace E := Ext.trans E hE; clear hE; have B0' := E.cell B0; have B1' := E.cell B1; have B2' := E.cell B2; have B7' := E.cell B7; have B8' := E.cell B8; have B9' := E.cell B9) | (go_at_call 68; refine (hcK _ E).mono ?_; clear hcK; rintro e u ⟨r, rfl, rfl, hE⟩; replace E := Ext.trans E hE; clear hE; have B0' := E.cell B0; have B1' := E.cell B1; have B2' := E.cell B2; have B7' := E.cell B7; have B8' := E.cell B8; have B9' := E.cell B9))
     go_ret
     exact ret_bool (by rw [HF.out, hs1]; rfl) (hE1.trans E)
    ·have hs1 : decide (o.value.size ≤ 256) = true := decide_eq_true hs
     have hs2 : decide ((o.value.size : Int) ≤ 256) = true := decide_eq_true (by omega)
     go_enter Try.func54, Try.ntmps54
     go_wp2_with (first | (rw [H1.out]; clear H1) | (go_at_call 67; refine (hcP _ E).mono ?_; clear hcP; rintro e u ⟨r, rfl, rfl, hE⟩; replace E := Ext.trans E hE; clear hE; have B0' := E.cell B0; have B1' := E.cell B1; have B2' := E.cell B2; have B7' := E.cell B7; have B8' := E.cell B8; have B9' := E.cell B9) | (go_at_call 68; refine (hcK _ E).mono ?_; clear hcK; rintro e u ⟨r, rfl, rfl, hE⟩; replace E := Ext.trans E hE; clear hE; have B0' := E.cell B0; have B1' := E.cell B1; have B2' := E.cell B2; have B7' := E.cell B7; have B8' := E.cell B8; have B9' := E.cell B9))
     go_ret
     exact ret_bool (by rw [HF.out, hs1]; rfl) (hE1.trans E)
   ·go_enter Try.func54, Try.ntmps54
    go_wp2_with (first | (rw [H1.out]; clear H1) | (go_at_call 67; refine (hcP _ E).mono ?_; clear hcP; rintro e u ⟨r, rfl, rfl, hE⟩; replace E := Ext.trans E hE; clear hE; have B0' := E.cell B0; have B1' := E.cell B1; have B2' := E.cell B2; have B7' := E.cell B7; have B8' := E.cell B8; have B9' := E.cell B9) | (go_at_call 68; refine (hcK _ E).mono ?_; clear hcK; rintro e u ⟨r, rfl, rfl, hE⟩; replace E := Ext.trans E hE; clear hE; have B0' := E.cell B0; have B1' := E.cell B1; have B2' := E.cell B2; have B7' := E.cell B7; have B8' := E.cell B8; have B9' := E.cell B9))
    go_ret
    exact ret_bool (by rw [HF.out]; rfl) (hE1.trans E)

set_option maxRecDepth 100000 in
set_option maxHeartbeats 4000000 in
theorem formedR_5 (o : OpD) (v : Value) (w : World) (h : o.rd w v) (hk : o.kind = 5) : Calls Try.prog 54 #[v] w (Ret w fun r _ => r = .bool o.formed) := by
 obtain ⟨pv, tv, cv, rfl, hP, hT, hC, s1, s2, s3⟩ := h
 have hP0 := hP
 have hT0 := hT
 have hC0 := hC
 obtain ⟨pA, pc, rfl, _⟩ := hP0
 obtain ⟨tA, tc, rfl, _⟩ := hT0
 obtain ⟨cA, cc, rfl, _⟩ := hC0
 unfold okStr maxLen at s1 s3
 obtain ⟨w1, hw1⟩ : ∃ w1, w.alloc (.cells #[.int .u8 o.kind, .slice pA o.path.length pc, .int .i64 o.at_, .slice tA o.to.length tc, .int .u64 o.id, .bool o.leaf, .string o.label, .string o.key, .string o.value, .bool o.gone, .slice cA o.pcs.length cc] 26) = w1 := ⟨_, rfl⟩
 have hE1 : Ext w w1 := by rw [← hw1]; exact (Ext.refl w).alloc _
 have B0 : w1.cell? ⟨w.heap.size, 0, none⟩ = some (.int .u8 o.kind) := by rw [← hw1]; exact (NBox.new _ _ _).cell 0
 have B1 : w1.cell? ⟨w.heap.size, 1, none⟩ = some (.slice pA o.path.length pc) := by rw [← hw1]; exact (NBox.new _ _ _).cell 1
 have B2 : w1.cell? ⟨w.heap.size, 2, none⟩ = some (.int .i64 o.at_) := by rw [← hw1]; exact (NBox.new _ _ _).cell 2
 have B6 : w1.cell? ⟨w.heap.size, 6, none⟩ = some (.string o.label) := by rw [← hw1]; exact (NBox.new _ _ _).cell 6
 have E := Ext.refl w1
 have H1 := Lib.hid hw1
 clear hw1
 have k1 : (o.kind == 1) = false := by rw [hk]; rfl
 have k2 : (o.kind == 2) = false := by rw [hk]; rfl
 have k3 : (o.kind == 3) = false := by rw [hk]; rfl
 have k4 : (o.kind == 4) = false := by rw [hk]; rfl
 have k5 : (o.kind == 5) = true := by rw [hk]; rfl
 have HF : Hid (o.formed = (may o.path && (decide (o.label.size ≤ 64)))) := by simp [Hid, OpD.formed, hk]
 have hcP : ∀ W, Ext w1 W → Calls Try.prog 67 #[.slice pA o.path.length pc] W (Ret W fun r _ => r = .bool (may o.path)) := fun W hW => mayR_any _ _ _ (RdS.ext (hE1.trans hW) hP)
 clear hP hT hC s2 hk
 generalize may o.path = m at hcP HF
 rcases m with _ | _
 ·go_enter Try.func54, Try.ntmps54
  go_wp2_with (first | (rw [H1.out]; clear H1) | (go_at_call 67; refine (hcP _ E).mono ?_; clear hcP; rintro e u ⟨r, rfl, rfl, hE⟩; replace E := Ext.trans E hE; clear hE; have B0' := E.cell B0; have B1' := E.cell B1; have B2' := E.cell B2; have B6' := E.cell B6))
  go_ret
  exact ret_bool (by rw [HF.out]; rfl) (hE1.trans E)
 ·rcases Int.lt_or_le o.at_ 0 with ha | ha
  ·have ha1 : decide (0 ≤ o.at_) = false := decide_eq_false (by omega)
   have hga : gapOk o.at_ = false := by rw [gapOk, ha1]; rfl
   rcases Nat.lt_or_ge 64 o.label.size with hs | hs
   ·have hs1 : decide (o.label.size ≤ 64) = false := decide_eq_false (by omega)
    have hs2 : decide ((o.label.size : Int) ≤ 64) = false := decide_eq_false (by omega)
    go_enter Try.func54, Try.ntmps54
    go_wp2_with (first | (rw [H1.out]; clear H1) | (go_at_call 67; refine (hcP _ E).mono ?_; clear hcP; rintro e u ⟨r, rfl, rfl, hE⟩; replace E := Ext.trans E hE; clear hE; have B0' := E.cell B0; have B1' := E.cell B1; have B2' := E.cell B2; have B6' := E.cell B6))
    go_ret
    exact ret_bool (by rw [HF.out, hs1]; rfl) (hE1.trans E)
   ·have hs1 : decide (o.label.size ≤ 64) = true := decide_eq_true hs
    have hs2 : decide ((o.label.size : Int) ≤ 64) = true := decide_eq_true (by omega)
    go_enter Try.func54, Try.ntmps54
    go_wp2_with (first | (rw [H1.out]; clear H1) | (go_at_call 67; refine (hcP _ E).mono ?_; clear hcP; rintro e u ⟨r, rfl, rfl, hE⟩; replace E := Ext.trans E hE; clear hE; have B0' := E.cell B0; have B1' := E.cell B1; have B2' := E.cell B2; have B6' := E.cell B6))
    go_ret
    exact ret_bool (by rw [HF.out, hs1]; rfl) (hE1.trans E)
  have ha1 : decide (0 ≤ o.at_) = true := decide_eq_true ha
  rcases Int.lt_or_le 1048576 o.at_ with hb | hb
  ·have ha2 : decide (o.at_ ≤ 1048576) = false := decide_eq_false (by omega)
   have hga : gapOk o.at_ = false := by rw [gapOk, ha2, Bool.and_false]
   rcases Nat.lt_or_ge 64 o.label.size with hs | hs
   ·have hs1 : decide (o.label.size ≤ 64) = false := decide_eq_false (by omega)
    have hs2 : decide ((o.label.size : Int) ≤ 64) = false := decide_eq_false (by omega)
    go_enter Try.func54, Try.ntmps54
    go_wp2_with (first | (rw [H1.out]; clear H1) | (go_at_call 67; refine (hcP _ E).mono ?_; clear hcP; rintro e u ⟨r, rfl, rfl, hE⟩; replace E := Ext.trans E hE; clear hE; have B0' := E.cell B0; have B1' := E.cell B1; have B2' := E.cell B2; have B6' := E.cell B6))
    go_ret
    exact ret_bool (by rw [HF.out, hs1]; rfl) (hE1.trans E)
   ·have hs1 : decide (o.label.size ≤ 64) = true := decide_eq_true hs
    have hs2 : decide ((o.label.size : Int) ≤ 64) = true := decide_eq_true (by omega)
    go_enter Try.func54, Try.ntmps54
    go_wp2_with (first | (rw [H1.out]; clear H1) | (go_at_call 67; refine (hcP _ E).mono ?_; clear hcP; rintro e u ⟨r, rfl, rfl, hE⟩; replace E := Ext.trans E hE; clear hE; have B0' := E.cell B0; have B1' := E.cell B1; have B2' := E.cell B2; have B6' := E.cell B6))
    go_ret
    exact ret_bool (by rw [HF.out, hs1]; rfl) (hE1.trans E)
  have ha2 : decide (o.at_ ≤ 1048576) = true := decide_eq_true hb
  have hga : gapOk o.at_ = true := by rw [gapOk, ha1, ha2]; rfl
  rcases Nat.lt_or_ge 64 o.label.size with hs | hs
  ·have hs1 : decide (o.label.size ≤ 64) = false := decide_eq_false (by omega)
   have hs2 : decide ((o.label.size : Int) ≤ 64) = false := decide_eq_false (by omega)
   go_enter Try.func54, Try.ntmps54
   go_wp2_with (first | (rw [H1.out]; clear H1) | (go_at_call 67; refine (hcP _ E).mono ?_; clear hcP; rintro e u ⟨r, rfl, rfl, hE⟩; replace E := Ext.trans E hE; clear hE; have B0' := E.cell B0; have B1' := E.cell B1; have B2' := E.cell B2; have B6' := E.cell B6))
   go_ret
   exact ret_bool (by rw [HF.out, hs1]; rfl) (hE1.trans E)
  ·have hs1 : decide (o.label.size ≤ 64) = true := decide_eq_true hs
   have hs2 : decide ((o.label.size : Int) ≤ 64) = true := decide_eq_true (by omega)
   go_enter Try.func54, Try.ntmps54
   go_wp2_with (first | (rw [H1.out]; clear H1) | (go_at_call 67; refine (hcP _ E).mono ?_; clear hcP; rintro e u ⟨r, rfl, rfl, hE⟩; replace E := Ext.trans E hE; clear hE; have B0' := E.cell B0; have B1' := E.cell B1; have B2' := E.cell B2; have B6' := E.cell B6))
   go_ret
   exact ret_bool (by rw [HF.out, hs1]; rfl) (hE1.trans E)

set_option maxRecDepth 100000 in
set_option maxHeartbeats 4000000 in
theorem formedR_6 (o : OpD) (v : Value) (w : World) (h : o.rd w v) (hk : o.kind = 6) : Calls Try.prog 54 #[v] w (Ret w fun r _ => r = .bool o.formed) := by
 obtain ⟨pv, tv, cv, rfl, hP, hT, hC, s1, s2, s3⟩ := h
 have hP0 := hP
 have hT0 := hT
 have hC0 := hC
 obtain ⟨pA, pc, rfl, _⟩ := hP0
 obtain ⟨tA, tc, rfl, _⟩ := hT0
 obtain ⟨cA, cc, rfl, _⟩ := hC0
 unfold okStr maxLen at s1 s3
 obtain ⟨w1, hw1⟩ : ∃ w1, w.alloc (.cells #[.int .u8 o.kind, .slice pA o.path.length pc, .int .i64 o.at_, .slice tA o.to.length tc, .int .u64 o.id, .bool o.leaf, .string o.label, .string o.key, .string o.value, .bool o.gone, .slice cA o.pcs.length cc] 26) = w1 := ⟨_, rfl⟩
 have hE1 : Ext w w1 := by rw [← hw1]; exact (Ext.refl w).alloc _
 have B0 : w1.cell? ⟨w.heap.size, 0, none⟩ = some (.int .u8 o.kind) := by rw [← hw1]; exact (NBox.new _ _ _).cell 0
 have B1 : w1.cell? ⟨w.heap.size, 1, none⟩ = some (.slice pA o.path.length pc) := by rw [← hw1]; exact (NBox.new _ _ _).cell 1
 have B2 : w1.cell? ⟨w.heap.size, 2, none⟩ = some (.int .i64 o.at_) := by rw [← hw1]; exact (NBox.new _ _ _).cell 2
 have B10 : w1.cell? ⟨w.heap.size, 10, none⟩ = some (.slice cA o.pcs.length cc) := by rw [← hw1]; exact (NBox.new _ _ _).cell 10
 have E := Ext.refl w1
 have H1 := Lib.hid hw1
 clear hw1
 have k1 : (o.kind == 1) = false := by rw [hk]; rfl
 have k2 : (o.kind == 2) = false := by rw [hk]; rfl
 have k3 : (o.kind == 3) = false := by rw [hk]; rfl
 have k4 : (o.kind == 4) = false := by rw [hk]; rfl
 have k5 : (o.kind == 5) = false := by rw [hk]; rfl
 have k6 : (o.kind == 6) = true := by rw [hk]; rfl
 have HF : Hid (o.formed = (may o.path && (pcsRight o.pcs))) := by simp [Hid, OpD.formed, hk]
 have hcP : ∀ W, Ext w1 W → Calls Try.prog 67 #[.slice pA o.path.length pc] W (Ret W fun r _ => r = .bool (may o.path)) := fun W hW => mayR_any _ _ _ (RdS.ext (hE1.trans hW) hP)
 have hcR : ∀ W, Ext w1 W → Calls Try.prog 61 #[.slice cA o.pcs.length cc] W (Ret W fun r _ => r = .bool (pcsRight o.pcs)) := fun W hW => rightR_any _ _ _ (RdP.ext (hE1.trans hW) hC)
 clear hP hT hC s2 hk
 generalize may o.path = m at hcP HF
 generalize pcsRight o.pcs = pr at hcR HF
 rcases m with _ | _
 ·go_enter Try.func54, Try.ntmps54
  go_wp2_with (first | (rw [H1.out]; clear H1) | (go_at_call 67; refine (hcP _ E).mono ?_; clear hcP; rintro e u ⟨r, rfl, rfl, hE⟩; replace E := Ext.trans E hE; clear hE; have B0' := E.cell B0; have B1' := E.cell B1; have B2' := E.cell B2; have B10' := E.cell B10) | (go_at_call 61; refine (hcR _ E).mono ?_; clear hcR; rintro e u ⟨r, rfl, rfl, hE⟩; replace E := Ext.trans E hE; clear hE; have B0' := E.cell B0; have B1' := E.cell B1; have B2' := E.cell B2; have B10' := E.cell B10))
  go_ret
  exact ret_bool (by rw [HF.out]; rfl) (hE1.trans E)
 ·rcases Int.lt_or_le o.at_ 0 with ha | ha
  ·have ha1 : decide (0 ≤ o.at_) = false := decide_eq_false (by omega)
   have hga : gapOk o.at_ = false := by rw [gapOk, ha1]; rfl
   rcases pr with _ | _
   ·go_enter Try.func54, Try.ntmps54
    go_wp2_with (first | (rw [H1.out]; clear H1) | (go_at_call 67; refine (hcP _ E).mono ?_; clear hcP; rintro e u ⟨r, rfl, rfl, hE⟩; replace E := Ext.trans E hE; clear hE; have B0' := E.cell B0; have B1' := E.cell B1; have B2' := E.cell B2; have B10' := E.cell B10) | (go_at_call 61; refine (hcR _ E).mono ?_; clear hcR; rintro e u ⟨r, rfl, rfl, hE⟩; replace E := Ext.trans E hE; clear hE; have B0' := E.cell B0; have B1' := E.cell B1; have B2' := E.cell B2; have B10' := E.cell B10))
    go_ret
    exact ret_bool (by rw [HF.out]; rfl) (hE1.trans E)
   ·go_enter Try.func54, Try.ntmps54
    go_wp2_with (first | (rw [H1.out]; clear H1) | (go_at_call 67; refine (hcP _ E).mono ?_; clear hcP; rintro e u ⟨r, rfl, rfl, hE⟩; replace E := Ext.trans E hE; clear hE; have B0' := E.cell B0; have B1' := E.cell B1; have B2' := E.cell B2; have B10' := E.cell B10) | (go_at_call 61; refine (hcR _ E).mono ?_; clear hcR; rintro e u ⟨r, rfl, rfl, hE⟩; replace E := Ext.trans E hE; clear hE; have B0' := E.cell B0; have B1' := E.cell B1; have B2' := E.cell B2; have B10' := E.cell B10))
    go_ret
    exact ret_bool (by rw [HF.out]; rfl) (hE1.trans E)
  have ha1 : decide (0 ≤ o.at_) = true := decide_eq_true ha
  rcases Int.lt_or_le 1048576 o.at_ with hb | hb
  ·have ha2 : decide (o.at_ ≤ 1048576) = false := decide_eq_false (by omega)
   have hga : gapOk o.at_ = false := by rw [gapOk, ha2, Bool.and_false]
   rcases pr with _ | _
   ·go_enter Try.func54, Try.ntmps54
    go_wp2_with (first | (rw [H1.out]; clear H1) | (go_at_call 67; refine (hcP _ E).mono ?_; clear hcP; rintro e u ⟨r, rfl, rfl, hE⟩; replace E := Ext.trans E hE; clear hE; have B0' := E.cell B0; have B1' := E.cell B1; have B2' := E.cell B2; have B10' := E.cell B10) | (go_at_call 61; refine (hcR _ E).mono ?_; clear hcR; rintro e u ⟨r, rfl, rfl, hE⟩; replace E := Ext.trans E hE; clear hE; have B0' := E.cell B0; have B1' := E.cell B1; have B2' := E.cell B2; have B10' := E.cell B10))
    go_ret
    exact ret_bool (by rw [HF.out]; rfl) (hE1.trans E)
   ·go_enter Try.func54, Try.ntmps54
    go_wp2_with (first | (rw [H1.out]; clear H1) | (go_at_call 67; refine (hcP _ E).mono ?_; clear hcP; rintro e u ⟨r, rfl, rfl, hE⟩; replace E := Ext.trans E hE; clear hE; have B0' := E.cell B0; have B1' := E.cell B1; have B2' := E.cell B2; have B10' := E.cell B10) | (go_at_call 61; refine (hcR _ E).mono ?_; clear hcR; rintro e u ⟨r, rfl, rfl, hE⟩; replace E := Ext.trans E hE; clear hE; have B0' := E.cell B0; have B1' := E.cell B1; have B2' := E.cell B2; have B10' := E.cell B10))
    go_ret
    exact ret_bool (by rw [HF.out]; rfl) (hE1.trans E)
  have ha2 : decide (o.at_ ≤ 1048576) = true := decide_eq_true hb
  have hga : gapOk o.at_ = true := by rw [gapOk, ha1, ha2]; rfl
  rcases pr with _ | _
  ·go_enter Try.func54, Try.ntmps54
   go_wp2_with (first | (rw [H1.out]; clear H1) | (go_at_call 67; refine (hcP _ E).mono ?_; clear hcP; rintro e u ⟨r, rfl, rfl, hE⟩; replace E := Ext.trans E hE; clear hE; have B0' := E.cell B0; have B1' := E.cell B1; have B2' := E.cell B2; have B10' := E.cell B10) | (go_at_call 61; refine (hcR _ E).mono ?_; clear hcR; rintro e u ⟨r, rfl, rfl, hE⟩; replace E := Ext.trans E hE; clear hE; have B0' := E.cell B0; have B1' := E.cell B1; have B2' := E.cell B2; have B10' := E.cell B10))
   go_ret
   exact ret_bool (by rw [HF.out]; rfl) (hE1.trans E)
  ·go_enter Try.func54, Try.ntmps54
   go_wp2_with (first | (rw [H1.out]; clear H1) | (go_at_call 67; refine (hcP _ E).mono ?_; clear hcP; rintro e u ⟨r, rfl, rfl, hE⟩; replace E := Ext.trans E hE; clear hE; have B0' := E.cell B0; have B1' := E.cell B1; have B2' := E.cell B2; have B10' := E.cell B10) | (go_at_call 61; refine (hcR _ E).mono ?_; clear hcR; rintro e u ⟨r, rfl, rfl, hE⟩; replace E := Ext.trans E hE; clear hE; have B0' := E.cell B0; have B1' := E.cell B1; have B2' := E.cell B2; have B10' := E.cell B10))
   go_ret
   exact ret_bool (by rw [HF.out]; rfl) (hE1.trans E)

set_option maxRecDepth 100000 in
set_option maxHeartbeats 4000000 in
theorem formedR_0 (o : OpD) (v : Value) (w : World) (h : o.rd w v) (hk : o.kind ≠ 1 ∧ o.kind ≠ 2 ∧ o.kind ≠ 3 ∧ o.kind ≠ 4 ∧ o.kind ≠ 5 ∧ o.kind ≠ 6) : Calls Try.prog 54 #[v] w (Ret w fun r _ => r = .bool o.formed) := by
 obtain ⟨pv, tv, cv, rfl, hP, hT, hC, s1, s2, s3⟩ := h
 have hP0 := hP
 have hT0 := hT
 have hC0 := hC
 obtain ⟨pA, pc, rfl, _⟩ := hP0
 obtain ⟨tA, tc, rfl, _⟩ := hT0
 obtain ⟨cA, cc, rfl, _⟩ := hC0
 unfold okStr maxLen at s1 s3
 obtain ⟨w1, hw1⟩ : ∃ w1, w.alloc (.cells #[.int .u8 o.kind, .slice pA o.path.length pc, .int .i64 o.at_, .slice tA o.to.length tc, .int .u64 o.id, .bool o.leaf, .string o.label, .string o.key, .string o.value, .bool o.gone, .slice cA o.pcs.length cc] 26) = w1 := ⟨_, rfl⟩
 have hE1 : Ext w w1 := by rw [← hw1]; exact (Ext.refl w).alloc _
 have B0 : w1.cell? ⟨w.heap.size, 0, none⟩ = some (.int .u8 o.kind) := by rw [← hw1]; exact (NBox.new _ _ _).cell 0
 have B1 : w1.cell? ⟨w.heap.size, 1, none⟩ = some (.slice pA o.path.length pc) := by rw [← hw1]; exact (NBox.new _ _ _).cell 1
 have B2 : w1.cell? ⟨w.heap.size, 2, none⟩ = some (.int .i64 o.at_) := by rw [← hw1]; exact (NBox.new _ _ _).cell 2
 have E := Ext.refl w1
 have H1 := Lib.hid hw1
 clear hw1
 obtain ⟨h1, h2, h3, h4, h5, h6⟩ := hk
 have k1 : (o.kind == 1) = false := beq_eq_false_iff_ne.2 h1
 have k2 : (o.kind == 2) = false := beq_eq_false_iff_ne.2 h2
 have k3 : (o.kind == 3) = false := beq_eq_false_iff_ne.2 h3
 have k4 : (o.kind == 4) = false := beq_eq_false_iff_ne.2 h4
 have k5 : (o.kind == 5) = false := beq_eq_false_iff_ne.2 h5
 have k6 : (o.kind == 6) = false := beq_eq_false_iff_ne.2 h6
 have HF : Hid (o.formed = (may o.path && (false))) := by simp [Hid, OpD.formed, h1, h2, h3, h4, h5, h6]
 have hcP : ∀ W, Ext w1 W → Calls Try.prog 67 #[.slice pA o.path.length pc] W (Ret W fun r _ => r = .bool (may o.path)) := fun W hW => mayR_any _ _ _ (RdS.ext (hE1.trans hW) hP)
 clear hP hT hC s2 h1 h2 h3 h4 h5 h6
 generalize may o.path = m at hcP HF
 rcases m with _ | _
 ·go_enter Try.func54, Try.ntmps54
  go_wp2_with (first | (rw [H1.out]; clear H1) | (go_at_call 67; refine (hcP _ E).mono ?_; clear hcP; rintro e u ⟨r, rfl, rfl, hE⟩; replace E := Ext.trans E hE; clear hE; have B0' := E.cell B0; have B1' := E.cell B1; have B2' := E.cell B2))
  go_ret
  exact ret_bool (by rw [HF.out]; rfl) (hE1.trans E)
 ·rcases Int.lt_or_le o.at_ 0 with ha | ha
  ·have ha1 : decide (0 ≤ o.at_) = false := decide_eq_false (by omega)
   have hga : gapOk o.at_ = false := by rw [gapOk, ha1]; rfl
   go_enter Try.func54, Try.ntmps54
   go_wp2_with (first | (rw [H1.out]; clear H1) | (go_at_call 67; refine (hcP _ E).mono ?_; clear hcP; rintro e u ⟨r, rfl, rfl, hE⟩; replace E := Ext.trans E hE; clear hE; have B0' := E.cell B0; have B1' := E.cell B1; have B2' := E.cell B2))
   go_ret
   exact ret_bool (by rw [HF.out]; rfl) (hE1.trans E)
  have ha1 : decide (0 ≤ o.at_) = true := decide_eq_true ha
  rcases Int.lt_or_le 1048576 o.at_ with hb | hb
  ·have ha2 : decide (o.at_ ≤ 1048576) = false := decide_eq_false (by omega)
   have hga : gapOk o.at_ = false := by rw [gapOk, ha2, Bool.and_false]
   go_enter Try.func54, Try.ntmps54
   go_wp2_with (first | (rw [H1.out]; clear H1) | (go_at_call 67; refine (hcP _ E).mono ?_; clear hcP; rintro e u ⟨r, rfl, rfl, hE⟩; replace E := Ext.trans E hE; clear hE; have B0' := E.cell B0; have B1' := E.cell B1; have B2' := E.cell B2))
   go_ret
   exact ret_bool (by rw [HF.out]; rfl) (hE1.trans E)
  have ha2 : decide (o.at_ ≤ 1048576) = true := decide_eq_true hb
  have hga : gapOk o.at_ = true := by rw [gapOk, ha1, ha2]; rfl
  go_enter Try.func54, Try.ntmps54
  go_wp2_with (first | (rw [H1.out]; clear H1) | (go_at_call 67; refine (hcP _ E).mono ?_; clear hcP; rintro e u ⟨r, rfl, rfl, hE⟩; replace E := Ext.trans E hE; clear hE; have B0' := E.cell B0; have B1' := E.cell B1; have B2' := E.cell B2))
  go_ret
  exact ret_bool (by rw [HF.out]; rfl) (hE1.trans E)

theorem formedR_any (o : OpD) (v : Value) (w : World) (h : o.rd w v) : Calls Try.prog 54 #[v] w (Ret w fun r _ => r = .bool o.formed) := by
 by_cases h1 : o.kind = 1
 ·exact formedR_1 o v w h h1
 by_cases h2 : o.kind = 2
 ·exact formedR_2 o v w h h2
 by_cases h3 : o.kind = 3
 ·exact formedR_3 o v w h h3
 by_cases h4 : o.kind = 4
 ·exact formedR_4 o v w h h4
 by_cases h5 : o.kind = 5
 ·exact formedR_5 o v w h h5
 by_cases h6 : o.kind = 6
 ·exact formedR_6 o v w h h6
 exact formedR_0 o v w h ⟨h1, h2, h3, h4, h5, h6⟩
end Go.Proofs.Ytdnjkffmgmbfmaa.Bs
