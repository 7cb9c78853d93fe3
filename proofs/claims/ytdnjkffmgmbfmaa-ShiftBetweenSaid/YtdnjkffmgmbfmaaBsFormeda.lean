/- Chapter 11: formed operations. -/
import Derived.Test.YtdnjkffmgmbfmaaBsPcs2
namespace Go.Proofs.Ytdnjkffmgmbfmaa.Bs
open Go.RowKit Go.Proofs.Ytdnjkffmgmbfmaa.Bw

set_option maxRecDepth 100000 in
set_option maxHeartbeats 4000000 in
theorem formed_1 (o : OpD) (v : Value) (w : World) (h : o.rd w v) (hk : o.kind = 1) : Calls Try.prog 51 #[v] w (Ret w fun r _ => r = .bool o.formed) := by
 obtain ⟨pv, tv, cv, rfl, hP, hT, hC, s1, s2, s3⟩ := h
 have hP0 := hP
 have hT0 := hT
 have hC0 := hC
 obtain ⟨pA, pc, rfl, _⟩ := hP0
 obtain ⟨tA, tc, rfl, _⟩ := hT0
 obtain ⟨cA, cc, rfl, _⟩ := hC0
 unfold okStr maxLen at s1 s3
 obtain ⟨w1, hw1⟩ : ∃ w1, w.alloc (.cells #[.int .u8 o.kind, .slice pA o.path.length pc, .int .i64 o.at_, .slice tA o.to.length tc, .int .u64 o.id, .bool o.leaf, .string o.label, .string o.key, .string o.value, .bool o.gone, .slice cA o.pcs.length cc] 26) = w1 := ⟨_, rfl⟩
 have hE1 : Ext w w1 := by rw [← hw1]; exact (Ext.refl w).alloc _
 have B0 : w1.cell? ⟨w.heap.size, 0, none⟩ = some (.int .u8 o.kind) := by rw [← hw1]; exact (NBox.new _ _ _).cell 0
 have B1 : w1.cell? ⟨w.heap.size, 1, none⟩ = some (.slice pA o.path.length pc) := by rw [← hw1]; exact (NBox.new _ _ _).cell 1
 have B2 : w1.cell? ⟨w.heap.size, 2, none⟩ = some (.int .i64 o.at_) := by rw [← hw1]; exact (NBox.new _ _ _).cell 2
 have B6 : w1.cell? ⟨w.heap.size, 6, none⟩ = some (.string o.label) := by rw [← hw1]; exact (NBox.new _ _ _).cell 6
 have E := Ext.refl w1
 have H1 := Lib.hid hw1
 clear hw1
 have k1 : (o.kind == 1) = true := by rw [hk]; rfl
 have HF : Hid (o.formed = (may o.path && (gapOk o.at_ && decide (o.label.size ≤ 64)))) := by simp [Hid, OpD.formed, hk]
 have hcP : ∀ W, Ext w1 W → Calls Try.prog 64 #[.slice pA o.path.length pc] W (Ret W fun r _ => r = .bool (may o.path)) := fun W hW => pathMay_any _ _ _ (RdS.ext (hE1.trans hW) hP)
 clear hP hT hC s2 hk
 generalize may o.path = m at hcP HF
 rcases m with _ | _
 ·rcases Int.lt_or_le o.at_ 0 with ha | ha
  ·have ha1 : decide (0 ≤ o.at_) = false := decide_eq_false (by omega)
   have hga : gapOk o.at_ = false := by rw [gapOk, ha1]; rfl
   go_enter Try.func51, Try.ntmps51
   go_wp2_with (first | (rw [H1.out]; clear H1) | (go_at_call 64; refine (hcP _ E).mono ?_; clear hcP; rintro e u ⟨r, rfl, rfl, hE⟩; replace E := Ext.trans E hE; clear hE; have B0' := E.cell B0; have B1' := E.cell B1; have B2' := E.cell B2; have B6' := E.cell B6))
   go_ret
   exact ret_bool (by rw [HF.out]; rfl) (hE1.trans E)
  have ha1 : decide (0 ≤ o.at_) = true := decide_eq_true ha
  rcases Int.lt_or_le 1048576 o.at_ with hb | hb
  ·have ha2 : decide (o.at_ ≤ 1048576) = false := decide_eq_false (by omega)
   have hga : gapOk o.at_ = false := by rw [gapOk, ha2, Bool.and_false]
   go_enter Try.func51, Try.ntmps51
   go_wp2_with (first | (rw [H1.out]; clear H1) | (go_at_call 64; refine (hcP _ E).mono ?_; clear hcP; rintro e u ⟨r, rfl, rfl, hE⟩; replace E := Ext.trans E hE; clear hE; have B0' := E.cell B0; have B1' := E.cell B1; have B2' := E.cell B2; have B6' := E.cell B6))
   go_ret
   exact ret_bool (by rw [HF.out]; rfl) (hE1.trans E)
  have ha2 : decide (o.at_ ≤ 1048576) = true := decide_eq_true hb
  have hga : gapOk o.at_ = true := by rw [gapOk, ha1, ha2]; rfl
  go_enter Try.func51, Try.ntmps51
  go_wp2_with (first | (rw [H1.out]; clear H1) | (go_at_call 64; refine (hcP _ E).mono ?_; clear hcP; rintro e u ⟨r, rfl, rfl, hE⟩; replace E := Ext.trans E hE; clear hE; have B0' := E.cell B0; have B1' := E.cell B1; have B2' := E.cell B2; have B6' := E.cell B6))
  go_ret
  exact ret_bool (by rw [HF.out]; rfl) (hE1.trans E)
 ·rcases Int.lt_or_le o.at_ 0 with ha | ha
  ·have ha1 : decide (0 ≤ o.at_) = false := decide_eq_false (by omega)
   have hga : gapOk o.at_ = false := by rw [gapOk, ha1]; rfl
   go_enter Try.func51, Try.ntmps51
   go_wp2_with (first | (rw [H1.out]; clear H1) | (go_at_call 64; refine (hcP _ E).mono ?_; clear hcP; rintro e u ⟨r, rfl, rfl, hE⟩; replace E := Ext.trans E hE; clear hE; have B0' := E.cell B0; have B1' := E.cell B1; have B2' := E.cell B2; have B6' := E.cell B6))
   go_ret
   exact ret_bool (by rw [HF.out, hga]; rfl) (hE1.trans E)
  have ha1 : decide (0 ≤ o.at_) = true := decide_eq_true ha
  rcases Int.lt_or_le 1048576 o.at_ with hb | hb
  ·have ha2 : decide (o.at_ ≤ 1048576) = false := decide_eq_false (by omega)
   have hga : gapOk o.at_ = false := by rw [gapOk, ha2, Bool.and_false]
   go_enter Try.func51, Try.ntmps51
   go_wp2_with (first | (rw [H1.out]; clear H1) | (go_at_call 64; refine (hcP _ E).mono ?_; clear hcP; rintro e u ⟨r, rfl, rfl, hE⟩; replace E := Ext.trans E hE; clear hE; have B0' := E.cell B0; have B1' := E.cell B1; have B2' := E.cell B2; have B6' := E.cell B6))
   go_ret
   exact ret_bool (by rw [HF.out, hga]; rfl) (hE1.trans E)
  have ha2 : decide (o.at_ ≤ 1048576) = true := decide_eq_true hb
  have hga : gapOk o.at_ = true := by rw [gapOk, ha1, ha2]; rfl
  rcases Nat.lt_or_ge 64 o.label.size with hs | hs
  ·have hs1 : decide (o.label.size ≤ 64) = false := decide_eq_false (by omega)
   have hs2 : decide ((o.label.size : Int) ≤ 64) = false := decide_eq_false (by omega)
   go_enter Try.func51, Try.ntmps51
   go_wp2_with (first | (rw [H1.out]; clear H1) | (go_at_call 64; refine (hcP _ E).mono ?_; clear hcP; rintro e u ⟨r, rfl, rfl, hE⟩; replace E := Ext.trans E hE; clear hE; have B0' := E.cell B0; have B1' := E.cell B1; have B2' := E.cell B2; have B6' := E.cell B6))
   go_ret
   exact ret_bool (by rw [HF.out, hga, hs1]; rfl) (hE1.trans E)
  ·have hs1 : decide (o.label.size ≤ 64) = true := decide_eq_true hs
   have hs2 : decide ((o.label.size : Int) ≤ 64) = true := decide_eq_true (by omega)
   go_enter Try.func51, Try.ntmps51
   go_wp2_with (first | (rw [H1.out]; clear H1) | (go_at_call 64; refine (hcP _ E).mono ?_; clear hcP; rintro e u ⟨r, rfl, rfl, hE⟩; replace E := Ext.trans E hE; clear hE; have B0' := E.cell B0; have B1' := E.cell B1; have B2' := E.cell B2; have B6' := E.cell B6))
   go_ret
   exact ret_bool (by rw [HF.out, hga, hs1]; rfl) (hE1.trans E)

set_option maxRecDepth 100000 in
set_option maxHeartbeats 4000000 in
theorem formed_2 (o : OpD) (v : Value) (w : World) (h : o.rd w v) (hk : o.kind = 2) : Calls Try.prog 51 #[v] w (Ret w fun r _ => r = .bool o.formed) := by
 obtain ⟨pv, tv, cv, rfl, hP, hT, hC, s1, s2, s3⟩ := h
 have hP0 := hP
 have hT0 := hT
 have hC0 := hC
 obtain ⟨pA, pc, rfl, _⟩ := hP0
 obtain ⟨tA, tc, rfl, _⟩ := hT0
 obtain ⟨cA, cc, rfl, _⟩ := hC0
 unfold okStr maxLen at s1 s3
 obtain ⟨w1, hw1⟩ : ∃ w1, w.alloc (.cells #[.int .u8 o.kind, .slice pA o.path.length pc, .int .i64 o.at_, .slice tA o.to.length tc, .int .u64 o.id, .bool o.leaf, .string o.label, .string o.key, .string o.value, .bool o.gone, .slice cA o.pcs.length cc] 26) = w1 := ⟨_, rfl⟩
 have hE1 : Ext w w1 := by rw [← hw1]; exact (Ext.refl w).alloc _
 have B0 : w1.cell? ⟨w.heap.size, 0, none⟩ = some (.int .u8 o.kind) := by rw [← hw1]; exact (NBox.new _ _ _).cell 0
 have B1 : w1.cell? ⟨w.heap.size, 1, none⟩ = some (.slice pA o.path.length pc) := by rw [← hw1]; exact (NBox.new _ _ _).cell 1
 have B2 : w1.cell? ⟨w.heap.size, 2, none⟩ = some (.int .i64 o.at_) := by rw [← hw1]; exact (NBox.new _ _ _).cell 2
 have E := Ext.refl w1
 have H1 := Lib.hid hw1
 clear hw1
 have k1 : (o.kind == 1) = false := by rw [hk]; rfl
 have k2 : (o.kind == 2) = true := by rw [hk]; rfl
 have HF : Hid (o.formed = (may o.path && (true))) := by simp [Hid, OpD.formed, hk]
 have hcP : ∀ W, Ext w1 W → Calls Try.prog 64 #[.slice pA o.path.length pc] W (Ret W fun r _ => r = .bool (may o.path)) := fun W hW => pathMay_any _ _ _ (RdS.ext (hE1.trans hW) hP)
 clear hP hT hC s2 hk
 generalize may o.path = m at hcP HF
 rcases m with _ | _
 ·rcases Int.lt_or_le o.at_ 0 with ha | ha
  ·have ha1 : decide (0 ≤ o.at_) = false := decide_eq_false (by omega)
   have hga : gapOk o.at_ = false := by rw [gapOk, ha1]; rfl
   go_enter Try.func51, Try.ntmps51
   go_wp2_with (first | (rw [H1.out]; clear H1) | (go_at_call 64; refine (hcP _ E).mono ?_; clear hcP; rintro e u ⟨r, rfl, rfl, hE⟩; replace E := Ext.trans E hE; clear hE; have B0' := E.cell B0; have B1' := E.cell B1; have B2' := E.cell B2))
   go_ret
   exact ret_bool (by rw [HF.out]; rfl) (hE1.trans E)
  have ha1 : decide (0 ≤ o.at_) = true := decide_eq_true ha
  rcases Int.lt_or_le 1048576 o.at_ with hb | hb
  ·have ha2 : decide (o.at_ ≤ 1048576) = false := decide_eq_false (by omega)
   have hga : gapOk o.at_ = false := by rw [gapOk, ha2, Bool.and_false]
   go_enter Try.func51, Try.ntmps51
   go_wp2_with (first | (rw [H1.out]; clear H1) | (go_at_call 64; refine (hcP _ E).mono ?_; clear hcP; rintro e u ⟨r, rfl, rfl, hE⟩; replace E := Ext.trans E hE; clear hE; have B0' := E.cell B0; have B1' := E.cell B1; have B2' := E.cell B2))
   go_ret
   exact ret_bool (by rw [HF.out]; rfl) (hE1.trans E)
  have ha2 : decide (o.at_ ≤ 1048576) = true := decide_eq_true hb
  have hga : gapOk o.at_ = true := by rw [gapOk, ha1, ha2]; rfl
  go_enter Try.func51, Try.ntmps51
  go_wp2_with (first | (rw [H1.out]; clear H1) | (go_at_call 64; refine (hcP _ E).mono ?_; clear hcP; rintro e u ⟨r, rfl, rfl, hE⟩; replace E := Ext.trans E hE; clear hE; have B0' := E.cell B0; have B1' := E.cell B1; have B2' := E.cell B2))
  go_ret
  exact ret_bool (by rw [HF.out]; rfl) (hE1.trans E)
 ·rcases Int.lt_or_le o.at_ 0 with ha | ha
  ·have ha1 : decide (0 ≤ o.at_) = false := decide_eq_false (by omega)
   have hga : gapOk o.at_ = false := by rw [gapOk, ha1]; rfl
   go_enter Try.func51, Try.ntmps51
   go_wp2_with (first | (rw [H1.out]; clear H1) | (go_at_call 64; refine (hcP _ E).mono ?_; clear hcP; rintro e u ⟨r, rfl, rfl, hE⟩; replace E := Ext.trans E hE; clear hE; have B0' := E.cell B0; have B1' := E.cell B1; have B2' := E.cell B2))
   go_ret
   exact ret_bool (by rw [HF.out]; rfl) (hE1.trans E)
  have ha1 : decide (0 ≤ o.at_) = true := decide_eq_true ha
  rcases Int.lt_or_le 1048576 o.at_ with hb | hb
  ·have ha2 : decide (o.at_ ≤ 1048576) = false := decide_eq_false (by omega)
   have hga : gapOk o.at_ = false := by rw [gapOk, ha2, Bool.and_false]
   go_enter Try.func51, Try.ntmps51
   go_wp2_with (first | (rw [H1.out]; clear H1) | (go_at_call 64; refine (hcP _ E).mono ?_; clear hcP; rintro e u ⟨r, rfl, rfl, hE⟩; replace E := Ext.trans E hE; clear hE; have B0' := E.cell B0; have B1' := E.cell B1; have B2' := E.cell B2))
   go_ret
   exact ret_bool (by rw [HF.out]; rfl) (hE1.trans E)
  have ha2 : decide (o.at_ ≤ 1048576) = true := decide_eq_true hb
  have hga : gapOk o.at_ = true := by rw [gapOk, ha1, ha2]; rfl
  go_enter Try.func51, Try.ntmps51
  go_wp2_with (first | (rw [H1.out]; clear H1) | (go_at_call 64; refine (hcP _ E).mono ?_; clear hcP; rintro e u ⟨r, rfl, rfl, hE⟩; replace E := Ext.trans E hE; clear hE; have B0' := E.cell B0; have B1' := E.cell B1; have B2' := E.cell B2))
  go_ret
  exact ret_bool (by rw [HF.out]; rfl) (hE1.trans E)

set_option maxRecDepth 100000 in
set_option maxHeartbeats 4000000 in
theorem formed_3 (o : OpD) (v : Value) (w : World) (h : o.rd w v) (hk : o.kind = 3) : Calls Try.prog 51 #[v] w (Ret w fun r _ => r = .bool o.formed) := by
 obtain ⟨pv, tv, cv, rfl, hP, hT, hC, s1, s2, s3⟩ := h
 have hP0 := hP
 have hT0 := hT
 have hC0 := hC
 obtain ⟨pA, pc, rfl, _⟩ := hP0
 obtain ⟨tA, tc, rfl, _⟩ := hT0
 obtain ⟨cA, cc, rfl, _⟩ := hC0
 unfold okStr maxLen at s1 s3
 obtain ⟨w1, hw1⟩ : ∃ w1, w.alloc (.cells #[.int .u8 o.kind, .slice pA o.path.length pc, .int .i64 o.at_, .slice tA o.to.length tc, .int .u64 o.id, .bool o.leaf, .string o.label, .string o.key, .string o.value, .bool o.gone, .slice cA o.pcs.length cc] 26) = w1 := ⟨_, rfl⟩
 have hE1 : Ext w w1 := by rw [← hw1]; exact (Ext.refl w).alloc _
 have B0 : w1.cell? ⟨w.heap.size, 0, none⟩ = some (.int .u8 o.kind) := by rw [← hw1]; exact (NBox.new _ _ _).cell 0
 have B1 : w1.cell? ⟨w.heap.size, 1, none⟩ = some (.slice pA o.path.length pc) := by rw [← hw1]; exact (NBox.new _ _ _).cell 1
 have B2 : w1.cell? ⟨w.heap.size, 2, none⟩ = some (.int .i64 o.at_) := by rw [← hw1]; exact (NBox.new _ _ _).cell 2
 have B3 : w1.cell? ⟨w.heap.size, 3, none⟩ = some (.slice tA o.to.length tc) := by rw [← hw1]; exact (NBox.new _ _ _).cell 3
 have E := Ext.refl w1
 have H1 := Lib.hid hw1
 clear hw1
 have k1 : (o.kind == 1) = false := by rw [hk]; rfl
 have k2 : (o.kind == 2) = false := by rw [hk]; rfl
 have k3 : (o.kind == 3) = true := by rw [hk]; rfl
 have HF : Hid (o.formed = (may o.path && (gapOk o.at_ && may o.to))) := by simp [Hid, OpD.formed, hk]
 have hcP : ∀ W, Ext w1 W → Calls Try.prog 64 #[.slice pA o.path.length pc] W (Ret W fun r _ => r = .bool (may o.path)) := fun W hW => pathMay_any _ _ _ (RdS.ext (hE1.trans hW) hP)
 have hcT : ∀ W, Ext w1 W → Calls Try.prog 64 #[.slice tA o.to.length tc] W (Ret W fun r _ => r = .bool (may o.to)) := fun W hW => pathMay_any _ _ _ (RdS.ext (hE1.trans hW) hT)
 clear hP hT hC s2 hk
 generalize may o.path = m at hcP HF
 generalize may o.to = mt at hcT HF
 rcases m with _ | _
 ·rcases Int.lt_or_le o.at_ 0 with ha | ha
  ·have ha1 : decide (0 ≤ o.at_) = false := decide_eq_false (by omega)
   have hga : gapOk o.at_ = false := by rw [gapOk, ha1]; rfl
   go_enter Try.func51, Try.ntmps51
   go_wp2_with (first | (rw [H1.out]; clear H1) | (go_at_call 64; refine (hcP _ E).mono ?_; clear hcP; rintro e u ⟨r, rfl, rfl, hE⟩; replace E := Ext.trans E hE; clear hE; have B0' := E.cell B0; have B1' := E.cell B1; have B2' := E.cell B2; have B3' := E.cell B3) | (go_at_call 64; refine (hcT _ E).mono ?_; clear hcT; rintro e u ⟨r, rfl, rfl, hE⟩; replace E := Ext.trans E hE; clear hE; have B0' := E.cell B0; have B1' := E.cell B1; have B2' := E.cell B2; have B3' := E.cell B3))
   go_ret
   exact ret_bool (by rw [HF.out]; rfl) (hE1.trans E)
  have ha1 : decide (0 ≤ o.at_) = true := decide_eq_true ha
  rcases Int.lt_or_le 1048576 o.at_ with hb | hb
  ·have ha2 : decide (o.at_ ≤ 1048576) = false := decide_eq_false (by omega)
   have hga : gapOk o.at_ = false := by rw [gapOk, ha2, Bool.and_false]
   go_enter Try.func51, Try.ntmps51
   go_wp2_with (first | (rw [H1.out]; clear H1) | (go_at_call 64; refine (hcP _ E).mono ?_; clear hcP; rintro e u ⟨r, rfl, rfl, hE⟩; replace E := Ext.trans E hE; clear hE; have B0' := E.cell B0; have B1' := E.cell B1; have B2' := E.cell B2; have B3' := E.cell B3) | (go_at_call 64; refine (hcT _ E).mono ?_; clear hcT; rintro e u ⟨r, rfl, rfl, hE⟩; replace E := Ext.trans E hE; clear hE; have B0' := E.cell B0; have B1' := E.cell B1; have B2' := E.cell B2; have B3' := E.cell B3))
   go_ret
   exact ret_bool (by rw [HF.out]; rfl) (hE1.trans E)
  have ha2 : decide (o.at_ ≤ 1048576) = true := decide_eq_true hb
  have hga : gapOk o.at_ = true := by rw [gapOk, ha1, ha2]; rfl
  go_enter Try.func51, Try.ntmps51
  go_wp2_with (first | (rw [H1.out]; clear H1) | (go_at_call 64; refine (hcP _ E).mono ?_; clear hcP; rintro e u ⟨r, rfl, rfl, hE⟩; replace E := Ext.trans E hE; clear hE; have B0' := E.cell B0; have B1' := E.cell B1; have B2' := E.cell B2; have B3' := E.cell B3) | (go_at_call 64; refine (hcT _ E).mono ?_; clear hcT; rintro e u ⟨r, rfl, rfl, hE⟩; replace E := Ext.trans E hE; clear hE; have B0' := E.cell B0; have B1' := E.cell B1; have B2' := E.cell B2; have B3' := E.cell B3))
  go_ret
  exact ret_bool (by rw [HF.out]; rfl) (hE1.trans E)
 ·rcases Int.lt_or_le o.at_ 0 with ha | ha
  ·have ha1 : decide (0 ≤ o.at_) = false := decide_eq_false (by omega)
   have hga : gapOk o.at_ = false := by rw [gapOk, ha1]; rfl
   go_enter Try.func51, Try.ntmps51
   go_wp2_with (first | (rw [H1.out]; clear H1) | (go_at_call 64; refine (hcP _ E).mono ?_; clear hcP; rintro e u ⟨r, rfl, rfl, hE⟩; replace E := Ext.trans E hE; clear hE; have B0' := E.cell B0; have B1' := E.cell B1; have B2' := E.cell B2; have B3' := E.cell B3) | (go_at_call 64; refine (hcT _ E).mono ?_; clear hcT; rintro e u ⟨r, rfl, rfl, hE⟩; replace E := Ext.trans E hE; clear hE; have B0' := E.cell B0; have B1' := E.cell B1; have B2' := E.cell B2; have B3' := E.cell B3))
   go_ret
   exact ret_bool (by rw [HF.out, hga]; rfl) (hE1.trans E)
  have ha1 : decide (0 ≤ o.at_) = true := decide_eq_true ha
  rcases Int.lt_or_le 1048576 o.at_ with hb | hb
  ·have ha2 : decide (o.at_ ≤ 1048576) = false := decide_eq_false (by omega)
   have hga : gapOk o.at_ = false := by rw [gapOk, ha2, Bool.and_false]
   go_enter Try.func51, Try.ntmps51
   go_wp2_with (first | (rw [H1.out]; clear H1) | (go_at_call 64; refine (hcP _ E).mono ?_; clear hcP; rintro e u ⟨r, rfl, rfl, hE⟩; replace E := Ext.trans E hE; clear hE; have B0' := E.cell B0; have B1' := E.cell B1; have B2' := E.cell B2; have B3' := E.cell B3) | (go_at_call 64; refine (hcT _ E).mono ?_; clear hcT; rintro e u ⟨r, rfl, rfl, hE⟩; replace E := Ext.trans E hE; clear hE; have B0' := E.cell B0; have B1' := E.cell B1; have B2' := E.cell B2; have B3' := E.cell B3))
   go_ret
   exact ret_bool (by rw [HF.out, hga]; rfl) (hE1.trans E)
  have ha2 : decide (o.at_ ≤ 1048576) = true := decide_eq_true hb
  have hga : gapOk o.at_ = true := by rw [gapOk, ha1, ha2]; rfl
  rcases mt with _ | _
  ·go_enter Try.func51, Try.ntmps51
   go_wp2_with (first | (rw [H1.out]; clear H1) | (go_at_call 64; refine (hcP _ E).mono ?_; clear hcP; rintro e u ⟨r, rfl, rfl, hE⟩; replace E := Ext.trans E hE; clear hE; have B0' := E.cell B0; have B1' := E.cell B1; have B2' := E.cell B2; have B3' := E.cell B3) | (go_at_call 64; refine (hcT _ E).mono ?_; clear hcT; rintro e u ⟨r, rfl, rfl, hE⟩; replace E := Ext.trans E hE; clear hE; have B0' := E.cell B0; have B1' := E.cell B1; have B2' := E.cell B2; have B3' := E.cell B3))
   go_ret
   exact ret_bool (by rw [HF.out, hga]; rfl) (hE1.trans E)
  ·go_enter Try.func51, Try.ntmps51
   go_wp2_with (first | (rw [H1.out]; clear H1) | (go_at_call 64; refine (hcP _ E).mono ?_; clear hcP; rintro e u ⟨r, rfl, rfl, hE⟩; replace E := Ext.trans E hE; clear hE; have B0' := E.cell B0; have B1' := E.cell B1; have B2' := E.cell B2; have B3' := E.cell B3) | (go_at_call 64; refine (hcT _ E).mono ?_; clear hcT; rintro e u ⟨r, rfl, rfl, hE⟩; replace E := Ext.trans E hE; clear hE; have B0' := E.cell B0; have B1' := E.cell B1; have B2' := E.cell B2; have B3' := E.cell B3))
   go_ret
   exact ret_bool (by rw [HF.out, hga]; rfl) (hE1.trans E)
end Go.Proofs.Ytdnjkffmgmbfmaa.Bs
