/- Chapter 11: which operations move nodes. -/
import Derived.Test.YtdnjkffmgmbfmaaBsFormedb
import Derived.Test.YtdnjkffmgmbfmaaBsFormedRb
namespace Go.Proofs.Ytdnjkffmgmbfmaa.Bs
open Go.RowKit Go.Proofs.Ytdnjkffmgmbfmaa.Bw
theorem formed_kind {o : OpD} (h : o.formed = true) : 1 ≤ o.kind ∧ o.kind ≤ 6 := by
 unfold OpD.formed at h
 rw [Bool.and_eq_true] at h
 obtain ⟨_, h⟩ := h
 repeat (split at h; omega)
 cases h
theorem formed_may {o : OpD} (h : o.formed = true) : may o.path = true := by
 unfold OpD.formed at h
 rw [Bool.and_eq_true] at h; exact h.1

set_option maxRecDepth 100000 in
set_option maxHeartbeats 4000000 in
theorem moves_any (o : OpD) (v : Value) (w : World) (h : o.rd w v) : Calls Try.prog 29 #[v] w (Ret w fun r _ => r = .bool o.sh.moves) := by
 obtain ⟨pv, tv, cv, rfl, hP, hT, hC, s1, s2, s3⟩ := h
 have h : o.rd w (.agg #[.int .u8 o.kind, pv, .int .i64 o.at_, tv, .int .u64 o.id, .bool o.leaf, .string o.label, .string o.key, .string o.value, .bool o.gone, cv]) := ⟨pv, tv, cv, rfl, hP, hT, hC, s1, s2, s3⟩
 have hP0 := hP
 have hT0 := hT
 have hC0 := hC
 obtain ⟨pA, pc, rfl, _, _, hpc, _⟩ := hP0
 obtain ⟨tA, tc, rfl, _, _, htc, _⟩ := hT0
 obtain ⟨cA, cc, rfl, _⟩ := hC0
 have hpl : o.path.length ≤ pc := by obtain ⟨_, _, e, _, h1, _⟩ := hP; simp only [Value.slice.injEq] at e; omega
 have htl : o.to.length ≤ tc := by obtain ⟨_, _, e, _, h1, _⟩ := hT; simp only [Value.slice.injEq] at e; omega
 unfold maxLen at hpc htc
 obtain ⟨w1, hw1⟩ : ∃ w1, w.alloc (.cells #[.int .u8 o.kind, .slice pA o.path.length pc, .int .i64 o.at_, .slice tA o.to.length tc, .int .u64 o.id, .bool o.leaf, .string o.label, .string o.key, .string o.value, .bool o.gone, .slice cA o.pcs.length cc] 26) = w1 := ⟨_, rfl⟩
 have hE1 : Ext w w1 := by rw [← hw1]; exact (Ext.refl w).alloc _
 have B0 : w1.cell? ⟨w.heap.size, 0, none⟩ = some (.int .u8 o.kind) := by rw [← hw1]; exact (NBox.new _ _ _).cell 0
 have B1 : w1.cell? ⟨w.heap.size, 1, none⟩ = some (.slice pA o.path.length pc) := by rw [← hw1]; exact (NBox.new _ _ _).cell 1
 have B2 : w1.cell? ⟨w.heap.size, 2, none⟩ = some (.int .i64 o.at_) := by rw [← hw1]; exact (NBox.new _ _ _).cell 2
 have B3 : w1.cell? ⟨w.heap.size, 3, none⟩ = some (.slice tA o.to.length tc) := by rw [← hw1]; exact (NBox.new _ _ _).cell 3
 have B4 : w1.cell? ⟨w.heap.size, 4, none⟩ = some (.int .u64 o.id) := by rw [← hw1]; exact (NBox.new _ _ _).cell 4
 have B5 : w1.cell? ⟨w.heap.size, 5, none⟩ = some (.bool o.leaf) := by rw [← hw1]; exact (NBox.new _ _ _).cell 5
 have B6 : w1.cell? ⟨w.heap.size, 6, none⟩ = some (.string o.label) := by rw [← hw1]; exact (NBox.new _ _ _).cell 6
 have B7 : w1.cell? ⟨w.heap.size, 7, none⟩ = some (.string o.key) := by rw [← hw1]; exact (NBox.new _ _ _).cell 7
 have B8 : w1.cell? ⟨w.heap.size, 8, none⟩ = some (.string o.value) := by rw [← hw1]; exact (NBox.new _ _ _).cell 8
 have B9 : w1.cell? ⟨w.heap.size, 9, none⟩ = some (.bool o.gone) := by rw [← hw1]; exact (NBox.new _ _ _).cell 9
 have B10 : w1.cell? ⟨w.heap.size, 10, none⟩ = some (.slice cA o.pcs.length cc) := by rw [← hw1]; exact (NBox.new _ _ _).cell 10
 have E := Ext.refl w1
 have H1 := Lib.hid hw1
 clear hw1
 have hcF : ∀ W, Ext w1 W → Calls Try.prog 51 #[.agg #[.int .u8 o.kind, .slice pA o.path.length pc, .int .i64 o.at_, .slice tA o.to.length tc, .int .u64 o.id, .bool o.leaf, .string o.label, .string o.key, .string o.value, .bool o.gone, .slice cA o.pcs.length cc]] W (Ret W fun r _ => r = .bool o.formed) := fun W hW => formed_any o _ W (OpD.rd_ext (hE1.trans hW) h)
 have hcW : ∀ W, Ext w1 W → Calls Try.prog 32 #[.slice pA o.path.length pc, .slice tA o.to.length tc] W (Ret W fun r _ => r = .bool (within o.path o.to)) := fun W hW => pathWithin_any _ _ _ _ _ (RdS.ext (hE1.trans hW) hP) (RdS.ext (hE1.trans hW) hT)
 clear h hP hT hC hpl htl s1 s2 s3
 rcases hf : o.formed with _ | _
 ·have HF := Lib.hid (show o.sh.moves = false by simp [OpD.sh, Sh.moves, hf])
  simp only [hf] at hcF
  clear hf hcW
  go_enter Try.func29, Try.ntmps29
  go_wp2_with (first | (rw [H1.out]; clear H1) | (go_at_call 51; refine (hcF _ E).mono ?_; clear hcF; rintro e u ⟨r, rfl, rfl, hE⟩; replace E := Ext.trans E hE; clear hE; have B0' := E.cell B0; have B1' := E.cell B1; have B3' := E.cell B3) | (go_at_call 32; refine (hcW _ E).mono ?_; clear hcW; rintro e u ⟨r, rfl, rfl, hE⟩; replace E := Ext.trans E hE; clear hE; have B0' := E.cell B0; have B1' := E.cell B1; have B3' := E.cell B3))
  go_ret
  exact ret_bool (by rw [HF.out]) (hE1.trans E)
 have hkd := formed_kind hf
 simp only [hf] at hcF
 by_cases hk1 : o.kind = 1
 ·have hk := hk1
  have HF := Lib.hid (show o.sh.moves = true by simp [OpD.sh, Sh.moves, hf, hk])
  have k1 : (o.kind == 1) = true := by rw [hk]; rfl
  have k2 : (o.kind == 2) = false := by rw [hk]; rfl
  have k3 : (o.kind == 3) = false := by rw [hk]; rfl
  have k4 : (o.kind != 3) = true := by rw [bne, k3]; rfl
  have k5 : decide (3 < o.kind) = false := by simp; omega
  clear hk hk1 hf hkd hcW
  go_enter Try.func29, Try.ntmps29
  go_wp2_with (first | (rw [H1.out]; clear H1) | (go_at_call 51; refine (hcF _ E).mono ?_; clear hcF; rintro e u ⟨r, rfl, rfl, hE⟩; replace E := Ext.trans E hE; clear hE; have B0' := E.cell B0; have B1' := E.cell B1; have B3' := E.cell B3) | (go_at_call 32; refine (hcW _ E).mono ?_; clear hcW; rintro e u ⟨r, rfl, rfl, hE⟩; replace E := Ext.trans E hE; clear hE; have B0' := E.cell B0; have B1' := E.cell B1; have B3' := E.cell B3))
  go_ret
  exact ret_bool (by rw [HF.out]) (hE1.trans E)
 rcases Nat.eq_zero_or_pos o.path.length with hp | hp
 ·have hn := List.length_eq_zero_iff.1 hp
  have HF := Lib.hid (show o.sh.moves = false by simp [OpD.sh, Sh.moves, hf, hk1, hn])
  have p1 : decide (0 < (o.path.length : Int)) = false := decide_eq_false (by omega)
  have p2 : ((o.path.length : Int) == 0) = true := by rw [beq_iff_eq]; omega
  have p3 : decide (0 < o.path.length) = false := decide_eq_false (by omega)
  have p4 : (o.path.length == 0) = true := by rw [beq_iff_eq]; omega
  clear hcW hf hn
  by_cases hk2 : o.kind = 2
  ·have hk := hk2
   have k1 : (o.kind == 1) = false := by rw [hk]; rfl
   have k2 : (o.kind == 2) = true := by rw [hk]; rfl
   have k3 : (o.kind == 3) = false := by rw [hk]; rfl
   have k4 : (o.kind != 3) = true := by rw [bne, k3]; rfl
   have k5 : decide (3 < o.kind) = false := by simp; omega
   clear hk hk1 hk2 hkd hp
   go_enter Try.func29, Try.ntmps29
   go_wp2_with (first | (rw [H1.out]; clear H1) | (go_at_call 51; refine (hcF _ E).mono ?_; clear hcF; rintro e u ⟨r, rfl, rfl, hE⟩; replace E := Ext.trans E hE; clear hE; have B0' := E.cell B0; have B1' := E.cell B1; have B3' := E.cell B3) | (go_at_call 32; refine (hcW _ E).mono ?_; clear hcW; rintro e u ⟨r, rfl, rfl, hE⟩; replace E := Ext.trans E hE; clear hE; have B0' := E.cell B0; have B1' := E.cell B1; have B3' := E.cell B3))
   go_ret
   exact ret_bool (by rw [HF.out]) (hE1.trans E)
  by_cases hk3 : o.kind = 3
  ·have hk := hk3
   have k1 : (o.kind == 1) = false := by rw [hk]; rfl
   have k2 : (o.kind == 2) = false := by rw [hk]; rfl
   have k3 : (o.kind == 3) = true := by rw [hk]; rfl
   have k4 : (o.kind != 3) = false := by rw [bne, k3]; rfl
   have k5 : decide (3 < o.kind) = false := by simp; omega
   clear hk hk1 hk2 hk3 hkd hp
   go_enter Try.func29, Try.ntmps29
   go_wp2_with (first | (rw [H1.out]; clear H1) | (go_at_call 51; refine (hcF _ E).mono ?_; clear hcF; rintro e u ⟨r, rfl, rfl, hE⟩; replace E := Ext.trans E hE; clear hE; have B0' := E.cell B0; have B1' := E.cell B1; have B3' := E.cell B3) | (go_at_call 32; refine (hcW _ E).mono ?_; clear hcW; rintro e u ⟨r, rfl, rfl, hE⟩; replace E := Ext.trans E hE; clear hE; have B0' := E.cell B0; have B1' := E.cell B1; have B3' := E.cell B3))
   go_ret
   exact ret_bool (by rw [HF.out]) (hE1.trans E)
  have k1 : (o.kind == 1) = false := by rw [beq_eq_false_iff_ne]; omega
  have k2 : (o.kind == 2) = false := by rw [beq_eq_false_iff_ne]; omega
  have k3 : (o.kind == 3) = false := by rw [beq_eq_false_iff_ne]; omega
  have k4 : (o.kind != 3) = true := by rw [bne, k3]; rfl
  have k5 : decide (3 < o.kind) = true := by simp; omega
  clear hk1 hk2 hk3 hkd hp
  go_enter Try.func29, Try.ntmps29
  go_wp2_with (first | (rw [H1.out]; clear H1) | (go_at_call 51; refine (hcF _ E).mono ?_; clear hcF; rintro e u ⟨r, rfl, rfl, hE⟩; replace E := Ext.trans E hE; clear hE; have B0' := E.cell B0; have B1' := E.cell B1; have B3' := E.cell B3) | (go_at_call 32; refine (hcW _ E).mono ?_; clear hcW; rintro e u ⟨r, rfl, rfl, hE⟩; replace E := Ext.trans E hE; clear hE; have B0' := E.cell B0; have B1' := E.cell B1; have B3' := E.cell B3))
  go_ret
  exact ret_bool (by rw [HF.out]) (hE1.trans E)
 have hn : o.path ≠ [] := List.length_pos_iff.1 hp
 have p1 : decide (0 < (o.path.length : Int)) = true := decide_eq_true (by omega)
 have p2 : ((o.path.length : Int) == 0) = false := by rw [beq_eq_false_iff_ne]; omega
 have p3 : decide (0 < o.path.length) = true := decide_eq_true (by omega)
 have p4 : (o.path.length == 0) = false := by rw [beq_eq_false_iff_ne]; omega
 by_cases hk2 : o.kind = 2
 ·have hk := hk2
  have HF := Lib.hid (show o.sh.moves = true by simp [OpD.sh, Sh.moves, hf, hk, hn])
  have k1 : (o.kind == 1) = false := by rw [hk]; rfl
  have k2 : (o.kind == 2) = true := by rw [hk]; rfl
  have k3 : (o.kind == 3) = false := by rw [hk]; rfl
  have k4 : (o.kind != 3) = true := by rw [bne, k3]; rfl
  have k5 : decide (3 < o.kind) = false := by simp; omega
  clear hk hk1 hk2 hf hkd hcW hp hn
  go_enter Try.func29, Try.ntmps29
  go_wp2_with (first | (rw [H1.out]; clear H1) | (go_at_call 51; refine (hcF _ E).mono ?_; clear hcF; rintro e u ⟨r, rfl, rfl, hE⟩; replace E := Ext.trans E hE; clear hE; have B0' := E.cell B0; have B1' := E.cell B1; have B3' := E.cell B3) | (go_at_call 32; refine (hcW _ E).mono ?_; clear hcW; rintro e u ⟨r, rfl, rfl, hE⟩; replace E := Ext.trans E hE; clear hE; have B0' := E.cell B0; have B1' := E.cell B1; have B3' := E.cell B3))
  go_ret
  exact ret_bool (by rw [HF.out]) (hE1.trans E)
 by_cases hk3 : o.kind = 3
 ·have hk := hk3
  have k1 : (o.kind == 1) = false := by rw [hk]; rfl
  have k2 : (o.kind == 2) = false := by rw [hk]; rfl
  have k3 : (o.kind == 3) = true := by rw [hk]; rfl
  have k4 : (o.kind != 3) = false := by rw [bne, k3]; rfl
  have k5 : decide (3 < o.kind) = false := by simp; omega
  rcases hw : within o.path o.to with _ | _
  ·have HF := Lib.hid (show o.sh.moves = true by simp [OpD.sh, Sh.moves, hf, hk, hn, hw])
   simp only [hw] at hcW
   clear hk hk1 hk2 hk3 hf hkd hp hn hw
   go_enter Try.func29, Try.ntmps29
   go_wp2_with (first | (rw [H1.out]; clear H1) | (go_at_call 51; refine (hcF _ E).mono ?_; clear hcF; rintro e u ⟨r, rfl, rfl, hE⟩; replace E := Ext.trans E hE; clear hE; have B0' := E.cell B0; have B1' := E.cell B1; have B3' := E.cell B3) | (go_at_call 32; refine (hcW _ E).mono ?_; clear hcW; rintro e u ⟨r, rfl, rfl, hE⟩; replace E := Ext.trans E hE; clear hE; have B0' := E.cell B0; have B1' := E.cell B1; have B3' := E.cell B3))
   go_ret
   exact ret_bool (by rw [HF.out]) (hE1.trans E)
  ·have HF := Lib.hid (show o.sh.moves = false by simp [OpD.sh, Sh.moves, hf, hk, hn, hw])
   simp only [hw] at hcW
   clear hk hk1 hk2 hk3 hf hkd hp hn hw
   go_enter Try.func29, Try.ntmps29
   go_wp2_with (first | (rw [H1.out]; clear H1) | (go_at_call 51; refine (hcF _ E).mono ?_; clear hcF; rintro e u ⟨r, rfl, rfl, hE⟩; replace E := Ext.trans E hE; clear hE; have B0' := E.cell B0; have B1' := E.cell B1; have B3' := E.cell B3) | (go_at_call 32; refine (hcW _ E).mono ?_; clear hcW; rintro e u ⟨r, rfl, rfl, hE⟩; replace E := Ext.trans E hE; clear hE; have B0' := E.cell B0; have B1' := E.cell B1; have B3' := E.cell B3))
   go_ret
   exact ret_bool (by rw [HF.out]) (hE1.trans E)
 have HF := Lib.hid (show o.sh.moves = false by simp [OpD.sh, Sh.moves, hk1, hk2, hk3])
 have k1 : (o.kind == 1) = false := by rw [beq_eq_false_iff_ne]; omega
 have k2 : (o.kind == 2) = false := by rw [beq_eq_false_iff_ne]; omega
 have k3 : (o.kind == 3) = false := by rw [beq_eq_false_iff_ne]; omega
 have k4 : (o.kind != 3) = true := by rw [bne, k3]; rfl
 have k5 : decide (3 < o.kind) = true := by simp; omega
 clear hk1 hk2 hk3 hf hkd hcW hp hn
 go_enter Try.func29, Try.ntmps29
 go_wp2_with (first | (rw [H1.out]; clear H1) | (go_at_call 51; refine (hcF _ E).mono ?_; clear hcF; rintro e u ⟨r, rfl, rfl, hE⟩; replace E := Ext.trans E hE; clear hE; have B0' := E.cell B0; have B1' := E.cell B1; have B3' := E.cell B3) | (go_at_call 32; refine (hcW _ E).mono ?_; clear hcW; rintro e u ⟨r, rfl, rfl, hE⟩; replace E := Ext.trans E hE; clear hE; have B0' := E.cell B0; have B1' := E.cell B1; have B3' := E.cell B3))
 go_ret
 exact ret_bool (by rw [HF.out]) (hE1.trans E)

end Go.Proofs.Ytdnjkffmgmbfmaa.Bs
