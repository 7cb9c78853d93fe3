/- Chapter 11: a child's number behind an operation, and where a node lands. -/
import Derived.Test.YtdnjkffmgmbfmaaBsOf
namespace Go.Proofs.Ytdnjkffmgmbfmaa.Bs
open Go.RowKit Go.Proofs.Ytdnjkffmgmbfmaa.Bw

theorem w64 (x : Int) : IntKind.i64.wrap x = wrap64 x := by unfold wrap64; exact IntKind.wrap_i64 x
theorem sh_wr (o : OpD) (x : Int) : o.sh.wr x = wrap64 x := w64 x

set_option maxRecDepth 100000 in
set_option maxHeartbeats 4000000 in
theorem number_any (o : OpD) (v pv : Value) (p : List Int) (k : Int) (w : World) (hC : RdC w o v) (hp : RdI w p pv) : Calls Try.prog 34 #[v, pv, .int .i64 k] w (Ret w fun r _ => r = .int .i64 (o.sh.number p k)) := by
 obtain ⟨fv, gv, f, a, rfl, hF, hG, ht⟩ := hC
 have hF0 := hF
 have hG0 := hG
 obtain ⟨fA, fc, rfl, _⟩ := hF0
 obtain ⟨gA, gc, rfl, _⟩ := hG0
 have hp0 := hp
 obtain ⟨pA, pc, rfl, _⟩ := hp0
 have HF : Hid (o.sh.number p k = if o.sh.puts && decide (o.at_ ≤ k) && decide (p = o.sh.goal) then wrap64 ((if o.sh.takes && decide (a < k) && decide (p = f) then wrap64 (k - 1) else k) + 1)
   else if o.sh.takes && decide (a < k) && decide (p = f) then wrap64 (k - 1) else k) := by
  cases h : o.sh.takes with
  | false => simp [Hid, Sh.number, h, sh_wr]; rfl
  | true => obtain ⟨rfl, rfl⟩ := ht h; simp only [Hid, Sh.number, h, sh_wr]; rfl
 clear ht
 generalize o.sh.takes = tk at *
 generalize o.sh.puts = pu at *
 obtain ⟨w1, hw1⟩ : ∃ w1, w.alloc (.cells #[.bool tk, .bool pu, .slice fA f.length fc, .slice gA o.sh.goal.length gc, .int .i64 a, .int .i64 o.at_] 63) = w1 := ⟨_, rfl⟩
 have hE1 : Ext w w1 := by rw [← hw1]; exact (Ext.refl w).alloc _
 have B0 : w1.cell? ⟨w.heap.size, 0, none⟩ = some (.bool tk) := by rw [← hw1]; exact (NBox.new _ _ _).cell 0
 have B1 : w1.cell? ⟨w.heap.size, 1, none⟩ = some (.bool pu) := by rw [← hw1]; exact (NBox.new _ _ _).cell 1
 have B2 : w1.cell? ⟨w.heap.size, 2, none⟩ = some (.slice fA f.length fc) := by rw [← hw1]; exact (NBox.new _ _ _).cell 2
 have B3 : w1.cell? ⟨w.heap.size, 3, none⟩ = some (.slice gA o.sh.goal.length gc) := by rw [← hw1]; exact (NBox.new _ _ _).cell 3
 have B4 : w1.cell? ⟨w.heap.size, 4, none⟩ = some (.int .i64 a) := by rw [← hw1]; exact (NBox.new _ _ _).cell 4
 have B5 : w1.cell? ⟨w.heap.size, 5, none⟩ = some (.int .i64 o.at_) := by rw [← hw1]; exact (NBox.new _ _ _).cell 5
 have E := Ext.refl w1
 have H1 := Lib.hid hw1
 clear hw1
 have hc1 : ∀ W, Ext w1 W → Calls Try.prog 40 #[.slice pA p.length pc, .slice fA f.length fc] W (Ret W fun r _ => r = .bool (decide (p = f))) := fun W hW => pathSame_any _ _ _ _ _ (RdS.ext (hE1.trans hW) hp) (RdS.ext (hE1.trans hW) hF)
 have hc2 : ∀ W, Ext w1 W → Calls Try.prog 40 #[.slice pA p.length pc, .slice gA o.sh.goal.length gc] W (Ret W fun r _ => r = .bool (decide (p = o.sh.goal))) := fun W hW => pathSame_any _ _ _ _ _ (RdS.ext (hE1.trans hW) hp) (RdS.ext (hE1.trans hW) hG)
 clear hF hG hp
 generalize decide (p = f) = s1 at *
 generalize decide (p = o.sh.goal) = s2 at *
 rcases tk with _ | _
 ·clear hc1
  rcases pu with _ | _
  ·clear hc2
   go_enter Try.func34, Try.ntmps34
   go_wp2_with (first | (rw [H1.out]; clear H1))
   go_ret
   exact ret_int (by rw [HF.out]; rfl) (hE1.trans E)
  rcases Int.lt_or_le k o.at_ with hg | hg
  ·have g1 : decide (o.at_ ≤ k) = false := decide_eq_false (by omega)
   clear hc2
   go_enter Try.func34, Try.ntmps34
   go_wp2_with (first | (rw [H1.out]; clear H1))
   go_ret
   exact ret_int (by rw [HF.out, g1]; rfl) (hE1.trans E)
  have g1 : decide (o.at_ ≤ k) = true := decide_eq_true hg
  rcases s2 with _ | _
  ·go_enter Try.func34, Try.ntmps34
   go_wp2_with (first | (rw [H1.out]; clear H1) | (go_at_call 40; refine (hc2 _ E).mono ?_; clear hc2; rintro e u ⟨r, rfl, rfl, hE⟩; replace E := Ext.trans E hE; clear hE; have B0' := E.cell B0; have B1' := E.cell B1; have B2' := E.cell B2; have B3' := E.cell B3; have B4' := E.cell B4; have B5' := E.cell B5))
   go_ret
   exact ret_int (by rw [HF.out, g1]; rfl) (hE1.trans E)
  ·go_enter Try.func34, Try.ntmps34
   go_wp2_with (first | (rw [H1.out]; clear H1) | (go_at_call 40; refine (hc2 _ E).mono ?_; clear hc2; rintro e u ⟨r, rfl, rfl, hE⟩; replace E := Ext.trans E hE; clear hE; have B0' := E.cell B0; have B1' := E.cell B1; have B2' := E.cell B2; have B3' := E.cell B3; have B4' := E.cell B4; have B5' := E.cell B5))
   go_ret
   exact ret_int (by rw [HF.out, g1]; rfl) (hE1.trans E)
 rcases Int.lt_or_le a k with ha | ha
 ·have a1 : decide (a < k) = true := decide_eq_true ha
  rcases s1 with _ | _
  ·rcases pu with _ | _
   ·clear hc2
    go_enter Try.func34, Try.ntmps34
    go_wp2_with (first | (rw [H1.out]; clear H1) | (go_at_call 40; refine (hc1 _ E).mono ?_; clear hc1; rintro e u ⟨r, rfl, rfl, hE⟩; replace E := Ext.trans E hE; clear hE; have B0' := E.cell B0; have B1' := E.cell B1; have B2' := E.cell B2; have B3' := E.cell B3; have B4' := E.cell B4; have B5' := E.cell B5))
    go_ret
    exact ret_int (by rw [HF.out, a1]; rfl) (hE1.trans E)
   rcases Int.lt_or_le k o.at_ with hg | hg
   ·have g1 : decide (o.at_ ≤ k) = false := decide_eq_false (by omega)
    clear hc2
    go_enter Try.func34, Try.ntmps34
    go_wp2_with (first | (rw [H1.out]; clear H1) | (go_at_call 40; refine (hc1 _ E).mono ?_; clear hc1; rintro e u ⟨r, rfl, rfl, hE⟩; replace E := Ext.trans E hE; clear hE; have B0' := E.cell B0; have B1' := E.cell B1; have B2' := E.cell B2; have B3' := E.cell B3; have B4' := E.cell B4; have B5' := E.cell B5))
    go_ret
    exact ret_int (by rw [HF.out, a1, g1]; rfl) (hE1.trans E)
   have g1 : decide (o.at_ ≤ k) = true := decide_eq_true hg
   rcases s2 with _ | _
   ·go_enter Try.func34, Try.ntmps34
    go_wp2_with (first | (rw [H1.out]; clear H1) | (go_at_call 40; refine (hc1 _ E).mono ?_; clear hc1; rintro e u ⟨r, rfl, rfl, hE⟩; replace E := Ext.trans E hE; clear hE; have B0' := E.cell B0; have B1' := E.cell B1; have B2' := E.cell B2; have B3' := E.cell B3; have B4' := E.cell B4; have B5' := E.cell B5) | (go_at_call 40; refine (hc2 _ E).mono ?_; clear hc2; rintro e u ⟨r, rfl, rfl, hE⟩; replace E := Ext.trans E hE; clear hE; have B0' := E.cell B0; have B1' := E.cell B1; have B2' := E.cell B2; have B3' := E.cell B3; have B4' := E.cell B4; have B5' := E.cell B5))
    go_ret
    exact ret_int (by rw [HF.out, a1, g1]; rfl) (hE1.trans E)
   ·go_enter Try.func34, Try.ntmps34
    go_wp2_with (first | (rw [H1.out]; clear H1) | (go_at_call 40; refine (hc1 _ E).mono ?_; clear hc1; rintro e u ⟨r, rfl, rfl, hE⟩; replace E := Ext.trans E hE; clear hE; have B0' := E.cell B0; have B1' := E.cell B1; have B2' := E.cell B2; have B3' := E.cell B3; have B4' := E.cell B4; have B5' := E.cell B5) | (go_at_call 40; refine (hc2 _ E).mono ?_; clear hc2; rintro e u ⟨r, rfl, rfl, hE⟩; replace E := Ext.trans E hE; clear hE; have B0' := E.cell B0; have B1' := E.cell B1; have B2' := E.cell B2; have B3' := E.cell B3; have B4' := E.cell B4; have B5' := E.cell B5))
    go_ret
    exact ret_int (by rw [HF.out, a1, g1]; rfl) (hE1.trans E)
  ·rcases pu with _ | _
   ·clear hc2
    go_enter Try.func34, Try.ntmps34
    go_wp2_with (first | (rw [H1.out]; clear H1) | (go_at_call 40; refine (hc1 _ E).mono ?_; clear hc1; rintro e u ⟨r, rfl, rfl, hE⟩; replace E := Ext.trans E hE; clear hE; have B0' := E.cell B0; have B1' := E.cell B1; have B2' := E.cell B2; have B3' := E.cell B3; have B4' := E.cell B4; have B5' := E.cell B5))
    go_ret
    exact ret_int (by rw [HF.out, a1]; rfl) (hE1.trans E)
   rcases Int.lt_or_le k o.at_ with hg | hg
   ·have g1 : decide (o.at_ ≤ k) = false := decide_eq_false (by omega)
    clear hc2
    go_enter Try.func34, Try.ntmps34
    go_wp2_with (first | (rw [H1.out]; clear H1) | (go_at_call 40; refine (hc1 _ E).mono ?_; clear hc1; rintro e u ⟨r, rfl, rfl, hE⟩; replace E := Ext.trans E hE; clear hE; have B0' := E.cell B0; have B1' := E.cell B1; have B2' := E.cell B2; have B3' := E.cell B3; have B4' := E.cell B4; have B5' := E.cell B5))
    go_ret
    exact ret_int (by rw [HF.out, a1, g1]; rfl) (hE1.trans E)
   have g1 : decide (o.at_ ≤ k) = true := decide_eq_true hg
   rcases s2 with _ | _
   ·go_enter Try.func34, Try.ntmps34
    go_wp2_with (first | (rw [H1.out]; clear H1) | (go_at_call 40; refine (hc1 _ E).mono ?_; clear hc1; rintro e u ⟨r, rfl, rfl, hE⟩; replace E := Ext.trans E hE; clear hE; have B0' := E.cell B0; have B1' := E.cell B1; have B2' := E.cell B2; have B3' := E.cell B3; have B4' := E.cell B4; have B5' := E.cell B5) | (go_at_call 40; refine (hc2 _ E).mono ?_; clear hc2; rintro e u ⟨r, rfl, rfl, hE⟩; replace E := Ext.trans E hE; clear hE; have B0' := E.cell B0; have B1' := E.cell B1; have B2' := E.cell B2; have B3' := E.cell B3; have B4' := E.cell B4; have B5' := E.cell B5))
    go_ret
    exact ret_int (by rw [HF.out, a1, g1]; rfl) (hE1.trans E)
   ·go_enter Try.func34, Try.ntmps34
    go_wp2_with (first | (rw [H1.out]; clear H1) | (go_at_call 40; refine (hc1 _ E).mono ?_; clear hc1; rintro e u ⟨r, rfl, rfl, hE⟩; replace E := Ext.trans E hE; clear hE; have B0' := E.cell B0; have B1' := E.cell B1; have B2' := E.cell B2; have B3' := E.cell B3; have B4' := E.cell B4; have B5' := E.cell B5) | (go_at_call 40; refine (hc2 _ E).mono ?_; clear hc2; rintro e u ⟨r, rfl, rfl, hE⟩; replace E := Ext.trans E hE; clear hE; have B0' := E.cell B0; have B1' := E.cell B1; have B2' := E.cell B2; have B3' := E.cell B3; have B4' := E.cell B4; have B5' := E.cell B5))
    go_ret
    exact ret_int (by rw [HF.out, a1, g1]; rfl) (hE1.trans E)
 have a1 : decide (a < k) = false := decide_eq_false (by omega)
 clear hc1
 rcases pu with _ | _
 ·clear hc2
  go_enter Try.func34, Try.ntmps34
  go_wp2_with (first | (rw [H1.out]; clear H1))
  go_ret
  exact ret_int (by rw [HF.out, a1]; rfl) (hE1.trans E)
 rcases Int.lt_or_le k o.at_ with hg | hg
 ·have g1 : decide (o.at_ ≤ k) = false := decide_eq_false (by omega)
  clear hc2
  go_enter Try.func34, Try.ntmps34
  go_wp2_with (first | (rw [H1.out]; clear H1))
  go_ret
  exact ret_int (by rw [HF.out, a1, g1]; rfl) (hE1.trans E)
 have g1 : decide (o.at_ ≤ k) = true := decide_eq_true hg
 rcases s2 with _ | _
 ·go_enter Try.func34, Try.ntmps34
  go_wp2_with (first | (rw [H1.out]; clear H1) | (go_at_call 40; refine (hc2 _ E).mono ?_; clear hc2; rintro e u ⟨r, rfl, rfl, hE⟩; replace E := Ext.trans E hE; clear hE; have B0' := E.cell B0; have B1' := E.cell B1; have B2' := E.cell B2; have B3' := E.cell B3; have B4' := E.cell B4; have B5' := E.cell B5))
  go_ret
  exact ret_int (by rw [HF.out, a1, g1]; rfl) (hE1.trans E)
 ·go_enter Try.func34, Try.ntmps34
  go_wp2_with (first | (rw [H1.out]; clear H1) | (go_at_call 40; refine (hc2 _ E).mono ?_; clear hc2; rintro e u ⟨r, rfl, rfl, hE⟩; replace E := Ext.trans E hE; clear hE; have B0' := E.cell B0; have B1' := E.cell B1; have B2' := E.cell B2; have B3' := E.cell B3; have B4' := E.cell B4; have B5' := E.cell B5))
  go_ret
  exact ret_int (by rw [HF.out, a1, g1]; rfl) (hE1.trans E)

set_option maxRecDepth 100000 in
set_option maxHeartbeats 4000000 in
theorem land_any (o : OpD) (v : Value) (w : World) (hC : RdC w o v) (htk : o.sh.takes = true) : Calls Try.prog 33 #[v] w (Ret w fun r _ => r = .int .i64 o.sh.land) := by
 obtain ⟨fv, gv, f, a, rfl, hF, hG, ht⟩ := hC
 have hF0 := hF
 have hG0 := hG
 obtain ⟨fA, fc, rfl, _⟩ := hF0
 obtain ⟨gA, gc, rfl, _⟩ := hG0
 obtain ⟨ef, ea⟩ := ht htk
 have HF : Hid (o.sh.land = if decide (a < o.at_) && decide (f = o.sh.goal) then wrap64 (o.at_ - 1) else o.at_) := by
  subst ef ea
  simp only [Hid, Sh.land, Bool.and_eq_true, decide_eq_true_eq, sh_wr]
  rfl
 clear ht ef ea htk
 generalize o.sh.takes = tk at *
 generalize o.sh.puts = pu at *
 obtain ⟨w1, hw1⟩ : ∃ w1, w.alloc (.cells #[.bool tk, .bool pu, .slice fA f.length fc, .slice gA o.sh.goal.length gc, .int .i64 a, .int .i64 o.at_] 63) = w1 := ⟨_, rfl⟩
 have hE1 : Ext w w1 := by rw [← hw1]; exact (Ext.refl w).alloc _
 have B0 : w1.cell? ⟨w.heap.size, 0, none⟩ = some (.bool tk) := by rw [← hw1]; exact (NBox.new _ _ _).cell 0
 have B1 : w1.cell? ⟨w.heap.size, 1, none⟩ = some (.bool pu) := by rw [← hw1]; exact (NBox.new _ _ _).cell 1
 have B2 : w1.cell? ⟨w.heap.size, 2, none⟩ = some (.slice fA f.length fc) := by rw [← hw1]; exact (NBox.new _ _ _).cell 2
 have B3 : w1.cell? ⟨w.heap.size, 3, none⟩ = some (.slice gA o.sh.goal.length gc) := by rw [← hw1]; exact (NBox.new _ _ _).cell 3
 have B4 : w1.cell? ⟨w.heap.size, 4, none⟩ = some (.int .i64 a) := by rw [← hw1]; exact (NBox.new _ _ _).cell 4
 have B5 : w1.cell? ⟨w.heap.size, 5, none⟩ = some (.int .i64 o.at_) := by rw [← hw1]; exact (NBox.new _ _ _).cell 5
 have E := Ext.refl w1
 have H1 := Lib.hid hw1
 clear hw1
 have hc1 : ∀ W, Ext w1 W → Calls Try.prog 40 #[.slice fA f.length fc, .slice gA o.sh.goal.length gc] W (Ret W fun r _ => r = .bool (decide (f = o.sh.goal))) := fun W hW => pathSame_any _ _ _ _ _ (RdS.ext (hE1.trans hW) hF) (RdS.ext (hE1.trans hW) hG)
 clear hF hG
 generalize decide (f = o.sh.goal) = s1 at *
 rcases Int.lt_or_le a o.at_ with ha | ha
 ·have a1 : decide (a < o.at_) = true := decide_eq_true ha
  rcases s1 with _ | _
  ·go_enter Try.func33, Try.ntmps33
   go_wp2_with (first | (rw [H1.out]; clear H1) | (go_at_call 40; refine (hc1 _ E).mono ?_; clear hc1; rintro e u ⟨r, rfl, rfl, hE⟩; replace E := Ext.trans E hE; clear hE; have B0' := E.cell B0; have B1' := E.cell B1; have B2' := E.cell B2; have B3' := E.cell B3; have B4' := E.cell B4; have B5' := E.cell B5))
   go_ret
   exact ret_int (by rw [HF.out, a1]; rfl) (hE1.trans E)
  ·go_enter Try.func33, Try.ntmps33
   go_wp2_with (first | (rw [H1.out]; clear H1) | (go_at_call 40; refine (hc1 _ E).mono ?_; clear hc1; rintro e u ⟨r, rfl, rfl, hE⟩; replace E := Ext.trans E hE; clear hE; have B0' := E.cell B0; have B1' := E.cell B1; have B2' := E.cell B2; have B3' := E.cell B3; have B4' := E.cell B4; have B5' := E.cell B5))
   go_ret
   exact ret_int (by rw [HF.out, a1]; rfl) (hE1.trans E)
 have a1 : decide (a < o.at_) = false := decide_eq_false (by omega)
 clear hc1
 go_enter Try.func33, Try.ntmps33
 go_wp2_with (first | (rw [H1.out]; clear H1))
 go_ret
 exact ret_int (by rw [HF.out, a1]; rfl) (hE1.trans E)
end Go.Proofs.Ytdnjkffmgmbfmaa.Bs
namespace Go.Proofs.Ytdnjkffmgmbfmaa.Bs
open Go.RowKit Go.Proofs.Ytdnjkffmgmbfmaa.Bw




end Go.Proofs.Ytdnjkffmgmbfmaa.Bs
