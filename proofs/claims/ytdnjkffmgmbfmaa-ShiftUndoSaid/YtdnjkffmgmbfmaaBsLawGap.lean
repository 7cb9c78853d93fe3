/- Chapter 11: the statement ShiftGap. -/
import Derived.Test.YtdnjkffmgmbfmaaBsLawNode
namespace Go.Proofs.Ytdnjkffmgmbfmaa.Bs
open Go.RowKit Go.Proofs.Ytdnjkffmgmbfmaa.Bw

set_option maxRecDepth 100000 in
set_option maxHeartbeats 4000000 in
theorem lawGap (o : OpD) (v : Value) (pv : Value) (p : List Int) (at_ : Int) (first : Bool) (w : World) (h : o.rd w v) (hp : RdI w p pv) : Calls Try.prog 4 #[v, pv, .int .i64 at_, .bool first] w (Ret w fun r _ => r = .bool true) := by
  obtain ⟨pv, tv, cv, rfl, hP, hT, hC, s1, s2, s3⟩ := h
  have h : o.rd w (.agg #[.int .u8 o.kind, pv, .int .i64 o.at_, tv, .int .u64 o.id, .bool o.leaf, .string o.label, .string o.key, .string o.value, .bool o.gone, cv]) := ⟨pv, tv, cv, rfl, hP, hT, hC, s1, s2, s3⟩
  have hP0 := hP
  have hT0 := hT
  have hC0 := hC
  obtain ⟨pA, pc, rfl, _, _, hpc, _⟩ := hP0
  obtain ⟨tA, tc, rfl, _, _, htc, _⟩ := hT0
  obtain ⟨cA, cc, rfl, _⟩ := hC0
  have hpl : o.path.length ≤ pc := by obtain ⟨_, _, e, _, h1, _⟩ := hP; simp only [Value.slice.injEq] at e; omega
  have htl : o.to.length ≤ tc := by obtain ⟨_, _, e, _, h1, _⟩ := hT; simp only [Value.slice.injEq] at e; omega
  unfold maxLen at hpc htc
  have hp0 := hp
  obtain ⟨xA, xc, rfl, _, x1, x2, x3⟩ := hp0
  unfold maxLen at x2
  obtain ⟨w1, hw1⟩ : ∃ w1, w.alloc (.cells #[.int .u8 o.kind, .slice pA o.path.length pc, .int .i64 o.at_, .slice tA o.to.length tc, .int .u64 o.id, .bool o.leaf, .string o.label, .string o.key, .string o.value, .bool o.gone, .slice cA o.pcs.length cc] 26) = w1 := ⟨_, rfl⟩
  have hE1 : Ext w w1 := by rw [← hw1]; exact (Ext.refl w).alloc _
  have B0 : w1.cell? ⟨w.heap.size, 0, none⟩ = some (.int .u8 o.kind) := by rw [← hw1]; exact (NBox.new _ _ _).cell 0
  have B1 : w1.cell? ⟨w.heap.size, 1, none⟩ = some (.slice pA o.path.length pc) := by rw [← hw1]; exact (NBox.new _ _ _).cell 1
  have B2 : w1.cell? ⟨w.heap.size, 2, none⟩ = some (.int .i64 o.at_) := by rw [← hw1]; exact (NBox.new _ _ _).cell 2
  have B3 : w1.cell? ⟨w.heap.size, 3, none⟩ = some (.slice tA o.to.length tc) := by rw [← hw1]; exact (NBox.new _ _ _).cell 3
  have B4 : w1.cell? ⟨w.heap.size, 4, none⟩ = some (.int .u64 o.id) := by rw [← hw1]; exact (NBox.new _ _ _).cell 4
  have B5 : w1.cell? ⟨w.heap.size, 5, none⟩ = some (.bool o.leaf) := by rw [← hw1]; exact (NBox.new _ _ _).cell 5
  have B6 : w1.cell? ⟨w.heap.size, 6, none⟩ = some (.string o.label) := by rw [← hw1]; exact (NBox.new _ _ _).cell 6
  have B7 : w1.cell? ⟨w.heap.size, 7, none⟩ = some (.string o.key) := by rw [← hw1]; exact (NBox.new _ _ _).cell 7
  have B8 : w1.cell? ⟨w.heap.size, 8, none⟩ = some (.string o.value) := by rw [← hw1]; exact (NBox.new _ _ _).cell 8
  have B9 : w1.cell? ⟨w.heap.size, 9, none⟩ = some (.bool o.gone) := by rw [← hw1]; exact (NBox.new _ _ _).cell 9
  have B10 : w1.cell? ⟨w.heap.size, 10, none⟩ = some (.slice cA o.pcs.length cc) := by rw [← hw1]; exact (NBox.new _ _ _).cell 10
  have E := Ext.refl w1
  have H1 := Lib.hid hw1
  clear hw1
  have hc8 : ∀ W, Ext w1 W → Calls Try.prog 8 #[.agg #[.int .u8 o.kind, .slice pA o.path.length pc, .int .i64 o.at_, .slice tA o.to.length tc, .int .u64 o.id, .bool o.leaf, .string o.label, .string o.key, .string o.value, .bool o.gone, .slice cA o.pcs.length cc], .int .i64 300] W (Ret W fun r _ => r = .bool (o.light 300)) := fun W hW => light_any o _ 300 W (OpD.rd_ext (hE1.trans hW) h) (by omega)
  rcases hlt : o.light 300 with _ | _
  · simp only [hlt] at hc8
    clear h hP hT hC hp s1 s2 s3 hpl htl hlt
    go_enter Try.func4, Try.ntmps4
    go_wp2_with (first | (rw [H1.out]; clear H1) | (go_at_call 8; refine (hc8 _ E).mono ?_; clear hc8; rintro e u8 ⟨r, rfl, rfl, hE⟩; replace E := Ext.trans E hE; skip; have D0 := E.cell B0; have D1 := E.cell B1; have D2 := E.cell B2; have D3 := E.cell B3; have D4 := E.cell B4; have D5 := E.cell B5; have D6 := E.cell B6; have D7 := E.cell B7; have D8 := E.cell B8; have D9 := E.cell B9; have D10 := E.cell B10; clear hE) | (go_at_call 9; refine (works_any _).mono ?_; rintro e uw ⟨r, rfl, rfl, hE⟩; replace E := Ext.trans E hE; clear hE))
    go_ret
    exact ret_bool (by rfl) (hE1.trans E)
  obtain ⟨hl1, hl2⟩ := light_open hlt
  simp only [hlt] at hc8
  rcases Nat.lt_or_ge 300 p.length with hpp | hpp
  · have d1 : decide ((300 : Int) < (p.length : Int)) = true := decide_eq_true (by omega)
    have d2 : decide (300 < p.length) = true := decide_eq_true hpp
    clear h hP hT hC hp s1 s2 s3 hpl htl hlt
    go_enter Try.func4, Try.ntmps4
    go_wp2_with (first | (rw [H1.out]; clear H1) | (go_at_call 8; refine (hc8 _ E).mono ?_; clear hc8; rintro e u8 ⟨r, rfl, rfl, hE⟩; replace E := Ext.trans E hE; skip; have D0 := E.cell B0; have D1 := E.cell B1; have D2 := E.cell B2; have D3 := E.cell B3; have D4 := E.cell B4; have D5 := E.cell B5; have D6 := E.cell B6; have D7 := E.cell B7; have D8 := E.cell B8; have D9 := E.cell B9; have D10 := E.cell B10; clear hE) | (go_at_call 9; refine (works_any _).mono ?_; rintro e uw ⟨r, rfl, rfl, hE⟩; replace E := Ext.trans E hE; clear hE))
    go_ret
    exact ret_bool (by rfl) (hE1.trans E)
  have d1 : decide ((300 : Int) < (p.length : Int)) = false := decide_eq_false (by omega)
  have d2 : decide (300 < p.length) = false := decide_eq_false (by omega)
  have hG1 : ∀ W, Ext w1 W → Calls Try.prog 14 #[.agg #[.int .u8 o.kind, .slice pA o.path.length pc, .int .i64 o.at_, .slice tA o.to.length tc, .int .u64 o.id, .bool o.leaf, .string o.label, .string o.key, .string o.value, .bool o.gone, .slice cA o.pcs.length cc], .slice xA p.length xc, .int .i64 at_, .bool first] W (Ret W fun r w' => RdG W.heap.size w' o.sh p at_ first r) := fun W hW => gap_any o _ _ p at_ first W (OpD.rd_ext (hE1.trans hW) h) (RdS.ext (hE1.trans hW) hp) (by omega) (by omega) (by omega)
  have hG2 : ∀ W, Ext w1 W → Calls Try.prog 15 #[.agg #[.int .u8 o.kind, .slice pA o.path.length pc, .int .i64 o.at_, .slice tA o.to.length tc, .int .u64 o.id, .bool o.leaf, .string o.label, .string o.key, .string o.value, .bool o.gone, .slice cA o.pcs.length cc], .slice xA p.length xc, .int .i64 at_, .bool first] W (Ret W fun r w' => RdG W.heap.size w' o.sh p at_ first r) := fun W hW => gapR_any o _ _ p at_ first W (OpD.rd_ext (hE1.trans hW) h) (RdS.ext (hE1.trans hW) hp) (by omega) (by omega) (by omega)
  clear h hP hT hC hp s1 s2 s3 hpl htl hlt
  go_enter Try.func4, Try.ntmps4
  go_wp2_with (first | (rw [H1.out]; clear H1) | (go_at_call 8; refine (hc8 _ E).mono ?_; clear hc8; rintro e u8 ⟨r, rfl, rfl, hE⟩; replace E := Ext.trans E hE; skip; have D0 := E.cell B0; have D1 := E.cell B1; have D2 := E.cell B2; have D3 := E.cell B3; have D4 := E.cell B4; have D5 := E.cell B5; have D6 := E.cell B6; have D7 := E.cell B7; have D8 := E.cell B8; have D9 := E.cell B9; have D10 := E.cell B10; clear hE))
  refine (hG1 _ E).mono ?_
  clear hG1
  rintro e w4 ⟨r, rfl, hr, hE⟩
  obtain ⟨aA, ac, rfl, ha⟩ := RdG.to hr
  have E14 := Ext.trans E hE
  clear hE hr
  have F0 := E14.cell B0; have F1 := E14.cell B1; have F2 := E14.cell B2; have F3 := E14.cell B3; have F4 := E14.cell B4; have F5 := E14.cell B5; have F6 := E14.cell B6; have F7 := E14.cell B7; have F8 := E14.cell B8; have F9 := E14.cell B9; have F10 := E14.cell B10
  have hc := hG2 w4 E14
  clear hG2
  go_wp2_with fail
  refine hc.mono ?_
  clear hc
  rintro e w5 ⟨r, rfl, hr, hE5⟩
  obtain ⟨bA, bc, rfl, hb⟩ := RdG.to hr
  have ha := RdS.ext hE5 ha
  clear hr F0 D0 F1 D1 F2 D2 F3 D3 F4 D4 F5 D5 F6 D6 F7 D7 F8 D8 F9 D9 F10 D10
  generalize (o.sh.gapV p at_ first) = gg at *
  generalize o.sh.node p = nq at *
  generalize nq.getD [] = q at *
  generalize nq.isSome = qb at *
  have hcS := sameInts_any q q _ _ w5 ha hb
  rw [show decide (q = q) = true from decide_eq_true rfl] at hcS
  clear ha hb
  have g1 : (gg == gg) = true := by simp
  have g2 : (qb == qb) = true := by simp
  go_wp2_with fail
  refine hcS.mono ?_
  clear hcS
  rintro e w6 ⟨r, rfl, rfl, hE6⟩
  go_wp2_with fail
  refine (works_any _).mono ?_
  rintro e w7 ⟨r, rfl, rfl, hE7⟩
  go_wp2_with fail
  go_ret
  exact ret_bool (by rfl) ((((hE1.trans E14).trans hE5).trans hE6).trans hE7)
end Go.Proofs.Ytdnjkffmgmbfmaa.Bs
