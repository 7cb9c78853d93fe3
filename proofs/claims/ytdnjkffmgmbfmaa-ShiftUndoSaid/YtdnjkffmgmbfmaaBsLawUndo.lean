/- Chapter 11: the statement ShiftUndo. -/
import Derived.Test.YtdnjkffmgmbfmaaBsLawGap
import Derived.Deep.CutRange
import Derived.Deep.CutBlock
namespace Go.Proofs.Ytdnjkffmgmbfmaa.Bs
open Go.RowKit Go.Proofs.Ytdnjkffmgmbfmaa.Bw

/-- What takes an operation back, part by part. -/
def OpD.uK (o : OpD) : Int := if o.kind = 3 ∧ o.sh.moves = true then 3 else 0
def OpD.uN (o : OpD) : List Int := if o.kind = 3 ∧ o.sh.moves = true then o.sh.go [] o.to ++ [o.sh.land] else []
def OpD.uT (o : OpD) : List Int := if o.kind = 3 ∧ o.sh.moves = true then o.sh.go [] o.sh.from_ else []
def OpD.uAt (o : OpD) : Int := if o.kind = 3 ∧ o.sh.moves = true then o.sh.undoAt else 0
def RU (w : World) (K AT : Int) (N T : List Int) (r : Value) : Prop := ∃ (nA : Option Addr) (nc : Nat) (tA : Option Addr) (tc : Nat), r = .agg #[.int .u8 K, .slice nA N.length nc, .int .i64 AT, .slice tA T.length tc, .int .u64 0, .bool false, .string ⟨#[]⟩, .string ⟨#[]⟩, .string ⟨#[]⟩, .bool false, .slice none 0 0] ∧
  w.ownsRow 0 3 1 (.slice nA N.length nc) N.length (N.map (Value.int .i64)) ∧ w.ownsRow 0 3 1 (.slice tA T.length tc) T.length (T.map (Value.int .i64))
theorem RdU.to {w : World} {o : OpD} {r : Value} (h : RdU w o.sh r) : RU w o.uK o.uAt o.uN o.uT r := by
  unfold RdU at h
  by_cases hc : o.kind = 3 ∧ o.sh.moves = true
  · have hc' : o.sh.kind = 3 ∧ o.sh.moves = true := hc
    rw [if_pos hc'] at h
    obtain ⟨nA, nc, tA, tc, rfl, h1, h2⟩ := h
    refine ⟨nA, nc, tA, tc, ?_, ?_, ?_⟩
    · simp only [OpD.uK, OpD.uN, OpD.uAt, OpD.uT, if_pos hc]; rfl
    · simp only [OpD.uN, if_pos hc]; exact h1
    · simp only [OpD.uT, if_pos hc]; exact h2
  · have hc' : ¬ (o.sh.kind = 3 ∧ o.sh.moves = true) := hc
    rw [if_neg hc'] at h
    refine ⟨none, 0, none, 0, ?_, ?_, ?_⟩
    · simp only [OpD.uK, OpD.uN, OpD.uAt, OpD.uT, if_neg hc]; exact h
    · simp only [OpD.uN, if_neg hc]; exact ⟨rfl, .inl ⟨rfl, rfl⟩⟩
    · simp only [OpD.uT, if_neg hc]; exact ⟨rfl, .inl ⟨rfl, rfl⟩⟩
theorem owns_setT {W : World} {base e size n B : Nat} {t : TypeId} {cs : Array Value} {v : Value} {ys : List Value} (h : W.ownsRow base e size v n ys) (hb : NBox W B t cs) (hne : t ≠ e) (i : Nat) (u : Value) : (W.setCell ⟨B, i, none⟩ u).ownsRow base e size v n ys := by
  refine ⟨h.1, ?_⟩
  rcases h.2 with h2 | ⟨g, cap, cur, hv, h1, hg, r⟩
  · exact .inl h2
  · refine .inr ⟨g, cap, cur, hv, h1, ?_, r⟩
    have hgb : g ≠ B := fun e0 => by
      subst e0
      rw [show W.heap[g]? = _ from hb] at hg
      simp only [Option.some.injEq, Obj.cells.injEq] at hg
      exact hne hg.2.1
    exact (Below.heap_setCell W ⟨B, i, none⟩ u g hgb).trans hg
theorem NBox.far11 {W : World} {B B' : Nat} {t : TypeId} {cs : Array Value} (h : NBox W B t cs) (hne : B ≠ B') (a0 a1 a2 a3 a4 a5 a6 a7 a8 a9 a10 : Value) : NBox (((((((((((W.setCell ⟨B', 0, none⟩ (a0)).setCell ⟨B', 1, none⟩ (a1)).setCell ⟨B', 2, none⟩ (a2)).setCell ⟨B', 3, none⟩ (a3)).setCell ⟨B', 4, none⟩ (a4)).setCell ⟨B', 5, none⟩ (a5)).setCell ⟨B', 6, none⟩ (a6)).setCell ⟨B', 7, none⟩ (a7)).setCell ⟨B', 8, none⟩ (a8)).setCell ⟨B', 9, none⟩ (a9)).setCell ⟨B', 10, none⟩ (a10)) B t cs := ((((((((((((((((((((((h).other (p := ⟨B', 0, none⟩) hne a0)).other (p := ⟨B', 1, none⟩) hne a1)).other (p := ⟨B', 2, none⟩) hne a2)).other (p := ⟨B', 3, none⟩) hne a3)).other (p := ⟨B', 4, none⟩) hne a4)).other (p := ⟨B', 5, none⟩) hne a5)).other (p := ⟨B', 6, none⟩) hne a6)).other (p := ⟨B', 7, none⟩) hne a7)).other (p := ⟨B', 8, none⟩) hne a8)).other (p := ⟨B', 9, none⟩) hne a9)).other (p := ⟨B', 10, none⟩) hne a10)
theorem owns_set11T {W : World} {base e size n B : Nat} {t : TypeId} {cs : Array Value} {v : Value} {ys : List Value} (h : W.ownsRow base e size v n ys) (hb : NBox W B t cs) (hne : t ≠ e) (a0 a1 a2 a3 a4 a5 a6 a7 a8 a9 a10 : Value) : World.ownsRow (((((((((((W.setCell ⟨B, 0, none⟩ (a0)).setCell ⟨B, 1, none⟩ (a1)).setCell ⟨B, 2, none⟩ (a2)).setCell ⟨B, 3, none⟩ (a3)).setCell ⟨B, 4, none⟩ (a4)).setCell ⟨B, 5, none⟩ (a5)).setCell ⟨B, 6, none⟩ (a6)).setCell ⟨B, 7, none⟩ (a7)).setCell ⟨B, 8, none⟩ (a8)).setCell ⟨B, 9, none⟩ (a9)).setCell ⟨B, 10, none⟩ (a10)) base e size v n ys := (owns_setT (owns_setT (owns_setT (owns_setT (owns_setT (owns_setT (owns_setT (owns_setT (owns_setT (owns_setT (owns_setT h hb hne 0 a0) (NBox.set hb 0 a0) hne 1 a1) (NBox.set (NBox.set hb 0 a0) 1 a1) hne 2 a2) (NBox.set (NBox.set (NBox.set hb 0 a0) 1 a1) 2 a2) hne 3 a3) (NBox.set (NBox.set (NBox.set (NBox.set hb 0 a0) 1 a1) 2 a2) 3 a3) hne 4 a4) (NBox.set (NBox.set (NBox.set (NBox.set (NBox.set hb 0 a0) 1 a1) 2 a2) 3 a3) 4 a4) hne 5 a5) (NBox.set (NBox.set (NBox.set (NBox.set (NBox.set (NBox.set hb 0 a0) 1 a1) 2 a2) 3 a3) 4 a4) 5 a5) hne 6 a6) (NBox.set (NBox.set (NBox.set (NBox.set (NBox.set (NBox.set (NBox.set hb 0 a0) 1 a1) 2 a2) 3 a3) 4 a4) 5 a5) 6 a6) hne 7 a7) (NBox.set (NBox.set (NBox.set (NBox.set (NBox.set (NBox.set (NBox.set (NBox.set hb 0 a0) 1 a1) 2 a2) 3 a3) 4 a4) 5 a5) 6 a6) 7 a7) hne 8 a8) (NBox.set (NBox.set (NBox.set (NBox.set (NBox.set (NBox.set (NBox.set (NBox.set (NBox.set hb 0 a0) 1 a1) 2 a2) 3 a3) 4 a4) 5 a5) 6 a6) 7 a7) 8 a8) hne 9 a9) (NBox.set (NBox.set (NBox.set (NBox.set (NBox.set (NBox.set (NBox.set (NBox.set (NBox.set (NBox.set hb 0 a0) 1 a1) 2 a2) 3 a3) 4 a4) 5 a5) 6 a6) 7 a7) 8 a8) 9 a9) hne 10 a10)

set_option maxRecDepth 100000 in
set_option maxHeartbeats 4000000 in
theorem lawUndo (o : OpD) (v : Value) (w : World) (h : o.rd w v) : Calls Try.prog 5 #[v] w (Ret w fun r _ => r = .bool true) := by
  obtain ⟨pv, tv, cv, rfl, hP, hT, hC, s1, s2, s3⟩ := h
  have h : o.rd w (.agg #[.int .u8 o.kind, pv, .int .i64 o.at_, tv, .int .u64 o.id, .bool o.leaf, .string o.label, .string o.key, .string o.value, .bool o.gone, cv]) := ⟨pv, tv, cv, rfl, hP, hT, hC, s1, s2, s3⟩
  have hP0 := hP
  have hT0 := hT
  have hC0 := hC
  obtain ⟨pA, pc, rfl, _, _, hpc, _⟩ := hP0
  obtain ⟨tA, tc, rfl, _, _, htc, _⟩ := hT0
  obtain ⟨cA, cc, rfl, _⟩ := hC0
  have hpl : o.path.length ≤ pc := by obtain ⟨_, _, e, _, h1, _⟩ := hP; simp only [Value.slice.injEq] at e; omega
  have htl : o.to.length ≤ tc := by obtain ⟨_, _, e, _, h1, _⟩ := hT; simp only [Value.slice.injEq] at e; omega
  unfold maxLen at hpc htc
  obtain ⟨w1, hw1⟩ : ∃ w1, w.alloc (.cells #[.int .u8 o.kind, .slice pA o.path.length pc, .int .i64 o.at_, .slice tA o.to.length tc, .int .u64 o.id, .bool o.leaf, .string o.label, .string o.key, .string o.value, .bool o.gone, .slice cA o.pcs.length cc] 26) = w1 := ⟨_, rfl⟩
  have hE1 : Ext w w1 := by rw [← hw1]; exact (Ext.refl w).alloc _
  have B0 : w1.cell? ⟨w.heap.size, 0, none⟩ = some (.int .u8 o.kind) := by rw [← hw1]; exact (NBox.new _ _ _).cell 0
  have B1 : w1.cell? ⟨w.heap.size, 1, none⟩ = some (.slice pA o.path.length pc) := by rw [← hw1]; exact (NBox.new _ _ _).cell 1
  have B2 : w1.cell? ⟨w.heap.size, 2, none⟩ = some (.int .i64 o.at_) := by rw [← hw1]; exact (NBox.new _ _ _).cell 2
  have B3 : w1.cell? ⟨w.heap.size, 3, none⟩ = some (.slice tA o.to.length tc) := by rw [← hw1]; exact (NBox.new _ _ _).cell 3
  have B4 : w1.cell? ⟨w.heap.size, 4, none⟩ = some (.int .u64 o.id) := by rw [← hw1]; exact (NBox.new _ _ _).cell 4
  have B5 : w1.cell? ⟨w.heap.size, 5, none⟩ = some (.bool o.leaf) := by rw [← hw1]; exact (NBox.new _ _ _).cell 5
  have B6 : w1.cell? ⟨w.heap.size, 6, none⟩ = some (.string o.label) := by rw [← hw1]; exact (NBox.new _ _ _).cell 6
  have B7 : w1.cell? ⟨w.heap.size, 7, none⟩ = some (.string o.key) := by rw [← hw1]; exact (NBox.new _ _ _).cell 7
  have B8 : w1.cell? ⟨w.heap.size, 8, none⟩ = some (.string o.value) := by rw [← hw1]; exact (NBox.new _ _ _).cell 8
  have B9 : w1.cell? ⟨w.heap.size, 9, none⟩ = some (.bool o.gone) := by rw [← hw1]; exact (NBox.new _ _ _).cell 9
  have B10 : w1.cell? ⟨w.heap.size, 10, none⟩ = some (.slice cA o.pcs.length cc) := by rw [← hw1]; exact (NBox.new _ _ _).cell 10
  have E := Ext.refl w1
  have H1 := Lib.hid hw1
  clear hw1
  have hc8 : ∀ W, Ext w1 W → Calls Try.prog 8 #[.agg #[.int .u8 o.kind, .slice pA o.path.length pc, .int .i64 o.at_, .slice tA o.to.length tc, .int .u64 o.id, .bool o.leaf, .string o.label, .string o.key, .string o.value, .bool o.gone, .slice cA o.pcs.length cc], .int .i64 300] W (Ret W fun r _ => r = .bool (o.light 300)) := fun W hW => light_any o _ 300 W (OpD.rd_ext (hE1.trans hW) h) (by omega)
  rcases hlt : o.light 300 with _ | _
  · simp only [hlt] at hc8
    clear h hP hT hC s1 s2 s3 hpl htl hlt
    go_enter Try.func5, Try.ntmps5
    go_wp2_with (first | (rw [H1.out]; clear H1) | (go_at_call 8; refine (hc8 _ E).mono ?_; clear hc8; rintro e u8 ⟨r, rfl, rfl, hE⟩; replace E := Ext.trans E hE; skip; have D0 := E.cell B0; have D1 := E.cell B1; have D2 := E.cell B2; have D3 := E.cell B3; have D4 := E.cell B4; have D5 := E.cell B5; have D6 := E.cell B6; have D7 := E.cell B7; have D8 := E.cell B8; have D9 := E.cell B9; have D10 := E.cell B10; clear hE) | (go_at_call 9; refine (works_any _).mono ?_; rintro e uw ⟨r, rfl, rfl, hE⟩; replace E := Ext.trans E hE; clear hE))
    go_ret
    exact ret_bool (by rfl) (hE1.trans E)
  obtain ⟨hl1, hl2⟩ := light_open hlt
  simp only [hlt] at hc8
  have hc16 : ∀ W, Ext w1 W → Calls Try.prog 16 #[.agg #[.int .u8 o.kind, .slice pA o.path.length pc, .int .i64 o.at_, .slice tA o.to.length tc, .int .u64 o.id, .bool o.leaf, .string o.label, .string o.key, .string o.value, .bool o.gone, .slice cA o.pcs.length cc]] W (Ret W fun r w' => RU w' o.uK o.uAt o.uN o.uT r) := fun W hW => (undo_any o _ W (OpD.rd_ext (hE1.trans hW) h) (by omega) (by omega)).mono (by
    rintro e w' ⟨r, rfl, hr, hE⟩
    exact ⟨r, rfl, RdU.to hr, hE⟩)
  have hc17 : ∀ W, Ext w1 W → Calls Try.prog 17 #[.agg #[.int .u8 o.kind, .slice pA o.path.length pc, .int .i64 o.at_, .slice tA o.to.length tc, .int .u64 o.id, .bool o.leaf, .string o.label, .string o.key, .string o.value, .bool o.gone, .slice cA o.pcs.length cc]] W (Ret W fun r w' => RU w' o.uK o.uAt o.uN o.uT r) := fun W hW => (undoR_any o _ W (OpD.rd_ext (hE1.trans hW) h) (by omega) (by omega)).mono (by
    rintro e w' ⟨r, rfl, hr, hE⟩
    exact ⟨r, rfl, RdU.to hr, hE⟩)
  clear h hP hT hC s1 s2 s3 hpl htl hlt
  generalize o.uK = K at *
  generalize o.uAt = AT at *
  generalize o.uN = N at *
  generalize o.uT = T at *
  go_enter Try.func5, Try.ntmps5
  go_wp2_with (first | (rw [H1.out]; clear H1) | (go_at_call 8; refine (hc8 _ E).mono ?_; clear hc8; rintro e u8 ⟨r, rfl, rfl, hE⟩; replace E := Ext.trans E hE; skip; have D0 := E.cell B0; have D1 := E.cell B1; have D2 := E.cell B2; have D3 := E.cell B3; have D4 := E.cell B4; have D5 := E.cell B5; have D6 := E.cell B6; have D7 := E.cell B7; have D8 := E.cell B8; have D9 := E.cell B9; have D10 := E.cell B10; clear hE))
  go_cut [3, 4] from 9 to 77 (fun s3 s4 wx => ∃ (B3 B4 : Nat) (pn : Option Addr) (pnc : Nat) (pt : Option Addr) (ptc : Nat) (qn : Option Addr) (qnc : Nat) (qt : Option Addr) (qtc : Nat), s3 = .pointer (some ⟨B3, 0, none⟩) ∧ s4 = .pointer (some ⟨B4, 0, none⟩) ∧ NBox wx B3 26 #[.int .u8 K, .slice pn N.length pnc, .int .i64 AT, .slice pt T.length ptc, .int .u64 0, .bool false, .string ⟨#[]⟩, .string ⟨#[]⟩, .string ⟨#[]⟩, .bool false, .slice none 0 0] ∧ NBox wx B4 26 #[.int .u8 K, .slice qn N.length qnc, .int .i64 AT, .slice qt T.length qtc, .int .u64 0, .bool false, .string ⟨#[]⟩, .string ⟨#[]⟩, .string ⟨#[]⟩, .bool false, .slice none 0 0] ∧
    RdI wx N (.slice pn N.length pnc) ∧ RdI wx T (.slice pt T.length ptc) ∧ RdI wx N (.slice qn N.length qnc) ∧ RdI wx T (.slice qt T.length qtc) ∧ Ext w1 wx)
  case first =>
    refine wp_region_held_drew (S := fun W => Ext w1 W ∧ W.cell? ⟨w.heap.size, 0, none⟩ = some (.int .u8 o.kind) ∧ W.cell? ⟨w.heap.size, 1, none⟩ = some (.slice pA o.path.length pc) ∧ W.cell? ⟨w.heap.size, 2, none⟩ = some (.int .i64 o.at_) ∧ W.cell? ⟨w.heap.size, 3, none⟩ = some (.slice tA o.to.length tc) ∧ W.cell? ⟨w.heap.size, 4, none⟩ = some (.int .u64 o.id) ∧ W.cell? ⟨w.heap.size, 5, none⟩ = some (.bool o.leaf) ∧ W.cell? ⟨w.heap.size, 6, none⟩ = some (.string o.label) ∧ W.cell? ⟨w.heap.size, 7, none⟩ = some (.string o.key) ∧ W.cell? ⟨w.heap.size, 8, none⟩ = some (.string o.value) ∧ W.cell? ⟨w.heap.size, 9, none⟩ = some (.bool o.gone) ∧ W.cell? ⟨w.heap.size, 10, none⟩ = some (.slice cA o.pcs.length cc)) (by kernel_rfl) (by have hz : Ext w1 _ := E.drew; exact ⟨hz, hz.cell B0, hz.cell B1, hz.cell B2, hz.cell B3, hz.cell B4, hz.cell B5, hz.cell B6, hz.cell B7, hz.cell B8, hz.cell B9, hz.cell B10⟩) (fun hHeld => ?_)
    clear D0 D1 D2 D3 D4 D5 D6 D7 D8 D9 D10
    refine wpAnyH_take (i := 0) (oi := ⟨_, _, _, _, _, _⟩) (v := ?_) rfl (by kernel_rfl) (by kernel_rfl) (by kernel_rfl) (fun _ _ _ h => h) (Or.inl ⟨by rfl, ?_⟩) hHeld ?_
    rotate_left
    · intro w hSw
      try dsimp only at hSw
      go_simp
      all_goals (first | with_reducible rfl | rw [if_pos (by omega)])
    try simp only [Act.put, List.setIfInBounds_toArray, List.set_cons_zero, List.set_cons_succ]
    refine wpAnyH_take (i := 2) (oi := ⟨_, _, _, _, _, _⟩) (v := ?_) rfl (by kernel_rfl) (by kernel_rfl) (by kernel_rfl) (fun _ _ _ h => h) (Or.inl ⟨by rfl, ?_⟩) hHeld ?_
    rotate_left
    · intro w hSw
      try dsimp only at hSw
      go_simp
      all_goals (first | with_reducible rfl | rw [if_pos (by omega)])
    try simp only [Act.put, List.setIfInBounds_toArray, List.set_cons_zero, List.set_cons_succ]
    obtain ⟨c0, hc0⟩ : ∃ c0, u8.drew = c0 := ⟨_, rfl⟩
    rw [hc0] at hHeld
    rw [hc0]
    clear hc0
    refine wpAnyH_ready (rs := [1, 4, 5]) (by kernel_rfl) (by simp) ?_
    refine AllReadyH.cons (o := ⟨_, _, _, _, _, _⟩) rfl (fun K' hK => ?_) (AllReadyH.cons (o := ⟨_, _, _, _, _, _⟩) rfl (fun K' hK => ?_) (AllReadyH.cons (o := ⟨_, _, _, _, _, _⟩) rfl (fun K' hK => ?_) (AllReadyH.nil)))
    · go_simp
      go_at_call 16
      refine (hc16 _ hHeld.1).mono ?_
      rintro e c1 ⟨r, rfl, ⟨pn, pnc, pt, ptc, rfl, opn, opt⟩, hE⟩
      refine hK.out _ _ (by have hz : Ext w1 _ := hHeld.1.trans hE; exact ⟨hz, hz.cell B0, hz.cell B1, hz.cell B2, hz.cell B3, hz.cell B4, hz.cell B5, hz.cell B6, hz.cell B7, hz.cell B8, hz.cell B9, hz.cell B10⟩) (fun hHeld => ?_)
      clear hK K' hE
      try simp only [Act.put, List.setIfInBounds_toArray, List.set_cons_zero, List.set_cons_succ]
      refine wpAnyH_ready (rs := [3, 4, 5]) (by kernel_rfl) (by simp) ?_
      refine AllReadyH.cons (o := ⟨_, _, _, _, _, _⟩) rfl (fun K' hK => ?_) (AllReadyH.cons (o := ⟨_, _, _, _, _, _⟩) rfl (fun K' hK => ?_) (AllReadyH.cons (o := ⟨_, _, _, _, _, _⟩) rfl (fun K' hK => ?_) (AllReadyH.nil)))
      · go_simp
        go_at_call 17
        refine (hc17 _ hHeld.1).mono ?_
        rintro e c2 ⟨r, rfl, ⟨qn, qnc, qt, qtc, rfl, oqn, oqt⟩, hE⟩
        replace opn := owns_ext hE opn
        replace opt := owns_ext hE opt
        refine hK.out _ _ (by have hz : Ext w1 _ := hHeld.1.trans hE; exact ⟨hz, hz.cell B0, hz.cell B1, hz.cell B2, hz.cell B3, hz.cell B4, hz.cell B5, hz.cell B6, hz.cell B7, hz.cell B8, hz.cell B9, hz.cell B10⟩) (fun hHeld => ?_)
        clear hK K' hE
        try simp only [Act.put, List.setIfInBounds_toArray, List.set_cons_zero, List.set_cons_succ]
        refine wpAnyH_ready (rs := [4, 5]) (by kernel_rfl) (by simp) ?_
        refine AllReadyH.cons (o := ⟨_, _, _, _, _, _⟩) rfl (fun K' hK => ?_) (AllReadyH.cons (o := ⟨_, _, _, _, _, _⟩) rfl (fun K' hK => ?_) (AllReadyH.nil))
        · go_simp
          have N3 := NBox.new c2 26 #[.int .u8 0, .slice none 0 0, .int .i64 0, .slice none 0 0, .int .u64 0, .bool false, .string ⟨#[]⟩, .string ⟨#[]⟩, .string ⟨#[]⟩, .bool false, .slice none 0 0]
          have hb3 : w1.heap.size ≤ c2.heap.size := hHeld.1.size
          replace opn := owns_ext ((Ext.refl c2).alloc (.cells #[.int .u8 0, .slice none 0 0, .int .i64 0, .slice none 0 0, .int .u64 0, .bool false, .string ⟨#[]⟩, .string ⟨#[]⟩, .string ⟨#[]⟩, .bool false, .slice none 0 0] 26)) opn
          replace opt := owns_ext ((Ext.refl c2).alloc (.cells #[.int .u8 0, .slice none 0 0, .int .i64 0, .slice none 0 0, .int .u64 0, .bool false, .string ⟨#[]⟩, .string ⟨#[]⟩, .string ⟨#[]⟩, .bool false, .slice none 0 0] 26)) opt
          replace oqn := owns_ext ((Ext.refl c2).alloc (.cells #[.int .u8 0, .slice none 0 0, .int .i64 0, .slice none 0 0, .int .u64 0, .bool false, .string ⟨#[]⟩, .string ⟨#[]⟩, .string ⟨#[]⟩, .bool false, .slice none 0 0] 26)) oqn
          replace oqt := owns_ext ((Ext.refl c2).alloc (.cells #[.int .u8 0, .slice none 0 0, .int .i64 0, .slice none 0 0, .int .u64 0, .bool false, .string ⟨#[]⟩, .string ⟨#[]⟩, .string ⟨#[]⟩, .bool false, .slice none 0 0] 26)) oqt
          refine hK.out _ _ (by have hz : Ext w1 (c2.alloc (.cells #[.int .u8 0, .slice none 0 0, .int .i64 0, .slice none 0 0, .int .u64 0, .bool false, .string ⟨#[]⟩, .string ⟨#[]⟩, .string ⟨#[]⟩, .bool false, .slice none 0 0] 26)) := hHeld.1.alloc _; exact ⟨hz, hz.cell B0, hz.cell B1, hz.cell B2, hz.cell B3, hz.cell B4, hz.cell B5, hz.cell B6, hz.cell B7, hz.cell B8, hz.cell B9, hz.cell B10⟩) (fun hHeld => ?_)
          clear hK K'
          try simp only [Act.put, List.setIfInBounds_toArray, List.set_cons_zero, List.set_cons_succ]
          obtain ⟨c3, hd⟩ : ∃ d, c2.alloc (.cells #[.int .u8 0, .slice none 0 0, .int .i64 0, .slice none 0 0, .int .u64 0, .bool false, .string ⟨#[]⟩, .string ⟨#[]⟩, .string ⟨#[]⟩, .bool false, .slice none 0 0] 26) = d := ⟨_, rfl⟩
          rw [hd] at hHeld N3 opn opt oqn oqt
          rw [hd]
          clear hd
          refine wpAnyH_ready (rs := [5]) (by kernel_rfl) (by simp) ?_
          refine AllReadyH.cons (o := ⟨_, _, _, _, _, _⟩) rfl (fun K' hK => ?_) (AllReadyH.nil)
          · go_simp
            have N4 := NBox.new c3 26 #[.int .u8 0, .slice none 0 0, .int .i64 0, .slice none 0 0, .int .u64 0, .bool false, .string ⟨#[]⟩, .string ⟨#[]⟩, .string ⟨#[]⟩, .bool false, .slice none 0 0]
            have hb4 : w1.heap.size ≤ c3.heap.size := hHeld.1.size
            have hne := Nat.ne_of_lt (NBox.lt N3)
            replace opn := owns_ext ((Ext.refl c3).alloc (.cells #[.int .u8 0, .slice none 0 0, .int .i64 0, .slice none 0 0, .int .u64 0, .bool false, .string ⟨#[]⟩, .string ⟨#[]⟩, .string ⟨#[]⟩, .bool false, .slice none 0 0] 26)) opn
            replace opt := owns_ext ((Ext.refl c3).alloc (.cells #[.int .u8 0, .slice none 0 0, .int .i64 0, .slice none 0 0, .int .u64 0, .bool false, .string ⟨#[]⟩, .string ⟨#[]⟩, .string ⟨#[]⟩, .bool false, .slice none 0 0] 26)) opt
            replace oqn := owns_ext ((Ext.refl c3).alloc (.cells #[.int .u8 0, .slice none 0 0, .int .i64 0, .slice none 0 0, .int .u64 0, .bool false, .string ⟨#[]⟩, .string ⟨#[]⟩, .string ⟨#[]⟩, .bool false, .slice none 0 0] 26)) oqn
            replace oqt := owns_ext ((Ext.refl c3).alloc (.cells #[.int .u8 0, .slice none 0 0, .int .i64 0, .slice none 0 0, .int .u64 0, .bool false, .string ⟨#[]⟩, .string ⟨#[]⟩, .string ⟨#[]⟩, .bool false, .slice none 0 0] 26)) oqt
            replace N3 := NBox.ext ((Ext.refl c3).alloc (.cells #[.int .u8 0, .slice none 0 0, .int .i64 0, .slice none 0 0, .int .u64 0, .bool false, .string ⟨#[]⟩, .string ⟨#[]⟩, .string ⟨#[]⟩, .bool false, .slice none 0 0] 26)) N3
            refine hK.out _ _ (by have hz : Ext w1 (c3.alloc (.cells #[.int .u8 0, .slice none 0 0, .int .i64 0, .slice none 0 0, .int .u64 0, .bool false, .string ⟨#[]⟩, .string ⟨#[]⟩, .string ⟨#[]⟩, .bool false, .slice none 0 0] 26)) := hHeld.1.alloc _; exact ⟨hz, hz.cell B0, hz.cell B1, hz.cell B2, hz.cell B3, hz.cell B4, hz.cell B5, hz.cell B6, hz.cell B7, hz.cell B8, hz.cell B9, hz.cell B10⟩) (fun hHeld => ?_)
            clear hK K'
            try simp only [Act.put, List.setIfInBounds_toArray, List.set_cons_zero, List.set_cons_succ]
            obtain ⟨c4, hd⟩ : ∃ d, c3.alloc (.cells #[.int .u8 0, .slice none 0 0, .int .i64 0, .slice none 0 0, .int .u64 0, .bool false, .string ⟨#[]⟩, .string ⟨#[]⟩, .string ⟨#[]⟩, .bool false, .slice none 0 0] 26) = d := ⟨_, rfl⟩
            rw [hd] at hHeld N4 opn opt oqn oqt N3
            rw [hd]
            clear hd
            have X0 := N3.cell 0; have Y0 := N3.frozen 0
            have X1 := N3.cell 1; have Y1 := N3.frozen 1
            have X2 := N3.cell 2; have Y2 := N3.frozen 2
            have X3 := N3.cell 3; have Y3 := N3.frozen 3
            have X4 := N3.cell 4; have Y4 := N3.frozen 4
            have X5 := N3.cell 5; have Y5 := N3.frozen 5
            have X6 := N3.cell 6; have Y6 := N3.frozen 6
            have X7 := N3.cell 7; have Y7 := N3.frozen 7
            have X8 := N3.cell 8; have Y8 := N3.frozen 8
            have X9 := N3.cell 9; have Y9 := N3.frozen 9
            have X10 := N3.cell 10; have Y10 := N3.frozen 10
            refine wpAnyH_ready (rs := [6]) (by kernel_rfl) (by simp) ?_
            refine AllReadyH.cons (o := ⟨_, _, _, _, _, _⟩) rfl (fun K' hK => ?_) (AllReadyH.nil)
            go_simp
            refine hK.out _ _ (by have hz : Ext w1 _ := Ext.set11 hHeld.1 (B := c2.heap.size) hb3 (.int .u8 K) (.slice pn N.length pnc) (.int .i64 AT) (.slice pt T.length ptc) (.int .u64 0) (.bool false) (.string ⟨#[]⟩) (.string ⟨#[]⟩) (.string ⟨#[]⟩) (.bool false) (.slice none 0 0); exact ⟨hz, hz.cell B0, hz.cell B1, hz.cell B2, hz.cell B3, hz.cell B4, hz.cell B5, hz.cell B6, hz.cell B7, hz.cell B8, hz.cell B9, hz.cell B10⟩) (fun hHeld => ?_)
            clear hK K' X0 Y0 X1 Y1 X2 Y2 X3 Y3 X4 Y4 X5 Y5 X6 Y6 X7 Y7 X8 Y8 X9 Y9 X10 Y10
            try simp only [Act.put, List.setIfInBounds_toArray, List.set_cons_zero, List.set_cons_succ]
            replace opn := owns_set11T opn N3 (by decide) (.int .u8 K) (.slice pn N.length pnc) (.int .i64 AT) (.slice pt T.length ptc) (.int .u64 0) (.bool false) (.string ⟨#[]⟩) (.string ⟨#[]⟩) (.string ⟨#[]⟩) (.bool false) (.slice none 0 0)
            replace opt := owns_set11T opt N3 (by decide) (.int .u8 K) (.slice pn N.length pnc) (.int .i64 AT) (.slice pt T.length ptc) (.int .u64 0) (.bool false) (.string ⟨#[]⟩) (.string ⟨#[]⟩) (.string ⟨#[]⟩) (.bool false) (.slice none 0 0)
            replace oqn := owns_set11T oqn N3 (by decide) (.int .u8 K) (.slice pn N.length pnc) (.int .i64 AT) (.slice pt T.length ptc) (.int .u64 0) (.bool false) (.string ⟨#[]⟩) (.string ⟨#[]⟩) (.string ⟨#[]⟩) (.bool false) (.slice none 0 0)
            replace oqt := owns_set11T oqt N3 (by decide) (.int .u8 K) (.slice pn N.length pnc) (.int .i64 AT) (.slice pt T.length ptc) (.int .u64 0) (.bool false) (.string ⟨#[]⟩) (.string ⟨#[]⟩) (.string ⟨#[]⟩) (.bool false) (.slice none 0 0)
            replace N4 := NBox.far11 N4 hne.symm (.int .u8 K) (.slice pn N.length pnc) (.int .i64 AT) (.slice pt T.length ptc) (.int .u64 0) (.bool false) (.string ⟨#[]⟩) (.string ⟨#[]⟩) (.string ⟨#[]⟩) (.bool false) (.slice none 0 0)
            replace N3 := NBox.set11 N3 (.int .u8 K) (.slice pn N.length pnc) (.int .i64 AT) (.slice pt T.length ptc) (.int .u64 0) (.bool false) (.string ⟨#[]⟩) (.string ⟨#[]⟩) (.string ⟨#[]⟩) (.bool false) (.slice none 0 0)
            obtain ⟨c5, hd⟩ : ∃ d, ((((((((((c4.setCell ⟨c2.heap.size, 0, none⟩ (.int .u8 K)).setCell ⟨c2.heap.size, 1, none⟩ (.slice pn N.length pnc)).setCell ⟨c2.heap.size, 2, none⟩ (.int .i64 AT)).setCell ⟨c2.heap.size, 3, none⟩ (.slice pt T.length ptc)).setCell ⟨c2.heap.size, 4, none⟩ (.int .u64 0)).setCell ⟨c2.heap.size, 5, none⟩ (.bool false)).setCell ⟨c2.heap.size, 6, none⟩ (.string ⟨#[]⟩)).setCell ⟨c2.heap.size, 7, none⟩ (.string ⟨#[]⟩)).setCell ⟨c2.heap.size, 8, none⟩ (.string ⟨#[]⟩)).setCell ⟨c2.heap.size, 9, none⟩ (.bool false)).setCell ⟨c2.heap.size, 10, none⟩ (.slice none 0 0) = d := ⟨_, rfl⟩
            rw [hd] at hHeld N3 N4 opn opt oqn oqt
            rw [hd]
            clear hd
            have X0 := N4.cell 0; have Y0 := N4.frozen 0
            have X1 := N4.cell 1; have Y1 := N4.frozen 1
            have X2 := N4.cell 2; have Y2 := N4.frozen 2
            have X3 := N4.cell 3; have Y3 := N4.frozen 3
            have X4 := N4.cell 4; have Y4 := N4.frozen 4
            have X5 := N4.cell 5; have Y5 := N4.frozen 5
            have X6 := N4.cell 6; have Y6 := N4.frozen 6
            have X7 := N4.cell 7; have Y7 := N4.frozen 7
            have X8 := N4.cell 8; have Y8 := N4.frozen 8
            have X9 := N4.cell 9; have Y9 := N4.frozen 9
            have X10 := N4.cell 10; have Y10 := N4.frozen 10
            refine wpAnyH_ready (rs := [7]) (by kernel_rfl) (by simp) ?_
            refine AllReadyH.cons (o := ⟨_, _, _, _, _, _⟩) rfl (fun K' hK => ?_) (AllReadyH.nil)
            go_simp
            refine hK.out _ _ (by have hz : Ext w1 _ := Ext.set11 hHeld.1 (B := c3.heap.size) hb4 (.int .u8 K) (.slice qn N.length qnc) (.int .i64 AT) (.slice qt T.length qtc) (.int .u64 0) (.bool false) (.string ⟨#[]⟩) (.string ⟨#[]⟩) (.string ⟨#[]⟩) (.bool false) (.slice none 0 0); exact ⟨hz, hz.cell B0, hz.cell B1, hz.cell B2, hz.cell B3, hz.cell B4, hz.cell B5, hz.cell B6, hz.cell B7, hz.cell B8, hz.cell B9, hz.cell B10⟩) (fun hHeld => ?_)
            clear hK K' X0 Y0 X1 Y1 X2 Y2 X3 Y3 X4 Y4 X5 Y5 X6 Y6 X7 Y7 X8 Y8 X9 Y9 X10 Y10
            try simp only [Act.put, List.setIfInBounds_toArray, List.set_cons_zero, List.set_cons_succ]
            replace opn := owns_set11T opn N4 (by decide) (.int .u8 K) (.slice qn N.length qnc) (.int .i64 AT) (.slice qt T.length qtc) (.int .u64 0) (.bool false) (.string ⟨#[]⟩) (.string ⟨#[]⟩) (.string ⟨#[]⟩) (.bool false) (.slice none 0 0)
            replace opt := owns_set11T opt N4 (by decide) (.int .u8 K) (.slice qn N.length qnc) (.int .i64 AT) (.slice qt T.length qtc) (.int .u64 0) (.bool false) (.string ⟨#[]⟩) (.string ⟨#[]⟩) (.string ⟨#[]⟩) (.bool false) (.slice none 0 0)
            replace oqn := owns_set11T oqn N4 (by decide) (.int .u8 K) (.slice qn N.length qnc) (.int .i64 AT) (.slice qt T.length qtc) (.int .u64 0) (.bool false) (.string ⟨#[]⟩) (.string ⟨#[]⟩) (.string ⟨#[]⟩) (.bool false) (.slice none 0 0)
            replace oqt := owns_set11T oqt N4 (by decide) (.int .u8 K) (.slice qn N.length qnc) (.int .i64 AT) (.slice qt T.length qtc) (.int .u64 0) (.bool false) (.string ⟨#[]⟩) (.string ⟨#[]⟩) (.string ⟨#[]⟩) (.bool false) (.slice none 0 0)
            replace N3 := NBox.far11 N3 hne (.int .u8 K) (.slice qn N.length qnc) (.int .i64 AT) (.slice qt T.length qtc) (.int .u64 0) (.bool false) (.string ⟨#[]⟩) (.string ⟨#[]⟩) (.string ⟨#[]⟩) (.bool false) (.slice none 0 0)
            replace N4 := NBox.set11 N4 (.int .u8 K) (.slice qn N.length qnc) (.int .i64 AT) (.slice qt T.length qtc) (.int .u64 0) (.bool false) (.string ⟨#[]⟩) (.string ⟨#[]⟩) (.string ⟨#[]⟩) (.bool false) (.slice none 0 0)
            obtain ⟨c6, hd⟩ : ∃ d, ((((((((((c5.setCell ⟨c3.heap.size, 0, none⟩ (.int .u8 K)).setCell ⟨c3.heap.size, 1, none⟩ (.slice qn N.length qnc)).setCell ⟨c3.heap.size, 2, none⟩ (.int .i64 AT)).setCell ⟨c3.heap.size, 3, none⟩ (.slice qt T.length qtc)).setCell ⟨c3.heap.size, 4, none⟩ (.int .u64 0)).setCell ⟨c3.heap.size, 5, none⟩ (.bool false)).setCell ⟨c3.heap.size, 6, none⟩ (.string ⟨#[]⟩)).setCell ⟨c3.heap.size, 7, none⟩ (.string ⟨#[]⟩)).setCell ⟨c3.heap.size, 8, none⟩ (.string ⟨#[]⟩)).setCell ⟨c3.heap.size, 9, none⟩ (.bool false)).setCell ⟨c3.heap.size, 10, none⟩ (.slice none 0 0) = d := ⟨_, rfl⟩
            rw [hd] at hHeld N3 N4 opn opt oqn oqt
            rw [hd]
            clear hd
            refine wpAnyH_done (by kernel_rfl) ?_ _
            go_wp2_with fail
            go_meet
            case rel => exact ⟨_, _, pn, pnc, pt, ptc, qn, qnc, qt, qtc, rfl, rfl, N3, N4, RdS.of_owns opn, RdS.of_owns opt, RdS.of_owns oqn, RdS.of_owns oqt, hHeld.1⟩
        · go_simp
          have N4 := NBox.new c2 26 #[.int .u8 0, .slice none 0 0, .int .i64 0, .slice none 0 0, .int .u64 0, .bool false, .string ⟨#[]⟩, .string ⟨#[]⟩, .string ⟨#[]⟩, .bool false, .slice none 0 0]
          have hb4 : w1.heap.size ≤ c2.heap.size := hHeld.1.size
          replace opn := owns_ext ((Ext.refl c2).alloc (.cells #[.int .u8 0, .slice none 0 0, .int .i64 0, .slice none 0 0, .int .u64 0, .bool false, .string ⟨#[]⟩, .string ⟨#[]⟩, .string ⟨#[]⟩, .bool false, .slice none 0 0] 26)) opn
          replace opt := owns_ext ((Ext.refl c2).alloc (.cells #[.int .u8 0, .slice none 0 0, .int .i64 0, .slice none 0 0, .int .u64 0, .bool false, .string ⟨#[]⟩, .string ⟨#[]⟩, .string ⟨#[]⟩, .bool false, .slice none 0 0] 26)) opt
          replace oqn := owns_ext ((Ext.refl c2).alloc (.cells #[.int .u8 0, .slice none 0 0, .int .i64 0, .slice none 0 0, .int .u64 0, .bool false, .string ⟨#[]⟩, .string ⟨#[]⟩, .string ⟨#[]⟩, .bool false, .slice none 0 0] 26)) oqn
          replace oqt := owns_ext ((Ext.refl c2).alloc (.cells #[.int .u8 0, .slice none 0 0, .int .i64 0, .slice none 0 0, .int .u64 0, .bool false, .string ⟨#[]⟩, .string ⟨#[]⟩, .string ⟨#[]⟩, .bool false, .slice none 0 0] 26)) oqt
          refine hK.out _ _ (by have hz : Ext w1 (c2.alloc (.cells #[.int .u8 0, .slice none 0 0, .int .i64 0, .slice none 0 0, .int .u64 0, .bool false, .string ⟨#[]⟩, .string ⟨#[]⟩, .string ⟨#[]⟩, .bool false, .slice none 0 0] 26)) := hHeld.1.alloc _; exact ⟨hz, hz.cell B0, hz.cell B1, hz.cell B2, hz.cell B3, hz.cell B4, hz.cell B5, hz.cell B6, hz.cell B7, hz.cell B8, hz.cell B9, hz.cell B10⟩) (fun hHeld => ?_)
          clear hK K'
          try simp only [Act.put, List.setIfInBounds_toArray, List.set_cons_zero, List.set_cons_succ]
          obtain ⟨c7, hd⟩ : ∃ d, c2.alloc (.cells #[.int .u8 0, .slice none 0 0, .int .i64 0, .slice none 0 0, .int .u64 0, .bool false, .string ⟨#[]⟩, .string ⟨#[]⟩, .string ⟨#[]⟩, .bool false, .slice none 0 0] 26) = d := ⟨_, rfl⟩
          rw [hd] at hHeld N4 opn opt oqn oqt
          rw [hd]
          clear hd
          refine wpAnyH_ready (rs := [4]) (by kernel_rfl) (by simp) ?_
          refine AllReadyH.cons (o := ⟨_, _, _, _, _, _⟩) rfl (fun K' hK => ?_) (AllReadyH.nil)
          · go_simp
            have N3 := NBox.new c7 26 #[.int .u8 0, .slice none 0 0, .int .i64 0, .slice none 0 0, .int .u64 0, .bool false, .string ⟨#[]⟩, .string ⟨#[]⟩, .string ⟨#[]⟩, .bool false, .slice none 0 0]
            have hb3 : w1.heap.size ≤ c7.heap.size := hHeld.1.size
            have hne := Nat.ne_of_lt (NBox.lt N4)
            replace opn := owns_ext ((Ext.refl c7).alloc (.cells #[.int .u8 0, .slice none 0 0, .int .i64 0, .slice none 0 0, .int .u64 0, .bool false, .string ⟨#[]⟩, .string ⟨#[]⟩, .string ⟨#[]⟩, .bool false, .slice none 0 0] 26)) opn
            replace opt := owns_ext ((Ext.refl c7).alloc (.cells #[.int .u8 0, .slice none 0 0, .int .i64 0, .slice none 0 0, .int .u64 0, .bool false, .string ⟨#[]⟩, .string ⟨#[]⟩, .string ⟨#[]⟩, .bool false, .slice none 0 0] 26)) opt
            replace oqn := owns_ext ((Ext.refl c7).alloc (.cells #[.int .u8 0, .slice none 0 0, .int .i64 0, .slice none 0 0, .int .u64 0, .bool false, .string ⟨#[]⟩, .string ⟨#[]⟩, .string ⟨#[]⟩, .bool false, .slice none 0 0] 26)) oqn
            replace oqt := owns_ext ((Ext.refl c7).alloc (.cells #[.int .u8 0, .slice none 0 0, .int .i64 0, .slice none 0 0, .int .u64 0, .bool false, .string ⟨#[]⟩, .string ⟨#[]⟩, .string ⟨#[]⟩, .bool false, .slice none 0 0] 26)) oqt
            replace N4 := NBox.ext ((Ext.refl c7).alloc (.cells #[.int .u8 0, .slice none 0 0, .int .i64 0, .slice none 0 0, .int .u64 0, .bool false, .string ⟨#[]⟩, .string ⟨#[]⟩, .string ⟨#[]⟩, .bool false, .slice none 0 0] 26)) N4
            refine hK.out _ _ (by have hz : Ext w1 (c7.alloc (.cells #[.int .u8 0, .slice none 0 0, .int .i64 0, .slice none 0 0, .int .u64 0, .bool false, .string ⟨#[]⟩, .string ⟨#[]⟩, .string ⟨#[]⟩, .bool false, .slice none 0 0] 26)) := hHeld.1.alloc _; exact ⟨hz, hz.cell B0, hz.cell B1, hz.cell B2, hz.cell B3, hz.cell B4, hz.cell B5, hz.cell B6, hz.cell B7, hz.cell B8, hz.cell B9, hz.cell B10⟩) (fun hHeld => ?_)
            clear hK K'
            try simp only [Act.put, List.setIfInBounds_toArray, List.set_cons_zero, List.set_cons_succ]
            obtain ⟨c8, hd⟩ : ∃ d, c7.alloc (.cells #[.int .u8 0, .slice none 0 0, .int .i64 0, .slice none 0 0, .int .u64 0, .bool false, .string ⟨#[]⟩, .string ⟨#[]⟩, .string ⟨#[]⟩, .bool false, .slice none 0 0] 26) = d := ⟨_, rfl⟩
            rw [hd] at hHeld N3 opn opt oqn oqt N4
            rw [hd]
            clear hd
            have X0 := N3.cell 0; have Y0 := N3.frozen 0
            have X1 := N3.cell 1; have Y1 := N3.frozen 1
            have X2 := N3.cell 2; have Y2 := N3.frozen 2
            have X3 := N3.cell 3; have Y3 := N3.frozen 3
            have X4 := N3.cell 4; have Y4 := N3.frozen 4
            have X5 := N3.cell 5; have Y5 := N3.frozen 5
            have X6 := N3.cell 6; have Y6 := N3.frozen 6
            have X7 := N3.cell 7; have Y7 := N3.frozen 7
            have X8 := N3.cell 8; have Y8 := N3.frozen 8
            have X9 := N3.cell 9; have Y9 := N3.frozen 9
            have X10 := N3.cell 10; have Y10 := N3.frozen 10
            refine wpAnyH_ready (rs := [6]) (by kernel_rfl) (by simp) ?_
            refine AllReadyH.cons (o := ⟨_, _, _, _, _, _⟩) rfl (fun K' hK => ?_) (AllReadyH.nil)
            go_simp
            refine hK.out _ _ (by have hz : Ext w1 _ := Ext.set11 hHeld.1 (B := c7.heap.size) hb3 (.int .u8 K) (.slice pn N.length pnc) (.int .i64 AT) (.slice pt T.length ptc) (.int .u64 0) (.bool false) (.string ⟨#[]⟩) (.string ⟨#[]⟩) (.string ⟨#[]⟩) (.bool false) (.slice none 0 0); exact ⟨hz, hz.cell B0, hz.cell B1, hz.cell B2, hz.cell B3, hz.cell B4, hz.cell B5, hz.cell B6, hz.cell B7, hz.cell B8, hz.cell B9, hz.cell B10⟩) (fun hHeld => ?_)
            clear hK K' X0 Y0 X1 Y1 X2 Y2 X3 Y3 X4 Y4 X5 Y5 X6 Y6 X7 Y7 X8 Y8 X9 Y9 X10 Y10
            try simp only [Act.put, List.setIfInBounds_toArray, List.set_cons_zero, List.set_cons_succ]
            replace opn := owns_set11T opn N3 (by decide) (.int .u8 K) (.slice pn N.length pnc) (.int .i64 AT) (.slice pt T.length ptc) (.int .u64 0) (.bool false) (.string ⟨#[]⟩) (.string ⟨#[]⟩) (.string ⟨#[]⟩) (.bool false) (.slice none 0 0)
            replace opt := owns_set11T opt N3 (by decide) (.int .u8 K) (.slice pn N.length pnc) (.int .i64 AT) (.slice pt T.length ptc) (.int .u64 0) (.bool false) (.string ⟨#[]⟩) (.string ⟨#[]⟩) (.string ⟨#[]⟩) (.bool false) (.slice none 0 0)
            replace oqn := owns_set11T oqn N3 (by decide) (.int .u8 K) (.slice pn N.length pnc) (.int .i64 AT) (.slice pt T.length ptc) (.int .u64 0) (.bool false) (.string ⟨#[]⟩) (.string ⟨#[]⟩) (.string ⟨#[]⟩) (.bool false) (.slice none 0 0)
            replace oqt := owns_set11T oqt N3 (by decide) (.int .u8 K) (.slice pn N.length pnc) (.int .i64 AT) (.slice pt T.length ptc) (.int .u64 0) (.bool false) (.string ⟨#[]⟩) (.string ⟨#[]⟩) (.string ⟨#[]⟩) (.bool false) (.slice none 0 0)
            replace N4 := NBox.far11 N4 hne (.int .u8 K) (.slice pn N.length pnc) (.int .i64 AT) (.slice pt T.length ptc) (.int .u64 0) (.bool false) (.string ⟨#[]⟩) (.string ⟨#[]⟩) (.string ⟨#[]⟩) (.bool false) (.slice none 0 0)
            replace N3 := NBox.set11 N3 (.int .u8 K) (.slice pn N.length pnc) (.int .i64 AT) (.slice pt T.length ptc) (.int .u64 0) (.bool false) (.string ⟨#[]⟩) (.string ⟨#[]⟩) (.string ⟨#[]⟩) (.bool false) (.slice none 0 0)
            obtain ⟨c9, hd⟩ : ∃ d, ((((((((((c8.setCell ⟨c7.heap.size, 0, none⟩ (.int .u8 K)).setCell ⟨c7.heap.size, 1, none⟩ (.slice pn N.length pnc)).setCell ⟨c7.heap.size, 2, none⟩ (.int .i64 AT)).setCell ⟨c7.heap.size, 3, none⟩ (.slice pt T.length ptc)).setCell ⟨c7.heap.size, 4, none⟩ (.int .u64 0)).setCell ⟨c7.heap.size, 5, none⟩ (.bool false)).setCell ⟨c7.heap.size, 6, none⟩ (.string ⟨#[]⟩)).setCell ⟨c7.heap.size, 7, none⟩ (.string ⟨#[]⟩)).setCell ⟨c7.heap.size, 8, none⟩ (.string ⟨#[]⟩)).setCell ⟨c7.heap.size, 9, none⟩ (.bool false)).setCell ⟨c7.heap.size, 10, none⟩ (.slice none 0 0) = d := ⟨_, rfl⟩
            rw [hd] at hHeld N3 N4 opn opt oqn oqt
            rw [hd]
            clear hd
            have X0 := N4.cell 0; have Y0 := N4.frozen 0
            have X1 := N4.cell 1; have Y1 := N4.frozen 1
            have X2 := N4.cell 2; have Y2 := N4.frozen 2
            have X3 := N4.cell 3; have Y3 := N4.frozen 3
            have X4 := N4.cell 4; have Y4 := N4.frozen 4
            have X5 := N4.cell 5; have Y5 := N4.frozen 5
            have X6 := N4.cell 6; have Y6 := N4.frozen 6
            have X7 := N4.cell 7; have Y7 := N4.frozen 7
            have X8 := N4.cell 8; have Y8 := N4.frozen 8
            have X9 := N4.cell 9; have Y9 := N4.frozen 9
            have X10 := N4.cell 10; have Y10 := N4.frozen 10
            refine wpAnyH_ready (rs := [7]) (by kernel_rfl) (by simp) ?_
            refine AllReadyH.cons (o := ⟨_, _, _, _, _, _⟩) rfl (fun K' hK => ?_) (AllReadyH.nil)
            go_simp
            refine hK.out _ _ (by have hz : Ext w1 _ := Ext.set11 hHeld.1 (B := c2.heap.size) hb4 (.int .u8 K) (.slice qn N.length qnc) (.int .i64 AT) (.slice qt T.length qtc) (.int .u64 0) (.bool false) (.string ⟨#[]⟩) (.string ⟨#[]⟩) (.string ⟨#[]⟩) (.bool false) (.slice none 0 0); exact ⟨hz, hz.cell B0, hz.cell B1, hz.cell B2, hz.cell B3, hz.cell B4, hz.cell B5, hz.cell B6, hz.cell B7, hz.cell B8, hz.cell B9, hz.cell B10⟩) (fun hHeld => ?_)
            clear hK K' X0 Y0 X1 Y1 X2 Y2 X3 Y3 X4 Y4 X5 Y5 X6 Y6 X7 Y7 X8 Y8 X9 Y9 X10 Y10
            try simp only [Act.put, List.setIfInBounds_toArray, List.set_cons_zero, List.set_cons_succ]
            replace opn := owns_set11T opn N4 (by decide) (.int .u8 K) (.slice qn N.length qnc) (.int .i64 AT) (.slice qt T.length qtc) (.int .u64 0) (.bool false) (.string ⟨#[]⟩) (.string ⟨#[]⟩) (.string ⟨#[]⟩) (.bool false) (.slice none 0 0)
            replace opt := owns_set11T opt N4 (by decide) (.int .u8 K) (.slice qn N.length qnc) (.int .i64 AT) (.slice qt T.length qtc) (.int .u64 0) (.bool false) (.string ⟨#[]⟩) (.string ⟨#[]⟩) (.string ⟨#[]⟩) (.bool false) (.slice none 0 0)
            replace oqn := owns_set11T oqn N4 (by decide) (.int .u8 K) (.slice qn N.length qnc) (.int .i64 AT) (.slice qt T.length qtc) (.int .u64 0) (.bool false) (.string ⟨#[]⟩) (.string ⟨#[]⟩) (.string ⟨#[]⟩) (.bool false) (.slice none 0 0)
            replace oqt := owns_set11T oqt N4 (by decide) (.int .u8 K) (.slice qn N.length qnc) (.int .i64 AT) (.slice qt T.length qtc) (.int .u64 0) (.bool false) (.string ⟨#[]⟩) (.string ⟨#[]⟩) (.string ⟨#[]⟩) (.bool false) (.slice none 0 0)
            replace N3 := NBox.far11 N3 hne.symm (.int .u8 K) (.slice qn N.length qnc) (.int .i64 AT) (.slice qt T.length qtc) (.int .u64 0) (.bool false) (.string ⟨#[]⟩) (.string ⟨#[]⟩) (.string ⟨#[]⟩) (.bool false) (.slice none 0 0)
            replace N4 := NBox.set11 N4 (.int .u8 K) (.slice qn N.length qnc) (.int .i64 AT) (.slice qt T.length qtc) (.int .u64 0) (.bool false) (.string ⟨#[]⟩) (.string ⟨#[]⟩) (.string ⟨#[]⟩) (.bool false) (.slice none 0 0)
            obtain ⟨c10, hd⟩ : ∃ d, ((((((((((c9.setCell ⟨c2.heap.size, 0, none⟩ (.int .u8 K)).setCell ⟨c2.heap.size, 1, none⟩ (.slice qn N.length qnc)).setCell ⟨c2.heap.size, 2, none⟩ (.int .i64 AT)).setCell ⟨c2.heap.size, 3, none⟩ (.slice qt T.length qtc)).setCell ⟨c2.heap.size, 4, none⟩ (.int .u64 0)).setCell ⟨c2.heap.size, 5, none⟩ (.bool false)).setCell ⟨c2.heap.size, 6, none⟩ (.string ⟨#[]⟩)).setCell ⟨c2.heap.size, 7, none⟩ (.string ⟨#[]⟩)).setCell ⟨c2.heap.size, 8, none⟩ (.string ⟨#[]⟩)).setCell ⟨c2.heap.size, 9, none⟩ (.bool false)).setCell ⟨c2.heap.size, 10, none⟩ (.slice none 0 0) = d := ⟨_, rfl⟩
            rw [hd] at hHeld N3 N4 opn opt oqn oqt
            rw [hd]
            clear hd
            refine wpAnyH_done (by kernel_rfl) ?_ _
            go_wp2_with fail
            go_meet
            case rel => exact ⟨_, _, pn, pnc, pt, ptc, qn, qnc, qt, qtc, rfl, rfl, N3, N4, RdS.of_owns opn, RdS.of_owns opt, RdS.of_owns oqn, RdS.of_owns oqt, hHeld.1⟩
      · go_simp
        have N3 := NBox.new c1 26 #[.int .u8 0, .slice none 0 0, .int .i64 0, .slice none 0 0, .int .u64 0, .bool false, .string ⟨#[]⟩, .string ⟨#[]⟩, .string ⟨#[]⟩, .bool false, .slice none 0 0]
        have hb3 : w1.heap.size ≤ c1.heap.size := hHeld.1.size
        replace opn := owns_ext ((Ext.refl c1).alloc (.cells #[.int .u8 0, .slice none 0 0, .int .i64 0, .slice none 0 0, .int .u64 0, .bool false, .string ⟨#[]⟩, .string ⟨#[]⟩, .string ⟨#[]⟩, .bool false, .slice none 0 0] 26)) opn
        replace opt := owns_ext ((Ext.refl c1).alloc (.cells #[.int .u8 0, .slice none 0 0, .int .i64 0, .slice none 0 0, .int .u64 0, .bool false, .string ⟨#[]⟩, .string ⟨#[]⟩, .string ⟨#[]⟩, .bool false, .slice none 0 0] 26)) opt
        refine hK.out _ _ (by have hz : Ext w1 (c1.alloc (.cells #[.int .u8 0, .slice none 0 0, .int .i64 0, .slice none 0 0, .int .u64 0, .bool false, .string ⟨#[]⟩, .string ⟨#[]⟩, .string ⟨#[]⟩, .bool false, .slice none 0 0] 26)) := hHeld.1.alloc _; exact ⟨hz, hz.cell B0, hz.cell B1, hz.cell B2, hz.cell B3, hz.cell B4, hz.cell B5, hz.cell B6, hz.cell B7, hz.cell B8, hz.cell B9, hz.cell B10⟩) (fun hHeld => ?_)
        clear hK K'
        try simp only [Act.put, List.setIfInBounds_toArray, List.set_cons_zero, List.set_cons_succ]
        obtain ⟨c11, hd⟩ : ∃ d, c1.alloc (.cells #[.int .u8 0, .slice none 0 0, .int .i64 0, .slice none 0 0, .int .u64 0, .bool false, .string ⟨#[]⟩, .string ⟨#[]⟩, .string ⟨#[]⟩, .bool false, .slice none 0 0] 26) = d := ⟨_, rfl⟩
        rw [hd] at hHeld N3 opn opt
        rw [hd]
        clear hd
        refine wpAnyH_ready (rs := [3, 5]) (by kernel_rfl) (by simp) ?_
        refine AllReadyH.cons (o := ⟨_, _, _, _, _, _⟩) rfl (fun K' hK => ?_) (AllReadyH.cons (o := ⟨_, _, _, _, _, _⟩) rfl (fun K' hK => ?_) (AllReadyH.nil))
        · go_simp
          go_at_call 17
          refine (hc17 _ hHeld.1).mono ?_
          rintro e c12 ⟨r, rfl, ⟨qn, qnc, qt, qtc, rfl, oqn, oqt⟩, hE⟩
          replace opn := owns_ext hE opn
          replace opt := owns_ext hE opt
          replace N3 := NBox.ext hE N3
          refine hK.out _ _ (by have hz : Ext w1 _ := hHeld.1.trans hE; exact ⟨hz, hz.cell B0, hz.cell B1, hz.cell B2, hz.cell B3, hz.cell B4, hz.cell B5, hz.cell B6, hz.cell B7, hz.cell B8, hz.cell B9, hz.cell B10⟩) (fun hHeld => ?_)
          clear hK K' hE
          try simp only [Act.put, List.setIfInBounds_toArray, List.set_cons_zero, List.set_cons_succ]
          refine wpAnyH_ready (rs := [5]) (by kernel_rfl) (by simp) ?_
          refine AllReadyH.cons (o := ⟨_, _, _, _, _, _⟩) rfl (fun K' hK => ?_) (AllReadyH.nil)
          · go_simp
            have N4 := NBox.new c12 26 #[.int .u8 0, .slice none 0 0, .int .i64 0, .slice none 0 0, .int .u64 0, .bool false, .string ⟨#[]⟩, .string ⟨#[]⟩, .string ⟨#[]⟩, .bool false, .slice none 0 0]
            have hb4 : w1.heap.size ≤ c12.heap.size := hHeld.1.size
            have hne := Nat.ne_of_lt (NBox.lt N3)
            replace opn := owns_ext ((Ext.refl c12).alloc (.cells #[.int .u8 0, .slice none 0 0, .int .i64 0, .slice none 0 0, .int .u64 0, .bool false, .string ⟨#[]⟩, .string ⟨#[]⟩, .string ⟨#[]⟩, .bool false, .slice none 0 0] 26)) opn
            replace opt := owns_ext ((Ext.refl c12).alloc (.cells #[.int .u8 0, .slice none 0 0, .int .i64 0, .slice none 0 0, .int .u64 0, .bool false, .string ⟨#[]⟩, .string ⟨#[]⟩, .string ⟨#[]⟩, .bool false, .slice none 0 0] 26)) opt
            replace N3 := NBox.ext ((Ext.refl c12).alloc (.cells #[.int .u8 0, .slice none 0 0, .int .i64 0, .slice none 0 0, .int .u64 0, .bool false, .string ⟨#[]⟩, .string ⟨#[]⟩, .string ⟨#[]⟩, .bool false, .slice none 0 0] 26)) N3
            replace oqn := owns_ext ((Ext.refl c12).alloc (.cells #[.int .u8 0, .slice none 0 0, .int .i64 0, .slice none 0 0, .int .u64 0, .bool false, .string ⟨#[]⟩, .string ⟨#[]⟩, .string ⟨#[]⟩, .bool false, .slice none 0 0] 26)) oqn
            replace oqt := owns_ext ((Ext.refl c12).alloc (.cells #[.int .u8 0, .slice none 0 0, .int .i64 0, .slice none 0 0, .int .u64 0, .bool false, .string ⟨#[]⟩, .string ⟨#[]⟩, .string ⟨#[]⟩, .bool false, .slice none 0 0] 26)) oqt
            refine hK.out _ _ (by have hz : Ext w1 (c12.alloc (.cells #[.int .u8 0, .slice none 0 0, .int .i64 0, .slice none 0 0, .int .u64 0, .bool false, .string ⟨#[]⟩, .string ⟨#[]⟩, .string ⟨#[]⟩, .bool false, .slice none 0 0] 26)) := hHeld.1.alloc _; exact ⟨hz, hz.cell B0, hz.cell B1, hz.cell B2, hz.cell B3, hz.cell B4, hz.cell B5, hz.cell B6, hz.cell B7, hz.cell B8, hz.cell B9, hz.cell B10⟩) (fun hHeld => ?_)
            clear hK K'
            try simp only [Act.put, List.setIfInBounds_toArray, List.set_cons_zero, List.set_cons_succ]
            obtain ⟨c13, hd⟩ : ∃ d, c12.alloc (.cells #[.int .u8 0, .slice none 0 0, .int .i64 0, .slice none 0 0, .int .u64 0, .bool false, .string ⟨#[]⟩, .string ⟨#[]⟩, .string ⟨#[]⟩, .bool false, .slice none 0 0] 26) = d := ⟨_, rfl⟩
            rw [hd] at hHeld N4 opn opt N3 oqn oqt
            rw [hd]
            clear hd
            have X0 := N3.cell 0; have Y0 := N3.frozen 0
            have X1 := N3.cell 1; have Y1 := N3.frozen 1
            have X2 := N3.cell 2; have Y2 := N3.frozen 2
            have X3 := N3.cell 3; have Y3 := N3.frozen 3
            have X4 := N3.cell 4; have Y4 := N3.frozen 4
            have X5 := N3.cell 5; have Y5 := N3.frozen 5
            have X6 := N3.cell 6; have Y6 := N3.frozen 6
            have X7 := N3.cell 7; have Y7 := N3.frozen 7
            have X8 := N3.cell 8; have Y8 := N3.frozen 8
            have X9 := N3.cell 9; have Y9 := N3.frozen 9
            have X10 := N3.cell 10; have Y10 := N3.frozen 10
            refine wpAnyH_ready (rs := [6]) (by kernel_rfl) (by simp) ?_
            refine AllReadyH.cons (o := ⟨_, _, _, _, _, _⟩) rfl (fun K' hK => ?_) (AllReadyH.nil)
            go_simp
            refine hK.out _ _ (by have hz : Ext w1 _ := Ext.set11 hHeld.1 (B := c1.heap.size) hb3 (.int .u8 K) (.slice pn N.length pnc) (.int .i64 AT) (.slice pt T.length ptc) (.int .u64 0) (.bool false) (.string ⟨#[]⟩) (.string ⟨#[]⟩) (.string ⟨#[]⟩) (.bool false) (.slice none 0 0); exact ⟨hz, hz.cell B0, hz.cell B1, hz.cell B2, hz.cell B3, hz.cell B4, hz.cell B5, hz.cell B6, hz.cell B7, hz.cell B8, hz.cell B9, hz.cell B10⟩) (fun hHeld => ?_)
            clear hK K' X0 Y0 X1 Y1 X2 Y2 X3 Y3 X4 Y4 X5 Y5 X6 Y6 X7 Y7 X8 Y8 X9 Y9 X10 Y10
            try simp only [Act.put, List.setIfInBounds_toArray, List.set_cons_zero, List.set_cons_succ]
            replace opn := owns_set11T opn N3 (by decide) (.int .u8 K) (.slice pn N.length pnc) (.int .i64 AT) (.slice pt T.length ptc) (.int .u64 0) (.bool false) (.string ⟨#[]⟩) (.string ⟨#[]⟩) (.string ⟨#[]⟩) (.bool false) (.slice none 0 0)
            replace opt := owns_set11T opt N3 (by decide) (.int .u8 K) (.slice pn N.length pnc) (.int .i64 AT) (.slice pt T.length ptc) (.int .u64 0) (.bool false) (.string ⟨#[]⟩) (.string ⟨#[]⟩) (.string ⟨#[]⟩) (.bool false) (.slice none 0 0)
            replace oqn := owns_set11T oqn N3 (by decide) (.int .u8 K) (.slice pn N.length pnc) (.int .i64 AT) (.slice pt T.length ptc) (.int .u64 0) (.bool false) (.string ⟨#[]⟩) (.string ⟨#[]⟩) (.string ⟨#[]⟩) (.bool false) (.slice none 0 0)
            replace oqt := owns_set11T oqt N3 (by decide) (.int .u8 K) (.slice pn N.length pnc) (.int .i64 AT) (.slice pt T.length ptc) (.int .u64 0) (.bool false) (.string ⟨#[]⟩) (.string ⟨#[]⟩) (.string ⟨#[]⟩) (.bool false) (.slice none 0 0)
            replace N4 := NBox.far11 N4 hne.symm (.int .u8 K) (.slice pn N.length pnc) (.int .i64 AT) (.slice pt T.length ptc) (.int .u64 0) (.bool false) (.string ⟨#[]⟩) (.string ⟨#[]⟩) (.string ⟨#[]⟩) (.bool false) (.slice none 0 0)
            replace N3 := NBox.set11 N3 (.int .u8 K) (.slice pn N.length pnc) (.int .i64 AT) (.slice pt T.length ptc) (.int .u64 0) (.bool false) (.string ⟨#[]⟩) (.string ⟨#[]⟩) (.string ⟨#[]⟩) (.bool false) (.slice none 0 0)
            obtain ⟨c14, hd⟩ : ∃ d, ((((((((((c13.setCell ⟨c1.heap.size, 0, none⟩ (.int .u8 K)).setCell ⟨c1.heap.size, 1, none⟩ (.slice pn N.length pnc)).setCell ⟨c1.heap.size, 2, none⟩ (.int .i64 AT)).setCell ⟨c1.heap.size, 3, none⟩ (.slice pt T.length ptc)).setCell ⟨c1.heap.size, 4, none⟩ (.int .u64 0)).setCell ⟨c1.heap.size, 5, none⟩ (.bool false)).setCell ⟨c1.heap.size, 6, none⟩ (.string ⟨#[]⟩)).setCell ⟨c1.heap.size, 7, none⟩ (.string ⟨#[]⟩)).setCell ⟨c1.heap.size, 8, none⟩ (.string ⟨#[]⟩)).setCell ⟨c1.heap.size, 9, none⟩ (.bool false)).setCell ⟨c1.heap.size, 10, none⟩ (.slice none 0 0) = d := ⟨_, rfl⟩
            rw [hd] at hHeld N3 N4 opn opt oqn oqt
            rw [hd]
            clear hd
            have X0 := N4.cell 0; have Y0 := N4.frozen 0
            have X1 := N4.cell 1; have Y1 := N4.frozen 1
            have X2 := N4.cell 2; have Y2 := N4.frozen 2
            have X3 := N4.cell 3; have Y3 := N4.frozen 3
            have X4 := N4.cell 4; have Y4 := N4.frozen 4
            have X5 := N4.cell 5; have Y5 := N4.frozen 5
            have X6 := N4.cell 6; have Y6 := N4.frozen 6
            have X7 := N4.cell 7; have Y7 := N4.frozen 7
            have X8 := N4.cell 8; have Y8 := N4.frozen 8
            have X9 := N4.cell 9; have Y9 := N4.frozen 9
            have X10 := N4.cell 10; have Y10 := N4.frozen 10
            refine wpAnyH_ready (rs := [7]) (by kernel_rfl) (by simp) ?_
            refine AllReadyH.cons (o := ⟨_, _, _, _, _, _⟩) rfl (fun K' hK => ?_) (AllReadyH.nil)
            go_simp
            refine hK.out _ _ (by have hz : Ext w1 _ := Ext.set11 hHeld.1 (B := c12.heap.size) hb4 (.int .u8 K) (.slice qn N.length qnc) (.int .i64 AT) (.slice qt T.length qtc) (.int .u64 0) (.bool false) (.string ⟨#[]⟩) (.string ⟨#[]⟩) (.string ⟨#[]⟩) (.bool false) (.slice none 0 0); exact ⟨hz, hz.cell B0, hz.cell B1, hz.cell B2, hz.cell B3, hz.cell B4, hz.cell B5, hz.cell B6, hz.cell B7, hz.cell B8, hz.cell B9, hz.cell B10⟩) (fun hHeld => ?_)
            clear hK K' X0 Y0 X1 Y1 X2 Y2 X3 Y3 X4 Y4 X5 Y5 X6 Y6 X7 Y7 X8 Y8 X9 Y9 X10 Y10
            try simp only [Act.put, List.setIfInBounds_toArray, List.set_cons_zero, List.set_cons_succ]
            replace opn := owns_set11T opn N4 (by decide) (.int .u8 K) (.slice qn N.length qnc) (.int .i64 AT) (.slice qt T.length qtc) (.int .u64 0) (.bool false) (.string ⟨#[]⟩) (.string ⟨#[]⟩) (.string ⟨#[]⟩) (.bool false) (.slice none 0 0)
            replace opt := owns_set11T opt N4 (by decide) (.int .u8 K) (.slice qn N.length qnc) (.int .i64 AT) (.slice qt T.length qtc) (.int .u64 0) (.bool false) (.string ⟨#[]⟩) (.string ⟨#[]⟩) (.string ⟨#[]⟩) (.bool false) (.slice none 0 0)
            replace oqn := owns_set11T oqn N4 (by decide) (.int .u8 K) (.slice qn N.length qnc) (.int .i64 AT) (.slice qt T.length qtc) (.int .u64 0) (.bool false) (.string ⟨#[]⟩) (.string ⟨#[]⟩) (.string ⟨#[]⟩) (.bool false) (.slice none 0 0)
            replace oqt := owns_set11T oqt N4 (by decide) (.int .u8 K) (.slice qn N.length qnc) (.int .i64 AT) (.slice qt T.length qtc) (.int .u64 0) (.bool false) (.string ⟨#[]⟩) (.string ⟨#[]⟩) (.string ⟨#[]⟩) (.bool false) (.slice none 0 0)
            replace N3 := NBox.far11 N3 hne (.int .u8 K) (.slice qn N.length qnc) (.int .i64 AT) (.slice qt T.length qtc) (.int .u64 0) (.bool false) (.string ⟨#[]⟩) (.string ⟨#[]⟩) (.string ⟨#[]⟩) (.bool false) (.slice none 0 0)
            replace N4 := NBox.set11 N4 (.int .u8 K) (.slice qn N.length qnc) (.int .i64 AT) (.slice qt T.length qtc) (.int .u64 0) (.bool false) (.string ⟨#[]⟩) (.string ⟨#[]⟩) (.string ⟨#[]⟩) (.bool false) (.slice none 0 0)
            obtain ⟨c15, hd⟩ : ∃ d, ((((((((((c14.setCell ⟨c12.heap.size, 0, none⟩ (.int .u8 K)).setCell ⟨c12.heap.size, 1, none⟩ (.slice qn N.length qnc)).setCell ⟨c12.heap.size, 2, none⟩ (.int .i64 AT)).setCell ⟨c12.heap.size, 3, none⟩ (.slice qt T.length qtc)).setCell ⟨c12.heap.size, 4, none⟩ (.int .u64 0)).setCell ⟨c12.heap.size, 5, none⟩ (.bool false)).setCell ⟨c12.heap.size, 6, none⟩ (.string ⟨#[]⟩)).setCell ⟨c12.heap.size, 7, none⟩ (.string ⟨#[]⟩)).setCell ⟨c12.heap.size, 8, none⟩ (.string ⟨#[]⟩)).setCell ⟨c12.heap.size, 9, none⟩ (.bool false)).setCell ⟨c12.heap.size, 10, none⟩ (.slice none 0 0) = d := ⟨_, rfl⟩
            rw [hd] at hHeld N3 N4 opn opt oqn oqt
            rw [hd]
            clear hd
            refine wpAnyH_done (by kernel_rfl) ?_ _
            go_wp2_with fail
            go_meet
            case rel => exact ⟨_, _, pn, pnc, pt, ptc, qn, qnc, qt, qtc, rfl, rfl, N3, N4, RdS.of_owns opn, RdS.of_owns opt, RdS.of_owns oqn, RdS.of_owns oqt, hHeld.1⟩
        · go_simp
          have N4 := NBox.new c11 26 #[.int .u8 0, .slice none 0 0, .int .i64 0, .slice none 0 0, .int .u64 0, .bool false, .string ⟨#[]⟩, .string ⟨#[]⟩, .string ⟨#[]⟩, .bool false, .slice none 0 0]
          have hb4 : w1.heap.size ≤ c11.heap.size := hHeld.1.size
          have hne := Nat.ne_of_lt (NBox.lt N3)
          replace opn := owns_ext ((Ext.refl c11).alloc (.cells #[.int .u8 0, .slice none 0 0, .int .i64 0, .slice none 0 0, .int .u64 0, .bool false, .string ⟨#[]⟩, .string ⟨#[]⟩, .string ⟨#[]⟩, .bool false, .slice none 0 0] 26)) opn
          replace opt := owns_ext ((Ext.refl c11).alloc (.cells #[.int .u8 0, .slice none 0 0, .int .i64 0, .slice none 0 0, .int .u64 0, .bool false, .string ⟨#[]⟩, .string ⟨#[]⟩, .string ⟨#[]⟩, .bool false, .slice none 0 0] 26)) opt
          replace N3 := NBox.ext ((Ext.refl c11).alloc (.cells #[.int .u8 0, .slice none 0 0, .int .i64 0, .slice none 0 0, .int .u64 0, .bool false, .string ⟨#[]⟩, .string ⟨#[]⟩, .string ⟨#[]⟩, .bool false, .slice none 0 0] 26)) N3
          refine hK.out _ _ (by have hz : Ext w1 (c11.alloc (.cells #[.int .u8 0, .slice none 0 0, .int .i64 0, .slice none 0 0, .int .u64 0, .bool false, .string ⟨#[]⟩, .string ⟨#[]⟩, .string ⟨#[]⟩, .bool false, .slice none 0 0] 26)) := hHeld.1.alloc _; exact ⟨hz, hz.cell B0, hz.cell B1, hz.cell B2, hz.cell B3, hz.cell B4, hz.cell B5, hz.cell B6, hz.cell B7, hz.cell B8, hz.cell B9, hz.cell B10⟩) (fun hHeld => ?_)
          clear hK K'
          try simp only [Act.put, List.setIfInBounds_toArray, List.set_cons_zero, List.set_cons_succ]
          obtain ⟨c16, hd⟩ : ∃ d, c11.alloc (.cells #[.int .u8 0, .slice none 0 0, .int .i64 0, .slice none 0 0, .int .u64 0, .bool false, .string ⟨#[]⟩, .string ⟨#[]⟩, .string ⟨#[]⟩, .bool false, .slice none 0 0] 26) = d := ⟨_, rfl⟩
          rw [hd] at hHeld N4 opn opt N3
          rw [hd]
          clear hd
          refine wpAnyH_ready (rs := [3]) (by kernel_rfl) (by simp) ?_
          refine AllReadyH.cons (o := ⟨_, _, _, _, _, _⟩) rfl (fun K' hK => ?_) (AllReadyH.nil)
          · go_simp
            go_at_call 17
            refine (hc17 _ hHeld.1).mono ?_
            rintro e c17 ⟨r, rfl, ⟨qn, qnc, qt, qtc, rfl, oqn, oqt⟩, hE⟩
            replace opn := owns_ext hE opn
            replace opt := owns_ext hE opt
            replace N3 := NBox.ext hE N3
            replace N4 := NBox.ext hE N4
            refine hK.out _ _ (by have hz : Ext w1 _ := hHeld.1.trans hE; exact ⟨hz, hz.cell B0, hz.cell B1, hz.cell B2, hz.cell B3, hz.cell B4, hz.cell B5, hz.cell B6, hz.cell B7, hz.cell B8, hz.cell B9, hz.cell B10⟩) (fun hHeld => ?_)
            clear hK K' hE
            try simp only [Act.put, List.setIfInBounds_toArray, List.set_cons_zero, List.set_cons_succ]
            have X0 := N3.cell 0; have Y0 := N3.frozen 0
            have X1 := N3.cell 1; have Y1 := N3.frozen 1
            have X2 := N3.cell 2; have Y2 := N3.frozen 2
            have X3 := N3.cell 3; have Y3 := N3.frozen 3
            have X4 := N3.cell 4; have Y4 := N3.frozen 4
            have X5 := N3.cell 5; have Y5 := N3.frozen 5
            have X6 := N3.cell 6; have Y6 := N3.frozen 6
            have X7 := N3.cell 7; have Y7 := N3.frozen 7
            have X8 := N3.cell 8; have Y8 := N3.frozen 8
            have X9 := N3.cell 9; have Y9 := N3.frozen 9
            have X10 := N3.cell 10; have Y10 := N3.frozen 10
            refine wpAnyH_ready (rs := [6]) (by kernel_rfl) (by simp) ?_
            refine AllReadyH.cons (o := ⟨_, _, _, _, _, _⟩) rfl (fun K' hK => ?_) (AllReadyH.nil)
            go_simp
            refine hK.out _ _ (by have hz : Ext w1 _ := Ext.set11 hHeld.1 (B := c1.heap.size) hb3 (.int .u8 K) (.slice pn N.length pnc) (.int .i64 AT) (.slice pt T.length ptc) (.int .u64 0) (.bool false) (.string ⟨#[]⟩) (.string ⟨#[]⟩) (.string ⟨#[]⟩) (.bool false) (.slice none 0 0); exact ⟨hz, hz.cell B0, hz.cell B1, hz.cell B2, hz.cell B3, hz.cell B4, hz.cell B5, hz.cell B6, hz.cell B7, hz.cell B8, hz.cell B9, hz.cell B10⟩) (fun hHeld => ?_)
            clear hK K' X0 Y0 X1 Y1 X2 Y2 X3 Y3 X4 Y4 X5 Y5 X6 Y6 X7 Y7 X8 Y8 X9 Y9 X10 Y10
            try simp only [Act.put, List.setIfInBounds_toArray, List.set_cons_zero, List.set_cons_succ]
            replace opn := owns_set11T opn N3 (by decide) (.int .u8 K) (.slice pn N.length pnc) (.int .i64 AT) (.slice pt T.length ptc) (.int .u64 0) (.bool false) (.string ⟨#[]⟩) (.string ⟨#[]⟩) (.string ⟨#[]⟩) (.bool false) (.slice none 0 0)
            replace opt := owns_set11T opt N3 (by decide) (.int .u8 K) (.slice pn N.length pnc) (.int .i64 AT) (.slice pt T.length ptc) (.int .u64 0) (.bool false) (.string ⟨#[]⟩) (.string ⟨#[]⟩) (.string ⟨#[]⟩) (.bool false) (.slice none 0 0)
            replace oqn := owns_set11T oqn N3 (by decide) (.int .u8 K) (.slice pn N.length pnc) (.int .i64 AT) (.slice pt T.length ptc) (.int .u64 0) (.bool false) (.string ⟨#[]⟩) (.string ⟨#[]⟩) (.string ⟨#[]⟩) (.bool false) (.slice none 0 0)
            replace oqt := owns_set11T oqt N3 (by decide) (.int .u8 K) (.slice pn N.length pnc) (.int .i64 AT) (.slice pt T.length ptc) (.int .u64 0) (.bool false) (.string ⟨#[]⟩) (.string ⟨#[]⟩) (.string ⟨#[]⟩) (.bool false) (.slice none 0 0)
            replace N4 := NBox.far11 N4 hne.symm (.int .u8 K) (.slice pn N.length pnc) (.int .i64 AT) (.slice pt T.length ptc) (.int .u64 0) (.bool false) (.string ⟨#[]⟩) (.string ⟨#[]⟩) (.string ⟨#[]⟩) (.bool false) (.slice none 0 0)
            replace N3 := NBox.set11 N3 (.int .u8 K) (.slice pn N.length pnc) (.int .i64 AT) (.slice pt T.length ptc) (.int .u64 0) (.bool false) (.string ⟨#[]⟩) (.string ⟨#[]⟩) (.string ⟨#[]⟩) (.bool false) (.slice none 0 0)
            obtain ⟨c18, hd⟩ : ∃ d, ((((((((((c17.setCell ⟨c1.heap.size, 0, none⟩ (.int .u8 K)).setCell ⟨c1.heap.size, 1, none⟩ (.slice pn N.length pnc)).setCell ⟨c1.heap.size, 2, none⟩ (.int .i64 AT)).setCell ⟨c1.heap.size, 3, none⟩ (.slice pt T.length ptc)).setCell ⟨c1.heap.size, 4, none⟩ (.int .u64 0)).setCell ⟨c1.heap.size, 5, none⟩ (.bool false)).setCell ⟨c1.heap.size, 6, none⟩ (.string ⟨#[]⟩)).setCell ⟨c1.heap.size, 7, none⟩ (.string ⟨#[]⟩)).setCell ⟨c1.heap.size, 8, none⟩ (.string ⟨#[]⟩)).setCell ⟨c1.heap.size, 9, none⟩ (.bool false)).setCell ⟨c1.heap.size, 10, none⟩ (.slice none 0 0) = d := ⟨_, rfl⟩
            rw [hd] at hHeld N3 N4 opn opt oqn oqt
            rw [hd]
            clear hd
            have X0 := N4.cell 0; have Y0 := N4.frozen 0
            have X1 := N4.cell 1; have Y1 := N4.frozen 1
            have X2 := N4.cell 2; have Y2 := N4.frozen 2
            have X3 := N4.cell 3; have Y3 := N4.frozen 3
            have X4 := N4.cell 4; have Y4 := N4.frozen 4
            have X5 := N4.cell 5; have Y5 := N4.frozen 5
            have X6 := N4.cell 6; have Y6 := N4.frozen 6
            have X7 := N4.cell 7; have Y7 := N4.frozen 7
            have X8 := N4.cell 8; have Y8 := N4.frozen 8
            have X9 := N4.cell 9; have Y9 := N4.frozen 9
            have X10 := N4.cell 10; have Y10 := N4.frozen 10
            refine wpAnyH_ready (rs := [7]) (by kernel_rfl) (by simp) ?_
            refine AllReadyH.cons (o := ⟨_, _, _, _, _, _⟩) rfl (fun K' hK => ?_) (AllReadyH.nil)
            go_simp
            refine hK.out _ _ (by have hz : Ext w1 _ := Ext.set11 hHeld.1 (B := c11.heap.size) hb4 (.int .u8 K) (.slice qn N.length qnc) (.int .i64 AT) (.slice qt T.length qtc) (.int .u64 0) (.bool false) (.string ⟨#[]⟩) (.string ⟨#[]⟩) (.string ⟨#[]⟩) (.bool false) (.slice none 0 0); exact ⟨hz, hz.cell B0, hz.cell B1, hz.cell B2, hz.cell B3, hz.cell B4, hz.cell B5, hz.cell B6, hz.cell B7, hz.cell B8, hz.cell B9, hz.cell B10⟩) (fun hHeld => ?_)
            clear hK K' X0 Y0 X1 Y1 X2 Y2 X3 Y3 X4 Y4 X5 Y5 X6 Y6 X7 Y7 X8 Y8 X9 Y9 X10 Y10
            try simp only [Act.put, List.setIfInBounds_toArray, List.set_cons_zero, List.set_cons_succ]
            replace opn := owns_set11T opn N4 (by decide) (.int .u8 K) (.slice qn N.length qnc) (.int .i64 AT) (.slice qt T.length qtc) (.int .u64 0) (.bool false) (.string ⟨#[]⟩) (.string ⟨#[]⟩) (.string ⟨#[]⟩) (.bool false) (.slice none 0 0)
            replace opt := owns_set11T opt N4 (by decide) (.int .u8 K) (.slice qn N.length qnc) (.int .i64 AT) (.slice qt T.length qtc) (.int .u64 0) (.bool false) (.string ⟨#[]⟩) (.string ⟨#[]⟩) (.string ⟨#[]⟩) (.bool false) (.slice none 0 0)
            replace oqn := owns_set11T oqn N4 (by decide) (.int .u8 K) (.slice qn N.length qnc) (.int .i64 AT) (.slice qt T.length qtc) (.int .u64 0) (.bool false) (.string ⟨#[]⟩) (.string ⟨#[]⟩) (.string ⟨#[]⟩) (.bool false) (.slice none 0 0)
            replace oqt := owns_set11T oqt N4 (by decide) (.int .u8 K) (.slice qn N.length qnc) (.int .i64 AT) (.slice qt T.length qtc) (.int .u64 0) (.bool false) (.string ⟨#[]⟩) (.string ⟨#[]⟩) (.string ⟨#[]⟩) (.bool false) (.slice none 0 0)
            replace N3 := NBox.far11 N3 hne (.int .u8 K) (.slice qn N.length qnc) (.int .i64 AT) (.slice qt T.length qtc) (.int .u64 0) (.bool false) (.string ⟨#[]⟩) (.string ⟨#[]⟩) (.string ⟨#[]⟩) (.bool false) (.slice none 0 0)
            replace N4 := NBox.set11 N4 (.int .u8 K) (.slice qn N.length qnc) (.int .i64 AT) (.slice qt T.length qtc) (.int .u64 0) (.bool false) (.string ⟨#[]⟩) (.string ⟨#[]⟩) (.string ⟨#[]⟩) (.bool false) (.slice none 0 0)
            obtain ⟨c19, hd⟩ : ∃ d, ((((((((((c18.setCell ⟨c11.heap.size, 0, none⟩ (.int .u8 K)).setCell ⟨c11.heap.size, 1, none⟩ (.slice qn N.length qnc)).setCell ⟨c11.heap.size, 2, none⟩ (.int .i64 AT)).setCell ⟨c11.heap.size, 3, none⟩ (.slice qt T.length qtc)).setCell ⟨c11.heap.size, 4, none⟩ (.int .u64 0)).setCell ⟨c11.heap.size, 5, none⟩ (.bool false)).setCell ⟨c11.heap.size, 6, none⟩ (.string ⟨#[]⟩)).setCell ⟨c11.heap.size, 7, none⟩ (.string ⟨#[]⟩)).setCell ⟨c11.heap.size, 8, none⟩ (.string ⟨#[]⟩)).setCell ⟨c11.heap.size, 9, none⟩ (.bool false)).setCell ⟨c11.heap.size, 10, none⟩ (.slice none 0 0) = d := ⟨_, rfl⟩
            rw [hd] at hHeld N3 N4 opn opt oqn oqt
            rw [hd]
            clear hd
            refine wpAnyH_done (by kernel_rfl) ?_ _
            go_wp2_with fail
            go_meet
            case rel => exact ⟨_, _, pn, pnc, pt, ptc, qn, qnc, qt, qtc, rfl, rfl, N3, N4, RdS.of_owns opn, RdS.of_owns opt, RdS.of_owns oqn, RdS.of_owns oqt, hHeld.1⟩
      · go_simp
        have N4 := NBox.new c1 26 #[.int .u8 0, .slice none 0 0, .int .i64 0, .slice none 0 0, .int .u64 0, .bool false, .string ⟨#[]⟩, .string ⟨#[]⟩, .string ⟨#[]⟩, .bool false, .slice none 0 0]
        have hb4 : w1.heap.size ≤ c1.heap.size := hHeld.1.size
        replace opn := owns_ext ((Ext.refl c1).alloc (.cells #[.int .u8 0, .slice none 0 0, .int .i64 0, .slice none 0 0, .int .u64 0, .bool false, .string ⟨#[]⟩, .string ⟨#[]⟩, .string ⟨#[]⟩, .bool false, .slice none 0 0] 26)) opn
        replace opt := owns_ext ((Ext.refl c1).alloc (.cells #[.int .u8 0, .slice none 0 0, .int .i64 0, .slice none 0 0, .int .u64 0, .bool false, .string ⟨#[]⟩, .string ⟨#[]⟩, .string ⟨#[]⟩, .bool false, .slice none 0 0] 26)) opt
        refine hK.out _ _ (by have hz : Ext w1 (c1.alloc (.cells #[.int .u8 0, .slice none 0 0, .int .i64 0, .slice none 0 0, .int .u64 0, .bool false, .string ⟨#[]⟩, .string ⟨#[]⟩, .string ⟨#[]⟩, .bool false, .slice none 0 0] 26)) := hHeld.1.alloc _; exact ⟨hz, hz.cell B0, hz.cell B1, hz.cell B2, hz.cell B3, hz.cell B4, hz.cell B5, hz.cell B6, hz.cell B7, hz.cell B8, hz.cell B9, hz.cell B10⟩) (fun hHeld => ?_)
        clear hK K'
        try simp only [Act.put, List.setIfInBounds_toArray, List.set_cons_zero, List.set_cons_succ]
        obtain ⟨c20, hd⟩ : ∃ d, c1.alloc (.cells #[.int .u8 0, .slice none 0 0, .int .i64 0, .slice none 0 0, .int .u64 0, .bool false, .string ⟨#[]⟩, .string ⟨#[]⟩, .string ⟨#[]⟩, .bool false, .slice none 0 0] 26) = d := ⟨_, rfl⟩
        rw [hd] at hHeld N4 opn opt
        rw [hd]
        clear hd
        refine wpAnyH_ready (rs := [3, 4]) (by kernel_rfl) (by simp) ?_
        refine AllReadyH.cons (o := ⟨_, _, _, _, _, _⟩) rfl (fun K' hK => ?_) (AllReadyH.cons (o := ⟨_, _, _, _, _, _⟩) rfl (fun K' hK => ?_) (AllReadyH.nil))
        · go_simp
          go_at_call 17
          refine (hc17 _ hHeld.1).mono ?_
          rintro e c21 ⟨r, rfl, ⟨qn, qnc, qt, qtc, rfl, oqn, oqt⟩, hE⟩
          replace opn := owns_ext hE opn
          replace opt := owns_ext hE opt
          replace N4 := NBox.ext hE N4
          refine hK.out _ _ (by have hz : Ext w1 _ := hHeld.1.trans hE; exact ⟨hz, hz.cell B0, hz.cell B1, hz.cell B2, hz.cell B3, hz.cell B4, hz.cell B5, hz.cell B6, hz.cell B7, hz.cell B8, hz.cell B9, hz.cell B10⟩) (fun hHeld => ?_)
          clear hK K' hE
          try simp only [Act.put, List.setIfInBounds_toArray, List.set_cons_zero, List.set_cons_succ]
          refine wpAnyH_ready (rs := [4]) (by kernel_rfl) (by simp) ?_
          refine AllReadyH.cons (o := ⟨_, _, _, _, _, _⟩) rfl (fun K' hK => ?_) (AllReadyH.nil)
          · go_simp
            have N3 := NBox.new c21 26 #[.int .u8 0, .slice none 0 0, .int .i64 0, .slice none 0 0, .int .u64 0, .bool false, .string ⟨#[]⟩, .string ⟨#[]⟩, .string ⟨#[]⟩, .bool false, .slice none 0 0]
            have hb3 : w1.heap.size ≤ c21.heap.size := hHeld.1.size
            have hne := Nat.ne_of_lt (NBox.lt N4)
            replace opn := owns_ext ((Ext.refl c21).alloc (.cells #[.int .u8 0, .slice none 0 0, .int .i64 0, .slice none 0 0, .int .u64 0, .bool false, .string ⟨#[]⟩, .string ⟨#[]⟩, .string ⟨#[]⟩, .bool false, .slice none 0 0] 26)) opn
            replace opt := owns_ext ((Ext.refl c21).alloc (.cells #[.int .u8 0, .slice none 0 0, .int .i64 0, .slice none 0 0, .int .u64 0, .bool false, .string ⟨#[]⟩, .string ⟨#[]⟩, .string ⟨#[]⟩, .bool false, .slice none 0 0] 26)) opt
            replace N4 := NBox.ext ((Ext.refl c21).alloc (.cells #[.int .u8 0, .slice none 0 0, .int .i64 0, .slice none 0 0, .int .u64 0, .bool false, .string ⟨#[]⟩, .string ⟨#[]⟩, .string ⟨#[]⟩, .bool false, .slice none 0 0] 26)) N4
            replace oqn := owns_ext ((Ext.refl c21).alloc (.cells #[.int .u8 0, .slice none 0 0, .int .i64 0, .slice none 0 0, .int .u64 0, .bool false, .string ⟨#[]⟩, .string ⟨#[]⟩, .string ⟨#[]⟩, .bool false, .slice none 0 0] 26)) oqn
            replace oqt := owns_ext ((Ext.refl c21).alloc (.cells #[.int .u8 0, .slice none 0 0, .int .i64 0, .slice none 0 0, .int .u64 0, .bool false, .string ⟨#[]⟩, .string ⟨#[]⟩, .string ⟨#[]⟩, .bool false, .slice none 0 0] 26)) oqt
            refine hK.out _ _ (by have hz : Ext w1 (c21.alloc (.cells #[.int .u8 0, .slice none 0 0, .int .i64 0, .slice none 0 0, .int .u64 0, .bool false, .string ⟨#[]⟩, .string ⟨#[]⟩, .string ⟨#[]⟩, .bool false, .slice none 0 0] 26)) := hHeld.1.alloc _; exact ⟨hz, hz.cell B0, hz.cell B1, hz.cell B2, hz.cell B3, hz.cell B4, hz.cell B5, hz.cell B6, hz.cell B7, hz.cell B8, hz.cell B9, hz.cell B10⟩) (fun hHeld => ?_)
            clear hK K'
            try simp only [Act.put, List.setIfInBounds_toArray, List.set_cons_zero, List.set_cons_succ]
            obtain ⟨c22, hd⟩ : ∃ d, c21.alloc (.cells #[.int .u8 0, .slice none 0 0, .int .i64 0, .slice none 0 0, .int .u64 0, .bool false, .string ⟨#[]⟩, .string ⟨#[]⟩, .string ⟨#[]⟩, .bool false, .slice none 0 0] 26) = d := ⟨_, rfl⟩
            rw [hd] at hHeld N3 opn opt N4 oqn oqt
            rw [hd]
            clear hd
            have X0 := N3.cell 0; have Y0 := N3.frozen 0
            have X1 := N3.cell 1; have Y1 := N3.frozen 1
            have X2 := N3.cell 2; have Y2 := N3.frozen 2
            have X3 := N3.cell 3; have Y3 := N3.frozen 3
            have X4 := N3.cell 4; have Y4 := N3.frozen 4
            have X5 := N3.cell 5; have Y5 := N3.frozen 5
            have X6 := N3.cell 6; have Y6 := N3.frozen 6
            have X7 := N3.cell 7; have Y7 := N3.frozen 7
            have X8 := N3.cell 8; have Y8 := N3.frozen 8
            have X9 := N3.cell 9; have Y9 := N3.frozen 9
            have X10 := N3.cell 10; have Y10 := N3.frozen 10
            refine wpAnyH_ready (rs := [6]) (by kernel_rfl) (by simp) ?_
            refine AllReadyH.cons (o := ⟨_, _, _, _, _, _⟩) rfl (fun K' hK => ?_) (AllReadyH.nil)
            go_simp
            refine hK.out _ _ (by have hz : Ext w1 _ := Ext.set11 hHeld.1 (B := c21.heap.size) hb3 (.int .u8 K) (.slice pn N.length pnc) (.int .i64 AT) (.slice pt T.length ptc) (.int .u64 0) (.bool false) (.string ⟨#[]⟩) (.string ⟨#[]⟩) (.string ⟨#[]⟩) (.bool false) (.slice none 0 0); exact ⟨hz, hz.cell B0, hz.cell B1, hz.cell B2, hz.cell B3, hz.cell B4, hz.cell B5, hz.cell B6, hz.cell B7, hz.cell B8, hz.cell B9, hz.cell B10⟩) (fun hHeld => ?_)
            clear hK K' X0 Y0 X1 Y1 X2 Y2 X3 Y3 X4 Y4 X5 Y5 X6 Y6 X7 Y7 X8 Y8 X9 Y9 X10 Y10
            try simp only [Act.put, List.setIfInBounds_toArray, List.set_cons_zero, List.set_cons_succ]
            replace opn := owns_set11T opn N3 (by decide) (.int .u8 K) (.slice pn N.length pnc) (.int .i64 AT) (.slice pt T.length ptc) (.int .u64 0) (.bool false) (.string ⟨#[]⟩) (.string ⟨#[]⟩) (.string ⟨#[]⟩) (.bool false) (.slice none 0 0)
            replace opt := owns_set11T opt N3 (by decide) (.int .u8 K) (.slice pn N.length pnc) (.int .i64 AT) (.slice pt T.length ptc) (.int .u64 0) (.bool false) (.string ⟨#[]⟩) (.string ⟨#[]⟩) (.string ⟨#[]⟩) (.bool false) (.slice none 0 0)
            replace oqn := owns_set11T oqn N3 (by decide) (.int .u8 K) (.slice pn N.length pnc) (.int .i64 AT) (.slice pt T.length ptc) (.int .u64 0) (.bool false) (.string ⟨#[]⟩) (.string ⟨#[]⟩) (.string ⟨#[]⟩) (.bool false) (.slice none 0 0)
            replace oqt := owns_set11T oqt N3 (by decide) (.int .u8 K) (.slice pn N.length pnc) (.int .i64 AT) (.slice pt T.length ptc) (.int .u64 0) (.bool false) (.string ⟨#[]⟩) (.string ⟨#[]⟩) (.string ⟨#[]⟩) (.bool false) (.slice none 0 0)
            replace N4 := NBox.far11 N4 hne (.int .u8 K) (.slice pn N.length pnc) (.int .i64 AT) (.slice pt T.length ptc) (.int .u64 0) (.bool false) (.string ⟨#[]⟩) (.string ⟨#[]⟩) (.string ⟨#[]⟩) (.bool false) (.slice none 0 0)
            replace N3 := NBox.set11 N3 (.int .u8 K) (.slice pn N.length pnc) (.int .i64 AT) (.slice pt T.length ptc) (.int .u64 0) (.bool false) (.string ⟨#[]⟩) (.string ⟨#[]⟩) (.string ⟨#[]⟩) (.bool false) (.slice none 0 0)
            obtain ⟨c23, hd⟩ : ∃ d, ((((((((((c22.setCell ⟨c21.heap.size, 0, none⟩ (.int .u8 K)).setCell ⟨c21.heap.size, 1, none⟩ (.slice pn N.length pnc)).setCell ⟨c21.heap.size, 2, none⟩ (.int .i64 AT)).setCell ⟨c21.heap.size, 3, none⟩ (.slice pt T.length ptc)).setCell ⟨c21.heap.size, 4, none⟩ (.int .u64 0)).setCell ⟨c21.heap.size, 5, none⟩ (.bool false)).setCell ⟨c21.heap.size, 6, none⟩ (.string ⟨#[]⟩)).setCell ⟨c21.heap.size, 7, none⟩ (.string ⟨#[]⟩)).setCell ⟨c21.heap.size, 8, none⟩ (.string ⟨#[]⟩)).setCell ⟨c21.heap.size, 9, none⟩ (.bool false)).setCell ⟨c21.heap.size, 10, none⟩ (.slice none 0 0) = d := ⟨_, rfl⟩
            rw [hd] at hHeld N3 N4 opn opt oqn oqt
            rw [hd]
            clear hd
            have X0 := N4.cell 0; have Y0 := N4.frozen 0
            have X1 := N4.cell 1; have Y1 := N4.frozen 1
            have X2 := N4.cell 2; have Y2 := N4.frozen 2
            have X3 := N4.cell 3; have Y3 := N4.frozen 3
            have X4 := N4.cell 4; have Y4 := N4.frozen 4
            have X5 := N4.cell 5; have Y5 := N4.frozen 5
            have X6 := N4.cell 6; have Y6 := N4.frozen 6
            have X7 := N4.cell 7; have Y7 := N4.frozen 7
            have X8 := N4.cell 8; have Y8 := N4.frozen 8
            have X9 := N4.cell 9; have Y9 := N4.frozen 9
            have X10 := N4.cell 10; have Y10 := N4.frozen 10
            refine wpAnyH_ready (rs := [7]) (by kernel_rfl) (by simp) ?_
            refine AllReadyH.cons (o := ⟨_, _, _, _, _, _⟩) rfl (fun K' hK => ?_) (AllReadyH.nil)
            go_simp
            refine hK.out _ _ (by have hz : Ext w1 _ := Ext.set11 hHeld.1 (B := c1.heap.size) hb4 (.int .u8 K) (.slice qn N.length qnc) (.int .i64 AT) (.slice qt T.length qtc) (.int .u64 0) (.bool false) (.string ⟨#[]⟩) (.string ⟨#[]⟩) (.string ⟨#[]⟩) (.bool false) (.slice none 0 0); exact ⟨hz, hz.cell B0, hz.cell B1, hz.cell B2, hz.cell B3, hz.cell B4, hz.cell B5, hz.cell B6, hz.cell B7, hz.cell B8, hz.cell B9, hz.cell B10⟩) (fun hHeld => ?_)
            clear hK K' X0 Y0 X1 Y1 X2 Y2 X3 Y3 X4 Y4 X5 Y5 X6 Y6 X7 Y7 X8 Y8 X9 Y9 X10 Y10
            try simp only [Act.put, List.setIfInBounds_toArray, List.set_cons_zero, List.set_cons_succ]
            replace opn := owns_set11T opn N4 (by decide) (.int .u8 K) (.slice qn N.length qnc) (.int .i64 AT) (.slice qt T.length qtc) (.int .u64 0) (.bool false) (.string ⟨#[]⟩) (.string ⟨#[]⟩) (.string ⟨#[]⟩) (.bool false) (.slice none 0 0)
            replace opt := owns_set11T opt N4 (by decide) (.int .u8 K) (.slice qn N.length qnc) (.int .i64 AT) (.slice qt T.length qtc) (.int .u64 0) (.bool false) (.string ⟨#[]⟩) (.string ⟨#[]⟩) (.string ⟨#[]⟩) (.bool false) (.slice none 0 0)
            replace oqn := owns_set11T oqn N4 (by decide) (.int .u8 K) (.slice qn N.length qnc) (.int .i64 AT) (.slice qt T.length qtc) (.int .u64 0) (.bool false) (.string ⟨#[]⟩) (.string ⟨#[]⟩) (.string ⟨#[]⟩) (.bool false) (.slice none 0 0)
            replace oqt := owns_set11T oqt N4 (by decide) (.int .u8 K) (.slice qn N.length qnc) (.int .i64 AT) (.slice qt T.length qtc) (.int .u64 0) (.bool false) (.string ⟨#[]⟩) (.string ⟨#[]⟩) (.string ⟨#[]⟩) (.bool false) (.slice none 0 0)
            replace N3 := NBox.far11 N3 hne.symm (.int .u8 K) (.slice qn N.length qnc) (.int .i64 AT) (.slice qt T.length qtc) (.int .u64 0) (.bool false) (.string ⟨#[]⟩) (.string ⟨#[]⟩) (.string ⟨#[]⟩) (.bool false) (.slice none 0 0)
            replace N4 := NBox.set11 N4 (.int .u8 K) (.slice qn N.length qnc) (.int .i64 AT) (.slice qt T.length qtc) (.int .u64 0) (.bool false) (.string ⟨#[]⟩) (.string ⟨#[]⟩) (.string ⟨#[]⟩) (.bool false) (.slice none 0 0)
            obtain ⟨c24, hd⟩ : ∃ d, ((((((((((c23.setCell ⟨c1.heap.size, 0, none⟩ (.int .u8 K)).setCell ⟨c1.heap.size, 1, none⟩ (.slice qn N.length qnc)).setCell ⟨c1.heap.size, 2, none⟩ (.int .i64 AT)).setCell ⟨c1.heap.size, 3, none⟩ (.slice qt T.length qtc)).setCell ⟨c1.heap.size, 4, none⟩ (.int .u64 0)).setCell ⟨c1.heap.size, 5, none⟩ (.bool false)).setCell ⟨c1.heap.size, 6, none⟩ (.string ⟨#[]⟩)).setCell ⟨c1.heap.size, 7, none⟩ (.string ⟨#[]⟩)).setCell ⟨c1.heap.size, 8, none⟩ (.string ⟨#[]⟩)).setCell ⟨c1.heap.size, 9, none⟩ (.bool false)).setCell ⟨c1.heap.size, 10, none⟩ (.slice none 0 0) = d := ⟨_, rfl⟩
            rw [hd] at hHeld N3 N4 opn opt oqn oqt
            rw [hd]
            clear hd
            refine wpAnyH_done (by kernel_rfl) ?_ _
            go_wp2_with fail
            go_meet
            case rel => exact ⟨_, _, pn, pnc, pt, ptc, qn, qnc, qt, qtc, rfl, rfl, N3, N4, RdS.of_owns opn, RdS.of_owns opt, RdS.of_owns oqn, RdS.of_owns oqt, hHeld.1⟩
        · go_simp
          have N3 := NBox.new c20 26 #[.int .u8 0, .slice none 0 0, .int .i64 0, .slice none 0 0, .int .u64 0, .bool false, .string ⟨#[]⟩, .string ⟨#[]⟩, .string ⟨#[]⟩, .bool false, .slice none 0 0]
          have hb3 : w1.heap.size ≤ c20.heap.size := hHeld.1.size
          have hne := Nat.ne_of_lt (NBox.lt N4)
          replace opn := owns_ext ((Ext.refl c20).alloc (.cells #[.int .u8 0, .slice none 0 0, .int .i64 0, .slice none 0 0, .int .u64 0, .bool false, .string ⟨#[]⟩, .string ⟨#[]⟩, .string ⟨#[]⟩, .bool false, .slice none 0 0] 26)) opn
          replace opt := owns_ext ((Ext.refl c20).alloc (.cells #[.int .u8 0, .slice none 0 0, .int .i64 0, .slice none 0 0, .int .u64 0, .bool false, .string ⟨#[]⟩, .string ⟨#[]⟩, .string ⟨#[]⟩, .bool false, .slice none 0 0] 26)) opt
          replace N4 := NBox.ext ((Ext.refl c20).alloc (.cells #[.int .u8 0, .slice none 0 0, .int .i64 0, .slice none 0 0, .int .u64 0, .bool false, .string ⟨#[]⟩, .string ⟨#[]⟩, .string ⟨#[]⟩, .bool false, .slice none 0 0] 26)) N4
          refine hK.out _ _ (by have hz : Ext w1 (c20.alloc (.cells #[.int .u8 0, .slice none 0 0, .int .i64 0, .slice none 0 0, .int .u64 0, .bool false, .string ⟨#[]⟩, .string ⟨#[]⟩, .string ⟨#[]⟩, .bool false, .slice none 0 0] 26)) := hHeld.1.alloc _; exact ⟨hz, hz.cell B0, hz.cell B1, hz.cell B2, hz.cell B3, hz.cell B4, hz.cell B5, hz.cell B6, hz.cell B7, hz.cell B8, hz.cell B9, hz.cell B10⟩) (fun hHeld => ?_)
          clear hK K'
          try simp only [Act.put, List.setIfInBounds_toArray, List.set_cons_zero, List.set_cons_succ]
          obtain ⟨c25, hd⟩ : ∃ d, c20.alloc (.cells #[.int .u8 0, .slice none 0 0, .int .i64 0, .slice none 0 0, .int .u64 0, .bool false, .string ⟨#[]⟩, .string ⟨#[]⟩, .string ⟨#[]⟩, .bool false, .slice none 0 0] 26) = d := ⟨_, rfl⟩
          rw [hd] at hHeld N3 opn opt N4
          rw [hd]
          clear hd
          refine wpAnyH_ready (rs := [3]) (by kernel_rfl) (by simp) ?_
          refine AllReadyH.cons (o := ⟨_, _, _, _, _, _⟩) rfl (fun K' hK => ?_) (AllReadyH.nil)
          · go_simp
            go_at_call 17
            refine (hc17 _ hHeld.1).mono ?_
            rintro e c26 ⟨r, rfl, ⟨qn, qnc, qt, qtc, rfl, oqn, oqt⟩, hE⟩
            replace opn := owns_ext hE opn
            replace opt := owns_ext hE opt
            replace N4 := NBox.ext hE N4
            replace N3 := NBox.ext hE N3
            refine hK.out _ _ (by have hz : Ext w1 _ := hHeld.1.trans hE; exact ⟨hz, hz.cell B0, hz.cell B1, hz.cell B2, hz.cell B3, hz.cell B4, hz.cell B5, hz.cell B6, hz.cell B7, hz.cell B8, hz.cell B9, hz.cell B10⟩) (fun hHeld => ?_)
            clear hK K' hE
            try simp only [Act.put, List.setIfInBounds_toArray, List.set_cons_zero, List.set_cons_succ]
            have X0 := N3.cell 0; have Y0 := N3.frozen 0
            have X1 := N3.cell 1; have Y1 := N3.frozen 1
            have X2 := N3.cell 2; have Y2 := N3.frozen 2
            have X3 := N3.cell 3; have Y3 := N3.frozen 3
            have X4 := N3.cell 4; have Y4 := N3.frozen 4
            have X5 := N3.cell 5; have Y5 := N3.frozen 5
            have X6 := N3.cell 6; have Y6 := N3.frozen 6
            have X7 := N3.cell 7; have Y7 := N3.frozen 7
            have X8 := N3.cell 8; have Y8 := N3.frozen 8
            have X9 := N3.cell 9; have Y9 := N3.frozen 9
            have X10 := N3.cell 10; have Y10 := N3.frozen 10
            refine wpAnyH_ready (rs := [6]) (by kernel_rfl) (by simp) ?_
            refine AllReadyH.cons (o := ⟨_, _, _, _, _, _⟩) rfl (fun K' hK => ?_) (AllReadyH.nil)
            go_simp
            refine hK.out _ _ (by have hz : Ext w1 _ := Ext.set11 hHeld.1 (B := c20.heap.size) hb3 (.int .u8 K) (.slice pn N.length pnc) (.int .i64 AT) (.slice pt T.length ptc) (.int .u64 0) (.bool false) (.string ⟨#[]⟩) (.string ⟨#[]⟩) (.string ⟨#[]⟩) (.bool false) (.slice none 0 0); exact ⟨hz, hz.cell B0, hz.cell B1, hz.cell B2, hz.cell B3, hz.cell B4, hz.cell B5, hz.cell B6, hz.cell B7, hz.cell B8, hz.cell B9, hz.cell B10⟩) (fun hHeld => ?_)
            clear hK K' X0 Y0 X1 Y1 X2 Y2 X3 Y3 X4 Y4 X5 Y5 X6 Y6 X7 Y7 X8 Y8 X9 Y9 X10 Y10
            try simp only [Act.put, List.setIfInBounds_toArray, List.set_cons_zero, List.set_cons_succ]
            replace opn := owns_set11T opn N3 (by decide) (.int .u8 K) (.slice pn N.length pnc) (.int .i64 AT) (.slice pt T.length ptc) (.int .u64 0) (.bool false) (.string ⟨#[]⟩) (.string ⟨#[]⟩) (.string ⟨#[]⟩) (.bool false) (.slice none 0 0)
            replace opt := owns_set11T opt N3 (by decide) (.int .u8 K) (.slice pn N.length pnc) (.int .i64 AT) (.slice pt T.length ptc) (.int .u64 0) (.bool false) (.string ⟨#[]⟩) (.string ⟨#[]⟩) (.string ⟨#[]⟩) (.bool false) (.slice none 0 0)
            replace oqn := owns_set11T oqn N3 (by decide) (.int .u8 K) (.slice pn N.length pnc) (.int .i64 AT) (.slice pt T.length ptc) (.int .u64 0) (.bool false) (.string ⟨#[]⟩) (.string ⟨#[]⟩) (.string ⟨#[]⟩) (.bool false) (.slice none 0 0)
            replace oqt := owns_set11T oqt N3 (by decide) (.int .u8 K) (.slice pn N.length pnc) (.int .i64 AT) (.slice pt T.length ptc) (.int .u64 0) (.bool false) (.string ⟨#[]⟩) (.string ⟨#[]⟩) (.string ⟨#[]⟩) (.bool false) (.slice none 0 0)
            replace N4 := NBox.far11 N4 hne (.int .u8 K) (.slice pn N.length pnc) (.int .i64 AT) (.slice pt T.length ptc) (.int .u64 0) (.bool false) (.string ⟨#[]⟩) (.string ⟨#[]⟩) (.string ⟨#[]⟩) (.bool false) (.slice none 0 0)
            replace N3 := NBox.set11 N3 (.int .u8 K) (.slice pn N.length pnc) (.int .i64 AT) (.slice pt T.length ptc) (.int .u64 0) (.bool false) (.string ⟨#[]⟩) (.string ⟨#[]⟩) (.string ⟨#[]⟩) (.bool false) (.slice none 0 0)
            obtain ⟨c27, hd⟩ : ∃ d, ((((((((((c26.setCell ⟨c20.heap.size, 0, none⟩ (.int .u8 K)).setCell ⟨c20.heap.size, 1, none⟩ (.slice pn N.length pnc)).setCell ⟨c20.heap.size, 2, none⟩ (.int .i64 AT)).setCell ⟨c20.heap.size, 3, none⟩ (.slice pt T.length ptc)).setCell ⟨c20.heap.size, 4, none⟩ (.int .u64 0)).setCell ⟨c20.heap.size, 5, none⟩ (.bool false)).setCell ⟨c20.heap.size, 6, none⟩ (.string ⟨#[]⟩)).setCell ⟨c20.heap.size, 7, none⟩ (.string ⟨#[]⟩)).setCell ⟨c20.heap.size, 8, none⟩ (.string ⟨#[]⟩)).setCell ⟨c20.heap.size, 9, none⟩ (.bool false)).setCell ⟨c20.heap.size, 10, none⟩ (.slice none 0 0) = d := ⟨_, rfl⟩
            rw [hd] at hHeld N3 N4 opn opt oqn oqt
            rw [hd]
            clear hd
            have X0 := N4.cell 0; have Y0 := N4.frozen 0
            have X1 := N4.cell 1; have Y1 := N4.frozen 1
            have X2 := N4.cell 2; have Y2 := N4.frozen 2
            have X3 := N4.cell 3; have Y3 := N4.frozen 3
            have X4 := N4.cell 4; have Y4 := N4.frozen 4
            have X5 := N4.cell 5; have Y5 := N4.frozen 5
            have X6 := N4.cell 6; have Y6 := N4.frozen 6
            have X7 := N4.cell 7; have Y7 := N4.frozen 7
            have X8 := N4.cell 8; have Y8 := N4.frozen 8
            have X9 := N4.cell 9; have Y9 := N4.frozen 9
            have X10 := N4.cell 10; have Y10 := N4.frozen 10
            refine wpAnyH_ready (rs := [7]) (by kernel_rfl) (by simp) ?_
            refine AllReadyH.cons (o := ⟨_, _, _, _, _, _⟩) rfl (fun K' hK => ?_) (AllReadyH.nil)
            go_simp
            refine hK.out _ _ (by have hz : Ext w1 _ := Ext.set11 hHeld.1 (B := c1.heap.size) hb4 (.int .u8 K) (.slice qn N.length qnc) (.int .i64 AT) (.slice qt T.length qtc) (.int .u64 0) (.bool false) (.string ⟨#[]⟩) (.string ⟨#[]⟩) (.string ⟨#[]⟩) (.bool false) (.slice none 0 0); exact ⟨hz, hz.cell B0, hz.cell B1, hz.cell B2, hz.cell B3, hz.cell B4, hz.cell B5, hz.cell B6, hz.cell B7, hz.cell B8, hz.cell B9, hz.cell B10⟩) (fun hHeld => ?_)
            clear hK K' X0 Y0 X1 Y1 X2 Y2 X3 Y3 X4 Y4 X5 Y5 X6 Y6 X7 Y7 X8 Y8 X9 Y9 X10 Y10
            try simp only [Act.put, List.setIfInBounds_toArray, List.set_cons_zero, List.set_cons_succ]
            replace opn := owns_set11T opn N4 (by decide) (.int .u8 K) (.slice qn N.length qnc) (.int .i64 AT) (.slice qt T.length qtc) (.int .u64 0) (.bool false) (.string ⟨#[]⟩) (.string ⟨#[]⟩) (.string ⟨#[]⟩) (.bool false) (.slice none 0 0)
            replace opt := owns_set11T opt N4 (by decide) (.int .u8 K) (.slice qn N.length qnc) (.int .i64 AT) (.slice qt T.length qtc) (.int .u64 0) (.bool false) (.string ⟨#[]⟩) (.string ⟨#[]⟩) (.string ⟨#[]⟩) (.bool false) (.slice none 0 0)
            replace oqn := owns_set11T oqn N4 (by decide) (.int .u8 K) (.slice qn N.length qnc) (.int .i64 AT) (.slice qt T.length qtc) (.int .u64 0) (.bool false) (.string ⟨#[]⟩) (.string ⟨#[]⟩) (.string ⟨#[]⟩) (.bool false) (.slice none 0 0)
            replace oqt := owns_set11T oqt N4 (by decide) (.int .u8 K) (.slice qn N.length qnc) (.int .i64 AT) (.slice qt T.length qtc) (.int .u64 0) (.bool false) (.string ⟨#[]⟩) (.string ⟨#[]⟩) (.string ⟨#[]⟩) (.bool false) (.slice none 0 0)
            replace N3 := NBox.far11 N3 hne.symm (.int .u8 K) (.slice qn N.length qnc) (.int .i64 AT) (.slice qt T.length qtc) (.int .u64 0) (.bool false) (.string ⟨#[]⟩) (.string ⟨#[]⟩) (.string ⟨#[]⟩) (.bool false) (.slice none 0 0)
            replace N4 := NBox.set11 N4 (.int .u8 K) (.slice qn N.length qnc) (.int .i64 AT) (.slice qt T.length qtc) (.int .u64 0) (.bool false) (.string ⟨#[]⟩) (.string ⟨#[]⟩) (.string ⟨#[]⟩) (.bool false) (.slice none 0 0)
            obtain ⟨c28, hd⟩ : ∃ d, ((((((((((c27.setCell ⟨c1.heap.size, 0, none⟩ (.int .u8 K)).setCell ⟨c1.heap.size, 1, none⟩ (.slice qn N.length qnc)).setCell ⟨c1.heap.size, 2, none⟩ (.int .i64 AT)).setCell ⟨c1.heap.size, 3, none⟩ (.slice qt T.length qtc)).setCell ⟨c1.heap.size, 4, none⟩ (.int .u64 0)).setCell ⟨c1.heap.size, 5, none⟩ (.bool false)).setCell ⟨c1.heap.size, 6, none⟩ (.string ⟨#[]⟩)).setCell ⟨c1.heap.size, 7, none⟩ (.string ⟨#[]⟩)).setCell ⟨c1.heap.size, 8, none⟩ (.string ⟨#[]⟩)).setCell ⟨c1.heap.size, 9, none⟩ (.bool false)).setCell ⟨c1.heap.size, 10, none⟩ (.slice none 0 0) = d := ⟨_, rfl⟩
            rw [hd] at hHeld N3 N4 opn opt oqn oqt
            rw [hd]
            clear hd
            refine wpAnyH_done (by kernel_rfl) ?_ _
            go_wp2_with fail
            go_meet
            case rel => exact ⟨_, _, pn, pnc, pt, ptc, qn, qnc, qt, qtc, rfl, rfl, N3, N4, RdS.of_owns opn, RdS.of_owns opt, RdS.of_owns oqn, RdS.of_owns oqt, hHeld.1⟩
    · go_simp
      have N3 := NBox.new c0 26 #[.int .u8 0, .slice none 0 0, .int .i64 0, .slice none 0 0, .int .u64 0, .bool false, .string ⟨#[]⟩, .string ⟨#[]⟩, .string ⟨#[]⟩, .bool false, .slice none 0 0]
      have hb3 : w1.heap.size ≤ c0.heap.size := hHeld.1.size
      refine hK.out _ _ (by have hz : Ext w1 (c0.alloc (.cells #[.int .u8 0, .slice none 0 0, .int .i64 0, .slice none 0 0, .int .u64 0, .bool false, .string ⟨#[]⟩, .string ⟨#[]⟩, .string ⟨#[]⟩, .bool false, .slice none 0 0] 26)) := hHeld.1.alloc _; exact ⟨hz, hz.cell B0, hz.cell B1, hz.cell B2, hz.cell B3, hz.cell B4, hz.cell B5, hz.cell B6, hz.cell B7, hz.cell B8, hz.cell B9, hz.cell B10⟩) (fun hHeld => ?_)
      clear hK K'
      try simp only [Act.put, List.setIfInBounds_toArray, List.set_cons_zero, List.set_cons_succ]
      obtain ⟨c29, hd⟩ : ∃ d, c0.alloc (.cells #[.int .u8 0, .slice none 0 0, .int .i64 0, .slice none 0 0, .int .u64 0, .bool false, .string ⟨#[]⟩, .string ⟨#[]⟩, .string ⟨#[]⟩, .bool false, .slice none 0 0] 26) = d := ⟨_, rfl⟩
      rw [hd] at hHeld N3
      rw [hd]
      clear hd
      refine wpAnyH_ready (rs := [1, 5]) (by kernel_rfl) (by simp) ?_
      refine AllReadyH.cons (o := ⟨_, _, _, _, _, _⟩) rfl (fun K' hK => ?_) (AllReadyH.cons (o := ⟨_, _, _, _, _, _⟩) rfl (fun K' hK => ?_) (AllReadyH.nil))
      · go_simp
        go_at_call 16
        refine (hc16 _ hHeld.1).mono ?_
        rintro e c30 ⟨r, rfl, ⟨pn, pnc, pt, ptc, rfl, opn, opt⟩, hE⟩
        replace N3 := NBox.ext hE N3
        refine hK.out _ _ (by have hz : Ext w1 _ := hHeld.1.trans hE; exact ⟨hz, hz.cell B0, hz.cell B1, hz.cell B2, hz.cell B3, hz.cell B4, hz.cell B5, hz.cell B6, hz.cell B7, hz.cell B8, hz.cell B9, hz.cell B10⟩) (fun hHeld => ?_)
        clear hK K' hE
        try simp only [Act.put, List.setIfInBounds_toArray, List.set_cons_zero, List.set_cons_succ]
        refine wpAnyH_ready (rs := [3, 5]) (by kernel_rfl) (by simp) ?_
        refine AllReadyH.cons (o := ⟨_, _, _, _, _, _⟩) rfl (fun K' hK => ?_) (AllReadyH.cons (o := ⟨_, _, _, _, _, _⟩) rfl (fun K' hK => ?_) (AllReadyH.nil))
        · go_simp
          go_at_call 17
          refine (hc17 _ hHeld.1).mono ?_
          rintro e c31 ⟨r, rfl, ⟨qn, qnc, qt, qtc, rfl, oqn, oqt⟩, hE⟩
          replace N3 := NBox.ext hE N3
          replace opn := owns_ext hE opn
          replace opt := owns_ext hE opt
          refine hK.out _ _ (by have hz : Ext w1 _ := hHeld.1.trans hE; exact ⟨hz, hz.cell B0, hz.cell B1, hz.cell B2, hz.cell B3, hz.cell B4, hz.cell B5, hz.cell B6, hz.cell B7, hz.cell B8, hz.cell B9, hz.cell B10⟩) (fun hHeld => ?_)
          clear hK K' hE
          try simp only [Act.put, List.setIfInBounds_toArray, List.set_cons_zero, List.set_cons_succ]
          refine wpAnyH_ready (rs := [5]) (by kernel_rfl) (by simp) ?_
          refine AllReadyH.cons (o := ⟨_, _, _, _, _, _⟩) rfl (fun K' hK => ?_) (AllReadyH.nil)
          · go_simp
            have N4 := NBox.new c31 26 #[.int .u8 0, .slice none 0 0, .int .i64 0, .slice none 0 0, .int .u64 0, .bool false, .string ⟨#[]⟩, .string ⟨#[]⟩, .string ⟨#[]⟩, .bool false, .slice none 0 0]
            have hb4 : w1.heap.size ≤ c31.heap.size := hHeld.1.size
            have hne := Nat.ne_of_lt (NBox.lt N3)
            replace N3 := NBox.ext ((Ext.refl c31).alloc (.cells #[.int .u8 0, .slice none 0 0, .int .i64 0, .slice none 0 0, .int .u64 0, .bool false, .string ⟨#[]⟩, .string ⟨#[]⟩, .string ⟨#[]⟩, .bool false, .slice none 0 0] 26)) N3
            replace opn := owns_ext ((Ext.refl c31).alloc (.cells #[.int .u8 0, .slice none 0 0, .int .i64 0, .slice none 0 0, .int .u64 0, .bool false, .string ⟨#[]⟩, .string ⟨#[]⟩, .string ⟨#[]⟩, .bool false, .slice none 0 0] 26)) opn
            replace opt := owns_ext ((Ext.refl c31).alloc (.cells #[.int .u8 0, .slice none 0 0, .int .i64 0, .slice none 0 0, .int .u64 0, .bool false, .string ⟨#[]⟩, .string ⟨#[]⟩, .string ⟨#[]⟩, .bool false, .slice none 0 0] 26)) opt
            replace oqn := owns_ext ((Ext.refl c31).alloc (.cells #[.int .u8 0, .slice none 0 0, .int .i64 0, .slice none 0 0, .int .u64 0, .bool false, .string ⟨#[]⟩, .string ⟨#[]⟩, .string ⟨#[]⟩, .bool false, .slice none 0 0] 26)) oqn
            replace oqt := owns_ext ((Ext.refl c31).alloc (.cells #[.int .u8 0, .slice none 0 0, .int .i64 0, .slice none 0 0, .int .u64 0, .bool false, .string ⟨#[]⟩, .string ⟨#[]⟩, .string ⟨#[]⟩, .bool false, .slice none 0 0] 26)) oqt
            refine hK.out _ _ (by have hz : Ext w1 (c31.alloc (.cells #[.int .u8 0, .slice none 0 0, .int .i64 0, .slice none 0 0, .int .u64 0, .bool false, .string ⟨#[]⟩, .string ⟨#[]⟩, .string ⟨#[]⟩, .bool false, .slice none 0 0] 26)) := hHeld.1.alloc _; exact ⟨hz, hz.cell B0, hz.cell B1, hz.cell B2, hz.cell B3, hz.cell B4, hz.cell B5, hz.cell B6, hz.cell B7, hz.cell B8, hz.cell B9, hz.cell B10⟩) (fun hHeld => ?_)
            clear hK K'
            try simp only [Act.put, List.setIfInBounds_toArray, List.set_cons_zero, List.set_cons_succ]
            obtain ⟨c32, hd⟩ : ∃ d, c31.alloc (.cells #[.int .u8 0, .slice none 0 0, .int .i64 0, .slice none 0 0, .int .u64 0, .bool false, .string ⟨#[]⟩, .string ⟨#[]⟩, .string ⟨#[]⟩, .bool false, .slice none 0 0] 26) = d := ⟨_, rfl⟩
            rw [hd] at hHeld N4 N3 opn opt oqn oqt
            rw [hd]
            clear hd
            have X0 := N3.cell 0; have Y0 := N3.frozen 0
            have X1 := N3.cell 1; have Y1 := N3.frozen 1
            have X2 := N3.cell 2; have Y2 := N3.frozen 2
            have X3 := N3.cell 3; have Y3 := N3.frozen 3
            have X4 := N3.cell 4; have Y4 := N3.frozen 4
            have X5 := N3.cell 5; have Y5 := N3.frozen 5
            have X6 := N3.cell 6; have Y6 := N3.frozen 6
            have X7 := N3.cell 7; have Y7 := N3.frozen 7
            have X8 := N3.cell 8; have Y8 := N3.frozen 8
            have X9 := N3.cell 9; have Y9 := N3.frozen 9
            have X10 := N3.cell 10; have Y10 := N3.frozen 10
            refine wpAnyH_ready (rs := [6]) (by kernel_rfl) (by simp) ?_
            refine AllReadyH.cons (o := ⟨_, _, _, _, _, _⟩) rfl (fun K' hK => ?_) (AllReadyH.nil)
            go_simp
            refine hK.out _ _ (by have hz : Ext w1 _ := Ext.set11 hHeld.1 (B := c0.heap.size) hb3 (.int .u8 K) (.slice pn N.length pnc) (.int .i64 AT) (.slice pt T.length ptc) (.int .u64 0) (.bool false) (.string ⟨#[]⟩) (.string ⟨#[]⟩) (.string ⟨#[]⟩) (.bool false) (.slice none 0 0); exact ⟨hz, hz.cell B0, hz.cell B1, hz.cell B2, hz.cell B3, hz.cell B4, hz.cell B5, hz.cell B6, hz.cell B7, hz.cell B8, hz.cell B9, hz.cell B10⟩) (fun hHeld => ?_)
            clear hK K' X0 Y0 X1 Y1 X2 Y2 X3 Y3 X4 Y4 X5 Y5 X6 Y6 X7 Y7 X8 Y8 X9 Y9 X10 Y10
            try simp only [Act.put, List.setIfInBounds_toArray, List.set_cons_zero, List.set_cons_succ]
            replace opn := owns_set11T opn N3 (by decide) (.int .u8 K) (.slice pn N.length pnc) (.int .i64 AT) (.slice pt T.length ptc) (.int .u64 0) (.bool false) (.string ⟨#[]⟩) (.string ⟨#[]⟩) (.string ⟨#[]⟩) (.bool false) (.slice none 0 0)
            replace opt := owns_set11T opt N3 (by decide) (.int .u8 K) (.slice pn N.length pnc) (.int .i64 AT) (.slice pt T.length ptc) (.int .u64 0) (.bool false) (.string ⟨#[]⟩) (.string ⟨#[]⟩) (.string ⟨#[]⟩) (.bool false) (.slice none 0 0)
            replace oqn := owns_set11T oqn N3 (by decide) (.int .u8 K) (.slice pn N.length pnc) (.int .i64 AT) (.slice pt T.length ptc) (.int .u64 0) (.bool false) (.string ⟨#[]⟩) (.string ⟨#[]⟩) (.string ⟨#[]⟩) (.bool false) (.slice none 0 0)
            replace oqt := owns_set11T oqt N3 (by decide) (.int .u8 K) (.slice pn N.length pnc) (.int .i64 AT) (.slice pt T.length ptc) (.int .u64 0) (.bool false) (.string ⟨#[]⟩) (.string ⟨#[]⟩) (.string ⟨#[]⟩) (.bool false) (.slice none 0 0)
            replace N4 := NBox.far11 N4 hne.symm (.int .u8 K) (.slice pn N.length pnc) (.int .i64 AT) (.slice pt T.length ptc) (.int .u64 0) (.bool false) (.string ⟨#[]⟩) (.string ⟨#[]⟩) (.string ⟨#[]⟩) (.bool false) (.slice none 0 0)
            replace N3 := NBox.set11 N3 (.int .u8 K) (.slice pn N.length pnc) (.int .i64 AT) (.slice pt T.length ptc) (.int .u64 0) (.bool false) (.string ⟨#[]⟩) (.string ⟨#[]⟩) (.string ⟨#[]⟩) (.bool false) (.slice none 0 0)
            obtain ⟨c33, hd⟩ : ∃ d, ((((((((((c32.setCell ⟨c0.heap.size, 0, none⟩ (.int .u8 K)).setCell ⟨c0.heap.size, 1, none⟩ (.slice pn N.length pnc)).setCell ⟨c0.heap.size, 2, none⟩ (.int .i64 AT)).setCell ⟨c0.heap.size, 3, none⟩ (.slice pt T.length ptc)).setCell ⟨c0.heap.size, 4, none⟩ (.int .u64 0)).setCell ⟨c0.heap.size, 5, none⟩ (.bool false)).setCell ⟨c0.heap.size, 6, none⟩ (.string ⟨#[]⟩)).setCell ⟨c0.heap.size, 7, none⟩ (.string ⟨#[]⟩)).setCell ⟨c0.heap.size, 8, none⟩ (.string ⟨#[]⟩)).setCell ⟨c0.heap.size, 9, none⟩ (.bool false)).setCell ⟨c0.heap.size, 10, none⟩ (.slice none 0 0) = d := ⟨_, rfl⟩
            rw [hd] at hHeld N3 N4 opn opt oqn oqt
            rw [hd]
            clear hd
            have X0 := N4.cell 0; have Y0 := N4.frozen 0
            have X1 := N4.cell 1; have Y1 := N4.frozen 1
            have X2 := N4.cell 2; have Y2 := N4.frozen 2
            have X3 := N4.cell 3; have Y3 := N4.frozen 3
            have X4 := N4.cell 4; have Y4 := N4.frozen 4
            have X5 := N4.cell 5; have Y5 := N4.frozen 5
            have X6 := N4.cell 6; have Y6 := N4.frozen 6
            have X7 := N4.cell 7; have Y7 := N4.frozen 7
            have X8 := N4.cell 8; have Y8 := N4.frozen 8
            have X9 := N4.cell 9; have Y9 := N4.frozen 9
            have X10 := N4.cell 10; have Y10 := N4.frozen 10
            refine wpAnyH_ready (rs := [7]) (by kernel_rfl) (by simp) ?_
            refine AllReadyH.cons (o := ⟨_, _, _, _, _, _⟩) rfl (fun K' hK => ?_) (AllReadyH.nil)
            go_simp
            refine hK.out _ _ (by have hz : Ext w1 _ := Ext.set11 hHeld.1 (B := c31.heap.size) hb4 (.int .u8 K) (.slice qn N.length qnc) (.int .i64 AT) (.slice qt T.length qtc) (.int .u64 0) (.bool false) (.string ⟨#[]⟩) (.string ⟨#[]⟩) (.string ⟨#[]⟩) (.bool false) (.slice none 0 0); exact ⟨hz, hz.cell B0, hz.cell B1, hz.cell B2, hz.cell B3, hz.cell B4, hz.cell B5, hz.cell B6, hz.cell B7, hz.cell B8, hz.cell B9, hz.cell B10⟩) (fun hHeld => ?_)
            clear hK K' X0 Y0 X1 Y1 X2 Y2 X3 Y3 X4 Y4 X5 Y5 X6 Y6 X7 Y7 X8 Y8 X9 Y9 X10 Y10
            try simp only [Act.put, List.setIfInBounds_toArray, List.set_cons_zero, List.set_cons_succ]
            replace opn := owns_set11T opn N4 (by decide) (.int .u8 K) (.slice qn N.length qnc) (.int .i64 AT) (.slice qt T.length qtc) (.int .u64 0) (.bool false) (.string ⟨#[]⟩) (.string ⟨#[]⟩) (.string ⟨#[]⟩) (.bool false) (.slice none 0 0)
            replace opt := owns_set11T opt N4 (by decide) (.int .u8 K) (.slice qn N.length qnc) (.int .i64 AT) (.slice qt T.length qtc) (.int .u64 0) (.bool false) (.string ⟨#[]⟩) (.string ⟨#[]⟩) (.string ⟨#[]⟩) (.bool false) (.slice none 0 0)
            replace oqn := owns_set11T oqn N4 (by decide) (.int .u8 K) (.slice qn N.length qnc) (.int .i64 AT) (.slice qt T.length qtc) (.int .u64 0) (.bool false) (.string ⟨#[]⟩) (.string ⟨#[]⟩) (.string ⟨#[]⟩) (.bool false) (.slice none 0 0)
            replace oqt := owns_set11T oqt N4 (by decide) (.int .u8 K) (.slice qn N.length qnc) (.int .i64 AT) (.slice qt T.length qtc) (.int .u64 0) (.bool false) (.string ⟨#[]⟩) (.string ⟨#[]⟩) (.string ⟨#[]⟩) (.bool false) (.slice none 0 0)
            replace N3 := NBox.far11 N3 hne (.int .u8 K) (.slice qn N.length qnc) (.int .i64 AT) (.slice qt T.length qtc) (.int .u64 0) (.bool false) (.string ⟨#[]⟩) (.string ⟨#[]⟩) (.string ⟨#[]⟩) (.bool false) (.slice none 0 0)
            replace N4 := NBox.set11 N4 (.int .u8 K) (.slice qn N.length qnc) (.int .i64 AT) (.slice qt T.length qtc) (.int .u64 0) (.bool false) (.string ⟨#[]⟩) (.string ⟨#[]⟩) (.string ⟨#[]⟩) (.bool false) (.slice none 0 0)
            obtain ⟨c34, hd⟩ : ∃ d, ((((((((((c33.setCell ⟨c31.heap.size, 0, none⟩ (.int .u8 K)).setCell ⟨c31.heap.size, 1, none⟩ (.slice qn N.length qnc)).setCell ⟨c31.heap.size, 2, none⟩ (.int .i64 AT)).setCell ⟨c31.heap.size, 3, none⟩ (.slice qt T.length qtc)).setCell ⟨c31.heap.size, 4, none⟩ (.int .u64 0)).setCell ⟨c31.heap.size, 5, none⟩ (.bool false)).setCell ⟨c31.heap.size, 6, none⟩ (.string ⟨#[]⟩)).setCell ⟨c31.heap.size, 7, none⟩ (.string ⟨#[]⟩)).setCell ⟨c31.heap.size, 8, none⟩ (.string ⟨#[]⟩)).setCell ⟨c31.heap.size, 9, none⟩ (.bool false)).setCell ⟨c31.heap.size, 10, none⟩ (.slice none 0 0) = d := ⟨_, rfl⟩
            rw [hd] at hHeld N3 N4 opn opt oqn oqt
            rw [hd]
            clear hd
            refine wpAnyH_done (by kernel_rfl) ?_ _
            go_wp2_with fail
            go_meet
            case rel => exact ⟨_, _, pn, pnc, pt, ptc, qn, qnc, qt, qtc, rfl, rfl, N3, N4, RdS.of_owns opn, RdS.of_owns opt, RdS.of_owns oqn, RdS.of_owns oqt, hHeld.1⟩
        · go_simp
          have N4 := NBox.new c30 26 #[.int .u8 0, .slice none 0 0, .int .i64 0, .slice none 0 0, .int .u64 0, .bool false, .string ⟨#[]⟩, .string ⟨#[]⟩, .string ⟨#[]⟩, .bool false, .slice none 0 0]
          have hb4 : w1.heap.size ≤ c30.heap.size := hHeld.1.size
          have hne := Nat.ne_of_lt (NBox.lt N3)
          replace N3 := NBox.ext ((Ext.refl c30).alloc (.cells #[.int .u8 0, .slice none 0 0, .int .i64 0, .slice none 0 0, .int .u64 0, .bool false, .string ⟨#[]⟩, .string ⟨#[]⟩, .string ⟨#[]⟩, .bool false, .slice none 0 0] 26)) N3
          replace opn := owns_ext ((Ext.refl c30).alloc (.cells #[.int .u8 0, .slice none 0 0, .int .i64 0, .slice none 0 0, .int .u64 0, .bool false, .string ⟨#[]⟩, .string ⟨#[]⟩, .string ⟨#[]⟩, .bool false, .slice none 0 0] 26)) opn
          replace opt := owns_ext ((Ext.refl c30).alloc (.cells #[.int .u8 0, .slice none 0 0, .int .i64 0, .slice none 0 0, .int .u64 0, .bool false, .string ⟨#[]⟩, .string ⟨#[]⟩, .string ⟨#[]⟩, .bool false, .slice none 0 0] 26)) opt
          refine hK.out _ _ (by have hz : Ext w1 (c30.alloc (.cells #[.int .u8 0, .slice none 0 0, .int .i64 0, .slice none 0 0, .int .u64 0, .bool false, .string ⟨#[]⟩, .string ⟨#[]⟩, .string ⟨#[]⟩, .bool false, .slice none 0 0] 26)) := hHeld.1.alloc _; exact ⟨hz, hz.cell B0, hz.cell B1, hz.cell B2, hz.cell B3, hz.cell B4, hz.cell B5, hz.cell B6, hz.cell B7, hz.cell B8, hz.cell B9, hz.cell B10⟩) (fun hHeld => ?_)
          clear hK K'
          try simp only [Act.put, List.setIfInBounds_toArray, List.set_cons_zero, List.set_cons_succ]
          obtain ⟨c35, hd⟩ : ∃ d, c30.alloc (.cells #[.int .u8 0, .slice none 0 0, .int .i64 0, .slice none 0 0, .int .u64 0, .bool false, .string ⟨#[]⟩, .string ⟨#[]⟩, .string ⟨#[]⟩, .bool false, .slice none 0 0] 26) = d := ⟨_, rfl⟩
          rw [hd] at hHeld N4 N3 opn opt
          rw [hd]
          clear hd
          refine wpAnyH_ready (rs := [3]) (by kernel_rfl) (by simp) ?_
          refine AllReadyH.cons (o := ⟨_, _, _, _, _, _⟩) rfl (fun K' hK => ?_) (AllReadyH.nil)
          · go_simp
            go_at_call 17
            refine (hc17 _ hHeld.1).mono ?_
            rintro e c36 ⟨r, rfl, ⟨qn, qnc, qt, qtc, rfl, oqn, oqt⟩, hE⟩
            replace N3 := NBox.ext hE N3
            replace opn := owns_ext hE opn
            replace opt := owns_ext hE opt
            replace N4 := NBox.ext hE N4
            refine hK.out _ _ (by have hz : Ext w1 _ := hHeld.1.trans hE; exact ⟨hz, hz.cell B0, hz.cell B1, hz.cell B2, hz.cell B3, hz.cell B4, hz.cell B5, hz.cell B6, hz.cell B7, hz.cell B8, hz.cell B9, hz.cell B10⟩) (fun hHeld => ?_)
            clear hK K' hE
            try simp only [Act.put, List.setIfInBounds_toArray, List.set_cons_zero, List.set_cons_succ]
            have X0 := N3.cell 0; have Y0 := N3.frozen 0
            have X1 := N3.cell 1; have Y1 := N3.frozen 1
            have X2 := N3.cell 2; have Y2 := N3.frozen 2
            have X3 := N3.cell 3; have Y3 := N3.frozen 3
            have X4 := N3.cell 4; have Y4 := N3.frozen 4
            have X5 := N3.cell 5; have Y5 := N3.frozen 5
            have X6 := N3.cell 6; have Y6 := N3.frozen 6
            have X7 := N3.cell 7; have Y7 := N3.frozen 7
            have X8 := N3.cell 8; have Y8 := N3.frozen 8
            have X9 := N3.cell 9; have Y9 := N3.frozen 9
            have X10 := N3.cell 10; have Y10 := N3.frozen 10
            refine wpAnyH_ready (rs := [6]) (by kernel_rfl) (by simp) ?_
            refine AllReadyH.cons (o := ⟨_, _, _, _, _, _⟩) rfl (fun K' hK => ?_) (AllReadyH.nil)
            go_simp
            refine hK.out _ _ (by have hz : Ext w1 _ := Ext.set11 hHeld.1 (B := c0.heap.size) hb3 (.int .u8 K) (.slice pn N.length pnc) (.int .i64 AT) (.slice pt T.length ptc) (.int .u64 0) (.bool false) (.string ⟨#[]⟩) (.string ⟨#[]⟩) (.string ⟨#[]⟩) (.bool false) (.slice none 0 0); exact ⟨hz, hz.cell B0, hz.cell B1, hz.cell B2, hz.cell B3, hz.cell B4, hz.cell B5, hz.cell B6, hz.cell B7, hz.cell B8, hz.cell B9, hz.cell B10⟩) (fun hHeld => ?_)
            clear hK K' X0 Y0 X1 Y1 X2 Y2 X3 Y3 X4 Y4 X5 Y5 X6 Y6 X7 Y7 X8 Y8 X9 Y9 X10 Y10
            try simp only [Act.put, List.setIfInBounds_toArray, List.set_cons_zero, List.set_cons_succ]
            replace opn := owns_set11T opn N3 (by decide) (.int .u8 K) (.slice pn N.length pnc) (.int .i64 AT) (.slice pt T.length ptc) (.int .u64 0) (.bool false) (.string ⟨#[]⟩) (.string ⟨#[]⟩) (.string ⟨#[]⟩) (.bool false) (.slice none 0 0)
            replace opt := owns_set11T opt N3 (by decide) (.int .u8 K) (.slice pn N.length pnc) (.int .i64 AT) (.slice pt T.length ptc) (.int .u64 0) (.bool false) (.string ⟨#[]⟩) (.string ⟨#[]⟩) (.string ⟨#[]⟩) (.bool false) (.slice none 0 0)
            replace oqn := owns_set11T oqn N3 (by decide) (.int .u8 K) (.slice pn N.length pnc) (.int .i64 AT) (.slice pt T.length ptc) (.int .u64 0) (.bool false) (.string ⟨#[]⟩) (.string ⟨#[]⟩) (.string ⟨#[]⟩) (.bool false) (.slice none 0 0)
            replace oqt := owns_set11T oqt N3 (by decide) (.int .u8 K) (.slice pn N.length pnc) (.int .i64 AT) (.slice pt T.length ptc) (.int .u64 0) (.bool false) (.string ⟨#[]⟩) (.string ⟨#[]⟩) (.string ⟨#[]⟩) (.bool false) (.slice none 0 0)
            replace N4 := NBox.far11 N4 hne.symm (.int .u8 K) (.slice pn N.length pnc) (.int .i64 AT) (.slice pt T.length ptc) (.int .u64 0) (.bool false) (.string ⟨#[]⟩) (.string ⟨#[]⟩) (.string ⟨#[]⟩) (.bool false) (.slice none 0 0)
            replace N3 := NBox.set11 N3 (.int .u8 K) (.slice pn N.length pnc) (.int .i64 AT) (.slice pt T.length ptc) (.int .u64 0) (.bool false) (.string ⟨#[]⟩) (.string ⟨#[]⟩) (.string ⟨#[]⟩) (.bool false) (.slice none 0 0)
            obtain ⟨c37, hd⟩ : ∃ d, ((((((((((c36.setCell ⟨c0.heap.size, 0, none⟩ (.int .u8 K)).setCell ⟨c0.heap.size, 1, none⟩ (.slice pn N.length pnc)).setCell ⟨c0.heap.size, 2, none⟩ (.int .i64 AT)).setCell ⟨c0.heap.size, 3, none⟩ (.slice pt T.length ptc)).setCell ⟨c0.heap.size, 4, none⟩ (.int .u64 0)).setCell ⟨c0.heap.size, 5, none⟩ (.bool false)).setCell ⟨c0.heap.size, 6, none⟩ (.string ⟨#[]⟩)).setCell ⟨c0.heap.size, 7, none⟩ (.string ⟨#[]⟩)).setCell ⟨c0.heap.size, 8, none⟩ (.string ⟨#[]⟩)).setCell ⟨c0.heap.size, 9, none⟩ (.bool false)).setCell ⟨c0.heap.size, 10, none⟩ (.slice none 0 0) = d := ⟨_, rfl⟩
            rw [hd] at hHeld N3 N4 opn opt oqn oqt
            rw [hd]
            clear hd
            have X0 := N4.cell 0; have Y0 := N4.frozen 0
            have X1 := N4.cell 1; have Y1 := N4.frozen 1
            have X2 := N4.cell 2; have Y2 := N4.frozen 2
            have X3 := N4.cell 3; have Y3 := N4.frozen 3
            have X4 := N4.cell 4; have Y4 := N4.frozen 4
            have X5 := N4.cell 5; have Y5 := N4.frozen 5
            have X6 := N4.cell 6; have Y6 := N4.frozen 6
            have X7 := N4.cell 7; have Y7 := N4.frozen 7
            have X8 := N4.cell 8; have Y8 := N4.frozen 8
            have X9 := N4.cell 9; have Y9 := N4.frozen 9
            have X10 := N4.cell 10; have Y10 := N4.frozen 10
            refine wpAnyH_ready (rs := [7]) (by kernel_rfl) (by simp) ?_
            refine AllReadyH.cons (o := ⟨_, _, _, _, _, _⟩) rfl (fun K' hK => ?_) (AllReadyH.nil)
            go_simp
            refine hK.out _ _ (by have hz : Ext w1 _ := Ext.set11 hHeld.1 (B := c30.heap.size) hb4 (.int .u8 K) (.slice qn N.length qnc) (.int .i64 AT) (.slice qt T.length qtc) (.int .u64 0) (.bool false) (.string ⟨#[]⟩) (.string ⟨#[]⟩) (.string ⟨#[]⟩) (.bool false) (.slice none 0 0); exact ⟨hz, hz.cell B0, hz.cell B1, hz.cell B2, hz.cell B3, hz.cell B4, hz.cell B5, hz.cell B6, hz.cell B7, hz.cell B8, hz.cell B9, hz.cell B10⟩) (fun hHeld => ?_)
            clear hK K' X0 Y0 X1 Y1 X2 Y2 X3 Y3 X4 Y4 X5 Y5 X6 Y6 X7 Y7 X8 Y8 X9 Y9 X10 Y10
            try simp only [Act.put, List.setIfInBounds_toArray, List.set_cons_zero, List.set_cons_succ]
            replace opn := owns_set11T opn N4 (by decide) (.int .u8 K) (.slice qn N.length qnc) (.int .i64 AT) (.slice qt T.length qtc) (.int .u64 0) (.bool false) (.string ⟨#[]⟩) (.string ⟨#[]⟩) (.string ⟨#[]⟩) (.bool false) (.slice none 0 0)
            replace opt := owns_set11T opt N4 (by decide) (.int .u8 K) (.slice qn N.length qnc) (.int .i64 AT) (.slice qt T.length qtc) (.int .u64 0) (.bool false) (.string ⟨#[]⟩) (.string ⟨#[]⟩) (.string ⟨#[]⟩) (.bool false) (.slice none 0 0)
            replace oqn := owns_set11T oqn N4 (by decide) (.int .u8 K) (.slice qn N.length qnc) (.int .i64 AT) (.slice qt T.length qtc) (.int .u64 0) (.bool false) (.string ⟨#[]⟩) (.string ⟨#[]⟩) (.string ⟨#[]⟩) (.bool false) (.slice none 0 0)
            replace oqt := owns_set11T oqt N4 (by decide) (.int .u8 K) (.slice qn N.length qnc) (.int .i64 AT) (.slice qt T.length qtc) (.int .u64 0) (.bool false) (.string ⟨#[]⟩) (.string ⟨#[]⟩) (.string ⟨#[]⟩) (.bool false) (.slice none 0 0)
            replace N3 := NBox.far11 N3 hne (.int .u8 K) (.slice qn N.length qnc) (.int .i64 AT) (.slice qt T.length qtc) (.int .u64 0) (.bool false) (.string ⟨#[]⟩) (.string ⟨#[]⟩) (.string ⟨#[]⟩) (.bool false) (.slice none 0 0)
            replace N4 := NBox.set11 N4 (.int .u8 K) (.slice qn N.length qnc) (.int .i64 AT) (.slice qt T.length qtc) (.int .u64 0) (.bool false) (.string ⟨#[]⟩) (.string ⟨#[]⟩) (.string ⟨#[]⟩) (.bool false) (.slice none 0 0)
            obtain ⟨c38, hd⟩ : ∃ d, ((((((((((c37.setCell ⟨c30.heap.size, 0, none⟩ (.int .u8 K)).setCell ⟨c30.heap.size, 1, none⟩ (.slice qn N.length qnc)).setCell ⟨c30.heap.size, 2, none⟩ (.int .i64 AT)).setCell ⟨c30.heap.size, 3, none⟩ (.slice qt T.length qtc)).setCell ⟨c30.heap.size, 4, none⟩ (.int .u64 0)).setCell ⟨c30.heap.size, 5, none⟩ (.bool false)).setCell ⟨c30.heap.size, 6, none⟩ (.string ⟨#[]⟩)).setCell ⟨c30.heap.size, 7, none⟩ (.string ⟨#[]⟩)).setCell ⟨c30.heap.size, 8, none⟩ (.string ⟨#[]⟩)).setCell ⟨c30.heap.size, 9, none⟩ (.bool false)).setCell ⟨c30.heap.size, 10, none⟩ (.slice none 0 0) = d := ⟨_, rfl⟩
            rw [hd] at hHeld N3 N4 opn opt oqn oqt
            rw [hd]
            clear hd
            refine wpAnyH_done (by kernel_rfl) ?_ _
            go_wp2_with fail
            go_meet
            case rel => exact ⟨_, _, pn, pnc, pt, ptc, qn, qnc, qt, qtc, rfl, rfl, N3, N4, RdS.of_owns opn, RdS.of_owns opt, RdS.of_owns oqn, RdS.of_owns oqt, hHeld.1⟩
      · go_simp
        have N4 := NBox.new c29 26 #[.int .u8 0, .slice none 0 0, .int .i64 0, .slice none 0 0, .int .u64 0, .bool false, .string ⟨#[]⟩, .string ⟨#[]⟩, .string ⟨#[]⟩, .bool false, .slice none 0 0]
        have hb4 : w1.heap.size ≤ c29.heap.size := hHeld.1.size
        have hne := Nat.ne_of_lt (NBox.lt N3)
        replace N3 := NBox.ext ((Ext.refl c29).alloc (.cells #[.int .u8 0, .slice none 0 0, .int .i64 0, .slice none 0 0, .int .u64 0, .bool false, .string ⟨#[]⟩, .string ⟨#[]⟩, .string ⟨#[]⟩, .bool false, .slice none 0 0] 26)) N3
        refine hK.out _ _ (by have hz : Ext w1 (c29.alloc (.cells #[.int .u8 0, .slice none 0 0, .int .i64 0, .slice none 0 0, .int .u64 0, .bool false, .string ⟨#[]⟩, .string ⟨#[]⟩, .string ⟨#[]⟩, .bool false, .slice none 0 0] 26)) := hHeld.1.alloc _; exact ⟨hz, hz.cell B0, hz.cell B1, hz.cell B2, hz.cell B3, hz.cell B4, hz.cell B5, hz.cell B6, hz.cell B7, hz.cell B8, hz.cell B9, hz.cell B10⟩) (fun hHeld => ?_)
        clear hK K'
        try simp only [Act.put, List.setIfInBounds_toArray, List.set_cons_zero, List.set_cons_succ]
        obtain ⟨c39, hd⟩ : ∃ d, c29.alloc (.cells #[.int .u8 0, .slice none 0 0, .int .i64 0, .slice none 0 0, .int .u64 0, .bool false, .string ⟨#[]⟩, .string ⟨#[]⟩, .string ⟨#[]⟩, .bool false, .slice none 0 0] 26) = d := ⟨_, rfl⟩
        rw [hd] at hHeld N4 N3
        rw [hd]
        clear hd
        refine wpAnyH_ready (rs := [1]) (by kernel_rfl) (by simp) ?_
        refine AllReadyH.cons (o := ⟨_, _, _, _, _, _⟩) rfl (fun K' hK => ?_) (AllReadyH.nil)
        · go_simp
          go_at_call 16
          refine (hc16 _ hHeld.1).mono ?_
          rintro e c40 ⟨r, rfl, ⟨pn, pnc, pt, ptc, rfl, opn, opt⟩, hE⟩
          replace N3 := NBox.ext hE N3
          replace N4 := NBox.ext hE N4
          refine hK.out _ _ (by have hz : Ext w1 _ := hHeld.1.trans hE; exact ⟨hz, hz.cell B0, hz.cell B1, hz.cell B2, hz.cell B3, hz.cell B4, hz.cell B5, hz.cell B6, hz.cell B7, hz.cell B8, hz.cell B9, hz.cell B10⟩) (fun hHeld => ?_)
          clear hK K' hE
          try simp only [Act.put, List.setIfInBounds_toArray, List.set_cons_zero, List.set_cons_succ]
          refine wpAnyH_ready (rs := [3]) (by kernel_rfl) (by simp) ?_
          refine AllReadyH.cons (o := ⟨_, _, _, _, _, _⟩) rfl (fun K' hK => ?_) (AllReadyH.nil)
          · go_simp
            go_at_call 17
            refine (hc17 _ hHeld.1).mono ?_
            rintro e c41 ⟨r, rfl, ⟨qn, qnc, qt, qtc, rfl, oqn, oqt⟩, hE⟩
            replace N3 := NBox.ext hE N3
            replace N4 := NBox.ext hE N4
            replace opn := owns_ext hE opn
            replace opt := owns_ext hE opt
            refine hK.out _ _ (by have hz : Ext w1 _ := hHeld.1.trans hE; exact ⟨hz, hz.cell B0, hz.cell B1, hz.cell B2, hz.cell B3, hz.cell B4, hz.cell B5, hz.cell B6, hz.cell B7, hz.cell B8, hz.cell B9, hz.cell B10⟩) (fun hHeld => ?_)
            clear hK K' hE
            try simp only [Act.put, List.setIfInBounds_toArray, List.set_cons_zero, List.set_cons_succ]
            have X0 := N3.cell 0; have Y0 := N3.frozen 0
            have X1 := N3.cell 1; have Y1 := N3.frozen 1
            have X2 := N3.cell 2; have Y2 := N3.frozen 2
            have X3 := N3.cell 3; have Y3 := N3.frozen 3
            have X4 := N3.cell 4; have Y4 := N3.frozen 4
            have X5 := N3.cell 5; have Y5 := N3.frozen 5
            have X6 := N3.cell 6; have Y6 := N3.frozen 6
            have X7 := N3.cell 7; have Y7 := N3.frozen 7
            have X8 := N3.cell 8; have Y8 := N3.frozen 8
            have X9 := N3.cell 9; have Y9 := N3.frozen 9
            have X10 := N3.cell 10; have Y10 := N3.frozen 10
            refine wpAnyH_ready (rs := [6]) (by kernel_rfl) (by simp) ?_
            refine AllReadyH.cons (o := ⟨_, _, _, _, _, _⟩) rfl (fun K' hK => ?_) (AllReadyH.nil)
            go_simp
            refine hK.out _ _ (by have hz : Ext w1 _ := Ext.set11 hHeld.1 (B := c0.heap.size) hb3 (.int .u8 K) (.slice pn N.length pnc) (.int .i64 AT) (.slice pt T.length ptc) (.int .u64 0) (.bool false) (.string ⟨#[]⟩) (.string ⟨#[]⟩) (.string ⟨#[]⟩) (.bool false) (.slice none 0 0); exact ⟨hz, hz.cell B0, hz.cell B1, hz.cell B2, hz.cell B3, hz.cell B4, hz.cell B5, hz.cell B6, hz.cell B7, hz.cell B8, hz.cell B9, hz.cell B10⟩) (fun hHeld => ?_)
            clear hK K' X0 Y0 X1 Y1 X2 Y2 X3 Y3 X4 Y4 X5 Y5 X6 Y6 X7 Y7 X8 Y8 X9 Y9 X10 Y10
            try simp only [Act.put, List.setIfInBounds_toArray, List.set_cons_zero, List.set_cons_succ]
            replace opn := owns_set11T opn N3 (by decide) (.int .u8 K) (.slice pn N.length pnc) (.int .i64 AT) (.slice pt T.length ptc) (.int .u64 0) (.bool false) (.string ⟨#[]⟩) (.string ⟨#[]⟩) (.string ⟨#[]⟩) (.bool false) (.slice none 0 0)
            replace opt := owns_set11T opt N3 (by decide) (.int .u8 K) (.slice pn N.length pnc) (.int .i64 AT) (.slice pt T.length ptc) (.int .u64 0) (.bool false) (.string ⟨#[]⟩) (.string ⟨#[]⟩) (.string ⟨#[]⟩) (.bool false) (.slice none 0 0)
            replace oqn := owns_set11T oqn N3 (by decide) (.int .u8 K) (.slice pn N.length pnc) (.int .i64 AT) (.slice pt T.length ptc) (.int .u64 0) (.bool false) (.string ⟨#[]⟩) (.string ⟨#[]⟩) (.string ⟨#[]⟩) (.bool false) (.slice none 0 0)
            replace oqt := owns_set11T oqt N3 (by decide) (.int .u8 K) (.slice pn N.length pnc) (.int .i64 AT) (.slice pt T.length ptc) (.int .u64 0) (.bool false) (.string ⟨#[]⟩) (.string ⟨#[]⟩) (.string ⟨#[]⟩) (.bool false) (.slice none 0 0)
            replace N4 := NBox.far11 N4 hne.symm (.int .u8 K) (.slice pn N.length pnc) (.int .i64 AT) (.slice pt T.length ptc) (.int .u64 0) (.bool false) (.string ⟨#[]⟩) (.string ⟨#[]⟩) (.string ⟨#[]⟩) (.bool false) (.slice none 0 0)
            replace N3 := NBox.set11 N3 (.int .u8 K) (.slice pn N.length pnc) (.int .i64 AT) (.slice pt T.length ptc) (.int .u64 0) (.bool false) (.string ⟨#[]⟩) (.string ⟨#[]⟩) (.string ⟨#[]⟩) (.bool false) (.slice none 0 0)
            obtain ⟨c42, hd⟩ : ∃ d, ((((((((((c41.setCell ⟨c0.heap.size, 0, none⟩ (.int .u8 K)).setCell ⟨c0.heap.size, 1, none⟩ (.slice pn N.length pnc)).setCell ⟨c0.heap.size, 2, none⟩ (.int .i64 AT)).setCell ⟨c0.heap.size, 3, none⟩ (.slice pt T.length ptc)).setCell ⟨c0.heap.size, 4, none⟩ (.int .u64 0)).setCell ⟨c0.heap.size, 5, none⟩ (.bool false)).setCell ⟨c0.heap.size, 6, none⟩ (.string ⟨#[]⟩)).setCell ⟨c0.heap.size, 7, none⟩ (.string ⟨#[]⟩)).setCell ⟨c0.heap.size, 8, none⟩ (.string ⟨#[]⟩)).setCell ⟨c0.heap.size, 9, none⟩ (.bool false)).setCell ⟨c0.heap.size, 10, none⟩ (.slice none 0 0) = d := ⟨_, rfl⟩
            rw [hd] at hHeld N3 N4 opn opt oqn oqt
            rw [hd]
            clear hd
            have X0 := N4.cell 0; have Y0 := N4.frozen 0
            have X1 := N4.cell 1; have Y1 := N4.frozen 1
            have X2 := N4.cell 2; have Y2 := N4.frozen 2
            have X3 := N4.cell 3; have Y3 := N4.frozen 3
            have X4 := N4.cell 4; have Y4 := N4.frozen 4
            have X5 := N4.cell 5; have Y5 := N4.frozen 5
            have X6 := N4.cell 6; have Y6 := N4.frozen 6
            have X7 := N4.cell 7; have Y7 := N4.frozen 7
            have X8 := N4.cell 8; have Y8 := N4.frozen 8
            have X9 := N4.cell 9; have Y9 := N4.frozen 9
            have X10 := N4.cell 10; have Y10 := N4.frozen 10
            refine wpAnyH_ready (rs := [7]) (by kernel_rfl) (by simp) ?_
            refine AllReadyH.cons (o := ⟨_, _, _, _, _, _⟩) rfl (fun K' hK => ?_) (AllReadyH.nil)
            go_simp
            refine hK.out _ _ (by have hz : Ext w1 _ := Ext.set11 hHeld.1 (B := c29.heap.size) hb4 (.int .u8 K) (.slice qn N.length qnc) (.int .i64 AT) (.slice qt T.length qtc) (.int .u64 0) (.bool false) (.string ⟨#[]⟩) (.string ⟨#[]⟩) (.string ⟨#[]⟩) (.bool false) (.slice none 0 0); exact ⟨hz, hz.cell B0, hz.cell B1, hz.cell B2, hz.cell B3, hz.cell B4, hz.cell B5, hz.cell B6, hz.cell B7, hz.cell B8, hz.cell B9, hz.cell B10⟩) (fun hHeld => ?_)
            clear hK K' X0 Y0 X1 Y1 X2 Y2 X3 Y3 X4 Y4 X5 Y5 X6 Y6 X7 Y7 X8 Y8 X9 Y9 X10 Y10
            try simp only [Act.put, List.setIfInBounds_toArray, List.set_cons_zero, List.set_cons_succ]
            replace opn := owns_set11T opn N4 (by decide) (.int .u8 K) (.slice qn N.length qnc) (.int .i64 AT) (.slice qt T.length qtc) (.int .u64 0) (.bool false) (.string ⟨#[]⟩) (.string ⟨#[]⟩) (.string ⟨#[]⟩) (.bool false) (.slice none 0 0)
            replace opt := owns_set11T opt N4 (by decide) (.int .u8 K) (.slice qn N.length qnc) (.int .i64 AT) (.slice qt T.length qtc) (.int .u64 0) (.bool false) (.string ⟨#[]⟩) (.string ⟨#[]⟩) (.string ⟨#[]⟩) (.bool false) (.slice none 0 0)
            replace oqn := owns_set11T oqn N4 (by decide) (.int .u8 K) (.slice qn N.length qnc) (.int .i64 AT) (.slice qt T.length qtc) (.int .u64 0) (.bool false) (.string ⟨#[]⟩) (.string ⟨#[]⟩) (.string ⟨#[]⟩) (.bool false) (.slice none 0 0)
            replace oqt := owns_set11T oqt N4 (by decide) (.int .u8 K) (.slice qn N.length qnc) (.int .i64 AT) (.slice qt T.length qtc) (.int .u64 0) (.bool false) (.string ⟨#[]⟩) (.string ⟨#[]⟩) (.string ⟨#[]⟩) (.bool false) (.slice none 0 0)
            replace N3 := NBox.far11 N3 hne (.int .u8 K) (.slice qn N.length qnc) (.int .i64 AT) (.slice qt T.length qtc) (.int .u64 0) (.bool false) (.string ⟨#[]⟩) (.string ⟨#[]⟩) (.string ⟨#[]⟩) (.bool false) (.slice none 0 0)
            replace N4 := NBox.set11 N4 (.int .u8 K) (.slice qn N.length qnc) (.int .i64 AT) (.slice qt T.length qtc) (.int .u64 0) (.bool false) (.string ⟨#[]⟩) (.string ⟨#[]⟩) (.string ⟨#[]⟩) (.bool false) (.slice none 0 0)
            obtain ⟨c43, hd⟩ : ∃ d, ((((((((((c42.setCell ⟨c29.heap.size, 0, none⟩ (.int .u8 K)).setCell ⟨c29.heap.size, 1, none⟩ (.slice qn N.length qnc)).setCell ⟨c29.heap.size, 2, none⟩ (.int .i64 AT)).setCell ⟨c29.heap.size, 3, none⟩ (.slice qt T.length qtc)).setCell ⟨c29.heap.size, 4, none⟩ (.int .u64 0)).setCell ⟨c29.heap.size, 5, none⟩ (.bool false)).setCell ⟨c29.heap.size, 6, none⟩ (.string ⟨#[]⟩)).setCell ⟨c29.heap.size, 7, none⟩ (.string ⟨#[]⟩)).setCell ⟨c29.heap.size, 8, none⟩ (.string ⟨#[]⟩)).setCell ⟨c29.heap.size, 9, none⟩ (.bool false)).setCell ⟨c29.heap.size, 10, none⟩ (.slice none 0 0) = d := ⟨_, rfl⟩
            rw [hd] at hHeld N3 N4 opn opt oqn oqt
            rw [hd]
            clear hd
            refine wpAnyH_done (by kernel_rfl) ?_ _
            go_wp2_with fail
            go_meet
            case rel => exact ⟨_, _, pn, pnc, pt, ptc, qn, qnc, qt, qtc, rfl, rfl, N3, N4, RdS.of_owns opn, RdS.of_owns opt, RdS.of_owns oqn, RdS.of_owns oqt, hHeld.1⟩
    · go_simp
      have N4 := NBox.new c0 26 #[.int .u8 0, .slice none 0 0, .int .i64 0, .slice none 0 0, .int .u64 0, .bool false, .string ⟨#[]⟩, .string ⟨#[]⟩, .string ⟨#[]⟩, .bool false, .slice none 0 0]
      have hb4 : w1.heap.size ≤ c0.heap.size := hHeld.1.size
      refine hK.out _ _ (by have hz : Ext w1 (c0.alloc (.cells #[.int .u8 0, .slice none 0 0, .int .i64 0, .slice none 0 0, .int .u64 0, .bool false, .string ⟨#[]⟩, .string ⟨#[]⟩, .string ⟨#[]⟩, .bool false, .slice none 0 0] 26)) := hHeld.1.alloc _; exact ⟨hz, hz.cell B0, hz.cell B1, hz.cell B2, hz.cell B3, hz.cell B4, hz.cell B5, hz.cell B6, hz.cell B7, hz.cell B8, hz.cell B9, hz.cell B10⟩) (fun hHeld => ?_)
      clear hK K'
      try simp only [Act.put, List.setIfInBounds_toArray, List.set_cons_zero, List.set_cons_succ]
      obtain ⟨c44, hd⟩ : ∃ d, c0.alloc (.cells #[.int .u8 0, .slice none 0 0, .int .i64 0, .slice none 0 0, .int .u64 0, .bool false, .string ⟨#[]⟩, .string ⟨#[]⟩, .string ⟨#[]⟩, .bool false, .slice none 0 0] 26) = d := ⟨_, rfl⟩
      rw [hd] at hHeld N4
      rw [hd]
      clear hd
      refine wpAnyH_ready (rs := [1, 4]) (by kernel_rfl) (by simp) ?_
      refine AllReadyH.cons (o := ⟨_, _, _, _, _, _⟩) rfl (fun K' hK => ?_) (AllReadyH.cons (o := ⟨_, _, _, _, _, _⟩) rfl (fun K' hK => ?_) (AllReadyH.nil))
      · go_simp
        go_at_call 16
        refine (hc16 _ hHeld.1).mono ?_
        rintro e c45 ⟨r, rfl, ⟨pn, pnc, pt, ptc, rfl, opn, opt⟩, hE⟩
        replace N4 := NBox.ext hE N4
        refine hK.out _ _ (by have hz : Ext w1 _ := hHeld.1.trans hE; exact ⟨hz, hz.cell B0, hz.cell B1, hz.cell B2, hz.cell B3, hz.cell B4, hz.cell B5, hz.cell B6, hz.cell B7, hz.cell B8, hz.cell B9, hz.cell B10⟩) (fun hHeld => ?_)
        clear hK K' hE
        try simp only [Act.put, List.setIfInBounds_toArray, List.set_cons_zero, List.set_cons_succ]
        refine wpAnyH_ready (rs := [3, 4]) (by kernel_rfl) (by simp) ?_
        refine AllReadyH.cons (o := ⟨_, _, _, _, _, _⟩) rfl (fun K' hK => ?_) (AllReadyH.cons (o := ⟨_, _, _, _, _, _⟩) rfl (fun K' hK => ?_) (AllReadyH.nil))
        · go_simp
          go_at_call 17
          refine (hc17 _ hHeld.1).mono ?_
          rintro e c46 ⟨r, rfl, ⟨qn, qnc, qt, qtc, rfl, oqn, oqt⟩, hE⟩
          replace N4 := NBox.ext hE N4
          replace opn := owns_ext hE opn
          replace opt := owns_ext hE opt
          refine hK.out _ _ (by have hz : Ext w1 _ := hHeld.1.trans hE; exact ⟨hz, hz.cell B0, hz.cell B1, hz.cell B2, hz.cell B3, hz.cell B4, hz.cell B5, hz.cell B6, hz.cell B7, hz.cell B8, hz.cell B9, hz.cell B10⟩) (fun hHeld => ?_)
          clear hK K' hE
          try simp only [Act.put, List.setIfInBounds_toArray, List.set_cons_zero, List.set_cons_succ]
          refine wpAnyH_ready (rs := [4]) (by kernel_rfl) (by simp) ?_
          refine AllReadyH.cons (o := ⟨_, _, _, _, _, _⟩) rfl (fun K' hK => ?_) (AllReadyH.nil)
          · go_simp
            have N3 := NBox.new c46 26 #[.int .u8 0, .slice none 0 0, .int .i64 0, .slice none 0 0, .int .u64 0, .bool false, .string ⟨#[]⟩, .string ⟨#[]⟩, .string ⟨#[]⟩, .bool false, .slice none 0 0]
            have hb3 : w1.heap.size ≤ c46.heap.size := hHeld.1.size
            have hne := Nat.ne_of_lt (NBox.lt N4)
            replace N4 := NBox.ext ((Ext.refl c46).alloc (.cells #[.int .u8 0, .slice none 0 0, .int .i64 0, .slice none 0 0, .int .u64 0, .bool false, .string ⟨#[]⟩, .string ⟨#[]⟩, .string ⟨#[]⟩, .bool false, .slice none 0 0] 26)) N4
            replace opn := owns_ext ((Ext.refl c46).alloc (.cells #[.int .u8 0, .slice none 0 0, .int .i64 0, .slice none 0 0, .int .u64 0, .bool false, .string ⟨#[]⟩, .string ⟨#[]⟩, .string ⟨#[]⟩, .bool false, .slice none 0 0] 26)) opn
            replace opt := owns_ext ((Ext.refl c46).alloc (.cells #[.int .u8 0, .slice none 0 0, .int .i64 0, .slice none 0 0, .int .u64 0, .bool false, .string ⟨#[]⟩, .string ⟨#[]⟩, .string ⟨#[]⟩, .bool false, .slice none 0 0] 26)) opt
            replace oqn := owns_ext ((Ext.refl c46).alloc (.cells #[.int .u8 0, .slice none 0 0, .int .i64 0, .slice none 0 0, .int .u64 0, .bool false, .string ⟨#[]⟩, .string ⟨#[]⟩, .string ⟨#[]⟩, .bool false, .slice none 0 0] 26)) oqn
            replace oqt := owns_ext ((Ext.refl c46).alloc (.cells #[.int .u8 0, .slice none 0 0, .int .i64 0, .slice none 0 0, .int .u64 0, .bool false, .string ⟨#[]⟩, .string ⟨#[]⟩, .string ⟨#[]⟩, .bool false, .slice none 0 0] 26)) oqt
            refine hK.out _ _ (by have hz : Ext w1 (c46.alloc (.cells #[.int .u8 0, .slice none 0 0, .int .i64 0, .slice none 0 0, .int .u64 0, .bool false, .string ⟨#[]⟩, .string ⟨#[]⟩, .string ⟨#[]⟩, .bool false, .slice none 0 0] 26)) := hHeld.1.alloc _; exact ⟨hz, hz.cell B0, hz.cell B1, hz.cell B2, hz.cell B3, hz.cell B4, hz.cell B5, hz.cell B6, hz.cell B7, hz.cell B8, hz.cell B9, hz.cell B10⟩) (fun hHeld => ?_)
            clear hK K'
            try simp only [Act.put, List.setIfInBounds_toArray, List.set_cons_zero, List.set_cons_succ]
            obtain ⟨c47, hd⟩ : ∃ d, c46.alloc (.cells #[.int .u8 0, .slice none 0 0, .int .i64 0, .slice none 0 0, .int .u64 0, .bool false, .string ⟨#[]⟩, .string ⟨#[]⟩, .string ⟨#[]⟩, .bool false, .slice none 0 0] 26) = d := ⟨_, rfl⟩
            rw [hd] at hHeld N3 N4 opn opt oqn oqt
            rw [hd]
            clear hd
            have X0 := N3.cell 0; have Y0 := N3.frozen 0
            have X1 := N3.cell 1; have Y1 := N3.frozen 1
            have X2 := N3.cell 2; have Y2 := N3.frozen 2
            have X3 := N3.cell 3; have Y3 := N3.frozen 3
            have X4 := N3.cell 4; have Y4 := N3.frozen 4
            have X5 := N3.cell 5; have Y5 := N3.frozen 5
            have X6 := N3.cell 6; have Y6 := N3.frozen 6
            have X7 := N3.cell 7; have Y7 := N3.frozen 7
            have X8 := N3.cell 8; have Y8 := N3.frozen 8
            have X9 := N3.cell 9; have Y9 := N3.frozen 9
            have X10 := N3.cell 10; have Y10 := N3.frozen 10
            refine wpAnyH_ready (rs := [6]) (by kernel_rfl) (by simp) ?_
            refine AllReadyH.cons (o := ⟨_, _, _, _, _, _⟩) rfl (fun K' hK => ?_) (AllReadyH.nil)
            go_simp
            refine hK.out _ _ (by have hz : Ext w1 _ := Ext.set11 hHeld.1 (B := c46.heap.size) hb3 (.int .u8 K) (.slice pn N.length pnc) (.int .i64 AT) (.slice pt T.length ptc) (.int .u64 0) (.bool false) (.string ⟨#[]⟩) (.string ⟨#[]⟩) (.string ⟨#[]⟩) (.bool false) (.slice none 0 0); exact ⟨hz, hz.cell B0, hz.cell B1, hz.cell B2, hz.cell B3, hz.cell B4, hz.cell B5, hz.cell B6, hz.cell B7, hz.cell B8, hz.cell B9, hz.cell B10⟩) (fun hHeld => ?_)
            clear hK K' X0 Y0 X1 Y1 X2 Y2 X3 Y3 X4 Y4 X5 Y5 X6 Y6 X7 Y7 X8 Y8 X9 Y9 X10 Y10
            try simp only [Act.put, List.setIfInBounds_toArray, List.set_cons_zero, List.set_cons_succ]
            replace opn := owns_set11T opn N3 (by decide) (.int .u8 K) (.slice pn N.length pnc) (.int .i64 AT) (.slice pt T.length ptc) (.int .u64 0) (.bool false) (.string ⟨#[]⟩) (.string ⟨#[]⟩) (.string ⟨#[]⟩) (.bool false) (.slice none 0 0)
            replace opt := owns_set11T opt N3 (by decide) (.int .u8 K) (.slice pn N.length pnc) (.int .i64 AT) (.slice pt T.length ptc) (.int .u64 0) (.bool false) (.string ⟨#[]⟩) (.string ⟨#[]⟩) (.string ⟨#[]⟩) (.bool false) (.slice none 0 0)
            replace oqn := owns_set11T oqn N3 (by decide) (.int .u8 K) (.slice pn N.length pnc) (.int .i64 AT) (.slice pt T.length ptc) (.int .u64 0) (.bool false) (.string ⟨#[]⟩) (.string ⟨#[]⟩) (.string ⟨#[]⟩) (.bool false) (.slice none 0 0)
            replace oqt := owns_set11T oqt N3 (by decide) (.int .u8 K) (.slice pn N.length pnc) (.int .i64 AT) (.slice pt T.length ptc) (.int .u64 0) (.bool false) (.string ⟨#[]⟩) (.string ⟨#[]⟩) (.string ⟨#[]⟩) (.bool false) (.slice none 0 0)
            replace N4 := NBox.far11 N4 hne (.int .u8 K) (.slice pn N.length pnc) (.int .i64 AT) (.slice pt T.length ptc) (.int .u64 0) (.bool false) (.string ⟨#[]⟩) (.string ⟨#[]⟩) (.string ⟨#[]⟩) (.bool false) (.slice none 0 0)
            replace N3 := NBox.set11 N3 (.int .u8 K) (.slice pn N.length pnc) (.int .i64 AT) (.slice pt T.length ptc) (.int .u64 0) (.bool false) (.string ⟨#[]⟩) (.string ⟨#[]⟩) (.string ⟨#[]⟩) (.bool false) (.slice none 0 0)
            obtain ⟨c48, hd⟩ : ∃ d, ((((((((((c47.setCell ⟨c46.heap.size, 0, none⟩ (.int .u8 K)).setCell ⟨c46.heap.size, 1, none⟩ (.slice pn N.length pnc)).setCell ⟨c46.heap.size, 2, none⟩ (.int .i64 AT)).setCell ⟨c46.heap.size, 3, none⟩ (.slice pt T.length ptc)).setCell ⟨c46.heap.size, 4, none⟩ (.int .u64 0)).setCell ⟨c46.heap.size, 5, none⟩ (.bool false)).setCell ⟨c46.heap.size, 6, none⟩ (.string ⟨#[]⟩)).setCell ⟨c46.heap.size, 7, none⟩ (.string ⟨#[]⟩)).setCell ⟨c46.heap.size, 8, none⟩ (.string ⟨#[]⟩)).setCell ⟨c46.heap.size, 9, none⟩ (.bool false)).setCell ⟨c46.heap.size, 10, none⟩ (.slice none 0 0) = d := ⟨_, rfl⟩
            rw [hd] at hHeld N3 N4 opn opt oqn oqt
            rw [hd]
            clear hd
            have X0 := N4.cell 0; have Y0 := N4.frozen 0
            have X1 := N4.cell 1; have Y1 := N4.frozen 1
            have X2 := N4.cell 2; have Y2 := N4.frozen 2
            have X3 := N4.cell 3; have Y3 := N4.frozen 3
            have X4 := N4.cell 4; have Y4 := N4.frozen 4
            have X5 := N4.cell 5; have Y5 := N4.frozen 5
            have X6 := N4.cell 6; have Y6 := N4.frozen 6
            have X7 := N4.cell 7; have Y7 := N4.frozen 7
            have X8 := N4.cell 8; have Y8 := N4.frozen 8
            have X9 := N4.cell 9; have Y9 := N4.frozen 9
            have X10 := N4.cell 10; have Y10 := N4.frozen 10
            refine wpAnyH_ready (rs := [7]) (by kernel_rfl) (by simp) ?_
            refine AllReadyH.cons (o := ⟨_, _, _, _, _, _⟩) rfl (fun K' hK => ?_) (AllReadyH.nil)
            go_simp
            refine hK.out _ _ (by have hz : Ext w1 _ := Ext.set11 hHeld.1 (B := c0.heap.size) hb4 (.int .u8 K) (.slice qn N.length qnc) (.int .i64 AT) (.slice qt T.length qtc) (.int .u64 0) (.bool false) (.string ⟨#[]⟩) (.string ⟨#[]⟩) (.string ⟨#[]⟩) (.bool false) (.slice none 0 0); exact ⟨hz, hz.cell B0, hz.cell B1, hz.cell B2, hz.cell B3, hz.cell B4, hz.cell B5, hz.cell B6, hz.cell B7, hz.cell B8, hz.cell B9, hz.cell B10⟩) (fun hHeld => ?_)
            clear hK K' X0 Y0 X1 Y1 X2 Y2 X3 Y3 X4 Y4 X5 Y5 X6 Y6 X7 Y7 X8 Y8 X9 Y9 X10 Y10
            try simp only [Act.put, List.setIfInBounds_toArray, List.set_cons_zero, List.set_cons_succ]
            replace opn := owns_set11T opn N4 (by decide) (.int .u8 K) (.slice qn N.length qnc) (.int .i64 AT) (.slice qt T.length qtc) (.int .u64 0) (.bool false) (.string ⟨#[]⟩) (.string ⟨#[]⟩) (.string ⟨#[]⟩) (.bool false) (.slice none 0 0)
            replace opt := owns_set11T opt N4 (by decide) (.int .u8 K) (.slice qn N.length qnc) (.int .i64 AT) (.slice qt T.length qtc) (.int .u64 0) (.bool false) (.string ⟨#[]⟩) (.string ⟨#[]⟩) (.string ⟨#[]⟩) (.bool false) (.slice none 0 0)
            replace oqn := owns_set11T oqn N4 (by decide) (.int .u8 K) (.slice qn N.length qnc) (.int .i64 AT) (.slice qt T.length qtc) (.int .u64 0) (.bool false) (.string ⟨#[]⟩) (.string ⟨#[]⟩) (.string ⟨#[]⟩) (.bool false) (.slice none 0 0)
            replace oqt := owns_set11T oqt N4 (by decide) (.int .u8 K) (.slice qn N.length qnc) (.int .i64 AT) (.slice qt T.length qtc) (.int .u64 0) (.bool false) (.string ⟨#[]⟩) (.string ⟨#[]⟩) (.string ⟨#[]⟩) (.bool false) (.slice none 0 0)
            replace N3 := NBox.far11 N3 hne.symm (.int .u8 K) (.slice qn N.length qnc) (.int .i64 AT) (.slice qt T.length qtc) (.int .u64 0) (.bool false) (.string ⟨#[]⟩) (.string ⟨#[]⟩) (.string ⟨#[]⟩) (.bool false) (.slice none 0 0)
            replace N4 := NBox.set11 N4 (.int .u8 K) (.slice qn N.length qnc) (.int .i64 AT) (.slice qt T.length qtc) (.int .u64 0) (.bool false) (.string ⟨#[]⟩) (.string ⟨#[]⟩) (.string ⟨#[]⟩) (.bool false) (.slice none 0 0)
            obtain ⟨c49, hd⟩ : ∃ d, ((((((((((c48.setCell ⟨c0.heap.size, 0, none⟩ (.int .u8 K)).setCell ⟨c0.heap.size, 1, none⟩ (.slice qn N.length qnc)).setCell ⟨c0.heap.size, 2, none⟩ (.int .i64 AT)).setCell ⟨c0.heap.size, 3, none⟩ (.slice qt T.length qtc)).setCell ⟨c0.heap.size, 4, none⟩ (.int .u64 0)).setCell ⟨c0.heap.size, 5, none⟩ (.bool false)).setCell ⟨c0.heap.size, 6, none⟩ (.string ⟨#[]⟩)).setCell ⟨c0.heap.size, 7, none⟩ (.string ⟨#[]⟩)).setCell ⟨c0.heap.size, 8, none⟩ (.string ⟨#[]⟩)).setCell ⟨c0.heap.size, 9, none⟩ (.bool false)).setCell ⟨c0.heap.size, 10, none⟩ (.slice none 0 0) = d := ⟨_, rfl⟩
            rw [hd] at hHeld N3 N4 opn opt oqn oqt
            rw [hd]
            clear hd
            refine wpAnyH_done (by kernel_rfl) ?_ _
            go_wp2_with fail
            go_meet
            case rel => exact ⟨_, _, pn, pnc, pt, ptc, qn, qnc, qt, qtc, rfl, rfl, N3, N4, RdS.of_owns opn, RdS.of_owns opt, RdS.of_owns oqn, RdS.of_owns oqt, hHeld.1⟩
        · go_simp
          have N3 := NBox.new c45 26 #[.int .u8 0, .slice none 0 0, .int .i64 0, .slice none 0 0, .int .u64 0, .bool false, .string ⟨#[]⟩, .string ⟨#[]⟩, .string ⟨#[]⟩, .bool false, .slice none 0 0]
          have hb3 : w1.heap.size ≤ c45.heap.size := hHeld.1.size
          have hne := Nat.ne_of_lt (NBox.lt N4)
          replace N4 := NBox.ext ((Ext.refl c45).alloc (.cells #[.int .u8 0, .slice none 0 0, .int .i64 0, .slice none 0 0, .int .u64 0, .bool false, .string ⟨#[]⟩, .string ⟨#[]⟩, .string ⟨#[]⟩, .bool false, .slice none 0 0] 26)) N4
          replace opn := owns_ext ((Ext.refl c45).alloc (.cells #[.int .u8 0, .slice none 0 0, .int .i64 0, .slice none 0 0, .int .u64 0, .bool false, .string ⟨#[]⟩, .string ⟨#[]⟩, .string ⟨#[]⟩, .bool false, .slice none 0 0] 26)) opn
          replace opt := owns_ext ((Ext.refl c45).alloc (.cells #[.int .u8 0, .slice none 0 0, .int .i64 0, .slice none 0 0, .int .u64 0, .bool false, .string ⟨#[]⟩, .string ⟨#[]⟩, .string ⟨#[]⟩, .bool false, .slice none 0 0] 26)) opt
          refine hK.out _ _ (by have hz : Ext w1 (c45.alloc (.cells #[.int .u8 0, .slice none 0 0, .int .i64 0, .slice none 0 0, .int .u64 0, .bool false, .string ⟨#[]⟩, .string ⟨#[]⟩, .string ⟨#[]⟩, .bool false, .slice none 0 0] 26)) := hHeld.1.alloc _; exact ⟨hz, hz.cell B0, hz.cell B1, hz.cell B2, hz.cell B3, hz.cell B4, hz.cell B5, hz.cell B6, hz.cell B7, hz.cell B8, hz.cell B9, hz.cell B10⟩) (fun hHeld => ?_)
          clear hK K'
          try simp only [Act.put, List.setIfInBounds_toArray, List.set_cons_zero, List.set_cons_succ]
          obtain ⟨c50, hd⟩ : ∃ d, c45.alloc (.cells #[.int .u8 0, .slice none 0 0, .int .i64 0, .slice none 0 0, .int .u64 0, .bool false, .string ⟨#[]⟩, .string ⟨#[]⟩, .string ⟨#[]⟩, .bool false, .slice none 0 0] 26) = d := ⟨_, rfl⟩
          rw [hd] at hHeld N3 N4 opn opt
          rw [hd]
          clear hd
          refine wpAnyH_ready (rs := [3]) (by kernel_rfl) (by simp) ?_
          refine AllReadyH.cons (o := ⟨_, _, _, _, _, _⟩) rfl (fun K' hK => ?_) (AllReadyH.nil)
          · go_simp
            go_at_call 17
            refine (hc17 _ hHeld.1).mono ?_
            rintro e c51 ⟨r, rfl, ⟨qn, qnc, qt, qtc, rfl, oqn, oqt⟩, hE⟩
            replace N4 := NBox.ext hE N4
            replace opn := owns_ext hE opn
            replace opt := owns_ext hE opt
            replace N3 := NBox.ext hE N3
            refine hK.out _ _ (by have hz : Ext w1 _ := hHeld.1.trans hE; exact ⟨hz, hz.cell B0, hz.cell B1, hz.cell B2, hz.cell B3, hz.cell B4, hz.cell B5, hz.cell B6, hz.cell B7, hz.cell B8, hz.cell B9, hz.cell B10⟩) (fun hHeld => ?_)
            clear hK K' hE
            try simp only [Act.put, List.setIfInBounds_toArray, List.set_cons_zero, List.set_cons_succ]
            have X0 := N3.cell 0; have Y0 := N3.frozen 0
            have X1 := N3.cell 1; have Y1 := N3.frozen 1
            have X2 := N3.cell 2; have Y2 := N3.frozen 2
            have X3 := N3.cell 3; have Y3 := N3.frozen 3
            have X4 := N3.cell 4; have Y4 := N3.frozen 4
            have X5 := N3.cell 5; have Y5 := N3.frozen 5
            have X6 := N3.cell 6; have Y6 := N3.frozen 6
            have X7 := N3.cell 7; have Y7 := N3.frozen 7
            have X8 := N3.cell 8; have Y8 := N3.frozen 8
            have X9 := N3.cell 9; have Y9 := N3.frozen 9
            have X10 := N3.cell 10; have Y10 := N3.frozen 10
            refine wpAnyH_ready (rs := [6]) (by kernel_rfl) (by simp) ?_
            refine AllReadyH.cons (o := ⟨_, _, _, _, _, _⟩) rfl (fun K' hK => ?_) (AllReadyH.nil)
            go_simp
            refine hK.out _ _ (by have hz : Ext w1 _ := Ext.set11 hHeld.1 (B := c45.heap.size) hb3 (.int .u8 K) (.slice pn N.length pnc) (.int .i64 AT) (.slice pt T.length ptc) (.int .u64 0) (.bool false) (.string ⟨#[]⟩) (.string ⟨#[]⟩) (.string ⟨#[]⟩) (.bool false) (.slice none 0 0); exact ⟨hz, hz.cell B0, hz.cell B1, hz.cell B2, hz.cell B3, hz.cell B4, hz.cell B5, hz.cell B6, hz.cell B7, hz.cell B8, hz.cell B9, hz.cell B10⟩) (fun hHeld => ?_)
            clear hK K' X0 Y0 X1 Y1 X2 Y2 X3 Y3 X4 Y4 X5 Y5 X6 Y6 X7 Y7 X8 Y8 X9 Y9 X10 Y10
            try simp only [Act.put, List.setIfInBounds_toArray, List.set_cons_zero, List.set_cons_succ]
            replace opn := owns_set11T opn N3 (by decide) (.int .u8 K) (.slice pn N.length pnc) (.int .i64 AT) (.slice pt T.length ptc) (.int .u64 0) (.bool false) (.string ⟨#[]⟩) (.string ⟨#[]⟩) (.string ⟨#[]⟩) (.bool false) (.slice none 0 0)
            replace opt := owns_set11T opt N3 (by decide) (.int .u8 K) (.slice pn N.length pnc) (.int .i64 AT) (.slice pt T.length ptc) (.int .u64 0) (.bool false) (.string ⟨#[]⟩) (.string ⟨#[]⟩) (.string ⟨#[]⟩) (.bool false) (.slice none 0 0)
            replace oqn := owns_set11T oqn N3 (by decide) (.int .u8 K) (.slice pn N.length pnc) (.int .i64 AT) (.slice pt T.length ptc) (.int .u64 0) (.bool false) (.string ⟨#[]⟩) (.string ⟨#[]⟩) (.string ⟨#[]⟩) (.bool false) (.slice none 0 0)
            replace oqt := owns_set11T oqt N3 (by decide) (.int .u8 K) (.slice pn N.length pnc) (.int .i64 AT) (.slice pt T.length ptc) (.int .u64 0) (.bool false) (.string ⟨#[]⟩) (.string ⟨#[]⟩) (.string ⟨#[]⟩) (.bool false) (.slice none 0 0)
            replace N4 := NBox.far11 N4 hne (.int .u8 K) (.slice pn N.length pnc) (.int .i64 AT) (.slice pt T.length ptc) (.int .u64 0) (.bool false) (.string ⟨#[]⟩) (.string ⟨#[]⟩) (.string ⟨#[]⟩) (.bool false) (.slice none 0 0)
            replace N3 := NBox.set11 N3 (.int .u8 K) (.slice pn N.length pnc) (.int .i64 AT) (.slice pt T.length ptc) (.int .u64 0) (.bool false) (.string ⟨#[]⟩) (.string ⟨#[]⟩) (.string ⟨#[]⟩) (.bool false) (.slice none 0 0)
            obtain ⟨c52, hd⟩ : ∃ d, ((((((((((c51.setCell ⟨c45.heap.size, 0, none⟩ (.int .u8 K)).setCell ⟨c45.heap.size, 1, none⟩ (.slice pn N.length pnc)).setCell ⟨c45.heap.size, 2, none⟩ (.int .i64 AT)).setCell ⟨c45.heap.size, 3, none⟩ (.slice pt T.length ptc)).setCell ⟨c45.heap.size, 4, none⟩ (.int .u64 0)).setCell ⟨c45.heap.size, 5, none⟩ (.bool false)).setCell ⟨c45.heap.size, 6, none⟩ (.string ⟨#[]⟩)).setCell ⟨c45.heap.size, 7, none⟩ (.string ⟨#[]⟩)).setCell ⟨c45.heap.size, 8, none⟩ (.string ⟨#[]⟩)).setCell ⟨c45.heap.size, 9, none⟩ (.bool false)).setCell ⟨c45.heap.size, 10, none⟩ (.slice none 0 0) = d := ⟨_, rfl⟩
            rw [hd] at hHeld N3 N4 opn opt oqn oqt
            rw [hd]
            clear hd
            have X0 := N4.cell 0; have Y0 := N4.frozen 0
            have X1 := N4.cell 1; have Y1 := N4.frozen 1
            have X2 := N4.cell 2; have Y2 := N4.frozen 2
            have X3 := N4.cell 3; have Y3 := N4.frozen 3
            have X4 := N4.cell 4; have Y4 := N4.frozen 4
            have X5 := N4.cell 5; have Y5 := N4.frozen 5
            have X6 := N4.cell 6; have Y6 := N4.frozen 6
            have X7 := N4.cell 7; have Y7 := N4.frozen 7
            have X8 := N4.cell 8; have Y8 := N4.frozen 8
            have X9 := N4.cell 9; have Y9 := N4.frozen 9
            have X10 := N4.cell 10; have Y10 := N4.frozen 10
            refine wpAnyH_ready (rs := [7]) (by kernel_rfl) (by simp) ?_
            refine AllReadyH.cons (o := ⟨_, _, _, _, _, _⟩) rfl (fun K' hK => ?_) (AllReadyH.nil)
            go_simp
            refine hK.out _ _ (by have hz : Ext w1 _ := Ext.set11 hHeld.1 (B := c0.heap.size) hb4 (.int .u8 K) (.slice qn N.length qnc) (.int .i64 AT) (.slice qt T.length qtc) (.int .u64 0) (.bool false) (.string ⟨#[]⟩) (.string ⟨#[]⟩) (.string ⟨#[]⟩) (.bool false) (.slice none 0 0); exact ⟨hz, hz.cell B0, hz.cell B1, hz.cell B2, hz.cell B3, hz.cell B4, hz.cell B5, hz.cell B6, hz.cell B7, hz.cell B8, hz.cell B9, hz.cell B10⟩) (fun hHeld => ?_)
            clear hK K' X0 Y0 X1 Y1 X2 Y2 X3 Y3 X4 Y4 X5 Y5 X6 Y6 X7 Y7 X8 Y8 X9 Y9 X10 Y10
            try simp only [Act.put, List.setIfInBounds_toArray, List.set_cons_zero, List.set_cons_succ]
            replace opn := owns_set11T opn N4 (by decide) (.int .u8 K) (.slice qn N.length qnc) (.int .i64 AT) (.slice qt T.length qtc) (.int .u64 0) (.bool false) (.string ⟨#[]⟩) (.string ⟨#[]⟩) (.string ⟨#[]⟩) (.bool false) (.slice none 0 0)
            replace opt := owns_set11T opt N4 (by decide) (.int .u8 K) (.slice qn N.length qnc) (.int .i64 AT) (.slice qt T.length qtc) (.int .u64 0) (.bool false) (.string ⟨#[]⟩) (.string ⟨#[]⟩) (.string ⟨#[]⟩) (.bool false) (.slice none 0 0)
            replace oqn := owns_set11T oqn N4 (by decide) (.int .u8 K) (.slice qn N.length qnc) (.int .i64 AT) (.slice qt T.length qtc) (.int .u64 0) (.bool false) (.string ⟨#[]⟩) (.string ⟨#[]⟩) (.string ⟨#[]⟩) (.bool false) (.slice none 0 0)
            replace oqt := owns_set11T oqt N4 (by decide) (.int .u8 K) (.slice qn N.length qnc) (.int .i64 AT) (.slice qt T.length qtc) (.int .u64 0) (.bool false) (.string ⟨#[]⟩) (.string ⟨#[]⟩) (.string ⟨#[]⟩) (.bool false) (.slice none 0 0)
            replace N3 := NBox.far11 N3 hne.symm (.int .u8 K) (.slice qn N.length qnc) (.int .i64 AT) (.slice qt T.length qtc) (.int .u64 0) (.bool false) (.string ⟨#[]⟩) (.string ⟨#[]⟩) (.string ⟨#[]⟩) (.bool false) (.slice none 0 0)
            replace N4 := NBox.set11 N4 (.int .u8 K) (.slice qn N.length qnc) (.int .i64 AT) (.slice qt T.length qtc) (.int .u64 0) (.bool false) (.string ⟨#[]⟩) (.string ⟨#[]⟩) (.string ⟨#[]⟩) (.bool false) (.slice none 0 0)
            obtain ⟨c53, hd⟩ : ∃ d, ((((((((((c52.setCell ⟨c0.heap.size, 0, none⟩ (.int .u8 K)).setCell ⟨c0.heap.size, 1, none⟩ (.slice qn N.length qnc)).setCell ⟨c0.heap.size, 2, none⟩ (.int .i64 AT)).setCell ⟨c0.heap.size, 3, none⟩ (.slice qt T.length qtc)).setCell ⟨c0.heap.size, 4, none⟩ (.int .u64 0)).setCell ⟨c0.heap.size, 5, none⟩ (.bool false)).setCell ⟨c0.heap.size, 6, none⟩ (.string ⟨#[]⟩)).setCell ⟨c0.heap.size, 7, none⟩ (.string ⟨#[]⟩)).setCell ⟨c0.heap.size, 8, none⟩ (.string ⟨#[]⟩)).setCell ⟨c0.heap.size, 9, none⟩ (.bool false)).setCell ⟨c0.heap.size, 10, none⟩ (.slice none 0 0) = d := ⟨_, rfl⟩
            rw [hd] at hHeld N3 N4 opn opt oqn oqt
            rw [hd]
            clear hd
            refine wpAnyH_done (by kernel_rfl) ?_ _
            go_wp2_with fail
            go_meet
            case rel => exact ⟨_, _, pn, pnc, pt, ptc, qn, qnc, qt, qtc, rfl, rfl, N3, N4, RdS.of_owns opn, RdS.of_owns opt, RdS.of_owns oqn, RdS.of_owns oqt, hHeld.1⟩
      · go_simp
        have N3 := NBox.new c44 26 #[.int .u8 0, .slice none 0 0, .int .i64 0, .slice none 0 0, .int .u64 0, .bool false, .string ⟨#[]⟩, .string ⟨#[]⟩, .string ⟨#[]⟩, .bool false, .slice none 0 0]
        have hb3 : w1.heap.size ≤ c44.heap.size := hHeld.1.size
        have hne := Nat.ne_of_lt (NBox.lt N4)
        replace N4 := NBox.ext ((Ext.refl c44).alloc (.cells #[.int .u8 0, .slice none 0 0, .int .i64 0, .slice none 0 0, .int .u64 0, .bool false, .string ⟨#[]⟩, .string ⟨#[]⟩, .string ⟨#[]⟩, .bool false, .slice none 0 0] 26)) N4
        refine hK.out _ _ (by have hz : Ext w1 (c44.alloc (.cells #[.int .u8 0, .slice none 0 0, .int .i64 0, .slice none 0 0, .int .u64 0, .bool false, .string ⟨#[]⟩, .string ⟨#[]⟩, .string ⟨#[]⟩, .bool false, .slice none 0 0] 26)) := hHeld.1.alloc _; exact ⟨hz, hz.cell B0, hz.cell B1, hz.cell B2, hz.cell B3, hz.cell B4, hz.cell B5, hz.cell B6, hz.cell B7, hz.cell B8, hz.cell B9, hz.cell B10⟩) (fun hHeld => ?_)
        clear hK K'
        try simp only [Act.put, List.setIfInBounds_toArray, List.set_cons_zero, List.set_cons_succ]
        obtain ⟨c54, hd⟩ : ∃ d, c44.alloc (.cells #[.int .u8 0, .slice none 0 0, .int .i64 0, .slice none 0 0, .int .u64 0, .bool false, .string ⟨#[]⟩, .string ⟨#[]⟩, .string ⟨#[]⟩, .bool false, .slice none 0 0] 26) = d := ⟨_, rfl⟩
        rw [hd] at hHeld N3 N4
        rw [hd]
        clear hd
        refine wpAnyH_ready (rs := [1]) (by kernel_rfl) (by simp) ?_
        refine AllReadyH.cons (o := ⟨_, _, _, _, _, _⟩) rfl (fun K' hK => ?_) (AllReadyH.nil)
        · go_simp
          go_at_call 16
          refine (hc16 _ hHeld.1).mono ?_
          rintro e c55 ⟨r, rfl, ⟨pn, pnc, pt, ptc, rfl, opn, opt⟩, hE⟩
          replace N4 := NBox.ext hE N4
          replace N3 := NBox.ext hE N3
          refine hK.out _ _ (by have hz : Ext w1 _ := hHeld.1.trans hE; exact ⟨hz, hz.cell B0, hz.cell B1, hz.cell B2, hz.cell B3, hz.cell B4, hz.cell B5, hz.cell B6, hz.cell B7, hz.cell B8, hz.cell B9, hz.cell B10⟩) (fun hHeld => ?_)
          clear hK K' hE
          try simp only [Act.put, List.setIfInBounds_toArray, List.set_cons_zero, List.set_cons_succ]
          refine wpAnyH_ready (rs := [3]) (by kernel_rfl) (by simp) ?_
          refine AllReadyH.cons (o := ⟨_, _, _, _, _, _⟩) rfl (fun K' hK => ?_) (AllReadyH.nil)
          · go_simp
            go_at_call 17
            refine (hc17 _ hHeld.1).mono ?_
            rintro e c56 ⟨r, rfl, ⟨qn, qnc, qt, qtc, rfl, oqn, oqt⟩, hE⟩
            replace N4 := NBox.ext hE N4
            replace N3 := NBox.ext hE N3
            replace opn := owns_ext hE opn
            replace opt := owns_ext hE opt
            refine hK.out _ _ (by have hz : Ext w1 _ := hHeld.1.trans hE; exact ⟨hz, hz.cell B0, hz.cell B1, hz.cell B2, hz.cell B3, hz.cell B4, hz.cell B5, hz.cell B6, hz.cell B7, hz.cell B8, hz.cell B9, hz.cell B10⟩) (fun hHeld => ?_)
            clear hK K' hE
            try simp only [Act.put, List.setIfInBounds_toArray, List.set_cons_zero, List.set_cons_succ]
            have X0 := N3.cell 0; have Y0 := N3.frozen 0
            have X1 := N3.cell 1; have Y1 := N3.frozen 1
            have X2 := N3.cell 2; have Y2 := N3.frozen 2
            have X3 := N3.cell 3; have Y3 := N3.frozen 3
            have X4 := N3.cell 4; have Y4 := N3.frozen 4
            have X5 := N3.cell 5; have Y5 := N3.frozen 5
            have X6 := N3.cell 6; have Y6 := N3.frozen 6
            have X7 := N3.cell 7; have Y7 := N3.frozen 7
            have X8 := N3.cell 8; have Y8 := N3.frozen 8
            have X9 := N3.cell 9; have Y9 := N3.frozen 9
            have X10 := N3.cell 10; have Y10 := N3.frozen 10
            refine wpAnyH_ready (rs := [6]) (by kernel_rfl) (by simp) ?_
            refine AllReadyH.cons (o := ⟨_, _, _, _, _, _⟩) rfl (fun K' hK => ?_) (AllReadyH.nil)
            go_simp
            refine hK.out _ _ (by have hz : Ext w1 _ := Ext.set11 hHeld.1 (B := c44.heap.size) hb3 (.int .u8 K) (.slice pn N.length pnc) (.int .i64 AT) (.slice pt T.length ptc) (.int .u64 0) (.bool false) (.string ⟨#[]⟩) (.string ⟨#[]⟩) (.string ⟨#[]⟩) (.bool false) (.slice none 0 0); exact ⟨hz, hz.cell B0, hz.cell B1, hz.cell B2, hz.cell B3, hz.cell B4, hz.cell B5, hz.cell B6, hz.cell B7, hz.cell B8, hz.cell B9, hz.cell B10⟩) (fun hHeld => ?_)
            clear hK K' X0 Y0 X1 Y1 X2 Y2 X3 Y3 X4 Y4 X5 Y5 X6 Y6 X7 Y7 X8 Y8 X9 Y9 X10 Y10
            try simp only [Act.put, List.setIfInBounds_toArray, List.set_cons_zero, List.set_cons_succ]
            replace opn := owns_set11T opn N3 (by decide) (.int .u8 K) (.slice pn N.length pnc) (.int .i64 AT) (.slice pt T.length ptc) (.int .u64 0) (.bool false) (.string ⟨#[]⟩) (.string ⟨#[]⟩) (.string ⟨#[]⟩) (.bool false) (.slice none 0 0)
            replace opt := owns_set11T opt N3 (by decide) (.int .u8 K) (.slice pn N.length pnc) (.int .i64 AT) (.slice pt T.length ptc) (.int .u64 0) (.bool false) (.string ⟨#[]⟩) (.string ⟨#[]⟩) (.string ⟨#[]⟩) (.bool false) (.slice none 0 0)
            replace oqn := owns_set11T oqn N3 (by decide) (.int .u8 K) (.slice pn N.length pnc) (.int .i64 AT) (.slice pt T.length ptc) (.int .u64 0) (.bool false) (.string ⟨#[]⟩) (.string ⟨#[]⟩) (.string ⟨#[]⟩) (.bool false) (.slice none 0 0)
            replace oqt := owns_set11T oqt N3 (by decide) (.int .u8 K) (.slice pn N.length pnc) (.int .i64 AT) (.slice pt T.length ptc) (.int .u64 0) (.bool false) (.string ⟨#[]⟩) (.string ⟨#[]⟩) (.string ⟨#[]⟩) (.bool false) (.slice none 0 0)
            replace N4 := NBox.far11 N4 hne (.int .u8 K) (.slice pn N.length pnc) (.int .i64 AT) (.slice pt T.length ptc) (.int .u64 0) (.bool false) (.string ⟨#[]⟩) (.string ⟨#[]⟩) (.string ⟨#[]⟩) (.bool false) (.slice none 0 0)
            replace N3 := NBox.set11 N3 (.int .u8 K) (.slice pn N.length pnc) (.int .i64 AT) (.slice pt T.length ptc) (.int .u64 0) (.bool false) (.string ⟨#[]⟩) (.string ⟨#[]⟩) (.string ⟨#[]⟩) (.bool false) (.slice none 0 0)
            obtain ⟨c57, hd⟩ : ∃ d, ((((((((((c56.setCell ⟨c44.heap.size, 0, none⟩ (.int .u8 K)).setCell ⟨c44.heap.size, 1, none⟩ (.slice pn N.length pnc)).setCell ⟨c44.heap.size, 2, none⟩ (.int .i64 AT)).setCell ⟨c44.heap.size, 3, none⟩ (.slice pt T.length ptc)).setCell ⟨c44.heap.size, 4, none⟩ (.int .u64 0)).setCell ⟨c44.heap.size, 5, none⟩ (.bool false)).setCell ⟨c44.heap.size, 6, none⟩ (.string ⟨#[]⟩)).setCell ⟨c44.heap.size, 7, none⟩ (.string ⟨#[]⟩)).setCell ⟨c44.heap.size, 8, none⟩ (.string ⟨#[]⟩)).setCell ⟨c44.heap.size, 9, none⟩ (.bool false)).setCell ⟨c44.heap.size, 10, none⟩ (.slice none 0 0) = d := ⟨_, rfl⟩
            rw [hd] at hHeld N3 N4 opn opt oqn oqt
            rw [hd]
            clear hd
            have X0 := N4.cell 0; have Y0 := N4.frozen 0
            have X1 := N4.cell 1; have Y1 := N4.frozen 1
            have X2 := N4.cell 2; have Y2 := N4.frozen 2
            have X3 := N4.cell 3; have Y3 := N4.frozen 3
            have X4 := N4.cell 4; have Y4 := N4.frozen 4
            have X5 := N4.cell 5; have Y5 := N4.frozen 5
            have X6 := N4.cell 6; have Y6 := N4.frozen 6
            have X7 := N4.cell 7; have Y7 := N4.frozen 7
            have X8 := N4.cell 8; have Y8 := N4.frozen 8
            have X9 := N4.cell 9; have Y9 := N4.frozen 9
            have X10 := N4.cell 10; have Y10 := N4.frozen 10
            refine wpAnyH_ready (rs := [7]) (by kernel_rfl) (by simp) ?_
            refine AllReadyH.cons (o := ⟨_, _, _, _, _, _⟩) rfl (fun K' hK => ?_) (AllReadyH.nil)
            go_simp
            refine hK.out _ _ (by have hz : Ext w1 _ := Ext.set11 hHeld.1 (B := c0.heap.size) hb4 (.int .u8 K) (.slice qn N.length qnc) (.int .i64 AT) (.slice qt T.length qtc) (.int .u64 0) (.bool false) (.string ⟨#[]⟩) (.string ⟨#[]⟩) (.string ⟨#[]⟩) (.bool false) (.slice none 0 0); exact ⟨hz, hz.cell B0, hz.cell B1, hz.cell B2, hz.cell B3, hz.cell B4, hz.cell B5, hz.cell B6, hz.cell B7, hz.cell B8, hz.cell B9, hz.cell B10⟩) (fun hHeld => ?_)
            clear hK K' X0 Y0 X1 Y1 X2 Y2 X3 Y3 X4 Y4 X5 Y5 X6 Y6 X7 Y7 X8 Y8 X9 Y9 X10 Y10
            try simp only [Act.put, List.setIfInBounds_toArray, List.set_cons_zero, List.set_cons_succ]
            replace opn := owns_set11T opn N4 (by decide) (.int .u8 K) (.slice qn N.length qnc) (.int .i64 AT) (.slice qt T.length qtc) (.int .u64 0) (.bool false) (.string ⟨#[]⟩) (.string ⟨#[]⟩) (.string ⟨#[]⟩) (.bool false) (.slice none 0 0)
            replace opt := owns_set11T opt N4 (by decide) (.int .u8 K) (.slice qn N.length qnc) (.int .i64 AT) (.slice qt T.length qtc) (.int .u64 0) (.bool false) (.string ⟨#[]⟩) (.string ⟨#[]⟩) (.string ⟨#[]⟩) (.bool false) (.slice none 0 0)
            replace oqn := owns_set11T oqn N4 (by decide) (.int .u8 K) (.slice qn N.length qnc) (.int .i64 AT) (.slice qt T.length qtc) (.int .u64 0) (.bool false) (.string ⟨#[]⟩) (.string ⟨#[]⟩) (.string ⟨#[]⟩) (.bool false) (.slice none 0 0)
            replace oqt := owns_set11T oqt N4 (by decide) (.int .u8 K) (.slice qn N.length qnc) (.int .i64 AT) (.slice qt T.length qtc) (.int .u64 0) (.bool false) (.string ⟨#[]⟩) (.string ⟨#[]⟩) (.string ⟨#[]⟩) (.bool false) (.slice none 0 0)
            replace N3 := NBox.far11 N3 hne.symm (.int .u8 K) (.slice qn N.length qnc) (.int .i64 AT) (.slice qt T.length qtc) (.int .u64 0) (.bool false) (.string ⟨#[]⟩) (.string ⟨#[]⟩) (.string ⟨#[]⟩) (.bool false) (.slice none 0 0)
            replace N4 := NBox.set11 N4 (.int .u8 K) (.slice qn N.length qnc) (.int .i64 AT) (.slice qt T.length qtc) (.int .u64 0) (.bool false) (.string ⟨#[]⟩) (.string ⟨#[]⟩) (.string ⟨#[]⟩) (.bool false) (.slice none 0 0)
            obtain ⟨c58, hd⟩ : ∃ d, ((((((((((c57.setCell ⟨c0.heap.size, 0, none⟩ (.int .u8 K)).setCell ⟨c0.heap.size, 1, none⟩ (.slice qn N.length qnc)).setCell ⟨c0.heap.size, 2, none⟩ (.int .i64 AT)).setCell ⟨c0.heap.size, 3, none⟩ (.slice qt T.length qtc)).setCell ⟨c0.heap.size, 4, none⟩ (.int .u64 0)).setCell ⟨c0.heap.size, 5, none⟩ (.bool false)).setCell ⟨c0.heap.size, 6, none⟩ (.string ⟨#[]⟩)).setCell ⟨c0.heap.size, 7, none⟩ (.string ⟨#[]⟩)).setCell ⟨c0.heap.size, 8, none⟩ (.string ⟨#[]⟩)).setCell ⟨c0.heap.size, 9, none⟩ (.bool false)).setCell ⟨c0.heap.size, 10, none⟩ (.slice none 0 0) = d := ⟨_, rfl⟩
            rw [hd] at hHeld N3 N4 opn opt oqn oqt
            rw [hd]
            clear hd
            refine wpAnyH_done (by kernel_rfl) ?_ _
            go_wp2_with fail
            go_meet
            case rel => exact ⟨_, _, pn, pnc, pt, ptc, qn, qnc, qt, qtc, rfl, rfl, N3, N4, RdS.of_owns opn, RdS.of_owns opt, RdS.of_owns oqn, RdS.of_owns oqt, hHeld.1⟩
  case rest =>
    obtain ⟨B3, B4, pn, pnc, pt, ptc, qn, qnc, qt, qtc, rfl, rfl, N3, N4, R1, R2, R3, R4, X⟩ := hcut
    have P0 := N3.cell 0
    have Q0 := N4.cell 0
    have P1 := N3.cell 1
    have Q1 := N4.cell 1
    have P2 := N3.cell 2
    have Q2 := N4.cell 2
    have P3 := N3.cell 3
    have Q3 := N4.cell 3
    have P4 := N3.cell 4
    have Q4 := N4.cell 4
    have P5 := N3.cell 5
    have Q5 := N4.cell 5
    have P6 := N3.cell 6
    have Q6 := N4.cell 6
    have P7 := N3.cell 7
    have Q7 := N4.cell 7
    have P8 := N3.cell 8
    have Q8 := N4.cell 8
    have P9 := N3.cell 9
    have Q9 := N4.cell 9
    have P10 := N3.cell 10
    have Q10 := N4.cell 10
    have t1 : (K == K) = true := by simp
    have t2 : (AT == AT) = true := by simp
    have t3 : decide (N = N) = true := decide_eq_true rfl
    have t4 : decide (T = T) = true := decide_eq_true rfl
    have t5 : ((⟨#[]⟩ : ByteArray).toList == (⟨#[]⟩ : ByteArray).toList) = true := by simp
    go_wp2_with (first | (go_at_call 13; refine (sameInts_any N N _ _ _ R1 R3).mono ?_; clear R1 R3; rintro e ua ⟨r, rfl, rfl, hE⟩; replace X := Ext.trans X hE; replace N3 := NBox.ext hE N3; replace N4 := NBox.ext hE N4; replace R2 := RdS.ext hE R2; replace R4 := RdS.ext hE R4; replace P0 := N3.cell 0; replace Q0 := N4.cell 0; replace P1 := N3.cell 1; replace Q1 := N4.cell 1; replace P2 := N3.cell 2; replace Q2 := N4.cell 2; replace P3 := N3.cell 3; replace Q3 := N4.cell 3; replace P4 := N3.cell 4; replace Q4 := N4.cell 4; replace P5 := N3.cell 5; replace Q5 := N4.cell 5; replace P6 := N3.cell 6; replace Q6 := N4.cell 6; replace P7 := N3.cell 7; replace Q7 := N4.cell 7; replace P8 := N3.cell 8; replace Q8 := N4.cell 8; replace P9 := N3.cell 9; replace Q9 := N4.cell 9; replace P10 := N3.cell 10; replace Q10 := N4.cell 10; clear hE) | (go_at_call 13; refine (sameInts_any T T _ _ _ R2 R4).mono ?_; clear R2 R4; rintro e ub ⟨r, rfl, rfl, hE⟩; replace X := Ext.trans X hE; replace N3 := NBox.ext hE N3; replace N4 := NBox.ext hE N4; skip; replace P0 := N3.cell 0; replace Q0 := N4.cell 0; replace P1 := N3.cell 1; replace Q1 := N4.cell 1; replace P2 := N3.cell 2; replace Q2 := N4.cell 2; replace P3 := N3.cell 3; replace Q3 := N4.cell 3; replace P4 := N3.cell 4; replace Q4 := N4.cell 4; replace P5 := N3.cell 5; replace Q5 := N4.cell 5; replace P6 := N3.cell 6; replace Q6 := N4.cell 6; replace P7 := N3.cell 7; replace Q7 := N4.cell 7; replace P8 := N3.cell 8; replace Q8 := N4.cell 8; replace P9 := N3.cell 9; replace Q9 := N4.cell 9; replace P10 := N3.cell 10; replace Q10 := N4.cell 10; clear hE) | (go_at_call 9; refine (works_any _).mono ?_; rintro e uw ⟨r, rfl, rfl, hE⟩; replace X := Ext.trans X hE; clear hE))
    go_ret
    exact ret_bool (by rfl) (hE1.trans X)
end Go.Proofs.Ytdnjkffmgmbfmaa.Bs
