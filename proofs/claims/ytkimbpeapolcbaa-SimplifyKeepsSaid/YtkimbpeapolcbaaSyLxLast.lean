/- Chapter 10: LxLast turned to this seat. (Printed by gsyport.py.) -/
import Derived.Test.YtkimbpeapolcbaaSyLxFrame
namespace Go.Proofs.Ytkimbpeapolcbaa.Sy
open Go.RowKit Go.Proofs.Ytkimbpeapolcbaa.Bw Go.Proofs.Ytkimbpeapolcbaa.Bs

theorem NBox.set {W : World} {B : Nat} {t : TypeId} {cs : Array Value} (h : NBox W B t cs) (i : Nat) (u : Value) : NBox (W.setCell ⟨B, i, none⟩ u) B t (cs.setIfInBounds i u) := by
 unfold NBox at h ⊢
 simp [World.setCell, Array.getElem?_modify, h]
theorem NBox.frozen {W : World} {B : Nat} {t : TypeId} {cs : Array Value} (h : NBox W B t cs) (i : Nat) : W.frozen? ⟨B, i, none⟩ = false := by
 unfold NBox at h; simp [World.frozen?, h]
theorem NBox.lt {W : World} {B : Nat} {t : TypeId} {cs : Array Value} (h : NBox W B t cs) : B < W.heap.size := (Array.getElem?_eq_some_iff.1 h).1
theorem T24 : SliceT Try.prog 24 35 (.agg #[.int .i64 0, .int .i64 0, .string ⟨#[]⟩]) 3 32 := SliceT.mk' Try.underlying24 (by kernel_rfl) rfl (by decide)
theorem wp_append_rd {P : Program} {w : World} {o : Oper} {a : Act} {K : Act → World → Prop} {Q : Exit → Act → World → Prop} {s x : Operand} {t : TypeId}
  (ho : o.op = .call { callee := .builtin .append, args := #[s, x], argTypes := #[t, t] }) {e : TypeId} {z : Value} {size bytes : Nat} (T : SliceT P t e z size bytes) {base : Nat} {v : Value} {n : Nat} {xs : List Value} (hs : a.eval s = v) (hown : w.ownsRow base e size v n xs)
  {m : Nat} {news : List Value} {y : Value} (hx : a.eval x = y) (hr : RdS w size m news y) (h1 : ∀ u ∈ news, u.oneCell' = true) (hb : (n + m) * bytes ≤ 140737488355328) (hm : n + m ≤ maxLen) (hbase : base ≤ w.heap.size)
  (h : ∀ v' w', w'.ownsRow base e size v' (n + m) (xs ++ news) → w.grownBy w' v.ownBlock → (v'.ownBlock = v.ownBlock ∨ v'.ownBlock = some w.heap.size) → K (a.put o.dst v') w') : o.wp P a w K Q := by
 obtain ⟨v', w', hrun, h2, h3, h4⟩ := run_append_rd T o.type hown hr h1 hb hm hbase
 unfold Oper.wp execOp
 simp only [ho, resolve, invoke, builtin, Sem.run_bind, Sem.run_pure, Result.andThen_ok, List.map_toArray, List.map_cons, List.map_nil, hs, hx, hrun]
 exact h v' w' h2 h3 h4
theorem Fr.grown {A B : World} {row : Option Nat} (h : A.grownBy B row) : Fr A B (fun k => row = some k) := ⟨h.os, h.tape, h.output, h.size, fun k hk hs => h.block k hk (fun e => hs e.symm)⟩
theorem Fr.setCell (W : World) (B i : Nat) (u : Value) : Fr W (W.setCell ⟨B, i, none⟩ u) (fun k => k = B) := by
 have h := Below.setCell (Below.refl 0 W) (p := ⟨B, i, none⟩) (Nat.zero_le _) u
 exact ⟨h.os, h.tape, h.output, h.size, fun k _ hs => Below.heap_setCell W ⟨B, i, none⟩ u k hs⟩
set_option maxRecDepth 100000 in
set_option maxHeartbeats 4000000 in
theorem last_any (m : Mk) (B base : Nat) (lv : Value) (w : World) (h : MkAt w B base m lv) (hlen : m.l.length ≤ 1000000) : Calls Try.prog 80 #[.pointer (some ⟨B, 0, none⟩)] w fun e w' => ∃ g lv', e = .returned (.pointer (some ⟨g, (m.last.l.length - 1) * 3, none⟩)) ∧ MkAt w' B base m.last lv' ∧ lv'.ownBlock = some g ∧ (lv.ownBlock = some g ∨ w.heap.size ≤ g) ∧ Fr w w' (fun k => k = B ∨ lv.ownBlock = some k) := by
 obtain ⟨hN, hO, hB, hbs⟩ := h
 obtain ⟨lA, lc, rfl, _⟩ := RdS.of_owns hO
 have c0 := hN.cell 0
 have c1 := hN.cell 1
 have f0 := hN.frozen 0
 have f1 := hN.frozen 1
 rcases Int.lt_or_le 0 m.keep with hk | hk
 ·have t1 : decide (0 < m.keep) = true := decide_eq_true hk
  have HL : Hid (m.last = ⟨m.l ++ [⟨m.keep, 0, ⟨#[]⟩⟩], 0⟩) := if_pos (.inl hk)
  go_enter Try.func80, Try.ntmps80
  go_wp2_with fail
  refine wp_region_held_drew (S := fun W => W.cell? ⟨B, 1, none⟩ = some (.int .i64 m.keep)) (by kernel_rfl) (show _ = _ from c1) (fun hHeld => ?_)
  clear c1
  refine wpAnyH_take (i := 0) (oi := ⟨_, _, _, _, _, _⟩) (v := ?_) rfl (by kernel_rfl) (by kernel_rfl) (by kernel_rfl) (fun _ _ _ h => h) (Or.inl ⟨by rfl, ?_⟩) hHeld ?_
  rotate_left
  ·intro w hSw
   try dsimp only at hSw
   go_simp
   all_goals (first | with_reducible rfl | rw [if_pos (by omega)])
  try simp only [Act.put, aS]
  refine wpAnyH_take (i := 1) (oi := ⟨_, _, _, _, _, _⟩) (v := ?_) rfl (by kernel_rfl) (by kernel_rfl) (by kernel_rfl) (fun _ _ _ h => h) (Or.inl ⟨by rfl, ?_⟩) hHeld ?_
  rotate_left
  ·intro w hSw
   try dsimp only at hSw
   go_simp
   all_goals (first | with_reducible rfl | rw [if_pos (by omega)])
  try simp only [Act.put, aS]
  refine wpAnyH_take (i := 2) (oi := ⟨_, _, _, _, _, _⟩) (v := ?_) rfl (by kernel_rfl) (by kernel_rfl) (by kernel_rfl) (fun _ _ _ h => h) (Or.inl ⟨by rfl, ?_⟩) hHeld ?_
  rotate_left
  ·intro w hSw
   try dsimp only at hSw
   go_simp
   all_goals (first | with_reducible rfl | rw [if_pos (by omega)])
  try simp only [Act.put, aS]
  refine wpAnyH_take (i := 3) (oi := ⟨_, _, _, _, _, _⟩) (v := ?_) rfl (by kernel_rfl) (by kernel_rfl) (by kernel_rfl) (fun _ _ _ h => h) (Or.inl ⟨by rfl, ?_⟩) hHeld ?_
  rotate_left
  ·intro w hSw
   try dsimp only at hSw
   go_simp
   all_goals (first | with_reducible rfl | rw [if_pos (by omega)])
  try simp only [Act.put, aS]
  refine wpAnyH_take (i := 5) (oi := ⟨_, _, _, _, _, _⟩) (v := ?_) rfl (by kernel_rfl) (by kernel_rfl) (by kernel_rfl) (fun _ _ _ h => h) (Or.inl ⟨by rfl, ?_⟩) hHeld ?_
  rotate_left
  ·intro w hSw
   try dsimp only at hSw
   go_simp
   all_goals (first | with_reducible rfl | rw [if_pos (by omega)])
  try simp only [Act.put, aS]
  refine wpAnyH_take (i := 6) (oi := ⟨_, _, _, _, _, _⟩) (v := ?_) rfl (by kernel_rfl) (by kernel_rfl) (by kernel_rfl) (fun _ _ _ h => h) (Or.inl ⟨by rfl, ?_⟩) hHeld ?_
  rotate_left
  ·intro w hSw
   try dsimp only at hSw
   go_simp
   all_goals (first | with_reducible rfl | rw [if_pos (by omega)])
  try simp only [Act.put, aS]
  refine wpAnyH_take (i := 7) (oi := ⟨_, _, _, _, _, _⟩) (v := ?_) rfl (by kernel_rfl) (by kernel_rfl) (by kernel_rfl) (fun _ _ _ h => h) (Or.inl ⟨by rfl, ?_⟩) hHeld ?_
  rotate_left
  ·intro w hSw
   try dsimp only at hSw
   go_simp
   all_goals (first | with_reducible rfl | rw [if_pos (by omega)])
  try simp only [Act.put, aS]
  refine wpAnyH_take (i := 8) (oi := ⟨_, _, _, _, _, _⟩) (v := ?_) rfl (by kernel_rfl) (by kernel_rfl) (by kernel_rfl) (fun _ _ _ h => h) (Or.inl ⟨by rfl, ?_⟩) hHeld ?_
  rotate_left
  ·intro w hSw
   try dsimp only at hSw
   go_simp
   all_goals (first | with_reducible rfl | rw [if_pos (by omega)])
  try simp only [Act.put, aS]
  refine wpAnyH_take (i := 9) (oi := ⟨_, _, _, _, _, _⟩) (v := ?_) rfl (by kernel_rfl) (by kernel_rfl) (by kernel_rfl) (fun _ _ _ h => h) (Or.inl ⟨by rfl, ?_⟩) hHeld ?_
  rotate_left
  ·intro w hSw
   try dsimp only at hSw
   go_simp
   all_goals (first | with_reducible rfl | rw [if_pos (by omega)])
  try simp only [Act.put, aS]
  refine wpAnyH_ready (rs := [4, 10]) (by kernel_rfl) (by simp) ?_
  refine AllReadyH.cons (o := ⟨_, _, _, _, _, _⟩) rfl (fun K' hK => ?_) (AllReadyH.cons (o := ⟨_, _, _, _, _, _⟩) rfl (fun K' hK => ?_) (AllReadyH.nil))
  ·go_simp
   refine hK.out _ _ hHeld (fun hHeld => ?_)
   clear hK K'
   try simp only [Act.put, aS]
   refine wpAnyH_ready (rs := [10]) (by kernel_rfl) (by simp) ?_
   refine AllReadyH.cons (o := ⟨_, _, _, _, _, _⟩) rfl (fun K' hK => ?_) (AllReadyH.nil)
   go_simp
   refine hK.out _ _ (show _ = _ from (NBox.ext ((Ext.refl w).drew.alloc (.cells #[.int .i64 m.keep, .int .i64 0, .string ⟨#[]⟩] 35)) hN).cell 1) (fun hHeld => ?_)
   clear hK K'
   try simp only [Act.put, aS]
   obtain ⟨w2, hw2⟩ : ∃ W, (w.alloc (.cells #[.int .i64 m.keep, .int .i64 0, .string ⟨#[]⟩] 35)).drew = W := ⟨_, rfl⟩
   have E2 : Ext w w2 := by rw [← hw2]; exact ((Ext.refl w).alloc _).drew
   have hR1 : RdS w2 3 1 [.int .i64 m.keep, .int .i64 0, .string ⟨#[]⟩] (.slice (some ⟨w.heap.size, 0, none⟩) 1 1) := by rw [← hw2]; exact RdS.ext ((Ext.refl _).drew) (RdS.one (cs := #[.int .i64 m.keep, .int .i64 0, .string ⟨#[]⟩]) rfl)
   have N2 := NBox.ext E2 hN
   have O2 := owns_ext E2 hO
   have hs2 := E2.size
   have hHeld : w2.cell? ⟨B, 1, none⟩ = some (.int .i64 m.keep) := N2.cell 1
   have c02 := N2.cell 0
   rw [hw2]
   clear hw2
   refine wpAnyH_ready (rs := [11]) (by kernel_rfl) (by simp) ?_
   refine AllReadyH.cons (o := ⟨_, _, _, _, _, _⟩) rfl (fun K' hK => ?_) (AllReadyH.nil)
   refine wp_append_rd rfl T24 (by rfl) O2 (by rfl) hR1 (fun u hu => by simp only [List.mem_cons, List.not_mem_nil, or_false] at hu; rcases hu with rfl | rfl | rfl <;> rfl) (by omega) (by simp only [maxLen]; omega) (by omega) ?_
   intro v3 w3 hown3 hg3 hat3
   obtain ⟨g, cap, rfl, hgb, hgl⟩ := World.ownsRow.form hown3 (by omega)
   have N3 : NBox w3 B 76 #[.slice lA m.l.length lc, .int .i64 m.keep] := (hg3.block B (by have := N2.lt; omega) (fun e0 => absurd (owns_base O2 B e0.symm) (by omega))).trans N2
   refine hK.out _ _ (show _ = _ from N3.cell 1) (fun hHeld => ?_)
   clear hK K'
   try simp only [Act.put, aS]
   refine wpAnyH_take (i := 12) (oi := ⟨_, _, _, _, _, _⟩) (v := ?_) rfl (by kernel_rfl) (by kernel_rfl) (by kernel_rfl) (fun _ _ _ h => h) (Or.inl ⟨by rfl, ?_⟩) hHeld ?_
   rotate_left
   ·intro w hSw
    try dsimp only at hSw
    go_simp
    all_goals (first | with_reducible rfl | rw [if_pos (by omega)])
   try simp only [Act.put, aS]
   refine wpAnyH_take (i := 13) (oi := ⟨_, _, _, _, _, _⟩) (v := ?_) rfl (by kernel_rfl) (by kernel_rfl) (by kernel_rfl) (fun _ _ _ h => h) (Or.inl ⟨by rfl, ?_⟩) hHeld ?_
   rotate_left
   ·intro w hSw
    try dsimp only at hSw
    go_simp
    all_goals (first | with_reducible rfl | rw [if_pos (by omega)])
   try simp only [Act.put, aS]
   have x0 := N3.cell 0
   have x1 := N3.frozen 0
   refine wpAnyH_ready (rs := [14]) (by kernel_rfl) (by simp) ?_
   refine AllReadyH.cons (o := ⟨_, _, _, _, _, _⟩) rfl (fun K' hK => ?_) (AllReadyH.nil)
   go_simp
   have N4 := NBox.set N3 0 (.slice (some ⟨g, 0, none⟩) (m.l.length + 1) cap)
   have O4 := ownsRow_setCell_below hown3 (a := ⟨B, 0, none⟩) hB (.slice (some ⟨g, 0, none⟩) (m.l.length + 1) cap)
   refine hK.out _ _ (show _ = _ from N4.cell 1) (fun hHeld => ?_)
   clear hK K' x0 x1
   try simp only [Act.put, aS]
   refine wpAnyH_done (by kernel_rfl) ?_ _
   clear hHeld
   have F4 : Fr w (w3.setCell ⟨B, 0, none⟩ (.slice (some ⟨g, 0, none⟩) (m.l.length + 1) cap)) (fun k => k = B ∨ (Value.slice lA m.l.length lc).ownBlock = some k) := ((Fr.of_ext E2 _).trans ((Fr.grown hg3).mono (fun k h => .inr h))).trans ((Fr.setCell w3 B 0 _).mono (fun k h => .inl h))
   obtain ⟨w4, hw4⟩ : ∃ W, w3.setCell ⟨B, 0, none⟩ (.slice (some ⟨g, 0, none⟩) (m.l.length + 1) cap) = W := ⟨_, rfl⟩
   rw [hw4] at N4 O4 F4
   rw [hw4]
   clear hw4
   have x0 : w4.cell? ⟨B, 1, none⟩ = some (.int .i64 m.keep) := N4.cell 1
   have x1 := NBox.frozen N4 1
   go_wp2_with fail
   have N5 := NBox.set N4 1 (.int .i64 0)
   have O5 := ownsRow_setCell_below O4 (a := ⟨B, 1, none⟩) hB (.int .i64 0)
   have F5 : Fr w (w4.setCell ⟨B, 1, none⟩ (.int .i64 0)) (fun k => k = B ∨ (Value.slice lA m.l.length lc).ownBlock = some k) := F4.trans ((Fr.setCell w4 B 1 _).mono (fun k h => .inl h))
   obtain ⟨w5, hw5⟩ : ∃ W, w4.setCell ⟨B, 1, none⟩ (.int .i64 0) = W := ⟨_, rfl⟩
   rw [hw5] at N5 O5 F5
   rw [hw5]
   clear hw5 x0 x1
   have y0 : w5.cell? ⟨B, 0, none⟩ = some (.slice (some ⟨g, 0, none⟩) (m.l.length + 1) cap) := N5.cell 0
   have q1 : (0 : Int) ≤ (m.l.length : Int) := by omega
   have q2 : (m.l.length : Int) < (m.l.length : Int) + 1 := by omega
   have q3 : m.l.length < m.l.length + 1 := by omega
   go_quiet (fail)
   go_wp2_with fail
   go_ret
   have hs5 := F5.size
   rw [HL.out]
   have el : (m.l ++ [⟨m.keep, 0, ⟨#[]⟩⟩] : List Pc).length = m.l.length + 1 := by simp
   refine ⟨g, .slice (some ⟨g, 0, none⟩) (m.l.length + 1) cap, ?_, ⟨show NBox w5 B 76 _ from N5, ?_, hB, show base ≤ w5.heap.size by omega⟩, rfl, hat3.elim (fun h => .inl h.symm) (fun h => .inr (by have e9 : g = w2.heap.size := (by simpa [Value.ownBlock] using h); omega)), ⟨F5.os, F5.tape, F5.output, F5.size, F5.block⟩⟩
   ·show _ = Ending.returned (.pointer (some ⟨g, ((m.l ++ [⟨m.keep, 0, ⟨#[]⟩⟩] : List Pc).length - 1) * 3, none⟩))
    rw [el, Nat.add_sub_cancel]
    rfl
   ·show w5.ownsRow base 35 3 _ (m.l ++ [⟨m.keep, 0, ⟨#[]⟩⟩] : List Pc).length (pcVals (m.l ++ [⟨m.keep, 0, ⟨#[]⟩⟩]))
    rw [el, pcVals_append]
    exact O5
  ·go_simp
   refine hK.out _ _ (show _ = _ from (NBox.ext ((Ext.refl w).drew.alloc (.cells #[.int .i64 m.keep, .int .i64 0, .string ⟨#[]⟩] 35)) hN).cell 1) (fun hHeld => ?_)
   clear hK K'
   try simp only [Act.put, aS]
   obtain ⟨w2, hw2⟩ : ∃ W, (w.alloc (.cells #[.int .i64 m.keep, .int .i64 0, .string ⟨#[]⟩] 35)).drew = W := ⟨_, rfl⟩
   have E2 : Ext w w2 := by rw [← hw2]; exact ((Ext.refl w).alloc _).drew
   have hR1 : RdS w2 3 1 [.int .i64 m.keep, .int .i64 0, .string ⟨#[]⟩] (.slice (some ⟨w.heap.size, 0, none⟩) 1 1) := by rw [← hw2]; exact RdS.ext ((Ext.refl _).drew) (RdS.one (cs := #[.int .i64 m.keep, .int .i64 0, .string ⟨#[]⟩]) rfl)
   have N2 := NBox.ext E2 hN
   have O2 := owns_ext E2 hO
   have hs2 := E2.size
   have hHeld : w2.cell? ⟨B, 1, none⟩ = some (.int .i64 m.keep) := N2.cell 1
   have c02 := N2.cell 0
   rw [hw2]
   clear hw2
   refine wpAnyH_ready (rs := [4]) (by kernel_rfl) (by simp) ?_
   refine AllReadyH.cons (o := ⟨_, _, _, _, _, _⟩) rfl (fun K' hK => ?_) (AllReadyH.nil)
   go_simp
   refine hK.out _ _ hHeld (fun hHeld => ?_)
   clear hK K'
   try simp only [Act.put, aS]
   refine wpAnyH_ready (rs := [11]) (by kernel_rfl) (by simp) ?_
   refine AllReadyH.cons (o := ⟨_, _, _, _, _, _⟩) rfl (fun K' hK => ?_) (AllReadyH.nil)
   refine wp_append_rd rfl T24 (by rfl) O2 (by rfl) hR1 (fun u hu => by simp only [List.mem_cons, List.not_mem_nil, or_false] at hu; rcases hu with rfl | rfl | rfl <;> rfl) (by omega) (by simp only [maxLen]; omega) (by omega) ?_
   intro v3 w3 hown3 hg3 hat3
   obtain ⟨g, cap, rfl, hgb, hgl⟩ := World.ownsRow.form hown3 (by omega)
   have N3 : NBox w3 B 76 #[.slice lA m.l.length lc, .int .i64 m.keep] := (hg3.block B (by have := N2.lt; omega) (fun e0 => absurd (owns_base O2 B e0.symm) (by omega))).trans N2
   refine hK.out _ _ (show _ = _ from N3.cell 1) (fun hHeld => ?_)
   clear hK K'
   try simp only [Act.put, aS]
   refine wpAnyH_take (i := 12) (oi := ⟨_, _, _, _, _, _⟩) (v := ?_) rfl (by kernel_rfl) (by kernel_rfl) (by kernel_rfl) (fun _ _ _ h => h) (Or.inl ⟨by rfl, ?_⟩) hHeld ?_
   rotate_left
   ·intro w hSw
    try dsimp only at hSw
    go_simp
    all_goals (first | with_reducible rfl | rw [if_pos (by omega)])
   try simp only [Act.put, aS]
   refine wpAnyH_take (i := 13) (oi := ⟨_, _, _, _, _, _⟩) (v := ?_) rfl (by kernel_rfl) (by kernel_rfl) (by kernel_rfl) (fun _ _ _ h => h) (Or.inl ⟨by rfl, ?_⟩) hHeld ?_
   rotate_left
   ·intro w hSw
    try dsimp only at hSw
    go_simp
    all_goals (first | with_reducible rfl | rw [if_pos (by omega)])
   try simp only [Act.put, aS]
   have x0 := N3.cell 0
   have x1 := N3.frozen 0
   refine wpAnyH_ready (rs := [14]) (by kernel_rfl) (by simp) ?_
   refine AllReadyH.cons (o := ⟨_, _, _, _, _, _⟩) rfl (fun K' hK => ?_) (AllReadyH.nil)
   go_simp
   have N4 := NBox.set N3 0 (.slice (some ⟨g, 0, none⟩) (m.l.length + 1) cap)
   have O4 := ownsRow_setCell_below hown3 (a := ⟨B, 0, none⟩) hB (.slice (some ⟨g, 0, none⟩) (m.l.length + 1) cap)
   refine hK.out _ _ (show _ = _ from N4.cell 1) (fun hHeld => ?_)
   clear hK K' x0 x1
   try simp only [Act.put, aS]
   refine wpAnyH_done (by kernel_rfl) ?_ _
   clear hHeld
   have F4 : Fr w (w3.setCell ⟨B, 0, none⟩ (.slice (some ⟨g, 0, none⟩) (m.l.length + 1) cap)) (fun k => k = B ∨ (Value.slice lA m.l.length lc).ownBlock = some k) := ((Fr.of_ext E2 _).trans ((Fr.grown hg3).mono (fun k h => .inr h))).trans ((Fr.setCell w3 B 0 _).mono (fun k h => .inl h))
   obtain ⟨w4, hw4⟩ : ∃ W, w3.setCell ⟨B, 0, none⟩ (.slice (some ⟨g, 0, none⟩) (m.l.length + 1) cap) = W := ⟨_, rfl⟩
   rw [hw4] at N4 O4 F4
   rw [hw4]
   clear hw4
   have x0 : w4.cell? ⟨B, 1, none⟩ = some (.int .i64 m.keep) := N4.cell 1
   have x1 := NBox.frozen N4 1
   go_wp2_with fail
   have N5 := NBox.set N4 1 (.int .i64 0)
   have O5 := ownsRow_setCell_below O4 (a := ⟨B, 1, none⟩) hB (.int .i64 0)
   have F5 : Fr w (w4.setCell ⟨B, 1, none⟩ (.int .i64 0)) (fun k => k = B ∨ (Value.slice lA m.l.length lc).ownBlock = some k) := F4.trans ((Fr.setCell w4 B 1 _).mono (fun k h => .inl h))
   obtain ⟨w5, hw5⟩ : ∃ W, w4.setCell ⟨B, 1, none⟩ (.int .i64 0) = W := ⟨_, rfl⟩
   rw [hw5] at N5 O5 F5
   rw [hw5]
   clear hw5 x0 x1
   have y0 : w5.cell? ⟨B, 0, none⟩ = some (.slice (some ⟨g, 0, none⟩) (m.l.length + 1) cap) := N5.cell 0
   have q1 : (0 : Int) ≤ (m.l.length : Int) := by omega
   have q2 : (m.l.length : Int) < (m.l.length : Int) + 1 := by omega
   have q3 : m.l.length < m.l.length + 1 := by omega
   go_quiet (fail)
   go_wp2_with fail
   go_ret
   have hs5 := F5.size
   rw [HL.out]
   have el : (m.l ++ [⟨m.keep, 0, ⟨#[]⟩⟩] : List Pc).length = m.l.length + 1 := by simp
   refine ⟨g, .slice (some ⟨g, 0, none⟩) (m.l.length + 1) cap, ?_, ⟨show NBox w5 B 76 _ from N5, ?_, hB, show base ≤ w5.heap.size by omega⟩, rfl, hat3.elim (fun h => .inl h.symm) (fun h => .inr (by have e9 : g = w2.heap.size := (by simpa [Value.ownBlock] using h); omega)), ⟨F5.os, F5.tape, F5.output, F5.size, F5.block⟩⟩
   ·show _ = Ending.returned (.pointer (some ⟨g, ((m.l ++ [⟨m.keep, 0, ⟨#[]⟩⟩] : List Pc).length - 1) * 3, none⟩))
    rw [el, Nat.add_sub_cancel]
    rfl
   ·show w5.ownsRow base 35 3 _ (m.l ++ [⟨m.keep, 0, ⟨#[]⟩⟩] : List Pc).length (pcVals (m.l ++ [⟨m.keep, 0, ⟨#[]⟩⟩]))
    rw [el, pcVals_append]
    exact O5
 ·rcases Nat.eq_zero_or_pos m.l.length with h0 | h0
  ·obtain ⟨ml, mk⟩ := m
   simp only at *
   obtain rfl : ml = [] := List.length_eq_zero_iff.1 h0
   have HL : Hid ((⟨[], mk⟩ : Mk).last = ⟨[] ++ [⟨mk, 0, ⟨#[]⟩⟩], 0⟩) := if_pos (.inr rfl)
   simp only [List.length_nil] at *
   have t1 : decide (0 < mk) = false := decide_eq_false (by omega)
   clear h0
   go_enter Try.func80, Try.ntmps80
   go_wp2_with fail
   refine wp_region_held_drew (S := fun W => W.cell? ⟨B, 1, none⟩ = some (.int .i64 mk)) (by kernel_rfl) (show _ = _ from c1) (fun hHeld => ?_)
   clear c1
   refine wpAnyH_take (i := 0) (oi := ⟨_, _, _, _, _, _⟩) (v := ?_) rfl (by kernel_rfl) (by kernel_rfl) (by kernel_rfl) (fun _ _ _ h => h) (Or.inl ⟨by rfl, ?_⟩) hHeld ?_
   rotate_left
   ·intro w hSw
    try dsimp only at hSw
    go_simp
    all_goals (first | with_reducible rfl | rw [if_pos (by omega)])
   try simp only [Act.put, aS]
   refine wpAnyH_take (i := 1) (oi := ⟨_, _, _, _, _, _⟩) (v := ?_) rfl (by kernel_rfl) (by kernel_rfl) (by kernel_rfl) (fun _ _ _ h => h) (Or.inl ⟨by rfl, ?_⟩) hHeld ?_
   rotate_left
   ·intro w hSw
    try dsimp only at hSw
    go_simp
    all_goals (first | with_reducible rfl | rw [if_pos (by omega)])
   try simp only [Act.put, aS]
   refine wpAnyH_take (i := 2) (oi := ⟨_, _, _, _, _, _⟩) (v := ?_) rfl (by kernel_rfl) (by kernel_rfl) (by kernel_rfl) (fun _ _ _ h => h) (Or.inl ⟨by rfl, ?_⟩) hHeld ?_
   rotate_left
   ·intro w hSw
    try dsimp only at hSw
    go_simp
    all_goals (first | with_reducible rfl | rw [if_pos (by omega)])
   try simp only [Act.put, aS]
   refine wpAnyH_take (i := 3) (oi := ⟨_, _, _, _, _, _⟩) (v := ?_) rfl (by kernel_rfl) (by kernel_rfl) (by kernel_rfl) (fun _ _ _ h => h) (Or.inl ⟨by rfl, ?_⟩) hHeld ?_
   rotate_left
   ·intro w hSw
    try dsimp only at hSw
    go_simp
    all_goals (first | with_reducible rfl | rw [if_pos (by omega)])
   try simp only [Act.put, aS]
   refine wpAnyH_take (i := 5) (oi := ⟨_, _, _, _, _, _⟩) (v := ?_) rfl (by kernel_rfl) (by kernel_rfl) (by kernel_rfl) (fun _ _ _ h => h) (Or.inl ⟨by rfl, ?_⟩) hHeld ?_
   rotate_left
   ·intro w hSw
    try dsimp only at hSw
    go_simp
    all_goals (first | with_reducible rfl | rw [if_pos (by omega)])
   try simp only [Act.put, aS]
   refine wpAnyH_take (i := 6) (oi := ⟨_, _, _, _, _, _⟩) (v := ?_) rfl (by kernel_rfl) (by kernel_rfl) (by kernel_rfl) (fun _ _ _ h => h) (Or.inl ⟨by rfl, ?_⟩) hHeld ?_
   rotate_left
   ·intro w hSw
    try dsimp only at hSw
    go_simp
    all_goals (first | with_reducible rfl | rw [if_pos (by omega)])
   try simp only [Act.put, aS]
   refine wpAnyH_take (i := 7) (oi := ⟨_, _, _, _, _, _⟩) (v := ?_) rfl (by kernel_rfl) (by kernel_rfl) (by kernel_rfl) (fun _ _ _ h => h) (Or.inl ⟨by rfl, ?_⟩) hHeld ?_
   rotate_left
   ·intro w hSw
    try dsimp only at hSw
    go_simp
    all_goals (first | with_reducible rfl | rw [if_pos (by omega)])
   try simp only [Act.put, aS]
   refine wpAnyH_take (i := 8) (oi := ⟨_, _, _, _, _, _⟩) (v := ?_) rfl (by kernel_rfl) (by kernel_rfl) (by kernel_rfl) (fun _ _ _ h => h) (Or.inl ⟨by rfl, ?_⟩) hHeld ?_
   rotate_left
   ·intro w hSw
    try dsimp only at hSw
    go_simp
    all_goals (first | with_reducible rfl | rw [if_pos (by omega)])
   try simp only [Act.put, aS]
   refine wpAnyH_take (i := 9) (oi := ⟨_, _, _, _, _, _⟩) (v := ?_) rfl (by kernel_rfl) (by kernel_rfl) (by kernel_rfl) (fun _ _ _ h => h) (Or.inl ⟨by rfl, ?_⟩) hHeld ?_
   rotate_left
   ·intro w hSw
    try dsimp only at hSw
    go_simp
    all_goals (first | with_reducible rfl | rw [if_pos (by omega)])
   try simp only [Act.put, aS]
   refine wpAnyH_ready (rs := [4, 10]) (by kernel_rfl) (by simp) ?_
   refine AllReadyH.cons (o := ⟨_, _, _, _, _, _⟩) rfl (fun K' hK => ?_) (AllReadyH.cons (o := ⟨_, _, _, _, _, _⟩) rfl (fun K' hK => ?_) (AllReadyH.nil))
   ·go_simp
    refine hK.out _ _ hHeld (fun hHeld => ?_)
    clear hK K'
    try simp only [Act.put, aS]
    refine wpAnyH_ready (rs := [10]) (by kernel_rfl) (by simp) ?_
    refine AllReadyH.cons (o := ⟨_, _, _, _, _, _⟩) rfl (fun K' hK => ?_) (AllReadyH.nil)
    go_simp
    refine hK.out _ _ (show _ = _ from (NBox.ext ((Ext.refl w).drew.alloc (.cells #[.int .i64 mk, .int .i64 0, .string ⟨#[]⟩] 35)) hN).cell 1) (fun hHeld => ?_)
    clear hK K'
    try simp only [Act.put, aS]
    obtain ⟨w2, hw2⟩ : ∃ W, (w.alloc (.cells #[.int .i64 mk, .int .i64 0, .string ⟨#[]⟩] 35)).drew = W := ⟨_, rfl⟩
    have E2 : Ext w w2 := by rw [← hw2]; exact ((Ext.refl w).alloc _).drew
    have hR1 : RdS w2 3 1 [.int .i64 mk, .int .i64 0, .string ⟨#[]⟩] (.slice (some ⟨w.heap.size, 0, none⟩) 1 1) := by rw [← hw2]; exact RdS.ext ((Ext.refl _).drew) (RdS.one (cs := #[.int .i64 mk, .int .i64 0, .string ⟨#[]⟩]) rfl)
    have N2 := NBox.ext E2 hN
    have O2 := owns_ext E2 hO
    have hs2 := E2.size
    have hHeld : w2.cell? ⟨B, 1, none⟩ = some (.int .i64 mk) := N2.cell 1
    have c02 := N2.cell 0
    rw [hw2]
    clear hw2
    refine wpAnyH_ready (rs := [11]) (by kernel_rfl) (by simp) ?_
    refine AllReadyH.cons (o := ⟨_, _, _, _, _, _⟩) rfl (fun K' hK => ?_) (AllReadyH.nil)
    refine wp_append_rd rfl T24 (by rfl) O2 (by rfl) hR1 (fun u hu => by simp only [List.mem_cons, List.not_mem_nil, or_false] at hu; rcases hu with rfl | rfl | rfl <;> rfl) (by omega) (by simp only [maxLen]; omega) (by omega) ?_
    intro v3 w3 hown3 hg3 hat3; simp only [Nat.zero_add] at hown3
    obtain ⟨g, cap, rfl, hgb, hgl⟩ := World.ownsRow.form hown3 (by omega)
    have N3 : NBox w3 B 76 #[.slice lA 0 lc, .int .i64 mk] := (hg3.block B (by have := N2.lt; omega) (fun e0 => absurd (owns_base O2 B e0.symm) (by omega))).trans N2
    refine hK.out _ _ (show _ = _ from N3.cell 1) (fun hHeld => ?_)
    clear hK K'
    try simp only [Act.put, aS]
    refine wpAnyH_take (i := 12) (oi := ⟨_, _, _, _, _, _⟩) (v := ?_) rfl (by kernel_rfl) (by kernel_rfl) (by kernel_rfl) (fun _ _ _ h => h) (Or.inl ⟨by rfl, ?_⟩) hHeld ?_
    rotate_left
    ·intro w hSw
     try dsimp only at hSw
     go_simp
     all_goals (first | with_reducible rfl | rw [if_pos (by omega)])
    try simp only [Act.put, aS]
    refine wpAnyH_take (i := 13) (oi := ⟨_, _, _, _, _, _⟩) (v := ?_) rfl (by kernel_rfl) (by kernel_rfl) (by kernel_rfl) (fun _ _ _ h => h) (Or.inl ⟨by rfl, ?_⟩) hHeld ?_
    rotate_left
    ·intro w hSw
     try dsimp only at hSw
     go_simp
     all_goals (first | with_reducible rfl | rw [if_pos (by omega)])
    try simp only [Act.put, aS]
    have x0 := N3.cell 0
    have x1 := N3.frozen 0
    refine wpAnyH_ready (rs := [14]) (by kernel_rfl) (by simp) ?_
    refine AllReadyH.cons (o := ⟨_, _, _, _, _, _⟩) rfl (fun K' hK => ?_) (AllReadyH.nil)
    go_simp
    have N4 := NBox.set N3 0 (.slice (some ⟨g, 0, none⟩) (1) cap)
    have O4 := ownsRow_setCell_below hown3 (a := ⟨B, 0, none⟩) hB (.slice (some ⟨g, 0, none⟩) (1) cap)
    refine hK.out _ _ (show _ = _ from N4.cell 1) (fun hHeld => ?_)
    clear hK K' x0 x1
    try simp only [Act.put, aS]
    refine wpAnyH_done (by kernel_rfl) ?_ _
    clear hHeld
    have F4 : Fr w (w3.setCell ⟨B, 0, none⟩ (.slice (some ⟨g, 0, none⟩) (1) cap)) (fun k => k = B ∨ (Value.slice lA 0 lc).ownBlock = some k) := ((Fr.of_ext E2 _).trans ((Fr.grown hg3).mono (fun k h => .inr h))).trans ((Fr.setCell w3 B 0 _).mono (fun k h => .inl h))
    obtain ⟨w4, hw4⟩ : ∃ W, w3.setCell ⟨B, 0, none⟩ (.slice (some ⟨g, 0, none⟩) (1) cap) = W := ⟨_, rfl⟩
    rw [hw4] at N4 O4 F4
    rw [hw4]
    clear hw4
    have x0 : w4.cell? ⟨B, 1, none⟩ = some (.int .i64 mk) := N4.cell 1
    have x1 := NBox.frozen N4 1
    go_wp2_with fail
    have N5 := NBox.set N4 1 (.int .i64 0)
    have O5 := ownsRow_setCell_below O4 (a := ⟨B, 1, none⟩) hB (.int .i64 0)
    have F5 : Fr w (w4.setCell ⟨B, 1, none⟩ (.int .i64 0)) (fun k => k = B ∨ (Value.slice lA 0 lc).ownBlock = some k) := F4.trans ((Fr.setCell w4 B 1 _).mono (fun k h => .inl h))
    obtain ⟨w5, hw5⟩ : ∃ W, w4.setCell ⟨B, 1, none⟩ (.int .i64 0) = W := ⟨_, rfl⟩
    rw [hw5] at N5 O5 F5
    rw [hw5]
    clear hw5 x0 x1
    have y0 : w5.cell? ⟨B, 0, none⟩ = some (.slice (some ⟨g, 0, none⟩) (1) cap) := N5.cell 0
    have q1 : (0 : Int) ≤ (0 : Int) := by omega
    have q2 : (0 : Int) < (0 : Int) + 1 := by omega
    have q3 : 0 < 1 := by omega
    go_quiet (fail)
    go_wp2_with fail
    go_ret
    have hs5 := F5.size
    rw [HL.out]
    have el : (([] : List Pc) ++ [⟨mk, 0, ⟨#[]⟩⟩] : List Pc).length = 1 := by simp
    refine ⟨g, .slice (some ⟨g, 0, none⟩) (1) cap, ?_, ⟨show NBox w5 B 76 _ from N5, ?_, hB, show base ≤ w5.heap.size by omega⟩, rfl, hat3.elim (fun h => .inl h.symm) (fun h => .inr (by have e9 : g = w2.heap.size := (by simpa [Value.ownBlock] using h); omega)), ⟨F5.os, F5.tape, F5.output, F5.size, F5.block⟩⟩
    ·show _ = Ending.returned (.pointer (some ⟨g, ((([] : List Pc) ++ [⟨mk, 0, ⟨#[]⟩⟩] : List Pc).length - 1) * 3, none⟩))
     rw [el]
     rfl
    ·show w5.ownsRow base 35 3 _ (([] : List Pc) ++ [⟨mk, 0, ⟨#[]⟩⟩] : List Pc).length (pcVals (([] : List Pc) ++ [⟨mk, 0, ⟨#[]⟩⟩]))
     rw [el, pcVals_append]
     exact O5
   ·go_simp
    refine hK.out _ _ (show _ = _ from (NBox.ext ((Ext.refl w).drew.alloc (.cells #[.int .i64 mk, .int .i64 0, .string ⟨#[]⟩] 35)) hN).cell 1) (fun hHeld => ?_)
    clear hK K'
    try simp only [Act.put, aS]
    obtain ⟨w2, hw2⟩ : ∃ W, (w.alloc (.cells #[.int .i64 mk, .int .i64 0, .string ⟨#[]⟩] 35)).drew = W := ⟨_, rfl⟩
    have E2 : Ext w w2 := by rw [← hw2]; exact ((Ext.refl w).alloc _).drew
    have hR1 : RdS w2 3 1 [.int .i64 mk, .int .i64 0, .string ⟨#[]⟩] (.slice (some ⟨w.heap.size, 0, none⟩) 1 1) := by rw [← hw2]; exact RdS.ext ((Ext.refl _).drew) (RdS.one (cs := #[.int .i64 mk, .int .i64 0, .string ⟨#[]⟩]) rfl)
    have N2 := NBox.ext E2 hN
    have O2 := owns_ext E2 hO
    have hs2 := E2.size
    have hHeld : w2.cell? ⟨B, 1, none⟩ = some (.int .i64 mk) := N2.cell 1
    have c02 := N2.cell 0
    rw [hw2]
    clear hw2
    refine wpAnyH_ready (rs := [4]) (by kernel_rfl) (by simp) ?_
    refine AllReadyH.cons (o := ⟨_, _, _, _, _, _⟩) rfl (fun K' hK => ?_) (AllReadyH.nil)
    go_simp
    refine hK.out _ _ hHeld (fun hHeld => ?_)
    clear hK K'
    try simp only [Act.put, aS]
    refine wpAnyH_ready (rs := [11]) (by kernel_rfl) (by simp) ?_
    refine AllReadyH.cons (o := ⟨_, _, _, _, _, _⟩) rfl (fun K' hK => ?_) (AllReadyH.nil)
    refine wp_append_rd rfl T24 (by rfl) O2 (by rfl) hR1 (fun u hu => by simp only [List.mem_cons, List.not_mem_nil, or_false] at hu; rcases hu with rfl | rfl | rfl <;> rfl) (by omega) (by simp only [maxLen]; omega) (by omega) ?_
    intro v3 w3 hown3 hg3 hat3; simp only [Nat.zero_add] at hown3
    obtain ⟨g, cap, rfl, hgb, hgl⟩ := World.ownsRow.form hown3 (by omega)
    have N3 : NBox w3 B 76 #[.slice lA 0 lc, .int .i64 mk] := (hg3.block B (by have := N2.lt; omega) (fun e0 => absurd (owns_base O2 B e0.symm) (by omega))).trans N2
    refine hK.out _ _ (show _ = _ from N3.cell 1) (fun hHeld => ?_)
    clear hK K'
    try simp only [Act.put, aS]
    refine wpAnyH_take (i := 12) (oi := ⟨_, _, _, _, _, _⟩) (v := ?_) rfl (by kernel_rfl) (by kernel_rfl) (by kernel_rfl) (fun _ _ _ h => h) (Or.inl ⟨by rfl, ?_⟩) hHeld ?_
    rotate_left
    ·intro w hSw
     try dsimp only at hSw
     go_simp
     all_goals (first | with_reducible rfl | rw [if_pos (by omega)])
    try simp only [Act.put, aS]
    refine wpAnyH_take (i := 13) (oi := ⟨_, _, _, _, _, _⟩) (v := ?_) rfl (by kernel_rfl) (by kernel_rfl) (by kernel_rfl) (fun _ _ _ h => h) (Or.inl ⟨by rfl, ?_⟩) hHeld ?_
    rotate_left
    ·intro w hSw
     try dsimp only at hSw
     go_simp
     all_goals (first | with_reducible rfl | rw [if_pos (by omega)])
    try simp only [Act.put, aS]
    have x0 := N3.cell 0
    have x1 := N3.frozen 0
    refine wpAnyH_ready (rs := [14]) (by kernel_rfl) (by simp) ?_
    refine AllReadyH.cons (o := ⟨_, _, _, _, _, _⟩) rfl (fun K' hK => ?_) (AllReadyH.nil)
    go_simp
    have N4 := NBox.set N3 0 (.slice (some ⟨g, 0, none⟩) (1) cap)
    have O4 := ownsRow_setCell_below hown3 (a := ⟨B, 0, none⟩) hB (.slice (some ⟨g, 0, none⟩) (1) cap)
    refine hK.out _ _ (show _ = _ from N4.cell 1) (fun hHeld => ?_)
    clear hK K' x0 x1
    try simp only [Act.put, aS]
    refine wpAnyH_done (by kernel_rfl) ?_ _
    clear hHeld
    have F4 : Fr w (w3.setCell ⟨B, 0, none⟩ (.slice (some ⟨g, 0, none⟩) (1) cap)) (fun k => k = B ∨ (Value.slice lA 0 lc).ownBlock = some k) := ((Fr.of_ext E2 _).trans ((Fr.grown hg3).mono (fun k h => .inr h))).trans ((Fr.setCell w3 B 0 _).mono (fun k h => .inl h))
    obtain ⟨w4, hw4⟩ : ∃ W, w3.setCell ⟨B, 0, none⟩ (.slice (some ⟨g, 0, none⟩) (1) cap) = W := ⟨_, rfl⟩
    rw [hw4] at N4 O4 F4
    rw [hw4]
    clear hw4
    have x0 : w4.cell? ⟨B, 1, none⟩ = some (.int .i64 mk) := N4.cell 1
    have x1 := NBox.frozen N4 1
    go_wp2_with fail
    have N5 := NBox.set N4 1 (.int .i64 0)
    have O5 := ownsRow_setCell_below O4 (a := ⟨B, 1, none⟩) hB (.int .i64 0)
    have F5 : Fr w (w4.setCell ⟨B, 1, none⟩ (.int .i64 0)) (fun k => k = B ∨ (Value.slice lA 0 lc).ownBlock = some k) := F4.trans ((Fr.setCell w4 B 1 _).mono (fun k h => .inl h))
    obtain ⟨w5, hw5⟩ : ∃ W, w4.setCell ⟨B, 1, none⟩ (.int .i64 0) = W := ⟨_, rfl⟩
    rw [hw5] at N5 O5 F5
    rw [hw5]
    clear hw5 x0 x1
    have y0 : w5.cell? ⟨B, 0, none⟩ = some (.slice (some ⟨g, 0, none⟩) (1) cap) := N5.cell 0
    have q1 : (0 : Int) ≤ (0 : Int) := by omega
    have q2 : (0 : Int) < (0 : Int) + 1 := by omega
    have q3 : 0 < 1 := by omega
    go_quiet (fail)
    go_wp2_with fail
    go_ret
    have hs5 := F5.size
    rw [HL.out]
    have el : (([] : List Pc) ++ [⟨mk, 0, ⟨#[]⟩⟩] : List Pc).length = 1 := by simp
    refine ⟨g, .slice (some ⟨g, 0, none⟩) (1) cap, ?_, ⟨show NBox w5 B 76 _ from N5, ?_, hB, show base ≤ w5.heap.size by omega⟩, rfl, hat3.elim (fun h => .inl h.symm) (fun h => .inr (by have e9 : g = w2.heap.size := (by simpa [Value.ownBlock] using h); omega)), ⟨F5.os, F5.tape, F5.output, F5.size, F5.block⟩⟩
    ·show _ = Ending.returned (.pointer (some ⟨g, ((([] : List Pc) ++ [⟨mk, 0, ⟨#[]⟩⟩] : List Pc).length - 1) * 3, none⟩))
     rw [el]
     rfl
    ·show w5.ownsRow base 35 3 _ (([] : List Pc) ++ [⟨mk, 0, ⟨#[]⟩⟩] : List Pc).length (pcVals (([] : List Pc) ++ [⟨mk, 0, ⟨#[]⟩⟩]))
     rw [el, pcVals_append]
     exact O5
  ·have HL : Hid (m.last = m) := if_neg (fun h => h.elim (fun h1 => by omega) (fun h1 => by rw [h1] at h0; simp at h0))
   have t1 : decide (0 < m.keep) = false := decide_eq_false (by omega)
   have t2 : ((m.l.length : Int) == 0) = false := by rw [beq_eq_false_iff_ne]; omega
   have t3 : (m.l.length == 0) = false := by rw [beq_eq_false_iff_ne]; omega
   obtain ⟨g, cap, hsl, hgb, _⟩ := World.ownsRow.form hO h0
   simp only [Value.slice.injEq, true_and] at hsl
   obtain ⟨rfl, rfl⟩ := hsl
   have q1 : (0 : Int) ≤ (m.l.length : Int) - 1 := by omega
   have q2 : (m.l.length : Int) - 1 < (m.l.length : Int) := by omega
   have q3 : ((m.l.length : Int) - 1).toNat = m.l.length - 1 := by omega
   have r1 : (1 : Int) ≤ (m.l.length : Int) := by omega
   have r2 : 1 ≤ m.l.length := by omega
   go_enter Try.func80, Try.ntmps80
   go_wp2_with fail
   go_quiet (fail)
   go_wp2_with fail
   go_ret
   rw [HL.out]
   exact ⟨g, _, rfl, ⟨show NBox w B 76 _ from hN, show w.ownsRow base 35 3 _ _ _ from hO, hB, show base ≤ w.heap.size from hbs⟩, rfl, .inl rfl, Fr.of_ext ((Ext.refl w).drewN _) _⟩
end Go.Proofs.Ytkimbpeapolcbaa.Sy
