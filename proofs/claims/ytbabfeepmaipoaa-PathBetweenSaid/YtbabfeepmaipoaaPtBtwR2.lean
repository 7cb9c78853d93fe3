/- Chapter 04: the shift between two paths, the document's. -/
import Derived.Test.YtbabfeepmaipoaaPtBtwR
import Derived.Deep.RegionHeld3
namespace Go.Proofs.Ytbabfeepmaipoaa.Pt
open Go.RowKit Go.Proofs.Ytbabfeepmaipoaa.Bw Go.Proofs.Ytbabfeepmaipoaa.Bs

set_option maxRecDepth 100000 in
set_option maxHeartbeats 4000000 in
theorem btwR_no (p q : List Int) (u v : Value) (w : World) (hp : RdI w p u) (hq : RdI w q v) (hno : ¬ (p.length = q.length ∧ may p = true ∧ may q = true)) : Calls Try.prog 13 #[u, v] w (Ret w fun r _ => r = btwV none) := by
  have hm1 := fun W (hW : Ext w W) => mayR_any p u W (RdS.ext hW hp)
  have hm2 := fun W (hW : Ext w W) => mayR_any q v W (RdS.ext hW hq)
  obtain ⟨A, c, rfl, _, a1, a2, _⟩ := hp
  obtain ⟨B, d, rfl, _, b1, b2, _⟩ := hq
  unfold maxLen at a2 b2
  have E := Ext.refl w
  generalize may p = x1 at *
  generalize may q = x2 at *
  rcases x1 with _ | _
  · clear hm2 hno
    go_enter Try.func13, Try.ntmps13
    go_wp2_with (first | (go_at_call 10; refine (hm1 _ E).mono ?_; clear hm1; rintro e ua ⟨r, rfl, rfl, hE⟩; replace E := Ext.trans E hE; clear hE))
    go_ret2
    exact ⟨_, rfl, rfl, E⟩
  rcases x2 with _ | _
  · clear hno
    go_enter Try.func13, Try.ntmps13
    go_wp2_with (first | (go_at_call 10; refine (hm1 _ E).mono ?_; clear hm1; rintro e ua ⟨r, rfl, rfl, hE⟩; replace E := Ext.trans E hE; clear hE) | (go_at_call 10; refine (hm2 _ E).mono ?_; clear hm2; rintro e ub ⟨r, rfl, rfl, hE⟩; replace E := Ext.trans E hE; clear hE))
    go_ret2
    exact ⟨_, rfl, rfl, E⟩
  have hl : p.length ≠ q.length := fun h => hno ⟨h, rfl, rfl⟩
  have l1 : ((p.length : Int) != (q.length : Int)) = true := by simp; omega
  have l2 : (p.length != q.length) = true := by simpa using hl
  clear hno hl
  go_enter Try.func13, Try.ntmps13
  go_wp2_with (first | (go_at_call 10; refine (hm1 _ E).mono ?_; clear hm1; rintro e ua ⟨r, rfl, rfl, hE⟩; replace E := Ext.trans E hE; clear hE) | (go_at_call 10; refine (hm2 _ E).mono ?_; clear hm2; rintro e ub ⟨r, rfl, rfl, hE⟩; replace E := Ext.trans E hE; clear hE))
  go_ret2
  exact ⟨_, rfl, rfl, E⟩

/-- What is behind a place of a row. -/
theorem RdI.drop {w : World} {p : List Int} {b off c : Nat} (h : RdI w p (.slice (some ⟨b, off, none⟩) p.length c)) (k : Nat) (hk : k ≤ p.length) {t : Option Addr} (ht : k < c → t = some ⟨b, off + k, none⟩) : RdI w (p.drop k) (.slice t (p.length - k) (c - k)) := by
  obtain ⟨A', c', he, _, h1, h2, h3⟩ := h
  simp only [Value.slice.injEq, true_and] at he
  obtain ⟨rfl, rfl⟩ := he
  have hl : (p.drop k).length = p.length - k := by simp
  rw [RdI, hl]
  refine ⟨t, c - k, rfl, by simp, by omega, by omega, fun h0 => ?_⟩
  obtain ⟨b', off', e, h5⟩ := h3 (by omega)
  simp only [Option.some.injEq, Addr.mk.injEq, and_true] at e
  obtain ⟨rfl, rfl⟩ := e
  refine ⟨b, off + k, ht (by omega), fun j u hu => ?_⟩
  have := h5 (k + j) u (by rw [List.getElem?_map] at hu ⊢; rw [List.getElem?_drop] at hu; exact hu)
  rwa [← Nat.add_assoc] at this

set_option maxRecDepth 100000 in
set_option maxHeartbeats 4000000 in
theorem btwR_same (p q : List Int) (u v : Value) (w : World) (hp : RdI w p u) (hq : RdI w q v) (hl : p.length = q.length) (h1 : may p = true) (h2 : may q = true) (hn : comm p q = p.length) : Calls Try.prog 13 #[u, v] w (Ret w fun r _ => r = btwV none) := by
  have hm1 : ∀ W, Ext w W → Calls Try.prog 10 #[u] W (Ret W fun r _ => r = .bool true) := fun W hW => by
    have := mayR_any p u W (RdS.ext hW hp)
    rwa [h1] at this
  have hm2 : ∀ W, Ext w W → Calls Try.prog 10 #[v] W (Ret W fun r _ => r = .bool true) := fun W hW => by
    have := mayR_any q v W (RdS.ext hW hq)
    rwa [h2] at this
  have hc := fun W (hW : Ext w W) => common_any p q u v W (RdS.ext hW hp) (RdS.ext hW hq)
  have hle := comm_le p q
  obtain ⟨A, c, rfl, _, a1, a2, _⟩ := hp
  obtain ⟨B, d, rfl, _, b1, b2, _⟩ := hq
  unfold maxLen at a2 b2
  have l1 : ((p.length : Int) != (q.length : Int)) = false := by rw [hl]; simp
  have l2 : (p.length != q.length) = false := by rw [hl]; simp
  have E := Ext.refl w
  rw [hn] at hc
  have y1 : ((p.length : Int) == (p.length : Int)) = true := by simp
  clear hl h1 h2 hn hle
  go_enter Try.func13, Try.ntmps13
  go_wp2_with (first | (go_at_call 10; refine (hm1 _ E).mono ?_; clear hm1; rintro e ua ⟨r, rfl, rfl, hE⟩; replace E := Ext.trans E hE; clear hE) | (go_at_call 10; refine (hm2 _ E).mono ?_; clear hm2; rintro e ub ⟨r, rfl, rfl, hE⟩; replace E := Ext.trans E hE; clear hE) | (go_at_call 19; refine (hc _ E).mono ?_; clear hc; rintro e uc ⟨r, rfl, rfl, hE⟩; replace E := Ext.trans E hE; clear hE))
  refine wp_region_held_drew (S := fun W => Ext w W) (by kernel_rfl) E.drew (fun hHeld => ?_)
  refine wpAnyH_take (i := 0) (oi := ⟨_, _, _, _, _, _⟩) (v := ?_) rfl (by kernel_rfl) (by kernel_rfl) (by kernel_rfl) (fun _ _ _ h => h) (Or.inl ⟨by rfl, ?_⟩) hHeld ?_
  rotate_left
  · intro w hSw
    try dsimp only at hSw
    go_simp
    all_goals (first | with_reducible rfl | rw [if_pos (by omega)])
  try simp only [Act.put, List.setIfInBounds_toArray, List.set_cons_zero, List.set_cons_succ]
  refine wpAnyH_take (i := 1) (oi := ⟨_, _, _, _, _, _⟩) (v := ?_) rfl (by kernel_rfl) (by kernel_rfl) (by kernel_rfl) (fun _ _ _ h => h) (Or.inl ⟨by rfl, ?_⟩) hHeld ?_
  rotate_left
  · intro w hSw
    try dsimp only at hSw
    go_simp
    all_goals (first | with_reducible rfl | rw [if_pos (by omega)])
  try simp only [Act.put, List.setIfInBounds_toArray, List.set_cons_zero, List.set_cons_succ]
  refine wpAnyH_take (i := 2) (oi := ⟨_, _, _, _, _, _⟩) (v := ?_) rfl (by kernel_rfl) (by kernel_rfl) (by kernel_rfl) (fun _ _ _ h => h) (Or.inl ⟨by rfl, ?_⟩) hHeld ?_
  rotate_left
  · intro w hSw
    try dsimp only at hSw
    go_simp
    all_goals (first | with_reducible rfl | rw [if_pos (by omega)])
  try simp only [Act.put, List.setIfInBounds_toArray, List.set_cons_zero, List.set_cons_succ]
  refine wpAnyH_take (i := 3) (oi := ⟨_, _, _, _, _, _⟩) (v := ?_) rfl (by kernel_rfl) (by kernel_rfl) (by kernel_rfl) (fun _ _ _ h => h) (Or.inl ⟨by rfl, ?_⟩) hHeld ?_
  rotate_left
  · intro w hSw
    try dsimp only at hSw
    go_simp
    all_goals (first | with_reducible rfl | rw [if_pos (by omega)])
  try simp only [Act.put, List.setIfInBounds_toArray, List.set_cons_zero, List.set_cons_succ]
  refine wpAnyH_take (i := 4) (oi := ⟨_, _, _, _, _, _⟩) (v := ?_) rfl (by kernel_rfl) (by kernel_rfl) (by kernel_rfl) (fun _ _ _ h => h) (Or.inl ⟨by rfl, ?_⟩) hHeld ?_
  rotate_left
  · intro w hSw
    try dsimp only at hSw
    go_simp
    all_goals (first | with_reducible rfl | rw [if_pos (by omega)])
  try simp only [Act.put, List.setIfInBounds_toArray, List.set_cons_zero, List.set_cons_succ]
  refine wpAnyH_take (i := 5) (oi := ⟨_, _, _, _, _, _⟩) (v := undef) rfl (by kernel_rfl) (by kernel_rfl) (by kernel_rfl) (fun _ _ _ h => h) (Or.inr ⟨by rfl, by rfl⟩) hHeld ?_
  try simp only [Act.put, List.setIfInBounds_toArray, List.set_cons_zero, List.set_cons_succ]
  refine wpAnyH_take (i := 6) (oi := ⟨_, _, _, _, _, _⟩) (v := undef) rfl (by kernel_rfl) (by kernel_rfl) (by kernel_rfl) (fun _ _ _ h => h) (Or.inr ⟨by rfl, by rfl⟩) hHeld ?_
  try simp only [Act.put, List.setIfInBounds_toArray, List.set_cons_zero, List.set_cons_succ]
  refine wpAnyH_take (i := 7) (oi := ⟨_, _, _, _, _, _⟩) (v := undef) rfl (by kernel_rfl) (by kernel_rfl) (by kernel_rfl) (fun _ _ _ h => h) (Or.inr ⟨by rfl, by rfl⟩) hHeld ?_
  try simp only [Act.put, List.setIfInBounds_toArray, List.set_cons_zero, List.set_cons_succ]
  refine wpAnyH_take (i := 8) (oi := ⟨_, _, _, _, _, _⟩) (v := undef) rfl (by kernel_rfl) (by kernel_rfl) (by kernel_rfl) (fun _ _ _ h => h) (Or.inr ⟨by rfl, by rfl⟩) hHeld ?_
  try simp only [Act.put, List.setIfInBounds_toArray, List.set_cons_zero, List.set_cons_succ]
  refine wpAnyH_take (i := 9) (oi := ⟨_, _, _, _, _, _⟩) (v := undef) rfl (by kernel_rfl) (by kernel_rfl) (by kernel_rfl) (fun _ _ _ h => h) (Or.inr ⟨by rfl, by rfl⟩) hHeld ?_
  try simp only [Act.put, List.setIfInBounds_toArray, List.set_cons_zero, List.set_cons_succ]
  refine wpAnyH_take (i := 10) (oi := ⟨_, _, _, _, _, _⟩) (v := undef) rfl (by kernel_rfl) (by kernel_rfl) (by kernel_rfl) (fun _ _ _ h => h) (Or.inr ⟨by rfl, by rfl⟩) hHeld ?_
  try simp only [Act.put, List.setIfInBounds_toArray, List.set_cons_zero, List.set_cons_succ]
  refine wpAnyH_take (i := 11) (oi := ⟨_, _, _, _, _, _⟩) (v := undef) rfl (by kernel_rfl) (by kernel_rfl) (by kernel_rfl) (fun _ _ _ h => h) (Or.inr ⟨by rfl, by rfl⟩) hHeld ?_
  try simp only [Act.put, List.setIfInBounds_toArray, List.set_cons_zero, List.set_cons_succ]
  refine wpAnyH_take (i := 12) (oi := ⟨_, _, _, _, _, _⟩) (v := undef) rfl (by kernel_rfl) (by kernel_rfl) (by kernel_rfl) (fun _ _ _ h => h) (Or.inr ⟨by rfl, by rfl⟩) hHeld ?_
  try simp only [Act.put, List.setIfInBounds_toArray, List.set_cons_zero, List.set_cons_succ]
  refine wpAnyH_take (i := 13) (oi := ⟨_, _, _, _, _, _⟩) (v := undef) rfl (by kernel_rfl) (by kernel_rfl) (by kernel_rfl) (fun _ _ _ h => h) (Or.inr ⟨by rfl, by rfl⟩) hHeld ?_
  try simp only [Act.put, List.setIfInBounds_toArray, List.set_cons_zero, List.set_cons_succ]
  refine wpAnyH_take (i := 14) (oi := ⟨_, _, _, _, _, _⟩) (v := undef) rfl (by kernel_rfl) (by kernel_rfl) (by kernel_rfl) (fun _ _ _ h => h) (Or.inr ⟨by rfl, by rfl⟩) hHeld ?_
  try simp only [Act.put, List.setIfInBounds_toArray, List.set_cons_zero, List.set_cons_succ]
  refine wpAnyH_take (i := 15) (oi := ⟨_, _, _, _, _, _⟩) (v := undef) rfl (by kernel_rfl) (by kernel_rfl) (by kernel_rfl) (fun _ _ _ h => h) (Or.inr ⟨by rfl, by rfl⟩) hHeld ?_
  try simp only [Act.put, List.setIfInBounds_toArray, List.set_cons_zero, List.set_cons_succ]
  refine wpAnyH_take (i := 16) (oi := ⟨_, _, _, _, _, _⟩) (v := undef) rfl (by kernel_rfl) (by kernel_rfl) (by kernel_rfl) (fun _ _ _ h => h) (Or.inr ⟨by rfl, by rfl⟩) hHeld ?_
  try simp only [Act.put, List.setIfInBounds_toArray, List.set_cons_zero, List.set_cons_succ]
  refine wpAnyH_take (i := 17) (oi := ⟨_, _, _, _, _, _⟩) (v := undef) rfl (by kernel_rfl) (by kernel_rfl) (by kernel_rfl) (fun _ _ _ h => h) (Or.inr ⟨by rfl, by rfl⟩) hHeld ?_
  try simp only [Act.put, List.setIfInBounds_toArray, List.set_cons_zero, List.set_cons_succ]
  refine wpAnyH_take (i := 18) (oi := ⟨_, _, _, _, _, _⟩) (v := undef) rfl (by kernel_rfl) (by kernel_rfl) (by kernel_rfl) (fun _ _ _ h => h) (Or.inr ⟨by rfl, by rfl⟩) hHeld ?_
  try simp only [Act.put, List.setIfInBounds_toArray, List.set_cons_zero, List.set_cons_succ]
  refine wpAnyH_take (i := 19) (oi := ⟨_, _, _, _, _, _⟩) (v := undef) rfl (by kernel_rfl) (by kernel_rfl) (by kernel_rfl) (fun _ _ _ h => h) (Or.inr ⟨by rfl, by rfl⟩) hHeld ?_
  try simp only [Act.put, List.setIfInBounds_toArray, List.set_cons_zero, List.set_cons_succ]
  refine wpAnyH_take (i := 20) (oi := ⟨_, _, _, _, _, _⟩) (v := ?_) rfl (by kernel_rfl) (by kernel_rfl) (by kernel_rfl) (fun _ _ _ h => h) (Or.inl ⟨by rfl, ?_⟩) hHeld ?_
  rotate_left
  · intro w hSw
    try dsimp only at hSw
    go_simp
    all_goals (first | with_reducible rfl | rw [if_pos (by omega)])
  try simp only [Act.put, List.setIfInBounds_toArray, List.set_cons_zero, List.set_cons_succ]
  refine wpAnyH_done (by kernel_rfl) ?_ _
  go_wp2_with fail
  go_ret2
  exact ⟨_, rfl, rfl, hHeld⟩

set_option maxRecDepth 100000 in
set_option maxHeartbeats 4000000 in
theorem btwR_one (p q : List Int) (u v : Value) (w : World) (hp : RdI w p u) (hq : RdI w q v) (hl : p.length = q.length) (h1 : may p = true) (h2 : may q = true) (hn : comm p q ≠ p.length) (hk : comm (p.drop (comm p q + 1)) (q.drop (comm p q + 1)) = p.length - comm p q - 1) : Calls Try.prog 13 #[u, v] w (Ret w fun r _ => r = btwV (some (fOf (q.getD (comm p q) 0 - p.getD (comm p q) 0), fOf (comm p q : Nat)))) := by
  have hm1 : ∀ W, Ext w W → Calls Try.prog 10 #[u] W (Ret W fun r _ => r = .bool true) := fun W hW => by
    have := mayR_any p u W (RdS.ext hW hp)
    rwa [h1] at this
  have hm2 : ∀ W, Ext w W → Calls Try.prog 10 #[v] W (Ret W fun r _ => r = .bool true) := fun W hW => by
    have := mayR_any q v W (RdS.ext hW hq)
    rwa [h2] at this
  have hc := fun W (hW : Ext w W) => common_any p q u v W (RdS.ext hW hp) (RdS.ext hW hq)
  have hle := comm_le p q
  have hp0 := hp
  have hq0 := hq
  obtain ⟨A, c, rfl, _, a1, a2, a3⟩ := hp0
  obtain ⟨B, d, rfl, _, b1, b2, b3⟩ := hq0
  unfold maxLen at a2 b2
  have l1 : ((p.length : Int) != (q.length : Int)) = false := by rw [hl]; simp
  have l2 : (p.length != q.length) = false := by rw [hl]; simp
  have E := Ext.refl w
  generalize hnn : comm p q = n at *
  have hlt : n < p.length := by omega
  obtain ⟨ba, oa, rfl, ra⟩ := a3 (by omega)
  obtain ⟨bb, ob, rfl, rb⟩ := b3 (by omega)
  obtain ⟨x, hx⟩ : ∃ x, p[n]? = some x := ⟨_, List.getElem?_eq_getElem hlt⟩
  obtain ⟨y, hy⟩ : ∃ x, q[n]? = some x := ⟨_, List.getElem?_eq_getElem (by omega)⟩
  have e1 := ra n (.int .i64 x) (by rw [List.getElem?_map, hx]; rfl)
  have f1 := rb n (.int .i64 y) (by rw [List.getElem?_map, hy]; rfl)
  obtain ⟨x0, x1⟩ := may_at' h1 hx
  obtain ⟨y0, y1'⟩ := may_at' h2 hy
  have hgp : p.getD n 0 = x := by rw [List.getD_eq_getElem?_getD, hx]; rfl
  have hgq : q.getD n 0 = y := by rw [List.getD_eq_getElem?_getD, hy]; rfl
  have HP : Hid (btwV (some (fOf (q.getD n 0 - p.getD n 0), fOf (n : Nat))) = .tuple #[.complex .f64 (fOf (y - x)) (fOf (n : Nat)), .bool true]) := by
    show btwV _ = _; rw [hgp, hgq]; rfl
  have hcd : ∀ (s t : Option Addr) W, Ext w W → (n + 1 < c → s = some ⟨ba, oa + (n + 1), none⟩) → (n + 1 < d → t = some ⟨bb, ob + (n + 1), none⟩) → Calls Try.prog 19 #[.slice s (p.length - (n + 1)) (c - (n + 1)), .slice t (q.length - (n + 1)) (d - (n + 1))] W (Ret W fun r _ => r = .int .i64 (comm (p.drop (n + 1)) (q.drop (n + 1)))) := fun s t W hW hs ht =>
    common_any _ _ _ _ W (RdI.drop (RdS.ext hW hp) (n + 1) (by omega) hs) (RdI.drop (RdS.ext hW hq) (n + 1) (by omega) ht)
  have q0 : (0 : Int) ≤ (n : Int) := by omega
  have q1 : (n : Int) < (p.length : Int) := by omega
  have q2 : (n : Int) < (q.length : Int) := by omega
  have q3 : (n : Int) + 1 ≤ (p.length : Int) := by omega
  have q4 : (n : Int) + 1 ≤ (q.length : Int) := by omega
  have q3' : n + 1 ≤ p.length := by omega
  have q4' : n + 1 ≤ q.length := by omega
  have w1 : IntKind.i64.wrap ((n : Int) + 1) = (n : Int) + 1 := by rw [IntKind.wrap_i64]; omega
  have w2 : IntKind.i64.wrap ((p.length : Int) - (n : Int)) = (p.length : Int) - (n : Int) := by rw [IntKind.wrap_i64]; omega
  have w3 : IntKind.i64.wrap ((p.length : Int) - (n : Int) - 1) = (p.length : Int) - (n : Int) - 1 := by rw [IntKind.wrap_i64]; omega
  have z1 : ((n : Int) == (p.length : Int)) = false := by rw [beq_eq_false_iff_ne]; omega
  have z2 : (n == p.length) = false := by rw [beq_eq_false_iff_ne]; omega
  generalize hkk : comm (p.drop (n + 1)) (q.drop (n + 1)) = k at *
  have z3 : ((k : Int) != (p.length : Int) - (n : Int) - 1) = false := by
    have : (k : Int) = (p.length : Int) - (n : Int) - 1 := by omega
    simp [this]
  clear h1 h2 hnn hkk hn hk ra rb a3 b3 hx hy hgp hgq hle hp hq hl
  go_enter Try.func13, Try.ntmps13
  go_wp2_with (first | (go_at_call 10; refine (hm1 _ E).mono ?_; clear hm1; rintro e ua ⟨r, rfl, rfl, hE⟩; replace E := Ext.trans E hE; clear hE) | (go_at_call 10; refine (hm2 _ E).mono ?_; clear hm2; rintro e ub ⟨r, rfl, rfl, hE⟩; replace E := Ext.trans E hE; clear hE) | (go_at_call 19; refine (hc _ E).mono ?_; clear hc; rintro e uc ⟨r, rfl, rfl, hE⟩; replace E := Ext.trans E hE; clear hE))
  refine wp_region_held_drew (S := fun W => Ext w W) (by kernel_rfl) E.drew (fun hHeld => ?_)
  refine wpAnyH_take (i := 0) (oi := ⟨_, _, _, _, _, _⟩) (v := ?_) rfl (by kernel_rfl) (by kernel_rfl) (by kernel_rfl) (fun _ _ _ h => h) (Or.inl ⟨by rfl, ?_⟩) hHeld ?_
  rotate_left
  · intro w hSw
    try dsimp only at hSw
    go_simp
    all_goals (first | with_reducible rfl | rw [if_pos (by omega)])
  try simp only [Act.put, List.setIfInBounds_toArray, List.set_cons_zero, List.set_cons_succ]
  refine wpAnyH_take (i := 1) (oi := ⟨_, _, _, _, _, _⟩) (v := ?_) rfl (by kernel_rfl) (by kernel_rfl) (by kernel_rfl) (fun _ _ _ h => h) (Or.inl ⟨by rfl, ?_⟩) hHeld ?_
  rotate_left
  · intro w hSw
    try dsimp only at hSw
    go_simp
    all_goals (first | with_reducible rfl | rw [if_pos (by omega)])
  try simp only [Act.put, List.setIfInBounds_toArray, List.set_cons_zero, List.set_cons_succ]
  refine wpAnyH_take (i := 2) (oi := ⟨_, _, _, _, _, _⟩) (v := ?_) rfl (by kernel_rfl) (by kernel_rfl) (by kernel_rfl) (fun _ _ _ h => h) (Or.inl ⟨by rfl, ?_⟩) hHeld ?_
  rotate_left
  · intro w hSw
    try dsimp only at hSw
    go_simp
    all_goals (first | with_reducible rfl | rw [if_pos (by omega)])
  try simp only [Act.put, List.setIfInBounds_toArray, List.set_cons_zero, List.set_cons_succ]
  refine wpAnyH_take (i := 3) (oi := ⟨_, _, _, _, _, _⟩) (v := ?_) rfl (by kernel_rfl) (by kernel_rfl) (by kernel_rfl) (fun _ _ _ h => h) (Or.inl ⟨by rfl, ?_⟩) hHeld ?_
  rotate_left
  · intro w hSw
    try dsimp only at hSw
    go_simp
    all_goals (first | with_reducible rfl | rw [if_pos (by omega)])
  try simp only [Act.put, List.setIfInBounds_toArray, List.set_cons_zero, List.set_cons_succ]
  refine wpAnyH_take (i := 4) (oi := ⟨_, _, _, _, _, _⟩) (v := ?_) rfl (by kernel_rfl) (by kernel_rfl) (by kernel_rfl) (fun _ _ _ h => h) (Or.inl ⟨by rfl, ?_⟩) hHeld ?_
  rotate_left
  · intro w hSw
    try dsimp only at hSw
    go_simp
    all_goals (first | with_reducible rfl | rw [if_pos (by omega)])
  try simp only [Act.put, List.setIfInBounds_toArray, List.set_cons_zero, List.set_cons_succ]
  refine wpAnyH_take (i := 5) (oi := ⟨_, _, _, _, _, _⟩) (v := ?_) rfl (by kernel_rfl) (by kernel_rfl) (by kernel_rfl) (fun _ _ _ h => h) (Or.inl ⟨by rfl, ?_⟩) hHeld ?_
  rotate_left
  · intro w hSw
    try dsimp only at hSw
    go_simp
    all_goals (first | with_reducible rfl | rw [if_pos (by omega)])
  try simp only [Act.put, List.setIfInBounds_toArray, List.set_cons_zero, List.set_cons_succ]
  refine wpAnyH_take (i := 6) (oi := ⟨_, _, _, _, _, _⟩) (v := ?_) rfl (by kernel_rfl) (by kernel_rfl) (by kernel_rfl) (fun _ _ _ h => h) (Or.inl ⟨by rfl, ?_⟩) hHeld ?_
  rotate_left
  · intro w hSw
    try dsimp only at hSw
    go_simp
    all_goals (first | with_reducible rfl | rw [if_pos (by omega)])
  try simp only [Act.put, List.setIfInBounds_toArray, List.set_cons_zero, List.set_cons_succ]
  refine wpAnyH_take (i := 7) (oi := ⟨_, _, _, _, _, _⟩) (v := ?_) rfl (by kernel_rfl) (by kernel_rfl) (by kernel_rfl) (fun _ _ _ h => h) (Or.inl ⟨by rfl, ?_⟩) hHeld ?_
  rotate_left
  · intro w hSw
    try dsimp only at hSw
    go_simp
    all_goals (first | with_reducible rfl | rw [if_pos (by omega)])
  try simp only [Act.put, List.setIfInBounds_toArray, List.set_cons_zero, List.set_cons_succ]
  refine wpAnyH_take (i := 8) (oi := ⟨_, _, _, _, _, _⟩) (v := ?_) rfl (by kernel_rfl) (by kernel_rfl) (by kernel_rfl) (fun _ _ _ h => h) (Or.inl ⟨by rfl, ?_⟩) hHeld ?_
  rotate_left
  · intro w hSw
    try dsimp only at hSw
    go_simp
    all_goals (first | with_reducible rfl | rw [if_pos (by omega)])
  try simp only [Act.put, List.setIfInBounds_toArray, List.set_cons_zero, List.set_cons_succ]
  refine wpAnyH_take (i := 9) (oi := ⟨_, _, _, _, _, _⟩) (v := ?_) rfl (by kernel_rfl) (by kernel_rfl) (by kernel_rfl) (fun _ _ _ h => h) (Or.inl ⟨by rfl, ?_⟩) hHeld ?_
  rotate_left
  · intro w hSw
    try dsimp only at hSw
    go_simp
    all_goals (first | with_reducible rfl | rw [if_pos (by omega)])
  try simp only [Act.put, List.setIfInBounds_toArray, List.set_cons_zero, List.set_cons_succ]
  refine wpAnyH_take (i := 10) (oi := ⟨_, _, _, _, _, _⟩) (v := ?_) rfl (by kernel_rfl) (by kernel_rfl) (by kernel_rfl) (fun _ _ _ h => h) (Or.inl ⟨by rfl, ?_⟩) hHeld ?_
  rotate_left
  · intro w hSw
    try dsimp only at hSw
    go_simp
    all_goals (first | with_reducible rfl | rw [if_pos (by omega)])
  try simp only [Act.put, List.setIfInBounds_toArray, List.set_cons_zero, List.set_cons_succ]
  refine wpAnyH_take (i := 11) (oi := ⟨_, _, _, _, _, _⟩) (v := ?_) rfl (by kernel_rfl) (by kernel_rfl) (by kernel_rfl) (fun _ _ _ h => h) (Or.inl ⟨by rfl, ?_⟩) hHeld ?_
  rotate_left
  · intro w hSw
    try dsimp only at hSw
    go_simp
    all_goals (first | with_reducible rfl | rw [if_pos (by omega)])
  try simp only [Act.put, List.setIfInBounds_toArray, List.set_cons_zero, List.set_cons_succ]
  refine wpAnyH_take (i := 12) (oi := ⟨_, _, _, _, _, _⟩) (v := ?_) rfl (by kernel_rfl) (by kernel_rfl) (by kernel_rfl) (fun _ _ _ h => h) (Or.inl ⟨by rfl, ?_⟩) hHeld ?_
  rotate_left
  · intro w hSw
    try dsimp only at hSw
    go_simp
    all_goals (first | with_reducible rfl | rw [if_pos (by omega)])
  try simp only [Act.put, List.setIfInBounds_toArray, List.set_cons_zero, List.set_cons_succ]
  refine wpAnyH_take (i := 14) (oi := ⟨_, _, _, _, _, _⟩) (v := ?_) rfl (by kernel_rfl) (by kernel_rfl) (by kernel_rfl) (fun _ _ _ h => h) (Or.inl ⟨by rfl, ?_⟩) hHeld ?_
  rotate_left
  · intro w hSw
    try dsimp only at hSw
    go_simp
    all_goals (first | with_reducible rfl | rw [if_pos (by omega)])
  try simp only [Act.put, List.setIfInBounds_toArray, List.set_cons_zero, List.set_cons_succ]
  refine wpAnyH_take (i := 15) (oi := ⟨_, _, _, _, _, _⟩) (v := ?_) rfl (by kernel_rfl) (by kernel_rfl) (by kernel_rfl) (fun _ _ _ h => h) (Or.inl ⟨by rfl, ?_⟩) hHeld ?_
  rotate_left
  · intro w hSw
    try dsimp only at hSw
    go_simp
    all_goals (first | with_reducible rfl | rw [if_pos (by omega)])
  try simp only [Act.put, List.setIfInBounds_toArray, List.set_cons_zero, List.set_cons_succ]
  refine wpAnyH_take (i := 16) (oi := ⟨_, _, _, _, _, _⟩) (v := ?_) rfl (by kernel_rfl) (by kernel_rfl) (by kernel_rfl) (fun _ _ _ h => h) (Or.inl ⟨by rfl, ?_⟩) hHeld ?_
  rotate_left
  · intro w hSw
    try dsimp only at hSw
    go_simp
    all_goals (first | with_reducible rfl | rw [if_pos (by omega)])
  try simp only [Act.put, List.setIfInBounds_toArray, List.set_cons_zero, List.set_cons_succ]
  refine wpAnyH_take (i := 17) (oi := ⟨_, _, _, _, _, _⟩) (v := ?_) rfl (by kernel_rfl) (by kernel_rfl) (by kernel_rfl) (fun _ _ _ h => h) (Or.inl ⟨by rfl, ?_⟩) hHeld ?_
  rotate_left
  · intro w hSw
    try dsimp only at hSw
    go_simp
    all_goals (first | with_reducible rfl | rw [if_pos (by omega)])
  try simp only [Act.put, List.setIfInBounds_toArray, List.set_cons_zero, List.set_cons_succ]
  refine wpAnyH_take (i := 18) (oi := ⟨_, _, _, _, _, _⟩) (v := ?_) rfl (by kernel_rfl) (by kernel_rfl) (by kernel_rfl) (fun _ _ _ h => h) (Or.inl ⟨by rfl, ?_⟩) hHeld ?_
  rotate_left
  · intro w hSw
    try dsimp only at hSw
    go_simp
    all_goals (first | with_reducible rfl | rw [if_pos (by omega)])
  try simp only [Act.put, List.setIfInBounds_toArray, List.set_cons_zero, List.set_cons_succ]
  refine wpAnyH_ready (rs := [13]) (by kernel_rfl) (by simp) ?_
  refine AllReadyH.cons (o := ⟨_, _, _, _, _, _⟩) rfl (fun K' hK => ?_) (AllReadyH.nil)
  go_simp
  go_at_call 19
  refine (hcd _ _ _ hHeld (fun h => if_neg (by omega)) (fun h => if_neg (by omega))).mono ?_
  rintro e ud ⟨r, rfl, rfl, hE⟩
  refine hK.out _ _ (Ext.trans hHeld hE) (fun hHeld => ?_)
  clear hK K' hE hcd
  try simp only [Act.put, List.setIfInBounds_toArray, List.set_cons_zero, List.set_cons_succ]
  refine wpAnyH_take (i := 19) (oi := ⟨_, _, _, _, _, _⟩) (v := ?_) rfl (by kernel_rfl) (by kernel_rfl) (by kernel_rfl) (fun _ _ _ h => h) (Or.inl ⟨by rfl, ?_⟩) hHeld ?_
  rotate_left
  · intro w hSw
    try dsimp only at hSw
    go_simp
    all_goals (first | with_reducible rfl | rw [if_pos (by omega)])
  try simp only [Act.put, List.setIfInBounds_toArray, List.set_cons_zero, List.set_cons_succ]
  refine wpAnyH_take (i := 20) (oi := ⟨_, _, _, _, _, _⟩) (v := ?_) rfl (by kernel_rfl) (by kernel_rfl) (by kernel_rfl) (fun _ _ _ h => h) (Or.inl ⟨by rfl, ?_⟩) hHeld ?_
  rotate_left
  · intro w hSw
    try dsimp only at hSw
    go_simp
    all_goals (first | with_reducible rfl | rw [if_pos (by omega)])
  try simp only [Act.put, List.setIfInBounds_toArray, List.set_cons_zero, List.set_cons_succ]
  refine wpAnyH_done (by kernel_rfl) ?_ _
  generalize (if c = n + 1 then (some ⟨ba, oa, none⟩ : Option Addr) else some ⟨ba, oa + (n + 1), none⟩) = ta
  generalize (if d = n + 1 then (some ⟨bb, ob, none⟩ : Option Addr) else some ⟨bb, ob + (n + 1), none⟩) = tb
  have e2 := Ext.cell hHeld e1
  have f2 := Ext.cell hHeld f1
  go_wp2_with fail
  go_quiet (fail)
  go_wp2_with fail
  go_ret2
  exact ⟨_, rfl, HP.out.symm, Ext.drewN hHeld _⟩

set_option maxRecDepth 100000 in
set_option maxHeartbeats 4000000 in
theorem btwR_more (p q : List Int) (u v : Value) (w : World) (hp : RdI w p u) (hq : RdI w q v) (hl : p.length = q.length) (h1 : may p = true) (h2 : may q = true) (hn : comm p q ≠ p.length) (hk : comm (p.drop (comm p q + 1)) (q.drop (comm p q + 1)) ≠ p.length - comm p q - 1) : Calls Try.prog 13 #[u, v] w (Ret w fun r _ => r = btwV none) := by
  have hm1 : ∀ W, Ext w W → Calls Try.prog 10 #[u] W (Ret W fun r _ => r = .bool true) := fun W hW => by
    have := mayR_any p u W (RdS.ext hW hp)
    rwa [h1] at this
  have hm2 : ∀ W, Ext w W → Calls Try.prog 10 #[v] W (Ret W fun r _ => r = .bool true) := fun W hW => by
    have := mayR_any q v W (RdS.ext hW hq)
    rwa [h2] at this
  have hc := fun W (hW : Ext w W) => common_any p q u v W (RdS.ext hW hp) (RdS.ext hW hq)
  have hle := comm_le p q
  have hp0 := hp
  have hq0 := hq
  obtain ⟨A, c, rfl, _, a1, a2, a3⟩ := hp0
  obtain ⟨B, d, rfl, _, b1, b2, b3⟩ := hq0
  unfold maxLen at a2 b2
  have l1 : ((p.length : Int) != (q.length : Int)) = false := by rw [hl]; simp
  have l2 : (p.length != q.length) = false := by rw [hl]; simp
  have E := Ext.refl w
  generalize hnn : comm p q = n at *
  have hlt : n < p.length := by omega
  obtain ⟨ba, oa, rfl, ra⟩ := a3 (by omega)
  obtain ⟨bb, ob, rfl, rb⟩ := b3 (by omega)
  obtain ⟨x, hx⟩ : ∃ x, p[n]? = some x := ⟨_, List.getElem?_eq_getElem hlt⟩
  obtain ⟨y, hy⟩ : ∃ x, q[n]? = some x := ⟨_, List.getElem?_eq_getElem (by omega)⟩
  have e1 := ra n (.int .i64 x) (by rw [List.getElem?_map, hx]; rfl)
  have f1 := rb n (.int .i64 y) (by rw [List.getElem?_map, hy]; rfl)
  obtain ⟨x0, x1⟩ := may_at' h1 hx
  obtain ⟨y0, y1'⟩ := may_at' h2 hy
  have hgp : p.getD n 0 = x := by rw [List.getD_eq_getElem?_getD, hx]; rfl
  have hgq : q.getD n 0 = y := by rw [List.getD_eq_getElem?_getD, hy]; rfl
  have HP : Hid (btwV none = .tuple #[.complex .f64 0 0, .bool false]) := by
    exact rfl
  have hcd : ∀ (s t : Option Addr) W, Ext w W → (n + 1 < c → s = some ⟨ba, oa + (n + 1), none⟩) → (n + 1 < d → t = some ⟨bb, ob + (n + 1), none⟩) → Calls Try.prog 19 #[.slice s (p.length - (n + 1)) (c - (n + 1)), .slice t (q.length - (n + 1)) (d - (n + 1))] W (Ret W fun r _ => r = .int .i64 (comm (p.drop (n + 1)) (q.drop (n + 1)))) := fun s t W hW hs ht =>
    common_any _ _ _ _ W (RdI.drop (RdS.ext hW hp) (n + 1) (by omega) hs) (RdI.drop (RdS.ext hW hq) (n + 1) (by omega) ht)
  have q0 : (0 : Int) ≤ (n : Int) := by omega
  have q1 : (n : Int) < (p.length : Int) := by omega
  have q2 : (n : Int) < (q.length : Int) := by omega
  have q3 : (n : Int) + 1 ≤ (p.length : Int) := by omega
  have q4 : (n : Int) + 1 ≤ (q.length : Int) := by omega
  have q3' : n + 1 ≤ p.length := by omega
  have q4' : n + 1 ≤ q.length := by omega
  have w1 : IntKind.i64.wrap ((n : Int) + 1) = (n : Int) + 1 := by rw [IntKind.wrap_i64]; omega
  have w2 : IntKind.i64.wrap ((p.length : Int) - (n : Int)) = (p.length : Int) - (n : Int) := by rw [IntKind.wrap_i64]; omega
  have w3 : IntKind.i64.wrap ((p.length : Int) - (n : Int) - 1) = (p.length : Int) - (n : Int) - 1 := by rw [IntKind.wrap_i64]; omega
  have z1 : ((n : Int) == (p.length : Int)) = false := by rw [beq_eq_false_iff_ne]; omega
  have z2 : (n == p.length) = false := by rw [beq_eq_false_iff_ne]; omega
  generalize hkk : comm (p.drop (n + 1)) (q.drop (n + 1)) = k at *
  have z3 : ((k : Int) != (p.length : Int) - (n : Int) - 1) = true := by
    have : (k : Int) ≠ (p.length : Int) - (n : Int) - 1 := by omega
    simpa using this
  clear h1 h2 hnn hkk hn hk ra rb a3 b3 hx hy hgp hgq hle hp hq hl
  go_enter Try.func13, Try.ntmps13
  go_wp2_with (first | (go_at_call 10; refine (hm1 _ E).mono ?_; clear hm1; rintro e ua ⟨r, rfl, rfl, hE⟩; replace E := Ext.trans E hE; clear hE) | (go_at_call 10; refine (hm2 _ E).mono ?_; clear hm2; rintro e ub ⟨r, rfl, rfl, hE⟩; replace E := Ext.trans E hE; clear hE) | (go_at_call 19; refine (hc _ E).mono ?_; clear hc; rintro e uc ⟨r, rfl, rfl, hE⟩; replace E := Ext.trans E hE; clear hE))
  refine wp_region_held_drew (S := fun W => Ext w W) (by kernel_rfl) E.drew (fun hHeld => ?_)
  refine wpAnyH_take (i := 0) (oi := ⟨_, _, _, _, _, _⟩) (v := ?_) rfl (by kernel_rfl) (by kernel_rfl) (by kernel_rfl) (fun _ _ _ h => h) (Or.inl ⟨by rfl, ?_⟩) hHeld ?_
  rotate_left
  · intro w hSw
    try dsimp only at hSw
    go_simp
    all_goals (first | with_reducible rfl | rw [if_pos (by omega)])
  try simp only [Act.put, List.setIfInBounds_toArray, List.set_cons_zero, List.set_cons_succ]
  refine wpAnyH_take (i := 1) (oi := ⟨_, _, _, _, _, _⟩) (v := ?_) rfl (by kernel_rfl) (by kernel_rfl) (by kernel_rfl) (fun _ _ _ h => h) (Or.inl ⟨by rfl, ?_⟩) hHeld ?_
  rotate_left
  · intro w hSw
    try dsimp only at hSw
    go_simp
    all_goals (first | with_reducible rfl | rw [if_pos (by omega)])
  try simp only [Act.put, List.setIfInBounds_toArray, List.set_cons_zero, List.set_cons_succ]
  refine wpAnyH_take (i := 2) (oi := ⟨_, _, _, _, _, _⟩) (v := ?_) rfl (by kernel_rfl) (by kernel_rfl) (by kernel_rfl) (fun _ _ _ h => h) (Or.inl ⟨by rfl, ?_⟩) hHeld ?_
  rotate_left
  · intro w hSw
    try dsimp only at hSw
    go_simp
    all_goals (first | with_reducible rfl | rw [if_pos (by omega)])
  try simp only [Act.put, List.setIfInBounds_toArray, List.set_cons_zero, List.set_cons_succ]
  refine wpAnyH_take (i := 3) (oi := ⟨_, _, _, _, _, _⟩) (v := ?_) rfl (by kernel_rfl) (by kernel_rfl) (by kernel_rfl) (fun _ _ _ h => h) (Or.inl ⟨by rfl, ?_⟩) hHeld ?_
  rotate_left
  · intro w hSw
    try dsimp only at hSw
    go_simp
    all_goals (first | with_reducible rfl | rw [if_pos (by omega)])
  try simp only [Act.put, List.setIfInBounds_toArray, List.set_cons_zero, List.set_cons_succ]
  refine wpAnyH_take (i := 4) (oi := ⟨_, _, _, _, _, _⟩) (v := ?_) rfl (by kernel_rfl) (by kernel_rfl) (by kernel_rfl) (fun _ _ _ h => h) (Or.inl ⟨by rfl, ?_⟩) hHeld ?_
  rotate_left
  · intro w hSw
    try dsimp only at hSw
    go_simp
    all_goals (first | with_reducible rfl | rw [if_pos (by omega)])
  try simp only [Act.put, List.setIfInBounds_toArray, List.set_cons_zero, List.set_cons_succ]
  refine wpAnyH_take (i := 5) (oi := ⟨_, _, _, _, _, _⟩) (v := ?_) rfl (by kernel_rfl) (by kernel_rfl) (by kernel_rfl) (fun _ _ _ h => h) (Or.inl ⟨by rfl, ?_⟩) hHeld ?_
  rotate_left
  · intro w hSw
    try dsimp only at hSw
    go_simp
    all_goals (first | with_reducible rfl | rw [if_pos (by omega)])
  try simp only [Act.put, List.setIfInBounds_toArray, List.set_cons_zero, List.set_cons_succ]
  refine wpAnyH_take (i := 6) (oi := ⟨_, _, _, _, _, _⟩) (v := ?_) rfl (by kernel_rfl) (by kernel_rfl) (by kernel_rfl) (fun _ _ _ h => h) (Or.inl ⟨by rfl, ?_⟩) hHeld ?_
  rotate_left
  · intro w hSw
    try dsimp only at hSw
    go_simp
    all_goals (first | with_reducible rfl | rw [if_pos (by omega)])
  try simp only [Act.put, List.setIfInBounds_toArray, List.set_cons_zero, List.set_cons_succ]
  refine wpAnyH_take (i := 7) (oi := ⟨_, _, _, _, _, _⟩) (v := ?_) rfl (by kernel_rfl) (by kernel_rfl) (by kernel_rfl) (fun _ _ _ h => h) (Or.inl ⟨by rfl, ?_⟩) hHeld ?_
  rotate_left
  · intro w hSw
    try dsimp only at hSw
    go_simp
    all_goals (first | with_reducible rfl | rw [if_pos (by omega)])
  try simp only [Act.put, List.setIfInBounds_toArray, List.set_cons_zero, List.set_cons_succ]
  refine wpAnyH_take (i := 8) (oi := ⟨_, _, _, _, _, _⟩) (v := ?_) rfl (by kernel_rfl) (by kernel_rfl) (by kernel_rfl) (fun _ _ _ h => h) (Or.inl ⟨by rfl, ?_⟩) hHeld ?_
  rotate_left
  · intro w hSw
    try dsimp only at hSw
    go_simp
    all_goals (first | with_reducible rfl | rw [if_pos (by omega)])
  try simp only [Act.put, List.setIfInBounds_toArray, List.set_cons_zero, List.set_cons_succ]
  refine wpAnyH_take (i := 9) (oi := ⟨_, _, _, _, _, _⟩) (v := ?_) rfl (by kernel_rfl) (by kernel_rfl) (by kernel_rfl) (fun _ _ _ h => h) (Or.inl ⟨by rfl, ?_⟩) hHeld ?_
  rotate_left
  · intro w hSw
    try dsimp only at hSw
    go_simp
    all_goals (first | with_reducible rfl | rw [if_pos (by omega)])
  try simp only [Act.put, List.setIfInBounds_toArray, List.set_cons_zero, List.set_cons_succ]
  refine wpAnyH_take (i := 10) (oi := ⟨_, _, _, _, _, _⟩) (v := ?_) rfl (by kernel_rfl) (by kernel_rfl) (by kernel_rfl) (fun _ _ _ h => h) (Or.inl ⟨by rfl, ?_⟩) hHeld ?_
  rotate_left
  · intro w hSw
    try dsimp only at hSw
    go_simp
    all_goals (first | with_reducible rfl | rw [if_pos (by omega)])
  try simp only [Act.put, List.setIfInBounds_toArray, List.set_cons_zero, List.set_cons_succ]
  refine wpAnyH_take (i := 11) (oi := ⟨_, _, _, _, _, _⟩) (v := ?_) rfl (by kernel_rfl) (by kernel_rfl) (by kernel_rfl) (fun _ _ _ h => h) (Or.inl ⟨by rfl, ?_⟩) hHeld ?_
  rotate_left
  · intro w hSw
    try dsimp only at hSw
    go_simp
    all_goals (first | with_reducible rfl | rw [if_pos (by omega)])
  try simp only [Act.put, List.setIfInBounds_toArray, List.set_cons_zero, List.set_cons_succ]
  refine wpAnyH_take (i := 12) (oi := ⟨_, _, _, _, _, _⟩) (v := ?_) rfl (by kernel_rfl) (by kernel_rfl) (by kernel_rfl) (fun _ _ _ h => h) (Or.inl ⟨by rfl, ?_⟩) hHeld ?_
  rotate_left
  · intro w hSw
    try dsimp only at hSw
    go_simp
    all_goals (first | with_reducible rfl | rw [if_pos (by omega)])
  try simp only [Act.put, List.setIfInBounds_toArray, List.set_cons_zero, List.set_cons_succ]
  refine wpAnyH_take (i := 14) (oi := ⟨_, _, _, _, _, _⟩) (v := ?_) rfl (by kernel_rfl) (by kernel_rfl) (by kernel_rfl) (fun _ _ _ h => h) (Or.inl ⟨by rfl, ?_⟩) hHeld ?_
  rotate_left
  · intro w hSw
    try dsimp only at hSw
    go_simp
    all_goals (first | with_reducible rfl | rw [if_pos (by omega)])
  try simp only [Act.put, List.setIfInBounds_toArray, List.set_cons_zero, List.set_cons_succ]
  refine wpAnyH_take (i := 15) (oi := ⟨_, _, _, _, _, _⟩) (v := ?_) rfl (by kernel_rfl) (by kernel_rfl) (by kernel_rfl) (fun _ _ _ h => h) (Or.inl ⟨by rfl, ?_⟩) hHeld ?_
  rotate_left
  · intro w hSw
    try dsimp only at hSw
    go_simp
    all_goals (first | with_reducible rfl | rw [if_pos (by omega)])
  try simp only [Act.put, List.setIfInBounds_toArray, List.set_cons_zero, List.set_cons_succ]
  refine wpAnyH_take (i := 16) (oi := ⟨_, _, _, _, _, _⟩) (v := ?_) rfl (by kernel_rfl) (by kernel_rfl) (by kernel_rfl) (fun _ _ _ h => h) (Or.inl ⟨by rfl, ?_⟩) hHeld ?_
  rotate_left
  · intro w hSw
    try dsimp only at hSw
    go_simp
    all_goals (first | with_reducible rfl | rw [if_pos (by omega)])
  try simp only [Act.put, List.setIfInBounds_toArray, List.set_cons_zero, List.set_cons_succ]
  refine wpAnyH_take (i := 17) (oi := ⟨_, _, _, _, _, _⟩) (v := ?_) rfl (by kernel_rfl) (by kernel_rfl) (by kernel_rfl) (fun _ _ _ h => h) (Or.inl ⟨by rfl, ?_⟩) hHeld ?_
  rotate_left
  · intro w hSw
    try dsimp only at hSw
    go_simp
    all_goals (first | with_reducible rfl | rw [if_pos (by omega)])
  try simp only [Act.put, List.setIfInBounds_toArray, List.set_cons_zero, List.set_cons_succ]
  refine wpAnyH_take (i := 18) (oi := ⟨_, _, _, _, _, _⟩) (v := ?_) rfl (by kernel_rfl) (by kernel_rfl) (by kernel_rfl) (fun _ _ _ h => h) (Or.inl ⟨by rfl, ?_⟩) hHeld ?_
  rotate_left
  · intro w hSw
    try dsimp only at hSw
    go_simp
    all_goals (first | with_reducible rfl | rw [if_pos (by omega)])
  try simp only [Act.put, List.setIfInBounds_toArray, List.set_cons_zero, List.set_cons_succ]
  refine wpAnyH_ready (rs := [13]) (by kernel_rfl) (by simp) ?_
  refine AllReadyH.cons (o := ⟨_, _, _, _, _, _⟩) rfl (fun K' hK => ?_) (AllReadyH.nil)
  go_simp
  go_at_call 19
  refine (hcd _ _ _ hHeld (fun h => if_neg (by omega)) (fun h => if_neg (by omega))).mono ?_
  rintro e ud ⟨r, rfl, rfl, hE⟩
  refine hK.out _ _ (Ext.trans hHeld hE) (fun hHeld => ?_)
  clear hK K' hE hcd
  try simp only [Act.put, List.setIfInBounds_toArray, List.set_cons_zero, List.set_cons_succ]
  refine wpAnyH_take (i := 19) (oi := ⟨_, _, _, _, _, _⟩) (v := ?_) rfl (by kernel_rfl) (by kernel_rfl) (by kernel_rfl) (fun _ _ _ h => h) (Or.inl ⟨by rfl, ?_⟩) hHeld ?_
  rotate_left
  · intro w hSw
    try dsimp only at hSw
    go_simp
    all_goals (first | with_reducible rfl | rw [if_pos (by omega)])
  try simp only [Act.put, List.setIfInBounds_toArray, List.set_cons_zero, List.set_cons_succ]
  refine wpAnyH_take (i := 20) (oi := ⟨_, _, _, _, _, _⟩) (v := ?_) rfl (by kernel_rfl) (by kernel_rfl) (by kernel_rfl) (fun _ _ _ h => h) (Or.inl ⟨by rfl, ?_⟩) hHeld ?_
  rotate_left
  · intro w hSw
    try dsimp only at hSw
    go_simp
    all_goals (first | with_reducible rfl | rw [if_pos (by omega)])
  try simp only [Act.put, List.setIfInBounds_toArray, List.set_cons_zero, List.set_cons_succ]
  refine wpAnyH_done (by kernel_rfl) ?_ _
  generalize (if c = n + 1 then (some ⟨ba, oa, none⟩ : Option Addr) else some ⟨ba, oa + (n + 1), none⟩) = ta
  generalize (if d = n + 1 then (some ⟨bb, ob, none⟩ : Option Addr) else some ⟨bb, ob + (n + 1), none⟩) = tb
  go_wp2_with fail
  go_ret2
  exact ⟨_, rfl, HP.out.symm, hHeld⟩

theorem betweenR_any (p q : List Int) (u v : Value) (w : World) (hp : RdI w p u) (hq : RdI w q v) : Calls Try.prog 13 #[u, v] w (Ret w fun r _ => r = btwV (between p q)) := by
  by_cases h : p.length = q.length ∧ may p = true ∧ may q = true
  · obtain ⟨hl, h1, h2⟩ := h
    rw [between_comm hl h1 h2]
    by_cases hn : comm p q = p.length
    · rw [if_pos hn]
      exact btwR_same p q u v w hp hq hl h1 h2 hn
    · rw [if_neg hn]
      by_cases hk : comm (p.drop (comm p q + 1)) (q.drop (comm p q + 1)) = p.length - comm p q - 1
      · rw [if_pos hk]
        exact btwR_one p q u v w hp hq hl h1 h2 hn hk
      · rw [if_neg hk]
        exact btwR_more p q u v w hp hq hl h1 h2 hn hk
  · have e : between p q = none := if_neg h
    rw [e]
    exact btwR_no p q u v w hp hq h
end Go.Proofs.Ytbabfeepmaipoaa.Pt
