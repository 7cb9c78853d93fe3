/- Chapter 04: how far two paths go alike; Compare, the document's. -/
import Derived.Test.YtbabfeepmaipoaaPtWorks
namespace Go.Proofs.Ytbabfeepmaipoaa.Pt
open Go.RowKit Go.Proofs.Ytbabfeepmaipoaa.Bw Go.Proofs.Ytbabfeepmaipoaa.Bs

set_option maxRecDepth 100000 in
set_option maxHeartbeats 2000000 in
theorem pCommon_any (a b : List Int) (u v : Value) (w : World) (ha : RdI w a u) (hb : RdI w b v) : Calls Try.prog 18 #[u, v] w (Ret w fun r _ => r = .int .i64 (comm a b)) := by
  obtain ⟨aA, ac, rfl, _, a1, a2, a3⟩ := ha
  obtain ⟨bA, bc, rfl, _, b1, b2, b3⟩ := hb
  unfold maxLen at a2 b2
  go_enter Try.func18, Try.ntmps18
  go_wp2_with fail
  go_loopw [5] (fun s wr => ∃ i : Nat, s = .int .i64 i ∧ i ≤ a.length ∧ i ≤ b.length ∧ Hid (i + comm (a.drop i) (b.drop i) = comm a b) ∧ Ext w wr) (fun i _ => a.length - (intOf i).toNat)
  case atStart => exact ⟨0, rfl, Nat.zero_le _, Nat.zero_le _, Nat.zero_add _, Ext.refl _⟩
  case round =>
    obtain ⟨i, rfl, hi, hi2, HW, hE⟩ := hrel
    have q1 : (0 : Int) ≤ (i : Int) := by omega
    rcases Nat.lt_or_ge i (min a.length b.length) with hm | hm
    · have hlt : i < a.length := by omega
      have hlt2 : i < b.length := by omega
      have q2 : (i : Int) < (a.length : Int) := by omega
      have q3 : (i : Int) < (b.length : Int) := by omega
      obtain ⟨x, hx⟩ : ∃ x, a[i]? = some x := ⟨_, List.getElem?_eq_getElem hlt⟩
      obtain ⟨y, hy⟩ : ∃ x, b[i]? = some x := ⟨_, List.getElem?_eq_getElem hlt2⟩
      obtain ⟨ba, oa, rfl, ra⟩ := a3 (by omega)
      obtain ⟨bb, ob, rfl, rb⟩ := b3 (by omega)
      have e1 := hE.cell (ra i (.int .i64 x) (by rw [List.getElem?_map, hx]; rfl))
      have f1 := hE.cell (rb i (.int .i64 y) (by rw [List.getElem?_map, hy]; rfl))
      have HD : Hid (comm (a.drop i) (b.drop i) = if x = y then 1 + comm (a.drop (i + 1)) (b.drop (i + 1)) else 0) := by rw [drop_at hx, drop_at hy, comm]; trivial
      clear hx hy ra rb a3 b3
      rcases hc1 : (x == y) with _ | _
      · have HG : Hid ((i : Int) = (comm a b : Nat)) := by
          have h := HW.out
          rw [HD.out, if_neg (by simpa using hc1)] at h
          show (i : Int) = _
          omega
        clear HW HD
        rcases Int.lt_trichotomy (a.length : Int) (b.length : Int) with hm | hm | hm
        all_goals
          go_wp2_with fail
          go_quiet (fail)
          go_wp2_with fail
          go_ret
          exact ⟨_, rfl, by first | exact rfl | (show _ = _; rw [← HG.out]; rfl), hE.drewN _⟩
      · have HN : Hid (i + 1 + comm (a.drop (i + 1)) (b.drop (i + 1)) = comm a b) := by
          have h := HW.out
          rw [HD.out, if_pos (by simpa using hc1)] at h
          show _ = _
          omega
        clear HW HD
        rcases Int.lt_trichotomy (a.length : Int) (b.length : Int) with hm | hm | hm
        all_goals
          go_wp2_with fail
          go_quiet (fail)
          go_wp2_with fail
          go_roundw
          case rel => exact ⟨i + 1, by go_num, by omega, by omega, HN, hE.drewN _⟩
          case measure => simp [intOf]; omega
    · have HG : Hid ((i : Int) = (comm a b : Nat)) := by
        have h := HW.out
        have h2 : comm (a.drop i) (b.drop i) = 0 := by
          rcases Nat.lt_or_ge i a.length with h3 | h3
          · rw [List.drop_eq_nil_of_le (show b.length ≤ i by omega), comm_nil]
          · rw [List.drop_eq_nil_of_le h3]; rfl
        rw [h2] at h
        show (i : Int) = _
        omega
      clear HW a3 b3
      rcases Int.lt_trichotomy (a.length : Int) (b.length : Int) with hl | hl | hl
      · have t1 : decide ((i : Int) < (a.length : Int)) = false := decide_eq_false (by omega)
        have t2 : decide (i < a.length) = false := decide_eq_false (by omega)
        go_wp2_with fail
        go_quiet (fail)
        go_wp2_with fail
        go_ret
        exact ⟨_, rfl, by first | exact rfl | (show _ = _; rw [← HG.out]; rfl), hE.drewN _⟩
      · have t1 : decide ((i : Int) < (a.length : Int)) = false := decide_eq_false (by omega)
        have t2 : decide (i < a.length) = false := decide_eq_false (by omega)
        have t3 : decide ((i : Int) < (b.length : Int)) = false := decide_eq_false (by omega)
        have t4 : decide (i < b.length) = false := decide_eq_false (by omega)
        go_wp2_with fail
        go_quiet (fail)
        go_wp2_with fail
        go_ret
        exact ⟨_, rfl, by first | exact rfl | (show _ = _; rw [← HG.out]; rfl), hE.drewN _⟩
      · have t3 : decide ((i : Int) < (b.length : Int)) = false := decide_eq_false (by omega)
        have t4 : decide (i < b.length) = false := decide_eq_false (by omega)
        go_wp2_with fail
        go_quiet (fail)
        go_wp2_with fail
        go_ret
        exact ⟨_, rfl, by first | exact rfl | (show _ = _; rw [← HG.out]; rfl), hE.drewN _⟩

/-! ### Compare, the document's -/
theorem cmpL_comm : ∀ (p q : List Int), cmpL p q = if comm p q = p.length ∧ comm p q = q.length then 0 else if comm p q = p.length then -1 else if comm p q = q.length then 1 else if p.getD (comm p q) 0 < q.getD (comm p q) 0 then -1 else 1
  | [], [] => by simp [cmpL, comm]
  | [], y :: q => by simp [cmpL, comm]
  | x :: p, [] => by simp [cmpL, comm]
  | x :: p, y :: q => by
    have ih := cmpL_comm p q
    rw [cmpL, comm]
    by_cases h : x = y
    · subst h
      have h0 : cmpI x x = 0 := by simp [cmpI]
      rw [if_pos h0, if_pos rfl, ih]
      have e1 : (1 + comm p q = (x :: p).length) = (comm p q = p.length) := by simp only [List.length_cons]; apply propext; omega
      have e2 : (1 + comm p q = (x :: q).length) = (comm p q = q.length) := by simp only [List.length_cons]; apply propext; omega
      simp only [e1, e2]
      have e3 : ∀ l : List Int, (x :: l).getD (1 + comm p q) 0 = l.getD (comm p q) 0 := fun l => by rw [Nat.add_comm]; rfl
      rw [e3, e3]
    · rw [if_neg h]
      have h0 : ¬ (cmpI x y = 0) := by
        unfold cmpI
        rcases Int.lt_trichotomy x y with h1 | h1 | h1
        · rw [if_pos h1]; decide
        · exact absurd h1 h
        · rw [if_neg (by omega), if_pos h1]; decide
      rw [if_neg h0, if_neg (by simp), if_neg (by simp), if_neg (by simp)]
      show cmpI x y = if x < y then -1 else 1
      unfold cmpI
      split
      · rfl
      · rw [if_pos (by omega)]

theorem comm_le' (p q : List Int) : comm p q ≤ q.length := by
  induction p generalizing q with
  | nil => simp [comm]
  | cons x p ih =>
    cases q with
    | nil => simp [comm]
    | cons y q =>
      rw [comm]
      have := ih q
      split
      · simp only [List.length_cons]; omega
      · omega
set_option maxRecDepth 100000 in
set_option maxHeartbeats 2000000 in
theorem compareR_any (p q : List Int) (u v : Value) (w : World) (hp : RdI w p u) (hq : RdI w q v) : Calls Try.prog 21 #[u, v] w (Ret w fun r _ => r = .int .i64 (cmpL p q)) := by
  have hc := common_any p q u v w hp hq
  have hcp := cmpL_comm p q
  have hn1 := comm_le p q
  have hn2 := comm_le' p q
  obtain ⟨A, c, rfl, _, a1, a2, a3⟩ := hp
  obtain ⟨B, d, rfl, _, b1, b2, b3⟩ := hq
  unfold maxLen at a2 b2
  generalize comm p q = n at *
  have x1 : ((n : Int) == (p.length : Int)) = decide (n = p.length) := by rw [Bool.eq_iff_iff, beq_iff_eq, decide_eq_true_eq]; omega
  have x2 : ((n : Int) == (q.length : Int)) = decide (n = q.length) := by rw [Bool.eq_iff_iff, beq_iff_eq, decide_eq_true_eq]; omega
  by_cases h1 : n = p.length
  · have y1 : ((n : Int) == (p.length : Int)) = true := by rw [x1]; exact decide_eq_true h1
    have y1' : (n == p.length) = true := by rw [beq_iff_eq]; exact h1
    by_cases h2 : n = q.length
    · have y2 : ((n : Int) == (q.length : Int)) = true := by rw [x2]; exact decide_eq_true h2
      have y2' : (n == q.length) = true := by rw [beq_iff_eq]; exact h2
      have HG : Hid (cmpL p q = 0) := by rw [Hid, hcp, if_pos ⟨h1, h2⟩]
      clear hcp x1 x2 h1 h2 a3 b3 hn1 hn2
      go_enter Try.func21, Try.ntmps21
      go_wp2_with (go_at_call 19; refine hc.mono ?_; clear hc; rintro e w1 ⟨r, rfl, rfl, hE⟩)
      go_ret
      exact ret_int HG.out.symm hE
    · have y2 : ((n : Int) == (q.length : Int)) = false := by rw [x2]; exact decide_eq_false h2
      have y2' : (n == q.length) = false := by rw [beq_eq_false_iff_ne]; exact h2
      have HG : Hid (cmpL p q = -1) := by rw [Hid, hcp, if_neg (fun h => h2 h.2), if_pos h1]
      clear hcp x1 x2 h1 h2 a3 b3 hn1 hn2
      go_enter Try.func21, Try.ntmps21
      go_wp2_with (go_at_call 19; refine hc.mono ?_; clear hc; rintro e w1 ⟨r, rfl, rfl, hE⟩)
      go_ret
      exact ret_int HG.out.symm hE
  · have y1 : ((n : Int) == (p.length : Int)) = false := by rw [x1]; exact decide_eq_false h1
    have y1' : (n == p.length) = false := by rw [beq_eq_false_iff_ne]; exact h1
    by_cases h2 : n = q.length
    · have y2 : ((n : Int) == (q.length : Int)) = true := by rw [x2]; exact decide_eq_true h2
      have y2' : (n == q.length) = true := by rw [beq_iff_eq]; exact h2
      have HG : Hid (cmpL p q = 1) := by rw [Hid, hcp, if_neg (fun h => h1 h.1), if_neg h1, if_pos h2]
      clear hcp x1 x2 h1 h2 a3 b3 hn1 hn2
      go_enter Try.func21, Try.ntmps21
      go_wp2_with (go_at_call 19; refine hc.mono ?_; clear hc; rintro e w1 ⟨r, rfl, rfl, hE⟩)
      go_ret
      exact ret_int HG.out.symm hE
    · have y2 : ((n : Int) == (q.length : Int)) = false := by rw [x2]; exact decide_eq_false h2
      have y2' : (n == q.length) = false := by rw [beq_eq_false_iff_ne]; exact h2
      obtain ⟨x, hx⟩ : ∃ x, p[n]? = some x := ⟨_, List.getElem?_eq_getElem (by omega)⟩
      obtain ⟨y, hy⟩ : ∃ x, q[n]? = some x := ⟨_, List.getElem?_eq_getElem (by omega)⟩
      obtain ⟨ba, oa, rfl, ra⟩ := a3 (by omega)
      obtain ⟨bb, ob, rfl, rb⟩ := b3 (by omega)
      have e1 := ra n (.int .i64 x) (by rw [List.getElem?_map, hx]; rfl)
      have f1 := rb n (.int .i64 y) (by rw [List.getElem?_map, hy]; rfl)
      have q1 : (0 : Int) ≤ (n : Int) := by omega
      have q2 : (n : Int) < (p.length : Int) := by omega
      have q3 : (n : Int) < (q.length : Int) := by omega
      have HG : Hid (cmpL p q = if x < y then -1 else 1) := by
        rw [Hid, hcp, if_neg (fun h => h1 h.1), if_neg h1, if_neg h2]
        simp only [List.getD_eq_getElem?_getD, hx, hy, Option.getD_some]
      clear hcp x1 x2 h1 h2 a3 b3 hn1 hn2 hx hy ra rb
      rcases Int.lt_or_le x y with hxy | hxy
      · have t1 : decide (x < y) = true := decide_eq_true hxy
        have HG2 : Hid (cmpL p q = -1) := by rw [Hid, HG.out, if_pos hxy]
        clear hxy HG
        go_enter Try.func21, Try.ntmps21
        go_wp2_with (go_at_call 19; refine hc.mono ?_; clear hc; rintro e w1 ⟨r, rfl, rfl, hE⟩; have e2 := hE.cell e1; have f2 := hE.cell f1)
        go_quiet (fail)
        go_wp2_with fail
        go_ret
        exact ret_int HG2.out.symm (hE.drewN _)
      · have t1 : decide (x < y) = false := decide_eq_false (by omega)
        have HG2 : Hid (cmpL p q = 1) := by rw [Hid, HG.out, if_neg (by omega)]
        clear hxy HG
        go_enter Try.func21, Try.ntmps21
        go_wp2_with (go_at_call 19; refine hc.mono ?_; clear hc; rintro e w1 ⟨r, rfl, rfl, hE⟩; have e2 := hE.cell e1; have f2 := hE.cell f1)
        go_quiet (fail)
        go_wp2_with fail
        go_ret
        exact ret_int HG2.out.symm (hE.drewN _)
end Go.Proofs.Ytbabfeepmaipoaa.Pt
