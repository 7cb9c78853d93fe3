/- Chapter 04: which of two paths is ahead. -/
import Derived.Test.YtbabfeepmaipoaaPtSum
namespace Go.Proofs.Ytbabfeepmaipoaa.Pt
open Go.RowKit Go.Proofs.Ytbabfeepmaipoaa.Bw Go.Proofs.Ytbabfeepmaipoaa.Bs

def cmpI (x y : Int) : Int := if x < y then -1 else if y < x then 1 else 0
def cmpL : List Int → List Int → Int
  | [], [] => 0
  | [], _ :: _ => -1
  | _ :: _, [] => 1
  | x :: p, y :: q => if cmpI x y = 0 then cmpL p q else cmpI x y

set_option maxRecDepth 100000 in
set_option maxHeartbeats 1000000 in
theorem nan_any (x : Int) (w : World) : Calls Try.prog 45 #[.int .i64 x] w (Ret w fun r _ => r = .bool false) := by
  have hx : (x != x) = false := by simp
  go_enter Try.func45, Try.ntmps45
  go_wp2_with fail
  go_ret
  exact ret_bool (by rfl) (Ext.refl w)

set_option maxRecDepth 100000 in
set_option maxHeartbeats 1000000 in
theorem cmpI_any (x y : Int) (w : World) : Calls Try.prog 41 #[.int .i64 x, .int .i64 y] w (Ret w fun r _ => r = .int .i64 (cmpI x y)) := by
  have hc1 := nan_any x
  have hc2 := nan_any y
  rcases Int.lt_trichotomy x y with h | h | h
  · have HF : Hid (cmpI x y = -1) := if_pos h
    have t1 : decide (x < y) = true := decide_eq_true h
    clear h
    go_enter Try.func41, Try.ntmps41
    go_wp2_with (first | (go_at_call 45; refine (hc1 _).mono ?_; clear hc1; rintro e u ⟨r, rfl, rfl, hE⟩) | (go_at_call 45; refine (hc2 _).mono ?_; clear hc2; rintro e u2 ⟨r, rfl, rfl, hE2⟩))
    go_ret
    exact ret_int HF.out.symm (hE.trans hE2)
  · have HF : Hid (cmpI x y = 0) := by rw [Hid, cmpI, if_neg (by omega), if_neg (by omega)]
    have t1 : decide (x < y) = false := decide_eq_false (by omega)
    have t2 : decide (y < x) = false := decide_eq_false (by omega)
    clear h
    go_enter Try.func41, Try.ntmps41
    go_wp2_with (first | (go_at_call 45; refine (hc1 _).mono ?_; clear hc1; rintro e u ⟨r, rfl, rfl, hE⟩) | (go_at_call 45; refine (hc2 _).mono ?_; clear hc2; rintro e u2 ⟨r, rfl, rfl, hE2⟩))
    go_ret
    exact ret_int HF.out.symm (hE.trans hE2)
  · have HF : Hid (cmpI x y = 1) := by rw [Hid, cmpI, if_neg (by omega), if_pos h]
    have t1 : decide (x < y) = false := decide_eq_false (by omega)
    have t2 : decide (y < x) = true := decide_eq_true h
    clear h
    go_enter Try.func41, Try.ntmps41
    go_wp2_with (first | (go_at_call 45; refine (hc1 _).mono ?_; clear hc1; rintro e u ⟨r, rfl, rfl, hE⟩) | (go_at_call 45; refine (hc2 _).mono ?_; clear hc2; rintro e u2 ⟨r, rfl, rfl, hE2⟩))
    go_ret
    exact ret_int HF.out.symm (hE.trans hE2)

set_option maxRecDepth 100000 in
set_option maxHeartbeats 2000000 in
theorem cmpL_any (p q : List Int) (u v : Value) (w : World) (hp : RdI w p u) (hq : RdI w q v) : Calls Try.prog 35 #[u, v] w (Ret w fun r _ => r = .int .i64 (cmpL p q)) := by
  obtain ⟨A, c, rfl, _, a1, a2, a3⟩ := hp
  obtain ⟨B, d, rfl, _, b1, b2, b3⟩ := hq
  unfold maxLen at a2 b2
  go_enter Try.func35, Try.ntmps35
  go_wp2_with fail
  go_loopw [11] (fun s11 wr => ∃ i : Nat, s11 = .int .i64 i ∧ i ≤ p.length ∧ i ≤ q.length ∧ Hid (cmpL (p.drop i) (q.drop i) = cmpL p q) ∧ Ext w wr) (fun i _ => p.length - (intOf i).toNat)
  case atStart => exact ⟨0, rfl, Nat.zero_le _, Nat.zero_le _, rfl, Ext.refl _⟩
  case round =>
    obtain ⟨i, rfl, hi, hi2, HW, hX⟩ := hrel
    have q1 : (0 : Int) ≤ (i : Int) := by omega
    rcases Nat.lt_or_ge i p.length with hlt | hlt
    · obtain ⟨x, hx⟩ : ∃ x, p[i]? = some x := ⟨_, List.getElem?_eq_getElem hlt⟩
      obtain ⟨ba, oa, rfl, ra⟩ := a3 (by omega)
      have e1 := hX.cell (ra i (.int .i64 x) (by rw [List.getElem?_map, hx]; rfl))
      have q2 : (i : Int) < (p.length : Int) := by omega
      rcases Nat.lt_or_ge i q.length with hlt2 | hlt2
      · obtain ⟨y, hy⟩ : ∃ x, q[i]? = some x := ⟨_, List.getElem?_eq_getElem hlt2⟩
        obtain ⟨bb, ob, rfl, rb⟩ := b3 (by omega)
        have f1 := hX.cell (rb i (.int .i64 y) (by rw [List.getElem?_map, hy]; rfl))
        have HD : Hid (cmpL (p.drop i) (q.drop i) = if cmpI x y = 0 then cmpL (p.drop (i + 1)) (q.drop (i + 1)) else cmpI x y) := by rw [Hid, drop_at hx, drop_at hy, cmpL]
        have q3 : (i : Int) < (q.length : Int) := by omega
        have q4 : decide ((q.length : Int) ≤ (i : Int)) = false := decide_eq_false (by omega)
        have q4' : decide (q.length ≤ i) = false := decide_eq_false (by omega)
        have hc := cmpI_any x y
        clear hx hy ra rb a3 b3
        generalize cmpI x y = cv at *
        rcases hc1 : (cv == 0) with _ | _
        · have hne : cv ≠ 0 := by simpa using hc1
          have HG : Hid (cv = cmpL p q) := by show cv = _; rw [← HW.out, HD.out, if_neg hne]
          have hc2 : (cv != 0) = true := by rw [bne, hc1]; rfl
          clear HW HD hne
          go_wp2_with (go_at_call 41; refine (hc _).mono ?_; clear hc; rintro e uu ⟨r, rfl, rfl, hE⟩)
          go_ret
          exact ret_int HG.out (hX.trans hE)
        · have heq : cv = 0 := by simpa using hc1
          have HN : Hid (cmpL (p.drop (i + 1)) (q.drop (i + 1)) = cmpL p q) := by rw [← HW.out, HD.out, if_pos heq]; rfl
          have hc2 : (cv != 0) = false := by rw [bne, hc1]; rfl
          clear HW HD heq
          go_wp2_with (go_at_call 41; refine (hc _).mono ?_; clear hc; rintro e uu ⟨r, rfl, rfl, hE⟩)
          go_roundw
          case rel => exact ⟨i + 1, by go_num, by omega, by omega, HN, hX.trans hE⟩
          case measure => simp [intOf]; omega
      · have HG : Hid (cmpL p q = 1) := by
          rw [Hid, ← HW.out, drop_at hx, List.drop_eq_nil_of_le hlt2]; rfl
        have q4 : decide ((q.length : Int) ≤ (i : Int)) = true := decide_eq_true (by omega)
        have q4' : decide (q.length ≤ i) = true := decide_eq_true hlt2
        clear HW hx ra a3 b3
        go_wp2_with fail
        go_ret
        exact ret_int HG.out.symm hX
    · have q2 : decide ((i : Int) < (p.length : Int)) = false := decide_eq_false (by omega)
      rcases Nat.lt_or_ge p.length q.length with hl | hl
      · have HG : Hid (cmpL p q = -1) := by
          obtain ⟨y, hy⟩ : ∃ x, q[i]? = some x := ⟨_, List.getElem?_eq_getElem (by omega)⟩
          rw [Hid, ← HW.out, List.drop_eq_nil_of_le hlt, drop_at hy]; rfl
        have t1 : decide ((p.length : Int) < (q.length : Int)) = true := decide_eq_true (by omega)
        have t1' : decide (p.length < q.length) = true := decide_eq_true hl
        clear HW a3 b3
        go_wp2_with fail
        go_ret
        exact ret_int HG.out.symm hX
      · have HG : Hid (cmpL p q = 0) := by
          rw [Hid, ← HW.out, List.drop_eq_nil_of_le hlt, List.drop_eq_nil_of_le (by omega)]; rfl
        have t1 : decide ((p.length : Int) < (q.length : Int)) = false := decide_eq_false (by omega)
        have t1' : decide (p.length < q.length) = false := decide_eq_false (by omega)
        clear HW a3 b3
        go_wp2_with fail
        go_ret
        exact ret_int HG.out.symm hX
set_option maxRecDepth 100000 in
set_option maxHeartbeats 1000000 in
theorem compare_any (p q : List Int) (u v : Value) (w : World) (hp : RdI w p u) (hq : RdI w q v) : Calls Try.prog 20 #[u, v] w (Ret w fun r _ => r = .int .i64 (cmpL p q)) := by
  have hc := cmpL_any p q u v w hp hq
  go_enter Try.func20, Try.ntmps20
  go_wp2_with (go_at_call 35; refine hc.mono ?_; rintro e w1 ⟨r, rfl, rfl, hE⟩)
  go_ret
  exact ret_int rfl hE
end Go.Proofs.Ytbabfeepmaipoaa.Pt
