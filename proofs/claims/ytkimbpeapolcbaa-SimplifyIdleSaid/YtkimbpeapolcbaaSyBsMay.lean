/- Chapter 10: BsMay turned to this seat. (Printed by gsyport.py.) -/
import Derived.Test.YtkimbpeapolcbaaSyBsInts
namespace Go.Proofs.Ytkimbpeapolcbaa.Sy
open Go.RowKit Go.Proofs.Ytkimbpeapolcbaa.Bw Go.Proofs.Ytkimbpeapolcbaa.Bs

def okN (n : Int) : Bool := decide (0 ≤ n) && decide (n < 1048576)
def may (p : List Int) : Bool := decide (p.length ≤ 64) && p.all okN
theorem all_at {p : List Int} {i : Nat} {x : Int} (hx : p[i]? = some x) : (p.drop i).all okN = (okN x && (p.drop (i + 1)).all okN) := by
  rw [drop_at hx, List.all_cons]
set_option maxRecDepth 100000 in
set_option maxHeartbeats 1000000 in
theorem okN_any (n : Int) (w : World) : Calls Try.prog 78 #[.int .i64 n] w (Ret w fun r _ => r = .bool (!okN n)) := by
  rcases Int.lt_or_le n 0 with h | h
  · have HF := Lib.hid (show okN n = false by simp [okN]; omega)
    have hd : decide (n < 0) = true := decide_eq_true h
    go_enter Try.func78, Try.ntmps78
    go_wp2_with fail
    go_ret
    exact ret_bool (by rw [HF.out]; rfl) (Ext.refl w)
  rcases Int.lt_or_le n 1048576 with h2 | h2
  · have HF := Lib.hid (show okN n = true by simp [okN]; omega)
    have hd : decide (n < 0) = false := decide_eq_false (by omega)
    have hd2 : decide (1048576 ≤ n) = false := decide_eq_false (by omega)
    go_enter Try.func78, Try.ntmps78
    go_wp2_with fail
    go_ret
    exact ret_bool (by rw [HF.out]; first | rfl | (rw [hd2]; rfl)) (Ext.refl w)
  · have HF := Lib.hid (show okN n = false by simp [okN]; omega)
    have hd : decide (n < 0) = false := decide_eq_false (by omega)
    have hd2 : decide (1048576 ≤ n) = true := decide_eq_true h2
    go_enter Try.func78, Try.ntmps78
    go_wp2_with fail
    go_ret
    exact ret_bool (by rw [HF.out]; first | rfl | (rw [hd2]; rfl)) (Ext.refl w)
set_option maxRecDepth 100000 in
set_option maxHeartbeats 1000000 in
theorem idx_any (p : List Int) (v : Value) (w : World) (h : RdI w p v) : Calls Try.prog 85 #[v, .func (.func 78) #[] #[]] w (Ret w fun r _ => ∃ k : Int, r = .int .i64 k ∧ decide (0 ≤ k) = !p.all okN) := by
  obtain ⟨aA, ac, rfl, _, a1, a2, a3⟩ := h
  unfold maxLen at a2
  go_enter Try.func85, Try.ntmps85
  go_wp2_with fail
  go_loopw [8] (fun s wr => ∃ i : Nat, s = .int .i64 i ∧ i ≤ p.length ∧ Hid ((p.drop i).all okN = p.all okN) ∧ Ext w wr) (fun i _ => p.length - (intOf i).toNat)
  case atStart => exact ⟨0, rfl, Nat.zero_le _, rfl, Ext.refl _⟩
  case round =>
    obtain ⟨i, rfl, hi, HW, hE⟩ := hrel
    rcases Nat.lt_or_ge i p.length with hlt | hlt
    · obtain ⟨x, hx⟩ : ∃ x, p[i]? = some x := ⟨_, List.getElem?_eq_getElem hlt⟩
      obtain ⟨ba, oa, rfl, ra⟩ := a3 (by omega)
      have e1 := hE.cell (ra i (.int .i64 x) (by rw [List.getElem?_map, hx]; rfl))
      have HD := Lib.hid (all_at hx)
      have q1 : (0 : Int) ≤ (i : Int) := by omega
      have q2 : (i : Int) < (p.length : Int) := by omega
      have hcl := okN_any x
      clear hx ra a3
      rcases hc1 : okN x with _ | _
      · have HG : Hid (p.all okN = false) := by rw [← HW.out, HD.out, hc1]; rfl
        rw [hc1] at hcl
        clear HW HD
        go_wp2_with (go_at_call 78; refine (hcl _).mono ?_; rintro e u ⟨r, rfl, rfl, hE2⟩)
        go_ret
        exact ⟨_, rfl, ⟨_, rfl, by rw [HG.out]; simp⟩, hE.trans hE2⟩
      · have HN : Hid ((p.drop (i + 1)).all okN = p.all okN) := by rw [← HW.out, HD.out, hc1]; rfl
        rw [hc1] at hcl
        clear HW HD
        go_wp2_with (go_at_call 78; refine (hcl _).mono ?_; rintro e u ⟨r, rfl, rfl, hE2⟩)
        go_roundw
        case rel => exact ⟨i + 1, by go_num, by omega, HN, hE.trans hE2⟩
        case measure => simp [intOf]; omega
    · have HG : Hid (p.all okN = true) := by rw [← HW.out, List.drop_eq_nil_of_le hlt]; rfl
      clear HW a3
      go_wp2_with fail
      go_ret
      exact ⟨_, rfl, ⟨_, rfl, by rw [HG.out]; rfl⟩, hE⟩
set_option maxRecDepth 100000 in
set_option maxHeartbeats 1000000 in
theorem contains_any (p : List Int) (v : Value) (w : World) (h : RdI w p v) : Calls Try.prog 77 #[v, .func (.func 78) #[] #[]] w (Ret w fun r _ => r = .bool (!p.all okN)) := by
  have hc := idx_any p v w h
  obtain ⟨aA, ac, rfl, _⟩ := h
  go_enter Try.func77, Try.ntmps77
  go_wp2_with (go_at_call 85; refine hc.mono ?_; clear hc; rintro e u ⟨r, rfl, ⟨k, rfl, hk⟩, hE2⟩; have HK := Lib.hid hk; clear hk)
  go_ret
  exact ret_bool HK.out hE2
set_option maxRecDepth 100000 in
set_option maxHeartbeats 1000000 in
theorem pathMay_any (p : List Int) (v : Value) (w : World) (h : RdI w p v) : Calls Try.prog 44 #[v] w (Ret w fun r _ => r = .bool (may p)) := by
  have hc := contains_any p v w h
  obtain ⟨aA, ac, rfl, _, _, a2, _⟩ := h
  unfold maxLen at a2
  rcases Nat.lt_or_ge 64 p.length with hl | hl
  · have HF := Lib.hid (show may p = false by rw [may, decide_eq_false (by omega), Bool.false_and])
    have hd : decide ((p.length : Int) ≤ 64) = false := decide_eq_false (by omega)
    have hd2 : decide (p.length ≤ 64) = false := decide_eq_false (by omega)
    clear hc
    go_enter Try.func44, Try.ntmps44
    go_wp2_with fail
    go_ret
    exact ret_bool HF.out.symm (Ext.refl w)
  · have HF := Lib.hid (show may p = p.all okN by rw [may, decide_eq_true hl, Bool.true_and])
    have hd : decide ((p.length : Int) ≤ 64) = true := decide_eq_true (by omega)
    have hd2 : decide (p.length ≤ 64) = true := decide_eq_true (by omega)
    rcases ha : p.all okN with _ | _
    all_goals
      rw [ha] at hc HF
      clear ha
      go_enter Try.func44, Try.ntmps44
      go_wp2_with (go_at_call 77; refine hc.mono ?_; clear hc; rintro e u ⟨r, rfl, rfl, hE2⟩)
      go_ret
      exact ret_bool (by rw [HF.out]) hE2
end Go.Proofs.Ytkimbpeapolcbaa.Sy
