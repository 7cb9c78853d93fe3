/- Chapter 10: LxSmall turned to this seat. (Printed by gsyport.py.) -/
import Derived.Test.YtkimbpeapolcbaaSyLxData
import Derived.Deep.QuietTactic
namespace Go.Proofs.Ytkimbpeapolcbaa.Sy
open Go.RowKit Go.Proofs.Ytkimbpeapolcbaa.Bw Go.Proofs.Ytkimbpeapolcbaa.Bs

/-- What an edit tells of, and puts, at least. -/
def sumP : List Pc → Int
  | [] => 0
  | p :: r => max 0 p.keep + max 0 p.drop + p.put.size + sumP r
theorem sumP_nn : ∀ l : List Pc, 0 ≤ sumP l
  | [] => Int.le_refl _
  | p :: r => by have := sumP_nn r; show 0 ≤ max 0 p.keep + max 0 p.drop + p.put.size + sumP r; omega
theorem sumP_at {l : List Pc} {i : Nat} {p : Pc} (hp : l[i]? = some p) : sumP (l.drop i) = max 0 p.keep + max 0 p.drop + p.put.size + sumP (l.drop (i + 1)) := by rw [drop_at hp]; rfl
/-- A yes tells that the edit is small. -/
def SmallR (l : List Pc) (top : Int) (r : Value) : Prop := ∃ b, r = .bool b ∧ (b = true → (l.length : Int) ≤ top ∧ sumP l ≤ top)
set_option maxRecDepth 100000 in
set_option maxHeartbeats 4000000 in
theorem small_any (l : List Pc) (v : Value) (top : Int) (w : World) (h : RdP w l v) (ht0 : 0 ≤ top) (ht1 : top ≤ 100000) : Calls Try.prog 25 #[v, .int .i64 top] w (Ret w fun r _ => SmallR l top r) := by
  obtain ⟨A, c, rfl, a1, a2, a3⟩ := h
  unfold maxLen at a2
  rcases Int.lt_or_le top (l.length : Int) with hl | hl
  · have t1 : decide (top < (l.length : Int)) = true := decide_eq_true hl
    clear hl
    go_enter Try.func25, Try.ntmps25
    go_wp2_with fail
    go_ret
    exact ⟨_, rfl, ⟨_, rfl, fun h => by cases h⟩, Ext.refl w⟩
  · have t1 : decide (top < (l.length : Int)) = false := decide_eq_false (by omega)
    have HL := Lib.hid hl
    go_enter Try.func25, Try.ntmps25
    go_wp2_with fail
    go_loopw [5, 6] (fun s5 s6 wr => ∃ (i : Nat) (n : Int), s5 = .int .i64 n ∧ s6 = .int .i64 i ∧ i ≤ l.length ∧ 0 ≤ n ∧ n ≤ top ∧ Hid (n + sumP (l.drop i) = sumP l) ∧ Ext w wr) (fun _ i _ => l.length - (intOf i).toNat)
    case atStart => exact ⟨0, 0, rfl, rfl, Nat.zero_le _, Int.le_refl _, ht0, Lib.hid (by simp), Ext.refl w⟩
    case round =>
      obtain ⟨i, n, rfl, rfl, hi, hn0, hn1, HW, hE⟩ := hrel
      rcases Nat.lt_or_ge i l.length with hlt | hlt
      · obtain ⟨p, hp⟩ : ∃ p, l[i]? = some p := ⟨_, List.getElem?_eq_getElem hlt⟩
        obtain ⟨ba, oa, rfl, ra⟩ := a3 (by omega)
        obtain ⟨e1, e2, e3, e4⟩ := rdPcs_at (rdPcs_ext hE ra) hp
        have q1 : (0 : Int) ≤ (i : Int) := by omega
        have q2 : (i : Int) < (l.length : Int) := by omega
        have HX := sumP_at hp
        have HN := sumP_nn (l.drop (i + 1))
        have HD : Hid (n + (max 0 p.keep + max 0 p.drop + p.put.size) + sumP (l.drop (i + 1)) = sumP l) := Lib.hid (by
          have h1 := HW.out
          rw [HX] at h1; omega)
        unfold maxLen at e4
        clear hp ra a3 HW HX HN hl
        have w1 : -9223372036854775808 ≤ top - n ∧ top - n ≤ 9223372036854775807 := by omega
        rcases Int.lt_or_le p.keep 0 with hk | hk
        · rcases Int.lt_or_le p.drop 0 with hd | hd
          · have tk : decide (p.keep < 0) = true := decide_eq_true hk
            have td : decide (p.drop < 0) = true := decide_eq_true hd
            have h1 : (0 : Int) ≤ top - n := by omega
            have t1 : decide (top - n < 0) = false := decide_eq_false (by omega)
            have t2 : decide (top - n < 0) = false := decide_eq_false (by omega)
            rcases Int.lt_or_le (top - n) (p.put.size : Int) with h3 | h3
            · have t3 : decide (top - n < (p.put.size : Int)) = true := decide_eq_true h3
              go_wp2_with fail
              go_quiet (fail)
              go_wp2_with fail
              go_ret
              exact ⟨_, rfl, ⟨_, rfl, fun h => by cases h⟩, hE.drewN _⟩
            · have t3 : decide (top - n < (p.put.size : Int)) = false := decide_eq_false (by omega)
              go_wp2_with fail
              go_quiet (fail)
              go_wp2_with fail
              go_roundw
              case rel => exact ⟨i + 1, n + (max 0 p.keep + max 0 p.drop + p.put.size), by congr 1; omega, by go_num, by omega, by omega, by omega, HD, hE.drewN _⟩
              case measure => simp [intOf]; omega
          · have tk : decide (p.keep < 0) = true := decide_eq_true hk
            have td : decide (p.drop < 0) = false := decide_eq_false (by omega)
            have h1 : (0 : Int) ≤ top - n := by omega
            have t1 : decide (top - n < 0) = false := decide_eq_false (by omega)
            rcases Int.lt_or_le (top - n) p.drop with h2 | h2
            · have t2 : decide (top - n < p.drop) = true := decide_eq_true h2
              go_wp2_with fail
              go_quiet (fail)
              go_wp2_with fail
              go_ret
              exact ⟨_, rfl, ⟨_, rfl, fun h => by cases h⟩, hE.drewN _⟩
            · have t2 : decide (top - n < p.drop) = false := decide_eq_false (by omega)
              rcases Int.lt_or_le (top - n - p.drop) (p.put.size : Int) with h3 | h3
              · have t3 : decide (top - n - p.drop < (p.put.size : Int)) = true := decide_eq_true h3
                go_wp2_with fail
                go_quiet (fail)
                go_wp2_with fail
                go_ret
                exact ⟨_, rfl, ⟨_, rfl, fun h => by cases h⟩, hE.drewN _⟩
              · have t3 : decide (top - n - p.drop < (p.put.size : Int)) = false := decide_eq_false (by omega)
                go_wp2_with fail
                go_quiet (fail)
                go_wp2_with fail
                go_roundw
                case rel => exact ⟨i + 1, n + (max 0 p.keep + max 0 p.drop + p.put.size), by congr 1; omega, by go_num, by omega, by omega, by omega, HD, hE.drewN _⟩
                case measure => simp [intOf]; omega
        · rcases Int.lt_or_le p.drop 0 with hd | hd
          · have tk : decide (p.keep < 0) = false := decide_eq_false (by omega)
            have td : decide (p.drop < 0) = true := decide_eq_true hd
            rcases Int.lt_or_le (top - n) p.keep with h1 | h1
            · have t1 : decide (top - n < p.keep) = true := decide_eq_true h1
              go_wp2_with fail
              go_quiet (fail)
              go_wp2_with fail
              go_ret
              exact ⟨_, rfl, ⟨_, rfl, fun h => by cases h⟩, hE.drewN _⟩
            · have t1 : decide (top - n < p.keep) = false := decide_eq_false (by omega)
              have t2 : decide (top - n - p.keep < 0) = false := decide_eq_false (by omega)
              rcases Int.lt_or_le (top - n - p.keep) (p.put.size : Int) with h3 | h3
              · have t3 : decide (top - n - p.keep < (p.put.size : Int)) = true := decide_eq_true h3
                go_wp2_with fail
                go_quiet (fail)
                go_wp2_with fail
                go_ret
                exact ⟨_, rfl, ⟨_, rfl, fun h => by cases h⟩, hE.drewN _⟩
              · have t3 : decide (top - n - p.keep < (p.put.size : Int)) = false := decide_eq_false (by omega)
                go_wp2_with fail
                go_quiet (fail)
                go_wp2_with fail
                go_roundw
                case rel => exact ⟨i + 1, n + (max 0 p.keep + max 0 p.drop + p.put.size), by congr 1; omega, by go_num, by omega, by omega, by omega, HD, hE.drewN _⟩
                case measure => simp [intOf]; omega
          · have tk : decide (p.keep < 0) = false := decide_eq_false (by omega)
            have td : decide (p.drop < 0) = false := decide_eq_false (by omega)
            rcases Int.lt_or_le (top - n) p.keep with h1 | h1
            · have t1 : decide (top - n < p.keep) = true := decide_eq_true h1
              go_wp2_with fail
              go_quiet (fail)
              go_wp2_with fail
              go_ret
              exact ⟨_, rfl, ⟨_, rfl, fun h => by cases h⟩, hE.drewN _⟩
            · have t1 : decide (top - n < p.keep) = false := decide_eq_false (by omega)
              rcases Int.lt_or_le (top - n - p.keep) p.drop with h2 | h2
              · have t2 : decide (top - n - p.keep < p.drop) = true := decide_eq_true h2
                go_wp2_with fail
                go_quiet (fail)
                go_wp2_with fail
                go_ret
                exact ⟨_, rfl, ⟨_, rfl, fun h => by cases h⟩, hE.drewN _⟩
              · have t2 : decide (top - n - p.keep < p.drop) = false := decide_eq_false (by omega)
                rcases Int.lt_or_le (top - n - p.keep - p.drop) (p.put.size : Int) with h3 | h3
                · have t3 : decide (top - n - p.keep - p.drop < (p.put.size : Int)) = true := decide_eq_true h3
                  go_wp2_with fail
                  go_quiet (fail)
                  go_wp2_with fail
                  go_ret
                  exact ⟨_, rfl, ⟨_, rfl, fun h => by cases h⟩, hE.drewN _⟩
                · have t3 : decide (top - n - p.keep - p.drop < (p.put.size : Int)) = false := decide_eq_false (by omega)
                  go_wp2_with fail
                  go_quiet (fail)
                  go_wp2_with fail
                  go_roundw
                  case rel => exact ⟨i + 1, n + (max 0 p.keep + max 0 p.drop + p.put.size), by congr 1; omega, by go_num, by omega, by omega, by omega, HD, hE.drewN _⟩
                  case measure => simp [intOf]; omega
      · have HF : Hid (n = sumP l) := Lib.hid (by rw [← HW.out, List.drop_eq_nil_of_le hlt]; simp [sumP])
        clear HW
        go_wp2_with fail
        go_ret
        exact ⟨_, rfl, ⟨_, rfl, fun _ => ⟨HL.out, by rw [← HF.out]; exact hn1⟩⟩, hE⟩
end Go.Proofs.Ytkimbpeapolcbaa.Sy
