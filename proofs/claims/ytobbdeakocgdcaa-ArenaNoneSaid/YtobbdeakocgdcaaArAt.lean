/- Chapter 07: the slot of a number (at 29, live 42). -/
import Derived.Test.YtobbdeakocgdcaaArData
import Derived.Test.YtobbdeakocgdcaaArLib
import Derived.IntWalk
namespace Go.Proofs.Ytobbdeakocgdcaa.Ar
open Go.RowKit Go.Proofs.Ytobbdeakocgdcaa.Bw

theorem tdiv16 (n : Nat) : (n : Int).tdiv 16 = ((n / 16 : Nat) : Int) := rfl
theorem tmod16 (n : Nat) : (n : Int).tmod 16 = ((n % 16 : Nat) : Int) := rfl

set_option maxHeartbeats 1000000 in
theorem at_any {w : World} {ρ : Nat → Tg} {base A : Nat} {S : St} {sv fv : Value} {bs : List Nat} (h : AP w ρ base A S sv fv bs) (n : Nat) (hn : n < 16 * bs.length) (hbig : bs.length ≤ 1000000) :
    Calls Try.prog 29 #[.pointer (some ⟨A, 0, none⟩), .int .i64 (n : Int)] w fun e w' => e = .returned (.pointer (some (slotAt bs n))) ∧ w' = w := by
  have hj : n / 16 < bs.length := by omega
  obtain ⟨b, hb⟩ : ∃ b, bs[n / 16]? = some b := ⟨_, List.getElem?_eq_getElem hj⟩
  have hg : slotAt bs n = ⟨b, n % 16 * 8, none⟩ := by simp [slotAt, List.getD, hb]
  rw [hg]
  rcases owns_form h.row with ⟨_, h0, _⟩ | ⟨g, cap, cs, rfl, hb2, hbx, h4, h5, h6, h7, h8⟩
  · omega
  · have c0 : w.cell? ⟨A, 0, none⟩ = some (.slice (some ⟨g, 0, none⟩) bs.length cap) := by rw [h.box.cell]; rfl
    have c1 : w.cell? ⟨g, n / 16, none⟩ = some (.pointer (some ⟨b, 0, none⟩)) := by rw [hbx.cell]; exact h8 _ _ (by simp [hb])
    have hd1 : ¬ ((n / 16 : Nat) : Int) < 0 := by omega
    have hd2 : ((n / 16 : Nat) : Int) < (bs.length : Int) := by omega
    have hm1 : ¬ ((n % 16 : Nat) : Int) < 0 := by omega
    have hm2 : ((n % 16 : Nat) : Int) < 16 := by omega
    have hq := tdiv16 n
    have hr := tmod16 n
    clear h hbx h8 hb hg
    go_enter Try.func29, Try.ntmps29
    go_wp2_with fail
    go_ret
    exact ⟨rfl, rfl⟩

/-- The slot of a live number. -/
theorem live_yes {w : World} {ρ : Nat → Tg} {base A : Nat} {S : St} {sv fv : Value} {bs : List Nat} (h : AP w ρ base A S sv fv bs) (n : Nat) (hn : n < S.sl.length) (hl : (S.get n).live = true) (hbig : bs.length ≤ 1000000) :
    Calls Try.prog 42 #[.pointer (some ⟨A, 0, none⟩), .int .i64 (n : Int)] w fun e w' => e = .returned (.pointer (some (slotAt bs n))) ∧ w' = w := by
  have hn16 : n < 16 * bs.length := Nat.lt_of_lt_of_le hn h.room
  have hc := at_any h n hn16 hbig
  obtain ⟨b, cs, av, kv, h1, h2, h3, h4, h5, h6⟩ := h.slot hn16
  have hs : slotAt bs n = ⟨b, n % 16 * 8, none⟩ := by rw [slotAt, h2]
  rw [hs] at hc ⊢
  have c0 : w.cell? ⟨b, n % 16 * 8, none⟩ = some (.bool true) := by rw [h3.cell, ← hl]; exact h5 0 _ rfl
  have c1 : w.cell? ⟨A, 1, none⟩ = some (.int .i64 (S.sl.length : Int)) := by rw [h.box.cell]; rfl
  have t1 : decide ((n : Int) < 0) = false := decide_eq_false (by omega)
  have t2 : decide ((S.sl.length : Int) ≤ (n : Int)) = false := decide_eq_false (by omega)
  clear h h1 h2 h3 h4 h5 h6 hs
  go_enter Try.func42, Try.ntmps42
  go_wp2_with (go_at_call 29; refine hc.mono ?_; rintro e w1 ⟨rfl, rfl⟩)
  go_ret
  exact ⟨rfl, rfl⟩
/-- No live number. -/
theorem live_no {w : World} {ρ : Nat → Tg} {base A : Nat} {S : St} {sv fv : Value} {bs : List Nat} (h : AP w ρ base A S sv fv bs) (n : Int) (hn : ∀ k : Nat, n = (k : Int) → k < S.sl.length → (S.get k).live = false) (hbig : bs.length ≤ 1000000) :
    Calls Try.prog 42 #[.pointer (some ⟨A, 0, none⟩), .int .i64 n] w fun e w' => e = .returned (.pointer none) ∧ w' = w := by
  have c1 : w.cell? ⟨A, 1, none⟩ = some (.int .i64 (S.sl.length : Int)) := by rw [h.box.cell]; rfl
  rcases Int.lt_or_le n 0 with h0 | h0
  · have t1 : decide (n < 0) = true := decide_eq_true h0
    clear h hn
    go_enter Try.func42, Try.ntmps42
    go_wp2_with fail
    go_ret
    exact ⟨rfl, rfl⟩
  · have t1 : decide (n < 0) = false := decide_eq_false (by omega)
    obtain ⟨k, rfl⟩ : ∃ k : Nat, n = (k : Int) := ⟨n.toNat, by omega⟩
    rcases Nat.lt_or_ge k S.sl.length with h2 | h2
    · have hl := hn k rfl h2
      have hn16 : k < 16 * bs.length := Nat.lt_of_lt_of_le h2 h.room
      have hc := at_any h k hn16 hbig
      obtain ⟨b, cs, av, kv, _, h3, h4, _, h5, _⟩ := h.slot hn16
      have hs : slotAt bs k = ⟨b, k % 16 * 8, none⟩ := by rw [slotAt, h3]
      rw [hs] at hc
      have c0 : w.cell? ⟨b, k % 16 * 8, none⟩ = some (.bool false) := by rw [h4.cell, ← hl]; exact h5 0 _ rfl
      have t2 : decide ((S.sl.length : Int) ≤ (k : Int)) = false := decide_eq_false (by omega)
      clear h h3 h4 h5 hs hn
      go_enter Try.func42, Try.ntmps42
      go_wp2_with (go_at_call 29; refine hc.mono ?_; clear hc; rintro e w1 ⟨rfl, rfl⟩)
      go_ret
      exact ⟨rfl, rfl⟩
    · have t2 : decide ((S.sl.length : Int) ≤ (k : Int)) = true := decide_eq_true (by omega)
      clear h hn
      go_enter Try.func42, Try.ntmps42
      go_wp2_with fail
      go_ret
      exact ⟨rfl, rfl⟩
/-- No arena. -/
theorem live_nil (n : Int) (w : World) : Calls Try.prog 42 #[.pointer none, .int .i64 n] w fun e w' => e = .returned (.pointer none) ∧ w' = w := by
  go_enter Try.func42, Try.ntmps42
  go_wp2_with fail
  go_ret
  exact ⟨rfl, rfl⟩
end Go.Proofs.Ytobbdeakocgdcaa.Ar
