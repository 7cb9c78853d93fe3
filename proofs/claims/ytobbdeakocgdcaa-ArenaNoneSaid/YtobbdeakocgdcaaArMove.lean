/- Chapter 07: Move (25). -/
import Derived.Test.YtobbdeakocgdcaaArRemove
namespace Go.Proofs.Ytobbdeakocgdcaa.Ar
open Go.RowKit Go.Proofs.Ytobbdeakocgdcaa.Bw

section
variable {w : World} {ρ : Nat → Tg} {base A : Nat} {S : St} {sv fv : Value} {bs : List Nat}
theorem live_any (h : AP w ρ base A S sv fv bs) (n : Int) (hbig : bs.length ≤ 1000000) :
    Calls Try.prog 42 #[.pointer (some ⟨A, 0, none⟩), .int .i64 n] w fun e w' => e = .returned (.pointer (if S.liveB n = true then some (slotAt bs n.toNat) else none)) ∧ w' = w := by
  rcases hl : S.liveB n with _ | _
  · exact live_no h n (liveB_no hl) hbig
  · obtain ⟨k, rfl, hk, hk2⟩ := liveB_yes hl
    exact live_yes h k hk hk2 hbig
theorem move_nil (n q g : Int) (w : World) : Calls Try.prog 25 #[.pointer none, .int .i64 n, .int .i64 q, .int .i64 g] w fun e w' => e = .returned (.int .i64 1) ∧ w' = w := by
  go_enter Try.func25, Try.ntmps25
  go_wp2_with fail
  go_ret
  exact ⟨rfl, rfl⟩
theorem move_no (h : AP w ρ base A S sv fv bs) (n q g : Int) (hn : S.liveB n = false ∨ S.liveB q = false) (hbig : bs.length ≤ 1000000) :
    Calls Try.prog 25 #[.pointer (some ⟨A, 0, none⟩), .int .i64 n, .int .i64 q, .int .i64 g] w fun e w' => e = .returned (.int .i64 5) ∧ w' = w := by
  have h1 := live_any h n hbig
  have h2 := live_any h q hbig
  rcases hb : S.liveB n with _ | _
  · rw [hb] at h1
    rw [if_neg (by simp)] at h1
    obtain ⟨pq, hpq⟩ : ∃ p, (if S.liveB q = true then some (slotAt bs q.toNat) else none) = p := ⟨_, rfl⟩
    rw [hpq] at h2
    clear h hn hb hpq
    go_enter Try.func25, Try.ntmps25
    go_wp2_with (go_at_call 42; first | (refine h1.mono ?_; clear h1; rintro e w1 ⟨rfl, rfl⟩) | (refine h2.mono ?_; clear h2; rintro e w1 ⟨rfl, rfl⟩))
    go_ret
    exact ⟨rfl, rfl⟩
  · have hq : S.liveB q = false := by rcases hn with e | e; rw [hb] at e; cases e; exact e
    rw [hb, if_pos rfl] at h1
    rw [hq, if_neg (by simp)] at h2
    generalize slotAt bs n.toNat = sp at *
    clear h hn hb hq
    go_enter Try.func25, Try.ntmps25
    go_wp2_with (go_at_call 42; first | (refine h1.mono ?_; clear h1; rintro e w1 ⟨rfl, rfl⟩) | (refine h2.mono ?_; clear h2; rintro e w1 ⟨rfl, rfl⟩))
    go_ret
    exact ⟨rfl, rfl⟩
theorem move_root (h : AP w ρ base A S sv fv bs) (q g : Int) (hn : S.liveB 0 = true) (hq : S.liveB q = true) (hbig : bs.length ≤ 1000000) :
    Calls Try.prog 25 #[.pointer (some ⟨A, 0, none⟩), .int .i64 0, .int .i64 q, .int .i64 g] w fun e w' => e = .returned (.int .i64 82) ∧ w' = w := by
  have h1 := live_any h 0 hbig
  have h2 := live_any h q hbig
  rw [hn, if_pos rfl] at h1
  rw [hq, if_pos rfl] at h2
  generalize slotAt bs (0 : Int).toNat = sp at *
  generalize slotAt bs q.toNat = sq at *
  clear h hn hq
  go_enter Try.func25, Try.ntmps25
  go_wp2_with (go_at_call 42; first | (refine h1.mono ?_; clear h1; rintro e w1 ⟨rfl, rfl⟩) | (refine h2.mono ?_; clear h2; rintro e w1 ⟨rfl, rfl⟩))
  go_ret
  exact ⟨rfl, rfl⟩
theorem move_cycle {d : Nat → Nat} (h : AP w ρ base A S sv fv bs) (ht : TI S d) (n q : Nat) (g : Int) (h0 : n ≠ 0) (hn : S.liveB n = true) (hq : S.liveB q = true) (ha : Anc S q n) (hbig : bs.length ≤ 1000000) :
    Calls Try.prog 25 #[.pointer (some ⟨A, 0, none⟩), .int .i64 (n : Int), .int .i64 (q : Int), .int .i64 g] w fun e w' => e = .returned (.int .i64 84) ∧ w' = w := by
  have h1 := live_any h n hbig
  have h2 := live_any h q hbig
  rw [hn, if_pos rfl] at h1
  rw [hq, if_pos rfl] at h2
  rw [liveB_nat] at hn hq
  simp only [Bool.and_eq_true, decide_eq_true_eq] at hn hq
  have h3 : Calls Try.prog 47 #[.pointer (some ⟨A, 0, none⟩), .int .i64 (q : Int), .int .i64 (n : Int)] w fun e w' => e = .returned (.bool true) ∧ w' = w := by
    refine (under_any h ht q n hq.1 hq.2 hbig).mono ?_
    rintro e w' ⟨r, rfl, hr, rfl⟩
    exact ⟨by rw [hr.2 ha], rfl⟩
  have t1 : decide ((n : Int) = 0) = false := decide_eq_false (by omega)
  have t2 : ((n : Int) == 0) = false := by simp; omega
  generalize slotAt bs (n : Int).toNat = sp at *
  generalize slotAt bs (q : Int).toNat = sq at *
  clear h hn hq ha ht
  go_enter Try.func25, Try.ntmps25
  go_wp2_with (first
    | (go_at_call 42; first | (refine h1.mono ?_; clear h1; rintro e w1 ⟨rfl, rfl⟩) | (refine h2.mono ?_; clear h2; rintro e w1 ⟨rfl, rfl⟩))
    | (go_at_call 47; refine h3.mono ?_; rintro e w1 ⟨rfl, rfl⟩))
  go_ret
  exact ⟨rfl, rfl⟩
theorem move_err {d : Nat → Nat} (h : AP w ρ base A S sv fv bs) (ht : TI S d) (n q : Nat) (g : Int) (h0 : n ≠ 0) (hn : S.liveB n = true) (hq : S.liveB q = true) (ha : ¬ Anc S q n) (he : (S.get q).takes g ≠ 0) (hbig : bs.length ≤ 1000000) :
    Calls Try.prog 25 #[.pointer (some ⟨A, 0, none⟩), .int .i64 (n : Int), .int .i64 (q : Int), .int .i64 g] w fun e w' => e = .returned (.int .i64 ((S.get q).takes g)) ∧ w' = w := by
  have h1 := live_any h n hbig
  have h2 := live_any h q hbig
  rw [hn, if_pos rfl] at h1
  rw [hq, if_pos rfl] at h2
  rw [liveB_nat] at hn hq
  simp only [Bool.and_eq_true, decide_eq_true_eq] at hn hq
  have h3 : Calls Try.prog 47 #[.pointer (some ⟨A, 0, none⟩), .int .i64 (q : Int), .int .i64 (n : Int)] w fun e w' => e = .returned (.bool false) ∧ w' = w := by
    refine (under_any h ht q n hq.1 hq.2 hbig).mono ?_
    rintro e w' ⟨r, rfl, hr, rfl⟩
    refine ⟨?_, rfl⟩
    rcases r with _ | _
    · rfl
    · exact absurd (hr.1 rfl) ha
  have h4 := takes_any h q g hq.1
  rw [show (q : Int).toNat = q from Int.toNat_natCast q] at h2
  have t1 : decide ((n : Int) = 0) = false := decide_eq_false (by omega)
  have t2 : ((n : Int) == 0) = false := by simp; omega
  generalize slotAt bs (n : Int).toNat = sp at *
  generalize slotAt bs q = sq at *
  generalize (S.get q).takes g = e at *
  have t3 : (e == 0) = false := by simp [he]
  have t4 : decide (e = 0) = false := decide_eq_false he
  have t5 : (e != 0) = true := by simp [he]
  clear h hn hq ha ht
  go_enter Try.func25, Try.ntmps25
  go_wp2_with (first
    | (go_at_call 42; first | (refine h1.mono ?_; clear h1; rintro e w1 ⟨rfl, rfl⟩) | (refine h2.mono ?_; clear h2; rintro e w1 ⟨rfl, rfl⟩))
    | (go_at_call 47; refine h3.mono ?_; rintro e w1 ⟨rfl, rfl⟩)
    | (go_at_call 44; refine h4.mono ?_; rintro e w1 ⟨rfl, rfl⟩))
  go_ret
  exact ⟨rfl, rfl⟩
end
end Go.Proofs.Ytobbdeakocgdcaa.Ar
