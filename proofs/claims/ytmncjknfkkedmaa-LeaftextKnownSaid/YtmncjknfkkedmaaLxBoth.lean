/- Chapter 05: how many bytes two rows go on with alike. -/
import Derived.Test.YtmncjknfkkedmaaLxRun
namespace Go.Proofs.Ytmncjknfkkedmaa.Lx
open Go.RowKit Go.Proofs.Ytmncjknfkkedmaa.Bw Go.Proofs.Ytmncjknfkkedmaa.Bs

def bN : List Pc → List Pc → Int
  | [], b => rN b
  | a, [] => rN a
  | a, b => min (rN a) (rN b)
def bSome (a b : List Pc) : Bool := decide (0 < a.length) || decide (0 < b.length)
theorem bN_nil (b : List Pc) : bN [] b = rN b := by cases b <;> rfl
theorem bN_nil' (a : List Pc) : bN a [] = rN a := by cases a <;> rfl
theorem bN_cons (p q : Pc) (r s : List Pc) : bN (p :: r) (q :: s) = min (rN (p :: r)) (rN (q :: s)) := rfl
theorem bN_le {a b : List Pc} {C : Nat} (ha : RB C a) (hb : RB C b) : 0 ≤ bN a b ∧ bN a b ≤ (C : Int) ∧ (a ≠ [] → bN a b ≤ rN a) ∧ (b ≠ [] → bN a b ≤ rN b) := by
  have h1 := ha.n
  have h2 := hb.n
  cases a with
  | nil => rw [bN_nil]; exact ⟨h2.1, h2.2, fun h => absurd rfl h, fun _ => Int.le_refl _⟩
  | cons p r =>
    cases b with
    | nil => rw [bN_nil']; exact ⟨h1.1, h1.2, fun _ => Int.le_refl _, fun h => absurd rfl h⟩
    | cons q s => rw [bN_cons]; exact ⟨by omega, by omega, fun _ => by omega, fun _ => by omega⟩
theorem RB.take' {C : Nat} {n : Int} {l : List Pc} (h : RB C l) (h0 : 0 ≤ n) (hn : l ≠ [] → n ≤ rN l) : RB C (rTake n l) := by
  cases l with
  | nil => exact h
  | cons p r => exact h.take h0 (hn (by simp))
theorem results_tmp4 {fn : Func} {t u v x : Tmp} (h : fn.results = #[.tmp t, .tmp u, .tmp v, .tmp x]) (tmps : Array Value) (P : Program) (w : World) :
    (results fn tmps).run P w = .ok (.tuple #[tmps.getD t undef, tmps.getD u undef, tmps.getD v undef, tmps.getD x undef]) w := by
  simp [results, h]
set_option maxRecDepth 100000 in
set_option maxHeartbeats 2000000 in
theorem both_any (C : Nat) (hC : C ≤ 1000000000000) (Ba Bb : Nat) (Ga Gb : Option Nat) (la lb : List Pc) (w : World) (ha : RowAt w Ba Ga la) (hb : RowAt w Bb Gb lb) (hA : RB C la) (hB : RB C lb)
    (hne : Ba ≠ Bb) (h1 : Ga ≠ some Ba) (h2 : Ga ≠ some Bb) (h3 : Gb ≠ some Ba) (h4 : Gb ≠ some Bb) (h5 : ∀ g, Ga = some g → Gb ≠ some g) :
    Calls Try.prog 36 #[.pointer (some ⟨Ba, 0, none⟩), .pointer (some ⟨Bb, 0, none⟩)] w fun e w' => e = .returned (.tuple #[.int .i64 (bN (rSkip la) (rSkip lb)), .bool (rD (rSkip la)), .bool (rD (rSkip lb)), .bool (bSome (rSkip la) (rSkip lb))]) ∧ RowAt w' Ba Ga (rTake (bN (rSkip la) (rSkip lb)) (rSkip la)) ∧ RowAt w' Bb Gb (rTake (bN (rSkip la) (rSkip lb)) (rSkip lb)) ∧ Fr w w' (fun k => k = Ba ∨ k = Bb ∨ Ga = some k ∨ Gb = some k) := by
  have hc1 := run_any Ba Ga la w ha h1
  have hA' := hA.skip
  have hB' := hB.skip
  obtain ⟨a, ea⟩ : ∃ a, rSkip la = a := ⟨_, rfl⟩
  obtain ⟨b, eb⟩ : ∃ b, rSkip lb = b := ⟨_, rfl⟩
  rw [ea] at hc1 hA' ⊢
  rw [eb] at hB' ⊢
  have EB := Lib.hid eb
  clear ea eb
  go_enter Try.func36, Try.ntmps36
  go_wp2_with fail
  refine hc1.mono ?_
  clear hc1
  rintro e w1 ⟨rfl, R1, F1⟩
  have S1 := hb.fr F1 (fun e => hne e.symm) (fun g hg e => h3 (by rw [hg, e]))
  have hc2 := run_any Bb Gb lb w1 S1 h4
  rw [EB.out] at hc2
  go_wp2_with fail
  refine hc2.mono ?_
  clear hc2
  rintro e w2 ⟨rfl, S2, F2⟩
  have R2 := R1.fr F2 (fun e => hne e) (fun g hg e => h2 (by rw [hg, e]))
  obtain ⟨n0, n1, n2, n3⟩ := bN_le hA' hB'
  cases a with
  | nil =>
    cases b with
    | nil =>
      have t1 : decide (0 < ([] : List Pc).length) = false := rfl
      go_wp2_with fail
      refine bodyPost_ret (results_tmp4 rfl _ _ _) rfl ?_
      exact ⟨rfl, R2, S2, (F1.mono (fun k h => .inl h)).trans (F2.mono (fun k h => .inr (.inl h)))⟩
    | cons q s =>
      have t1 : decide (0 < ([] : List Pc).length) = false := rfl
      have t2 : decide (0 < (q :: s : List Pc).length) = true := decide_eq_true (by simp)
      have e0 : bN [] (q :: s) = rN (q :: s) := rfl
      rw [e0] at n0 n1 n2 n3
      have E0 := Lib.hid e0
      clear e0
      obtain ⟨v, Nv, V⟩ := R2
      obtain ⟨u, Nu, U⟩ := S2
      have c0 := Nv.cell 0
      have hc3 := take_any C hC Ga _ v _ w2 V hA' n0 n1
      go_wp2_with fail
      refine hc3.mono ?_
      clear hc3 c0
      rintro e w3 ⟨rfl, V3, F3⟩
      have Nu3 := Nu.fr F3 h2
      have Nv3 := Nv.fr F3 h1
      have U3 := U.fr F3 (fun g hg e => h5 _ e hg)
      have c0 := Nu3.cell 0
      have hc4 := take_any C hC Gb _ u _ w3 U3 hB' n0 n1
      go_wp2_with fail
      refine hc4.mono ?_
      clear hc4 c0
      rintro e w4 ⟨rfl, U4, F4⟩
      go_wp2_with fail
      refine bodyPost_ret (results_tmp4 rfl _ _ _) rfl ?_
      rw [E0.out]
      have b1 : bSome [] (q :: s) = true := by unfold bSome; rw [t1, t2]; rfl
      rw [b1]
      have Nu4 := Nu3.fr F4 h4
      have V4 := V3.fr F4 (fun g hg e => h5 _ hg e)
      have Nv4 := Nv3.fr F4 h3
      exact ⟨rfl, ⟨_, Nv4, V4⟩, ⟨_, Nu4, U4⟩, ((F1.mono (fun k h => .inl h)).trans (F2.mono (fun k h => .inr (.inl h)))).trans ((F3.mono (fun k h => .inr (.inr (.inl h)))).trans (F4.mono (fun k h => .inr (.inr (.inr h)))))⟩
  | cons p r =>
    cases b with
    | nil =>
      have t1 : decide (0 < ([] : List Pc).length) = false := rfl
      have t2 : decide (0 < (p :: r : List Pc).length) = true := decide_eq_true (by simp)
      have e0 : bN (p :: r) [] = rN (p :: r) := rfl
      rw [e0] at n0 n1 n2 n3
      have E0 := Lib.hid e0
      clear e0
      obtain ⟨v, Nv, V⟩ := R2
      obtain ⟨u, Nu, U⟩ := S2
      have c0 := Nv.cell 0
      have hc3 := take_any C hC Ga _ v _ w2 V hA' n0 n1
      go_wp2_with fail
      refine hc3.mono ?_
      clear hc3 c0
      rintro e w3 ⟨rfl, V3, F3⟩
      have Nu3 := Nu.fr F3 h2
      have Nv3 := Nv.fr F3 h1
      have U3 := U.fr F3 (fun g hg e => h5 _ e hg)
      have c0 := Nu3.cell 0
      have hc4 := take_any C hC Gb _ u _ w3 U3 hB' n0 n1
      go_wp2_with fail
      refine hc4.mono ?_
      clear hc4 c0
      rintro e w4 ⟨rfl, U4, F4⟩
      go_wp2_with fail
      refine bodyPost_ret (results_tmp4 rfl _ _ _) rfl ?_
      rw [E0.out]
      have b1 : bSome (p :: r) [] = true := by unfold bSome; rw [t1, t2]; rfl
      rw [b1]
      have Nu4 := Nu3.fr F4 h4
      have V4 := V3.fr F4 (fun g hg e => h5 _ hg e)
      have Nv4 := Nv3.fr F4 h3
      exact ⟨rfl, ⟨_, Nv4, V4⟩, ⟨_, Nu4, U4⟩, ((F1.mono (fun k h => .inl h)).trans (F2.mono (fun k h => .inr (.inl h)))).trans ((F3.mono (fun k h => .inr (.inr (.inl h)))).trans (F4.mono (fun k h => .inr (.inr (.inr h)))))⟩
    | cons q s =>
      have t1 : decide (0 < (q :: s : List Pc).length) = true := decide_eq_true (by simp)
      have t2 : decide (0 < (p :: r : List Pc).length) = true := decide_eq_true (by simp)
      rcases Int.lt_or_le (rN (q :: s)) (rN (p :: r)) with hm | hm
      · have m1 : min (rN (p :: r)) (rN (q :: s)) = rN (q :: s) := by omega
        have m2 : ¬ rN (p :: r) ≤ rN (q :: s) := by omega
        have e0 : bN (p :: r) (q :: s) = rN (q :: s) := by rw [bN_cons, m1]
        rw [e0] at n0 n1 n2 n3
        have E0 := Lib.hid e0
        clear e0
        obtain ⟨v, Nv, V⟩ := R2
        obtain ⟨u, Nu, U⟩ := S2
        have c0 := Nv.cell 0
        have hc3 := take_any C hC Ga _ v _ w2 V hA' n0 n1
        go_wp2_with fail
        refine hc3.mono ?_
        clear hc3 c0
        rintro e w3 ⟨rfl, V3, F3⟩
        have Nu3 := Nu.fr F3 h2
        have Nv3 := Nv.fr F3 h1
        have U3 := U.fr F3 (fun g hg e => h5 _ e hg)
        have c0 := Nu3.cell 0
        have hc4 := take_any C hC Gb _ u _ w3 U3 hB' n0 n1
        go_wp2_with fail
        refine hc4.mono ?_
        clear hc4 c0
        rintro e w4 ⟨rfl, U4, F4⟩
        go_wp2_with fail
        refine bodyPost_ret (results_tmp4 rfl _ _ _) rfl ?_
        rw [E0.out]
        have b1 : bSome (p :: r) (q :: s) = true := by unfold bSome; rw [t1, t2]; rfl
        rw [b1]
        have Nu4 := Nu3.fr F4 h4
        have V4 := V3.fr F4 (fun g hg e => h5 _ hg e)
        have Nv4 := Nv3.fr F4 h3
        exact ⟨rfl, ⟨_, Nv4, V4⟩, ⟨_, Nu4, U4⟩, ((F1.mono (fun k h => .inl h)).trans (F2.mono (fun k h => .inr (.inl h)))).trans ((F3.mono (fun k h => .inr (.inr (.inl h)))).trans (F4.mono (fun k h => .inr (.inr (.inr h)))))⟩
      · have m1 : min (rN (p :: r)) (rN (q :: s)) = rN (p :: r) := by omega
        have e0 : bN (p :: r) (q :: s) = rN (p :: r) := by rw [bN_cons, m1]
        rw [e0] at n0 n1 n2 n3
        have E0 := Lib.hid e0
        clear e0
        obtain ⟨v, Nv, V⟩ := R2
        obtain ⟨u, Nu, U⟩ := S2
        have c0 := Nv.cell 0
        have hc3 := take_any C hC Ga _ v _ w2 V hA' n0 n1
        go_wp2_with fail
        refine hc3.mono ?_
        clear hc3 c0
        rintro e w3 ⟨rfl, V3, F3⟩
        have Nu3 := Nu.fr F3 h2
        have Nv3 := Nv.fr F3 h1
        have U3 := U.fr F3 (fun g hg e => h5 _ e hg)
        have c0 := Nu3.cell 0
        have hc4 := take_any C hC Gb _ u _ w3 U3 hB' n0 n1
        go_wp2_with fail
        refine hc4.mono ?_
        clear hc4 c0
        rintro e w4 ⟨rfl, U4, F4⟩
        go_wp2_with fail
        refine bodyPost_ret (results_tmp4 rfl _ _ _) rfl ?_
        rw [E0.out]
        have b1 : bSome (p :: r) (q :: s) = true := by unfold bSome; rw [t1, t2]; rfl
        rw [b1]
        have Nu4 := Nu3.fr F4 h4
        have V4 := V3.fr F4 (fun g hg e => h5 _ hg e)
        have Nv4 := Nv3.fr F4 h3
        exact ⟨rfl, ⟨_, Nv4, V4⟩, ⟨_, Nu4, U4⟩, ((F1.mono (fun k h => .inl h)).trans (F2.mono (fun k h => .inr (.inl h)))).trans ((F3.mono (fun k h => .inr (.inr (.inl h)))).trans (F4.mono (fun k h => .inr (.inr (.inr h)))))⟩
end Go.Proofs.Ytmncjknfkkedmaa.Lx
