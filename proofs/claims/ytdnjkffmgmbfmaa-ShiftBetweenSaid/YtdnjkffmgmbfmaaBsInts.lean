/- Chapter 11: the functions on rows of ints. -/
import Derived.Test.YtdnjkffmgmbfmaaProg
import Derived.Test.YtdnjkffmgmbfmaaBsPlain
import Derived.BigQuiet
import Derived.Deep.QuietTactic
import Derived.Deep.AppendLies
import Derived.WalkSpells
namespace Go.Proofs.Ytdnjkffmgmbfmaa.Bs
open Go.RowKit Go.Proofs.Ytdnjkffmgmbfmaa.Bw

/-- A value that reads as a row of ints. -/
abbrev RdI (w : World) (p : List Int) (v : Value) : Prop := RdS w 1 p.length (p.map (Value.int .i64)) v
theorem T22 : SliceT Try.prog 22 3 (.int .i64 0) 1 8 := SliceT.mk' Try.underlying22 (by kernel_rfl) rfl (by decide)
theorem ints_step {a b : List Int} {i : Nat} {x y : Int} (hx : a[i]? = some x) (hy : b[i]? = some y) : decide (a.drop i = b.drop i) = ((x == y) && decide (a.drop (i + 1) = b.drop (i + 1))) := by
  rw [drop_at hx, drop_at hy]
  by_cases h : x = y
  · subst h; simp
  · simp [h]

set_option maxRecDepth 100000 in
set_option maxHeartbeats 1000000 in
theorem copied_any (p : List Int) (v : Value) (w : World) (h : RdI w p v) (hl : p.length ≤ 1000000) : Calls Try.prog 10 #[v] w (Ret w fun r w' => w'.ownsRow w.heap.size 3 1 r p.length (p.map (Value.int .i64))) := by
  have h0 := h
  obtain ⟨A, c, rfl, _, a1, a2, _⟩ := h0
  have hnil : w.ownsRow w.heap.size 3 1 (.slice none 0 0) 0 [] := ⟨rfl, .inl ⟨rfl, rfl⟩⟩
  go_enter Try.func10, Try.ntmps10
  go_wp2_with (at_builtin; refine wpList_append_rd rfl rfl T22 (v := _) (by rfl) hnil (by rfl) h (ints_one _ _) (by omega) (by simp only [maxLen]; omega) (Nat.le_refl _) ?_; intro v3 w3 hown hg hat)
  go_ret
  exact ⟨_, rfl, by simpa using hown, Ext.grown (Ext.refl w) hg (fun k hk => by cases hk)⟩

set_option maxRecDepth 100000 in
set_option maxHeartbeats 1000000 in
theorem clone_any (p : List Int) (v : Value) (w : World) (h : RdI w p v) (hl : p.length ≤ 1000000) : Calls Try.prog 30 #[v] w (Ret w fun r w' => w'.ownsRow w.heap.size 3 1 r p.length (p.map (Value.int .i64))) := by
  have h0 := h
  obtain ⟨A, c, rfl, _, a1, a2, a3⟩ := h0
  have hnil := Lib.run_eql_slice_nil (P := Try.prog) w 22 3 A p.length c 0 0 Try.underlying22
  cases A with
  | none =>
    obtain rfl : p = [] := by
      cases p with
      | nil => rfl
      | cons x r => obtain ⟨_, _, h, _⟩ := a3 (by simp); cases h
    simp only [List.length_nil] at hnil
    go_enter Try.func30, Try.ntmps30
    go_wp2_with fail
    go_ret
    exact ⟨_, rfl, ⟨rfl, .inl ⟨rfl, rfl⟩⟩, Ext.refl w⟩
  | some a =>
    obtain ⟨w1, hw1⟩ : ∃ w1, w.alloc (.cells #[] 3) = w1 := ⟨_, rfl⟩
    have hE1 : Ext w w1 := by rw [← hw1]; exact (Ext.refl w).alloc _
    have hown : w1.ownsRow w.heap.size 3 1 (.slice (some ⟨w.heap.size, 0, none⟩) 0 0) 0 [] := by
      rw [← hw1]; exact ⟨rfl, .inr ⟨_, 0, _, rfl, Nat.le_refl _, World.alloc_heap_new w _, Nat.le_refl _, by simp [maxLen], rfl, rfl⟩⟩
    have h1 := h.ext hE1
    have H1 := Lib.hid hw1
    clear hw1 a3
    go_enter Try.func30, Try.ntmps30
    go_wp2_with (first
      | (rw [H1.out]; clear H1)
      | (at_builtin
         refine wpList_append_rd rfl rfl T22 (v := _) (by rfl) hown (by rfl) h1 (ints_one _ _) (by omega) (by simp only [maxLen]; omega) (by have := hE1.size; omega) ?_
         intro v3 w3 hown3 hg3 hat3))
    go_ret
    exact ⟨_, rfl, by simpa using hown3, Ext.grown hE1 hg3 (owns_base hown)⟩

set_option maxRecDepth 100000 in
set_option maxHeartbeats 1000000 in
theorem sameInts_any (a b : List Int) (u v : Value) (w : World) (ha : RdI w a u) (hb : RdI w b v) : Calls Try.prog 13 #[u, v] w (Ret w fun r _ => r = .bool (decide (a = b))) := by
  obtain ⟨aA, ac, rfl, _, a1, a2, a3⟩ := ha
  obtain ⟨bA, bc, rfl, _, b1, b2, b3⟩ := hb
  unfold maxLen at a2 b2
  rcases Nat.lt_or_ge a.length b.length with hl | hl
  · have HF := Lib.hid (show decide (a = b) = false from decide_eq_false (fun h => by rw [h] at hl; omega))
    have hd : ((a.length : Int) == (b.length : Int)) = false := by rw [beq_eq_false_iff_ne]; omega
    go_enter Try.func13, Try.ntmps13
    go_wp2_with fail
    go_ret
    exact ret_bool HF.out.symm (Ext.refl w)
  rcases Nat.lt_or_ge b.length a.length with hl2 | hl2
  · have HF := Lib.hid (show decide (a = b) = false from decide_eq_false (fun h => by rw [h] at hl2; omega))
    have hd : ((a.length : Int) == (b.length : Int)) = false := by rw [beq_eq_false_iff_ne]; omega
    go_enter Try.func13, Try.ntmps13
    go_wp2_with fail
    go_ret
    exact ret_bool HF.out.symm (Ext.refl w)
  have hl3 := Lib.hid (show a.length = b.length by omega)
  have hd : ((a.length : Int) == (b.length : Int)) = true := by rw [beq_iff_eq]; omega
  go_enter Try.func13, Try.ntmps13
  go_wp2_with fail
  go_loopw [5] (fun s wr => ∃ i : Nat, s = .int .i64 i ∧ i ≤ a.length ∧ Hid (decide (a.drop i = b.drop i) = decide (a = b)) ∧ Ext w wr) (fun i _ => a.length - (intOf i).toNat)
  case atStart => exact ⟨0, rfl, Nat.zero_le _, rfl, Ext.refl _⟩
  case round =>
    obtain ⟨i, rfl, hi, HW, hE⟩ := hrel
    rcases Nat.lt_or_ge i a.length with hlt | hlt
    · obtain ⟨x, hx⟩ : ∃ x, a[i]? = some x := ⟨_, List.getElem?_eq_getElem hlt⟩
      obtain ⟨y, hy⟩ : ∃ x, b[i]? = some x := ⟨_, List.getElem?_eq_getElem (by omega)⟩
      obtain ⟨ba, oa, rfl, ra⟩ := a3 (by omega)
      obtain ⟨bb, ob, rfl, rb⟩ := b3 (by omega)
      have e1 := hE.cell (ra i (.int .i64 x) (by rw [List.getElem?_map, hx]; rfl))
      have f1 := hE.cell (rb i (.int .i64 y) (by rw [List.getElem?_map, hy]; rfl))
      have HD : Hid (decide (a.drop i = b.drop i) = ((x == y) && decide (a.drop (i + 1) = b.drop (i + 1)))) := ints_step hx hy
      have q1 : (0 : Int) ≤ (i : Int) := by omega
      have q2 : (i : Int) < (a.length : Int) := by omega
      have q3 : (i : Int) < (b.length : Int) := by omega
      clear hx hy ra rb a3 b3
      rcases hc1 : (x == y) with _ | _
      · have HG : Hid (decide (a = b) = false) := by rw [← HW.out, HD.out, hc1]; rfl
        have hc2 : (x != y) = true := by rw [bne, hc1]; rfl
        clear HW HD
        go_wp2_with fail
        go_quiet (fail)
        go_wp2_with fail
        go_ret
        exact ret_bool HG.out.symm (hE.drewN _)
      · have HN : Hid (decide (a.drop (i + 1) = b.drop (i + 1)) = decide (a = b)) := by rw [← HW.out, HD.out, hc1]; rfl
        have hc2 : (x != y) = false := by rw [bne, hc1]; rfl
        clear HW HD
        go_wp2_with fail
        go_quiet (fail)
        go_wp2_with fail
        go_roundw
        case rel => exact ⟨i + 1, by go_num, by omega, HN, hE.drewN _⟩
        case measure => simp [intOf]; omega
    · have HG : Hid (decide (a = b) = true) := by rw [← HW.out, List.drop_eq_nil_of_le hlt, List.drop_eq_nil_of_le (by have := hl3.out; omega)]; rfl
      clear HW
      go_wp2_with fail
      go_ret
      exact ret_bool HG.out.symm hE

set_option maxRecDepth 100000 in
set_option maxHeartbeats 1000000 in
theorem equal_any (a b : List Int) (u v : Value) (w : World) (ha : RdI w a u) (hb : RdI w b v) : Calls Try.prog 53 #[u, v] w (Ret w fun r _ => r = .bool (decide (a = b))) := by
  obtain ⟨aA, ac, rfl, _, a1, a2, a3⟩ := ha
  obtain ⟨bA, bc, rfl, _, b1, b2, b3⟩ := hb
  unfold maxLen at a2 b2
  rcases Nat.lt_or_ge a.length b.length with hl | hl
  · have HF := Lib.hid (show decide (a = b) = false from decide_eq_false (fun h => by rw [h] at hl; omega))
    have hd : ((a.length : Int) == (b.length : Int)) = false := by rw [beq_eq_false_iff_ne]; omega
    go_enter Try.func53, Try.ntmps53
    go_wp2_with fail
    go_ret
    exact ret_bool HF.out.symm (Ext.refl w)
  rcases Nat.lt_or_ge b.length a.length with hl2 | hl2
  · have HF := Lib.hid (show decide (a = b) = false from decide_eq_false (fun h => by rw [h] at hl2; omega))
    have hd : ((a.length : Int) == (b.length : Int)) = false := by rw [beq_eq_false_iff_ne]; omega
    go_enter Try.func53, Try.ntmps53
    go_wp2_with fail
    go_ret
    exact ret_bool HF.out.symm (Ext.refl w)
  have hl3 := Lib.hid (show a.length = b.length by omega)
  have hd : ((a.length : Int) == (b.length : Int)) = true := by rw [beq_iff_eq]; omega
  go_enter Try.func53, Try.ntmps53
  go_wp2_with fail
  go_loopw [13] (fun s wr => ∃ i : Nat, s = .int .i64 i ∧ i ≤ a.length ∧ Hid (decide (a.drop i = b.drop i) = decide (a = b)) ∧ Ext w wr) (fun i _ => a.length - (intOf i).toNat)
  case atStart => exact ⟨0, rfl, Nat.zero_le _, rfl, Ext.refl _⟩
  case round =>
    obtain ⟨i, rfl, hi, HW, hE⟩ := hrel
    rcases Nat.lt_or_ge i a.length with hlt | hlt
    · obtain ⟨x, hx⟩ : ∃ x, a[i]? = some x := ⟨_, List.getElem?_eq_getElem hlt⟩
      obtain ⟨y, hy⟩ : ∃ x, b[i]? = some x := ⟨_, List.getElem?_eq_getElem (by omega)⟩
      obtain ⟨ba, oa, rfl, ra⟩ := a3 (by omega)
      obtain ⟨bb, ob, rfl, rb⟩ := b3 (by omega)
      have e1 := hE.cell (ra i (.int .i64 x) (by rw [List.getElem?_map, hx]; rfl))
      have f1 := hE.cell (rb i (.int .i64 y) (by rw [List.getElem?_map, hy]; rfl))
      have HD : Hid (decide (a.drop i = b.drop i) = ((x == y) && decide (a.drop (i + 1) = b.drop (i + 1)))) := ints_step hx hy
      have q1 : (0 : Int) ≤ (i : Int) := by omega
      have q2 : (i : Int) < (a.length : Int) := by omega
      have q3 : (i : Int) < (b.length : Int) := by omega
      clear hx hy ra rb a3 b3
      rcases hc1 : (x == y) with _ | _
      · have HG : Hid (decide (a = b) = false) := by rw [← HW.out, HD.out, hc1]; rfl
        have hc2 : (x != y) = true := by rw [bne, hc1]; rfl
        clear HW HD
        go_wp2_with fail
        go_quiet (fail)
        go_wp2_with fail
        go_ret
        exact ret_bool HG.out.symm (hE.drewN _)
      · have HN : Hid (decide (a.drop (i + 1) = b.drop (i + 1)) = decide (a = b)) := by rw [← HW.out, HD.out, hc1]; rfl
        have hc2 : (x != y) = false := by rw [bne, hc1]; rfl
        clear HW HD
        go_wp2_with fail
        go_quiet (fail)
        go_wp2_with fail
        go_roundw
        case rel => exact ⟨i + 1, by go_num, by omega, HN, hE.drewN _⟩
        case measure => simp [intOf]; omega
    · have HG : Hid (decide (a = b) = true) := by rw [← HW.out, List.drop_eq_nil_of_le hlt, List.drop_eq_nil_of_le (by have := hl3.out; omega)]; rfl
      clear HW
      go_wp2_with fail
      go_ret
      exact ret_bool HG.out.symm hE

def comm : List Int → List Int → Nat
  | x :: r, y :: s => if x = y then 1 + comm r s else 0
  | _, _ => 0
theorem comm_le : ∀ p q, comm p q ≤ p.length
  | x :: r, y :: s => by rw [comm]; have := comm_le r s; split <;> simp <;> omega
  | [], _ => by simp [comm]
  | _ :: _, [] => by simp [comm]
theorem comm_nil (p : List Int) : comm p [] = 0 := by cases p <;> rfl
theorem comm_within : ∀ p q, decide (comm p q = p.length) = within p q
  | [], q => by simp [comm, within_nil]
  | x :: r, [] => by simp [comm, within]
  | x :: r, y :: s => by
    have ih := comm_within r s
    have h1 := comm_le r s
    rw [comm]
    by_cases h : x = y
    · subst h
      rw [if_pos rfl]
      have e1 : within (x :: r) (x :: s) = within r s := by simp [within]
      rw [e1, ← ih]
      congr 1
      simp only [List.length_cons, eq_iff_iff]
      omega
    · rw [if_neg h]
      have e1 : within (x :: r) (y :: s) = false := by simp [within, Ne.symm h]
      rw [e1]
      simp
theorem within_eq (p q : List Int) : (decide (p.length = q.length) && within p q) = decide (p = q) := by
  rw [Bool.eq_iff_iff, Bool.and_eq_true, decide_eq_true_eq, decide_eq_true_eq, within_iff]
  constructor
  · rintro ⟨h, r, rfl⟩
    have : r = [] := by simpa using h
    rw [this, List.append_nil]
  · rintro rfl; exact ⟨rfl, [], by simp⟩

set_option maxRecDepth 100000 in
set_option maxHeartbeats 1000000 in
theorem common_any (a b : List Int) (u v : Value) (w : World) (ha : RdI w a u) (hb : RdI w b v) : Calls Try.prog 56 #[u, v] w (Ret w fun r _ => r = .int .i64 (comm a b)) := by
  obtain ⟨aA, ac, rfl, _, a1, a2, a3⟩ := ha
  obtain ⟨bA, bc, rfl, _, b1, b2, b3⟩ := hb
  unfold maxLen at a2 b2
  go_enter Try.func56, Try.ntmps56
  go_wp2_with fail
  go_loopw [5] (fun s wr => ∃ i : Nat, s = .int .i64 i ∧ i ≤ a.length ∧ i ≤ b.length ∧ Hid (i + comm (a.drop i) (b.drop i) = comm a b) ∧ Ext w wr) (fun i _ => a.length - (intOf i).toNat)
  case atStart => exact ⟨0, rfl, Nat.zero_le _, Nat.zero_le _, Nat.zero_add _, Ext.refl _⟩
  case round =>
    obtain ⟨i, rfl, hi, hi2, HW, hE⟩ := hrel
    have q1 : (0 : Int) ≤ (i : Int) := by omega
    rcases Nat.lt_or_ge i a.length with hlt | hlt
    · have q2 : (i : Int) < (a.length : Int) := by omega
      rcases Nat.lt_or_ge i b.length with hlt2 | hlt2
      · obtain ⟨x, hx⟩ : ∃ x, a[i]? = some x := ⟨_, List.getElem?_eq_getElem hlt⟩
        obtain ⟨y, hy⟩ : ∃ x, b[i]? = some x := ⟨_, List.getElem?_eq_getElem hlt2⟩
        obtain ⟨ba, oa, rfl, ra⟩ := a3 (by omega)
        obtain ⟨bb, ob, rfl, rb⟩ := b3 (by omega)
        have e1 := hE.cell (ra i (.int .i64 x) (by rw [List.getElem?_map, hx]; rfl))
        have f1 := hE.cell (rb i (.int .i64 y) (by rw [List.getElem?_map, hy]; rfl))
        have HD : Hid (comm (a.drop i) (b.drop i) = if x = y then 1 + comm (a.drop (i + 1)) (b.drop (i + 1)) else 0) := by rw [drop_at hx, drop_at hy, comm]; trivial
        have q3 : (i : Int) < (b.length : Int) := by omega
        clear hx hy ra rb a3 b3
        rcases hc1 : (x == y) with _ | _
        · have HG : Hid ((i : Int) = (comm a b : Nat)) := by
            have h := HW.out
            rw [HD.out, if_neg (by simpa using hc1)] at h
            show (i : Int) = _
            omega
          clear HW HD
          go_wp2_with fail
          go_quiet (fail)
          go_wp2_with fail
          go_ret
          exact ⟨_, rfl, by first | exact rfl | (show _ = _; rw [← HG.out]; rfl), hE.drewN _⟩
        · have HN : Hid (i + 1 + comm (a.drop (i + 1)) (b.drop (i + 1)) = comm a b) := by
            have h := HW.out
            rw [HD.out, if_pos (by simpa using hc1)] at h
            show _ = _
            omega
          clear HW HD
          go_wp2_with fail
          go_quiet (fail)
          go_wp2_with fail
          go_roundw
          case rel => exact ⟨i + 1, by go_num, by omega, by omega, HN, hE.drewN _⟩
          case measure => simp [intOf]; omega
      · have HG : Hid ((i : Int) = (comm a b : Nat)) := by
          have h := HW.out
          rw [List.drop_eq_nil_of_le hlt2, comm_nil] at h
          show (i : Int) = _
          omega
        have q3 : decide ((i : Int) < (b.length : Int)) = false := decide_eq_false (by omega)
        have q3' : decide (i < b.length) = false := decide_eq_false (by omega)
        clear HW a3 b3
        go_wp2_with fail
        go_quiet (fail)
        go_wp2_with fail
        go_ret
        exact ⟨_, rfl, by first | exact rfl | (show _ = _; rw [← HG.out]; rfl), hE.drewN _⟩
    · have HG : Hid ((i : Int) = (comm a b : Nat)) := by
        have h := HW.out
        rw [List.drop_eq_nil_of_le hlt] at h
        have h2 : comm [] (b.drop i) = 0 := rfl
        rw [h2] at h
        show (i : Int) = _
        omega
      have q2 : decide ((i : Int) < (a.length : Int)) = false := decide_eq_false (by omega)
      have q2' : decide (i < a.length) = false := decide_eq_false (by omega)
      clear HW a3 b3
      go_wp2_with fail
      go_quiet (fail)
      go_wp2_with fail
      go_ret
      exact ⟨_, rfl, by first | exact rfl | (show _ = _; rw [← HG.out]; rfl), hE.drewN _⟩

theorem RdI.take {w : World} {q : List Int} {A : Option Addr} {c : Nat} (h : RdI w q (.slice A q.length c)) (n : Nat) (hn : n ≤ q.length) : RdI w (q.take n) (.slice A n c) := by
  obtain ⟨A', c', he, _, h1, h2, h3⟩ := h
  simp only [Value.slice.injEq, true_and] at he
  obtain ⟨rfl, rfl⟩ := he
  have hl : (q.take n).length = n := by simp; omega
  rw [RdI, hl]
  refine ⟨A, c, rfl, by simp; omega, by omega, h2, fun h0 => ?_⟩
  obtain ⟨b, off, rfl, h5⟩ := h3 (by omega)
  refine ⟨b, off, rfl, fun j u hu => h5 j u ?_⟩
  rw [List.getElem?_map] at hu ⊢
  rw [List.getElem?_take] at hu
  split at hu
  · exact hu
  · cases hu
theorem comm_beq (a b : List Int) : (((comm a b : Nat) : Int) == (a.length : Int)) = within a b := by
  rw [← comm_within, Bool.eq_iff_iff, beq_iff_eq, decide_eq_true_eq]
  omega

set_option maxRecDepth 100000 in
set_option maxHeartbeats 1000000 in
theorem withinR_any (a b : List Int) (u v : Value) (w : World) (ha : RdI w a u) (hb : RdI w b v) : Calls Try.prog 55 #[u, v] w (Ret w fun r _ => r = .bool (within a b)) := by
  have hc := common_any a b u v w ha hb
  obtain ⟨aA, ac, rfl, _, _, _, _⟩ := ha
  have hq := Lib.hid (comm_beq a b)
  obtain ⟨n, hn⟩ : ∃ n, comm a b = n := ⟨_, rfl⟩
  rw [hn] at hc hq
  clear hn
  go_enter Try.func55, Try.ntmps55
  go_wp2_with (go_at_call 56; refine hc.mono ?_; rintro e w1 ⟨r, rfl, rfl, hE⟩)
  go_ret
  exact ret_bool (by first | exact hq.out | (rw [← hq.out]; simp)) hE

set_option maxRecDepth 100000 in
set_option maxHeartbeats 1000000 in
theorem sameR_any (a b : List Int) (u v : Value) (w : World) (ha : RdI w a u) (hb : RdI w b v) : Calls Try.prog 37 #[u, v] w (Ret w fun r _ => r = .bool (decide (a = b))) := by
  have hc := common_any a b u v w ha hb
  obtain ⟨aA, ac, rfl, _, _, _, _⟩ := ha
  obtain ⟨bA, bc, rfl, _, _, _, _⟩ := hb
  have hq := comm_beq a b
  have he := within_eq a b
  by_cases hl : a.length = b.length
  · have hd : ((a.length : Int) == (b.length : Int)) = true := by rw [beq_iff_eq]; omega
    rw [decide_eq_true hl, Bool.true_and] at he
    rw [he] at hq
    have HQ := Lib.hid hq
    clear hq he hl
    obtain ⟨n, hn⟩ : ∃ n, comm a b = n := ⟨_, rfl⟩
    rw [hn] at hc HQ
    clear hn
    go_enter Try.func37, Try.ntmps37
    go_wp2_with (go_at_call 56; refine hc.mono ?_; rintro e w1 ⟨r, rfl, rfl, hE⟩)
    go_ret
    exact ret_bool (by first | exact HQ.out | (rw [← HQ.out]; simp)) hE
  · have hd : ((a.length : Int) == (b.length : Int)) = false := by rw [beq_eq_false_iff_ne]; omega
    have HF := Lib.hid (show decide (a = b) = false from decide_eq_false (fun h => hl (by rw [h])))
    clear hl hq he hc
    go_enter Try.func37, Try.ntmps37
    go_wp2_with fail
    go_ret
    exact ret_bool HF.out.symm (Ext.refl w)


set_option maxRecDepth 100000 in
set_option maxHeartbeats 1000000 in
theorem pathSame_any (a b : List Int) (u v : Value) (w : World) (ha : RdI w a u) (hb : RdI w b v) : Calls Try.prog 40 #[u, v] w (Ret w fun r _ => r = .bool (decide (a = b))) := by
  have hc := equal_any a b u v w ha hb
  go_enter Try.func40, Try.ntmps40
  go_wp2_with (go_at_call 53; refine hc.mono ?_; rintro e w1 ⟨r, rfl, rfl, hE⟩)
  go_ret
  exact ret_bool (by rfl) hE

set_option maxRecDepth 100000 in
set_option maxHeartbeats 1000000 in
theorem pathWithin_any (a b : List Int) (u v : Value) (w : World) (ha : RdI w a u) (hb : RdI w b v) : Calls Try.prog 32 #[u, v] w (Ret w fun r _ => r = .bool (within a b)) := by
  have ha0 := ha
  obtain ⟨aA, ac, rfl, _, a1, a2, _⟩ := ha0
  have hb0 := hb
  obtain ⟨bA, bc, rfl, _, b1, b2, _⟩ := hb0
  rcases Nat.lt_or_ge b.length a.length with hl | hl
  · have hd : decide ((a.length : Int) ≤ (b.length : Int)) = false := decide_eq_false (by omega)
    have hd' : decide (a.length ≤ b.length) = false := decide_eq_false (by omega)
    have HF := Lib.hid (show within a b = false by rw [within, hd', Bool.false_and])
    go_enter Try.func32, Try.ntmps32
    go_wp2_with fail
    go_ret
    exact ret_bool HF.out.symm (Ext.refl w)
  · have hd : decide ((a.length : Int) ≤ (b.length : Int)) = true := decide_eq_true (by omega)
    have hd' : decide (a.length ≤ b.length) = true := decide_eq_true hl
    have HF := Lib.hid (show within a b = decide (a = b.take a.length) by rw [within, hd', Bool.true_and]; simp [eq_comm])
    have hc := equal_any a (b.take a.length) _ _ w ha (hb.take a.length hl)
    have q1 : (a.length : Int) ≤ (b.length : Int) := by omega
    go_enter Try.func32, Try.ntmps32
    go_wp2_with (go_at_call 53; refine hc.mono ?_; rintro e w1 ⟨r, rfl, rfl, hE⟩)
    go_ret
    exact ret_bool HF.out.symm hE
end Go.Proofs.Ytdnjkffmgmbfmaa.Bs
