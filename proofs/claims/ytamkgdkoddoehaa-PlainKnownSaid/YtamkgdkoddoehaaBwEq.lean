/- Lemmas and walks for the claims of chapter 06: Eq. No conditions beside those that stand in each lemma. -/
import Derived.Test.YtamkgdkoddoehaaBwSpec
import Derived.BigQuiet
import Derived.Deep.QuietTactic
namespace Go.Proofs.Ytamkgdkoddoehaa.Bw
open Go.RowKit

theorem pair_eq (k v x y : ByteArray) : decide ((k, v) = (x, y)) = ((k.toList == x.toList) && (v.toList == y.toList)) := by
  rw [beq_str, beq_str]; simp [Prod.mk.injEq, Bool.decide_and]
theorem sameA_len {a b : List (ByteArray × ByteArray)} (h : a.length ≠ b.length) : sameA a b = false := decide_eq_false (fun e => h (by rw [e]))
theorem sameA_step {a b : List (ByteArray × ByteArray)} {i : Nat} {x y : ByteArray × ByteArray} (hx : a[i]? = some x) (hy : b[i]? = some y) : sameA (a.drop i) (b.drop i) = (decide (x = y) && sameA (a.drop (i + 1)) (b.drop (i + 1))) := by
  rw [drop_at hx, drop_at hy, sameA, sameA]
  by_cases h : x = y
  · subst h; simp
  · simp [h]
theorem sameA_end {a b : List (ByteArray × ByteArray)} {i : Nat} (h : a.length = b.length) (hi : a.length ≤ i) : sameA (a.drop i) (b.drop i) = true := by
  rw [List.drop_eq_nil_of_le hi, List.drop_eq_nil_of_le (by omega)]; rfl

set_option maxRecDepth 100000 in
set_option maxHeartbeats 1000000 in
theorem eqA_any (a b : List (ByteArray × ByteArray)) (u v : Value) (w : World) (ha : RdA w a u) (hb : RdA w b v) : Calls Try.prog 46 #[u, v] w (Ret w fun r _ => r = .bool (sameA a b)) := by
  obtain ⟨aA, ac, rfl, a1, a2, a3⟩ := ha
  obtain ⟨bA, bc, rfl, b1, b2, b3⟩ := hb
  unfold maxLen at a2 b2
  rcases Nat.lt_or_ge a.length b.length with hl | hl
  · have HF := Lib.hid (sameA_len (a := a) (b := b) (by omega))
    have hd : ((a.length : Int) == (b.length : Int)) = false := by rw [beq_eq_false_iff_ne]; omega
    go_enter Try.func46, Try.ntmps46
    go_wp2_with fail
    go_ret
    exact ret_bool HF.out.symm (Ext.refl w)
  rcases Nat.lt_or_ge b.length a.length with hl2 | hl2
  · have HF := Lib.hid (sameA_len (a := a) (b := b) (by omega))
    have hd : ((a.length : Int) == (b.length : Int)) = false := by rw [beq_eq_false_iff_ne]; omega
    go_enter Try.func46, Try.ntmps46
    go_wp2_with fail
    go_ret
    exact ret_bool HF.out.symm (Ext.refl w)
  have hl3 := Lib.hid (show a.length = b.length by omega)
  have hd : ((a.length : Int) == (b.length : Int)) = true := by rw [beq_iff_eq]; omega
  go_enter Try.func46, Try.ntmps46
  go_wp2_with fail
  go_loopw [13] (fun s13 wr => ∃ i : Nat, s13 = .int .i64 i ∧ i ≤ a.length ∧ Hid (sameA (a.drop i) (b.drop i) = sameA a b) ∧ Ext w wr) (fun i _ => a.length - (intOf i).toNat)
  case atStart => exact ⟨0, rfl, Nat.zero_le _, rfl, Ext.refl _⟩
  case round =>
    obtain ⟨i, rfl, hi, HW, hE⟩ := hrel
    rcases Nat.lt_or_ge i a.length with hlt | hlt
    · obtain ⟨⟨k, x⟩, hx⟩ : ∃ x, a[i]? = some x := ⟨_, List.getElem?_eq_getElem hlt⟩
      obtain ⟨⟨k', x'⟩, hy⟩ : ∃ x, b[i]? = some x := ⟨_, List.getElem?_eq_getElem (by omega)⟩
      obtain ⟨ba, oa, rfl, ra⟩ := a3 (by intro h; rw [h] at hlt; simp at hlt)
      obtain ⟨bb, ob, rfl, rb⟩ := b3 (by intro h; have h' := congrArg List.length h; rw [List.length_nil] at h'; omega)
      obtain ⟨e1, e2, e3, e4⟩ := rdAttrs_at (rdAttrs_ext hE ra) hx
      obtain ⟨f1, f2, f3, f4⟩ := rdAttrs_at (rdAttrs_ext hE rb) hy
      have HD := Lib.hid (sameA_step hx hy)
      rw [pair_eq] at HD
      have q1 : (0 : Int) ≤ (i : Int) := by omega
      have q2 : (i : Int) < (a.length : Int) := by omega
      have q3 : (i : Int) < (b.length : Int) := by omega
      clear hx hy ra rb a3 b3
      rcases hc1 : (k.toList == k'.toList) with _ | _
      · have HG : Hid (sameA a b = false) := by rw [← HW.out, HD.out, hc1]; rfl
        clear HW HD
        go_wp2_with fail
        go_quiet (fail)
        go_wp2_with fail
        go_ret
        exact ret_bool HG.out.symm (hE.drewN _)
      · rcases hc2 : (x.toList == x'.toList) with _ | _
        · have HG : Hid (sameA a b = false) := by rw [← HW.out, HD.out, hc1, hc2]; rfl
          clear HW HD
          go_wp2_with fail
          go_quiet (fail)
          go_wp2_with fail
          go_ret
          exact ret_bool HG.out.symm (hE.drewN _)
        · have HN : Hid (sameA (a.drop (i + 1)) (b.drop (i + 1)) = sameA a b) := by rw [← HW.out, HD.out, hc1, hc2]; rfl
          clear HW HD
          go_wp2_with fail
          go_quiet (fail)
          go_wp2_with fail
          go_roundw
          case rel => exact ⟨i + 1, by go_num, by omega, HN, hE.drewN _⟩
          case measure => simp [intOf]; omega
    · have HG : Hid (sameA a b = true) := by rw [← HW.out, sameA_end hl3.out hlt]; rfl
      clear HW
      go_wp2_with fail
      go_ret
      exact ret_bool HG.out.symm hE
set_option maxRecDepth 100000 in
set_option maxHeartbeats 1000000 in
theorem reqA_any (a b : List (ByteArray × ByteArray)) (u v : Value) (w : World) (ha : RdA w a u) (hb : RdA w b v) : Calls Try.prog 42 #[u, v] w (Ret w fun r _ => r = .bool (sameA a b)) := by
  obtain ⟨aA, ac, rfl, a1, a2, a3⟩ := ha
  obtain ⟨bA, bc, rfl, b1, b2, b3⟩ := hb
  unfold maxLen at a2 b2
  rcases Nat.lt_or_ge a.length b.length with hl | hl
  · have HF := Lib.hid (sameA_len (a := a) (b := b) (by omega))
    have hd : ((a.length : Int) == (b.length : Int)) = false := by rw [beq_eq_false_iff_ne]; omega
    go_enter Try.func42, Try.ntmps42
    go_wp2_with fail
    go_ret
    exact ret_bool HF.out.symm (Ext.refl w)
  rcases Nat.lt_or_ge b.length a.length with hl2 | hl2
  · have HF := Lib.hid (sameA_len (a := a) (b := b) (by omega))
    have hd : ((a.length : Int) == (b.length : Int)) = false := by rw [beq_eq_false_iff_ne]; omega
    go_enter Try.func42, Try.ntmps42
    go_wp2_with fail
    go_ret
    exact ret_bool HF.out.symm (Ext.refl w)
  have hl3 := Lib.hid (show a.length = b.length by omega)
  have hd : ((a.length : Int) == (b.length : Int)) = true := by rw [beq_iff_eq]; omega
  go_enter Try.func42, Try.ntmps42
  go_wp2_with fail
  go_loopw [5] (fun s5 wr => ∃ i : Nat, s5 = .int .i64 i ∧ i ≤ a.length ∧ Hid (sameA (a.drop i) (b.drop i) = sameA a b) ∧ Ext w wr) (fun i _ => a.length - (intOf i).toNat)
  case atStart => exact ⟨0, rfl, Nat.zero_le _, rfl, Ext.refl _⟩
  case round =>
    obtain ⟨i, rfl, hi, HW, hE⟩ := hrel
    rcases Nat.lt_or_ge i a.length with hlt | hlt
    · obtain ⟨⟨k, x⟩, hx⟩ : ∃ x, a[i]? = some x := ⟨_, List.getElem?_eq_getElem hlt⟩
      obtain ⟨⟨k', x'⟩, hy⟩ : ∃ x, b[i]? = some x := ⟨_, List.getElem?_eq_getElem (by omega)⟩
      obtain ⟨ba, oa, rfl, ra⟩ := a3 (by intro h; rw [h] at hlt; simp at hlt)
      obtain ⟨bb, ob, rfl, rb⟩ := b3 (by intro h; have h' := congrArg List.length h; rw [List.length_nil] at h'; omega)
      obtain ⟨e1, e2, e3, e4⟩ := rdAttrs_at (rdAttrs_ext hE ra) hx
      obtain ⟨f1, f2, f3, f4⟩ := rdAttrs_at (rdAttrs_ext hE rb) hy
      have HD := Lib.hid (sameA_step hx hy)
      rw [pair_eq] at HD
      have q1 : (0 : Int) ≤ (i : Int) := by omega
      have q2 : (i : Int) < (a.length : Int) := by omega
      have q3 : (i : Int) < (b.length : Int) := by omega
      clear hx hy ra rb a3 b3
      rcases hc1 : (k.toList == k'.toList) with _ | _
      · have HG : Hid (sameA a b = false) := by rw [← HW.out, HD.out, hc1]; rfl
        clear HW HD
        go_wp2_with fail
        go_quiet (fail)
        go_wp2_with fail
        go_ret
        exact ret_bool HG.out.symm (hE.drewN _)
      · rcases hc2 : (x.toList == x'.toList) with _ | _
        · have HG : Hid (sameA a b = false) := by rw [← HW.out, HD.out, hc1, hc2]; rfl
          clear HW HD
          go_wp2_with fail
          go_quiet (fail)
          go_wp2_with fail
          go_ret
          exact ret_bool HG.out.symm (hE.drewN _)
        · have HN : Hid (sameA (a.drop (i + 1)) (b.drop (i + 1)) = sameA a b) := by rw [← HW.out, HD.out, hc1, hc2]; rfl
          clear HW HD
          go_wp2_with fail
          go_quiet (fail)
          go_wp2_with fail
          go_roundw
          case rel => exact ⟨i + 1, by go_num, by omega, HN, hE.drewN _⟩
          case measure => simp [intOf]; omega
    · have HG : Hid (sameA a b = true) := by rw [← HW.out, sameA_end hl3.out hlt]; rfl
      clear HW
      go_wp2_with fail
      go_ret
      exact ret_bool HG.out.symm hE
end Go.Proofs.Ytamkgdkoddoehaa.Bw
