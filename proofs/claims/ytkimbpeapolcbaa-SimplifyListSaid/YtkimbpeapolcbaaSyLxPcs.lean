/- Chapter 10: LxPcs turned to this seat. (Printed by gsyport.py.) -/
import Derived.Test.YtkimbpeapolcbaaSyLxData
namespace Go.Proofs.Ytkimbpeapolcbaa.Sy
open Go.RowKit Go.Proofs.Ytkimbpeapolcbaa.Bw Go.Proofs.Ytkimbpeapolcbaa.Bs

theorem pcs_at {l : List Pc} {i : Nat} {p : Pc} (n : Nat) (h : l[i]? = some p) : pcsOk n (l.drop i) = (pcOk p && decide (n + p.put.size ≤ 1048576) && pcsOk (n + p.put.size) (l.drop (i + 1))) := by
  rw [drop_at h, pcsOk]
set_option maxRecDepth 100000 in
set_option maxHeartbeats 2000000 in
theorem right_any (l : List Pc) (v : Value) (w : World) (h : RdP w l v) : Calls Try.prog 46 #[v] w (Ret w fun r _ => r = .bool (pcsRight l)) := by
  obtain ⟨A, c, rfl, a1, a2, a3⟩ := h
  unfold maxLen at a2
  rcases Nat.lt_or_ge 4096 l.length with hl | hl
  · have HF := Lib.hid (show pcsRight l = false by rw [pcsRight, decide_eq_false (by omega), Bool.false_and])
    have hd : decide ((4096 : Int) < (l.length : Int)) = true := decide_eq_true (by omega)
    go_enter Try.func46, Try.ntmps46
    go_wp2_with fail
    refine wp_scope_fwd 0 rfl ?_
    go_wp2_with fail
    go_step3
    (try simp only [Exit.then])
    refine fwd_goto ?_
    go_wp2_with fail
    rw [Exit.noGoto_ret]
    go_ret
    exact ret_bool HF.out.symm (Ext.refl w)
  have HF := Lib.hid (show pcsRight l = pcsOk 0 l by rw [pcsRight, decide_eq_true hl, Bool.true_and])
  have hd : decide ((4096 : Int) < (l.length : Int)) = false := decide_eq_false (by omega)
  go_enter Try.func46, Try.ntmps46
  go_wp2_with fail
  refine wp_scope_fwd 0 rfl ?_
  go_wp2_with fail
  go_loopw [3, 11] (fun s3 s11 wr => ∃ i n : Nat, s11 = .int .i64 i ∧ s3 = .int .i64 n ∧ i ≤ l.length ∧ n ≤ 1048576 ∧ Hid (pcsOk n (l.drop i) = pcsRight l) ∧ Ext w wr) (fun _ i _ => l.length - (intOf i).toNat)
  case atStart => exact ⟨0, 0, rfl, rfl, Nat.zero_le _, by omega, HF.out.symm, Ext.refl _⟩
  case round =>
    obtain ⟨i, n, rfl, rfl, hi, hn, HW, hE⟩ := hrel
    rcases Nat.lt_or_ge i l.length with hlt | hlt
    · obtain ⟨p, hp⟩ : ∃ p, l[i]? = some p := ⟨_, List.getElem?_eq_getElem hlt⟩
      obtain ⟨ba, oa, rfl, ra⟩ := a3 (by omega)
      obtain ⟨e1, e2, e3, e4⟩ := rdPcs_at (rdPcs_ext hE ra) hp
      have HD := Lib.hid (pcs_at n hp)
      have q1 : (0 : Int) ≤ (i : Int) := by omega
      have q2 : (i : Int) < (l.length : Int) := by omega
      unfold maxLen at e4
      obtain ⟨kp, dp, pt⟩ := p
      simp only at e1 e2 e3 e4 HD
      clear hp ra a3 HF
      rcases Int.lt_trichotomy kp dp with hm | hm | hm
      · rcases Int.lt_or_le (min kp dp) 0 with m1 | m1
        · have HG : Hid (pcsRight l = false) := by
            rw [← HW.out, HD.out]
            have : pcOk ⟨kp, dp, pt⟩ = false := by simp [pcOk]; omega
            rw [this]; rfl
          have t1 : decide (kp < 0) = true := decide_eq_true (by omega)
          clear HW HD m1
          go_wp2_with fail
          go_step3
          (try simp only [Exit.then, Exit.inBlock])
          refine fwd_goto ?_
          go_wp2_with fail
          rw [Exit.noGoto_ret]
          go_ret
          exact ret_bool HG.out.symm (hE.alloc _)
        have t1 : decide (kp < 0) = false := decide_eq_false (by omega)
        rcases Int.lt_or_le 1048576 (max kp dp) with m2 | m2
        · have HG : Hid (pcsRight l = false) := by
            rw [← HW.out, HD.out]
            have : pcOk ⟨kp, dp, pt⟩ = false := by simp [pcOk]; omega
            rw [this]; rfl
          have t2 : decide (1048576 < dp) = true := decide_eq_true (by omega)
          clear HW HD m1 m2
          go_wp2_with fail
          go_step3
          (try simp only [Exit.then, Exit.inBlock])
          refine fwd_goto ?_
          go_wp2_with fail
          rw [Exit.noGoto_ret]
          go_ret
          exact ret_bool HG.out.symm (hE.alloc _)
        have t2 : decide (1048576 < dp) = false := decide_eq_false (by omega)
        have hok : pcOk ⟨kp, dp, pt⟩ = true := by simp [pcOk]; omega
        rcases Nat.lt_or_ge 1048576 (n + pt.size) with m3 | m3
        · have HG : Hid (pcsRight l = false) := by
            rw [← HW.out, HD.out, hok, decide_eq_false (by omega)]; rfl
          have t3 : decide ((1048576 : Int) - (n : Int) < (pt.size : Int)) = true := decide_eq_true (by omega)
          clear HW HD m1 m2
          go_wp2_with fail
          go_step3
          (try simp only [Exit.then, Exit.inBlock])
          refine fwd_goto ?_
          go_wp2_with fail
          rw [Exit.noGoto_ret]
          go_ret
          exact ret_bool HG.out.symm (hE.alloc _)
        · have HN : Hid (pcsOk (n + pt.size) (l.drop (i + 1)) = pcsRight l) := by
            rw [← HW.out, HD.out, hok, decide_eq_true m3]; rfl
          have t3 : decide ((1048576 : Int) - (n : Int) < (pt.size : Int)) = false := decide_eq_false (by omega)
          clear HW HD m1 m2
          go_wp2_with fail
          go_roundw
          case rel => exact ⟨i + 1, n + pt.size, by go_num, by go_num, by omega, m3, HN, hE.alloc _⟩
          case measure => simp [intOf]; omega
      · subst hm
        rcases Int.lt_or_le (min kp kp) 0 with m1 | m1
        · have HG : Hid (pcsRight l = false) := by
            rw [← HW.out, HD.out]
            have : pcOk ⟨kp, kp, pt⟩ = false := by simp [pcOk]; omega
            rw [this]; rfl
          have t1 : decide (kp < 0) = true := decide_eq_true (by omega)
          clear HW HD m1
          go_wp2_with fail
          go_step3
          (try simp only [Exit.then, Exit.inBlock])
          refine fwd_goto ?_
          go_wp2_with fail
          rw [Exit.noGoto_ret]
          go_ret
          exact ret_bool HG.out.symm (hE.alloc _)
        have t1 : decide (kp < 0) = false := decide_eq_false (by omega)
        rcases Int.lt_or_le 1048576 (max kp kp) with m2 | m2
        · have HG : Hid (pcsRight l = false) := by
            rw [← HW.out, HD.out]
            have : pcOk ⟨kp, kp, pt⟩ = false := by simp [pcOk]; omega
            rw [this]; rfl
          have t2 : decide (1048576 < kp) = true := decide_eq_true (by omega)
          clear HW HD m1 m2
          go_wp2_with fail
          go_step3
          (try simp only [Exit.then, Exit.inBlock])
          refine fwd_goto ?_
          go_wp2_with fail
          rw [Exit.noGoto_ret]
          go_ret
          exact ret_bool HG.out.symm (hE.alloc _)
        have t2 : decide (1048576 < kp) = false := decide_eq_false (by omega)
        have hok : pcOk ⟨kp, kp, pt⟩ = true := by simp [pcOk]; omega
        rcases Nat.lt_or_ge 1048576 (n + pt.size) with m3 | m3
        · have HG : Hid (pcsRight l = false) := by
            rw [← HW.out, HD.out, hok, decide_eq_false (by omega)]; rfl
          have t3 : decide ((1048576 : Int) - (n : Int) < (pt.size : Int)) = true := decide_eq_true (by omega)
          clear HW HD m1 m2
          go_wp2_with fail
          go_step3
          (try simp only [Exit.then, Exit.inBlock])
          refine fwd_goto ?_
          go_wp2_with fail
          rw [Exit.noGoto_ret]
          go_ret
          exact ret_bool HG.out.symm (hE.alloc _)
        · have HN : Hid (pcsOk (n + pt.size) (l.drop (i + 1)) = pcsRight l) := by
            rw [← HW.out, HD.out, hok, decide_eq_true m3]; rfl
          have t3 : decide ((1048576 : Int) - (n : Int) < (pt.size : Int)) = false := decide_eq_false (by omega)
          clear HW HD m1 m2
          go_wp2_with fail
          go_roundw
          case rel => exact ⟨i + 1, n + pt.size, by go_num, by go_num, by omega, m3, HN, hE.alloc _⟩
          case measure => simp [intOf]; omega
      · rcases Int.lt_or_le (min kp dp) 0 with m1 | m1
        · have HG : Hid (pcsRight l = false) := by
            rw [← HW.out, HD.out]
            have : pcOk ⟨kp, dp, pt⟩ = false := by simp [pcOk]; omega
            rw [this]; rfl
          have t1 : decide (dp < 0) = true := decide_eq_true (by omega)
          clear HW HD m1
          go_wp2_with fail
          go_step3
          (try simp only [Exit.then, Exit.inBlock])
          refine fwd_goto ?_
          go_wp2_with fail
          rw [Exit.noGoto_ret]
          go_ret
          exact ret_bool HG.out.symm (hE.alloc _)
        have t1 : decide (dp < 0) = false := decide_eq_false (by omega)
        rcases Int.lt_or_le 1048576 (max kp dp) with m2 | m2
        · have HG : Hid (pcsRight l = false) := by
            rw [← HW.out, HD.out]
            have : pcOk ⟨kp, dp, pt⟩ = false := by simp [pcOk]; omega
            rw [this]; rfl
          have t2 : decide (1048576 < kp) = true := decide_eq_true (by omega)
          clear HW HD m1 m2
          go_wp2_with fail
          go_step3
          (try simp only [Exit.then, Exit.inBlock])
          refine fwd_goto ?_
          go_wp2_with fail
          rw [Exit.noGoto_ret]
          go_ret
          exact ret_bool HG.out.symm (hE.alloc _)
        have t2 : decide (1048576 < kp) = false := decide_eq_false (by omega)
        have hok : pcOk ⟨kp, dp, pt⟩ = true := by simp [pcOk]; omega
        rcases Nat.lt_or_ge 1048576 (n + pt.size) with m3 | m3
        · have HG : Hid (pcsRight l = false) := by
            rw [← HW.out, HD.out, hok, decide_eq_false (by omega)]; rfl
          have t3 : decide ((1048576 : Int) - (n : Int) < (pt.size : Int)) = true := decide_eq_true (by omega)
          clear HW HD m1 m2
          go_wp2_with fail
          go_step3
          (try simp only [Exit.then, Exit.inBlock])
          refine fwd_goto ?_
          go_wp2_with fail
          rw [Exit.noGoto_ret]
          go_ret
          exact ret_bool HG.out.symm (hE.alloc _)
        · have HN : Hid (pcsOk (n + pt.size) (l.drop (i + 1)) = pcsRight l) := by
            rw [← HW.out, HD.out, hok, decide_eq_true m3]; rfl
          have t3 : decide ((1048576 : Int) - (n : Int) < (pt.size : Int)) = false := decide_eq_false (by omega)
          clear HW HD m1 m2
          go_wp2_with fail
          go_roundw
          case rel => exact ⟨i + 1, n + pt.size, by go_num, by go_num, by omega, m3, HN, hE.alloc _⟩
          case measure => simp [intOf]; omega
    · have HG : Hid (pcsRight l = true) := by rw [← HW.out, List.drop_eq_nil_of_le hlt]; rfl
      clear HW a3 HF
      go_wp2_with fail
      go_ret
      exact ret_bool HG.out.symm hE
end Go.Proofs.Ytkimbpeapolcbaa.Sy
