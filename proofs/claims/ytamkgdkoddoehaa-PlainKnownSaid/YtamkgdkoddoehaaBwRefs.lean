/- Lemmas and walks for the claims of chapter 06: Refs. No conditions beside those that stand in each lemma. -/
import Derived.Test.YtamkgdkoddoehaaBwSpec
import Derived.BigQuiet
import Derived.Deep.QuietTactic
namespace Go.Proofs.Ytamkgdkoddoehaa.Bw
open Go.RowKit

/-! ### Keys -/
set_option maxHeartbeats 400000 in
theorem key_any (s : ByteArray) (w : World) (hs : s.size ≤ maxLen) : Calls Try.prog 14 #[.string s] w fun e w' => e = .returned (.bool (keyOk s)) ∧ w' = w := by
  unfold maxLen at hs
  rcases Nat.eq_zero_or_pos s.size with h0 | h0
  · have hl := str_empty h0
    have hk : Hid (keyOk s = false) := by simp only [Hid, keyOk]; exact decide_eq_false (by omega)
    go_enter Try.func14, Try.ntmps14
    go_wp2_with fail
    go_ret
    exact ⟨by rw [hk.out]; rfl, rfl⟩
  · have hl := str_some h0
    rcases Nat.lt_or_ge 64 s.size with h1 | h1
    · have hk : Hid (keyOk s = false) := by simp only [Hid, keyOk]; exact decide_eq_false (by omega)
      go_enter Try.func14, Try.ntmps14
      go_wp2_with fail
      go_ret
      exact ⟨by rw [hk.out]; simp; omega, rfl⟩
    · have hk : Hid (keyOk s = true) := by simp only [Hid, keyOk]; exact decide_eq_true (by omega)
      go_enter Try.func14, Try.ntmps14
      go_wp2_with fail
      go_ret
      exact ⟨by rw [hk.out]; simp; omega, rfl⟩
set_option maxHeartbeats 400000 in
theorem rkey_any (s : ByteArray) (w : World) (hs : s.size ≤ maxLen) : Calls Try.prog 15 #[.string s] w fun e w' => e = .returned (.bool (keyOk s)) ∧ w' = w := by
  unfold maxLen at hs
  rcases Nat.eq_zero_or_pos s.size with h0 | h0
  · have hk : Hid (keyOk s = false) := by simp only [Hid, keyOk]; exact decide_eq_false (by omega)
    have hd : decide ((1 : Int) ≤ s.size) = false := by simp; omega
    go_enter Try.func15, Try.ntmps15
    go_wp2_with fail
    go_ret
    exact ⟨by rw [hk.out]; rfl, rfl⟩
  · rcases Nat.lt_or_ge 64 s.size with h1 | h1
    · have hk : Hid (keyOk s = false) := by simp only [Hid, keyOk]; exact decide_eq_false (by omega)
      go_enter Try.func15, Try.ntmps15
      go_wp2_with fail
      go_ret
      exact ⟨by rw [hk.out]; simp; omega, rfl⟩
    · have hk : Hid (keyOk s = true) := by simp only [Hid, keyOk]; exact decide_eq_true (by omega)
      go_enter Try.func15, Try.ntmps15
      go_wp2_with fail
      go_ret
      exact ⟨by rw [hk.out]; simp; omega, rfl⟩

/-! ### How many nodes, how deep -/
set_option maxRecDepth 100000 in
set_option maxHeartbeats 1000000 in
theorem rcount_any (N : Nat) : ∀ (t : Nd) (v : Value) (w : World), t.cnt ≤ N → t.rd w v → t.cnt ≤ 1000000 → Calls Try.prog 19 #[v] w (Ret w fun r _ => r = .int .i64 t.cnt) := by
  induction N with
  | zero => intro t v w h; rw [Nd.cnt_eq] at h; omega
  | succ N ih =>
    intro t v w hN hr hM
    obtain ⟨av, kv, rfl, i0, i1, hl, ht, ⟨aA, ac, rfl, _⟩, ⟨kA, kc, rfl, k1, k2, k3⟩⟩ := Nd.rd_open hr
    have hcn := Lib.hid (Nd.cnt_eq t)
    have hM' : cntK t.kids ≤ 1000000 := by have := hcn.out; omega
    unfold maxLen at k2
    obtain ⟨w0, hw0⟩ : ∃ w0, w.alloc (.cells #[.int .u64 t.id, .bool t.leaf, .string t.label, .slice aA t.attrs.length ac, .string t.text, .slice kA t.kids.length kc] 26) = w0 := ⟨_, rfl⟩
    have hE0 : Ext w w0 := by rw [← hw0]; exact (Ext.refl w).alloc _
    have c5 : w0.cell? ⟨w.heap.size, 5, none⟩ = some (.slice kA t.kids.length kc) := by rw [← hw0]; simp
    have H0 := Lib.hid hw0
    clear hw0
    go_enter Try.func19, Try.ntmps19
    go_wp2_with fail
    rw [H0.out]
    go_loopw [3, 4] (fun s3 s4 wr => ∃ (k acc : Nat), s4 = .int .i64 k ∧ s3 = .int .i64 acc ∧ k ≤ t.kids.length ∧ acc ≤ 1000001 ∧ Hid (acc + cntK (t.kids.drop k) = t.cnt) ∧ Ext w0 wr) (fun _ i _ => t.kids.length - (intOf i).toNat)
    case atStart => exact ⟨0, 1, rfl, rfl, Nat.zero_le _, by omega, hcn.out.symm, Ext.refl _⟩
    case round =>
      obtain ⟨k, acc, rfl, rfl, hk, ha, HW, hE⟩ := hrel
      have d5 := hE.cell c5
      rcases Nat.lt_or_ge k t.kids.length with hlt | hlt
      · obtain ⟨kid, hx⟩ : ∃ x, t.kids[k]? = some x := ⟨_, List.getElem?_eq_getElem hlt⟩
        obtain ⟨b, off, rfl, hrd⟩ := k3 (by intro h; rw [h] at hlt; simp at hlt)
        obtain ⟨aA', ac', kA', kc', e0, e1, e2, e3, e4, e5, hkid⟩ := rdKids_get (rdKids_ext (hE0.trans hE) hrd) hx
        have HD := Lib.hid (drop_at hx)
        have hcnt : kid.cnt ≤ N := by have := Nd.cnt_kid hx; omega
        have hsum : acc + kid.cnt ≤ 1000000 := by have := HW.out; rw [HD.out, cntK] at this; omega
        have hkl : kid.cnt ≤ 1000000 := by omega
        clear hx hrd k3
        go_wp2_with (go_at_call 19; refine (ih kid _ _ hcnt hkid hkl).mono ?_; rintro e w1 ⟨r, rfl, rfl, hE1⟩)
        go_roundw
        case rel => exact ⟨k + 1, acc + kid.cnt, by go_num, by go_num, by omega, by omega, by rw [← HW.out, HD.out, cntK]; simp only [Hid]; omega, hE.trans hE1⟩
        case measure => simp [intOf]; omega
      · have HG : Hid (acc = t.cnt) := by have := HW.out; rw [List.drop_eq_nil_of_le hlt, cntK] at this; exact this
        clear HW
        go_wp2_with fail
        go_ret
        exact ret_int (by rw [HG.out]) (hE0.trans hE)

set_option maxRecDepth 100000 in
set_option maxHeartbeats 1000000 in
theorem rdepth_any (N : Nat) : ∀ (t : Nd) (v : Value) (w : World), t.cnt ≤ N → t.rd w v → t.dep ≤ 1000000 → Calls Try.prog 21 #[v] w (Ret w fun r _ => r = .int .i64 t.dep) := by
  induction N with
  | zero => intro t v w h; rw [Nd.cnt_eq] at h; omega
  | succ N ih =>
    intro t v w hN hr hM
    obtain ⟨av, kv, rfl, i0, i1, hl, ht, ⟨aA, ac, rfl, _⟩, ⟨kA, kc, rfl, k1, k2, k3⟩⟩ := Nd.rd_open hr
    have hcn := Lib.hid (Nd.dep_eq t)
    unfold maxLen at k2
    obtain ⟨w0, hw0⟩ : ∃ w0, w.alloc (.cells #[.int .u64 t.id, .bool t.leaf, .string t.label, .slice aA t.attrs.length ac, .string t.text, .slice kA t.kids.length kc] 26) = w0 := ⟨_, rfl⟩
    have hE0 : Ext w w0 := by rw [← hw0]; exact (Ext.refl w).alloc _
    have c5 : w0.cell? ⟨w.heap.size, 5, none⟩ = some (.slice kA t.kids.length kc) := by rw [← hw0]; simp
    have H0 := Lib.hid hw0
    clear hw0
    go_enter Try.func21, Try.ntmps21
    go_wp2_with fail
    rw [H0.out]
    go_loopw [3, 4] (fun s3 s4 wr => ∃ (k acc : Nat), s4 = .int .i64 k ∧ s3 = .int .i64 acc ∧ k ≤ t.kids.length ∧ acc ≤ 1000001 ∧ Hid (max acc (depK (t.kids.drop k)) = t.dep) ∧ Ext w0 wr) (fun _ i _ => t.kids.length - (intOf i).toNat)
    case atStart => exact ⟨0, 0, rfl, rfl, Nat.zero_le _, by omega, by rw [List.drop_zero, hcn.out]; simp only [Hid]; omega, Ext.refl _⟩
    case round =>
      obtain ⟨k, acc, rfl, rfl, hk, ha, HW, hE⟩ := hrel
      have d5 := hE.cell c5
      rcases Nat.lt_or_ge k t.kids.length with hlt | hlt
      · obtain ⟨kid, hx⟩ : ∃ x, t.kids[k]? = some x := ⟨_, List.getElem?_eq_getElem hlt⟩
        obtain ⟨b, off, rfl, hrd⟩ := k3 (by intro h; rw [h] at hlt; simp at hlt)
        obtain ⟨aA', ac', kA', kc', e0, e1, e2, e3, e4, e5, hkid⟩ := rdKids_get (rdKids_ext (hE0.trans hE) hrd) hx
        have HD := Lib.hid (drop_at hx)
        have hcnt : kid.cnt ≤ N := by have := Nd.cnt_kid hx; omega
        have hkl : kid.dep ≤ 1000000 := by have := HW.out; rw [HD.out, depK] at this; omega
        have hk2 : 1 + kid.dep ≤ 1000001 := by omega
        clear hx hrd k3
        go_wp2_with (go_at_call 21; refine (ih kid _ _ hcnt hkid hkl).mono ?_; rintro e w1 ⟨r, rfl, rfl, hE1⟩)
        all_goals go_roundw
        all_goals first
          | (case rel => exact ⟨k + 1, max acc (1 + kid.dep), by go_num, by congr 1; omega, by omega, by omega, by rw [← HW.out, HD.out, depK]; simp only [Hid]; omega, hE.trans hE1⟩)
          | (case measure => simp [intOf]; omega)
      · have HG : Hid (acc = t.dep) := by have := HW.out; rw [List.drop_eq_nil_of_le hlt, depK] at this; simp only [Hid]; omega
        clear HW
        go_wp2_with fail
        go_ret
        exact ret_int (by rw [HG.out]) (hE0.trans hE)
end Go.Proofs.Ytamkgdkoddoehaa.Bw
