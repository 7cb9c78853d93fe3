/- Lemmas and walks for the claims of chapter 06: Same. No conditions beside those that stand in each lemma. -/
import Derived.Test.YtamkgdkoddoehaaBwEq
import Derived.Deep.RegionHeld3
namespace Go.Proofs.Ytamkgdkoddoehaa.Bw
open Go.RowKit

theorem sameK_step {i : Bool} {a b : List Nd} {k : Nat} {x y : Nd} (hx : a[k]? = some x) (hy : b[k]? = some y) : sameK i (a.drop k) (b.drop k) = (x.same i y && sameK i (a.drop (k + 1)) (b.drop (k + 1))) := by
  rw [drop_at hx, drop_at hy, sameK]
theorem sameK_end {i : Bool} {a b : List Nd} {k : Nat} (h : a.length = b.length) (hk : a.length ≤ k) : sameK i (a.drop k) (b.drop k) = true := by
  rw [List.drop_eq_nil_of_le hk, List.drop_eq_nil_of_le (by omega), sameK]

set_option maxRecDepth 100000 in
set_option maxHeartbeats 1000000 in
theorem eqF_any (i : Bool) (ks ls : List Nd) (u v : Value) (w : World) (B : Nat) (hu : RdK w ks u) (hv : RdK w ls v)
    (H : ∀ (x y : Nd) (vx vy : Value) (W : World), x ∈ ks → x.rd W vx → y.rd W vy → Ext w W → Calls Try.prog 48 #[vx, vy, .pointer (some ⟨B, 0, none⟩)] W (Ret W fun r _ => r = .bool (x.same i y))) :
    Calls Try.prog 47 #[u, v, .func (.func 48) #[] #[.pointer (some ⟨B, 0, none⟩)]] w (Ret w fun r _ => r = .bool (sameK i ks ls)) := by
  obtain ⟨aA, ac, rfl, a1, a2, a3⟩ := hu
  obtain ⟨bA, bc, rfl, b1, b2, b3⟩ := hv
  unfold maxLen at a2 b2
  rcases Nat.lt_or_ge ks.length ls.length with hl | hl
  · have HF := Lib.hid (sameK_len i ks ls (by omega))
    have hd : ((ks.length : Int) == (ls.length : Int)) = false := by rw [beq_eq_false_iff_ne]; omega
    go_enter Try.func47, Try.ntmps47
    go_wp2_with fail
    go_ret
    exact ret_bool HF.out.symm (Ext.refl w)
  rcases Nat.lt_or_ge ls.length ks.length with hl2 | hl2
  · have HF := Lib.hid (sameK_len i ks ls (by omega))
    have hd : ((ks.length : Int) == (ls.length : Int)) = false := by rw [beq_eq_false_iff_ne]; omega
    go_enter Try.func47, Try.ntmps47
    go_wp2_with fail
    go_ret
    exact ret_bool HF.out.symm (Ext.refl w)
  have hl3 := Lib.hid (show ks.length = ls.length by omega)
  have hd : ((ks.length : Int) == (ls.length : Int)) = true := by rw [beq_iff_eq]; omega
  have hdn : ((ks.length : Int) != (ls.length : Int)) = false := by rw [bne, hd]; rfl
  have HH := Lib.hid H
  clear H
  go_enter Try.func47, Try.ntmps47
  go_wp2_with fail
  go_loopw [17] (fun s17 wr => ∃ k : Nat, s17 = .int .i64 k ∧ k ≤ ks.length ∧ Hid (sameK i (ks.drop k) (ls.drop k) = sameK i ks ls) ∧ Ext w wr) (fun k _ => ks.length - (intOf k).toNat)
  case atStart => exact ⟨0, rfl, Nat.zero_le _, rfl, Ext.refl _⟩
  case round =>
    obtain ⟨k, rfl, hk, HW, hE⟩ := hrel
    rcases Nat.lt_or_ge k ks.length with hlt | hlt
    · obtain ⟨x, hx⟩ : ∃ x, ks[k]? = some x := ⟨_, List.getElem?_eq_getElem hlt⟩
      obtain ⟨y, hy⟩ : ∃ x, ls[k]? = some x := ⟨_, List.getElem?_eq_getElem (by omega)⟩
      obtain ⟨ba, oa, rfl, ra⟩ := a3 (by intro h; rw [h] at hlt; simp at hlt)
      obtain ⟨bb, ob, rfl, rb⟩ := b3 (by intro h; have h' := congrArg List.length h; rw [List.length_nil] at h'; omega)
      obtain ⟨xA, xa, xK, xk, e0, e1, e2, e3, e4, e5, hX⟩ := rdKids_get (rdKids_ext hE ra) hx
      obtain ⟨yA, ya, yK, yk, f0, f1, f2, f3, f4, f5, hY⟩ := rdKids_get (rdKids_ext hE rb) hy
      have HD := Lib.hid (sameK_step (i := i) hx hy)
      have q3 : (k : Int) < (ls.length : Int) := by omega
      obtain ⟨w2, hw2⟩ : ∃ w2, wr.alloc (.cells #[.int .u64 x.id, .bool x.leaf, .string x.label, .slice xA x.attrs.length xa, .string x.text, .slice xK x.kids.length xk] 26) = w2 := ⟨_, rfl⟩
      have hE2 : Ext wr w2 := by rw [← hw2]; exact (Ext.refl _).alloc _
      have s2 : w2.heap.size = wr.heap.size + 1 := by rw [← hw2]; simp
      obtain ⟨w3, hw3⟩ : ∃ w3, w2.alloc (.cells #[.int .u64 y.id, .bool y.leaf, .string y.label, .slice yA y.attrs.length ya, .string y.text, .slice yK y.kids.length yk] 26) = w3 := ⟨_, rfl⟩
      have hE3 : Ext w2 w3 := by rw [← hw3]; exact (Ext.refl _).alloc _
      have g0 : w3.cell? ⟨wr.heap.size, 0, none⟩ = some (.int .u64 x.id) := hE3.cell (by rw [← hw2]; simp)
      have g1 : w3.cell? ⟨wr.heap.size, 1, none⟩ = some (.bool x.leaf) := hE3.cell (by rw [← hw2]; simp)
      have g2 : w3.cell? ⟨wr.heap.size, 2, none⟩ = some (.string x.label) := hE3.cell (by rw [← hw2]; simp)
      have g3 : w3.cell? ⟨wr.heap.size, 3, none⟩ = some (.slice xA x.attrs.length xa) := hE3.cell (by rw [← hw2]; simp)
      have g4 : w3.cell? ⟨wr.heap.size, 4, none⟩ = some (.string x.text) := hE3.cell (by rw [← hw2]; simp)
      have g5 : w3.cell? ⟨wr.heap.size, 5, none⟩ = some (.slice xK x.kids.length xk) := hE3.cell (by rw [← hw2]; simp)
      have h0 : w3.cell? ⟨wr.heap.size + 1, 0, none⟩ = some (.int .u64 y.id) := by rw [← hw3, ← s2]; simp
      have h1 : w3.cell? ⟨wr.heap.size + 1, 1, none⟩ = some (.bool y.leaf) := by rw [← hw3, ← s2]; simp
      have h2 : w3.cell? ⟨wr.heap.size + 1, 2, none⟩ = some (.string y.label) := by rw [← hw3, ← s2]; simp
      have h3 : w3.cell? ⟨wr.heap.size + 1, 3, none⟩ = some (.slice yA y.attrs.length ya) := by rw [← hw3, ← s2]; simp
      have h4 : w3.cell? ⟨wr.heap.size + 1, 4, none⟩ = some (.string y.text) := by rw [← hw3, ← s2]; simp
      have h5 : w3.cell? ⟨wr.heap.size + 1, 5, none⟩ = some (.slice yK y.kids.length yk) := by rw [← hw3, ← s2]; simp
      have hEE := hE2.trans hE3
      have hc := HH.out x y _ _ w3 (List.mem_of_getElem? hx) (Nd.rd_ext hEE hX) (Nd.rd_ext hEE hY) (hE.trans hEE)
      have hE4 := hE.trans hEE
      have H3 := Lib.hid (show (wr.alloc (.cells #[.int .u64 x.id, .bool x.leaf, .string x.label, .slice xA x.attrs.length xa, .string x.text, .slice xK x.kids.length xk] 26)).alloc (.cells #[.int .u64 y.id, .bool y.leaf, .string y.label, .slice yA y.attrs.length ya, .string y.text, .slice yK y.kids.length yk] 26) = w3 by rw [hw2, hw3])
      have F0 := hE2.cell f0; rw [← hw2] at F0
      have F1 := hE2.cell f1; rw [← hw2] at F1
      have F2 := hE2.cell f2; rw [← hw2] at F2
      have F3 := hE2.cell f3; rw [← hw2] at F3
      have F4 := hE2.cell f4; rw [← hw2] at F4
      have F5 := hE2.cell f5; rw [← hw2] at F5
      clear hx hy ra rb a3 b3 hw2 hw3 s2 hE2 hE3 hEE
      rcases hc1 : x.same i y with _ | _
      · have HG : Hid (sameK i ks ls = false) := by rw [← HW.out, HD.out, hc1]; rfl
        rw [hc1] at hc
        clear HW HD hc1
        go_wp2_with (first
          | (rw [H3.out]; clear H3)
          | (go_at_call 48; refine hc.mono ?_; rintro e w4 ⟨r, rfl, rfl, hE5⟩))
        go_ret
        exact ret_bool HG.out.symm (hE4.trans hE5)
      · have HN : Hid (sameK i (ks.drop (k + 1)) (ls.drop (k + 1)) = sameK i ks ls) := by rw [← HW.out, HD.out, hc1]; rfl
        rw [hc1] at hc
        clear HW HD hc1
        go_wp2_with (first
          | (rw [H3.out]; clear H3)
          | (go_at_call 48; refine hc.mono ?_; rintro e w4 ⟨r, rfl, rfl, hE5⟩))
        go_roundw
        case rel => exact ⟨k + 1, by go_num, by omega, HN, hE4.trans hE5⟩
        case measure => simp [intOf]; omega
    · have HG : Hid (sameK i ks ls = true) := by rw [← HW.out, sameK_end hl3.out hlt]; rfl
      clear HW
      go_wp2_with fail
      go_ret
      exact ret_bool HG.out.symm hE
end Go.Proofs.Ytamkgdkoddoehaa.Bw
