/- SyBsMay turned to this seat. (Printed by gport.py.) -/
import Derived.Test.YtdnjkffmgmbfmaaHyBsInts
import Derived.Test.YtdnjkffmgmbfmaaProg
import Derived.Deep.RegionHeld3
namespace Go.Proofs.Ytdnjkffmgmbfmaa.Sy
open Go.RowKit Go.Proofs.Ytdnjkffmgmbfmaa.Bw Go.Proofs.Ytdnjkffmgmbfmaa.Bs
def okN (n : Int) : Bool := decide (0 ≤ n) && decide (n < 1048576)
def may (p : List Int) : Bool := decide (p.length ≤ 64) && p.all okN
theorem all_at {p : List Int} {i : Nat} {x : Int} (hx : p[i]? = some x) : (p.drop i).all okN = (okN x && (p.drop (i + 1)).all okN) := by
 rw [drop_at hx, List.all_cons]
set_option maxRecDepth 100000 in
set_option maxHeartbeats 1000000 in
theorem okN_any (n : Int) (w : World) : Calls Try.prog 71 #[.int .i64 n] w (Ret w fun r _ => r = .bool (!okN n)) := by
 rcases Int.lt_or_le n 0 with h | h
 ·have HF := Lib.hid (show okN n = false by simp [okN]; omega)
  have hd : decide (n < 0) = true := decide_eq_true h
  go_enter Try.func71, Try.ntmps71
  go_wp2_with fail
  go_ret
  exact ret_bool (by rw [HF.out]; rfl) (Ext.refl w)
 rcases Int.lt_or_le n 1048576 with h2 | h2
 ·have HF := Lib.hid (show okN n = true by simp [okN]; omega)
  have hd : decide (n < 0) = false := decide_eq_false (by omega)
  have hd2 : decide (1048576 ≤ n) = false := decide_eq_false (by omega)
  go_enter Try.func71, Try.ntmps71
  go_wp2_with fail
  go_ret
  exact ret_bool (by rw [HF.out]; first | rfl | (rw [hd2]; rfl)) (Ext.refl w)
 ·have HF := Lib.hid (show okN n = false by simp [okN]; omega)
  have hd : decide (n < 0) = false := decide_eq_false (by omega)
  have hd2 : decide (1048576 ≤ n) = true := decide_eq_true h2
  go_enter Try.func71, Try.ntmps71
  go_wp2_with fail
  go_ret
  exact ret_bool (by rw [HF.out]; first | rfl | (rw [hd2]; rfl)) (Ext.refl w)
set_option maxRecDepth 100000 in
set_option maxHeartbeats 1000000 in
theorem idx_any (p : List Int) (v : Value) (w : World) (h : RdI w p v) : Calls Try.prog 72 #[v, .func (.func 71) #[] #[]] w (Ret w fun r _ => ∃ k : Int, r = .int .i64 k ∧ decide (0 ≤ k) = !p.all okN) := by
 obtain ⟨aA, ac, rfl, _, a1, a2, a3⟩ := h
 unfold maxLen at a2
 go_enter Try.func72, Try.ntmps72
 go_wp2_with fail
 go_loopw [8] (fun s wr => ∃ i : Nat, s = .int .i64 i ∧ i ≤ p.length ∧ Hid ((p.drop i).all okN = p.all okN) ∧ Ext w wr) (fun i _ => p.length - (intOf i).toNat)
 case atStart => exact ⟨0, rfl, Nat.zero_le _, rfl, Ext.refl _⟩
 case round =>
  obtain ⟨i, rfl, hi, HW, hE⟩ := hrel
  rcases Nat.lt_or_ge i p.length with hlt | hlt
  ·obtain ⟨x, hx⟩ : ∃ x, p[i]? = some x := ⟨_, List.getElem?_eq_getElem hlt⟩
   obtain ⟨ba, oa, rfl, ra⟩ := a3 (by omega)
   have e1 := hE.cell (ra i (.int .i64 x) (by rw [List.getElem?_map, hx]; rfl))
   have HD := Lib.hid (all_at hx)
   have q1 : (0 : Int) ≤ (i : Int) := by omega
   have q2 : (i : Int) < (p.length : Int) := by omega
   have hcl := okN_any x
   clear hx ra a3
   rcases hc1 : okN x with _ | _
   ·have HG : Hid (p.all okN = false) := by rw [← HW.out, HD.out, hc1]; rfl
    rw [hc1] at hcl
    clear HW HD
    go_wp2_with (go_at_call 71; refine (hcl _).mono ?_; rintro e u ⟨r, rfl, rfl, hE2⟩)
    go_ret
    exact ⟨_, rfl, ⟨_, rfl, by rw [HG.out]; simp⟩, hE.trans hE2⟩
   ·have HN : Hid ((p.drop (i + 1)).all okN = p.all okN) := by rw [← HW.out, HD.out, hc1]; rfl
    rw [hc1] at hcl
    clear HW HD
    go_wp2_with (go_at_call 71; refine (hcl _).mono ?_; rintro e u ⟨r, rfl, rfl, hE2⟩)
    go_roundw
    case rel => exact ⟨i + 1, by go_num, by omega, HN, hE.trans hE2⟩
    case measure => simp [intOf]; omega
  ·have HG : Hid (p.all okN = true) := by rw [← HW.out, List.drop_eq_nil_of_le hlt]; rfl
   clear HW a3
   go_wp2_with fail
   go_ret
   exact ⟨_, rfl, ⟨_, rfl, by rw [HG.out]; rfl⟩, hE⟩
set_option maxRecDepth 100000 in
set_option maxHeartbeats 1000000 in
theorem contains_any (p : List Int) (v : Value) (w : World) (h : RdI w p v) : Calls Try.prog 70 #[v, .func (.func 71) #[] #[]] w (Ret w fun r _ => r = .bool (!p.all okN)) := by
 have hc := idx_any p v w h
 obtain ⟨aA, ac, rfl, _⟩ := h
 go_enter Try.func70, Try.ntmps70
 go_wp2_with (go_at_call 72; refine hc.mono ?_; clear hc; rintro e u ⟨r, rfl, ⟨k, rfl, hk⟩, hE2⟩; have HK := Lib.hid hk; clear hk)
 go_ret
 exact ret_bool HK.out hE2
set_option maxRecDepth 100000 in
set_option maxHeartbeats 1000000 in
theorem pathMay_any (p : List Int) (v : Value) (w : World) (h : RdI w p v) : Calls Try.prog 64 #[v] w (Ret w fun r _ => r = .bool (may p)) := by
 have hc := contains_any p v w h
 obtain ⟨aA, ac, rfl, _, _, a2, _⟩ := h
 unfold maxLen at a2
 rcases Nat.lt_or_ge 64 p.length with hl | hl
 ·have HF := Lib.hid (show may p = false by rw [may, decide_eq_false (by omega), Bool.false_and])
  have hd : decide ((p.length : Int) ≤ 64) = false := decide_eq_false (by omega)
  have hd2 : decide (p.length ≤ 64) = false := decide_eq_false (by omega)
  clear hc
  go_enter Try.func64, Try.ntmps64
  go_wp2_with fail
  go_ret
  exact ret_bool HF.out.symm (Ext.refl w)
 ·have HF := Lib.hid (show may p = p.all okN by rw [may, decide_eq_true hl, Bool.true_and])
  have hd : decide ((p.length : Int) ≤ 64) = true := decide_eq_true (by omega)
  have hd2 : decide (p.length ≤ 64) = true := decide_eq_true (by omega)
  rcases ha : p.all okN with _ | _
  all_goals
   rw [ha] at hc HF
   clear ha
   go_enter Try.func64, Try.ntmps64
   go_wp2_with (go_at_call 70; refine hc.mono ?_; clear hc; rintro e u ⟨r, rfl, rfl, hE2⟩)
   go_ret
   exact ret_bool (by rw [HF.out]) hE2
end Go.Proofs.Ytdnjkffmgmbfmaa.Sy
namespace Go.Proofs.Ytdnjkffmgmbfmaa.Sy
open Go.RowKit Go.Proofs.Ytdnjkffmgmbfmaa.Bw Go.Proofs.Ytdnjkffmgmbfmaa.Bs
theorem may_long {p : List Int} (h : 64 < p.length) : may p = false := by rw [may, decide_eq_false (by omega), Bool.false_and]
theorem may_at {p : List Int} {i : Nat} {x : Int} (hx : p[i]? = some x) (h : okN x = false) : may p = false := by
 have : p.all okN = false := by
  rw [List.all_eq_false]
  exact ⟨x, List.mem_of_getElem? hx, by simp [h]⟩
 rw [may, this, Bool.and_false]
set_option maxRecDepth 100000 in
set_option maxHeartbeats 1000000 in
theorem mayR_any (p : List Int) (v : Value) (w : World) (h : RdI w p v) : Calls Try.prog 67 #[v] w (Ret w fun r _ => r = .bool (may p)) := by
 obtain ⟨aA, ac, rfl, _, a1, a2, a3⟩ := h
 unfold maxLen at a2
 go_enter Try.func67, Try.ntmps67
 go_wp2_with fail
 go_loopw [3] (fun s wr => ∃ i : Nat, s = .int .i64 i ∧ i ≤ p.length ∧ Hid (i ≤ 64 ∧ may p = (decide (p.length ≤ 64) && (p.drop i).all okN)) ∧ Ext w wr) (fun i _ => p.length - (intOf i).toNat)
 case atStart => exact ⟨0, rfl, Nat.zero_le _, ⟨by omega, rfl⟩, Ext.refl _⟩
 case round =>
  obtain ⟨i, rfl, hi, HW, hE⟩ := hrel
  have q1 : (0 : Int) ≤ (i : Int) := by omega
  rcases Nat.lt_or_ge i p.length with hlt | hlt
  ·obtain ⟨x, hx⟩ : ∃ x, p[i]? = some x := ⟨_, List.getElem?_eq_getElem hlt⟩
   obtain ⟨ba, oa, rfl, ra⟩ := a3 (by omega)
   have e1 := hE.cell (ra i (.int .i64 x) (by rw [List.getElem?_map, hx]; rfl))
   have q2 : (i : Int) < (p.length : Int) := by omega
   rcases Nat.lt_or_ge i 64 with h64 | h64
   ·have q3 : decide ((64 : Int) ≤ (i : Int)) = false := decide_eq_false (by omega)
    have q3' : decide (64 ≤ i) = false := decide_eq_false (by omega)
    rcases Int.lt_or_le x 0 with hx0 | hx0
    ·have HG := Lib.hid (may_at hx (by simp [okN]; omega))
     have q4 : decide (x < 0) = true := decide_eq_true hx0
     clear hx ra a3 HW
     go_wp2_with fail
     go_ret
     exact ret_bool HG.out.symm hE
    have q4 : decide (x < 0) = false := decide_eq_false (by omega)
    rcases Int.lt_or_le x 1048576 with hx1 | hx1
    ·have HN : Hid (i + 1 ≤ 64 ∧ may p = (decide (p.length ≤ 64) && (p.drop (i + 1)).all okN)) := by
      refine ⟨h64, ?_⟩
      rw [HW.out.2, all_at hx, show okN x = true by simp [okN]; omega, Bool.true_and]
     have q5 : decide (1048576 ≤ x) = false := decide_eq_false (by omega)
     clear hx ra a3 HW
     go_wp2_with fail
     go_roundw
     case rel => exact ⟨i + 1, by go_num, by omega, HN, hE⟩
     case measure => simp [intOf]; omega
    ·have HG := Lib.hid (may_at hx (by simp [okN]; omega))
     have q5 : decide (1048576 ≤ x) = true := decide_eq_true hx1
     clear hx ra a3 HW
     go_wp2_with fail
     go_ret
     exact ret_bool HG.out.symm hE
   ·have HG := Lib.hid (may_long (p := p) (by omega))
    have q3 : decide ((64 : Int) ≤ (i : Int)) = true := decide_eq_true (by omega)
    clear hx ra a3 HW
    go_wp2_with fail
    go_ret
    exact ret_bool HG.out.symm hE
  ·have HG : Hid (may p = true) := by
    have h := HW.out
    rw [h.2, List.drop_eq_nil_of_le hlt, decide_eq_true (by omega)]; rfl
   have q2 : decide ((i : Int) < (p.length : Int)) = false := decide_eq_false (by omega)
   clear HW a3
   go_wp2_with fail
   go_ret
   exact ret_bool HG.out.symm hE
def keyOk (s : ByteArray) : Bool := decide (1 ≤ s.size ∧ s.size ≤ 64)
set_option maxHeartbeats 400000 in
theorem key_any (s : ByteArray) (w : World) (hs : s.size ≤ maxLen) : Calls Try.prog 65 #[.string s] w (Ret w fun r _ => r = .bool (keyOk s)) := by
 unfold maxLen at hs
 rcases Nat.eq_zero_or_pos s.size with h0 | h0
 ·have hl := str_empty h0
  have hk : Hid (keyOk s = false) := by simp only [Hid, keyOk]; exact decide_eq_false (by omega)
  go_enter Try.func65, Try.ntmps65
  go_wp2_with fail
  go_ret
  exact ret_bool hk.out.symm (Ext.refl w)
 ·have hl := str_some h0
  rcases Nat.lt_or_ge 64 s.size with h1 | h1
  ·have hk : Hid (keyOk s = false) := by simp only [Hid, keyOk]; exact decide_eq_false (by omega)
   go_enter Try.func65, Try.ntmps65
   go_wp2_with fail
   go_ret
   exact ret_bool (by rw [hk.out]; simp; omega) (Ext.refl w)
  ·have hk : Hid (keyOk s = true) := by simp only [Hid, keyOk]; exact decide_eq_true (by omega)
   go_enter Try.func65, Try.ntmps65
   go_wp2_with fail
   go_ret
   exact ret_bool (by rw [hk.out]; simp; omega) (Ext.refl w)
set_option maxHeartbeats 400000 in
theorem rkey_any (s : ByteArray) (w : World) (hs : s.size ≤ maxLen) : Calls Try.prog 68 #[.string s] w (Ret w fun r _ => r = .bool (keyOk s)) := by
 unfold maxLen at hs
 rcases Nat.eq_zero_or_pos s.size with h0 | h0
 ·have hk : Hid (keyOk s = false) := by simp only [Hid, keyOk]; exact decide_eq_false (by omega)
  have hd : decide ((1 : Int) ≤ s.size) = false := by simp; omega
  go_enter Try.func68, Try.ntmps68
  go_wp2_with fail
  go_ret
  exact ret_bool hk.out.symm (Ext.refl w)
 ·rcases Nat.lt_or_ge 64 s.size with h1 | h1
  ·have hk : Hid (keyOk s = false) := by simp only [Hid, keyOk]; exact decide_eq_false (by omega)
   go_enter Try.func68, Try.ntmps68
   go_wp2_with fail
   go_ret
   exact ret_bool (by rw [hk.out]; simp; omega) (Ext.refl w)
  ·have hk : Hid (keyOk s = true) := by simp only [Hid, keyOk]; exact decide_eq_true (by omega)
   go_enter Try.func68, Try.ntmps68
   go_wp2_with fail
   go_ret
   exact ret_bool (by rw [hk.out]; simp; omega) (Ext.refl w)
/-- A path's last number. -/
def lastN (p : List Int) : Int := p.getLastD 0
theorem last_at {p : List Int} (h : p ≠ []) : p[p.length - 1]? = some (lastN p) := by
 unfold lastN
 rcases List.eq_nil_or_concat p with h0 | ⟨q, x, hq⟩
 ·exact absurd h0 h
 ·rw [hq]; simp [List.concat_eq_append]
theorem dropLast_take (p : List Int) : p.take (p.length - 1) = p.dropLast := by rw [List.dropLast_eq_take]
set_option maxRecDepth 100000 in
set_option maxHeartbeats 1000000 in
theorem parent_any (p : List Int) (v : Value) (w : World) (h : RdI w p v) (hlen : p.length ≤ 1000000) : Calls Try.prog 52 #[v] w (Ret w fun r w' => ∃ r' b, r = .tuple #[r', .int .i64 (lastN p), .bool b] ∧ w'.ownsRow w.heap.size 3 1 r' p.dropLast.length (p.dropLast.map (Value.int .i64))) := by
 have h0 := h
 obtain ⟨aA, ac, rfl, _, a1, a2, a3⟩ := h0
 unfold maxLen at a2
 rcases Nat.eq_zero_or_pos p.length with hz | hpos
 ·obtain rfl : p = [] := List.length_eq_zero_iff.1 hz
  have hd : (((([] : List Int).length : Nat) : Int) == 0) = true := rfl
  simp only [List.length_nil] at hd
  go_enter Try.func52, Try.ntmps52
  go_wp2_with fail
  go_ret3
  exact ⟨_, rfl, ⟨_, _, rfl, ⟨rfl, .inl ⟨rfl, rfl⟩⟩⟩, Ext.refl w⟩
 ·have hne : p ≠ [] := List.length_pos_iff.1 hpos
  obtain ⟨ba, oa, rfl, ra⟩ := a3 hpos
  have e1 := ra (p.length - 1) (.int .i64 (lastN p)) (by rw [List.getElem?_map, last_at hne]; rfl)
  have q1 : (0 : Int) ≤ (p.length : Int) - 1 := by omega
  have q2 : (p.length : Int) - 1 < (p.length : Int) := by omega
  have q3 : ((p.length : Int) - 1).toNat = p.length - 1 := by omega
  have q4 : (p.length : Int) - 1 ≤ (ac : Int) := by omega
  have hd : ((p.length : Int) == 0) = false := by rw [beq_eq_false_iff_ne]; omega
  have r1 : (1 : Int) ≤ (p.length : Int) := by omega
  have r2 : 1 ≤ p.length := by omega
  have r3 : (p.length : Int) ≤ (ac : Int) + 1 := by omega
  have r4 : p.length ≤ ac + 1 := by omega
  have r5 : p.length - 1 ≤ ac := by omega
  have r6 : p.length - 1 < p.length := by omega
  have hc30 : ∀ W, Ext w W → Calls Try.prog 30 #[.slice (some ⟨ba, oa, none⟩) (p.length - 1) ac] W (Ret W fun r w' => w'.ownsRow w.heap.size 3 1 r p.dropLast.length (p.dropLast.map (Value.int .i64))) := fun W hW => by
   have := clone_any (p.take (p.length - 1)) _ W (RdI.take (RdS.ext hW h) (p.length - 1) (by omega)) (by simp; omega)
   rw [dropLast_take] at this
   exact this.mono (by
    rintro e w' ⟨r, rfl, ho, hE⟩
    exact ⟨r, rfl, owns_mono ho hW.size, hE⟩)
  clear ra a3 h
  go_enter Try.func52, Try.ntmps52
  go_wp2_with fail
  go_region_held3 (fun W => Ext w W ∧ W.cell? ⟨ba, oa + (p.length - 1), none⟩ = some (.int .i64 (lastN p))) (first | exact ⟨(Ext.refl w).drew, e1⟩ | exact ⟨E2, E2.cell e1⟩) ((go_at_call 30; have hh := ‹Ext w _ ∧ _›; refine (hc30 _ hh.1).mono ?_; rintro e u ⟨r, rfl, hR, hE⟩; have E2 := Ext.trans hh.1 hE; clear hE))
  go_wp2_with fail
  go_ret3
  exact ⟨_, rfl, ⟨_, _, rfl, by assumption⟩, ‹Ext w _ ∧ _›.1⟩
end Go.Proofs.Ytdnjkffmgmbfmaa.Sy
