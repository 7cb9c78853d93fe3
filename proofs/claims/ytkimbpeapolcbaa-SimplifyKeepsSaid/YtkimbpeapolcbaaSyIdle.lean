/- Chapter 10: LxApply turned to this seat. (Printed by gsyport.py.) -/
import Derived.Test.YtkimbpeapolcbaaBwWeighPlain
import Derived.Test.YtkimbpeapolcbaaSyLxData
import Derived.Deep.QuietTactic
import Derived.Test.YtkimbpeapolcbaaProg
import Derived.Test.YtkimbpeapolcbaaBsPlain
import Derived.Test.YtkimbpeapolcbaaSyWiLate
import Derived.BigQuiet
import Derived.Deep.AppendLies
import Derived.WalkSpells
import Derived.Deep.RegionHeld3
import Derived.Test.YtkimbpeapolcbaaSyBsInts
import Derived.Test.YtkimbpeapolcbaaSyBsFormedb
import Derived.Test.YtkimbpeapolcbaaSyLxNorm
import Derived.WalkKit
import Derived.Deep.Cut
import Derived.Deep.CutRange
import Derived.IntWalk
namespace Go.Proofs.Ytkimbpeapolcbaa.Sy
open Go.RowKit Go.Proofs.Ytkimbpeapolcbaa.Bw Go.Proofs.Ytkimbpeapolcbaa.Bs

def normR (l : List Pc) : List Pc := if pcsRight l then normL l else []
theorem puts_ok {l : List Pc} (h : pcsRight l = true) : ∀ p ∈ normL l, okStr p.put := fun p hp => by
 obtain ⟨h1, h2, h3⟩ := right_nn h
 have h4 := wt_mem (normL_nn h1) hp
 have h5 := normL_wt h1
 have h6 := normL_nn h1 p hp
 unfold okStr maxLen; omega
set_option maxRecDepth 100000 in
set_option maxHeartbeats 2000000 in
theorem Norm_any (l : List Pc) (v : Value) (w : World) (h : RdP w l v) : Calls Try.prog 27 #[v] w fun e w' => ∃ v', e = .returned v' ∧ w'.ownsRow w.heap.size 35 3 v' (normR l).length (pcVals (normR l)) ∧ Ext w w' := by
 have hc := right_any l v w h
 obtain ⟨A, c, rfl, _⟩ := id h
 obtain ⟨r, hr⟩ : ∃ r, pcsRight l = r := ⟨_, rfl⟩
 rw [hr] at hc
 have HR := Lib.hid hr
 clear hr
 go_enter Try.func27, Try.ntmps27
 go_wp2_with fail
 refine hc.mono ?_
 clear hc
 rintro e w1 ⟨_, rfl, rfl, E1⟩
 cases r with
 | false =>
  go_wp2_with fail
  go_ret
  have e0 : normR l = [] := by unfold normR; rw [HR.out]; rfl
  rw [e0]
  exact ⟨_, rfl, ⟨rfl, .inl ⟨rfl, rfl⟩⟩, E1⟩
 | true =>
  have hn := norm_any l _ w1 (h.ext E1) HR.out
  go_wp2_with fail
  refine hn.mono ?_
  clear hn
  rintro e w2 ⟨v', rfl, O, E2⟩
  go_wp2_with fail
  go_ret
  have e0 : normR l = normL l := by unfold normR; rw [HR.out]; rfl
  rw [e0]
  exact ⟨_, rfl, owns_mono O E1.size, E1.trans E2⟩
/-- Of how many bytes an edit tells. -/
def extL : List Pc → Int
 | [] => 0
 | p :: r => p.keep + p.drop + extL r
theorem extL_nn : ∀ {l : List Pc}, Nn l → 0 ≤ extL l ∧ extL l ≤ wt l
 | [], _ => ⟨Int.le_refl _, Int.le_refl _⟩
 | p :: r, h => by
  have h1 := extL_nn h.tail
  have h2 := h p List.mem_cons_self
  show 0 ≤ p.keep + p.drop + extL r ∧ p.keep + p.drop + extL r ≤ p.keep + p.drop + p.put.size + wt r
  omega
theorem Nn.at {l : List Pc} (h : Nn l) {i : Nat} {p : Pc} (hp : l[i]? = some p) : 0 ≤ p.keep ∧ 0 ≤ p.drop := h p (List.mem_of_getElem? hp)
theorem Nn.drop {l : List Pc} (h : Nn l) (i : Nat) : Nn (l.drop i) := fun p hp => h p (List.mem_of_mem_drop hp)
theorem extL_at {l : List Pc} {i : Nat} {p : Pc} (hp : l[i]? = some p) : extL (l.drop i) = p.keep + p.drop + extL (l.drop (i + 1)) := by rw [drop_at hp]; rfl
/-- A text, edited. -/
def applyB (t : ByteArray) : List Pc → ByteArray
 | [] => t
 | p :: r => t.extract 0 p.keep.toNat ++ p.put ++ applyB (t.extract (p.keep + p.drop).toNat t.size) r
def apE (t : ByteArray) (l : List Pc) : Int := if pcsRight l then (if extL l ≤ t.size then 0 else 50) else 2
def apS (t : ByteArray) (l : List Pc) : ByteArray := if apE t l = 0 then applyB t l else ⟨#[]⟩
theorem applyB_at (t : ByteArray) {l : List Pc} {i : Nat} {p : Pc} (hp : l[i]? = some p) : applyB t (l.drop i) = t.extract 0 p.keep.toNat ++ p.put ++ applyB (t.extract (p.keep + p.drop).toNat t.size) (l.drop (i + 1)) := by rw [drop_at hp]; rfl
theorem wt_at {l : List Pc} {i : Nat} {p : Pc} (hp : l[i]? = some p) : wt (l.drop i) = p.keep + p.drop + p.put.size + wt (l.drop (i + 1)) := by rw [drop_at hp]; rfl
theorem wt_drop {l : List Pc} (h : Nn l) (i : Nat) : wt (l.drop i) ≤ wt l := by
 have h1 := wt_append (l.take i) (l.drop i)
 rw [List.take_append_drop] at h1
 have h2 : Nn (l.take i) := fun p hp => h p (List.mem_of_mem_take hp)
 have h3 := wt_nn h2
 omega
end Go.Proofs.Ytkimbpeapolcbaa.Sy
namespace Go.Proofs.Ytkimbpeapolcbaa.Sy
open Go.RowKit Go.Proofs.Ytkimbpeapolcbaa.Bw Go.Proofs.Ytkimbpeapolcbaa.Bs

/-- What an edit tells of, and puts, at least. -/
def sumP : List Pc → Int
 | [] => 0
 | p :: r => max 0 p.keep + max 0 p.drop + p.put.size + sumP r
theorem sumP_nn : ∀ l : List Pc, 0 ≤ sumP l
 | [] => Int.le_refl _
 | p :: r => by have := sumP_nn r; show 0 ≤ max 0 p.keep + max 0 p.drop + p.put.size + sumP r; omega
theorem sumP_at {l : List Pc} {i : Nat} {p : Pc} (hp : l[i]? = some p) : sumP (l.drop i) = max 0 p.keep + max 0 p.drop + p.put.size + sumP (l.drop (i + 1)) := by rw [drop_at hp]; rfl
/-- A yes tells that the edit is small. -/
def SmallR (l : List Pc) (top : Int) (r : Value) : Prop := ∃ b, r = .bool b ∧ (b = true → (l.length : Int) ≤ top ∧ sumP l ≤ top)
set_option maxRecDepth 100000 in
set_option maxHeartbeats 4000000 in
theorem small_any (l : List Pc) (v : Value) (top : Int) (w : World) (h : RdP w l v) (ht0 : 0 ≤ top) (ht1 : top ≤ 100000) : Calls Try.prog 25 #[v, .int .i64 top] w (Ret w fun r _ => SmallR l top r) := by
 obtain ⟨A, c, rfl, a1, a2, a3⟩ := h
 unfold maxLen at a2
 rcases Int.lt_or_le top (l.length : Int) with hl | hl
 ·have t1 : decide (top < (l.length : Int)) = true := decide_eq_true hl
  clear hl
  go_enter Try.func25, Try.ntmps25
  go_wp2_with fail
  go_ret
  exact ⟨_, rfl, ⟨_, rfl, fun h => by cases h⟩, Ext.refl w⟩
 ·have t1 : decide (top < (l.length : Int)) = false := decide_eq_false (by omega)
  have HL := Lib.hid hl
  go_enter Try.func25, Try.ntmps25
  go_wp2_with fail
  go_loopw [5, 6] (fun s5 s6 wr => ∃ (i : Nat) (n : Int), s5 = .int .i64 n ∧ s6 = .int .i64 i ∧ i ≤ l.length ∧ 0 ≤ n ∧ n ≤ top ∧ Hid (n + sumP (l.drop i) = sumP l) ∧ Ext w wr) (fun _ i _ => l.length - (intOf i).toNat)
  case atStart => exact ⟨0, 0, rfl, rfl, Nat.zero_le _, Int.le_refl _, ht0, Lib.hid (by simp), Ext.refl w⟩
  case round =>
   obtain ⟨i, n, rfl, rfl, hi, hn0, hn1, HW, hE⟩ := hrel
   rcases Nat.lt_or_ge i l.length with hlt | hlt
   ·obtain ⟨p, hp⟩ : ∃ p, l[i]? = some p := ⟨_, List.getElem?_eq_getElem hlt⟩
    obtain ⟨ba, oa, rfl, ra⟩ := a3 (by omega)
    obtain ⟨e1, e2, e3, e4⟩ := rdPcs_at (rdPcs_ext hE ra) hp
    have q1 : (0 : Int) ≤ (i : Int) := by omega
    have q2 : (i : Int) < (l.length : Int) := by omega
    have HX := sumP_at hp
    have HN := sumP_nn (l.drop (i + 1))
    have HD : Hid (n + (max 0 p.keep + max 0 p.drop + p.put.size) + sumP (l.drop (i + 1)) = sumP l) := Lib.hid (by
     have h1 := HW.out
     rw [HX] at h1; omega)
    unfold maxLen at e4
    clear hp ra a3 HW HX HN hl
    have w1 : -9223372036854775808 ≤ top - n ∧ top - n ≤ 9223372036854775807 := by omega
    rcases Int.lt_or_le p.keep 0 with hk | hk
    ·rcases Int.lt_or_le p.drop 0 with hd | hd
     ·have tk : decide (p.keep < 0) = true := decide_eq_true hk
      have td : decide (p.drop < 0) = true := decide_eq_true hd
      have h1 : (0 : Int) ≤ top - n := by omega
      have t1 : decide (top - n < 0) = false := decide_eq_false (by omega)
      have t2 : decide (top - n < 0) = false := decide_eq_false (by omega)
      rcases Int.lt_or_le (top - n) (p.put.size : Int) with h3 | h3
      ·have t3 : decide (top - n < (p.put.size : Int)) = true := decide_eq_true h3
       go_wp2_with fail
       go_quiet (fail)
       go_wp2_with fail
       go_ret
       exact ⟨_, rfl, ⟨_, rfl, fun h => by cases h⟩, hE.drewN _⟩
      ·have t3 : decide (top - n < (p.put.size : Int)) = false := decide_eq_false (by omega)
       go_wp2_with fail
       go_quiet (fail)
       go_wp2_with fail
       go_roundw
       case rel => exact ⟨i + 1, n + (max 0 p.keep + max 0 p.drop + p.put.size), by congr 1; omega, by go_num, by omega, by omega, by omega, HD, hE.drewN _⟩
       case measure => simp [intOf]; omega
     ·have tk : decide (p.keep < 0) = true := decide_eq_true hk
      have td : decide (p.drop < 0) = false := decide_eq_false (by omega)
      have h1 : (0 : Int) ≤ top - n := by omega
      have t1 : decide (top - n < 0) = false := decide_eq_false (by omega)
      rcases Int.lt_or_le (top - n) p.drop with h2 | h2
      ·have t2 : decide (top - n < p.drop) = true := decide_eq_true h2
       go_wp2_with fail
       go_quiet (fail)
       go_wp2_with fail
       go_ret
       exact ⟨_, rfl, ⟨_, rfl, fun h => by cases h⟩, hE.drewN _⟩
      ·have t2 : decide (top - n < p.drop) = false := decide_eq_false (by omega)
       rcases Int.lt_or_le (top - n - p.drop) (p.put.size : Int) with h3 | h3
       ·have t3 : decide (top - n - p.drop < (p.put.size : Int)) = true := decide_eq_true h3
        go_wp2_with fail
        go_quiet (fail)
        go_wp2_with fail
        go_ret
        exact ⟨_, rfl, ⟨_, rfl, fun h => by cases h⟩, hE.drewN _⟩
       ·have t3 : decide (top - n - p.drop < (p.put.size : Int)) = false := decide_eq_false (by omega)
        go_wp2_with fail
        go_quiet (fail)
        go_wp2_with fail
        go_roundw
        case rel => exact ⟨i + 1, n + (max 0 p.keep + max 0 p.drop + p.put.size), by congr 1; omega, by go_num, by omega, by omega, by omega, HD, hE.drewN _⟩
        case measure => simp [intOf]; omega
    ·rcases Int.lt_or_le p.drop 0 with hd | hd
     ·have tk : decide (p.keep < 0) = false := decide_eq_false (by omega)
      have td : decide (p.drop < 0) = true := decide_eq_true hd
      rcases Int.lt_or_le (top - n) p.keep with h1 | h1
      ·have t1 : decide (top - n < p.keep) = true := decide_eq_true h1
       go_wp2_with fail
       go_quiet (fail)
       go_wp2_with fail
       go_ret
       exact ⟨_, rfl, ⟨_, rfl, fun h => by cases h⟩, hE.drewN _⟩
      ·have t1 : decide (top - n < p.keep) = false := decide_eq_false (by omega)
       have t2 : decide (top - n - p.keep < 0) = false := decide_eq_false (by omega)
       rcases Int.lt_or_le (top - n - p.keep) (p.put.size : Int) with h3 | h3
       ·have t3 : decide (top - n - p.keep < (p.put.size : Int)) = true := decide_eq_true h3
        go_wp2_with fail
        go_quiet (fail)
        go_wp2_with fail
        go_ret
        exact ⟨_, rfl, ⟨_, rfl, fun h => by cases h⟩, hE.drewN _⟩
       ·have t3 : decide (top - n - p.keep < (p.put.size : Int)) = false := decide_eq_false (by omega)
        go_wp2_with fail
        go_quiet (fail)
        go_wp2_with fail
        go_roundw
        case rel => exact ⟨i + 1, n + (max 0 p.keep + max 0 p.drop + p.put.size), by congr 1; omega, by go_num, by omega, by omega, by omega, HD, hE.drewN _⟩
        case measure => simp [intOf]; omega
     ·have tk : decide (p.keep < 0) = false := decide_eq_false (by omega)
      have td : decide (p.drop < 0) = false := decide_eq_false (by omega)
      rcases Int.lt_or_le (top - n) p.keep with h1 | h1
      ·have t1 : decide (top - n < p.keep) = true := decide_eq_true h1
       go_wp2_with fail
       go_quiet (fail)
       go_wp2_with fail
       go_ret
       exact ⟨_, rfl, ⟨_, rfl, fun h => by cases h⟩, hE.drewN _⟩
      ·have t1 : decide (top - n < p.keep) = false := decide_eq_false (by omega)
       rcases Int.lt_or_le (top - n - p.keep) p.drop with h2 | h2
       ·have t2 : decide (top - n - p.keep < p.drop) = true := decide_eq_true h2
        go_wp2_with fail
        go_quiet (fail)
        go_wp2_with fail
        go_ret
        exact ⟨_, rfl, ⟨_, rfl, fun h => by cases h⟩, hE.drewN _⟩
       ·have t2 : decide (top - n - p.keep < p.drop) = false := decide_eq_false (by omega)
        rcases Int.lt_or_le (top - n - p.keep - p.drop) (p.put.size : Int) with h3 | h3
        ·have t3 : decide (top - n - p.keep - p.drop < (p.put.size : Int)) = true := decide_eq_true h3
         go_wp2_with fail
         go_quiet (fail)
         go_wp2_with fail
         go_ret
         exact ⟨_, rfl, ⟨_, rfl, fun h => by cases h⟩, hE.drewN _⟩
        ·have t3 : decide (top - n - p.keep - p.drop < (p.put.size : Int)) = false := decide_eq_false (by omega)
         go_wp2_with fail
         go_quiet (fail)
         go_wp2_with fail
         go_roundw
         case rel => exact ⟨i + 1, n + (max 0 p.keep + max 0 p.drop + p.put.size), by congr 1; omega, by go_num, by omega, by omega, by omega, HD, hE.drewN _⟩
         case measure => simp [intOf]; omega
   ·have HF : Hid (n = sumP l) := Lib.hid (by rw [← HW.out, List.drop_eq_nil_of_le hlt]; simp [sumP])
    clear HW
    go_wp2_with fail
    go_ret
    exact ⟨_, rfl, ⟨_, rfl, fun _ => ⟨HL.out, by rw [← HF.out]; exact hn1⟩⟩, hE⟩
end Go.Proofs.Ytkimbpeapolcbaa.Sy
namespace Go.Proofs.Ytkimbpeapolcbaa.Sy
open Go.RowKit Go.Proofs.Ytkimbpeapolcbaa.Bw Go.Proofs.Ytkimbpeapolcbaa.Bs

theorem rdPcs_ok {w : World} {b : Nat} : ∀ {l : List Pc} {off : Nat}, rdPcs w b off l → ∀ p ∈ l, okStr p.put
 | [], _, _ => fun _ hp => absurd hp List.not_mem_nil
 | _ :: _, _, ⟨_, _, _, h4, h5⟩ => fun p hp => (List.mem_cons.1 hp).elim (fun e => e ▸ h4) (rdPcs_ok h5 p)
theorem RdP.okp {w : World} {l : List Pc} {v : Value} (h : RdP w l v) : ∀ p ∈ l, okStr p.put := by
 obtain ⟨A, c, rfl, a1, a2, a3⟩ := h
 intro p hp
 obtain ⟨b, off, _, hr⟩ := a3 (List.length_pos_of_mem hp)
 exact rdPcs_ok hr p hp
theorem RdP.rds {w : World} {l : List Pc} {v : Value} (h : RdP w l v) : RdS w 3 l.length (pcVals l) v := by
 obtain ⟨A, c, rfl, a1, a2, a3⟩ := h
 refine ⟨A, c, rfl, pcVals_len l, a1, a2, fun h0 => ?_⟩
 obtain ⟨b, off, rfl, hr⟩ := a3 h0
 exact ⟨b, off, rfl, fun j u hu => rdPcs_cell hr hu⟩
theorem vals_one (l : List Pc) : ∀ u ∈ pcVals l, u.oneCell' = true := by
 intro u hu
 obtain ⟨p, _, hp⟩ := List.mem_flatMap.1 hu
 simp only [Pc.vals, List.mem_cons, List.not_mem_nil, or_false] at hp
 rcases hp with rfl | rfl | rfl <;> rfl
theorem normR_ok {l : List Pc} : ∀ p ∈ normR l, okStr p.put := by
 unfold normR
 split
 ·rename_i h; exact puts_ok h
 ·intro p hp; exact absurd hp List.not_mem_nil
end Go.Proofs.Ytkimbpeapolcbaa.Sy
namespace Go.Proofs.Ytkimbpeapolcbaa.Sy
open Go.RowKit Go.Proofs.Ytkimbpeapolcbaa.Bw Go.Proofs.Ytkimbpeapolcbaa.Bs

set_option maxRecDepth 100000 in
set_option maxHeartbeats 1000000 in
theorem pchild_any (p : List Int) (i : Int) (v : Value) (w : World) (h : RdI w p v) (hl : p.length ≤ 100000) : Calls Try.prog 34 #[v, .int .i64 i] w (Ret w fun r w' => w'.ownsRow w.heap.size 3 1 r (p ++ [i]).length ((p ++ [i]).map (Value.int .i64))) := by
  have hc := clone_any p v w h (by omega)
  obtain ⟨A, c, rfl, _, _, _, _⟩ := h
  go_enter Try.func34, Try.ntmps34
  go_wp2_with (first
    | (go_at_call 48; refine hc.mono ?_; clear hc; rintro e w1 ⟨r, rfl, hown, hE⟩
       obtain ⟨w2, hw2⟩ : ∃ W, w1.alloc (.cells #[.int .i64 i] 3) = W := ⟨_, rfl⟩
       have hE2 : Ext w1 w2 := by rw [← hw2]; exact (Ext.refl _).alloc _
       have h1 : RdS w2 1 1 [.int .i64 i] (.slice (some ⟨w1.heap.size, 0, none⟩) 1 1) := by rw [← hw2]; exact RdS.one rfl
       have H2 := Lib.hid hw2
       clear hw2)
    | (rw [H2.out]; clear H2)
    | (at_builtin
       refine wpList_append_rd rfl rfl T22 (v := _) (by rfl) (owns_ext hE2 hown) (by rfl) h1 (fun u hu => by rw [List.mem_singleton.1 hu]; rfl) (by omega) (by simp only [maxLen]; omega) (hE.trans hE2).size ?_
       intro v3 w3 hown3 hg3 hat3))
  go_ret
  exact ⟨_, rfl, by simpa using hown3, Ext.grown (hE.trans hE2) hg3 (owns_base hown)⟩
set_option maxRecDepth 100000 in
set_option maxHeartbeats 4000000 in
theorem parentB_any (p : List Int) (v : Value) (w : World) (h : RdI w p v) (hlen : p.length ≤ 1000000) : Calls Try.prog 28 #[v] w (Ret w fun r w' => ∃ r', r = .tuple #[r', .int .i64 (lastN p), .bool (decide (0 < p.length))] ∧ w'.ownsRow w.heap.size 3 1 r' p.dropLast.length (p.dropLast.map (Value.int .i64))) := by
  have h0 := h
  obtain ⟨aA, ac, rfl, _, a1, a2, a3⟩ := h0
  unfold maxLen at a2
  rcases Nat.eq_zero_or_pos p.length with hz | hpos
  · obtain rfl : p = [] := List.length_eq_zero_iff.1 hz
    have hd : (((([] : List Int).length : Nat) : Int) == 0) = true := rfl
    simp only [List.length_nil] at hd
    go_enter Try.func28, Try.ntmps28
    go_wp2_with fail
    go_ret3
    exact ⟨_, rfl, ⟨_, rfl, ⟨rfl, .inl ⟨rfl, rfl⟩⟩⟩, Ext.refl w⟩
  · have hne : p ≠ [] := List.length_pos_iff.1 hpos
    obtain ⟨ba, oa, rfl, ra⟩ := a3 hpos
    have e1 := ra (p.length - 1) (.int .i64 (lastN p)) (by rw [List.getElem?_map, last_at hne]; rfl)
    have q1 : (0 : Int) ≤ (p.length : Int) - 1 := by omega
    have q2 : (p.length : Int) - 1 < (p.length : Int) := by omega
    have q3 : ((p.length : Int) - 1).toNat = p.length - 1 := by omega
    have q4 : (p.length : Int) - 1 ≤ (ac : Int) := by omega
    have hd : ((p.length : Int) == 0) = false := by rw [beq_eq_false_iff_ne]; omega
    have r1 : (1 : Int) ≤ (p.length : Int) := by omega
    have r2 : 1 ≤ p.length := by omega
    have r3 : (p.length : Int) ≤ (ac : Int) + 1 := by omega
    have r4 : p.length ≤ ac + 1 := by omega
    have r5 : p.length - 1 ≤ ac := by omega
    have r6 : p.length - 1 < p.length := by omega
    have hc30 : ∀ W, Ext w W → Calls Try.prog 48 #[.slice (some ⟨ba, oa, none⟩) (p.length - 1) ac] W (Ret W fun r w' => w'.ownsRow w.heap.size 3 1 r p.dropLast.length (p.dropLast.map (Value.int .i64))) := fun W hW => by
      have := clone_any (p.take (p.length - 1)) _ W (RdI.take (RdS.ext hW h) (p.length - 1) (by omega)) (by simp; omega)
      rw [dropLast_take] at this
      exact this.mono (by
        rintro e w' ⟨r, rfl, ho, hE⟩
        exact ⟨r, rfl, owns_mono ho hW.size, hE⟩)
    clear ra a3 h
    go_enter Try.func28, Try.ntmps28
    go_wp2_with fail
    go_region_held3 (fun W => Ext w W ∧ W.cell? ⟨ba, oa + (p.length - 1), none⟩ = some (.int .i64 (lastN p))) (first | exact ⟨(Ext.refl w).drew, e1⟩ | exact ⟨E2, E2.cell e1⟩) ((go_at_call 48; have hh := ‹Ext w _ ∧ _›; refine (hc30 _ hh.1).mono ?_; rintro e u ⟨r, rfl, hR, hE⟩; have E2 := Ext.trans hh.1 hE; clear hE))
    go_wp2_with fail
    go_ret3
    exact ⟨_, rfl, ⟨_, by rw [decide_eq_true hpos]; rfl, by assumption⟩, ‹Ext w _ ∧ _›.1⟩
end Go.Proofs.Ytkimbpeapolcbaa.Sy
namespace Go.Proofs.Ytkimbpeapolcbaa.Sy
open Go.RowKit Go.Proofs.Ytkimbpeapolcbaa.Bw Go.Proofs.Ytkimbpeapolcbaa.Bs

def lastGap (o : OpD) : Bool := decide (0 < o.path.length) && decide (o.path.dropLast = o.to) && (o.at_ == lastN o.path || o.at_ == lastN o.path + 1)
/-- Does an operation do nothing? -/
def idleD (o : OpD) : Bool := o.formed && (if o.kind = 6 then decide ((normR o.pcs).length = 0) else if o.kind = 3 then lastGap o else false)
theorem formed_may {o : OpD} (h : o.formed = true) : may o.path = true := by
 unfold OpD.formed at h
 rw [Bool.and_eq_true] at h
 exact h.1
theorem may_last {p : List Int} (h : may p = true) (hp : 0 < p.length) : 0 ≤ lastN p ∧ lastN p < 1048576 := by
 have hne : p ≠ [] := List.length_pos_iff.1 hp
 unfold may at h
 rw [Bool.and_eq_true] at h
 have hm : lastN p ∈ p := List.mem_of_getElem? (last_at hne)
 have := List.all_eq_true.1 h.2 _ hm
 unfold okN at this
 simp only [Bool.and_eq_true, decide_eq_true_eq] at this
 omega
theorem rdO_cells {W : World} {o : OpD} {v : Value} (h : o.rd W v) : ∃ pA pc tA tc cA cc, v = .agg #[.int .u8 o.kind, .slice pA o.path.length pc, .int .i64 o.at_, .slice tA o.to.length tc, .int .u64 o.id, .bool o.leaf, .string o.label, .string o.key, .string o.value, .bool o.gone, .slice cA o.pcs.length cc] ∧ RdI W o.path (.slice pA o.path.length pc) ∧ RdI W o.to (.slice tA o.to.length tc) ∧ RdP W o.pcs (.slice cA o.pcs.length cc) := by
 obtain ⟨pv, tv, cv, rfl, h1, h2, h3, -⟩ := h
 obtain ⟨pA, pc, rfl, -⟩ := id h1
 obtain ⟨tA, tc, rfl, -⟩ := id h2
 obtain ⟨cA, cc, rfl, -⟩ := id h3
 exact ⟨_, _, _, _, _, _, rfl, h1, h2, h3⟩
set_option maxRecDepth 100000 in
set_option maxHeartbeats 4000000 in
theorem idle_any (o : OpD) (v : Value) (w : World) (h : o.rd w v) : Calls Try.prog 9 #[v] w (Ret w fun r _ => r = .bool (idleD o)) := by
 have HRD := Lib.hid h
 obtain ⟨pA, pc, tA, tc, cA, cc, rfl, hP, hT, hC⟩ := rdO_cells h
 obtain ⟨w1, hw1⟩ : ∃ W, w.alloc (.cells #[.int .u8 o.kind, .slice pA o.path.length pc, .int .i64 o.at_, .slice tA o.to.length tc, .int .u64 o.id, .bool o.leaf, .string o.label, .string o.key, .string o.value, .bool o.gone, .slice cA o.pcs.length cc] 26) = W := ⟨_, rfl⟩
 obtain ⟨X, hX⟩ : ∃ X, w.heap.size = X := ⟨_, rfl⟩
 have E1 : Ext w w1 := by rw [← hw1]; exact (Ext.refl w).alloc _
 have HE := Lib.hid E1
 have HB := Lib.hid (show NBox w1 X 26 #[.int .u8 o.kind, .slice pA o.path.length pc, .int .i64 o.at_, .slice tA o.to.length tc, .int .u64 o.id, .bool o.leaf, .string o.label, .string o.key, .string o.value, .bool o.gone, .slice cA o.pcs.length cc] from by rw [← hw1, ← hX]; exact NBox.new _ _ _)
 have HP := Lib.hid hP
 have HT := Lib.hid hT
 have HC := Lib.hid hC
 have HW := Lib.hid hw1
 have HXX := Lib.hid hX
 have HID := Lib.hid (show idleD o = (o.formed && (if o.kind = 6 then decide ((normR o.pcs).length = 0) else if o.kind = 3 then lastGap o else false)) from rfl)
 have hc := formed_any o _ w1 (OpD.rd_ext E1 h)
 have HFM := Lib.hid (fun (hf : o.formed = true) => formed_may hf)
 obtain ⟨f, hf⟩ : ∃ f, o.formed = f := ⟨_, rfl⟩
 rw [hf] at hc HID HFM
 have k0 := HB.out.cell 0
 have k1 := HB.out.cell 1
 have k2 := HB.out.cell 2
 have k3 := HB.out.cell 3
 have k4 := HB.out.cell 4
 have k5 := HB.out.cell 5
 have k6 := HB.out.cell 6
 have k7 := HB.out.cell 7
 have k8 := HB.out.cell 8
 have k9 := HB.out.cell 9
 have k10 := HB.out.cell 10
 clear hw1 hX E1 h hP hT hC hf
 go_enter Try.func9, Try.ntmps9
 go_upto_region 1 with fail
 rw [HW.out, HXX.out]
 clear HW HXX
 go_wp2_with fail
 refine hc.mono ?_
 clear hc k0 k1 k2 k3 k4 k5 k6 k7 k8 k9 k10
 rintro e w2 ⟨r, rfl, rfl, hE⟩
 have HE' := Lib.hid (HE.out.trans hE)
 have HB' := Lib.hid (HB.out.ext hE)
 clear hE HE HB
 have HE := HE'
 have HB := HB'
 clear HE' HB'
 cases f with
 | false =>
  go_wp2_with fail
  go_ret
  exact ⟨_, rfl, by rw [HID.out]; rfl, HE.out⟩
 | true =>
 have HMAY := Lib.hid (HFM.out rfl)
 clear HFM
 have hlen := may_len HMAY.out
 have k0 := HB.out.cell 0
 by_cases h6 : o.kind = 6
 ·have t6 : (o.kind == 6) = true := beq_iff_eq.2 h6
  have HR : Hid (idleD o = decide ((normR o.pcs).length = 0)) := Lib.hid (by rw [HID.out, if_pos h6]; rfl)
  have k10 := HB.out.cell 10
  have hq := Norm_any o.pcs _ w2 (RdP.ext HE.out HC.out)
  clear h6
  go_wp2_with fail
  refine hq.mono ?_
  clear hq k0 k10
  rintro e w3 ⟨v', rfl, hO, hE⟩
  have HE2 := Lib.hid (HE.out.trans hE)
  obtain ⟨nA, nc, rfl, -⟩ := RdS.of_owns hO
  obtain ⟨n, hn⟩ : ∃ n, (normR o.pcs).length = n := ⟨_, rfl⟩
  rw [hn] at HR
  have HT0 := Lib.hid (show ((n : Int) == 0) = decide (n = 0) from by by_cases h : n = 0 <;> simp [h])
  rw [hn]
  clear hE hO hn
  go_wp2_with fail
  go_ret
  exact ⟨_, rfl, congrArg Value.bool (HT0.out.trans HR.out.symm), HE2.out⟩
 have t6 : (o.kind == 6) = false := beq_eq_false_iff_ne.2 h6
 by_cases h3 : o.kind = 3
 ·have t3 : (o.kind == 3) = true := beq_iff_eq.2 h3
  have HR : Hid (idleD o = lastGap o) := Lib.hid (by rw [HID.out, if_neg h6, if_pos h3]; rfl)
  have k1 := HB.out.cell 1
  have hq := parentB_any o.path _ w2 (RdS.ext HE.out HP.out) (by omega)
  clear h6 h3
  go_wp2_with fail
  refine hq.mono ?_
  clear hq k0 k1
  rintro e w3 ⟨r, rfl, ⟨r', rfl, hO⟩, hE⟩
  have HE2 := Lib.hid (HE.out.trans hE)
  have HB2 := Lib.hid (HB.out.ext hE)
  have HO := Lib.hid hO
  obtain ⟨uA, uc, rfl, -⟩ := RdS.of_owns hO
  clear hE hO HE HB
  rcases Nat.eq_zero_or_pos o.path.length with hz | hz
  ·have b0 : decide (0 < o.path.length) = false := decide_eq_false (by omega)
   have HF : Hid (lastGap o = false) := Lib.hid (by unfold lastGap; rw [b0]; rfl)
   go_wp2_with fail
   go_ret
   exact ⟨_, rfl, (congrArg Value.bool (HR.out.trans HF.out)).symm, HE2.out⟩
  ·have b0 : decide (0 < o.path.length) = true := decide_eq_true hz
   obtain ⟨hl0, hl1⟩ := may_last HMAY.out hz
   have q7 : IntKind.i64.wrap (lastN o.path + 1) = lastN o.path + 1 := IntWalk.i64_in _ (by omega)
   have HF := Lib.hid (show lastGap o = (decide (o.path.dropLast = o.to) && (o.at_ == lastN o.path || o.at_ == lastN o.path + 1)) from by unfold lastGap; rw [b0]; rfl)
   have hq := pathSame_any o.path.dropLast o.to _ _ w3 (RdS.of_owns HO.out) (RdS.ext HE2.out HT.out)
   have k3 := HB2.out.cell 3
   obtain ⟨s, hs⟩ : ∃ s, decide (o.path.dropLast = o.to) = s := ⟨_, rfl⟩
   rw [hs] at hq HF
   obtain ⟨dl, hdl⟩ : ∃ d, o.path.dropLast.length = d := ⟨_, rfl⟩
   rw [hdl] at hq ⊢
   clear hs hdl HO
   go_wp2_with fail
   refine hq.mono ?_
   clear hq k3
   rintro e w4 ⟨r, rfl, rfl, hE⟩
   have HE3 := Lib.hid (HE2.out.trans hE)
   have HB3 := Lib.hid (HB2.out.ext hE)
   clear hE HE2 HB2
   have k2 := HB3.out.cell 2
   cases s with
   | false =>
    go_wp2_with fail
    go_ret
    exact ⟨_, rfl, by rw [HR.out, HF.out]; rfl, HE3.out⟩
   | true =>
    rcases h4 : (o.at_ == lastN o.path) with _ | _
    ·have HG : Hid (lastGap o = (o.at_ == lastN o.path + 1)) := Lib.hid (by rw [HF.out, h4]; rfl)
     go_wp2_with fail
     go_ret
     exact ⟨_, rfl, (congrArg Value.bool (HR.out.trans HG.out)).symm, HE3.out⟩
    ·have HG : Hid (lastGap o = true) := Lib.hid (by rw [HF.out, h4]; rfl)
     go_wp2_with fail
     go_ret
     exact ⟨_, rfl, (congrArg Value.bool (HR.out.trans HG.out)).symm, HE3.out⟩
 have t3 : (o.kind == 3) = false := beq_eq_false_iff_ne.2 h3
 have HR : Hid (idleD o = false) := Lib.hid (by rw [HID.out, if_neg h6, if_neg h3]; rfl)
 clear h6 h3
 go_wp2_with fail
 go_ret
 exact ⟨_, rfl, (congrArg Value.bool HR.out).symm, HE.out⟩
end Go.Proofs.Ytkimbpeapolcbaa.Sy
