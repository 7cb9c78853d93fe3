/- Chapter 10: LxSmall turned to this seat. (Printed by gsyport.py.) -/
import Derived.Test.YtkimbpeapolcbaaSyLxData
import Derived.Deep.QuietTactic
import Derived.Test.YtkimbpeapolcbaaSyLxRNorm2
import Derived.Test.YtkimbpeapolcbaaProg
import Derived.Test.YtkimbpeapolcbaaBsPlain
import Derived.Test.YtkimbpeapolcbaaSyWiLate
import Derived.BigQuiet
import Derived.Deep.AppendLies
import Derived.WalkSpells
import Derived.Deep.RegionHeld3
import Derived.Test.YtkimbpeapolcbaaSyBsInts
namespace Go.Proofs.Ytkimbpeapolcbaa.Sy
open Go.RowKit Go.Proofs.Ytkimbpeapolcbaa.Bw Go.Proofs.Ytkimbpeapolcbaa.Bs

/-- What an edit tells of, and puts, at least. -/
def sumP : List Pc → Int
  | [] => 0
  | p :: r => max 0 p.keep + max 0 p.drop + p.put.size + sumP r
theorem sumP_nn : ∀ l : List Pc, 0 ≤ sumP l
  | [] => Int.le_refl _
  | p :: r => by have := sumP_nn r; show 0 ≤ max 0 p.keep + max 0 p.drop + p.put.size + sumP r; omega
theorem sumP_at {l : List Pc} {i : Nat} {p : Pc} (hp : l[i]? = some p) : sumP (l.drop i) = max 0 p.keep + max 0 p.drop + p.put.size + sumP (l.drop (i + 1)) := by rw [drop_at hp]; rfl
/-- A yes tells that the edit is small. -/
def SmallR (l : List Pc) (top : Int) (r : Value) : Prop := ∃ b, r = .bool b ∧ (b = true → (l.length : Int) ≤ top ∧ sumP l ≤ top)
set_option maxRecDepth 100000 in
set_option maxHeartbeats 4000000 in
theorem small_any (l : List Pc) (v : Value) (top : Int) (w : World) (h : RdP w l v) (ht0 : 0 ≤ top) (ht1 : top ≤ 100000) : Calls Try.prog 25 #[v, .int .i64 top] w (Ret w fun r _ => SmallR l top r) := by
  obtain ⟨A, c, rfl, a1, a2, a3⟩ := h
  unfold maxLen at a2
  rcases Int.lt_or_le top (l.length : Int) with hl | hl
  · have t1 : decide (top < (l.length : Int)) = true := decide_eq_true hl
    clear hl
    go_enter Try.func25, Try.ntmps25
    go_wp2_with fail
    go_ret
    exact ⟨_, rfl, ⟨_, rfl, fun h => by cases h⟩, Ext.refl w⟩
  · have t1 : decide (top < (l.length : Int)) = false := decide_eq_false (by omega)
    have HL := Lib.hid hl
    go_enter Try.func25, Try.ntmps25
    go_wp2_with fail
    go_loopw [5, 6] (fun s5 s6 wr => ∃ (i : Nat) (n : Int), s5 = .int .i64 n ∧ s6 = .int .i64 i ∧ i ≤ l.length ∧ 0 ≤ n ∧ n ≤ top ∧ Hid (n + sumP (l.drop i) = sumP l) ∧ Ext w wr) (fun _ i _ => l.length - (intOf i).toNat)
    case atStart => exact ⟨0, 0, rfl, rfl, Nat.zero_le _, Int.le_refl _, ht0, Lib.hid (by simp), Ext.refl w⟩
    case round =>
      obtain ⟨i, n, rfl, rfl, hi, hn0, hn1, HW, hE⟩ := hrel
      rcases Nat.lt_or_ge i l.length with hlt | hlt
      · obtain ⟨p, hp⟩ : ∃ p, l[i]? = some p := ⟨_, List.getElem?_eq_getElem hlt⟩
        obtain ⟨ba, oa, rfl, ra⟩ := a3 (by omega)
        obtain ⟨e1, e2, e3, e4⟩ := rdPcs_at (rdPcs_ext hE ra) hp
        have q1 : (0 : Int) ≤ (i : Int) := by omega
        have q2 : (i : Int) < (l.length : Int) := by omega
        have HX := sumP_at hp
        have HN := sumP_nn (l.drop (i + 1))
        have HD : Hid (n + (max 0 p.keep + max 0 p.drop + p.put.size) + sumP (l.drop (i + 1)) = sumP l) := Lib.hid (by
          have h1 := HW.out
          rw [HX] at h1; omega)
        unfold maxLen at e4
        clear hp ra a3 HW HX HN hl
        have w1 : -9223372036854775808 ≤ top - n ∧ top - n ≤ 9223372036854775807 := by omega
        rcases Int.lt_or_le p.keep 0 with hk | hk
        · rcases Int.lt_or_le p.drop 0 with hd | hd
          · have tk : decide (p.keep < 0) = true := decide_eq_true hk
            have td : decide (p.drop < 0) = true := decide_eq_true hd
            have h1 : (0 : Int) ≤ top - n := by omega
            have t1 : decide (top - n < 0) = false := decide_eq_false (by omega)
            have t2 : decide (top - n < 0) = false := decide_eq_false (by omega)
            rcases Int.lt_or_le (top - n) (p.put.size : Int) with h3 | h3
            · have t3 : decide (top - n < (p.put.size : Int)) = true := decide_eq_true h3
              go_wp2_with fail
              go_quiet (fail)
              go_wp2_with fail
              go_ret
              exact ⟨_, rfl, ⟨_, rfl, fun h => by cases h⟩, hE.drewN _⟩
            · have t3 : decide (top - n < (p.put.size : Int)) = false := decide_eq_false (by omega)
              go_wp2_with fail
              go_quiet (fail)
              go_wp2_with fail
              go_roundw
              case rel => exact ⟨i + 1, n + (max 0 p.keep + max 0 p.drop + p.put.size), by congr 1; omega, by go_num, by omega, by omega, by omega, HD, hE.drewN _⟩
              case measure => simp [intOf]; omega
          · have tk : decide (p.keep < 0) = true := decide_eq_true hk
            have td : decide (p.drop < 0) = false := decide_eq_false (by omega)
            have h1 : (0 : Int) ≤ top - n := by omega
            have t1 : decide (top - n < 0) = false := decide_eq_false (by omega)
            rcases Int.lt_or_le (top - n) p.drop with h2 | h2
            · have t2 : decide (top - n < p.drop) = true := decide_eq_true h2
              go_wp2_with fail
              go_quiet (fail)
              go_wp2_with fail
              go_ret
              exact ⟨_, rfl, ⟨_, rfl, fun h => by cases h⟩, hE.drewN _⟩
            · have t2 : decide (top - n < p.drop) = false := decide_eq_false (by omega)
              rcases Int.lt_or_le (top - n - p.drop) (p.put.size : Int) with h3 | h3
              · have t3 : decide (top - n - p.drop < (p.put.size : Int)) = true := decide_eq_true h3
                go_wp2_with fail
                go_quiet (fail)
                go_wp2_with fail
                go_ret
                exact ⟨_, rfl, ⟨_, rfl, fun h => by cases h⟩, hE.drewN _⟩
              · have t3 : decide (top - n - p.drop < (p.put.size : Int)) = false := decide_eq_false (by omega)
                go_wp2_with fail
                go_quiet (fail)
                go_wp2_with fail
                go_roundw
                case rel => exact ⟨i + 1, n + (max 0 p.keep + max 0 p.drop + p.put.size), by congr 1; omega, by go_num, by omega, by omega, by omega, HD, hE.drewN _⟩
                case measure => simp [intOf]; omega
        · rcases Int.lt_or_le p.drop 0 with hd | hd
          · have tk : decide (p.keep < 0) = false := decide_eq_false (by omega)
            have td : decide (p.drop < 0) = true := decide_eq_true hd
            rcases Int.lt_or_le (top - n) p.keep with h1 | h1
            · have t1 : decide (top - n < p.keep) = true := decide_eq_true h1
              go_wp2_with fail
              go_quiet (fail)
              go_wp2_with fail
              go_ret
              exact ⟨_, rfl, ⟨_, rfl, fun h => by cases h⟩, hE.drewN _⟩
            · have t1 : decide (top - n < p.keep) = false := decide_eq_false (by omega)
              have t2 : decide (top - n - p.keep < 0) = false := decide_eq_false (by omega)
              rcases Int.lt_or_le (top - n - p.keep) (p.put.size : Int) with h3 | h3
              · have t3 : decide (top - n - p.keep < (p.put.size : Int)) = true := decide_eq_true h3
                go_wp2_with fail
                go_quiet (fail)
                go_wp2_with fail
                go_ret
                exact ⟨_, rfl, ⟨_, rfl, fun h => by cases h⟩, hE.drewN _⟩
              · have t3 : decide (top - n - p.keep < (p.put.size : Int)) = false := decide_eq_false (by omega)
                go_wp2_with fail
                go_quiet (fail)
                go_wp2_with fail
                go_roundw
                case rel => exact ⟨i + 1, n + (max 0 p.keep + max 0 p.drop + p.put.size), by congr 1; omega, by go_num, by omega, by omega, by omega, HD, hE.drewN _⟩
                case measure => simp [intOf]; omega
          · have tk : decide (p.keep < 0) = false := decide_eq_false (by omega)
            have td : decide (p.drop < 0) = false := decide_eq_false (by omega)
            rcases Int.lt_or_le (top - n) p.keep with h1 | h1
            · have t1 : decide (top - n < p.keep) = true := decide_eq_true h1
              go_wp2_with fail
              go_quiet (fail)
              go_wp2_with fail
              go_ret
              exact ⟨_, rfl, ⟨_, rfl, fun h => by cases h⟩, hE.drewN _⟩
            · have t1 : decide (top - n < p.keep) = false := decide_eq_false (by omega)
              rcases Int.lt_or_le (top - n - p.keep) p.drop with h2 | h2
              · have t2 : decide (top - n - p.keep < p.drop) = true := decide_eq_true h2
                go_wp2_with fail
                go_quiet (fail)
                go_wp2_with fail
                go_ret
                exact ⟨_, rfl, ⟨_, rfl, fun h => by cases h⟩, hE.drewN _⟩
              · have t2 : decide (top - n - p.keep < p.drop) = false := decide_eq_false (by omega)
                rcases Int.lt_or_le (top - n - p.keep - p.drop) (p.put.size : Int) with h3 | h3
                · have t3 : decide (top - n - p.keep - p.drop < (p.put.size : Int)) = true := decide_eq_true h3
                  go_wp2_with fail
                  go_quiet (fail)
                  go_wp2_with fail
                  go_ret
                  exact ⟨_, rfl, ⟨_, rfl, fun h => by cases h⟩, hE.drewN _⟩
                · have t3 : decide (top - n - p.keep - p.drop < (p.put.size : Int)) = false := decide_eq_false (by omega)
                  go_wp2_with fail
                  go_quiet (fail)
                  go_wp2_with fail
                  go_roundw
                  case rel => exact ⟨i + 1, n + (max 0 p.keep + max 0 p.drop + p.put.size), by congr 1; omega, by go_num, by omega, by omega, by omega, HD, hE.drewN _⟩
                  case measure => simp [intOf]; omega
      · have HF : Hid (n = sumP l) := Lib.hid (by rw [← HW.out, List.drop_eq_nil_of_le hlt]; simp [sumP])
        clear HW
        go_wp2_with fail
        go_ret
        exact ⟨_, rfl, ⟨_, rfl, fun _ => ⟨HL.out, by rw [← HF.out]; exact hn1⟩⟩, hE⟩
end Go.Proofs.Ytkimbpeapolcbaa.Sy
namespace Go.Proofs.Ytkimbpeapolcbaa.Sy
open Go.RowKit Go.Proofs.Ytkimbpeapolcbaa.Bw Go.Proofs.Ytkimbpeapolcbaa.Bs

set_option maxRecDepth 100000 in
set_option maxHeartbeats 2000000 in
theorem refNorm_any (l : List Pc) (v : Value) (w : World) (h : RdP w l v) : Calls Try.prog 31 #[v] w fun e w' => ∃ v', e = .returned v' ∧ w'.ownsRow w.heap.size 35 3 v' (normR l).length (pcVals (normR l)) ∧ Ext w w' := by
  have hc := rightR_any l v w h
  obtain ⟨A, c, rfl, _⟩ := id h
  obtain ⟨r, hr⟩ : ∃ r, pcsRight l = r := ⟨_, rfl⟩
  rw [hr] at hc
  have HR := Lib.hid hr
  clear hr
  go_enter Try.func31, Try.ntmps31
  go_wp2_with fail
  refine hc.mono ?_
  clear hc
  rintro e w1 ⟨_, rfl, rfl, E1⟩
  cases r with
  | false =>
    go_wp2_with fail
    go_ret
    have e0 : normR l = [] := by unfold normR; rw [HR.out]; rfl
    rw [e0]
    exact ⟨_, rfl, ⟨rfl, .inl ⟨rfl, rfl⟩⟩, E1⟩
  | true =>
    obtain ⟨n1, n2, n3⟩ := right_nn HR.out
    have hn := normR_any l _ w1 (h.ext E1) n1 (by omega) (by omega)
    go_wp2_with fail
    refine hn.mono ?_
    clear hn
    rintro e w2 ⟨v', rfl, O, E2⟩
    go_wp2_with fail
    go_ret
    have e0 : normR l = normL l := by unfold normR; rw [HR.out]; rfl
    rw [e0]
    exact ⟨_, rfl, owns_mono O E1.size, E1.trans E2⟩
theorem rdPcs_ok {w : World} {b : Nat} : ∀ {l : List Pc} {off : Nat}, rdPcs w b off l → ∀ p ∈ l, okStr p.put
  | [], _, _ => fun _ hp => absurd hp List.not_mem_nil
  | _ :: _, _, ⟨_, _, _, h4, h5⟩ => fun p hp => (List.mem_cons.1 hp).elim (fun e => e ▸ h4) (rdPcs_ok h5 p)
theorem RdP.okp {w : World} {l : List Pc} {v : Value} (h : RdP w l v) : ∀ p ∈ l, okStr p.put := by
  obtain ⟨A, c, rfl, a1, a2, a3⟩ := h
  intro p hp
  obtain ⟨b, off, _, hr⟩ := a3 (List.length_pos_of_mem hp)
  exact rdPcs_ok hr p hp
theorem RdP.rds {w : World} {l : List Pc} {v : Value} (h : RdP w l v) : RdS w 3 l.length (pcVals l) v := by
  obtain ⟨A, c, rfl, a1, a2, a3⟩ := h
  refine ⟨A, c, rfl, pcVals_len l, a1, a2, fun h0 => ?_⟩
  obtain ⟨b, off, rfl, hr⟩ := a3 h0
  exact ⟨b, off, rfl, fun j u hu => rdPcs_cell hr hu⟩
theorem vals_one (l : List Pc) : ∀ u ∈ pcVals l, u.oneCell' = true := by
  intro u hu
  obtain ⟨p, _, hp⟩ := List.mem_flatMap.1 hu
  simp only [Pc.vals, List.mem_cons, List.not_mem_nil, or_false] at hp
  rcases hp with rfl | rfl | rfl <;> rfl
theorem normR_ok {l : List Pc} : ∀ p ∈ normR l, okStr p.put := by
  unfold normR
  split
  · rename_i h; exact puts_ok h
  · intro p hp; exact absurd hp List.not_mem_nil
end Go.Proofs.Ytkimbpeapolcbaa.Sy
namespace Go.Proofs.Ytkimbpeapolcbaa.Sy
open Go.RowKit Go.Proofs.Ytkimbpeapolcbaa.Bw Go.Proofs.Ytkimbpeapolcbaa.Bs

set_option maxRecDepth 100000 in
set_option maxHeartbeats 1000000 in
theorem pchild_any (p : List Int) (i : Int) (v : Value) (w : World) (h : RdI w p v) (hl : p.length ≤ 100000) : Calls Try.prog 34 #[v, .int .i64 i] w (Ret w fun r w' => w'.ownsRow w.heap.size 3 1 r (p ++ [i]).length ((p ++ [i]).map (Value.int .i64))) := by
  have hc := clone_any p v w h (by omega)
  obtain ⟨A, c, rfl, _, _, _, _⟩ := h
  go_enter Try.func34, Try.ntmps34
  go_wp2_with (first
    | (go_at_call 48; refine hc.mono ?_; clear hc; rintro e w1 ⟨r, rfl, hown, hE⟩
       obtain ⟨w2, hw2⟩ : ∃ W, w1.alloc (.cells #[.int .i64 i] 3) = W := ⟨_, rfl⟩
       have hE2 : Ext w1 w2 := by rw [← hw2]; exact (Ext.refl _).alloc _
       have h1 : RdS w2 1 1 [.int .i64 i] (.slice (some ⟨w1.heap.size, 0, none⟩) 1 1) := by rw [← hw2]; exact RdS.one rfl
       have H2 := Lib.hid hw2
       clear hw2)
    | (rw [H2.out]; clear H2)
    | (at_builtin
       refine wpList_append_rd rfl rfl T22 (v := _) (by rfl) (owns_ext hE2 hown) (by rfl) h1 (fun u hu => by rw [List.mem_singleton.1 hu]; rfl) (by omega) (by simp only [maxLen]; omega) (hE.trans hE2).size ?_
       intro v3 w3 hown3 hg3 hat3))
  go_ret
  exact ⟨_, rfl, by simpa using hown3, Ext.grown (hE.trans hE2) hg3 (owns_base hown)⟩
set_option maxRecDepth 100000 in
set_option maxHeartbeats 4000000 in
theorem parentB_any (p : List Int) (v : Value) (w : World) (h : RdI w p v) (hlen : p.length ≤ 1000000) : Calls Try.prog 28 #[v] w (Ret w fun r w' => ∃ r', r = .tuple #[r', .int .i64 (lastN p), .bool (decide (0 < p.length))] ∧ w'.ownsRow w.heap.size 3 1 r' p.dropLast.length (p.dropLast.map (Value.int .i64))) := by
  have h0 := h
  obtain ⟨aA, ac, rfl, _, a1, a2, a3⟩ := h0
  unfold maxLen at a2
  rcases Nat.eq_zero_or_pos p.length with hz | hpos
  · obtain rfl : p = [] := List.length_eq_zero_iff.1 hz
    have hd : (((([] : List Int).length : Nat) : Int) == 0) = true := rfl
    simp only [List.length_nil] at hd
    go_enter Try.func28, Try.ntmps28
    go_wp2_with fail
    go_ret3
    exact ⟨_, rfl, ⟨_, rfl, ⟨rfl, .inl ⟨rfl, rfl⟩⟩⟩, Ext.refl w⟩
  · have hne : p ≠ [] := List.length_pos_iff.1 hpos
    obtain ⟨ba, oa, rfl, ra⟩ := a3 hpos
    have e1 := ra (p.length - 1) (.int .i64 (lastN p)) (by rw [List.getElem?_map, last_at hne]; rfl)
    have q1 : (0 : Int) ≤ (p.length : Int) - 1 := by omega
    have q2 : (p.length : Int) - 1 < (p.length : Int) := by omega
    have q3 : ((p.length : Int) - 1).toNat = p.length - 1 := by omega
    have q4 : (p.length : Int) - 1 ≤ (ac : Int) := by omega
    have hd : ((p.length : Int) == 0) = false := by rw [beq_eq_false_iff_ne]; omega
    have r1 : (1 : Int) ≤ (p.length : Int) := by omega
    have r2 : 1 ≤ p.length := by omega
    have r3 : (p.length : Int) ≤ (ac : Int) + 1 := by omega
    have r4 : p.length ≤ ac + 1 := by omega
    have r5 : p.length - 1 ≤ ac := by omega
    have r6 : p.length - 1 < p.length := by omega
    have hc30 : ∀ W, Ext w W → Calls Try.prog 48 #[.slice (some ⟨ba, oa, none⟩) (p.length - 1) ac] W (Ret W fun r w' => w'.ownsRow w.heap.size 3 1 r p.dropLast.length (p.dropLast.map (Value.int .i64))) := fun W hW => by
      have := clone_any (p.take (p.length - 1)) _ W (RdI.take (RdS.ext hW h) (p.length - 1) (by omega)) (by simp; omega)
      rw [dropLast_take] at this
      exact this.mono (by
        rintro e w' ⟨r, rfl, ho, hE⟩
        exact ⟨r, rfl, owns_mono ho hW.size, hE⟩)
    clear ra a3 h
    go_enter Try.func28, Try.ntmps28
    go_wp2_with fail
    go_region_held3 (fun W => Ext w W ∧ W.cell? ⟨ba, oa + (p.length - 1), none⟩ = some (.int .i64 (lastN p))) (first | exact ⟨(Ext.refl w).drew, e1⟩ | exact ⟨E2, E2.cell e1⟩) ((go_at_call 48; have hh := ‹Ext w _ ∧ _›; refine (hc30 _ hh.1).mono ?_; rintro e u ⟨r, rfl, hR, hE⟩; have E2 := Ext.trans hh.1 hE; clear hE))
    go_wp2_with fail
    go_ret3
    exact ⟨_, rfl, ⟨_, by rw [decide_eq_true hpos]; rfl, by assumption⟩, ‹Ext w _ ∧ _›.1⟩
end Go.Proofs.Ytkimbpeapolcbaa.Sy
