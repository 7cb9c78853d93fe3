/- Chapter 04: the shift between two paths. -/
import Derived.Test.YtbabfeepmaipoaaPtShift
namespace Go.Proofs.Ytbabfeepmaipoaa.Pt
open Go.RowKit Go.Proofs.Ytbabfeepmaipoaa.Bw Go.Proofs.Ytbabfeepmaipoaa.Bs

/-- Where two rows of one length are unlike: -1: nowhere; none: more than once. -/
def btw : List Int → List Int → Nat → Int → Option Int
  | x :: p, y :: q, i, a => if x = y then btw p q (i + 1) a else if 0 ≤ a then none else btw p q (i + 1) (i : Int)
  | _, _, _, a => some a
def fOf (n : Int) : Nat := floatOfInt .f64 n
/-- The shift between two. -/
def between (p q : List Int) : Option (Nat × Nat) :=
  if p.length = q.length ∧ may p = true ∧ may q = true then
    match btw p q 0 (-1) with
    | some a => if a < 0 then none else some (fOf (q.getD a.toNat 0 - p.getD a.toNat 0), fOf a)
    | none => none
  else none
def btwV : Option (Nat × Nat) → Value
  | some (re, im) => .tuple #[.complex .f64 re im, .bool true]
  | none => .tuple #[.complex .f64 0 0, .bool false]
theorem btw_bound : ∀ (p q : List Int) (i : Nat) (a b : Int), a < (i : Int) → btw p q i a = some b → b < ((i + p.length : Nat) : Int)
  | [], q, i, a, b, ha, h => by simp [btw] at h; subst h; simpa using ha
  | x :: p, [], i, a, b, ha, h => by simp [btw] at h; subst h; simp; omega
  | x :: p, y :: q, i, a, b, ha, h => by
    rw [btw] at h
    split at h
    · have := btw_bound p q (i + 1) a b (by omega) h
      simp at this ⊢; omega
    · split at h
      · cases h
      · have := btw_bound p q (i + 1) i b (by omega) h
        simp at this ⊢; omega
theorem btw_at {p q : List Int} {i : Nat} {a x y : Int} (hx : p[i]? = some x) (hy : q[i]? = some y) : btw (p.drop i) (q.drop i) i a = if x = y then btw (p.drop (i + 1)) (q.drop (i + 1)) (i + 1) a else if 0 ≤ a then none else btw (p.drop (i + 1)) (q.drop (i + 1)) (i + 1) (i : Int) := by
  rw [drop_at hx, drop_at hy, btw]
theorem may_at' {p : List Int} (h : may p = true) {i : Nat} {x : Int} (hx : p[i]? = some x) : 0 ≤ x ∧ x < 1048576 := by
  rw [may, Bool.and_eq_true] at h
  have := List.all_eq_true.1 h.2 x (List.mem_of_getElem? hx)
  simpa [okN] using this

set_option maxRecDepth 100000 in
set_option maxHeartbeats 2000000 in
theorem btw_no (p q : List Int) (u v : Value) (w : World) (hp : RdI w p u) (hq : RdI w q v) (hno : ¬ (p.length = q.length ∧ may p = true ∧ may q = true)) : Calls Try.prog 12 #[u, v] w (Ret w fun r _ => r = btwV none) := by
  have hm1 := fun W (hW : Ext w W) => pathMay_any p u W (RdS.ext hW hp)
  have hm2 := fun W (hW : Ext w W) => pathMay_any q v W (RdS.ext hW hq)
  obtain ⟨A, c, rfl, _, a1, a2, _⟩ := hp
  obtain ⟨B, d, rfl, _, b1, b2, _⟩ := hq
  unfold maxLen at a2 b2
  have E := Ext.refl w
  by_cases hl : p.length = q.length
  · have l1 : ((p.length : Int) != (q.length : Int)) = false := by rw [hl]; simp
    have l2 : (p.length != q.length) = false := by rw [hl]; simp
    generalize may p = x1 at *
    generalize may q = x2 at *
    have hlh := Lib.hid hl
    rcases x1 with _ | _
    · clear hm2 hno hl
      go_enter Try.func12, Try.ntmps12
      go_wp2_with (first | (go_at_call 9; refine (hm1 _ E).mono ?_; clear hm1; rintro e u1 ⟨r, rfl, rfl, hE⟩; replace E := Ext.trans E hE; clear hE))
      go_ret2
      exact ⟨_, rfl, rfl, E⟩
    · obtain rfl : x2 = false := by simpa [hl] using hno
      clear hno hl
      go_enter Try.func12, Try.ntmps12
      go_wp2_with (first | (go_at_call 9; refine (hm1 _ E).mono ?_; clear hm1; rintro e u1 ⟨r, rfl, rfl, hE⟩; replace E := Ext.trans E hE; clear hE) | (go_at_call 9; refine (hm2 _ E).mono ?_; clear hm2; rintro e u1 ⟨r, rfl, rfl, hE⟩; replace E := Ext.trans E hE; clear hE))
      go_ret2
      exact ⟨_, rfl, rfl, E⟩
  · have l1 : ((p.length : Int) != (q.length : Int)) = true := by simp; omega
    clear hm1 hm2 hno
    go_enter Try.func12, Try.ntmps12
    go_wp2_with fail
    go_ret2
    exact ⟨_, rfl, rfl, E⟩

set_option maxRecDepth 100000 in
set_option maxHeartbeats 4000000 in
theorem btw_yes (p q : List Int) (u v : Value) (w : World) (hp : RdI w p u) (hq : RdI w q v) (hl : p.length = q.length) (h1 : may p = true) (h2 : may q = true) : Calls Try.prog 12 #[u, v] w (Ret w fun r _ => r = btwV (between p q)) := by
  have hbe : between p q = match btw p q 0 (-1) with | some a => if a < 0 then none else some (fOf (q.getD a.toNat 0 - p.getD a.toNat 0), fOf a) | none => none := if_pos ⟨hl, h1, h2⟩
  have hm1 : ∀ W, Ext w W → Calls Try.prog 9 #[u] W (Ret W fun r _ => r = .bool true) := fun W hW => by
    have := pathMay_any p u W (RdS.ext hW hp)
    rwa [h1] at this
  have hm2 : ∀ W, Ext w W → Calls Try.prog 9 #[v] W (Ret W fun r _ => r = .bool true) := fun W hW => by
    have := pathMay_any q v W (RdS.ext hW hq)
    rwa [h2] at this
  obtain ⟨A, c, rfl, _, a1, a2, a3⟩ := hp
  obtain ⟨B, d, rfl, _, b1, b2, b3⟩ := hq
  unfold maxLen at a2 b2
  have E := Ext.refl w
  have l1 : ((p.length : Int) != (q.length : Int)) = false := by rw [hl]; simp
  have l2 : (p.length != q.length) = false := by rw [hl]; simp
  have HB := Lib.hid hbe
  have HL := Lib.hid hl
  have M1 := Lib.hid h1
  have M2 := Lib.hid h2
  clear hbe hl h1 h2
  go_enter Try.func12, Try.ntmps12
  go_wp2_with (first | (go_at_call 9; refine (hm1 _ E).mono ?_; clear hm1; rintro e u1 ⟨r, rfl, rfl, hE⟩; replace E := Ext.trans E hE; clear hE) | (go_at_call 9; refine (hm2 _ E).mono ?_; clear hm2; rintro e u1 ⟨r, rfl, rfl, hE⟩; replace E := Ext.trans E hE; clear hE))
  go_loopw [6, 26] (fun s6 s26 wr => ∃ (i : Nat) (a : Int), s26 = .int .i64 i ∧ s6 = .int .i64 a ∧ i ≤ p.length ∧ a < (i : Int) ∧ -1 ≤ a ∧ Hid (btw (p.drop i) (q.drop i) i a = btw p q 0 (-1)) ∧ Ext w wr) (fun _ i _ => p.length - (intOf i).toNat)
  case atStart => exact ⟨0, -1, rfl, rfl, Nat.zero_le _, by omega, by omega, rfl, E⟩
  case round =>
    obtain ⟨i, a, rfl, rfl, hi, ha1, ha2, HW, hX⟩ := hrel
    have q1 : (0 : Int) ≤ (i : Int) := by omega
    rcases Nat.lt_or_ge i p.length with hlt | hlt
    · obtain ⟨x, hx⟩ : ∃ x, p[i]? = some x := ⟨_, List.getElem?_eq_getElem hlt⟩
      obtain ⟨y, hy⟩ : ∃ x, q[i]? = some x := ⟨_, List.getElem?_eq_getElem (by have := HL.out; omega)⟩
      obtain ⟨ba, oa, rfl, ra⟩ := a3 (by omega)
      obtain ⟨bb, ob, rfl, rb⟩ := b3 (by have := HL.out; omega)
      have e1 := hX.cell (ra i (.int .i64 x) (by rw [List.getElem?_map, hx]; rfl))
      have f1 := hX.cell (rb i (.int .i64 y) (by rw [List.getElem?_map, hy]; rfl))
      have HD := Lib.hid (btw_at (a := a) hx hy)
      have q2 : (i : Int) < (p.length : Int) := by omega
      have q3 : (i : Int) < (q.length : Int) := by have := HL.out; omega
      clear hx hy ra rb a3 b3
      rcases hc1 : (x == y) with _ | _
      · have hne : x ≠ y := by simpa using hc1
        rcases Int.lt_or_le a 0 with ha | ha
        · have HN : Hid (btw (p.drop (i + 1)) (q.drop (i + 1)) (i + 1) (i : Int) = btw p q 0 (-1)) := by rw [← HW.out, HD.out, if_neg hne, if_neg (by omega)]; rfl
          have t1 : decide (0 ≤ a) = false := decide_eq_false (by omega)
          clear HW HD hne
          go_wp2_with fail
          go_roundw
          case rel => exact ⟨i + 1, i, by go_num, rfl, by omega, by omega, by omega, HN, hX⟩
          case measure => simp [intOf]; omega
        · have HG : Hid (between p q = none) := by
            show between p q = none
            rw [HB.out, ← HW.out, HD.out, if_neg hne, if_pos ha]
          have t1 : decide (0 ≤ a) = true := decide_eq_true ha
          clear HW HD hne
          go_wp2_with fail
          go_ret2
          exact ⟨_, rfl, by rw [HG.out]; rfl, hX⟩
      · have heq : x = y := by simpa using hc1
        have HN : Hid (btw (p.drop (i + 1)) (q.drop (i + 1)) (i + 1) a = btw p q 0 (-1)) := by rw [← HW.out, HD.out, if_pos heq]; rfl
        clear HW HD heq
        go_wp2_with fail
        go_roundw
        case rel => exact ⟨i + 1, a, by go_num, rfl, by omega, by omega, by omega, HN, hX⟩
        case measure => simp [intOf]; omega
    · have HE : btw p q 0 (-1) = some a := by
        rw [← HW.out, List.drop_eq_nil_of_le hlt]
        cases q.drop i <;> rfl
      have q2 : decide ((i : Int) < (p.length : Int)) = false := decide_eq_false (by omega)
      clear HW
      rcases Int.lt_or_le a 0 with ha | ha
      · have HG : Hid (between p q = none) := by
          show between p q = none
          rw [HB.out, HE]
          exact if_pos ha
        have t1 : decide (a < 0) = true := decide_eq_true ha
        clear HE a3 b3
        go_wp2_with fail
        go_ret2
        exact ⟨_, rfl, by rw [HG.out]; rfl, hX⟩
      · obtain ⟨k, rfl⟩ := Int.eq_ofNat_of_zero_le ha
        have hkb := btw_bound p q 0 (-1) k (by omega) HE
        have hkp : k < p.length := by simpa using hkb
        obtain ⟨x, hx⟩ : ∃ x, p[k]? = some x := ⟨_, List.getElem?_eq_getElem hkp⟩
        obtain ⟨y, hy⟩ : ∃ x, q[k]? = some x := ⟨_, List.getElem?_eq_getElem (by have := HL.out; omega)⟩
        have HG : Hid (between p q = some (fOf (y - x), fOf (k : Int))) := by
          show between p q = _
          rw [HB.out, HE]
          simp only [if_neg (show ¬ ((k : Int) < 0) by omega), Int.toNat_natCast, List.getD_eq_getElem?_getD, hx, hy, Option.getD_some]
        obtain ⟨x0, x1⟩ := may_at' M1.out hx
        obtain ⟨y0, y1⟩ := may_at' M2.out hy
        obtain ⟨ba, oa, rfl, ra⟩ := a3 (by omega)
        obtain ⟨bb, ob, rfl, rb⟩ := b3 (by have := HL.out; omega)
        have e1 := hX.cell (ra k (.int .i64 x) (by rw [List.getElem?_map, hx]; rfl))
        have f1 := hX.cell (rb k (.int .i64 y) (by rw [List.getElem?_map, hy]; rfl))
        have q4 : (k : Int) < (p.length : Int) := by omega
        have q5 : (k : Int) < (q.length : Int) := by have := HL.out; omega
        have q6 : (0 : Int) ≤ (k : Int) := by omega
        have t1 : decide ((k : Int) < 0) = false := decide_eq_false (by omega)
        clear HE hx hy ra rb a3 b3 hkb
        go_wp2_with fail
        go_quiet (fail)
        go_wp2_with fail
        go_ret2
        exact ⟨_, rfl, by rw [HG.out]; rfl, hX.drewN _⟩
theorem between_any (p q : List Int) (u v : Value) (w : World) (hp : RdI w p u) (hq : RdI w q v) : Calls Try.prog 12 #[u, v] w (Ret w fun r _ => r = btwV (between p q)) := by
  by_cases h : p.length = q.length ∧ may p = true ∧ may q = true
  · exact btw_yes p q u v w hp hq h.1 h.2.1 h.2.2
  · have e : between p q = none := if_neg h
    rw [e]
    exact btw_no p q u v w hp hq h
end Go.Proofs.Ytbabfeepmaipoaa.Pt
