/- Chapter 04: the statement PathBetween. -/
import Derived.Test.YtbabfeepmaipoaaPtBtwR2
namespace Go.Proofs.Ytbabfeepmaipoaa.Pt
open Go.RowKit Go.Proofs.Ytbabfeepmaipoaa.Bw Go.Proofs.Ytbabfeepmaipoaa.Bs

theorem read_word (f : Ieee.Format) (neg : Bool) {rung : Nat} (h : rung ≤ f.infRung) : (f.read (f.word neg rung)).isNaN = false := by
  have hlt : rung < f.signWeight := Nat.lt_of_le_of_lt h f.infRung_lt
  have hm : f.word neg rung % f.signWeight = rung := by
    unfold Ieee.Format.word
    split
    · rw [Nat.add_mod_left, Nat.mod_eq_of_lt hlt]
    · exact Nat.mod_eq_of_lt hlt
  unfold Ieee.Format.read
  dsimp only
  rw [hm]
  split
  · rfl
  · split
    · rfl
    · rw [if_pos (by omega)]; rfl
theorem fOf_number (n : Int) : (FloatKind.f64.format.read (fOf n)).isNaN = false := by
  show (FloatKind.f64.format.read (FloatKind.f64.format.nearest (decide (n < 0)) n.natAbs 0)).isNaN = false
  unfold Ieee.Format.nearest
  dsimp only
  split
  · exact read_word _ _ (Nat.zero_le _)
  · exact read_word _ _ (Nat.min_le_right _ _)
theorem order_self {d : Ieee.Datum} (h : d.isNaN = false) : d.order d = some .eq := by
  cases d with
  | nan s t => cases h
  | infinity s => cases s <;> rfl
  | number s m i =>
    simp only [Ieee.Datum.order]
    congr 1
    simp [compare, compareOfLessAndEq]
theorem feq_fOf (n : Int) : (FloatKind.f64.format.order (fOf n) (fOf n) == some .eq) = true := by
  unfold Ieee.Format.order
  rw [order_self (fOf_number n)]
  rfl
theorem feq_zero : (FloatKind.f64.format.order 0 0 == some .eq) = true := by kernel_rfl

set_option maxRecDepth 100000 in
set_option maxHeartbeats 2000000 in
theorem lawBetween (p q : List Int) (u v : Value) (w : World) (hp : RdI w p u) (hq : RdI w q v) : Calls Try.prog 4 #[u, v] w (Ret w fun r _ => r = .bool true) := by
  have h12 := fun W (hW : Ext w W) => between_any p q u v W (RdS.ext hW hp) (RdS.ext hW hq)
  have h13 := fun W (hW : Ext w W) => betweenR_any p q u v W (RdS.ext hW hp) (RdS.ext hW hq)
  obtain ⟨A, c, rfl, _, a1, a2, _⟩ := hp
  obtain ⟨B, d, rfl, _, b1, b2, _⟩ := hq
  unfold maxLen at a2 b2
  have E := Ext.refl w
  rcases Nat.lt_or_ge 200 p.length with hl0 | hl0
  · have d0 : decide ((200 : Int) < (p.length : Int)) = true := decide_eq_true (by omega)
    have d0' : decide (200 < p.length) = true := decide_eq_true hl0
    clear h12 h13
    go_enter Try.func4, Try.ntmps4
    go_wp2_with (first | (go_at_call 11; refine (works_any _).mono ?_; rintro e uwx ⟨r, rfl, rfl, hE⟩; replace E := Ext.trans E hE; clear hE))
    go_ret
    exact ret_bool (by rfl) E
  have d0 : decide ((200 : Int) < (p.length : Int)) = false := decide_eq_false (by omega)
  have d0' : decide (200 < p.length) = false := decide_eq_false (by omega)
  rcases Nat.lt_or_ge 200 q.length with hl1 | hl1
  · have d1 : decide ((200 : Int) < (q.length : Int)) = true := decide_eq_true (by omega)
    have d1' : decide (200 < q.length) = true := decide_eq_true hl1
    clear h12 h13
    go_enter Try.func4, Try.ntmps4
    go_wp2_with (first | (go_at_call 11; refine (works_any _).mono ?_; rintro e uwx ⟨r, rfl, rfl, hE⟩; replace E := Ext.trans E hE; clear hE))
    go_ret
    exact ret_bool (by rfl) E
  have d1 : decide ((200 : Int) < (q.length : Int)) = false := decide_eq_false (by omega)
  have d1' : decide (200 < q.length) = false := decide_eq_false (by omega)
  have hbt : between p q = none ∨ ∃ x y : Int, between p q = some (fOf x, fOf y) := by
    unfold between
    split
    · split
      · split
        · exact .inl rfl
        · exact .inr ⟨_, _, rfl⟩
      · exact .inl rfl
    · exact .inl rfl
  rcases hbt with hb | ⟨x, y, hb⟩
  · rw [hb] at h12 h13
    unfold btwV at h12 h13
    have z := feq_zero
    clear hb
    go_enter Try.func4, Try.ntmps4
    go_wp2_with (first | (go_at_call 12; refine (h12 _ E).mono ?_; clear h12; rintro e ua ⟨r, rfl, rfl, hE⟩; replace E := Ext.trans E hE; clear hE) | (go_at_call 13; refine (h13 _ E).mono ?_; clear h13; rintro e ub ⟨r, rfl, rfl, hE⟩; replace E := Ext.trans E hE; clear hE) | (go_at_call 11; refine (works_any _).mono ?_; rintro e uwx ⟨r, rfl, rfl, hE⟩; replace E := Ext.trans E hE; clear hE))
    go_ret
    exact ret_bool (by rfl) E
  · rw [hb] at h12 h13
    unfold btwV at h12 h13
    have z1 := feq_fOf x
    have z2 := feq_fOf y
    clear hb
    generalize fOf x = fx at *
    generalize fOf y = fy at *
    go_enter Try.func4, Try.ntmps4
    go_wp2_with (first | (go_at_call 12; refine (h12 _ E).mono ?_; clear h12; rintro e ua ⟨r, rfl, rfl, hE⟩; replace E := Ext.trans E hE; clear hE) | (go_at_call 13; refine (h13 _ E).mono ?_; clear h13; rintro e ub ⟨r, rfl, rfl, hE⟩; replace E := Ext.trans E hE; clear hE) | (go_at_call 11; refine (works_any _).mono ?_; rintro e uwx ⟨r, rfl, rfl, hE⟩; replace E := Ext.trans E hE; clear hE))
    go_ret
    exact ret_bool (by rfl) E
end Go.Proofs.Ytbabfeepmaipoaa.Pt
