/- Chapter 04: the statement PathOrder. -/
import Derived.Test.YtbabfeepmaipoaaPtOrder
namespace Go.Proofs.Ytbabfeepmaipoaa.Pt
open Go.RowKit Go.Proofs.Ytbabfeepmaipoaa.Bw Go.Proofs.Ytbabfeepmaipoaa.Bs

set_option maxRecDepth 100000 in
set_option maxHeartbeats 4000000 in
theorem lawOrder (p q r : List Int) (u v x : Value) (w : World) (hp : RdI w p u) (hq : RdI w q v) (hr : RdI w r x) : Calls Try.prog 6 #[u, v, x] w (Ret w fun t _ => t = .bool true) := by
  have ha := fun W (hW : Ext w W) => compare_any p q u v W (RdS.ext hW hp) (RdS.ext hW hq)
  have hb := fun W (hW : Ext w W) => compare_any q r v x W (RdS.ext hW hq) (RdS.ext hW hr)
  have hc := fun W (hW : Ext w W) => compare_any p r u x W (RdS.ext hW hp) (RdS.ext hW hr)
  have ha2 := fun W (hW : Ext w W) => compare_any q p v u W (RdS.ext hW hq) (RdS.ext hW hp)
  have hs := fun W (hW : Ext w W) => pathSame_any p q u v W (RdS.ext hW hp) (RdS.ext hW hq)
  have hw1 := fun W (hW : Ext w W) => pathWithin_any p q u v W (RdS.ext hW hp) (RdS.ext hW hq)
  have hw2 := fun W (hW : Ext w W) => pathWithin_any p r u x W (RdS.ext hW hp) (RdS.ext hW hr)
  have hc2 := fun W (hW : Ext w W) => compare_any r p x u W (RdS.ext hW hr) (RdS.ext hW hp)
  have hb2 := fun W (hW : Ext w W) => compare_any r q x v W (RdS.ext hW hr) (RdS.ext hW hq)
  have hw3 := fun W (hW : Ext w W) => pathWithin_any p q u v W (RdS.ext hW hp) (RdS.ext hW hq)
  have hn := fun W (hW : Ext w W) => pCommon_any p q u v W (RdS.ext hW hp) (RdS.ext hW hq)
  obtain ⟨A, c, rfl, _, a1, a2, _⟩ := hp
  obtain ⟨B, d, rfl, _, b1, b2, _⟩ := hq
  obtain ⟨D, f, rfl, _, c1, c2, _⟩ := hr
  unfold maxLen at a2 b2 c2
  have E := Ext.refl w
  rcases Nat.lt_or_ge 300 p.length with hl0 | hl0
  · have d0 : decide ((300 : Int) < (p.length : Int)) = true := decide_eq_true (by omega)
    have d0' : decide (300 < p.length) = true := decide_eq_true hl0
    clear ha hb hc ha2 hs hw1 hw2 hc2 hb2 hw3 hn
    go_enter Try.func6, Try.ntmps6
    go_wp2_with (first | (go_at_call 11; refine (works_any _).mono ?_; rintro e uwx ⟨r, rfl, rfl, hE⟩; replace E := Ext.trans E hE; clear hE))
    go_ret
    exact ret_bool (by rfl) E
  have d0 : decide ((300 : Int) < (p.length : Int)) = false := decide_eq_false (by omega)
  have d0' : decide (300 < p.length) = false := decide_eq_false (by omega)
  rcases Nat.lt_or_ge 300 q.length with hl1 | hl1
  · have d1 : decide ((300 : Int) < (q.length : Int)) = true := decide_eq_true (by omega)
    have d1' : decide (300 < q.length) = true := decide_eq_true hl1
    clear ha hb hc ha2 hs hw1 hw2 hc2 hb2 hw3 hn
    go_enter Try.func6, Try.ntmps6
    go_wp2_with (first | (go_at_call 11; refine (works_any _).mono ?_; rintro e uwx ⟨r, rfl, rfl, hE⟩; replace E := Ext.trans E hE; clear hE))
    go_ret
    exact ret_bool (by rfl) E
  have d1 : decide ((300 : Int) < (q.length : Int)) = false := decide_eq_false (by omega)
  have d1' : decide (300 < q.length) = false := decide_eq_false (by omega)
  rcases Nat.lt_or_ge 300 r.length with hl2 | hl2
  · have d2 : decide ((300 : Int) < (r.length : Int)) = true := decide_eq_true (by omega)
    have d2' : decide (300 < r.length) = true := decide_eq_true hl2
    clear ha hb hc ha2 hs hw1 hw2 hc2 hb2 hw3 hn
    go_enter Try.func6, Try.ntmps6
    go_wp2_with (first | (go_at_call 11; refine (works_any _).mono ?_; rintro e uwx ⟨r, rfl, rfl, hE⟩; replace E := Ext.trans E hE; clear hE))
    go_ret
    exact ret_bool (by rfl) E
  have d2 : decide ((300 : Int) < (r.length : Int)) = false := decide_eq_false (by omega)
  have d2' : decide (300 < r.length) = false := decide_eq_false (by omega)
  have f1 := cmpL_vals p q
  have f2 := cmpL_vals q r
  have f3 := cmpL_vals p r
  have f4 := cmpL_neg p q
  have f5 := cmpL_neg p r
  have f6 := cmpL_neg q r
  have f7 := cmpL_trans p q r
  have f8 := cmpL_within p q
  have f9 := cmpL_ahead p q r
  have f10 : decide (p = q) = (cmpL p q == 0) := by rw [Bool.eq_iff_iff, decide_eq_true_eq, beq_iff_eq, cmpL_zero]
  have f11 : ((comm p q : Int) == (p.length : Int)) = within p q := by rw [← comm_within, Bool.eq_iff_iff, beq_iff_eq, decide_eq_true_eq]; omega
  simp only [f4, f5, f6, f10] at ha2 hc2 hb2 hs f9
  clear f4 f5 f6 f10
  generalize cmpL p q = a at *
  generalize cmpL q r = b at *
  generalize cmpL p r = cc at *
  generalize within p q = w1 at *
  generalize within p r = w2 at *
  generalize comm p q = n at *
  have n1 := f11
  have n2 : (n == p.length) = w1 := by rw [← f11, Bool.eq_iff_iff, beq_iff_eq, beq_iff_eq]; omega
  clear f11
  have HL := Lib.hid (show True from trivial)
  rcases f1 with rfl | rfl | rfl
  · rcases f2 with rfl | rfl | rfl
    · rcases f3 with rfl | rfl | rfl
      · clear f7
        rcases w1 with _ | _
        · clear f8 f9 hw2 hc2 hb2
          go_enter Try.func6, Try.ntmps6
          go_wp2_with (first | (go_at_call 20; refine (ha _ E).mono ?_; clear ha; rintro e uuhax ⟨r, rfl, rfl, hE⟩; replace E := Ext.trans E hE; clear hE) | (go_at_call 20; refine (hb _ E).mono ?_; clear hb; rintro e uuhbx ⟨r, rfl, rfl, hE⟩; replace E := Ext.trans E hE; clear hE) | (go_at_call 20; refine (hc _ E).mono ?_; clear hc; rintro e uuhcx ⟨r, rfl, rfl, hE⟩; replace E := Ext.trans E hE; clear hE) | (go_at_call 20; refine (ha2 _ E).mono ?_; clear ha2; rintro e uuha2x ⟨r, rfl, rfl, hE⟩; replace E := Ext.trans E hE; clear hE) | (go_at_call 14; refine (hs _ E).mono ?_; clear hs; rintro e uuhsx ⟨r, rfl, rfl, hE⟩; replace E := Ext.trans E hE; clear hE) | (go_at_call 16; refine (hw1 _ E).mono ?_; clear hw1; rintro e uuhw1x ⟨r, rfl, rfl, hE⟩; replace E := Ext.trans E hE; clear hE) | (go_at_call 16; refine (hw3 _ E).mono ?_; clear hw3; rintro e uuhw3x ⟨r, rfl, rfl, hE⟩; replace E := Ext.trans E hE; clear hE) | (go_at_call 18; refine (hn _ E).mono ?_; clear hn; rintro e uuhnx ⟨r, rfl, rfl, hE⟩; replace E := Ext.trans E hE; clear hE) | (go_at_call 11; refine (works_any _).mono ?_; rintro e uwx ⟨r, rfl, rfl, hE⟩; replace E := Ext.trans E hE; clear hE))
          go_ret
          exact ret_bool (by rfl) E
        · rcases w2 with _ | _
          · clear f8 f9 hb2
            go_enter Try.func6, Try.ntmps6
            go_wp2_with (first | (go_at_call 20; refine (ha _ E).mono ?_; clear ha; rintro e uuhax ⟨r, rfl, rfl, hE⟩; replace E := Ext.trans E hE; clear hE) | (go_at_call 20; refine (hb _ E).mono ?_; clear hb; rintro e uuhbx ⟨r, rfl, rfl, hE⟩; replace E := Ext.trans E hE; clear hE) | (go_at_call 20; refine (hc _ E).mono ?_; clear hc; rintro e uuhcx ⟨r, rfl, rfl, hE⟩; replace E := Ext.trans E hE; clear hE) | (go_at_call 20; refine (ha2 _ E).mono ?_; clear ha2; rintro e uuha2x ⟨r, rfl, rfl, hE⟩; replace E := Ext.trans E hE; clear hE) | (go_at_call 14; refine (hs _ E).mono ?_; clear hs; rintro e uuhsx ⟨r, rfl, rfl, hE⟩; replace E := Ext.trans E hE; clear hE) | (go_at_call 16; refine (hw1 _ E).mono ?_; clear hw1; rintro e uuhw1x ⟨r, rfl, rfl, hE⟩; replace E := Ext.trans E hE; clear hE) | (go_at_call 16; refine (hw2 _ E).mono ?_; clear hw2; rintro e uuhw2x ⟨r, rfl, rfl, hE⟩; replace E := Ext.trans E hE; clear hE) | (go_at_call 20; refine (hc2 _ E).mono ?_; clear hc2; rintro e uuhc2x ⟨r, rfl, rfl, hE⟩; replace E := Ext.trans E hE; clear hE) | (go_at_call 16; refine (hw3 _ E).mono ?_; clear hw3; rintro e uuhw3x ⟨r, rfl, rfl, hE⟩; replace E := Ext.trans E hE; clear hE) | (go_at_call 18; refine (hn _ E).mono ?_; clear hn; rintro e uuhnx ⟨r, rfl, rfl, hE⟩; replace E := Ext.trans E hE; clear hE) | (go_at_call 11; refine (works_any _).mono ?_; rintro e uwx ⟨r, rfl, rfl, hE⟩; replace E := Ext.trans E hE; clear hE))
            go_ret
            exact ret_bool (by rfl) E
          · clear f8 f9 hc2 hb2
            go_enter Try.func6, Try.ntmps6
            go_wp2_with (first | (go_at_call 20; refine (ha _ E).mono ?_; clear ha; rintro e uuhax ⟨r, rfl, rfl, hE⟩; replace E := Ext.trans E hE; clear hE) | (go_at_call 20; refine (hb _ E).mono ?_; clear hb; rintro e uuhbx ⟨r, rfl, rfl, hE⟩; replace E := Ext.trans E hE; clear hE) | (go_at_call 20; refine (hc _ E).mono ?_; clear hc; rintro e uuhcx ⟨r, rfl, rfl, hE⟩; replace E := Ext.trans E hE; clear hE) | (go_at_call 20; refine (ha2 _ E).mono ?_; clear ha2; rintro e uuha2x ⟨r, rfl, rfl, hE⟩; replace E := Ext.trans E hE; clear hE) | (go_at_call 14; refine (hs _ E).mono ?_; clear hs; rintro e uuhsx ⟨r, rfl, rfl, hE⟩; replace E := Ext.trans E hE; clear hE) | (go_at_call 16; refine (hw1 _ E).mono ?_; clear hw1; rintro e uuhw1x ⟨r, rfl, rfl, hE⟩; replace E := Ext.trans E hE; clear hE) | (go_at_call 16; refine (hw2 _ E).mono ?_; clear hw2; rintro e uuhw2x ⟨r, rfl, rfl, hE⟩; replace E := Ext.trans E hE; clear hE) | (go_at_call 16; refine (hw3 _ E).mono ?_; clear hw3; rintro e uuhw3x ⟨r, rfl, rfl, hE⟩; replace E := Ext.trans E hE; clear hE) | (go_at_call 18; refine (hn _ E).mono ?_; clear hn; rintro e uuhnx ⟨r, rfl, rfl, hE⟩; replace E := Ext.trans E hE; clear hE) | (go_at_call 11; refine (works_any _).mono ?_; rintro e uwx ⟨r, rfl, rfl, hE⟩; replace E := Ext.trans E hE; clear hE))
            go_ret
            exact ret_bool (by rfl) E
      · exact absurd (f7 (by omega) (by omega)) (by omega)
      · exact absurd (f7 (by omega) (by omega)) (by omega)
    · rcases f3 with rfl | rfl | rfl
      · clear f7
        rcases w1 with _ | _
        · clear f8 f9 hw2 hc2 hb2
          go_enter Try.func6, Try.ntmps6
          go_wp2_with (first | (go_at_call 20; refine (ha _ E).mono ?_; clear ha; rintro e uuhax ⟨r, rfl, rfl, hE⟩; replace E := Ext.trans E hE; clear hE) | (go_at_call 20; refine (hb _ E).mono ?_; clear hb; rintro e uuhbx ⟨r, rfl, rfl, hE⟩; replace E := Ext.trans E hE; clear hE) | (go_at_call 20; refine (hc _ E).mono ?_; clear hc; rintro e uuhcx ⟨r, rfl, rfl, hE⟩; replace E := Ext.trans E hE; clear hE) | (go_at_call 20; refine (ha2 _ E).mono ?_; clear ha2; rintro e uuha2x ⟨r, rfl, rfl, hE⟩; replace E := Ext.trans E hE; clear hE) | (go_at_call 14; refine (hs _ E).mono ?_; clear hs; rintro e uuhsx ⟨r, rfl, rfl, hE⟩; replace E := Ext.trans E hE; clear hE) | (go_at_call 16; refine (hw1 _ E).mono ?_; clear hw1; rintro e uuhw1x ⟨r, rfl, rfl, hE⟩; replace E := Ext.trans E hE; clear hE) | (go_at_call 16; refine (hw3 _ E).mono ?_; clear hw3; rintro e uuhw3x ⟨r, rfl, rfl, hE⟩; replace E := Ext.trans E hE; clear hE) | (go_at_call 18; refine (hn _ E).mono ?_; clear hn; rintro e uuhnx ⟨r, rfl, rfl, hE⟩; replace E := Ext.trans E hE; clear hE) | (go_at_call 11; refine (works_any _).mono ?_; rintro e uwx ⟨r, rfl, rfl, hE⟩; replace E := Ext.trans E hE; clear hE))
          go_ret
          exact ret_bool (by rfl) E
        · rcases w2 with _ | _
          · clear f8 f9 hb2
            go_enter Try.func6, Try.ntmps6
            go_wp2_with (first | (go_at_call 20; refine (ha _ E).mono ?_; clear ha; rintro e uuhax ⟨r, rfl, rfl, hE⟩; replace E := Ext.trans E hE; clear hE) | (go_at_call 20; refine (hb _ E).mono ?_; clear hb; rintro e uuhbx ⟨r, rfl, rfl, hE⟩; replace E := Ext.trans E hE; clear hE) | (go_at_call 20; refine (hc _ E).mono ?_; clear hc; rintro e uuhcx ⟨r, rfl, rfl, hE⟩; replace E := Ext.trans E hE; clear hE) | (go_at_call 20; refine (ha2 _ E).mono ?_; clear ha2; rintro e uuha2x ⟨r, rfl, rfl, hE⟩; replace E := Ext.trans E hE; clear hE) | (go_at_call 14; refine (hs _ E).mono ?_; clear hs; rintro e uuhsx ⟨r, rfl, rfl, hE⟩; replace E := Ext.trans E hE; clear hE) | (go_at_call 16; refine (hw1 _ E).mono ?_; clear hw1; rintro e uuhw1x ⟨r, rfl, rfl, hE⟩; replace E := Ext.trans E hE; clear hE) | (go_at_call 16; refine (hw2 _ E).mono ?_; clear hw2; rintro e uuhw2x ⟨r, rfl, rfl, hE⟩; replace E := Ext.trans E hE; clear hE) | (go_at_call 20; refine (hc2 _ E).mono ?_; clear hc2; rintro e uuhc2x ⟨r, rfl, rfl, hE⟩; replace E := Ext.trans E hE; clear hE) | (go_at_call 16; refine (hw3 _ E).mono ?_; clear hw3; rintro e uuhw3x ⟨r, rfl, rfl, hE⟩; replace E := Ext.trans E hE; clear hE) | (go_at_call 18; refine (hn _ E).mono ?_; clear hn; rintro e uuhnx ⟨r, rfl, rfl, hE⟩; replace E := Ext.trans E hE; clear hE) | (go_at_call 11; refine (works_any _).mono ?_; rintro e uwx ⟨r, rfl, rfl, hE⟩; replace E := Ext.trans E hE; clear hE))
            go_ret
            exact ret_bool (by rfl) E
          · clear f8 f9 hc2 hb2
            go_enter Try.func6, Try.ntmps6
            go_wp2_with (first | (go_at_call 20; refine (ha _ E).mono ?_; clear ha; rintro e uuhax ⟨r, rfl, rfl, hE⟩; replace E := Ext.trans E hE; clear hE) | (go_at_call 20; refine (hb _ E).mono ?_; clear hb; rintro e uuhbx ⟨r, rfl, rfl, hE⟩; replace E := Ext.trans E hE; clear hE) | (go_at_call 20; refine (hc _ E).mono ?_; clear hc; rintro e uuhcx ⟨r, rfl, rfl, hE⟩; replace E := Ext.trans E hE; clear hE) | (go_at_call 20; refine (ha2 _ E).mono ?_; clear ha2; rintro e uuha2x ⟨r, rfl, rfl, hE⟩; replace E := Ext.trans E hE; clear hE) | (go_at_call 14; refine (hs _ E).mono ?_; clear hs; rintro e uuhsx ⟨r, rfl, rfl, hE⟩; replace E := Ext.trans E hE; clear hE) | (go_at_call 16; refine (hw1 _ E).mono ?_; clear hw1; rintro e uuhw1x ⟨r, rfl, rfl, hE⟩; replace E := Ext.trans E hE; clear hE) | (go_at_call 16; refine (hw2 _ E).mono ?_; clear hw2; rintro e uuhw2x ⟨r, rfl, rfl, hE⟩; replace E := Ext.trans E hE; clear hE) | (go_at_call 16; refine (hw3 _ E).mono ?_; clear hw3; rintro e uuhw3x ⟨r, rfl, rfl, hE⟩; replace E := Ext.trans E hE; clear hE) | (go_at_call 18; refine (hn _ E).mono ?_; clear hn; rintro e uuhnx ⟨r, rfl, rfl, hE⟩; replace E := Ext.trans E hE; clear hE) | (go_at_call 11; refine (works_any _).mono ?_; rintro e uwx ⟨r, rfl, rfl, hE⟩; replace E := Ext.trans E hE; clear hE))
            go_ret
            exact ret_bool (by rfl) E
      · exact absurd (f7 (by omega) (by omega)) (by omega)
      · exact absurd (f7 (by omega) (by omega)) (by omega)
    · rcases f3 with rfl | rfl | rfl
      · clear f7
        rcases w1 with _ | _
        · clear f8 f9 hw2 hc2 hb2
          go_enter Try.func6, Try.ntmps6
          go_wp2_with (first | (go_at_call 20; refine (ha _ E).mono ?_; clear ha; rintro e uuhax ⟨r, rfl, rfl, hE⟩; replace E := Ext.trans E hE; clear hE) | (go_at_call 20; refine (hb _ E).mono ?_; clear hb; rintro e uuhbx ⟨r, rfl, rfl, hE⟩; replace E := Ext.trans E hE; clear hE) | (go_at_call 20; refine (hc _ E).mono ?_; clear hc; rintro e uuhcx ⟨r, rfl, rfl, hE⟩; replace E := Ext.trans E hE; clear hE) | (go_at_call 20; refine (ha2 _ E).mono ?_; clear ha2; rintro e uuha2x ⟨r, rfl, rfl, hE⟩; replace E := Ext.trans E hE; clear hE) | (go_at_call 14; refine (hs _ E).mono ?_; clear hs; rintro e uuhsx ⟨r, rfl, rfl, hE⟩; replace E := Ext.trans E hE; clear hE) | (go_at_call 16; refine (hw1 _ E).mono ?_; clear hw1; rintro e uuhw1x ⟨r, rfl, rfl, hE⟩; replace E := Ext.trans E hE; clear hE) | (go_at_call 16; refine (hw3 _ E).mono ?_; clear hw3; rintro e uuhw3x ⟨r, rfl, rfl, hE⟩; replace E := Ext.trans E hE; clear hE) | (go_at_call 18; refine (hn _ E).mono ?_; clear hn; rintro e uuhnx ⟨r, rfl, rfl, hE⟩; replace E := Ext.trans E hE; clear hE) | (go_at_call 11; refine (works_any _).mono ?_; rintro e uwx ⟨r, rfl, rfl, hE⟩; replace E := Ext.trans E hE; clear hE))
          go_ret
          exact ret_bool (by rfl) E
        · rcases w2 with _ | _
          · clear f8 f9 hb2
            go_enter Try.func6, Try.ntmps6
            go_wp2_with (first | (go_at_call 20; refine (ha _ E).mono ?_; clear ha; rintro e uuhax ⟨r, rfl, rfl, hE⟩; replace E := Ext.trans E hE; clear hE) | (go_at_call 20; refine (hb _ E).mono ?_; clear hb; rintro e uuhbx ⟨r, rfl, rfl, hE⟩; replace E := Ext.trans E hE; clear hE) | (go_at_call 20; refine (hc _ E).mono ?_; clear hc; rintro e uuhcx ⟨r, rfl, rfl, hE⟩; replace E := Ext.trans E hE; clear hE) | (go_at_call 20; refine (ha2 _ E).mono ?_; clear ha2; rintro e uuha2x ⟨r, rfl, rfl, hE⟩; replace E := Ext.trans E hE; clear hE) | (go_at_call 14; refine (hs _ E).mono ?_; clear hs; rintro e uuhsx ⟨r, rfl, rfl, hE⟩; replace E := Ext.trans E hE; clear hE) | (go_at_call 16; refine (hw1 _ E).mono ?_; clear hw1; rintro e uuhw1x ⟨r, rfl, rfl, hE⟩; replace E := Ext.trans E hE; clear hE) | (go_at_call 16; refine (hw2 _ E).mono ?_; clear hw2; rintro e uuhw2x ⟨r, rfl, rfl, hE⟩; replace E := Ext.trans E hE; clear hE) | (go_at_call 20; refine (hc2 _ E).mono ?_; clear hc2; rintro e uuhc2x ⟨r, rfl, rfl, hE⟩; replace E := Ext.trans E hE; clear hE) | (go_at_call 16; refine (hw3 _ E).mono ?_; clear hw3; rintro e uuhw3x ⟨r, rfl, rfl, hE⟩; replace E := Ext.trans E hE; clear hE) | (go_at_call 18; refine (hn _ E).mono ?_; clear hn; rintro e uuhnx ⟨r, rfl, rfl, hE⟩; replace E := Ext.trans E hE; clear hE) | (go_at_call 11; refine (works_any _).mono ?_; rintro e uwx ⟨r, rfl, rfl, hE⟩; replace E := Ext.trans E hE; clear hE))
            go_ret
            exact ret_bool (by rfl) E
          · clear f8 f9 hc2 hb2
            go_enter Try.func6, Try.ntmps6
            go_wp2_with (first | (go_at_call 20; refine (ha _ E).mono ?_; clear ha; rintro e uuhax ⟨r, rfl, rfl, hE⟩; replace E := Ext.trans E hE; clear hE) | (go_at_call 20; refine (hb _ E).mono ?_; clear hb; rintro e uuhbx ⟨r, rfl, rfl, hE⟩; replace E := Ext.trans E hE; clear hE) | (go_at_call 20; refine (hc _ E).mono ?_; clear hc; rintro e uuhcx ⟨r, rfl, rfl, hE⟩; replace E := Ext.trans E hE; clear hE) | (go_at_call 20; refine (ha2 _ E).mono ?_; clear ha2; rintro e uuha2x ⟨r, rfl, rfl, hE⟩; replace E := Ext.trans E hE; clear hE) | (go_at_call 14; refine (hs _ E).mono ?_; clear hs; rintro e uuhsx ⟨r, rfl, rfl, hE⟩; replace E := Ext.trans E hE; clear hE) | (go_at_call 16; refine (hw1 _ E).mono ?_; clear hw1; rintro e uuhw1x ⟨r, rfl, rfl, hE⟩; replace E := Ext.trans E hE; clear hE) | (go_at_call 16; refine (hw2 _ E).mono ?_; clear hw2; rintro e uuhw2x ⟨r, rfl, rfl, hE⟩; replace E := Ext.trans E hE; clear hE) | (go_at_call 16; refine (hw3 _ E).mono ?_; clear hw3; rintro e uuhw3x ⟨r, rfl, rfl, hE⟩; replace E := Ext.trans E hE; clear hE) | (go_at_call 18; refine (hn _ E).mono ?_; clear hn; rintro e uuhnx ⟨r, rfl, rfl, hE⟩; replace E := Ext.trans E hE; clear hE) | (go_at_call 11; refine (works_any _).mono ?_; rintro e uwx ⟨r, rfl, rfl, hE⟩; replace E := Ext.trans E hE; clear hE))
            go_ret
            exact ret_bool (by rfl) E
      · clear f7
        rcases w1 with _ | _
        · clear f8 f9 hw2 hc2 hb2
          go_enter Try.func6, Try.ntmps6
          go_wp2_with (first | (go_at_call 20; refine (ha _ E).mono ?_; clear ha; rintro e uuhax ⟨r, rfl, rfl, hE⟩; replace E := Ext.trans E hE; clear hE) | (go_at_call 20; refine (hb _ E).mono ?_; clear hb; rintro e uuhbx ⟨r, rfl, rfl, hE⟩; replace E := Ext.trans E hE; clear hE) | (go_at_call 20; refine (hc _ E).mono ?_; clear hc; rintro e uuhcx ⟨r, rfl, rfl, hE⟩; replace E := Ext.trans E hE; clear hE) | (go_at_call 20; refine (ha2 _ E).mono ?_; clear ha2; rintro e uuha2x ⟨r, rfl, rfl, hE⟩; replace E := Ext.trans E hE; clear hE) | (go_at_call 14; refine (hs _ E).mono ?_; clear hs; rintro e uuhsx ⟨r, rfl, rfl, hE⟩; replace E := Ext.trans E hE; clear hE) | (go_at_call 16; refine (hw1 _ E).mono ?_; clear hw1; rintro e uuhw1x ⟨r, rfl, rfl, hE⟩; replace E := Ext.trans E hE; clear hE) | (go_at_call 16; refine (hw3 _ E).mono ?_; clear hw3; rintro e uuhw3x ⟨r, rfl, rfl, hE⟩; replace E := Ext.trans E hE; clear hE) | (go_at_call 18; refine (hn _ E).mono ?_; clear hn; rintro e uuhnx ⟨r, rfl, rfl, hE⟩; replace E := Ext.trans E hE; clear hE) | (go_at_call 11; refine (works_any _).mono ?_; rintro e uwx ⟨r, rfl, rfl, hE⟩; replace E := Ext.trans E hE; clear hE))
          go_ret
          exact ret_bool (by rfl) E
        · rcases w2 with _ | _
          · clear f8 f9 hb2
            go_enter Try.func6, Try.ntmps6
            go_wp2_with (first | (go_at_call 20; refine (ha _ E).mono ?_; clear ha; rintro e uuhax ⟨r, rfl, rfl, hE⟩; replace E := Ext.trans E hE; clear hE) | (go_at_call 20; refine (hb _ E).mono ?_; clear hb; rintro e uuhbx ⟨r, rfl, rfl, hE⟩; replace E := Ext.trans E hE; clear hE) | (go_at_call 20; refine (hc _ E).mono ?_; clear hc; rintro e uuhcx ⟨r, rfl, rfl, hE⟩; replace E := Ext.trans E hE; clear hE) | (go_at_call 20; refine (ha2 _ E).mono ?_; clear ha2; rintro e uuha2x ⟨r, rfl, rfl, hE⟩; replace E := Ext.trans E hE; clear hE) | (go_at_call 14; refine (hs _ E).mono ?_; clear hs; rintro e uuhsx ⟨r, rfl, rfl, hE⟩; replace E := Ext.trans E hE; clear hE) | (go_at_call 16; refine (hw1 _ E).mono ?_; clear hw1; rintro e uuhw1x ⟨r, rfl, rfl, hE⟩; replace E := Ext.trans E hE; clear hE) | (go_at_call 16; refine (hw2 _ E).mono ?_; clear hw2; rintro e uuhw2x ⟨r, rfl, rfl, hE⟩; replace E := Ext.trans E hE; clear hE) | (go_at_call 20; refine (hc2 _ E).mono ?_; clear hc2; rintro e uuhc2x ⟨r, rfl, rfl, hE⟩; replace E := Ext.trans E hE; clear hE) | (go_at_call 16; refine (hw3 _ E).mono ?_; clear hw3; rintro e uuhw3x ⟨r, rfl, rfl, hE⟩; replace E := Ext.trans E hE; clear hE) | (go_at_call 18; refine (hn _ E).mono ?_; clear hn; rintro e uuhnx ⟨r, rfl, rfl, hE⟩; replace E := Ext.trans E hE; clear hE) | (go_at_call 11; refine (works_any _).mono ?_; rintro e uwx ⟨r, rfl, rfl, hE⟩; replace E := Ext.trans E hE; clear hE))
            go_ret
            exact ret_bool (by rfl) E
          · clear f8 f9 hc2 hb2
            go_enter Try.func6, Try.ntmps6
            go_wp2_with (first | (go_at_call 20; refine (ha _ E).mono ?_; clear ha; rintro e uuhax ⟨r, rfl, rfl, hE⟩; replace E := Ext.trans E hE; clear hE) | (go_at_call 20; refine (hb _ E).mono ?_; clear hb; rintro e uuhbx ⟨r, rfl, rfl, hE⟩; replace E := Ext.trans E hE; clear hE) | (go_at_call 20; refine (hc _ E).mono ?_; clear hc; rintro e uuhcx ⟨r, rfl, rfl, hE⟩; replace E := Ext.trans E hE; clear hE) | (go_at_call 20; refine (ha2 _ E).mono ?_; clear ha2; rintro e uuha2x ⟨r, rfl, rfl, hE⟩; replace E := Ext.trans E hE; clear hE) | (go_at_call 14; refine (hs _ E).mono ?_; clear hs; rintro e uuhsx ⟨r, rfl, rfl, hE⟩; replace E := Ext.trans E hE; clear hE) | (go_at_call 16; refine (hw1 _ E).mono ?_; clear hw1; rintro e uuhw1x ⟨r, rfl, rfl, hE⟩; replace E := Ext.trans E hE; clear hE) | (go_at_call 16; refine (hw2 _ E).mono ?_; clear hw2; rintro e uuhw2x ⟨r, rfl, rfl, hE⟩; replace E := Ext.trans E hE; clear hE) | (go_at_call 16; refine (hw3 _ E).mono ?_; clear hw3; rintro e uuhw3x ⟨r, rfl, rfl, hE⟩; replace E := Ext.trans E hE; clear hE) | (go_at_call 18; refine (hn _ E).mono ?_; clear hn; rintro e uuhnx ⟨r, rfl, rfl, hE⟩; replace E := Ext.trans E hE; clear hE) | (go_at_call 11; refine (works_any _).mono ?_; rintro e uwx ⟨r, rfl, rfl, hE⟩; replace E := Ext.trans E hE; clear hE))
            go_ret
            exact ret_bool (by rfl) E
      · clear f7
        rcases w1 with _ | _
        · clear f8 f9 hw2 hc2 hb2
          go_enter Try.func6, Try.ntmps6
          go_wp2_with (first | (go_at_call 20; refine (ha _ E).mono ?_; clear ha; rintro e uuhax ⟨r, rfl, rfl, hE⟩; replace E := Ext.trans E hE; clear hE) | (go_at_call 20; refine (hb _ E).mono ?_; clear hb; rintro e uuhbx ⟨r, rfl, rfl, hE⟩; replace E := Ext.trans E hE; clear hE) | (go_at_call 20; refine (hc _ E).mono ?_; clear hc; rintro e uuhcx ⟨r, rfl, rfl, hE⟩; replace E := Ext.trans E hE; clear hE) | (go_at_call 20; refine (ha2 _ E).mono ?_; clear ha2; rintro e uuha2x ⟨r, rfl, rfl, hE⟩; replace E := Ext.trans E hE; clear hE) | (go_at_call 14; refine (hs _ E).mono ?_; clear hs; rintro e uuhsx ⟨r, rfl, rfl, hE⟩; replace E := Ext.trans E hE; clear hE) | (go_at_call 16; refine (hw1 _ E).mono ?_; clear hw1; rintro e uuhw1x ⟨r, rfl, rfl, hE⟩; replace E := Ext.trans E hE; clear hE) | (go_at_call 16; refine (hw3 _ E).mono ?_; clear hw3; rintro e uuhw3x ⟨r, rfl, rfl, hE⟩; replace E := Ext.trans E hE; clear hE) | (go_at_call 18; refine (hn _ E).mono ?_; clear hn; rintro e uuhnx ⟨r, rfl, rfl, hE⟩; replace E := Ext.trans E hE; clear hE) | (go_at_call 11; refine (works_any _).mono ?_; rintro e uwx ⟨r, rfl, rfl, hE⟩; replace E := Ext.trans E hE; clear hE))
          go_ret
          exact ret_bool (by rfl) E
        · rcases w2 with _ | _
          · clear f8 f9
            go_enter Try.func6, Try.ntmps6
            go_wp2_with (first | (go_at_call 20; refine (ha _ E).mono ?_; clear ha; rintro e uuhax ⟨r, rfl, rfl, hE⟩; replace E := Ext.trans E hE; clear hE) | (go_at_call 20; refine (hb _ E).mono ?_; clear hb; rintro e uuhbx ⟨r, rfl, rfl, hE⟩; replace E := Ext.trans E hE; clear hE) | (go_at_call 20; refine (hc _ E).mono ?_; clear hc; rintro e uuhcx ⟨r, rfl, rfl, hE⟩; replace E := Ext.trans E hE; clear hE) | (go_at_call 20; refine (ha2 _ E).mono ?_; clear ha2; rintro e uuha2x ⟨r, rfl, rfl, hE⟩; replace E := Ext.trans E hE; clear hE) | (go_at_call 14; refine (hs _ E).mono ?_; clear hs; rintro e uuhsx ⟨r, rfl, rfl, hE⟩; replace E := Ext.trans E hE; clear hE) | (go_at_call 16; refine (hw1 _ E).mono ?_; clear hw1; rintro e uuhw1x ⟨r, rfl, rfl, hE⟩; replace E := Ext.trans E hE; clear hE) | (go_at_call 16; refine (hw2 _ E).mono ?_; clear hw2; rintro e uuhw2x ⟨r, rfl, rfl, hE⟩; replace E := Ext.trans E hE; clear hE) | (go_at_call 20; refine (hc2 _ E).mono ?_; clear hc2; rintro e uuhc2x ⟨r, rfl, rfl, hE⟩; replace E := Ext.trans E hE; clear hE) | (go_at_call 20; refine (hb2 _ E).mono ?_; clear hb2; rintro e uuhb2x ⟨r, rfl, rfl, hE⟩; replace E := Ext.trans E hE; clear hE) | (go_at_call 16; refine (hw3 _ E).mono ?_; clear hw3; rintro e uuhw3x ⟨r, rfl, rfl, hE⟩; replace E := Ext.trans E hE; clear hE) | (go_at_call 18; refine (hn _ E).mono ?_; clear hn; rintro e uuhnx ⟨r, rfl, rfl, hE⟩; replace E := Ext.trans E hE; clear hE) | (go_at_call 11; refine (works_any _).mono ?_; rintro e uwx ⟨r, rfl, rfl, hE⟩; replace E := Ext.trans E hE; clear hE))
            go_ret
            exact ret_bool (by rfl) E
          · clear f8 f9 hc2 hb2
            go_enter Try.func6, Try.ntmps6
            go_wp2_with (first | (go_at_call 20; refine (ha _ E).mono ?_; clear ha; rintro e uuhax ⟨r, rfl, rfl, hE⟩; replace E := Ext.trans E hE; clear hE) | (go_at_call 20; refine (hb _ E).mono ?_; clear hb; rintro e uuhbx ⟨r, rfl, rfl, hE⟩; replace E := Ext.trans E hE; clear hE) | (go_at_call 20; refine (hc _ E).mono ?_; clear hc; rintro e uuhcx ⟨r, rfl, rfl, hE⟩; replace E := Ext.trans E hE; clear hE) | (go_at_call 20; refine (ha2 _ E).mono ?_; clear ha2; rintro e uuha2x ⟨r, rfl, rfl, hE⟩; replace E := Ext.trans E hE; clear hE) | (go_at_call 14; refine (hs _ E).mono ?_; clear hs; rintro e uuhsx ⟨r, rfl, rfl, hE⟩; replace E := Ext.trans E hE; clear hE) | (go_at_call 16; refine (hw1 _ E).mono ?_; clear hw1; rintro e uuhw1x ⟨r, rfl, rfl, hE⟩; replace E := Ext.trans E hE; clear hE) | (go_at_call 16; refine (hw2 _ E).mono ?_; clear hw2; rintro e uuhw2x ⟨r, rfl, rfl, hE⟩; replace E := Ext.trans E hE; clear hE) | (go_at_call 16; refine (hw3 _ E).mono ?_; clear hw3; rintro e uuhw3x ⟨r, rfl, rfl, hE⟩; replace E := Ext.trans E hE; clear hE) | (go_at_call 18; refine (hn _ E).mono ?_; clear hn; rintro e uuhnx ⟨r, rfl, rfl, hE⟩; replace E := Ext.trans E hE; clear hE) | (go_at_call 11; refine (works_any _).mono ?_; rintro e uwx ⟨r, rfl, rfl, hE⟩; replace E := Ext.trans E hE; clear hE))
            go_ret
            exact ret_bool (by rfl) E
  · rcases f2 with rfl | rfl | rfl
    · rcases f3 with rfl | rfl | rfl
      · clear f7
        rcases w1 with _ | _
        · clear f8 f9 hw2 hc2 hb2
          go_enter Try.func6, Try.ntmps6
          go_wp2_with (first | (go_at_call 20; refine (ha _ E).mono ?_; clear ha; rintro e uuhax ⟨r, rfl, rfl, hE⟩; replace E := Ext.trans E hE; clear hE) | (go_at_call 20; refine (hb _ E).mono ?_; clear hb; rintro e uuhbx ⟨r, rfl, rfl, hE⟩; replace E := Ext.trans E hE; clear hE) | (go_at_call 20; refine (hc _ E).mono ?_; clear hc; rintro e uuhcx ⟨r, rfl, rfl, hE⟩; replace E := Ext.trans E hE; clear hE) | (go_at_call 20; refine (ha2 _ E).mono ?_; clear ha2; rintro e uuha2x ⟨r, rfl, rfl, hE⟩; replace E := Ext.trans E hE; clear hE) | (go_at_call 14; refine (hs _ E).mono ?_; clear hs; rintro e uuhsx ⟨r, rfl, rfl, hE⟩; replace E := Ext.trans E hE; clear hE) | (go_at_call 16; refine (hw1 _ E).mono ?_; clear hw1; rintro e uuhw1x ⟨r, rfl, rfl, hE⟩; replace E := Ext.trans E hE; clear hE) | (go_at_call 16; refine (hw3 _ E).mono ?_; clear hw3; rintro e uuhw3x ⟨r, rfl, rfl, hE⟩; replace E := Ext.trans E hE; clear hE) | (go_at_call 18; refine (hn _ E).mono ?_; clear hn; rintro e uuhnx ⟨r, rfl, rfl, hE⟩; replace E := Ext.trans E hE; clear hE) | (go_at_call 11; refine (works_any _).mono ?_; rintro e uwx ⟨r, rfl, rfl, hE⟩; replace E := Ext.trans E hE; clear hE))
          go_ret
          exact ret_bool (by rfl) E
        · rcases w2 with _ | _
          · clear f8 f9 hb2
            go_enter Try.func6, Try.ntmps6
            go_wp2_with (first | (go_at_call 20; refine (ha _ E).mono ?_; clear ha; rintro e uuhax ⟨r, rfl, rfl, hE⟩; replace E := Ext.trans E hE; clear hE) | (go_at_call 20; refine (hb _ E).mono ?_; clear hb; rintro e uuhbx ⟨r, rfl, rfl, hE⟩; replace E := Ext.trans E hE; clear hE) | (go_at_call 20; refine (hc _ E).mono ?_; clear hc; rintro e uuhcx ⟨r, rfl, rfl, hE⟩; replace E := Ext.trans E hE; clear hE) | (go_at_call 20; refine (ha2 _ E).mono ?_; clear ha2; rintro e uuha2x ⟨r, rfl, rfl, hE⟩; replace E := Ext.trans E hE; clear hE) | (go_at_call 14; refine (hs _ E).mono ?_; clear hs; rintro e uuhsx ⟨r, rfl, rfl, hE⟩; replace E := Ext.trans E hE; clear hE) | (go_at_call 16; refine (hw1 _ E).mono ?_; clear hw1; rintro e uuhw1x ⟨r, rfl, rfl, hE⟩; replace E := Ext.trans E hE; clear hE) | (go_at_call 16; refine (hw2 _ E).mono ?_; clear hw2; rintro e uuhw2x ⟨r, rfl, rfl, hE⟩; replace E := Ext.trans E hE; clear hE) | (go_at_call 20; refine (hc2 _ E).mono ?_; clear hc2; rintro e uuhc2x ⟨r, rfl, rfl, hE⟩; replace E := Ext.trans E hE; clear hE) | (go_at_call 16; refine (hw3 _ E).mono ?_; clear hw3; rintro e uuhw3x ⟨r, rfl, rfl, hE⟩; replace E := Ext.trans E hE; clear hE) | (go_at_call 18; refine (hn _ E).mono ?_; clear hn; rintro e uuhnx ⟨r, rfl, rfl, hE⟩; replace E := Ext.trans E hE; clear hE) | (go_at_call 11; refine (works_any _).mono ?_; rintro e uwx ⟨r, rfl, rfl, hE⟩; replace E := Ext.trans E hE; clear hE))
            go_ret
            exact ret_bool (by rfl) E
          · clear f8 f9 hc2 hb2
            go_enter Try.func6, Try.ntmps6
            go_wp2_with (first | (go_at_call 20; refine (ha _ E).mono ?_; clear ha; rintro e uuhax ⟨r, rfl, rfl, hE⟩; replace E := Ext.trans E hE; clear hE) | (go_at_call 20; refine (hb _ E).mono ?_; clear hb; rintro e uuhbx ⟨r, rfl, rfl, hE⟩; replace E := Ext.trans E hE; clear hE) | (go_at_call 20; refine (hc _ E).mono ?_; clear hc; rintro e uuhcx ⟨r, rfl, rfl, hE⟩; replace E := Ext.trans E hE; clear hE) | (go_at_call 20; refine (ha2 _ E).mono ?_; clear ha2; rintro e uuha2x ⟨r, rfl, rfl, hE⟩; replace E := Ext.trans E hE; clear hE) | (go_at_call 14; refine (hs _ E).mono ?_; clear hs; rintro e uuhsx ⟨r, rfl, rfl, hE⟩; replace E := Ext.trans E hE; clear hE) | (go_at_call 16; refine (hw1 _ E).mono ?_; clear hw1; rintro e uuhw1x ⟨r, rfl, rfl, hE⟩; replace E := Ext.trans E hE; clear hE) | (go_at_call 16; refine (hw2 _ E).mono ?_; clear hw2; rintro e uuhw2x ⟨r, rfl, rfl, hE⟩; replace E := Ext.trans E hE; clear hE) | (go_at_call 16; refine (hw3 _ E).mono ?_; clear hw3; rintro e uuhw3x ⟨r, rfl, rfl, hE⟩; replace E := Ext.trans E hE; clear hE) | (go_at_call 18; refine (hn _ E).mono ?_; clear hn; rintro e uuhnx ⟨r, rfl, rfl, hE⟩; replace E := Ext.trans E hE; clear hE) | (go_at_call 11; refine (works_any _).mono ?_; rintro e uwx ⟨r, rfl, rfl, hE⟩; replace E := Ext.trans E hE; clear hE))
            go_ret
            exact ret_bool (by rfl) E
      · clear f7
        rcases w1 with _ | _
        · clear f8 f9 hw2 hc2 hb2
          go_enter Try.func6, Try.ntmps6
          go_wp2_with (first | (go_at_call 20; refine (ha _ E).mono ?_; clear ha; rintro e uuhax ⟨r, rfl, rfl, hE⟩; replace E := Ext.trans E hE; clear hE) | (go_at_call 20; refine (hb _ E).mono ?_; clear hb; rintro e uuhbx ⟨r, rfl, rfl, hE⟩; replace E := Ext.trans E hE; clear hE) | (go_at_call 20; refine (hc _ E).mono ?_; clear hc; rintro e uuhcx ⟨r, rfl, rfl, hE⟩; replace E := Ext.trans E hE; clear hE) | (go_at_call 20; refine (ha2 _ E).mono ?_; clear ha2; rintro e uuha2x ⟨r, rfl, rfl, hE⟩; replace E := Ext.trans E hE; clear hE) | (go_at_call 14; refine (hs _ E).mono ?_; clear hs; rintro e uuhsx ⟨r, rfl, rfl, hE⟩; replace E := Ext.trans E hE; clear hE) | (go_at_call 16; refine (hw1 _ E).mono ?_; clear hw1; rintro e uuhw1x ⟨r, rfl, rfl, hE⟩; replace E := Ext.trans E hE; clear hE) | (go_at_call 16; refine (hw3 _ E).mono ?_; clear hw3; rintro e uuhw3x ⟨r, rfl, rfl, hE⟩; replace E := Ext.trans E hE; clear hE) | (go_at_call 18; refine (hn _ E).mono ?_; clear hn; rintro e uuhnx ⟨r, rfl, rfl, hE⟩; replace E := Ext.trans E hE; clear hE) | (go_at_call 11; refine (works_any _).mono ?_; rintro e uwx ⟨r, rfl, rfl, hE⟩; replace E := Ext.trans E hE; clear hE))
          go_ret
          exact ret_bool (by rfl) E
        · rcases w2 with _ | _
          · clear f8 f9 hb2
            go_enter Try.func6, Try.ntmps6
            go_wp2_with (first | (go_at_call 20; refine (ha _ E).mono ?_; clear ha; rintro e uuhax ⟨r, rfl, rfl, hE⟩; replace E := Ext.trans E hE; clear hE) | (go_at_call 20; refine (hb _ E).mono ?_; clear hb; rintro e uuhbx ⟨r, rfl, rfl, hE⟩; replace E := Ext.trans E hE; clear hE) | (go_at_call 20; refine (hc _ E).mono ?_; clear hc; rintro e uuhcx ⟨r, rfl, rfl, hE⟩; replace E := Ext.trans E hE; clear hE) | (go_at_call 20; refine (ha2 _ E).mono ?_; clear ha2; rintro e uuha2x ⟨r, rfl, rfl, hE⟩; replace E := Ext.trans E hE; clear hE) | (go_at_call 14; refine (hs _ E).mono ?_; clear hs; rintro e uuhsx ⟨r, rfl, rfl, hE⟩; replace E := Ext.trans E hE; clear hE) | (go_at_call 16; refine (hw1 _ E).mono ?_; clear hw1; rintro e uuhw1x ⟨r, rfl, rfl, hE⟩; replace E := Ext.trans E hE; clear hE) | (go_at_call 16; refine (hw2 _ E).mono ?_; clear hw2; rintro e uuhw2x ⟨r, rfl, rfl, hE⟩; replace E := Ext.trans E hE; clear hE) | (go_at_call 20; refine (hc2 _ E).mono ?_; clear hc2; rintro e uuhc2x ⟨r, rfl, rfl, hE⟩; replace E := Ext.trans E hE; clear hE) | (go_at_call 16; refine (hw3 _ E).mono ?_; clear hw3; rintro e uuhw3x ⟨r, rfl, rfl, hE⟩; replace E := Ext.trans E hE; clear hE) | (go_at_call 18; refine (hn _ E).mono ?_; clear hn; rintro e uuhnx ⟨r, rfl, rfl, hE⟩; replace E := Ext.trans E hE; clear hE) | (go_at_call 11; refine (works_any _).mono ?_; rintro e uwx ⟨r, rfl, rfl, hE⟩; replace E := Ext.trans E hE; clear hE))
            go_ret
            exact ret_bool (by rfl) E
          · clear f8 f9 hc2 hb2
            go_enter Try.func6, Try.ntmps6
            go_wp2_with (first | (go_at_call 20; refine (ha _ E).mono ?_; clear ha; rintro e uuhax ⟨r, rfl, rfl, hE⟩; replace E := Ext.trans E hE; clear hE) | (go_at_call 20; refine (hb _ E).mono ?_; clear hb; rintro e uuhbx ⟨r, rfl, rfl, hE⟩; replace E := Ext.trans E hE; clear hE) | (go_at_call 20; refine (hc _ E).mono ?_; clear hc; rintro e uuhcx ⟨r, rfl, rfl, hE⟩; replace E := Ext.trans E hE; clear hE) | (go_at_call 20; refine (ha2 _ E).mono ?_; clear ha2; rintro e uuha2x ⟨r, rfl, rfl, hE⟩; replace E := Ext.trans E hE; clear hE) | (go_at_call 14; refine (hs _ E).mono ?_; clear hs; rintro e uuhsx ⟨r, rfl, rfl, hE⟩; replace E := Ext.trans E hE; clear hE) | (go_at_call 16; refine (hw1 _ E).mono ?_; clear hw1; rintro e uuhw1x ⟨r, rfl, rfl, hE⟩; replace E := Ext.trans E hE; clear hE) | (go_at_call 16; refine (hw2 _ E).mono ?_; clear hw2; rintro e uuhw2x ⟨r, rfl, rfl, hE⟩; replace E := Ext.trans E hE; clear hE) | (go_at_call 16; refine (hw3 _ E).mono ?_; clear hw3; rintro e uuhw3x ⟨r, rfl, rfl, hE⟩; replace E := Ext.trans E hE; clear hE) | (go_at_call 18; refine (hn _ E).mono ?_; clear hn; rintro e uuhnx ⟨r, rfl, rfl, hE⟩; replace E := Ext.trans E hE; clear hE) | (go_at_call 11; refine (works_any _).mono ?_; rintro e uwx ⟨r, rfl, rfl, hE⟩; replace E := Ext.trans E hE; clear hE))
            go_ret
            exact ret_bool (by rfl) E
      · exact absurd (f7 (by omega) (by omega)) (by omega)
    · rcases f3 with rfl | rfl | rfl
      · clear f7
        rcases w1 with _ | _
        · clear f8 f9 hw2 hc2 hb2
          go_enter Try.func6, Try.ntmps6
          go_wp2_with (first | (go_at_call 20; refine (ha _ E).mono ?_; clear ha; rintro e uuhax ⟨r, rfl, rfl, hE⟩; replace E := Ext.trans E hE; clear hE) | (go_at_call 20; refine (hb _ E).mono ?_; clear hb; rintro e uuhbx ⟨r, rfl, rfl, hE⟩; replace E := Ext.trans E hE; clear hE) | (go_at_call 20; refine (hc _ E).mono ?_; clear hc; rintro e uuhcx ⟨r, rfl, rfl, hE⟩; replace E := Ext.trans E hE; clear hE) | (go_at_call 20; refine (ha2 _ E).mono ?_; clear ha2; rintro e uuha2x ⟨r, rfl, rfl, hE⟩; replace E := Ext.trans E hE; clear hE) | (go_at_call 14; refine (hs _ E).mono ?_; clear hs; rintro e uuhsx ⟨r, rfl, rfl, hE⟩; replace E := Ext.trans E hE; clear hE) | (go_at_call 16; refine (hw1 _ E).mono ?_; clear hw1; rintro e uuhw1x ⟨r, rfl, rfl, hE⟩; replace E := Ext.trans E hE; clear hE) | (go_at_call 16; refine (hw3 _ E).mono ?_; clear hw3; rintro e uuhw3x ⟨r, rfl, rfl, hE⟩; replace E := Ext.trans E hE; clear hE) | (go_at_call 18; refine (hn _ E).mono ?_; clear hn; rintro e uuhnx ⟨r, rfl, rfl, hE⟩; replace E := Ext.trans E hE; clear hE) | (go_at_call 11; refine (works_any _).mono ?_; rintro e uwx ⟨r, rfl, rfl, hE⟩; replace E := Ext.trans E hE; clear hE))
          go_ret
          exact ret_bool (by rfl) E
        · rcases w2 with _ | _
          · clear f8 f9 hb2
            go_enter Try.func6, Try.ntmps6
            go_wp2_with (first | (go_at_call 20; refine (ha _ E).mono ?_; clear ha; rintro e uuhax ⟨r, rfl, rfl, hE⟩; replace E := Ext.trans E hE; clear hE) | (go_at_call 20; refine (hb _ E).mono ?_; clear hb; rintro e uuhbx ⟨r, rfl, rfl, hE⟩; replace E := Ext.trans E hE; clear hE) | (go_at_call 20; refine (hc _ E).mono ?_; clear hc; rintro e uuhcx ⟨r, rfl, rfl, hE⟩; replace E := Ext.trans E hE; clear hE) | (go_at_call 20; refine (ha2 _ E).mono ?_; clear ha2; rintro e uuha2x ⟨r, rfl, rfl, hE⟩; replace E := Ext.trans E hE; clear hE) | (go_at_call 14; refine (hs _ E).mono ?_; clear hs; rintro e uuhsx ⟨r, rfl, rfl, hE⟩; replace E := Ext.trans E hE; clear hE) | (go_at_call 16; refine (hw1 _ E).mono ?_; clear hw1; rintro e uuhw1x ⟨r, rfl, rfl, hE⟩; replace E := Ext.trans E hE; clear hE) | (go_at_call 16; refine (hw2 _ E).mono ?_; clear hw2; rintro e uuhw2x ⟨r, rfl, rfl, hE⟩; replace E := Ext.trans E hE; clear hE) | (go_at_call 20; refine (hc2 _ E).mono ?_; clear hc2; rintro e uuhc2x ⟨r, rfl, rfl, hE⟩; replace E := Ext.trans E hE; clear hE) | (go_at_call 16; refine (hw3 _ E).mono ?_; clear hw3; rintro e uuhw3x ⟨r, rfl, rfl, hE⟩; replace E := Ext.trans E hE; clear hE) | (go_at_call 18; refine (hn _ E).mono ?_; clear hn; rintro e uuhnx ⟨r, rfl, rfl, hE⟩; replace E := Ext.trans E hE; clear hE) | (go_at_call 11; refine (works_any _).mono ?_; rintro e uwx ⟨r, rfl, rfl, hE⟩; replace E := Ext.trans E hE; clear hE))
            go_ret
            exact ret_bool (by rfl) E
          · clear f8 f9 hc2 hb2
            go_enter Try.func6, Try.ntmps6
            go_wp2_with (first | (go_at_call 20; refine (ha _ E).mono ?_; clear ha; rintro e uuhax ⟨r, rfl, rfl, hE⟩; replace E := Ext.trans E hE; clear hE) | (go_at_call 20; refine (hb _ E).mono ?_; clear hb; rintro e uuhbx ⟨r, rfl, rfl, hE⟩; replace E := Ext.trans E hE; clear hE) | (go_at_call 20; refine (hc _ E).mono ?_; clear hc; rintro e uuhcx ⟨r, rfl, rfl, hE⟩; replace E := Ext.trans E hE; clear hE) | (go_at_call 20; refine (ha2 _ E).mono ?_; clear ha2; rintro e uuha2x ⟨r, rfl, rfl, hE⟩; replace E := Ext.trans E hE; clear hE) | (go_at_call 14; refine (hs _ E).mono ?_; clear hs; rintro e uuhsx ⟨r, rfl, rfl, hE⟩; replace E := Ext.trans E hE; clear hE) | (go_at_call 16; refine (hw1 _ E).mono ?_; clear hw1; rintro e uuhw1x ⟨r, rfl, rfl, hE⟩; replace E := Ext.trans E hE; clear hE) | (go_at_call 16; refine (hw2 _ E).mono ?_; clear hw2; rintro e uuhw2x ⟨r, rfl, rfl, hE⟩; replace E := Ext.trans E hE; clear hE) | (go_at_call 16; refine (hw3 _ E).mono ?_; clear hw3; rintro e uuhw3x ⟨r, rfl, rfl, hE⟩; replace E := Ext.trans E hE; clear hE) | (go_at_call 18; refine (hn _ E).mono ?_; clear hn; rintro e uuhnx ⟨r, rfl, rfl, hE⟩; replace E := Ext.trans E hE; clear hE) | (go_at_call 11; refine (works_any _).mono ?_; rintro e uwx ⟨r, rfl, rfl, hE⟩; replace E := Ext.trans E hE; clear hE))
            go_ret
            exact ret_bool (by rfl) E
      · clear f7
        rcases w1 with _ | _
        · clear f8 f9 hw2 hc2 hb2
          go_enter Try.func6, Try.ntmps6
          go_wp2_with (first | (go_at_call 20; refine (ha _ E).mono ?_; clear ha; rintro e uuhax ⟨r, rfl, rfl, hE⟩; replace E := Ext.trans E hE; clear hE) | (go_at_call 20; refine (hb _ E).mono ?_; clear hb; rintro e uuhbx ⟨r, rfl, rfl, hE⟩; replace E := Ext.trans E hE; clear hE) | (go_at_call 20; refine (hc _ E).mono ?_; clear hc; rintro e uuhcx ⟨r, rfl, rfl, hE⟩; replace E := Ext.trans E hE; clear hE) | (go_at_call 20; refine (ha2 _ E).mono ?_; clear ha2; rintro e uuha2x ⟨r, rfl, rfl, hE⟩; replace E := Ext.trans E hE; clear hE) | (go_at_call 14; refine (hs _ E).mono ?_; clear hs; rintro e uuhsx ⟨r, rfl, rfl, hE⟩; replace E := Ext.trans E hE; clear hE) | (go_at_call 16; refine (hw1 _ E).mono ?_; clear hw1; rintro e uuhw1x ⟨r, rfl, rfl, hE⟩; replace E := Ext.trans E hE; clear hE) | (go_at_call 16; refine (hw3 _ E).mono ?_; clear hw3; rintro e uuhw3x ⟨r, rfl, rfl, hE⟩; replace E := Ext.trans E hE; clear hE) | (go_at_call 18; refine (hn _ E).mono ?_; clear hn; rintro e uuhnx ⟨r, rfl, rfl, hE⟩; replace E := Ext.trans E hE; clear hE) | (go_at_call 11; refine (works_any _).mono ?_; rintro e uwx ⟨r, rfl, rfl, hE⟩; replace E := Ext.trans E hE; clear hE))
          go_ret
          exact ret_bool (by rfl) E
        · rcases w2 with _ | _
          · clear f8 f9 hb2
            go_enter Try.func6, Try.ntmps6
            go_wp2_with (first | (go_at_call 20; refine (ha _ E).mono ?_; clear ha; rintro e uuhax ⟨r, rfl, rfl, hE⟩; replace E := Ext.trans E hE; clear hE) | (go_at_call 20; refine (hb _ E).mono ?_; clear hb; rintro e uuhbx ⟨r, rfl, rfl, hE⟩; replace E := Ext.trans E hE; clear hE) | (go_at_call 20; refine (hc _ E).mono ?_; clear hc; rintro e uuhcx ⟨r, rfl, rfl, hE⟩; replace E := Ext.trans E hE; clear hE) | (go_at_call 20; refine (ha2 _ E).mono ?_; clear ha2; rintro e uuha2x ⟨r, rfl, rfl, hE⟩; replace E := Ext.trans E hE; clear hE) | (go_at_call 14; refine (hs _ E).mono ?_; clear hs; rintro e uuhsx ⟨r, rfl, rfl, hE⟩; replace E := Ext.trans E hE; clear hE) | (go_at_call 16; refine (hw1 _ E).mono ?_; clear hw1; rintro e uuhw1x ⟨r, rfl, rfl, hE⟩; replace E := Ext.trans E hE; clear hE) | (go_at_call 16; refine (hw2 _ E).mono ?_; clear hw2; rintro e uuhw2x ⟨r, rfl, rfl, hE⟩; replace E := Ext.trans E hE; clear hE) | (go_at_call 20; refine (hc2 _ E).mono ?_; clear hc2; rintro e uuhc2x ⟨r, rfl, rfl, hE⟩; replace E := Ext.trans E hE; clear hE) | (go_at_call 16; refine (hw3 _ E).mono ?_; clear hw3; rintro e uuhw3x ⟨r, rfl, rfl, hE⟩; replace E := Ext.trans E hE; clear hE) | (go_at_call 18; refine (hn _ E).mono ?_; clear hn; rintro e uuhnx ⟨r, rfl, rfl, hE⟩; replace E := Ext.trans E hE; clear hE) | (go_at_call 11; refine (works_any _).mono ?_; rintro e uwx ⟨r, rfl, rfl, hE⟩; replace E := Ext.trans E hE; clear hE))
            go_ret
            exact ret_bool (by rfl) E
          · clear f8 f9 hc2 hb2
            go_enter Try.func6, Try.ntmps6
            go_wp2_with (first | (go_at_call 20; refine (ha _ E).mono ?_; clear ha; rintro e uuhax ⟨r, rfl, rfl, hE⟩; replace E := Ext.trans E hE; clear hE) | (go_at_call 20; refine (hb _ E).mono ?_; clear hb; rintro e uuhbx ⟨r, rfl, rfl, hE⟩; replace E := Ext.trans E hE; clear hE) | (go_at_call 20; refine (hc _ E).mono ?_; clear hc; rintro e uuhcx ⟨r, rfl, rfl, hE⟩; replace E := Ext.trans E hE; clear hE) | (go_at_call 20; refine (ha2 _ E).mono ?_; clear ha2; rintro e uuha2x ⟨r, rfl, rfl, hE⟩; replace E := Ext.trans E hE; clear hE) | (go_at_call 14; refine (hs _ E).mono ?_; clear hs; rintro e uuhsx ⟨r, rfl, rfl, hE⟩; replace E := Ext.trans E hE; clear hE) | (go_at_call 16; refine (hw1 _ E).mono ?_; clear hw1; rintro e uuhw1x ⟨r, rfl, rfl, hE⟩; replace E := Ext.trans E hE; clear hE) | (go_at_call 16; refine (hw2 _ E).mono ?_; clear hw2; rintro e uuhw2x ⟨r, rfl, rfl, hE⟩; replace E := Ext.trans E hE; clear hE) | (go_at_call 16; refine (hw3 _ E).mono ?_; clear hw3; rintro e uuhw3x ⟨r, rfl, rfl, hE⟩; replace E := Ext.trans E hE; clear hE) | (go_at_call 18; refine (hn _ E).mono ?_; clear hn; rintro e uuhnx ⟨r, rfl, rfl, hE⟩; replace E := Ext.trans E hE; clear hE) | (go_at_call 11; refine (works_any _).mono ?_; rintro e uwx ⟨r, rfl, rfl, hE⟩; replace E := Ext.trans E hE; clear hE))
            go_ret
            exact ret_bool (by rfl) E
      · exact absurd (f7 (by omega) (by omega)) (by omega)
    · rcases f3 with rfl | rfl | rfl
      · clear f7
        rcases w1 with _ | _
        · clear f8 f9 hw2 hc2 hb2
          go_enter Try.func6, Try.ntmps6
          go_wp2_with (first | (go_at_call 20; refine (ha _ E).mono ?_; clear ha; rintro e uuhax ⟨r, rfl, rfl, hE⟩; replace E := Ext.trans E hE; clear hE) | (go_at_call 20; refine (hb _ E).mono ?_; clear hb; rintro e uuhbx ⟨r, rfl, rfl, hE⟩; replace E := Ext.trans E hE; clear hE) | (go_at_call 20; refine (hc _ E).mono ?_; clear hc; rintro e uuhcx ⟨r, rfl, rfl, hE⟩; replace E := Ext.trans E hE; clear hE) | (go_at_call 20; refine (ha2 _ E).mono ?_; clear ha2; rintro e uuha2x ⟨r, rfl, rfl, hE⟩; replace E := Ext.trans E hE; clear hE) | (go_at_call 14; refine (hs _ E).mono ?_; clear hs; rintro e uuhsx ⟨r, rfl, rfl, hE⟩; replace E := Ext.trans E hE; clear hE) | (go_at_call 16; refine (hw1 _ E).mono ?_; clear hw1; rintro e uuhw1x ⟨r, rfl, rfl, hE⟩; replace E := Ext.trans E hE; clear hE) | (go_at_call 16; refine (hw3 _ E).mono ?_; clear hw3; rintro e uuhw3x ⟨r, rfl, rfl, hE⟩; replace E := Ext.trans E hE; clear hE) | (go_at_call 18; refine (hn _ E).mono ?_; clear hn; rintro e uuhnx ⟨r, rfl, rfl, hE⟩; replace E := Ext.trans E hE; clear hE) | (go_at_call 11; refine (works_any _).mono ?_; rintro e uwx ⟨r, rfl, rfl, hE⟩; replace E := Ext.trans E hE; clear hE))
          go_ret
          exact ret_bool (by rfl) E
        · rcases w2 with _ | _
          · clear f8 f9 hb2
            go_enter Try.func6, Try.ntmps6
            go_wp2_with (first | (go_at_call 20; refine (ha _ E).mono ?_; clear ha; rintro e uuhax ⟨r, rfl, rfl, hE⟩; replace E := Ext.trans E hE; clear hE) | (go_at_call 20; refine (hb _ E).mono ?_; clear hb; rintro e uuhbx ⟨r, rfl, rfl, hE⟩; replace E := Ext.trans E hE; clear hE) | (go_at_call 20; refine (hc _ E).mono ?_; clear hc; rintro e uuhcx ⟨r, rfl, rfl, hE⟩; replace E := Ext.trans E hE; clear hE) | (go_at_call 20; refine (ha2 _ E).mono ?_; clear ha2; rintro e uuha2x ⟨r, rfl, rfl, hE⟩; replace E := Ext.trans E hE; clear hE) | (go_at_call 14; refine (hs _ E).mono ?_; clear hs; rintro e uuhsx ⟨r, rfl, rfl, hE⟩; replace E := Ext.trans E hE; clear hE) | (go_at_call 16; refine (hw1 _ E).mono ?_; clear hw1; rintro e uuhw1x ⟨r, rfl, rfl, hE⟩; replace E := Ext.trans E hE; clear hE) | (go_at_call 16; refine (hw2 _ E).mono ?_; clear hw2; rintro e uuhw2x ⟨r, rfl, rfl, hE⟩; replace E := Ext.trans E hE; clear hE) | (go_at_call 20; refine (hc2 _ E).mono ?_; clear hc2; rintro e uuhc2x ⟨r, rfl, rfl, hE⟩; replace E := Ext.trans E hE; clear hE) | (go_at_call 16; refine (hw3 _ E).mono ?_; clear hw3; rintro e uuhw3x ⟨r, rfl, rfl, hE⟩; replace E := Ext.trans E hE; clear hE) | (go_at_call 18; refine (hn _ E).mono ?_; clear hn; rintro e uuhnx ⟨r, rfl, rfl, hE⟩; replace E := Ext.trans E hE; clear hE) | (go_at_call 11; refine (works_any _).mono ?_; rintro e uwx ⟨r, rfl, rfl, hE⟩; replace E := Ext.trans E hE; clear hE))
            go_ret
            exact ret_bool (by rfl) E
          · clear f8 f9 hc2 hb2
            go_enter Try.func6, Try.ntmps6
            go_wp2_with (first | (go_at_call 20; refine (ha _ E).mono ?_; clear ha; rintro e uuhax ⟨r, rfl, rfl, hE⟩; replace E := Ext.trans E hE; clear hE) | (go_at_call 20; refine (hb _ E).mono ?_; clear hb; rintro e uuhbx ⟨r, rfl, rfl, hE⟩; replace E := Ext.trans E hE; clear hE) | (go_at_call 20; refine (hc _ E).mono ?_; clear hc; rintro e uuhcx ⟨r, rfl, rfl, hE⟩; replace E := Ext.trans E hE; clear hE) | (go_at_call 20; refine (ha2 _ E).mono ?_; clear ha2; rintro e uuha2x ⟨r, rfl, rfl, hE⟩; replace E := Ext.trans E hE; clear hE) | (go_at_call 14; refine (hs _ E).mono ?_; clear hs; rintro e uuhsx ⟨r, rfl, rfl, hE⟩; replace E := Ext.trans E hE; clear hE) | (go_at_call 16; refine (hw1 _ E).mono ?_; clear hw1; rintro e uuhw1x ⟨r, rfl, rfl, hE⟩; replace E := Ext.trans E hE; clear hE) | (go_at_call 16; refine (hw2 _ E).mono ?_; clear hw2; rintro e uuhw2x ⟨r, rfl, rfl, hE⟩; replace E := Ext.trans E hE; clear hE) | (go_at_call 16; refine (hw3 _ E).mono ?_; clear hw3; rintro e uuhw3x ⟨r, rfl, rfl, hE⟩; replace E := Ext.trans E hE; clear hE) | (go_at_call 18; refine (hn _ E).mono ?_; clear hn; rintro e uuhnx ⟨r, rfl, rfl, hE⟩; replace E := Ext.trans E hE; clear hE) | (go_at_call 11; refine (works_any _).mono ?_; rintro e uwx ⟨r, rfl, rfl, hE⟩; replace E := Ext.trans E hE; clear hE))
            go_ret
            exact ret_bool (by rfl) E
      · clear f7
        rcases w1 with _ | _
        · clear f8 f9 hw2 hc2 hb2
          go_enter Try.func6, Try.ntmps6
          go_wp2_with (first | (go_at_call 20; refine (ha _ E).mono ?_; clear ha; rintro e uuhax ⟨r, rfl, rfl, hE⟩; replace E := Ext.trans E hE; clear hE) | (go_at_call 20; refine (hb _ E).mono ?_; clear hb; rintro e uuhbx ⟨r, rfl, rfl, hE⟩; replace E := Ext.trans E hE; clear hE) | (go_at_call 20; refine (hc _ E).mono ?_; clear hc; rintro e uuhcx ⟨r, rfl, rfl, hE⟩; replace E := Ext.trans E hE; clear hE) | (go_at_call 20; refine (ha2 _ E).mono ?_; clear ha2; rintro e uuha2x ⟨r, rfl, rfl, hE⟩; replace E := Ext.trans E hE; clear hE) | (go_at_call 14; refine (hs _ E).mono ?_; clear hs; rintro e uuhsx ⟨r, rfl, rfl, hE⟩; replace E := Ext.trans E hE; clear hE) | (go_at_call 16; refine (hw1 _ E).mono ?_; clear hw1; rintro e uuhw1x ⟨r, rfl, rfl, hE⟩; replace E := Ext.trans E hE; clear hE) | (go_at_call 16; refine (hw3 _ E).mono ?_; clear hw3; rintro e uuhw3x ⟨r, rfl, rfl, hE⟩; replace E := Ext.trans E hE; clear hE) | (go_at_call 18; refine (hn _ E).mono ?_; clear hn; rintro e uuhnx ⟨r, rfl, rfl, hE⟩; replace E := Ext.trans E hE; clear hE) | (go_at_call 11; refine (works_any _).mono ?_; rintro e uwx ⟨r, rfl, rfl, hE⟩; replace E := Ext.trans E hE; clear hE))
          go_ret
          exact ret_bool (by rfl) E
        · rcases w2 with _ | _
          · clear f8 f9 hb2
            go_enter Try.func6, Try.ntmps6
            go_wp2_with (first | (go_at_call 20; refine (ha _ E).mono ?_; clear ha; rintro e uuhax ⟨r, rfl, rfl, hE⟩; replace E := Ext.trans E hE; clear hE) | (go_at_call 20; refine (hb _ E).mono ?_; clear hb; rintro e uuhbx ⟨r, rfl, rfl, hE⟩; replace E := Ext.trans E hE; clear hE) | (go_at_call 20; refine (hc _ E).mono ?_; clear hc; rintro e uuhcx ⟨r, rfl, rfl, hE⟩; replace E := Ext.trans E hE; clear hE) | (go_at_call 20; refine (ha2 _ E).mono ?_; clear ha2; rintro e uuha2x ⟨r, rfl, rfl, hE⟩; replace E := Ext.trans E hE; clear hE) | (go_at_call 14; refine (hs _ E).mono ?_; clear hs; rintro e uuhsx ⟨r, rfl, rfl, hE⟩; replace E := Ext.trans E hE; clear hE) | (go_at_call 16; refine (hw1 _ E).mono ?_; clear hw1; rintro e uuhw1x ⟨r, rfl, rfl, hE⟩; replace E := Ext.trans E hE; clear hE) | (go_at_call 16; refine (hw2 _ E).mono ?_; clear hw2; rintro e uuhw2x ⟨r, rfl, rfl, hE⟩; replace E := Ext.trans E hE; clear hE) | (go_at_call 20; refine (hc2 _ E).mono ?_; clear hc2; rintro e uuhc2x ⟨r, rfl, rfl, hE⟩; replace E := Ext.trans E hE; clear hE) | (go_at_call 16; refine (hw3 _ E).mono ?_; clear hw3; rintro e uuhw3x ⟨r, rfl, rfl, hE⟩; replace E := Ext.trans E hE; clear hE) | (go_at_call 18; refine (hn _ E).mono ?_; clear hn; rintro e uuhnx ⟨r, rfl, rfl, hE⟩; replace E := Ext.trans E hE; clear hE) | (go_at_call 11; refine (works_any _).mono ?_; rintro e uwx ⟨r, rfl, rfl, hE⟩; replace E := Ext.trans E hE; clear hE))
            go_ret
            exact ret_bool (by rfl) E
          · clear f8 f9 hc2 hb2
            go_enter Try.func6, Try.ntmps6
            go_wp2_with (first | (go_at_call 20; refine (ha _ E).mono ?_; clear ha; rintro e uuhax ⟨r, rfl, rfl, hE⟩; replace E := Ext.trans E hE; clear hE) | (go_at_call 20; refine (hb _ E).mono ?_; clear hb; rintro e uuhbx ⟨r, rfl, rfl, hE⟩; replace E := Ext.trans E hE; clear hE) | (go_at_call 20; refine (hc _ E).mono ?_; clear hc; rintro e uuhcx ⟨r, rfl, rfl, hE⟩; replace E := Ext.trans E hE; clear hE) | (go_at_call 20; refine (ha2 _ E).mono ?_; clear ha2; rintro e uuha2x ⟨r, rfl, rfl, hE⟩; replace E := Ext.trans E hE; clear hE) | (go_at_call 14; refine (hs _ E).mono ?_; clear hs; rintro e uuhsx ⟨r, rfl, rfl, hE⟩; replace E := Ext.trans E hE; clear hE) | (go_at_call 16; refine (hw1 _ E).mono ?_; clear hw1; rintro e uuhw1x ⟨r, rfl, rfl, hE⟩; replace E := Ext.trans E hE; clear hE) | (go_at_call 16; refine (hw2 _ E).mono ?_; clear hw2; rintro e uuhw2x ⟨r, rfl, rfl, hE⟩; replace E := Ext.trans E hE; clear hE) | (go_at_call 16; refine (hw3 _ E).mono ?_; clear hw3; rintro e uuhw3x ⟨r, rfl, rfl, hE⟩; replace E := Ext.trans E hE; clear hE) | (go_at_call 18; refine (hn _ E).mono ?_; clear hn; rintro e uuhnx ⟨r, rfl, rfl, hE⟩; replace E := Ext.trans E hE; clear hE) | (go_at_call 11; refine (works_any _).mono ?_; rintro e uwx ⟨r, rfl, rfl, hE⟩; replace E := Ext.trans E hE; clear hE))
            go_ret
            exact ret_bool (by rfl) E
      · clear f7
        rcases w1 with _ | _
        · clear f8 f9 hw2 hc2 hb2
          go_enter Try.func6, Try.ntmps6
          go_wp2_with (first | (go_at_call 20; refine (ha _ E).mono ?_; clear ha; rintro e uuhax ⟨r, rfl, rfl, hE⟩; replace E := Ext.trans E hE; clear hE) | (go_at_call 20; refine (hb _ E).mono ?_; clear hb; rintro e uuhbx ⟨r, rfl, rfl, hE⟩; replace E := Ext.trans E hE; clear hE) | (go_at_call 20; refine (hc _ E).mono ?_; clear hc; rintro e uuhcx ⟨r, rfl, rfl, hE⟩; replace E := Ext.trans E hE; clear hE) | (go_at_call 20; refine (ha2 _ E).mono ?_; clear ha2; rintro e uuha2x ⟨r, rfl, rfl, hE⟩; replace E := Ext.trans E hE; clear hE) | (go_at_call 14; refine (hs _ E).mono ?_; clear hs; rintro e uuhsx ⟨r, rfl, rfl, hE⟩; replace E := Ext.trans E hE; clear hE) | (go_at_call 16; refine (hw1 _ E).mono ?_; clear hw1; rintro e uuhw1x ⟨r, rfl, rfl, hE⟩; replace E := Ext.trans E hE; clear hE) | (go_at_call 16; refine (hw3 _ E).mono ?_; clear hw3; rintro e uuhw3x ⟨r, rfl, rfl, hE⟩; replace E := Ext.trans E hE; clear hE) | (go_at_call 18; refine (hn _ E).mono ?_; clear hn; rintro e uuhnx ⟨r, rfl, rfl, hE⟩; replace E := Ext.trans E hE; clear hE) | (go_at_call 11; refine (works_any _).mono ?_; rintro e uwx ⟨r, rfl, rfl, hE⟩; replace E := Ext.trans E hE; clear hE))
          go_ret
          exact ret_bool (by rfl) E
        · rcases w2 with _ | _
          · clear f8 f9
            go_enter Try.func6, Try.ntmps6
            go_wp2_with (first | (go_at_call 20; refine (ha _ E).mono ?_; clear ha; rintro e uuhax ⟨r, rfl, rfl, hE⟩; replace E := Ext.trans E hE; clear hE) | (go_at_call 20; refine (hb _ E).mono ?_; clear hb; rintro e uuhbx ⟨r, rfl, rfl, hE⟩; replace E := Ext.trans E hE; clear hE) | (go_at_call 20; refine (hc _ E).mono ?_; clear hc; rintro e uuhcx ⟨r, rfl, rfl, hE⟩; replace E := Ext.trans E hE; clear hE) | (go_at_call 20; refine (ha2 _ E).mono ?_; clear ha2; rintro e uuha2x ⟨r, rfl, rfl, hE⟩; replace E := Ext.trans E hE; clear hE) | (go_at_call 14; refine (hs _ E).mono ?_; clear hs; rintro e uuhsx ⟨r, rfl, rfl, hE⟩; replace E := Ext.trans E hE; clear hE) | (go_at_call 16; refine (hw1 _ E).mono ?_; clear hw1; rintro e uuhw1x ⟨r, rfl, rfl, hE⟩; replace E := Ext.trans E hE; clear hE) | (go_at_call 16; refine (hw2 _ E).mono ?_; clear hw2; rintro e uuhw2x ⟨r, rfl, rfl, hE⟩; replace E := Ext.trans E hE; clear hE) | (go_at_call 20; refine (hc2 _ E).mono ?_; clear hc2; rintro e uuhc2x ⟨r, rfl, rfl, hE⟩; replace E := Ext.trans E hE; clear hE) | (go_at_call 20; refine (hb2 _ E).mono ?_; clear hb2; rintro e uuhb2x ⟨r, rfl, rfl, hE⟩; replace E := Ext.trans E hE; clear hE) | (go_at_call 16; refine (hw3 _ E).mono ?_; clear hw3; rintro e uuhw3x ⟨r, rfl, rfl, hE⟩; replace E := Ext.trans E hE; clear hE) | (go_at_call 18; refine (hn _ E).mono ?_; clear hn; rintro e uuhnx ⟨r, rfl, rfl, hE⟩; replace E := Ext.trans E hE; clear hE) | (go_at_call 11; refine (works_any _).mono ?_; rintro e uwx ⟨r, rfl, rfl, hE⟩; replace E := Ext.trans E hE; clear hE))
            go_ret
            exact ret_bool (by rfl) E
          · clear f8 f9 hc2 hb2
            go_enter Try.func6, Try.ntmps6
            go_wp2_with (first | (go_at_call 20; refine (ha _ E).mono ?_; clear ha; rintro e uuhax ⟨r, rfl, rfl, hE⟩; replace E := Ext.trans E hE; clear hE) | (go_at_call 20; refine (hb _ E).mono ?_; clear hb; rintro e uuhbx ⟨r, rfl, rfl, hE⟩; replace E := Ext.trans E hE; clear hE) | (go_at_call 20; refine (hc _ E).mono ?_; clear hc; rintro e uuhcx ⟨r, rfl, rfl, hE⟩; replace E := Ext.trans E hE; clear hE) | (go_at_call 20; refine (ha2 _ E).mono ?_; clear ha2; rintro e uuha2x ⟨r, rfl, rfl, hE⟩; replace E := Ext.trans E hE; clear hE) | (go_at_call 14; refine (hs _ E).mono ?_; clear hs; rintro e uuhsx ⟨r, rfl, rfl, hE⟩; replace E := Ext.trans E hE; clear hE) | (go_at_call 16; refine (hw1 _ E).mono ?_; clear hw1; rintro e uuhw1x ⟨r, rfl, rfl, hE⟩; replace E := Ext.trans E hE; clear hE) | (go_at_call 16; refine (hw2 _ E).mono ?_; clear hw2; rintro e uuhw2x ⟨r, rfl, rfl, hE⟩; replace E := Ext.trans E hE; clear hE) | (go_at_call 16; refine (hw3 _ E).mono ?_; clear hw3; rintro e uuhw3x ⟨r, rfl, rfl, hE⟩; replace E := Ext.trans E hE; clear hE) | (go_at_call 18; refine (hn _ E).mono ?_; clear hn; rintro e uuhnx ⟨r, rfl, rfl, hE⟩; replace E := Ext.trans E hE; clear hE) | (go_at_call 11; refine (works_any _).mono ?_; rintro e uwx ⟨r, rfl, rfl, hE⟩; replace E := Ext.trans E hE; clear hE))
            go_ret
            exact ret_bool (by rfl) E
  · rcases f2 with rfl | rfl | rfl
    · rcases f3 with rfl | rfl | rfl
      · clear f7
        obtain rfl : w1 = false := by cases w1 with | false => rfl | true => exact absurd (f8 rfl) (by omega)
        clear f8 f9 hw2 hc2 hb2
        go_enter Try.func6, Try.ntmps6
        go_wp2_with (first | (go_at_call 20; refine (ha _ E).mono ?_; clear ha; rintro e uuhax ⟨r, rfl, rfl, hE⟩; replace E := Ext.trans E hE; clear hE) | (go_at_call 20; refine (hb _ E).mono ?_; clear hb; rintro e uuhbx ⟨r, rfl, rfl, hE⟩; replace E := Ext.trans E hE; clear hE) | (go_at_call 20; refine (hc _ E).mono ?_; clear hc; rintro e uuhcx ⟨r, rfl, rfl, hE⟩; replace E := Ext.trans E hE; clear hE) | (go_at_call 20; refine (ha2 _ E).mono ?_; clear ha2; rintro e uuha2x ⟨r, rfl, rfl, hE⟩; replace E := Ext.trans E hE; clear hE) | (go_at_call 14; refine (hs _ E).mono ?_; clear hs; rintro e uuhsx ⟨r, rfl, rfl, hE⟩; replace E := Ext.trans E hE; clear hE) | (go_at_call 16; refine (hw1 _ E).mono ?_; clear hw1; rintro e uuhw1x ⟨r, rfl, rfl, hE⟩; replace E := Ext.trans E hE; clear hE) | (go_at_call 16; refine (hw3 _ E).mono ?_; clear hw3; rintro e uuhw3x ⟨r, rfl, rfl, hE⟩; replace E := Ext.trans E hE; clear hE) | (go_at_call 18; refine (hn _ E).mono ?_; clear hn; rintro e uuhnx ⟨r, rfl, rfl, hE⟩; replace E := Ext.trans E hE; clear hE) | (go_at_call 11; refine (works_any _).mono ?_; rintro e uwx ⟨r, rfl, rfl, hE⟩; replace E := Ext.trans E hE; clear hE))
        go_ret
        exact ret_bool (by rfl) E
      · clear f7
        obtain rfl : w1 = false := by cases w1 with | false => rfl | true => exact absurd (f8 rfl) (by omega)
        clear f8 f9 hw2 hc2 hb2
        go_enter Try.func6, Try.ntmps6
        go_wp2_with (first | (go_at_call 20; refine (ha _ E).mono ?_; clear ha; rintro e uuhax ⟨r, rfl, rfl, hE⟩; replace E := Ext.trans E hE; clear hE) | (go_at_call 20; refine (hb _ E).mono ?_; clear hb; rintro e uuhbx ⟨r, rfl, rfl, hE⟩; replace E := Ext.trans E hE; clear hE) | (go_at_call 20; refine (hc _ E).mono ?_; clear hc; rintro e uuhcx ⟨r, rfl, rfl, hE⟩; replace E := Ext.trans E hE; clear hE) | (go_at_call 20; refine (ha2 _ E).mono ?_; clear ha2; rintro e uuha2x ⟨r, rfl, rfl, hE⟩; replace E := Ext.trans E hE; clear hE) | (go_at_call 14; refine (hs _ E).mono ?_; clear hs; rintro e uuhsx ⟨r, rfl, rfl, hE⟩; replace E := Ext.trans E hE; clear hE) | (go_at_call 16; refine (hw1 _ E).mono ?_; clear hw1; rintro e uuhw1x ⟨r, rfl, rfl, hE⟩; replace E := Ext.trans E hE; clear hE) | (go_at_call 16; refine (hw3 _ E).mono ?_; clear hw3; rintro e uuhw3x ⟨r, rfl, rfl, hE⟩; replace E := Ext.trans E hE; clear hE) | (go_at_call 18; refine (hn _ E).mono ?_; clear hn; rintro e uuhnx ⟨r, rfl, rfl, hE⟩; replace E := Ext.trans E hE; clear hE) | (go_at_call 11; refine (works_any _).mono ?_; rintro e uwx ⟨r, rfl, rfl, hE⟩; replace E := Ext.trans E hE; clear hE))
        go_ret
        exact ret_bool (by rfl) E
      · clear f7
        obtain rfl : w1 = false := by cases w1 with | false => rfl | true => exact absurd (f8 rfl) (by omega)
        clear f8 f9 hw2 hc2 hb2
        go_enter Try.func6, Try.ntmps6
        go_wp2_with (first | (go_at_call 20; refine (ha _ E).mono ?_; clear ha; rintro e uuhax ⟨r, rfl, rfl, hE⟩; replace E := Ext.trans E hE; clear hE) | (go_at_call 20; refine (hb _ E).mono ?_; clear hb; rintro e uuhbx ⟨r, rfl, rfl, hE⟩; replace E := Ext.trans E hE; clear hE) | (go_at_call 20; refine (hc _ E).mono ?_; clear hc; rintro e uuhcx ⟨r, rfl, rfl, hE⟩; replace E := Ext.trans E hE; clear hE) | (go_at_call 20; refine (ha2 _ E).mono ?_; clear ha2; rintro e uuha2x ⟨r, rfl, rfl, hE⟩; replace E := Ext.trans E hE; clear hE) | (go_at_call 14; refine (hs _ E).mono ?_; clear hs; rintro e uuhsx ⟨r, rfl, rfl, hE⟩; replace E := Ext.trans E hE; clear hE) | (go_at_call 16; refine (hw1 _ E).mono ?_; clear hw1; rintro e uuhw1x ⟨r, rfl, rfl, hE⟩; replace E := Ext.trans E hE; clear hE) | (go_at_call 16; refine (hw3 _ E).mono ?_; clear hw3; rintro e uuhw3x ⟨r, rfl, rfl, hE⟩; replace E := Ext.trans E hE; clear hE) | (go_at_call 18; refine (hn _ E).mono ?_; clear hn; rintro e uuhnx ⟨r, rfl, rfl, hE⟩; replace E := Ext.trans E hE; clear hE) | (go_at_call 11; refine (works_any _).mono ?_; rintro e uwx ⟨r, rfl, rfl, hE⟩; replace E := Ext.trans E hE; clear hE))
        go_ret
        exact ret_bool (by rfl) E
    · rcases f3 with rfl | rfl | rfl
      · clear f7
        obtain rfl : w1 = false := by cases w1 with | false => rfl | true => exact absurd (f8 rfl) (by omega)
        clear f8 f9 hw2 hc2 hb2
        go_enter Try.func6, Try.ntmps6
        go_wp2_with (first | (go_at_call 20; refine (ha _ E).mono ?_; clear ha; rintro e uuhax ⟨r, rfl, rfl, hE⟩; replace E := Ext.trans E hE; clear hE) | (go_at_call 20; refine (hb _ E).mono ?_; clear hb; rintro e uuhbx ⟨r, rfl, rfl, hE⟩; replace E := Ext.trans E hE; clear hE) | (go_at_call 20; refine (hc _ E).mono ?_; clear hc; rintro e uuhcx ⟨r, rfl, rfl, hE⟩; replace E := Ext.trans E hE; clear hE) | (go_at_call 20; refine (ha2 _ E).mono ?_; clear ha2; rintro e uuha2x ⟨r, rfl, rfl, hE⟩; replace E := Ext.trans E hE; clear hE) | (go_at_call 14; refine (hs _ E).mono ?_; clear hs; rintro e uuhsx ⟨r, rfl, rfl, hE⟩; replace E := Ext.trans E hE; clear hE) | (go_at_call 16; refine (hw1 _ E).mono ?_; clear hw1; rintro e uuhw1x ⟨r, rfl, rfl, hE⟩; replace E := Ext.trans E hE; clear hE) | (go_at_call 16; refine (hw3 _ E).mono ?_; clear hw3; rintro e uuhw3x ⟨r, rfl, rfl, hE⟩; replace E := Ext.trans E hE; clear hE) | (go_at_call 18; refine (hn _ E).mono ?_; clear hn; rintro e uuhnx ⟨r, rfl, rfl, hE⟩; replace E := Ext.trans E hE; clear hE) | (go_at_call 11; refine (works_any _).mono ?_; rintro e uwx ⟨r, rfl, rfl, hE⟩; replace E := Ext.trans E hE; clear hE))
        go_ret
        exact ret_bool (by rfl) E
      · clear f7
        obtain rfl : w1 = false := by cases w1 with | false => rfl | true => exact absurd (f8 rfl) (by omega)
        clear f8 f9 hw2 hc2 hb2
        go_enter Try.func6, Try.ntmps6
        go_wp2_with (first | (go_at_call 20; refine (ha _ E).mono ?_; clear ha; rintro e uuhax ⟨r, rfl, rfl, hE⟩; replace E := Ext.trans E hE; clear hE) | (go_at_call 20; refine (hb _ E).mono ?_; clear hb; rintro e uuhbx ⟨r, rfl, rfl, hE⟩; replace E := Ext.trans E hE; clear hE) | (go_at_call 20; refine (hc _ E).mono ?_; clear hc; rintro e uuhcx ⟨r, rfl, rfl, hE⟩; replace E := Ext.trans E hE; clear hE) | (go_at_call 20; refine (ha2 _ E).mono ?_; clear ha2; rintro e uuha2x ⟨r, rfl, rfl, hE⟩; replace E := Ext.trans E hE; clear hE) | (go_at_call 14; refine (hs _ E).mono ?_; clear hs; rintro e uuhsx ⟨r, rfl, rfl, hE⟩; replace E := Ext.trans E hE; clear hE) | (go_at_call 16; refine (hw1 _ E).mono ?_; clear hw1; rintro e uuhw1x ⟨r, rfl, rfl, hE⟩; replace E := Ext.trans E hE; clear hE) | (go_at_call 16; refine (hw3 _ E).mono ?_; clear hw3; rintro e uuhw3x ⟨r, rfl, rfl, hE⟩; replace E := Ext.trans E hE; clear hE) | (go_at_call 18; refine (hn _ E).mono ?_; clear hn; rintro e uuhnx ⟨r, rfl, rfl, hE⟩; replace E := Ext.trans E hE; clear hE) | (go_at_call 11; refine (works_any _).mono ?_; rintro e uwx ⟨r, rfl, rfl, hE⟩; replace E := Ext.trans E hE; clear hE))
        go_ret
        exact ret_bool (by rfl) E
      · clear f7
        obtain rfl : w1 = false := by cases w1 with | false => rfl | true => exact absurd (f8 rfl) (by omega)
        clear f8 f9 hw2 hc2 hb2
        go_enter Try.func6, Try.ntmps6
        go_wp2_with (first | (go_at_call 20; refine (ha _ E).mono ?_; clear ha; rintro e uuhax ⟨r, rfl, rfl, hE⟩; replace E := Ext.trans E hE; clear hE) | (go_at_call 20; refine (hb _ E).mono ?_; clear hb; rintro e uuhbx ⟨r, rfl, rfl, hE⟩; replace E := Ext.trans E hE; clear hE) | (go_at_call 20; refine (hc _ E).mono ?_; clear hc; rintro e uuhcx ⟨r, rfl, rfl, hE⟩; replace E := Ext.trans E hE; clear hE) | (go_at_call 20; refine (ha2 _ E).mono ?_; clear ha2; rintro e uuha2x ⟨r, rfl, rfl, hE⟩; replace E := Ext.trans E hE; clear hE) | (go_at_call 14; refine (hs _ E).mono ?_; clear hs; rintro e uuhsx ⟨r, rfl, rfl, hE⟩; replace E := Ext.trans E hE; clear hE) | (go_at_call 16; refine (hw1 _ E).mono ?_; clear hw1; rintro e uuhw1x ⟨r, rfl, rfl, hE⟩; replace E := Ext.trans E hE; clear hE) | (go_at_call 16; refine (hw3 _ E).mono ?_; clear hw3; rintro e uuhw3x ⟨r, rfl, rfl, hE⟩; replace E := Ext.trans E hE; clear hE) | (go_at_call 18; refine (hn _ E).mono ?_; clear hn; rintro e uuhnx ⟨r, rfl, rfl, hE⟩; replace E := Ext.trans E hE; clear hE) | (go_at_call 11; refine (works_any _).mono ?_; rintro e uwx ⟨r, rfl, rfl, hE⟩; replace E := Ext.trans E hE; clear hE))
        go_ret
        exact ret_bool (by rfl) E
    · rcases f3 with rfl | rfl | rfl
      · clear f7
        obtain rfl : w1 = false := by cases w1 with | false => rfl | true => exact absurd (f8 rfl) (by omega)
        clear f8 f9 hw2 hc2 hb2
        go_enter Try.func6, Try.ntmps6
        go_wp2_with (first | (go_at_call 20; refine (ha _ E).mono ?_; clear ha; rintro e uuhax ⟨r, rfl, rfl, hE⟩; replace E := Ext.trans E hE; clear hE) | (go_at_call 20; refine (hb _ E).mono ?_; clear hb; rintro e uuhbx ⟨r, rfl, rfl, hE⟩; replace E := Ext.trans E hE; clear hE) | (go_at_call 20; refine (hc _ E).mono ?_; clear hc; rintro e uuhcx ⟨r, rfl, rfl, hE⟩; replace E := Ext.trans E hE; clear hE) | (go_at_call 20; refine (ha2 _ E).mono ?_; clear ha2; rintro e uuha2x ⟨r, rfl, rfl, hE⟩; replace E := Ext.trans E hE; clear hE) | (go_at_call 14; refine (hs _ E).mono ?_; clear hs; rintro e uuhsx ⟨r, rfl, rfl, hE⟩; replace E := Ext.trans E hE; clear hE) | (go_at_call 16; refine (hw1 _ E).mono ?_; clear hw1; rintro e uuhw1x ⟨r, rfl, rfl, hE⟩; replace E := Ext.trans E hE; clear hE) | (go_at_call 16; refine (hw3 _ E).mono ?_; clear hw3; rintro e uuhw3x ⟨r, rfl, rfl, hE⟩; replace E := Ext.trans E hE; clear hE) | (go_at_call 18; refine (hn _ E).mono ?_; clear hn; rintro e uuhnx ⟨r, rfl, rfl, hE⟩; replace E := Ext.trans E hE; clear hE) | (go_at_call 11; refine (works_any _).mono ?_; rintro e uwx ⟨r, rfl, rfl, hE⟩; replace E := Ext.trans E hE; clear hE))
        go_ret
        exact ret_bool (by rfl) E
      · clear f7
        obtain rfl : w1 = false := by cases w1 with | false => rfl | true => exact absurd (f8 rfl) (by omega)
        clear f8 f9 hw2 hc2 hb2
        go_enter Try.func6, Try.ntmps6
        go_wp2_with (first | (go_at_call 20; refine (ha _ E).mono ?_; clear ha; rintro e uuhax ⟨r, rfl, rfl, hE⟩; replace E := Ext.trans E hE; clear hE) | (go_at_call 20; refine (hb _ E).mono ?_; clear hb; rintro e uuhbx ⟨r, rfl, rfl, hE⟩; replace E := Ext.trans E hE; clear hE) | (go_at_call 20; refine (hc _ E).mono ?_; clear hc; rintro e uuhcx ⟨r, rfl, rfl, hE⟩; replace E := Ext.trans E hE; clear hE) | (go_at_call 20; refine (ha2 _ E).mono ?_; clear ha2; rintro e uuha2x ⟨r, rfl, rfl, hE⟩; replace E := Ext.trans E hE; clear hE) | (go_at_call 14; refine (hs _ E).mono ?_; clear hs; rintro e uuhsx ⟨r, rfl, rfl, hE⟩; replace E := Ext.trans E hE; clear hE) | (go_at_call 16; refine (hw1 _ E).mono ?_; clear hw1; rintro e uuhw1x ⟨r, rfl, rfl, hE⟩; replace E := Ext.trans E hE; clear hE) | (go_at_call 16; refine (hw3 _ E).mono ?_; clear hw3; rintro e uuhw3x ⟨r, rfl, rfl, hE⟩; replace E := Ext.trans E hE; clear hE) | (go_at_call 18; refine (hn _ E).mono ?_; clear hn; rintro e uuhnx ⟨r, rfl, rfl, hE⟩; replace E := Ext.trans E hE; clear hE) | (go_at_call 11; refine (works_any _).mono ?_; rintro e uwx ⟨r, rfl, rfl, hE⟩; replace E := Ext.trans E hE; clear hE))
        go_ret
        exact ret_bool (by rfl) E
      · clear f7
        obtain rfl : w1 = false := by cases w1 with | false => rfl | true => exact absurd (f8 rfl) (by omega)
        clear f8 f9 hw2 hc2 hb2
        go_enter Try.func6, Try.ntmps6
        go_wp2_with (first | (go_at_call 20; refine (ha _ E).mono ?_; clear ha; rintro e uuhax ⟨r, rfl, rfl, hE⟩; replace E := Ext.trans E hE; clear hE) | (go_at_call 20; refine (hb _ E).mono ?_; clear hb; rintro e uuhbx ⟨r, rfl, rfl, hE⟩; replace E := Ext.trans E hE; clear hE) | (go_at_call 20; refine (hc _ E).mono ?_; clear hc; rintro e uuhcx ⟨r, rfl, rfl, hE⟩; replace E := Ext.trans E hE; clear hE) | (go_at_call 20; refine (ha2 _ E).mono ?_; clear ha2; rintro e uuha2x ⟨r, rfl, rfl, hE⟩; replace E := Ext.trans E hE; clear hE) | (go_at_call 14; refine (hs _ E).mono ?_; clear hs; rintro e uuhsx ⟨r, rfl, rfl, hE⟩; replace E := Ext.trans E hE; clear hE) | (go_at_call 16; refine (hw1 _ E).mono ?_; clear hw1; rintro e uuhw1x ⟨r, rfl, rfl, hE⟩; replace E := Ext.trans E hE; clear hE) | (go_at_call 16; refine (hw3 _ E).mono ?_; clear hw3; rintro e uuhw3x ⟨r, rfl, rfl, hE⟩; replace E := Ext.trans E hE; clear hE) | (go_at_call 18; refine (hn _ E).mono ?_; clear hn; rintro e uuhnx ⟨r, rfl, rfl, hE⟩; replace E := Ext.trans E hE; clear hE) | (go_at_call 11; refine (works_any _).mono ?_; rintro e uwx ⟨r, rfl, rfl, hE⟩; replace E := Ext.trans E hE; clear hE))
        go_ret
        exact ret_bool (by rfl) E
end Go.Proofs.Ytbabfeepmaipoaa.Pt
