/- Chapter 04: the statement PathTwo. -/
import Derived.Test.YtbabfeepmaipoaaPtCommon
namespace Go.Proofs.Ytbabfeepmaipoaa.Pt
open Go.RowKit Go.Proofs.Ytbabfeepmaipoaa.Bw Go.Proofs.Ytbabfeepmaipoaa.Bs

set_option maxRecDepth 100000 in
set_option maxHeartbeats 4000000 in
theorem lawTwo (p q : List Int) (u v : Value) (w : World) (hp : RdI w p u) (hq : RdI w q v) : Calls Try.prog 5 #[u, v] w (Ret w fun r _ => r = .bool true) := by
  have h14 := fun W (hW : Ext w W) => pathSame_any p q u v W (RdS.ext hW hp) (RdS.ext hW hq)
  have h15 := fun W (hW : Ext w W) => sameR_any p q u v W (RdS.ext hW hp) (RdS.ext hW hq)
  have h16 := fun W (hW : Ext w W) => pathWithin_any p q u v W (RdS.ext hW hp) (RdS.ext hW hq)
  have h17 := fun W (hW : Ext w W) => withinR_any p q u v W (RdS.ext hW hp) (RdS.ext hW hq)
  have h18 := fun W (hW : Ext w W) => pCommon_any p q u v W (RdS.ext hW hp) (RdS.ext hW hq)
  have h19 := fun W (hW : Ext w W) => common_any p q u v W (RdS.ext hW hp) (RdS.ext hW hq)
  have h20 := fun W (hW : Ext w W) => compare_any p q u v W (RdS.ext hW hp) (RdS.ext hW hq)
  have h21 := fun W (hW : Ext w W) => compareR_any p q u v W (RdS.ext hW hp) (RdS.ext hW hq)
  obtain ⟨A, c, rfl, _, a1, a2, _⟩ := hp
  obtain ⟨B, d, rfl, _, b1, b2, _⟩ := hq
  unfold maxLen at a2 b2
  have E := Ext.refl w
  rcases Nat.lt_or_ge 500 p.length with hl0 | hl0
  · have d0 : decide ((500 : Int) < (p.length : Int)) = true := decide_eq_true (by omega)
    have d0' : decide (500 < p.length) = true := decide_eq_true hl0
    clear h14 h15 h16 h17 h18 h19 h20 h21
    go_enter Try.func5, Try.ntmps5
    go_wp2_with (first | (go_at_call 11; refine (works_any _).mono ?_; rintro e uwx ⟨r, rfl, rfl, hE⟩; replace E := Ext.trans E hE; clear hE))
    go_ret
    exact ret_bool (by rfl) E
  have d0 : decide ((500 : Int) < (p.length : Int)) = false := decide_eq_false (by omega)
  have d0' : decide (500 < p.length) = false := decide_eq_false (by omega)
  rcases Nat.lt_or_ge 500 q.length with hl1 | hl1
  · have d1 : decide ((500 : Int) < (q.length : Int)) = true := decide_eq_true (by omega)
    have d1' : decide (500 < q.length) = true := decide_eq_true hl1
    clear h14 h15 h16 h17 h18 h19 h20 h21
    go_enter Try.func5, Try.ntmps5
    go_wp2_with (first | (go_at_call 11; refine (works_any _).mono ?_; rintro e uwx ⟨r, rfl, rfl, hE⟩; replace E := Ext.trans E hE; clear hE))
    go_ret
    exact ret_bool (by rfl) E
  have d1 : decide ((500 : Int) < (q.length : Int)) = false := decide_eq_false (by omega)
  have d1' : decide (500 < q.length) = false := decide_eq_false (by omega)
  generalize decide (p = q) = x1 at *
  generalize within p q = x2 at *
  generalize comm p q = x3 at *
  generalize cmpL p q = x4 at *
  have y1 : (x1 == x1) = true := by simp
  have y2 : (x2 == x2) = true := by simp
  have y3 : ((x3 : Int) == (x3 : Int)) = true := by simp
  have y4 : (x4 == x4) = true := by simp
  go_enter Try.func5, Try.ntmps5
  go_wp2_with (first | (go_at_call 14; refine (h14 _ E).mono ?_; clear h14; rintro e uu14x ⟨r, rfl, rfl, hE⟩; replace E := Ext.trans E hE; clear hE) | (go_at_call 15; refine (h15 _ E).mono ?_; clear h15; rintro e uu15x ⟨r, rfl, rfl, hE⟩; replace E := Ext.trans E hE; clear hE) | (go_at_call 16; refine (h16 _ E).mono ?_; clear h16; rintro e uu16x ⟨r, rfl, rfl, hE⟩; replace E := Ext.trans E hE; clear hE) | (go_at_call 17; refine (h17 _ E).mono ?_; clear h17; rintro e uu17x ⟨r, rfl, rfl, hE⟩; replace E := Ext.trans E hE; clear hE) | (go_at_call 18; refine (h18 _ E).mono ?_; clear h18; rintro e uu18x ⟨r, rfl, rfl, hE⟩; replace E := Ext.trans E hE; clear hE) | (go_at_call 19; refine (h19 _ E).mono ?_; clear h19; rintro e uu19x ⟨r, rfl, rfl, hE⟩; replace E := Ext.trans E hE; clear hE) | (go_at_call 20; refine (h20 _ E).mono ?_; clear h20; rintro e uu20x ⟨r, rfl, rfl, hE⟩; replace E := Ext.trans E hE; clear hE) | (go_at_call 21; refine (h21 _ E).mono ?_; clear h21; rintro e uu21x ⟨r, rfl, rfl, hE⟩; replace E := Ext.trans E hE; clear hE) | (go_at_call 11; refine (works_any _).mono ?_; rintro e uwx ⟨r, rfl, rfl, hE⟩; replace E := Ext.trans E hE; clear hE))
  go_ret
  exact ret_bool (by rfl) E
end Go.Proofs.Ytbabfeepmaipoaa.Pt
