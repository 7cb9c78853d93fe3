/- Chapter 04: the statement PathMay. -/
import Derived.Test.YtbabfeepmaipoaaPtWorks
namespace Go.Proofs.Ytbabfeepmaipoaa.Pt
open Go.RowKit Go.Proofs.Ytbabfeepmaipoaa.Bw Go.Proofs.Ytbabfeepmaipoaa.Bs

set_option maxRecDepth 100000 in
set_option maxHeartbeats 2000000 in
theorem lawMay (p : List Int) (v : Value) (w : World) (h : RdI w p v) : Calls Try.prog 3 #[v] w (Ret w fun r _ => r = .bool true) := by
  have hm1 := fun W (hW : Ext w W) => pathMay_any p v W (RdS.ext hW h)
  have hm2 := fun W (hW : Ext w W) => mayR_any p v W (RdS.ext hW h)
  obtain ⟨A, c, rfl, _, a1, a2, _⟩ := h
  unfold maxLen at a2
  have E := Ext.refl w
  rcases Nat.lt_or_ge 500 p.length with hl | hl
  · have d1 : decide ((500 : Int) < (p.length : Int)) = true := decide_eq_true (by omega)
    have d2 : decide (500 < p.length) = true := decide_eq_true hl
    clear hm1 hm2
    go_enter Try.func3, Try.ntmps3
    go_wp2_with fail
    refine (works_any _).mono ?_
    rintro e u ⟨r, rfl, rfl, hE⟩
    go_wp2_with fail
    go_ret
    exact ret_bool (by rfl) hE
  · have d1 : decide ((500 : Int) < (p.length : Int)) = false := decide_eq_false (by omega)
    have d2 : decide (500 < p.length) = false := decide_eq_false (by omega)
    generalize may p = b at *
    have hb : (b == b) = true := by simp
    go_enter Try.func3, Try.ntmps3
    go_wp2_with (first | (go_at_call 9; refine (hm1 _ E).mono ?_; clear hm1; rintro e u ⟨r, rfl, rfl, hE⟩; replace E := Ext.trans E hE; clear hE) | (go_at_call 10; refine (hm2 _ E).mono ?_; clear hm2; rintro e u2 ⟨r, rfl, rfl, hE⟩; replace E := Ext.trans E hE; clear hE))
    refine (works_any _).mono ?_
    rintro e u3 ⟨r, rfl, rfl, hE⟩
    go_wp2_with fail
    go_ret
    exact ret_bool (by rfl) (E.trans hE)
end Go.Proofs.Ytbabfeepmaipoaa.Pt
