/- Chapter 05: the law LeaftextRight. -/
import Derived.Test.YtmncjknfkkedmaaLxWorks
namespace Go.Proofs.Ytmncjknfkkedmaa.Lx
open Go.RowKit Go.Proofs.Ytmncjknfkkedmaa.Bw Go.Proofs.Ytmncjknfkkedmaa.Bs

set_option maxRecDepth 100000 in
set_option maxHeartbeats 2000000 in
theorem lawRight (l : List Pc) (v : Value) (w : World) (h : RdP w l v) : Calls Try.prog 3 #[v] w (Ret w fun r _ => r = .bool true) := by
  have hc := right_any l v w h
  obtain ⟨A, c, rfl, a1, a2, _⟩ := id h
  unfold maxLen at a2
  rcases Nat.lt_or_ge 5000 l.length with hl | hl
  · have t1 : decide ((5000 : Int) < (l.length : Int)) = true := decide_eq_true (by omega)
    have hk := works_any w
    clear hc
    go_enter Try.func3, Try.ntmps3
    go_wp2_with fail
    refine hk.mono ?_
    clear hk
    rintro e w1 ⟨_, rfl, rfl, E1⟩
    go_wp2_with fail
    go_ret
    exact ⟨_, rfl, rfl, E1⟩
  · have t1 : decide ((5000 : Int) < (l.length : Int)) = false := decide_eq_false (by omega)
    go_enter Try.func3, Try.ntmps3
    go_wp2_with fail
    refine hc.mono ?_
    clear hc
    rintro e w1 ⟨_, rfl, rfl, E1⟩
    have hc := rightR_any l _ w1 (h.ext E1)
    go_wp2_with fail
    refine hc.mono ?_
    clear hc
    rintro e w2 ⟨_, rfl, rfl, hE⟩
    have E2 := E1.trans hE
    have hk := works_any w2
    have t2 : (pcsRight l == pcsRight l) = true := by simp
    go_wp2_with fail
    refine hk.mono ?_
    clear hk
    rintro e w3 ⟨_, rfl, rfl, hE3⟩
    go_wp2_with fail
    go_ret
    exact ⟨_, rfl, rfl, E2.trans hE3⟩
end Go.Proofs.Ytmncjknfkkedmaa.Lx
