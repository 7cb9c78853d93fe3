/- Chapter 24: need; ask: what throws an error is caught. -/
import Derived.Test.YtofcbclokkjfjaaOuInts
import Derived.Test.YtofcbclokkjfjaaWiLate
import Derived.WalkKit
namespace Go.Proofs.Ytofcbclokkjfjaa.Wi
open Go.RowKit Go.Proofs.Ytofcbclokkjfjaa.Bw Go.Proofs.Ytofcbclokkjfjaa.Bs

/-- What is thrown: an error's number. -/
def ER (k : Int) : List PanicEntry := [{ v := .iface 32 (.int .i64 k), recovered := false }]
theorem need_yes (k : Int) (w : World) : Calls Try.prog 28 #[.bool true, .int .i64 k] w fun e w' => e = .returned (.tuple #[]) ∧ w = w' := by
  go_enter Try.func28, Try.ntmps28
  go_wp2_with fail
  go_end0
  exact ⟨rfl, rfl⟩
theorem need_no (k : Int) (w : World) : Calls Try.prog 28 #[.bool false, .int .i64 k] w fun e w' => e = .panicked (ER k) ∧ w = w' := by
  go_enter Try.func28, Try.ntmps28
  go_wp2_with fail
  exact ⟨rfl, rfl, rfl⟩
theorem is_errno (k : Int) (W : World) : (Instr.typeAssert (.iface 32 (.int .i64 k)) 20 32 true).run Try.prog W = .ok (.tuple #[.int .i64 k, .bool true]) W := by kernel_rfl
set_option maxRecDepth 100000 in
set_option maxHeartbeats 4000000 in
theorem ask_throw (k : Int) (L E : Nat) (x y : Value) (w : World) (hL : NBox w L 31 #[x]) (hE : NBox w E 32 #[y]) :
    CallsD Try.prog 46 #[.pointer (some ⟨L, 0, none⟩), .pointer (some ⟨E, 0, none⟩)] (.panicking (ER k)) w fun e u' w' => e = .returned (.tuple #[]) ∧ u' = .panicking [{ v := .iface 32 (.int .i64 k), recovered := true }] ∧ w' = (w.setCell ⟨L, 0, none⟩ (.slice none 0 0)).setCell ⟨E, 0, none⟩ (.int .i64 k) := by
  have hLE : L ≠ E := NBox.apart hL hE (by decide)
  have c0 := hL.cell 0
  have z0 := hL.frozen 0
  have F := Fr.setCell w L 0 (.slice none 0 0)
  have hE2 := hE.fr F (fun h => hLE h.symm)
  have c1 := hE2.cell 0
  have z1 := hE2.frozen 0
  have hta := is_errno k
  clear hL hE hE2 F
  refine callsD_of_wpS Try.func46 rfl fun c₀ cs hu => ?_
  unfold ER at hu
  apply wpS_seq
  apply wpS_region
  simp [wpOpsS, go_sem, recoverD, hu, Try.ntmps46, Exit.thenS]
  refine wpS_of_wp ?_
  go_wp2_with fail
  simp [bodyPostS, results, Try.results46]
set_option maxRecDepth 100000 in
set_option maxHeartbeats 4000000 in
theorem ask_idle (L E : Nat) (w : World) :
    CallsD Try.prog 46 #[.pointer (some ⟨L, 0, none⟩), .pointer (some ⟨E, 0, none⟩)] .returning w fun e u' w' => e = .returned (.tuple #[]) ∧ u' = .returning ∧ w' = w := by
  refine callsD_of_wpS Try.func46 rfl fun c₀ cs hu => ?_
  apply wpS_seq
  apply wpS_region
  simp [wpOpsS, go_sem, recoverD, hu, Try.ntmps46, Exit.thenS]
  refine wpS_of_wp ?_
  go_wp2_with fail
  cases c₀
  simp_all [bodyPostS, results, Try.results46]
end Go.Proofs.Ytofcbclokkjfjaa.Wi
