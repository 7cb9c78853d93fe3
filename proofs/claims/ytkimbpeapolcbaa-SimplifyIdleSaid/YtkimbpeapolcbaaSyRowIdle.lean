/-
  For any operation the law SimplifyIdle answers true: Idle tells what the document tells; and the examples hold.
  Conditions: none; any readable arguments.
-/
import Derived.Test.YtkimbpeapolcbaaSyBsPcs
import Derived.Test.YtkimbpeapolcbaaSyLawIdle
import Derived.WalkKit
import Derived.Carry
namespace Go.Proofs.Ytkimbpeapolcbaa
open Go.Proofs.Ytkimbpeapolcbaa.Sy Go.ChangeShapes Go.WideShapes Go.ChangeAt Go.RowKit

set_option maxRecDepth 100000 in
theorem simplifyIdle_lifted (os : Os) (started : os.Started) (H : Type) (enc : TypeId × Value → H) :
    ReturnsInHanded {} Try.checked os 3 .any (Rows.simplifyIdleSpec.pre6 enc Try.prog Try.f3 Rows.simplifyIdleRow.domain false) (Rows.simplifyIdleSpec.post enc Try.prog Try.f3 false true false false) := by
  refine returnsInHanded_of_change (C := Try.checked) own started (by kernel_rfl) Try.func3
    (ChangeSpec.witness6 (enc := enc) (C := Try.checked) false ⟨#[], #[.agg #[.int .u8 0, .slice none 0 0, .int .i64 0, .slice none 0 0, .int .u64 0, .bool false, .string ⟨#[]⟩, .string ⟨#[]⟩, .string ⟨#[]⟩, .bool false, .slice none 0 0]], []⟩ 8 (by kernel_rfl) (by kernel_rfl) (by kernel_rfl) (by kernel_rfl)) ?_
  intro W base args ds gs before hval0 hW _ _
  have hval : ∀ (j : Nat) t v, Try.f3.params[j]? = some t → args[j]? = some v → Value.okWide Try.prog W .any base t v := hval0
  have hW' := hW
  obtain ⟨p, q, hA0, hV, rfl, hfz, hnd⟩ := hW
  have hA : DataW.TrodAll enc Try.prog W 0 (fun _ => true) true Try.f3.params.toList args.toList ds p := hA0
  rw [Try.params3] at hA hval
  obtain ⟨v0, d0, rfl, rfl, h0⟩ := trodAll_one hA
  obtain ⟨rfl, rfl⟩ := trodVars_none hV
  obtain ⟨o0, hl0⟩ := open_op (hval 0 26 v0 rfl rfl) h0
  clear hA0 hval0
  refine (lawIdle o0 v0 W hl0).mono fun e W' hr => ?_
  obtain ⟨r, rfl, rfl, hE⟩ := hr
  exact ⟨_, rfl, post_true (bt := 4) laidOut (by rw [Try.params3]; decide +kernel) rfl (by kernel_rfl) Try.underlying4 hW' hE rfl⟩

theorem simplifyIdle_proved : Rows.SimplifyIdleSaid :=
  OpenClaim.holds_of_wide 3 Try.f3 rfl rfl rfl rfl rfl rfl rfl ⟨rfl, rfl, rfl, rfl, rfl⟩ rfl rfl rfl rfl rfl (by kernel_rfl) Try.func3 (by kernel_rfl)
    (of_decide_eq_true (by kernel_rfl)) (by unfold Func.isWrapper; first | (rw [if_pos (by decide +kernel)]; kernel_rfl) | (rw [if_neg (by decide +kernel)]; exact ⟨rfl, rfl⟩))
    (fun os started H enc _ => simplifyIdle_lifted os started H enc)
end Go.Proofs.Ytkimbpeapolcbaa
