/-
 For any tree and any list of operations the law SimplifyKeeps answers true: where the list is valid on the tree its List is valid too, and makes the same tree; and the examples hold.
 Conditions: none; any readable arguments.
-/
import Derived.Test.YtkimbpeapolcbaaSyBsFormeda
import Derived.Test.YtkimbpeapolcbaaSyLawKeeps
import Derived.WalkKit
import Derived.Carry
namespace Go.Proofs.Ytkimbpeapolcbaa
open Go.Proofs.Ytkimbpeapolcbaa.Sy Go.ChangeShapes Go.WideShapes Go.ChangeAt Go.RowKit

set_option maxRecDepth 100000 in
theorem simplifyKeeps_lifted (os : Os) (started : os.Started) (H : Type) (enc : TypeId × Value → H) :
  ReturnsInHanded {} Try.checked os 6 .any (Rows.simplifyKeepsSpec.pre6 enc Try.prog Try.f6 Rows.simplifyKeepsRow.domain false) (Rows.simplifyKeepsSpec.post enc Try.prog Try.f6 false true false false) := by
 refine returnsInHanded_of_change (C := Try.checked) own started (by kernel_rfl) Try.func6
  (ChangeSpec.witness6 (enc := enc) (C := Try.checked) false ⟨#[], #[.agg #[.int .u64 0, .bool false, .string ⟨#[]⟩, .slice none 0 0, .string ⟨#[]⟩, .slice none 0 0], .slice none 0 0], []⟩ 8 (by kernel_rfl) (by kernel_rfl) (by kernel_rfl) (by kernel_rfl)) ?_
 intro W base args ds gs before hval0 hW _ _
 have hval : ∀ (j : Nat) t v, Try.f6.params[j]? = some t → args[j]? = some v → Value.okWide Try.prog W .any base t v := hval0
 have hW' := hW
 obtain ⟨p, q, hA0, hV, rfl, hfz, hnd⟩ := hW
 have hA : DataW.TrodAll enc Try.prog W 0 (fun _ => true) true Try.f6.params.toList args.toList ds p := hA0
 rw [Try.params6] at hA hval
 obtain ⟨v0, v1, d0, d1, p0, p1, rfl, rfl, rfl, h0, h1⟩ := trodAll_two hA
 obtain ⟨rfl, rfl⟩ := trodVars_none hV
 obtain ⟨t0, ht0⟩ := open_node (hval 0 42 v0 rfl rfl) h0
 obtain ⟨l1, hl1⟩ := open_ops (hval 1 30 v1 rfl rfl) h1
 clear hA0 hval0
 refine (lawKeeps t0 l1 v0 v1 W ht0 hl1).mono fun e W' hr => ?_
 obtain ⟨r, rfl, rfl, hE⟩ := hr
 exact ⟨_, rfl, post_true (bt := 4) laidOut (by rw [Try.params6]; decide +kernel) rfl (by kernel_rfl) Try.underlying4 hW' hE rfl⟩

theorem simplifyKeeps_proved : Rows.SimplifyKeepsSaid :=
 OpenClaim.holds_of_wide 6 Try.f6 rfl rfl rfl rfl rfl rfl rfl ⟨rfl, rfl, rfl, rfl, rfl⟩ rfl rfl rfl rfl rfl (by kernel_rfl) Try.func6 (by kernel_rfl)
  (of_decide_eq_true (by kernel_rfl)) (by unfold Func.isWrapper; first | (rw [if_pos (by decide +kernel)]; kernel_rfl) | (rw [if_neg (by decide +kernel)]; exact ⟨rfl, rfl⟩))
  (fun os started H enc _ => simplifyKeeps_lifted os started H enc)
end Go.Proofs.Ytkimbpeapolcbaa
