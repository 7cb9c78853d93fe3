/-
 The law OutlineKnown, which takes nothing, answers true: the examples hold, and the grove at all its paths and places is moved, split, joined and taken back as the document says.
 Conditions: none.
-/
import Derived.Test.YtofcbclokkjfjaaOyBsInts
import Derived.Test.YtofcbclokkjfjaaOuLawKnown
import Derived.WalkKit
namespace Go.Proofs.Ytofcbclokkjfjaa
open Go.Proofs.Ytofcbclokkjfjaa.Wi Go.ChangeShapes Go.WideShapes Go.ChangeAt Go.RowKit

set_option maxRecDepth 100000 in
theorem outlineKnown_lifted (os : Os) (started : os.Started) (H : Type) (enc : TypeId × Value → H) :
  ReturnsInHanded {} Try.checked os 5 .any (Rows.outlineKnownSpec.pre6 enc Try.prog Try.f5 Rows.outlineKnownRow.domain false) (Rows.outlineKnownSpec.post enc Try.prog Try.f5 false true false false) := by
 refine returnsInHanded_of_change (C := Try.checked) own started (by kernel_rfl) Try.func5
  (ChangeSpec.witness6 (enc := enc) (C := Try.checked) false ⟨#[], #[], []⟩ 8 (by kernel_rfl) (by kernel_rfl) (by kernel_rfl) (by kernel_rfl)) ?_
 intro W base args ds gs before hval0 hW _ _
 have hW' := hW
 obtain ⟨p, q, hA0, hV, rfl, hfz, hnd⟩ := hW
 have hA : DataW.TrodAll enc Try.prog W 0 (fun _ => true) true Try.f5.params.toList args.toList ds p := hA0
 rw [Try.params5] at hA
 obtain ⟨rfl, rfl, rfl⟩ := trodAll_none hA
 obtain ⟨rfl, rfl⟩ := trodVars_none hV
 clear hA0 hval0
 refine (lawKnown W).mono fun e W' hr => ?_
 obtain ⟨r, rfl, rfl, hE⟩ := hr
 exact ⟨_, rfl, post_true (bt := 4) laidOut (by rw [Try.params5]; decide +kernel) rfl (by kernel_rfl) Try.underlying4 hW' hE rfl⟩

theorem outlineKnown_proved : Rows.OutlineKnownSaid :=
 OpenClaim.holds_of_wide 5 Try.f5 rfl rfl rfl rfl rfl rfl rfl ⟨rfl, rfl, rfl, rfl, rfl⟩ rfl rfl rfl rfl rfl (by kernel_rfl) Try.func5 (by kernel_rfl)
  (of_decide_eq_true (by kernel_rfl)) (by unfold Func.isWrapper; first | (rw [if_pos (by decide +kernel)]; kernel_rfl) | (rw [if_neg (by decide +kernel)]; exact ⟨rfl, rfl⟩))
  (fun os started H enc _ => outlineKnown_lifted os started H enc)
end Go.Proofs.Ytofcbclokkjfjaa
