/-
 For every tree, operation and side the law ShiftBetween answers true: behind an operation that is valid each gap of each node lies between the same children, as shift.Gap tells, and a node that is put stands on the side that it should.
 Conditions: none; any readable arguments.
-/
import Derived.Test.YtdnjkffmgmbfmaaHyNdLong
import Derived.Test.YtdnjkffmgmbfmaaHyLawBet
import Derived.WalkKit
namespace Go.Proofs.Ytdnjkffmgmbfmaa
open Go.Proofs.Ytdnjkffmgmbfmaa.Sy Go.ChangeShapes Go.WideShapes Go.ChangeAt Go.RowKit

set_option maxRecDepth 100000 in
theorem shiftBetween_lifted (os : Os) (started : os.Started) (H : Type) (enc : TypeId × Value → H) :
  ReturnsInHanded {} Try.checked os 6 .any (Rows.shiftBetweenSpec.pre6 enc Try.prog Try.f6 Rows.shiftBetweenRow.domain false) (Rows.shiftBetweenSpec.post enc Try.prog Try.f6 false true false false) := by
 refine returnsInHanded_of_change (C := Try.checked) own started (by kernel_rfl) Try.func6
  (ChangeSpec.witness6 (enc := enc) (C := Try.checked) false ⟨#[], #[.agg #[.int .u64 0, .bool false, .string ⟨#[]⟩, .slice none 0 0, .string ⟨#[]⟩, .slice none 0 0], .agg #[.int .u8 0, .slice none 0 0, .int .i64 0, .slice none 0 0, .int .u64 0, .bool false, .string ⟨#[]⟩, .string ⟨#[]⟩, .string ⟨#[]⟩, .bool false, .slice none 0 0], .bool false], []⟩ 8 (by kernel_rfl) (by kernel_rfl) (by kernel_rfl) (by kernel_rfl)) ?_
 intro W base args ds gs before hval0 hW _ _
 have hval : ∀ (j : Nat) t v, Try.f6.params[j]? = some t → args[j]? = some v → Value.okWide Try.prog W .any base t v := hval0
 have hW' := hW
 obtain ⟨p, q, hA0, hV, rfl, hfz, hnd⟩ := hW
 have hA : DataW.TrodAll enc Try.prog W 0 (fun _ => true) true Try.f6.params.toList args.toList ds p := hA0
 rw [Try.params6] at hA hval
 obtain ⟨v0, v1, v2, d0, d1, d2, p0, p1, p2, rfl, rfl, rfl, h0, h1, h2⟩ := trodAll_three hA
 obtain ⟨rfl, rfl⟩ := trodVars_none hV
 obtain ⟨t, ht⟩ := open_node (hval 0 42 v0 rfl rfl) h0
 obtain ⟨o, ho⟩ := open_op (hval 1 26 v1 rfl rfl) h1
 obtain ⟨b, rfl⟩ := okWide_bool Try.underlying4 (hval 2 4 v2 rfl rfl)
 clear hA0 hval0
 refine (lawBetween t o b v0 v1 W ht ho).mono fun e W' hr => ?_
 obtain ⟨r, rfl, rfl, hE⟩ := hr
 exact ⟨_, rfl, post_true (bt := 4) laidOut (by rw [Try.params6]; decide +kernel) rfl (by kernel_rfl) Try.underlying4 hW' hE rfl⟩

theorem shiftBetween_proved : Rows.ShiftBetweenSaid :=
 OpenClaim.holds_of_wide 6 Try.f6 rfl rfl rfl rfl rfl rfl rfl ⟨rfl, rfl, rfl, rfl, rfl⟩ rfl rfl rfl rfl rfl (by kernel_rfl) Try.func6 (by kernel_rfl)
  (of_decide_eq_true (by kernel_rfl)) (by unfold Func.isWrapper; first | (rw [if_pos (by decide +kernel)]; kernel_rfl) | (rw [if_neg (by decide +kernel)]; exact ⟨rfl, rfl⟩))
  (fun os started H enc _ => shiftBetween_lifted os started H enc)
end Go.Proofs.Ytdnjkffmgmbfmaa
