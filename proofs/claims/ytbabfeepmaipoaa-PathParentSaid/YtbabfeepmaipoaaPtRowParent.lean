/-
  For every row of numbers and every number the law PathParent answers true: parent and child are the document's, and the path stays.
  Conditions: none; any readable arguments.
-/
import Derived.Test.YtbabfeepmaipoaaPtRowKit
import Derived.Test.YtbabfeepmaipoaaPtLawParent
import Derived.WalkKit
namespace Go.Proofs.Ytbabfeepmaipoaa
open Go.Proofs.Ytbabfeepmaipoaa.Pt Go.ChangeShapes Go.WideShapes Go.ChangeAt Go.RowKit

set_option maxRecDepth 100000 in
theorem pathParent_lifted (os : Os) (started : os.Started) (H : Type) (enc : TypeId × Value → H) :
    ReturnsInHanded {} Try.checked os 7 .any (Rows.pathParentSpec.pre6 enc Try.prog Try.f7 Rows.pathParentRow.domain false) (Rows.pathParentSpec.post enc Try.prog Try.f7 false true false false) := by
  refine returnsInHanded_of_change (C := Try.checked) own started (by kernel_rfl) Try.func7
    (ChangeSpec.witness6 (enc := enc) (C := Try.checked) false ⟨#[], #[.slice none 0 0, .int .i64 0], []⟩ 8 (by kernel_rfl) (by kernel_rfl) (by kernel_rfl) (by kernel_rfl)) ?_
  intro W base args ds gs before hval0 hW _ _
  have hval : ∀ (j : Nat) t v, Try.f7.params[j]? = some t → args[j]? = some v → Value.okWide Try.prog W .any base t v := hval0
  have hW' := hW
  obtain ⟨p, q, hA0, hV, rfl, hfz, hnd⟩ := hW
  have hA : DataW.TrodAll enc Try.prog W 0 (fun _ => true) true Try.f7.params.toList args.toList ds p := hA0
  rw [Try.params7] at hA hval
  obtain ⟨v0, v1, d0, d1, p0, p1, rfl, rfl, rfl, h0, h1⟩ := trodAll_two hA
  obtain ⟨rfl, rfl⟩ := trodVars_none hV
  obtain ⟨l, hl⟩ := open_path (hval 0 22 v0 rfl rfl) h0
  obtain ⟨k, rfl⟩ := okWide_int Try.underlying3 (hval 1 3 v1 rfl rfl)
  clear hA0 hval0
  refine (lawParent l k v0 W hl).mono fun e W' hr => ?_
  obtain ⟨r, rfl, rfl, hE⟩ := hr
  exact ⟨_, rfl, post_true (bt := 4) laidOut (by rw [Try.params7]; decide +kernel) rfl (by kernel_rfl) Try.underlying4 hW' hE rfl⟩

theorem pathParent_proved : Rows.PathParentSaid :=
  OpenClaim.holds_of_wide 7 Try.f7 rfl rfl rfl rfl rfl rfl rfl ⟨rfl, rfl, rfl, rfl, rfl⟩ rfl rfl rfl rfl rfl (by kernel_rfl) Try.func7 (by kernel_rfl)
    (of_decide_eq_true (by kernel_rfl)) (by unfold Func.isWrapper; first | (rw [if_pos (by decide +kernel)]; kernel_rfl) | (rw [if_neg (by decide +kernel)]; exact ⟨rfl, rfl⟩))
    (fun os started H enc _ => pathParent_lifted os started H enc)
end Go.Proofs.Ytbabfeepmaipoaa
