/-
  For every path and all bytes the law WirePaths answers true: the path has the bytes that the document says, or none, and the bytes are the path that the document says, or none; and the examples hold.
  Conditions: none; any readable arguments.
-/
import Derived.Test.YtoplaokimahdiaaWiOpenB
import Derived.Test.YtoplaokimahdiaaWiLawPaths
import Derived.WalkKit
namespace Go.Proofs.Ytoplaokimahdiaa
open Go.Proofs.Ytoplaokimahdiaa.Wi Go.ChangeShapes Go.WideShapes Go.ChangeAt Go.RowKit

set_option maxRecDepth 100000 in
theorem wirePaths_lifted (os : Os) (started : os.Started) (H : Type) (enc : TypeId × Value → H) :
    ReturnsInHanded {} Try.checked os 6 .any (Rows.wirePathsSpec.pre6 enc Try.prog Try.f6 Rows.wirePathsRow.domain false) (Rows.wirePathsSpec.post enc Try.prog Try.f6 false true false false) := by
  refine returnsInHanded_of_change (C := Try.checked) own started (by kernel_rfl) Try.func6
    (ChangeSpec.witness6 (enc := enc) (C := Try.checked) false ⟨#[], #[.slice none 0 0, .slice none 0 0], []⟩ 8 (by kernel_rfl) (by kernel_rfl) (by kernel_rfl) (by kernel_rfl)) ?_
  intro W base args ds gs before hval0 hW _ _
  have hval : ∀ (j : Nat) t v, Try.f6.params[j]? = some t → args[j]? = some v → Value.okWide Try.prog W .any base t v := hval0
  have hW' := hW
  obtain ⟨p, q, hA0, hV, rfl, hfz, hnd⟩ := hW
  have hA : DataW.TrodAll enc Try.prog W 0 (fun _ => true) true Try.f6.params.toList args.toList ds p := hA0
  rw [Try.params6] at hA hval
  obtain ⟨v0, v1, d0, d1, p0, p1, rfl, rfl, rfl, h0, h1⟩ := trodAll_two hA
  obtain ⟨rfl, rfl⟩ := trodVars_none hV
  obtain ⟨q0, hl0⟩ := open_path (hval 0 33 v0 rfl rfl) h0
  obtain ⟨b1, hl1⟩ := open_bytes (hval 1 25 v1 rfl rfl) h1
  clear hA0 hval0
  refine (lawPaths q0 b1 v0 v1 W hl0 hl1).mono fun e W' hr => ?_
  obtain ⟨r, rfl, rfl, hE⟩ := hr
  exact ⟨_, rfl, post_true (bt := 4) laidOut (by rw [Try.params6]; decide +kernel) rfl (by kernel_rfl) Try.underlying4 hW' hE rfl⟩

theorem wirePaths_proved : Rows.WirePathsSaid :=
  OpenClaim.holds_of_wide 6 Try.f6 rfl rfl rfl rfl rfl rfl rfl ⟨rfl, rfl, rfl, rfl, rfl⟩ rfl rfl rfl rfl rfl (by kernel_rfl) Try.func6 (by kernel_rfl)
    (of_decide_eq_true (by kernel_rfl)) (by unfold Func.isWrapper; first | (rw [if_pos (by decide +kernel)]; kernel_rfl) | (rw [if_neg (by decide +kernel)]; exact ⟨rfl, rfl⟩))
    (fun os started H enc _ => wirePaths_lifted os started H enc)
end Go.Proofs.Ytoplaokimahdiaa
