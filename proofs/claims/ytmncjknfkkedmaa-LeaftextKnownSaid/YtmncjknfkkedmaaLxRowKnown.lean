/-
  The law LeaftextKnown, which takes nothing, answers true: the examples hold, and all pairs of edits of many kinds, and edits about each bound.
  Conditions: none.
-/
import Derived.Test.YtmncjknfkkedmaaLxRowKit
import Derived.Test.YtmncjknfkkedmaaLxLawKnown
import Derived.WalkKit
namespace Go.Proofs.Ytmncjknfkkedmaa
open Go.Proofs.Ytmncjknfkkedmaa.Lx Go.ChangeShapes Go.WideShapes Go.ChangeAt Go.RowKit

set_option maxRecDepth 100000 in
theorem leaftextKnown_lifted (os : Os) (started : os.Started) (H : Type) (enc : TypeId × Value → H) :
    ReturnsInHanded {} Try.checked os 10 .any (Rows.leaftextKnownSpec.pre6 enc Try.prog Try.f10 Rows.leaftextKnownRow.domain false) (Rows.leaftextKnownSpec.post enc Try.prog Try.f10 false true false false) := by
  refine returnsInHanded_of_change (C := Try.checked) own started (by kernel_rfl) Try.func10
    (ChangeSpec.witness6 (enc := enc) (C := Try.checked) false ⟨#[], #[], []⟩ 8 (by kernel_rfl) (by kernel_rfl) (by kernel_rfl) (by kernel_rfl)) ?_
  intro W base args ds gs before hval0 hW _ _
  have hW' := hW
  obtain ⟨p, q, hA0, hV, rfl, hfz, hnd⟩ := hW
  have hA : DataW.TrodAll enc Try.prog W 0 (fun _ => true) true Try.f10.params.toList args.toList ds p := hA0
  rw [Try.params10] at hA
  obtain ⟨rfl, rfl, rfl⟩ := trodAll_none hA
  obtain ⟨rfl, rfl⟩ := trodVars_none hV
  clear hA0 hval0
  refine (lawKnown W).mono fun e W' hr => ?_
  obtain ⟨r, rfl, rfl, hE⟩ := hr
  exact ⟨_, rfl, post_true (bt := 4) laidOut (by rw [Try.params10]; decide +kernel) rfl (by kernel_rfl) Try.underlying4 hW' hE rfl⟩

theorem leaftextKnown_proved : Rows.LeaftextKnownSaid :=
  OpenClaim.holds_of_wide 10 Try.f10 rfl rfl rfl rfl rfl rfl rfl ⟨rfl, rfl, rfl, rfl, rfl⟩ rfl rfl rfl rfl rfl (by kernel_rfl) Try.func10 (by kernel_rfl)
    (of_decide_eq_true (by kernel_rfl)) (by unfold Func.isWrapper; first | (rw [if_pos (by decide +kernel)]; kernel_rfl) | (rw [if_neg (by decide +kernel)]; exact ⟨rfl, rfl⟩))
    (fun os started H enc _ => leaftextKnown_lifted os started H enc)
end Go.Proofs.Ytmncjknfkkedmaa
