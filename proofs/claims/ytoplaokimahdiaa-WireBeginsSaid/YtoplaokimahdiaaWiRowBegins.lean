/-
  For any two lists of operations, two trees and two paths the law WireBegins answers true: of those whose bytes are told, neither is the beginning of the other one's, unless they are the same; and the examples hold.
  Conditions: none; any readable arguments.
-/
import Derived.Test.YtoplaokimahdiaaWiRowKit
import Derived.Test.YtoplaokimahdiaaWiLawBegins
import Derived.WalkKit
namespace Go.Proofs.Ytoplaokimahdiaa
open Go.Proofs.Ytoplaokimahdiaa.Wi Go.ChangeShapes Go.WideShapes Go.ChangeAt Go.RowKit

set_option maxRecDepth 100000 in
theorem wireBegins_lifted (os : Os) (started : os.Started) (H : Type) (enc : TypeId × Value → H) :
    ReturnsInHanded {} Try.checked os 4 .any (Rows.wireBeginsSpec.pre6 enc Try.prog Try.f4 Rows.wireBeginsRow.domain false) (Rows.wireBeginsSpec.post enc Try.prog Try.f4 false true false false) := by
  refine returnsInHanded_of_change (C := Try.checked) own started (by kernel_rfl) Try.func4
    (ChangeSpec.witness6 (enc := enc) (C := Try.checked) false ⟨#[], #[.slice none 0 0, .slice none 0 0, .agg #[.int .u64 0, .bool false, .string ⟨#[]⟩, .slice none 0 0, .string ⟨#[]⟩, .slice none 0 0], .agg #[.int .u64 0, .bool false, .string ⟨#[]⟩, .slice none 0 0, .string ⟨#[]⟩, .slice none 0 0], .slice none 0 0, .slice none 0 0], []⟩ 8 (by kernel_rfl) (by kernel_rfl) (by kernel_rfl) (by kernel_rfl)) ?_
  intro W base args ds gs before hval0 hW _ _
  have hval : ∀ (j : Nat) t v, Try.f4.params[j]? = some t → args[j]? = some v → Value.okWide Try.prog W .any base t v := hval0
  have hW' := hW
  obtain ⟨p, q, hA0, hV, rfl, hfz, hnd⟩ := hW
  have hA : DataW.TrodAll enc Try.prog W 0 (fun _ => true) true Try.f4.params.toList args.toList ds p := hA0
  rw [Try.params4] at hA hval
  obtain ⟨v0, v1, v2, v3, v4, v5, d0, d1, d2, d3, d4, d5, p0, p1, p2, p3, p4, p5, rfl, rfl, rfl, h0, h1, h2, h3, h4, h5⟩ := trodAll_six hA
  obtain ⟨rfl, rfl⟩ := trodVars_none hV
  obtain ⟨l0, hl0⟩ := open_ops (hval 0 22 v0 rfl rfl) h0
  obtain ⟨l1, hl1⟩ := open_ops (hval 1 22 v1 rfl rfl) h1
  obtain ⟨t2, hl2⟩ := open_node (hval 2 32 v2 rfl rfl) h2
  obtain ⟨t3, hl3⟩ := open_node (hval 3 32 v3 rfl rfl) h3
  obtain ⟨q4, hl4⟩ := open_path (hval 4 33 v4 rfl rfl) h4
  obtain ⟨q5, hl5⟩ := open_path (hval 5 33 v5 rfl rfl) h5
  clear hA0 hval0
  refine (lawBegins l0 l1 t2 t3 q4 q5 v0 v1 v2 v3 v4 v5 W hl0 hl1 hl2 hl3 hl4 hl5).mono fun e W' hr => ?_
  obtain ⟨r, rfl, rfl, hE⟩ := hr
  exact ⟨_, rfl, post_true (bt := 4) laidOut (by rw [Try.params4]; decide +kernel) rfl (by kernel_rfl) Try.underlying4 hW' hE rfl⟩

theorem wireBegins_proved : Rows.WireBeginsSaid :=
  OpenClaim.holds_of_wide 4 Try.f4 rfl rfl rfl rfl rfl rfl rfl ⟨rfl, rfl, rfl, rfl, rfl⟩ rfl rfl rfl rfl rfl (by kernel_rfl) Try.func4 (by kernel_rfl)
    (of_decide_eq_true (by kernel_rfl)) (by unfold Func.isWrapper; first | (rw [if_pos (by decide +kernel)]; kernel_rfl) | (rw [if_neg (by decide +kernel)]; exact ⟨rfl, rfl⟩))
    (fun os started H enc _ => wireBegins_lifted os started H enc)
end Go.Proofs.Ytoplaokimahdiaa
