/- Chapter 17: what the document's MayOp needs. -/
import Derived.Test.YtoplaokimahdiaaWiRNum2
import Derived.Test.YtoplaokimahdiaaWiBareAll
import Derived.WalkKit
namespace Go.Proofs.Ytoplaokimahdiaa.Wi
open Go.RowKit Go.Proofs.Ytoplaokimahdiaa.Bw Go.Proofs.Ytoplaokimahdiaa.Bs
theorem pos_len {α : Type} (l : List α) : decide ((0 : Int) < (l.length : Int)) = !((l.length : Int) == 0) := by
  rw [Bool.eq_iff_iff, decide_eq_true_eq, Bool.not_eq_true', beq_eq_false_iff_ne]
  omega
theorem allPc_at {l : List Pc} {i : Nat} {x : Pc} (h : l[i]? = some x) : (l.drop i).all pcOk = (pcOk x && (l.drop (i + 1)).all pcOk) := by
  rw [drop_at h]; rfl
theorem ret_b {w w' : World} {t u : Bool} (h : t = u) (hE : Ext w w') : (∃ r, Ending.returned (.bool t) = .returned r ∧ r = .bool u ∧ Ext w w') := ⟨_, rfl, by rw [h], hE⟩
end Go.Proofs.Ytoplaokimahdiaa.Wi
