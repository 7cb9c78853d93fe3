/- Chapter 17: what of an operation its kind has not. (Printed by gbare.py.) -/
import Derived.Test.YtoplaokimahdiaaWiHas
namespace Go.Proofs.Ytoplaokimahdiaa.Wi
open Go.RowKit Go.Proofs.Ytoplaokimahdiaa.Bw Go.Proofs.Ytoplaokimahdiaa.Bs

theorem rd_lit8 (W : World) (l : List Int) (hl : l.length ≤ maxLen) : RdS (W.alloc (.cells (l.map (Value.int .u8)).toArray 5)) 1 l.length (l.map (Value.int .u8)) (.slice (some ⟨W.heap.size, 0, none⟩) l.length l.length) := by
  refine ⟨_, l.length, rfl, by simp, Nat.le_refl _, hl, fun _ => ⟨_, 0, rfl, fun j u hu => ?_⟩⟩
  rw [(NBox.new W 5 _).cell, Nat.zero_add]
  simpa using hu
theorem has_lit (k : Int) (l : List Int) (r : Bool) (hr : (decide (l.length ≤ 9) && (hasF k l == r)) = true) (O : Nat) (W W' : World) (hW : W.alloc (.cells (l.map (Value.int .u8)).toArray 5) = W') (hO : W.cell? ⟨O, 0, none⟩ = some (.int .u8 k)) :
    Calls Try.prog 99 #[.slice (some ⟨W.heap.size, 0, none⟩) l.length l.length, .pointer (some ⟨O, 0, none⟩)] W' fun e w' => e = .returned (.bool r) ∧ W' = w' := by
  simp only [Bool.and_eq_true, decide_eq_true_eq, beq_iff_eq] at hr
  subst hW
  have := has_any k l _ O _ (rd_lit8 W l (by unfold maxLen; omega)) (((Ext.refl W).alloc _).cell hO)
  rw [hr.2] at this
  exact this
end Go.Proofs.Ytoplaokimahdiaa.Wi
