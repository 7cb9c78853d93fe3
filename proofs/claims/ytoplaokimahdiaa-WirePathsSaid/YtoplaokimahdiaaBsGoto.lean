/- A goto that jumps forward, out of a loop or not: what stands behind the label is walked where the jump is. -/
import Derived.ScopeJumps
import Derived.WalkMore
namespace Go.Proofs.Ytoplaokimahdiaa.Bs
/-- As Q; by a goto to label l: what stands behind the label, walked on. -/
def fwd (P : Program) (l : Nat) (rest : Code) (Q : Exit → Act → World → Prop) : Exit → Act → World → Prop
  | .goto l', a, w => l' = l ∧ rest.wp P (Exit.noGoto Q) a w
  | .normal, a, w => Q .normal a w
  | .exit i, a, w => Q (.exit i) a w
  | .ret, a, w => Q .ret a w
  | .panic c, a, w => Q (.panic c) a w
  | .outgrown, a, w => Q .outgrown a w
theorem wp_scope_fwd {P : Program} {a : Act} {w : World} {Q : Exit → Act → World → Prop} {c rest : Code} (l : Nat) (hf : findLabel c l = some rest) (h : c.wp P (fwd P l rest Q) a w) : (Code.scope c).wp P Q a w := by
  refine wp_scope_jumps l (fun a w => rest.wp P (Exit.noGoto Q) a w) (fun _ _ => 0) hf (wp_mono h (fun e a w q => ?_)) (fun a w hJ => wp_mono hJ (fun e a w q => ?_))
  · cases e <;> exact q
  · cases e <;> first | exact q | exact q.elim
theorem fwd_ret {P : Program} {l : Nat} {rest : Code} {Q : Exit → Act → World → Prop} {a : Act} {w : World} : fwd P l rest Q .ret a w = Q .ret a w := rfl
theorem fwd_normal {P : Program} {l : Nat} {rest : Code} {Q : Exit → Act → World → Prop} {a : Act} {w : World} : fwd P l rest Q .normal a w = Q .normal a w := rfl
theorem fwd_goto {P : Program} {l : Nat} {rest : Code} {Q : Exit → Act → World → Prop} {a : Act} {w : World} (h : rest.wp P (Exit.noGoto Q) a w) : fwd P l rest Q (.goto l) a w := ⟨rfl, h⟩
end Go.Proofs.Ytoplaokimahdiaa.Bs
