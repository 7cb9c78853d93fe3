/-
  No cell of these rows narrows 'for every input' (looked for: loops, veiled, ifaces, maps, wideKeys, modest, calm, conditions, laid).
  DERIVED. THE GIVEN ROWS OF THIS SEAT. 8 by the template 'for every input the law returns true; each argument reads behind the call as it read before'; 0 by the template 'total and deterministic' (their statements: YtmncjknfkkedmaaTotals.lean).
  GIVEN WITH THE SEED: the statements are not yours to turn. If you find one false, say at which input.
  Laid BY PROGRAM, IN A SANDBOX (cutbox-rows.mjs): the forced cells as the released guide's own fill.sh prints them over the translation 3c8ec4c5a9ac0861… (all of the seat's roots in one cut). By AI agents, Wed Nov 11 2026. No macro, syntax, notation, axiom, sorry.
-/
import Derived.Test.YtmncjknfkkedmaaChecked
import GoSem.Claim
import GoSem.ClaimJoined
import GoSem.ClaimMapViews
import Derived.JoinedTies
import Derived.KernelRfl
namespace Go.Proofs.Ytmncjknfkkedmaa
/- THE CELL 'sum', in the pinned program and in every row, IS THE sha256 OF THE DUMP (.gsa) THAT YtmncjknfkkedmaaProg.lean LOADS. Nothing in Lean hashes anything: it is a label: what it is worth is what the hold of that sum in a sandbox is worth. -/
noncomputable def Try.pinned : Pinned := { name := "ytmncjknfkkedmaa", sum := "3c8ec4c5a9ac0861c3ff06dbd275d76ca575baebd4bcbdd413831580c2633b11", checked := Try.checked }
namespace Rows
def none {H : Type} : Left H := { results := [], args := [] }

/-- 'bowerlaw05.LeaftextRight': WHATEVER THE INPUT: true; the input reads as it did. -/
def leaftextRightSpec : ChangeSpec := { name := "leaftextRight", fn := fun _ => fun
  | [d] => { results := [.lit (.bool true)], args := [d] }
  | _ => none }
def leaftextRightRow : OpenClaim := { program := "ytmncjknfkkedmaa", sum := "3c8ec4c5a9ac0861c3ff06dbd275d76ca575baebd4bcbdd413831580c2633b11", func := "bower/bowerlaw05.LeaftextRight", spec := "leaftextRight", inPlace := ["internal/abi.NoEscape"], unfollowed := true, recurses := true, apart := false }
def LeaftextRightSaid : Prop := leaftextRightRow.holds Try.pinned (OpenSpec.ofChange leaftextRightSpec)

/-- ITS FALSE NEIGHBOUR: 'it returns false'. Refute it at one input. -/
def leaftextRightWrong : ChangeSpec := { name := "leaftextRight", fn := fun _ => fun
  | [d] => { results := [.lit (.bool false)], args := [d] }
  | _ => none }
def LeaftextRightWrongFalsely : Prop := leaftextRightRow.holds Try.pinned (OpenSpec.ofChange leaftextRightWrong)

/-- 'bowerlaw05.LeaftextNorm': WHATEVER THE INPUT: true; the input reads as it did. -/
def leaftextNormSpec : ChangeSpec := { name := "leaftextNorm", fn := fun _ => fun
  | [d] => { results := [.lit (.bool true)], args := [d] }
  | _ => none }
def leaftextNormRow : OpenClaim := { program := "ytmncjknfkkedmaa", sum := "3c8ec4c5a9ac0861c3ff06dbd275d76ca575baebd4bcbdd413831580c2633b11", func := "bower/bowerlaw05.LeaftextNorm", spec := "leaftextNorm", inPlace := ["internal/abi.NoEscape"], unfollowed := true, recurses := true, apart := false }
def LeaftextNormSaid : Prop := leaftextNormRow.holds Try.pinned (OpenSpec.ofChange leaftextNormSpec)

/-- ITS FALSE NEIGHBOUR: 'it returns false'. Refute it at one input. -/
def leaftextNormWrong : ChangeSpec := { name := "leaftextNorm", fn := fun _ => fun
  | [d] => { results := [.lit (.bool false)], args := [d] }
  | _ => none }
def LeaftextNormWrongFalsely : Prop := leaftextNormRow.holds Try.pinned (OpenSpec.ofChange leaftextNormWrong)

/-- 'bowerlaw05.LeaftextApply': WHATEVER THE INPUT: true; the input reads as it did. -/
def leaftextApplySpec : ChangeSpec := { name := "leaftextApply", fn := fun _ => fun
  | [d1, d2] => { results := [.lit (.bool true)], args := [d1, d2] }
  | _ => none }
def leaftextApplyRow : OpenClaim := { program := "ytmncjknfkkedmaa", sum := "3c8ec4c5a9ac0861c3ff06dbd275d76ca575baebd4bcbdd413831580c2633b11", func := "bower/bowerlaw05.LeaftextApply", spec := "leaftextApply", inPlace := ["internal/abi.NoEscape"], unfollowed := true, recurses := true, apart := false }
def LeaftextApplySaid : Prop := leaftextApplyRow.holds Try.pinned (OpenSpec.ofChange leaftextApplySpec)

/-- ITS FALSE NEIGHBOUR: 'it returns false'. Refute it at one input. -/
def leaftextApplyWrong : ChangeSpec := { name := "leaftextApply", fn := fun _ => fun
  | [d1, d2] => { results := [.lit (.bool false)], args := [d1, d2] }
  | _ => none }
def LeaftextApplyWrongFalsely : Prop := leaftextApplyRow.holds Try.pinned (OpenSpec.ofChange leaftextApplyWrong)

/-- 'bowerlaw05.LeaftextTransform': WHATEVER THE INPUT: true; the input reads as it did. -/
def leaftextTransformSpec : ChangeSpec := { name := "leaftextTransform", fn := fun _ => fun
  | [d1, d2, d3] => { results := [.lit (.bool true)], args := [d1, d2, d3] }
  | _ => none }
def leaftextTransformRow : OpenClaim := { program := "ytmncjknfkkedmaa", sum := "3c8ec4c5a9ac0861c3ff06dbd275d76ca575baebd4bcbdd413831580c2633b11", func := "bower/bowerlaw05.LeaftextTransform", spec := "leaftextTransform", inPlace := ["internal/abi.NoEscape"], unfollowed := true, recurses := true, apart := false }
def LeaftextTransformSaid : Prop := leaftextTransformRow.holds Try.pinned (OpenSpec.ofChange leaftextTransformSpec)

/-- ITS FALSE NEIGHBOUR: 'it returns false'. Refute it at one input. -/
def leaftextTransformWrong : ChangeSpec := { name := "leaftextTransform", fn := fun _ => fun
  | [d1, d2, d3] => { results := [.lit (.bool false)], args := [d1, d2, d3] }
  | _ => none }
def LeaftextTransformWrongFalsely : Prop := leaftextTransformRow.holds Try.pinned (OpenSpec.ofChange leaftextTransformWrong)

/-- 'bowerlaw05.LeaftextSquare': WHATEVER THE INPUT: true; the input reads as it did. -/
def leaftextSquareSpec : ChangeSpec := { name := "leaftextSquare", fn := fun _ => fun
  | [d1, d2, d3, d4] => { results := [.lit (.bool true)], args := [d1, d2, d3, d4] }
  | _ => none }
def leaftextSquareRow : OpenClaim := { program := "ytmncjknfkkedmaa", sum := "3c8ec4c5a9ac0861c3ff06dbd275d76ca575baebd4bcbdd413831580c2633b11", func := "bower/bowerlaw05.LeaftextSquare", spec := "leaftextSquare", inPlace := ["internal/abi.NoEscape"], unfollowed := true, recurses := true, apart := false }
def LeaftextSquareSaid : Prop := leaftextSquareRow.holds Try.pinned (OpenSpec.ofChange leaftextSquareSpec)

/-- ITS FALSE NEIGHBOUR: 'it returns false'. Refute it at one input. -/
def leaftextSquareWrong : ChangeSpec := { name := "leaftextSquare", fn := fun _ => fun
  | [d1, d2, d3, d4] => { results := [.lit (.bool false)], args := [d1, d2, d3, d4] }
  | _ => none }
def LeaftextSquareWrongFalsely : Prop := leaftextSquareRow.holds Try.pinned (OpenSpec.ofChange leaftextSquareWrong)

/-- 'bowerlaw05.LeaftextInvert': WHATEVER THE INPUT: true; the input reads as it did. -/
def leaftextInvertSpec : ChangeSpec := { name := "leaftextInvert", fn := fun _ => fun
  | [d1, d2] => { results := [.lit (.bool true)], args := [d1, d2] }
  | _ => none }
def leaftextInvertRow : OpenClaim := { program := "ytmncjknfkkedmaa", sum := "3c8ec4c5a9ac0861c3ff06dbd275d76ca575baebd4bcbdd413831580c2633b11", func := "bower/bowerlaw05.LeaftextInvert", spec := "leaftextInvert", inPlace := ["internal/abi.NoEscape"], unfollowed := true, recurses := true, apart := false }
def LeaftextInvertSaid : Prop := leaftextInvertRow.holds Try.pinned (OpenSpec.ofChange leaftextInvertSpec)

/-- ITS FALSE NEIGHBOUR: 'it returns false'. Refute it at one input. -/
def leaftextInvertWrong : ChangeSpec := { name := "leaftextInvert", fn := fun _ => fun
  | [d1, d2] => { results := [.lit (.bool false)], args := [d1, d2] }
  | _ => none }
def LeaftextInvertWrongFalsely : Prop := leaftextInvertRow.holds Try.pinned (OpenSpec.ofChange leaftextInvertWrong)

/-- 'bowerlaw05.LeaftextCompose': WHATEVER THE INPUT: true; the input reads as it did. -/
def leaftextComposeSpec : ChangeSpec := { name := "leaftextCompose", fn := fun _ => fun
  | [d1, d2, d3] => { results := [.lit (.bool true)], args := [d1, d2, d3] }
  | _ => none }
def leaftextComposeRow : OpenClaim := { program := "ytmncjknfkkedmaa", sum := "3c8ec4c5a9ac0861c3ff06dbd275d76ca575baebd4bcbdd413831580c2633b11", func := "bower/bowerlaw05.LeaftextCompose", spec := "leaftextCompose", inPlace := ["internal/abi.NoEscape"], unfollowed := true, recurses := true, apart := false }
def LeaftextComposeSaid : Prop := leaftextComposeRow.holds Try.pinned (OpenSpec.ofChange leaftextComposeSpec)

/-- ITS FALSE NEIGHBOUR: 'it returns false'. Refute it at one input. -/
def leaftextComposeWrong : ChangeSpec := { name := "leaftextCompose", fn := fun _ => fun
  | [d1, d2, d3] => { results := [.lit (.bool false)], args := [d1, d2, d3] }
  | _ => none }
def LeaftextComposeWrongFalsely : Prop := leaftextComposeRow.holds Try.pinned (OpenSpec.ofChange leaftextComposeWrong)

/-- 'bowerlaw05.LeaftextKnown': WHATEVER THE INPUT: true; the input reads as it did. -/
def leaftextKnownSpec : ChangeSpec := { name := "leaftextKnown", fn := fun _ => fun
  | [] => { results := [.lit (.bool true)], args := [] }
  | _ => none }
def leaftextKnownRow : OpenClaim := { program := "ytmncjknfkkedmaa", sum := "3c8ec4c5a9ac0861c3ff06dbd275d76ca575baebd4bcbdd413831580c2633b11", func := "bower/bowerlaw05.LeaftextKnown", spec := "leaftextKnown", inPlace := ["internal/abi.NoEscape"], unfollowed := true, recurses := true, apart := false }
def LeaftextKnownSaid : Prop := leaftextKnownRow.holds Try.pinned (OpenSpec.ofChange leaftextKnownSpec)

/-- ITS FALSE NEIGHBOUR: 'it returns false'. Refute it at one input. -/
def leaftextKnownWrong : ChangeSpec := { name := "leaftextKnown", fn := fun _ => fun
  | [] => { results := [.lit (.bool false)], args := [] }
  | _ => none }
def LeaftextKnownWrongFalsely : Prop := leaftextKnownRow.holds Try.pinned (OpenSpec.ofChange leaftextKnownWrong)

/- THE SECOND FORM. 'bulk': how many values and letters a reading holds, each counted each time it is reached (what is shared counts as often as it is met; a slice's spare places count too). A statement '..UptoSaid' is the law's where the arguments, and the package variables that the reading takes, are together of bulk at most 1048576: NARROWER than '..Said'. Prove '..Said' where nothing that the law and all that it calls make is longer than what came in: it says more and counts as full. Else prove '..UptoSaid'. A law counts once. -/
mutual
def uptoBulk {H : Type} : DataW H → Nat
  | .lit (.string bytes) => bytes.length + 1
  | .lit _ => 1
  | .nil => 1
  | .ptr d => uptoBulk d + 1
  | .slice elems spare => uptoBulkAll elems + uptoBulkAll spare + 1
  | .agg parts => uptoBulkAll parts + 1
  | .iface _ d => uptoBulk d + 1
  | .map entries => uptoBulkEntries entries + 1
  | .held _ => 1
def uptoBulkAll {H : Type} : List (DataW H) → Nat
  | [] => 0
  | d :: r => uptoBulk d + uptoBulkAll r
def uptoBulkEntries {H : Type} : List (Lit × DataW H) → Nat
  | [] => 0
  | x :: r => uptoBulkEntry x + uptoBulkEntries r
def uptoBulkEntry {H : Type} : Lit × DataW H → Nat
  | (.string bytes, d) => bytes.length + uptoBulk d + 1
  | (_, d) => uptoBulk d + 1
 end
def uptoSmall : (H : Type) → List (DataW H) → Bool := fun _ ds => decide (uptoBulkAll ds ≤ 1048576)
def OpenSpec.upto (s : _root_.Go.ChangeSpec) : _root_.Go.OpenSpec := { _root_.Go.OpenSpec.ofChange s with cond := some uptoSmall }

/-- 'bowerlaw05.LeaftextRight', WHERE WHAT IT READS IS OF BULK AT MOST 1048576: true; the input reads as it did. -/
def leaftextRightUptoRow : OpenClaim := { program := "ytmncjknfkkedmaa", sum := "3c8ec4c5a9ac0861c3ff06dbd275d76ca575baebd4bcbdd413831580c2633b11", func := "bower/bowerlaw05.LeaftextRight", spec := "leaftextRight", inPlace := ["internal/abi.NoEscape"], unfollowed := true, recurses := true, apart := false, narrowed := true }
def LeaftextRightUptoSaid : Prop := leaftextRightUptoRow.holds Try.pinned (OpenSpec.upto leaftextRightSpec)

/-- 'bowerlaw05.LeaftextNorm', WHERE WHAT IT READS IS OF BULK AT MOST 1048576: true; the input reads as it did. -/
def leaftextNormUptoRow : OpenClaim := { program := "ytmncjknfkkedmaa", sum := "3c8ec4c5a9ac0861c3ff06dbd275d76ca575baebd4bcbdd413831580c2633b11", func := "bower/bowerlaw05.LeaftextNorm", spec := "leaftextNorm", inPlace := ["internal/abi.NoEscape"], unfollowed := true, recurses := true, apart := false, narrowed := true }
def LeaftextNormUptoSaid : Prop := leaftextNormUptoRow.holds Try.pinned (OpenSpec.upto leaftextNormSpec)

/-- 'bowerlaw05.LeaftextApply', WHERE WHAT IT READS IS OF BULK AT MOST 1048576: true; the input reads as it did. -/
def leaftextApplyUptoRow : OpenClaim := { program := "ytmncjknfkkedmaa", sum := "3c8ec4c5a9ac0861c3ff06dbd275d76ca575baebd4bcbdd413831580c2633b11", func := "bower/bowerlaw05.LeaftextApply", spec := "leaftextApply", inPlace := ["internal/abi.NoEscape"], unfollowed := true, recurses := true, apart := false, narrowed := true }
def LeaftextApplyUptoSaid : Prop := leaftextApplyUptoRow.holds Try.pinned (OpenSpec.upto leaftextApplySpec)

/-- 'bowerlaw05.LeaftextTransform', WHERE WHAT IT READS IS OF BULK AT MOST 1048576: true; the input reads as it did. -/
def leaftextTransformUptoRow : OpenClaim := { program := "ytmncjknfkkedmaa", sum := "3c8ec4c5a9ac0861c3ff06dbd275d76ca575baebd4bcbdd413831580c2633b11", func := "bower/bowerlaw05.LeaftextTransform", spec := "leaftextTransform", inPlace := ["internal/abi.NoEscape"], unfollowed := true, recurses := true, apart := false, narrowed := true }
def LeaftextTransformUptoSaid : Prop := leaftextTransformUptoRow.holds Try.pinned (OpenSpec.upto leaftextTransformSpec)

/-- 'bowerlaw05.LeaftextSquare', WHERE WHAT IT READS IS OF BULK AT MOST 1048576: true; the input reads as it did. -/
def leaftextSquareUptoRow : OpenClaim := { program := "ytmncjknfkkedmaa", sum := "3c8ec4c5a9ac0861c3ff06dbd275d76ca575baebd4bcbdd413831580c2633b11", func := "bower/bowerlaw05.LeaftextSquare", spec := "leaftextSquare", inPlace := ["internal/abi.NoEscape"], unfollowed := true, recurses := true, apart := false, narrowed := true }
def LeaftextSquareUptoSaid : Prop := leaftextSquareUptoRow.holds Try.pinned (OpenSpec.upto leaftextSquareSpec)

/-- 'bowerlaw05.LeaftextInvert', WHERE WHAT IT READS IS OF BULK AT MOST 1048576: true; the input reads as it did. -/
def leaftextInvertUptoRow : OpenClaim := { program := "ytmncjknfkkedmaa", sum := "3c8ec4c5a9ac0861c3ff06dbd275d76ca575baebd4bcbdd413831580c2633b11", func := "bower/bowerlaw05.LeaftextInvert", spec := "leaftextInvert", inPlace := ["internal/abi.NoEscape"], unfollowed := true, recurses := true, apart := false, narrowed := true }
def LeaftextInvertUptoSaid : Prop := leaftextInvertUptoRow.holds Try.pinned (OpenSpec.upto leaftextInvertSpec)

/-- 'bowerlaw05.LeaftextCompose', WHERE WHAT IT READS IS OF BULK AT MOST 1048576: true; the input reads as it did. -/
def leaftextComposeUptoRow : OpenClaim := { program := "ytmncjknfkkedmaa", sum := "3c8ec4c5a9ac0861c3ff06dbd275d76ca575baebd4bcbdd413831580c2633b11", func := "bower/bowerlaw05.LeaftextCompose", spec := "leaftextCompose", inPlace := ["internal/abi.NoEscape"], unfollowed := true, recurses := true, apart := false, narrowed := true }
def LeaftextComposeUptoSaid : Prop := leaftextComposeUptoRow.holds Try.pinned (OpenSpec.upto leaftextComposeSpec)

/-- 'bowerlaw05.LeaftextKnown', WHERE WHAT IT READS IS OF BULK AT MOST 1048576: true; the input reads as it did. -/
def leaftextKnownUptoRow : OpenClaim := { program := "ytmncjknfkkedmaa", sum := "3c8ec4c5a9ac0861c3ff06dbd275d76ca575baebd4bcbdd413831580c2633b11", func := "bower/bowerlaw05.LeaftextKnown", spec := "leaftextKnown", inPlace := ["internal/abi.NoEscape"], unfollowed := true, recurses := true, apart := false, narrowed := true }
def LeaftextKnownUptoSaid : Prop := leaftextKnownUptoRow.holds Try.pinned (OpenSpec.upto leaftextKnownSpec)

end Rows
end Go.Proofs.Ytmncjknfkkedmaa
