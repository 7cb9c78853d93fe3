/-
  NARROWER THAN 'FOR EVERY INPUT', by the rows' own cells (each row's printed sentence says how): SimplifyKeeps: loops.
  DERIVED. THE GIVEN ROWS OF THIS SEAT. 5 by the template 'for every input the law returns true; each argument reads behind the call as it read before'; 0 by the template 'total and deterministic' (their statements: YtkimbpeapolcbaaTotals.lean).
  GIVEN WITH THE SEED: the statements are not yours to turn. If you find one false, say at which input.
  Laid BY PROGRAM, IN A SANDBOX (cutbox-rows.mjs): the forced cells as the released guide's own fill.sh prints them over the translation fc9169d72ca40f50… (all of the seat's roots in one cut). By AI agents, Wed Nov 11 2026. No macro, syntax, notation, axiom, sorry.
-/
import Derived.Test.YtkimbpeapolcbaaChecked
import GoSem.Claim
import GoSem.ClaimJoined
import GoSem.ClaimMapViews
import Derived.JoinedTies
import Derived.KernelRfl
namespace Go.Proofs.Ytkimbpeapolcbaa
/- THE CELL 'sum', in the pinned program and in every row, IS THE sha256 OF THE DUMP (.gsa) THAT YtkimbpeapolcbaaProg.lean LOADS. Nothing in Lean hashes anything: it is a label: what it is worth is what the hold of that sum in a sandbox is worth. -/
noncomputable def Try.pinned : Pinned := { name := "ytkimbpeapolcbaa", sum := "fc9169d72ca40f50203cbde91d3d2d9a28304b51356fcecd6f4d385acc716e9c", checked := Try.checked }
namespace Rows
def none {H : Type} : Left H := { results := [], args := [] }

/-- 'bowerlaw10.SimplifyIdle': WHATEVER THE INPUT: true; the input reads as it did. -/
def simplifyIdleSpec : ChangeSpec := { name := "simplifyIdle", fn := fun _ => fun
  | [d] => { results := [.lit (.bool true)], args := [d] }
  | _ => none }
def simplifyIdleRow : OpenClaim := { program := "ytkimbpeapolcbaa", sum := "fc9169d72ca40f50203cbde91d3d2d9a28304b51356fcecd6f4d385acc716e9c", func := "bower/bowerlaw10.SimplifyIdle", spec := "simplifyIdle", unfollowed := true, recurses := true, apart := false }
def SimplifyIdleSaid : Prop := simplifyIdleRow.holds Try.pinned (OpenSpec.ofChange simplifyIdleSpec)

/-- ITS FALSE NEIGHBOUR: 'it returns false'. Refute it at one input. -/
def simplifyIdleWrong : ChangeSpec := { name := "simplifyIdle", fn := fun _ => fun
  | [d] => { results := [.lit (.bool false)], args := [d] }
  | _ => none }
def SimplifyIdleWrongFalsely : Prop := simplifyIdleRow.holds Try.pinned (OpenSpec.ofChange simplifyIdleWrong)

/-- 'bowerlaw10.SimplifyPair': WHATEVER THE INPUT: true; the input reads as it did. -/
def simplifyPairSpec : ChangeSpec := { name := "simplifyPair", fn := fun _ => fun
  | [d1, d2] => { results := [.lit (.bool true)], args := [d1, d2] }
  | _ => none }
def simplifyPairRow : OpenClaim := { program := "ytkimbpeapolcbaa", sum := "fc9169d72ca40f50203cbde91d3d2d9a28304b51356fcecd6f4d385acc716e9c", func := "bower/bowerlaw10.SimplifyPair", spec := "simplifyPair", unfollowed := true, recurses := true, apart := false }
def SimplifyPairSaid : Prop := simplifyPairRow.holds Try.pinned (OpenSpec.ofChange simplifyPairSpec)

/-- ITS FALSE NEIGHBOUR: 'it returns false'. Refute it at one input. -/
def simplifyPairWrong : ChangeSpec := { name := "simplifyPair", fn := fun _ => fun
  | [d1, d2] => { results := [.lit (.bool false)], args := [d1, d2] }
  | _ => none }
def SimplifyPairWrongFalsely : Prop := simplifyPairRow.holds Try.pinned (OpenSpec.ofChange simplifyPairWrong)

/-- 'bowerlaw10.SimplifyList': WHATEVER THE INPUT: true; the input reads as it did. -/
def simplifyListSpec : ChangeSpec := { name := "simplifyList", fn := fun _ => fun
  | [d] => { results := [.lit (.bool true)], args := [d] }
  | _ => none }
def simplifyListRow : OpenClaim := { program := "ytkimbpeapolcbaa", sum := "fc9169d72ca40f50203cbde91d3d2d9a28304b51356fcecd6f4d385acc716e9c", func := "bower/bowerlaw10.SimplifyList", spec := "simplifyList", unfollowed := true, recurses := true, apart := false }
def SimplifyListSaid : Prop := simplifyListRow.holds Try.pinned (OpenSpec.ofChange simplifyListSpec)

/-- ITS FALSE NEIGHBOUR: 'it returns false'. Refute it at one input. -/
def simplifyListWrong : ChangeSpec := { name := "simplifyList", fn := fun _ => fun
  | [d] => { results := [.lit (.bool false)], args := [d] }
  | _ => none }
def SimplifyListWrongFalsely : Prop := simplifyListRow.holds Try.pinned (OpenSpec.ofChange simplifyListWrong)

/-- 'bowerlaw10.SimplifyKeeps': WHATEVER THE INPUT: true; the input reads as it did. -/
def simplifyKeepsSpec : ChangeSpec := { name := "simplifyKeeps", fn := fun _ => fun
  | [d1, d2] => { results := [.lit (.bool true)], args := [d1, d2] }
  | _ => none }
def simplifyKeepsRow : OpenClaim := { program := "ytkimbpeapolcbaa", sum := "fc9169d72ca40f50203cbde91d3d2d9a28304b51356fcecd6f4d385acc716e9c", func := "bower/bowerlaw10.SimplifyKeeps", spec := "simplifyKeeps", unfollowed := true, recurses := true, loops := true, apart := false }
def SimplifyKeepsSaid : Prop := simplifyKeepsRow.holds Try.pinned (OpenSpec.ofChange simplifyKeepsSpec)

/-- ITS FALSE NEIGHBOUR: 'it returns false'. Refute it at one input. -/
def simplifyKeepsWrong : ChangeSpec := { name := "simplifyKeeps", fn := fun _ => fun
  | [d1, d2] => { results := [.lit (.bool false)], args := [d1, d2] }
  | _ => none }
def SimplifyKeepsWrongFalsely : Prop := simplifyKeepsRow.holds Try.pinned (OpenSpec.ofChange simplifyKeepsWrong)

/-- 'bowerlaw10.SimplifyKnown': WHATEVER THE INPUT: true; the input reads as it did. -/
def simplifyKnownSpec : ChangeSpec := { name := "simplifyKnown", fn := fun _ => fun
  | [] => { results := [.lit (.bool true)], args := [] }
  | _ => none }
def simplifyKnownRow : OpenClaim := { program := "ytkimbpeapolcbaa", sum := "fc9169d72ca40f50203cbde91d3d2d9a28304b51356fcecd6f4d385acc716e9c", func := "bower/bowerlaw10.SimplifyKnown", spec := "simplifyKnown", unfollowed := true, recurses := true, apart := false }
def SimplifyKnownSaid : Prop := simplifyKnownRow.holds Try.pinned (OpenSpec.ofChange simplifyKnownSpec)

/-- ITS FALSE NEIGHBOUR: 'it returns false'. Refute it at one input. -/
def simplifyKnownWrong : ChangeSpec := { name := "simplifyKnown", fn := fun _ => fun
  | [] => { results := [.lit (.bool false)], args := [] }
  | _ => none }
def SimplifyKnownWrongFalsely : Prop := simplifyKnownRow.holds Try.pinned (OpenSpec.ofChange simplifyKnownWrong)

/- THE SECOND FORM. 'bulk': how many values and letters a reading holds, each counted each time it is reached (what is shared counts as often as it is met; a slice's spare places count too). A statement '..UptoSaid' is the law's where the arguments, and the package variables that the reading takes, are together of bulk at most 1048576: NARROWER than '..Said'. Prove '..Said' where nothing that the law and all that it calls make is longer than what came in: it says more and counts as full. Else prove '..UptoSaid'. A law counts once. -/
mutual
def uptoBulk {H : Type} : DataW H → Nat
  | .lit (.string bytes) => bytes.length + 1
  | .lit _ => 1
  | .nil => 1
  | .ptr d => uptoBulk d + 1
  | .slice elems spare => uptoBulkAll elems + uptoBulkAll spare + 1
  | .agg parts => uptoBulkAll parts + 1
  | .iface _ d => uptoBulk d + 1
  | .map entries => uptoBulkEntries entries + 1
  | .held _ => 1
def uptoBulkAll {H : Type} : List (DataW H) → Nat
  | [] => 0
  | d :: r => uptoBulk d + uptoBulkAll r
def uptoBulkEntries {H : Type} : List (Lit × DataW H) → Nat
  | [] => 0
  | x :: r => uptoBulkEntry x + uptoBulkEntries r
def uptoBulkEntry {H : Type} : Lit × DataW H → Nat
  | (.string bytes, d) => bytes.length + uptoBulk d + 1
  | (_, d) => uptoBulk d + 1
 end
def uptoSmall : (H : Type) → List (DataW H) → Bool := fun _ ds => decide (uptoBulkAll ds ≤ 1048576)
def OpenSpec.upto (s : _root_.Go.ChangeSpec) : _root_.Go.OpenSpec := { _root_.Go.OpenSpec.ofChange s with cond := some uptoSmall }

/-- 'bowerlaw10.SimplifyIdle', WHERE WHAT IT READS IS OF BULK AT MOST 1048576: true; the input reads as it did. -/
def simplifyIdleUptoRow : OpenClaim := { program := "ytkimbpeapolcbaa", sum := "fc9169d72ca40f50203cbde91d3d2d9a28304b51356fcecd6f4d385acc716e9c", func := "bower/bowerlaw10.SimplifyIdle", spec := "simplifyIdle", unfollowed := true, recurses := true, apart := false, narrowed := true }
def SimplifyIdleUptoSaid : Prop := simplifyIdleUptoRow.holds Try.pinned (OpenSpec.upto simplifyIdleSpec)

/-- 'bowerlaw10.SimplifyPair', WHERE WHAT IT READS IS OF BULK AT MOST 1048576: true; the input reads as it did. -/
def simplifyPairUptoRow : OpenClaim := { program := "ytkimbpeapolcbaa", sum := "fc9169d72ca40f50203cbde91d3d2d9a28304b51356fcecd6f4d385acc716e9c", func := "bower/bowerlaw10.SimplifyPair", spec := "simplifyPair", unfollowed := true, recurses := true, apart := false, narrowed := true }
def SimplifyPairUptoSaid : Prop := simplifyPairUptoRow.holds Try.pinned (OpenSpec.upto simplifyPairSpec)

/-- 'bowerlaw10.SimplifyList', WHERE WHAT IT READS IS OF BULK AT MOST 1048576: true; the input reads as it did. -/
def simplifyListUptoRow : OpenClaim := { program := "ytkimbpeapolcbaa", sum := "fc9169d72ca40f50203cbde91d3d2d9a28304b51356fcecd6f4d385acc716e9c", func := "bower/bowerlaw10.SimplifyList", spec := "simplifyList", unfollowed := true, recurses := true, apart := false, narrowed := true }
def SimplifyListUptoSaid : Prop := simplifyListUptoRow.holds Try.pinned (OpenSpec.upto simplifyListSpec)

/-- 'bowerlaw10.SimplifyKeeps', WHERE WHAT IT READS IS OF BULK AT MOST 1048576: true; the input reads as it did. -/
def simplifyKeepsUptoRow : OpenClaim := { program := "ytkimbpeapolcbaa", sum := "fc9169d72ca40f50203cbde91d3d2d9a28304b51356fcecd6f4d385acc716e9c", func := "bower/bowerlaw10.SimplifyKeeps", spec := "simplifyKeeps", unfollowed := true, recurses := true, loops := true, apart := false, narrowed := true }
def SimplifyKeepsUptoSaid : Prop := simplifyKeepsUptoRow.holds Try.pinned (OpenSpec.upto simplifyKeepsSpec)

/-- 'bowerlaw10.SimplifyKnown', WHERE WHAT IT READS IS OF BULK AT MOST 1048576: true; the input reads as it did. -/
def simplifyKnownUptoRow : OpenClaim := { program := "ytkimbpeapolcbaa", sum := "fc9169d72ca40f50203cbde91d3d2d9a28304b51356fcecd6f4d385acc716e9c", func := "bower/bowerlaw10.SimplifyKnown", spec := "simplifyKnown", unfollowed := true, recurses := true, apart := false, narrowed := true }
def SimplifyKnownUptoSaid : Prop := simplifyKnownUptoRow.holds Try.pinned (OpenSpec.upto simplifyKnownSpec)

end Rows
end Go.Proofs.Ytkimbpeapolcbaa
