/-
  NARROWER THAN 'FOR EVERY INPUT', by the rows' own cells (each row's printed sentence says how): ShiftBetween: loops.
  DERIVED. THE GIVEN ROWS OF THIS SEAT. 5 by the template 'for every input the law returns true; each argument reads behind the call as it read before'; 0 by the template 'total and deterministic' (their statements: YtdnjkffmgmbfmaaTotals.lean).
  GIVEN WITH THE SEED: the statements are not yours to turn. If you find one false, say at which input.
  Laid BY PROGRAM, IN A SANDBOX (cutbox-rows.mjs): the forced cells as the released guide's own fill.sh prints them over the translation f5a9fb496d537e86… (all of the seat's roots in one cut). By AI agents, Wed Nov 11 2026. No macro, syntax, notation, axiom, sorry.
-/
import Derived.Test.YtdnjkffmgmbfmaaChecked
import GoSem.Claim
import GoSem.ClaimJoined
import GoSem.ClaimMapViews
import Derived.JoinedTies
import Derived.KernelRfl
namespace Go.Proofs.Ytdnjkffmgmbfmaa
/- THE CELL 'sum', in the pinned program and in every row, IS THE sha256 OF THE DUMP (.gsa) THAT YtdnjkffmgmbfmaaProg.lean LOADS. Nothing in Lean hashes anything: it is a label: what it is worth is what the hold of that sum in a sandbox is worth. -/
noncomputable def Try.pinned : Pinned := { name := "ytdnjkffmgmbfmaa", sum := "f5a9fb496d537e860430fac5507ac70d3d64d75ac1fc5fdf5559d90dba6aee52", checked := Try.checked }
namespace Rows
def none {H : Type} : Left H := { results := [], args := [] }

/-- 'bowerlaw11.ShiftNode': WHATEVER THE INPUT: true; the input reads as it did. -/
def shiftNodeSpec : ChangeSpec := { name := "shiftNode", fn := fun _ => fun
  | [d1, d2] => { results := [.lit (.bool true)], args := [d1, d2] }
  | _ => none }
def shiftNodeRow : OpenClaim := { program := "ytdnjkffmgmbfmaa", sum := "f5a9fb496d537e860430fac5507ac70d3d64d75ac1fc5fdf5559d90dba6aee52", func := "bower/bowerlaw11.ShiftNode", spec := "shiftNode", unfollowed := true, recurses := true, apart := false }
def ShiftNodeSaid : Prop := shiftNodeRow.holds Try.pinned (OpenSpec.ofChange shiftNodeSpec)

/-- ITS FALSE NEIGHBOUR: 'it returns false'. Refute it at one input. -/
def shiftNodeWrong : ChangeSpec := { name := "shiftNode", fn := fun _ => fun
  | [d1, d2] => { results := [.lit (.bool false)], args := [d1, d2] }
  | _ => none }
def ShiftNodeWrongFalsely : Prop := shiftNodeRow.holds Try.pinned (OpenSpec.ofChange shiftNodeWrong)

/-- 'bowerlaw11.ShiftGap': WHATEVER THE INPUT: true; the input reads as it did. -/
def shiftGapSpec : ChangeSpec := { name := "shiftGap", fn := fun _ => fun
  | [d1, d2, d3, d4] => { results := [.lit (.bool true)], args := [d1, d2, d3, d4] }
  | _ => none }
def shiftGapRow : OpenClaim := { program := "ytdnjkffmgmbfmaa", sum := "f5a9fb496d537e860430fac5507ac70d3d64d75ac1fc5fdf5559d90dba6aee52", func := "bower/bowerlaw11.ShiftGap", spec := "shiftGap", unfollowed := true, recurses := true, apart := false }
def ShiftGapSaid : Prop := shiftGapRow.holds Try.pinned (OpenSpec.ofChange shiftGapSpec)

/-- ITS FALSE NEIGHBOUR: 'it returns false'. Refute it at one input. -/
def shiftGapWrong : ChangeSpec := { name := "shiftGap", fn := fun _ => fun
  | [d1, d2, d3, d4] => { results := [.lit (.bool false)], args := [d1, d2, d3, d4] }
  | _ => none }
def ShiftGapWrongFalsely : Prop := shiftGapRow.holds Try.pinned (OpenSpec.ofChange shiftGapWrong)

/-- 'bowerlaw11.ShiftUndo': WHATEVER THE INPUT: true; the input reads as it did. -/
def shiftUndoSpec : ChangeSpec := { name := "shiftUndo", fn := fun _ => fun
  | [d] => { results := [.lit (.bool true)], args := [d] }
  | _ => none }
def shiftUndoRow : OpenClaim := { program := "ytdnjkffmgmbfmaa", sum := "f5a9fb496d537e860430fac5507ac70d3d64d75ac1fc5fdf5559d90dba6aee52", func := "bower/bowerlaw11.ShiftUndo", spec := "shiftUndo", unfollowed := true, recurses := true, apart := false }
def ShiftUndoSaid : Prop := shiftUndoRow.holds Try.pinned (OpenSpec.ofChange shiftUndoSpec)

/-- ITS FALSE NEIGHBOUR: 'it returns false'. Refute it at one input. -/
def shiftUndoWrong : ChangeSpec := { name := "shiftUndo", fn := fun _ => fun
  | [d] => { results := [.lit (.bool false)], args := [d] }
  | _ => none }
def ShiftUndoWrongFalsely : Prop := shiftUndoRow.holds Try.pinned (OpenSpec.ofChange shiftUndoWrong)

/-- 'bowerlaw11.ShiftBetween': WHATEVER THE INPUT: true; the input reads as it did. -/
def shiftBetweenSpec : ChangeSpec := { name := "shiftBetween", fn := fun _ => fun
  | [d1, d2, d3] => { results := [.lit (.bool true)], args := [d1, d2, d3] }
  | _ => none }
def shiftBetweenRow : OpenClaim := { program := "ytdnjkffmgmbfmaa", sum := "f5a9fb496d537e860430fac5507ac70d3d64d75ac1fc5fdf5559d90dba6aee52", func := "bower/bowerlaw11.ShiftBetween", spec := "shiftBetween", unfollowed := true, recurses := true, loops := true, apart := false }
def ShiftBetweenSaid : Prop := shiftBetweenRow.holds Try.pinned (OpenSpec.ofChange shiftBetweenSpec)

/-- ITS FALSE NEIGHBOUR: 'it returns false'. Refute it at one input. -/
def shiftBetweenWrong : ChangeSpec := { name := "shiftBetween", fn := fun _ => fun
  | [d1, d2, d3] => { results := [.lit (.bool false)], args := [d1, d2, d3] }
  | _ => none }
def ShiftBetweenWrongFalsely : Prop := shiftBetweenRow.holds Try.pinned (OpenSpec.ofChange shiftBetweenWrong)

/-- 'bowerlaw11.ShiftKnown': WHATEVER THE INPUT: true; the input reads as it did. -/
def shiftKnownSpec : ChangeSpec := { name := "shiftKnown", fn := fun _ => fun
  | [] => { results := [.lit (.bool true)], args := [] }
  | _ => none }
def shiftKnownRow : OpenClaim := { program := "ytdnjkffmgmbfmaa", sum := "f5a9fb496d537e860430fac5507ac70d3d64d75ac1fc5fdf5559d90dba6aee52", func := "bower/bowerlaw11.ShiftKnown", spec := "shiftKnown", unfollowed := true, recurses := true, apart := false }
def ShiftKnownSaid : Prop := shiftKnownRow.holds Try.pinned (OpenSpec.ofChange shiftKnownSpec)

/-- ITS FALSE NEIGHBOUR: 'it returns false'. Refute it at one input. -/
def shiftKnownWrong : ChangeSpec := { name := "shiftKnown", fn := fun _ => fun
  | [] => { results := [.lit (.bool false)], args := [] }
  | _ => none }
def ShiftKnownWrongFalsely : Prop := shiftKnownRow.holds Try.pinned (OpenSpec.ofChange shiftKnownWrong)

/- THE SECOND FORM. 'bulk': how many values and letters a reading holds, each counted each time it is reached (what is shared counts as often as it is met; a slice's spare places count too). A statement '..UptoSaid' is the law's where the arguments, and the package variables that the reading takes, are together of bulk at most 1048576: NARROWER than '..Said'. Prove '..Said' where nothing that the law and all that it calls make is longer than what came in: it says more and counts as full. Else prove '..UptoSaid'. A law counts once. -/
mutual
def uptoBulk {H : Type} : DataW H → Nat
  | .lit (.string bytes) => bytes.length + 1
  | .lit _ => 1
  | .nil => 1
  | .ptr d => uptoBulk d + 1
  | .slice elems spare => uptoBulkAll elems + uptoBulkAll spare + 1
  | .agg parts => uptoBulkAll parts + 1
  | .iface _ d => uptoBulk d + 1
  | .map entries => uptoBulkEntries entries + 1
  | .held _ => 1
def uptoBulkAll {H : Type} : List (DataW H) → Nat
  | [] => 0
  | d :: r => uptoBulk d + uptoBulkAll r
def uptoBulkEntries {H : Type} : List (Lit × DataW H) → Nat
  | [] => 0
  | x :: r => uptoBulkEntry x + uptoBulkEntries r
def uptoBulkEntry {H : Type} : Lit × DataW H → Nat
  | (.string bytes, d) => bytes.length + uptoBulk d + 1
  | (_, d) => uptoBulk d + 1
 end
def uptoSmall : (H : Type) → List (DataW H) → Bool := fun _ ds => decide (uptoBulkAll ds ≤ 1048576)
def OpenSpec.upto (s : _root_.Go.ChangeSpec) : _root_.Go.OpenSpec := { _root_.Go.OpenSpec.ofChange s with cond := some uptoSmall }

/-- 'bowerlaw11.ShiftNode', WHERE WHAT IT READS IS OF BULK AT MOST 1048576: true; the input reads as it did. -/
def shiftNodeUptoRow : OpenClaim := { program := "ytdnjkffmgmbfmaa", sum := "f5a9fb496d537e860430fac5507ac70d3d64d75ac1fc5fdf5559d90dba6aee52", func := "bower/bowerlaw11.ShiftNode", spec := "shiftNode", unfollowed := true, recurses := true, apart := false, narrowed := true }
def ShiftNodeUptoSaid : Prop := shiftNodeUptoRow.holds Try.pinned (OpenSpec.upto shiftNodeSpec)

/-- 'bowerlaw11.ShiftGap', WHERE WHAT IT READS IS OF BULK AT MOST 1048576: true; the input reads as it did. -/
def shiftGapUptoRow : OpenClaim := { program := "ytdnjkffmgmbfmaa", sum := "f5a9fb496d537e860430fac5507ac70d3d64d75ac1fc5fdf5559d90dba6aee52", func := "bower/bowerlaw11.ShiftGap", spec := "shiftGap", unfollowed := true, recurses := true, apart := false, narrowed := true }
def ShiftGapUptoSaid : Prop := shiftGapUptoRow.holds Try.pinned (OpenSpec.upto shiftGapSpec)

/-- 'bowerlaw11.ShiftUndo', WHERE WHAT IT READS IS OF BULK AT MOST 1048576: true; the input reads as it did. -/
def shiftUndoUptoRow : OpenClaim := { program := "ytdnjkffmgmbfmaa", sum := "f5a9fb496d537e860430fac5507ac70d3d64d75ac1fc5fdf5559d90dba6aee52", func := "bower/bowerlaw11.ShiftUndo", spec := "shiftUndo", unfollowed := true, recurses := true, apart := false, narrowed := true }
def ShiftUndoUptoSaid : Prop := shiftUndoUptoRow.holds Try.pinned (OpenSpec.upto shiftUndoSpec)

/-- 'bowerlaw11.ShiftBetween', WHERE WHAT IT READS IS OF BULK AT MOST 1048576: true; the input reads as it did. -/
def shiftBetweenUptoRow : OpenClaim := { program := "ytdnjkffmgmbfmaa", sum := "f5a9fb496d537e860430fac5507ac70d3d64d75ac1fc5fdf5559d90dba6aee52", func := "bower/bowerlaw11.ShiftBetween", spec := "shiftBetween", unfollowed := true, recurses := true, loops := true, apart := false, narrowed := true }
def ShiftBetweenUptoSaid : Prop := shiftBetweenUptoRow.holds Try.pinned (OpenSpec.upto shiftBetweenSpec)

/-- 'bowerlaw11.ShiftKnown', WHERE WHAT IT READS IS OF BULK AT MOST 1048576: true; the input reads as it did. -/
def shiftKnownUptoRow : OpenClaim := { program := "ytdnjkffmgmbfmaa", sum := "f5a9fb496d537e860430fac5507ac70d3d64d75ac1fc5fdf5559d90dba6aee52", func := "bower/bowerlaw11.ShiftKnown", spec := "shiftKnown", unfollowed := true, recurses := true, apart := false, narrowed := true }
def ShiftKnownUptoSaid : Prop := shiftKnownUptoRow.holds Try.pinned (OpenSpec.upto shiftKnownSpec)

end Rows
end Go.Proofs.Ytdnjkffmgmbfmaa
