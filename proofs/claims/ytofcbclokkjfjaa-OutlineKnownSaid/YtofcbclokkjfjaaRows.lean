/-
  NARROWER THAN 'FOR EVERY INPUT', by the rows' own cells (each row's printed sentence says how): OutlineMoves: loops · OutlineText: loops.
  DERIVED. THE GIVEN ROWS OF THIS SEAT. 3 by the template 'for every input the law returns true; each argument reads behind the call as it read before'; 0 by the template 'total and deterministic' (their statements: YtofcbclokkjfjaaTotals.lean).
  GIVEN WITH THE SEED: the statements are not yours to turn. If you find one false, say at which input.
  Laid BY PROGRAM, IN A SANDBOX (cutbox-rows.mjs): the forced cells as the released guide's own fill.sh prints them over the translation f3c46a056973ebc9… (all of the seat's roots in one cut). By AI agents, Wed Nov 11 2026. No macro, syntax, notation, axiom, sorry.
-/
import Derived.Test.YtofcbclokkjfjaaChecked
import GoSem.Claim
import GoSem.ClaimJoined
import GoSem.ClaimMapViews
import Derived.JoinedTies
import Derived.KernelRfl
namespace Go.Proofs.Ytofcbclokkjfjaa
/- THE CELL 'sum', in the pinned program and in every row, IS THE sha256 OF THE DUMP (.gsa) THAT YtofcbclokkjfjaaProg.lean LOADS. Nothing in Lean hashes anything: it is a label: what it is worth is what the hold of that sum in a sandbox is worth. -/
noncomputable def Try.pinned : Pinned := { name := "ytofcbclokkjfjaa", sum := "f3c46a056973ebc9a991de3716a13e754bc1a5f4d9cbbdd62cadf8263b5c3813", checked := Try.checked }
namespace Rows
def none {H : Type} : Left H := { results := [], args := [] }

/-- 'bowerlaw24.OutlineMoves': WHATEVER THE INPUT: true; the input reads as it did. -/
def outlineMovesSpec : ChangeSpec := { name := "outlineMoves", fn := fun _ => fun
  | [d1, d2] => { results := [.lit (.bool true)], args := [d1, d2] }
  | _ => none }
def outlineMovesRow : OpenClaim := { program := "ytofcbclokkjfjaa", sum := "f3c46a056973ebc9a991de3716a13e754bc1a5f4d9cbbdd62cadf8263b5c3813", func := "bower/bowerlaw24.OutlineMoves", spec := "outlineMoves", unfollowed := true, recurses := true, loops := true, apart := false }
def OutlineMovesSaid : Prop := outlineMovesRow.holds Try.pinned (OpenSpec.ofChange outlineMovesSpec)

/-- ITS FALSE NEIGHBOUR: 'it returns false'. Refute it at one input. -/
def outlineMovesWrong : ChangeSpec := { name := "outlineMoves", fn := fun _ => fun
  | [d1, d2] => { results := [.lit (.bool false)], args := [d1, d2] }
  | _ => none }
def OutlineMovesWrongFalsely : Prop := outlineMovesRow.holds Try.pinned (OpenSpec.ofChange outlineMovesWrong)

/-- 'bowerlaw24.OutlineText': WHATEVER THE INPUT: true; the input reads as it did. -/
def outlineTextSpec : ChangeSpec := { name := "outlineText", fn := fun _ => fun
  | [d1, d2, d3, d4] => { results := [.lit (.bool true)], args := [d1, d2, d3, d4] }
  | _ => none }
def outlineTextRow : OpenClaim := { program := "ytofcbclokkjfjaa", sum := "f3c46a056973ebc9a991de3716a13e754bc1a5f4d9cbbdd62cadf8263b5c3813", func := "bower/bowerlaw24.OutlineText", spec := "outlineText", unfollowed := true, recurses := true, loops := true, apart := false }
def OutlineTextSaid : Prop := outlineTextRow.holds Try.pinned (OpenSpec.ofChange outlineTextSpec)

/-- ITS FALSE NEIGHBOUR: 'it returns false'. Refute it at one input. -/
def outlineTextWrong : ChangeSpec := { name := "outlineText", fn := fun _ => fun
  | [d1, d2, d3, d4] => { results := [.lit (.bool false)], args := [d1, d2, d3, d4] }
  | _ => none }
def OutlineTextWrongFalsely : Prop := outlineTextRow.holds Try.pinned (OpenSpec.ofChange outlineTextWrong)

/-- 'bowerlaw24.OutlineKnown': WHATEVER THE INPUT: true; the input reads as it did. -/
def outlineKnownSpec : ChangeSpec := { name := "outlineKnown", fn := fun _ => fun
  | [] => { results := [.lit (.bool true)], args := [] }
  | _ => none }
def outlineKnownRow : OpenClaim := { program := "ytofcbclokkjfjaa", sum := "f3c46a056973ebc9a991de3716a13e754bc1a5f4d9cbbdd62cadf8263b5c3813", func := "bower/bowerlaw24.OutlineKnown", spec := "outlineKnown", unfollowed := true, recurses := true, apart := false }
def OutlineKnownSaid : Prop := outlineKnownRow.holds Try.pinned (OpenSpec.ofChange outlineKnownSpec)

/-- ITS FALSE NEIGHBOUR: 'it returns false'. Refute it at one input. -/
def outlineKnownWrong : ChangeSpec := { name := "outlineKnown", fn := fun _ => fun
  | [] => { results := [.lit (.bool false)], args := [] }
  | _ => none }
def OutlineKnownWrongFalsely : Prop := outlineKnownRow.holds Try.pinned (OpenSpec.ofChange outlineKnownWrong)

/- THE SECOND FORM. 'bulk': how many values and letters a reading holds, each counted each time it is reached (what is shared counts as often as it is met; a slice's spare places count too). A statement '..UptoSaid' is the law's where the arguments, and the package variables that the reading takes, are together of bulk at most 1048576: NARROWER than '..Said'. Prove '..Said' where nothing that the law and all that it calls make is longer than what came in: it says more and counts as full. Else prove '..UptoSaid'. A law counts once. -/
mutual
def uptoBulk {H : Type} : DataW H → Nat
  | .lit (.string bytes) => bytes.length + 1
  | .lit _ => 1
  | .nil => 1
  | .ptr d => uptoBulk d + 1
  | .slice elems spare => uptoBulkAll elems + uptoBulkAll spare + 1
  | .agg parts => uptoBulkAll parts + 1
  | .iface _ d => uptoBulk d + 1
  | .map entries => uptoBulkEntries entries + 1
  | .held _ => 1
def uptoBulkAll {H : Type} : List (DataW H) → Nat
  | [] => 0
  | d :: r => uptoBulk d + uptoBulkAll r
def uptoBulkEntries {H : Type} : List (Lit × DataW H) → Nat
  | [] => 0
  | x :: r => uptoBulkEntry x + uptoBulkEntries r
def uptoBulkEntry {H : Type} : Lit × DataW H → Nat
  | (.string bytes, d) => bytes.length + uptoBulk d + 1
  | (_, d) => uptoBulk d + 1
 end
def uptoSmall : (H : Type) → List (DataW H) → Bool := fun _ ds => decide (uptoBulkAll ds ≤ 1048576)
def OpenSpec.upto (s : _root_.Go.ChangeSpec) : _root_.Go.OpenSpec := { _root_.Go.OpenSpec.ofChange s with cond := some uptoSmall }

/-- 'bowerlaw24.OutlineMoves', WHERE WHAT IT READS IS OF BULK AT MOST 1048576: true; the input reads as it did. -/
def outlineMovesUptoRow : OpenClaim := { program := "ytofcbclokkjfjaa", sum := "f3c46a056973ebc9a991de3716a13e754bc1a5f4d9cbbdd62cadf8263b5c3813", func := "bower/bowerlaw24.OutlineMoves", spec := "outlineMoves", unfollowed := true, recurses := true, loops := true, apart := false, narrowed := true }
def OutlineMovesUptoSaid : Prop := outlineMovesUptoRow.holds Try.pinned (OpenSpec.upto outlineMovesSpec)

/-- 'bowerlaw24.OutlineText', WHERE WHAT IT READS IS OF BULK AT MOST 1048576: true; the input reads as it did. -/
def outlineTextUptoRow : OpenClaim := { program := "ytofcbclokkjfjaa", sum := "f3c46a056973ebc9a991de3716a13e754bc1a5f4d9cbbdd62cadf8263b5c3813", func := "bower/bowerlaw24.OutlineText", spec := "outlineText", unfollowed := true, recurses := true, loops := true, apart := false, narrowed := true }
def OutlineTextUptoSaid : Prop := outlineTextUptoRow.holds Try.pinned (OpenSpec.upto outlineTextSpec)

/-- 'bowerlaw24.OutlineKnown', WHERE WHAT IT READS IS OF BULK AT MOST 1048576: true; the input reads as it did. -/
def outlineKnownUptoRow : OpenClaim := { program := "ytofcbclokkjfjaa", sum := "f3c46a056973ebc9a991de3716a13e754bc1a5f4d9cbbdd62cadf8263b5c3813", func := "bower/bowerlaw24.OutlineKnown", spec := "outlineKnown", unfollowed := true, recurses := true, apart := false, narrowed := true }
def OutlineKnownUptoSaid : Prop := outlineKnownUptoRow.holds Try.pinned (OpenSpec.upto outlineKnownSpec)

end Rows
end Go.Proofs.Ytofcbclokkjfjaa
