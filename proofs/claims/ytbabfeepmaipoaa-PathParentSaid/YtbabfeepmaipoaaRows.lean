/-
  No cell of these rows narrows 'for every input' (looked for: loops, veiled, ifaces, maps, wideKeys, modest, calm, conditions, laid).
  DERIVED. THE GIVEN ROWS OF THIS SEAT. 6 by the template 'for every input the law returns true; each argument reads behind the call as it read before'; 0 by the template 'total and deterministic' (their statements: YtbabfeepmaipoaaTotals.lean).
  GIVEN WITH THE SEED: the statements are not yours to turn. If you find one false, say at which input.
  Laid BY PROGRAM, IN A SANDBOX (cutbox-rows.mjs): the forced cells as the released guide's own fill.sh prints them over the translation e5471b09656ab81f… (all of the seat's roots in one cut). By AI agents, Wed Nov 11 2026. No macro, syntax, notation, axiom, sorry.
-/
import Derived.Test.YtbabfeepmaipoaaChecked
import GoSem.Claim
import GoSem.ClaimJoined
import GoSem.ClaimMapViews
import Derived.JoinedTies
import Derived.KernelRfl
namespace Go.Proofs.Ytbabfeepmaipoaa
/- THE CELL 'sum', in the pinned program and in every row, IS THE sha256 OF THE DUMP (.gsa) THAT YtbabfeepmaipoaaProg.lean LOADS. Nothing in Lean hashes anything: it is a label: what it is worth is what the hold of that sum in a sandbox is worth. -/
noncomputable def Try.pinned : Pinned := { name := "ytbabfeepmaipoaa", sum := "e5471b09656ab81f1cbcda2cd653864a64905ae1bdaa88d914edaf5cfc7bd443", checked := Try.checked }
namespace Rows
def none {H : Type} : Left H := { results := [], args := [] }

/-- 'bowerlaw04.PathMay': WHATEVER THE INPUT: true; the input reads as it did. -/
def pathMaySpec : ChangeSpec := { name := "pathMay", fn := fun _ => fun
  | [d] => { results := [.lit (.bool true)], args := [d] }
  | _ => none }
def pathMayRow : OpenClaim := { program := "ytbabfeepmaipoaa", sum := "e5471b09656ab81f1cbcda2cd653864a64905ae1bdaa88d914edaf5cfc7bd443", func := "bower/bowerlaw04.PathMay", spec := "pathMay", inPlace := ["math.archTrunc", "math.Float64bits", "math.Float64frombits"], unfollowed := true, recurses := true, apart := false }
def PathMaySaid : Prop := pathMayRow.holds Try.pinned (OpenSpec.ofChange pathMaySpec)

/-- ITS FALSE NEIGHBOUR: 'it returns false'. Refute it at one input. -/
def pathMayWrong : ChangeSpec := { name := "pathMay", fn := fun _ => fun
  | [d] => { results := [.lit (.bool false)], args := [d] }
  | _ => none }
def PathMayWrongFalsely : Prop := pathMayRow.holds Try.pinned (OpenSpec.ofChange pathMayWrong)

/-- 'bowerlaw04.PathBetween': WHATEVER THE INPUT: true; the input reads as it did. -/
def pathBetweenSpec : ChangeSpec := { name := "pathBetween", fn := fun _ => fun
  | [d1, d2] => { results := [.lit (.bool true)], args := [d1, d2] }
  | _ => none }
def pathBetweenRow : OpenClaim := { program := "ytbabfeepmaipoaa", sum := "e5471b09656ab81f1cbcda2cd653864a64905ae1bdaa88d914edaf5cfc7bd443", func := "bower/bowerlaw04.PathBetween", spec := "pathBetween", inPlace := ["math.archTrunc", "math.Float64bits", "math.Float64frombits"], unfollowed := true, recurses := true, apart := false }
def PathBetweenSaid : Prop := pathBetweenRow.holds Try.pinned (OpenSpec.ofChange pathBetweenSpec)

/-- ITS FALSE NEIGHBOUR: 'it returns false'. Refute it at one input. -/
def pathBetweenWrong : ChangeSpec := { name := "pathBetween", fn := fun _ => fun
  | [d1, d2] => { results := [.lit (.bool false)], args := [d1, d2] }
  | _ => none }
def PathBetweenWrongFalsely : Prop := pathBetweenRow.holds Try.pinned (OpenSpec.ofChange pathBetweenWrong)

/-- 'bowerlaw04.PathTwo': WHATEVER THE INPUT: true; the input reads as it did. -/
def pathTwoSpec : ChangeSpec := { name := "pathTwo", fn := fun _ => fun
  | [d1, d2] => { results := [.lit (.bool true)], args := [d1, d2] }
  | _ => none }
def pathTwoRow : OpenClaim := { program := "ytbabfeepmaipoaa", sum := "e5471b09656ab81f1cbcda2cd653864a64905ae1bdaa88d914edaf5cfc7bd443", func := "bower/bowerlaw04.PathTwo", spec := "pathTwo", inPlace := ["math.archTrunc", "math.Float64bits", "math.Float64frombits"], unfollowed := true, recurses := true, apart := false }
def PathTwoSaid : Prop := pathTwoRow.holds Try.pinned (OpenSpec.ofChange pathTwoSpec)

/-- ITS FALSE NEIGHBOUR: 'it returns false'. Refute it at one input. -/
def pathTwoWrong : ChangeSpec := { name := "pathTwo", fn := fun _ => fun
  | [d1, d2] => { results := [.lit (.bool false)], args := [d1, d2] }
  | _ => none }
def PathTwoWrongFalsely : Prop := pathTwoRow.holds Try.pinned (OpenSpec.ofChange pathTwoWrong)

/-- 'bowerlaw04.PathOrder': WHATEVER THE INPUT: true; the input reads as it did. -/
def pathOrderSpec : ChangeSpec := { name := "pathOrder", fn := fun _ => fun
  | [d1, d2, d3] => { results := [.lit (.bool true)], args := [d1, d2, d3] }
  | _ => none }
def pathOrderRow : OpenClaim := { program := "ytbabfeepmaipoaa", sum := "e5471b09656ab81f1cbcda2cd653864a64905ae1bdaa88d914edaf5cfc7bd443", func := "bower/bowerlaw04.PathOrder", spec := "pathOrder", inPlace := ["math.archTrunc", "math.Float64bits", "math.Float64frombits"], unfollowed := true, recurses := true, apart := false }
def PathOrderSaid : Prop := pathOrderRow.holds Try.pinned (OpenSpec.ofChange pathOrderSpec)

/-- ITS FALSE NEIGHBOUR: 'it returns false'. Refute it at one input. -/
def pathOrderWrong : ChangeSpec := { name := "pathOrder", fn := fun _ => fun
  | [d1, d2, d3] => { results := [.lit (.bool false)], args := [d1, d2, d3] }
  | _ => none }
def PathOrderWrongFalsely : Prop := pathOrderRow.holds Try.pinned (OpenSpec.ofChange pathOrderWrong)

/-- 'bowerlaw04.PathParent': WHATEVER THE INPUT: true; the input reads as it did. -/
def pathParentSpec : ChangeSpec := { name := "pathParent", fn := fun _ => fun
  | [d1, d2] => { results := [.lit (.bool true)], args := [d1, d2] }
  | _ => none }
def pathParentRow : OpenClaim := { program := "ytbabfeepmaipoaa", sum := "e5471b09656ab81f1cbcda2cd653864a64905ae1bdaa88d914edaf5cfc7bd443", func := "bower/bowerlaw04.PathParent", spec := "pathParent", inPlace := ["math.archTrunc", "math.Float64bits", "math.Float64frombits"], unfollowed := true, recurses := true, apart := false }
def PathParentSaid : Prop := pathParentRow.holds Try.pinned (OpenSpec.ofChange pathParentSpec)

/-- ITS FALSE NEIGHBOUR: 'it returns false'. Refute it at one input. -/
def pathParentWrong : ChangeSpec := { name := "pathParent", fn := fun _ => fun
  | [d1, d2] => { results := [.lit (.bool false)], args := [d1, d2] }
  | _ => none }
def PathParentWrongFalsely : Prop := pathParentRow.holds Try.pinned (OpenSpec.ofChange pathParentWrong)

/-- 'bowerlaw04.PathKnown': WHATEVER THE INPUT: true; the input reads as it did. -/
def pathKnownSpec : ChangeSpec := { name := "pathKnown", fn := fun _ => fun
  | [] => { results := [.lit (.bool true)], args := [] }
  | _ => none }
def pathKnownRow : OpenClaim := { program := "ytbabfeepmaipoaa", sum := "e5471b09656ab81f1cbcda2cd653864a64905ae1bdaa88d914edaf5cfc7bd443", func := "bower/bowerlaw04.PathKnown", spec := "pathKnown", inPlace := ["math.archTrunc", "math.Float64bits", "math.Float64frombits"], unfollowed := true, recurses := true, apart := false }
def PathKnownSaid : Prop := pathKnownRow.holds Try.pinned (OpenSpec.ofChange pathKnownSpec)

/-- ITS FALSE NEIGHBOUR: 'it returns false'. Refute it at one input. -/
def pathKnownWrong : ChangeSpec := { name := "pathKnown", fn := fun _ => fun
  | [] => { results := [.lit (.bool false)], args := [] }
  | _ => none }
def PathKnownWrongFalsely : Prop := pathKnownRow.holds Try.pinned (OpenSpec.ofChange pathKnownWrong)

/- THE SECOND FORM. 'bulk': how many values and letters a reading holds, each counted each time it is reached (what is shared counts as often as it is met; a slice's spare places count too). A statement '..UptoSaid' is the law's where the arguments, and the package variables that the reading takes, are together of bulk at most 1048576: NARROWER than '..Said'. Prove '..Said' where nothing that the law and all that it calls make is longer than what came in: it says more and counts as full. Else prove '..UptoSaid'. A law counts once. -/
mutual
def uptoBulk {H : Type} : DataW H → Nat
  | .lit (.string bytes) => bytes.length + 1
  | .lit _ => 1
  | .nil => 1
  | .ptr d => uptoBulk d + 1
  | .slice elems spare => uptoBulkAll elems + uptoBulkAll spare + 1
  | .agg parts => uptoBulkAll parts + 1
  | .iface _ d => uptoBulk d + 1
  | .map entries => uptoBulkEntries entries + 1
  | .held _ => 1
def uptoBulkAll {H : Type} : List (DataW H) → Nat
  | [] => 0
  | d :: r => uptoBulk d + uptoBulkAll r
def uptoBulkEntries {H : Type} : List (Lit × DataW H) → Nat
  | [] => 0
  | x :: r => uptoBulkEntry x + uptoBulkEntries r
def uptoBulkEntry {H : Type} : Lit × DataW H → Nat
  | (.string bytes, d) => bytes.length + uptoBulk d + 1
  | (_, d) => uptoBulk d + 1
 end
def uptoSmall : (H : Type) → List (DataW H) → Bool := fun _ ds => decide (uptoBulkAll ds ≤ 1048576)
def OpenSpec.upto (s : _root_.Go.ChangeSpec) : _root_.Go.OpenSpec := { _root_.Go.OpenSpec.ofChange s with cond := some uptoSmall }

/-- 'bowerlaw04.PathMay', WHERE WHAT IT READS IS OF BULK AT MOST 1048576: true; the input reads as it did. -/
def pathMayUptoRow : OpenClaim := { program := "ytbabfeepmaipoaa", sum := "e5471b09656ab81f1cbcda2cd653864a64905ae1bdaa88d914edaf5cfc7bd443", func := "bower/bowerlaw04.PathMay", spec := "pathMay", inPlace := ["math.archTrunc", "math.Float64bits", "math.Float64frombits"], unfollowed := true, recurses := true, apart := false, narrowed := true }
def PathMayUptoSaid : Prop := pathMayUptoRow.holds Try.pinned (OpenSpec.upto pathMaySpec)

/-- 'bowerlaw04.PathBetween', WHERE WHAT IT READS IS OF BULK AT MOST 1048576: true; the input reads as it did. -/
def pathBetweenUptoRow : OpenClaim := { program := "ytbabfeepmaipoaa", sum := "e5471b09656ab81f1cbcda2cd653864a64905ae1bdaa88d914edaf5cfc7bd443", func := "bower/bowerlaw04.PathBetween", spec := "pathBetween", inPlace := ["math.archTrunc", "math.Float64bits", "math.Float64frombits"], unfollowed := true, recurses := true, apart := false, narrowed := true }
def PathBetweenUptoSaid : Prop := pathBetweenUptoRow.holds Try.pinned (OpenSpec.upto pathBetweenSpec)

/-- 'bowerlaw04.PathTwo', WHERE WHAT IT READS IS OF BULK AT MOST 1048576: true; the input reads as it did. -/
def pathTwoUptoRow : OpenClaim := { program := "ytbabfeepmaipoaa", sum := "e5471b09656ab81f1cbcda2cd653864a64905ae1bdaa88d914edaf5cfc7bd443", func := "bower/bowerlaw04.PathTwo", spec := "pathTwo", inPlace := ["math.archTrunc", "math.Float64bits", "math.Float64frombits"], unfollowed := true, recurses := true, apart := false, narrowed := true }
def PathTwoUptoSaid : Prop := pathTwoUptoRow.holds Try.pinned (OpenSpec.upto pathTwoSpec)

/-- 'bowerlaw04.PathOrder', WHERE WHAT IT READS IS OF BULK AT MOST 1048576: true; the input reads as it did. -/
def pathOrderUptoRow : OpenClaim := { program := "ytbabfeepmaipoaa", sum := "e5471b09656ab81f1cbcda2cd653864a64905ae1bdaa88d914edaf5cfc7bd443", func := "bower/bowerlaw04.PathOrder", spec := "pathOrder", inPlace := ["math.archTrunc", "math.Float64bits", "math.Float64frombits"], unfollowed := true, recurses := true, apart := false, narrowed := true }
def PathOrderUptoSaid : Prop := pathOrderUptoRow.holds Try.pinned (OpenSpec.upto pathOrderSpec)

/-- 'bowerlaw04.PathParent', WHERE WHAT IT READS IS OF BULK AT MOST 1048576: true; the input reads as it did. -/
def pathParentUptoRow : OpenClaim := { program := "ytbabfeepmaipoaa", sum := "e5471b09656ab81f1cbcda2cd653864a64905ae1bdaa88d914edaf5cfc7bd443", func := "bower/bowerlaw04.PathParent", spec := "pathParent", inPlace := ["math.archTrunc", "math.Float64bits", "math.Float64frombits"], unfollowed := true, recurses := true, apart := false, narrowed := true }
def PathParentUptoSaid : Prop := pathParentUptoRow.holds Try.pinned (OpenSpec.upto pathParentSpec)

/-- 'bowerlaw04.PathKnown', WHERE WHAT IT READS IS OF BULK AT MOST 1048576: true; the input reads as it did. -/
def pathKnownUptoRow : OpenClaim := { program := "ytbabfeepmaipoaa", sum := "e5471b09656ab81f1cbcda2cd653864a64905ae1bdaa88d914edaf5cfc7bd443", func := "bower/bowerlaw04.PathKnown", spec := "pathKnown", inPlace := ["math.archTrunc", "math.Float64bits", "math.Float64frombits"], unfollowed := true, recurses := true, apart := false, narrowed := true }
def PathKnownUptoSaid : Prop := pathKnownUptoRow.holds Try.pinned (OpenSpec.upto pathKnownSpec)

end Rows
end Go.Proofs.Ytbabfeepmaipoaa
