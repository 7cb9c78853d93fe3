/-
  NARROWER THAN 'FOR EVERY INPUT', by the rows' own cells (each row's printed sentence says how): WireBegins: loops · WireTrees: loops · WireBack: loops.
  DERIVED. THE GIVEN ROWS OF THIS SEAT. 6 by the template 'for every input the law returns true; each argument reads behind the call as it read before'; 0 by the template 'total and deterministic' (their statements: YtoplaokimahdiaaTotals.lean).
  GIVEN WITH THE SEED: the statements are not yours to turn. If you find one false, say at which input.
  Laid BY PROGRAM, IN A SANDBOX (cutbox-rows.mjs): the forced cells as the released guide's own fill.sh prints them over the translation e8956fe400d2523c… (all of the seat's roots in one cut). By AI agents, Wed Nov 11 2026. No macro, syntax, notation, axiom, sorry.
-/
import Derived.Test.YtoplaokimahdiaaChecked
import GoSem.Claim
import GoSem.ClaimJoined
import GoSem.ClaimMapViews
import Derived.JoinedTies
import Derived.KernelRfl
namespace Go.Proofs.Ytoplaokimahdiaa
/- THE CELL 'sum', in the pinned program and in every row, IS THE sha256 OF THE DUMP (.gsa) THAT YtoplaokimahdiaaProg.lean LOADS. Nothing in Lean hashes anything: it is a label: what it is worth is what the hold of that sum in a sandbox is worth. -/
noncomputable def Try.pinned : Pinned := { name := "ytoplaokimahdiaa", sum := "e8956fe400d2523cd26838768b83b0d143d05dc495a5d61c0d84381dab4ee5ad", checked := Try.checked }
namespace Rows
def none {H : Type} : Left H := { results := [], args := [] }

/-- 'bowerlaw17.WirePuts': WHATEVER THE INPUT: true; the input reads as it did. -/
def wirePutsSpec : ChangeSpec := { name := "wirePuts", fn := fun _ => fun
  | [d] => { results := [.lit (.bool true)], args := [d] }
  | _ => none }
def wirePutsRow : OpenClaim := { program := "ytoplaokimahdiaa", sum := "e8956fe400d2523cd26838768b83b0d143d05dc495a5d61c0d84381dab4ee5ad", func := "bower/bowerlaw17.WirePuts", spec := "wirePuts", unfollowed := true, recurses := true, apart := false }
def WirePutsSaid : Prop := wirePutsRow.holds Try.pinned (OpenSpec.ofChange wirePutsSpec)

/-- ITS FALSE NEIGHBOUR: 'it returns false'. Refute it at one input. -/
def wirePutsWrong : ChangeSpec := { name := "wirePuts", fn := fun _ => fun
  | [d] => { results := [.lit (.bool false)], args := [d] }
  | _ => none }
def WirePutsWrongFalsely : Prop := wirePutsRow.holds Try.pinned (OpenSpec.ofChange wirePutsWrong)

/-- 'bowerlaw17.WireBegins': WHATEVER THE INPUT: true; the input reads as it did. -/
def wireBeginsSpec : ChangeSpec := { name := "wireBegins", fn := fun _ => fun
  | [d1, d2, d3, d4, d5, d6] => { results := [.lit (.bool true)], args := [d1, d2, d3, d4, d5, d6] }
  | _ => none }
def wireBeginsRow : OpenClaim := { program := "ytoplaokimahdiaa", sum := "e8956fe400d2523cd26838768b83b0d143d05dc495a5d61c0d84381dab4ee5ad", func := "bower/bowerlaw17.WireBegins", spec := "wireBegins", unfollowed := true, recurses := true, loops := true, apart := false }
def WireBeginsSaid : Prop := wireBeginsRow.holds Try.pinned (OpenSpec.ofChange wireBeginsSpec)

/-- ITS FALSE NEIGHBOUR: 'it returns false'. Refute it at one input. -/
def wireBeginsWrong : ChangeSpec := { name := "wireBegins", fn := fun _ => fun
  | [d1, d2, d3, d4, d5, d6] => { results := [.lit (.bool false)], args := [d1, d2, d3, d4, d5, d6] }
  | _ => none }
def WireBeginsWrongFalsely : Prop := wireBeginsRow.holds Try.pinned (OpenSpec.ofChange wireBeginsWrong)

/-- 'bowerlaw17.WireNumbers': WHATEVER THE INPUT: true; the input reads as it did. -/
def wireNumbersSpec : ChangeSpec := { name := "wireNumbers", fn := fun _ => fun
  | [d1, d2] => { results := [.lit (.bool true)], args := [d1, d2] }
  | _ => none }
def wireNumbersRow : OpenClaim := { program := "ytoplaokimahdiaa", sum := "e8956fe400d2523cd26838768b83b0d143d05dc495a5d61c0d84381dab4ee5ad", func := "bower/bowerlaw17.WireNumbers", spec := "wireNumbers", unfollowed := true, recurses := true, apart := false }
def WireNumbersSaid : Prop := wireNumbersRow.holds Try.pinned (OpenSpec.ofChange wireNumbersSpec)

/-- ITS FALSE NEIGHBOUR: 'it returns false'. Refute it at one input. -/
def wireNumbersWrong : ChangeSpec := { name := "wireNumbers", fn := fun _ => fun
  | [d1, d2] => { results := [.lit (.bool false)], args := [d1, d2] }
  | _ => none }
def WireNumbersWrongFalsely : Prop := wireNumbersRow.holds Try.pinned (OpenSpec.ofChange wireNumbersWrong)

/-- 'bowerlaw17.WirePaths': WHATEVER THE INPUT: true; the input reads as it did. -/
def wirePathsSpec : ChangeSpec := { name := "wirePaths", fn := fun _ => fun
  | [d1, d2] => { results := [.lit (.bool true)], args := [d1, d2] }
  | _ => none }
def wirePathsRow : OpenClaim := { program := "ytoplaokimahdiaa", sum := "e8956fe400d2523cd26838768b83b0d143d05dc495a5d61c0d84381dab4ee5ad", func := "bower/bowerlaw17.WirePaths", spec := "wirePaths", unfollowed := true, recurses := true, apart := false }
def WirePathsSaid : Prop := wirePathsRow.holds Try.pinned (OpenSpec.ofChange wirePathsSpec)

/-- ITS FALSE NEIGHBOUR: 'it returns false'. Refute it at one input. -/
def wirePathsWrong : ChangeSpec := { name := "wirePaths", fn := fun _ => fun
  | [d1, d2] => { results := [.lit (.bool false)], args := [d1, d2] }
  | _ => none }
def WirePathsWrongFalsely : Prop := wirePathsRow.holds Try.pinned (OpenSpec.ofChange wirePathsWrong)

/-- 'bowerlaw17.WireTrees': WHATEVER THE INPUT: true; the input reads as it did. -/
def wireTreesSpec : ChangeSpec := { name := "wireTrees", fn := fun _ => fun
  | [d1, d2] => { results := [.lit (.bool true)], args := [d1, d2] }
  | _ => none }
def wireTreesRow : OpenClaim := { program := "ytoplaokimahdiaa", sum := "e8956fe400d2523cd26838768b83b0d143d05dc495a5d61c0d84381dab4ee5ad", func := "bower/bowerlaw17.WireTrees", spec := "wireTrees", unfollowed := true, recurses := true, loops := true, apart := false }
def WireTreesSaid : Prop := wireTreesRow.holds Try.pinned (OpenSpec.ofChange wireTreesSpec)

/-- ITS FALSE NEIGHBOUR: 'it returns false'. Refute it at one input. -/
def wireTreesWrong : ChangeSpec := { name := "wireTrees", fn := fun _ => fun
  | [d1, d2] => { results := [.lit (.bool false)], args := [d1, d2] }
  | _ => none }
def WireTreesWrongFalsely : Prop := wireTreesRow.holds Try.pinned (OpenSpec.ofChange wireTreesWrong)

/-- 'bowerlaw17.WireBack': WHATEVER THE INPUT: true; the input reads as it did. -/
def wireBackSpec : ChangeSpec := { name := "wireBack", fn := fun _ => fun
  | [d1, d2, d3] => { results := [.lit (.bool true)], args := [d1, d2, d3] }
  | _ => none }
def wireBackRow : OpenClaim := { program := "ytoplaokimahdiaa", sum := "e8956fe400d2523cd26838768b83b0d143d05dc495a5d61c0d84381dab4ee5ad", func := "bower/bowerlaw17.WireBack", spec := "wireBack", unfollowed := true, recurses := true, loops := true, apart := false }
def WireBackSaid : Prop := wireBackRow.holds Try.pinned (OpenSpec.ofChange wireBackSpec)

/-- ITS FALSE NEIGHBOUR: 'it returns false'. Refute it at one input. -/
def wireBackWrong : ChangeSpec := { name := "wireBack", fn := fun _ => fun
  | [d1, d2, d3] => { results := [.lit (.bool false)], args := [d1, d2, d3] }
  | _ => none }
def WireBackWrongFalsely : Prop := wireBackRow.holds Try.pinned (OpenSpec.ofChange wireBackWrong)

/- THE SECOND FORM. 'bulk': how many values and letters a reading holds, each counted each time it is reached (what is shared counts as often as it is met; a slice's spare places count too). A statement '..UptoSaid' is the law's where the arguments, and the package variables that the reading takes, are together of bulk at most 1048576: NARROWER than '..Said'. Prove '..Said' where nothing that the law and all that it calls make is longer than what came in: it says more and counts as full. Else prove '..UptoSaid'. A law counts once. -/
mutual
def uptoBulk {H : Type} : DataW H → Nat
  | .lit (.string bytes) => bytes.length + 1
  | .lit _ => 1
  | .nil => 1
  | .ptr d => uptoBulk d + 1
  | .slice elems spare => uptoBulkAll elems + uptoBulkAll spare + 1
  | .agg parts => uptoBulkAll parts + 1
  | .iface _ d => uptoBulk d + 1
  | .map entries => uptoBulkEntries entries + 1
  | .held _ => 1
def uptoBulkAll {H : Type} : List (DataW H) → Nat
  | [] => 0
  | d :: r => uptoBulk d + uptoBulkAll r
def uptoBulkEntries {H : Type} : List (Lit × DataW H) → Nat
  | [] => 0
  | x :: r => uptoBulkEntry x + uptoBulkEntries r
def uptoBulkEntry {H : Type} : Lit × DataW H → Nat
  | (.string bytes, d) => bytes.length + uptoBulk d + 1
  | (_, d) => uptoBulk d + 1
 end
def uptoSmall : (H : Type) → List (DataW H) → Bool := fun _ ds => decide (uptoBulkAll ds ≤ 1048576)
def OpenSpec.upto (s : _root_.Go.ChangeSpec) : _root_.Go.OpenSpec := { _root_.Go.OpenSpec.ofChange s with cond := some uptoSmall }

/-- 'bowerlaw17.WirePuts', WHERE WHAT IT READS IS OF BULK AT MOST 1048576: true; the input reads as it did. -/
def wirePutsUptoRow : OpenClaim := { program := "ytoplaokimahdiaa", sum := "e8956fe400d2523cd26838768b83b0d143d05dc495a5d61c0d84381dab4ee5ad", func := "bower/bowerlaw17.WirePuts", spec := "wirePuts", unfollowed := true, recurses := true, apart := false, narrowed := true }
def WirePutsUptoSaid : Prop := wirePutsUptoRow.holds Try.pinned (OpenSpec.upto wirePutsSpec)

/-- 'bowerlaw17.WireBegins', WHERE WHAT IT READS IS OF BULK AT MOST 1048576: true; the input reads as it did. -/
def wireBeginsUptoRow : OpenClaim := { program := "ytoplaokimahdiaa", sum := "e8956fe400d2523cd26838768b83b0d143d05dc495a5d61c0d84381dab4ee5ad", func := "bower/bowerlaw17.WireBegins", spec := "wireBegins", unfollowed := true, recurses := true, loops := true, apart := false, narrowed := true }
def WireBeginsUptoSaid : Prop := wireBeginsUptoRow.holds Try.pinned (OpenSpec.upto wireBeginsSpec)

/-- 'bowerlaw17.WireNumbers', WHERE WHAT IT READS IS OF BULK AT MOST 1048576: true; the input reads as it did. -/
def wireNumbersUptoRow : OpenClaim := { program := "ytoplaokimahdiaa", sum := "e8956fe400d2523cd26838768b83b0d143d05dc495a5d61c0d84381dab4ee5ad", func := "bower/bowerlaw17.WireNumbers", spec := "wireNumbers", unfollowed := true, recurses := true, apart := false, narrowed := true }
def WireNumbersUptoSaid : Prop := wireNumbersUptoRow.holds Try.pinned (OpenSpec.upto wireNumbersSpec)

/-- 'bowerlaw17.WirePaths', WHERE WHAT IT READS IS OF BULK AT MOST 1048576: true; the input reads as it did. -/
def wirePathsUptoRow : OpenClaim := { program := "ytoplaokimahdiaa", sum := "e8956fe400d2523cd26838768b83b0d143d05dc495a5d61c0d84381dab4ee5ad", func := "bower/bowerlaw17.WirePaths", spec := "wirePaths", unfollowed := true, recurses := true, apart := false, narrowed := true }
def WirePathsUptoSaid : Prop := wirePathsUptoRow.holds Try.pinned (OpenSpec.upto wirePathsSpec)

/-- 'bowerlaw17.WireTrees', WHERE WHAT IT READS IS OF BULK AT MOST 1048576: true; the input reads as it did. -/
def wireTreesUptoRow : OpenClaim := { program := "ytoplaokimahdiaa", sum := "e8956fe400d2523cd26838768b83b0d143d05dc495a5d61c0d84381dab4ee5ad", func := "bower/bowerlaw17.WireTrees", spec := "wireTrees", unfollowed := true, recurses := true, loops := true, apart := false, narrowed := true }
def WireTreesUptoSaid : Prop := wireTreesUptoRow.holds Try.pinned (OpenSpec.upto wireTreesSpec)

/-- 'bowerlaw17.WireBack', WHERE WHAT IT READS IS OF BULK AT MOST 1048576: true; the input reads as it did. -/
def wireBackUptoRow : OpenClaim := { program := "ytoplaokimahdiaa", sum := "e8956fe400d2523cd26838768b83b0d143d05dc495a5d61c0d84381dab4ee5ad", func := "bower/bowerlaw17.WireBack", spec := "wireBack", unfollowed := true, recurses := true, loops := true, apart := false, narrowed := true }
def WireBackUptoSaid : Prop := wireBackUptoRow.holds Try.pinned (OpenSpec.upto wireBackSpec)

end Rows
end Go.Proofs.Ytoplaokimahdiaa
