/-
  NARROWER THAN 'FOR EVERY INPUT', by the rows' own cells (each row's printed sentence says how): PlainRight: loops · PlainSizes: loops · PlainAttr: loops · PlainAt: loops · PlainSame: loops · PlainPut: loops.
  DERIVED. THE GIVEN ROWS OF THIS SEAT. 7 by the template 'for every input the law returns true; each argument reads behind the call as it read before'; 0 by the template 'total and deterministic' (their statements: YtamkgdkoddoehaaTotals.lean).
  GIVEN WITH THE SEED: the statements are not yours to turn. If you find one false, say at which input.
  Laid BY PROGRAM, IN A SANDBOX (cutbox-rows.mjs): the forced cells as the released guide's own fill.sh prints them over the translation f4f74af90a960192… (all of the seat's roots in one cut). By AI agents, Wed Nov 11 2026. No macro, syntax, notation, axiom, sorry.
-/
import Derived.Test.YtamkgdkoddoehaaChecked
import GoSem.Claim
import GoSem.ClaimJoined
import GoSem.ClaimMapViews
import Derived.JoinedTies
import Derived.KernelRfl
namespace Go.Proofs.Ytamkgdkoddoehaa
/- THE CELL 'sum', in the pinned program and in every row, IS THE sha256 OF THE DUMP (.gsa) THAT YtamkgdkoddoehaaProg.lean LOADS. Nothing in Lean hashes anything: it is a label: what it is worth is what the hold of that sum in a sandbox is worth. -/
noncomputable def Try.pinned : Pinned := { name := "ytamkgdkoddoehaa", sum := "f4f74af90a960192cd6543889a236f4adbe36926ab296287b16a03c60cb76360", checked := Try.checked }
namespace Rows
def none {H : Type} : Left H := { results := [], args := [] }

/-- 'bowerlaw06.PlainRight': WHATEVER THE INPUT: true; the input reads as it did. -/
def plainRightSpec : ChangeSpec := { name := "plainRight", fn := fun _ => fun
  | [d1, d2] => { results := [.lit (.bool true)], args := [d1, d2] }
  | _ => none }
def plainRightRow : OpenClaim := { program := "ytamkgdkoddoehaa", sum := "f4f74af90a960192cd6543889a236f4adbe36926ab296287b16a03c60cb76360", func := "bower/bowerlaw06.PlainRight", spec := "plainRight", unfollowed := true, recurses := true, loops := true, apart := false }
def PlainRightSaid : Prop := plainRightRow.holds Try.pinned (OpenSpec.ofChange plainRightSpec)

/-- ITS FALSE NEIGHBOUR: 'it returns false'. Refute it at one input. -/
def plainRightWrong : ChangeSpec := { name := "plainRight", fn := fun _ => fun
  | [d1, d2] => { results := [.lit (.bool false)], args := [d1, d2] }
  | _ => none }
def PlainRightWrongFalsely : Prop := plainRightRow.holds Try.pinned (OpenSpec.ofChange plainRightWrong)

/-- 'bowerlaw06.PlainSizes': WHATEVER THE INPUT: true; the input reads as it did. -/
def plainSizesSpec : ChangeSpec := { name := "plainSizes", fn := fun _ => fun
  | [d] => { results := [.lit (.bool true)], args := [d] }
  | _ => none }
def plainSizesRow : OpenClaim := { program := "ytamkgdkoddoehaa", sum := "f4f74af90a960192cd6543889a236f4adbe36926ab296287b16a03c60cb76360", func := "bower/bowerlaw06.PlainSizes", spec := "plainSizes", unfollowed := true, recurses := true, loops := true, apart := false }
def PlainSizesSaid : Prop := plainSizesRow.holds Try.pinned (OpenSpec.ofChange plainSizesSpec)

/-- ITS FALSE NEIGHBOUR: 'it returns false'. Refute it at one input. -/
def plainSizesWrong : ChangeSpec := { name := "plainSizes", fn := fun _ => fun
  | [d] => { results := [.lit (.bool false)], args := [d] }
  | _ => none }
def PlainSizesWrongFalsely : Prop := plainSizesRow.holds Try.pinned (OpenSpec.ofChange plainSizesWrong)

/-- 'bowerlaw06.PlainAttr': WHATEVER THE INPUT: true; the input reads as it did. -/
def plainAttrSpec : ChangeSpec := { name := "plainAttr", fn := fun _ => fun
  | [d1, d2] => { results := [.lit (.bool true)], args := [d1, d2] }
  | _ => none }
def plainAttrRow : OpenClaim := { program := "ytamkgdkoddoehaa", sum := "f4f74af90a960192cd6543889a236f4adbe36926ab296287b16a03c60cb76360", func := "bower/bowerlaw06.PlainAttr", spec := "plainAttr", unfollowed := true, recurses := true, loops := true, apart := false }
def PlainAttrSaid : Prop := plainAttrRow.holds Try.pinned (OpenSpec.ofChange plainAttrSpec)

/-- ITS FALSE NEIGHBOUR: 'it returns false'. Refute it at one input. -/
def plainAttrWrong : ChangeSpec := { name := "plainAttr", fn := fun _ => fun
  | [d1, d2] => { results := [.lit (.bool false)], args := [d1, d2] }
  | _ => none }
def PlainAttrWrongFalsely : Prop := plainAttrRow.holds Try.pinned (OpenSpec.ofChange plainAttrWrong)

/-- 'bowerlaw06.PlainAt': WHATEVER THE INPUT: true; the input reads as it did. -/
def plainAtSpec : ChangeSpec := { name := "plainAt", fn := fun _ => fun
  | [d1, d2, d3] => { results := [.lit (.bool true)], args := [d1, d2, d3] }
  | _ => none }
def plainAtRow : OpenClaim := { program := "ytamkgdkoddoehaa", sum := "f4f74af90a960192cd6543889a236f4adbe36926ab296287b16a03c60cb76360", func := "bower/bowerlaw06.PlainAt", spec := "plainAt", unfollowed := true, recurses := true, loops := true, apart := false }
def PlainAtSaid : Prop := plainAtRow.holds Try.pinned (OpenSpec.ofChange plainAtSpec)

/-- ITS FALSE NEIGHBOUR: 'it returns false'. Refute it at one input. -/
def plainAtWrong : ChangeSpec := { name := "plainAt", fn := fun _ => fun
  | [d1, d2, d3] => { results := [.lit (.bool false)], args := [d1, d2, d3] }
  | _ => none }
def PlainAtWrongFalsely : Prop := plainAtRow.holds Try.pinned (OpenSpec.ofChange plainAtWrong)

/-- 'bowerlaw06.PlainSame': WHATEVER THE INPUT: true; the input reads as it did. -/
def plainSameSpec : ChangeSpec := { name := "plainSame", fn := fun _ => fun
  | [d1, d2] => { results := [.lit (.bool true)], args := [d1, d2] }
  | _ => none }
def plainSameRow : OpenClaim := { program := "ytamkgdkoddoehaa", sum := "f4f74af90a960192cd6543889a236f4adbe36926ab296287b16a03c60cb76360", func := "bower/bowerlaw06.PlainSame", spec := "plainSame", unfollowed := true, recurses := true, loops := true, apart := false }
def PlainSameSaid : Prop := plainSameRow.holds Try.pinned (OpenSpec.ofChange plainSameSpec)

/-- ITS FALSE NEIGHBOUR: 'it returns false'. Refute it at one input. -/
def plainSameWrong : ChangeSpec := { name := "plainSame", fn := fun _ => fun
  | [d1, d2] => { results := [.lit (.bool false)], args := [d1, d2] }
  | _ => none }
def PlainSameWrongFalsely : Prop := plainSameRow.holds Try.pinned (OpenSpec.ofChange plainSameWrong)

/-- 'bowerlaw06.PlainPut': WHATEVER THE INPUT: true; the input reads as it did. -/
def plainPutSpec : ChangeSpec := { name := "plainPut", fn := fun _ => fun
  | [d1, d2, d3] => { results := [.lit (.bool true)], args := [d1, d2, d3] }
  | _ => none }
def plainPutRow : OpenClaim := { program := "ytamkgdkoddoehaa", sum := "f4f74af90a960192cd6543889a236f4adbe36926ab296287b16a03c60cb76360", func := "bower/bowerlaw06.PlainPut", spec := "plainPut", unfollowed := true, recurses := true, loops := true, apart := false }
def PlainPutSaid : Prop := plainPutRow.holds Try.pinned (OpenSpec.ofChange plainPutSpec)

/-- ITS FALSE NEIGHBOUR: 'it returns false'. Refute it at one input. -/
def plainPutWrong : ChangeSpec := { name := "plainPut", fn := fun _ => fun
  | [d1, d2, d3] => { results := [.lit (.bool false)], args := [d1, d2, d3] }
  | _ => none }
def PlainPutWrongFalsely : Prop := plainPutRow.holds Try.pinned (OpenSpec.ofChange plainPutWrong)

/-- 'bowerlaw06.PlainKnown': WHATEVER THE INPUT: true; the input reads as it did. -/
def plainKnownSpec : ChangeSpec := { name := "plainKnown", fn := fun _ => fun
  | [] => { results := [.lit (.bool true)], args := [] }
  | _ => none }
def plainKnownRow : OpenClaim := { program := "ytamkgdkoddoehaa", sum := "f4f74af90a960192cd6543889a236f4adbe36926ab296287b16a03c60cb76360", func := "bower/bowerlaw06.PlainKnown", spec := "plainKnown", unfollowed := true, recurses := true, apart := false }
def PlainKnownSaid : Prop := plainKnownRow.holds Try.pinned (OpenSpec.ofChange plainKnownSpec)

/-- ITS FALSE NEIGHBOUR: 'it returns false'. Refute it at one input. -/
def plainKnownWrong : ChangeSpec := { name := "plainKnown", fn := fun _ => fun
  | [] => { results := [.lit (.bool false)], args := [] }
  | _ => none }
def PlainKnownWrongFalsely : Prop := plainKnownRow.holds Try.pinned (OpenSpec.ofChange plainKnownWrong)

/- THE SECOND FORM. 'bulk': how many values and letters a reading holds, each counted each time it is reached (what is shared counts as often as it is met; a slice's spare places count too). A statement '..UptoSaid' is the law's where the arguments, and the package variables that the reading takes, are together of bulk at most 1048576: NARROWER than '..Said'. Prove '..Said' where nothing that the law and all that it calls make is longer than what came in: it says more and counts as full. Else prove '..UptoSaid'. A law counts once. -/
mutual
def uptoBulk {H : Type} : DataW H → Nat
  | .lit (.string bytes) => bytes.length + 1
  | .lit _ => 1
  | .nil => 1
  | .ptr d => uptoBulk d + 1
  | .slice elems spare => uptoBulkAll elems + uptoBulkAll spare + 1
  | .agg parts => uptoBulkAll parts + 1
  | .iface _ d => uptoBulk d + 1
  | .map entries => uptoBulkEntries entries + 1
  | .held _ => 1
def uptoBulkAll {H : Type} : List (DataW H) → Nat
  | [] => 0
  | d :: r => uptoBulk d + uptoBulkAll r
def uptoBulkEntries {H : Type} : List (Lit × DataW H) → Nat
  | [] => 0
  | x :: r => uptoBulkEntry x + uptoBulkEntries r
def uptoBulkEntry {H : Type} : Lit × DataW H → Nat
  | (.string bytes, d) => bytes.length + uptoBulk d + 1
  | (_, d) => uptoBulk d + 1
 end
def uptoSmall : (H : Type) → List (DataW H) → Bool := fun _ ds => decide (uptoBulkAll ds ≤ 1048576)
def OpenSpec.upto (s : _root_.Go.ChangeSpec) : _root_.Go.OpenSpec := { _root_.Go.OpenSpec.ofChange s with cond := some uptoSmall }

/-- 'bowerlaw06.PlainRight', WHERE WHAT IT READS IS OF BULK AT MOST 1048576: true; the input reads as it did. -/
def plainRightUptoRow : OpenClaim := { program := "ytamkgdkoddoehaa", sum := "f4f74af90a960192cd6543889a236f4adbe36926ab296287b16a03c60cb76360", func := "bower/bowerlaw06.PlainRight", spec := "plainRight", unfollowed := true, recurses := true, loops := true, apart := false, narrowed := true }
def PlainRightUptoSaid : Prop := plainRightUptoRow.holds Try.pinned (OpenSpec.upto plainRightSpec)

/-- 'bowerlaw06.PlainSizes', WHERE WHAT IT READS IS OF BULK AT MOST 1048576: true; the input reads as it did. -/
def plainSizesUptoRow : OpenClaim := { program := "ytamkgdkoddoehaa", sum := "f4f74af90a960192cd6543889a236f4adbe36926ab296287b16a03c60cb76360", func := "bower/bowerlaw06.PlainSizes", spec := "plainSizes", unfollowed := true, recurses := true, loops := true, apart := false, narrowed := true }
def PlainSizesUptoSaid : Prop := plainSizesUptoRow.holds Try.pinned (OpenSpec.upto plainSizesSpec)

/-- 'bowerlaw06.PlainAttr', WHERE WHAT IT READS IS OF BULK AT MOST 1048576: true; the input reads as it did. -/
def plainAttrUptoRow : OpenClaim := { program := "ytamkgdkoddoehaa", sum := "f4f74af90a960192cd6543889a236f4adbe36926ab296287b16a03c60cb76360", func := "bower/bowerlaw06.PlainAttr", spec := "plainAttr", unfollowed := true, recurses := true, loops := true, apart := false, narrowed := true }
def PlainAttrUptoSaid : Prop := plainAttrUptoRow.holds Try.pinned (OpenSpec.upto plainAttrSpec)

/-- 'bowerlaw06.PlainAt', WHERE WHAT IT READS IS OF BULK AT MOST 1048576: true; the input reads as it did. -/
def plainAtUptoRow : OpenClaim := { program := "ytamkgdkoddoehaa", sum := "f4f74af90a960192cd6543889a236f4adbe36926ab296287b16a03c60cb76360", func := "bower/bowerlaw06.PlainAt", spec := "plainAt", unfollowed := true, recurses := true, loops := true, apart := false, narrowed := true }
def PlainAtUptoSaid : Prop := plainAtUptoRow.holds Try.pinned (OpenSpec.upto plainAtSpec)

/-- 'bowerlaw06.PlainSame', WHERE WHAT IT READS IS OF BULK AT MOST 1048576: true; the input reads as it did. -/
def plainSameUptoRow : OpenClaim := { program := "ytamkgdkoddoehaa", sum := "f4f74af90a960192cd6543889a236f4adbe36926ab296287b16a03c60cb76360", func := "bower/bowerlaw06.PlainSame", spec := "plainSame", unfollowed := true, recurses := true, loops := true, apart := false, narrowed := true }
def PlainSameUptoSaid : Prop := plainSameUptoRow.holds Try.pinned (OpenSpec.upto plainSameSpec)

/-- 'bowerlaw06.PlainPut', WHERE WHAT IT READS IS OF BULK AT MOST 1048576: true; the input reads as it did. -/
def plainPutUptoRow : OpenClaim := { program := "ytamkgdkoddoehaa", sum := "f4f74af90a960192cd6543889a236f4adbe36926ab296287b16a03c60cb76360", func := "bower/bowerlaw06.PlainPut", spec := "plainPut", unfollowed := true, recurses := true, loops := true, apart := false, narrowed := true }
def PlainPutUptoSaid : Prop := plainPutUptoRow.holds Try.pinned (OpenSpec.upto plainPutSpec)

/-- 'bowerlaw06.PlainKnown', WHERE WHAT IT READS IS OF BULK AT MOST 1048576: true; the input reads as it did. -/
def plainKnownUptoRow : OpenClaim := { program := "ytamkgdkoddoehaa", sum := "f4f74af90a960192cd6543889a236f4adbe36926ab296287b16a03c60cb76360", func := "bower/bowerlaw06.PlainKnown", spec := "plainKnown", unfollowed := true, recurses := true, apart := false, narrowed := true }
def PlainKnownUptoSaid : Prop := plainKnownUptoRow.holds Try.pinned (OpenSpec.upto plainKnownSpec)

end Rows
end Go.Proofs.Ytamkgdkoddoehaa
