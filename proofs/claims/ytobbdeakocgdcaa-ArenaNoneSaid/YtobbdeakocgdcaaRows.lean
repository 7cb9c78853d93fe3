/-
  No cell of these rows narrows 'for every input' (looked for: loops, veiled, ifaces, maps, wideKeys, modest, calm, conditions, laid).
  DERIVED. THE GIVEN ROWS OF THIS SEAT. 5 by the template 'for every input the law returns true; each argument reads behind the call as it read before'; 0 by the template 'total and deterministic' (their statements: YtobbdeakocgdcaaTotals.lean).
  GIVEN WITH THE SEED: the statements are not yours to turn. If you find one false, say at which input.
  Laid BY PROGRAM, IN A SANDBOX (cutbox-rows.mjs): the forced cells as the released guide's own fill.sh prints them over the translation 2d49e3ba9b9d5757… (all of the seat's roots in one cut). By AI agents, Wed Nov 11 2026. No macro, syntax, notation, axiom, sorry.
-/
import Derived.Test.YtobbdeakocgdcaaChecked
import GoSem.Claim
import GoSem.ClaimJoined
import GoSem.ClaimMapViews
import Derived.JoinedTies
import Derived.KernelRfl
namespace Go.Proofs.Ytobbdeakocgdcaa
/- THE CELL 'sum', in the pinned program and in every row, IS THE sha256 OF THE DUMP (.gsa) THAT YtobbdeakocgdcaaProg.lean LOADS. Nothing in Lean hashes anything: it is a label: what it is worth is what the hold of that sum in a sandbox is worth. -/
noncomputable def Try.pinned : Pinned := { name := "ytobbdeakocgdcaa", sum := "2d49e3ba9b9d57574cab5d808018ce72709f34ec9fd8175b01bf74a840f056ea", checked := Try.checked }
namespace Rows
def none {H : Type} : Left H := { results := [], args := [] }

/-- 'bowerlaw07.ArenaPlays': WHATEVER THE INPUT: true; the input reads as it did. -/
def arenaPlaysSpec : ChangeSpec := { name := "arenaPlays", fn := fun _ => fun
  | [d1, d2] => { results := [.lit (.bool true)], args := [d1, d2] }
  | _ => none }
def arenaPlaysRow : OpenClaim := { program := "ytobbdeakocgdcaa", sum := "2d49e3ba9b9d57574cab5d808018ce72709f34ec9fd8175b01bf74a840f056ea", func := "bower/bowerlaw07.ArenaPlays", spec := "arenaPlays", inPlace := ["slices.overlaps[int]"], unfollowed := true, recurses := true, apart := false }
def ArenaPlaysSaid : Prop := arenaPlaysRow.holds Try.pinned (OpenSpec.ofChange arenaPlaysSpec)

/-- ITS FALSE NEIGHBOUR: 'it returns false'. Refute it at one input. -/
def arenaPlaysWrong : ChangeSpec := { name := "arenaPlays", fn := fun _ => fun
  | [d1, d2] => { results := [.lit (.bool false)], args := [d1, d2] }
  | _ => none }
def ArenaPlaysWrongFalsely : Prop := arenaPlaysRow.holds Try.pinned (OpenSpec.ofChange arenaPlaysWrong)

/-- 'bowerlaw07.ArenaWalks': WHATEVER THE INPUT: true; the input reads as it did. -/
def arenaWalksSpec : ChangeSpec := { name := "arenaWalks", fn := fun _ => fun
  | [d1, d2] => { results := [.lit (.bool true)], args := [d1, d2] }
  | _ => none }
def arenaWalksRow : OpenClaim := { program := "ytobbdeakocgdcaa", sum := "2d49e3ba9b9d57574cab5d808018ce72709f34ec9fd8175b01bf74a840f056ea", func := "bower/bowerlaw07.ArenaWalks", spec := "arenaWalks", inPlace := ["slices.overlaps[int]"], unfollowed := true, recurses := true, apart := false }
def ArenaWalksSaid : Prop := arenaWalksRow.holds Try.pinned (OpenSpec.ofChange arenaWalksSpec)

/-- ITS FALSE NEIGHBOUR: 'it returns false'. Refute it at one input. -/
def arenaWalksWrong : ChangeSpec := { name := "arenaWalks", fn := fun _ => fun
  | [d1, d2] => { results := [.lit (.bool false)], args := [d1, d2] }
  | _ => none }
def ArenaWalksWrongFalsely : Prop := arenaWalksRow.holds Try.pinned (OpenSpec.ofChange arenaWalksWrong)

/-- 'bowerlaw07.ArenaTree': WHATEVER THE INPUT: true; the input reads as it did. -/
def arenaTreeSpec : ChangeSpec := { name := "arenaTree", fn := fun _ => fun
  | [d] => { results := [.lit (.bool true)], args := [d] }
  | _ => none }
def arenaTreeRow : OpenClaim := { program := "ytobbdeakocgdcaa", sum := "2d49e3ba9b9d57574cab5d808018ce72709f34ec9fd8175b01bf74a840f056ea", func := "bower/bowerlaw07.ArenaTree", spec := "arenaTree", inPlace := ["slices.overlaps[int]"], unfollowed := true, recurses := true, apart := false }
def ArenaTreeSaid : Prop := arenaTreeRow.holds Try.pinned (OpenSpec.ofChange arenaTreeSpec)

/-- ITS FALSE NEIGHBOUR: 'it returns false'. Refute it at one input. -/
def arenaTreeWrong : ChangeSpec := { name := "arenaTree", fn := fun _ => fun
  | [d] => { results := [.lit (.bool false)], args := [d] }
  | _ => none }
def ArenaTreeWrongFalsely : Prop := arenaTreeRow.holds Try.pinned (OpenSpec.ofChange arenaTreeWrong)

/-- 'bowerlaw07.ArenaNone': WHATEVER THE INPUT: true; the input reads as it did. -/
def arenaNoneSpec : ChangeSpec := { name := "arenaNone", fn := fun _ => fun
  | [d1, d2, d3, d4] => { results := [.lit (.bool true)], args := [d1, d2, d3, d4] }
  | _ => none }
def arenaNoneRow : OpenClaim := { program := "ytobbdeakocgdcaa", sum := "2d49e3ba9b9d57574cab5d808018ce72709f34ec9fd8175b01bf74a840f056ea", func := "bower/bowerlaw07.ArenaNone", spec := "arenaNone", inPlace := ["slices.overlaps[int]"], unfollowed := true, recurses := true, apart := false }
def ArenaNoneSaid : Prop := arenaNoneRow.holds Try.pinned (OpenSpec.ofChange arenaNoneSpec)

/-- ITS FALSE NEIGHBOUR: 'it returns false'. Refute it at one input. -/
def arenaNoneWrong : ChangeSpec := { name := "arenaNone", fn := fun _ => fun
  | [d1, d2, d3, d4] => { results := [.lit (.bool false)], args := [d1, d2, d3, d4] }
  | _ => none }
def ArenaNoneWrongFalsely : Prop := arenaNoneRow.holds Try.pinned (OpenSpec.ofChange arenaNoneWrong)

/-- 'bowerlaw07.ArenaKnown': WHATEVER THE INPUT: true; the input reads as it did. -/
def arenaKnownSpec : ChangeSpec := { name := "arenaKnown", fn := fun _ => fun
  | [] => { results := [.lit (.bool true)], args := [] }
  | _ => none }
def arenaKnownRow : OpenClaim := { program := "ytobbdeakocgdcaa", sum := "2d49e3ba9b9d57574cab5d808018ce72709f34ec9fd8175b01bf74a840f056ea", func := "bower/bowerlaw07.ArenaKnown", spec := "arenaKnown", inPlace := ["slices.overlaps[int]"], unfollowed := true, recurses := true, apart := false }
def ArenaKnownSaid : Prop := arenaKnownRow.holds Try.pinned (OpenSpec.ofChange arenaKnownSpec)

/-- ITS FALSE NEIGHBOUR: 'it returns false'. Refute it at one input. -/
def arenaKnownWrong : ChangeSpec := { name := "arenaKnown", fn := fun _ => fun
  | [] => { results := [.lit (.bool false)], args := [] }
  | _ => none }
def ArenaKnownWrongFalsely : Prop := arenaKnownRow.holds Try.pinned (OpenSpec.ofChange arenaKnownWrong)

/- THE SECOND FORM. 'bulk': how many values and letters a reading holds, each counted each time it is reached (what is shared counts as often as it is met; a slice's spare places count too). A statement '..UptoSaid' is the law's where the arguments, and the package variables that the reading takes, are together of bulk at most 1048576: NARROWER than '..Said'. Prove '..Said' where nothing that the law and all that it calls make is longer than what came in: it says more and counts as full. Else prove '..UptoSaid'. A law counts once. -/
mutual
def uptoBulk {H : Type} : DataW H → Nat
  | .lit (.string bytes) => bytes.length + 1
  | .lit _ => 1
  | .nil => 1
  | .ptr d => uptoBulk d + 1
  | .slice elems spare => uptoBulkAll elems + uptoBulkAll spare + 1
  | .agg parts => uptoBulkAll parts + 1
  | .iface _ d => uptoBulk d + 1
  | .map entries => uptoBulkEntries entries + 1
  | .held _ => 1
def uptoBulkAll {H : Type} : List (DataW H) → Nat
  | [] => 0
  | d :: r => uptoBulk d + uptoBulkAll r
def uptoBulkEntries {H : Type} : List (Lit × DataW H) → Nat
  | [] => 0
  | x :: r => uptoBulkEntry x + uptoBulkEntries r
def uptoBulkEntry {H : Type} : Lit × DataW H → Nat
  | (.string bytes, d) => bytes.length + uptoBulk d + 1
  | (_, d) => uptoBulk d + 1
 end
def uptoSmall : (H : Type) → List (DataW H) → Bool := fun _ ds => decide (uptoBulkAll ds ≤ 1048576)
def OpenSpec.upto (s : _root_.Go.ChangeSpec) : _root_.Go.OpenSpec := { _root_.Go.OpenSpec.ofChange s with cond := some uptoSmall }

/-- 'bowerlaw07.ArenaPlays', WHERE WHAT IT READS IS OF BULK AT MOST 1048576: true; the input reads as it did. -/
def arenaPlaysUptoRow : OpenClaim := { program := "ytobbdeakocgdcaa", sum := "2d49e3ba9b9d57574cab5d808018ce72709f34ec9fd8175b01bf74a840f056ea", func := "bower/bowerlaw07.ArenaPlays", spec := "arenaPlays", inPlace := ["slices.overlaps[int]"], unfollowed := true, recurses := true, apart := false, narrowed := true }
def ArenaPlaysUptoSaid : Prop := arenaPlaysUptoRow.holds Try.pinned (OpenSpec.upto arenaPlaysSpec)

/-- 'bowerlaw07.ArenaWalks', WHERE WHAT IT READS IS OF BULK AT MOST 1048576: true; the input reads as it did. -/
def arenaWalksUptoRow : OpenClaim := { program := "ytobbdeakocgdcaa", sum := "2d49e3ba9b9d57574cab5d808018ce72709f34ec9fd8175b01bf74a840f056ea", func := "bower/bowerlaw07.ArenaWalks", spec := "arenaWalks", inPlace := ["slices.overlaps[int]"], unfollowed := true, recurses := true, apart := false, narrowed := true }
def ArenaWalksUptoSaid : Prop := arenaWalksUptoRow.holds Try.pinned (OpenSpec.upto arenaWalksSpec)

/-- 'bowerlaw07.ArenaTree', WHERE WHAT IT READS IS OF BULK AT MOST 1048576: true; the input reads as it did. -/
def arenaTreeUptoRow : OpenClaim := { program := "ytobbdeakocgdcaa", sum := "2d49e3ba9b9d57574cab5d808018ce72709f34ec9fd8175b01bf74a840f056ea", func := "bower/bowerlaw07.ArenaTree", spec := "arenaTree", inPlace := ["slices.overlaps[int]"], unfollowed := true, recurses := true, apart := false, narrowed := true }
def ArenaTreeUptoSaid : Prop := arenaTreeUptoRow.holds Try.pinned (OpenSpec.upto arenaTreeSpec)

/-- 'bowerlaw07.ArenaNone', WHERE WHAT IT READS IS OF BULK AT MOST 1048576: true; the input reads as it did. -/
def arenaNoneUptoRow : OpenClaim := { program := "ytobbdeakocgdcaa", sum := "2d49e3ba9b9d57574cab5d808018ce72709f34ec9fd8175b01bf74a840f056ea", func := "bower/bowerlaw07.ArenaNone", spec := "arenaNone", inPlace := ["slices.overlaps[int]"], unfollowed := true, recurses := true, apart := false, narrowed := true }
def ArenaNoneUptoSaid : Prop := arenaNoneUptoRow.holds Try.pinned (OpenSpec.upto arenaNoneSpec)

/-- 'bowerlaw07.ArenaKnown', WHERE WHAT IT READS IS OF BULK AT MOST 1048576: true; the input reads as it did. -/
def arenaKnownUptoRow : OpenClaim := { program := "ytobbdeakocgdcaa", sum := "2d49e3ba9b9d57574cab5d808018ce72709f34ec9fd8175b01bf74a840f056ea", func := "bower/bowerlaw07.ArenaKnown", spec := "arenaKnown", inPlace := ["slices.overlaps[int]"], unfollowed := true, recurses := true, apart := false, narrowed := true }
def ArenaKnownUptoSaid : Prop := arenaKnownUptoRow.holds Try.pinned (OpenSpec.upto arenaKnownSpec)

end Rows
end Go.Proofs.Ytobbdeakocgdcaa
