/-
  No cell of these rows narrows 'for every input' (looked for: loops, veiled, ifaces, maps, wideKeys, modest, calm, conditions, laid).
  DERIVED. THE GIVEN ROWS OF THIS SEAT. 7 by the template 'for every input the law returns true; each argument reads behind the call as it read before'; 0 by the template 'total and deterministic' (their statements: YtjeapimjgojpoaaTotals.lean).
  GIVEN WITH THE SEED: the statements are not yours to turn. If you find one false, say at which input.
  Laid BY PROGRAM, IN A SANDBOX (cutbox-rows.mjs): the forced cells as the released guide's own fill.sh prints them over the translation faaa3bb90c592d47… (all of the seat's roots in one cut). By AI agents, Wed Nov 11 2026. No macro, syntax, notation, axiom, sorry.
-/
import Derived.Test.YtjeapimjgojpoaaChecked
import GoSem.Claim
import GoSem.ClaimJoined
import GoSem.ClaimMapViews
import Derived.JoinedTies
import Derived.KernelRfl
namespace Go.Proofs.Ytjeapimjgojpoaa
/- THE CELL 'sum', in the pinned program and in every row, IS THE sha256 OF THE DUMP (.gsa) THAT YtjeapimjgojpoaaProg.lean LOADS. Nothing in Lean hashes anything: it is a label: what it is worth is what the hold of that sum in a sandbox is worth. -/
noncomputable def Try.pinned : Pinned := { name := "ytjeapimjgojpoaa", sum := "faaa3bb90c592d4794ae487f8ec47d34835fe17348b318970a24da2a8ff804ac", checked := Try.checked }
namespace Rows
def none {H : Type} : Left H := { results := [], args := [] }

/-- 'gazetteerlaw09.LineNearestAsReference': WHATEVER THE INPUT: true; the input reads as it did. -/
def lineNearestAsReferenceSpec : ChangeSpec := { name := "lineNearestAsReference", fn := fun _ => fun
  | [d1, d2] => { results := [.lit (.bool true)], args := [d1, d2] }
  | _ => none }
def lineNearestAsReferenceRow : OpenClaim := { program := "ytjeapimjgojpoaa", sum := "faaa3bb90c592d4794ae487f8ec47d34835fe17348b318970a24da2a8ff804ac", func := "gazetteer/gazetteerlaw09.LineNearestAsReference", spec := "lineNearestAsReference", unfollowed := true, recurses := true, apart := false }
def LineNearestAsReferenceSaid : Prop := lineNearestAsReferenceRow.holds Try.pinned (OpenSpec.ofChange lineNearestAsReferenceSpec)

/-- ITS FALSE NEIGHBOUR: 'it returns false'. Refute it at one input. -/
def lineNearestAsReferenceWrong : ChangeSpec := { name := "lineNearestAsReference", fn := fun _ => fun
  | [d1, d2] => { results := [.lit (.bool false)], args := [d1, d2] }
  | _ => none }
def LineNearestAsReferenceWrongFalsely : Prop := lineNearestAsReferenceRow.holds Try.pinned (OpenSpec.ofChange lineNearestAsReferenceWrong)

/-- 'gazetteerlaw09.LineOrder': WHATEVER THE INPUT: true; the input reads as it did. -/
def lineOrderSpec : ChangeSpec := { name := "lineOrder", fn := fun _ => fun
  | [d1, d2, d3] => { results := [.lit (.bool true)], args := [d1, d2, d3] }
  | _ => none }
def lineOrderRow : OpenClaim := { program := "ytjeapimjgojpoaa", sum := "faaa3bb90c592d4794ae487f8ec47d34835fe17348b318970a24da2a8ff804ac", func := "gazetteer/gazetteerlaw09.LineOrder", spec := "lineOrder", unfollowed := true, recurses := true, apart := false }
def LineOrderSaid : Prop := lineOrderRow.holds Try.pinned (OpenSpec.ofChange lineOrderSpec)

/-- ITS FALSE NEIGHBOUR: 'it returns false'. Refute it at one input. -/
def lineOrderWrong : ChangeSpec := { name := "lineOrder", fn := fun _ => fun
  | [d1, d2, d3] => { results := [.lit (.bool false)], args := [d1, d2, d3] }
  | _ => none }
def LineOrderWrongFalsely : Prop := lineOrderRow.holds Try.pinned (OpenSpec.ofChange lineOrderWrong)

/-- 'gazetteerlaw09.LineSeveral': WHATEVER THE INPUT: true; the input reads as it did. -/
def lineSeveralSpec : ChangeSpec := { name := "lineSeveral", fn := fun _ => fun
  | [d1, d2, d3] => { results := [.lit (.bool true)], args := [d1, d2, d3] }
  | _ => none }
def lineSeveralRow : OpenClaim := { program := "ytjeapimjgojpoaa", sum := "faaa3bb90c592d4794ae487f8ec47d34835fe17348b318970a24da2a8ff804ac", func := "gazetteer/gazetteerlaw09.LineSeveral", spec := "lineSeveral", unfollowed := true, recurses := true, apart := false }
def LineSeveralSaid : Prop := lineSeveralRow.holds Try.pinned (OpenSpec.ofChange lineSeveralSpec)

/-- ITS FALSE NEIGHBOUR: 'it returns false'. Refute it at one input. -/
def lineSeveralWrong : ChangeSpec := { name := "lineSeveral", fn := fun _ => fun
  | [d1, d2, d3] => { results := [.lit (.bool false)], args := [d1, d2, d3] }
  | _ => none }
def LineSeveralWrongFalsely : Prop := lineSeveralRow.holds Try.pinned (OpenSpec.ofChange lineSeveralWrong)

/-- 'gazetteerlaw09.LineIsNearest': WHATEVER THE INPUT: true; the input reads as it did. -/
def lineIsNearestSpec : ChangeSpec := { name := "lineIsNearest", fn := fun _ => fun
  | [d1, d2] => { results := [.lit (.bool true)], args := [d1, d2] }
  | _ => none }
def lineIsNearestRow : OpenClaim := { program := "ytjeapimjgojpoaa", sum := "faaa3bb90c592d4794ae487f8ec47d34835fe17348b318970a24da2a8ff804ac", func := "gazetteer/gazetteerlaw09.LineIsNearest", spec := "lineIsNearest", unfollowed := true, recurses := true, apart := false }
def LineIsNearestSaid : Prop := lineIsNearestRow.holds Try.pinned (OpenSpec.ofChange lineIsNearestSpec)

/-- ITS FALSE NEIGHBOUR: 'it returns false'. Refute it at one input. -/
def lineIsNearestWrong : ChangeSpec := { name := "lineIsNearest", fn := fun _ => fun
  | [d1, d2] => { results := [.lit (.bool false)], args := [d1, d2] }
  | _ => none }
def LineIsNearestWrongFalsely : Prop := lineIsNearestRow.holds Try.pinned (OpenSpec.ofChange lineIsNearestWrong)

/-- 'gazetteerlaw09.LineDivides': WHATEVER THE INPUT: true; the input reads as it did. -/
def lineDividesSpec : ChangeSpec := { name := "lineDivides", fn := fun _ => fun
  | [d1, d2, d3] => { results := [.lit (.bool true)], args := [d1, d2, d3] }
  | _ => none }
def lineDividesRow : OpenClaim := { program := "ytjeapimjgojpoaa", sum := "faaa3bb90c592d4794ae487f8ec47d34835fe17348b318970a24da2a8ff804ac", func := "gazetteer/gazetteerlaw09.LineDivides", spec := "lineDivides", unfollowed := true, recurses := true, apart := false }
def LineDividesSaid : Prop := lineDividesRow.holds Try.pinned (OpenSpec.ofChange lineDividesSpec)

/-- ITS FALSE NEIGHBOUR: 'it returns false'. Refute it at one input. -/
def lineDividesWrong : ChangeSpec := { name := "lineDivides", fn := fun _ => fun
  | [d1, d2, d3] => { results := [.lit (.bool false)], args := [d1, d2, d3] }
  | _ => none }
def LineDividesWrongFalsely : Prop := lineDividesRow.holds Try.pinned (OpenSpec.ofChange lineDividesWrong)

/-- 'gazetteerlaw09.LineMatchesReference': WHATEVER THE INPUT: true; the input reads as it did. -/
def lineMatchesReferenceSpec : ChangeSpec := { name := "lineMatchesReference", fn := fun _ => fun
  | [d1, d2, d3, d4] => { results := [.lit (.bool true)], args := [d1, d2, d3, d4] }
  | _ => none }
def lineMatchesReferenceRow : OpenClaim := { program := "ytjeapimjgojpoaa", sum := "faaa3bb90c592d4794ae487f8ec47d34835fe17348b318970a24da2a8ff804ac", func := "gazetteer/gazetteerlaw09.LineMatchesReference", spec := "lineMatchesReference", unfollowed := true, recurses := true, apart := false }
def LineMatchesReferenceSaid : Prop := lineMatchesReferenceRow.holds Try.pinned (OpenSpec.ofChange lineMatchesReferenceSpec)

/-- ITS FALSE NEIGHBOUR: 'it returns false'. Refute it at one input. -/
def lineMatchesReferenceWrong : ChangeSpec := { name := "lineMatchesReference", fn := fun _ => fun
  | [d1, d2, d3, d4] => { results := [.lit (.bool false)], args := [d1, d2, d3, d4] }
  | _ => none }
def LineMatchesReferenceWrongFalsely : Prop := lineMatchesReferenceRow.holds Try.pinned (OpenSpec.ofChange lineMatchesReferenceWrong)

/-- 'gazetteerlaw09.LineTurns': WHATEVER THE INPUT: true; the input reads as it did. -/
def lineTurnsSpec : ChangeSpec := { name := "lineTurns", fn := fun _ => fun
  | [d1, d2] => { results := [.lit (.bool true)], args := [d1, d2] }
  | _ => none }
def lineTurnsRow : OpenClaim := { program := "ytjeapimjgojpoaa", sum := "faaa3bb90c592d4794ae487f8ec47d34835fe17348b318970a24da2a8ff804ac", func := "gazetteer/gazetteerlaw09.LineTurns", spec := "lineTurns", inPlace := ["math/bits.Add64", "math/bits.Sub64"], unfollowed := true, recurses := true, named := ["math/bits.divideError", "math/bits.overflowError"], apart := false }
def LineTurnsSaid : Prop := lineTurnsRow.holds Try.pinned (OpenSpec.ofChange lineTurnsSpec)

/-- ITS FALSE NEIGHBOUR: 'it returns false'. Refute it at one input. -/
def lineTurnsWrong : ChangeSpec := { name := "lineTurns", fn := fun _ => fun
  | [d1, d2] => { results := [.lit (.bool false)], args := [d1, d2] }
  | _ => none }
def LineTurnsWrongFalsely : Prop := lineTurnsRow.holds Try.pinned (OpenSpec.ofChange lineTurnsWrong)

/- THE SECOND FORM. 'bulk': how many values and letters a reading holds, each counted each time it is reached (what is shared counts as often as it is met; a slice's spare places count too). A statement '..UptoSaid' is the law's where the arguments, and the package variables that the reading takes, are together of bulk at most 1048576: NARROWER than '..Said'. Prove '..Said' where nothing that the law and all that it calls make is longer than what came in: it says more and counts as full. Else prove '..UptoSaid'. A law counts once. -/
mutual
def uptoBulk {H : Type} : DataW H → Nat
  | .lit (.string bytes) => bytes.length + 1
  | .lit _ => 1
  | .nil => 1
  | .ptr d => uptoBulk d + 1
  | .slice elems spare => uptoBulkAll elems + uptoBulkAll spare + 1
  | .agg parts => uptoBulkAll parts + 1
  | .iface _ d => uptoBulk d + 1
  | .map entries => uptoBulkEntries entries + 1
  | .held _ => 1
def uptoBulkAll {H : Type} : List (DataW H) → Nat
  | [] => 0
  | d :: r => uptoBulk d + uptoBulkAll r
def uptoBulkEntries {H : Type} : List (Lit × DataW H) → Nat
  | [] => 0
  | x :: r => uptoBulkEntry x + uptoBulkEntries r
def uptoBulkEntry {H : Type} : Lit × DataW H → Nat
  | (.string bytes, d) => bytes.length + uptoBulk d + 1
  | (_, d) => uptoBulk d + 1
 end
def uptoSmall : (H : Type) → List (DataW H) → Bool := fun _ ds => decide (uptoBulkAll ds ≤ 1048576)
def OpenSpec.upto (s : _root_.Go.ChangeSpec) : _root_.Go.OpenSpec := { _root_.Go.OpenSpec.ofChange s with cond := some uptoSmall }

/-- 'gazetteerlaw09.LineNearestAsReference', WHERE WHAT IT READS IS OF BULK AT MOST 1048576: true; the input reads as it did. -/
def lineNearestAsReferenceUptoRow : OpenClaim := { program := "ytjeapimjgojpoaa", sum := "faaa3bb90c592d4794ae487f8ec47d34835fe17348b318970a24da2a8ff804ac", func := "gazetteer/gazetteerlaw09.LineNearestAsReference", spec := "lineNearestAsReference", unfollowed := true, recurses := true, apart := false, narrowed := true }
def LineNearestAsReferenceUptoSaid : Prop := lineNearestAsReferenceUptoRow.holds Try.pinned (OpenSpec.upto lineNearestAsReferenceSpec)

/-- 'gazetteerlaw09.LineOrder', WHERE WHAT IT READS IS OF BULK AT MOST 1048576: true; the input reads as it did. -/
def lineOrderUptoRow : OpenClaim := { program := "ytjeapimjgojpoaa", sum := "faaa3bb90c592d4794ae487f8ec47d34835fe17348b318970a24da2a8ff804ac", func := "gazetteer/gazetteerlaw09.LineOrder", spec := "lineOrder", unfollowed := true, recurses := true, apart := false, narrowed := true }
def LineOrderUptoSaid : Prop := lineOrderUptoRow.holds Try.pinned (OpenSpec.upto lineOrderSpec)

/-- 'gazetteerlaw09.LineSeveral', WHERE WHAT IT READS IS OF BULK AT MOST 1048576: true; the input reads as it did. -/
def lineSeveralUptoRow : OpenClaim := { program := "ytjeapimjgojpoaa", sum := "faaa3bb90c592d4794ae487f8ec47d34835fe17348b318970a24da2a8ff804ac", func := "gazetteer/gazetteerlaw09.LineSeveral", spec := "lineSeveral", unfollowed := true, recurses := true, apart := false, narrowed := true }
def LineSeveralUptoSaid : Prop := lineSeveralUptoRow.holds Try.pinned (OpenSpec.upto lineSeveralSpec)

/-- 'gazetteerlaw09.LineIsNearest', WHERE WHAT IT READS IS OF BULK AT MOST 1048576: true; the input reads as it did. -/
def lineIsNearestUptoRow : OpenClaim := { program := "ytjeapimjgojpoaa", sum := "faaa3bb90c592d4794ae487f8ec47d34835fe17348b318970a24da2a8ff804ac", func := "gazetteer/gazetteerlaw09.LineIsNearest", spec := "lineIsNearest", unfollowed := true, recurses := true, apart := false, narrowed := true }
def LineIsNearestUptoSaid : Prop := lineIsNearestUptoRow.holds Try.pinned (OpenSpec.upto lineIsNearestSpec)

/-- 'gazetteerlaw09.LineDivides', WHERE WHAT IT READS IS OF BULK AT MOST 1048576: true; the input reads as it did. -/
def lineDividesUptoRow : OpenClaim := { program := "ytjeapimjgojpoaa", sum := "faaa3bb90c592d4794ae487f8ec47d34835fe17348b318970a24da2a8ff804ac", func := "gazetteer/gazetteerlaw09.LineDivides", spec := "lineDivides", unfollowed := true, recurses := true, apart := false, narrowed := true }
def LineDividesUptoSaid : Prop := lineDividesUptoRow.holds Try.pinned (OpenSpec.upto lineDividesSpec)

/-- 'gazetteerlaw09.LineMatchesReference', WHERE WHAT IT READS IS OF BULK AT MOST 1048576: true; the input reads as it did. -/
def lineMatchesReferenceUptoRow : OpenClaim := { program := "ytjeapimjgojpoaa", sum := "faaa3bb90c592d4794ae487f8ec47d34835fe17348b318970a24da2a8ff804ac", func := "gazetteer/gazetteerlaw09.LineMatchesReference", spec := "lineMatchesReference", unfollowed := true, recurses := true, apart := false, narrowed := true }
def LineMatchesReferenceUptoSaid : Prop := lineMatchesReferenceUptoRow.holds Try.pinned (OpenSpec.upto lineMatchesReferenceSpec)

/-- 'gazetteerlaw09.LineTurns', WHERE WHAT IT READS IS OF BULK AT MOST 1048576: true; the input reads as it did. -/
def lineTurnsUptoRow : OpenClaim := { program := "ytjeapimjgojpoaa", sum := "faaa3bb90c592d4794ae487f8ec47d34835fe17348b318970a24da2a8ff804ac", func := "gazetteer/gazetteerlaw09.LineTurns", spec := "lineTurns", inPlace := ["math/bits.Add64", "math/bits.Sub64"], unfollowed := true, recurses := true, named := ["math/bits.divideError", "math/bits.overflowError"], apart := false, narrowed := true }
def LineTurnsUptoSaid : Prop := lineTurnsUptoRow.holds Try.pinned (OpenSpec.upto lineTurnsSpec)

end Rows
end Go.Proofs.Ytjeapimjgojpoaa
