/-
  No cell of these rows narrows 'for every input' (looked for: loops, veiled, ifaces, maps, wideKeys, modest, calm, conditions, laid).
  DERIVED. THE GIVEN ROWS OF THIS SEAT. 8 by the template 'for every input the law returns true; each argument reads behind the call as it read before'; 0 by the template 'total and deterministic' (their statements: YthdmkkddhhbbgaaTotals.lean).
  GIVEN WITH THE SEED: the statements are not yours to turn. If you find one false, say at which input.
  Laid BY PROGRAM, IN A SANDBOX (cutbox-rows.mjs): the forced cells as the released guide's own fill.sh prints them over the translation 861b99187d014f84… (all of the seat's roots in one cut). By AI agents, Wed Nov 11 2026. No macro, syntax, notation, axiom, sorry.
-/
import Derived.Test.YthdmkkddhhbbgaaChecked
import GoSem.Claim
import GoSem.ClaimJoined
import GoSem.ClaimMapViews
import Derived.JoinedTies
import Derived.KernelRfl
namespace Go.Proofs.Ythdmkkddhhbbgaa
/- THE CELL 'sum', in the pinned program and in every row, IS THE sha256 OF THE DUMP (.gsa) THAT YthdmkkddhhbbgaaProg.lean LOADS. Nothing in Lean hashes anything: it is a label: what it is worth is what the hold of that sum in a sandbox is worth. -/
noncomputable def Try.pinned : Pinned := { name := "ythdmkkddhhbbgaa", sum := "861b99187d014f847093c728dacfe68c8bcd632578cc8be13e65980d8f9a32ad", checked := Try.checked }
namespace Rows
def none {H : Type} : Left H := { results := [], args := [] }

/-- 'gazetteerlaw07.GeomMatchesReference': WHATEVER THE INPUT: true; the input reads as it did. -/
def geomMatchesReferenceSpec : ChangeSpec := { name := "geomMatchesReference", fn := fun _ => fun
  | [d1, d2, d3, d4] => { results := [.lit (.bool true)], args := [d1, d2, d3, d4] }
  | _ => none }
def geomMatchesReferenceRow : OpenClaim := { program := "ythdmkkddhhbbgaa", sum := "861b99187d014f847093c728dacfe68c8bcd632578cc8be13e65980d8f9a32ad", func := "gazetteer/gazetteerlaw07.GeomMatchesReference", spec := "geomMatchesReference", unfollowed := true, recurses := true, apart := false }
def GeomMatchesReferenceSaid : Prop := geomMatchesReferenceRow.holds Try.pinned (OpenSpec.ofChange geomMatchesReferenceSpec)

/-- ITS FALSE NEIGHBOUR: 'it returns false'. Refute it at one input. -/
def geomMatchesReferenceWrong : ChangeSpec := { name := "geomMatchesReference", fn := fun _ => fun
  | [d1, d2, d3, d4] => { results := [.lit (.bool false)], args := [d1, d2, d3, d4] }
  | _ => none }
def GeomMatchesReferenceWrongFalsely : Prop := geomMatchesReferenceRow.holds Try.pinned (OpenSpec.ofChange geomMatchesReferenceWrong)

/-- 'gazetteerlaw07.GeomTurns': WHATEVER THE INPUT: true; the input reads as it did. -/
def geomTurnsSpec : ChangeSpec := { name := "geomTurns", fn := fun _ => fun
  | [d1, d2, d3] => { results := [.lit (.bool true)], args := [d1, d2, d3] }
  | _ => none }
def geomTurnsRow : OpenClaim := { program := "ythdmkkddhhbbgaa", sum := "861b99187d014f847093c728dacfe68c8bcd632578cc8be13e65980d8f9a32ad", func := "gazetteer/gazetteerlaw07.GeomTurns", spec := "geomTurns", unfollowed := true, recurses := true, apart := false }
def GeomTurnsSaid : Prop := geomTurnsRow.holds Try.pinned (OpenSpec.ofChange geomTurnsSpec)

/-- ITS FALSE NEIGHBOUR: 'it returns false'. Refute it at one input. -/
def geomTurnsWrong : ChangeSpec := { name := "geomTurns", fn := fun _ => fun
  | [d1, d2, d3] => { results := [.lit (.bool false)], args := [d1, d2, d3] }
  | _ => none }
def GeomTurnsWrongFalsely : Prop := geomTurnsRow.holds Try.pinned (OpenSpec.ofChange geomTurnsWrong)

/-- 'gazetteerlaw07.GeomDistances': WHATEVER THE INPUT: true; the input reads as it did. -/
def geomDistancesSpec : ChangeSpec := { name := "geomDistances", fn := fun _ => fun
  | [d1, d2, d3] => { results := [.lit (.bool true)], args := [d1, d2, d3] }
  | _ => none }
def geomDistancesRow : OpenClaim := { program := "ythdmkkddhhbbgaa", sum := "861b99187d014f847093c728dacfe68c8bcd632578cc8be13e65980d8f9a32ad", func := "gazetteer/gazetteerlaw07.GeomDistances", spec := "geomDistances", unfollowed := true, recurses := true, apart := false }
def GeomDistancesSaid : Prop := geomDistancesRow.holds Try.pinned (OpenSpec.ofChange geomDistancesSpec)

/-- ITS FALSE NEIGHBOUR: 'it returns false'. Refute it at one input. -/
def geomDistancesWrong : ChangeSpec := { name := "geomDistances", fn := fun _ => fun
  | [d1, d2, d3] => { results := [.lit (.bool false)], args := [d1, d2, d3] }
  | _ => none }
def GeomDistancesWrongFalsely : Prop := geomDistancesRow.holds Try.pinned (OpenSpec.ofChange geomDistancesWrong)

/-- 'gazetteerlaw07.GeomBetween': WHATEVER THE INPUT: true; the input reads as it did. -/
def geomBetweenSpec : ChangeSpec := { name := "geomBetween", fn := fun _ => fun
  | [d1, d2, d3] => { results := [.lit (.bool true)], args := [d1, d2, d3] }
  | _ => none }
def geomBetweenRow : OpenClaim := { program := "ythdmkkddhhbbgaa", sum := "861b99187d014f847093c728dacfe68c8bcd632578cc8be13e65980d8f9a32ad", func := "gazetteer/gazetteerlaw07.GeomBetween", spec := "geomBetween", unfollowed := true, recurses := true, apart := false }
def GeomBetweenSaid : Prop := geomBetweenRow.holds Try.pinned (OpenSpec.ofChange geomBetweenSpec)

/-- ITS FALSE NEIGHBOUR: 'it returns false'. Refute it at one input. -/
def geomBetweenWrong : ChangeSpec := { name := "geomBetween", fn := fun _ => fun
  | [d1, d2, d3] => { results := [.lit (.bool false)], args := [d1, d2, d3] }
  | _ => none }
def GeomBetweenWrongFalsely : Prop := geomBetweenRow.holds Try.pinned (OpenSpec.ofChange geomBetweenWrong)

/-- 'gazetteerlaw07.GeomCrossings': WHATEVER THE INPUT: true; the input reads as it did. -/
def geomCrossingsSpec : ChangeSpec := { name := "geomCrossings", fn := fun _ => fun
  | [d1, d2, d3, d4] => { results := [.lit (.bool true)], args := [d1, d2, d3, d4] }
  | _ => none }
def geomCrossingsRow : OpenClaim := { program := "ythdmkkddhhbbgaa", sum := "861b99187d014f847093c728dacfe68c8bcd632578cc8be13e65980d8f9a32ad", func := "gazetteer/gazetteerlaw07.GeomCrossings", spec := "geomCrossings", unfollowed := true, recurses := true, apart := false }
def GeomCrossingsSaid : Prop := geomCrossingsRow.holds Try.pinned (OpenSpec.ofChange geomCrossingsSpec)

/-- ITS FALSE NEIGHBOUR: 'it returns false'. Refute it at one input. -/
def geomCrossingsWrong : ChangeSpec := { name := "geomCrossings", fn := fun _ => fun
  | [d1, d2, d3, d4] => { results := [.lit (.bool false)], args := [d1, d2, d3, d4] }
  | _ => none }
def GeomCrossingsWrongFalsely : Prop := geomCrossingsRow.holds Try.pinned (OpenSpec.ofChange geomCrossingsWrong)

/-- 'gazetteerlaw07.GeomMoves': WHATEVER THE INPUT: true; the input reads as it did. -/
def geomMovesSpec : ChangeSpec := { name := "geomMoves", fn := fun _ => fun
  | [d1, d2, d3, d4, d5, d6] => { results := [.lit (.bool true)], args := [d1, d2, d3, d4, d5, d6] }
  | _ => none }
def geomMovesRow : OpenClaim := { program := "ythdmkkddhhbbgaa", sum := "861b99187d014f847093c728dacfe68c8bcd632578cc8be13e65980d8f9a32ad", func := "gazetteer/gazetteerlaw07.GeomMoves", spec := "geomMoves", unfollowed := true, recurses := true, apart := false }
def GeomMovesSaid : Prop := geomMovesRow.holds Try.pinned (OpenSpec.ofChange geomMovesSpec)

/-- ITS FALSE NEIGHBOUR: 'it returns false'. Refute it at one input. -/
def geomMovesWrong : ChangeSpec := { name := "geomMoves", fn := fun _ => fun
  | [d1, d2, d3, d4, d5, d6] => { results := [.lit (.bool false)], args := [d1, d2, d3, d4, d5, d6] }
  | _ => none }
def GeomMovesWrongFalsely : Prop := geomMovesRow.holds Try.pinned (OpenSpec.ofChange geomMovesWrong)

/-- 'gazetteerlaw07.GeomNearest': WHATEVER THE INPUT: true; the input reads as it did. -/
def geomNearestSpec : ChangeSpec := { name := "geomNearest", fn := fun _ => fun
  | [d1, d2, d3, d4] => { results := [.lit (.bool true)], args := [d1, d2, d3, d4] }
  | _ => none }
def geomNearestRow : OpenClaim := { program := "ythdmkkddhhbbgaa", sum := "861b99187d014f847093c728dacfe68c8bcd632578cc8be13e65980d8f9a32ad", func := "gazetteer/gazetteerlaw07.GeomNearest", spec := "geomNearest", unfollowed := true, recurses := true, apart := false }
def GeomNearestSaid : Prop := geomNearestRow.holds Try.pinned (OpenSpec.ofChange geomNearestSpec)

/-- ITS FALSE NEIGHBOUR: 'it returns false'. Refute it at one input. -/
def geomNearestWrong : ChangeSpec := { name := "geomNearest", fn := fun _ => fun
  | [d1, d2, d3, d4] => { results := [.lit (.bool false)], args := [d1, d2, d3, d4] }
  | _ => none }
def GeomNearestWrongFalsely : Prop := geomNearestRow.holds Try.pinned (OpenSpec.ofChange geomNearestWrong)

/-- 'gazetteerlaw07.GeomFeet': WHATEVER THE INPUT: true; the input reads as it did. -/
def geomFeetSpec : ChangeSpec := { name := "geomFeet", fn := fun _ => fun
  | [d1, d2, d3] => { results := [.lit (.bool true)], args := [d1, d2, d3] }
  | _ => none }
def geomFeetRow : OpenClaim := { program := "ythdmkkddhhbbgaa", sum := "861b99187d014f847093c728dacfe68c8bcd632578cc8be13e65980d8f9a32ad", func := "gazetteer/gazetteerlaw07.GeomFeet", spec := "geomFeet", inPlace := ["math/bits.Add64", "math/bits.Sub64"], unfollowed := true, recurses := true, named := ["math/bits.divideError", "math/bits.overflowError"], apart := false }
def GeomFeetSaid : Prop := geomFeetRow.holds Try.pinned (OpenSpec.ofChange geomFeetSpec)

/-- ITS FALSE NEIGHBOUR: 'it returns false'. Refute it at one input. -/
def geomFeetWrong : ChangeSpec := { name := "geomFeet", fn := fun _ => fun
  | [d1, d2, d3] => { results := [.lit (.bool false)], args := [d1, d2, d3] }
  | _ => none }
def GeomFeetWrongFalsely : Prop := geomFeetRow.holds Try.pinned (OpenSpec.ofChange geomFeetWrong)

/- THE SECOND FORM. 'bulk': how many values and letters a reading holds, each counted each time it is reached (what is shared counts as often as it is met; a slice's spare places count too). A statement '..UptoSaid' is the law's where the arguments, and the package variables that the reading takes, are together of bulk at most 1048576: NARROWER than '..Said'. Prove '..Said' where nothing that the law and all that it calls make is longer than what came in: it says more and counts as full. Else prove '..UptoSaid'. A law counts once. -/
mutual
def uptoBulk {H : Type} : DataW H → Nat
  | .lit (.string bytes) => bytes.length + 1
  | .lit _ => 1
  | .nil => 1
  | .ptr d => uptoBulk d + 1
  | .slice elems spare => uptoBulkAll elems + uptoBulkAll spare + 1
  | .agg parts => uptoBulkAll parts + 1
  | .iface _ d => uptoBulk d + 1
  | .map entries => uptoBulkEntries entries + 1
  | .held _ => 1
def uptoBulkAll {H : Type} : List (DataW H) → Nat
  | [] => 0
  | d :: r => uptoBulk d + uptoBulkAll r
def uptoBulkEntries {H : Type} : List (Lit × DataW H) → Nat
  | [] => 0
  | x :: r => uptoBulkEntry x + uptoBulkEntries r
def uptoBulkEntry {H : Type} : Lit × DataW H → Nat
  | (.string bytes, d) => bytes.length + uptoBulk d + 1
  | (_, d) => uptoBulk d + 1
 end
def uptoSmall : (H : Type) → List (DataW H) → Bool := fun _ ds => decide (uptoBulkAll ds ≤ 1048576)
def OpenSpec.upto (s : _root_.Go.ChangeSpec) : _root_.Go.OpenSpec := { _root_.Go.OpenSpec.ofChange s with cond := some uptoSmall }

/-- 'gazetteerlaw07.GeomMatchesReference', WHERE WHAT IT READS IS OF BULK AT MOST 1048576: true; the input reads as it did. -/
def geomMatchesReferenceUptoRow : OpenClaim := { program := "ythdmkkddhhbbgaa", sum := "861b99187d014f847093c728dacfe68c8bcd632578cc8be13e65980d8f9a32ad", func := "gazetteer/gazetteerlaw07.GeomMatchesReference", spec := "geomMatchesReference", unfollowed := true, recurses := true, apart := false, narrowed := true }
def GeomMatchesReferenceUptoSaid : Prop := geomMatchesReferenceUptoRow.holds Try.pinned (OpenSpec.upto geomMatchesReferenceSpec)

/-- 'gazetteerlaw07.GeomTurns', WHERE WHAT IT READS IS OF BULK AT MOST 1048576: true; the input reads as it did. -/
def geomTurnsUptoRow : OpenClaim := { program := "ythdmkkddhhbbgaa", sum := "861b99187d014f847093c728dacfe68c8bcd632578cc8be13e65980d8f9a32ad", func := "gazetteer/gazetteerlaw07.GeomTurns", spec := "geomTurns", unfollowed := true, recurses := true, apart := false, narrowed := true }
def GeomTurnsUptoSaid : Prop := geomTurnsUptoRow.holds Try.pinned (OpenSpec.upto geomTurnsSpec)

/-- 'gazetteerlaw07.GeomDistances', WHERE WHAT IT READS IS OF BULK AT MOST 1048576: true; the input reads as it did. -/
def geomDistancesUptoRow : OpenClaim := { program := "ythdmkkddhhbbgaa", sum := "861b99187d014f847093c728dacfe68c8bcd632578cc8be13e65980d8f9a32ad", func := "gazetteer/gazetteerlaw07.GeomDistances", spec := "geomDistances", unfollowed := true, recurses := true, apart := false, narrowed := true }
def GeomDistancesUptoSaid : Prop := geomDistancesUptoRow.holds Try.pinned (OpenSpec.upto geomDistancesSpec)

/-- 'gazetteerlaw07.GeomBetween', WHERE WHAT IT READS IS OF BULK AT MOST 1048576: true; the input reads as it did. -/
def geomBetweenUptoRow : OpenClaim := { program := "ythdmkkddhhbbgaa", sum := "861b99187d014f847093c728dacfe68c8bcd632578cc8be13e65980d8f9a32ad", func := "gazetteer/gazetteerlaw07.GeomBetween", spec := "geomBetween", unfollowed := true, recurses := true, apart := false, narrowed := true }
def GeomBetweenUptoSaid : Prop := geomBetweenUptoRow.holds Try.pinned (OpenSpec.upto geomBetweenSpec)

/-- 'gazetteerlaw07.GeomCrossings', WHERE WHAT IT READS IS OF BULK AT MOST 1048576: true; the input reads as it did. -/
def geomCrossingsUptoRow : OpenClaim := { program := "ythdmkkddhhbbgaa", sum := "861b99187d014f847093c728dacfe68c8bcd632578cc8be13e65980d8f9a32ad", func := "gazetteer/gazetteerlaw07.GeomCrossings", spec := "geomCrossings", unfollowed := true, recurses := true, apart := false, narrowed := true }
def GeomCrossingsUptoSaid : Prop := geomCrossingsUptoRow.holds Try.pinned (OpenSpec.upto geomCrossingsSpec)

/-- 'gazetteerlaw07.GeomMoves', WHERE WHAT IT READS IS OF BULK AT MOST 1048576: true; the input reads as it did. -/
def geomMovesUptoRow : OpenClaim := { program := "ythdmkkddhhbbgaa", sum := "861b99187d014f847093c728dacfe68c8bcd632578cc8be13e65980d8f9a32ad", func := "gazetteer/gazetteerlaw07.GeomMoves", spec := "geomMoves", unfollowed := true, recurses := true, apart := false, narrowed := true }
def GeomMovesUptoSaid : Prop := geomMovesUptoRow.holds Try.pinned (OpenSpec.upto geomMovesSpec)

/-- 'gazetteerlaw07.GeomNearest', WHERE WHAT IT READS IS OF BULK AT MOST 1048576: true; the input reads as it did. -/
def geomNearestUptoRow : OpenClaim := { program := "ythdmkkddhhbbgaa", sum := "861b99187d014f847093c728dacfe68c8bcd632578cc8be13e65980d8f9a32ad", func := "gazetteer/gazetteerlaw07.GeomNearest", spec := "geomNearest", unfollowed := true, recurses := true, apart := false, narrowed := true }
def GeomNearestUptoSaid : Prop := geomNearestUptoRow.holds Try.pinned (OpenSpec.upto geomNearestSpec)

/-- 'gazetteerlaw07.GeomFeet', WHERE WHAT IT READS IS OF BULK AT MOST 1048576: true; the input reads as it did. -/
def geomFeetUptoRow : OpenClaim := { program := "ythdmkkddhhbbgaa", sum := "861b99187d014f847093c728dacfe68c8bcd632578cc8be13e65980d8f9a32ad", func := "gazetteer/gazetteerlaw07.GeomFeet", spec := "geomFeet", inPlace := ["math/bits.Add64", "math/bits.Sub64"], unfollowed := true, recurses := true, named := ["math/bits.divideError", "math/bits.overflowError"], apart := false, narrowed := true }
def GeomFeetUptoSaid : Prop := geomFeetUptoRow.holds Try.pinned (OpenSpec.upto geomFeetSpec)

end Rows
end Go.Proofs.Ythdmkkddhhbbgaa
