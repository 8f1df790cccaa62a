/-
  DERIVED. GIVEN WITH THE SEED: THE CARDS: each row of YtejhefmcinohhaaGreatDoorRows.lean that lists a variable, with what it lists TIED to the program's text (the seventh form; the later family's looks); each row that meets fmt, with fmt's text TOLD by the authors' own Lean function (tested against real Go, not proved from fmt's source: count such statements apart). THE CARD IS WHAT COUNTS. Prove the row's statement (the work); the ties are given (YtejhefmcinohhaaGreatDoorTie.lean); close each card by the builder's one call (the guide's Derived/Test/ToyasCard.lean, 'card_holds'). Laid BY PROGRAM, IN A SANDBOX (cutbox-door.mjs). By AI agents, Wed Nov 11 2026. No macro, syntax, notation, axiom, sorry.
-/
import Derived.Test.YtejhefmcinohhaaGreatDoorRows
import GoSem.ClaimSeven
namespace Go.Proofs.YtejhefmcinohhaaGreatDoor
namespace Rows

/-- THE TIED CARD OF 'gazetteerlaw02.TreeMatchesReference'. -/
def treeMatchesReferenceCard : Claim7 := { stood := { row := treeMatchesReferenceRow, standIns := [], harness := (true, "c934db4fd94827b9f13a44d574ca97ae7237ebe82b6ebc5a95ce75ed8a696b69"), looks := false }, kinds := [], alts := [], laidByText := true, laidKinds := [.data, .data, .data, .data, .pinned], laidTests := true, laidLooks := .later }
def TreeMatchesReferenceCardSaid : Prop := Claim7.holds Tryz.pinned (.plain (OpenSpec.ofChange treeMatchesReferenceSpec)) treeMatchesReferenceCard

/-- THE SECOND FORM's CARD OF 'gazetteerlaw02.TreeMatchesReference'. -/
def treeMatchesReferenceUptoCard : Claim7 := { stood := { row := treeMatchesReferenceUptoRow, standIns := [], harness := (true, "c934db4fd94827b9f13a44d574ca97ae7237ebe82b6ebc5a95ce75ed8a696b69"), looks := false }, kinds := [], alts := [], laidByText := true, laidKinds := [.data, .data, .data, .data, .pinned], laidTests := true, laidLooks := .later }
def TreeMatchesReferenceUptoCardSaid : Prop := Claim7.holds Tryz.pinned (.plain (OpenSpec.upto treeMatchesReferenceSpec)) treeMatchesReferenceUptoCard
end Rows
end Go.Proofs.YtejhefmcinohhaaGreatDoor
