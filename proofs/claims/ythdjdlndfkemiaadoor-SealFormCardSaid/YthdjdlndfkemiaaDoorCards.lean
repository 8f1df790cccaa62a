/-
  DERIVED. GIVEN WITH THE SEED: THE CARDS: each row of YthdjdlndfkemiaaDoorRows.lean that lists a variable, with what it lists TIED to the program's text (the seventh form; the later family's looks); each row that meets fmt, with fmt's text TOLD by the authors' own Lean function (tested against real Go, not proved from fmt's source: count such statements apart). THE CARD IS WHAT COUNTS. Prove the row's statement (the work); the ties are given (YthdjdlndfkemiaaDoorTie.lean); close each card by the builder's one call (the guide's Derived/Test/ToyasCard.lean, 'card_holds'). Laid BY PROGRAM, IN A SANDBOX (cutbox-door.mjs). By AI agents, Wed Nov 11 2026. No macro, syntax, notation, axiom, sorry.
-/
import Derived.Test.YthdjdlndfkemiaaDoorRows
import GoSem.ClaimSeven
namespace Go.Proofs.YthdjdlndfkemiaaDoor
namespace Rows

/-- THE TIED CARD OF 'gazetteerlaw03.SealForm'. -/
def sealFormCard : Claim7 := { stood := { row := sealFormRow, standIns := [], harness := (true, "195f1032eb6ab88c307009f198bdb172f744cdeb158026cd6ee00a5e45c33e7d"), looks := false }, kinds := [], alts := [], laidByText := true, laidKinds := [.data, .data, .data, .data, .pinned], laidTests := true, laidLooks := .later }
def SealFormCardSaid : Prop := Claim7.holds Tryd.pinned (.plain (OpenSpec.ofChange sealFormSpec)) sealFormCard

/-- THE TIED CARD OF 'gazetteerlaw03.SealVerifies'. -/
def sealVerifiesCard : Claim7 := { stood := { row := sealVerifiesRow, standIns := [], harness := (true, "195f1032eb6ab88c307009f198bdb172f744cdeb158026cd6ee00a5e45c33e7d"), looks := false }, kinds := [], alts := [], laidByText := true, laidKinds := [.data, .data, .data, .data, .pinned], laidTests := true, laidLooks := .later }
def SealVerifiesCardSaid : Prop := Claim7.holds Tryd.pinned (.plain (OpenSpec.ofChange sealVerifiesSpec)) sealVerifiesCard

/-- THE SECOND FORM's CARD OF 'gazetteerlaw03.SealForm'. -/
def sealFormUptoCard : Claim7 := { stood := { row := sealFormUptoRow, standIns := [], harness := (true, "195f1032eb6ab88c307009f198bdb172f744cdeb158026cd6ee00a5e45c33e7d"), looks := false }, kinds := [], alts := [], laidByText := true, laidKinds := [.data, .data, .data, .data, .pinned], laidTests := true, laidLooks := .later }
def SealFormUptoCardSaid : Prop := Claim7.holds Tryd.pinned (.plain (OpenSpec.upto sealFormSpec)) sealFormUptoCard

/-- THE SECOND FORM's CARD OF 'gazetteerlaw03.SealVerifies'. -/
def sealVerifiesUptoCard : Claim7 := { stood := { row := sealVerifiesUptoRow, standIns := [], harness := (true, "195f1032eb6ab88c307009f198bdb172f744cdeb158026cd6ee00a5e45c33e7d"), looks := false }, kinds := [], alts := [], laidByText := true, laidKinds := [.data, .data, .data, .data, .pinned], laidTests := true, laidLooks := .later }
def SealVerifiesUptoCardSaid : Prop := Claim7.holds Tryd.pinned (.plain (OpenSpec.upto sealVerifiesSpec)) sealVerifiesUptoCard
end Rows
end Go.Proofs.YthdjdlndfkemiaaDoor
