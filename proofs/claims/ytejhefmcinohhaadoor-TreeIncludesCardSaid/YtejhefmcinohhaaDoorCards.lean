/-
  DERIVED. GIVEN WITH THE SEED: THE CARDS: each row of YtejhefmcinohhaaDoorRows.lean that lists a variable, with what it lists TIED to the program's text (the seventh form; the later family's looks); each row that meets fmt, with fmt's text TOLD by the authors' own Lean function (tested against real Go, not proved from fmt's source: count such statements apart). THE CARD IS WHAT COUNTS. Prove the row's statement (the work); the ties are given (YtejhefmcinohhaaDoorTie.lean); close each card by the builder's one call (the guide's Derived/Test/ToyasCard.lean, 'card_holds'). Laid BY PROGRAM, IN A SANDBOX (cutbox-door.mjs). By AI agents, Wed Nov 11 2026. No macro, syntax, notation, axiom, sorry.
-/
import Derived.Test.YtejhefmcinohhaaDoorRows
import GoSem.ClaimSeven
namespace Go.Proofs.YtejhefmcinohhaaDoor
namespace Rows

/-- THE TIED CARD OF 'gazetteerlaw02.TreeIncludes'. -/
def treeIncludesCard : Claim7 := { stood := { row := treeIncludesRow, standIns := [], harness := (true, "5a3917b352d943e9bb9ae7343a45ad9acebcdd67cbe0f484d0993fc0076c0847"), looks := false }, kinds := [], alts := [], laidByText := true, laidKinds := [.data, .data, .data, .data, .pinned], laidTests := true, laidLooks := .later }
def TreeIncludesCardSaid : Prop := Claim7.holds Tryd.pinned (.plain (OpenSpec.ofChange treeIncludesSpec)) treeIncludesCard

/-- THE TIED CARD OF 'gazetteerlaw02.TreeBinds'. -/
def treeBindsCard : Claim7 := { stood := { row := treeBindsRow, standIns := [], harness := (true, "5a3917b352d943e9bb9ae7343a45ad9acebcdd67cbe0f484d0993fc0076c0847"), looks := false }, kinds := [], alts := [], laidByText := true, laidKinds := [.data, .data, .data, .data, .pinned], laidTests := true, laidLooks := .later }
def TreeBindsCardSaid : Prop := Claim7.holds Tryd.pinned (.plain (OpenSpec.ofChange treeBindsSpec)) treeBindsCard

/-- THE TIED CARD OF 'gazetteerlaw02.TreeRoots'. -/
def treeRootsCard : Claim7 := { stood := { row := treeRootsRow, standIns := [], harness := (true, "5a3917b352d943e9bb9ae7343a45ad9acebcdd67cbe0f484d0993fc0076c0847"), looks := false }, kinds := [], alts := [], laidByText := true, laidKinds := [.data, .data, .data, .data, .pinned], laidTests := true, laidLooks := .later }
def TreeRootsCardSaid : Prop := Claim7.holds Tryd.pinned (.plain (OpenSpec.ofChange treeRootsSpec)) treeRootsCard

/-- THE TIED CARD OF 'gazetteerlaw02.TreeGrows'. -/
def treeGrowsCard : Claim7 := { stood := { row := treeGrowsRow, standIns := [], harness := (true, "5a3917b352d943e9bb9ae7343a45ad9acebcdd67cbe0f484d0993fc0076c0847"), looks := false }, kinds := [], alts := [], laidByText := true, laidKinds := [.data, .data, .data, .data, .pinned], laidTests := true, laidLooks := .later }
def TreeGrowsCardSaid : Prop := Claim7.holds Tryd.pinned (.plain (OpenSpec.ofChange treeGrowsSpec)) treeGrowsCard

/-- THE TIED CARD OF 'gazetteerlaw02.TreeContinues'. -/
def treeContinuesCard : Claim7 := { stood := { row := treeContinuesRow, standIns := [], harness := (true, "5a3917b352d943e9bb9ae7343a45ad9acebcdd67cbe0f484d0993fc0076c0847"), looks := false }, kinds := [], alts := [], laidByText := true, laidKinds := [.data, .data, .data, .data, .pinned], laidTests := true, laidLooks := .later }
def TreeContinuesCardSaid : Prop := Claim7.holds Tryd.pinned (.plain (OpenSpec.ofChange treeContinuesSpec)) treeContinuesCard

/-- THE SECOND FORM's CARD OF 'gazetteerlaw02.TreeIncludes'. -/
def treeIncludesUptoCard : Claim7 := { stood := { row := treeIncludesUptoRow, standIns := [], harness := (true, "5a3917b352d943e9bb9ae7343a45ad9acebcdd67cbe0f484d0993fc0076c0847"), looks := false }, kinds := [], alts := [], laidByText := true, laidKinds := [.data, .data, .data, .data, .pinned], laidTests := true, laidLooks := .later }
def TreeIncludesUptoCardSaid : Prop := Claim7.holds Tryd.pinned (.plain (OpenSpec.upto treeIncludesSpec)) treeIncludesUptoCard

/-- THE SECOND FORM's CARD OF 'gazetteerlaw02.TreeBinds'. -/
def treeBindsUptoCard : Claim7 := { stood := { row := treeBindsUptoRow, standIns := [], harness := (true, "5a3917b352d943e9bb9ae7343a45ad9acebcdd67cbe0f484d0993fc0076c0847"), looks := false }, kinds := [], alts := [], laidByText := true, laidKinds := [.data, .data, .data, .data, .pinned], laidTests := true, laidLooks := .later }
def TreeBindsUptoCardSaid : Prop := Claim7.holds Tryd.pinned (.plain (OpenSpec.upto treeBindsSpec)) treeBindsUptoCard

/-- THE SECOND FORM's CARD OF 'gazetteerlaw02.TreeRoots'. -/
def treeRootsUptoCard : Claim7 := { stood := { row := treeRootsUptoRow, standIns := [], harness := (true, "5a3917b352d943e9bb9ae7343a45ad9acebcdd67cbe0f484d0993fc0076c0847"), looks := false }, kinds := [], alts := [], laidByText := true, laidKinds := [.data, .data, .data, .data, .pinned], laidTests := true, laidLooks := .later }
def TreeRootsUptoCardSaid : Prop := Claim7.holds Tryd.pinned (.plain (OpenSpec.upto treeRootsSpec)) treeRootsUptoCard

/-- THE SECOND FORM's CARD OF 'gazetteerlaw02.TreeGrows'. -/
def treeGrowsUptoCard : Claim7 := { stood := { row := treeGrowsUptoRow, standIns := [], harness := (true, "5a3917b352d943e9bb9ae7343a45ad9acebcdd67cbe0f484d0993fc0076c0847"), looks := false }, kinds := [], alts := [], laidByText := true, laidKinds := [.data, .data, .data, .data, .pinned], laidTests := true, laidLooks := .later }
def TreeGrowsUptoCardSaid : Prop := Claim7.holds Tryd.pinned (.plain (OpenSpec.upto treeGrowsSpec)) treeGrowsUptoCard

/-- THE SECOND FORM's CARD OF 'gazetteerlaw02.TreeContinues'. -/
def treeContinuesUptoCard : Claim7 := { stood := { row := treeContinuesUptoRow, standIns := [], harness := (true, "5a3917b352d943e9bb9ae7343a45ad9acebcdd67cbe0f484d0993fc0076c0847"), looks := false }, kinds := [], alts := [], laidByText := true, laidKinds := [.data, .data, .data, .data, .pinned], laidTests := true, laidLooks := .later }
def TreeContinuesUptoCardSaid : Prop := Claim7.holds Tryd.pinned (.plain (OpenSpec.upto treeContinuesSpec)) treeContinuesUptoCard
end Rows
end Go.Proofs.YtejhefmcinohhaaDoor
