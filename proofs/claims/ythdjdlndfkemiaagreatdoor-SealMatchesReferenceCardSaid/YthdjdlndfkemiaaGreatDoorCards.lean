/-
  DERIVED. GIVEN WITH THE SEED: THE CARDS: each row of YthdjdlndfkemiaaGreatDoorRows.lean that lists a variable, with what it lists TIED to the program's text (the seventh form; the later family's looks); each row that meets fmt, with fmt's text TOLD by the authors' own Lean function (tested against real Go, not proved from fmt's source: count such statements apart). THE CARD IS WHAT COUNTS. Prove the row's statement (the work); the ties are given (YthdjdlndfkemiaaGreatDoorTie.lean); close each card by the builder's one call (the guide's Derived/Test/ToyasCard.lean, 'card_holds'). Laid BY PROGRAM, IN A SANDBOX (cutbox-door.mjs). By AI agents, Wed Nov 11 2026. No macro, syntax, notation, axiom, sorry.
-/
import Derived.Test.YthdjdlndfkemiaaGreatDoorRows
import GoSem.ClaimSeven
namespace Go.Proofs.YthdjdlndfkemiaaGreatDoor
namespace Rows

/-- THE TIED CARD OF 'gazetteerlaw03.SealSecrets'. -/
def sealSecretsCard : Claim7 := { stood := { row := sealSecretsRow, standIns := [], harness := (true, "b2293ccbdf79ae38a77b20c5d7bad0b211f0d9048bdcc9c4adbf4e72fdf8e117"), looks := false }, kinds := [], alts := [], laidByText := true, laidKinds := [.data, .data, .data, .data, .pinned], laidTests := true, laidLooks := .later }
def SealSecretsCardSaid : Prop := Claim7.holds Tryz.pinned (.plain (OpenSpec.ofChange sealSecretsSpec)) sealSecretsCard

/-- THE TIED CARD OF 'gazetteerlaw03.SealMatchesReference'. -/
def sealMatchesReferenceCard : Claim7 := { stood := { row := sealMatchesReferenceRow, standIns := [], harness := (true, "b2293ccbdf79ae38a77b20c5d7bad0b211f0d9048bdcc9c4adbf4e72fdf8e117"), looks := false }, kinds := [], alts := [], laidByText := true, laidKinds := [.data, .data, .data, .data, .pinned], laidTests := true, laidLooks := .later }
def SealMatchesReferenceCardSaid : Prop := Claim7.holds Tryz.pinned (.plain (OpenSpec.ofChange sealMatchesReferenceSpec)) sealMatchesReferenceCard

/-- THE TIED CARD OF 'gazetteerlaw03.SealSound'. -/
def sealSoundCard : Claim7 := { stood := { row := sealSoundRow, standIns := [], harness := (true, "b2293ccbdf79ae38a77b20c5d7bad0b211f0d9048bdcc9c4adbf4e72fdf8e117"), looks := false }, kinds := [], alts := [], laidByText := true, laidKinds := [.data, .data, .data, .data, .pinned], laidTests := true, laidLooks := .later }
def SealSoundCardSaid : Prop := Claim7.holds Tryz.pinned (.plain (OpenSpec.ofChange sealSoundSpec)) sealSoundCard

/-- THE TIED CARD OF 'gazetteerlaw03.SealBinds'. -/
def sealBindsCard : Claim7 := { stood := { row := sealBindsRow, standIns := [], harness := (true, "b2293ccbdf79ae38a77b20c5d7bad0b211f0d9048bdcc9c4adbf4e72fdf8e117"), looks := false }, kinds := [], alts := [], laidByText := true, laidKinds := [.data, .data, .data, .data, .pinned], laidTests := true, laidLooks := .later }
def SealBindsCardSaid : Prop := Claim7.holds Tryz.pinned (.plain (OpenSpec.ofChange sealBindsSpec)) sealBindsCard

/-- THE TIED CARD OF 'gazetteerlaw03.SealChanges'. -/
def sealChangesCard : Claim7 := { stood := { row := sealChangesRow, standIns := [], harness := (true, "b2293ccbdf79ae38a77b20c5d7bad0b211f0d9048bdcc9c4adbf4e72fdf8e117"), looks := false }, kinds := [], alts := [], laidByText := true, laidKinds := [.data, .data, .data, .data, .pinned], laidTests := true, laidLooks := .later }
def SealChangesCardSaid : Prop := Claim7.holds Tryz.pinned (.plain (OpenSpec.ofChange sealChangesSpec)) sealChangesCard

/-- THE SECOND FORM's CARD OF 'gazetteerlaw03.SealSecrets'. -/
def sealSecretsUptoCard : Claim7 := { stood := { row := sealSecretsUptoRow, standIns := [], harness := (true, "b2293ccbdf79ae38a77b20c5d7bad0b211f0d9048bdcc9c4adbf4e72fdf8e117"), looks := false }, kinds := [], alts := [], laidByText := true, laidKinds := [.data, .data, .data, .data, .pinned], laidTests := true, laidLooks := .later }
def SealSecretsUptoCardSaid : Prop := Claim7.holds Tryz.pinned (.plain (OpenSpec.upto sealSecretsSpec)) sealSecretsUptoCard

/-- THE SECOND FORM's CARD OF 'gazetteerlaw03.SealMatchesReference'. -/
def sealMatchesReferenceUptoCard : Claim7 := { stood := { row := sealMatchesReferenceUptoRow, standIns := [], harness := (true, "b2293ccbdf79ae38a77b20c5d7bad0b211f0d9048bdcc9c4adbf4e72fdf8e117"), looks := false }, kinds := [], alts := [], laidByText := true, laidKinds := [.data, .data, .data, .data, .pinned], laidTests := true, laidLooks := .later }
def SealMatchesReferenceUptoCardSaid : Prop := Claim7.holds Tryz.pinned (.plain (OpenSpec.upto sealMatchesReferenceSpec)) sealMatchesReferenceUptoCard

/-- THE SECOND FORM's CARD OF 'gazetteerlaw03.SealSound'. -/
def sealSoundUptoCard : Claim7 := { stood := { row := sealSoundUptoRow, standIns := [], harness := (true, "b2293ccbdf79ae38a77b20c5d7bad0b211f0d9048bdcc9c4adbf4e72fdf8e117"), looks := false }, kinds := [], alts := [], laidByText := true, laidKinds := [.data, .data, .data, .data, .pinned], laidTests := true, laidLooks := .later }
def SealSoundUptoCardSaid : Prop := Claim7.holds Tryz.pinned (.plain (OpenSpec.upto sealSoundSpec)) sealSoundUptoCard

/-- THE SECOND FORM's CARD OF 'gazetteerlaw03.SealBinds'. -/
def sealBindsUptoCard : Claim7 := { stood := { row := sealBindsUptoRow, standIns := [], harness := (true, "b2293ccbdf79ae38a77b20c5d7bad0b211f0d9048bdcc9c4adbf4e72fdf8e117"), looks := false }, kinds := [], alts := [], laidByText := true, laidKinds := [.data, .data, .data, .data, .pinned], laidTests := true, laidLooks := .later }
def SealBindsUptoCardSaid : Prop := Claim7.holds Tryz.pinned (.plain (OpenSpec.upto sealBindsSpec)) sealBindsUptoCard

/-- THE SECOND FORM's CARD OF 'gazetteerlaw03.SealChanges'. -/
def sealChangesUptoCard : Claim7 := { stood := { row := sealChangesUptoRow, standIns := [], harness := (true, "b2293ccbdf79ae38a77b20c5d7bad0b211f0d9048bdcc9c4adbf4e72fdf8e117"), looks := false }, kinds := [], alts := [], laidByText := true, laidKinds := [.data, .data, .data, .data, .pinned], laidTests := true, laidLooks := .later }
def SealChangesUptoCardSaid : Prop := Claim7.holds Tryz.pinned (.plain (OpenSpec.upto sealChangesSpec)) sealChangesUptoCard
end Rows
end Go.Proofs.YthdjdlndfkemiaaGreatDoor
