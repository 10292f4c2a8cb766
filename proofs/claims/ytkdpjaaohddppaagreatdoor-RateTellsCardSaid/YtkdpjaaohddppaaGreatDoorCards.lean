/-
  DERIVED. GIVEN WITH THE SEED: THE CARDS: each row of YtkdpjaaohddppaaGreatDoorRows.lean that lists a variable, with what it lists TIED to the program's text (the seventh form; the later family's looks); each row that meets fmt, with fmt's text TOLD by the authors' own Lean function (tested against real Go, not proved from fmt's source: count such statements apart). THE CARD IS WHAT COUNTS. Prove the row's statement (the work); the ties are given (YtkdpjaaohddppaaGreatDoorTie.lean); close each card by the builder's one call (the guide's Derived/Test/ToyasCard.lean, 'card_holds'). Laid BY PROGRAM, IN A SANDBOX (cutbox-door.mjs). By AI agents, Wed Nov 11 2026. No macro, syntax, notation, axiom, sorry.
-/
import Derived.Test.YtkdpjaaohddppaaGreatDoorRows
import GoSem.ClaimSeven
namespace Go.Proofs.YtkdpjaaohddppaaGreatDoor
namespace Rows

/-- THE TIED CARD OF 'tolllaw11.RateTells'. -/
def rateTellsCard : Claim7 := { stood := { row := rateTellsRow, standIns := [], harness := (true, "d7506b8e3e9c41a47cd3f45fb78385ea1b3e5d391edbd4a2d7e060a532af15c9"), looks := true }, kinds := [], alts := [], laidByText := true, laidKinds := [.data, .data, .widerDeep, .widerDeep, .data, .data, .data, .data, .data, .data, .sentinel, .sentinel, .called, .pinned, .pinned, .pinned], laidTests := true, laidLooks := .later }
def RateTellsCardSaid : Prop := Claim7.holds Tryz.pinned (.plain (OpenSpec.ofChange rateTellsSpec)) rateTellsCard

/-- THE TIED CARD OF 'tolllaw11.RateTexts'. -/
def rateTextsCard : Claim7 := { stood := { row := rateTextsRow, standIns := [], harness := (true, "d7506b8e3e9c41a47cd3f45fb78385ea1b3e5d391edbd4a2d7e060a532af15c9"), looks := true }, kinds := [], alts := [], laidByText := true, laidKinds := [.data, .data, .widerDeep, .widerDeep, .data, .data, .data, .data, .data, .data, .sentinel, .sentinel, .called, .pinned, .pinned, .pinned], laidTests := true, laidLooks := .later }
def RateTextsCardSaid : Prop := Claim7.holds Tryz.pinned (.plain (OpenSpec.ofChange rateTextsSpec)) rateTextsCard

/-- THE SECOND FORM's CARD OF 'tolllaw11.RateTells'. -/
def rateTellsUptoCard : Claim7 := { stood := { row := rateTellsUptoRow, standIns := [], harness := (true, "d7506b8e3e9c41a47cd3f45fb78385ea1b3e5d391edbd4a2d7e060a532af15c9"), looks := true }, kinds := [], alts := [], laidByText := true, laidKinds := [.data, .data, .widerDeep, .widerDeep, .data, .data, .data, .data, .data, .data, .sentinel, .sentinel, .called, .pinned, .pinned, .pinned], laidTests := true, laidLooks := .later }
def RateTellsUptoCardSaid : Prop := Claim7.holds Tryz.pinned (.plain (OpenSpec.upto rateTellsSpec)) rateTellsUptoCard

/-- THE SECOND FORM's CARD OF 'tolllaw11.RateTexts'. -/
def rateTextsUptoCard : Claim7 := { stood := { row := rateTextsUptoRow, standIns := [], harness := (true, "d7506b8e3e9c41a47cd3f45fb78385ea1b3e5d391edbd4a2d7e060a532af15c9"), looks := true }, kinds := [], alts := [], laidByText := true, laidKinds := [.data, .data, .widerDeep, .widerDeep, .data, .data, .data, .data, .data, .data, .sentinel, .sentinel, .called, .pinned, .pinned, .pinned], laidTests := true, laidLooks := .later }
def RateTextsUptoCardSaid : Prop := Claim7.holds Tryz.pinned (.plain (OpenSpec.upto rateTextsSpec)) rateTextsUptoCard
end Rows
end Go.Proofs.YtkdpjaaohddppaaGreatDoor
