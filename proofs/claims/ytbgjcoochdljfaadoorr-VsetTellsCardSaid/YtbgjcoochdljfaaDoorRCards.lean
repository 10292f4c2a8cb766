/-
  DERIVED. GIVEN WITH THE SEED: THE CARDS: each row of YtbgjcoochdljfaaDoorRRows.lean that lists a variable, with what it lists TIED to the program's text (the seventh form; the later family's looks); each row that meets fmt, with fmt's text TOLD by the authors' own Lean function (tested against real Go, not proved from fmt's source: count such statements apart). THE CARD IS WHAT COUNTS. Prove the row's statement (the work); the ties are given (YtbgjcoochdljfaaDoorRTie.lean); close each card by the builder's one call (the guide's Derived/Test/ToyasCard.lean, 'card_holds'). Laid BY PROGRAM, IN A SANDBOX (cutbox-door.mjs). By AI agents, Wed Nov 11 2026. No macro, syntax, notation, axiom, sorry.
-/
import Derived.Test.YtbgjcoochdljfaaDoorRRows
import GoSem.ClaimSeven
namespace Go.Proofs.YtbgjcoochdljfaaDoorR
namespace Rows

/-- THE TIED CARD OF 'tolllaw14.VsetOnce'. -/
def vsetOnceCard : Claim7 := { stood := { row := vsetOnceRow, standIns := [], harness := (true, "8d078e723fe6ac10475b85c5946d18486b9b1ec0620897dc1381f9f5e828f721"), looks := true }, kinds := [], alts := [], laidByText := true, laidKinds := [.data, .data, .data, .data, .sentinel, .sentinel, .pinned], laidTests := true, laidLooks := .later }
def VsetOnceCardSaid : Prop := Claim7.holds Tryd.pinned (.plain (OpenSpec.ofChange vsetOnceSpec)) vsetOnceCard

/-- THE TIED CARD OF 'tolllaw14.VsetKnown'. -/
def vsetKnownCard : Claim7 := { stood := { row := vsetKnownRow, standIns := [], harness := (true, "8d078e723fe6ac10475b85c5946d18486b9b1ec0620897dc1381f9f5e828f721"), looks := true }, kinds := [], alts := [], laidByText := true, laidKinds := [.data, .data, .data, .data, .sentinel, .sentinel, .pinned], laidTests := true, laidLooks := .later }
def VsetKnownCardSaid : Prop := Claim7.holds Tryd.pinned (.plain (OpenSpec.ofChange vsetKnownSpec)) vsetKnownCard

/-- THE TIED CARD OF 'tolllaw14.VsetTells'. -/
def vsetTellsCard : Claim7 := { stood := { row := vsetTellsRow, standIns := [], harness := (true, "8d078e723fe6ac10475b85c5946d18486b9b1ec0620897dc1381f9f5e828f721"), looks := true }, kinds := [], alts := [], laidByText := true, laidKinds := [.data, .data, .data, .data, .sentinel, .sentinel, .pinned], laidTests := true, laidLooks := .later }
def VsetTellsCardSaid : Prop := Claim7.holds Tryd.pinned (.plain (OpenSpec.ofChange vsetTellsSpec)) vsetTellsCard

/-- THE TIED CARD OF 'tolllaw14.VsetNumbers'. -/
def vsetNumbersCard : Claim7 := { stood := { row := vsetNumbersRow, standIns := [], harness := (true, "8d078e723fe6ac10475b85c5946d18486b9b1ec0620897dc1381f9f5e828f721"), looks := true }, kinds := [], alts := [], laidByText := true, laidKinds := [.data, .data, .data, .data, .sentinel, .sentinel, .pinned], laidTests := true, laidLooks := .later }
def VsetNumbersCardSaid : Prop := Claim7.holds Tryd.pinned (.plain (OpenSpec.ofChange vsetNumbersSpec)) vsetNumbersCard

/-- THE SECOND FORM's CARD OF 'tolllaw14.VsetOnce'. -/
def vsetOnceUptoCard : Claim7 := { stood := { row := vsetOnceUptoRow, standIns := [], harness := (true, "8d078e723fe6ac10475b85c5946d18486b9b1ec0620897dc1381f9f5e828f721"), looks := true }, kinds := [], alts := [], laidByText := true, laidKinds := [.data, .data, .data, .data, .sentinel, .sentinel, .pinned], laidTests := true, laidLooks := .later }
def VsetOnceUptoCardSaid : Prop := Claim7.holds Tryd.pinned (.plain (OpenSpec.upto vsetOnceSpec)) vsetOnceUptoCard

/-- THE SECOND FORM's CARD OF 'tolllaw14.VsetKnown'. -/
def vsetKnownUptoCard : Claim7 := { stood := { row := vsetKnownUptoRow, standIns := [], harness := (true, "8d078e723fe6ac10475b85c5946d18486b9b1ec0620897dc1381f9f5e828f721"), looks := true }, kinds := [], alts := [], laidByText := true, laidKinds := [.data, .data, .data, .data, .sentinel, .sentinel, .pinned], laidTests := true, laidLooks := .later }
def VsetKnownUptoCardSaid : Prop := Claim7.holds Tryd.pinned (.plain (OpenSpec.upto vsetKnownSpec)) vsetKnownUptoCard

/-- THE SECOND FORM's CARD OF 'tolllaw14.VsetTells'. -/
def vsetTellsUptoCard : Claim7 := { stood := { row := vsetTellsUptoRow, standIns := [], harness := (true, "8d078e723fe6ac10475b85c5946d18486b9b1ec0620897dc1381f9f5e828f721"), looks := true }, kinds := [], alts := [], laidByText := true, laidKinds := [.data, .data, .data, .data, .sentinel, .sentinel, .pinned], laidTests := true, laidLooks := .later }
def VsetTellsUptoCardSaid : Prop := Claim7.holds Tryd.pinned (.plain (OpenSpec.upto vsetTellsSpec)) vsetTellsUptoCard

/-- THE SECOND FORM's CARD OF 'tolllaw14.VsetNumbers'. -/
def vsetNumbersUptoCard : Claim7 := { stood := { row := vsetNumbersUptoRow, standIns := [], harness := (true, "8d078e723fe6ac10475b85c5946d18486b9b1ec0620897dc1381f9f5e828f721"), looks := true }, kinds := [], alts := [], laidByText := true, laidKinds := [.data, .data, .data, .data, .sentinel, .sentinel, .pinned], laidTests := true, laidLooks := .later }
def VsetNumbersUptoCardSaid : Prop := Claim7.holds Tryd.pinned (.plain (OpenSpec.upto vsetNumbersSpec)) vsetNumbersUptoCard
end Rows
end Go.Proofs.YtbgjcoochdljfaaDoorR
