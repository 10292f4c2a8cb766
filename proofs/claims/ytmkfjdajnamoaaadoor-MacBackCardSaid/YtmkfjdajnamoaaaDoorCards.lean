/-
  DERIVED. GIVEN WITH THE SEED: THE CARDS: each row of YtmkfjdajnamoaaaDoorRows.lean that lists a variable, with what it lists TIED to the program's text (the seventh form; the later family's looks); each row that meets fmt, with fmt's text TOLD by the authors' own Lean function (tested against real Go, not proved from fmt's source: count such statements apart). THE CARD IS WHAT COUNTS. Prove the row's statement (the work); the ties are given (YtmkfjdajnamoaaaDoorTie.lean); close each card by the builder's one call (the guide's Derived/Test/ToyasCard.lean, 'card_holds'). Laid BY PROGRAM, IN A SANDBOX (cutbox-door.mjs). By AI agents, Wed Nov 11 2026. No macro, syntax, notation, axiom, sorry.
-/
import Derived.Test.YtmkfjdajnamoaaaDoorRows
import GoSem.ClaimSeven
namespace Go.Proofs.YtmkfjdajnamoaaaDoor
namespace Rows

/-- THE TIED CARD OF 'tolllaw02.MacReads'. -/
def macReadsCard : Claim7 := { stood := { row := macReadsRow, standIns := [], harness := (true, "5c02a0c93f738e0472568f94dfbdec18c85cd53899c1f0aeac6d982e0c2b2b31"), looks := false }, kinds := [], alts := [], laidByText := true, laidKinds := [.data, .data, .data, .data, .pinned], laidTests := true, laidLooks := .later }
def MacReadsCardSaid : Prop := Claim7.holds Tryd.pinned (.plain (OpenSpec.ofChange macReadsSpec)) macReadsCard

/-- THE TIED CARD OF 'tolllaw02.MacMasks'. -/
def macMasksCard : Claim7 := { stood := { row := macMasksRow, standIns := [], harness := (true, "5c02a0c93f738e0472568f94dfbdec18c85cd53899c1f0aeac6d982e0c2b2b31"), looks := false }, kinds := [], alts := [], laidByText := true, laidKinds := [.data, .data, .data, .data, .pinned], laidTests := true, laidLooks := .later }
def MacMasksCardSaid : Prop := Claim7.holds Tryd.pinned (.plain (OpenSpec.ofChange macMasksSpec)) macMasksCard

/-- THE TIED CARD OF 'tolllaw02.MacKinds'. -/
def macKindsCard : Claim7 := { stood := { row := macKindsRow, standIns := [], harness := (true, "5c02a0c93f738e0472568f94dfbdec18c85cd53899c1f0aeac6d982e0c2b2b31"), looks := false }, kinds := [], alts := [], laidByText := true, laidKinds := [.data, .data, .data, .data, .pinned], laidTests := true, laidLooks := .later }
def MacKindsCardSaid : Prop := Claim7.holds Tryd.pinned (.plain (OpenSpec.ofChange macKindsSpec)) macKindsCard

/-- THE TIED CARD OF 'tolllaw02.MacKnown'. -/
def macKnownCard : Claim7 := { stood := { row := macKnownRow, standIns := [], harness := (true, "5c02a0c93f738e0472568f94dfbdec18c85cd53899c1f0aeac6d982e0c2b2b31"), looks := false }, kinds := [], alts := [], laidByText := true, laidKinds := [.data, .data, .data, .data, .pinned], laidTests := true, laidLooks := .later }
def MacKnownCardSaid : Prop := Claim7.holds Tryd.pinned (.plain (OpenSpec.ofChange macKnownSpec)) macKnownCard

/-- THE TIED CARD OF 'tolllaw02.MacTells'. -/
def macTellsCard : Claim7 := { stood := { row := macTellsRow, standIns := [], harness := (true, "5c02a0c93f738e0472568f94dfbdec18c85cd53899c1f0aeac6d982e0c2b2b31"), looks := false }, kinds := [], alts := [], laidByText := true, laidKinds := [.data, .data, .data, .data, .pinned], laidTests := true, laidLooks := .later }
def MacTellsCardSaid : Prop := Claim7.holds Tryd.pinned (.plain (OpenSpec.ofChange macTellsSpec)) macTellsCard

/-- THE TIED CARD OF 'tolllaw02.MacBack'. -/
def macBackCard : Claim7 := { stood := { row := macBackRow, standIns := [], harness := (true, "5c02a0c93f738e0472568f94dfbdec18c85cd53899c1f0aeac6d982e0c2b2b31"), looks := false }, kinds := [], alts := [], laidByText := true, laidKinds := [.data, .data, .data, .data, .pinned, .pinned], laidTests := true, laidLooks := .later }
def MacBackCardSaid : Prop := Claim7.holds Tryd.pinned (.plain (OpenSpec.ofChange macBackSpec)) macBackCard

/-- THE SECOND FORM's CARD OF 'tolllaw02.MacReads'. -/
def macReadsUptoCard : Claim7 := { stood := { row := macReadsUptoRow, standIns := [], harness := (true, "5c02a0c93f738e0472568f94dfbdec18c85cd53899c1f0aeac6d982e0c2b2b31"), looks := false }, kinds := [], alts := [], laidByText := true, laidKinds := [.data, .data, .data, .data, .pinned], laidTests := true, laidLooks := .later }
def MacReadsUptoCardSaid : Prop := Claim7.holds Tryd.pinned (.plain (OpenSpec.upto macReadsSpec)) macReadsUptoCard

/-- THE SECOND FORM's CARD OF 'tolllaw02.MacMasks'. -/
def macMasksUptoCard : Claim7 := { stood := { row := macMasksUptoRow, standIns := [], harness := (true, "5c02a0c93f738e0472568f94dfbdec18c85cd53899c1f0aeac6d982e0c2b2b31"), looks := false }, kinds := [], alts := [], laidByText := true, laidKinds := [.data, .data, .data, .data, .pinned], laidTests := true, laidLooks := .later }
def MacMasksUptoCardSaid : Prop := Claim7.holds Tryd.pinned (.plain (OpenSpec.upto macMasksSpec)) macMasksUptoCard

/-- THE SECOND FORM's CARD OF 'tolllaw02.MacKinds'. -/
def macKindsUptoCard : Claim7 := { stood := { row := macKindsUptoRow, standIns := [], harness := (true, "5c02a0c93f738e0472568f94dfbdec18c85cd53899c1f0aeac6d982e0c2b2b31"), looks := false }, kinds := [], alts := [], laidByText := true, laidKinds := [.data, .data, .data, .data, .pinned], laidTests := true, laidLooks := .later }
def MacKindsUptoCardSaid : Prop := Claim7.holds Tryd.pinned (.plain (OpenSpec.upto macKindsSpec)) macKindsUptoCard

/-- THE SECOND FORM's CARD OF 'tolllaw02.MacKnown'. -/
def macKnownUptoCard : Claim7 := { stood := { row := macKnownUptoRow, standIns := [], harness := (true, "5c02a0c93f738e0472568f94dfbdec18c85cd53899c1f0aeac6d982e0c2b2b31"), looks := false }, kinds := [], alts := [], laidByText := true, laidKinds := [.data, .data, .data, .data, .pinned], laidTests := true, laidLooks := .later }
def MacKnownUptoCardSaid : Prop := Claim7.holds Tryd.pinned (.plain (OpenSpec.upto macKnownSpec)) macKnownUptoCard

/-- THE SECOND FORM's CARD OF 'tolllaw02.MacTells'. -/
def macTellsUptoCard : Claim7 := { stood := { row := macTellsUptoRow, standIns := [], harness := (true, "5c02a0c93f738e0472568f94dfbdec18c85cd53899c1f0aeac6d982e0c2b2b31"), looks := false }, kinds := [], alts := [], laidByText := true, laidKinds := [.data, .data, .data, .data, .pinned], laidTests := true, laidLooks := .later }
def MacTellsUptoCardSaid : Prop := Claim7.holds Tryd.pinned (.plain (OpenSpec.upto macTellsSpec)) macTellsUptoCard

/-- THE SECOND FORM's CARD OF 'tolllaw02.MacBack'. -/
def macBackUptoCard : Claim7 := { stood := { row := macBackUptoRow, standIns := [], harness := (true, "5c02a0c93f738e0472568f94dfbdec18c85cd53899c1f0aeac6d982e0c2b2b31"), looks := false }, kinds := [], alts := [], laidByText := true, laidKinds := [.data, .data, .data, .data, .pinned, .pinned], laidTests := true, laidLooks := .later }
def MacBackUptoCardSaid : Prop := Claim7.holds Tryd.pinned (.plain (OpenSpec.upto macBackSpec)) macBackUptoCard
end Rows
end Go.Proofs.YtmkfjdajnamoaaaDoor
