/-
  DERIVED. GIVEN WITH THE SEED: THE CARDS: each row of YtmmcnholpnediaaDoorRows.lean that lists a variable, with what it lists TIED to the program's text (the seventh form; the later family's looks); each row that meets fmt, with fmt's text TOLD by the authors' own Lean function (tested against real Go, not proved from fmt's source: count such statements apart). THE CARD IS WHAT COUNTS. Prove the row's statement (the work); the ties are given (YtmmcnholpnediaaDoorTie.lean); close each card by the builder's one call (the guide's Derived/Test/ToyasCard.lean, 'card_holds'). Laid BY PROGRAM, IN A SANDBOX (cutbox-door.mjs). By AI agents, Wed Nov 11 2026. No macro, syntax, notation, axiom, sorry.
-/
import Derived.Test.YtmmcnholpnediaaDoorRows
import GoSem.ClaimSeven
namespace Go.Proofs.YtmmcnholpnediaaDoor
namespace Rows

/-- THE TIED CARD OF 'tolllaw15.WordsBlanks'. -/
def wordsBlanksCard : Claim7 := { stood := { row := wordsBlanksRow, standIns := [], harness := (true, "78baa04986e982415de0be26cd1cd262be2c3e4d855045e7eba3ea42bbe353fc"), looks := true }, kinds := [], alts := [], laidByText := true, laidKinds := [.data, .data, .data, .data, .sentinel, .sentinel, .pinned], laidTests := true, laidLooks := .later }
def WordsBlanksCardSaid : Prop := Claim7.holds Tryd.pinned (.plain (OpenSpec.ofChange wordsBlanksSpec)) wordsBlanksCard

/-- THE TIED CARD OF 'tolllaw15.WordsBack'. -/
def wordsBackCard : Claim7 := { stood := { row := wordsBackRow, standIns := [], harness := (true, "78baa04986e982415de0be26cd1cd262be2c3e4d855045e7eba3ea42bbe353fc"), looks := true }, kinds := [], alts := [], laidByText := true, laidKinds := [.data, .data, .data, .data, .sentinel, .sentinel, .pinned], laidTests := true, laidLooks := .later }
def WordsBackCardSaid : Prop := Claim7.holds Tryd.pinned (.plain (OpenSpec.ofChange wordsBackSpec)) wordsBackCard

/-- THE SECOND FORM's CARD OF 'tolllaw15.WordsBlanks'. -/
def wordsBlanksUptoCard : Claim7 := { stood := { row := wordsBlanksUptoRow, standIns := [], harness := (true, "78baa04986e982415de0be26cd1cd262be2c3e4d855045e7eba3ea42bbe353fc"), looks := true }, kinds := [], alts := [], laidByText := true, laidKinds := [.data, .data, .data, .data, .sentinel, .sentinel, .pinned], laidTests := true, laidLooks := .later }
def WordsBlanksUptoCardSaid : Prop := Claim7.holds Tryd.pinned (.plain (OpenSpec.upto wordsBlanksSpec)) wordsBlanksUptoCard

/-- THE SECOND FORM's CARD OF 'tolllaw15.WordsBack'. -/
def wordsBackUptoCard : Claim7 := { stood := { row := wordsBackUptoRow, standIns := [], harness := (true, "78baa04986e982415de0be26cd1cd262be2c3e4d855045e7eba3ea42bbe353fc"), looks := true }, kinds := [], alts := [], laidByText := true, laidKinds := [.data, .data, .data, .data, .sentinel, .sentinel, .pinned], laidTests := true, laidLooks := .later }
def WordsBackUptoCardSaid : Prop := Claim7.holds Tryd.pinned (.plain (OpenSpec.upto wordsBackSpec)) wordsBackUptoCard
end Rows
end Go.Proofs.YtmmcnholpnediaaDoor
