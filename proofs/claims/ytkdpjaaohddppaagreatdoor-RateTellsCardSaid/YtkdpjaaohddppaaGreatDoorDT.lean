/- The evaluator of the abstract machine,part DT: what it finds is a derivation. -/
import Derived.Test.YtkdpjaaohddppaaGreatDoorD
import Derived.Test.YtkdpjaaohddppaaGreatDoorL
import Derived.SliceStrings
namespace Go.Proofs.YtkdpjaaohddppaaGreatDoor.Am
noncomputable section
open Go.ChangeShapes Go.WideShapes Go.RowKit
/- ARGUMENTS THAT ARE LISTS OF ROWS OF NUMBERS (structures of numbers): what a slice of the caller's holds,and where. -/
theorem add_none (b o x : Nat) : (⟨b,o,none⟩ : Addr).add x = ⟨b,o + x,none⟩ := by
  unfold Addr.add
  split
  · rename_i h; rw [h]; rfl
  · rfl
section
variable {H : Type} {enc : TypeId × Value → H} {P : Program} {w : World} {base : Nat} {sp : Nat → Bool} {held : Bool}
end
end
end Go.Proofs.YtkdpjaaohddppaaGreatDoor.Am
