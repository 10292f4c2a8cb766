/- Contracts and plain facts (L6). -/
import Derived.Test.YtkdpjaaohddppaaGreatDoorL5
import Derived.Test.YtkdpjaaohddppaaGreatDoorL1
namespace Go.Proofs.YtkdpjaaohddppaaGreatDoor.Am
noncomputable section
/- FIELDS OF A LINE,by their places: plain facts. -/
def cutSp (s : List UInt8) (p : Nat × Nat) : List UInt8 := (s.take p.2).drop p.1
structure FI (s : List UInt8) (j : Nat) (sp : List (Nat × Nat)) (z : Int) : Prop where
  hj : j ≤ s.length
  hsp : sp.length ≤ j
  hb : ∀ p ∈ sp,p.1 ≤ p.2 ∧ p.2 ≤ s.length
  z0 : -1000000 < z
  z1 : z < 1000000
  hcur : (z < 0 ∧ sp.map (cutSp s) ++ wordsGo [] (s.drop j) = wordsL s) ∨ (0 ≤ z ∧ z.toNat < j ∧ sp.map (cutSp s) ++ wordsGo ((s.take j).drop z.toNat) (s.drop j) = wordsL s)
theorem drop_cons {s : List UInt8} {j : Nat} {c : UInt8} (h : s[j]? = some c) : s.drop j = c :: s.drop (j + 1) := by
  obtain ⟨hlt,rfl⟩ := List.getElem?_eq_some_iff.1 h
  exact List.drop_eq_getElem_cons hlt
section
variable {s : List UInt8} {j : Nat} {sp : List (Nat × Nat)} {z : Int} {c : UInt8}
end
end
end Go.Proofs.YtkdpjaaohddppaaGreatDoor.Am
