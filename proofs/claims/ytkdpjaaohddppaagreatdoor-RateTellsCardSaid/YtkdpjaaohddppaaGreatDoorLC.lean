/- Contracts and plain facts (LC). -/
import Derived.Test.YtkdpjaaohddppaaGreatDoorLP
import Derived.Test.YtkdpjaaohddppaaGreatDoorL1
namespace Go.Proofs.YtkdpjaaohddppaaGreatDoor.Am
noncomputable section
/- CONTRACTS OF GO's LIBRARY: strings.Cut at one byte. -/
theorem idx_range (l : List UInt8) (c : UInt8) : Lib.indexByte l c = -1 ∨ ∃ i : Nat,Lib.indexByte l c = (i : Int) ∧ i < l.length := by
  induction l with
  | nil => left; rfl
  | cons x l ih =>
    simp only [Lib.indexByte]
    split
    · exact .inr ⟨0,rfl,by simp⟩
    · rcases ih with e | ⟨i,e,hi⟩
      · left; simp [e]
      · right
        refine ⟨i + 1, ?_,by simp; omega⟩
        rw [e,if_neg (by simp)]
        rfl
def cutA (l : List UInt8) (c : UInt8) : List UInt8 := if Lib.indexByte l c = -1 then l else l.take (Lib.indexByte l c).toNat
def cutZ (l : List UInt8) (c : UInt8) : List UInt8 := if Lib.indexByte l c = -1 then [] else l.drop ((Lib.indexByte l c).toNat + 1)
def cutB (l : List UInt8) (c : UInt8) : Bool := if Lib.indexByte l c = -1 then false else true
theorem cut_ret (l : List UInt8) (c : UInt8) (hl : l.length < 1000000) (h : AHeap) (n : Nat) : Ret EV61 18 [.string ⟨l.toArray⟩, .string ⟨[c].toArray⟩] h n (.tuple #[.string ⟨(cutA l c).toArray⟩, .string ⟨(cutZ l c).toArray⟩, .bool (cutB l c)]) [] n := by
  refine rsx18 (by simp) (by simp) ?_
  simp -dsimp (discharger := omega) [B18]
  with_reducible refine inl31 ?_
  simp -dsimp (discharger := omega) [B31]
  with_reducible refine call_ret (sliteIndex_ret l c h n) ?_
  rcases idx_range l c with e | ⟨i,e,hi⟩
  · rw [cutA,cutZ,cutB,if_pos e,if_pos e,if_pos e,e]
    simp -dsimp (discharger := omega) []
    exact .refl _
  · have hne : ¬ Lib.indexByte l c = -1 := by omega
    rw [cutA,cutZ,cutB,if_neg hne,if_neg hne,if_neg hne,e]
    have e1 : ((i : Int) + 1).toNat = i + 1 := by omega
    simp -dsimp (discharger := omega) [e1]
    exact .refl _
end
end Go.Proofs.YtkdpjaaohddppaaGreatDoor.Am
