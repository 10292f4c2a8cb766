/- Contracts and plain facts (LP). -/
import Derived.Test.YtkdpjaaohddppaaGreatDoorG
namespace Go.Proofs.YtkdpjaaohddppaaGreatDoor.Am
noncomputable section
/- CONTRACTS OF GO's LIBRARY: strings. -/
theorem sliteByte_ret (l : List UInt8) (c : UInt8) (h : AHeap) (n : Nat) : Ret EV61 58 [.string ⟨l.toArray⟩, .int .u8 (c.toNat : Int)] h n (.int .i64 (Lib.indexByte l c)) [] n := by
  refine rsx58 (by simp) (by simp) ?_
  simp -dsimp [B58]
  with_reducible refine call_ret (indexByte61 l c h n) ?_
  simp -dsimp [HSub.refl]
theorem sliteIndex_ret (l : List UInt8) (c : UInt8) (h : AHeap) (n : Nat) : Ret EV61 42 [.string ⟨l.toArray⟩, .string ⟨[c].toArray⟩] h n (.int .i64 (Lib.indexByte l c)) [] n := by
  refine rsx42 (by simp) (by simp) ?_
  simp -dsimp [B42]
  refine Test.split (fun hc => ?_) (fun hc => ?_)
  · have hl : l = [c] := (show [c] = l by simpa using hc).symm
    subst hl
    simp -dsimp [HSub.refl,Lib.indexByte]
  simp -dsimp
  with_reducible refine call_ret (sliteByte_ret l c h n) ?_
  simp -dsimp [HSub.refl]
end
end Go.Proofs.YtkdpjaaohddppaaGreatDoor.Am
