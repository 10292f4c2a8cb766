/- Rules to walk through code of the abstract machine with values that are not known (ES). -/
import Derived.Test.YtkdpjaaohddppaaGreatDoorEH
namespace Go.Proofs.YtkdpjaaohddppaaGreatDoor.Am
noncomputable section
/- A SCOPE,WALKED: by a goto (an exit from gB on) to a label,what stands behind it. -/
def CalmQ (Q : Ex → Fr → AHeap → Nat → Prop) (e : Ex) (σ : Fr) (h : AHeap) (n : Nat) : Prop := (∀ l,e ≠ .exit (gB + l)) ∧ Q e σ h n
theorem calm_ret {Q : Ex → Fr → AHeap → Nat → Prop} {σ : Fr} {h : AHeap} {n : Nat} (q : Q .ret σ h n) : CalmQ Q .ret σ h n := ⟨fun _ h => (by cases h),q⟩
theorem scope_use {E : Env} {c : ACode} {σ : Fr} {h : AHeap} {n : Nat} {Q : Ex → Fr → AHeap → Nat → Prop} {t : Tok Q} (x : HasCode E c σ h n (CalmQ Q)) : HasCodeT E (.scope c) σ h n Q t := by
  obtain ⟨e, σ',h',n',hb,hc,hq⟩ := x
  exact ⟨e, σ',h',n', .scope hb hc,hq⟩
theorem scope_jump {E : Env} {c : ACode} {σ : Fr} {h : AHeap} {n : Nat} {Q : Ex → Fr → AHeap → Nat → Prop} {t : Tok Q} (x : HasCode E c σ h n (fun e σ' h' n' => CalmQ Q e σ' h' n' ∨ ∃ l r,e = .exit (gB + l) ∧ findLab c l = some r ∧ HasCode E r σ' h' n' (CalmQ Q))) : HasCodeT E (.scope c) σ h n Q t := by
  obtain ⟨e, σ',h',n',hb,⟨hc,hq⟩ | ⟨l,r,rfl,hf,e2, σ2,h2,n2,hb2,hc2,hq2⟩⟩ := x
  · exact ⟨e, σ',h',n', .scope hb hc,hq⟩
  · exact ⟨e2, σ2,h2,n2, .scopeJump hb hf hb2 hc2,hq2⟩
end
end Go.Proofs.YtkdpjaaohddppaaGreatDoor.Am
