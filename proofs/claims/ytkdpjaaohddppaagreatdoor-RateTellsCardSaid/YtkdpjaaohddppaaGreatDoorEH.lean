/- Rules to walk through code of the abstract machine with values that are not known (EH). -/
import Derived.Test.YtkdpjaaohddppaaGreatDoorE
namespace Go.Proofs.YtkdpjaaohddppaaGreatDoor.Am
noncomputable section
/- CODE IN PARTS: a part that is shown otherwise than by the walk. -/
section
variable {E : Env} {σ : Fr} {h : AHeap} {n : Nat} {Q : Ex → Fr → AHeap → Nat → Prop} {t : Tok Q}
def kThenH (E : Env) (b : ACode) (Q : Ex → Fr → AHeap → Nat → Prop) (_ : Tok Q) (e : Ex) (σ : Fr) (h : AHeap) (n : Nat) : Prop := match e with
  | .normal => HasCodeT E b σ h n Q ()
  | e => Q e σ h n
theorem kThenH_normal {b : ACode} : kThenH E b Q t .normal σ h n = HasCodeT E b σ h n Q () := rfl
theorem kThenH_ret {b : ACode} : kThenH E b Q t .ret σ h n = Q .ret σ h n := rfl
theorem kThenH_exit {b : ACode} {j : Nat} : kThenH E b Q t (.exit j) σ h n = Q (.exit j) σ h n := rfl
attribute [simp] kThenH_normal kThenH_ret kThenH_exit
theorem hc_seq {a b : ACode} (x : HasCode E a σ h n (kThenH E b Q ())) : HasCodeT E (.seq a b) σ h n Q t := by
  obtain ⟨e, σ1,h1,n1,hb,hq⟩ := x
  cases e with
  | normal =>
    obtain ⟨e, σ',h',n',hb2,hq2⟩ := (hq : HasCode E b σ1 h1 n1 Q)
    exact ⟨_,_,_,_, .seq hb hb2,hq2⟩
  | exit j => exact ⟨_,_,_,_, .seqStop hb (by simp),hq⟩
  | ret => exact ⟨_,_,_,_, .seqStop hb (by simp),hq⟩
end
end
end Go.Proofs.YtkdpjaaohddppaaGreatDoor.Am
