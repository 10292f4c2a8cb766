/- The soundness of code and calls of the abstract machine,part CS: every derivation of the abstract machine is a run of the model. -/
import Derived.ControlIn
namespace Go.Proofs.YtkdpjaaohddppaaGreatDoor.Am
noncomputable section
open Go
/- A SCOPE WITH AT MOST ONE JUMP,in the fenced logic. -/
section
variable {F : Fence} {n : Nat} {P : Program} {b : Frame} {a : Act} {k : List Item} {cs : List Frame} {w : World} {Q : Exit → Act → World → Prop}
theorem stepR_scope {c : Code} : step P (lone (b.atR a (.code (.scope c) :: k)) cs w) = .next (lone (b.atR a (.code c :: .inScope c :: k)) cs w) :=
  step_lone_go (by simp [stepG,stepG.exec,Frame.atR])
theorem stepR_inScope {c : Code} : step P (lone (b.atR a (.inScope c :: k)) cs w) = .next (lone (b.atR a k) cs w) :=
  step_lone_go (by simp [stepG,stepG.exec,Frame.atR])
def onceTo (F : Fence) (n : Nat) (P : Program) (c : Code) (Q : Exit → Act → World → Prop) : Exit → Act → World → Prop
  | .goto l,a,w => ∃ rest,findLabel c l = some rest ∧ rest.wpIn F n P (fun e a w => match e with | .goto _ => False | e => Q e a w) a w
  | e,a,w => Q e a w
theorem wpIn_scope {c : Code} (h : c.wpIn F n P (onceTo F n P c Q) a w) : (Code.scope c).wpIn F n P Q a w := by
  intro b k cs hro hb hr
  have h0 : (lone (b.atR a (.code (.scope c) :: k)) cs w).fenced P F := fenced_calm hb hr rfl
  obtain ⟨e,a₁,w₁,hq,harr⟩ := h b (.inScope c :: k) cs hro hb hr
  have hexit : ∀ id,exitTo id (.inScope c :: k) = exitTo id k := fun id => by simp [exitTo]
  cases e with
  | normal => exact ⟨.normal,a₁,w₁,hq, .head h0 stepR_scope (StepsIn.trans harr (.one (fenced_calm hb hr rfl) stepR_inScope))⟩
  | exit id => exact ⟨_,a₁,w₁,hq,fun k' hk => .head h0 stepR_scope (harr.1 k' (by rw [hexit]; exact hk)),fun hr' hk => let ⟨k₁,h1,h2⟩ := harr.2 hr' (by rw [hexit]; exact hk); ⟨k₁,h1, .head h0 stepR_scope h2⟩⟩
  | goto l =>
    obtain ⟨rest,hf,hrest⟩ := hq
    have hg : gotoIn l (.inScope c :: k) = some (.code rest :: .inScope c :: k) := by simp [gotoIn,hf]
    obtain ⟨e₂,a₂,w₂,hq₂,harr₂⟩ := hrest b (.inScope c :: k) cs hro hb hr
    have hs := StepsIn.head h0 stepR_scope (harr.1 _ hg)
    cases e₂ with
    | normal => exact ⟨.normal,a₂,w₂,hq₂,StepsIn.trans hs (StepsIn.trans harr₂ (.one (fenced_calm hb hr rfl) stepR_inScope))⟩
    | exit id => exact ⟨_,a₂,w₂,hq₂,fun k' hk => hs.trans (harr₂.1 k' (by rw [hexit]; exact hk)),fun hr' hk => let ⟨k₁,h1,h2⟩ := harr₂.2 hr' (by rw [hexit]; exact hk); ⟨k₁,h1,hs.trans h2⟩⟩
    | goto l' => exact hq₂.elim
    | ret => exact ⟨_,a₂,w₂,hq₂, .of_steps hs harr₂⟩
    | panic ch => exact ⟨_,a₂,w₂,hq₂, .of_steps hs harr₂⟩
    | outgrown => exact ⟨_,a₂,w₂,hq₂, .of_steps hs harr₂⟩
  | ret => exact ⟨_,a₁,w₁,hq, .of_steps (.one h0 stepR_scope) harr⟩
  | panic ch => exact ⟨_,a₁,w₁,hq, .of_steps (.one h0 stepR_scope) harr⟩
  | outgrown => exact ⟨_,a₁,w₁,hq, .of_steps (.one h0 stepR_scope) harr⟩
end
end
end Go.Proofs.YtkdpjaaohddppaaGreatDoor.Am
