/- The evaluator of the abstract machine,part D7b: what it finds is a derivation. -/
import Derived.Test.YtkdpjaaohddppaaGreatDoorD
import Derived.Test.YtkdpjaaohddppaaGreatDoorE
namespace Go.Proofs.YtkdpjaaohddppaaGreatDoor.Am
noncomputable section
/- TABLES of calls that are known in a memory that holds some blocks. -/
def EntOkH (E : Env) (hb : AHeap) (e : Ent) : Prop := ∃ h',Big E (.call e.f e.args hb e.n0 e.v h' e.n1) ∧ HSub hb h'
def eqBlkB : Blk → Blk → Bool
  | .cells none a m, .cells none b k => eqVs a b && Nat.beq m k
  | _,_ => false
theorem eqBlkB_eq {a b : Blk} (h : eqBlkB a b = true) : a = b := by
  unfold eqBlkB at h
  split at h
  · simp only [Bool.and_eq_true] at h
    rw [eqVs_eq h.1,Nat.eq_of_beq_eq_true h.2]
  · cases h
def hasB (hb h : AHeap) : Bool := hb.all fun q => match h.get q.1 with
  | some b => eqBlkB q.2 b
  | none => false
theorem hasB_sub {hb h : AHeap} (x : hasB hb h = true) : HSub hb h := by
  intro i b hi
  have := List.all_eq_true.1 x _ (AHeap.get_mem hi)
  simp only at this
  split at this
  · rename_i c hc; rw [eqBlkB_eq this]; exact hc
  · cases this
def tabEnvH (E : EEnv) (hb : AHeap) (off : List Nat) (tb : List Ent) : EEnv :=
  ⟨fun f => bif off.contains f then none else E.fs f,fun f args h n => match lookE tb f args n with
    | some e => bif hasB hb h && h.all fun q => Nat.blt q.1 n then some (e.v,h,e.n1) else none
    | none => E.orc f args h n⟩
theorem EntOkH.any {E : Env} {hb : AHeap} {e : Ent} (x : EntOkH E hb e) {h : AHeap} {n : Nat} (hn : n ≤ e.n0) (hs : HSub hb h) (hw : ∀ i b,h.get i = some b → i < n) : Big E (.call e.f e.args h n e.v h e.n1) := by
  obtain ⟨h',hbig,hk⟩ := x
  refine .frame (.early hbig hn) hs fun i b hi => ?_
  cases h0i : hb.get i with
  | none => exact .inr ⟨rfl,fun hc => by have := hw i b hi; omega,hi⟩
  | some c =>
    have := hs i c h0i
    rw [hi] at this
    cases this
    exact .inl (hk i b h0i)
theorem EntOkH.le {E : Env} {hb : AHeap} {e : Ent} (x : EntOkH E hb e) : e.n0 ≤ e.n1 := by
  obtain ⟨h',hb,_⟩ := x
  exact hb.le
theorem tabEnvH_kept {E : EEnv} (hE : E.Kept) {hb : AHeap} {off : List Nat} {tb : List Ent} (ht : ∀ e,e ∈ tb → EntOkH E.env hb e) : (tabEnvH E hb off tb).Kept := by
  intro f args h n v h' n' he
  simp only [tabEnvH] at he
  split at he
  · rename_i e hl
    obtain ⟨h1,h2,h3,h4⟩ := lookE_some hl
    cases hc : (hasB hb h && h.all fun q => Nat.blt q.1 n) with
    | true =>
      rw [hc] at he
      cases he
      have := (ht e h1).le
      exact ⟨by omega, .refl _ _ _⟩
    | false => rw [hc] at he; cases he
  · exact hE _ _ _ _ _ _ _ he
theorem tabEnvH_big {E : EEnv} {hb : AHeap} {off : List Nat} {tb : List Ent} (ht : ∀ e,e ∈ tb → EntOkH E.env hb e) {j : J} (b : Big (tabEnvH E hb off tb).env j) : Big E.env j := by
  refine b.swap (fun f af hf => ?_) (fun f args h n v h' n' ho hn => ?_) (fun _ _ _ _ _ _ _ x => False.elim x) (fun _ _ _ _ _ _ _ _ x => False.elim x)
  · simp only [tabEnvH,EEnv.env] at hf
    cases hc : off.contains f with
    | true => rw [hc] at hf; cases hf
    | false => rw [hc] at hf; exact hf
  · simp only [tabEnvH,EEnv.env] at ho
    split at ho
    · rename_i e hl
      obtain ⟨h1,h2,h3,h4⟩ := lookE_some hl
      cases hc : (hasB hb h && h.all fun q => Nat.blt q.1 n) with
      | true =>
        rw [hc] at ho
        cases ho
        subst h2 h3
        simp only [Bool.and_eq_true] at hc
        refine (ht e h1).any h4 (hasB_sub hc.1) fun i b hb => ?_
        have := List.all_eq_true.1 hc.2 _ (AHeap.get_mem hb)
        simpa using this
      | false => rw [hc] at ho; cases ho
    · exact .orc ho hn
theorem entH_of_tab {E : EEnv} (hE : E.Kept) {hb : AHeap} {off : List Nat} {tb : List Ent} (ht : ∀ e,e ∈ tb → EntOkH E.env hb e) {k : Nat} {e : Ent}
    (he : (isQuiet e.v e.n1 (evCall (tabEnvH E hb off tb) (codeK (tabEnvH E hb off tb) k) e.f e.args hb e.n0) && hb.all fun q => Nat.blt q.1 e.n0) = true) : EntOkH E.env hb e := by
  simp only [Bool.and_eq_true] at he
  obtain ⟨he,hlt⟩ := he
  have hk : codeK (tabEnvH E hb off tb) k = evCode (tabEnvH E hb off tb) k := funext fun c => funext fun σ => funext fun h => funext fun n => codeK_eq _ k c σ h n
  rw [hk] at he
  unfold isQuiet at he
  split at he
  · rename_i u h' n' log hq
    simp only [Bool.and_eq_true] at he
    have h1 := eqT_eq he.1.1
    have h2 := Nat.eq_of_beq_eq_true he.1.2
    have h3 : log = [] := by simpa using he.2
    subst h1 h2 h3
    obtain ⟨hbig,hkp⟩ := evCall_big (tabEnvH_kept hE ht) (evCode_big (tabEnvH_kept hE ht) k) _ _ _ _ _ _ _ _ hq
    refine ⟨h',tabEnvH_big ht hbig,fun i b hi => hkp i b ?_ (by simp) hi⟩
    have := List.all_eq_true.1 hlt _ (AHeap.get_mem hi)
    simpa using this
  · cases he
theorem EntOkH.ret {E : Env} {hb : AHeap} {e : Ent} (x : EntOkH E hb e) {h : AHeap} {n : Nat} (hn : n ≤ e.n0) (hs : HSub hb h) (hw : WF h n) : Ret E e.f e.args h n e.v [] e.n1 :=
  ⟨x.any hn hs fun i b hb => hw.lt hb,by simp,by simp⟩
end
end Go.Proofs.YtkdpjaaohddppaaGreatDoor.Am
