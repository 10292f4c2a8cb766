/- The evaluator of the abstract machine, part D7: what it finds is a derivation. -/
import Derived.Test.YtkaibjdogeikbaaDoorD6
namespace Go.Proofs.YtkaibjdogeikbaaDoor.Am
noncomputable section

/- TABLES: calls that are known, for a run that comes to them. -/
theorem Big.swap {E E' : Env} (hfs : ∀ f af, E'.fs f = some af → E.fs f = some af) (ho : ∀ f args h n v h' n', E'.orc f args h n v h' n' → n ≤ n' → Big E (.call f args h n v h' n')) {j : J} (b : Big E' j) : Big E j := by
  induction b with
  | prim pg pa pm => exact .prim pg pa pm
  | skip pg pd => exact .skip pg pd
  | skipOff pg pd => exact .skipOff pg pd
  | opCall pg po pf px _ ih => exact .opCall pg po pf px ih
  | opsNil => exact .opsNil
  | opsCons _ _ i1 i2 => exact .opsCons i1 i2
  | drawNil => exact .drawNil
  | drawCons _ ps pok _ i1 i2 => exact .drawCons i1 ps pok i2
  | cskip => exact .cskip
  | region _ i1 => exact .region i1
  | regionDraw _ pp i1 => exact .regionDraw i1 pp
  | seq _ _ i1 i2 => exact .seq i1 i2
  | seqStop _ pe i1 => exact .seqStop i1 pe
  | cond pc _ i1 => exact .cond pc i1
  | block _ pe i1 => exact .block i1 pe
  | blockExit _ i1 => exact .blockExit i1
  | loop _ _ i1 i2 => exact .loop i1 i2
  | loopStop _ pe i1 => exact .loopStop i1 pe
  | exit => exact .exit
  | ret => exact .ret
  | weak _ pσ ph i1 => exact .weak i1 pσ ph
  | start _ pσ ph i1 => exact .start i1 pσ ph
  | call pf pargs _ pe pr ph i1 => exact .call (hfs _ _ pf) pargs i1 pe pr ph
  | frame _ ps pf i1 => exact .frame i1 ps pf
  | early _ pm i1 => exact .early i1 pm
  | lift _ pm i1 => exact .lift i1 pm
  | orc po pm => exact ho _ _ _ _ _ _ _ po pm

/- Values without addresses, held against one another. -/
def eqS : Value → Value → Bool
  | .bool a, .bool b => a == b
  | .int k a, .int l b => decide (k = l) && a == b
  | .float k a, .float l b => decide (k = l) && a == b
  | .string a, .string b => a.data.toList == b.data.toList
  | .nilIface, .nilIface => true
  | .slice none 0 0, .slice none 0 0 => true
  | .pointer none, .pointer none => true
  | _, _ => false
def eqSs : List Value → List Value → Bool
  | [], [] => true
  | a :: l, b :: m => eqS a b && eqSs l m
  | _, _ => false
def eqV : Value → Value → Bool
  | .agg a, .agg b => eqSs a.toList b.toList
  | a, b => eqS a b
def eqVs : List Value → List Value → Bool
  | [], [] => true
  | a :: l, b :: m => eqV a b && eqVs l m
  | _, _ => false
def eqT : Value → Value → Bool
  | .tuple a, .tuple b => eqVs a.toList b.toList
  | a, b => eqV a b
theorem eqS_eq {a b : Value} (h : eqS a b = true) : a = b := by
  unfold eqS at h
  split at h <;> first
    | rfl
    | (simp at h; done)
    | (simp only [beq_iff_eq] at h; rw [h]; done)
    | (simp only [Bool.and_eq_true, decide_eq_true_eq, beq_iff_eq] at h; rw [h.1, h.2]; done)
    | (simp only [beq_iff_eq] at h; congr 1; apply ByteArray.ext; exact Array.toList_inj.1 h)
theorem eqSs_eq : ∀ {a b : List Value}, eqSs a b = true → a = b
  | [], [], _ => rfl
  | [], _ :: _, h => by cases h
  | _ :: _, [], h => by cases h
  | a :: l, b :: m, h => by
    simp only [eqSs, Bool.and_eq_true] at h
    rw [eqS_eq h.1, eqSs_eq h.2]
theorem eqV_eq {a b : Value} (h : eqV a b = true) : a = b := by
  unfold eqV at h
  split at h
  · rw [Array.toList_inj.1 (eqSs_eq h)]
  · exact eqS_eq h
theorem eqVs_eq : ∀ {a b : List Value}, eqVs a b = true → a = b
  | [], [], _ => rfl
  | [], _ :: _, h => by cases h
  | _ :: _, [], h => by cases h
  | a :: l, b :: m, h => by
    simp only [eqVs, Bool.and_eq_true] at h
    rw [eqV_eq h.1, eqVs_eq h.2]
theorem eqT_eq {a b : Value} (h : eqT a b = true) : a = b := by
  unfold eqT at h
  split at h
  · rw [Array.toList_inj.1 (eqVs_eq h)]
  · exact eqV_eq h

/-- A call that is known: with these arguments, at numbers up to n0; its value; the number behind it. -/
structure Ent where
  f : Nat
  args : List Value
  n0 : Nat
  v : Value
  n1 : Nat
def EntOk (E : Env) (e : Ent) : Prop := ∃ h', Big E (.call e.f e.args [] e.n0 e.v h' e.n1)
def lookE : List Ent → Nat → List Value → Nat → Option Ent
  | [], _, _, _ => none
  | e :: l, f, args, n => bif Nat.beq e.f f && eqVs e.args args && Nat.ble n e.n0 then some e else lookE l f args n
theorem lookE_some {l : List Ent} {f : Nat} {args : List Value} {n : Nat} {e : Ent} (h : lookE l f args n = some e) : e ∈ l ∧ e.f = f ∧ e.args = args ∧ n ≤ e.n0 := by
  induction l with
  | nil => cases h
  | cons x l ih =>
    simp only [lookE] at h
    cases hc : (Nat.beq x.f f && eqVs x.args args && Nat.ble n x.n0) with
    | true =>
      rw [hc] at h
      cases h
      simp only [Bool.and_eq_true] at hc
      exact ⟨.head _, Nat.eq_of_beq_eq_true hc.1.1, eqVs_eq hc.1.2, Nat.le_of_ble_eq_true hc.2⟩
    | false =>
      rw [hc] at h
      obtain ⟨h1, h2⟩ := ih h
      exact ⟨.tail _ h1, h2⟩
def tabEnv (E : EEnv) (off : List Nat) (tb : List Ent) : EEnv :=
  ⟨fun f => bif off.contains f then none else E.fs f, fun f args h n => match lookE tb f args n with
    | some e => bif h.all fun q => Nat.blt q.1 n then some (e.v, h, e.n1) else none
    | none => E.orc f args h n⟩
/-- What is known is known in any memory, at any number that is small enough. -/
theorem EntOk.any {E : Env} {e : Ent} (x : EntOk E e) {h : AHeap} {n : Nat} (hn : n ≤ e.n0) (hw : ∀ i b, h.get i = some b → i < n) : Big E (.call e.f e.args h n e.v h e.n1) := by
  obtain ⟨h', hb⟩ := x
  exact .frame (.early hb hn) (fun i b hb => by cases hb) fun i b hb => .inr ⟨rfl, fun hc => by have := hw i b hb; omega, hb⟩
theorem EntOk.le {E : Env} {e : Ent} (x : EntOk E e) : e.n0 ≤ e.n1 := by
  obtain ⟨h', hb⟩ := x
  exact hb.le
theorem tabEnv_kept {E : EEnv} (hE : E.Kept) {off : List Nat} {tb : List Ent} (ht : ∀ e, e ∈ tb → EntOk E.env e) : (tabEnv E off tb).Kept := by
  intro f args h n v h' n' he
  simp only [tabEnv] at he
  split at he
  · rename_i e hl
    obtain ⟨h1, h2, h3, h4⟩ := lookE_some hl
    cases hc : (h.all fun q => Nat.blt q.1 n) with
    | true =>
      rw [hc] at he
      cases he
      have := (ht e h1).le
      exact ⟨by omega, .refl _ _ _⟩
    | false => rw [hc] at he; cases he
  · exact hE _ _ _ _ _ _ _ he
theorem tabEnv_big {E : EEnv} {off : List Nat} {tb : List Ent} (ht : ∀ e, e ∈ tb → EntOk E.env e) {j : J} (b : Big (tabEnv E off tb).env j) : Big E.env j := by
  refine b.swap (fun f af hf => ?_) (fun f args h n v h' n' ho hn => ?_)
  · simp only [tabEnv, EEnv.env] at hf
    cases hc : off.contains f with
    | true => rw [hc] at hf; cases hf
    | false => rw [hc] at hf; exact hf
  · simp only [tabEnv, EEnv.env] at ho
    split at ho
    · rename_i e hl
      obtain ⟨h1, h2, h3, h4⟩ := lookE_some hl
      cases hc : (h.all fun q => Nat.blt q.1 n) with
      | true =>
        rw [hc] at ho
        cases ho
        subst h2 h3
        refine (ht e h1).any h4 fun i b hb => ?_
        have := List.all_eq_true.1 hc _ (AHeap.get_mem hb)
        simpa using this
      | false => rw [hc] at ho; cases ho
    · exact .orc ho hn
/-- A run's outcome is this one. -/
def isOut (v : Value) (n1 : Nat) : Option Out → Bool
  | some (u, _, n', _) => eqT u v && Nat.beq n' n1
  | _ => false
theorem ent_of_run {E : EEnv} (hE : E.Kept) {k : Nat} {e : Ent} (he : isOut e.v e.n1 (evCall E (codeK E k) e.f e.args [] e.n0) = true) : EntOk E.env e := by
  have hk : codeK E k = evCode E k := funext fun c => funext fun σ => funext fun h => funext fun n => codeK_eq E k c σ h n
  rw [hk] at he
  unfold isOut at he
  split at he
  · rename_i u h' n' log hq
    simp only [Bool.and_eq_true] at he
    have h1 := eqT_eq he.1
    have h2 := Nat.eq_of_beq_eq_true he.2
    subst h1 h2
    exact ⟨h', (evCall_big hE (evCode_big hE k) _ _ _ _ _ _ _ _ hq).1⟩
  · cases he
theorem ent_of_tab {E : EEnv} (hE : E.Kept) {off : List Nat} {tb : List Ent} (ht : ∀ e, e ∈ tb → EntOk E.env e) {k : Nat} {e : Ent} (he : isOut e.v e.n1 (evCall (tabEnv E off tb) (codeK (tabEnv E off tb) k) e.f e.args [] e.n0) = true) : EntOk E.env e := by
  obtain ⟨h', hb⟩ := ent_of_run (tabEnv_kept hE ht) he
  exact ⟨h', tabEnv_big ht hb⟩
/-- A run that turns nothing, on a memory that may be part of a greater one. -/
def isQuiet (v : Value) (n1 : Nat) : Option Out → Bool
  | some (u, _, n', log) => eqT u v && Nat.beq n' n1 && log.isEmpty
  | _ => false
theorem closed_any {E : EEnv} (hE : E.Kept) {k f : Nat} {args : List Value} {h0 : AHeap} {n0 n1 : Nat} {v : Value} (he : (isQuiet v n1 (evCall E (codeK E k) f args h0 n0) && h0.all fun q => Nat.blt q.1 n0) = true) {h : AHeap} {n : Nat} (hn : n ≤ n0) (hs : HSub h0 h) (hw : ∀ i b, h.get i = some b → i < n) :
    Big E.env (.call f args h n v h n1) := by
  have hk : codeK E k = evCode E k := funext fun c => funext fun σ => funext fun h => funext fun n => codeK_eq E k c σ h n
  rw [hk] at he
  simp only [Bool.and_eq_true] at he
  obtain ⟨he, hlt⟩ := he
  unfold isQuiet at he
  split at he
  · rename_i u h' n' log hq
    simp only [Bool.and_eq_true] at he
    have h1 := eqT_eq he.1.1
    have h2 := Nat.eq_of_beq_eq_true he.1.2
    have h3 : log = [] := by simpa using he.2
    subst h1 h2 h3
    obtain ⟨hb, hkp⟩ := evCall_big hE (evCode_big hE k) _ _ _ _ _ _ _ _ hq
    refine .frame (.early hb hn) hs fun i b hb => ?_
    cases h0i : h0.get i with
    | none => exact .inr ⟨rfl, fun hc => by have := hw i b hb; omega, hb⟩
    | some c =>
      have := hs i c h0i
      rw [hb] at this
      cases this
      have hi := List.all_eq_true.1 hlt _ (AHeap.get_mem h0i)
      exact .inl (hkp i b (by simpa using hi) (by simp) h0i)
  · cases he
end
end Go.Proofs.YtkaibjdogeikbaaDoor.Am
