/- The soundness of code and calls of the abstract machine, part C1: every derivation of the abstract machine is a run of the model. -/
import Derived.Test.YtkaibjdogeikbaaDoorB7
namespace Go.Proofs.YtkaibjdogeikbaaDoor.Am
noncomputable section

inductive Ex
  | normal
  | exit (id : Nat)
  | ret

def Fr.restrict (σ : Fr) : List Nat → Fr
  | [] => []
  | t :: l => match σ.get t with
    | some v => (t, v) :: σ.restrict l
    | none => σ.restrict l
theorem Fr.get_restrict (σ : Fr) (l : List Nat) (t : Nat) : (σ.restrict l).get t = if l.contains t then σ.get t else none := by
  induction l with
  | nil => rfl
  | cons k l ih =>
    simp only [restrict]
    by_cases hk : t = k
    · subst hk
      rw [if_pos (by simp)]
      split
      · rename_i v hv; rw [get_cons, if_pos rfl, hv]
      · rename_i hv
        rw [ih, hv]; split <;> rfl
    · have hc : (k :: l).contains t = l.contains t := by simp [hk]
      rw [hc]
      split
      · rw [get_cons, if_neg (fun e => hk e.symm)]; exact ih
      · exact ih

def setDst (σ : Fr) (d : Option Nat) (r : Option Value) : Fr :=
  match d, r with
  | some d, some v => σ.put d v
  | some d, none => σ.del d
  | none, _ => σ

/-- What an operation that ran on a part of the memory turned. -/
def AHeap.puts (h : AHeap) (h' : AHeap) : List Nat → AHeap
  | [] => h
  | i :: is => AHeap.puts (match h'.get i with | some b => h.put i b | none => h) h' is

structure Rec where
  h : AHeap
  n : Nat
  r : Option Value
  h' : AHeap
  n' : Nat
  chg : List Nat

def HSub (h h' : AHeap) : Prop := ∀ i b, h.get i = some b → h'.get i = some b
def FSub (σ σ' : Fr) : Prop := ∀ i v, σ.get i = some v → σ'.get i = some v

def Rec.ok (c : Rec) : Prop := (∀ i b, c.h.get i = some b → i ∉ c.chg → c.h'.get i = some b) ∧ (∀ i, i ∈ c.chg → (c.h'.get i).isSome ∧ ((c.h.get i).isSome ∨ c.n ≤ i ∧ i < c.n'))

def apartHeaps (a b : Rec) : Prop := (∀ i, i ∈ a.chg → b.h.get i = none) ∧ (∀ i, i ∈ b.chg → a.h.get i = none)

/-- Results as the function's results read them. -/
def evRes (σ : Fr) (h : AHeap) : List ARes → Option (List Value)
  | [] => some []
  | .tmp t :: rs => match σ.get t, evRes σ h rs with
    | some v, some vs => some (v :: vs)
    | _, _ => none
  | .cell t m :: rs => match aev (fun _ => σ.get t) h 0 (.load m (.t t)), evRes σ h rs with
    | some (v, _, _), some vs => some (v :: vs)
    | _, _ => none
def resVal : List Value → Value
  | [v] => v
  | vs => .tuple vs.toArray

def argFr : Nat → List Value → Fr
  | _, [] => []
  | i, v :: vs => (i, v) :: argFr (i + 1) vs

inductive J
  | op (o : AOper) (σ : Fr) (h : AHeap) (n : Nat) (r : Option Value) (h' : AHeap) (n' : Nat)
  | ops (l : List AOper) (σ : Fr) (h : AHeap) (n : Nat) (σ' : Fr) (h' : AHeap) (n' : Nat)
  | draw (l : List AOper) (σ : Fr) (h : AHeap) (n : Nat) (recs : List Rec) (σ' : Fr) (h' : AHeap) (n' : Nat)
  | code (c : ACode) (σ : Fr) (h : AHeap) (n : Nat) (e : Ex) (σ' : Fr) (h' : AHeap) (n' : Nat)
  | call (f : Nat) (args : List Value) (h : AHeap) (n : Nat) (v : Value) (h' : AHeap) (n' : Nat)

/-- The functions that are known by their code; and those that are known otherwise. -/
structure Env where
  fs : Nat → Option AFunc
  orc : Nat → List Value → AHeap → Nat → Value → AHeap → Nat → Prop

/-- What is known behind a run on a part of the memory. -/
def Framed (h h0 : AHeap) (n : Nat) (h0' : AHeap) (n' : Nat) (h' : AHeap) : Prop :=
  ∀ i b, h'.get i = some b → h0'.get i = some b ∨ (h0.get i = none ∧ ¬(n ≤ i ∧ i < n') ∧ h.get i = some b)

inductive Big (E : Env) : J → Prop
  | prim {o σ h n v h' n'} (pg : ∀ d b, o.guard = some (d, b) → σ.get d = some (.bool b)) (pa : aev (X.ev σ h) h n o.op = some (v, h', n')) (pm : n ≤ n') : Big E (.op o σ h n (some v) h' n')
  | skip {o σ h n d b} (pg : o.guard = some (d, b)) (pd : σ.get d = some (.bool (!b))) : Big E (.op o σ h n (some undef) h n)
  | skipOff {o σ h n d b} (pg : o.guard = some (d, b)) (pd : σ.get d = some undef) : Big E (.op o σ h n (some undef) h n)
  | opCall {o σ h n f xs g first captured vs v h' n'} (pg : ∀ d b, o.guard = some (d, b) → σ.get d = some (.bool b)) (po : o.op = .call f xs) (pf : X.ev σ h f = some (.func (.func g) first captured))
      (px : mapX (X.ev σ h) xs = some vs) (pc : Big E (.call g (first.toList ++ vs ++ captured.toList) h n v h' n')) : Big E (.op o σ h n (some v) h' n')
  | opsNil {σ h n} : Big E (.ops [] σ h n σ h n)
  | opsCons {o l σ h n r h1 n1 σ' h' n'} (p1 : Big E (.op o σ h n r h1 n1)) (p2 : Big E (.ops l (setDst σ o.dst r) h1 n1 σ' h' n')) : Big E (.ops (o :: l) σ h n σ' h' n')
  | drawNil {σ h n} : Big E (.draw [] σ h n [] σ h n)
  | drawCons {o l σ h c recs σ' h' n'} (p1 : Big E (.op o (σ.restrict o.reads) c.h c.n c.r c.h' c.n')) (ps : HSub c.h h) (pok : c.ok)
      (p2 : Big E (.draw l (setDst σ o.dst c.r) (h.puts c.h' c.chg) c.n' recs σ' h' n')) : Big E (.draw (o :: l) σ h c.n (c :: recs) σ' h' n')
  | cskip {σ h n} : Big E (.code .skip σ h n .normal σ h n)
  | region {l σ h n σ' h' n'} (p1 : Big E (.ops l σ h n σ' h' n')) : Big E (.code (.region l none) σ h n .normal σ' h' n')
  | regionDraw {l σ h n recs σ' h' n'} {ps : List (Nat × Nat)} (p1 : Big E (.draw l σ h n recs σ' h' n'))
      (pp : ∀ i j a b, (i, j) ∈ ps → recs[i]? = some a → recs[j]? = some b → apartHeaps a b) : Big E (.code (.region l (some ps)) σ h n .normal σ' h' n')
  | seq {a b σ h n σ1 h1 n1 e σ' h' n'} (x : Big E (.code a σ h n .normal σ1 h1 n1)) (y : Big E (.code b σ1 h1 n1 e σ' h' n')) : Big E (.code (.seq a b) σ h n e σ' h' n')
  | seqStop {a b σ h n e σ' h' n'} (x : Big E (.code a σ h n e σ' h' n')) (pe : e ≠ .normal) : Big E (.code (.seq a b) σ h n e σ' h' n')
  | cond {c a b σ h n t e σ' h' n'} (pc : X.ev σ h c = some (.bool t)) (x : Big E (.code (if t then a else b) σ h n e σ' h' n')) : Big E (.code (.cond c a b) σ h n e σ' h' n')
  | block {id c σ h n e σ' h' n'} (x : Big E (.code c σ h n e σ' h' n')) (pe : e ≠ .exit id) : Big E (.code (.block id c) σ h n e σ' h' n')
  | blockExit {id c σ h n σ' h' n'} (x : Big E (.code c σ h n (.exit id) σ' h' n')) : Big E (.code (.block id c) σ h n .normal σ' h' n')
  | loop {c σ h n σ1 h1 n1 e σ' h' n'} (x : Big E (.code c σ h n .normal σ1 h1 n1)) (y : Big E (.code (.loop c) σ1 h1 n1 e σ' h' n')) : Big E (.code (.loop c) σ h n e σ' h' n')
  | loopStop {c σ h n e σ' h' n'} (x : Big E (.code c σ h n e σ' h' n')) (pe : e ≠ .normal) : Big E (.code (.loop c) σ h n e σ' h' n')
  | exit {id σ h n} : Big E (.code (.exit id) σ h n (.exit id) σ h n)
  | ret {σ h n} : Big E (.code .ret σ h n .ret σ h n)
  | weak {c σ h n e σ' h' n' σ2 h2} (x : Big E (.code c σ h n e σ' h' n')) (pσ : FSub σ2 σ') (ph : HSub h2 h') : Big E (.code c σ h n e σ2 h2 n')
  | start {c σ h n e σ' h' n' σ2 h2} (x : Big E (.code c σ2 h2 n e σ' h' n')) (pσ : FSub σ2 σ) (ph : HSub h2 h) : Big E (.code c σ h n e σ' h' n')
  | call {f af args h n e σ' h1 n' vs h'} (pf : E.fs f = some af) (pargs : args.length ≤ af.ntmps) (x : Big E (.code af.body (argFr 0 args) h n e σ' h1 n')) (pe : e = .normal ∨ e = .ret)
      (pr : evRes σ' h1 af.results = some vs) (ph : HSub h' h1) : Big E (.call f args h n (resVal vs) h' n')
  | frame {f args h0 h n v h0' h' n'} (x : Big E (.call f args h0 n v h0' n')) (ps : HSub h0 h) (pf : Framed h h0 n h0' n' h') : Big E (.call f args h n v h' n')
  | early {f args h n n0 v h' n'} (x : Big E (.call f args h n0 v h' n')) (pm : n ≤ n0) : Big E (.call f args h n v h' n')
  | lift {f args h n v h' n1 n'} (x : Big E (.call f args h n v h' n1)) (pm : n1 ≤ n') : Big E (.call f args h n v h' n')
  | orc {f args h n v h' n'} (po : E.orc f args h n v h' n') (pm : n ≤ n') : Big E (.call f args h n v h' n')

end
end Go.Proofs.YtkaibjdogeikbaaDoor.Am
