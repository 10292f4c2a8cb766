/- The soundness of code and calls of the abstract machine,part C: every derivation of the abstract machine is a run of the model. -/
import Derived.Test.YtkdpjaaohddppaaGreatDoorB
import Derived.OrdersIn
import Derived.TacticsIn
import Derived.LoopNIn
import Derived.Test.YtkdpjaaohddppaaGreatDoorCS
import Derived.LoopN
import Derived.RangeFuncLeaves
import Derived.RangeFuncRecord
namespace Go.Proofs.YtkdpjaaohddppaaGreatDoor.Am
noncomputable section

inductive Ex
  | normal
  | exit (id : Nat)
  | ret

def Fr.restrict (σ : Fr) : List Nat → Fr
  | [] => []
  | t :: l => match σ.get t with
    | some v => (t,v) :: σ.restrict l
    | none => σ.restrict l
theorem Fr.get_restrict (σ : Fr) (l : List Nat) (t : Nat) : (σ.restrict l).get t = if l.contains t then σ.get t else none := by
  induction l with
  | nil => rfl
  | cons k l ih =>
    simp only [restrict]
    by_cases hk : t = k
    · subst hk
      rw [if_pos (by simp)]
      split
      · rename_i v hv; rw [get_cons,if_pos rfl,hv]
      · rename_i hv
        rw [ih,hv]; split <;> rfl
    · have hc : (k :: l).contains t = l.contains t := by simp [hk]
      rw [hc]
      split
      · rw [get_cons,if_neg (fun e => hk e.symm)]; exact ih
      · exact ih

def setDst (σ : Fr) (d : Option Nat) (r : Option Value) : Fr :=
  match d,r with
  | some d,some v => σ.put d v
  | some d,none => σ.del d
  | none,_ => σ

def AHeap.puts (h : AHeap) (h' : AHeap) : List Nat → AHeap
  | [] => h
  | i :: is => AHeap.puts (match h'.get i with | some b => h.put i b | none => h) h' is

structure Rec where
  h : AHeap
  n : Nat
  r : Option Value
  h' : AHeap
  n' : Nat
  chg : List Nat

def HSub (h h' : AHeap) : Prop := ∀ i b,h.get i = some b → h'.get i = some b
def FSub (σ σ' : Fr) : Prop := ∀ i v, σ.get i = some v → σ'.get i = some v

def Rec.ok (c : Rec) : Prop := (∀ i b,c.h.get i = some b → i ∉ c.chg → c.h'.get i = some b) ∧ (∀ i,i ∈ c.chg → (c.h'.get i).isSome ∧ ((c.h.get i).isSome ∨ c.n ≤ i ∧ i < c.n'))

def apartHeaps (a b : Rec) : Prop := (∀ i,i ∈ a.chg → b.h.get i = none) ∧ (∀ i,i ∈ b.chg → a.h.get i = none)

def evRes (σ : Fr) (h : AHeap) : List ARes → Option (List Value)
  | [] => some []
  | .tmp t :: rs => match σ.get t,evRes σ h rs with
    | some v,some vs => some (v :: vs)
    | _,_ => none
  | .cell t m :: rs => match aev (fun _ => σ.get t) h 0 (.load m (.t t)),evRes σ h rs with
    | some (v,_,_),some vs => some (v :: vs)
    | _,_ => none
def resVal : List Value → Value
  | [v] => v
  | vs => .tuple vs.toArray

def argFr : Nat → List Value → Fr
  | _,[] => []
  | i,v :: vs => (i,v) :: argFr (i + 1) vs

inductive J
  | op (o : AOper) (σ : Fr) (h : AHeap) (n : Nat) (r : Option Value) (h' : AHeap) (n' : Nat)
  | ops (l : List AOper) (σ : Fr) (h : AHeap) (n : Nat) (σ' : Fr) (h' : AHeap) (n' : Nat)
  | draw (l : List AOper) (σ : Fr) (h : AHeap) (n : Nat) (recs : List Rec) (σ' : Fr) (h' : AHeap) (n' : Nat)
  | code (c : ACode) (σ : Fr) (h : AHeap) (n : Nat) (e : Ex) (σ' : Fr) (h' : AHeap) (n' : Nat)
  | call (f : Nat) (args : List Value) (h : AHeap) (n : Nat) (v : Value) (h' : AHeap) (n' : Nat)

structure Env where
  fs : Nat → Option AFunc
  orc : Nat → List Value → AHeap → Nat → Value → AHeap → Nat → Prop
  yl : Nat → List Value → AHeap → Nat → Value → AHeap → Nat → Prop
  xc : ACode → Fr → AHeap → Nat → Ex → Fr → AHeap → Nat → Prop

def Framed (h h0 : AHeap) (n : Nat) (h0' : AHeap) (n' : Nat) (h' : AHeap) : Prop :=
  ∀ i b,h'.get i = some b → h0'.get i = some b ∨ (h0.get i = none ∧ ¬(n ≤ i ∧ i < n') ∧ h.get i = some b)

inductive Big (E : Env) : J → Prop
  | prim {o σ h n v h' n'} (pg : ∀ d b,o.guard = some (d,b) → σ.get d = some (.bool b)) (pa : aev (X.ev σ h) h n o.op = some (v,h',n')) (pm : n ≤ n') : Big E (.op o σ h n (some v) h' n')
  | skip {o σ h n d b} (pg : o.guard = some (d,b)) (pd : σ.get d = some (.bool (!b))) : Big E (.op o σ h n (some undef) h n)
  | skipOff {o σ h n d b} (pg : o.guard = some (d,b)) (pd : σ.get d = some undef) : Big E (.op o σ h n (some undef) h n)
  | opCall {o σ h n f xs g first captured vs v h' n'} (pg : ∀ d b,o.guard = some (d,b) → σ.get d = some (.bool b)) (po : o.op = .call f xs) (pf : X.ev σ h f = some (.func (.func g) first captured))
      (px : mapX (X.ev σ h) xs = some vs) (pc : Big E (.call g (first.toList ++ vs ++ captured.toList) h n v h' n')) : Big E (.op o σ h n (some v) h' n')
  | opYield {o σ h n f xs l vs v h' n'} (pg : ∀ d b,o.guard = some (d,b) → σ.get d = some (.bool b)) (po : o.op = .call f xs) (pf : X.ev σ h f = some (.func (.yield l) #[] #[])) (px : mapX (X.ev σ h) xs = some vs) (py : E.yl l vs h n v h' n') (pm : n ≤ n') : Big E (.op o σ h n (some v) h' n')
  | opMovAny {o σ h n x} (pg : o.guard = none) (po : o.op = .mov x) : Big E (.op o σ h n none h n)
  | opsNan {o1 o2 l σ h n d1 p q a b c k x y z σ' h' n'} (g1 : o1.guard = none) (g2 : o2.guard = none) (e1 : o1.dst = some d1) (p1 : o1.op = .bin p a b) (p2 : o2.op = .bin q c (.t d1)) (hp : p = .add ∨ p = .sub ∨ p = .mul ∨ p = .quo) (hq : q = .add ∨ q = .sub ∨ q = .mul ∨ q = .quo)
      (pa : X.ev σ h a = some (.float k x)) (pb : X.ev σ h b = some (.float k y)) (pc : X.ev σ h c = some (.float k z)) (hc : c ≠ .t d1) (rest : Big E (.ops l (setDst (setDst σ o1.dst none) o2.dst none) h n σ' h' n')) : Big E (.ops (o1 :: o2 :: l) σ h n σ' h' n')
  | opsNil {σ h n} : Big E (.ops [] σ h n σ h n)
  | opsCons {o l σ h n r h1 n1 σ' h' n'} (p1 : Big E (.op o σ h n r h1 n1)) (p2 : Big E (.ops l (setDst σ o.dst r) h1 n1 σ' h' n')) : Big E (.ops (o :: l) σ h n σ' h' n')
  | drawNil {σ h n} : Big E (.draw [] σ h n [] σ h n)
  | drawCons {o l σ h c recs σ' h' n'} (p1 : Big E (.op o (σ.restrict o.reads) c.h c.n c.r c.h' c.n')) (ps : HSub c.h h) (pok : c.ok)
      (p2 : Big E (.draw l (setDst σ o.dst c.r) (h.puts c.h' c.chg) c.n' recs σ' h' n')) : Big E (.draw (o :: l) σ h c.n (c :: recs) σ' h' n')
  | cskip {σ h n} : Big E (.code .skip σ h n .normal σ h n)
  | region {l σ h n σ' h' n'} (p1 : Big E (.ops l σ h n σ' h' n')) : Big E (.code (.region l none) σ h n .normal σ' h' n')
  | regionDraw {l σ h n recs σ' h' n'} {ps : List (Nat × Nat)} (p1 : Big E (.draw l σ h n recs σ' h' n'))
      (pp : ∀ i j a b,(i,j) ∈ ps → recs[i]? = some a → recs[j]? = some b → apartHeaps a b) : Big E (.code (.region l (some ps)) σ h n .normal σ' h' n')
  | seq {a b σ h n σ1 h1 n1 e σ' h' n'} (x : Big E (.code a σ h n .normal σ1 h1 n1)) (y : Big E (.code b σ1 h1 n1 e σ' h' n')) : Big E (.code (.seq a b) σ h n e σ' h' n')
  | seqStop {a b σ h n e σ' h' n'} (x : Big E (.code a σ h n e σ' h' n')) (pe : e ≠ .normal) : Big E (.code (.seq a b) σ h n e σ' h' n')
  | cond {c a b σ h n t e σ' h' n'} (pc : X.ev σ h c = some (.bool t)) (x : Big E (.code (if t then a else b) σ h n e σ' h' n')) : Big E (.code (.cond c a b) σ h n e σ' h' n')
  | block {id c σ h n e σ' h' n'} (x : Big E (.code c σ h n e σ' h' n')) (pe : e ≠ .exit id) : Big E (.code (.block id c) σ h n e σ' h' n')
  | blockExit {id c σ h n σ' h' n'} (x : Big E (.code c σ h n (.exit id) σ' h' n')) : Big E (.code (.block id c) σ h n .normal σ' h' n')
  | loop {c σ h n σ1 h1 n1 e σ' h' n'} (x : Big E (.code c σ h n .normal σ1 h1 n1)) (y : Big E (.code (.loop c) σ1 h1 n1 e σ' h' n')) : Big E (.code (.loop c) σ h n e σ' h' n')
  | loopStop {c σ h n e σ' h' n'} (x : Big E (.code c σ h n e σ' h' n')) (pe : e ≠ .normal) : Big E (.code (.loop c) σ h n e σ' h' n')
  | exit {id σ h n} : Big E (.code (.exit id) σ h n (.exit id) σ h n)
  | ret {σ h n} : Big E (.code .ret σ h n .ret σ h n)
  | label {l σ h n} : Big E (.code (.label l) σ h n .normal σ h n)
  | scope {c σ h n e σ' h' n'} (x : Big E (.code c σ h n e σ' h' n')) (pe : ∀ l,e ≠ .exit (gB + l)) : Big E (.code (.scope c) σ h n e σ' h' n')
  | scopeJump {c l r σ h n σ1 h1 n1 e σ' h' n'} (x : Big E (.code c σ h n (.exit (gB + l)) σ1 h1 n1)) (pf : findLab c l = some r) (y : Big E (.code r σ1 h1 n1 e σ' h' n')) (pe : ∀ l,e ≠ .exit (gB + l)) : Big E (.code (.scope c) σ h n e σ' h' n')
  | ext {c σ h n e σ' h' n'} (px : E.xc c σ h n e σ' h' n') (pm : n ≤ n') : Big E (.code c σ h n e σ' h' n')
  | weak {c σ h n e σ' h' n' σ2 h2} (x : Big E (.code c σ h n e σ' h' n')) (pσ : FSub σ2 σ') (ph : HSub h2 h') : Big E (.code c σ h n e σ2 h2 n')
  | start {c σ h n e σ' h' n' σ2 h2} (x : Big E (.code c σ2 h2 n e σ' h' n')) (pσ : FSub σ2 σ) (ph : HSub h2 h) : Big E (.code c σ h n e σ' h' n')
  | call {f af args h n e σ' h1 n' vs h'} (pf : E.fs f = some af) (pargs : args.length ≤ af.ntmps) (x : Big E (.code af.body (argFr 0 args) h n e σ' h1 n')) (pe : e = .normal ∨ e = .ret)
      (pr : evRes σ' h1 af.results = some vs) (ph : HSub h' h1) : Big E (.call f args h n (resVal vs) h' n')
  | frame {f args h0 h n v h0' h' n'} (x : Big E (.call f args h0 n v h0' n')) (ps : HSub h0 h) (pf : Framed h h0 n h0' n' h') : Big E (.call f args h n v h' n')
  | early {f args h n n0 v h' n'} (x : Big E (.call f args h n0 v h' n')) (pm : n ≤ n0) : Big E (.call f args h n v h' n')
  | lift {f args h n v h' n1 n'} (x : Big E (.call f args h n v h' n1)) (pm : n1 ≤ n') : Big E (.call f args h n v h' n')
  | orc {f args h n v h' n'} (po : E.orc f args h n v h' n') (pm : n ≤ n') : Big E (.call f args h n v h' n')

end
end Go.Proofs.YtkdpjaaohddppaaGreatDoor.Am
namespace Go.Proofs.YtkdpjaaohddppaaGreatDoor.Am
noncomputable section
open Go.RowKit (Below)

def J.mono : J → Prop
  | .op _ _ _ n _ _ n' | .ops _ _ _ n _ _ n' | .draw _ _ _ n _ _ _ n' | .code _ _ _ n _ _ _ n' | .call _ _ _ n _ _ n' => n ≤ n'

theorem Big.le {E : Env} {j : J} (h : Big E j) : j.mono := by
  induction h <;> simp only [J.mono] at * <;> first | omega | assumption

def FrameRel (φ : Phi) (σ : Fr) (a : Act) : Prop := ∀ t v, σ.get t = some v → ∃ u,a.tmps[t]? = some u ∧ VRel φ v u

section
variable {P : Program} {w0 : World} {φ : Phi} {T : TH} {w : World} {h : AHeap} {n : Nat} {σ : Fr} {a : Act}

theorem FrameRel.mono {ψ : Phi} (hf : FrameRel φ σ a) (hle : Phi.Le φ ψ) : FrameRel ψ σ a := fun t v hv => by
  obtain ⟨u,hu,hr⟩ := hf t v hv
  exact ⟨u,hu,hr.mono hle⟩

theorem FrameRel.rho (hs : Sat 4096 w0 φ T w) (hh : Sub h T) (hf : FrameRel φ σ a) : RhoRel φ σ h a.eval := by
  intro x x' v hx hv
  cases x with
  | tmp t =>
    simp [cX] at hx; subst hx
    simp only [X.ev] at hv
    obtain ⟨u,hu,hr⟩ := hf t v hv
    simpa [Act.eval,hu] using hr
  | const c =>
    simp only [cX] at hx
    split at hx
    · rename_i hc
      simp at hx; subst hx
      simp only [X.ev,Option.some.injEq] at hv
      subst hv
      exact .of_flat hc
    · simp at hx
  | global g =>
    simp only [cX] at hx
    split at hx
    · rename_i hg
      simp at hx; subst hx
      simp only [X.ev] at hv
      split at hv
      · rename_i own cs min hget
        simp at hv; subst hv
        obtain ⟨⟨l,hl⟩,_⟩ := hs.blk g _ (hh g _ hget)
        obtain ⟨h1,h2,_⟩ := hs.glob g _ l hl hg
        have := VRel.ptr (φ := φ) g 0 cs.length l hl
        rw [h1,h2] at this
        exact this
      · simp at hv
    · simp at hx
  | func f =>
    simp [cX] at hx; subst hx
    simp only [X.ev,Option.some.injEq] at hv
    subst hv
    exact VRels.func .nil .nil

theorem tmps_put {d : Option Tmp} {u : Value} {t : Nat} : (a.put d u).tmps[t]? = if d = some t ∧ t < a.tmps.size then some u else a.tmps[t]? := by
  cases d with
  | none => simp [Act.put]
  | some d =>
    simp only [Act.put,Array.getElem?_setIfInBounds,Option.some.injEq]
    split
    · rename_i h; subst h
      split
      · rename_i h2; simp [h2]
      · rename_i h2; simp [h2]
    · rename_i h; simp [h]

theorem put_size {d : Option Tmp} {u : Value} : (a.put d u).tmps.size = a.tmps.size := by
  cases d <;> simp [Act.put]
theorem put_defers {d : Option Tmp} {u : Value} : (a.put d u).defers = a.defers := by
  cases d <;> rfl

theorem FrameRel.put (hf : FrameRel φ σ a) {d : Option Nat} (hd : ∀ k,d = some k → k < a.tmps.size) {r : Option Value} {u : Value} (hr : ∀ v,r = some v → VRel φ v u) : FrameRel φ (setDst σ d r) (a.put d u) := by
  intro t v hv
  rw [tmps_put]
  cases d with
  | none =>
    simp only [setDst] at hv
    simpa using hf t v hv
  | some d =>
    simp only [setDst] at hv
    cases r with
    | none =>
      simp only at hv
      by_cases e : d = t
      · subst e; rw [Fr.get_del_same] at hv; cases hv
      · rw [Fr.get_del_ne _ e] at hv
        simpa [e] using hf t v hv
    | some r =>
      simp only at hv
      rw [Fr.get_put] at hv
      split at hv
      · rename_i e; subst e
        obtain rfl := Option.some.inj hv
        exact ⟨u,by rw [if_pos ⟨rfl,hd _ rfl⟩],hr _ rfl⟩
      · rename_i e
        simpa [e] using hf t v hv

def Invokes (P : Program) (f : FuncId) (args : Array Value) (w : World) (R : Value → World → Prop) : Prop :=
  ∀ (o : Oper) (a : Act) (K : Act → World → Prop) (Q : Exit → Act → World → Prop),(∀ u w',R u w' → K (a.put o.dst u) w') → o.upon P a K Q ((callFunc f args).run P w)

def SoundCall (P : Program) (w0 : World) (f : Nat) (args : List Value) (h : AHeap) (n : Nat) (v : Value) (h' : AHeap) (n' : Nat) : Prop :=
  ∀ φ T w cargs,Sat 4096 w0 φ T w → Sub h T → Fresh φ T n n' → 4096 ≤ n → VRels φ args cargs →
    Invokes P f cargs.toArray w fun u w' => ∃ φ' T',VRel φ' v u ∧ Post 4096 w0 φ T h n φ' T' w' h' n'

def FW (ro : Option Nat) : Fence := { Fence.wide with round := ro }
theorem wp_in {o : Oper} {a : Act} {w : World} {K : Act → World → Prop} {Q : Exit → Act → World → Prop} (hnd : ∀ c,o.op ≠ .defer c) (h : o.wp P a w K Q) (ro : Option Nat) : o.wpIn (FW ro) 0 P a w K Q := by
  refine ⟨fun f _ => trivial, ?_⟩
  have e : o.semAt (FW ro).round a.eval = execOp a.eval o := Oper.semAt_eq ro a.eval o hnd
  rw [e]
  unfold Oper.wp at h
  generalize (execOp a.eval o).run P w = x at h ⊢
  cases x with
  | ok x w' =>
    cases x <;> simp only [Oper.upon] at h <;> simp only [Oper.uponIn] <;> first
      | exact h
      | exact ⟨fun x => (by cases x),callsIn_wide.2 h⟩
      | exact ⟨fun x => (by cases x),fun c cs _ => let ⟨v,w',r,s⟩ := h c cs; ⟨v,w',r,stepsIn_wide.2 s⟩⟩
      | exact h.elim
  | halt x w' => cases x <;> simp only [Oper.upon] at h <;> simp only [Oper.uponIn] <;> first | exact h | exact h.elim

def SoundYield (P : Program) (w0 : World) (l : Nat) (args : List Value) (h : AHeap) (n : Nat) (v : Value) (h' : AHeap) (n' : Nat) : Prop :=
  ∀ φ T w cargs,Sat 4096 w0 φ T w → Sub h T → Fresh φ T n n' → 4096 ≤ n → VRels φ args cargs →
    ∀ (ro : Option Nat) (o : Oper) (a : Act) (K : Act → World → Prop) (Q : Exit → Act → World → Prop),(∀ u w',(∃ φ' T',VRel φ' v u ∧ Post 4096 w0 φ T h n φ' T' w' h' n') → K (a.put o.dst u) w') →
      o.uponIn (FW ro) 0 P a K Q ((Instr.yield l cargs.toArray).run P w)

def SoundOp (P : Program) (w0 : World) (o : AOper) (σ : Fr) (h : AHeap) (n : Nat) (r : Option Value) (h' : AHeap) (n' : Nat) : Prop :=
  ∀ (ro : Option Nat) (co : Oper) (cops : Array Oper) (ntmps : Nat) (draw : Bool),cOper P ntmps draw cops co = some o →
    ∀ φ T w a,Sat 4096 w0 φ T w → Sub h T → Fresh φ T n n' → 4096 ≤ n → FrameRel φ σ a → ∀ (K : Act → World → Prop) (Q : Exit → Act → World → Prop),
      (∀ φ' T' w' u,Post 4096 w0 φ T h n φ' T' w' h' n' → (∀ v,r = some v → VRel φ' v u) → K (a.put co.dst u) w') →
      if Region.wanted co (yielded cops a.tmps) then co.wpIn (FW ro) 0 P a w K Q else K (a.put co.dst undef) w

theorem cOper_spec {ntmps : Nat} {draw : Bool} {cops : Array Oper} {co : Oper} {o : AOper} (h : cOper P ntmps draw cops co = some o) :
    some ((cOp P co.op).getD .fail) = some o.op ∧ o.dst = co.dst ∧ (∀ d,co.dst = some d → d < ntmps) ∧ o.deps = (if draw then cDeps co.after.toList else []) ∧
    ((co.guard = none ∧ o.guard = none) ∨ ∃ j b d,co.guard = some (j,b) ∧ (cops[j]?).bind (·.dst) = some d ∧ o.guard = some (d,b)) := by
  unfold cOper at h
  split at h
  · rename_i op g hop hg
    split at h
    · rename_i hd
      simp at h; subst h
      refine ⟨hop,rfl,fun d he => by rw [he] at hd; simpa [dstOk] using hd,rfl, ?_⟩
      split at hg
      · rename_i hn; simp at hg; subst hg; exact .inl ⟨hn,rfl⟩
      · rename_i j b hn
        split at hg
        · rename_i d hd'; simp at hg; subst hg; exact .inr ⟨j,b,d,hn,hd',rfl⟩
        · simp at hg
    · simp at h
  · simp at h

theorem wanted_of {ntmps : Nat} {draw : Bool} {cops : Array Oper} {co : Oper} {o : AOper} (h : cOper P ntmps draw cops co = some o) (hf : FrameRel φ σ a) (hg : ∀ d b,o.guard = some (d,b) → σ.get d = some (.bool b)) :
    Region.wanted co (yielded cops a.tmps) = true := by
  obtain ⟨_,_,_,_,h⟩ := cOper_spec h
  rcases h with ⟨h1,_⟩ | ⟨j,b,d,h1,h2,h3⟩
  · simp [Region.wanted,h1]
  · obtain ⟨u,hu,hr⟩ := hf d _ (hg d b h3)
    cases hr
    simp [Region.wanted,h1,yielded,h2,hu]

theorem unwanted_of {ntmps : Nat} {draw : Bool} {cops : Array Oper} {co : Oper} {o : AOper} (h : cOper P ntmps draw cops co = some o) (hf : FrameRel φ σ a) {d : Nat} {b : Bool} (hg : o.guard = some (d,b)) (hd : σ.get d = some (.bool (!b))) :
    Region.wanted co (yielded cops a.tmps) = false := by
  obtain ⟨_,_,_,_,h⟩ := cOper_spec h
  rcases h with ⟨_,h1⟩ | ⟨j,b',d',h1,h2,h3⟩
  · rw [h1] at hg; cases hg
  · rw [h3] at hg
    obtain ⟨rfl,rfl⟩ := by simpa using hg
    obtain ⟨u,hu,hr⟩ := hf _ _ hd
    cases hr
    simp [Region.wanted,h1,yielded,h2,hu]

theorem unwanted_off {ntmps : Nat} {draw : Bool} {cops : Array Oper} {co : Oper} {o : AOper} (h : cOper P ntmps draw cops co = some o) (hf : FrameRel φ σ a) {d : Nat} {b : Bool} (hg : o.guard = some (d,b)) (hd : σ.get d = some undef) :
    Region.wanted co (yielded cops a.tmps) = false := by
  obtain ⟨_,_,_,_,h⟩ := cOper_spec h
  rcases h with ⟨_,h1⟩ | ⟨j,b',d',h1,h2,h3⟩
  · rw [h1] at hg; cases hg
  · rw [h3] at hg
    obtain ⟨rfl,rfl⟩ := by simpa using hg
    obtain ⟨u,hu,hr⟩ := hf _ _ hd
    cases hr
    simp [Region.wanted,h1,yielded,h2,hu]

theorem prim_sound {o : AOper} {v : Value} {h' : AHeap} {n' : Nat} (pg : ∀ d b,o.guard = some (d,b) → σ.get d = some (.bool b)) (pa : aev (X.ev σ h) h n o.op = some (v,h',n')) :
    SoundOp P w0 o σ h n (some v) h' n' := by
  intro ro co cops ntmps draw hc φ T w a hs hh hf hG hfr K Q hK
  rw [if_pos (wanted_of hc hfr pg)]
  obtain ⟨hop,_⟩ := cOper_spec hc
  have hop : cOp P co.op = some o.op := by
    cases hx : cOp P co.op with
    | none =>
      rw [hx] at hop
      have hop : AOp.fail = o.op := Option.some.inj hop
      rw [← hop] at pa
      cases pa
    | some a => rw [hx] at hop; simpa using hop
  obtain ⟨nx,u, φ',T',w',h1,h2,h3,h4⟩ := cOp_sound (P := P) hs hh hG (hfr.rho hs hh) hop pa hf
  refine wp_in (fun c e => by rw [e] at hop; cases hop) ?_ ro
  unfold Oper.wp
  rw [h1]
  have hk := hK φ' T' w' u h4 (fun v' hv' => by obtain rfl := Option.some.inj hv'; exact h3)
  cases nx <;> simp only [ores] at h2 <;> (try (simp at h2; done)) <;> (obtain rfl := Option.some.inj h2) <;> exact hk

theorem skip_sound {o : AOper} {d : Nat} {b : Bool} (pg : o.guard = some (d,b)) (pd : σ.get d = some (.bool (!b))) : SoundOp P w0 o σ h n (some undef) h n := by
  intro ro co cops ntmps draw hc φ T w a hs hh hf hG hfr K Q hK
  rw [if_neg (by rw [unwanted_of hc hfr pg pd]; simp)]
  exact hK φ T w undef (.refl hs hh) (fun v hv => by cases hv; exact VRels.tuple .nil)
theorem skipOff_sound {o : AOper} {d : Nat} {b : Bool} (pg : o.guard = some (d,b)) (pd : σ.get d = some undef) : SoundOp P w0 o σ h n (some undef) h n := by
  intro ro co cops ntmps draw hc φ T w a hs hh hf hG hfr K Q hK
  rw [if_neg (by rw [unwanted_off hc hfr pg pd]; simp)]
  exact hK φ T w undef (.refl hs hh) (fun v hv => by cases hv; exact VRels.tuple .nil)

theorem cBuiltin_not {b : Builtin} {ts : Array TypeId} {xs : List X} {f : X} {ys : List X} (h : cBuiltin P b ts xs = some (.call f ys)) : False := by
  unfold cBuiltin at h
  repeat' split at h
  all_goals simp at h
theorem cBin_not {op : BinOp} {t : TypeId} {x y : Operand} {f : X} {ys : List X} (h : cBin P op t x y = some (.call f ys)) : False := by
  unfold cBin at h
  repeat' split at h
  all_goals simp at h
theorem cConv_not {s d : TypeId} {x : X} {f : X} {ys : List X} (h : cConv P s d x = some (.call f ys)) : False := by
  unfold cConv at h
  repeat' split at h
  all_goals simp at h

theorem cOp_call {op : Op} {f : X} {xs : List X} (h : cOp P op = some (.call f xs)) : ∃ c fo,op = .call c ∧ c.callee = .value fo ∧ cX fo = some f ∧ cXs c.args.toList = some xs := by
  cases op
  case call c =>
    simp only [cOp] at h
    split at h
    · exact (cBuiltin_not h).elim
    · rename_i fo ys hfo hx
      obtain ⟨f',hf',he⟩ := optmap h
      simp at he
      obtain ⟨rfl,rfl⟩ := he
      exact ⟨c,fo,rfl,hfo,hf',hx⟩
    · simp at h
  case binOp => simp only [cOp] at h; exact (cBin_not h).elim
  case convert =>
    simp only [cOp,Option.bind_eq_some_iff] at h
    obtain ⟨y,_,h⟩ := h
    exact (cConv_not h).elim
  case makeFunc fn _ _ =>
    exfalso
    cases fn <;> simp only [cOp] at h <;> (repeat' split at h) <;> simp at h
  all_goals (exfalso; simp only [cOp] at h; (repeat' split at h) <;> simp [Option.map_eq_some_iff] at h)

theorem opCall_sound {o : AOper} {f : X} {xs : List X} {g : Nat} {first captured : Array Value} {vs : List Value} {v : Value} {h' : AHeap} {n' : Nat} (pg : ∀ d b,o.guard = some (d,b) → σ.get d = some (.bool b)) (po : o.op = .call f xs)
    (pf : X.ev σ h f = some (.func (.func g) first captured)) (px : mapX (X.ev σ h) xs = some vs) (pc : SoundCall P w0 g (first.toList ++ vs ++ captured.toList) h n v h' n') :
    SoundOp P w0 o σ h n (some v) h' n' := by
  intro ro co cops ntmps draw hc φ T w a hs hh hf hG hfr K Q hK
  rw [if_pos (wanted_of hc hfr pg)]
  obtain ⟨hop,_⟩ := cOper_spec hc
  have hop : cOp P co.op = some (.call f xs) := by
    rw [po] at hop
    cases hx : cOp P co.op with
    | none => rw [hx] at hop; cases hop
    | some a => rw [hx] at hop; simpa using hop
  have hρ := hfr.rho hs hh
  -- which operation it is
  obtain ⟨c,fo,hco,hcal,hfo,hargs⟩ := cOp_call hop
  have hfr2 := hρ fo f _ hfo pf
  obtain ⟨ys,us,hfv,hys,hus⟩ : ∃ ys us,a.eval fo = .func (.func g) ys us ∧ VRels φ first.toList ys.toList ∧ VRels φ captured.toList us.toList := by
    generalize a.eval fo = q at hfr2
    cases hfr2 with
    | func fn xs ys us vs e1 r1 e2 r2 => exact ⟨ys,vs,rfl, .of_arrays e1 r1, .of_arrays e2 r2⟩
  have hav := cXs_rel hρ hargs px
  have hinv := pc φ T w (ys.toList ++ c.args.toList.map a.eval ++ us.toList) hs hh hf hG ((hys.append hav).append hus)
  have := hinv co a K Q (fun u w' ⟨φ',T',h1,h2⟩ => hK φ' T' w' u h2 (fun v' hv' => by obtain rfl := Option.some.inj hv'; exact h1))
  refine wp_in (fun c e => by rw [hco] at e; cases e) ?_ ro
  unfold Oper.wp
  have hrun : (execOp a.eval co).run P w = (callFunc g (ys.toList ++ c.args.toList.map a.eval ++ us.toList).toArray).run P w := by
    unfold execOp
    simp only [hco,resolve,hcal,hfv,Deferred.ofValue,Sem.run_bind,Sem.run_pure,Result.andThen_ok,invoke]
    congr 2
    apply Array.toList_inj.1
    simp
  rw [hrun]
  exact this

theorem cBuiltin_not' {b : Builtin} {ts : Array TypeId} {xs : List X} {x : X} (h : cBuiltin P b ts xs = some (.mov x)) : False := by
  unfold cBuiltin at h
  repeat' split at h
  all_goals simp at h
theorem cBin_not' {op : BinOp} {t : TypeId} {x y : Operand} {z : X} (h : cBin P op t x y = some (.mov z)) : False := by
  unfold cBin at h
  repeat' split at h
  all_goals simp at h
theorem cConv_not' {s d : TypeId} {x : X} {z : X} (h : cConv P s d x = some (.mov z)) : False := by
  unfold cConv at h
  repeat' split at h
  all_goals simp at h
theorem cOp_mov {op : Op} {x : X} (h : cOp P op = some (.mov x)) : ∃ y,op = .move y ∨ op = .assign y := by
  cases op
  case move y => exact ⟨y, .inl rfl⟩
  case assign y => exact ⟨y, .inr rfl⟩
  case call c =>
    exfalso
    simp only [cOp] at h
    split at h
    · exact (cBuiltin_not' h).elim
    · rename_i fo ys hfo hx
      obtain ⟨f',hf',he⟩ := optmap h
      simp at he
    · simp at h
  case binOp => simp only [cOp] at h; exact (cBin_not' h).elim
  case convert =>
    simp only [cOp,Option.bind_eq_some_iff] at h
    obtain ⟨y,_,h⟩ := h
    exact (cConv_not' h).elim
  case makeFunc fn _ _ =>
    exfalso
    cases fn <;> simp only [cOp] at h <;> (repeat' split at h) <;> simp at h
  all_goals (exfalso; simp only [cOp] at h; (repeat' split at h) <;> simp [Option.map_eq_some_iff] at h)
theorem movAny_sound {o : AOper} {x : X} (pg : o.guard = none) (po : o.op = .mov x) : SoundOp P w0 o σ h n none h n := by
  intro ro co cops ntmps draw hc φ T w a hs hh hf hG hfr K Q hK
  rw [if_pos (wanted_of hc hfr (by rw [pg]; simp))]
  obtain ⟨hop,_⟩ := cOper_spec hc
  have hop : cOp P co.op = some (.mov x) := by
    rw [po] at hop
    cases hx : cOp P co.op with
    | none => rw [hx] at hop; cases hop
    | some a => rw [hx] at hop; simpa using hop
  refine wp_in (fun c e => by rw [e] at hop; cases hop) ?_ ro
  unfold Oper.wp
  obtain ⟨y,hy | hy⟩ := cOp_mov hop
  · have hrun : (execOp a.eval co).run P w = .ok (.value (a.eval y)) w := by
      unfold execOp
      simp only [hy]
      rfl
    rw [hrun]
    exact hK φ T w _ (.refl hs hh) (fun v hv => by cases hv)
  · have hrun : (execOp a.eval co).run P w = .ok (.value (a.eval y)) w := by
      unfold execOp
      simp only [hy]
      rfl
    rw [hrun]
    exact hK φ T w _ (.refl hs hh) (fun v hv => by cases hv)
theorem cBuiltin_not2 {b : Builtin} {ts : Array TypeId} {xs : List X} {p : BinOp} {x y : X} (h : cBuiltin P b ts xs = some (.bin p x y)) : False := by
  unfold cBuiltin at h
  repeat' split at h
  all_goals simp at h
theorem cConv_not2 {s d : TypeId} {x : X} {p : BinOp} {y z : X} (h : cConv P s d x = some (.bin p y z)) : False := by
  unfold cConv at h
  repeat' split at h
  all_goals simp at h
theorem cBin_bin {op p : BinOp} {t : TypeId} {x y : Operand} {a b : X} (h : cBin P op t x y = some (.bin p a b)) : op = p ∧ cX x = some a ∧ cX y = some b := by
  unfold cBin at h
  split at h
  · rename_i x' y' d hx hy hd
    repeat' split at h
    all_goals simp at h
    all_goals (obtain ⟨rfl,rfl,rfl⟩ := h; exact ⟨rfl,hx,hy⟩)
  · simp at h
theorem cOp_bin {op : Op} {p : BinOp} {a b : X} (h : cOp P op = some (.bin p a b)) : ∃ t x y yt,op = .binOp p t x y yt ∧ cX x = some a ∧ cX y = some b := by
  cases op
  case binOp q t x y yt =>
    simp only [cOp] at h
    obtain ⟨rfl,h1,h2⟩ := cBin_bin h
    exact ⟨_,_,_,_,rfl,h1,h2⟩
  case call c =>
    exfalso
    simp only [cOp] at h
    split at h
    · exact (cBuiltin_not2 h).elim
    · rename_i fo ys hfo hx
      obtain ⟨f',hf',he⟩ := optmap h
      simp at he
    · simp at h
  case convert =>
    simp only [cOp,Option.bind_eq_some_iff] at h
    obtain ⟨y,_,h⟩ := h
    exact (cConv_not2 h).elim
  case makeFunc fn _ _ =>
    exfalso
    cases fn <;> simp only [cOp] at h <;> (repeat' split at h) <;> simp at h
  all_goals (exfalso; simp only [cOp] at h; (repeat' split at h) <;> simp [Option.map_eq_some_iff] at h)
theorem float_run {p : BinOp} (hp : p = .add ∨ p = .sub ∨ p = .mul ∨ p = .quo) (t : TypeId) (x y : Operand) (k : FloatKind) (u v : Nat) (w : World) :
    ∃ b w',(do eqGuard p t x y (.float k u) (.float k v); binOp p t (.float k u) (.float k v) : Sem Value).run P w = .ok (.float k b) w' ∧ SameMem w w' := by
  rcases hp with rfl | rfl | rfl | rfl
  · cases hr : k.format.add u v with
    | some r => exact ⟨r,w,by simp [eqGuard,binOp,Op.floatArith,hr], .refl _⟩
    | none => exact ⟨_, { w with drawn := w.drawn + 1 },by simp [eqGuard,binOp,Op.floatArith,hr,run_choose,Question.forced]; rfl,SameMem.drew _ _⟩
  · cases hr : k.format.sub u v with
    | some r => exact ⟨r,w,by simp [eqGuard,binOp,Op.floatArith,hr], .refl _⟩
    | none => exact ⟨_, { w with drawn := w.drawn + 1 },by simp [eqGuard,binOp,Op.floatArith,hr,run_choose,Question.forced]; rfl,SameMem.drew _ _⟩
  · cases hr : k.format.mul u v with
    | some r => exact ⟨r,w,by simp [eqGuard,binOp,Op.floatArith,hr], .refl _⟩
    | none => exact ⟨_, { w with drawn := w.drawn + 1 },by simp [eqGuard,binOp,Op.floatArith,hr,run_choose,Question.forced]; rfl,SameMem.drew _ _⟩
  · cases hr : k.format.div u v with
    | some r => exact ⟨r,w,by simp [eqGuard,binOp,Op.floatArith,hr], .refl _⟩
    | none => exact ⟨_, { w with drawn := w.drawn + 1 },by simp [eqGuard,binOp,Op.floatArith,hr,run_choose,Question.forced]; rfl,SameMem.drew _ _⟩
theorem bin_op_of {ntmps : Nat} {draw : Bool} {cops : Array Oper} {co : Oper} {o : AOper} (h : cOper P ntmps draw cops co = some o) {p : BinOp} {a b : X} (po : o.op = .bin p a b) : ∃ t x y yt,co.op = .binOp p t x y yt ∧ cX x = some a ∧ cX y = some b := by
  obtain ⟨hop,_⟩ := cOper_spec h
  refine cOp_bin (P := P) ?_
  rw [po] at hop
  cases hx : cOp P co.op with
  | none => rw [hx] at hop; cases hop
  | some a => rw [hx] at hop; simpa using hop
theorem opYield_sound {o : AOper} {f : X} {xs : List X} {l : Nat} {vs : List Value} {v : Value} {h' : AHeap} {n' : Nat} (pg : ∀ d b,o.guard = some (d,b) → σ.get d = some (.bool b)) (po : o.op = .call f xs)
    (pf : X.ev σ h f = some (.func (.yield l) #[] #[])) (px : mapX (X.ev σ h) xs = some vs) (pc : SoundYield P w0 l vs h n v h' n') :
    SoundOp P w0 o σ h n (some v) h' n' := by
  intro ro co cops ntmps draw hc φ T w a hs hh hf hG hfr K Q hK
  rw [if_pos (wanted_of hc hfr pg)]
  obtain ⟨hop,_⟩ := cOper_spec hc
  have hop : cOp P co.op = some (.call f xs) := by
    rw [po] at hop
    cases hx : cOp P co.op with
    | none => rw [hx] at hop; cases hop
    | some a => rw [hx] at hop; simpa using hop
  have hρ := hfr.rho hs hh
  obtain ⟨c,fo,hco,hcal,hfo,hargs⟩ := cOp_call hop
  have hfv : a.eval fo = .func (.yield l) #[] #[] := (hρ fo f _ hfo pf).eq_of_scalar rfl
  have hav := cXs_rel hρ hargs px
  have hinv := pc φ T w (c.args.toList.map a.eval) hs hh hf hG hav ro co a K Q (fun u w' ⟨φ',T',h1,h2⟩ => hK φ' T' w' u h2 (fun v' hv' => by obtain rfl := Option.some.inj hv'; exact h1))
  refine ⟨fun f _ => trivial, ?_⟩
  have e : co.semAt (FW ro).round a.eval = execOp a.eval co := Oper.semAt_eq ro a.eval co (fun c e => by rw [hco] at e; cases e)
  rw [e]
  have hrun : (execOp a.eval co).run P w = (Instr.yield l (c.args.toList.map a.eval).toArray).run P w := by
    unfold execOp
    simp only [hco,resolve,hcal,hfv,Deferred.ofValue,Sem.run_bind,Sem.run_pure,Result.andThen_ok,invoke]
    congr 2
    apply Array.toList_inj.1
    simp
  rw [hrun]
  exact hinv
end
end
end Go.Proofs.YtkdpjaaohddppaaGreatDoor.Am
namespace Go.Proofs.YtkdpjaaohddppaaGreatDoor.Am
noncomputable section
open Go.RowKit (Below)

section
variable {P : Program} {w0 : World}

theorem Post.trans {G : Nat} {φ φ1 φ2 : Phi} {T T1 T2 : TH} {w1 w2 : World} {h h1 h2 : AHeap} {n n1 n2 : Nat} (a : Post G w0 φ T h n φ1 T1 w1 h1 n1) (b : Post G w0 φ1 T1 h1 n1 φ2 T2 w2 h2 n2) :
    Post G w0 φ T h n φ2 T2 w2 h2 n2 where
  sat := b.sat
  le := a.le.trans b.le
  sub := b.sub
  frame := fun i hi hn => by
    have m1 := a.mono
    have m2 := b.mono
    have e1 := a.frame i hi (by omega)
    have hn1 : h1.get i = none := by
      cases hx : h1.get i with
      | none => rfl
      | some c =>
        rcases a.dom i c hx with ⟨d,hd⟩ | hd
        · rw [hi] at hd; cases hd
        · omega
    rw [b.frame i hn1 (by omega),e1]
  fresh := fun i hi hf => by
    have m1 := a.mono
    have m2 := b.mono
    exact b.fresh i (by omega) (a.fresh i (by omega) hf)
  mono := Nat.le_trans a.mono b.mono
  dom := fun i c hc => by
    have m1 := a.mono
    have m2 := b.mono
    rcases b.dom i c hc with ⟨d,hd⟩ | hd
    · rcases a.dom i d hd with h | h
      · exact .inl h
      · exact .inr (by omega)
    · exact .inr (by omega)

theorem Post.sub' {G : Nat} {φ φ1 : Phi} {T T1 : TH} {w1 : World} {h h1 h2 : AHeap} {n n1 : Nat} (a : Post G w0 φ T h n φ1 T1 w1 h1 n1) (hs : HSub h2 h1) : Post G w0 φ T h n φ1 T1 w1 h2 n1 :=
  ⟨a.sat,a.le,fun i b hb => a.sub i b (hs i b hb),a.frame,a.fresh,a.mono,fun i b hb => a.dom i b (hs i b hb)⟩

theorem Fresh.left {φ : Phi} {T : TH} {n n1 n2 : Nat} (h : Fresh φ T n n2) (h1 : n1 ≤ n2) : Fresh φ T n n1 := fun i a b => h i a (by omega)
theorem Fresh.right {G : Nat} {φ φ1 : Phi} {T T1 : TH} {w1 : World} {h h1 : AHeap} {n n1 n2 : Nat} (hs : Sub h T) (hf : Fresh φ T n n2) (a : Post G w0 φ T h n φ1 T1 w1 h1 n1) : Fresh φ1 T1 n1 n2 := by
  intro i h1' h2'
  have m := a.mono
  obtain ⟨hT,hφ⟩ := hf i (by omega) h2'
  have hn : h.get i = none := by
    cases hx : h.get i with
    | none => rfl
    | some c => have := hs i c hx; rw [hT] at this; cases this
  exact ⟨by rw [a.frame i hn (by omega),hT],a.fresh i (by omega) hφ⟩

theorem Post.framed {G : Nat} {φ φ1 : Phi} {T T1 : TH} {w1 : World} {h h0 h0' h' : AHeap} {n n1 : Nat} (a : Post G w0 φ T h0 n φ1 T1 w1 h0' n1) (hh : Sub h T) (hs : HSub h0 h) (hf : Framed h h0 n h0' n1 h') :
    Post G w0 φ T h n φ1 T1 w1 h' n1 where
  sat := a.sat
  le := a.le
  sub := fun i b hb => by
    rcases hf i b hb with h1 | ⟨h1,h2,h3⟩
    · exact a.sub i b h1
    · rw [a.frame i h1 h2]; exact hh i b h3
  frame := fun i hi hn => a.frame i (by
    cases hx : h0.get i with
    | none => rfl
    | some c => have := hs i c hx; rw [hi] at this; cases this) hn
  fresh := a.fresh
  mono := a.mono
  dom := fun i b hb => by
    rcases hf i b hb with h1 | ⟨h1,h2,h3⟩
    · rcases a.dom i b h1 with ⟨c,hc⟩ | hc
      · exact .inl ⟨c,hs i c hc⟩
      · exact .inr hc
    · exact .inl ⟨b,h3⟩

def SoundOps (P : Program) (w0 : World) (l : List AOper) (σ : Fr) (h : AHeap) (n : Nat) (σ' : Fr) (h' : AHeap) (n' : Nat) : Prop :=
  ∀ (ro : Option Nat) (cops : Array Oper) (ntmps : Nat) (draw : Bool) (cl : List Oper),cOpers P ntmps draw cops cl = some l →
    ∀ φ T w a,Sat 4096 w0 φ T w → Sub h T → Fresh φ T n n' → 4096 ≤ n → FrameRel φ σ a → a.tmps.size = ntmps → ∀ (Q : Exit → Act → World → Prop),
      (∀ φ' T' w' a',Post 4096 w0 φ T h n φ' T' w' h' n' → FrameRel φ' σ' a' → a'.tmps.size = ntmps → a'.defers = a.defers → Q .normal a' w') → wpListIn (FW ro) 0 P cops Q cl a w

theorem opsNil_sound {σ : Fr} {h : AHeap} {n : Nat} : SoundOps P w0 [] σ h n σ h n := by
  intro ro cops ntmps draw cl hc φ T w a hs hh hf hG hfr hsz Q hQ
  cases cl with
  | nil => exact hQ φ T w a (.refl hs hh) hfr hsz rfl
  | cons c cl => simp only [cOpers] at hc; split at hc <;> simp at hc

theorem opsCons_sound {o : AOper} {l : List AOper} {σ : Fr} {h : AHeap} {n : Nat} {r : Option Value} {h1 : AHeap} {n1 : Nat} {σ' : Fr} {h' : AHeap} {n' : Nat} (m1 : n ≤ n1) (m2 : n1 ≤ n') (p1 : SoundOp P w0 o σ h n r h1 n1)
    (p2 : SoundOps P w0 l (setDst σ o.dst r) h1 n1 σ' h' n') : SoundOps P w0 (o :: l) σ h n σ' h' n' := by
  intro ro cops ntmps draw cl hc φ T w a hs hh hf hG hfr hsz Q hQ
  cases cl with
  | nil => simp [cOpers] at hc
  | cons c cl =>
    simp only [cOpers] at hc
    split at hc
    · rename_i o' l' ho hl
      simp at hc
      obtain ⟨rfl,rfl⟩ := hc
      obtain ⟨_,hdst,hdlt,_⟩ := cOper_spec ho
      have := p1 ro c cops ntmps draw ho φ T w a hs hh (hf.left m2) hG hfr (wpListIn (FW ro) 0 P cops Q cl) Q (fun φ' T' w' u hp hr => by
        refine p2 ro cops ntmps draw cl hl φ' T' w' (a.put c.dst u) hp.sat hp.sub (hf.right hh hp) (by omega) ?_ (by rw [put_size,hsz]) Q (fun φ'' T'' w'' a' hp2 hfr' hsz' hdf => ?_)
        · rw [hdst]; exact (hfr.mono hp.le).put (fun k hk => by rw [hsz]; exact hdlt k hk) hr
        · exact hQ φ'' T'' w'' a' (hp.trans hp2) hfr' hsz' (by rw [hdf,put_defers]))
      unfold wpListIn
      split
      · rename_i hw; rw [if_pos hw] at this; exact this
      · rename_i hw; rw [if_neg hw] at this; exact ⟨fun _ _ => trivial,this⟩
    · simp at hc

theorem opsNan_sound {o1 o2 : AOper} {l : List AOper} {σ : Fr} {h : AHeap} {n : Nat} {σ' : Fr} {h' : AHeap} {n' d1 : Nat} {p q : BinOp} {a b c : X} {k : FloatKind} {x y z : Nat} (g1 : o1.guard = none) (g2 : o2.guard = none) (e1 : o1.dst = some d1) (p1 : o1.op = .bin p a b) (p2 : o2.op = .bin q c (.t d1))
    (hp : p = .add ∨ p = .sub ∨ p = .mul ∨ p = .quo) (hq : q = .add ∨ q = .sub ∨ q = .mul ∨ q = .quo) (pa : X.ev σ h a = some (.float k x)) (pb : X.ev σ h b = some (.float k y)) (pc : X.ev σ h c = some (.float k z)) (hc : c ≠ .t d1)
    (rest : SoundOps P w0 l (setDst (setDst σ o1.dst none) o2.dst none) h n σ' h' n') : SoundOps P w0 (o1 :: o2 :: l) σ h n σ' h' n' := by
  intro ro cops ntmps draw cl hcl φ T w ac hs hh hf hG hfr hsz Q hQ
  cases cl with
  | nil => simp [cOpers] at hcl
  | cons c1 cl =>
  cases cl with
  | nil =>
    simp only [cOpers] at hcl
    split at hcl <;> simp_all
  | cons c2 cl =>
    simp only [cOpers] at hcl
    split at hcl
    · rename_i o' l' ho hl
      simp only [Option.some.injEq,List.cons.injEq] at hcl
      obtain ⟨he1,he2⟩ := hcl
      rw [he1] at ho
      rw [he2] at hl
      split at hl
      · rename_i o2' l2 ho2 hl2
        simp only [Option.some.injEq,List.cons.injEq] at hl
        obtain ⟨he3,he4⟩ := hl
        rw [he3] at ho2
        rw [he4] at hl2
        obtain ⟨_,hdst1,hdlt1,_⟩ := cOper_spec ho
        obtain ⟨_,hdst2,hdlt2,_⟩ := cOper_spec ho2
        obtain ⟨t1,x1,y1,yt1,hop1,hx1,hy1⟩ := bin_op_of ho p1
        obtain ⟨t2,x2,y2,yt2,hop2,hx2,hy2⟩ := bin_op_of ho2 p2
        have hw1 := wanted_of ho hfr (by rw [g1]; simp)
        have hρ := hfr.rho hs hh
        have ea := (hρ _ _ _ hx1 pa).eq_of_scalar rfl
        have eb := (hρ _ _ _ hy1 pb).eq_of_scalar rfl
        have ec := (hρ _ _ _ hx2 pc).eq_of_scalar rfl
        obtain ⟨b1,w1,hr1,hm1⟩ := float_run (P := P) hp t1 x1 y1 k x y w
        have hs1 := hs.same hm1
        have hfr1 : FrameRel φ (setDst σ o1.dst none) (ac.put c1.dst (.float k b1)) := by
          rw [hdst1]; exact hfr.put (fun k hk => by rw [hsz]; exact hdlt1 k hk) (fun v hv => by cases hv)
        have hcd1 : c1.dst = some d1 := by rw [← hdst1]; exact e1
        have hev : X.ev (setDst σ o1.dst none) h c = some (.float k z) := by
          rw [← pc,e1]
          cases c with
          | t j =>
            show (setDst σ (some d1) none).get j = σ.get j
            exact Fr.get_del_ne _ (fun e => hc (by rw [e]))
          | c v => rfl
          | g j => rfl
          | f j => rfl
        have hev2 : (ac.put c1.dst (.float k b1)).eval x2 = .float k z := ((hfr1.rho hs1 hh) _ _ _ hx2 hev).eq_of_scalar rfl
        have hevy : (ac.put c1.dst (.float k b1)).eval y2 = .float k b1 := by
          have hy : y2 = .tmp d1 := by
            cases y2 with
            | tmp j => simp [cX] at hy2; rw [hy2]
            | const v => simp only [cX] at hy2; split at hy2 <;> simp at hy2
            | global g => simp only [cX] at hy2; split at hy2 <;> simp at hy2
            | func f => simp [cX] at hy2
          have hlt : d1 < ac.tmps.size := by rw [hsz]; exact hdlt1 d1 hcd1
          have hget := tmps_put (a := ac) (d := c1.dst) (u := .float k b1) (t := d1)
          rw [if_pos ⟨hcd1,hlt⟩] at hget
          rw [hy]
          simp [Act.eval,hget]
        have hw2 := wanted_of ho2 hfr1 (by rw [g2]; simp)
        obtain ⟨b2,w2,hr2,hm2⟩ := float_run (P := P) hq t2 x2 y2 k z b1 w1
        have hs2 := hs1.same hm2
        have hfr2 : FrameRel φ (setDst (setDst σ o1.dst none) o2.dst none) ((ac.put c1.dst (.float k b1)).put c2.dst (.float k b2)) := by
          rw [hdst2]; exact hfr1.put (fun k hk => by rw [put_size,hsz]; exact hdlt2 k hk) (fun v hv => by cases hv)
        have last := rest ro cops ntmps draw cl hl2 φ T w2 _ hs2 hh hf hG hfr2 (by rw [put_size,put_size,hsz]) Q (fun φ' T' w' a' hp hfr' hsz' hdf => hQ φ' T' w' a' hp hfr' hsz' (by rw [hdf,put_defers,put_defers]))
        have run1 : (execOp ac.eval c1).run P w = .ok (.value (.float k b1)) w1 := by
          unfold execOp
          simp only [hop1,ea,eb]
          simp only [Sem.run_bind,Sem.run_pure] at hr1 ⊢
          rw [hr1]; rfl
        have run2 : (execOp (ac.put c1.dst (.float k b1)).eval c2).run P w1 = .ok (.value (.float k b2)) w2 := by
          unfold execOp
          simp only [hop2,hev2,hevy]
          simp only [Sem.run_bind,Sem.run_pure] at hr2 ⊢
          rw [hr2]; rfl
        unfold wpListIn
        rw [if_pos hw1]
        refine wp_in (fun c e => by rw [hop1] at e; cases e) ?_ ro
        unfold Oper.wp
        rw [run1]
        show wpListIn (FW ro) 0 P cops Q (c2 :: cl) _ _
        unfold wpListIn
        rw [if_pos hw2]
        refine wp_in (fun c e => by rw [hop2] at e; cases e) ?_ ro
        unfold Oper.wp
        rw [run2]
        exact last
      · simp at hl
    · simp at hcl

/- ---------------------------------------------------------------- a region whose order is open -/

def foldS {α : Type} : List (Nat → Option (Option α)) → (Nat → Bool) → (Nat → Option α) → Nat → Option α
  | [],_,base => base
  | W :: Ws,S,base => foldS Ws (fun i => S (i + 1)) (fun t => if S 0 then (W t).getD (base t) else base t)

theorem foldS_congr {α : Type} (t : Nat) : ∀ (Ws : List (Nat → Option (Option α))) (S S' : Nat → Bool) (base base' : Nat → Option α),base t = base' t →
    (∀ i W,Ws[i]? = some W → W t ≠ none → S i = S' i) → foldS Ws S base t = foldS Ws S' base' t
  | [],S,S',base,base',hb,_ => hb
  | W :: Ws,S,S',base,base',hb,h => by
    simp only [foldS]
    refine foldS_congr t Ws _ _ _ _ ?_ (fun i W' hW' hne => h (i + 1) W' (by simpa using hW') hne)
    by_cases hW : W t = none
    · simp only [hW,Option.getD_none,hb]; split <;> split <;> rfl
    · have := h 0 W (by simp) hW
      simp only [this]
      cases hx : W t with
      | none => exact absurd hx hW
      | some x => simp only [Option.getD_some]; split <;> first | rfl | exact hb

theorem foldS_none {α : Type} (t : Nat) : ∀ (Ws : List (Nat → Option (Option α))) (S : Nat → Bool) (base : Nat → Option α),(∀ i,S i = false) → foldS Ws S base t = base t
  | [],_,_,_ => rfl
  | W :: Ws,S,base,h => by
    simp only [foldS,h 0,Bool.false_eq_true,if_false]
    exact foldS_none t Ws _ _ fun i => h (i + 1)

theorem foldS_take {α : Type} (t : Nat) : ∀ (k : Nat) (Ws : List (Nat → Option (Option α))) (base : Nat → Option α),foldS (Ws.take k) (fun _ => true) base t = foldS Ws (fun i => decide (i < k)) base t
  | 0,Ws,base => by
    simp only [List.take_zero,foldS]
    exact (foldS_none t Ws _ base fun i => by simp).symm
  | k + 1,[],base => by simp [foldS]
  | k + 1,W :: Ws,base => by
    simp only [List.take_succ_cons,foldS]
    rw [foldS_take t k Ws]
    refine foldS_congr t Ws _ _ _ _ (by simp) (fun i _ _ _ => by simp)

theorem foldS_all {α : Type} (t : Nat) (Ws : List (Nat → Option (Option α))) (S : Nat → Bool) (base : Nat → Option α) (hS : ∀ i,i < Ws.length → S i = true) : foldS Ws S base t = foldS Ws (fun _ => true) base t :=
  foldS_congr t Ws S _ base base rfl fun i _ hW _ => hS i (List.getElem?_eq_some_iff.1 hW).1

theorem foldS_insert {α : Type} (t : Nat) : ∀ (Ws : List (Nat → Option (Option α))) (S S' : Nat → Bool) (base : Nat → Option α) (i : Nat) (W : Nat → Option (Option α)),Ws[i]? = some W → S' i = true →
    (∀ j,j ≠ i → S' j = S j) → S i = false → (∀ j V,i < j → Ws[j]? = some V → S j = true → V t = none) →
    foldS Ws S' base t = match W t with | some x => x | none => foldS Ws S base t
  | [],S,S',base,i,W,hW,_,_,_,_ => by simp at hW
  | V :: Ws,S,S',base,0,W,hW,h1,h2,h3,h4 => by
    simp at hW; subst hW
    simp only [foldS,h1,h3,if_true,Bool.false_eq_true,if_false]
    cases hx : V t with
    | none =>
      simp only
      refine foldS_congr t Ws _ _ _ _ (by simp [hx]) (fun i _ _ _ => h2 (i + 1) (by omega))
    | some x =>
      simp only
      have : ∀ (Ws : List (Nat → Option (Option α))) (S S' : Nat → Bool) (base : Nat → Option α),(∀ j V,Ws[j]? = some V → S j = true → V t = none) → (∀ j,S' j = S j) → foldS Ws S' base t = base t := by
        intro Ws
        induction Ws with
        | nil => intro _ _ _ _ _; rfl
        | cons V Ws ih =>
          intro S S' base h g
          simp only [foldS]
          rw [ih (fun i => S (i + 1)) (fun i => S' (i + 1)) _ (fun j V' hV' hS => h (j + 1) V' (by simpa using hV') hS) (fun j => g (j + 1))]
          split
          · rename_i hs
            rw [h 0 V (by simp) (by rw [← g 0]; exact hs)]; rfl
          · rfl
      rw [this Ws (fun i => S (i + 1)) (fun i => S' (i + 1)) _ (fun j V' hV' hS => h4 (j + 1) V' (by omega) (by simpa using hV') hS) (fun j => h2 (j + 1) (by omega))]
      simp [hx]
  | V :: Ws,S,S',base,i + 1,W,hW,h1,h2,h3,h4 => by
    simp only [foldS,h2 0 (by omega)]
    exact foldS_insert t Ws (fun i => S (i + 1)) (fun i => S' (i + 1)) _ i W (by simpa using hW) h1 (fun j hj => h2 (j + 1) (by omega)) h3 (fun j V' hj hV' hS => h4 (j + 1) V' (by omega) (by simpa using hV') hS)

def wSlot (o : AOper) (c : Rec) : Nat → Option (Option Value) := fun t => if o.dst = some t then some c.r else none
def wHeap (c : Rec) : Nat → Option (Option Blk) := fun i => if c.chg.contains i then some (c.h'.get i) else none

def SoundDraw (P : Program) (w0 : World) (l : List AOper) (σ : Fr) (h : AHeap) (n : Nat) (recs : List Rec) (σ' : Fr) (h' : AHeap) (n' : Nat) : Prop :=
  recs.length = l.length ∧
  (∀ t, σ'.get t = foldS (List.zipWith wSlot l recs) (fun _ => true) σ.get t) ∧
  (∀ i,h'.get i = foldS (recs.map wHeap) (fun _ => true) h.get i) ∧
  (∀ i b,h'.get i = some b → (∃ d,h.get i = some d) ∨ (n ≤ i ∧ i < n')) ∧
  (∀ k o c,l[k]? = some o → recs[k]? = some c → (∀ i b,c.h.get i = some b → (∃ d,h.get i = some d) ∨ (n ≤ i ∧ i < n')) ∧ n ≤ c.n ∧ c.n ≤ c.n' ∧ c.n' ≤ n' ∧ c.ok ∧ (∀ j d,k < j → recs[j]? = some d → c.n' ≤ d.n) ∧
    (∀ i b,c.h.get i = some b → foldS (recs.map wHeap) (fun i => decide (i < k)) h.get i = some b) ∧
    ∃ σk : Fr,(∀ t, σk.get t = if o.reads.contains t then foldS (List.zipWith wSlot l recs) (fun i => decide (i < k)) σ.get t else none) ∧ SoundOp P w0 o σk c.h c.n c.r c.h' c.n')

theorem drawNil_sound {σ : Fr} {h : AHeap} {n : Nat} : SoundDraw P w0 [] σ h n [] σ h n :=
  ⟨rfl,fun _ => rfl,fun _ => rfl,fun _ b hb => .inl ⟨b,hb⟩,fun k o c hk => by simp at hk⟩

theorem get_puts (h h' : AHeap) (i : Nat) : ∀ (l : List Nat),(∀ j,j ∈ l → (h'.get j).isSome) → (h.puts h' l).get i = if l.contains i then h'.get i else h.get i := by
  intro l
  induction l generalizing h with
  | nil => intro _; simp [AHeap.puts]
  | cons j l ih =>
    intro hl
    obtain ⟨b,hb⟩ := Option.isSome_iff_exists.1 (hl j (by simp))
    simp only [AHeap.puts,hb]
    rw [ih _ (fun k hk => hl k (by simp [hk]))]
    by_cases hi : i = j
    · subst hi; simp [hb]
    · rw [AHeap.get_put_ne _ _ (Ne.symm hi)]
      simp [hi]

theorem get_setDst (σ : Fr) (d : Option Nat) (r : Option Value) (t : Nat) : (setDst σ d r).get t = if d = some t then r else σ.get t := by
  cases d with
  | none => simp [setDst]
  | some d =>
    simp only [setDst,Option.some.injEq]
    cases r with
    | none =>
      simp only
      split
      · rename_i e; subst e; exact Fr.get_del_same _ _
      · rename_i e; exact Fr.get_del_ne _ e
    | some r =>
      simp only [Fr.get_put]

theorem drawCons_sound {o : AOper} {l : List AOper} {σ : Fr} {h : AHeap} {c : Rec} {recs : List Rec} {σ' : Fr} {h' : AHeap} {n' : Nat} (m1 : c.n ≤ c.n') (m2 : c.n' ≤ n') (p1 : SoundOp P w0 o (σ.restrict o.reads) c.h c.n c.r c.h' c.n')
    (ps : HSub c.h h) (pok : c.ok) (p2 : SoundDraw P w0 l (setDst σ o.dst c.r) (h.puts c.h' c.chg) c.n' recs σ' h' n') : SoundDraw P w0 (o :: l) σ h c.n (c :: recs) σ' h' n' := by
  obtain ⟨q1,q2,q3,q5,q4⟩ := p2
  have bs : (setDst σ o.dst c.r).get = fun t => if true then (wSlot o c t).getD (σ.get t) else σ.get t := by
    funext t
    rw [get_setDst]
    simp only [wSlot,if_true]
    split <;> rfl
  have bh : (h.puts c.h' c.chg).get = fun i => if true then (wHeap c i).getD (h.get i) else h.get i := by
    funext i
    rw [get_puts _ _ _ _ (fun j hj => (pok.2 j hj).1)]
    simp only [wHeap,if_true]
    split <;> rfl
  have hdom : ∀ i d,(h.puts c.h' c.chg).get i = some d → (∃ d,h.get i = some d) ∨ (c.n ≤ i ∧ i < n') := by
    intro i d hd
    rw [get_puts _ _ _ _ (fun j hj => (pok.2 j hj).1)] at hd
    split at hd
    · rename_i hc
      rcases (pok.2 i (by simpa using hc)).2 with hx | hx
      · obtain ⟨b,hb⟩ := Option.isSome_iff_exists.1 hx
        exact .inl ⟨b,ps i b hb⟩
      · right; omega
    · exact .inl ⟨d,hd⟩
  refine ⟨by simp [q1],fun t => ?_,fun i => ?_,fun i b hb => ?_,fun k o' c' hk hc => ?_⟩
  · rw [q2,bs]; rfl
  · rw [q3,bh]; rfl
  · rcases q5 i b hb with ⟨d,hd⟩ | hx
    · exact hdom i d hd
    · right; omega
  · cases k with
    | zero =>
      simp at hk hc
      subst hk; subst hc
      refine ⟨fun i b hb => .inl ⟨b,ps i b hb⟩,Nat.le_refl _,m1,m2,pok,fun j d hj hd => ?_,fun i b hb => ?_, σ.restrict o.reads,fun t => ?_,p1⟩
      · cases j with
        | zero => omega
        | succ j =>
          simp at hd
          have hlt := (List.getElem?_eq_some_iff.1 hd).1
          obtain ⟨oj,hoj⟩ : ∃ oj,l[j]? = some oj := ⟨l[j]'(by omega),by simp⟩
          exact (q4 j oj d hoj hd).2.1
      · rw [← foldS_take i 0]
        simp only [List.take_zero,foldS]
        exact ps i b hb
      · rw [Fr.get_restrict]
        split
        · rw [← foldS_take t 0]; rfl
        · rfl
    | succ k =>
      simp at hk hc
      obtain ⟨r0,r1,r2,r3,r4,r5,r6, σk,r7,r8⟩ := q4 k o' c' hk hc
      refine ⟨fun i b hb => ?_,by omega,r2,r3,r4,fun j d hj hd => ?_,fun i b hb => ?_, σk,fun t => ?_,r8⟩
      · rcases r0 i b hb with ⟨d,hd⟩ | hx
        · exact hdom i d hd
        · right; omega
      · cases j with
        | zero => omega
        | succ j => exact r5 j d (by omega) (by simpa using hd)
      · have := r6 i b hb
        rw [bh] at this
        simp only [List.map_cons,foldS]
        rw [← this]
        exact foldS_congr i _ _ _ _ _ (by simp) (fun j _ _ _ => by simp)
      · rw [r7]
        split
        · rw [bs]
          simp only [List.zipWith_cons_cons,foldS]
          exact foldS_congr t _ _ _ _ _ (by simp) (fun j _ _ _ => by simp)
        · rfl

end
end
end Go.Proofs.YtkdpjaaohddppaaGreatDoor.Am
namespace Go.Proofs.YtkdpjaaohddppaaGreatDoor.Am
noncomputable section
open Go.RowKit (Below)

def Closed (l : List AOper) (S : Nat → Bool) : Prop := ∀ k o,l[k]? = some o → S k = true → ∀ d,d ∈ o.deps → S d = true

theorem ancOf_mem {acc : List Nat} {i : Nat} : ∀ {l : List Nat},(ancOf acc l).testBit i = true → i ∈ l ∨ ∃ k,k ∈ l ∧ (acc.getD k 0).testBit i = true
  | [],h => by simp [ancOf] at h
  | d :: ds,h => by
    simp only [ancOf,Nat.testBit_or,Nat.testBit_two_pow,Bool.or_eq_true,decide_eq_true_eq] at h
    rcases h with rfl | h | h
    · exact .inl (.head _)
    · exact .inr ⟨d, .head _,h⟩
    · rcases ancOf_mem h with h | ⟨k,hk,h⟩
      · exact .inl (.tail _ h)
      · exact .inr ⟨k, .tail _ hk,h⟩

theorem ancTab_spec (full : List AOper) : ∀ (os pre : List AOper) (acc : List Nat),full = pre ++ os → acc.length = pre.length →
    (∀ j o,full[j]? = some o → j < acc.length → ∀ S : Nat → Bool,Closed full S → (∀ d,d ∈ o.deps → S d = true) → ∀ i,(acc.getD j 0).testBit i = true → S i = true) →
    (ancTab os acc).length = full.length ∧ ∀ j o,full[j]? = some o → ∀ S : Nat → Bool,Closed full S → (∀ d,d ∈ o.deps → S d = true) → ∀ i,((ancTab os acc).getD j 0).testBit i = true → S i = true
  | [],pre,acc,hf,hl,h => by
    simp at hf
    subst hf
    refine ⟨hl,fun j o ho S hS hd i hi => h j o ho ?_ S hS hd i hi⟩
    rw [hl]; exact (List.getElem?_eq_some_iff.1 ho).1
  | o :: os,pre,acc,hf,hl,h => by
    simp only [ancTab]
    refine ancTab_spec full os (pre ++ [o]) _ (by simp [hf]) (by simp [hl]) (fun j o' ho' hj S hS hd i hi => ?_)
    simp only [List.length_append,List.length_cons,List.length_nil] at hj
    by_cases hjl : j < acc.length
    · rw [List.getD_eq_getElem?_getD,List.getElem?_append_left hjl,← List.getD_eq_getElem?_getD] at hi
      exact h j o' ho' hjl S hS hd i hi
    · have hje : j = acc.length := by omega
      subst hje
      rw [List.getD_eq_getElem?_getD,List.getElem?_append_right (by omega)] at hi
      simp only [Nat.sub_self,List.getElem?_cons_zero,Option.getD_some] at hi
      have hoo : o' = o := by
        rw [hf,hl,List.getElem?_append_right (by omega)] at ho'
        simpa using ho'.symm
      subst hoo
      rcases ancOf_mem hi with hi | ⟨k,hk,hik⟩
      · exact hd i hi
      · by_cases hkl : k < acc.length
        · obtain ⟨ok,hok⟩ : ∃ ok,full[k]? = some ok := ⟨full[k]'(by rw [hf]; simp; omega),by simp⟩
          exact h k ok hok hkl S hS (fun d hd' => hS k ok hok (hd k hk) d hd') i hik
        · rw [List.getD_eq_getElem?_getD,List.getElem?_eq_none (by omega)] at hik
          simp at hik

theorem anc_closed {l : List AOper} {S : Nat → Bool} (hS : Closed l S) {j : Nat} {o : AOper} (ho : l[j]? = some o) (hd : ∀ d,d ∈ o.deps → S d = true) {i : Nat} (hi : ((ancTab l []).getD j 0).testBit i = true) : S i = true :=
  (ancTab_spec l l [] [] rfl rfl (fun j o _ hj => by simp at hj)).2 j o ho S hS hd i hi

theorem mem_openPairs {l : List AOper} {i j : Nat} (hij : i < j) (hj : j < l.length) (h : ¬((ancTab l []).getD j 0).testBit i = true) : (i,j) ∈ openPairs l := by
  unfold openPairs
  refine List.mem_flatMap.2 ⟨j,by simpa using hj,List.mem_filterMap.2 ⟨i,by simpa using hij, ?_⟩⟩
  rw [if_neg h]

section
variable {P : Program} {w0 : World}

theorem cOpers_get {cops : Array Oper} {ntmps : Nat} {draw : Bool} : ∀ {cl : List Oper} {l : List AOper},cOpers P ntmps draw cops cl = some l → l.length = cl.length ∧ ∀ (k : Nat) (co : Oper),cl[k]? = some co → ∃ o : AOper,l[k]? = some o ∧ cOper P ntmps draw cops co = some o
  | [],l,h => by simp [cOpers] at h; subst h; exact ⟨rfl,fun k co hk => by simp at hk⟩
  | c :: cl,l,h => by
    simp only [cOpers] at h
    split at h
    · rename_i o l' ho hl
      simp at h
      subst h
      obtain ⟨h1,h2⟩ := cOpers_get hl
      refine ⟨by simp [h1],fun k co hk => ?_⟩
      cases k with
      | zero => simp at hk; subst hk; exact ⟨o,by simp,ho⟩
      | succ k => simp at hk; obtain ⟨o',h3,h4⟩ := h2 k co hk; exact ⟨o',by simpa using h3,h4⟩
    · simp at h

theorem mem_cDeps {es : List Edge} {d : Nat} : d ∈ cDeps es ↔ ∃ e,e ∈ es ∧ Region.binds .any e = true ∧ e.on = d := by
  unfold cDeps
  rw [List.mem_filterMap]
  constructor
  · rintro ⟨e,he,h⟩
    split at h
    · rename_i hb; exact ⟨e,he,hb,by simpa using h⟩
    · cases h
  · rintro ⟨e,he,hb,rfl⟩
    exact ⟨e,he,by rw [if_pos hb]⟩

structure DrawInv (l : List AOper) (recs : List Rec) (w0 : World) (ntmps : Nat) (σ : Fr) (h : AHeap) (n n' : Nat) (φ : Phi) (T : TH) (a0 : Act) (fuel : Nat) (listed : Array Bool) (a : Act) (w : World) (φ1 : Phi) (T1 : TH) : Prop where
  size : listed.size = l.length
  sat : Sat 4096 w0 φ1 T1 w
  le : Phi.Le φ φ1
  slots : ∀ t v,foldS (List.zipWith wSlot l recs) (fun i => listed.getD i false) σ.get t = some v → ∃ u,a.tmps[t]? = some u ∧ VRel φ1 v u
  heap : ∀ i b,foldS (recs.map wHeap) (fun i => listed.getD i false) h.get i = some b → T1 i = some b
  frame : ∀ i,h.get i = none → ¬(n ≤ i ∧ i < n') → T1 i = T i
  fresh : ∀ i,¬(n ≤ i ∧ i < n') → (∀ g, φ i g = none) → ∀ g, φ1 i g = none
  pend : ∀ k c,recs[k]? = some c → listed.getD k false = false → Fresh φ1 T1 c.n c.n'
  closed : Closed l (fun i => listed.getD i false)
  tmps : a.tmps.size = ntmps
  defers : a.defers = a0.defers
  count : ((List.range l.length).filter fun i => !listed.getD i false).length = fuel

theorem drawInv_step (ro : Option Nat) {l : List AOper} {recs : List Rec} {ntmps : Nat} {σ : Fr} {h : AHeap} {n : Nat} {σ' : Fr} {h' : AHeap} {n' : Nat} (hd : SoundDraw P w0 l σ h n recs σ' h' n') (hst : staticOk l = true)
    (hap : ∀ i j a b,(i,j) ∈ openPairs l → recs[i]? = some a → recs[j]? = some b → apartHeaps a b) {cops : Array Oper} (hc : cOpers P ntmps true cops cops.toList = some l) (hG : 4096 ≤ n)
    {φ : Phi} {T : TH} {a0 : Act} {fuel : Nat} {listed : Array Bool} {a : Act} {w : World} {φ1 : Phi} {T1 : TH} (inv : DrawInv l recs w0 ntmps σ h n n' φ T a0 (fuel + 1) listed a w φ1 T1) {i : Nat}
    (hi : i ∈ Region.ready .any cops listed) {Q : Exit → Act → World → Prop} {K : Act → World → Prop}
    (hK : ∀ a' w' φ2 T2,DrawInv l recs w0 ntmps σ h n n' φ T a0 fuel (listed.setIfInBounds i true) a' w' φ2 T2 → K a' w') : wpOpIn (FW ro) 0 P cops Q i K a w := by
  obtain ⟨d1,d2,d3,d5,d4⟩ := hd
  obtain ⟨hlen,hget⟩ := cOpers_get hc
  unfold Region.ready at hi
  simp only [List.mem_filter,List.mem_range,Bool.and_eq_true,Bool.not_eq_true'] at hi
  obtain ⟨hilt,hunl,hdeps⟩ := hi
  have hilt' : i < cops.toList.length := by simpa using hilt
  obtain ⟨o,ho,hoc⟩ := hget i cops[i] (by simp [hilt])
  have hil : i < l.length := by rw [hlen]; exact hilt'
  obtain ⟨c,hc'⟩ : ∃ c,recs[i]? = some c := ⟨recs[i]'(by omega),by simp⟩
  obtain ⟨r0,r1,r2,r3,r4,r5,r6, σk,r7,r8⟩ := d4 i o c ho hc'
  obtain ⟨hop,hdst,hdlt,hdd,_⟩ := cOper_spec hoc
  have hunl' : listed.getD i false = false := by
    rw [Array.getD_eq_getD_getElem?] at hunl ⊢
    have : i < listed.size := by rw [inv.size]; exact hil
    simp [this] at hunl ⊢
    exact hunl
  have hready : ∀ d,d ∈ o.deps → listed.getD d false = true := by
    intro d hdm
    rw [hdd] at hdm
    simp only [if_true] at hdm
    obtain ⟨e,he,hb,rfl⟩ := mem_cDeps.1 hdm
    simp only [Array.getElem?_eq_getElem hilt,Option.map_some,Option.getD_some,Array.all_eq_true_iff_forall_mem] at hdeps
    have := hdeps e (by simpa using he)
    simpa [hb] using this
  -- pairs
  simp only [staticOk,Bool.and_eq_true,List.all_eq_true] at hst
  obtain ⟨hst1,hst2⟩ := hst
  have hslots : ∀ (x y : Nat) (p q : AOper),(x,y) ∈ openPairs l → l[x]? = some p → l[y]? = some q → apartSlots p q = true := by
    intro x y p q hxy hx hy
    have := hst2 (x,y) hxy
    simpa [hx,hy] using this
  have hbefore : ∀ (j : Nat) (p : AOper),j < i → l[j]? = some p → listed.getD j false = true ∨ (j,i) ∈ openPairs l := by
    intro j p hj hp
    by_cases ha : ((ancTab l []).getD i 0).testBit j = true
    · exact .inl (anc_closed inv.closed ho hready ha)
    · exact .inr (mem_openPairs hj hil ha)
  have hafter : ∀ (j : Nat) (p : AOper),i < j → l[j]? = some p → listed.getD j false = false ∨ (i,j) ∈ openPairs l := by
    intro j p hj hp
    by_cases ha : ((ancTab l []).getD j 0).testBit i = true
    · left
      cases hx : listed.getD j false with
      | false => rfl
      | true =>
        have := anc_closed inv.closed hp (fun d hd => inv.closed j p hp hx d hd) ha
        rw [hunl'] at this; cases this
    · exact .inr (mem_openPairs hj (List.getElem?_eq_some_iff.1 hp).1 ha)
  have hzip : ∀ (j : Nat) (W : Nat → Option (Option Value)),(List.zipWith wSlot l recs)[j]? = some W → ∃ (p : AOper) (q : Rec),l[j]? = some p ∧ recs[j]? = some q ∧ W = wSlot p q := by
    intro j W hW
    rw [List.getElem?_zipWith] at hW
    split at hW
    · rename_i p q hp hq; simp at hW; exact ⟨p,q,hp,hq,hW.symm⟩
    · cases hW
  have hmap : ∀ (j : Nat) (W : Nat → Option (Option Blk)),(recs.map wHeap)[j]? = some W → ∃ q : Rec,recs[j]? = some q ∧ W = wHeap q := by
    intro j W hW
    rw [List.getElem?_map] at hW
    cases hq : recs[j]? with
    | none => simp [hq] at hW
    | some q => simp [hq] at hW; exact ⟨q,rfl,hW.symm⟩
  have hlget : ∀ (j : Nat),j < recs.length → ∃ p : AOper,l[j]? = some p := fun j hj => ⟨l[j]'(by omega),by simp⟩
  -- what the operation reads
  have hfr : FrameRel φ1 σk a := by
    intro t v hv
    rw [r7] at hv
    split at hv
    · rename_i hrt
      refine inv.slots t v ?_
      rw [← hv]
      refine foldS_congr t _ _ _ _ _ rfl (fun j W hW hne => ?_)
      obtain ⟨p,q,hp,hq,rfl⟩ := hzip j W hW
      have hpd : p.dst = some t := by
        unfold wSlot at hne
        split at hne
        · assumption
        · exact absurd rfl hne
      rcases Nat.lt_trichotomy j i with hj | hj | hj
      · rw [decide_eq_true hj]
        rcases hbefore j p hj hp with h1 | h1
        · exact h1
        · have := hslots _ _ _ _ h1 hp ho
          simp only [apartSlots,hpd,Bool.and_eq_true,Bool.not_eq_true'] at this
          rw [hrt] at this; cases this.1.1
      · subst hj; rw [hunl']; simp
      · rw [decide_eq_false (by omega)]
        rcases hafter j p hj hp with h1 | h1
        · exact h1
        · have := hslots _ _ _ _ h1 ho hp
          simp only [apartSlots,hpd,Bool.and_eq_true,Bool.not_eq_true'] at this
          rw [hrt] at this; cases this.2
    · cases hv
  have hsub : ∀ k b,c.h.get k = some b → foldS (recs.map wHeap) (fun i => listed.getD i false) h.get k = some b := by
    intro k b hb
    rw [← r6 k b hb]
    refine foldS_congr k _ _ _ _ _ rfl (fun j W hW hne => ?_)
    obtain ⟨q,hq,rfl⟩ := hmap j W hW
    have hqc : k ∈ q.chg := by
      unfold wHeap at hne
      split at hne
      · rename_i hh; simpa using hh
      · exact absurd rfl hne
    obtain ⟨p,hp⟩ := hlget j (List.getElem?_eq_some_iff.1 hq).1
    rcases Nat.lt_trichotomy j i with hj | hj | hj
    · rw [decide_eq_true hj]
      rcases hbefore j p hj hp with h1 | h1
      · exact h1
      · have := (hap _ _ _ _ h1 hq hc').1 k hqc
        rw [hb] at this; cases this
    · subst hj; rw [hunl']; simp
    · rw [decide_eq_false (by omega)]
      rcases hafter j p hj hp with h1 | h1
      · exact h1
      · have := (hap _ _ _ _ h1 hc' hq).2 k hqc
        rw [hb] at this; cases this
  have hsubT : Sub c.h T1 := fun k b hb => inv.heap k b (hsub k b hb)
  have hpend := inv.pend i c hc' hunl'
  have hS' : ∀ j,(listed.setIfInBounds i true).getD j false = if j = i then true else listed.getD j false := by
    intro j
    simp only [Array.getD_eq_getD_getElem?,Array.getElem?_setIfInBounds]
    have : i < listed.size := by rw [inv.size]; exact hil
    by_cases hj : i = j
    · subst hj; simp [this]
    · simp [hj,Ne.symm hj]
  have step : ∀ φ2 T2 w2 u,Post 4096 w0 φ1 T1 c.h c.n φ2 T2 w2 c.h' c.n' → (∀ v,c.r = some v → VRel φ2 v u) → K (a.put cops[i].dst u) w2 := by
    intro φ2 T2 w2 u hp hr
    refine hK _ _ φ2 T2 ⟨by simp [inv.size],hp.sat,inv.le.trans hp.le,fun t v hv => ?_,fun k b hb => ?_,fun k hk hkn => ?_,fun k hk hf => ?_,fun k q hq hkl => ?_,fun k p hp' hk d hd => ?_,by rw [put_size,inv.tmps],by rw [put_defers,inv.defers], ?_⟩
    · -- slots
      have hSeq : (fun j => (listed.setIfInBounds i true).getD j false) = fun j => if j = i then true else listed.getD j false := funext hS'
      rw [hSeq] at hv
      have hWi : (List.zipWith wSlot l recs)[i]? = some (wSlot o c) := by rw [List.getElem?_zipWith,ho,hc']
      by_cases hdt : o.dst = some t
      · rw [foldS_insert t _ (fun j => listed.getD j false) _ _ i _ hWi (by simp) (fun j hj => by simp [hj]) hunl' (fun j W hj hW hSj => by
          obtain ⟨p,q,hp,hq,rfl⟩ := hzip j W hW
          unfold wSlot
          split
          · rename_i hpd
            exfalso
            rcases hafter j p hj hp with h1 | h1
            · rw [hSj] at h1; cases h1
            · have := hslots _ _ _ _ h1 ho hp
              simp [apartSlots,hdt,hpd] at this
          · rfl)] at hv
        simp only [wSlot,hdt,if_true] at hv
        refine ⟨u, ?_,hr v hv⟩
        rw [tmps_put,← hdst,hdt]
        rw [if_pos ⟨rfl,by rw [inv.tmps]; exact hdlt t (by rw [← hdst,hdt])⟩]
      · have hW0 : wSlot o c t = none := by simp [wSlot,hdt]
        have : foldS (List.zipWith wSlot l recs) (fun j => listed.getD j false) σ.get t = some v := by
          rw [← hv]
          refine foldS_congr t _ _ _ _ _ rfl (fun j W hW hne => ?_)
          have hji : j ≠ i := by
            intro e; subst e; rw [hWi] at hW
            obtain rfl := Option.some.inj hW
            exact hne hW0
          simp [hji]
        obtain ⟨u',hu',hr'⟩ := inv.slots t v this
        refine ⟨u', ?_,hr'.mono hp.le⟩
        rw [tmps_put,← hdst,if_neg (by simp [hdt])]
        exact hu'
    · -- the memory
      have hSeq : (fun j => (listed.setIfInBounds i true).getD j false) = fun j => if j = i then true else listed.getD j false := funext hS'
      rw [hSeq] at hb
      have hWi : (recs.map wHeap)[i]? = some (wHeap c) := by rw [List.getElem?_map,hc']; rfl
      by_cases hck : k ∈ c.chg
      · rw [foldS_insert k _ (fun j => listed.getD j false) _ _ i _ hWi (by simp) (fun j hj => by simp [hj]) hunl' (fun j W hj hW hSj => by
          obtain ⟨q,hq,rfl⟩ := hmap j W hW
          unfold wHeap
          split
          · rename_i hqc
            exfalso
            have hqc' : k ∈ q.chg := by simpa using hqc
            obtain ⟨p,hp⟩ := hlget j (List.getElem?_eq_some_iff.1 hq).1
            rcases hafter j p hj hp with h1 | h1
            · rw [hSj] at h1; cases h1
            · have ⟨g1,g2⟩ := hap _ _ _ _ h1 hc' hq
              obtain ⟨_,_,_,_,s4,_,_⟩ := d4 j p q hp hq
              rcases (r4.2 k hck).2 with hx | hx
              · rw [g2 k hqc'] at hx; cases hx
              · rcases (s4.2 k hqc').2 with hy | hy
                · rw [g1 k hck] at hy; cases hy
                · have := r5 j q hj hq; omega
          · rfl)] at hb
        have hx : wHeap c k = some (c.h'.get k) := by unfold wHeap; rw [if_pos (by simpa using hck)]
        rw [hx] at hb
        exact hp.sub k b hb
      · have hW0 : wHeap c k = none := by unfold wHeap; rw [if_neg (by simpa using hck)]
        have hb' : foldS (recs.map wHeap) (fun j => listed.getD j false) h.get k = some b := by
          rw [← hb]
          refine foldS_congr k _ _ _ _ _ rfl (fun j W hW hne => ?_)
          have hji : j ≠ i := by
            intro e; subst e; rw [hWi] at hW
            obtain rfl := Option.some.inj hW
            exact hne hW0
          simp [hji]
        have hT1 := inv.heap k b hb'
        cases hx : c.h.get k with
        | some b0 =>
          have h1 := hsub k b0 hx
          rw [hb'] at h1
          obtain rfl := Option.some.inj h1
          exact hp.sub k b (r4.1 k b hx hck)
        | none =>
          rw [hp.frame k hx (fun hin => by
            have := (hpend k hin.1 hin.2).1
            rw [hT1] at this; cases this)]
          exact hT1
    · have hck : c.h.get k = none := by
        cases hx : c.h.get k with
        | none => rfl
        | some b =>
          rcases r0 k b hx with ⟨d,hd⟩ | hd
          · rw [hk] at hd; cases hd
          · exact absurd hd hkn
      rw [hp.frame k hck (by omega)]
      exact inv.frame k hk hkn
    · exact hp.fresh k (by omega) (inv.fresh k hk hf)
    · rw [hS'] at hkl
      split at hkl
      · cases hkl
      · rename_i hki
        have hold := inv.pend k q hq hkl
        obtain ⟨p,hp'⟩ := hlget k (List.getElem?_eq_some_iff.1 hq).1
        obtain ⟨_,s1,s2,s3,_,s5,_⟩ := d4 k p q hp' hq
        have hdisj : q.n' ≤ c.n ∨ c.n' ≤ q.n := by
          rcases Nat.lt_or_gt_of_ne hki with hlt | hgt
          · exact .inl (s5 i c hlt hc')
          · exact .inr (r5 k q hgt hq)
        intro x hx1 hx2
        obtain ⟨g1,g2⟩ := hold x hx1 hx2
        have hcx : c.h.get x = none := by
          cases hy : c.h.get x with
          | none => rfl
          | some b => have := hsubT x b hy; rw [g1] at this; cases this
        exact ⟨by rw [hp.frame x hcx (by omega),g1],hp.fresh x (by omega) g2⟩
    · simp only [hS'] at hk ⊢
      split
      · rfl
      · rename_i hdi
        split at hk
        · rename_i hki
          subst hki
          rw [ho] at hp'
          obtain rfl := Option.some.inj hp'
          exact hready d hd
        · exact inv.closed k p hp' hk d hd
    · have hcnt := inv.count
      have key : ∀ N,i < N → ((List.range N).filter fun j => !listed.getD j false).length = ((List.range N).filter fun j => !(listed.setIfInBounds i true).getD j false).length + 1 := by
        intro N
        induction N with
        | zero => intro h; omega
        | succ N ih =>
          intro hN
          simp only [List.range_succ,List.filter_append,List.length_append,List.filter_cons,List.filter_nil]
          by_cases hiN : i = N
          · subst hiN
            have e1 : ((List.range i).filter fun j => !listed.getD j false) = ((List.range i).filter fun j => !(listed.setIfInBounds i true).getD j false) := by
              apply List.filter_congr
              intro j hj
              rw [hS',if_neg (by have := List.mem_range.1 hj; omega)]
            rw [e1,hunl',hS',if_pos rfl]
            simp
          · rw [ih (by omega),hS' N,if_neg (Ne.symm hiN)]
            omega
      have := key l.length hil
      omega
  have hso := r8 ro cops[i] cops ntmps true hoc φ1 T1 w a inv.sat hsubT hpend (by omega) hfr K Q step
  unfold wpOpIn
  simp only [Array.getElem?_eq_getElem hilt]
  split
  · rename_i hw; rw [if_pos hw] at hso; exact hso
  · rename_i hw; rw [if_neg hw] at hso; exact ⟨fun _ _ => trivial,hso⟩

end
end
end Go.Proofs.YtkdpjaaohddppaaGreatDoor.Am
namespace Go.Proofs.YtkdpjaaohddppaaGreatDoor.Am
noncomputable section
open Go.RowKit (Below)

def Ex.conv : Ex → Exit
  | .normal => .normal
  | .exit id => if id < gB then .exit id else .goto (id - gB)
  | .ret => .ret

theorem conv_then {e : Ex} (he : e ≠ .normal) {K : Act → World → Prop} {Q : Exit → Act → World → Prop} {a : Act} {w : World} : Exit.then K Q e.conv a w = Q e.conv a w := by
  cases e with
  | normal => exact absurd rfl he
  | exit id => simp only [Ex.conv]; split <;> rfl
  | ret => rfl
theorem conv_calm {e : Ex} (pe : ∀ l,e ≠ .exit (gB + l)) : ∀ l,e.conv ≠ .goto l := by
  intro l h
  cases e with
  | normal => cases h
  | ret => cases h
  | exit id =>
    simp only [Ex.conv] at h
    split at h
    · cases h
    · rename_i hn
      have e : id = gB + (id - gB) := by omega
      exact pe (id - gB) (congrArg Ex.exit e)
theorem conv_goto (l : Nat) : Ex.conv (.exit (gB + l)) = .goto l := by
  simp only [Ex.conv]
  rw [if_neg (by omega),Nat.add_sub_cancel_left]
section
variable {R : Option Nat → Prop} {P : Program} {w0 : World}

theorem drawInv_any (ro : Option Nat) {l : List AOper} {recs : List Rec} {ntmps : Nat} {σ : Fr} {h : AHeap} {n : Nat} {σ' : Fr} {h' : AHeap} {n' : Nat} (hd : SoundDraw P w0 l σ h n recs σ' h' n') (hle : n ≤ n') (hst : staticOk l = true)
    (hap : ∀ i j a b,(i,j) ∈ openPairs l → recs[i]? = some a → recs[j]? = some b → apartHeaps a b) {cops : Array Oper} (hc : cOpers P ntmps true cops cops.toList = some l) (hG : 4096 ≤ n)
    {φ : Phi} {T : TH} {a0 : Act} {Q : Exit → Act → World → Prop}
    (hQ : ∀ φ' T' w' a',Post 4096 w0 φ T h n φ' T' w' h' n' → FrameRel φ' σ' a' → a'.tmps.size = ntmps → a'.defers = a0.defers → Q .normal a' w') :
    ∀ (fuel : Nat) (listed : Array Bool) (a : Act) (w : World) (φ1 : Phi) (T1 : TH),DrawInv l recs w0 ntmps σ h n n' φ T a0 fuel listed a w φ1 T1 → wpAnyIn (FW ro) 0 P .any cops Q fuel listed a w := by
  have hd' := hd
  obtain ⟨d1,d2,d3,d5,d4⟩ := hd'
  obtain ⟨hlen,hget⟩ := cOpers_get hc
  intro fuel
  induction fuel with
  | zero =>
    intro listed a w φ1 T1 inv
    have hall : ∀ i,i < l.length → listed.getD i false = true := by
      intro i hi
      have := inv.count
      rw [List.length_eq_zero_iff,List.filter_eq_nil_iff] at this
      simpa using this i (by simpa using hi)
    refine ⟨?_, ?_⟩
    · unfold Region.ready
      rw [List.filter_eq_nil_iff]
      intro i hi
      have hi' : i < l.length := by rw [hlen]; simpa using hi
      have := hall i hi'
      rw [Array.getD_eq_getD_getElem?] at this ⊢
      have hs : i < listed.size := by rw [inv.size]; exact hi'
      simp [hs] at this ⊢
      simp [this]
    · refine hQ φ1 T1 w a ⟨inv.sat,inv.le,fun i b hb => ?_,inv.frame,inv.fresh,hle,d5⟩ (fun t v hv => ?_) inv.tmps inv.defers
      · refine inv.heap i b ?_
        rw [foldS_all i _ _ _ (fun j hj => hall j (by simpa [d1] using hj)),← d3]
        exact hb
      · refine inv.slots t v ?_
        rw [foldS_all t _ _ _ (fun j hj => hall j (by simp at hj; omega)),← d2]
        exact hv
  | succ fuel ih =>
    intro listed a w φ1 T1 inv
    refine ⟨fun hnil => ?_,fun i hi => ?_⟩
    · -- the first one that is not listed is ready
      exfalso
      have hex : ∃ i,i < l.length ∧ listed.getD i false = false := by
        have := inv.count
        have hne : ((List.range l.length).filter fun i => !listed.getD i false) ≠ [] := by
          intro e; rw [e] at this; simp at this
        obtain ⟨x,hx⟩ := List.exists_mem_of_ne_nil _ hne
        simp only [List.mem_filter,List.mem_range,Bool.not_eq_true'] at hx
        exact ⟨x,hx.1,hx.2⟩
      obtain ⟨i,⟨hi1,hi2⟩,hmin⟩ : ∃ i,(i < l.length ∧ listed.getD i false = false) ∧ ∀ j,j < i → listed.getD j false = true := by
        obtain ⟨x,hx⟩ := hex
        have : ∀ m x,x ≤ m → x < l.length ∧ listed.getD x false = false → ∃ i,(i < l.length ∧ listed.getD i false = false) ∧ ∀ j,j < i → listed.getD j false = true := by
          intro m
          induction m with
          | zero => intro x hx hp; exact ⟨x,hp,fun j hj => by omega⟩
          | succ m ihm =>
            intro x hx hp
            by_cases hall : ∀ j,j < x → listed.getD j false = true
            · exact ⟨x,hp,hall⟩
            · simp only [Classical.not_forall,Bool.not_eq_true] at hall
              obtain ⟨j,hj,hjf⟩ := hall
              exact ihm j (by omega) ⟨by omega,hjf⟩
        exact this x x (Nat.le_refl _) hx
      have hic : i < cops.toList.length := by rw [← hlen]; exact hi1
      have hic' : i < cops.size := by simpa using hic
      obtain ⟨o,ho,hoc⟩ := hget i cops[i] (by simp [hic'])
      obtain ⟨_,_,_,hdd,_⟩ := cOper_spec hoc
      simp only [staticOk,Bool.and_eq_true,List.all_eq_true] at hst
      have hmem : i ∈ Region.ready .any cops listed := by
        unfold Region.ready
        simp only [List.mem_filter,List.mem_range,Bool.and_eq_true,Bool.not_eq_true']
        refine ⟨hic', ?_, ?_⟩
        · rw [Array.getD_eq_getD_getElem?] at hi2 ⊢
          have hs : i < listed.size := by rw [inv.size]; exact hi1
          simp [hs] at hi2 ⊢
          exact hi2
        · simp only [Array.getElem?_eq_getElem hic',Option.map_some,Option.getD_some,Array.all_eq_true_iff_forall_mem]
          intro e he
          cases hb : Region.binds .any e with
          | false => simp
          | true =>
            have hdm : e.on ∈ o.deps := by
              rw [hdd]; simp only [if_true]; exact mem_cDeps.2 ⟨e,by simpa using he,hb,rfl⟩
            have := hst.1 (o,i) (by
              rw [List.mem_iff_getElem?]
              exact ⟨i,by simp [ho]⟩)
            simp only [decide_eq_true_eq] at this
            simpa using hmin e.on (this e.on hdm)
      rw [hnil] at hmem
      cases hmem
    · exact drawInv_step ro hd hst hap hc hG inv hi fun a' w' φ2 T2 inv' => ih _ a' w' φ2 T2 inv'

def markD (p : Nat × Nat) : Deferred := { target := .collected p.2,args := #[] }
def MkL (T : TH) (h : AHeap) (n0 n : Nat) (l : List (Nat × Nat)) : Prop := (l.map (·.1)).Nodup ∧ ∀ p ∈ l,T p.1 = some (.obj p.2 (.deferred (some [])) []) ∧ h.get p.1 = none ∧ n0 ≤ p.1 ∧ p.1 < n
def Mk (T : TH) (h : AHeap) (n0 n : Nat) (ds : List Deferred) : Prop := ∃ l,ds = l.map markD ∧ MkL T h n0 n l
theorem Mk.nil (T : TH) (h : AHeap) (n0 n : Nat) : Mk T h n0 n [] := ⟨[],rfl, .nil,fun _ h => by cases h⟩
theorem Mk.post {φ φ' : Phi} {T T' : TH} {w' : World} {h h' : AHeap} {n n' n0 : Nat} {ds : List Deferred} (x : Mk T h n0 n ds) (p : Post 4096 w0 φ T h n φ' T' w' h' n') : Mk T' h' n0 n' ds := by
  obtain ⟨l,h1,h2,h3⟩ := x
  refine ⟨l,h1,h2,fun q hq => ?_⟩
  obtain ⟨a,b,c,d⟩ := h3 q hq
  refine ⟨by rw [p.frame q.1 b (by omega)]; exact a, ?_,c,Nat.lt_of_lt_of_le d p.mono⟩
  cases hx : h'.get q.1 with
  | none => rfl
  | some b' =>
    rcases p.dom _ _ hx with ⟨c',hc⟩ | hc
    · rw [b] at hc; cases hc
    · omega
theorem Mk.sub {T : TH} {h h2 : AHeap} {n n0 : Nat} {ds : List Deferred} (x : Mk T h n0 n ds) (hs : HSub h2 h) : Mk T h2 n0 n ds := by
  obtain ⟨l,h1,h2',h3⟩ := x
  refine ⟨l,h1,h2',fun q hq => ?_⟩
  obtain ⟨a,b,c,d⟩ := h3 q hq
  refine ⟨a, ?_,c,d⟩
  cases hx : h2.get q.1 with
  | none => rfl
  | some b' => have := hs _ _ hx; rw [b] at this; cases this

def SoundCode (R : Option Nat → Prop) (P : Program) (w0 : World) (c : ACode) (σ : Fr) (h : AHeap) (n : Nat) (e : Ex) (σ' : Fr) (h' : AHeap) (n' : Nat) : Prop :=
  ∀ (ro : Option Nat),R ro → ∀ (cc : Code) (ntmps : Nat),cCode P ntmps cc = some c → ∀ n0 φ T w a,Sat 4096 w0 φ T w → Sub h T → Fresh φ T n n' → 4096 ≤ n → FrameRel φ σ a → a.tmps.size = ntmps → n0 ≤ n ∧ Mk T h n0 n a.defers →
    ∀ (Q : Exit → Act → World → Prop),(∀ φ' T' w' a',Post 4096 w0 φ T h n φ' T' w' h' n' → FrameRel φ' σ' a' → a'.tmps.size = ntmps → n0 ≤ n' ∧ Mk T' h' n0 n' a'.defers → Q e.conv a' w') → cc.wpIn (FW ro) 0 P Q a w

theorem cCode_region {ntmps : Nat} {cc : Code} {l : List AOper} {pr : Option (List (Nat × Nat))} (hc : cCode P ntmps cc = some (.region l pr)) : ∃ id cops draw,cc = .region id cops draw ∧ cOpers P ntmps draw cops cops.toList = some l ∧
    ((draw = true ∧ staticOk l = true ∧ pr = some (openPairs l)) ∨ (draw = false ∧ pr = none)) := by
  cases cc <;> simp only [cCode] at hc <;> (try (repeat' split at hc) <;> simp [Option.map_eq_some_iff] at hc; done)
  rename_i id cops draw
  split at hc
  · rename_i l' hl
    split at hc
    · rename_i hd
      split at hc
      · rename_i hst
        simp only [Option.some.injEq,ACode.region.injEq] at hc
        obtain ⟨rfl,rfl⟩ := hc
        exact ⟨id,cops,draw,rfl,hl, .inl ⟨hd,hst,rfl⟩⟩
      · cases hc
    · rename_i hd
      simp only [Option.some.injEq,ACode.region.injEq] at hc
      obtain ⟨rfl,rfl⟩ := hc
      exact ⟨id,cops,draw,rfl,hl, .inr ⟨by simpa using hd,rfl⟩⟩
  · cases hc

theorem regionDraw_sound (hm : P.follows .mixedOrders = true) {l : List AOper} {recs : List Rec} {σ : Fr} {h : AHeap} {n : Nat} {σ' : Fr} {h' : AHeap} {n' : Nat} (hd : SoundDraw P w0 l σ h n recs σ' h' n') (hle : n ≤ n') {ps : List (Nat × Nat)}
    (hap : ∀ i j a b,(i,j) ∈ ps → recs[i]? = some a → recs[j]? = some b → apartHeaps a b) : SoundCode R P w0 (.region l (some ps)) σ h n .normal σ' h' n' := by
  intro ro hro cc ntmps hc n0 φ T w a hs hh hf hG hfr hsz hmk Q hQ
  obtain ⟨id,cops,draw,rfl,hl,⟨rfl,hst,he⟩ | ⟨_,he⟩⟩ := cCode_region hc
  case inr => cases he
  obtain rfl := Option.some.inj he
  have hd0 := hd
  obtain ⟨d1,d2,d3,d5,d4⟩ := hd0
  obtain ⟨hlen,_⟩ := cOpers_get hl
  refine wpIn_region_any hm ?_
  have hsame : SameMem w { w with drawn := w.drawn + 1 } := SameMem.drew _ _
  have hsize : cops.size = l.length := by rw [hlen]; simp
  refine drawInv_any ro hd hle hst hap hl hG (a0 := a) (fun φ' T' w' a' hp hfr' hsz' hdf => hQ φ' T' w' a' hp hfr' hsz' ⟨Nat.le_trans hmk.1 hp.mono,by rw [hdf]; exact hmk.2.post hp⟩) cops.size _ a _ φ T ?_
  have hfalse : ∀ i,(Array.replicate cops.size false).getD i false = false := by
    intro i
    simp only [Array.getD_eq_getD_getElem?,Array.getElem?_replicate]
    split <;> rfl
  have hfe : (fun i => (Array.replicate cops.size false).getD i false) = fun _ => false := funext hfalse
  refine ⟨by simp [hsize],hs.same hsame, .refl _,fun t v hv => ?_,fun i b hb => ?_,fun i _ _ => rfl,fun i _ hf g => hf g,fun k c hk _ i h1 h2 => ?_,fun k o _ hk => ?_,hsz,rfl, ?_⟩
  · rw [foldS_none t _ _ _ hfalse] at hv; exact hfr t v hv
  · rw [foldS_none i _ _ _ hfalse] at hb; exact hh i b hb
  · obtain ⟨o,ho⟩ : ∃ o,l[k]? = some o := ⟨l[k]'(by have := (List.getElem?_eq_some_iff.1 hk).1; omega),by simp⟩
    obtain ⟨_,s1,s2,s3,_⟩ := d4 k o c ho hk
    exact hf i (by omega) (by omega)
  · simp only [hfalse] at hk; cases hk
  · rw [List.filter_eq_self.2 (fun i _ => by rw [hfalse]; rfl)]
    simp [hsize]

theorem region_sound {l : List AOper} {σ : Fr} {h : AHeap} {n : Nat} {σ' : Fr} {h' : AHeap} {n' : Nat} (hd : SoundOps P w0 l σ h n σ' h' n') : SoundCode R P w0 (.region l none) σ h n .normal σ' h' n' := by
  intro ro hro cc ntmps hc n0 φ T w a hs hh hf hG hfr hsz hmk Q hQ
  obtain ⟨id,cops,draw,rfl,hl,⟨_,_,he⟩ | ⟨rfl,_⟩⟩ := cCode_region hc
  case inl => cases he
  exact wpIn_region_list (hd ro cops ntmps false cops.toList hl φ T w a hs hh hf hG hfr hsz Q fun φ' T' w' a' hp hfr' hsz' hdf => hQ φ' T' w' a' hp hfr' hsz' ⟨Nat.le_trans hmk.1 hp.mono,by rw [hdf]; exact hmk.2.post hp⟩)

theorem cCode_seq {ntmps : Nat} {cc : Code} {a b : ACode} (h : cCode P ntmps cc = some (.seq a b)) : ∃ x y,cc = .seq x y ∧ cCode P ntmps x = some a ∧ cCode P ntmps y = some b := by
  cases cc <;> simp only [cCode] at h <;> (try (repeat' split at h) <;> simp [Option.map_eq_some_iff] at h; done)
  split at h
  · rename_i x y hx hy; simp at h; obtain ⟨rfl,rfl⟩ := h; exact ⟨_,_,rfl,hx,hy⟩
  · simp at h
theorem cCode_cond {ntmps : Nat} {cc : Code} {c : X} {a b : ACode} (h : cCode P ntmps cc = some (.cond c a b)) : ∃ o x y,cc = .cond o x y ∧ cX o = some c ∧ cCode P ntmps x = some a ∧ cCode P ntmps y = some b := by
  cases cc <;> simp only [cCode] at h <;> (try (repeat' split at h) <;> simp [Option.map_eq_some_iff] at h; done)
  split at h
  · rename_i o x y ho hx hy; simp at h; obtain ⟨rfl,rfl,rfl⟩ := h; exact ⟨_,_,_,rfl,ho,hx,hy⟩
  · simp at h
theorem cCode_block {ntmps : Nat} {cc : Code} {id : Nat} {a : ACode} (h : cCode P ntmps cc = some (.block id a)) : ∃ x,cc = .block id x ∧ id < gB ∧ cCode P ntmps x = some a := by
  cases cc <;> simp only [cCode] at h <;> (try (repeat' split at h) <;> simp [Option.map_eq_some_iff] at h; done)
  split at h
  · rename_i hlt
    obtain ⟨x,hx,he⟩ := optmap h
    simp at he
    obtain ⟨rfl,rfl⟩ := he
    exact ⟨_,rfl,hlt,hx⟩
  · simp at h
theorem cCode_loop {ntmps : Nat} {cc : Code} {a : ACode} (h : cCode P ntmps cc = some (.loop a)) : ∃ x,cc = .loop x ∧ cCode P ntmps x = some a := by
  cases cc <;> simp only [cCode] at h <;> (try (repeat' split at h) <;> simp [Option.map_eq_some_iff] at h; done)
  obtain ⟨x,hx,he⟩ := optmap h
  simp at he
  subst he
  exact ⟨_,rfl,hx⟩
theorem cCode_skip {ntmps : Nat} {cc : Code} (h : cCode P ntmps cc = some .skip) : cc = .skip := by
  cases cc <;> simp only [cCode] at h <;> first | rfl | ((repeat' split at h) <;> simp [Option.map_eq_some_iff] at h; done)
theorem cCode_ret {ntmps : Nat} {cc : Code} (h : cCode P ntmps cc = some .ret) : cc = .ret := by
  cases cc <;> simp only [cCode] at h <;> first | rfl | ((repeat' split at h) <;> simp [Option.map_eq_some_iff] at h; done)
theorem cCode_exit {ntmps : Nat} {cc : Code} {id : Nat} (h : cCode P ntmps cc = some (.exit id)) : (cc = .exit id ∧ id < gB) ∨ ∃ l,cc = .goto l ∧ id = gB + l := by
  cases cc with
  | exit i =>
    simp only [cCode] at h
    split at h
    · rename_i hlt
      simp at h; subst h; exact .inl ⟨rfl,hlt⟩
    · simp at h
  | goto l => simp only [cCode] at h; simp at h; exact .inr ⟨l,rfl,h.symm⟩
  | _ => simp only [cCode] at h; first | (simp at h; done) | ((repeat' split at h) <;> simp [Option.map_eq_some_iff] at h; done)
theorem cCode_label {ntmps : Nat} {cc : Code} {l : Nat} (h : cCode P ntmps cc = some (.label l)) : cc = .label l := by
  cases cc <;> simp only [cCode] at h <;> first | (simp at h; subst h; rfl) | ((repeat' split at h) <;> simp [Option.map_eq_some_iff] at h; done)
theorem cCode_scope {ntmps : Nat} {cc : Code} {a : ACode} (h : cCode P ntmps cc = some (.scope a)) : ∃ x,cc = .scope x ∧ cCode P ntmps x = some a := by
  cases cc <;> simp only [cCode] at h <;> (try (repeat' split at h) <;> simp [Option.map_eq_some_iff] at h; done)
  obtain ⟨x,hx,he⟩ := optmap h
  simp at he
  subst he
  exact ⟨_,rfl,hx⟩
theorem find_rel {ntmps : Nat} (l : Nat) : ∀ {cx : Code} {c : ACode},cCode P ntmps cx = some c → (findLab c l = none ∧ findLabel cx l = none) ∨ ∃ r rest,findLab c l = some r ∧ findLabel cx l = some rest ∧ cCode P ntmps rest = some r := by
  intro cx
  induction cx with
  | seq a b iha ihb =>
    intro c h
    simp only [cCode] at h
    split at h
    · rename_i x y hx hy
      simp at h; subst h
      rcases iha hx with ⟨h1,h2⟩ | ⟨r,rest,h1,h2,h3⟩
      · rcases ihb hy with ⟨g1,g2⟩ | ⟨r,rest,g1,g2,g3⟩
        · exact .inl ⟨by simp [findLab,h1,g1],by simp [findLabel,h2,g2]⟩
        · exact .inr ⟨r,rest,by simp [findLab,h1,g1],by simp [findLabel,h2,g2],g3⟩
      · exact .inr ⟨.seq r y, .seq rest b,by simp [findLab,h1],by simp [findLabel,h2],by simp [cCode,h3,hy]⟩
    · simp at h
  | label i =>
    intro c h
    simp only [cCode] at h
    simp at h; subst h
    by_cases e : i = l
    · exact .inr ⟨.skip, .skip,by simp [findLab,e],by simp [findLabel,e],rfl⟩
    · exact .inl ⟨by simp [findLab,e],by simp [findLabel,e]⟩
  | _ =>
    intro c h
    refine .inl ⟨?_,by simp [findLabel]⟩
    simp only [cCode] at h
    first
      | (simp at h; subst h; rfl)
      | ((repeat' split at h) <;> simp [Option.map_eq_some_iff] at h <;> (try subst h) <;> (try rfl) <;> (try (obtain ⟨_,_,rfl⟩ := h; rfl)))

theorem seq_sound {a b : ACode} {σ : Fr} {h : AHeap} {n : Nat} {σ1 : Fr} {h1 : AHeap} {n1 : Nat} {e : Ex} {σ' : Fr} {h' : AHeap} {n' : Nat} (m1 : n ≤ n1) (m2 : n1 ≤ n') (x : SoundCode R P w0 a σ h n .normal σ1 h1 n1)
    (y : SoundCode R P w0 b σ1 h1 n1 e σ' h' n') : SoundCode R P w0 (.seq a b) σ h n e σ' h' n' := by
  intro ro hro cc ntmps hc n0 φ T w ac hs hh hf hG hfr hsz hmk Q hQ
  obtain ⟨cx,cy,rfl,hx,hy⟩ := cCode_seq hc
  refine wpIn_seq (x ro hro cx ntmps hx n0 φ T w ac hs hh (hf.left m2) hG hfr hsz hmk _ fun φ1 T1 w1 a1 hp hfr1 hsz1 hdf => ?_)
  exact y ro hro cy ntmps hy n0 φ1 T1 w1 a1 hp.sat hp.sub (hf.right hh hp) (by omega) hfr1 hsz1 hdf Q fun φ2 T2 w2 a2 hp2 hfr2 hsz2 hdf2 => hQ φ2 T2 w2 a2 (hp.trans hp2) hfr2 hsz2 hdf2

theorem seqStop_sound {a b : ACode} {σ : Fr} {h : AHeap} {n : Nat} {e : Ex} {σ' : Fr} {h' : AHeap} {n' : Nat} (x : SoundCode R P w0 a σ h n e σ' h' n') (he : e ≠ .normal) : SoundCode R P w0 (.seq a b) σ h n e σ' h' n' := by
  intro ro hro cc ntmps hc n0 φ T w ac hs hh hf hG hfr hsz hmk Q hQ
  obtain ⟨cx,cy,rfl,hx,hy⟩ := cCode_seq hc
  refine wpIn_seq (x ro hro cx ntmps hx n0 φ T w ac hs hh hf hG hfr hsz hmk _ fun φ1 T1 w1 a1 hp hfr1 hsz1 hdf => ?_)
  have := hQ φ1 T1 w1 a1 hp hfr1 hsz1 hdf
  rw [conv_then he]; exact this

theorem cond_sound {c : X} {a b : ACode} {σ : Fr} {h : AHeap} {n : Nat} {t : Bool} {e : Ex} {σ' : Fr} {h' : AHeap} {n' : Nat} (pc : X.ev σ h c = some (.bool t)) (x : SoundCode R P w0 (if t then a else b) σ h n e σ' h' n') :
    SoundCode R P w0 (.cond c a b) σ h n e σ' h' n' := by
  intro ro hro cc ntmps hc n0 φ T w ac hs hh hf hG hfr hsz hmk Q hQ
  obtain ⟨o,cx,cy,rfl,ho,hx,hy⟩ := cCode_cond hc
  have hr := hfr.rho hs hh o c _ ho pc
  have hev : ac.eval o = .bool t := hr.eq_of_scalar rfl
  refine wpIn_cond hev ?_
  refine x ro hro (if t then cx else cy) ntmps ?_ n0 φ T w ac hs hh hf hG hfr hsz hmk Q hQ
  cases t <;> assumption

theorem block_sound {id : Nat} {c : ACode} {σ : Fr} {h : AHeap} {n : Nat} {e : Ex} {σ' : Fr} {h' : AHeap} {n' : Nat} (x : SoundCode R P w0 c σ h n e σ' h' n') (he : e ≠ .exit id) : SoundCode R P w0 (.block id c) σ h n e σ' h' n' := by
  intro ro hro cc ntmps hc n0 φ T w ac hs hh hf hG hfr hsz hmk Q hQ
  obtain ⟨cx,rfl,_,hx⟩ := cCode_block hc
  refine wpIn_block (x ro hro cx ntmps hx n0 φ T w ac hs hh hf hG hfr hsz hmk _ fun φ1 T1 w1 a1 hp hfr1 hsz1 hdf => ?_)
  have := hQ φ1 T1 w1 a1 hp hfr1 hsz1 hdf
  cases e with
  | normal => exact this
  | ret => exact this
  | exit id' =>
    have hne : id' ≠ id := fun h => he (by rw [h])
    simp only [Ex.conv] at this ⊢
    split
    · rename_i hlt
      rw [if_pos hlt] at this
      simp only [Exit.inBlock,if_neg hne]
      exact this
    · rename_i hlt
      rw [if_neg hlt] at this
      exact this

theorem blockExit_sound {id : Nat} {c : ACode} {σ : Fr} {h : AHeap} {n : Nat} {σ' : Fr} {h' : AHeap} {n' : Nat} (x : SoundCode R P w0 c σ h n (.exit id) σ' h' n') : SoundCode R P w0 (.block id c) σ h n .normal σ' h' n' := by
  intro ro hro cc ntmps hc n0 φ T w ac hs hh hf hG hfr hsz hmk Q hQ
  obtain ⟨cx,rfl,hid,hx⟩ := cCode_block hc
  refine wpIn_block (x ro hro cx ntmps hx n0 φ T w ac hs hh hf hG hfr hsz hmk _ fun φ1 T1 w1 a1 hp hfr1 hsz1 hdf => ?_)
  have := hQ φ1 T1 w1 a1 hp hfr1 hsz1 hdf
  simp only [Ex.conv,if_pos hid,Exit.inBlock,if_true] at this ⊢
  exact this

theorem scope_sound {c : ACode} {σ : Fr} {h : AHeap} {n : Nat} {e : Ex} {σ' : Fr} {h' : AHeap} {n' : Nat} (x : SoundCode R P w0 c σ h n e σ' h' n') (pe : ∀ l,e ≠ .exit (gB + l)) : SoundCode R P w0 (.scope c) σ h n e σ' h' n' := by
  intro ro hro cc ntmps hc n0 φ T w ac hs hh hf hG hfr hsz hmk Q hQ
  obtain ⟨cx,rfl,hx⟩ := cCode_scope hc
  refine wpIn_scope (x ro hro cx ntmps hx n0 φ T w ac hs hh hf hG hfr hsz hmk _ fun φ1 T1 w1 a1 hp hfr1 hsz1 hdf => ?_)
  have := hQ φ1 T1 w1 a1 hp hfr1 hsz1 hdf
  have hcalm := conv_calm pe
  cases he : e.conv with
  | goto l => exact absurd he (hcalm l)
  | _ => rw [he] at this; exact this
theorem scopeJump_sound {c r : ACode} {l : Nat} {σ : Fr} {h : AHeap} {n : Nat} {σ1 : Fr} {h1 : AHeap} {n1 : Nat} {e : Ex} {σ' : Fr} {h' : AHeap} {n' : Nat} (m1 : n ≤ n1) (m2 : n1 ≤ n') (x : SoundCode R P w0 c σ h n (.exit (gB + l)) σ1 h1 n1) (pf : findLab c l = some r)
    (y : SoundCode R P w0 r σ1 h1 n1 e σ' h' n') (pe : ∀ l,e ≠ .exit (gB + l)) : SoundCode R P w0 (.scope c) σ h n e σ' h' n' := by
  intro ro hro cc ntmps hc n0 φ T w ac hs hh hf hG hfr hsz hmk Q hQ
  obtain ⟨cx,rfl,hx⟩ := cCode_scope hc
  refine wpIn_scope (x ro hro cx ntmps hx n0 φ T w ac hs hh (hf.left m2) hG hfr hsz hmk _ fun φ1 T1 w1 a1 hp hfr1 hsz1 hdf => ?_)
  rw [conv_goto]
  rcases find_rel l hx with ⟨h1,_⟩ | ⟨r',rest,h1,h2,h3⟩
  · rw [pf] at h1; cases h1
  · rw [pf] at h1
    cases h1
    refine ⟨rest,h2, ?_⟩
    refine y ro hro rest ntmps h3 n0 φ1 T1 w1 a1 hp.sat hp.sub (hf.right hh hp) (by omega) hfr1 hsz1 hdf _ fun φ2 T2 w2 a2 hp2 hfr2 hsz2 hdf2 => ?_
    have := hQ φ2 T2 w2 a2 (hp.trans hp2) hfr2 hsz2 hdf2
    have hcalm := conv_calm pe
    cases he : e.conv with
    | goto l => exact absurd he (hcalm l)
    | _ => rw [he] at this; exact this
end
end
end Go.Proofs.YtkdpjaaohddppaaGreatDoor.Am
namespace Go.Proofs.YtkdpjaaohddppaaGreatDoor.Am
noncomputable section
open Go.RowKit (Below)

section
variable {R : Option Nat → Prop} {P : Program} {w0 : World}

def SoundRounds (R : Option Nat → Prop) (P : Program) (w0 : World) (c : ACode) (σ : Fr) (h : AHeap) (n : Nat) (e : Ex) (σ' : Fr) (h' : AHeap) (n' : Nat) : Prop :=
  ∃ N : Nat,∀ (ro : Option Nat),R ro → ∀ (cc : Code) (ntmps : Nat),cCode P ntmps cc = some c → ∀ n0 φ T w a,Sat 4096 w0 φ T w → Sub h T → Fresh φ T n n' → 4096 ≤ n → FrameRel φ σ a → a.tmps.size = ntmps → n0 ≤ n ∧ Mk T h n0 n a.defers →
    ∀ (Q : Exit → Act → World → Prop),(∀ φ' T' w' a',Post 4096 w0 φ T h n φ' T' w' h' n' → FrameRel φ' σ' a' → a'.tmps.size = ntmps → n0 ≤ n' ∧ Mk T' h' n0 n' a'.defers → Q e.conv a' w') → Code.roundsIn (FW ro) 0 P cc Q N a w

theorem rounds_loop {c : ACode} {σ : Fr} {h : AHeap} {n : Nat} {e : Ex} {σ' : Fr} {h' : AHeap} {n' : Nat} (x : SoundRounds R P w0 c σ h n e σ' h' n') : SoundCode R P w0 (.loop c) σ h n e σ' h' n' := by
  intro ro hro cc ntmps hc n0 φ T w ac hs hh hf hG hfr hsz hmk Q hQ
  obtain ⟨cx,rfl,hx⟩ := cCode_loop hc
  obtain ⟨N,hN⟩ := x
  exact wpIn_loop_rounds N (hN ro hro cx ntmps hx n0 φ T w ac hs hh hf hG hfr hsz hmk Q hQ)

theorem rounds_more {c : ACode} {σ : Fr} {h : AHeap} {n : Nat} {σ1 : Fr} {h1 : AHeap} {n1 : Nat} {e : Ex} {σ' : Fr} {h' : AHeap} {n' : Nat} (m1 : n ≤ n1) (m2 : n1 ≤ n') (x : SoundCode R P w0 c σ h n .normal σ1 h1 n1)
    (y : SoundRounds R P w0 c σ1 h1 n1 e σ' h' n') : SoundRounds R P w0 c σ h n e σ' h' n' := by
  obtain ⟨N,hN⟩ := y
  refine ⟨N + 1,fun ro hro cc ntmps hc n0 φ T w ac hs hh hf hG hfr hsz hmk Q hQ => ?_⟩
  refine x ro hro cc ntmps hc n0 φ T w ac hs hh (hf.left m2) hG hfr hsz hmk _ fun φ1 T1 w1 a1 hp hfr1 hsz1 hdf => ?_
  exact hN ro hro cc ntmps hc n0 φ1 T1 w1 a1 hp.sat hp.sub (hf.right hh hp) (by omega) hfr1 hsz1 hdf Q fun φ2 T2 w2 a2 hp2 hfr2 hsz2 hdf2 => hQ φ2 T2 w2 a2 (hp.trans hp2) hfr2 hsz2 hdf2

theorem rounds_stop {c : ACode} {σ : Fr} {h : AHeap} {n : Nat} {e : Ex} {σ' : Fr} {h' : AHeap} {n' : Nat} (x : SoundCode R P w0 c σ h n e σ' h' n') (he : e ≠ .normal) : SoundRounds R P w0 c σ h n e σ' h' n' := by
  refine ⟨1,fun ro hro cc ntmps hc n0 φ T w ac hs hh hf hG hfr hsz hmk Q hQ => ?_⟩
  refine x ro hro cc ntmps hc n0 φ T w ac hs hh hf hG hfr hsz hmk _ fun φ1 T1 w1 a1 hp hfr1 hsz1 hdf => ?_
  have := hQ φ1 T1 w1 a1 hp hfr1 hsz1 hdf
  rw [conv_then he]; exact this

theorem evRes_sound {φ : Phi} {T : TH} {w : World} {h : AHeap} {σ : Fr} {a : Act} (hs : Sat 4096 w0 φ T w) (hh : Sub h T) (hfr : FrameRel φ σ a) : ∀ (rs : List ResultVar) (as : List ARes) (vs : List Value),cRes P rs = some as → evRes σ h as = some vs →
    ∃ us,(rs.mapM fun | .tmp t => Pure.pure (a.tmps.getD t undef) | .cell ad t => do loadVar t (← asAddr (a.tmps.getD ad undef)) : Sem (List Value)).run P w = .ok us w ∧ VRels φ vs us
  | [],as,vs,hc,he => by simp [cRes] at hc; subst hc; simp [evRes] at he; subst he; exact ⟨[],by simp, .nil⟩
  | .tmp t :: rs,as,vs,hc,he => by
    simp only [cRes] at hc
    obtain ⟨r,hr,rfl⟩ := optmap hc
    simp only [evRes] at he
    split at he
    · rename_i v vs' hv hvs
      simp at he
      subst he
      obtain ⟨us,h1,h2⟩ := evRes_sound hs hh hfr rs r vs' hr hvs
      obtain ⟨u,hu,hru⟩ := hfr t v hv
      refine ⟨u :: us, ?_, .cons hru h2⟩
      simp only [List.mapM_cons,Sem.run_bind,Sem.run_pure,Result.andThen_ok,h1]
      simp [hu]
    · simp at he
  | .cell t ty :: rs,as,vs,hc,he => by
    simp only [cRes] at hc
    split at hc
    · rename_i m r hm hr
      simp at hc
      subst hc
      simp only [evRes] at he
      split at he
      · rename_i v x1 x2 vs' hv hvs
        simp at he
        subst he
        obtain ⟨us,h1,h2⟩ := evRes_sound hs hh hfr rs r vs' hr hvs
        simp only [aev] at hv
        split at hv
        · rename_i i o g ht
          obtain ⟨u,hu,hru⟩ := hfr t _ ht
          have hload : ∃ u',(Instr.loadAt ty u).run P w = .ok u' w ∧ VRel φ v u' := by
            cases m with
            | none =>
              simp only at hv
              split at hv
              · rename_i v' hread
                simp only [Option.some.injEq,Prod.mk.injEq] at hv
                obtain ⟨rfl,_,_⟩ := hv
                exact load_does (P := P) hs hh hm hru rfl (v := v') (by simp only [hread])
              · simp at hv
            | some m =>
              simp only at hv
              obtain ⟨vs0,hread,he0⟩ := optmap hv
              simp only [Prod.mk.injEq] at he0
              obtain ⟨rfl,_,_⟩ := he0
              exact load_does (P := P) hs hh hm hru rfl (v := .agg vs0.toArray) (by simp only [hread,Option.map_some])
          obtain ⟨u',h3,h4⟩ := hload
          refine ⟨u' :: us, ?_, .cons h4 h2⟩
          obtain ⟨ad,rfl⟩ : ∃ ad,u = .pointer (some ad) := by cases hru; exact ⟨_,rfl⟩
          have hu2 : a.tmps.getD t undef = .pointer (some ad) := by simp [hu]
          simp only [Instr.loadAt,Instr.sureAddr,Sem.run_bind,Sem.run_pure,Result.andThen_ok] at h3
          have has : (asAddr (.pointer (some ad)) : Sem Addr) = Pure.pure ad := rfl
          simp only [List.mapM_cons,Sem.run_bind,hu2,has,Sem.run_pure,Result.andThen_ok,h3,h1]
        · simp at hv
      · simp at he
    · simp at hc

theorem argFr_get : ∀ (vs : List Value) (i t : Nat),(argFr i vs).get t = if i ≤ t then vs[t - i]? else none
  | [],i,t => by simp [argFr,Fr.get_nil]
  | v :: vs,i,t => by
    simp only [argFr,Fr.get_cons]
    split
    · rename_i h; subst h; simp
    · rename_i h
      rw [argFr_get vs (i + 1) t]
      by_cases hit : i ≤ t
      · rw [if_pos (by omega),if_pos hit]
        obtain ⟨k,hk⟩ : ∃ k,t - i = k + 1 := ⟨t - i - 1,by omega⟩
        rw [hk,show t - (i + 1) = k from by omega]
        simp
      · rw [if_neg (by omega),if_neg hit]

theorem call_sound (hR : R none) {fn : Func} {f : Nat} (hfn : P.funcs[f]? = some fn) (hname : (fn.name == "runtime.NumGoroutine") = false) {af : AFunc} (hc : cFunc P fn = some af) {args : List Value} {h : AHeap} {n : Nat} {e : Ex} {σ' : Fr} {h1 : AHeap}
    {n' : Nat} {vs : List Value} {h' : AHeap} (hargs : args.length ≤ af.ntmps) (x : SoundCode R P w0 af.body (argFr 0 args) h n e σ' h1 n') (pe : e = .normal ∨ e = .ret) (pr : evRes σ' h1 af.results = some vs) (ph : HSub h' h1) :
    SoundCall P w0 f args h n (resVal vs) h' n' := by
  intro φ T w cargs hs hh hf hG hra
  unfold cFunc at hc
  split at hc
  · simp at hc
  · rename_i c hbody
    split at hc
    · rename_i b r hb hr
      simp at hc
      subst hc
      intro o a K Q hK
      have hrun : (callFunc f cargs.toArray).run P w = .ok (.enter f cargs.toArray) w := by
        simp only [callFunc, Sem.run_bind, run_program, Result.andThen_ok, hfn, hname, hbody, Bool.false_eq_true, if_false, Option.isNone_some, Sem.run_pure]
      rw [hrun]
      simp only [Oper.upon]
      have hlen := hra.length
      refine (callsIn_wide (n := 0)).1 (callsIn_of_wp_marks hfn hbody trivial ?_)
      refine x none hR c fn.ntmps hb n φ T w _ hs hh hf hG (fun t v hv => ?_) ?_ ⟨Nat.le_refl _, .nil _ _ _ _⟩ _ fun φ' T' w' a' hp hfr' hsz' hmk => ?_
      · rw [argFr_get] at hv
        simp only [Nat.zero_le, if_true, Nat.sub_zero] at hv
        obtain ⟨u, hu, hru⟩ := hra.get hv
        refine ⟨u, ?_, hru⟩
        have hlt := (List.getElem?_eq_some_iff.1 hu).1
        rw [Array.getElem?_append_left (by simpa using hlt)]
        simpa using hu
      · simp only [Array.size_append, List.size_toArray, Array.size_replicate]
        simp only at hargs
        omega
      · have leave : ∀ (l : List (Nat × Nat)) (T1 : TH) (w1 : World), Post 4096 w0 φ T h n φ' T1 w1 h1 n' → MkL T1 h1 n n' l →
            LeavesInM Fence.wide 0 P fn a'.tmps (fun
              | .returned v, w'' => K (a.put o.dst v) w''
              | .panicked chain, w'' => Q (.panic chain) a w''
              | .outgrown, _ => LetsOut Q) (l.map markD) .returning w1 := by
          intro l
          induction l with
          | nil =>
            intro T1 w1 hp1 _
            obtain ⟨us, h2, h3⟩ := evRes_sound (P := P) hp1.sat hp1.sub hfr' fn.results.toList r vs hr pr
            have hres : ∃ cv, (results fn a'.tmps).run P w1 = .ok cv w1 ∧ VRel φ' (resVal vs) cv := by
              have hm : (fn.results.mapM fun | .tmp t => Pure.pure (a'.tmps.getD t undef) | .cell ad t => do loadVar t (← asAddr (a'.tmps.getD ad undef)) : Sem (Array Value)).run P w1 = .ok us.toArray w1 := by
                rw [Array.mapM_eq_mapM_toList]
                simp only [Sem.run_map, h2, Result.andThen_ok]
              unfold results
              simp only [Sem.run_bind, Sem.run_pure]
              refine ⟨_, congrArg (fun r => Result.andThen r fun vs w' => Result.ok (if h : vs.size = 1 then vs[0] else Value.tuple vs) w') hm, ?_⟩
              cases h3 with
              | nil => exact VRels.tuple .nil
              | cons hx ht =>
                cases ht with
                | nil => exact hx
                | cons hy ht => exact VRels.tuple (.cons hx (.cons hy ht))
            obtain ⟨cv, h4, h5⟩ := hres
            exact ⟨cv, h4, hK cv w1 ⟨φ', T1, h5, hp1.sub' ph⟩⟩
          | cons p l ih =>
            intro T1 w1 hp1 hm
            obtain ⟨hnd, hall⟩ := hm
            simp only [List.map_cons, List.nodup_cons] at hnd
            obtain ⟨m1, m2, m3, m4⟩ := hall p (.head _)
            obtain ⟨lc, hlc, _, _, hlb, hrow, _, _⟩ := hp1.sat.blk p.1 _ m1
            refine ⟨by simp, .inl ⟨p.2, w1.putObj p.2 (.deferred none), rfl, run_takeDeferred hrow, ?_⟩⟩
            refine ih (T1.put p.1 (.obj p.2 (.deferred none) [])) _ ⟨hp1.sat.objTurn (o := .deferred (some [])) (o' := .deferred none) rfl rfl m1, hp1.le, fun i b hb => ?_, fun i h1' h2' => ?_, hp1.fresh, hp1.mono, hp1.dom⟩ ⟨hnd.2, fun q hq => ?_⟩
            · rw [TH.put_ne _ _ (fun e => by subst e; rw [m2] at hb; cases hb)]; exact hp1.sub i b hb
            · rw [TH.put_ne _ _ (fun e => by subst e; exact h2' ⟨m3, m4⟩)]; exact hp1.frame i h1' h2'
            · obtain ⟨q1, q2, q3, q4⟩ := hall q (.tail _ hq)
              refine ⟨?_, q2, q3, q4⟩
              rw [TH.put_ne _ _ (fun e => hnd.1 (by rw [e]; exact List.mem_map_of_mem hq))]; exact q1
        obtain ⟨l, hl, hmk2⟩ := hmk.2
        rcases pe with rfl | rfl
        · show LeavesInM _ _ _ _ _ _ a'.defers _ _
          rw [hl]; exact leave l T' w' hp hmk2
        · show LeavesInM _ _ _ _ _ _ a'.defers _ _
          rw [hl]; exact leave l T' w' hp hmk2
    · simp at hc

theorem frame_sound {f : Nat} {args : List Value} {h0 h : AHeap} {n : Nat} {v : Value} {h0' h' : AHeap} {n' : Nat} (x : SoundCall P w0 f args h0 n v h0' n') (ps : HSub h0 h) (pf : Framed h h0 n h0' n' h') : SoundCall P w0 f args h n v h' n' := by
  intro φ T w cargs hs hh hf hG hra o a K Q hK
  refine x φ T w cargs hs (fun i b hb => hh i b (ps i b hb)) hf hG hra o a K Q fun u w' ⟨φ',T',h1,h2⟩ => hK u w' ⟨φ',T',h1,h2.framed hh ps pf⟩

theorem lift_sound {f : Nat} {args : List Value} {h : AHeap} {n : Nat} {v : Value} {h' : AHeap} {n1 n' : Nat} (x : SoundCall P w0 f args h n v h' n1) (pm : n1 ≤ n') : SoundCall P w0 f args h n v h' n' := by
  intro φ T w cargs hs hh hf hG hra o a K Q hK
  refine x φ T w cargs hs hh (hf.left pm) hG hra o a K Q fun u w' ⟨φ',T',h1,h2⟩ => hK u w' ⟨φ',T',h1,h2.lift pm⟩

theorem early_sound {f : Nat} {args : List Value} {h : AHeap} {n n0 : Nat} {v : Value} {h' : AHeap} {n' : Nat} (x : SoundCall P w0 f args h n0 v h' n') (pm : n ≤ n0) : SoundCall P w0 f args h n v h' n' := by
  intro φ T w cargs hs hh hf hG hra o a K Q hK
  refine x φ T w cargs hs hh (fun i h1 h2 => hf i (by omega) h2) (by omega) hra o a K Q fun u w' ⟨φ',T',h1,h2⟩ => hK u w' ⟨φ',T',h1,h2.early pm⟩

def Sound (R : Option Nat → Prop) (P : Program) (w0 : World) : J → Prop
  | .op o σ h n r h' n' => SoundOp P w0 o σ h n r h' n'
  | .ops l σ h n σ' h' n' => SoundOps P w0 l σ h n σ' h' n'
  | .draw l σ h n recs σ' h' n' => SoundDraw P w0 l σ h n recs σ' h' n'
  | .code c σ h n e σ' h' n' => SoundCode R P w0 c σ h n e σ' h' n' ∧ ∀ b,c = .loop b → SoundRounds R P w0 b σ h n e σ' h' n'
  | .call f args h n v h' n' => SoundCall P w0 f args h n v h' n'

structure EnvOkR (R : Option Nat → Prop) (P : Program) (w0 : World) (E : Env) : Prop where
  mixed : P.follows .mixedOrders = true
  fs : ∀ f af, E.fs f = some af → ∃ fn, P.funcs[f]? = some fn ∧ (fn.name == "runtime.NumGoroutine") = false ∧ cFunc P fn = some af
  orc : ∀ f args h n v h' n', E.orc f args h n v h' n' → SoundCall P w0 f args h n v h' n'
  yl : ∀ l args h n v h' n', E.yl l args h n v h' n' → SoundYield P w0 l args h n v h' n'
  xc : ∀ c σ h n e σ' h' n', E.xc c σ h n e σ' h' n' → (∀ b, c ≠ .loop b) ∧ SoundCode R P w0 c σ h n e σ' h' n'

def anyRo : Option Nat → Prop := fun _ => True
abbrev EnvOk (P : Program) (w0 : World) (E : Env) : Prop := EnvOkR anyRo P w0 E

theorem Big.sound {E : Env} (hR : R none) (hE : EnvOkR R P w0 E) {j : J} (h : Big E j) : Sound R P w0 j := by
  induction h with
  | prim pg pa _ => exact prim_sound pg pa
  | skip pg pd => exact skip_sound pg pd
  | skipOff pg pd => exact skipOff_sound pg pd
  | opCall pg po pf px _ ih => exact opCall_sound pg po pf px ih
  | opYield pg po pf px py pm => exact opYield_sound pg po pf px (hE.yl _ _ _ _ _ _ _ py)
  | ext px pm =>
    obtain ⟨h1,h2⟩ := hE.xc _ _ _ _ _ _ _ _ px
    exact ⟨h2,fun b hb => absurd hb (h1 b)⟩
  | opMovAny pg po => exact movAny_sound pg po
  | opsNan g1 g2 e1 p1 p2 hp hq pa pb pc hc _ ih => exact opsNan_sound g1 g2 e1 p1 p2 hp hq pa pb pc hc ih
  | opsNil => exact opsNil_sound
  | opsCons p1 p2 ih1 ih2 => exact opsCons_sound p1.le p2.le ih1 ih2
  | drawNil => exact drawNil_sound
  | drawCons p1 ps pok p2 ih1 ih2 => exact drawCons_sound p1.le p2.le ih1 ps pok ih2
  | cskip =>
    refine ⟨fun ro hro cc ntmps hc n0 φ T w a hs hh hf hG hfr hsz hmk Q hQ => ?_,fun b hb => by cases hb⟩
    obtain rfl := cCode_skip hc
    exact wpIn_skip (hQ φ T w a (.refl hs hh) hfr hsz hmk)
  | region p1 ih => exact ⟨region_sound ih,fun b hb => by cases hb⟩
  | regionDraw p1 pp ih => exact ⟨regionDraw_sound hE.mixed ih p1.le pp,fun b hb => by cases hb⟩
  | seq x y ih1 ih2 => exact ⟨seq_sound x.le y.le ih1.1 ih2.1,fun b hb => by cases hb⟩
  | seqStop x he ih => exact ⟨seqStop_sound ih.1 he,fun b hb => by cases hb⟩
  | cond pc x ih => exact ⟨cond_sound pc ih.1,fun b hb => by cases hb⟩
  | block x pe ih => exact ⟨block_sound ih.1 pe,fun b hb => by cases hb⟩
  | blockExit x ih => exact ⟨blockExit_sound ih.1,fun b hb => by cases hb⟩
  | loop x y ih1 ih2 =>
    have hr := rounds_more x.le y.le ih1.1 (ih2.2 _ rfl)
    exact ⟨rounds_loop hr,fun b hb => by cases hb; exact hr⟩
  | loopStop x pe ih =>
    have hr := rounds_stop ih.1 pe
    exact ⟨rounds_loop hr,fun b hb => by cases hb; exact hr⟩
  | exit =>
    refine ⟨fun ro hro cc ntmps hc n0 φ T w a hs hh hf hG hfr hsz hmk Q hQ => ?_,fun b hb => by cases hb⟩
    have hq := hQ φ T w a (.refl hs hh) hfr hsz hmk
    rcases cCode_exit hc with ⟨rfl,hlt⟩ | ⟨l,rfl,rfl⟩
    · simp only [Ex.conv] at hq
      rw [if_pos hlt] at hq
      exact wpIn_exit hq
    · rw [conv_goto] at hq
      exact wpIn_goto hq
  | label =>
    refine ⟨fun ro hro cc ntmps hc n0 φ T w a hs hh hf hG hfr hsz hmk Q hQ => ?_,fun b hb => by cases hb⟩
    obtain rfl := cCode_label hc
    exact wpIn_label (hQ φ T w a (.refl hs hh) hfr hsz hmk)
  | scope x pe ih => exact ⟨scope_sound ih.1 pe,fun b hb => by cases hb⟩
  | scopeJump x pf y pe ih1 ih2 => exact ⟨scopeJump_sound x.le y.le ih1.1 pf ih2.1 pe,fun b hb => by cases hb⟩
  | ret =>
    refine ⟨fun ro hro cc ntmps hc n0 φ T w a hs hh hf hG hfr hsz hmk Q hQ => ?_,fun b hb => by cases hb⟩
    obtain rfl := cCode_ret hc
    exact wpIn_ret (hQ φ T w a (.refl hs hh) hfr hsz hmk)
  | weak x pσ ph ih =>
    refine ⟨fun ro hro cc ntmps hc n0 φ T w a hs hh hf hG hfr hsz hmk Q hQ => ih.1 ro hro cc ntmps hc n0 φ T w a hs hh hf hG hfr hsz hmk Q fun φ' T' w' a' hp hfr' hsz' hdf => hQ φ' T' w' a' (hp.sub' ph) (fun t v hv => hfr' t v (pσ t v hv)) hsz' ⟨hdf.1,hdf.2.sub ph⟩,fun b hb => ?_⟩
    obtain ⟨N,hN⟩ := ih.2 b hb
    exact ⟨N,fun ro hro cc ntmps hc n0 φ T w a hs hh hf hG hfr hsz hmk Q hQ => hN ro hro cc ntmps hc n0 φ T w a hs hh hf hG hfr hsz hmk Q fun φ' T' w' a' hp hfr' hsz' hdf => hQ φ' T' w' a' (hp.sub' ph) (fun t v hv => hfr' t v (pσ t v hv)) hsz' ⟨hdf.1,hdf.2.sub ph⟩⟩
  | start x pσ ph ih =>
    refine ⟨fun ro hro cc ntmps hc n0 φ T w a hs hh hf hG hfr hsz hmk Q hQ => ih.1 ro hro cc ntmps hc n0 φ T w a hs (fun i b hb => hh i b (ph i b hb)) hf hG (fun t v hv => hfr t v (pσ t v hv)) hsz ⟨hmk.1,hmk.2.sub ph⟩ Q fun φ' T' w' a' hp hfr' hsz' hdf => hQ φ' T' w' a' (hp.start ph) hfr' hsz' hdf,fun b hb => ?_⟩
    obtain ⟨N,hN⟩ := ih.2 b hb
    exact ⟨N,fun ro hro cc ntmps hc n0 φ T w a hs hh hf hG hfr hsz hmk Q hQ => hN ro hro cc ntmps hc n0 φ T w a hs (fun i b hb => hh i b (ph i b hb)) hf hG (fun t v hv => hfr t v (pσ t v hv)) hsz ⟨hmk.1,hmk.2.sub ph⟩ Q fun φ' T' w' a' hp hfr' hsz' hdf => hQ φ' T' w' a' (hp.start ph) hfr' hsz' hdf⟩
  | call pf pargs x pe pr ph ih =>
    obtain ⟨fn,h1,h2,h3⟩ := hE.fs _ _ pf
    exact call_sound hR h1 h2 h3 pargs ih.1 pe pr ph
  | frame x ps pf ih => exact frame_sound ih ps pf
  | early x pm ih => exact early_sound ih pm
  | lift x pm ih => exact lift_sound ih pm
  | orc po _ => exact hE.orc _ _ _ _ _ _ _ po

end
end
end Go.Proofs.YtkdpjaaohddppaaGreatDoor.Am
