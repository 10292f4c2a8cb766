/- The soundness of code and calls of the abstract machine, part C2: every derivation of the abstract machine is a run of the model. -/
import Derived.Test.YtkaibjdogeikbaaDoorC1
namespace Go.Proofs.YtkaibjdogeikbaaDoor.Am
noncomputable section
open Go.RowKit (Below)

def J.mono : J → Prop
  | .op _ _ _ n _ _ n' | .ops _ _ _ n _ _ n' | .draw _ _ _ n _ _ _ n' | .code _ _ _ n _ _ _ n' | .call _ _ _ n _ _ n' => n ≤ n'

theorem Big.le {E : Env} {j : J} (h : Big E j) : j.mono := by
  induction h <;> simp only [J.mono] at * <;> first | omega | assumption

def FrameRel (φ : Phi) (σ : Fr) (a : Act) : Prop := ∀ t v, σ.get t = some v → ∃ u, a.tmps[t]? = some u ∧ VRel φ v u

section
variable {P : Program} {w0 : World} {φ : Phi} {T : TH} {w : World} {h : AHeap} {n : Nat} {σ : Fr} {a : Act}

theorem FrameRel.mono {ψ : Phi} (hf : FrameRel φ σ a) (hle : Phi.Le φ ψ) : FrameRel ψ σ a := fun t v hv => by
  obtain ⟨u, hu, hr⟩ := hf t v hv
  exact ⟨u, hu, hr.mono hle⟩

theorem FrameRel.rho (hs : Sat 4096 w0 φ T w) (hh : Sub h T) (hf : FrameRel φ σ a) : RhoRel φ σ h a.eval := by
  intro x x' v hx hv
  cases x with
  | tmp t =>
    simp [cX] at hx; subst hx
    simp only [X.ev] at hv
    obtain ⟨u, hu, hr⟩ := hf t v hv
    simpa [Act.eval, hu] using hr
  | const c =>
    simp only [cX] at hx
    split at hx
    · rename_i hc
      simp at hx; subst hx
      simp only [X.ev, Option.some.injEq] at hv
      subst hv
      exact .of_flat hc
    · simp at hx
  | global g =>
    simp only [cX] at hx
    split at hx
    · rename_i hg
      simp at hx; subst hx
      simp only [X.ev] at hv
      split at hv
      · rename_i own cs min hget
        simp at hv; subst hv
        obtain ⟨⟨l, hl⟩, _⟩ := hs.blk g _ (hh g _ hget)
        obtain ⟨h1, h2, _⟩ := hs.glob g _ l hl hg
        have := VRel.ptr (φ := φ) g 0 cs.length l hl
        rw [h1, h2] at this
        exact this
      · simp at hv
    · simp at hx
  | func f =>
    simp [cX] at hx; subst hx
    simp only [X.ev, Option.some.injEq] at hv
    subst hv
    exact VRels.func .nil .nil

theorem tmps_put {d : Option Tmp} {u : Value} {t : Nat} : (a.put d u).tmps[t]? = if d = some t ∧ t < a.tmps.size then some u else a.tmps[t]? := by
  cases d with
  | none => simp [Act.put]
  | some d =>
    simp only [Act.put, Array.getElem?_setIfInBounds, Option.some.injEq]
    split
    · rename_i h; subst h
      split
      · rename_i h2; simp [h2]
      · rename_i h2; simp [h2]
    · rename_i h; simp [h]

theorem put_size {d : Option Tmp} {u : Value} : (a.put d u).tmps.size = a.tmps.size := by
  cases d <;> simp [Act.put]
theorem put_defers {d : Option Tmp} {u : Value} : (a.put d u).defers = a.defers := by
  cases d <;> rfl

theorem FrameRel.put (hf : FrameRel φ σ a) {d : Option Nat} (hd : ∀ k, d = some k → k < a.tmps.size) {r : Option Value} {u : Value} (hr : ∀ v, r = some v → VRel φ v u) : FrameRel φ (setDst σ d r) (a.put d u) := by
  intro t v hv
  rw [tmps_put]
  cases d with
  | none =>
    simp only [setDst] at hv
    simpa using hf t v hv
  | some d =>
    simp only [setDst] at hv
    cases r with
    | none =>
      simp only at hv
      by_cases e : d = t
      · subst e; rw [Fr.get_del_same] at hv; cases hv
      · rw [Fr.get_del_ne _ e] at hv
        simpa [e] using hf t v hv
    | some r =>
      simp only at hv
      rw [Fr.get_put] at hv
      split at hv
      · rename_i e; subst e
        obtain rfl := Option.some.inj hv
        exact ⟨u, by rw [if_pos ⟨rfl, hd _ rfl⟩], hr _ rfl⟩
      · rename_i e
        simpa [e] using hf t v hv

/-- A call of a function, by its number. -/
def Invokes (P : Program) (f : FuncId) (args : Array Value) (w : World) (R : Value → World → Prop) : Prop :=
  ∀ (o : Oper) (a : Act) (K : Act → World → Prop) (Q : Exit → Act → World → Prop), (∀ u w', R u w' → K (a.put o.dst u) w') → o.upon P a K Q ((callFunc f args).run P w)

def SoundCall (P : Program) (w0 : World) (f : Nat) (args : List Value) (h : AHeap) (n : Nat) (v : Value) (h' : AHeap) (n' : Nat) : Prop :=
  ∀ φ T w cargs, Sat 4096 w0 φ T w → Sub h T → Fresh φ T n n' → 4096 ≤ n → VRels φ args cargs →
    Invokes P f cargs.toArray w fun u w' => ∃ φ' T', VRel φ' v u ∧ Post 4096 w0 φ T h n φ' T' w' h' n'

def SoundOp (P : Program) (w0 : World) (o : AOper) (σ : Fr) (h : AHeap) (n : Nat) (r : Option Value) (h' : AHeap) (n' : Nat) : Prop :=
  ∀ (co : Oper) (cops : Array Oper) (ntmps : Nat) (draw : Bool), cOper P ntmps draw cops co = some o →
    ∀ φ T w a, Sat 4096 w0 φ T w → Sub h T → Fresh φ T n n' → 4096 ≤ n → FrameRel φ σ a → ∀ (K : Act → World → Prop) (Q : Exit → Act → World → Prop),
      (∀ φ' T' w' u, Post 4096 w0 φ T h n φ' T' w' h' n' → (∀ v, r = some v → VRel φ' v u) → K (a.put co.dst u) w') →
      if Region.wanted co (yielded cops a.tmps) then co.wp P a w K Q else K (a.put co.dst undef) w

theorem cOper_spec {ntmps : Nat} {draw : Bool} {cops : Array Oper} {co : Oper} {o : AOper} (h : cOper P ntmps draw cops co = some o) :
    cOp P co.op = some o.op ∧ o.dst = co.dst ∧ (∀ d, co.dst = some d → d < ntmps) ∧ o.deps = (if draw then cDeps co.after.toList else []) ∧
    ((co.guard = none ∧ o.guard = none) ∨ ∃ j b d, co.guard = some (j, b) ∧ (cops[j]?).bind (·.dst) = some d ∧ o.guard = some (d, b)) := by
  unfold cOper at h
  split at h
  · rename_i op g hop hg
    split at h
    · rename_i hd
      simp at h; subst h
      refine ⟨hop, rfl, fun d he => by rw [he] at hd; simpa [dstOk] using hd, rfl, ?_⟩
      split at hg
      · rename_i hn; simp at hg; subst hg; exact .inl ⟨hn, rfl⟩
      · rename_i j b hn
        split at hg
        · rename_i d hd'; simp at hg; subst hg; exact .inr ⟨j, b, d, hn, hd', rfl⟩
        · simp at hg
    · simp at h
  · simp at h

theorem wanted_of {ntmps : Nat} {draw : Bool} {cops : Array Oper} {co : Oper} {o : AOper} (h : cOper P ntmps draw cops co = some o) (hf : FrameRel φ σ a) (hg : ∀ d b, o.guard = some (d, b) → σ.get d = some (.bool b)) :
    Region.wanted co (yielded cops a.tmps) = true := by
  obtain ⟨_, _, _, _, h⟩ := cOper_spec h
  rcases h with ⟨h1, _⟩ | ⟨j, b, d, h1, h2, h3⟩
  · simp [Region.wanted, h1]
  · obtain ⟨u, hu, hr⟩ := hf d _ (hg d b h3)
    cases hr
    simp [Region.wanted, h1, yielded, h2, hu]

theorem unwanted_of {ntmps : Nat} {draw : Bool} {cops : Array Oper} {co : Oper} {o : AOper} (h : cOper P ntmps draw cops co = some o) (hf : FrameRel φ σ a) {d : Nat} {b : Bool} (hg : o.guard = some (d, b)) (hd : σ.get d = some (.bool (!b))) :
    Region.wanted co (yielded cops a.tmps) = false := by
  obtain ⟨_, _, _, _, h⟩ := cOper_spec h
  rcases h with ⟨_, h1⟩ | ⟨j, b', d', h1, h2, h3⟩
  · rw [h1] at hg; cases hg
  · rw [h3] at hg
    obtain ⟨rfl, rfl⟩ := by simpa using hg
    obtain ⟨u, hu, hr⟩ := hf _ _ hd
    cases hr
    simp [Region.wanted, h1, yielded, h2, hu]

theorem unwanted_off {ntmps : Nat} {draw : Bool} {cops : Array Oper} {co : Oper} {o : AOper} (h : cOper P ntmps draw cops co = some o) (hf : FrameRel φ σ a) {d : Nat} {b : Bool} (hg : o.guard = some (d, b)) (hd : σ.get d = some undef) :
    Region.wanted co (yielded cops a.tmps) = false := by
  obtain ⟨_, _, _, _, h⟩ := cOper_spec h
  rcases h with ⟨_, h1⟩ | ⟨j, b', d', h1, h2, h3⟩
  · rw [h1] at hg; cases hg
  · rw [h3] at hg
    obtain ⟨rfl, rfl⟩ := by simpa using hg
    obtain ⟨u, hu, hr⟩ := hf _ _ hd
    cases hr
    simp [Region.wanted, h1, yielded, h2, hu]

theorem prim_sound {o : AOper} {v : Value} {h' : AHeap} {n' : Nat} (pg : ∀ d b, o.guard = some (d, b) → σ.get d = some (.bool b)) (pa : aev (X.ev σ h) h n o.op = some (v, h', n')) :
    SoundOp P w0 o σ h n (some v) h' n' := by
  intro co cops ntmps draw hc φ T w a hs hh hf hG hfr K Q hK
  rw [if_pos (wanted_of hc hfr pg)]
  obtain ⟨hop, _⟩ := cOper_spec hc
  obtain ⟨nx, u, φ', T', w', h1, h2, h3, h4⟩ := cOp_sound (P := P) hs hh hG (hfr.rho hs hh) hop pa hf
  unfold Oper.wp
  rw [h1]
  have hk := hK φ' T' w' u h4 (fun v' hv' => by obtain rfl := Option.some.inj hv'; exact h3)
  cases nx <;> simp only [ores] at h2 <;> (try (simp at h2; done)) <;> (obtain rfl := Option.some.inj h2) <;> exact hk

theorem skip_sound {o : AOper} {d : Nat} {b : Bool} (pg : o.guard = some (d, b)) (pd : σ.get d = some (.bool (!b))) : SoundOp P w0 o σ h n (some undef) h n := by
  intro co cops ntmps draw hc φ T w a hs hh hf hG hfr K Q hK
  rw [if_neg (by rw [unwanted_of hc hfr pg pd]; simp)]
  exact hK φ T w undef (.refl hs hh) (fun v hv => by cases hv; exact VRels.tuple .nil)
theorem skipOff_sound {o : AOper} {d : Nat} {b : Bool} (pg : o.guard = some (d, b)) (pd : σ.get d = some undef) : SoundOp P w0 o σ h n (some undef) h n := by
  intro co cops ntmps draw hc φ T w a hs hh hf hG hfr K Q hK
  rw [if_neg (by rw [unwanted_off hc hfr pg pd]; simp)]
  exact hK φ T w undef (.refl hs hh) (fun v hv => by cases hv; exact VRels.tuple .nil)

theorem cBuiltin_not {b : Builtin} {ts : Array TypeId} {xs : List X} {f : X} {ys : List X} (h : cBuiltin P b ts xs = some (.call f ys)) : False := by
  unfold cBuiltin at h
  repeat' split at h
  all_goals simp at h
theorem cBin_not {op : BinOp} {t : TypeId} {x y : Operand} {f : X} {ys : List X} (h : cBin P op t x y = some (.call f ys)) : False := by
  unfold cBin at h
  repeat' split at h
  all_goals simp at h
theorem cConv_not {s d : TypeId} {x : X} {f : X} {ys : List X} (h : cConv P s d x = some (.call f ys)) : False := by
  unfold cConv at h
  repeat' split at h
  all_goals simp at h

theorem cOp_call {op : Op} {f : X} {xs : List X} (h : cOp P op = some (.call f xs)) : ∃ c fo, op = .call c ∧ c.callee = .value fo ∧ cX fo = some f ∧ cXs c.args.toList = some xs := by
  cases op
  case call c =>
    simp only [cOp] at h
    split at h
    · exact (cBuiltin_not h).elim
    · rename_i fo ys hfo hx
      obtain ⟨f', hf', he⟩ := optmap h
      simp at he
      obtain ⟨rfl, rfl⟩ := he
      exact ⟨c, fo, rfl, hfo, hf', hx⟩
    · simp at h
  case binOp => simp only [cOp] at h; exact (cBin_not h).elim
  case convert =>
    simp only [cOp, Option.bind_eq_some_iff] at h
    obtain ⟨y, _, h⟩ := h
    exact (cConv_not h).elim
  case makeFunc fn _ _ =>
    exfalso
    cases fn <;> simp only [cOp] at h <;> (repeat' split at h) <;> simp at h
  all_goals (exfalso; simp only [cOp] at h; (repeat' split at h) <;> simp [Option.map_eq_some_iff] at h)

theorem opCall_sound {o : AOper} {f : X} {xs : List X} {g : Nat} {first captured : Array Value} {vs : List Value} {v : Value} {h' : AHeap} {n' : Nat} (pg : ∀ d b, o.guard = some (d, b) → σ.get d = some (.bool b)) (po : o.op = .call f xs)
    (pf : X.ev σ h f = some (.func (.func g) first captured)) (px : mapX (X.ev σ h) xs = some vs) (pc : SoundCall P w0 g (first.toList ++ vs ++ captured.toList) h n v h' n') :
    SoundOp P w0 o σ h n (some v) h' n' := by
  intro co cops ntmps draw hc φ T w a hs hh hf hG hfr K Q hK
  rw [if_pos (wanted_of hc hfr pg)]
  obtain ⟨hop, _⟩ := cOper_spec hc
  rw [po] at hop
  have hρ := hfr.rho hs hh
  -- which operation it is
  obtain ⟨c, fo, hco, hcal, hfo, hargs⟩ := cOp_call hop
  have hfr2 := hρ fo f _ hfo pf
  obtain ⟨ys, us, hfv, hys, hus⟩ : ∃ ys us, a.eval fo = .func (.func g) ys us ∧ VRels φ first.toList ys.toList ∧ VRels φ captured.toList us.toList := by
    generalize a.eval fo = q at hfr2
    cases hfr2 with
    | func fn xs ys us vs e1 r1 e2 r2 => exact ⟨ys, vs, rfl, .of_arrays e1 r1, .of_arrays e2 r2⟩
  have hav := cXs_rel hρ hargs px
  have hinv := pc φ T w (ys.toList ++ c.args.toList.map a.eval ++ us.toList) hs hh hf hG ((hys.append hav).append hus)
  have := hinv co a K Q (fun u w' ⟨φ', T', h1, h2⟩ => hK φ' T' w' u h2 (fun v' hv' => by obtain rfl := Option.some.inj hv'; exact h1))
  unfold Oper.wp
  have hrun : (execOp a.eval co).run P w = (callFunc g (ys.toList ++ c.args.toList.map a.eval ++ us.toList).toArray).run P w := by
    unfold execOp
    simp only [hco, resolve, hcal, hfv, Deferred.ofValue, Sem.run_bind, Sem.run_pure, Result.andThen_ok, invoke]
    congr 2
    apply Array.toList_inj.1
    simp
  rw [hrun]
  exact this

end
end
end Go.Proofs.YtkaibjdogeikbaaDoor.Am
