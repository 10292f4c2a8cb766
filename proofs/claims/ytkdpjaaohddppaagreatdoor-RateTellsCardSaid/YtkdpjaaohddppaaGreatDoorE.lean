/- Rules to walk through code of the abstract machine with values that are not known (E). -/
import Derived.Test.YtkdpjaaohddppaaGreatDoorD
namespace Go.Proofs.YtkdpjaaohddppaaGreatDoor.Am
noncomputable section

/- RULES TO WALK THROUGH CODE WITH VALUES THAT ARE NOT KNOWN. -/

def HasCode (E : Env) (c : ACode) (σ : Fr) (h : AHeap) (n : Nat) (Q : Ex → Fr → AHeap → Nat → Prop) : Prop := ∃ e σ' h' n',Big E (.code c σ h n e σ' h' n') ∧ Q e σ' h' n'
def HasCall (E : Env) (f : Nat) (args : List Value) (h : AHeap) (n : Nat) (Q : Value → AHeap → Nat → Prop) : Prop := ∃ v h' n',Big E (.call f args h n v h' n') ∧ Q v h' n'

abbrev Tok {α : Sort _} (_ : α) : Type := Unit
def HasCodeT (E : Env) (c : ACode) (σ : Fr) (h : AHeap) (n : Nat) (Q : Ex → Fr → AHeap → Nat → Prop) (_ : Tok Q) : Prop := HasCode E c σ h n Q
def HasCallT (E : Env) (f : Nat) (args : List Value) (h : AHeap) (n : Nat) (Q : Value → AHeap → Nat → Prop) (_ : Tok Q) : Prop := HasCall E f args h n Q
def Runs (r : Option (Value × AHeap × Nat)) (n : Nat) (K : Option Value → AHeap → Nat → Prop) (_ : Tok K) : Prop := ∃ v h' n',r = some (v,h',n') ∧ n ≤ n' ∧ K (some v) h' n'
theorem Runs_some {v : Value} {h' : AHeap} {n' n : Nat} {K : Option Value → AHeap → Nat → Prop} {t : Tok K} : Runs (some (v,h',n')) n K t = (n ≤ n' ∧ K (some v) h' n') := by
  simp only [Runs,Option.some.injEq,Prod.mk.injEq,eq_iff_iff]
  constructor
  · rintro ⟨v',h1,n1,⟨rfl,rfl,rfl⟩,h2⟩; exact h2
  · intro h2; exact ⟨_,_,_,⟨rfl,rfl,rfl⟩,h2⟩
theorem Runs_ite {c : Prop} [Decidable c] {r : Option (Value × AHeap × Nat)} {n : Nat} {K : Option Value → AHeap → Nat → Prop} {t : Tok K} : Runs (if c then r else none) n K t = (c ∧ Runs r n K t) := by
  by_cases hc : c
  · rw [if_pos hc]; simp [hc]
  · rw [if_neg hc]; simp [hc,Runs]
theorem Runs_ite' {c : Prop} [Decidable c] {r : Option (Value × AHeap × Nat)} {n : Nat} {K : Option Value → AHeap → Nat → Prop} {t : Tok K} : Runs (if c then none else r) n K t = (¬ c ∧ Runs r n K t) := by
  by_cases hc : c
  · rw [if_pos hc]; simp [hc,Runs]
  · rw [if_neg hc]; simp [hc]
def Guard (r : Option Value) (b : Bool) (A B : Prop) (_ : Tok A) (_ : Tok B) : Prop := (r = some undef ∧ B) ∨ ∃ c,r = some (.bool c) ∧ (c = b → A) ∧ (c ≠ b → B)
theorem Guard_off {b : Bool} {A B : Prop} {x : Tok A} {y : Tok B} : Guard (some (.tuple #[])) b A B x y = B := by simp [Guard,undef]
theorem Guard_bool {c b : Bool} {A B : Prop} {x : Tok A} {y : Tok B} : Guard (some (.bool c)) b A B x y = (∃ d,(some (.bool c) : Option Value) = some (.bool d) ∧ (d = b → A) ∧ (d ≠ b → B)) := by simp [Guard,undef]
def Test (r : Option Value) (b : Bool) (A B : Prop) (_ : Tok A) (_ : Tok B) : Prop := ∃ c,r = some (.bool c) ∧ (c = b → A) ∧ (c ≠ b → B)
theorem Test_tt {A B : Prop} {x : Tok A} {y : Tok B} : Test (some (.bool true)) true A B x y = A := by simp [Test]
theorem Test_ff {A B : Prop} {x : Tok A} {y : Tok B} : Test (some (.bool false)) false A B x y = A := by simp [Test]
theorem Test_tf {A B : Prop} {x : Tok A} {y : Tok B} : Test (some (.bool true)) false A B x y = B := by simp [Test]
theorem Test_ft {A B : Prop} {x : Tok A} {y : Tok B} : Test (some (.bool false)) true A B x y = B := by simp [Test]
theorem Test_not {c : Bool} {b : Bool} {A B : Prop} {x : Tok A} {y : Tok B} : Test (some (.bool (!c))) b A B x y = Test (some (.bool c)) (!b) A B x y := by cases c <;> cases b <;> simp [Test]
theorem Test.split {c b : Bool} {A B : Prop} {u : Tok A} {v : Tok B} (x : c = b → A) (y : c = !b → B) : Test (some (.bool c)) b A B u v := ⟨c,rfl,x,fun h => y (by cases c <;> cases b <;> simp_all)⟩
def Callee (f : Option Value) (xs : Option (List Value)) (k : Nat → List Value → Prop) (_ : Tok k) : Prop := ∃ g first captured vs,f = some (.func (.func g) first captured) ∧ xs = some vs ∧ k g (first.toList ++ vs ++ captured.toList)
theorem Callee_some {g : Nat} {first captured : Array Value} {vs : List Value} {k : Nat → List Value → Prop} {t : Tok k} : Callee (some (.func (.func g) first captured)) (some vs) k t = k g (first.toList ++ vs ++ captured.toList) := by
  simp only [Callee,Option.some.injEq,Value.func.injEq,Fn.func.injEq,eq_iff_iff]
  constructor
  · rintro ⟨_,_,_,_,⟨rfl,rfl,rfl⟩,rfl,h⟩; exact h
  · intro h; exact ⟨_,_,_,_,⟨rfl,rfl,rfl⟩,rfl,h⟩

def YieldT (E : Env) (l : Nat) (args : List Value) (h : AHeap) (n : Nat) (Q : Value → AHeap → Nat → Prop) (_ : Tok Q) : Prop := ∃ v h' n',E.yl l args h n v h' n' ∧ n ≤ n' ∧ Q v h' n'
def Callee2 (f : Option Value) (xs : Option (List Value)) (k : Nat → List Value → Prop) (y : Nat → List Value → Prop) (t : Tok k) (_ : Tok y) : Prop := Callee f xs k t ∨ ∃ l vs,f = some (.func (.yield l) #[] #[]) ∧ xs = some vs ∧ y l vs
theorem Callee2_func {g : Nat} {first captured : Array Value} {xs : Option (List Value)} {k : Nat → List Value → Prop} {y : Nat → List Value → Prop} {t : Tok k} {u : Tok y} : Callee2 (some (.func (.func g) first captured)) xs k y t u = Callee (some (.func (.func g) first captured)) xs k t := by
  simp [Callee2]
theorem Callee2_yield {l : Nat} {vs : List Value} {k : Nat → List Value → Prop} {y : Nat → List Value → Prop} {t : Tok k} {u : Tok y} : Callee2 (some (.func (.yield l) #[] #[])) (some vs) k y t u = y l vs := by
  simp only [Callee2,Callee,eq_iff_iff]
  constructor
  · rintro (⟨g,a,b,c,h,_⟩ | ⟨l',vs',h1,h2,h3⟩)
    · cases h
    · cases h1; cases h2; exact h3
  · intro h; exact .inr ⟨_,_,rfl,rfl,h⟩

def sxRun (E : Env) (op : AOp) (σ : Fr) (h : AHeap) (n : Nat) (K : Option Value → AHeap → Nat → Prop) (_ : Tok K) : Prop :=
  match op with
  | .call f xs => Callee2 (X.ev σ h f) (mapX (X.ev σ h) xs) (fun g args => HasCallT E g args h n (fun v => K (some v)) ⟨⟩) (fun l args => YieldT E l args h n (fun v => K (some v)) ⟨⟩) ⟨⟩ ⟨⟩
  | op => Runs (aev (X.ev σ h) h n op) n K ⟨⟩
def sxOp (E : Env) (o : AOper) (σ : Fr) (h : AHeap) (n : Nat) (K : Option Value → AHeap → Nat → Prop) (_ : Tok K) : Prop :=
  match o.guard with
  | none => sxRun E o.op σ h n K ⟨⟩
  | some (d,b) => Guard (σ.get d) b (sxRun E o.op σ h n K ⟨⟩) (K (some undef) h n) ⟨⟩ ⟨⟩
def sxOps (E : Env) : List AOper → Fr → AHeap → Nat → (Q : Fr → AHeap → Nat → Prop) → Tok Q → Prop
  | [], σ,h,n,Q,_ => Q σ h n
  | o :: l, σ,h,n,Q,_ => sxOp E o σ h n (fun r h' n' => sxOps E l (setDst σ o.dst r) h' n' Q ⟨⟩) ⟨⟩

theorem sxRun_big {E : Env} {o : AOper} {σ : Fr} {h : AHeap} {n : Nat} {K : Option Value → AHeap → Nat → Prop} (pg : ∀ d b,o.guard = some (d,b) → σ.get d = some (.bool b)) {t : Tok K} (hx : sxRun E o.op σ h n K t) : ∃ r h' n',Big E (.op o σ h n r h' n') ∧ K r h' n' := by
  unfold sxRun at hx
  split at hx
  · rename_i f xs hop
    rcases hx with ⟨g,first,captured,vs,hf,hv,v,h',n',hb,hk⟩ | ⟨l,vs,hf,hv,v,h',n',hb,hm,hk⟩
    · exact ⟨some v,h',n', .opCall pg hop hf hv hb,hk⟩
    · exact ⟨some v,h',n', .opYield pg hop hf hv hb hm,hk⟩
  · obtain ⟨v,h',n',hv,hn,hk⟩ := hx
    exact ⟨some v,h',n', .prim pg hv hn,hk⟩
theorem sxOp_big {E : Env} {o : AOper} {σ : Fr} {h : AHeap} {n : Nat} {K : Option Value → AHeap → Nat → Prop} {t : Tok K} (hx : sxOp E o σ h n K t) : ∃ r h' n',Big E (.op o σ h n r h' n') ∧ K r h' n' := by
  unfold sxOp at hx
  split at hx
  · rename_i hg
    exact sxRun_big (by rw [hg]; simp) hx
  · rename_i d b hg
    rcases hx with ⟨hd,hB⟩ | ⟨c,hd,hA,hB⟩
    · exact ⟨some undef,h,n, .skipOff hg hd,hB⟩
    by_cases e : c = b
    · subst e
      exact sxRun_big (by rw [hg]; intro d' b' e; cases e; exact hd) (hA rfl)
    · exact ⟨some undef,h,n, .skip hg (by rw [hd]; cases b <;> cases c <;> simp_all),hB e⟩
theorem sxOps_big {E : Env} : ∀ {l : List AOper} {σ : Fr} {h : AHeap} {n : Nat} {Q : Fr → AHeap → Nat → Prop} {t : Tok Q},sxOps E l σ h n Q t → ∃ σ' h' n',Big E (.ops l σ h n σ' h' n') ∧ Q σ' h' n'
  | [], σ,h,n,Q,_,hx => ⟨σ,h,n, .opsNil,hx⟩
  | o :: l, σ,h,n,Q,_,hx => by
    obtain ⟨r,h1,n1,b1,hx1⟩ := sxOp_big hx
    obtain ⟨σ',h',n',b2,hq⟩ := sxOps_big hx1
    exact ⟨σ',h',n', .opsCons b1 b2,hq⟩

/- An operation looks at the slots that it reads,and no others. -/
theorem get_restrict_mem {σ : Fr} {l : List Nat} {t : Nat} (h : t ∈ l) : (σ.restrict l).get t = σ.get t := by
  rw [Fr.get_restrict,if_pos (by simpa using h)]
theorem ev_restrict {σ : Fr} {l : List Nat} (h : AHeap) {x : X} (hx : ∀ t,t ∈ x.reads → t ∈ l) : X.ev (σ.restrict l) h x = X.ev σ h x := by
  cases x with
  | t k => exact get_restrict_mem (hx k (by simp [X.reads]))
  | c v => rfl
  | g k => rfl
  | f k => rfl
theorem mapX_congr {ρ ρ' : X → Option Value} : ∀ {xs : List X},(∀ x,x ∈ xs → ρ x = ρ' x) → mapX ρ xs = mapX ρ' xs
  | [],_ => rfl
  | x :: xs,h => by simp only [mapX]; rw [h x (.head _),mapX_congr fun y hy => h y (.tail _ hy)]
theorem aFill_congr {ρ ρ' : X → Option Value} : ∀ {ps : List (Nat × Nat × X)} {cells : List Value},(∀ p,p ∈ ps → ρ p.2.2 = ρ' p.2.2) → aFill ρ cells ps = aFill ρ' cells ps
  | [],_,_ => rfl
  | (off,size,x) :: ps,cells,h => by
    have h1 : ρ x = ρ' x := h _ (.head _)
    simp only [aFill,h1]
    cases ρ' x with
    | none => rfl
    | some v =>
      simp only
      split
      · exact aFill_congr fun q hq => h q (.tail _ hq)
      · rfl
theorem aBounds_congr {ρ ρ' : X → Option Value} {len : Nat} {lo hi : Option X} (h1 : ∀ x,lo = some x → ρ x = ρ' x) (h2 : ∀ x,hi = some x → ρ x = ρ' x) : aBounds ρ len lo hi = aBounds ρ' len lo hi := by
  cases lo <;> cases hi <;> simp only [aBounds] <;> simp_all
theorem aev_congr {ρ ρ' : X → Option Value} {h : AHeap} {n : Nat} {op : AOp} (hr : ∀ x : X,(∀ t,t ∈ x.reads → t ∈ op.reads) → ρ x = ρ' x) : aev ρ h n op = aev ρ' h n op := by
  cases op with
  | build z ps =>
    simp only [aev]
    rw [aFill_congr fun p hp => hr _ fun t ht => by simp only [AOp.reads,List.mem_flatMap]; exact ⟨p,hp,ht⟩]
  | buildSlice a b c z ps =>
    simp only [aev]
    rw [aFill_congr fun p hp => hr _ fun t ht => by simp only [AOp.reads,List.mem_flatMap]; exact ⟨p,hp,ht⟩]
  | min xs => simp only [aev]; rw [mapX_congr fun x hx => hr x fun t ht => by simp only [AOp.reads,List.mem_flatMap]; exact ⟨x,hx,ht⟩]
  | max xs => simp only [aev]; rw [mapX_congr fun x hx => hr x fun t ht => by simp only [AOp.reads,List.mem_flatMap]; exact ⟨x,hx,ht⟩]
  | makeFunc f a b =>
    simp only [aev]
    rw [mapX_congr (xs := a) fun x hx => hr x fun t ht => by simp only [AOp.reads,List.mem_append,List.mem_flatMap]; exact .inl ⟨x,hx,ht⟩,
      mapX_congr (xs := b) fun x hx => hr x fun t ht => by simp only [AOp.reads,List.mem_append,List.mem_flatMap]; exact .inr ⟨x,hx,ht⟩]
  | sliceStr x lo hi =>
    simp only [aev]
    rw [hr x fun t ht => by simp [AOp.reads,ht]]
    cases ρ' x with
    | none => rfl
    | some v => cases v <;> simp only; rw [aBounds_congr (fun y hy => hr y fun t ht => by subst hy; simp [AOp.reads,optReads,ht]) (fun y hy => hr y fun t ht => by subst hy; simp [AOp.reads,optReads,ht])]
  | sliceArr e l x lo hi =>
    simp only [aev]
    rw [hr x fun t ht => by simp [AOp.reads,ht]]
    have := fun len => aBounds_congr (len := len) (lo := lo) (hi := hi) (fun y hy => hr y fun t ht => by subst hy; simp [AOp.reads,optReads,ht]) (fun y hy => hr y fun t ht => by subst hy; simp [AOp.reads,optReads,ht])
    simp only [this]
  | slice e x lo hi mx =>
    simp only [aev]
    rw [hr x fun t ht => by simp [AOp.reads,ht]]
    have := fun len => aBounds_congr (len := len) (lo := lo) (hi := hi) (fun y hy => hr y fun t ht => by subst hy; simp [AOp.reads,optReads,ht]) (fun y hy => hr y fun t ht => by subst hy; simp [AOp.reads,optReads,ht])
    simp only [this]
    cases mx with
    | none => rfl
    | some m => simp only [hr m fun t ht => by simp [AOp.reads,optReads,ht]]
  | pick a b c => simp only [aev]; rw [hr a fun t ht => by simp [AOp.reads,ht],hr b fun t ht => by simp [AOp.reads,ht],hr c fun t ht => by simp [AOp.reads,ht]]
  | _ => all_goals first
    | rfl
    | (simp only [aev]; rename_i x; rw [hr x fun t ht => by simp [AOp.reads,ht]]; done)
    | (simp only [aev]; rename_i x _; rw [hr x fun t ht => by simp [AOp.reads,ht]]; done)
    | (simp only [aev]; rename_i x y; rw [hr x fun t ht => by simp [AOp.reads,ht],hr y fun t ht => by simp [AOp.reads,ht]]; done)

theorem Big.op_restrict {E : Env} {o : AOper} {σ : Fr} {h : AHeap} {n : Nat} {r : Option Value} {h' : AHeap} {n' : Nat} (b : Big E (.op o σ h n r h' n')) : Big E (.op o (σ.restrict o.reads) h n r h' n') := by
  have hop : ∀ t,t ∈ o.op.reads → t ∈ o.reads := fun t ht => by simp only [AOper.reads,List.mem_append]; exact .inr ht
  have hg : ∀ d b,o.guard = some (d,b) → d ∈ o.reads := fun d b hd => by simp only [AOper.reads,hd,List.mem_append]; exact .inl (.head _)
  have hev : ∀ x : X,(∀ t,t ∈ x.reads → t ∈ o.op.reads) → X.ev σ h x = X.ev (σ.restrict o.reads) h x := fun x hx => (ev_restrict h fun t ht => hop t (hx t ht)).symm
  cases b with
  | prim pg pa pm => exact .prim (fun d b hd => by rw [get_restrict_mem (hg d b hd)]; exact pg d b hd) (by rw [← aev_congr hev]; exact pa) pm
  | skip pg pd => exact .skip pg (by rw [get_restrict_mem (hg _ _ pg)]; exact pd)
  | skipOff pg pd => exact .skipOff pg (by rw [get_restrict_mem (hg _ _ pg)]; exact pd)
  | opMovAny pg po => exact .opMovAny pg po
  | opYield pg po pf px py pm =>
    refine .opYield (fun d b hd => by rw [get_restrict_mem (hg d b hd)]; exact pg d b hd) po ?_ ?_ py pm
    · rw [← hev _ fun t ht => by rw [po]; simp [AOp.reads,ht]]; exact pf
    · rw [← mapX_congr fun x hx => hev x fun t ht => by rw [po]; simp only [AOp.reads,List.mem_append,List.mem_flatMap]; exact .inr ⟨x,hx,ht⟩]; exact px
  | opCall pg po pf px pc =>
    refine .opCall (fun d b hd => by rw [get_restrict_mem (hg d b hd)]; exact pg d b hd) po ?_ ?_ pc
    · rw [← hev _ fun t ht => by rw [po]; simp [AOp.reads,ht]]; exact pf
    · rw [← mapX_congr fun x hx => hev x fun t ht => by rw [po]; simp only [AOp.reads,List.mem_append,List.mem_flatMap]; exact .inr ⟨x,hx,ht⟩]; exact px

/- DRAWN REGIONS: what an operation touches; what it turns. -/
def touch (ids : List Nat) (h : AHeap) : AHeap := match ids with
  | [] => []
  | i :: is => match h.get i with
    | some b => (i,b) :: touch is h
    | none => touch is h
theorem touch_get (h : AHeap) (i : Nat) : ∀ ids : List Nat,(touch ids h).get i = if i ∈ ids then h.get i else none
  | [] => rfl
  | j :: is => by
    simp only [touch]
    by_cases hj : i = j
    · subst hj
      simp only [List.mem_cons,true_or,if_true]
      cases hi : h.get i with
      | some b => simp only [AHeap.get_cons,if_true]
      | none =>
        simp only
        rw [touch_get h i is,hi]; split <;> rfl
    · have hm : (i ∈ j :: is) ↔ i ∈ is := by simp [hj]
      simp only [hm]
      cases h.get j with
      | some b => simp only; rw [AHeap.get_cons,if_neg (fun e => hj e.symm)]; exact touch_get h i is
      | none => exact touch_get h i is
theorem touch_sub (ids : List Nat) (h : AHeap) : HSub (touch ids h) h := by
  intro i b hb
  rw [touch_get] at hb
  split at hb
  · exact hb
  · cases hb

def putsL (h : AHeap) : List (Nat × Blk) → AHeap
  | [] => h
  | (i,b) :: l => putsL (h.put i b) l
theorem putsL_get_ne {i : Nat} : ∀ (l : List (Nat × Blk)) (h : AHeap),i ∉ l.map (·.1) → (putsL h l).get i = h.get i
  | [],_,_ => rfl
  | (j,b) :: l,h,hi => by
    simp only [List.map_cons,List.mem_cons,not_or] at hi
    simp only [putsL]
    rw [putsL_get_ne l _ hi.2,AHeap.get_put_ne _ _ (fun e => hi.1 e.symm)]
theorem putsL_get_mem {i : Nat} : ∀ (l : List (Nat × Blk)) (h : AHeap),i ∈ l.map (·.1) → ((putsL h l).get i).isSome
  | (j,b) :: l,h,hi => by
    simp only [putsL]
    by_cases hl : i ∈ l.map (·.1)
    · exact putsL_get_mem l _ hl
    · rw [putsL_get_ne l _ hl]
      simp only [List.map_cons,List.mem_cons] at hi
      rcases hi with rfl | hi
      · simp
      · exact absurd hi hl

def Ret (E : Env) (f : Nat) (args : List Value) (h : AHeap) (n : Nat) (v : Value) (l : List (Nat × Blk)) (n' : Nat) : Prop :=
  Big E (.call f args h n v (putsL h l) n') ∧ (l.map (·.1)).Nodup ∧ ∀ i,i ∈ l.map (·.1) → (h.get i).isSome ∨ n ≤ i ∧ i < n'
def onIds : Option (List Nat) → AHeap → AHeap
  | none,h => h
  | some l,h => touch l h
def HasRetT (E : Env) (f : Nat) (args : List Value) (h : AHeap) (n : Nat) (Q : Option (List Nat) → Value → List (Nat × Blk) → Nat → Prop) (_ : Tok Q) : Prop := ∃ ids v l n',Ret E f args (onIds ids h) n v l n' ∧ Q ids v l n'
theorem HasCall.of_ret {E : Env} {f : Nat} {args : List Value} {h : AHeap} {n : Nat} {v : Value} {l : List (Nat × Blk)} {n' : Nat} (x : Ret E f args h n v l n') {Q : Value → AHeap → Nat → Prop} (q : Q v (putsL h l) n') : HasCall E f args h n Q :=
  ⟨v,_,n',x.1,q⟩
theorem ret_ret {E : Env} {f : Nat} {args : List Value} {h : AHeap} {n : Nat} {v : Value} {l : List (Nat × Blk)} {n' : Nat} {Q : Option (List Nat) → Value → List (Nat × Blk) → Nat → Prop} {t : Tok Q} (x : Ret E f args h n v l n') (q : Q none v l n') : HasRetT E f args h n Q t := ⟨none,v,l,n',x,q⟩
theorem ret_on {E : Env} {f : Nat} {args : List Value} {h : AHeap} {n : Nat} {v : Value} {l : List (Nat × Blk)} {n' : Nat} {Q : Option (List Nat) → Value → List (Nat × Blk) → Nat → Prop} {t : Tok Q} (ids : List Nat) (x : Ret E f args (touch ids h) n v l n') (q : Q (some ids) v l n') : HasRetT E f args h n Q t := ⟨some ids,v,l,n',x,q⟩

def X.globs : X → List Nat
  | .g k => [k]
  | _ => []
def AOp.globs : AOp → List Nat
  | .mov x | .box _ x | .nilCheck x | .un _ x | .conv _ x | .same x | .bytesOf _ x | .strOf x | .fieldAddr _ x | .field _ _ x | .extract x _ | .lenStr x | .lenSlice x | .makeIface _ x | .load _ x | .cap x | .sliceData x | .toUnsafe x | .fromUnsafe _ _ x | .rangeStr x | .nextStr x | .toFloat _ x | .sameF _ x => x.globs
  | .pick c a b => c.globs ++ a.globs ++ b.globs
  | .store _ a x | .bin _ a x | .eqv _ _ _ a x | .eqAgg _ _ a x | .indexAddr _ a x | .indexArr _ _ a x | .index _ _ _ a x | .indexStr a x | .append _ _ _ a x | .copy _ a x | .makeSlice _ _ _ _ a x | .unsafeString _ a x | .lookup _ _ _ a x => a.globs ++ x.globs
  | .sliceArr _ _ x _ _ => x.globs
  | _ => []
def refsO : Option Value → List Nat
  | some v => refsOf v
  | none => []
def readIds (σ : Fr) : List Nat → List Nat
  | [] => []
  | t :: l => refsO (σ.get t) ++ readIds σ l
def AOp.looks : AOp → Bool
  | .load _ _ | .store _ _ _ | .strOf _ | .append _ _ _ _ _ | .copy _ _ _ | .lookup _ _ _ _ _ | .unsafeString _ _ _ | .toUnsafe _ | .fromUnsafe _ _ _ | .nextStr _ => true
  | _ => false
def touchIds (o : AOper) (σ : Fr) : List Nat := o.op.globs ++ bif o.op.looks then readIds σ o.op.reads else []
structure Kd where
  t : Option (List Nat)
  c : List Nat
def Kd.clear (c : List Nat) : Option (List Nat) → Prop
  | none => c = []
  | some t => ∀ i,i ∈ c → i ∉ t
def Kd.apart (a b : Kd) : Prop := Kd.clear a.c b.t ∧ Kd.clear b.c a.t
def RecIs (a : Rec) (k : Kd) : Prop := a.chg = k.c ∧ ∀ t,k.t = some t → ∀ i,i ∉ t → a.h.get i = none
theorem Kd.apart_heaps {a b : Rec} {k l : Kd} (ha : RecIs a k) (hb : RecIs b l) (h : k.apart l) : apartHeaps a b := by
  obtain ⟨h1,h2⟩ := ha; obtain ⟨h3,h4⟩ := hb
  obtain ⟨h5,h6⟩ := h
  constructor
  · intro i hi
    rw [h1] at hi
    cases ht : l.t with
    | none => rw [ht] at h5; simp only [Kd.clear] at h5; rw [h5] at hi; cases hi
    | some t => rw [ht] at h5; exact h4 t ht i (h5 i hi)
  · intro i hi
    rw [h3] at hi
    cases ht : k.t with
    | none => rw [ht] at h6; simp only [Kd.clear] at h6; rw [h6] at hi; cases hi
    | some t => rw [ht] at h6; exact h2 t ht i (h6 i hi)
def clash (pairs : List (Nat × Nat)) (i j : Nat) : Bool := pairs.any fun p => Nat.beq p.1 i && Nat.beq p.2 j
def okAt (pairs : List (Nat × Nat)) (j : Nat) (k : Kd) : List (Nat × Kd) → Prop
  | [] => True
  | (i,k') :: l => (clash pairs i j = true → k'.apart k) ∧ okAt pairs j k l
theorem okAt_mem {pairs : List (Nat × Nat)} {j : Nat} {k : Kd} : ∀ {l : List (Nat × Kd)} {i : Nat} {k' : Kd},okAt pairs j k l → (i,k') ∈ l → clash pairs i j = true → k'.apart k
  | (i',k2) :: l,i,k',h,hm,hc => by
    rcases List.mem_cons.1 hm with e | hm
    · cases e; exact h.1 hc
    · exact okAt_mem h.2 hm hc

def chgOf (log : List Nat) (n n1 : Nat) : List Nat := log ++ (if n1 = n then [] else [n])
def chgOk (h0 h1 : AHeap) (n n1 : Nat) (c : List Nat) : Prop := ∀ i,i ∈ c → (h1.get i).isSome ∧ ((h0.get i).isSome ∨ n ≤ i ∧ i < n1)
def dxRun (E : Env) (o : AOper) (σ : Fr) (h : AHeap) (n : Nat) (K : Option Value → AHeap → Nat → Kd → Prop) (_ : Tok K) : Prop :=
  match o.op with
  | .call f xs => Callee (X.ev σ [] f) (mapX (X.ev σ []) xs) (fun g args => HasRetT E g args h n (fun ids v bs n' => K (some v) (putsL h bs) n' ⟨ids,bs.map (·.1)⟩) ⟨⟩) ⟨⟩
  | op => bif op.pure then Runs (aev (X.ev σ (touch (touchIds o σ) h)) (touch (touchIds o σ) h) n op) n (fun r _ _ => K r h n ⟨some (touchIds o σ),[]⟩) ⟨⟩
    else (∀ i,i ∈ touchIds o σ → i < n) ∧ Runs (aev (X.ev σ (touch (touchIds o σ) h)) (touch (touchIds o σ) h) n op) n (fun r h1 n1 =>
      chgOk (touch (touchIds o σ) h) h1 n n1 (chgOf (logOf (X.ev σ (touch (touchIds o σ) h)) op) n n1) ∧
      K r (h.puts h1 (chgOf (logOf (X.ev σ (touch (touchIds o σ) h)) op) n n1)) n1 ⟨some (touchIds o σ),chgOf (logOf (X.ev σ (touch (touchIds o σ) h)) op) n n1⟩) ⟨⟩
def sxDraw (E : Env) (pairs : List (Nat × Nat)) : List AOper → Nat → Fr → AHeap → Nat → List (Nat × Kd) → (Q : Fr → AHeap → Nat → Prop) → Tok Q → Prop
  | [],_, σ,h,n,_,Q,_ => Q σ h n
  | o :: l,j, σ,h,n,past,Q,_ =>
    match o.guard with
    | none => dxRun E o σ h n (fun r h' n' k => okAt pairs j k past ∧ sxDraw E pairs l (j + 1) (setDst σ o.dst r) h' n' ((j,k) :: past) Q ⟨⟩) ⟨⟩
    | some (d,b) => Guard (σ.get d) b (dxRun E o σ h n (fun r h' n' k => okAt pairs j k past ∧ sxDraw E pairs l (j + 1) (setDst σ o.dst r) h' n' ((j,k) :: past) Q ⟨⟩) ⟨⟩)
        (sxDraw E pairs l (j + 1) (setDst σ o.dst (some undef)) h n ((j,⟨some [],[]⟩) :: past) Q ⟨⟩) ⟨⟩ ⟨⟩

theorem puts_all (H : AHeap) : ∀ (l : List (Nat × Blk)) (h : AHeap),(∀ p,p ∈ l → H.get p.1 = some p.2) → h.puts H (l.map (·.1)) = putsL h l
  | [],_,_ => rfl
  | (i,b) :: l,h,hl => by
    have := hl _ (.head _)
    simp only at this
    simp only [List.map_cons,AHeap.puts,this,putsL]
    exact puts_all H l _ fun p hp => hl p (.tail _ hp)
theorem putsL_nodup : ∀ (l : List (Nat × Blk)) (h : AHeap),(l.map (·.1)).Nodup → ∀ p,p ∈ l → (putsL h l).get p.1 = some p.2
  | (i,b) :: l,h,hn,p,hp => by
    simp only [List.map_cons,List.nodup_cons] at hn
    simp only [putsL]
    rcases List.mem_cons.1 hp with rfl | hp
    · rw [putsL_get_ne l _ hn.1]; simp
    · exact putsL_nodup l _ hn.2 p hp

theorem ev_nil {σ : Fr} {h : AHeap} {x : X} {v : Value} (hx : X.ev σ [] x = some v) : X.ev σ h x = some v := by
  cases x with
  | t k => exact hx
  | c u => exact hx
  | g k => simp only [X.ev,AHeap.get_nil] at hx; cases hx
  | f k => exact hx
theorem mapX_nil {σ : Fr} {h : AHeap} : ∀ {xs : List X} {vs : List Value},mapX (X.ev σ []) xs = some vs → mapX (X.ev σ h) xs = some vs
  | [],_,hx => hx
  | x :: xs,vs,hx => by
    simp only [mapX] at hx ⊢
    split at hx
    · rename_i v us hv hus
      rw [ev_nil hv,mapX_nil hus]; exact hx
    · cases hx
theorem dxRun_big {E : Env} {o : AOper} {σ : Fr} {h : AHeap} {n : Nat} {K : Option Value → AHeap → Nat → Kd → Prop} (pg : ∀ d b,o.guard = some (d,b) → σ.get d = some (.bool b)) {t : Tok K} (hx : dxRun E o σ h n K t) :
    ∃ (c : Rec) (k : Kd),c.n = n ∧ RecIs c k ∧ HSub c.h h ∧ c.ok ∧ Big E (.op o σ c.h c.n c.r c.h' c.n') ∧ K c.r (h.puts c.h' c.chg) c.n' k := by
  unfold dxRun at hx
  split at hx
  · rename_i f xs hop
    obtain ⟨g,first,captured,vs,hf,hv,ids,v,bs,n',⟨hb,hnd,hids⟩,hk⟩ := hx
    have hputs := puts_all (putsL (onIds ids h) bs) bs h (putsL_nodup bs (onIds ids h) hnd)
    refine ⟨⟨onIds ids h,n,some v,putsL (onIds ids h) bs,n',bs.map Prod.fst⟩,⟨ids,bs.map Prod.fst⟩,rfl,⟨rfl,fun t ht i hi => ?_⟩, ?_,⟨fun i b hi hni => ?_,fun i hi => ⟨putsL_get_mem bs _ hi,hids i hi⟩⟩, .opCall pg hop (ev_nil hf) (mapX_nil hv) hb, ?_⟩
    · simp only at ht
      subst ht
      show (touch t h).get i = none
      rw [touch_get,if_neg hi]
    · cases ids with
      | none => exact fun _ _ x => x
      | some l => exact touch_sub l h
    · rw [putsL_get_ne bs _ hni]; exact hi
    · rw [hputs]; exact hk
  · cases hp : o.op.pure with
    | true =>
      rw [hp] at hx
      obtain ⟨v,h',n',hv,hn,hk⟩ := hx
      obtain ⟨rfl,rfl⟩ := aev_pure hp hv
      exact ⟨⟨touch (touchIds o σ) h,n',some v,touch (touchIds o σ) h,n',[]⟩,⟨some (touchIds o σ),[]⟩,rfl,⟨rfl,fun t ht i hi => by cases ht; show (touch (touchIds o σ) h).get i = none; rw [touch_get,if_neg hi]⟩,touch_sub _ h,⟨fun _ _ x _ => x,fun i hi => by cases hi⟩, .prim pg hv hn,hk⟩
    | false =>
      rw [hp] at hx
      obtain ⟨hlt,v,h1,n1,hv,hn,hok,hk⟩ := hx
      refine ⟨⟨touch (touchIds o σ) h,n,some v,h1,n1,_⟩,⟨some (touchIds o σ),_⟩,rfl,⟨rfl,fun t ht i hi => by cases ht; show (touch (touchIds o σ) h).get i = none; rw [touch_get,if_neg hi]⟩,touch_sub _ h,⟨fun i b hb hni => ?_,hok⟩, .prim pg hv hn,hk⟩
      refine aev_keeps hv i b ?_ (fun hm => hni (List.mem_append_left _ hm)) hb
      simp only at hb
      rw [touch_get] at hb
      split at hb
      · rename_i hm; exact hlt i hm
      · cases hb

theorem sxDraw_big {E : Env} {pairs : List (Nat × Nat)} : ∀ {l : List AOper} {j : Nat} {σ : Fr} {h : AHeap} {n : Nat} {past : List (Nat × Kd)} {Q : Fr → AHeap → Nat → Prop} {t : Tok Q},sxDraw E pairs l j σ h n past Q t →
    ∃ rs σ' h' n',Big E (.draw l σ h n rs σ' h' n') ∧ Q σ' h' n' ∧ (∀ i K a,(i,K) ∈ past → RecIs a K → ∀ k b,rs[k]? = some b → clash pairs i (j + k) = true → apartHeaps a b) ∧
      (∀ k k' a b,k < k' → rs[k]? = some a → rs[k']? = some b → clash pairs (j + k) (j + k') = true → apartHeaps a b)
  | [],j, σ,h,n,past,Q,_,hx => ⟨[], σ,h,n, .drawNil,hx,fun _ _ _ _ _ k b hk => by simp at hk,fun k k' a b _ hk => by simp at hk⟩
  | o :: l,j, σ,h,n,past,Q,_,hx => by
    have fin : ∀ (c : Rec) (K : Kd),c.n = n → RecIs c K → okAt pairs j K past → HSub c.h h → c.ok → Big E (.op o σ c.h c.n c.r c.h' c.n') → sxDraw E pairs l (j + 1) (setDst σ o.dst c.r) (h.puts c.h' c.chg) c.n' ((j,K) :: past) Q ⟨⟩ →
        ∃ rs σ' h' n',Big E (.draw (o :: l) σ h n rs σ' h' n') ∧ Q σ' h' n' ∧ (∀ i K a,(i,K) ∈ past → RecIs a K → ∀ k b,rs[k]? = some b → clash pairs i (j + k) = true → apartHeaps a b) ∧
          (∀ k k' a b,k < k' → rs[k]? = some a → rs[k']? = some b → clash pairs (j + k) (j + k') = true → apartHeaps a b) := by
      intro c K hcn hK hok hsub hc hb hd
      obtain ⟨rs, σ',h',n',b2,hq,hA,hB⟩ := sxDraw_big hd
      subst hcn
      refine ⟨c :: rs, σ',h',n', .drawCons hb.op_restrict hsub hc b2,hq,fun i K' a hm ha k b hk hcl => ?_,fun k k' a b hlt hk hk' hcl => ?_⟩
      · cases k with
        | zero =>
          simp at hk
          subst hk
          exact Kd.apart_heaps ha hK (okAt_mem hok hm hcl)
        | succ k =>
          simp at hk
          exact hA i K' a (.tail _ hm) ha k b hk (by rw [show j + 1 + k = j + (k + 1) from by omega]; exact hcl)
      · cases k' with
        | zero => omega
        | succ k' =>
          simp at hk'
          cases k with
          | zero =>
            simp at hk
            subst hk
            exact hA j K c (.head _) hK k' b hk' (by rw [show j + 1 + k' = j + (k' + 1) from by omega]; exact hcl)
          | succ k =>
            simp at hk
            exact hB k k' a b (by omega) hk hk' (by rw [show j + 1 + k = j + (k + 1) from by omega,show j + 1 + k' = j + (k' + 1) from by omega]; exact hcl)
    unfold sxDraw at hx
    split at hx
    · rename_i hg
      obtain ⟨c,k,h1,h2,h3,h4,h5,hok,hd⟩ := dxRun_big (by rw [hg]; simp) hx
      exact fin c k h1 h2 hok h3 h4 h5 hd
    · rename_i d b hg
      have hnil : ∀ (l : List (Nat × Kd)),okAt pairs j ⟨some [],[]⟩ l := by
          intro l
          induction l with
          | nil => trivial
          | cons p l ih =>
            refine ⟨fun _ => ⟨fun i _ hm => (by cases hm), ?_⟩,ih⟩
            cases p.2.t with
            | none => rfl
            | some t => intro i hi; cases hi
      rcases hx with ⟨hd,hB⟩ | ⟨t,hd,hA,hB⟩
      · exact fin ⟨[],n,some undef,[],n,[]⟩ ⟨some [],[]⟩ rfl ⟨rfl,fun t ht i hi => rfl⟩ (hnil past) (fun i b hb => (by cases hb)) ⟨fun i b hb => (by cases hb),fun i hi => (by cases hi)⟩ (.skipOff hg hd) hB
      by_cases e : t = b
      · subst e
        obtain ⟨c,k,h1,h2,h3,h4,h5,hok,hd⟩ := dxRun_big (by rw [hg]; intro d' b' e; cases e; exact hd) (hA rfl)
        exact fin c k h1 h2 hok h3 h4 h5 hd
      · exact fin ⟨[],n,some undef,[],n,[]⟩ ⟨some [],[]⟩ rfl ⟨rfl,fun t ht i hi => rfl⟩ (hnil past) (fun i b hb => (by cases hb)) ⟨fun i b hb => (by cases hb),fun i hi => (by cases hi)⟩ (.skip hg (by rw [hd]; cases b <;> cases t <;> simp_all)) (hB e)

def pureAt (l : List AOper) (i : Nat) : Bool := match l[i]? with
  | some o => o.op.pure
  | none => false
def confOf (l : List AOper) (ps : List (Nat × Nat)) (o : AOper) (j : Nat) : List Nat := ps.filterMap fun p => bif Nat.beq p.2 j && !(o.op.pure && pureAt l p.1) then some p.1 else none
def tabFrom (l : List AOper) (ps : List (Nat × Nat)) : List AOper → Nat → List (AOper × List Nat)
  | [],_ => []
  | o :: r,j => (o,confOf l ps o j) :: tabFrom l ps r (j + 1)
def okTab (conf : List Nat) (k : Kd) : List (Nat × Kd) → Prop
  | [] => True
  | (i,k') :: l => (i ∈ conf → k'.apart k) ∧ okTab conf k l
theorem okTab_nil (k : Kd) : ∀ l : List (Nat × Kd),okTab [] k l
  | [] => trivial
  | p :: l => ⟨fun h => (by cases h),okTab_nil k l⟩
def sxDrawT (E : Env) : List (AOper × List Nat) → Nat → Fr → AHeap → Nat → List (Nat × Kd) → (Q : Fr → AHeap → Nat → Prop) → Tok Q → Prop
  | [],_, σ,h,n,_,Q,_ => Q σ h n
  | (o,conf) :: l,j, σ,h,n,past,Q,_ =>
    match o.guard with
    | none => dxRun E o σ h n (fun r h' n' k => okTab conf k past ∧ sxDrawT E l (j + 1) (setDst σ o.dst r) h' n' ((j,k) :: past) Q ⟨⟩) ⟨⟩
    | some (d,b) => Guard (σ.get d) b (dxRun E o σ h n (fun r h' n' k => okTab conf k past ∧ sxDrawT E l (j + 1) (setDst σ o.dst r) h' n' ((j,k) :: past) Q ⟨⟩) ⟨⟩)
        (sxDrawT E l (j + 1) (setDst σ o.dst (some undef)) h n ((j,⟨some [],[]⟩) :: past) Q ⟨⟩) ⟨⟩ ⟨⟩
theorem dxRun_mono {E : Env} {o : AOper} {σ : Fr} {h : AHeap} {n : Nat} {K K' : Option Value → AHeap → Nat → Kd → Prop} {t : Tok K} {t' : Tok K'} (hx : dxRun E o σ h n K t) (hk : ∀ r h' n' k,(o.op.pure = true → k.c = []) → K r h' n' k → K' r h' n' k) : dxRun E o σ h n K' t' := by
  unfold dxRun at hx ⊢
  split at hx
  · rename_i f xs hop
    obtain ⟨g,first,captured,vs,hf,hv,ids,v,bs,n',hr,hq⟩ := hx
    exact ⟨g,first,captured,vs,hf,hv,ids,v,bs,n',hr,hk _ _ _ _ (by rw [hop]; intro h; cases h) hq⟩
  · cases hp : o.op.pure with
    | true =>
      rw [hp] at hx
      obtain ⟨v,h',n',hv,hn,hq⟩ := hx
      exact ⟨v,h',n',hv,hn,hk _ _ _ _ (fun _ => rfl) hq⟩
    | false =>
      rw [hp] at hx
      obtain ⟨hlt,v,h1,n1,hv,hn,hok,hq⟩ := hx
      exact ⟨hlt,v,h1,n1,hv,hn,hok,hk _ _ _ _ (by rw [hp]; intro h; cases h) hq⟩
theorem okTab_okAt {l : List AOper} {ps : List (Nat × Nat)} {o : AOper} {j : Nat} {k : Kd} (ho : o.op.pure = true → k.c = []) : ∀ {past : List (Nat × Kd)},(∀ i k',(i,k') ∈ past → pureAt l i = true → k'.c = []) → okTab (confOf l ps o j) k past → okAt ps j k past
  | [],_,_ => trivial
  | (i,k') :: past,hp,h => by
    refine ⟨fun hc => ?_,okTab_okAt ho (fun i k' hm => hp i k' (.tail _ hm)) h.2⟩
    simp only [clash,List.any_eq_true,Bool.and_eq_true] at hc
    obtain ⟨p,hpm,h1,h2⟩ := hc
    obtain rfl := Nat.eq_of_beq_eq_true h1
    cases hpu : (o.op.pure && pureAt l p.1) with
    | true =>
      simp only [Bool.and_eq_true] at hpu
      have e1 := ho hpu.1
      have e2 := hp _ _ (.head _) hpu.2
      refine ⟨?_, ?_⟩
      · rw [e2]; cases k.t with
        | none => rfl
        | some t => intro i hi; cases hi
      · rw [e1]; cases k'.t with
        | none => rfl
        | some t => intro i hi; cases hi
    | false =>
      refine h.1 ?_
      simp only [confOf,List.mem_filterMap]
      exact ⟨p,hpm,by rw [h2,hpu]; rfl⟩
theorem sxDrawT_sub {E : Env} {l : List AOper} {ps : List (Nat × Nat)} : ∀ {r : List AOper} {j : Nat} {σ : Fr} {h : AHeap} {n : Nat} {past : List (Nat × Kd)} {Q : Fr → AHeap → Nat → Prop} {t : Tok Q},(∀ k o,r[k]? = some o → l[j + k]? = some o) →
    (∀ i k',(i,k') ∈ past → pureAt l i = true → k'.c = []) → sxDrawT E (tabFrom l ps r j) j σ h n past Q t → sxDraw E ps r j σ h n past Q t
  | [],j, σ,h,n,past,Q,_,_,_,hx => hx
  | o :: r,j, σ,h,n,past,Q,_,hl,hp,hx => by
    have hl' : ∀ k o,r[k]? = some o → l[j + 1 + k]? = some o := fun k o' hk => by
      have := hl (k + 1) o' (by simpa using hk)
      rw [show j + 1 + k = j + (k + 1) from by omega]; exact this
    have ho : l[j]? = some o := by simpa using hl 0 o rfl
    have step : ∀ k : Kd,(o.op.pure = true → k.c = []) → ∀ i k',(i,k') ∈ (j,k) :: past → pureAt l i = true → k'.c = [] := by
      intro k hk i k' hm hpu
      rcases List.mem_cons.1 hm with e | hm
      · cases e
        simp only [pureAt,ho] at hpu
        exact hk hpu
      · exact hp i k' hm hpu
    simp only [tabFrom] at hx
    unfold sxDrawT at hx
    unfold sxDraw
    cases hg : o.guard with
    | none =>
      simp only [hg] at hx ⊢
      exact dxRun_mono hx fun r' h' n' k hk hq => ⟨okTab_okAt hk hp hq.1,sxDrawT_sub hl' (step k hk) hq.2⟩
    | some g =>
      obtain ⟨d,b⟩ := g
      simp only [hg] at hx ⊢
      rcases hx with ⟨hc,hB⟩ | ⟨c,hc,hA,hB⟩
      · exact .inl ⟨hc,sxDrawT_sub hl' (step ⟨some [],[]⟩ fun _ => rfl) hB⟩
      exact .inr ⟨c,hc,fun e => dxRun_mono (hA e) fun r' h' n' k hk hq => ⟨okTab_okAt hk hp hq.1,sxDrawT_sub hl' (step k hk) hq.2⟩,fun e => sxDrawT_sub hl' (step ⟨some [],[]⟩ fun _ => rfl) (hB e)⟩

theorem sxOps_pure_draw {E : Env} : ∀ {l : List AOper} {σ : Fr} {h : AHeap} {n : Nat} {Q : Fr → AHeap → Nat → Prop} {t : Tok Q},(l.all fun o => o.op.pure) = true → sxOps E l σ h n Q t →
    ∃ rs σ' h' n',Big E (.draw l σ h n rs σ' h' n') ∧ Q σ' h' n' ∧ ∀ (k : Nat) (a : Rec),rs[k]? = some a → a.chg = []
  | [], σ,h,n,Q,_,_,hx => ⟨[], σ,h,n, .drawNil,hx,fun k a hk => by simp at hk⟩
  | o :: l, σ,h,n,Q,_,hp,hx => by
    simp only [List.all_cons,Bool.and_eq_true] at hp
    obtain ⟨r,h1,n1,b1,hx1⟩ := sxOp_big hx
    have hh : h1 = h ∧ n1 = n := by
      cases b1 with
      | prim pg pa pm => exact aev_pure hp.1 pa
      | skip => exact ⟨rfl,rfl⟩
      | skipOff => exact ⟨rfl,rfl⟩
      | opMovAny => exact ⟨rfl,rfl⟩
      | opYield pg po => rw [po] at hp; cases hp.1
      | opCall pg po => rw [po] at hp; cases hp.1
    obtain ⟨rfl,rfl⟩ := hh
    obtain ⟨rs, σ',h',n',b2,hq,hA⟩ := sxOps_pure_draw hp.2 hx1
    refine ⟨⟨h1,n1,r,h1,n1,[]⟩ :: rs, σ',h',n', .drawCons (c := ⟨h1,n1,r,h1,n1,[]⟩) b1.op_restrict (fun _ _ x => x) ⟨fun _ _ x _ => x,fun i hi => by cases hi⟩ b2,hq,fun k a hk => ?_⟩
    cases k with
    | zero => simp at hk; rw [← hk]
    | succ k => simp at hk; exact hA k a hk

def sx (E : Env) : ACode → Fr → AHeap → Nat → (Q : Ex → Fr → AHeap → Nat → Prop) → Tok Q → Prop
  | .skip, σ,h,n,Q,_ => Q .normal σ h n
  | .region l none, σ,h,n,Q,_ => sxOps E l σ h n (fun σ h n => Q .normal σ h n) ⟨⟩
  | .region l (some ps), σ,h,n,Q,_ => bif l.all fun o => o.op.pure then sxOps E l σ h n (fun σ h n => Q .normal σ h n) ⟨⟩
    else (ps.all fun p => Nat.blt p.1 p.2) = true ∧ sxDrawT E (tabFrom l ps l 0) 0 σ h n [] (fun σ h n => Q .normal σ h n) ⟨⟩
  | .seq a b, σ,h,n,Q,_ => sx E a σ h n (fun e σ h n => match e with
    | .normal => sx E b σ h n Q ⟨⟩
    | e => Q e σ h n) ⟨⟩
  | .cond x a b, σ,h,n,Q,_ => Test (X.ev σ h x) true (sx E a σ h n Q ⟨⟩) (sx E b σ h n Q ⟨⟩) ⟨⟩ ⟨⟩
  | .block id a, σ,h,n,Q,_ => sx E a σ h n (fun e σ h n => match e with
    | .exit j => if j = id then Q .normal σ h n else Q (.exit j) σ h n
    | e => Q e σ h n) ⟨⟩
  | .loop a, σ,h,n,Q,_ => HasCodeT E (.loop a) σ h n Q ⟨⟩
  | .exit id, σ,h,n,Q,_ => Q (.exit id) σ h n
  | .ret, σ,h,n,Q,_ => Q .ret σ h n
  | .fail,_,_,_,_,_ => False
  | .ranges x ps a b, σ,h,n,Q,_ => HasCodeT E (.ranges x ps a b) σ h n Q ⟨⟩
  | .scope a, σ,h,n,Q,_ => HasCodeT E (.scope a) σ h n Q ⟨⟩
  | .label _, σ,h,n,Q,_ => Q .normal σ h n

theorem sx_big {E : Env} : ∀ {c : ACode} {σ : Fr} {h : AHeap} {n : Nat} {Q : Ex → Fr → AHeap → Nat → Prop} {t : Tok Q},sx E c σ h n Q t → HasCode E c σ h n Q
  | .skip, σ,h,n,Q,_,hx => ⟨_,_,_,_, .cskip,hx⟩
  | .region l none, σ,h,n,Q,_,hx => by
    obtain ⟨σ',h',n',hb,hq⟩ := sxOps_big hx
    exact ⟨_,_,_,_, .region hb,hq⟩
  | .region l (some ps), σ,h,n,Q,_,hx => by
    unfold sx at hx
    cases hp : l.all fun o => o.op.pure with
    | true =>
      rw [hp] at hx
      obtain ⟨rs, σ',h',n',hb,hq,hA⟩ := sxOps_pure_draw hp hx
      exact ⟨_,_,_,_, .regionDraw hb (fun i j a b _ ha hb => ⟨fun i hi => (by rw [hA _ _ ha] at hi; cases hi),fun i hi => (by rw [hA _ _ hb] at hi; cases hi)⟩),hq⟩
    | false =>
    rw [hp] at hx
    obtain ⟨hps,hx⟩ := hx
    obtain ⟨rs, σ',h',n',hb,hq,_,hB⟩ := sxDraw_big (sxDrawT_sub (fun k o hk => by rw [Nat.zero_add]; exact hk) (fun i k' hm => by cases hm) hx)
    refine ⟨_,_,_,_, .regionDraw hb (fun i j a b hij ha hb => ?_),hq⟩
    have hlt := List.all_eq_true.1 hps _ hij
    refine hB i j a b (by simpa using hlt) ha hb ?_
    simp only [Nat.zero_add,clash,List.any_eq_true]
    exact ⟨(i,j),hij,by simp⟩
  | .seq a b, σ,h,n,Q,_,hx => by
    obtain ⟨e, σ1,h1,n1,hb,hq⟩ := sx_big (c := a) hx
    cases e with
    | normal =>
      obtain ⟨e, σ',h',n',hb2,hq2⟩ := sx_big (c := b) hq
      exact ⟨_,_,_,_, .seq hb hb2,hq2⟩
    | exit j => exact ⟨_,_,_,_, .seqStop hb (by simp),hq⟩
    | ret => exact ⟨_,_,_,_, .seqStop hb (by simp),hq⟩
  | .cond x a b, σ,h,n,Q,_,hx => by
    obtain ⟨c,hc,hA,hB⟩ := hx
    cases c with
    | true =>
      obtain ⟨e, σ',h',n',hb,hq⟩ := sx_big (c := a) (hA rfl)
      exact ⟨_,_,_,_, .cond hc hb,hq⟩
    | false =>
      obtain ⟨e, σ',h',n',hb,hq⟩ := sx_big (c := b) (hB (by simp))
      exact ⟨_,_,_,_, .cond hc hb,hq⟩
  | .block id a, σ,h,n,Q,_,hx => by
    obtain ⟨e, σ1,h1,n1,hb,hq⟩ := sx_big (c := a) hx
    cases e with
    | normal => exact ⟨_,_,_,_, .block hb (by simp),hq⟩
    | exit j =>
      simp only at hq
      split at hq
      · rename_i e; subst e
        exact ⟨_,_,_,_, .blockExit hb,hq⟩
      · rename_i hne
        exact ⟨_,_,_,_, .block hb (by simpa using hne),hq⟩
    | ret => exact ⟨_,_,_,_, .block hb (by simp),hq⟩
  | .loop a, σ,h,n,Q,_,hx => hx
  | .ranges x ps a b, σ,h,n,Q,_,hx => hx
  | .scope a, σ,h,n,Q,_,hx => hx
  | .label _, σ,h,n,Q,_,hx => ⟨_,_,_,_, .label,hx⟩
  | .exit id, σ,h,n,Q,_,hx => ⟨_,_,_,_, .exit,hx⟩
  | .ret, σ,h,n,Q,_,hx => ⟨_,_,_,_, .ret,hx⟩

structure Again (I : Nat → Fr → AHeap → Nat → Prop) (m : Nat) (σ : Fr) (h : AHeap) (n : Nat) (t : Tok I) : Prop where
  again : ∃ m',m' < m ∧ ∃ σ2 h2,FSub σ2 σ ∧ HSub h2 h ∧ I m' σ2 h2 n
theorem loop_inv {E : Env} {c : ACode} {Q : Ex → Fr → AHeap → Nat → Prop} (I : Nat → Fr → AHeap → Nat → Prop) (step : ∀ m σ h n,I m σ h n → HasCode E c σ h n fun e σ' h' n' => match e with
      | .normal => Again I m σ' h' n' ()
      | e => Q e σ' h' n') : ∀ (m : Nat) (σ : Fr) (h : AHeap) (n : Nat),I m σ h n → HasCode E (.loop c) σ h n Q := by
  intro m
  induction m using Nat.strongRecOn with
  | _ m ih =>
    intro σ h n hi
    obtain ⟨e, σ1,h1,n1,hb,hq⟩ := step m σ h n hi
    cases e with
    | normal =>
      obtain ⟨m',hlt, σ2,h2,hs,hh,hi2⟩ := hq.again
      obtain ⟨e, σ',h',n',hb2,hq2⟩ := ih m' hlt σ2 h2 n1 hi2
      exact ⟨e, σ',h',n', .loop (.weak hb hs hh) hb2,hq2⟩
    | exit j => exact ⟨_,_,_,_, .loopStop hb (by simp),hq⟩
    | ret => exact ⟨_,_,_,_, .loopStop hb (by simp),hq⟩
theorem FSub.nil (σ : Fr) : FSub [] σ := fun i v h => by cases h
theorem FSub.cons {σ σ' : Fr} {k : Nat} {v : Value} (hk : σ'.get k = some v) (hs : FSub σ σ') : FSub ((k,v) :: σ) σ' := fun i u h => by
  rw [Fr.get_cons] at h
  split at h
  · rename_i e; subst e; cases h; exact hk
  · exact hs i u h

theorem HasCode.start {E : Env} {c : ACode} {σ σ2 : Fr} {h h2 : AHeap} {n : Nat} {Q : Ex → Fr → AHeap → Nat → Prop} (hs : FSub σ2 σ) (hh : HSub h2 h) (x : HasCode E c σ2 h2 n Q) : HasCode E c σ h n Q := by
  obtain ⟨e, σ',h',n',hb,hq⟩ := x
  exact ⟨e, σ',h',n', .start hb hs hh,hq⟩
theorem HasCode.mono {E : Env} {c : ACode} {σ : Fr} {h : AHeap} {n : Nat} {Q Q' : Ex → Fr → AHeap → Nat → Prop} (x : HasCode E c σ h n Q) (hq : ∀ e σ' h' n',Q e σ' h' n' → Q' e σ' h' n') : HasCode E c σ h n Q' := by
  obtain ⟨e, σ',h',n',hb,hQ⟩ := x
  exact ⟨e, σ',h',n',hb,hq _ _ _ _ hQ⟩
def Done (rs : List ARes) (Q : Value → AHeap → Nat → Prop) (e : Ex) (σ' : Fr) (h1 : AHeap) (n1 : Nat) : Prop := (e = .normal ∨ e = .ret) ∧ ∃ vs,evRes σ' h1 rs = some vs ∧ Q (resVal vs) h1 n1
theorem ret_of_sx {E : Env} {f : Nat} {af : AFunc} {args : List Value} {h : AHeap} {n : Nat} {v : Value} {l : List (Nat × Blk)} {n' : Nat} (hf : E.fs f = some af) (ha : args.length ≤ af.ntmps) (hnd : (l.map (·.1)).Nodup) (hids : ∀ i,i ∈ l.map (·.1) → (h.get i).isSome ∨ n ≤ i ∧ i < n')
    (hx : sx E af.body (argFr 0 args) h n (Done af.results (fun v1 h1 n1 => v1 = v ∧ HSub (putsL h l) h1 ∧ n1 ≤ n')) ⟨⟩) : Ret E f args h n v l n' := by
  obtain ⟨e, σ',h1,n1,hb,he,vs,hvs,hv,hsub,hn⟩ := sx_big hx
  subst hv
  exact ⟨.lift (.call hf ha hb he hvs hsub) hn,hnd,hids⟩
theorem HasCall.inl {E : Env} {f : Nat} {af : AFunc} {args : List Value} {h : AHeap} {n : Nat} {Q : Value → AHeap → Nat → Prop} (hf : E.fs f = some af) (ha : args.length ≤ af.ntmps)
    (hx : sx E af.body (argFr 0 args) h n (Done af.results Q) ⟨⟩) : HasCall E f args h n Q := by
  obtain ⟨e, σ',h1,n1,hb,he,vs,hvs,hq⟩ := sx_big hx
  exact ⟨_,h1,n1, .call hf ha hb he hvs (fun _ _ x => x),hq⟩
theorem call_ret {E : Env} {f : Nat} {args : List Value} {h : AHeap} {n : Nat} {v : Value} {l : List (Nat × Blk)} {n' : Nat} {Q : Value → AHeap → Nat → Prop} {t : Tok Q} (x : Ret E f args h n v l n') (q : Q v (putsL h l) n') : HasCallT E f args h n Q t := HasCall.of_ret x q
end
end Go.Proofs.YtkdpjaaohddppaaGreatDoor.Am
namespace Go.Proofs.YtkdpjaaohddppaaGreatDoor.Am
noncomputable section
/- THE RULES,SEALED: nothing but their equations is known of them. -/
noncomputable section
def wxRun := Classical.choose (⟨@sxRun,rfl⟩ : ∃ f,f = @sxRun)
theorem wxRun_def : @wxRun = @sxRun := Classical.choose_spec (⟨@sxRun,rfl⟩ : ∃ f,f = @sxRun)
def wxOp := Classical.choose (⟨@sxOp,rfl⟩ : ∃ f,f = @sxOp)
theorem wxOp_def : @wxOp = @sxOp := Classical.choose_spec (⟨@sxOp,rfl⟩ : ∃ f,f = @sxOp)
def wxOps := Classical.choose (⟨@sxOps,rfl⟩ : ∃ f,f = @sxOps)
theorem wxOps_def : @wxOps = @sxOps := Classical.choose_spec (⟨@sxOps,rfl⟩ : ∃ f,f = @sxOps)
def wdRun := Classical.choose (⟨@dxRun,rfl⟩ : ∃ f,f = @dxRun)
theorem wdRun_def : @wdRun = @dxRun := Classical.choose_spec (⟨@dxRun,rfl⟩ : ∃ f,f = @dxRun)
def wxDraw := Classical.choose (⟨@sxDrawT,rfl⟩ : ∃ f,f = @sxDrawT)
theorem wxDraw_def : @wxDraw = @sxDrawT := Classical.choose_spec (⟨@sxDrawT,rfl⟩ : ∃ f,f = @sxDrawT)
def wx := Classical.choose (⟨@sx,rfl⟩ : ∃ f,f = @sx)
theorem wx_def : @wx = @sx := Classical.choose_spec (⟨@sx,rfl⟩ : ∃ f,f = @sx)
def thenI (E : Env) (b : ACode) (Q : Ex → Fr → AHeap → Nat → Prop) (_ : Tok Q) (e : Ex) (σ : Fr) (h : AHeap) (n : Nat) : Prop := match e with
    | .normal => sx E b σ h n Q ⟨⟩
    | e => Q e σ h n
def kThen := Classical.choose (⟨@thenI,rfl⟩ : ∃ f,f = @thenI)
theorem kThen_def : @kThen = @thenI := Classical.choose_spec (⟨@thenI,rfl⟩ : ∃ f,f = @thenI)
def blockI (id : Nat) (Q : Ex → Fr → AHeap → Nat → Prop) (_ : Tok Q) (e : Ex) (σ : Fr) (h : AHeap) (n : Nat) : Prop := match e with
    | .exit j => if j = id then Q .normal σ h n else Q (.exit j) σ h n
    | e => Q e σ h n
def kBlock := Classical.choose (⟨@blockI,rfl⟩ : ∃ f,f = @blockI)
theorem kBlock_def : @kBlock = @blockI := Classical.choose_spec (⟨@blockI,rfl⟩ : ∃ f,f = @blockI)
def roundI (E : Env) (c : ACode) (Q : Ex → Fr → AHeap → Nat → Prop) (_ : Tok Q) (e : Ex) (σ : Fr) (h : AHeap) (n : Nat) : Prop := match e with
    | .normal => HasCodeT E (.loop c) σ h n Q ⟨⟩
    | e => Q e σ h n
def kRound := Classical.choose (⟨@roundI,rfl⟩ : ∃ f,f = @roundI)
theorem kRound_def : @kRound = @roundI := Classical.choose_spec (⟨@roundI,rfl⟩ : ∃ f,f = @roundI)
def againI (I : Nat → Fr → AHeap → Nat → Prop) (m : Nat) (Q : Ex → Fr → AHeap → Nat → Prop) (_ : Tok I) (_ : Tok Q) (e : Ex) (σ : Fr) (h : AHeap) (n : Nat) : Prop := match e with
    | .normal => Again I m σ h n ()
    | e => Q e σ h n
def kAgain := Classical.choose (⟨@againI,rfl⟩ : ∃ f,f = @againI)
theorem kAgain_def : @kAgain = @againI := Classical.choose_spec (⟨@againI,rfl⟩ : ∃ f,f = @againI)
end
section
variable {E : Env} {σ : Fr} {h : AHeap} {n : Nat} {Q : Ex → Fr → AHeap → Nat → Prop} {t : Tok Q}
theorem kThen_normal {b : ACode} : kThen E b Q t .normal σ h n = wx E b σ h n Q () := by rw [kThen_def,wx_def]; rfl
theorem kThen_ret {b : ACode} : kThen E b Q t .ret σ h n = Q .ret σ h n := by rw [kThen_def]; rfl
theorem kThen_exit {b : ACode} {j : Nat} : kThen E b Q t (.exit j) σ h n = Q (.exit j) σ h n := by rw [kThen_def]; rfl
theorem kBlock_normal {id : Nat} : kBlock id Q t .normal σ h n = Q .normal σ h n := by rw [kBlock_def]; rfl
theorem kBlock_ret {id : Nat} : kBlock id Q t .ret σ h n = Q .ret σ h n := by rw [kBlock_def]; rfl
theorem kBlock_exit {id j : Nat} : kBlock id Q t (.exit j) σ h n = if j = id then Q .normal σ h n else Q (.exit j) σ h n := by rw [kBlock_def]; rfl
theorem kRound_normal {c : ACode} : kRound E c Q t .normal σ h n = HasCodeT E (.loop c) σ h n Q () := by rw [kRound_def]; rfl
theorem kRound_ret {c : ACode} : kRound E c Q t .ret σ h n = Q .ret σ h n := by rw [kRound_def]; rfl
theorem kRound_exit {c : ACode} {j : Nat} : kRound E c Q t (.exit j) σ h n = Q (.exit j) σ h n := by rw [kRound_def]; rfl
theorem kAgain_normal {I : Nat → Fr → AHeap → Nat → Prop} {m : Nat} {u : Tok I} : kAgain I m Q u t .normal σ h n = Again I m σ h n () := by rw [kAgain_def]; rfl
theorem kAgain_ret {I : Nat → Fr → AHeap → Nat → Prop} {m : Nat} {u : Tok I} : kAgain I m Q u t .ret σ h n = Q .ret σ h n := by rw [kAgain_def]; rfl
theorem kAgain_exit {I : Nat → Fr → AHeap → Nat → Prop} {m j : Nat} {u : Tok I} : kAgain I m Q u t (.exit j) σ h n = Q (.exit j) σ h n := by rw [kAgain_def]; rfl
theorem wx_skip : wx E .skip σ h n Q t = Q .normal σ h n := by rw [wx_def]; rfl
theorem wx_region {l : List AOper} : wx E (.region l none) σ h n Q t = wxOps E l σ h n (fun σ h n => Q .normal σ h n) () := by rw [wx_def,wxOps_def]; rfl
theorem wx_pure {l : List AOper} {ps : List (Nat × Nat)} (hp : (l.all fun o => o.op.pure) = true) : wx E (.region l (some ps)) σ h n Q t = wxOps E l σ h n (fun σ h n => Q .normal σ h n) () := by
  rw [wx_def,wxOps_def]
  show (bif l.all fun o => o.op.pure then _ else _) = _
  rw [hp]; rfl
theorem wx_tab {l : List AOper} {ps : List (Nat × Nat)} {lt : List (AOper × List Nat)} (hp : (l.all fun o => o.op.pure) = false) (hs : (ps.all fun p => Nat.blt p.1 p.2) = true) (ht : tabFrom l ps l 0 = lt) : wx E (.region l (some ps)) σ h n Q t = wxDraw E lt 0 σ h n [] (fun σ h n => Q .normal σ h n) () := by
  subst ht
  rw [wx_def,wxDraw_def]
  show (bif l.all fun o => o.op.pure then _ else _) = _
  rw [hp]
  show (_ ∧ _) = _
  rw [hs]
  simp
theorem wx_seq {a b : ACode} : wx E (.seq a b) σ h n Q t = wx E a σ h n (kThen E b Q ()) () := by
  rw [wx_def,kThen_def]
  show sx E a σ h n _ _ = sx E a σ h n _ _
  congr 1
theorem wx_cond {x : X} {a b : ACode} : wx E (.cond x a b) σ h n Q t = Test (X.ev σ h x) true (wx E a σ h n Q ()) (wx E b σ h n Q ()) () () := by rw [wx_def]; rfl
theorem wx_block {id : Nat} {a : ACode} : wx E (.block id a) σ h n Q t = wx E a σ h n (kBlock id Q ()) () := by
  rw [wx_def,kBlock_def]
  show sx E a σ h n _ _ = sx E a σ h n _ _
  congr 1
theorem wx_scope {a : ACode} : wx E (.scope a) σ h n Q t = HasCodeT E (.scope a) σ h n Q () := by rw [wx_def]; rfl
theorem wx_label {l : Nat} : wx E (.label l) σ h n Q t = Q .normal σ h n := by rw [wx_def]; rfl
theorem wx_ranges {x : X} {ps : List Nat} {a b : ACode} : wx E (.ranges x ps a b) σ h n Q t = HasCodeT E (.ranges x ps a b) σ h n Q () := by rw [wx_def]; rfl
theorem wx_loop {a : ACode} : wx E (.loop a) σ h n Q t = HasCodeT E (.loop a) σ h n Q () := by rw [wx_def]; rfl
theorem wx_exit {id : Nat} : wx E (.exit id) σ h n Q t = Q (.exit id) σ h n := by rw [wx_def]; rfl
theorem wx_ret : wx E .ret σ h n Q t = Q .ret σ h n := by rw [wx_def]; rfl
theorem wx_fail : wx E .fail σ h n Q t = False := by rw [wx_def]; rfl
theorem wxOp_plain {d : Option Nat} {op : AOp} {ds : List Nat} {K : Option Value → AHeap → Nat → Prop} {t : Tok K} : wxOp E ⟨d,op,none,ds⟩ σ h n K t = wxRun E op σ h n K () := by rw [wxOp_def,wxRun_def]; rfl
theorem wxOp_guard {d : Option Nat} {op : AOp} {g : Nat} {b : Bool} {ds : List Nat} {K : Option Value → AHeap → Nat → Prop} {t : Tok K} : wxOp E ⟨d,op,some (g,b),ds⟩ σ h n K t = Guard (σ.get g) b (wxRun E op σ h n K ()) (K (some undef) h n) () () := by rw [wxOp_def,wxRun_def]; rfl
theorem wxOps_nil {Q : Fr → AHeap → Nat → Prop} {t : Tok Q} : wxOps E [] σ h n Q t = Q σ h n := by rw [wxOps_def]; rfl
theorem wxOps_cons {o : AOper} {l : List AOper} {Q : Fr → AHeap → Nat → Prop} {t : Tok Q} : wxOps E (o :: l) σ h n Q t = wxOp E o σ h n (fun r h' n' => wxOps E l (setDst σ o.dst r) h' n' Q ()) () := by rw [wxOps_def,wxOp_def]; rfl
theorem wxDraw_nil {j : Nat} {past : List (Nat × Kd)} {Q : Fr → AHeap → Nat → Prop} {t : Tok Q} : wxDraw E [] j σ h n past Q t = Q σ h n := by rw [wxDraw_def]; rfl
theorem wxDraw_plain {d : Option Nat} {op : AOp} {ds : List Nat} {cf : List Nat} {l : List (AOper × List Nat)} {j : Nat} {past : List (Nat × Kd)} {Q : Fr → AHeap → Nat → Prop} {t : Tok Q} : wxDraw E ((⟨d,op,none,ds⟩,cf) :: l) j σ h n past Q t =
    wdRun E ⟨d,op,none,ds⟩ σ h n (fun r h' n' k => okTab cf k past ∧ wxDraw E l (j + 1) (setDst σ d r) h' n' ((j,k) :: past) Q ()) () := by rw [wxDraw_def,wdRun_def]; rfl
theorem wxDraw_guard {d : Option Nat} {op : AOp} {g : Nat} {b : Bool} {ds : List Nat} {cf : List Nat} {l : List (AOper × List Nat)} {j : Nat} {past : List (Nat × Kd)} {Q : Fr → AHeap → Nat → Prop} {t : Tok Q} : wxDraw E ((⟨d,op,some (g,b),ds⟩,cf) :: l) j σ h n past Q t =
    Guard (σ.get g) b (wdRun E ⟨d,op,some (g,b),ds⟩ σ h n (fun r h' n' k => okTab cf k past ∧ wxDraw E l (j + 1) (setDst σ d r) h' n' ((j,k) :: past) Q ()) ())
      (wxDraw E l (j + 1) (setDst σ d (some undef)) h n ((j,⟨some [],[]⟩) :: past) Q ()) () () := by rw [wxDraw_def,wdRun_def]; rfl
theorem okTab_none {k : Kd} {l : List (Nat × Kd)} : okTab [] k l = True := eq_true (okTab_nil k l)
theorem okTab_end {c : List Nat} {k : Kd} : okTab c k [] = True := rfl
theorem okTab_more {c i : Nat} {cs : List Nat} {k k' : Kd} {l : List (Nat × Kd)} : okTab (c :: cs) k ((i,k') :: l) = ((i ∈ c :: cs → k'.apart k) ∧ okTab (c :: cs) k l) := rfl
theorem wx_big {c : ACode} (x : wx E c σ h n Q t) : HasCode E c σ h n Q := by rw [wx_def] at x; exact sx_big x
theorem wx_inv {c : ACode} (I : Nat → Fr → AHeap → Nat → Prop) (step : ∀ m σ h n,I m σ h n → wx E c σ h n (kAgain I m Q () ()) ()) : ∀ (m : Nat) (σ : Fr) (h : AHeap) (n : Nat),I m σ h n → HasCode E (.loop c) σ h n Q := by
  refine loop_inv I fun m σ h n hi => ?_
  have x := wx_big (step m σ h n hi)
  rw [kAgain_def] at x
  have : (againI I m Q () ()) = fun e σ' h' n' => match e with
      | .normal => Again I m σ' h' n' ()
      | e => Q e σ' h' n' := by funext e σ h n; cases e <;> rfl
  rw [this] at x
  exact x
theorem wcall_inl {f : Nat} {af : AFunc} {args : List Value} {Q : Value → AHeap → Nat → Prop} {t : Tok Q} (hf : E.fs f = some af) (ha : args.length ≤ af.ntmps)
    (hx : wx E af.body (argFr 0 args) h n (Done af.results Q) ()) : HasCallT E f args h n Q t := by rw [wx_def] at hx; exact HasCall.inl hf ha hx
theorem wret_of {f : Nat} {af : AFunc} {args : List Value} {v : Value} {l : List (Nat × Blk)} {n' : Nat} (hf : E.fs f = some af) (ha : args.length ≤ af.ntmps) (hnd : (l.map (·.1)).Nodup) (hids : ∀ i,i ∈ l.map (·.1) → (h.get i).isSome ∨ n ≤ i ∧ i < n')
    (hx : wx E af.body (argFr 0 args) h n (Done af.results (fun v1 h1 n1 => v1 = v ∧ HSub (putsL h l) h1 ∧ n1 ≤ n')) ()) : Ret E f args h n v l n' := by rw [wx_def] at hx; exact ret_of_sx hf ha hnd hids hx
end
attribute [simp] wx_scope wx_label kThen_normal kThen_ret kThen_exit kBlock_normal kBlock_ret kBlock_exit kRound_normal kRound_ret kRound_exit kAgain_normal kAgain_ret kAgain_exit wx_skip wx_region wx_seq okTab_none okTab_end okTab_more wx_cond wx_block wx_ranges wx_loop wx_exit wx_ret wx_fail wxOp_plain wxOp_guard wxOps_nil wxOps_cons wxDraw_nil wxDraw_plain wxDraw_guard
/- Each operation by itself. -/
def dxPure (o : AOper) (σ : Fr) (h : AHeap) (n : Nat) (K : Option Value → AHeap → Nat → Kd → Prop) (_ : Tok K) : Prop := Runs (aev (X.ev σ (touch (touchIds o σ) h)) (touch (touchIds o σ) h) n o.op) n (fun r _ _ => K r h n ⟨some (touchIds o σ),[]⟩) ()
def dxMem (o : AOper) (σ : Fr) (h : AHeap) (n : Nat) (K : Option Value → AHeap → Nat → Kd → Prop) (_ : Tok K) : Prop := (∀ i,i ∈ touchIds o σ → i < n) ∧ Runs (aev (X.ev σ (touch (touchIds o σ) h)) (touch (touchIds o σ) h) n o.op) n (fun r h1 n1 =>
      chgOk (touch (touchIds o σ) h) h1 n n1 (chgOf (logOf (X.ev σ (touch (touchIds o σ) h)) o.op) n n1) ∧
      K r (h.puts h1 (chgOf (logOf (X.ev σ (touch (touchIds o σ) h)) o.op) n n1)) n1 ⟨some (touchIds o σ),chgOf (logOf (X.ev σ (touch (touchIds o σ) h)) o.op) n n1⟩) ()
attribute [simp] dxPure dxMem
theorem wxRun_mov {E : Env} {x0 : X} {σ : Fr} {h : AHeap} {n : Nat} {K : Option Value → AHeap → Nat → Prop} {t : Tok K} : wxRun E (.mov x0) σ h n K t = Runs (aev (X.ev σ h) h n (.mov x0)) n K () := by rw [wxRun_def]; rfl
theorem pure_mov {x0 : X} : AOp.pure (.mov x0) = true := rfl
theorem looks_mov {x0 : X} : AOp.looks (.mov x0) = false := rfl
theorem wdRun_mov {E : Env} {d : Option Nat} {x0 : X} {g : Option (Nat × Bool)} {ds : List Nat} {σ : Fr} {h : AHeap} {n : Nat} {K : Option Value → AHeap → Nat → Kd → Prop} {t : Tok K} : wdRun E ⟨d,(.mov x0),g,ds⟩ σ h n K t = dxPure ⟨d,(.mov x0),g,ds⟩ σ h n K () := by rw [wdRun_def]; rfl
theorem wxRun_pick {E : Env} {x0 : X} {x1 : X} {x2 : X} {σ : Fr} {h : AHeap} {n : Nat} {K : Option Value → AHeap → Nat → Prop} {t : Tok K} : wxRun E (.pick x0 x1 x2) σ h n K t = Runs (aev (X.ev σ h) h n (.pick x0 x1 x2)) n K () := by rw [wxRun_def]; rfl
theorem pure_pick {x0 : X} {x1 : X} {x2 : X} : AOp.pure (.pick x0 x1 x2) = true := rfl
theorem looks_pick {x0 : X} {x1 : X} {x2 : X} : AOp.looks (.pick x0 x1 x2) = false := rfl
theorem wdRun_pick {E : Env} {d : Option Nat} {x0 : X} {x1 : X} {x2 : X} {g : Option (Nat × Bool)} {ds : List Nat} {σ : Fr} {h : AHeap} {n : Nat} {K : Option Value → AHeap → Nat → Kd → Prop} {t : Tok K} : wdRun E ⟨d,(.pick x0 x1 x2),g,ds⟩ σ h n K t = dxPure ⟨d,(.pick x0 x1 x2),g,ds⟩ σ h n K () := by rw [wdRun_def]; rfl
theorem wxRun_alloc {E : Env} {x0 : Nat} {x1 : List Value} {σ : Fr} {h : AHeap} {n : Nat} {K : Option Value → AHeap → Nat → Prop} {t : Tok K} : wxRun E (.alloc x0 x1) σ h n K t = Runs (aev (X.ev σ h) h n (.alloc x0 x1)) n K () := by rw [wxRun_def]; rfl
theorem pure_alloc {x0 : Nat} {x1 : List Value} : AOp.pure (.alloc x0 x1) = false := rfl
theorem looks_alloc {x0 : Nat} {x1 : List Value} : AOp.looks (.alloc x0 x1) = false := rfl
theorem target_alloc {x0 : Nat} {x1 : List Value} : AOp.target (.alloc x0 x1) = none := rfl
theorem wdRun_alloc {E : Env} {d : Option Nat} {x0 : Nat} {x1 : List Value} {g : Option (Nat × Bool)} {ds : List Nat} {σ : Fr} {h : AHeap} {n : Nat} {K : Option Value → AHeap → Nat → Kd → Prop} {t : Tok K} : wdRun E ⟨d,(.alloc x0 x1),g,ds⟩ σ h n K t = dxMem ⟨d,(.alloc x0 x1),g,ds⟩ σ h n K () := by rw [wdRun_def]; rfl
theorem wxRun_box {E : Env} {x0 : Nat} {x1 : X} {σ : Fr} {h : AHeap} {n : Nat} {K : Option Value → AHeap → Nat → Prop} {t : Tok K} : wxRun E (.box x0 x1) σ h n K t = Runs (aev (X.ev σ h) h n (.box x0 x1)) n K () := by rw [wxRun_def]; rfl
theorem pure_box {x0 : Nat} {x1 : X} : AOp.pure (.box x0 x1) = false := rfl
theorem looks_box {x0 : Nat} {x1 : X} : AOp.looks (.box x0 x1) = false := rfl
theorem target_box {x0 : Nat} {x1 : X} : AOp.target (.box x0 x1) = none := rfl
theorem wdRun_box {E : Env} {d : Option Nat} {x0 : Nat} {x1 : X} {g : Option (Nat × Bool)} {ds : List Nat} {σ : Fr} {h : AHeap} {n : Nat} {K : Option Value → AHeap → Nat → Kd → Prop} {t : Tok K} : wdRun E ⟨d,(.box x0 x1),g,ds⟩ σ h n K t = dxMem ⟨d,(.box x0 x1),g,ds⟩ σ h n K () := by rw [wdRun_def]; rfl
theorem wxRun_build {E : Env} {x0 : List Value} {x1 : List (Nat × Nat × X)} {σ : Fr} {h : AHeap} {n : Nat} {K : Option Value → AHeap → Nat → Prop} {t : Tok K} : wxRun E (.build x0 x1) σ h n K t = Runs (aev (X.ev σ h) h n (.build x0 x1)) n K () := by rw [wxRun_def]; rfl
theorem pure_build {x0 : List Value} {x1 : List (Nat × Nat × X)} : AOp.pure (.build x0 x1) = true := rfl
theorem looks_build {x0 : List Value} {x1 : List (Nat × Nat × X)} : AOp.looks (.build x0 x1) = false := rfl
theorem wdRun_build {E : Env} {d : Option Nat} {x0 : List Value} {x1 : List (Nat × Nat × X)} {g : Option (Nat × Bool)} {ds : List Nat} {σ : Fr} {h : AHeap} {n : Nat} {K : Option Value → AHeap → Nat → Kd → Prop} {t : Tok K} : wdRun E ⟨d,(.build x0 x1),g,ds⟩ σ h n K t = dxPure ⟨d,(.build x0 x1),g,ds⟩ σ h n K () := by rw [wdRun_def]; rfl
theorem wxRun_buildSlice {E : Env} {x0 : Nat} {x1 : Nat} {x2 : Nat} {x3 : List Value} {x4 : List (Nat × Nat × X)} {σ : Fr} {h : AHeap} {n : Nat} {K : Option Value → AHeap → Nat → Prop} {t : Tok K} : wxRun E (.buildSlice x0 x1 x2 x3 x4) σ h n K t = Runs (aev (X.ev σ h) h n (.buildSlice x0 x1 x2 x3 x4)) n K () := by rw [wxRun_def]; rfl
theorem pure_buildSlice {x0 : Nat} {x1 : Nat} {x2 : Nat} {x3 : List Value} {x4 : List (Nat × Nat × X)} : AOp.pure (.buildSlice x0 x1 x2 x3 x4) = false := rfl
theorem looks_buildSlice {x0 : Nat} {x1 : Nat} {x2 : Nat} {x3 : List Value} {x4 : List (Nat × Nat × X)} : AOp.looks (.buildSlice x0 x1 x2 x3 x4) = false := rfl
theorem target_buildSlice {x0 : Nat} {x1 : Nat} {x2 : Nat} {x3 : List Value} {x4 : List (Nat × Nat × X)} : AOp.target (.buildSlice x0 x1 x2 x3 x4) = none := rfl
theorem wdRun_buildSlice {E : Env} {d : Option Nat} {x0 : Nat} {x1 : Nat} {x2 : Nat} {x3 : List Value} {x4 : List (Nat × Nat × X)} {g : Option (Nat × Bool)} {ds : List Nat} {σ : Fr} {h : AHeap} {n : Nat} {K : Option Value → AHeap → Nat → Kd → Prop} {t : Tok K} : wdRun E ⟨d,(.buildSlice x0 x1 x2 x3 x4),g,ds⟩ σ h n K t = dxMem ⟨d,(.buildSlice x0 x1 x2 x3 x4),g,ds⟩ σ h n K () := by rw [wdRun_def]; rfl
theorem wxRun_load {E : Env} {x0 : Option Nat} {x1 : X} {σ : Fr} {h : AHeap} {n : Nat} {K : Option Value → AHeap → Nat → Prop} {t : Tok K} : wxRun E (.load x0 x1) σ h n K t = Runs (aev (X.ev σ h) h n (.load x0 x1)) n K () := by rw [wxRun_def]; rfl
theorem pure_load {x0 : Option Nat} {x1 : X} : AOp.pure (.load x0 x1) = true := rfl
theorem looks_load {x0 : Option Nat} {x1 : X} : AOp.looks (.load x0 x1) = true := rfl
theorem wdRun_load {E : Env} {d : Option Nat} {x0 : Option Nat} {x1 : X} {g : Option (Nat × Bool)} {ds : List Nat} {σ : Fr} {h : AHeap} {n : Nat} {K : Option Value → AHeap → Nat → Kd → Prop} {t : Tok K} : wdRun E ⟨d,(.load x0 x1),g,ds⟩ σ h n K t = dxPure ⟨d,(.load x0 x1),g,ds⟩ σ h n K () := by rw [wdRun_def]; rfl
theorem wxRun_store {E : Env} {x0 : Nat} {x1 : X} {x2 : X} {σ : Fr} {h : AHeap} {n : Nat} {K : Option Value → AHeap → Nat → Prop} {t : Tok K} : wxRun E (.store x0 x1 x2) σ h n K t = Runs (aev (X.ev σ h) h n (.store x0 x1 x2)) n K () := by rw [wxRun_def]; rfl
theorem pure_store {x0 : Nat} {x1 : X} {x2 : X} : AOp.pure (.store x0 x1 x2) = false := rfl
theorem looks_store {x0 : Nat} {x1 : X} {x2 : X} : AOp.looks (.store x0 x1 x2) = true := rfl
theorem target_store {x0 : Nat} {x1 : X} {x2 : X} : AOp.target (.store x0 x1 x2) = some x1 := rfl
theorem wdRun_store {E : Env} {d : Option Nat} {x0 : Nat} {x1 : X} {x2 : X} {g : Option (Nat × Bool)} {ds : List Nat} {σ : Fr} {h : AHeap} {n : Nat} {K : Option Value → AHeap → Nat → Kd → Prop} {t : Tok K} : wdRun E ⟨d,(.store x0 x1 x2),g,ds⟩ σ h n K t = dxMem ⟨d,(.store x0 x1 x2),g,ds⟩ σ h n K () := by rw [wdRun_def]; rfl
theorem wxRun_nilCheck {E : Env} {x0 : X} {σ : Fr} {h : AHeap} {n : Nat} {K : Option Value → AHeap → Nat → Prop} {t : Tok K} : wxRun E (.nilCheck x0) σ h n K t = Runs (aev (X.ev σ h) h n (.nilCheck x0)) n K () := by rw [wxRun_def]; rfl
theorem pure_nilCheck {x0 : X} : AOp.pure (.nilCheck x0) = true := rfl
theorem looks_nilCheck {x0 : X} : AOp.looks (.nilCheck x0) = false := rfl
theorem wdRun_nilCheck {E : Env} {d : Option Nat} {x0 : X} {g : Option (Nat × Bool)} {ds : List Nat} {σ : Fr} {h : AHeap} {n : Nat} {K : Option Value → AHeap → Nat → Kd → Prop} {t : Tok K} : wdRun E ⟨d,(.nilCheck x0),g,ds⟩ σ h n K t = dxPure ⟨d,(.nilCheck x0),g,ds⟩ σ h n K () := by rw [wdRun_def]; rfl
theorem wxRun_bin {E : Env} {x0 : BinOp} {x1 : X} {x2 : X} {σ : Fr} {h : AHeap} {n : Nat} {K : Option Value → AHeap → Nat → Prop} {t : Tok K} : wxRun E (.bin x0 x1 x2) σ h n K t = Runs (aev (X.ev σ h) h n (.bin x0 x1 x2)) n K () := by rw [wxRun_def]; rfl
theorem pure_bin {x0 : BinOp} {x1 : X} {x2 : X} : AOp.pure (.bin x0 x1 x2) = true := rfl
theorem looks_bin {x0 : BinOp} {x1 : X} {x2 : X} : AOp.looks (.bin x0 x1 x2) = false := rfl
theorem wdRun_bin {E : Env} {d : Option Nat} {x0 : BinOp} {x1 : X} {x2 : X} {g : Option (Nat × Bool)} {ds : List Nat} {σ : Fr} {h : AHeap} {n : Nat} {K : Option Value → AHeap → Nat → Kd → Prop} {t : Tok K} : wdRun E ⟨d,(.bin x0 x1 x2),g,ds⟩ σ h n K t = dxPure ⟨d,(.bin x0 x1 x2),g,ds⟩ σ h n K () := by rw [wdRun_def]; rfl
theorem wxRun_eqv {E : Env} {x0 : Bool} {x1 : Rk} {x2 : Bool} {x3 : X} {x4 : X} {σ : Fr} {h : AHeap} {n : Nat} {K : Option Value → AHeap → Nat → Prop} {t : Tok K} : wxRun E (.eqv x0 x1 x2 x3 x4) σ h n K t = Runs (aev (X.ev σ h) h n (.eqv x0 x1 x2 x3 x4)) n K () := by rw [wxRun_def]; rfl
theorem pure_eqv {x0 : Bool} {x1 : Rk} {x2 : Bool} {x3 : X} {x4 : X} : AOp.pure (.eqv x0 x1 x2 x3 x4) = true := rfl
theorem looks_eqv {x0 : Bool} {x1 : Rk} {x2 : Bool} {x3 : X} {x4 : X} : AOp.looks (.eqv x0 x1 x2 x3 x4) = false := rfl
theorem wdRun_eqv {E : Env} {d : Option Nat} {x0 : Bool} {x1 : Rk} {x2 : Bool} {x3 : X} {x4 : X} {g : Option (Nat × Bool)} {ds : List Nat} {σ : Fr} {h : AHeap} {n : Nat} {K : Option Value → AHeap → Nat → Kd → Prop} {t : Tok K} : wdRun E ⟨d,(.eqv x0 x1 x2 x3 x4),g,ds⟩ σ h n K t = dxPure ⟨d,(.eqv x0 x1 x2 x3 x4),g,ds⟩ σ h n K () := by rw [wdRun_def]; rfl
theorem wxRun_eqAgg {E : Env} {x0 : Bool} {x1 : List Leaf} {x2 : X} {x3 : X} {σ : Fr} {h : AHeap} {n : Nat} {K : Option Value → AHeap → Nat → Prop} {t : Tok K} : wxRun E (.eqAgg x0 x1 x2 x3) σ h n K t = Runs (aev (X.ev σ h) h n (.eqAgg x0 x1 x2 x3)) n K () := by rw [wxRun_def]; rfl
theorem pure_eqAgg {x0 : Bool} {x1 : List Leaf} {x2 : X} {x3 : X} : AOp.pure (.eqAgg x0 x1 x2 x3) = true := rfl
theorem looks_eqAgg {x0 : Bool} {x1 : List Leaf} {x2 : X} {x3 : X} : AOp.looks (.eqAgg x0 x1 x2 x3) = false := rfl
theorem wdRun_eqAgg {E : Env} {d : Option Nat} {x0 : Bool} {x1 : List Leaf} {x2 : X} {x3 : X} {g : Option (Nat × Bool)} {ds : List Nat} {σ : Fr} {h : AHeap} {n : Nat} {K : Option Value → AHeap → Nat → Kd → Prop} {t : Tok K} : wdRun E ⟨d,(.eqAgg x0 x1 x2 x3),g,ds⟩ σ h n K t = dxPure ⟨d,(.eqAgg x0 x1 x2 x3),g,ds⟩ σ h n K () := by rw [wdRun_def]; rfl
theorem wxRun_un {E : Env} {x0 : UnOp} {x1 : X} {σ : Fr} {h : AHeap} {n : Nat} {K : Option Value → AHeap → Nat → Prop} {t : Tok K} : wxRun E (.un x0 x1) σ h n K t = Runs (aev (X.ev σ h) h n (.un x0 x1)) n K () := by rw [wxRun_def]; rfl
theorem pure_un {x0 : UnOp} {x1 : X} : AOp.pure (.un x0 x1) = true := rfl
theorem looks_un {x0 : UnOp} {x1 : X} : AOp.looks (.un x0 x1) = false := rfl
theorem wdRun_un {E : Env} {d : Option Nat} {x0 : UnOp} {x1 : X} {g : Option (Nat × Bool)} {ds : List Nat} {σ : Fr} {h : AHeap} {n : Nat} {K : Option Value → AHeap → Nat → Kd → Prop} {t : Tok K} : wdRun E ⟨d,(.un x0 x1),g,ds⟩ σ h n K t = dxPure ⟨d,(.un x0 x1),g,ds⟩ σ h n K () := by rw [wdRun_def]; rfl
theorem wxRun_conv {E : Env} {x0 : IntKind} {x1 : X} {σ : Fr} {h : AHeap} {n : Nat} {K : Option Value → AHeap → Nat → Prop} {t : Tok K} : wxRun E (.conv x0 x1) σ h n K t = Runs (aev (X.ev σ h) h n (.conv x0 x1)) n K () := by rw [wxRun_def]; rfl
theorem pure_conv {x0 : IntKind} {x1 : X} : AOp.pure (.conv x0 x1) = true := rfl
theorem looks_conv {x0 : IntKind} {x1 : X} : AOp.looks (.conv x0 x1) = false := rfl
theorem wdRun_conv {E : Env} {d : Option Nat} {x0 : IntKind} {x1 : X} {g : Option (Nat × Bool)} {ds : List Nat} {σ : Fr} {h : AHeap} {n : Nat} {K : Option Value → AHeap → Nat → Kd → Prop} {t : Tok K} : wdRun E ⟨d,(.conv x0 x1),g,ds⟩ σ h n K t = dxPure ⟨d,(.conv x0 x1),g,ds⟩ σ h n K () := by rw [wdRun_def]; rfl
theorem wxRun_same {E : Env} {x0 : X} {σ : Fr} {h : AHeap} {n : Nat} {K : Option Value → AHeap → Nat → Prop} {t : Tok K} : wxRun E (.same x0) σ h n K t = Runs (aev (X.ev σ h) h n (.same x0)) n K () := by rw [wxRun_def]; rfl
theorem pure_same {x0 : X} : AOp.pure (.same x0) = true := rfl
theorem looks_same {x0 : X} : AOp.looks (.same x0) = false := rfl
theorem wdRun_same {E : Env} {d : Option Nat} {x0 : X} {g : Option (Nat × Bool)} {ds : List Nat} {σ : Fr} {h : AHeap} {n : Nat} {K : Option Value → AHeap → Nat → Kd → Prop} {t : Tok K} : wdRun E ⟨d,(.same x0),g,ds⟩ σ h n K t = dxPure ⟨d,(.same x0),g,ds⟩ σ h n K () := by rw [wdRun_def]; rfl
theorem wxRun_bytesOf {E : Env} {x0 : Nat} {x1 : X} {σ : Fr} {h : AHeap} {n : Nat} {K : Option Value → AHeap → Nat → Prop} {t : Tok K} : wxRun E (.bytesOf x0 x1) σ h n K t = Runs (aev (X.ev σ h) h n (.bytesOf x0 x1)) n K () := by rw [wxRun_def]; rfl
theorem pure_bytesOf {x0 : Nat} {x1 : X} : AOp.pure (.bytesOf x0 x1) = false := rfl
theorem looks_bytesOf {x0 : Nat} {x1 : X} : AOp.looks (.bytesOf x0 x1) = false := rfl
theorem target_bytesOf {x0 : Nat} {x1 : X} : AOp.target (.bytesOf x0 x1) = none := rfl
theorem wdRun_bytesOf {E : Env} {d : Option Nat} {x0 : Nat} {x1 : X} {g : Option (Nat × Bool)} {ds : List Nat} {σ : Fr} {h : AHeap} {n : Nat} {K : Option Value → AHeap → Nat → Kd → Prop} {t : Tok K} : wdRun E ⟨d,(.bytesOf x0 x1),g,ds⟩ σ h n K t = dxMem ⟨d,(.bytesOf x0 x1),g,ds⟩ σ h n K () := by rw [wdRun_def]; rfl
theorem wxRun_strOf {E : Env} {x0 : X} {σ : Fr} {h : AHeap} {n : Nat} {K : Option Value → AHeap → Nat → Prop} {t : Tok K} : wxRun E (.strOf x0) σ h n K t = Runs (aev (X.ev σ h) h n (.strOf x0)) n K () := by rw [wxRun_def]; rfl
theorem pure_strOf {x0 : X} : AOp.pure (.strOf x0) = true := rfl
theorem looks_strOf {x0 : X} : AOp.looks (.strOf x0) = true := rfl
theorem wdRun_strOf {E : Env} {d : Option Nat} {x0 : X} {g : Option (Nat × Bool)} {ds : List Nat} {σ : Fr} {h : AHeap} {n : Nat} {K : Option Value → AHeap → Nat → Kd → Prop} {t : Tok K} : wdRun E ⟨d,(.strOf x0),g,ds⟩ σ h n K t = dxPure ⟨d,(.strOf x0),g,ds⟩ σ h n K () := by rw [wdRun_def]; rfl
theorem wxRun_sliceStr {E : Env} {x0 : X} {x1 : Option X} {x2 : Option X} {σ : Fr} {h : AHeap} {n : Nat} {K : Option Value → AHeap → Nat → Prop} {t : Tok K} : wxRun E (.sliceStr x0 x1 x2) σ h n K t = Runs (aev (X.ev σ h) h n (.sliceStr x0 x1 x2)) n K () := by rw [wxRun_def]; rfl
theorem pure_sliceStr {x0 : X} {x1 : Option X} {x2 : Option X} : AOp.pure (.sliceStr x0 x1 x2) = true := rfl
theorem looks_sliceStr {x0 : X} {x1 : Option X} {x2 : Option X} : AOp.looks (.sliceStr x0 x1 x2) = false := rfl
theorem wdRun_sliceStr {E : Env} {d : Option Nat} {x0 : X} {x1 : Option X} {x2 : Option X} {g : Option (Nat × Bool)} {ds : List Nat} {σ : Fr} {h : AHeap} {n : Nat} {K : Option Value → AHeap → Nat → Kd → Prop} {t : Tok K} : wdRun E ⟨d,(.sliceStr x0 x1 x2),g,ds⟩ σ h n K t = dxPure ⟨d,(.sliceStr x0 x1 x2),g,ds⟩ σ h n K () := by rw [wdRun_def]; rfl
theorem wxRun_slice {E : Env} {x0 : Nat} {x1 : X} {x2 : Option X} {x3 : Option X} {x4 : Option X} {σ : Fr} {h : AHeap} {n : Nat} {K : Option Value → AHeap → Nat → Prop} {t : Tok K} : wxRun E (.slice x0 x1 x2 x3 x4) σ h n K t = Runs (aev (X.ev σ h) h n (.slice x0 x1 x2 x3 x4)) n K () := by rw [wxRun_def]; rfl
theorem pure_slice {x0 : Nat} {x1 : X} {x2 : Option X} {x3 : Option X} {x4 : Option X} : AOp.pure (.slice x0 x1 x2 x3 x4) = true := rfl
theorem looks_slice {x0 : Nat} {x1 : X} {x2 : Option X} {x3 : Option X} {x4 : Option X} : AOp.looks (.slice x0 x1 x2 x3 x4) = false := rfl
theorem wdRun_slice {E : Env} {d : Option Nat} {x0 : Nat} {x1 : X} {x2 : Option X} {x3 : Option X} {x4 : Option X} {g : Option (Nat × Bool)} {ds : List Nat} {σ : Fr} {h : AHeap} {n : Nat} {K : Option Value → AHeap → Nat → Kd → Prop} {t : Tok K} : wdRun E ⟨d,(.slice x0 x1 x2 x3 x4),g,ds⟩ σ h n K t = dxPure ⟨d,(.slice x0 x1 x2 x3 x4),g,ds⟩ σ h n K () := by rw [wdRun_def]; rfl
theorem wxRun_sliceArr {E : Env} {x0 : Nat} {x1 : Nat} {x2 : X} {x3 : Option X} {x4 : Option X} {σ : Fr} {h : AHeap} {n : Nat} {K : Option Value → AHeap → Nat → Prop} {t : Tok K} : wxRun E (.sliceArr x0 x1 x2 x3 x4) σ h n K t = Runs (aev (X.ev σ h) h n (.sliceArr x0 x1 x2 x3 x4)) n K () := by rw [wxRun_def]; rfl
theorem pure_sliceArr {x0 : Nat} {x1 : Nat} {x2 : X} {x3 : Option X} {x4 : Option X} : AOp.pure (.sliceArr x0 x1 x2 x3 x4) = true := rfl
theorem looks_sliceArr {x0 : Nat} {x1 : Nat} {x2 : X} {x3 : Option X} {x4 : Option X} : AOp.looks (.sliceArr x0 x1 x2 x3 x4) = false := rfl
theorem wdRun_sliceArr {E : Env} {d : Option Nat} {x0 : Nat} {x1 : Nat} {x2 : X} {x3 : Option X} {x4 : Option X} {g : Option (Nat × Bool)} {ds : List Nat} {σ : Fr} {h : AHeap} {n : Nat} {K : Option Value → AHeap → Nat → Kd → Prop} {t : Tok K} : wdRun E ⟨d,(.sliceArr x0 x1 x2 x3 x4),g,ds⟩ σ h n K t = dxPure ⟨d,(.sliceArr x0 x1 x2 x3 x4),g,ds⟩ σ h n K () := by rw [wdRun_def]; rfl
theorem wxRun_fieldAddr {E : Env} {x0 : Nat} {x1 : X} {σ : Fr} {h : AHeap} {n : Nat} {K : Option Value → AHeap → Nat → Prop} {t : Tok K} : wxRun E (.fieldAddr x0 x1) σ h n K t = Runs (aev (X.ev σ h) h n (.fieldAddr x0 x1)) n K () := by rw [wxRun_def]; rfl
theorem pure_fieldAddr {x0 : Nat} {x1 : X} : AOp.pure (.fieldAddr x0 x1) = true := rfl
theorem looks_fieldAddr {x0 : Nat} {x1 : X} : AOp.looks (.fieldAddr x0 x1) = false := rfl
theorem wdRun_fieldAddr {E : Env} {d : Option Nat} {x0 : Nat} {x1 : X} {g : Option (Nat × Bool)} {ds : List Nat} {σ : Fr} {h : AHeap} {n : Nat} {K : Option Value → AHeap → Nat → Kd → Prop} {t : Tok K} : wdRun E ⟨d,(.fieldAddr x0 x1),g,ds⟩ σ h n K t = dxPure ⟨d,(.fieldAddr x0 x1),g,ds⟩ σ h n K () := by rw [wdRun_def]; rfl
theorem wxRun_field {E : Env} {x0 : Nat} {x1 : Option Nat} {x2 : X} {σ : Fr} {h : AHeap} {n : Nat} {K : Option Value → AHeap → Nat → Prop} {t : Tok K} : wxRun E (.field x0 x1 x2) σ h n K t = Runs (aev (X.ev σ h) h n (.field x0 x1 x2)) n K () := by rw [wxRun_def]; rfl
theorem pure_field {x0 : Nat} {x1 : Option Nat} {x2 : X} : AOp.pure (.field x0 x1 x2) = true := rfl
theorem looks_field {x0 : Nat} {x1 : Option Nat} {x2 : X} : AOp.looks (.field x0 x1 x2) = false := rfl
theorem wdRun_field {E : Env} {d : Option Nat} {x0 : Nat} {x1 : Option Nat} {x2 : X} {g : Option (Nat × Bool)} {ds : List Nat} {σ : Fr} {h : AHeap} {n : Nat} {K : Option Value → AHeap → Nat → Kd → Prop} {t : Tok K} : wdRun E ⟨d,(.field x0 x1 x2),g,ds⟩ σ h n K t = dxPure ⟨d,(.field x0 x1 x2),g,ds⟩ σ h n K () := by rw [wdRun_def]; rfl
theorem wxRun_indexAddr {E : Env} {x0 : Nat} {x1 : X} {x2 : X} {σ : Fr} {h : AHeap} {n : Nat} {K : Option Value → AHeap → Nat → Prop} {t : Tok K} : wxRun E (.indexAddr x0 x1 x2) σ h n K t = Runs (aev (X.ev σ h) h n (.indexAddr x0 x1 x2)) n K () := by rw [wxRun_def]; rfl
theorem pure_indexAddr {x0 : Nat} {x1 : X} {x2 : X} : AOp.pure (.indexAddr x0 x1 x2) = true := rfl
theorem looks_indexAddr {x0 : Nat} {x1 : X} {x2 : X} : AOp.looks (.indexAddr x0 x1 x2) = false := rfl
theorem wdRun_indexAddr {E : Env} {d : Option Nat} {x0 : Nat} {x1 : X} {x2 : X} {g : Option (Nat × Bool)} {ds : List Nat} {σ : Fr} {h : AHeap} {n : Nat} {K : Option Value → AHeap → Nat → Kd → Prop} {t : Tok K} : wdRun E ⟨d,(.indexAddr x0 x1 x2),g,ds⟩ σ h n K t = dxPure ⟨d,(.indexAddr x0 x1 x2),g,ds⟩ σ h n K () := by rw [wdRun_def]; rfl
theorem wxRun_indexArr {E : Env} {x0 : Nat} {x1 : Nat} {x2 : X} {x3 : X} {σ : Fr} {h : AHeap} {n : Nat} {K : Option Value → AHeap → Nat → Prop} {t : Tok K} : wxRun E (.indexArr x0 x1 x2 x3) σ h n K t = Runs (aev (X.ev σ h) h n (.indexArr x0 x1 x2 x3)) n K () := by rw [wxRun_def]; rfl
theorem pure_indexArr {x0 : Nat} {x1 : Nat} {x2 : X} {x3 : X} : AOp.pure (.indexArr x0 x1 x2 x3) = true := rfl
theorem looks_indexArr {x0 : Nat} {x1 : Nat} {x2 : X} {x3 : X} : AOp.looks (.indexArr x0 x1 x2 x3) = false := rfl
theorem wdRun_indexArr {E : Env} {d : Option Nat} {x0 : Nat} {x1 : Nat} {x2 : X} {x3 : X} {g : Option (Nat × Bool)} {ds : List Nat} {σ : Fr} {h : AHeap} {n : Nat} {K : Option Value → AHeap → Nat → Kd → Prop} {t : Tok K} : wdRun E ⟨d,(.indexArr x0 x1 x2 x3),g,ds⟩ σ h n K t = dxPure ⟨d,(.indexArr x0 x1 x2 x3),g,ds⟩ σ h n K () := by rw [wdRun_def]; rfl
theorem wxRun_index {E : Env} {x0 : Nat} {x1 : Nat} {x2 : Option Nat} {x3 : X} {x4 : X} {σ : Fr} {h : AHeap} {n : Nat} {K : Option Value → AHeap → Nat → Prop} {t : Tok K} : wxRun E (.index x0 x1 x2 x3 x4) σ h n K t = Runs (aev (X.ev σ h) h n (.index x0 x1 x2 x3 x4)) n K () := by rw [wxRun_def]; rfl
theorem pure_index {x0 : Nat} {x1 : Nat} {x2 : Option Nat} {x3 : X} {x4 : X} : AOp.pure (.index x0 x1 x2 x3 x4) = true := rfl
theorem looks_index {x0 : Nat} {x1 : Nat} {x2 : Option Nat} {x3 : X} {x4 : X} : AOp.looks (.index x0 x1 x2 x3 x4) = false := rfl
theorem wdRun_index {E : Env} {d : Option Nat} {x0 : Nat} {x1 : Nat} {x2 : Option Nat} {x3 : X} {x4 : X} {g : Option (Nat × Bool)} {ds : List Nat} {σ : Fr} {h : AHeap} {n : Nat} {K : Option Value → AHeap → Nat → Kd → Prop} {t : Tok K} : wdRun E ⟨d,(.index x0 x1 x2 x3 x4),g,ds⟩ σ h n K t = dxPure ⟨d,(.index x0 x1 x2 x3 x4),g,ds⟩ σ h n K () := by rw [wdRun_def]; rfl
theorem wxRun_indexStr {E : Env} {x0 : X} {x1 : X} {σ : Fr} {h : AHeap} {n : Nat} {K : Option Value → AHeap → Nat → Prop} {t : Tok K} : wxRun E (.indexStr x0 x1) σ h n K t = Runs (aev (X.ev σ h) h n (.indexStr x0 x1)) n K () := by rw [wxRun_def]; rfl
theorem pure_indexStr {x0 : X} {x1 : X} : AOp.pure (.indexStr x0 x1) = true := rfl
theorem looks_indexStr {x0 : X} {x1 : X} : AOp.looks (.indexStr x0 x1) = false := rfl
theorem wdRun_indexStr {E : Env} {d : Option Nat} {x0 : X} {x1 : X} {g : Option (Nat × Bool)} {ds : List Nat} {σ : Fr} {h : AHeap} {n : Nat} {K : Option Value → AHeap → Nat → Kd → Prop} {t : Tok K} : wdRun E ⟨d,(.indexStr x0 x1),g,ds⟩ σ h n K t = dxPure ⟨d,(.indexStr x0 x1),g,ds⟩ σ h n K () := by rw [wdRun_def]; rfl
theorem wxRun_extract {E : Env} {x0 : X} {x1 : Nat} {σ : Fr} {h : AHeap} {n : Nat} {K : Option Value → AHeap → Nat → Prop} {t : Tok K} : wxRun E (.extract x0 x1) σ h n K t = Runs (aev (X.ev σ h) h n (.extract x0 x1)) n K () := by rw [wxRun_def]; rfl
theorem pure_extract {x0 : X} {x1 : Nat} : AOp.pure (.extract x0 x1) = true := rfl
theorem looks_extract {x0 : X} {x1 : Nat} : AOp.looks (.extract x0 x1) = false := rfl
theorem wdRun_extract {E : Env} {d : Option Nat} {x0 : X} {x1 : Nat} {g : Option (Nat × Bool)} {ds : List Nat} {σ : Fr} {h : AHeap} {n : Nat} {K : Option Value → AHeap → Nat → Kd → Prop} {t : Tok K} : wdRun E ⟨d,(.extract x0 x1),g,ds⟩ σ h n K t = dxPure ⟨d,(.extract x0 x1),g,ds⟩ σ h n K () := by rw [wdRun_def]; rfl
theorem wxRun_lenStr {E : Env} {x0 : X} {σ : Fr} {h : AHeap} {n : Nat} {K : Option Value → AHeap → Nat → Prop} {t : Tok K} : wxRun E (.lenStr x0) σ h n K t = Runs (aev (X.ev σ h) h n (.lenStr x0)) n K () := by rw [wxRun_def]; rfl
theorem pure_lenStr {x0 : X} : AOp.pure (.lenStr x0) = true := rfl
theorem looks_lenStr {x0 : X} : AOp.looks (.lenStr x0) = false := rfl
theorem wdRun_lenStr {E : Env} {d : Option Nat} {x0 : X} {g : Option (Nat × Bool)} {ds : List Nat} {σ : Fr} {h : AHeap} {n : Nat} {K : Option Value → AHeap → Nat → Kd → Prop} {t : Tok K} : wdRun E ⟨d,(.lenStr x0),g,ds⟩ σ h n K t = dxPure ⟨d,(.lenStr x0),g,ds⟩ σ h n K () := by rw [wdRun_def]; rfl
theorem wxRun_lenSlice {E : Env} {x0 : X} {σ : Fr} {h : AHeap} {n : Nat} {K : Option Value → AHeap → Nat → Prop} {t : Tok K} : wxRun E (.lenSlice x0) σ h n K t = Runs (aev (X.ev σ h) h n (.lenSlice x0)) n K () := by rw [wxRun_def]; rfl
theorem pure_lenSlice {x0 : X} : AOp.pure (.lenSlice x0) = true := rfl
theorem looks_lenSlice {x0 : X} : AOp.looks (.lenSlice x0) = false := rfl
theorem wdRun_lenSlice {E : Env} {d : Option Nat} {x0 : X} {g : Option (Nat × Bool)} {ds : List Nat} {σ : Fr} {h : AHeap} {n : Nat} {K : Option Value → AHeap → Nat → Kd → Prop} {t : Tok K} : wdRun E ⟨d,(.lenSlice x0),g,ds⟩ σ h n K t = dxPure ⟨d,(.lenSlice x0),g,ds⟩ σ h n K () := by rw [wdRun_def]; rfl
theorem wxRun_lenConst {E : Env} {x0 : Nat} {σ : Fr} {h : AHeap} {n : Nat} {K : Option Value → AHeap → Nat → Prop} {t : Tok K} : wxRun E (.lenConst x0) σ h n K t = Runs (aev (X.ev σ h) h n (.lenConst x0)) n K () := by rw [wxRun_def]; rfl
theorem pure_lenConst {x0 : Nat} : AOp.pure (.lenConst x0) = true := rfl
theorem looks_lenConst {x0 : Nat} : AOp.looks (.lenConst x0) = false := rfl
theorem wdRun_lenConst {E : Env} {d : Option Nat} {x0 : Nat} {g : Option (Nat × Bool)} {ds : List Nat} {σ : Fr} {h : AHeap} {n : Nat} {K : Option Value → AHeap → Nat → Kd → Prop} {t : Tok K} : wdRun E ⟨d,(.lenConst x0),g,ds⟩ σ h n K t = dxPure ⟨d,(.lenConst x0),g,ds⟩ σ h n K () := by rw [wdRun_def]; rfl
theorem wxRun_append {E : Env} {x0 : Nat} {x1 : Nat} {x2 : Nat} {x3 : X} {x4 : X} {σ : Fr} {h : AHeap} {n : Nat} {K : Option Value → AHeap → Nat → Prop} {t : Tok K} : wxRun E (.append x0 x1 x2 x3 x4) σ h n K t = Runs (aev (X.ev σ h) h n (.append x0 x1 x2 x3 x4)) n K () := by rw [wxRun_def]; rfl
theorem pure_append {x0 : Nat} {x1 : Nat} {x2 : Nat} {x3 : X} {x4 : X} : AOp.pure (.append x0 x1 x2 x3 x4) = false := rfl
theorem looks_append {x0 : Nat} {x1 : Nat} {x2 : Nat} {x3 : X} {x4 : X} : AOp.looks (.append x0 x1 x2 x3 x4) = true := rfl
theorem target_append {x0 : Nat} {x1 : Nat} {x2 : Nat} {x3 : X} {x4 : X} : AOp.target (.append x0 x1 x2 x3 x4) = some x3 := rfl
theorem wdRun_append {E : Env} {d : Option Nat} {x0 : Nat} {x1 : Nat} {x2 : Nat} {x3 : X} {x4 : X} {g : Option (Nat × Bool)} {ds : List Nat} {σ : Fr} {h : AHeap} {n : Nat} {K : Option Value → AHeap → Nat → Kd → Prop} {t : Tok K} : wdRun E ⟨d,(.append x0 x1 x2 x3 x4),g,ds⟩ σ h n K t = dxMem ⟨d,(.append x0 x1 x2 x3 x4),g,ds⟩ σ h n K () := by rw [wdRun_def]; rfl
theorem wxRun_copy {E : Env} {x0 : Nat} {x1 : X} {x2 : X} {σ : Fr} {h : AHeap} {n : Nat} {K : Option Value → AHeap → Nat → Prop} {t : Tok K} : wxRun E (.copy x0 x1 x2) σ h n K t = Runs (aev (X.ev σ h) h n (.copy x0 x1 x2)) n K () := by rw [wxRun_def]; rfl
theorem pure_copy {x0 : Nat} {x1 : X} {x2 : X} : AOp.pure (.copy x0 x1 x2) = false := rfl
theorem looks_copy {x0 : Nat} {x1 : X} {x2 : X} : AOp.looks (.copy x0 x1 x2) = true := rfl
theorem target_copy {x0 : Nat} {x1 : X} {x2 : X} : AOp.target (.copy x0 x1 x2) = some x1 := rfl
theorem wdRun_copy {E : Env} {d : Option Nat} {x0 : Nat} {x1 : X} {x2 : X} {g : Option (Nat × Bool)} {ds : List Nat} {σ : Fr} {h : AHeap} {n : Nat} {K : Option Value → AHeap → Nat → Kd → Prop} {t : Tok K} : wdRun E ⟨d,(.copy x0 x1 x2),g,ds⟩ σ h n K t = dxMem ⟨d,(.copy x0 x1 x2),g,ds⟩ σ h n K () := by rw [wdRun_def]; rfl
theorem wxRun_min {E : Env} {x0 : List X} {σ : Fr} {h : AHeap} {n : Nat} {K : Option Value → AHeap → Nat → Prop} {t : Tok K} : wxRun E (.min x0) σ h n K t = Runs (aev (X.ev σ h) h n (.min x0)) n K () := by rw [wxRun_def]; rfl
theorem pure_min {x0 : List X} : AOp.pure (.min x0) = true := rfl
theorem looks_min {x0 : List X} : AOp.looks (.min x0) = false := rfl
theorem wdRun_min {E : Env} {d : Option Nat} {x0 : List X} {g : Option (Nat × Bool)} {ds : List Nat} {σ : Fr} {h : AHeap} {n : Nat} {K : Option Value → AHeap → Nat → Kd → Prop} {t : Tok K} : wdRun E ⟨d,(.min x0),g,ds⟩ σ h n K t = dxPure ⟨d,(.min x0),g,ds⟩ σ h n K () := by rw [wdRun_def]; rfl
theorem wxRun_max {E : Env} {x0 : List X} {σ : Fr} {h : AHeap} {n : Nat} {K : Option Value → AHeap → Nat → Prop} {t : Tok K} : wxRun E (.max x0) σ h n K t = Runs (aev (X.ev σ h) h n (.max x0)) n K () := by rw [wxRun_def]; rfl
theorem pure_max {x0 : List X} : AOp.pure (.max x0) = true := rfl
theorem looks_max {x0 : List X} : AOp.looks (.max x0) = false := rfl
theorem wdRun_max {E : Env} {d : Option Nat} {x0 : List X} {g : Option (Nat × Bool)} {ds : List Nat} {σ : Fr} {h : AHeap} {n : Nat} {K : Option Value → AHeap → Nat → Kd → Prop} {t : Tok K} : wdRun E ⟨d,(.max x0),g,ds⟩ σ h n K t = dxPure ⟨d,(.max x0),g,ds⟩ σ h n K () := by rw [wdRun_def]; rfl
theorem wxRun_makeFunc {E : Env} {x0 : Nat} {x1 : List X} {x2 : List X} {σ : Fr} {h : AHeap} {n : Nat} {K : Option Value → AHeap → Nat → Prop} {t : Tok K} : wxRun E (.makeFunc x0 x1 x2) σ h n K t = Runs (aev (X.ev σ h) h n (.makeFunc x0 x1 x2)) n K () := by rw [wxRun_def]; rfl
theorem pure_makeFunc {x0 : Nat} {x1 : List X} {x2 : List X} : AOp.pure (.makeFunc x0 x1 x2) = true := rfl
theorem looks_makeFunc {x0 : Nat} {x1 : List X} {x2 : List X} : AOp.looks (.makeFunc x0 x1 x2) = false := rfl
theorem wdRun_makeFunc {E : Env} {d : Option Nat} {x0 : Nat} {x1 : List X} {x2 : List X} {g : Option (Nat × Bool)} {ds : List Nat} {σ : Fr} {h : AHeap} {n : Nat} {K : Option Value → AHeap → Nat → Kd → Prop} {t : Tok K} : wdRun E ⟨d,(.makeFunc x0 x1 x2),g,ds⟩ σ h n K t = dxPure ⟨d,(.makeFunc x0 x1 x2),g,ds⟩ σ h n K () := by rw [wdRun_def]; rfl
theorem wxRun_makeIface {E : Env} {x0 : TypeId} {x1 : X} {σ : Fr} {h : AHeap} {n : Nat} {K : Option Value → AHeap → Nat → Prop} {t : Tok K} : wxRun E (.makeIface x0 x1) σ h n K t = Runs (aev (X.ev σ h) h n (.makeIface x0 x1)) n K () := by rw [wxRun_def]; rfl
theorem pure_makeIface {x0 : TypeId} {x1 : X} : AOp.pure (.makeIface x0 x1) = true := rfl
theorem looks_makeIface {x0 : TypeId} {x1 : X} : AOp.looks (.makeIface x0 x1) = false := rfl
theorem wdRun_makeIface {E : Env} {d : Option Nat} {x0 : TypeId} {x1 : X} {g : Option (Nat × Bool)} {ds : List Nat} {σ : Fr} {h : AHeap} {n : Nat} {K : Option Value → AHeap → Nat → Kd → Prop} {t : Tok K} : wdRun E ⟨d,(.makeIface x0 x1),g,ds⟩ σ h n K t = dxPure ⟨d,(.makeIface x0 x1),g,ds⟩ σ h n K () := by rw [wdRun_def]; rfl
theorem wxRun_makeSlice {E : Env} {x0 : Nat} {x1 : Nat} {x2 : Nat} {x3 : List Value} {x4 : X} {x5 : X} {σ : Fr} {h : AHeap} {n : Nat} {K : Option Value → AHeap → Nat → Prop} {t : Tok K} : wxRun E (.makeSlice x0 x1 x2 x3 x4 x5) σ h n K t = Runs (aev (X.ev σ h) h n (.makeSlice x0 x1 x2 x3 x4 x5)) n K () := by rw [wxRun_def]; rfl
theorem pure_makeSlice {x0 : Nat} {x1 : Nat} {x2 : Nat} {x3 : List Value} {x4 : X} {x5 : X} : AOp.pure (.makeSlice x0 x1 x2 x3 x4 x5) = false := rfl
theorem looks_makeSlice {x0 : Nat} {x1 : Nat} {x2 : Nat} {x3 : List Value} {x4 : X} {x5 : X} : AOp.looks (.makeSlice x0 x1 x2 x3 x4 x5) = false := rfl
theorem target_makeSlice {x0 : Nat} {x1 : Nat} {x2 : Nat} {x3 : List Value} {x4 : X} {x5 : X} : AOp.target (.makeSlice x0 x1 x2 x3 x4 x5) = none := rfl
theorem wdRun_makeSlice {E : Env} {d : Option Nat} {x0 : Nat} {x1 : Nat} {x2 : Nat} {x3 : List Value} {x4 : X} {x5 : X} {g : Option (Nat × Bool)} {ds : List Nat} {σ : Fr} {h : AHeap} {n : Nat} {K : Option Value → AHeap → Nat → Kd → Prop} {t : Tok K} : wdRun E ⟨d,(.makeSlice x0 x1 x2 x3 x4 x5),g,ds⟩ σ h n K t = dxMem ⟨d,(.makeSlice x0 x1 x2 x3 x4 x5),g,ds⟩ σ h n K () := by rw [wdRun_def]; rfl
theorem wxRun_lookup {E : Env} {x0 : Bool} {x1 : Bool} {x2 : Value} {x3 : X} {x4 : X} {σ : Fr} {h : AHeap} {n : Nat} {K : Option Value → AHeap → Nat → Prop} {t : Tok K} : wxRun E (.lookup x0 x1 x2 x3 x4) σ h n K t = Runs (aev (X.ev σ h) h n (.lookup x0 x1 x2 x3 x4)) n K () := by rw [wxRun_def]; rfl
theorem pure_lookup {x0 : Bool} {x1 : Bool} {x2 : Value} {x3 : X} {x4 : X} : AOp.pure (.lookup x0 x1 x2 x3 x4) = true := rfl
theorem looks_lookup {x0 : Bool} {x1 : Bool} {x2 : Value} {x3 : X} {x4 : X} : AOp.looks (.lookup x0 x1 x2 x3 x4) = true := rfl
theorem wdRun_lookup {E : Env} {d : Option Nat} {x0 : Bool} {x1 : Bool} {x2 : Value} {x3 : X} {x4 : X} {g : Option (Nat × Bool)} {ds : List Nat} {σ : Fr} {h : AHeap} {n : Nat} {K : Option Value → AHeap → Nat → Kd → Prop} {t : Tok K} : wdRun E ⟨d,(.lookup x0 x1 x2 x3 x4),g,ds⟩ σ h n K t = dxPure ⟨d,(.lookup x0 x1 x2 x3 x4),g,ds⟩ σ h n K () := by rw [wdRun_def]; rfl
theorem wxRun_call {E : Env} {x0 : X} {x1 : List X} {σ : Fr} {h : AHeap} {n : Nat} {K : Option Value → AHeap → Nat → Prop} {t : Tok K} : wxRun E (.call x0 x1) σ h n K t = Callee2 (X.ev σ h x0) (mapX (X.ev σ h) x1) (fun g args => HasCallT E g args h n (fun v => K (some v)) ()) (fun l args => YieldT E l args h n (fun v => K (some v)) ()) () () := by rw [wxRun_def]; rfl
theorem pure_call {x0 : X} {x1 : List X} : AOp.pure (.call x0 x1) = false := rfl
theorem looks_call {x0 : X} {x1 : List X} : AOp.looks (.call x0 x1) = false := rfl
theorem wdRun_call {E : Env} {d : Option Nat} {x0 : X} {x1 : List X} {g : Option (Nat × Bool)} {ds : List Nat} {σ : Fr} {h : AHeap} {n : Nat} {K : Option Value → AHeap → Nat → Kd → Prop} {t : Tok K} : wdRun E ⟨d, .call x0 x1,g,ds⟩ σ h n K t = Callee (X.ev σ [] x0) (mapX (X.ev σ []) x1) (fun g args => HasRetT E g args h n (fun ids v bs n' => K (some v) (putsL h bs) n' ⟨ids,bs.map (·.1)⟩) ()) () := by rw [wdRun_def]; rfl
theorem wxRun_fail {E : Env} {σ : Fr} {h : AHeap} {n : Nat} {K : Option Value → AHeap → Nat → Prop} {t : Tok K} : wxRun E (.fail) σ h n K t = Runs (aev (X.ev σ h) h n (.fail)) n K () := by rw [wxRun_def]; rfl
theorem pure_fail : AOp.pure (.fail) = true := rfl
theorem looks_fail : AOp.looks (.fail) = false := rfl
theorem wdRun_fail {E : Env} {d : Option Nat} {g : Option (Nat × Bool)} {ds : List Nat} {σ : Fr} {h : AHeap} {n : Nat} {K : Option Value → AHeap → Nat → Kd → Prop} {t : Tok K} : wdRun E ⟨d,(.fail),g,ds⟩ σ h n K t = dxPure ⟨d,(.fail),g,ds⟩ σ h n K () := by rw [wdRun_def]; rfl
theorem wxRun_cap {E : Env} {x0 : X} {σ : Fr} {h : AHeap} {n : Nat} {K : Option Value → AHeap → Nat → Prop} {t : Tok K} : wxRun E (.cap x0) σ h n K t = Runs (aev (X.ev σ h) h n (.cap x0)) n K () := by rw [wxRun_def]; rfl
theorem pure_cap {x0 : X} : AOp.pure (.cap x0) = true := rfl
theorem looks_cap {x0 : X} : AOp.looks (.cap x0) = false := rfl
theorem wdRun_cap {E : Env} {d : Option Nat} {x0 : X} {g : Option (Nat × Bool)} {ds : List Nat} {σ : Fr} {h : AHeap} {n : Nat} {K : Option Value → AHeap → Nat → Kd → Prop} {t : Tok K} : wdRun E ⟨d,(.cap x0),g,ds⟩ σ h n K t = dxPure ⟨d,(.cap x0),g,ds⟩ σ h n K () := by rw [wdRun_def]; rfl
theorem wxRun_sliceData {E : Env} {x0 : X} {σ : Fr} {h : AHeap} {n : Nat} {K : Option Value → AHeap → Nat → Prop} {t : Tok K} : wxRun E (.sliceData x0) σ h n K t = Runs (aev (X.ev σ h) h n (.sliceData x0)) n K () := by rw [wxRun_def]; rfl
theorem pure_sliceData {x0 : X} : AOp.pure (.sliceData x0) = true := rfl
theorem looks_sliceData {x0 : X} : AOp.looks (.sliceData x0) = false := rfl
theorem wdRun_sliceData {E : Env} {d : Option Nat} {x0 : X} {g : Option (Nat × Bool)} {ds : List Nat} {σ : Fr} {h : AHeap} {n : Nat} {K : Option Value → AHeap → Nat → Kd → Prop} {t : Tok K} : wdRun E ⟨d,(.sliceData x0),g,ds⟩ σ h n K t = dxPure ⟨d,(.sliceData x0),g,ds⟩ σ h n K () := by rw [wdRun_def]; rfl
theorem wxRun_unsafeString {E : Env} {x0 : Nat} {x1 : X} {x2 : X} {σ : Fr} {h : AHeap} {n : Nat} {K : Option Value → AHeap → Nat → Prop} {t : Tok K} : wxRun E (.unsafeString x0 x1 x2) σ h n K t = Runs (aev (X.ev σ h) h n (.unsafeString x0 x1 x2)) n K () := by rw [wxRun_def]; rfl
theorem pure_unsafeString {x0 : Nat} {x1 : X} {x2 : X} : AOp.pure (.unsafeString x0 x1 x2) = false := rfl
theorem looks_unsafeString {x0 : Nat} {x1 : X} {x2 : X} : AOp.looks (.unsafeString x0 x1 x2) = true := rfl
theorem target_unsafeString {x0 : Nat} {x1 : X} {x2 : X} : AOp.target (.unsafeString x0 x1 x2) = some x1 := rfl
theorem wdRun_unsafeString {E : Env} {d : Option Nat} {x0 : Nat} {x1 : X} {x2 : X} {g : Option (Nat × Bool)} {ds : List Nat} {σ : Fr} {h : AHeap} {n : Nat} {K : Option Value → AHeap → Nat → Kd → Prop} {t : Tok K} : wdRun E ⟨d,(.unsafeString x0 x1 x2),g,ds⟩ σ h n K t = dxMem ⟨d,(.unsafeString x0 x1 x2),g,ds⟩ σ h n K () := by rw [wdRun_def]; rfl
theorem wxRun_toUnsafe {E : Env} {x0 : X} {σ : Fr} {h : AHeap} {n : Nat} {K : Option Value → AHeap → Nat → Prop} {t : Tok K} : wxRun E (.toUnsafe x0) σ h n K t = Runs (aev (X.ev σ h) h n (.toUnsafe x0)) n K () := by rw [wxRun_def]; rfl
theorem pure_toUnsafe {x0 : X} : AOp.pure (.toUnsafe x0) = true := rfl
theorem looks_toUnsafe {x0 : X} : AOp.looks (.toUnsafe x0) = true := rfl
theorem wdRun_toUnsafe {E : Env} {d : Option Nat} {x0 : X} {g : Option (Nat × Bool)} {ds : List Nat} {σ : Fr} {h : AHeap} {n : Nat} {K : Option Value → AHeap → Nat → Kd → Prop} {t : Tok K} : wdRun E ⟨d,(.toUnsafe x0),g,ds⟩ σ h n K t = dxPure ⟨d,(.toUnsafe x0),g,ds⟩ σ h n K () := by rw [wdRun_def]; rfl
theorem wxRun_fromUnsafe {E : Env} {x0 : Nat} {x1 : Nat} {x2 : X} {σ : Fr} {h : AHeap} {n : Nat} {K : Option Value → AHeap → Nat → Prop} {t : Tok K} : wxRun E (.fromUnsafe x0 x1 x2) σ h n K t = Runs (aev (X.ev σ h) h n (.fromUnsafe x0 x1 x2)) n K () := by rw [wxRun_def]; rfl
theorem pure_fromUnsafe {x0 : Nat} {x1 : Nat} {x2 : X} : AOp.pure (.fromUnsafe x0 x1 x2) = true := rfl
theorem looks_fromUnsafe {x0 : Nat} {x1 : Nat} {x2 : X} : AOp.looks (.fromUnsafe x0 x1 x2) = true := rfl
theorem wdRun_fromUnsafe {E : Env} {d : Option Nat} {x0 : Nat} {x1 : Nat} {x2 : X} {g : Option (Nat × Bool)} {ds : List Nat} {σ : Fr} {h : AHeap} {n : Nat} {K : Option Value → AHeap → Nat → Kd → Prop} {t : Tok K} : wdRun E ⟨d,(.fromUnsafe x0 x1 x2),g,ds⟩ σ h n K t = dxPure ⟨d,(.fromUnsafe x0 x1 x2),g,ds⟩ σ h n K () := by rw [wdRun_def]; rfl
theorem wxRun_rangeStr {E : Env} {x0 : X} {σ : Fr} {h : AHeap} {n : Nat} {K : Option Value → AHeap → Nat → Prop} {t : Tok K} : wxRun E (.rangeStr x0) σ h n K t = Runs (aev (X.ev σ h) h n (.rangeStr x0)) n K () := by rw [wxRun_def]; rfl
theorem pure_rangeStr {x0 : X} : AOp.pure (.rangeStr x0) = false := rfl
theorem looks_rangeStr {x0 : X} : AOp.looks (.rangeStr x0) = false := rfl
theorem target_rangeStr {x0 : X} : AOp.target (.rangeStr x0) = none := rfl
theorem wdRun_rangeStr {E : Env} {d : Option Nat} {x0 : X} {g : Option (Nat × Bool)} {ds : List Nat} {σ : Fr} {h : AHeap} {n : Nat} {K : Option Value → AHeap → Nat → Kd → Prop} {t : Tok K} : wdRun E ⟨d,(.rangeStr x0),g,ds⟩ σ h n K t = dxMem ⟨d,(.rangeStr x0),g,ds⟩ σ h n K () := by rw [wdRun_def]; rfl
theorem wxRun_nextStr {E : Env} {x0 : X} {σ : Fr} {h : AHeap} {n : Nat} {K : Option Value → AHeap → Nat → Prop} {t : Tok K} : wxRun E (.nextStr x0) σ h n K t = Runs (aev (X.ev σ h) h n (.nextStr x0)) n K () := by rw [wxRun_def]; rfl
theorem pure_nextStr {x0 : X} : AOp.pure (.nextStr x0) = false := rfl
theorem looks_nextStr {x0 : X} : AOp.looks (.nextStr x0) = true := rfl
theorem target_nextStr {x0 : X} : AOp.target (.nextStr x0) = some x0 := rfl
theorem wdRun_nextStr {E : Env} {d : Option Nat} {x0 : X} {g : Option (Nat × Bool)} {ds : List Nat} {σ : Fr} {h : AHeap} {n : Nat} {K : Option Value → AHeap → Nat → Kd → Prop} {t : Tok K} : wdRun E ⟨d,(.nextStr x0),g,ds⟩ σ h n K t = dxMem ⟨d,(.nextStr x0),g,ds⟩ σ h n K () := by rw [wdRun_def]; rfl
theorem wxRun_toFloat {E : Env} {x0 : FloatKind} {x1 : X} {σ : Fr} {h : AHeap} {n : Nat} {K : Option Value → AHeap → Nat → Prop} {t : Tok K} : wxRun E (.toFloat x0 x1) σ h n K t = Runs (aev (X.ev σ h) h n (.toFloat x0 x1)) n K () := by rw [wxRun_def]; rfl
theorem pure_toFloat {x0 : FloatKind} {x1 : X} : AOp.pure (.toFloat x0 x1) = true := rfl
theorem looks_toFloat {x0 : FloatKind} {x1 : X} : AOp.looks (.toFloat x0 x1) = false := rfl
theorem wdRun_toFloat {E : Env} {d : Option Nat} {x0 : FloatKind} {x1 : X} {g : Option (Nat × Bool)} {ds : List Nat} {σ : Fr} {h : AHeap} {n : Nat} {K : Option Value → AHeap → Nat → Kd → Prop} {t : Tok K} : wdRun E ⟨d,(.toFloat x0 x1),g,ds⟩ σ h n K t = dxPure ⟨d,(.toFloat x0 x1),g,ds⟩ σ h n K () := by rw [wdRun_def]; rfl
theorem wxRun_sameF {E : Env} {x0 : FloatKind} {x1 : X} {σ : Fr} {h : AHeap} {n : Nat} {K : Option Value → AHeap → Nat → Prop} {t : Tok K} : wxRun E (.sameF x0 x1) σ h n K t = Runs (aev (X.ev σ h) h n (.sameF x0 x1)) n K () := by rw [wxRun_def]; rfl
theorem pure_sameF {x0 : FloatKind} {x1 : X} : AOp.pure (.sameF x0 x1) = true := rfl
theorem looks_sameF {x0 : FloatKind} {x1 : X} : AOp.looks (.sameF x0 x1) = false := rfl
theorem wdRun_sameF {E : Env} {d : Option Nat} {x0 : FloatKind} {x1 : X} {g : Option (Nat × Bool)} {ds : List Nat} {σ : Fr} {h : AHeap} {n : Nat} {K : Option Value → AHeap → Nat → Kd → Prop} {t : Tok K} : wdRun E ⟨d,(.sameF x0 x1),g,ds⟩ σ h n K t = dxPure ⟨d,(.sameF x0 x1),g,ds⟩ σ h n K () := by rw [wdRun_def]; rfl
attribute [simp] wxRun_mov pure_mov looks_mov wdRun_mov wxRun_pick pure_pick looks_pick wdRun_pick wxRun_alloc pure_alloc looks_alloc target_alloc wdRun_alloc wxRun_box pure_box looks_box target_box wdRun_box wxRun_build pure_build looks_build wdRun_build wxRun_buildSlice pure_buildSlice looks_buildSlice target_buildSlice wdRun_buildSlice wxRun_load pure_load looks_load wdRun_load wxRun_store pure_store looks_store target_store wdRun_store wxRun_nilCheck pure_nilCheck looks_nilCheck wdRun_nilCheck wxRun_bin pure_bin looks_bin wdRun_bin wxRun_eqv pure_eqv looks_eqv wdRun_eqv wxRun_eqAgg pure_eqAgg looks_eqAgg wdRun_eqAgg wxRun_un pure_un looks_un wdRun_un wxRun_conv pure_conv looks_conv wdRun_conv wxRun_same pure_same looks_same wdRun_same wxRun_bytesOf pure_bytesOf looks_bytesOf target_bytesOf wdRun_bytesOf wxRun_strOf pure_strOf looks_strOf wdRun_strOf wxRun_sliceStr pure_sliceStr looks_sliceStr wdRun_sliceStr wxRun_slice pure_slice looks_slice wdRun_slice wxRun_sliceArr pure_sliceArr looks_sliceArr wdRun_sliceArr wxRun_fieldAddr pure_fieldAddr looks_fieldAddr wdRun_fieldAddr wxRun_field pure_field looks_field wdRun_field wxRun_indexAddr pure_indexAddr looks_indexAddr wdRun_indexAddr wxRun_indexArr pure_indexArr looks_indexArr wdRun_indexArr wxRun_index pure_index looks_index wdRun_index wxRun_indexStr pure_indexStr looks_indexStr wdRun_indexStr wxRun_extract pure_extract looks_extract wdRun_extract wxRun_lenStr pure_lenStr looks_lenStr wdRun_lenStr wxRun_lenSlice pure_lenSlice looks_lenSlice wdRun_lenSlice wxRun_lenConst pure_lenConst looks_lenConst wdRun_lenConst wxRun_append pure_append looks_append target_append wdRun_append wxRun_copy pure_copy looks_copy target_copy wdRun_copy wxRun_min pure_min looks_min wdRun_min wxRun_max pure_max looks_max wdRun_max wxRun_makeFunc pure_makeFunc looks_makeFunc wdRun_makeFunc wxRun_makeIface pure_makeIface looks_makeIface wdRun_makeIface wxRun_makeSlice pure_makeSlice looks_makeSlice target_makeSlice wdRun_makeSlice wxRun_lookup pure_lookup looks_lookup wdRun_lookup wxRun_call pure_call looks_call wdRun_call wxRun_fail pure_fail looks_fail wdRun_fail wxRun_cap pure_cap looks_cap wdRun_cap wxRun_sliceData pure_sliceData looks_sliceData wdRun_sliceData wxRun_unsafeString pure_unsafeString looks_unsafeString target_unsafeString wdRun_unsafeString wxRun_toUnsafe pure_toUnsafe looks_toUnsafe wdRun_toUnsafe wxRun_fromUnsafe pure_fromUnsafe looks_fromUnsafe wdRun_fromUnsafe wxRun_rangeStr pure_rangeStr looks_rangeStr target_rangeStr wdRun_rangeStr wxRun_nextStr pure_nextStr looks_nextStr target_nextStr wdRun_nextStr wxRun_toFloat pure_toFloat looks_toFloat wdRun_toFloat wxRun_sameF pure_sameF looks_sameF wdRun_sameF
end
end Go.Proofs.YtkdpjaaohddppaaGreatDoor.Am
namespace Go.Proofs.YtkdpjaaohddppaaGreatDoor.Am
noncomputable section
theorem Guard_test {c b : Bool} {A B : Prop} {x : Tok A} {y : Tok B} : Guard (some (.bool c)) b A B x y = Test (some (.bool c)) b A B x y := Guard_bool
@[simp] theorem undef_eq : undef = .tuple #[] := rfl
attribute [simp] Guard_off Guard_test
attribute [simp] Runs_some Runs_ite Runs_ite' Test_tt Test_ff Test_tf Test_ft Test_not Callee_some Callee2_func Callee2_yield
attribute [simp] sx sxOps sxOp sxDraw aev X.ev Fr.get_cons Fr.get_nil setDst Fr.put Fr.del argFr evRes putsL mapX AHeap.write aBin aStrOp aEqv optX aBounds aPart splice isTuple Value.cells aMin aMax aMinFrom aMaxFrom AHeap.get_put AHeap.get_cons AHeap.get_nil Done
attribute [simp] aIfc Rk.isI
attribute [simp] touchIds AOp.globs X.globs AOper.reads AOp.reads X.reads optReads readIds Kd.apart Kd.clear chgOf chgOk logOf AHeap.puts
/- Operations on numbers,by name. -/
def andI (k : IntKind) (a b : Int) : Int := k.wrap (BitVec.ofInt k.bits a &&& BitVec.ofInt k.bits b).toNat
def orI (k : IntKind) (a b : Int) : Int := k.wrap (BitVec.ofInt k.bits a ||| BitVec.ofInt k.bits b).toNat
def xorI (k : IntKind) (a b : Int) : Int := k.wrap (BitVec.ofInt k.bits a ^^^ BitVec.ofInt k.bits b).toNat
def andNotI (k : IntKind) (a b : Int) : Int := k.wrap (BitVec.ofInt k.bits a &&& ~~~(BitVec.ofInt k.bits b)).toNat
def shlI (k : IntKind) (a b : Int) : Int := k.wrap (a * 2 ^ (Min.min b.toNat k.bits))
def shrI (k : IntKind) (a b : Int) : Int := a.fdiv (2 ^ (Min.min b.toNat k.bits))
def notI (k : IntKind) (a : Int) : Int := k.wrap (BitVec.ofInt k.bits (if k.signed then -1 else k.max) ^^^ BitVec.ofInt k.bits a).toNat
theorem aInt_add (k : IntKind) (a b : Int) : aIntOp .add k a b = some (.int k (k.wrap (a + b))) := rfl
theorem aInt_sub (k : IntKind) (a b : Int) : aIntOp .sub k a b = some (.int k (k.wrap (a - b))) := rfl
theorem aInt_mul (k : IntKind) (a b : Int) : aIntOp .mul k a b = some (.int k (k.wrap (a * b))) := rfl
theorem aInt_quo (k : IntKind) (a b : Int) : aIntOp .quo k a b = if b = 0 then none else some (.int k (k.wrap (a.tdiv b))) := rfl
theorem aInt_rem (k : IntKind) (a b : Int) : aIntOp .rem k a b = if b = 0 then none else some (.int k (a.tmod b)) := rfl
theorem aInt_and (k : IntKind) (a b : Int) : aIntOp .and k a b = some (.int k (andI k a b)) := rfl
theorem aInt_or (k : IntKind) (a b : Int) : aIntOp .or k a b = some (.int k (orI k a b)) := rfl
theorem aInt_xor (k : IntKind) (a b : Int) : aIntOp .xor k a b = some (.int k (xorI k a b)) := rfl
theorem aInt_andNot (k : IntKind) (a b : Int) : aIntOp .andNot k a b = some (.int k (andNotI k a b)) := rfl
theorem aInt_eql (k : IntKind) (a b : Int) : aIntOp .eql k a b = some (.bool (a == b)) := rfl
theorem aInt_neq (k : IntKind) (a b : Int) : aIntOp .neq k a b = some (.bool (a != b)) := rfl
theorem aInt_lss (k : IntKind) (a b : Int) : aIntOp .lss k a b = some (.bool (decide (a < b))) := rfl
theorem aInt_leq (k : IntKind) (a b : Int) : aIntOp .leq k a b = some (.bool (decide (a ≤ b))) := rfl
theorem aInt_gtr (k : IntKind) (a b : Int) : aIntOp .gtr k a b = some (.bool (decide (a > b))) := rfl
theorem aInt_geq (k : IntKind) (a b : Int) : aIntOp .geq k a b = some (.bool (decide (a ≥ b))) := rfl
theorem aShift_shl (k : IntKind) (a b : Int) : aShift .shl k a b = if b < 0 then none else some (.int k (shlI k a b)) := rfl
theorem aShift_shr (k : IntKind) (a b : Int) : aShift .shr k a b = if b < 0 then none else some (.int k (shrI k a b)) := rfl
theorem aUn_neg (k : IntKind) (a : Int) : aUn .neg (.int k a) = some (.int k (k.wrap (0 - a))) := rfl
theorem aUn_xor (k : IntKind) (a : Int) : aUn .xor (.int k a) = some (.int k (notI k a)) := rfl
theorem aUn_not (b : Bool) : aUn .not (.bool b) = some (.bool !b) := rfl
attribute [simp] aInt_add aInt_sub aInt_mul aInt_quo aInt_rem aInt_and aInt_or aInt_xor aInt_andNot aInt_eql aInt_neq aInt_lss aInt_leq aInt_gtr aInt_geq aShift_shl aShift_shr aUn_neg aUn_xor aUn_not
theorem Test_decT {p : Prop} [Decidable p] {A B : Prop} {x : Tok A} {y : Tok B} (hp : p) : Test (some (.bool (decide p))) true A B x y = A := by simp [Test,hp]
theorem Test_decF {p : Prop} [Decidable p] {A B : Prop} {x : Tok A} {y : Tok B} (hp : ¬ p) : Test (some (.bool (decide p))) true A B x y = B := by simp [Test,hp]
theorem Test_decT' {p : Prop} [Decidable p] {A B : Prop} {x : Tok A} {y : Tok B} (hp : p) : Test (some (.bool (decide p))) false A B x y = B := by simp [Test,hp]
theorem Test_decF' {p : Prop} [Decidable p] {A B : Prop} {x : Tok A} {y : Tok B} (hp : ¬ p) : Test (some (.bool (decide p))) false A B x y = A := by simp [Test,hp]
theorem Test_beqT {a b : Int} {A B : Prop} {x : Tok A} {y : Tok B} (hp : a = b) : Test (some (.bool (a == b))) true A B x y = A := by simp [Test,hp]
theorem Test_beqF {a b : Int} {A B : Prop} {x : Tok A} {y : Tok B} (hp : ¬ a = b) : Test (some (.bool (a == b))) true A B x y = B := by simp [Test,hp]
theorem Test_beqT' {a b : Int} {A B : Prop} {x : Tok A} {y : Tok B} (hp : a = b) : Test (some (.bool (a == b))) false A B x y = B := by simp [Test,hp]
theorem Test_beqF' {a b : Int} {A B : Prop} {x : Tok A} {y : Tok B} (hp : ¬ a = b) : Test (some (.bool (a == b))) false A B x y = A := by simp [Test,hp]
theorem Runs_iteT {c : Prop} [Decidable c] {r : Option (Value × AHeap × Nat)} {n : Nat} {K : Option Value → AHeap → Nat → Prop} {t : Tok K} (hc : c) : Runs (if c then r else none) n K t = Runs r n K t := by rw [if_pos hc]
attribute [simp] Runs_iteT Test_decT Test_decF Test_decT' Test_decF' Test_beqT Test_beqF Test_beqT' Test_beqF'
@[simp] theorem resVal_nil : resVal [] = .tuple #[] := rfl
@[simp] theorem resVal_one (v : Value) : resVal [v] = v := rfl
@[simp] theorem resVal_more (a b : Value) (l : List Value) : resVal (a :: b :: l) = .tuple (a :: b :: l).toArray := rfl
@[simp] theorem refsOf_ptr (a : Addr) : refsOf (.pointer (some a)) = [a.block] := rfl
@[simp] theorem refsOf_slice (a : Addr) (n k : Nat) : refsOf (.slice (some a) n k) = [a.block] := rfl
@[simp] theorem refsOf_sliceNil (n k : Nat) : refsOf (.slice none n k) = [] := rfl
@[simp] theorem refsOf_map (r : Nat) : refsOf (.map (some r)) = [r] := rfl
@[simp] theorem refsOf_bool (b : Bool) : refsOf (.bool b) = [] := rfl
@[simp] theorem refsOf_int (k : IntKind) (b : Int) : refsOf (.int k b) = [] := rfl
@[simp] theorem refsOf_float (k : FloatKind) (b : Nat) : refsOf (.float k b) = [] := rfl
@[simp] theorem refsOf_string (b : ByteArray) : refsOf (.string b) = [] := rfl
@[simp] theorem refsOf_func (f : Fn) (a b : Array Value) : refsOf (.func f a b) = [] := rfl
@[simp] theorem refsOf_iface (t : TypeId) (v : Value) : refsOf (.iface t v) = [] := rfl
@[simp] theorem refsOf_agg (a : Array Value) : refsOf (.agg a) = [] := rfl
@[simp] theorem refsOf_tuple (a : Array Value) : refsOf (.tuple a) = [] := rfl
@[simp] theorem refsOf_ptrNil : refsOf (.pointer none) = [] := rfl
@[simp] theorem refsOf_mapNil : refsOf (.map none) = [] := rfl
@[simp] theorem refsOf_nilFunc : refsOf .nilFunc = [] := rfl
@[simp] theorem refsOf_nilIface : refsOf .nilIface = [] := rfl
@[simp] theorem refsO_none : refsO none = [] := rfl
@[simp] theorem refsO_ptr (a : Addr) : refsO (some (.pointer (some a))) = [a.block] := rfl
@[simp] theorem refsO_ptrNil : refsO (some (.pointer none)) = [] := rfl
@[simp] theorem refsO_slice (a : Addr) (n k : Nat) : refsO (some (.slice (some a) n k)) = [a.block] := rfl
@[simp] theorem refsO_sliceNil (n k : Nat) : refsO (some (.slice none n k)) = [] := rfl
@[simp] theorem refsO_map (r : Nat) : refsO (some (.map (some r))) = [r] := rfl
@[simp] theorem refsO_mapNil : refsO (some (.map none)) = [] := rfl
@[simp] theorem refsO_bool (b : Bool) : refsO (some (.bool b)) = [] := rfl
@[simp] theorem refsO_int (k : IntKind) (b : Int) : refsO (some (.int k b)) = [] := rfl
@[simp] theorem refsO_float (k : FloatKind) (b : Nat) : refsO (some (.float k b)) = [] := rfl
@[simp] theorem refsO_string (b : ByteArray) : refsO (some (.string b)) = [] := rfl
@[simp] theorem refsO_func (f : Fn) (a b : Array Value) : refsO (some (.func f a b)) = [] := rfl
@[simp] theorem refsO_nilFunc : refsO (some .nilFunc) = [] := rfl
@[simp] theorem refsO_nilIface : refsO (some .nilIface) = [] := rfl
@[simp] theorem refsO_iface (t : TypeId) (v : Value) : refsO (some (.iface t v)) = [] := rfl
@[simp] theorem refsO_agg (a : Array Value) : refsO (some (.agg a)) = [] := rfl
@[simp] theorem refsO_tuple (a : Array Value) : refsO (some (.tuple a)) = [] := rfl
@[simp] theorem getE0 {α : Type _} (a0 : α) (l : List α) : (a0 :: l)[0]? = some a0 := rfl
@[simp] theorem getE1 {α : Type _} (a0 a1 : α) (l : List α) : (a0 :: a1 :: l)[1]? = some a1 := rfl
@[simp] theorem getE2 {α : Type _} (a0 a1 a2 : α) (l : List α) : (a0 :: a1 :: a2 :: l)[2]? = some a2 := rfl
@[simp] theorem getE3 {α : Type _} (a0 a1 a2 a3 : α) (l : List α) : (a0 :: a1 :: a2 :: a3 :: l)[3]? = some a3 := rfl
@[simp] theorem getE4 {α : Type _} (a0 a1 a2 a3 a4 : α) (l : List α) : (a0 :: a1 :: a2 :: a3 :: a4 :: l)[4]? = some a4 := rfl
@[simp] theorem getE5 {α : Type _} (a0 a1 a2 a3 a4 a5 : α) (l : List α) : (a0 :: a1 :: a2 :: a3 :: a4 :: a5 :: l)[5]? = some a5 := rfl
@[simp] theorem getE6 {α : Type _} (a0 a1 a2 a3 a4 a5 a6 : α) (l : List α) : (a0 :: a1 :: a2 :: a3 :: a4 :: a5 :: a6 :: l)[6]? = some a6 := rfl
@[simp] theorem getE7 {α : Type _} (a0 a1 a2 a3 a4 a5 a6 a7 : α) (l : List α) : (a0 :: a1 :: a2 :: a3 :: a4 :: a5 :: a6 :: a7 :: l)[7]? = some a7 := rfl
@[simp] theorem getE8 {α : Type _} (a0 a1 a2 a3 a4 a5 a6 a7 a8 : α) (l : List α) : (a0 :: a1 :: a2 :: a3 :: a4 :: a5 :: a6 :: a7 :: a8 :: l)[8]? = some a8 := rfl
@[simp] theorem getE9 {α : Type _} (a0 a1 a2 a3 a4 a5 a6 a7 a8 a9 : α) (l : List α) : (a0 :: a1 :: a2 :: a3 :: a4 :: a5 :: a6 :: a7 :: a8 :: a9 :: l)[9]? = some a9 := rfl
@[simp] theorem getE10 {α : Type _} (a0 a1 a2 a3 a4 a5 a6 a7 a8 a9 a10 : α) (l : List α) : (a0 :: a1 :: a2 :: a3 :: a4 :: a5 :: a6 :: a7 :: a8 :: a9 :: a10 :: l)[10]? = some a10 := rfl
@[simp] theorem getE11 {α : Type _} (a0 a1 a2 a3 a4 a5 a6 a7 a8 a9 a10 a11 : α) (l : List α) : (a0 :: a1 :: a2 :: a3 :: a4 :: a5 :: a6 :: a7 :: a8 :: a9 :: a10 :: a11 :: l)[11]? = some a11 := rfl
@[simp] theorem getE12 {α : Type _} (a0 a1 a2 a3 a4 a5 a6 a7 a8 a9 a10 a11 a12 : α) (l : List α) : (a0 :: a1 :: a2 :: a3 :: a4 :: a5 :: a6 :: a7 :: a8 :: a9 :: a10 :: a11 :: a12 :: l)[12]? = some a12 := rfl
@[simp] theorem getE13 {α : Type _} (a0 a1 a2 a3 a4 a5 a6 a7 a8 a9 a10 a11 a12 a13 : α) (l : List α) : (a0 :: a1 :: a2 :: a3 :: a4 :: a5 :: a6 :: a7 :: a8 :: a9 :: a10 :: a11 :: a12 :: a13 :: l)[13]? = some a13 := rfl
@[simp] theorem getE14 {α : Type _} (a0 a1 a2 a3 a4 a5 a6 a7 a8 a9 a10 a11 a12 a13 a14 : α) (l : List α) : (a0 :: a1 :: a2 :: a3 :: a4 :: a5 :: a6 :: a7 :: a8 :: a9 :: a10 :: a11 :: a12 :: a13 :: a14 :: l)[14]? = some a14 := rfl
@[simp] theorem getE15 {α : Type _} (a0 a1 a2 a3 a4 a5 a6 a7 a8 a9 a10 a11 a12 a13 a14 a15 : α) (l : List α) : (a0 :: a1 :: a2 :: a3 :: a4 :: a5 :: a6 :: a7 :: a8 :: a9 :: a10 :: a11 :: a12 :: a13 :: a14 :: a15 :: l)[15]? = some a15 := rfl
theorem HSub.refl (h : AHeap) : HSub h h := fun _ _ x => x
def WF (h : AHeap) (n : Nat) : Prop := ∀ i,n ≤ i → h.get i = none
theorem WF.of {h : AHeap} {n : Nat} (x : ∀ i,n ≤ i → h.get i = none) : WF h n := x
theorem WF.none {h : AHeap} {n : Nat} (w : WF h n) {i : Nat} (hi : n ≤ i) : h.get i = Option.none := w i hi
theorem WF.lt {h : AHeap} {n : Nat} (w : WF h n) {i : Nat} {b : Blk} (hb : h.get i = some b) : i < n := by
  rcases Nat.lt_or_ge i n with x | x
  · exact x
  · rw [w i x] at hb; cases hb
theorem WF.mono {h : AHeap} {n m : Nat} (w : WF h n) (hm : n ≤ m) : WF h m := fun j hj => w j (by omega)
theorem WF.touch {h : AHeap} {n : Nat} (w : WF h n) (ids : List Nat) : WF (touch ids h) n := fun i hi => by
  rw [touch_get]; split
  · exact w i hi
  · rfl
def HSubE (S : List Nat) (h h' : AHeap) : Prop := ∀ i b,i ∉ S → h.get i = some b → h'.get i = some b
theorem HSub.ofE {h h' : AHeap} (x : HSubE [] h h') : HSub h h' := fun i b hb => x i b (by simp) hb
theorem HSubE.refl (S : List Nat) (h : AHeap) : HSubE S h h := fun _ _ _ x => x
theorem HSubE.left {S : List Nat} {h h' : AHeap} {a : Nat} {b : Blk} (hb : a ∈ S ∨ h'.get a = some b) (x : HSubE (a :: S) h h') : HSubE S (h.put a b) h' := fun i c hi hc => by
  rw [AHeap.get_put] at hc
  split at hc
  · rename_i e; subst e; cases hc
    rcases hb with hb | hb
    · exact absurd hb hi
    · exact hb
  · rename_i e
    exact x i c (by simp only [List.mem_cons,not_or]; exact ⟨fun e' => e e'.symm,hi⟩) hc
theorem HSubE.right {S : List Nat} {h h' : AHeap} {a : Nat} {b : Blk} (hb : a ∈ S ∨ h.get a = none) (x : HSubE S h h') : HSubE S h (h'.put a b) := fun i c hi hc => by
  rw [AHeap.get_put]
  split
  · rename_i e; subst e
    rcases hb with hb | hb
    · exact absurd hb hi
    · rw [hb] at hc; cases hc
  · exact x i c hi hc
theorem HSub.put_new {h h' : AHeap} {i : Nat} (b : Blk) (hi : h.get i = none) (hs : HSub h h') : HSub h (h'.put i b) := fun j c hc => by
  rw [AHeap.get_put_ne _ _ (fun e => by subst e; rw [hi] at hc; cases hc)]; exact hs j c hc
theorem HSub.put_both {h h' : AHeap} (i : Nat) (b : Blk) (hs : HSub h h') : HSub (h.put i b) (h'.put i b) := fun j c hc => by
  rw [AHeap.get_put] at hc ⊢
  split
  · rename_i e; rw [if_pos e] at hc; exact hc
  · rename_i e; rw [if_neg e] at hc; exact hs j c hc
theorem HSub.new {h0 h : AHeap} {n0 i : Nat} (hs : HSub h0 h) (hw : WF h0 n0) (hi : n0 ≤ i) (b : Blk) : HSub h0 (h.put i b) := .put_new b (hw i hi) hs
theorem HSub.trans {a b c : AHeap} (x : HSub a b) (y : HSub b c) : HSub a c := fun i d hd => y i d (x i d hd)
def FSubL : Fr → Fr → Prop
  | [],_ => True
  | (k,v) :: σ, σ' => σ'.get k = some v ∧ FSubL σ σ'
theorem FSub.ofL {σ σ' : Fr} (h : FSubL σ σ') : FSub σ σ' := by
  induction σ with
  | nil => exact .nil _
  | cons p σ ih => obtain ⟨k,v⟩ := p; exact .cons h.1 (ih h.2)
attribute [simp] FSubL
theorem HSub.over {h : AHeap} {i : Nat} {a b c : Blk} (e : b = c) : HSub (h.put i c) ((h.put i a).put i b) := by
  subst e
  exact .ofE (.left (.inr (by simp)) (.right (.inl (by simp)) (.right (.inl (by simp)) (.refl _ _))))
theorem Again.mk' {I : Nat → Fr → AHeap → Nat → Prop} {m : Nat} {σ : Fr} {h : AHeap} {n : Nat} {t : Tok I} (m' : Nat) (hm : m' < m) (σ2 : Fr) (h2 : AHeap) (hs : FSubL σ2 σ) (hh : HSub h2 h) (hi : I m' σ2 h2 n) : Again I m σ h n t := ⟨m',hm, σ2,h2, .ofL hs,hh,hi⟩
theorem loop_use {E : Env} {c : ACode} {σ σ2 : Fr} {h h2 : AHeap} {n : Nat} {Q Q' : Ex → Fr → AHeap → Nat → Prop} {t : Tok Q} (x : HasCode E (.loop c) σ2 h2 n Q') (hs : FSubL σ2 σ) (hh : HSub h2 h) (q : ∀ e σ' h' n',Q' e σ' h' n' → Q e σ' h' n') : HasCodeT E (.loop c) σ h n Q t := (x.start (.ofL hs) hh).mono q
end
end Go.Proofs.YtkdpjaaohddppaaGreatDoor.Am
namespace Go.Proofs.YtkdpjaaohddppaaGreatDoor.Am
noncomputable section

/- STRINGS AS LISTS OF BYTES. -/
@[simp] theorem str_size (l : List UInt8) : (ByteArray.mk l.toArray).size = l.length := by simp [ByteArray.size]
theorem str_of (s : ByteArray) : ∃ l : List UInt8,s = ⟨l.toArray⟩ := ⟨s.data.toList,by simp⟩
@[simp] theorem str_extract (l : List UInt8) (i j : Nat) : (ByteArray.mk l.toArray).extract i j = ByteArray.mk ((l.take j).drop i).toArray := by
  apply ByteArray.ext; simp [ByteArray.data_extract,List.extract_eq_take_drop,List.drop_take]
@[simp] theorem str_get? (l : List UInt8) (i : Nat) : (ByteArray.mk l.toArray)[i]? = l[i]? := by
  by_cases h : i < l.length
  · rw [List.getElem?_eq_getElem h,getElem?_pos _ _ (by simpa using h)]; rfl
  · rw [List.getElem?_eq_none (by omega),getElem?_neg _ _ (by simpa using h)]
@[simp] theorem str_get (l : List UInt8) (i : Nat) (h : i < (ByteArray.mk l.toArray).size) : (ByteArray.mk l.toArray)[i] = l[i]'(by simpa using h) := rfl
@[simp] theorem str_empty : ByteArray.empty = ByteArray.mk ([] : List UInt8).toArray := rfl

def u8s (l : List UInt8) : List Value := l.map fun b => .int .u8 (b.toNat : Int)
@[simp] theorem u8s_length (l : List UInt8) : (u8s l).length = l.length := by simp [u8s]
@[simp] theorem u8s_nil : u8s [] = [] := rfl
@[simp] theorem take_u8s (l : List UInt8) : (u8s l).take l.length = u8s l := List.take_of_length_le (by simp)
theorem u8s_cons (a : UInt8) (l : List UInt8) : u8s (a :: l) = .int .u8 (a.toNat : Int) :: u8s l := rfl
theorem u8s_append (a b : List UInt8) : u8s (a ++ b) = u8s a ++ u8s b := by simp [u8s]
theorem u8s_take (l : List UInt8) (k : Nat) : (u8s l).take k = u8s (l.take k) := by simp [u8s]
@[simp] theorem byteCells_str (l : List UInt8) : byteCells ⟨l.toArray⟩ = u8s l := by simp [byteCells,u8s]
@[simp] theorem bytesOf_u8s : ∀ l : List UInt8,bytesOf? (u8s l) = some l
  | [] => rfl
  | a :: l => by
    have ha : a.toNat < 256 := UInt8.toNat_lt a
    rw [u8s_cons]
    simp only [bytesOf?,bytesOf_u8s l]
    rw [if_pos (by omega)]
    simp
theorem u8s_get? {l : List UInt8} {i : Nat} {b : UInt8} (h : l[i]? = some b) : (u8s l)[i]? = some (.int .u8 (b.toNat : Int)) := by simp [u8s,h]
theorem u8s_inj : ∀ {a b : List UInt8},u8s a = u8s b → a = b
  | [],[],_ => rfl
  | [],_ :: _,h => by cases h
  | _ :: _,[],h => by cases h
  | x :: a,y :: b,h => by
    rw [u8s_cons,u8s_cons] at h
    simp only [List.cons.injEq,Value.int.injEq,true_and] at h
    rw [u8s_inj h.2]
    have : x.toNat = y.toNat := by omega
    rw [UInt8.toNat_inj.1 this]

/- WHAT A MEMORY READS AS. -/
def Blk.read (b : Blk) (g o m : Nat) : Option (List Value) := match b with
  | .cells _ cs min => if min ≤ g ∧ g ≤ cs.length ∧ o + m ≤ g then some ((cs.drop o).take m) else none
  | .map _ => none
  | .iter _ _ => none
  | .obj _ _ _ => none
theorem AHeap.read_def (h : AHeap) (i g o m : Nat) : h.read i g o m = (h.get i).bind fun b => b.read g o m := by
  unfold AHeap.read
  cases h.get i with
  | none => rfl
  | some b => cases b <;> rfl
@[simp] theorem AHeap.read_put (h : AHeap) (i : Nat) (b : Blk) (j g o m : Nat) : (h.put i b).read j g o m = if i = j then b.read g o m else h.read j g o m := by
  simp only [AHeap.read_def,AHeap.get_put]
  split <;> simp
theorem AHeap.read_of {h : AHeap} {i : Nat} {b : Blk} (hi : h.get i = some b) (g o m : Nat) : h.read i g o m = b.read g o m := by
  rw [AHeap.read_def,hi]; rfl
theorem read_sub {h : AHeap} {i g o m : Nat} {vs : List Value} (x : h.read i g o m = some vs) {a b : Nat} (hab : a + b ≤ m) : h.read i g (o + a) b = some ((vs.drop a).take b) := by
  rw [AHeap.read_def] at x ⊢
  cases hb : h.get i with
  | none => rw [hb] at x; cases x
  | some blk =>
    rw [hb] at x
    cases blk with
    | map es => cases x
    | iter _ _ => cases x
    | obj _ _ _ => cases x
    | cells own cs min =>
      simp only [Option.bind_some,Blk.read] at x ⊢
      split at x
      · rename_i hc
        cases x
        rw [if_pos (by omega)]
        rw [List.drop_take,List.drop_drop,List.take_take]
        rw [Nat.min_eq_left (by omega)]
      · cases x
theorem read_one {h : AHeap} {i g o m : Nat} {vs : List Value} (x : h.read i g o m = some vs) {a : Nat} {v : Value} (ha : vs[a]? = some v) (hm : a < m) : h.read i g (o + a) 1 = some [v] := by
  rw [read_sub x (by omega)]
  obtain ⟨hlt,rfl⟩ := List.getElem?_eq_some_iff.1 ha
  rw [List.drop_eq_getElem_cons hlt]; rfl
attribute [simp] Blk.read
theorem touch_read {ids : List Nat} {h : AHeap} {i g o m : Nat} (hi : i ∈ ids) : (touch ids h).read i g o m = h.read i g o m := by
  simp only [AHeap.read_def,touch_get,if_pos hi]
@[simp] theorem touch_read_if {ids : List Nat} {h : AHeap} {i g o m : Nat} : (touch ids h).read i g o m = if i ∈ ids then h.read i g o m else none := by
  split
  · rename_i hi; exact touch_read hi
  · rename_i hi; simp only [AHeap.read_def,touch_get,if_neg hi]; rfl
theorem touch_get_if {ids : List Nat} {h : AHeap} {i : Nat} : (touch ids h).get i = if i ∈ ids then h.get i else none := touch_get h i ids
attribute [simp] touch_get_if
inductive Sl (h : AHeap) (esz : Nat) : Value → Nat → List Value → Prop
  | nil : Sl h esz (.slice none 0 0) 0 []
  | mk {i o g k len : Nat} {vs : List Value} (hr : h.read i g o (len * esz) = some vs) : Sl h esz (.slice (some ⟨i,o,some g⟩) len k) len vs
@[simp] theorem wrap64 {x : Int} (h0 : -9223372036854775808 ≤ x) (h1 : x < 9223372036854775808) : IntKind.i64.wrap x = x := by
  simp only [IntKind.wrap,IntKind.bits,IntKind.signed]
  simp
  omega
theorem wrapU {k : IntKind} {x : Int} (hk : k.signed = false) (h0 : 0 ≤ x) (h1 : x < 2 ^ k.bits) : k.wrap x = x := by
  cases k <;> simp [IntKind.signed] at hk <;> simp only [IntKind.wrap,IntKind.bits,IntKind.signed] at * <;> simp at * <;> omega
@[simp] theorem wrap_u8 {x : Int} (h0 : 0 ≤ x) (h1 : x < 256) : IntKind.u8.wrap x = x := wrapU rfl h0 h1
@[simp] theorem wrap_u32 {x : Int} (h0 : 0 ≤ x) (h1 : x < 4294967296) : IntKind.u32.wrap x = x := wrapU rfl h0 h1
@[simp] theorem wrap_u64 {x : Int} (h0 : 0 ≤ x) (h1 : x < 18446744073709551616) : IntKind.u64.wrap x = x := wrapU rfl h0 h1
@[simp] theorem decT {p : Prop} [Decidable p] (h : p) : decide p = true := decide_eq_true h
@[simp] theorem decF {p : Prop} [Decidable p] (h : ¬ p) : decide p = false := decide_eq_false h
@[simp] theorem beqIF {a b : Int} (h : ¬ a = b) : (a == b) = false := by simp [h]
@[simp] theorem bneIT {a b : Int} (h : ¬ a = b) : (a != b) = true := by simp [h]
@[simp] theorem bneIF {a b : Int} (h : a = b) : (a != b) = false := by simp [h]
theorem tdiv_nat (a b : Nat) : Int.tdiv (a : Int) (b : Int) = ((a / b : Nat) : Int) := rfl
@[simp] theorem iteT {α : Sort _} {c : Prop} [Decidable c] {a b : α} (h : c) : (if c then a else b) = a := if_pos h
@[simp] theorem iteF {α : Sort _} {c : Prop} [Decidable c] {a b : α} (h : ¬ c) : (if c then a else b) = b := if_neg h
@[simp] theorem aBound_int {m : Nat} {x : Int} {k : IntKind} (h0 : 0 ≤ x) (h : x ≤ m) : aBound m (.int k x) = some x.toNat := by simp only [aBound]; rw [if_pos (by omega)]
theorem shrI_nat (k : IntKind) (a j : Nat) : shrI k (a : Int) (j : Int) = ((a / 2 ^ (Min.min j k.bits) : Nat) : Int) := by
  simp only [shrI,Int.toNat_natCast]
  rw [Int.fdiv_eq_ediv_of_nonneg _ (Int.pow_nonneg (by omega))]
  simp
end
end Go.Proofs.YtkdpjaaohddppaaGreatDoor.Am
