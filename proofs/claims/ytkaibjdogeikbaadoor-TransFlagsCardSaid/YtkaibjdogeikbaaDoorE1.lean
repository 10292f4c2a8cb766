/- Rules to walk through code of the abstract machine with values that are not known (E1). -/
import Derived.Test.YtkaibjdogeikbaaDoorD6
namespace Go.Proofs.YtkaibjdogeikbaaDoor.Am
noncomputable section

/- RULES TO WALK THROUGH CODE WITH VALUES THAT ARE NOT KNOWN. -/

def HasCode (E : Env) (c : ACode) (σ : Fr) (h : AHeap) (n : Nat) (Q : Ex → Fr → AHeap → Nat → Prop) : Prop := ∃ e σ' h' n', Big E (.code c σ h n e σ' h' n') ∧ Q e σ' h' n'
def HasCall (E : Env) (f : Nat) (args : List Value) (h : AHeap) (n : Nat) (Q : Value → AHeap → Nat → Prop) : Prop := ∃ v h' n', Big E (.call f args h n v h' n') ∧ Q v h' n'

/-- What depends on a term: simp leaves that term alone. -/
abbrev Tok {α : Sort _} (_ : α) : Type := Unit
def HasCodeT (E : Env) (c : ACode) (σ : Fr) (h : AHeap) (n : Nat) (Q : Ex → Fr → AHeap → Nat → Prop) (_ : Tok Q) : Prop := HasCode E c σ h n Q
def HasCallT (E : Env) (f : Nat) (args : List Value) (h : AHeap) (n : Nat) (Q : Value → AHeap → Nat → Prop) (_ : Tok Q) : Prop := HasCall E f args h n Q
/-- What an operation came to. -/
def Runs (r : Option (Value × AHeap × Nat)) (n : Nat) (K : Option Value → AHeap → Nat → Prop) (_ : Tok K) : Prop := ∃ v h' n', r = some (v, h', n') ∧ n ≤ n' ∧ K (some v) h' n'
theorem Runs_some {v : Value} {h' : AHeap} {n' n : Nat} {K : Option Value → AHeap → Nat → Prop} {t : Tok K} : Runs (some (v, h', n')) n K t = (n ≤ n' ∧ K (some v) h' n') := by
  simp only [Runs, Option.some.injEq, Prod.mk.injEq, eq_iff_iff]
  constructor
  · rintro ⟨v', h1, n1, ⟨rfl, rfl, rfl⟩, h2⟩; exact h2
  · intro h2; exact ⟨_, _, _, ⟨rfl, rfl, rfl⟩, h2⟩
theorem Runs_ite {c : Prop} [Decidable c] {r : Option (Value × AHeap × Nat)} {n : Nat} {K : Option Value → AHeap → Nat → Prop} {t : Tok K} : Runs (if c then r else none) n K t = (c ∧ Runs r n K t) := by
  by_cases hc : c
  · rw [if_pos hc]; simp [hc]
  · rw [if_neg hc]; simp [hc, Runs]
theorem Runs_ite' {c : Prop} [Decidable c] {r : Option (Value × AHeap × Nat)} {n : Nat} {K : Option Value → AHeap → Nat → Prop} {t : Tok K} : Runs (if c then none else r) n K t = (¬ c ∧ Runs r n K t) := by
  by_cases hc : c
  · rw [if_pos hc]; simp [hc, Runs]
  · rw [if_neg hc]; simp [hc]
/-- A truth that decides the way. -/
def Guard (r : Option Value) (b : Bool) (A B : Prop) (_ : Tok A) (_ : Tok B) : Prop := (r = some undef ∧ B) ∨ ∃ c, r = some (.bool c) ∧ (c = b → A) ∧ (c ≠ b → B)
theorem Guard_off {b : Bool} {A B : Prop} {x : Tok A} {y : Tok B} : Guard (some (.tuple #[])) b A B x y = B := by simp [Guard, undef]
theorem Guard_bool {c b : Bool} {A B : Prop} {x : Tok A} {y : Tok B} : Guard (some (.bool c)) b A B x y = (∃ d, (some (.bool c) : Option Value) = some (.bool d) ∧ (d = b → A) ∧ (d ≠ b → B)) := by simp [Guard, undef]
def Test (r : Option Value) (b : Bool) (A B : Prop) (_ : Tok A) (_ : Tok B) : Prop := ∃ c, r = some (.bool c) ∧ (c = b → A) ∧ (c ≠ b → B)
theorem Test_tt {A B : Prop} {x : Tok A} {y : Tok B} : Test (some (.bool true)) true A B x y = A := by simp [Test]
theorem Test_ff {A B : Prop} {x : Tok A} {y : Tok B} : Test (some (.bool false)) false A B x y = A := by simp [Test]
theorem Test_tf {A B : Prop} {x : Tok A} {y : Tok B} : Test (some (.bool true)) false A B x y = B := by simp [Test]
theorem Test_ft {A B : Prop} {x : Tok A} {y : Tok B} : Test (some (.bool false)) true A B x y = B := by simp [Test]
theorem Test_not {c : Bool} {b : Bool} {A B : Prop} {x : Tok A} {y : Tok B} : Test (some (.bool (!c))) b A B x y = Test (some (.bool c)) (!b) A B x y := by cases c <;> cases b <;> simp [Test]
theorem Test.split {c b : Bool} {A B : Prop} {u : Tok A} {v : Tok B} (x : c = b → A) (y : c = !b → B) : Test (some (.bool c)) b A B u v := ⟨c, rfl, x, fun h => y (by cases c <;> cases b <;> simp_all)⟩
/-- A callee and its arguments. -/
def Callee (f : Option Value) (xs : Option (List Value)) (k : Nat → List Value → Prop) (_ : Tok k) : Prop := ∃ g first captured vs, f = some (.func (.func g) first captured) ∧ xs = some vs ∧ k g (first.toList ++ vs ++ captured.toList)
theorem Callee_some {g : Nat} {first captured : Array Value} {vs : List Value} {k : Nat → List Value → Prop} {t : Tok k} : Callee (some (.func (.func g) first captured)) (some vs) k t = k g (first.toList ++ vs ++ captured.toList) := by
  simp only [Callee, Option.some.injEq, Value.func.injEq, Fn.func.injEq, eq_iff_iff]
  constructor
  · rintro ⟨_, _, _, _, ⟨rfl, rfl, rfl⟩, rfl, h⟩; exact h
  · intro h; exact ⟨_, _, _, _, ⟨rfl, rfl, rfl⟩, rfl, h⟩

def sxRun (E : Env) (op : AOp) (σ : Fr) (h : AHeap) (n : Nat) (K : Option Value → AHeap → Nat → Prop) (_ : Tok K) : Prop :=
  match op with
  | .call f xs => Callee (X.ev σ h f) (mapX (X.ev σ h) xs) (fun g args => HasCallT E g args h n (fun v => K (some v)) ⟨⟩) ⟨⟩
  | op => Runs (aev (X.ev σ h) h n op) n K ⟨⟩
def sxOp (E : Env) (o : AOper) (σ : Fr) (h : AHeap) (n : Nat) (K : Option Value → AHeap → Nat → Prop) (_ : Tok K) : Prop :=
  match o.guard with
  | none => sxRun E o.op σ h n K ⟨⟩
  | some (d, b) => Guard (σ.get d) b (sxRun E o.op σ h n K ⟨⟩) (K (some undef) h n) ⟨⟩ ⟨⟩
def sxOps (E : Env) : List AOper → Fr → AHeap → Nat → (Q : Fr → AHeap → Nat → Prop) → Tok Q → Prop
  | [], σ, h, n, Q, _ => Q σ h n
  | o :: l, σ, h, n, Q, _ => sxOp E o σ h n (fun r h' n' => sxOps E l (setDst σ o.dst r) h' n' Q ⟨⟩) ⟨⟩

theorem sxRun_big {E : Env} {o : AOper} {σ : Fr} {h : AHeap} {n : Nat} {K : Option Value → AHeap → Nat → Prop} (pg : ∀ d b, o.guard = some (d, b) → σ.get d = some (.bool b)) {t : Tok K} (hx : sxRun E o.op σ h n K t) : ∃ r h' n', Big E (.op o σ h n r h' n') ∧ K r h' n' := by
  unfold sxRun at hx
  split at hx
  · rename_i f xs hop
    obtain ⟨g, first, captured, vs, hf, hv, v, h', n', hb, hk⟩ := hx
    exact ⟨some v, h', n', .opCall pg hop hf hv hb, hk⟩
  · obtain ⟨v, h', n', hv, hn, hk⟩ := hx
    exact ⟨some v, h', n', .prim pg hv hn, hk⟩
theorem sxOp_big {E : Env} {o : AOper} {σ : Fr} {h : AHeap} {n : Nat} {K : Option Value → AHeap → Nat → Prop} {t : Tok K} (hx : sxOp E o σ h n K t) : ∃ r h' n', Big E (.op o σ h n r h' n') ∧ K r h' n' := by
  unfold sxOp at hx
  split at hx
  · rename_i hg
    exact sxRun_big (by rw [hg]; simp) hx
  · rename_i d b hg
    rcases hx with ⟨hd, hB⟩ | ⟨c, hd, hA, hB⟩
    · exact ⟨some undef, h, n, .skipOff hg hd, hB⟩
    by_cases e : c = b
    · subst e
      exact sxRun_big (by rw [hg]; intro d' b' e; cases e; exact hd) (hA rfl)
    · exact ⟨some undef, h, n, .skip hg (by rw [hd]; cases b <;> cases c <;> simp_all), hB e⟩
theorem sxOps_big {E : Env} : ∀ {l : List AOper} {σ : Fr} {h : AHeap} {n : Nat} {Q : Fr → AHeap → Nat → Prop} {t : Tok Q}, sxOps E l σ h n Q t → ∃ σ' h' n', Big E (.ops l σ h n σ' h' n') ∧ Q σ' h' n'
  | [], σ, h, n, Q, _, hx => ⟨σ, h, n, .opsNil, hx⟩
  | o :: l, σ, h, n, Q, _, hx => by
    obtain ⟨r, h1, n1, b1, hx1⟩ := sxOp_big hx
    obtain ⟨σ', h', n', b2, hq⟩ := sxOps_big hx1
    exact ⟨σ', h', n', .opsCons b1 b2, hq⟩

/- An operation looks at the slots that it reads, and no others. -/
theorem get_restrict_mem {σ : Fr} {l : List Nat} {t : Nat} (h : t ∈ l) : (σ.restrict l).get t = σ.get t := by
  rw [Fr.get_restrict, if_pos (by simpa using h)]
theorem ev_restrict {σ : Fr} {l : List Nat} (h : AHeap) {x : X} (hx : ∀ t, t ∈ x.reads → t ∈ l) : X.ev (σ.restrict l) h x = X.ev σ h x := by
  cases x with
  | t k => exact get_restrict_mem (hx k (by simp [X.reads]))
  | c v => rfl
  | g k => rfl
  | f k => rfl
theorem mapX_congr {ρ ρ' : X → Option Value} : ∀ {xs : List X}, (∀ x, x ∈ xs → ρ x = ρ' x) → mapX ρ xs = mapX ρ' xs
  | [], _ => rfl
  | x :: xs, h => by simp only [mapX]; rw [h x (.head _), mapX_congr fun y hy => h y (.tail _ hy)]
theorem aFill_congr {ρ ρ' : X → Option Value} : ∀ {ps : List (Nat × Nat × X)} {cells : List Value}, (∀ p, p ∈ ps → ρ p.2.2 = ρ' p.2.2) → aFill ρ cells ps = aFill ρ' cells ps
  | [], _, _ => rfl
  | (off, size, x) :: ps, cells, h => by
    have h1 : ρ x = ρ' x := h _ (.head _)
    simp only [aFill, h1]
    cases ρ' x with
    | none => rfl
    | some v =>
      simp only
      split
      · exact aFill_congr fun q hq => h q (.tail _ hq)
      · rfl
theorem aBounds_congr {ρ ρ' : X → Option Value} {len : Nat} {lo hi : Option X} (h1 : ∀ x, lo = some x → ρ x = ρ' x) (h2 : ∀ x, hi = some x → ρ x = ρ' x) : aBounds ρ len lo hi = aBounds ρ' len lo hi := by
  cases lo <;> cases hi <;> simp only [aBounds] <;> simp_all
theorem aev_congr {ρ ρ' : X → Option Value} {h : AHeap} {n : Nat} {op : AOp} (hr : ∀ x : X, (∀ t, t ∈ x.reads → t ∈ op.reads) → ρ x = ρ' x) : aev ρ h n op = aev ρ' h n op := by
  cases op with
  | build z ps =>
    simp only [aev]
    rw [aFill_congr fun p hp => hr _ fun t ht => by simp only [AOp.reads, List.mem_flatMap]; exact ⟨p, hp, ht⟩]
  | buildSlice a b c z ps =>
    simp only [aev]
    rw [aFill_congr fun p hp => hr _ fun t ht => by simp only [AOp.reads, List.mem_flatMap]; exact ⟨p, hp, ht⟩]
  | min xs => simp only [aev]; rw [mapX_congr fun x hx => hr x fun t ht => by simp only [AOp.reads, List.mem_flatMap]; exact ⟨x, hx, ht⟩]
  | max xs => simp only [aev]; rw [mapX_congr fun x hx => hr x fun t ht => by simp only [AOp.reads, List.mem_flatMap]; exact ⟨x, hx, ht⟩]
  | makeFunc f a b =>
    simp only [aev]
    rw [mapX_congr (xs := a) fun x hx => hr x fun t ht => by simp only [AOp.reads, List.mem_append, List.mem_flatMap]; exact .inl ⟨x, hx, ht⟩,
      mapX_congr (xs := b) fun x hx => hr x fun t ht => by simp only [AOp.reads, List.mem_append, List.mem_flatMap]; exact .inr ⟨x, hx, ht⟩]
  | sliceStr x lo hi =>
    simp only [aev]
    rw [hr x fun t ht => by simp [AOp.reads, ht]]
    cases ρ' x with
    | none => rfl
    | some v => cases v <;> simp only; rw [aBounds_congr (fun y hy => hr y fun t ht => by subst hy; simp [AOp.reads, optReads, ht]) (fun y hy => hr y fun t ht => by subst hy; simp [AOp.reads, optReads, ht])]
  | sliceArr e l x lo hi =>
    simp only [aev]
    rw [hr x fun t ht => by simp [AOp.reads, ht]]
    have := fun len => aBounds_congr (len := len) (lo := lo) (hi := hi) (fun y hy => hr y fun t ht => by subst hy; simp [AOp.reads, optReads, ht]) (fun y hy => hr y fun t ht => by subst hy; simp [AOp.reads, optReads, ht])
    simp only [this]
  | slice e x lo hi mx =>
    simp only [aev]
    rw [hr x fun t ht => by simp [AOp.reads, ht]]
    have := fun len => aBounds_congr (len := len) (lo := lo) (hi := hi) (fun y hy => hr y fun t ht => by subst hy; simp [AOp.reads, optReads, ht]) (fun y hy => hr y fun t ht => by subst hy; simp [AOp.reads, optReads, ht])
    simp only [this]
    cases mx with
    | none => rfl
    | some m => simp only [hr m fun t ht => by simp [AOp.reads, optReads, ht]]
  | pick a b c => simp only [aev]; rw [hr a fun t ht => by simp [AOp.reads, ht], hr b fun t ht => by simp [AOp.reads, ht], hr c fun t ht => by simp [AOp.reads, ht]]
  | _ => all_goals first
    | rfl
    | (simp only [aev]; rename_i x; rw [hr x fun t ht => by simp [AOp.reads, ht]]; done)
    | (simp only [aev]; rename_i x _; rw [hr x fun t ht => by simp [AOp.reads, ht]]; done)
    | (simp only [aev]; rename_i x y; rw [hr x fun t ht => by simp [AOp.reads, ht], hr y fun t ht => by simp [AOp.reads, ht]]; done)

theorem Big.op_restrict {E : Env} {o : AOper} {σ : Fr} {h : AHeap} {n : Nat} {r : Option Value} {h' : AHeap} {n' : Nat} (b : Big E (.op o σ h n r h' n')) : Big E (.op o (σ.restrict o.reads) h n r h' n') := by
  have hop : ∀ t, t ∈ o.op.reads → t ∈ o.reads := fun t ht => by simp only [AOper.reads, List.mem_append]; exact .inr ht
  have hg : ∀ d b, o.guard = some (d, b) → d ∈ o.reads := fun d b hd => by simp only [AOper.reads, hd, List.mem_append]; exact .inl (.head _)
  have hev : ∀ x : X, (∀ t, t ∈ x.reads → t ∈ o.op.reads) → X.ev σ h x = X.ev (σ.restrict o.reads) h x := fun x hx => (ev_restrict h fun t ht => hop t (hx t ht)).symm
  cases b with
  | prim pg pa pm => exact .prim (fun d b hd => by rw [get_restrict_mem (hg d b hd)]; exact pg d b hd) (by rw [← aev_congr hev]; exact pa) pm
  | skip pg pd => exact .skip pg (by rw [get_restrict_mem (hg _ _ pg)]; exact pd)
  | skipOff pg pd => exact .skipOff pg (by rw [get_restrict_mem (hg _ _ pg)]; exact pd)
  | opCall pg po pf px pc =>
    refine .opCall (fun d b hd => by rw [get_restrict_mem (hg d b hd)]; exact pg d b hd) po ?_ ?_ pc
    · rw [← hev _ fun t ht => by rw [po]; simp [AOp.reads, ht]]; exact pf
    · rw [← mapX_congr fun x hx => hev x fun t ht => by rw [po]; simp only [AOp.reads, List.mem_append, List.mem_flatMap]; exact .inr ⟨x, hx, ht⟩]; exact px

/- DRAWN REGIONS: what an operation touches; what it turns. -/
/-- The blocks that an operation looks at. -/
def touch (ids : List Nat) (h : AHeap) : AHeap := match ids with
  | [] => []
  | i :: is => match h.get i with
    | some b => (i, b) :: touch is h
    | none => touch is h
theorem touch_get (h : AHeap) (i : Nat) : ∀ ids : List Nat, (touch ids h).get i = if i ∈ ids then h.get i else none
  | [] => rfl
  | j :: is => by
    simp only [touch]
    by_cases hj : i = j
    · subst hj
      simp only [List.mem_cons, true_or, if_true]
      cases hi : h.get i with
      | some b => simp only [AHeap.get_cons, if_true]
      | none =>
        simp only
        rw [touch_get h i is, hi]; split <;> rfl
    · have hm : (i ∈ j :: is) ↔ i ∈ is := by simp [hj]
      simp only [hm]
      cases h.get j with
      | some b => simp only; rw [AHeap.get_cons, if_neg (fun e => hj e.symm)]; exact touch_get h i is
      | none => exact touch_get h i is
theorem touch_sub (ids : List Nat) (h : AHeap) : HSub (touch ids h) h := by
  intro i b hb
  rw [touch_get] at hb
  split at hb
  · exact hb
  · cases hb

def putsL (h : AHeap) : List (Nat × Blk) → AHeap
  | [] => h
  | (i, b) :: l => putsL (h.put i b) l
theorem putsL_get_ne {i : Nat} : ∀ (l : List (Nat × Blk)) (h : AHeap), i ∉ l.map (·.1) → (putsL h l).get i = h.get i
  | [], _, _ => rfl
  | (j, b) :: l, h, hi => by
    simp only [List.map_cons, List.mem_cons, not_or] at hi
    simp only [putsL]
    rw [putsL_get_ne l _ hi.2, AHeap.get_put_ne _ _ (fun e => hi.1 e.symm)]
theorem putsL_get_mem {i : Nat} : ∀ (l : List (Nat × Blk)) (h : AHeap), i ∈ l.map (·.1) → ((putsL h l).get i).isSome
  | (j, b) :: l, h, hi => by
    simp only [putsL]
    by_cases hl : i ∈ l.map (·.1)
    · exact putsL_get_mem l _ hl
    · rw [putsL_get_ne l _ hl]
      simp only [List.map_cons, List.mem_cons] at hi
      rcases hi with rfl | hi
      · simp
      · exact absurd hi hl

/-- A CONTRACT: the call comes to v, with these blocks laid. -/
def Ret (E : Env) (f : Nat) (args : List Value) (h : AHeap) (n : Nat) (v : Value) (l : List (Nat × Blk)) (n' : Nat) : Prop :=
  Big E (.call f args h n v (putsL h l) n') ∧ (l.map (·.1)).Nodup ∧ ∀ i, i ∈ l.map (·.1) → (h.get i).isSome ∨ n ≤ i ∧ i < n'
def HasRet (E : Env) (f : Nat) (args : List Value) (h : AHeap) (n : Nat) (Q : Value → List (Nat × Blk) → Nat → Prop) : Prop := ∃ v l n', Ret E f args h n v l n' ∧ Q v l n'
def HasRetT (E : Env) (f : Nat) (args : List Value) (h : AHeap) (n : Nat) (Q : Value → List (Nat × Blk) → Nat → Prop) (_ : Tok Q) : Prop := HasRet E f args h n Q
theorem HasCall.of_ret {E : Env} {f : Nat} {args : List Value} {h : AHeap} {n : Nat} {v : Value} {l : List (Nat × Blk)} {n' : Nat} (x : Ret E f args h n v l n') {Q : Value → AHeap → Nat → Prop} (q : Q v (putsL h l) n') : HasCall E f args h n Q :=
  ⟨v, _, n', x.1, q⟩
theorem HasRet.of_ret {E : Env} {f : Nat} {args : List Value} {h : AHeap} {n : Nat} {v : Value} {l : List (Nat × Blk)} {n' : Nat} (x : Ret E f args h n v l n') {Q : Value → List (Nat × Blk) → Nat → Prop} (q : Q v l n') : HasRet E f args h n Q :=
  ⟨v, _, n', x, q⟩

def X.globs : X → List Nat
  | .g k => [k]
  | _ => []
def AOp.globs : AOp → List Nat
  | .mov x | .box _ x | .nilCheck x | .un _ x | .conv _ x | .same x | .bytesOf _ x | .strOf x | .fieldAddr _ x | .field _ _ x | .extract x _ | .lenStr x | .lenSlice x | .makeIface _ x | .load _ x | .cap x | .sliceData x | .toUnsafe x | .fromUnsafe _ _ x => x.globs
  | .pick c a b => c.globs ++ a.globs ++ b.globs
  | .store _ a x | .bin _ a x | .eqv _ _ _ a x | .eqAgg _ _ a x | .indexAddr _ a x | .indexArr _ _ a x | .index _ _ _ a x | .indexStr a x | .append _ _ _ a x | .copy _ a x | .makeSlice _ _ _ _ a x | .unsafeString _ a x | .lookup _ _ _ a x => a.globs ++ x.globs
  | .sliceArr _ _ x _ _ => x.globs
  | _ => []
def refsO : Option Value → List Nat
  | some v => refsOf v
  | none => []
def readIds (σ : Fr) : List Nat → List Nat
  | [] => []
  | t :: l => refsO (σ.get t) ++ readIds σ l
/-- Operations that look into the memory at what their operands lead to. -/
def AOp.looks : AOp → Bool
  | .load _ _ | .store _ _ _ | .strOf _ | .append _ _ _ _ _ | .copy _ _ _ | .lookup _ _ _ _ _ | .unsafeString _ _ _ | .toUnsafe _ | .fromUnsafe _ _ _ => true
  | _ => false
def touchIds (o : AOper) (σ : Fr) : List Nat := o.op.globs ++ bif o.op.looks then readIds σ o.op.reads else []
/-- What an operation of a drawn region did: what it looked at (none: at whatever), what it turned. -/
structure Kd where
  t : Option (List Nat)
  c : List Nat
def Kd.clear (c : List Nat) : Option (List Nat) → Prop
  | none => c = []
  | some t => ∀ i, i ∈ c → i ∉ t
def Kd.apart (a b : Kd) : Prop := Kd.clear a.c b.t ∧ Kd.clear b.c a.t
def RecIs (a : Rec) (k : Kd) : Prop := a.chg = k.c ∧ ∀ t, k.t = some t → ∀ i, i ∉ t → a.h.get i = none
theorem Kd.apart_heaps {a b : Rec} {k l : Kd} (ha : RecIs a k) (hb : RecIs b l) (h : k.apart l) : apartHeaps a b := by
  obtain ⟨h1, h2⟩ := ha; obtain ⟨h3, h4⟩ := hb
  obtain ⟨h5, h6⟩ := h
  constructor
  · intro i hi
    rw [h1] at hi
    cases ht : l.t with
    | none => rw [ht] at h5; simp only [Kd.clear] at h5; rw [h5] at hi; cases hi
    | some t => rw [ht] at h5; exact h4 t ht i (h5 i hi)
  · intro i hi
    rw [h3] at hi
    cases ht : k.t with
    | none => rw [ht] at h6; simp only [Kd.clear] at h6; rw [h6] at hi; cases hi
    | some t => rw [ht] at h6; exact h2 t ht i (h6 i hi)
def clash (pairs : List (Nat × Nat)) (i j : Nat) : Bool := pairs.any fun p => Nat.beq p.1 i && Nat.beq p.2 j
def okAt (pairs : List (Nat × Nat)) (j : Nat) (k : Kd) : List (Nat × Kd) → Prop
  | [] => True
  | (i, k') :: l => (clash pairs i j = true → k'.apart k) ∧ okAt pairs j k l
theorem okAt_mem {pairs : List (Nat × Nat)} {j : Nat} {k : Kd} : ∀ {l : List (Nat × Kd)} {i : Nat} {k' : Kd}, okAt pairs j k l → (i, k') ∈ l → clash pairs i j = true → k'.apart k
  | (i', k2) :: l, i, k', h, hm, hc => by
    rcases List.mem_cons.1 hm with e | hm
    · cases e; exact h.1 hc
    · exact okAt_mem h.2 hm hc

/-- What an operation that is no call turned: new blocks, and what it wrote to. -/
def chgOf (log : List Nat) (n n1 : Nat) : List Nat := log ++ (if n1 = n then [] else [n])
def chgOk (h0 h1 : AHeap) (n n1 : Nat) (c : List Nat) : Prop := ∀ i, i ∈ c → (h1.get i).isSome ∧ ((h0.get i).isSome ∨ n ≤ i ∧ i < n1)
def dxRun (E : Env) (o : AOper) (σ : Fr) (h : AHeap) (n : Nat) (K : Option Value → AHeap → Nat → Kd → Prop) (_ : Tok K) : Prop :=
  match o.op with
  | .call f xs => Callee (X.ev σ h f) (mapX (X.ev σ h) xs) (fun g args => HasRetT E g args h n (fun v bs n' => K (some v) (putsL h bs) n' ⟨none, bs.map (·.1)⟩) ⟨⟩) ⟨⟩
  | op => bif op.pure then Runs (aev (X.ev σ (touch (touchIds o σ) h)) (touch (touchIds o σ) h) n op) n (fun r _ _ => K r h n ⟨some (touchIds o σ), []⟩) ⟨⟩
    else (∀ i, i ∈ touchIds o σ → i < n) ∧ Runs (aev (X.ev σ (touch (touchIds o σ) h)) (touch (touchIds o σ) h) n op) n (fun r h1 n1 =>
      chgOk (touch (touchIds o σ) h) h1 n n1 (chgOf (logOf (X.ev σ (touch (touchIds o σ) h)) op) n n1) ∧
      K r (h.puts h1 (chgOf (logOf (X.ev σ (touch (touchIds o σ) h)) op) n n1)) n1 ⟨some (touchIds o σ), chgOf (logOf (X.ev σ (touch (touchIds o σ) h)) op) n n1⟩) ⟨⟩
def sxDraw (E : Env) (pairs : List (Nat × Nat)) : List AOper → Nat → Fr → AHeap → Nat → List (Nat × Kd) → (Q : Fr → AHeap → Nat → Prop) → Tok Q → Prop
  | [], _, σ, h, n, _, Q, _ => Q σ h n
  | o :: l, j, σ, h, n, past, Q, _ =>
    match o.guard with
    | none => dxRun E o σ h n (fun r h' n' k => okAt pairs j k past ∧ sxDraw E pairs l (j + 1) (setDst σ o.dst r) h' n' ((j, k) :: past) Q ⟨⟩) ⟨⟩
    | some (d, b) => Guard (σ.get d) b (dxRun E o σ h n (fun r h' n' k => okAt pairs j k past ∧ sxDraw E pairs l (j + 1) (setDst σ o.dst r) h' n' ((j, k) :: past) Q ⟨⟩) ⟨⟩)
        (sxDraw E pairs l (j + 1) (setDst σ o.dst (some undef)) h n ((j, ⟨some [], []⟩) :: past) Q ⟨⟩) ⟨⟩ ⟨⟩

theorem puts_all (H : AHeap) : ∀ (l : List (Nat × Blk)) (h : AHeap), (∀ p, p ∈ l → H.get p.1 = some p.2) → h.puts H (l.map (·.1)) = putsL h l
  | [], _, _ => rfl
  | (i, b) :: l, h, hl => by
    have := hl _ (.head _)
    simp only at this
    simp only [List.map_cons, AHeap.puts, this, putsL]
    exact puts_all H l _ fun p hp => hl p (.tail _ hp)
theorem putsL_nodup : ∀ (l : List (Nat × Blk)) (h : AHeap), (l.map (·.1)).Nodup → ∀ p, p ∈ l → (putsL h l).get p.1 = some p.2
  | (i, b) :: l, h, hn, p, hp => by
    simp only [List.map_cons, List.nodup_cons] at hn
    simp only [putsL]
    rcases List.mem_cons.1 hp with rfl | hp
    · rw [putsL_get_ne l _ hn.1]; simp
    · exact putsL_nodup l _ hn.2 p hp

/-- One operation of a drawn region: its record. -/
theorem dxRun_big {E : Env} {o : AOper} {σ : Fr} {h : AHeap} {n : Nat} {K : Option Value → AHeap → Nat → Kd → Prop} (pg : ∀ d b, o.guard = some (d, b) → σ.get d = some (.bool b)) {t : Tok K} (hx : dxRun E o σ h n K t) :
    ∃ (c : Rec) (k : Kd), c.n = n ∧ RecIs c k ∧ HSub c.h h ∧ c.ok ∧ Big E (.op o σ c.h c.n c.r c.h' c.n') ∧ K c.r (h.puts c.h' c.chg) c.n' k := by
  unfold dxRun at hx
  split at hx
  · rename_i f xs hop
    obtain ⟨g, first, captured, vs, hf, hv, v, bs, n', ⟨hb, hnd, hids⟩, hk⟩ := hx
    have hputs := puts_all (putsL h bs) bs h (putsL_nodup bs h hnd)
    refine ⟨⟨h, n, some v, putsL h bs, n', bs.map Prod.fst⟩, ⟨none, bs.map Prod.fst⟩, rfl, ⟨rfl, fun t ht => by cases ht⟩, fun _ _ x => x, ⟨fun i b hi hni => ?_, fun i hi => ⟨putsL_get_mem bs h hi, hids i hi⟩⟩, .opCall pg hop hf hv hb, ?_⟩
    · rw [putsL_get_ne bs h hni]; exact hi
    · rw [hputs]; exact hk
  · cases hp : o.op.pure with
    | true =>
      rw [hp] at hx
      obtain ⟨v, h', n', hv, hn, hk⟩ := hx
      obtain ⟨rfl, rfl⟩ := aev_pure hp hv
      exact ⟨⟨touch (touchIds o σ) h, n', some v, touch (touchIds o σ) h, n', []⟩, ⟨some (touchIds o σ), []⟩, rfl, ⟨rfl, fun t ht i hi => by cases ht; show (touch (touchIds o σ) h).get i = none; rw [touch_get, if_neg hi]⟩, touch_sub _ h, ⟨fun _ _ x _ => x, fun i hi => by cases hi⟩, .prim pg hv hn, hk⟩
    | false =>
      rw [hp] at hx
      obtain ⟨hlt, v, h1, n1, hv, hn, hok, hk⟩ := hx
      refine ⟨⟨touch (touchIds o σ) h, n, some v, h1, n1, _⟩, ⟨some (touchIds o σ), _⟩, rfl, ⟨rfl, fun t ht i hi => by cases ht; show (touch (touchIds o σ) h).get i = none; rw [touch_get, if_neg hi]⟩, touch_sub _ h, ⟨fun i b hb hni => ?_, hok⟩, .prim pg hv hn, hk⟩
      refine aev_keeps hv i b ?_ (fun hm => hni (List.mem_append_left _ hm)) hb
      simp only at hb
      rw [touch_get] at hb
      split at hb
      · rename_i hm; exact hlt i hm
      · cases hb

theorem sxDraw_big {E : Env} {pairs : List (Nat × Nat)} : ∀ {l : List AOper} {j : Nat} {σ : Fr} {h : AHeap} {n : Nat} {past : List (Nat × Kd)} {Q : Fr → AHeap → Nat → Prop} {t : Tok Q}, sxDraw E pairs l j σ h n past Q t →
    ∃ rs σ' h' n', Big E (.draw l σ h n rs σ' h' n') ∧ Q σ' h' n' ∧ (∀ i K a, (i, K) ∈ past → RecIs a K → ∀ k b, rs[k]? = some b → clash pairs i (j + k) = true → apartHeaps a b) ∧
      (∀ k k' a b, k < k' → rs[k]? = some a → rs[k']? = some b → clash pairs (j + k) (j + k') = true → apartHeaps a b)
  | [], j, σ, h, n, past, Q, _, hx => ⟨[], σ, h, n, .drawNil, hx, fun _ _ _ _ _ k b hk => by simp at hk, fun k k' a b _ hk => by simp at hk⟩
  | o :: l, j, σ, h, n, past, Q, _, hx => by
    have fin : ∀ (c : Rec) (K : Kd), c.n = n → RecIs c K → okAt pairs j K past → HSub c.h h → c.ok → Big E (.op o σ c.h c.n c.r c.h' c.n') → sxDraw E pairs l (j + 1) (setDst σ o.dst c.r) (h.puts c.h' c.chg) c.n' ((j, K) :: past) Q ⟨⟩ →
        ∃ rs σ' h' n', Big E (.draw (o :: l) σ h n rs σ' h' n') ∧ Q σ' h' n' ∧ (∀ i K a, (i, K) ∈ past → RecIs a K → ∀ k b, rs[k]? = some b → clash pairs i (j + k) = true → apartHeaps a b) ∧
          (∀ k k' a b, k < k' → rs[k]? = some a → rs[k']? = some b → clash pairs (j + k) (j + k') = true → apartHeaps a b) := by
      intro c K hcn hK hok hsub hc hb hd
      obtain ⟨rs, σ', h', n', b2, hq, hA, hB⟩ := sxDraw_big hd
      subst hcn
      refine ⟨c :: rs, σ', h', n', .drawCons hb.op_restrict hsub hc b2, hq, fun i K' a hm ha k b hk hcl => ?_, fun k k' a b hlt hk hk' hcl => ?_⟩
      · cases k with
        | zero =>
          simp at hk
          subst hk
          exact Kd.apart_heaps ha hK (okAt_mem hok hm hcl)
        | succ k =>
          simp at hk
          exact hA i K' a (.tail _ hm) ha k b hk (by rw [show j + 1 + k = j + (k + 1) from by omega]; exact hcl)
      · cases k' with
        | zero => omega
        | succ k' =>
          simp at hk'
          cases k with
          | zero =>
            simp at hk
            subst hk
            exact hA j K c (.head _) hK k' b hk' (by rw [show j + 1 + k' = j + (k' + 1) from by omega]; exact hcl)
          | succ k =>
            simp at hk
            exact hB k k' a b (by omega) hk hk' (by rw [show j + 1 + k = j + (k + 1) from by omega, show j + 1 + k' = j + (k' + 1) from by omega]; exact hcl)
    unfold sxDraw at hx
    split at hx
    · rename_i hg
      obtain ⟨c, k, h1, h2, h3, h4, h5, hok, hd⟩ := dxRun_big (by rw [hg]; simp) hx
      exact fin c k h1 h2 hok h3 h4 h5 hd
    · rename_i d b hg
      have hnil : ∀ (l : List (Nat × Kd)), okAt pairs j ⟨some [], []⟩ l := by
          intro l
          induction l with
          | nil => trivial
          | cons p l ih =>
            refine ⟨fun _ => ⟨fun i _ hm => (by cases hm), ?_⟩, ih⟩
            cases p.2.t with
            | none => rfl
            | some t => intro i hi; cases hi
      rcases hx with ⟨hd, hB⟩ | ⟨t, hd, hA, hB⟩
      · exact fin ⟨[], n, some undef, [], n, []⟩ ⟨some [], []⟩ rfl ⟨rfl, fun t ht i hi => rfl⟩ (hnil past) (fun i b hb => (by cases hb)) ⟨fun i b hb => (by cases hb), fun i hi => (by cases hi)⟩ (.skipOff hg hd) hB
      by_cases e : t = b
      · subst e
        obtain ⟨c, k, h1, h2, h3, h4, h5, hok, hd⟩ := dxRun_big (by rw [hg]; intro d' b' e; cases e; exact hd) (hA rfl)
        exact fin c k h1 h2 hok h3 h4 h5 hd
      · exact fin ⟨[], n, some undef, [], n, []⟩ ⟨some [], []⟩ rfl ⟨rfl, fun t ht i hi => rfl⟩ (hnil past) (fun i b hb => (by cases hb)) ⟨fun i b hb => (by cases hb), fun i hi => (by cases hi)⟩ (.skip hg (by rw [hd]; cases b <;> cases t <;> simp_all)) (hB e)

/-- With each operation: which earlier ones it may meet in either order, where one of the two is no mere look. -/
def pureAt (l : List AOper) (i : Nat) : Bool := match l[i]? with
  | some o => o.op.pure
  | none => false
def confOf (l : List AOper) (ps : List (Nat × Nat)) (o : AOper) (j : Nat) : List Nat := ps.filterMap fun p => bif Nat.beq p.2 j && !(o.op.pure && pureAt l p.1) then some p.1 else none
def tabFrom (l : List AOper) (ps : List (Nat × Nat)) : List AOper → Nat → List (AOper × List Nat)
  | [], _ => []
  | o :: r, j => (o, confOf l ps o j) :: tabFrom l ps r (j + 1)
def okTab (conf : List Nat) (k : Kd) : List (Nat × Kd) → Prop
  | [] => True
  | (i, k') :: l => (i ∈ conf → k'.apart k) ∧ okTab conf k l
theorem okTab_nil (k : Kd) : ∀ l : List (Nat × Kd), okTab [] k l
  | [] => trivial
  | p :: l => ⟨fun h => (by cases h), okTab_nil k l⟩
def sxDrawT (E : Env) : List (AOper × List Nat) → Nat → Fr → AHeap → Nat → List (Nat × Kd) → (Q : Fr → AHeap → Nat → Prop) → Tok Q → Prop
  | [], _, σ, h, n, _, Q, _ => Q σ h n
  | (o, conf) :: l, j, σ, h, n, past, Q, _ =>
    match o.guard with
    | none => dxRun E o σ h n (fun r h' n' k => okTab conf k past ∧ sxDrawT E l (j + 1) (setDst σ o.dst r) h' n' ((j, k) :: past) Q ⟨⟩) ⟨⟩
    | some (d, b) => Guard (σ.get d) b (dxRun E o σ h n (fun r h' n' k => okTab conf k past ∧ sxDrawT E l (j + 1) (setDst σ o.dst r) h' n' ((j, k) :: past) Q ⟨⟩) ⟨⟩)
        (sxDrawT E l (j + 1) (setDst σ o.dst (some undef)) h n ((j, ⟨some [], []⟩) :: past) Q ⟨⟩) ⟨⟩ ⟨⟩
theorem dxRun_mono {E : Env} {o : AOper} {σ : Fr} {h : AHeap} {n : Nat} {K K' : Option Value → AHeap → Nat → Kd → Prop} {t : Tok K} {t' : Tok K'} (hx : dxRun E o σ h n K t) (hk : ∀ r h' n' k, (o.op.pure = true → k.c = []) → K r h' n' k → K' r h' n' k) : dxRun E o σ h n K' t' := by
  unfold dxRun at hx ⊢
  split at hx
  · rename_i f xs hop
    obtain ⟨g, first, captured, vs, hf, hv, v, bs, n', hr, hq⟩ := hx
    exact ⟨g, first, captured, vs, hf, hv, v, bs, n', hr, hk _ _ _ _ (by rw [hop]; intro h; cases h) hq⟩
  · cases hp : o.op.pure with
    | true =>
      rw [hp] at hx
      obtain ⟨v, h', n', hv, hn, hq⟩ := hx
      exact ⟨v, h', n', hv, hn, hk _ _ _ _ (fun _ => rfl) hq⟩
    | false =>
      rw [hp] at hx
      obtain ⟨hlt, v, h1, n1, hv, hn, hok, hq⟩ := hx
      exact ⟨hlt, v, h1, n1, hv, hn, hok, hk _ _ _ _ (by rw [hp]; intro h; cases h) hq⟩
theorem okTab_okAt {l : List AOper} {ps : List (Nat × Nat)} {o : AOper} {j : Nat} {k : Kd} (ho : o.op.pure = true → k.c = []) : ∀ {past : List (Nat × Kd)}, (∀ i k', (i, k') ∈ past → pureAt l i = true → k'.c = []) → okTab (confOf l ps o j) k past → okAt ps j k past
  | [], _, _ => trivial
  | (i, k') :: past, hp, h => by
    refine ⟨fun hc => ?_, okTab_okAt ho (fun i k' hm => hp i k' (.tail _ hm)) h.2⟩
    simp only [clash, List.any_eq_true, Bool.and_eq_true] at hc
    obtain ⟨p, hpm, h1, h2⟩ := hc
    obtain rfl := Nat.eq_of_beq_eq_true h1
    cases hpu : (o.op.pure && pureAt l p.1) with
    | true =>
      simp only [Bool.and_eq_true] at hpu
      have e1 := ho hpu.1
      have e2 := hp _ _ (.head _) hpu.2
      refine ⟨?_, ?_⟩
      · rw [e2]; cases k.t with
        | none => rfl
        | some t => intro i hi; cases hi
      · rw [e1]; cases k'.t with
        | none => rfl
        | some t => intro i hi; cases hi
    | false =>
      refine h.1 ?_
      simp only [confOf, List.mem_filterMap]
      exact ⟨p, hpm, by rw [h2, hpu]; rfl⟩
theorem sxDrawT_sub {E : Env} {l : List AOper} {ps : List (Nat × Nat)} : ∀ {r : List AOper} {j : Nat} {σ : Fr} {h : AHeap} {n : Nat} {past : List (Nat × Kd)} {Q : Fr → AHeap → Nat → Prop} {t : Tok Q}, (∀ k o, r[k]? = some o → l[j + k]? = some o) →
    (∀ i k', (i, k') ∈ past → pureAt l i = true → k'.c = []) → sxDrawT E (tabFrom l ps r j) j σ h n past Q t → sxDraw E ps r j σ h n past Q t
  | [], j, σ, h, n, past, Q, _, _, _, hx => hx
  | o :: r, j, σ, h, n, past, Q, _, hl, hp, hx => by
    have hl' : ∀ k o, r[k]? = some o → l[j + 1 + k]? = some o := fun k o' hk => by
      have := hl (k + 1) o' (by simpa using hk)
      rw [show j + 1 + k = j + (k + 1) from by omega]; exact this
    have ho : l[j]? = some o := by simpa using hl 0 o rfl
    have step : ∀ k : Kd, (o.op.pure = true → k.c = []) → ∀ i k', (i, k') ∈ (j, k) :: past → pureAt l i = true → k'.c = [] := by
      intro k hk i k' hm hpu
      rcases List.mem_cons.1 hm with e | hm
      · cases e
        simp only [pureAt, ho] at hpu
        exact hk hpu
      · exact hp i k' hm hpu
    simp only [tabFrom] at hx
    unfold sxDrawT at hx
    unfold sxDraw
    cases hg : o.guard with
    | none =>
      simp only [hg] at hx ⊢
      exact dxRun_mono hx fun r' h' n' k hk hq => ⟨okTab_okAt hk hp hq.1, sxDrawT_sub hl' (step k hk) hq.2⟩
    | some g =>
      obtain ⟨d, b⟩ := g
      simp only [hg] at hx ⊢
      rcases hx with ⟨hc, hB⟩ | ⟨c, hc, hA, hB⟩
      · exact .inl ⟨hc, sxDrawT_sub hl' (step ⟨some [], []⟩ fun _ => rfl) hB⟩
      exact .inr ⟨c, hc, fun e => dxRun_mono (hA e) fun r' h' n' k hk hq => ⟨okTab_okAt hk hp hq.1, sxDrawT_sub hl' (step k hk) hq.2⟩, fun e => sxDrawT_sub hl' (step ⟨some [], []⟩ fun _ => rfl) (hB e)⟩

/-- A drawn region that only reads. -/
theorem sxOps_pure_draw {E : Env} : ∀ {l : List AOper} {σ : Fr} {h : AHeap} {n : Nat} {Q : Fr → AHeap → Nat → Prop} {t : Tok Q}, (l.all fun o => o.op.pure) = true → sxOps E l σ h n Q t →
    ∃ rs σ' h' n', Big E (.draw l σ h n rs σ' h' n') ∧ Q σ' h' n' ∧ ∀ (k : Nat) (a : Rec), rs[k]? = some a → a.chg = []
  | [], σ, h, n, Q, _, _, hx => ⟨[], σ, h, n, .drawNil, hx, fun k a hk => by simp at hk⟩
  | o :: l, σ, h, n, Q, _, hp, hx => by
    simp only [List.all_cons, Bool.and_eq_true] at hp
    obtain ⟨r, h1, n1, b1, hx1⟩ := sxOp_big hx
    have hh : h1 = h ∧ n1 = n := by
      cases b1 with
      | prim pg pa pm => exact aev_pure hp.1 pa
      | skip => exact ⟨rfl, rfl⟩
      | skipOff => exact ⟨rfl, rfl⟩
      | opCall pg po => rw [po] at hp; cases hp.1
    obtain ⟨rfl, rfl⟩ := hh
    obtain ⟨rs, σ', h', n', b2, hq, hA⟩ := sxOps_pure_draw hp.2 hx1
    refine ⟨⟨h1, n1, r, h1, n1, []⟩ :: rs, σ', h', n', .drawCons (c := ⟨h1, n1, r, h1, n1, []⟩) b1.op_restrict (fun _ _ x => x) ⟨fun _ _ x _ => x, fun i hi => by cases hi⟩ b2, hq, fun k a hk => ?_⟩
    cases k with
    | zero => simp at hk; rw [← hk]
    | succ k => simp at hk; exact hA k a hk

/-- Code. -/
def sx (E : Env) : ACode → Fr → AHeap → Nat → (Q : Ex → Fr → AHeap → Nat → Prop) → Tok Q → Prop
  | .skip, σ, h, n, Q, _ => Q .normal σ h n
  | .region l none, σ, h, n, Q, _ => sxOps E l σ h n (fun σ h n => Q .normal σ h n) ⟨⟩
  | .region l (some ps), σ, h, n, Q, _ => bif l.all fun o => o.op.pure then sxOps E l σ h n (fun σ h n => Q .normal σ h n) ⟨⟩
    else (ps.all fun p => Nat.blt p.1 p.2) = true ∧ sxDrawT E (tabFrom l ps l 0) 0 σ h n [] (fun σ h n => Q .normal σ h n) ⟨⟩
  | .seq a b, σ, h, n, Q, _ => sx E a σ h n (fun e σ h n => match e with
    | .normal => sx E b σ h n Q ⟨⟩
    | e => Q e σ h n) ⟨⟩
  | .cond x a b, σ, h, n, Q, _ => Test (X.ev σ h x) true (sx E a σ h n Q ⟨⟩) (sx E b σ h n Q ⟨⟩) ⟨⟩ ⟨⟩
  | .block id a, σ, h, n, Q, _ => sx E a σ h n (fun e σ h n => match e with
    | .exit j => if j = id then Q .normal σ h n else Q (.exit j) σ h n
    | e => Q e σ h n) ⟨⟩
  | .loop a, σ, h, n, Q, _ => HasCodeT E (.loop a) σ h n Q ⟨⟩
  | .exit id, σ, h, n, Q, _ => Q (.exit id) σ h n
  | .ret, σ, h, n, Q, _ => Q .ret σ h n
  | .fail, _, _, _, _, _ => False

theorem sx_big {E : Env} : ∀ {c : ACode} {σ : Fr} {h : AHeap} {n : Nat} {Q : Ex → Fr → AHeap → Nat → Prop} {t : Tok Q}, sx E c σ h n Q t → HasCode E c σ h n Q
  | .skip, σ, h, n, Q, _, hx => ⟨_, _, _, _, .cskip, hx⟩
  | .region l none, σ, h, n, Q, _, hx => by
    obtain ⟨σ', h', n', hb, hq⟩ := sxOps_big hx
    exact ⟨_, _, _, _, .region hb, hq⟩
  | .region l (some ps), σ, h, n, Q, _, hx => by
    unfold sx at hx
    cases hp : l.all fun o => o.op.pure with
    | true =>
      rw [hp] at hx
      obtain ⟨rs, σ', h', n', hb, hq, hA⟩ := sxOps_pure_draw hp hx
      exact ⟨_, _, _, _, .regionDraw hb (fun i j a b _ ha hb => ⟨fun i hi => (by rw [hA _ _ ha] at hi; cases hi), fun i hi => (by rw [hA _ _ hb] at hi; cases hi)⟩), hq⟩
    | false =>
    rw [hp] at hx
    obtain ⟨hps, hx⟩ := hx
    obtain ⟨rs, σ', h', n', hb, hq, _, hB⟩ := sxDraw_big (sxDrawT_sub (fun k o hk => by rw [Nat.zero_add]; exact hk) (fun i k' hm => by cases hm) hx)
    refine ⟨_, _, _, _, .regionDraw hb (fun i j a b hij ha hb => ?_), hq⟩
    have hlt := List.all_eq_true.1 hps _ hij
    refine hB i j a b (by simpa using hlt) ha hb ?_
    simp only [Nat.zero_add, clash, List.any_eq_true]
    exact ⟨(i, j), hij, by simp⟩
  | .seq a b, σ, h, n, Q, _, hx => by
    obtain ⟨e, σ1, h1, n1, hb, hq⟩ := sx_big (c := a) hx
    cases e with
    | normal =>
      obtain ⟨e, σ', h', n', hb2, hq2⟩ := sx_big (c := b) hq
      exact ⟨_, _, _, _, .seq hb hb2, hq2⟩
    | exit j => exact ⟨_, _, _, _, .seqStop hb (by simp), hq⟩
    | ret => exact ⟨_, _, _, _, .seqStop hb (by simp), hq⟩
  | .cond x a b, σ, h, n, Q, _, hx => by
    obtain ⟨c, hc, hA, hB⟩ := hx
    cases c with
    | true =>
      obtain ⟨e, σ', h', n', hb, hq⟩ := sx_big (c := a) (hA rfl)
      exact ⟨_, _, _, _, .cond hc hb, hq⟩
    | false =>
      obtain ⟨e, σ', h', n', hb, hq⟩ := sx_big (c := b) (hB (by simp))
      exact ⟨_, _, _, _, .cond hc hb, hq⟩
  | .block id a, σ, h, n, Q, _, hx => by
    obtain ⟨e, σ1, h1, n1, hb, hq⟩ := sx_big (c := a) hx
    cases e with
    | normal => exact ⟨_, _, _, _, .block hb (by simp), hq⟩
    | exit j =>
      simp only at hq
      split at hq
      · rename_i e; subst e
        exact ⟨_, _, _, _, .blockExit hb, hq⟩
      · rename_i hne
        exact ⟨_, _, _, _, .block hb (by simpa using hne), hq⟩
    | ret => exact ⟨_, _, _, _, .block hb (by simp), hq⟩
  | .loop a, σ, h, n, Q, _, hx => hx
  | .exit id, σ, h, n, Q, _, hx => ⟨_, _, _, _, .exit, hx⟩
  | .ret, σ, h, n, Q, _, hx => ⟨_, _, _, _, .ret, hx⟩

/-- The next round. -/
structure Again (I : Nat → Fr → AHeap → Nat → Prop) (m : Nat) (σ : Fr) (h : AHeap) (n : Nat) (t : Tok I) : Prop where
  again : ∃ m', m' < m ∧ ∃ σ2 h2, FSub σ2 σ ∧ HSub h2 h ∧ I m' σ2 h2 n
/-- A loop: a measure, an invariant. -/
theorem loop_inv {E : Env} {c : ACode} {Q : Ex → Fr → AHeap → Nat → Prop} (I : Nat → Fr → AHeap → Nat → Prop) (step : ∀ m σ h n, I m σ h n → HasCode E c σ h n fun e σ' h' n' => match e with
      | .normal => Again I m σ' h' n' ()
      | e => Q e σ' h' n') : ∀ (m : Nat) (σ : Fr) (h : AHeap) (n : Nat), I m σ h n → HasCode E (.loop c) σ h n Q := by
  intro m
  induction m using Nat.strongRecOn with
  | _ m ih =>
    intro σ h n hi
    obtain ⟨e, σ1, h1, n1, hb, hq⟩ := step m σ h n hi
    cases e with
    | normal =>
      obtain ⟨m', hlt, σ2, h2, hs, hh, hi2⟩ := hq.again
      obtain ⟨e, σ', h', n', hb2, hq2⟩ := ih m' hlt σ2 h2 n1 hi2
      exact ⟨e, σ', h', n', .loop (.weak hb hs hh) hb2, hq2⟩
    | exit j => exact ⟨_, _, _, _, .loopStop hb (by simp), hq⟩
    | ret => exact ⟨_, _, _, _, .loopStop hb (by simp), hq⟩
/-- One round of a loop. -/
theorem HasCode.round {E : Env} {c : ACode} {σ : Fr} {h : AHeap} {n : Nat} {Q : Ex → Fr → AHeap → Nat → Prop} (x : sx E c σ h n (fun e σ' h' n' => match e with
      | .normal => HasCodeT E (.loop c) σ' h' n' Q ⟨⟩
      | e => Q e σ' h' n') ⟨⟩) : HasCode E (.loop c) σ h n Q := by
  obtain ⟨e, σ1, h1, n1, hb, hq⟩ := sx_big x
  cases e with
  | normal =>
    obtain ⟨e, σ', h', n', hb2, hq2⟩ := hq
    exact ⟨e, σ', h', n', .loop hb hb2, hq2⟩
  | exit j => exact ⟨_, _, _, _, .loopStop hb (by simp), hq⟩
  | ret => exact ⟨_, _, _, _, .loopStop hb (by simp), hq⟩
theorem FSub.nil (σ : Fr) : FSub [] σ := fun i v h => by cases h
theorem FSub.cons {σ σ' : Fr} {k : Nat} {v : Value} (hk : σ'.get k = some v) (hs : FSub σ σ') : FSub ((k, v) :: σ) σ' := fun i u h => by
  rw [Fr.get_cons] at h
  split at h
  · rename_i e; subst e; cases h; exact hk
  · exact hs i u h

theorem HasCode.start {E : Env} {c : ACode} {σ σ2 : Fr} {h h2 : AHeap} {n : Nat} {Q : Ex → Fr → AHeap → Nat → Prop} (hs : FSub σ2 σ) (hh : HSub h2 h) (x : HasCode E c σ2 h2 n Q) : HasCode E c σ h n Q := by
  obtain ⟨e, σ', h', n', hb, hq⟩ := x
  exact ⟨e, σ', h', n', .start hb hs hh, hq⟩
theorem HasCode.mono {E : Env} {c : ACode} {σ : Fr} {h : AHeap} {n : Nat} {Q Q' : Ex → Fr → AHeap → Nat → Prop} (x : HasCode E c σ h n Q) (hq : ∀ e σ' h' n', Q e σ' h' n' → Q' e σ' h' n') : HasCode E c σ h n Q' := by
  obtain ⟨e, σ', h', n', hb, hQ⟩ := x
  exact ⟨e, σ', h', n', hb, hq _ _ _ _ hQ⟩
theorem HasCall.mono {E : Env} {f : Nat} {args : List Value} {h : AHeap} {n : Nat} {Q Q' : Value → AHeap → Nat → Prop} (x : HasCall E f args h n Q) (hq : ∀ v h' n', Q v h' n' → Q' v h' n') : HasCall E f args h n Q' := by
  obtain ⟨v, h', n', hb, hQ⟩ := x
  exact ⟨v, h', n', hb, hq _ _ _ hQ⟩

/-- How a body's end answers. -/
def Done (rs : List ARes) (Q : Value → AHeap → Nat → Prop) (e : Ex) (σ' : Fr) (h1 : AHeap) (n1 : Nat) : Prop := (e = .normal ∨ e = .ret) ∧ ∃ vs, evRes σ' h1 rs = some vs ∧ Q (resVal vs) h1 n1
/-- A function by its code: the contract's proof. -/
theorem ret_of_sx {E : Env} {f : Nat} {af : AFunc} {args : List Value} {h : AHeap} {n : Nat} {v : Value} {l : List (Nat × Blk)} {n' : Nat} (hf : E.fs f = some af) (ha : args.length ≤ af.ntmps) (hnd : (l.map (·.1)).Nodup) (hids : ∀ i, i ∈ l.map (·.1) → (h.get i).isSome ∨ n ≤ i ∧ i < n')
    (hx : sx E af.body (argFr 0 args) h n (Done af.results (fun v1 h1 n1 => v1 = v ∧ HSub (putsL h l) h1 ∧ n1 ≤ n')) ⟨⟩) : Ret E f args h n v l n' := by
  obtain ⟨e, σ', h1, n1, hb, he, vs, hvs, hv, hsub, hn⟩ := sx_big hx
  subst hv
  exact ⟨.lift (.call hf ha hb he hvs hsub) hn, hnd, hids⟩
/-- A callee walked in place. -/
theorem HasCall.inl {E : Env} {f : Nat} {af : AFunc} {args : List Value} {h : AHeap} {n : Nat} {Q : Value → AHeap → Nat → Prop} (hf : E.fs f = some af) (ha : args.length ≤ af.ntmps)
    (hx : sx E af.body (argFr 0 args) h n (Done af.results Q) ⟨⟩) : HasCall E f args h n Q := by
  obtain ⟨e, σ', h1, n1, hb, he, vs, hvs, hq⟩ := sx_big hx
  exact ⟨_, h1, n1, .call hf ha hb he hvs (fun _ _ x => x), hq⟩
theorem call_inl {E : Env} {f : Nat} {af : AFunc} {args : List Value} {h : AHeap} {n : Nat} {Q : Value → AHeap → Nat → Prop} {t : Tok Q} (hf : E.fs f = some af) (ha : args.length ≤ af.ntmps)
    (hx : sx E af.body (argFr 0 args) h n (Done af.results Q) ⟨⟩) : HasCallT E f args h n Q t := HasCall.inl hf ha hx
theorem call_ret {E : Env} {f : Nat} {args : List Value} {h : AHeap} {n : Nat} {v : Value} {l : List (Nat × Blk)} {n' : Nat} {Q : Value → AHeap → Nat → Prop} {t : Tok Q} (x : Ret E f args h n v l n') (q : Q v (putsL h l) n') : HasCallT E f args h n Q t := HasCall.of_ret x q
theorem ret_ret {E : Env} {f : Nat} {args : List Value} {h : AHeap} {n : Nat} {v : Value} {l : List (Nat × Blk)} {n' : Nat} {Q : Value → List (Nat × Blk) → Nat → Prop} {t : Tok Q} (x : Ret E f args h n v l n') (q : Q v l n') : HasRetT E f args h n Q t := HasRet.of_ret x q
end
end Go.Proofs.YtkaibjdogeikbaaDoor.Am
