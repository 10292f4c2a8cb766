/- Rules to walk through code of the abstract machine with values that are not known (E1b). -/
import Derived.Test.YtkaibjdogeikbaaDoorE1
namespace Go.Proofs.YtkaibjdogeikbaaDoor.Am
noncomputable section
/- THE RULES, SEALED: nothing but their equations is known of them. -/
noncomputable section
def wxRun := Classical.choose (⟨@sxRun, rfl⟩ : ∃ f, f = @sxRun)
theorem wxRun_def : @wxRun = @sxRun := Classical.choose_spec (⟨@sxRun, rfl⟩ : ∃ f, f = @sxRun)
def wxOp := Classical.choose (⟨@sxOp, rfl⟩ : ∃ f, f = @sxOp)
theorem wxOp_def : @wxOp = @sxOp := Classical.choose_spec (⟨@sxOp, rfl⟩ : ∃ f, f = @sxOp)
def wxOps := Classical.choose (⟨@sxOps, rfl⟩ : ∃ f, f = @sxOps)
theorem wxOps_def : @wxOps = @sxOps := Classical.choose_spec (⟨@sxOps, rfl⟩ : ∃ f, f = @sxOps)
def wdRun := Classical.choose (⟨@dxRun, rfl⟩ : ∃ f, f = @dxRun)
theorem wdRun_def : @wdRun = @dxRun := Classical.choose_spec (⟨@dxRun, rfl⟩ : ∃ f, f = @dxRun)
def wxDraw := Classical.choose (⟨@sxDrawT, rfl⟩ : ∃ f, f = @sxDrawT)
theorem wxDraw_def : @wxDraw = @sxDrawT := Classical.choose_spec (⟨@sxDrawT, rfl⟩ : ∃ f, f = @sxDrawT)
def wx := Classical.choose (⟨@sx, rfl⟩ : ∃ f, f = @sx)
theorem wx_def : @wx = @sx := Classical.choose_spec (⟨@sx, rfl⟩ : ∃ f, f = @sx)
def thenI (E : Env) (b : ACode) (Q : Ex → Fr → AHeap → Nat → Prop) (_ : Tok Q) (e : Ex) (σ : Fr) (h : AHeap) (n : Nat) : Prop := match e with
    | .normal => sx E b σ h n Q ⟨⟩
    | e => Q e σ h n
def kThen := Classical.choose (⟨@thenI, rfl⟩ : ∃ f, f = @thenI)
theorem kThen_def : @kThen = @thenI := Classical.choose_spec (⟨@thenI, rfl⟩ : ∃ f, f = @thenI)
def blockI (id : Nat) (Q : Ex → Fr → AHeap → Nat → Prop) (_ : Tok Q) (e : Ex) (σ : Fr) (h : AHeap) (n : Nat) : Prop := match e with
    | .exit j => if j = id then Q .normal σ h n else Q (.exit j) σ h n
    | e => Q e σ h n
def kBlock := Classical.choose (⟨@blockI, rfl⟩ : ∃ f, f = @blockI)
theorem kBlock_def : @kBlock = @blockI := Classical.choose_spec (⟨@blockI, rfl⟩ : ∃ f, f = @blockI)
def roundI (E : Env) (c : ACode) (Q : Ex → Fr → AHeap → Nat → Prop) (_ : Tok Q) (e : Ex) (σ : Fr) (h : AHeap) (n : Nat) : Prop := match e with
    | .normal => HasCodeT E (.loop c) σ h n Q ⟨⟩
    | e => Q e σ h n
def kRound := Classical.choose (⟨@roundI, rfl⟩ : ∃ f, f = @roundI)
theorem kRound_def : @kRound = @roundI := Classical.choose_spec (⟨@roundI, rfl⟩ : ∃ f, f = @roundI)
def againI (I : Nat → Fr → AHeap → Nat → Prop) (m : Nat) (Q : Ex → Fr → AHeap → Nat → Prop) (_ : Tok I) (_ : Tok Q) (e : Ex) (σ : Fr) (h : AHeap) (n : Nat) : Prop := match e with
    | .normal => Again I m σ h n ()
    | e => Q e σ h n
def kAgain := Classical.choose (⟨@againI, rfl⟩ : ∃ f, f = @againI)
theorem kAgain_def : @kAgain = @againI := Classical.choose_spec (⟨@againI, rfl⟩ : ∃ f, f = @againI)
end
section
variable {E : Env} {σ : Fr} {h : AHeap} {n : Nat} {Q : Ex → Fr → AHeap → Nat → Prop} {t : Tok Q}
theorem kThen_normal {b : ACode} : kThen E b Q t .normal σ h n = wx E b σ h n Q () := by rw [kThen_def, wx_def]; rfl
theorem kThen_ret {b : ACode} : kThen E b Q t .ret σ h n = Q .ret σ h n := by rw [kThen_def]; rfl
theorem kThen_exit {b : ACode} {j : Nat} : kThen E b Q t (.exit j) σ h n = Q (.exit j) σ h n := by rw [kThen_def]; rfl
theorem kBlock_normal {id : Nat} : kBlock id Q t .normal σ h n = Q .normal σ h n := by rw [kBlock_def]; rfl
theorem kBlock_ret {id : Nat} : kBlock id Q t .ret σ h n = Q .ret σ h n := by rw [kBlock_def]; rfl
theorem kBlock_exit {id j : Nat} : kBlock id Q t (.exit j) σ h n = if j = id then Q .normal σ h n else Q (.exit j) σ h n := by rw [kBlock_def]; rfl
theorem kRound_normal {c : ACode} : kRound E c Q t .normal σ h n = HasCodeT E (.loop c) σ h n Q () := by rw [kRound_def]; rfl
theorem kRound_ret {c : ACode} : kRound E c Q t .ret σ h n = Q .ret σ h n := by rw [kRound_def]; rfl
theorem kRound_exit {c : ACode} {j : Nat} : kRound E c Q t (.exit j) σ h n = Q (.exit j) σ h n := by rw [kRound_def]; rfl
theorem kAgain_normal {I : Nat → Fr → AHeap → Nat → Prop} {m : Nat} {u : Tok I} : kAgain I m Q u t .normal σ h n = Again I m σ h n () := by rw [kAgain_def]; rfl
theorem kAgain_ret {I : Nat → Fr → AHeap → Nat → Prop} {m : Nat} {u : Tok I} : kAgain I m Q u t .ret σ h n = Q .ret σ h n := by rw [kAgain_def]; rfl
theorem kAgain_exit {I : Nat → Fr → AHeap → Nat → Prop} {m j : Nat} {u : Tok I} : kAgain I m Q u t (.exit j) σ h n = Q (.exit j) σ h n := by rw [kAgain_def]; rfl
theorem wx_skip : wx E .skip σ h n Q t = Q .normal σ h n := by rw [wx_def]; rfl
theorem wx_region {l : List AOper} : wx E (.region l none) σ h n Q t = wxOps E l σ h n (fun σ h n => Q .normal σ h n) () := by rw [wx_def, wxOps_def]; rfl
theorem wx_pure {l : List AOper} {ps : List (Nat × Nat)} (hp : (l.all fun o => o.op.pure) = true) : wx E (.region l (some ps)) σ h n Q t = wxOps E l σ h n (fun σ h n => Q .normal σ h n) () := by
  rw [wx_def, wxOps_def]
  show (bif l.all fun o => o.op.pure then _ else _) = _
  rw [hp]; rfl
theorem wx_tab {l : List AOper} {ps : List (Nat × Nat)} {lt : List (AOper × List Nat)} (hp : (l.all fun o => o.op.pure) = false) (hs : (ps.all fun p => Nat.blt p.1 p.2) = true) (ht : tabFrom l ps l 0 = lt) : wx E (.region l (some ps)) σ h n Q t = wxDraw E lt 0 σ h n [] (fun σ h n => Q .normal σ h n) () := by
  subst ht
  rw [wx_def, wxDraw_def]
  show (bif l.all fun o => o.op.pure then _ else _) = _
  rw [hp]
  show (_ ∧ _) = _
  rw [hs]
  simp
theorem wx_seq {a b : ACode} : wx E (.seq a b) σ h n Q t = wx E a σ h n (kThen E b Q ()) () := by
  rw [wx_def, kThen_def]
  show sx E a σ h n _ _ = sx E a σ h n _ _
  congr 1
theorem wx_cond {x : X} {a b : ACode} : wx E (.cond x a b) σ h n Q t = Test (X.ev σ h x) true (wx E a σ h n Q ()) (wx E b σ h n Q ()) () () := by rw [wx_def]; rfl
theorem wx_block {id : Nat} {a : ACode} : wx E (.block id a) σ h n Q t = wx E a σ h n (kBlock id Q ()) () := by
  rw [wx_def, kBlock_def]
  show sx E a σ h n _ _ = sx E a σ h n _ _
  congr 1
theorem wx_loop {a : ACode} : wx E (.loop a) σ h n Q t = HasCodeT E (.loop a) σ h n Q () := by rw [wx_def]; rfl
theorem wx_exit {id : Nat} : wx E (.exit id) σ h n Q t = Q (.exit id) σ h n := by rw [wx_def]; rfl
theorem wx_ret : wx E .ret σ h n Q t = Q .ret σ h n := by rw [wx_def]; rfl
theorem wx_fail : wx E .fail σ h n Q t = False := by rw [wx_def]; rfl
theorem wxOp_plain {d : Option Nat} {op : AOp} {ds : List Nat} {K : Option Value → AHeap → Nat → Prop} {t : Tok K} : wxOp E ⟨d, op, none, ds⟩ σ h n K t = wxRun E op σ h n K () := by rw [wxOp_def, wxRun_def]; rfl
theorem wxOp_guard {d : Option Nat} {op : AOp} {g : Nat} {b : Bool} {ds : List Nat} {K : Option Value → AHeap → Nat → Prop} {t : Tok K} : wxOp E ⟨d, op, some (g, b), ds⟩ σ h n K t = Guard (σ.get g) b (wxRun E op σ h n K ()) (K (some undef) h n) () () := by rw [wxOp_def, wxRun_def]; rfl
theorem wxOps_nil {Q : Fr → AHeap → Nat → Prop} {t : Tok Q} : wxOps E [] σ h n Q t = Q σ h n := by rw [wxOps_def]; rfl
theorem wxOps_cons {o : AOper} {l : List AOper} {Q : Fr → AHeap → Nat → Prop} {t : Tok Q} : wxOps E (o :: l) σ h n Q t = wxOp E o σ h n (fun r h' n' => wxOps E l (setDst σ o.dst r) h' n' Q ()) () := by rw [wxOps_def, wxOp_def]; rfl
theorem wxDraw_nil {j : Nat} {past : List (Nat × Kd)} {Q : Fr → AHeap → Nat → Prop} {t : Tok Q} : wxDraw E [] j σ h n past Q t = Q σ h n := by rw [wxDraw_def]; rfl
theorem wxDraw_plain {d : Option Nat} {op : AOp} {ds : List Nat} {cf : List Nat} {l : List (AOper × List Nat)} {j : Nat} {past : List (Nat × Kd)} {Q : Fr → AHeap → Nat → Prop} {t : Tok Q} : wxDraw E ((⟨d, op, none, ds⟩, cf) :: l) j σ h n past Q t =
    wdRun E ⟨d, op, none, ds⟩ σ h n (fun r h' n' k => okTab cf k past ∧ wxDraw E l (j + 1) (setDst σ d r) h' n' ((j, k) :: past) Q ()) () := by rw [wxDraw_def, wdRun_def]; rfl
theorem wxDraw_guard {d : Option Nat} {op : AOp} {g : Nat} {b : Bool} {ds : List Nat} {cf : List Nat} {l : List (AOper × List Nat)} {j : Nat} {past : List (Nat × Kd)} {Q : Fr → AHeap → Nat → Prop} {t : Tok Q} : wxDraw E ((⟨d, op, some (g, b), ds⟩, cf) :: l) j σ h n past Q t =
    Guard (σ.get g) b (wdRun E ⟨d, op, some (g, b), ds⟩ σ h n (fun r h' n' k => okTab cf k past ∧ wxDraw E l (j + 1) (setDst σ d r) h' n' ((j, k) :: past) Q ()) ())
      (wxDraw E l (j + 1) (setDst σ d (some undef)) h n ((j, ⟨some [], []⟩) :: past) Q ()) () () := by rw [wxDraw_def, wdRun_def]; rfl
theorem okTab_none {k : Kd} {l : List (Nat × Kd)} : okTab [] k l = True := eq_true (okTab_nil k l)
theorem okTab_end {c : List Nat} {k : Kd} : okTab c k [] = True := rfl
theorem okTab_more {c i : Nat} {cs : List Nat} {k k' : Kd} {l : List (Nat × Kd)} : okTab (c :: cs) k ((i, k') :: l) = ((i ∈ c :: cs → k'.apart k) ∧ okTab (c :: cs) k l) := rfl
theorem wx_big {c : ACode} (x : wx E c σ h n Q t) : HasCode E c σ h n Q := by rw [wx_def] at x; exact sx_big x
theorem wx_round {c : ACode} (x : wx E c σ h n (kRound E c Q ()) ()) : HasCodeT E (.loop c) σ h n Q t := by
  refine HasCode.round ?_
  rw [wx_def, kRound_def] at x
  have : (roundI E c Q ()) = fun e σ' h' n' => match e with
      | .normal => HasCodeT E (.loop c) σ' h' n' Q ⟨⟩
      | e => Q e σ' h' n' := by funext e σ h n; cases e <;> rfl
  rw [this] at x
  exact x
/-- A loop: a measure, an invariant. -/
theorem wx_inv {c : ACode} (I : Nat → Fr → AHeap → Nat → Prop) (step : ∀ m σ h n, I m σ h n → wx E c σ h n (kAgain I m Q () ()) ()) : ∀ (m : Nat) (σ : Fr) (h : AHeap) (n : Nat), I m σ h n → HasCode E (.loop c) σ h n Q := by
  refine loop_inv I fun m σ h n hi => ?_
  have x := wx_big (step m σ h n hi)
  rw [kAgain_def] at x
  have : (againI I m Q () ()) = fun e σ' h' n' => match e with
      | .normal => Again I m σ' h' n' ()
      | e => Q e σ' h' n' := by funext e σ h n; cases e <;> rfl
  rw [this] at x
  exact x
theorem wcall_inl {f : Nat} {af : AFunc} {args : List Value} {Q : Value → AHeap → Nat → Prop} {t : Tok Q} (hf : E.fs f = some af) (ha : args.length ≤ af.ntmps)
    (hx : wx E af.body (argFr 0 args) h n (Done af.results Q) ()) : HasCallT E f args h n Q t := by rw [wx_def] at hx; exact HasCall.inl hf ha hx
theorem wret_of {f : Nat} {af : AFunc} {args : List Value} {v : Value} {l : List (Nat × Blk)} {n' : Nat} (hf : E.fs f = some af) (ha : args.length ≤ af.ntmps) (hnd : (l.map (·.1)).Nodup) (hids : ∀ i, i ∈ l.map (·.1) → (h.get i).isSome ∨ n ≤ i ∧ i < n')
    (hx : wx E af.body (argFr 0 args) h n (Done af.results (fun v1 h1 n1 => v1 = v ∧ HSub (putsL h l) h1 ∧ n1 ≤ n')) ()) : Ret E f args h n v l n' := by rw [wx_def] at hx; exact ret_of_sx hf ha hnd hids hx
end
attribute [simp] kThen_normal kThen_ret kThen_exit kBlock_normal kBlock_ret kBlock_exit kRound_normal kRound_ret kRound_exit kAgain_normal kAgain_ret kAgain_exit wx_skip wx_region wx_seq okTab_none okTab_end okTab_more wx_cond wx_block wx_loop wx_exit wx_ret wx_fail wxOp_plain wxOp_guard wxOps_nil wxOps_cons wxDraw_nil wxDraw_plain wxDraw_guard
/- Each operation by itself. -/
def dxPure (o : AOper) (σ : Fr) (h : AHeap) (n : Nat) (K : Option Value → AHeap → Nat → Kd → Prop) (_ : Tok K) : Prop := Runs (aev (X.ev σ (touch (touchIds o σ) h)) (touch (touchIds o σ) h) n o.op) n (fun r _ _ => K r h n ⟨some (touchIds o σ), []⟩) ()
def dxMem (o : AOper) (σ : Fr) (h : AHeap) (n : Nat) (K : Option Value → AHeap → Nat → Kd → Prop) (_ : Tok K) : Prop := (∀ i, i ∈ touchIds o σ → i < n) ∧ Runs (aev (X.ev σ (touch (touchIds o σ) h)) (touch (touchIds o σ) h) n o.op) n (fun r h1 n1 =>
      chgOk (touch (touchIds o σ) h) h1 n n1 (chgOf (logOf (X.ev σ (touch (touchIds o σ) h)) o.op) n n1) ∧
      K r (h.puts h1 (chgOf (logOf (X.ev σ (touch (touchIds o σ) h)) o.op) n n1)) n1 ⟨some (touchIds o σ), chgOf (logOf (X.ev σ (touch (touchIds o σ) h)) o.op) n n1⟩) ()
attribute [simp] dxPure dxMem
theorem wxRun_mov {E : Env} {x0 : X} {σ : Fr} {h : AHeap} {n : Nat} {K : Option Value → AHeap → Nat → Prop} {t : Tok K} : wxRun E (.mov x0) σ h n K t = Runs (aev (X.ev σ h) h n (.mov x0)) n K () := by rw [wxRun_def]; rfl
theorem pure_mov {x0 : X} : AOp.pure (.mov x0) = true := rfl
theorem looks_mov {x0 : X} : AOp.looks (.mov x0) = false := rfl
theorem wdRun_mov {E : Env} {d : Option Nat} {x0 : X} {g : Option (Nat × Bool)} {ds : List Nat} {σ : Fr} {h : AHeap} {n : Nat} {K : Option Value → AHeap → Nat → Kd → Prop} {t : Tok K} : wdRun E ⟨d, (.mov x0), g, ds⟩ σ h n K t = dxPure ⟨d, (.mov x0), g, ds⟩ σ h n K () := by rw [wdRun_def]; rfl
theorem wxRun_pick {E : Env} {x0 : X} {x1 : X} {x2 : X} {σ : Fr} {h : AHeap} {n : Nat} {K : Option Value → AHeap → Nat → Prop} {t : Tok K} : wxRun E (.pick x0 x1 x2) σ h n K t = Runs (aev (X.ev σ h) h n (.pick x0 x1 x2)) n K () := by rw [wxRun_def]; rfl
theorem pure_pick {x0 : X} {x1 : X} {x2 : X} : AOp.pure (.pick x0 x1 x2) = true := rfl
theorem looks_pick {x0 : X} {x1 : X} {x2 : X} : AOp.looks (.pick x0 x1 x2) = false := rfl
theorem wdRun_pick {E : Env} {d : Option Nat} {x0 : X} {x1 : X} {x2 : X} {g : Option (Nat × Bool)} {ds : List Nat} {σ : Fr} {h : AHeap} {n : Nat} {K : Option Value → AHeap → Nat → Kd → Prop} {t : Tok K} : wdRun E ⟨d, (.pick x0 x1 x2), g, ds⟩ σ h n K t = dxPure ⟨d, (.pick x0 x1 x2), g, ds⟩ σ h n K () := by rw [wdRun_def]; rfl
theorem wxRun_alloc {E : Env} {x0 : Nat} {x1 : List Value} {σ : Fr} {h : AHeap} {n : Nat} {K : Option Value → AHeap → Nat → Prop} {t : Tok K} : wxRun E (.alloc x0 x1) σ h n K t = Runs (aev (X.ev σ h) h n (.alloc x0 x1)) n K () := by rw [wxRun_def]; rfl
theorem pure_alloc {x0 : Nat} {x1 : List Value} : AOp.pure (.alloc x0 x1) = false := rfl
theorem looks_alloc {x0 : Nat} {x1 : List Value} : AOp.looks (.alloc x0 x1) = false := rfl
theorem target_alloc {x0 : Nat} {x1 : List Value} : AOp.target (.alloc x0 x1) = none := rfl
theorem wdRun_alloc {E : Env} {d : Option Nat} {x0 : Nat} {x1 : List Value} {g : Option (Nat × Bool)} {ds : List Nat} {σ : Fr} {h : AHeap} {n : Nat} {K : Option Value → AHeap → Nat → Kd → Prop} {t : Tok K} : wdRun E ⟨d, (.alloc x0 x1), g, ds⟩ σ h n K t = dxMem ⟨d, (.alloc x0 x1), g, ds⟩ σ h n K () := by rw [wdRun_def]; rfl
theorem wxRun_box {E : Env} {x0 : Nat} {x1 : X} {σ : Fr} {h : AHeap} {n : Nat} {K : Option Value → AHeap → Nat → Prop} {t : Tok K} : wxRun E (.box x0 x1) σ h n K t = Runs (aev (X.ev σ h) h n (.box x0 x1)) n K () := by rw [wxRun_def]; rfl
theorem pure_box {x0 : Nat} {x1 : X} : AOp.pure (.box x0 x1) = false := rfl
theorem looks_box {x0 : Nat} {x1 : X} : AOp.looks (.box x0 x1) = false := rfl
theorem target_box {x0 : Nat} {x1 : X} : AOp.target (.box x0 x1) = none := rfl
theorem wdRun_box {E : Env} {d : Option Nat} {x0 : Nat} {x1 : X} {g : Option (Nat × Bool)} {ds : List Nat} {σ : Fr} {h : AHeap} {n : Nat} {K : Option Value → AHeap → Nat → Kd → Prop} {t : Tok K} : wdRun E ⟨d, (.box x0 x1), g, ds⟩ σ h n K t = dxMem ⟨d, (.box x0 x1), g, ds⟩ σ h n K () := by rw [wdRun_def]; rfl
theorem wxRun_build {E : Env} {x0 : List Value} {x1 : List (Nat × Nat × X)} {σ : Fr} {h : AHeap} {n : Nat} {K : Option Value → AHeap → Nat → Prop} {t : Tok K} : wxRun E (.build x0 x1) σ h n K t = Runs (aev (X.ev σ h) h n (.build x0 x1)) n K () := by rw [wxRun_def]; rfl
theorem pure_build {x0 : List Value} {x1 : List (Nat × Nat × X)} : AOp.pure (.build x0 x1) = true := rfl
theorem looks_build {x0 : List Value} {x1 : List (Nat × Nat × X)} : AOp.looks (.build x0 x1) = false := rfl
theorem wdRun_build {E : Env} {d : Option Nat} {x0 : List Value} {x1 : List (Nat × Nat × X)} {g : Option (Nat × Bool)} {ds : List Nat} {σ : Fr} {h : AHeap} {n : Nat} {K : Option Value → AHeap → Nat → Kd → Prop} {t : Tok K} : wdRun E ⟨d, (.build x0 x1), g, ds⟩ σ h n K t = dxPure ⟨d, (.build x0 x1), g, ds⟩ σ h n K () := by rw [wdRun_def]; rfl
theorem wxRun_buildSlice {E : Env} {x0 : Nat} {x1 : Nat} {x2 : Nat} {x3 : List Value} {x4 : List (Nat × Nat × X)} {σ : Fr} {h : AHeap} {n : Nat} {K : Option Value → AHeap → Nat → Prop} {t : Tok K} : wxRun E (.buildSlice x0 x1 x2 x3 x4) σ h n K t = Runs (aev (X.ev σ h) h n (.buildSlice x0 x1 x2 x3 x4)) n K () := by rw [wxRun_def]; rfl
theorem pure_buildSlice {x0 : Nat} {x1 : Nat} {x2 : Nat} {x3 : List Value} {x4 : List (Nat × Nat × X)} : AOp.pure (.buildSlice x0 x1 x2 x3 x4) = false := rfl
theorem looks_buildSlice {x0 : Nat} {x1 : Nat} {x2 : Nat} {x3 : List Value} {x4 : List (Nat × Nat × X)} : AOp.looks (.buildSlice x0 x1 x2 x3 x4) = false := rfl
theorem target_buildSlice {x0 : Nat} {x1 : Nat} {x2 : Nat} {x3 : List Value} {x4 : List (Nat × Nat × X)} : AOp.target (.buildSlice x0 x1 x2 x3 x4) = none := rfl
theorem wdRun_buildSlice {E : Env} {d : Option Nat} {x0 : Nat} {x1 : Nat} {x2 : Nat} {x3 : List Value} {x4 : List (Nat × Nat × X)} {g : Option (Nat × Bool)} {ds : List Nat} {σ : Fr} {h : AHeap} {n : Nat} {K : Option Value → AHeap → Nat → Kd → Prop} {t : Tok K} : wdRun E ⟨d, (.buildSlice x0 x1 x2 x3 x4), g, ds⟩ σ h n K t = dxMem ⟨d, (.buildSlice x0 x1 x2 x3 x4), g, ds⟩ σ h n K () := by rw [wdRun_def]; rfl
theorem wxRun_load {E : Env} {x0 : Option Nat} {x1 : X} {σ : Fr} {h : AHeap} {n : Nat} {K : Option Value → AHeap → Nat → Prop} {t : Tok K} : wxRun E (.load x0 x1) σ h n K t = Runs (aev (X.ev σ h) h n (.load x0 x1)) n K () := by rw [wxRun_def]; rfl
theorem pure_load {x0 : Option Nat} {x1 : X} : AOp.pure (.load x0 x1) = true := rfl
theorem looks_load {x0 : Option Nat} {x1 : X} : AOp.looks (.load x0 x1) = true := rfl
theorem wdRun_load {E : Env} {d : Option Nat} {x0 : Option Nat} {x1 : X} {g : Option (Nat × Bool)} {ds : List Nat} {σ : Fr} {h : AHeap} {n : Nat} {K : Option Value → AHeap → Nat → Kd → Prop} {t : Tok K} : wdRun E ⟨d, (.load x0 x1), g, ds⟩ σ h n K t = dxPure ⟨d, (.load x0 x1), g, ds⟩ σ h n K () := by rw [wdRun_def]; rfl
theorem wxRun_store {E : Env} {x0 : Nat} {x1 : X} {x2 : X} {σ : Fr} {h : AHeap} {n : Nat} {K : Option Value → AHeap → Nat → Prop} {t : Tok K} : wxRun E (.store x0 x1 x2) σ h n K t = Runs (aev (X.ev σ h) h n (.store x0 x1 x2)) n K () := by rw [wxRun_def]; rfl
theorem pure_store {x0 : Nat} {x1 : X} {x2 : X} : AOp.pure (.store x0 x1 x2) = false := rfl
theorem looks_store {x0 : Nat} {x1 : X} {x2 : X} : AOp.looks (.store x0 x1 x2) = true := rfl
theorem target_store {x0 : Nat} {x1 : X} {x2 : X} : AOp.target (.store x0 x1 x2) = some x1 := rfl
theorem wdRun_store {E : Env} {d : Option Nat} {x0 : Nat} {x1 : X} {x2 : X} {g : Option (Nat × Bool)} {ds : List Nat} {σ : Fr} {h : AHeap} {n : Nat} {K : Option Value → AHeap → Nat → Kd → Prop} {t : Tok K} : wdRun E ⟨d, (.store x0 x1 x2), g, ds⟩ σ h n K t = dxMem ⟨d, (.store x0 x1 x2), g, ds⟩ σ h n K () := by rw [wdRun_def]; rfl
theorem wxRun_nilCheck {E : Env} {x0 : X} {σ : Fr} {h : AHeap} {n : Nat} {K : Option Value → AHeap → Nat → Prop} {t : Tok K} : wxRun E (.nilCheck x0) σ h n K t = Runs (aev (X.ev σ h) h n (.nilCheck x0)) n K () := by rw [wxRun_def]; rfl
theorem pure_nilCheck {x0 : X} : AOp.pure (.nilCheck x0) = true := rfl
theorem looks_nilCheck {x0 : X} : AOp.looks (.nilCheck x0) = false := rfl
theorem wdRun_nilCheck {E : Env} {d : Option Nat} {x0 : X} {g : Option (Nat × Bool)} {ds : List Nat} {σ : Fr} {h : AHeap} {n : Nat} {K : Option Value → AHeap → Nat → Kd → Prop} {t : Tok K} : wdRun E ⟨d, (.nilCheck x0), g, ds⟩ σ h n K t = dxPure ⟨d, (.nilCheck x0), g, ds⟩ σ h n K () := by rw [wdRun_def]; rfl
theorem wxRun_bin {E : Env} {x0 : BinOp} {x1 : X} {x2 : X} {σ : Fr} {h : AHeap} {n : Nat} {K : Option Value → AHeap → Nat → Prop} {t : Tok K} : wxRun E (.bin x0 x1 x2) σ h n K t = Runs (aev (X.ev σ h) h n (.bin x0 x1 x2)) n K () := by rw [wxRun_def]; rfl
theorem pure_bin {x0 : BinOp} {x1 : X} {x2 : X} : AOp.pure (.bin x0 x1 x2) = true := rfl
theorem looks_bin {x0 : BinOp} {x1 : X} {x2 : X} : AOp.looks (.bin x0 x1 x2) = false := rfl
theorem wdRun_bin {E : Env} {d : Option Nat} {x0 : BinOp} {x1 : X} {x2 : X} {g : Option (Nat × Bool)} {ds : List Nat} {σ : Fr} {h : AHeap} {n : Nat} {K : Option Value → AHeap → Nat → Kd → Prop} {t : Tok K} : wdRun E ⟨d, (.bin x0 x1 x2), g, ds⟩ σ h n K t = dxPure ⟨d, (.bin x0 x1 x2), g, ds⟩ σ h n K () := by rw [wdRun_def]; rfl
theorem wxRun_eqv {E : Env} {x0 : Bool} {x1 : Rk} {x2 : Bool} {x3 : X} {x4 : X} {σ : Fr} {h : AHeap} {n : Nat} {K : Option Value → AHeap → Nat → Prop} {t : Tok K} : wxRun E (.eqv x0 x1 x2 x3 x4) σ h n K t = Runs (aev (X.ev σ h) h n (.eqv x0 x1 x2 x3 x4)) n K () := by rw [wxRun_def]; rfl
theorem pure_eqv {x0 : Bool} {x1 : Rk} {x2 : Bool} {x3 : X} {x4 : X} : AOp.pure (.eqv x0 x1 x2 x3 x4) = true := rfl
theorem looks_eqv {x0 : Bool} {x1 : Rk} {x2 : Bool} {x3 : X} {x4 : X} : AOp.looks (.eqv x0 x1 x2 x3 x4) = false := rfl
theorem wdRun_eqv {E : Env} {d : Option Nat} {x0 : Bool} {x1 : Rk} {x2 : Bool} {x3 : X} {x4 : X} {g : Option (Nat × Bool)} {ds : List Nat} {σ : Fr} {h : AHeap} {n : Nat} {K : Option Value → AHeap → Nat → Kd → Prop} {t : Tok K} : wdRun E ⟨d, (.eqv x0 x1 x2 x3 x4), g, ds⟩ σ h n K t = dxPure ⟨d, (.eqv x0 x1 x2 x3 x4), g, ds⟩ σ h n K () := by rw [wdRun_def]; rfl
theorem wxRun_eqAgg {E : Env} {x0 : Bool} {x1 : List Leaf} {x2 : X} {x3 : X} {σ : Fr} {h : AHeap} {n : Nat} {K : Option Value → AHeap → Nat → Prop} {t : Tok K} : wxRun E (.eqAgg x0 x1 x2 x3) σ h n K t = Runs (aev (X.ev σ h) h n (.eqAgg x0 x1 x2 x3)) n K () := by rw [wxRun_def]; rfl
theorem pure_eqAgg {x0 : Bool} {x1 : List Leaf} {x2 : X} {x3 : X} : AOp.pure (.eqAgg x0 x1 x2 x3) = true := rfl
theorem looks_eqAgg {x0 : Bool} {x1 : List Leaf} {x2 : X} {x3 : X} : AOp.looks (.eqAgg x0 x1 x2 x3) = false := rfl
theorem wdRun_eqAgg {E : Env} {d : Option Nat} {x0 : Bool} {x1 : List Leaf} {x2 : X} {x3 : X} {g : Option (Nat × Bool)} {ds : List Nat} {σ : Fr} {h : AHeap} {n : Nat} {K : Option Value → AHeap → Nat → Kd → Prop} {t : Tok K} : wdRun E ⟨d, (.eqAgg x0 x1 x2 x3), g, ds⟩ σ h n K t = dxPure ⟨d, (.eqAgg x0 x1 x2 x3), g, ds⟩ σ h n K () := by rw [wdRun_def]; rfl
theorem wxRun_un {E : Env} {x0 : UnOp} {x1 : X} {σ : Fr} {h : AHeap} {n : Nat} {K : Option Value → AHeap → Nat → Prop} {t : Tok K} : wxRun E (.un x0 x1) σ h n K t = Runs (aev (X.ev σ h) h n (.un x0 x1)) n K () := by rw [wxRun_def]; rfl
theorem pure_un {x0 : UnOp} {x1 : X} : AOp.pure (.un x0 x1) = true := rfl
theorem looks_un {x0 : UnOp} {x1 : X} : AOp.looks (.un x0 x1) = false := rfl
theorem wdRun_un {E : Env} {d : Option Nat} {x0 : UnOp} {x1 : X} {g : Option (Nat × Bool)} {ds : List Nat} {σ : Fr} {h : AHeap} {n : Nat} {K : Option Value → AHeap → Nat → Kd → Prop} {t : Tok K} : wdRun E ⟨d, (.un x0 x1), g, ds⟩ σ h n K t = dxPure ⟨d, (.un x0 x1), g, ds⟩ σ h n K () := by rw [wdRun_def]; rfl
theorem wxRun_conv {E : Env} {x0 : IntKind} {x1 : X} {σ : Fr} {h : AHeap} {n : Nat} {K : Option Value → AHeap → Nat → Prop} {t : Tok K} : wxRun E (.conv x0 x1) σ h n K t = Runs (aev (X.ev σ h) h n (.conv x0 x1)) n K () := by rw [wxRun_def]; rfl
theorem pure_conv {x0 : IntKind} {x1 : X} : AOp.pure (.conv x0 x1) = true := rfl
theorem looks_conv {x0 : IntKind} {x1 : X} : AOp.looks (.conv x0 x1) = false := rfl
theorem wdRun_conv {E : Env} {d : Option Nat} {x0 : IntKind} {x1 : X} {g : Option (Nat × Bool)} {ds : List Nat} {σ : Fr} {h : AHeap} {n : Nat} {K : Option Value → AHeap → Nat → Kd → Prop} {t : Tok K} : wdRun E ⟨d, (.conv x0 x1), g, ds⟩ σ h n K t = dxPure ⟨d, (.conv x0 x1), g, ds⟩ σ h n K () := by rw [wdRun_def]; rfl
theorem wxRun_same {E : Env} {x0 : X} {σ : Fr} {h : AHeap} {n : Nat} {K : Option Value → AHeap → Nat → Prop} {t : Tok K} : wxRun E (.same x0) σ h n K t = Runs (aev (X.ev σ h) h n (.same x0)) n K () := by rw [wxRun_def]; rfl
theorem pure_same {x0 : X} : AOp.pure (.same x0) = true := rfl
theorem looks_same {x0 : X} : AOp.looks (.same x0) = false := rfl
theorem wdRun_same {E : Env} {d : Option Nat} {x0 : X} {g : Option (Nat × Bool)} {ds : List Nat} {σ : Fr} {h : AHeap} {n : Nat} {K : Option Value → AHeap → Nat → Kd → Prop} {t : Tok K} : wdRun E ⟨d, (.same x0), g, ds⟩ σ h n K t = dxPure ⟨d, (.same x0), g, ds⟩ σ h n K () := by rw [wdRun_def]; rfl
theorem wxRun_bytesOf {E : Env} {x0 : Nat} {x1 : X} {σ : Fr} {h : AHeap} {n : Nat} {K : Option Value → AHeap → Nat → Prop} {t : Tok K} : wxRun E (.bytesOf x0 x1) σ h n K t = Runs (aev (X.ev σ h) h n (.bytesOf x0 x1)) n K () := by rw [wxRun_def]; rfl
theorem pure_bytesOf {x0 : Nat} {x1 : X} : AOp.pure (.bytesOf x0 x1) = false := rfl
theorem looks_bytesOf {x0 : Nat} {x1 : X} : AOp.looks (.bytesOf x0 x1) = false := rfl
theorem target_bytesOf {x0 : Nat} {x1 : X} : AOp.target (.bytesOf x0 x1) = none := rfl
theorem wdRun_bytesOf {E : Env} {d : Option Nat} {x0 : Nat} {x1 : X} {g : Option (Nat × Bool)} {ds : List Nat} {σ : Fr} {h : AHeap} {n : Nat} {K : Option Value → AHeap → Nat → Kd → Prop} {t : Tok K} : wdRun E ⟨d, (.bytesOf x0 x1), g, ds⟩ σ h n K t = dxMem ⟨d, (.bytesOf x0 x1), g, ds⟩ σ h n K () := by rw [wdRun_def]; rfl
theorem wxRun_strOf {E : Env} {x0 : X} {σ : Fr} {h : AHeap} {n : Nat} {K : Option Value → AHeap → Nat → Prop} {t : Tok K} : wxRun E (.strOf x0) σ h n K t = Runs (aev (X.ev σ h) h n (.strOf x0)) n K () := by rw [wxRun_def]; rfl
theorem pure_strOf {x0 : X} : AOp.pure (.strOf x0) = true := rfl
theorem looks_strOf {x0 : X} : AOp.looks (.strOf x0) = true := rfl
theorem wdRun_strOf {E : Env} {d : Option Nat} {x0 : X} {g : Option (Nat × Bool)} {ds : List Nat} {σ : Fr} {h : AHeap} {n : Nat} {K : Option Value → AHeap → Nat → Kd → Prop} {t : Tok K} : wdRun E ⟨d, (.strOf x0), g, ds⟩ σ h n K t = dxPure ⟨d, (.strOf x0), g, ds⟩ σ h n K () := by rw [wdRun_def]; rfl
theorem wxRun_sliceStr {E : Env} {x0 : X} {x1 : Option X} {x2 : Option X} {σ : Fr} {h : AHeap} {n : Nat} {K : Option Value → AHeap → Nat → Prop} {t : Tok K} : wxRun E (.sliceStr x0 x1 x2) σ h n K t = Runs (aev (X.ev σ h) h n (.sliceStr x0 x1 x2)) n K () := by rw [wxRun_def]; rfl
theorem pure_sliceStr {x0 : X} {x1 : Option X} {x2 : Option X} : AOp.pure (.sliceStr x0 x1 x2) = true := rfl
theorem looks_sliceStr {x0 : X} {x1 : Option X} {x2 : Option X} : AOp.looks (.sliceStr x0 x1 x2) = false := rfl
theorem wdRun_sliceStr {E : Env} {d : Option Nat} {x0 : X} {x1 : Option X} {x2 : Option X} {g : Option (Nat × Bool)} {ds : List Nat} {σ : Fr} {h : AHeap} {n : Nat} {K : Option Value → AHeap → Nat → Kd → Prop} {t : Tok K} : wdRun E ⟨d, (.sliceStr x0 x1 x2), g, ds⟩ σ h n K t = dxPure ⟨d, (.sliceStr x0 x1 x2), g, ds⟩ σ h n K () := by rw [wdRun_def]; rfl
theorem wxRun_slice {E : Env} {x0 : Nat} {x1 : X} {x2 : Option X} {x3 : Option X} {x4 : Option X} {σ : Fr} {h : AHeap} {n : Nat} {K : Option Value → AHeap → Nat → Prop} {t : Tok K} : wxRun E (.slice x0 x1 x2 x3 x4) σ h n K t = Runs (aev (X.ev σ h) h n (.slice x0 x1 x2 x3 x4)) n K () := by rw [wxRun_def]; rfl
theorem pure_slice {x0 : Nat} {x1 : X} {x2 : Option X} {x3 : Option X} {x4 : Option X} : AOp.pure (.slice x0 x1 x2 x3 x4) = true := rfl
theorem looks_slice {x0 : Nat} {x1 : X} {x2 : Option X} {x3 : Option X} {x4 : Option X} : AOp.looks (.slice x0 x1 x2 x3 x4) = false := rfl
theorem wdRun_slice {E : Env} {d : Option Nat} {x0 : Nat} {x1 : X} {x2 : Option X} {x3 : Option X} {x4 : Option X} {g : Option (Nat × Bool)} {ds : List Nat} {σ : Fr} {h : AHeap} {n : Nat} {K : Option Value → AHeap → Nat → Kd → Prop} {t : Tok K} : wdRun E ⟨d, (.slice x0 x1 x2 x3 x4), g, ds⟩ σ h n K t = dxPure ⟨d, (.slice x0 x1 x2 x3 x4), g, ds⟩ σ h n K () := by rw [wdRun_def]; rfl
theorem wxRun_sliceArr {E : Env} {x0 : Nat} {x1 : Nat} {x2 : X} {x3 : Option X} {x4 : Option X} {σ : Fr} {h : AHeap} {n : Nat} {K : Option Value → AHeap → Nat → Prop} {t : Tok K} : wxRun E (.sliceArr x0 x1 x2 x3 x4) σ h n K t = Runs (aev (X.ev σ h) h n (.sliceArr x0 x1 x2 x3 x4)) n K () := by rw [wxRun_def]; rfl
theorem pure_sliceArr {x0 : Nat} {x1 : Nat} {x2 : X} {x3 : Option X} {x4 : Option X} : AOp.pure (.sliceArr x0 x1 x2 x3 x4) = true := rfl
theorem looks_sliceArr {x0 : Nat} {x1 : Nat} {x2 : X} {x3 : Option X} {x4 : Option X} : AOp.looks (.sliceArr x0 x1 x2 x3 x4) = false := rfl
theorem wdRun_sliceArr {E : Env} {d : Option Nat} {x0 : Nat} {x1 : Nat} {x2 : X} {x3 : Option X} {x4 : Option X} {g : Option (Nat × Bool)} {ds : List Nat} {σ : Fr} {h : AHeap} {n : Nat} {K : Option Value → AHeap → Nat → Kd → Prop} {t : Tok K} : wdRun E ⟨d, (.sliceArr x0 x1 x2 x3 x4), g, ds⟩ σ h n K t = dxPure ⟨d, (.sliceArr x0 x1 x2 x3 x4), g, ds⟩ σ h n K () := by rw [wdRun_def]; rfl
theorem wxRun_fieldAddr {E : Env} {x0 : Nat} {x1 : X} {σ : Fr} {h : AHeap} {n : Nat} {K : Option Value → AHeap → Nat → Prop} {t : Tok K} : wxRun E (.fieldAddr x0 x1) σ h n K t = Runs (aev (X.ev σ h) h n (.fieldAddr x0 x1)) n K () := by rw [wxRun_def]; rfl
theorem pure_fieldAddr {x0 : Nat} {x1 : X} : AOp.pure (.fieldAddr x0 x1) = true := rfl
theorem looks_fieldAddr {x0 : Nat} {x1 : X} : AOp.looks (.fieldAddr x0 x1) = false := rfl
theorem wdRun_fieldAddr {E : Env} {d : Option Nat} {x0 : Nat} {x1 : X} {g : Option (Nat × Bool)} {ds : List Nat} {σ : Fr} {h : AHeap} {n : Nat} {K : Option Value → AHeap → Nat → Kd → Prop} {t : Tok K} : wdRun E ⟨d, (.fieldAddr x0 x1), g, ds⟩ σ h n K t = dxPure ⟨d, (.fieldAddr x0 x1), g, ds⟩ σ h n K () := by rw [wdRun_def]; rfl
theorem wxRun_field {E : Env} {x0 : Nat} {x1 : Option Nat} {x2 : X} {σ : Fr} {h : AHeap} {n : Nat} {K : Option Value → AHeap → Nat → Prop} {t : Tok K} : wxRun E (.field x0 x1 x2) σ h n K t = Runs (aev (X.ev σ h) h n (.field x0 x1 x2)) n K () := by rw [wxRun_def]; rfl
theorem pure_field {x0 : Nat} {x1 : Option Nat} {x2 : X} : AOp.pure (.field x0 x1 x2) = true := rfl
theorem looks_field {x0 : Nat} {x1 : Option Nat} {x2 : X} : AOp.looks (.field x0 x1 x2) = false := rfl
theorem wdRun_field {E : Env} {d : Option Nat} {x0 : Nat} {x1 : Option Nat} {x2 : X} {g : Option (Nat × Bool)} {ds : List Nat} {σ : Fr} {h : AHeap} {n : Nat} {K : Option Value → AHeap → Nat → Kd → Prop} {t : Tok K} : wdRun E ⟨d, (.field x0 x1 x2), g, ds⟩ σ h n K t = dxPure ⟨d, (.field x0 x1 x2), g, ds⟩ σ h n K () := by rw [wdRun_def]; rfl
theorem wxRun_indexAddr {E : Env} {x0 : Nat} {x1 : X} {x2 : X} {σ : Fr} {h : AHeap} {n : Nat} {K : Option Value → AHeap → Nat → Prop} {t : Tok K} : wxRun E (.indexAddr x0 x1 x2) σ h n K t = Runs (aev (X.ev σ h) h n (.indexAddr x0 x1 x2)) n K () := by rw [wxRun_def]; rfl
theorem pure_indexAddr {x0 : Nat} {x1 : X} {x2 : X} : AOp.pure (.indexAddr x0 x1 x2) = true := rfl
theorem looks_indexAddr {x0 : Nat} {x1 : X} {x2 : X} : AOp.looks (.indexAddr x0 x1 x2) = false := rfl
theorem wdRun_indexAddr {E : Env} {d : Option Nat} {x0 : Nat} {x1 : X} {x2 : X} {g : Option (Nat × Bool)} {ds : List Nat} {σ : Fr} {h : AHeap} {n : Nat} {K : Option Value → AHeap → Nat → Kd → Prop} {t : Tok K} : wdRun E ⟨d, (.indexAddr x0 x1 x2), g, ds⟩ σ h n K t = dxPure ⟨d, (.indexAddr x0 x1 x2), g, ds⟩ σ h n K () := by rw [wdRun_def]; rfl
theorem wxRun_indexArr {E : Env} {x0 : Nat} {x1 : Nat} {x2 : X} {x3 : X} {σ : Fr} {h : AHeap} {n : Nat} {K : Option Value → AHeap → Nat → Prop} {t : Tok K} : wxRun E (.indexArr x0 x1 x2 x3) σ h n K t = Runs (aev (X.ev σ h) h n (.indexArr x0 x1 x2 x3)) n K () := by rw [wxRun_def]; rfl
theorem pure_indexArr {x0 : Nat} {x1 : Nat} {x2 : X} {x3 : X} : AOp.pure (.indexArr x0 x1 x2 x3) = true := rfl
theorem looks_indexArr {x0 : Nat} {x1 : Nat} {x2 : X} {x3 : X} : AOp.looks (.indexArr x0 x1 x2 x3) = false := rfl
theorem wdRun_indexArr {E : Env} {d : Option Nat} {x0 : Nat} {x1 : Nat} {x2 : X} {x3 : X} {g : Option (Nat × Bool)} {ds : List Nat} {σ : Fr} {h : AHeap} {n : Nat} {K : Option Value → AHeap → Nat → Kd → Prop} {t : Tok K} : wdRun E ⟨d, (.indexArr x0 x1 x2 x3), g, ds⟩ σ h n K t = dxPure ⟨d, (.indexArr x0 x1 x2 x3), g, ds⟩ σ h n K () := by rw [wdRun_def]; rfl
theorem wxRun_index {E : Env} {x0 : Nat} {x1 : Nat} {x2 : Option Nat} {x3 : X} {x4 : X} {σ : Fr} {h : AHeap} {n : Nat} {K : Option Value → AHeap → Nat → Prop} {t : Tok K} : wxRun E (.index x0 x1 x2 x3 x4) σ h n K t = Runs (aev (X.ev σ h) h n (.index x0 x1 x2 x3 x4)) n K () := by rw [wxRun_def]; rfl
theorem pure_index {x0 : Nat} {x1 : Nat} {x2 : Option Nat} {x3 : X} {x4 : X} : AOp.pure (.index x0 x1 x2 x3 x4) = true := rfl
theorem looks_index {x0 : Nat} {x1 : Nat} {x2 : Option Nat} {x3 : X} {x4 : X} : AOp.looks (.index x0 x1 x2 x3 x4) = false := rfl
theorem wdRun_index {E : Env} {d : Option Nat} {x0 : Nat} {x1 : Nat} {x2 : Option Nat} {x3 : X} {x4 : X} {g : Option (Nat × Bool)} {ds : List Nat} {σ : Fr} {h : AHeap} {n : Nat} {K : Option Value → AHeap → Nat → Kd → Prop} {t : Tok K} : wdRun E ⟨d, (.index x0 x1 x2 x3 x4), g, ds⟩ σ h n K t = dxPure ⟨d, (.index x0 x1 x2 x3 x4), g, ds⟩ σ h n K () := by rw [wdRun_def]; rfl
theorem wxRun_indexStr {E : Env} {x0 : X} {x1 : X} {σ : Fr} {h : AHeap} {n : Nat} {K : Option Value → AHeap → Nat → Prop} {t : Tok K} : wxRun E (.indexStr x0 x1) σ h n K t = Runs (aev (X.ev σ h) h n (.indexStr x0 x1)) n K () := by rw [wxRun_def]; rfl
theorem pure_indexStr {x0 : X} {x1 : X} : AOp.pure (.indexStr x0 x1) = true := rfl
theorem looks_indexStr {x0 : X} {x1 : X} : AOp.looks (.indexStr x0 x1) = false := rfl
theorem wdRun_indexStr {E : Env} {d : Option Nat} {x0 : X} {x1 : X} {g : Option (Nat × Bool)} {ds : List Nat} {σ : Fr} {h : AHeap} {n : Nat} {K : Option Value → AHeap → Nat → Kd → Prop} {t : Tok K} : wdRun E ⟨d, (.indexStr x0 x1), g, ds⟩ σ h n K t = dxPure ⟨d, (.indexStr x0 x1), g, ds⟩ σ h n K () := by rw [wdRun_def]; rfl
theorem wxRun_extract {E : Env} {x0 : X} {x1 : Nat} {σ : Fr} {h : AHeap} {n : Nat} {K : Option Value → AHeap → Nat → Prop} {t : Tok K} : wxRun E (.extract x0 x1) σ h n K t = Runs (aev (X.ev σ h) h n (.extract x0 x1)) n K () := by rw [wxRun_def]; rfl
theorem pure_extract {x0 : X} {x1 : Nat} : AOp.pure (.extract x0 x1) = true := rfl
theorem looks_extract {x0 : X} {x1 : Nat} : AOp.looks (.extract x0 x1) = false := rfl
theorem wdRun_extract {E : Env} {d : Option Nat} {x0 : X} {x1 : Nat} {g : Option (Nat × Bool)} {ds : List Nat} {σ : Fr} {h : AHeap} {n : Nat} {K : Option Value → AHeap → Nat → Kd → Prop} {t : Tok K} : wdRun E ⟨d, (.extract x0 x1), g, ds⟩ σ h n K t = dxPure ⟨d, (.extract x0 x1), g, ds⟩ σ h n K () := by rw [wdRun_def]; rfl
theorem wxRun_lenStr {E : Env} {x0 : X} {σ : Fr} {h : AHeap} {n : Nat} {K : Option Value → AHeap → Nat → Prop} {t : Tok K} : wxRun E (.lenStr x0) σ h n K t = Runs (aev (X.ev σ h) h n (.lenStr x0)) n K () := by rw [wxRun_def]; rfl
theorem pure_lenStr {x0 : X} : AOp.pure (.lenStr x0) = true := rfl
theorem looks_lenStr {x0 : X} : AOp.looks (.lenStr x0) = false := rfl
theorem wdRun_lenStr {E : Env} {d : Option Nat} {x0 : X} {g : Option (Nat × Bool)} {ds : List Nat} {σ : Fr} {h : AHeap} {n : Nat} {K : Option Value → AHeap → Nat → Kd → Prop} {t : Tok K} : wdRun E ⟨d, (.lenStr x0), g, ds⟩ σ h n K t = dxPure ⟨d, (.lenStr x0), g, ds⟩ σ h n K () := by rw [wdRun_def]; rfl
theorem wxRun_lenSlice {E : Env} {x0 : X} {σ : Fr} {h : AHeap} {n : Nat} {K : Option Value → AHeap → Nat → Prop} {t : Tok K} : wxRun E (.lenSlice x0) σ h n K t = Runs (aev (X.ev σ h) h n (.lenSlice x0)) n K () := by rw [wxRun_def]; rfl
theorem pure_lenSlice {x0 : X} : AOp.pure (.lenSlice x0) = true := rfl
theorem looks_lenSlice {x0 : X} : AOp.looks (.lenSlice x0) = false := rfl
theorem wdRun_lenSlice {E : Env} {d : Option Nat} {x0 : X} {g : Option (Nat × Bool)} {ds : List Nat} {σ : Fr} {h : AHeap} {n : Nat} {K : Option Value → AHeap → Nat → Kd → Prop} {t : Tok K} : wdRun E ⟨d, (.lenSlice x0), g, ds⟩ σ h n K t = dxPure ⟨d, (.lenSlice x0), g, ds⟩ σ h n K () := by rw [wdRun_def]; rfl
theorem wxRun_lenConst {E : Env} {x0 : Nat} {σ : Fr} {h : AHeap} {n : Nat} {K : Option Value → AHeap → Nat → Prop} {t : Tok K} : wxRun E (.lenConst x0) σ h n K t = Runs (aev (X.ev σ h) h n (.lenConst x0)) n K () := by rw [wxRun_def]; rfl
theorem pure_lenConst {x0 : Nat} : AOp.pure (.lenConst x0) = true := rfl
theorem looks_lenConst {x0 : Nat} : AOp.looks (.lenConst x0) = false := rfl
theorem wdRun_lenConst {E : Env} {d : Option Nat} {x0 : Nat} {g : Option (Nat × Bool)} {ds : List Nat} {σ : Fr} {h : AHeap} {n : Nat} {K : Option Value → AHeap → Nat → Kd → Prop} {t : Tok K} : wdRun E ⟨d, (.lenConst x0), g, ds⟩ σ h n K t = dxPure ⟨d, (.lenConst x0), g, ds⟩ σ h n K () := by rw [wdRun_def]; rfl
theorem wxRun_append {E : Env} {x0 : Nat} {x1 : Nat} {x2 : Nat} {x3 : X} {x4 : X} {σ : Fr} {h : AHeap} {n : Nat} {K : Option Value → AHeap → Nat → Prop} {t : Tok K} : wxRun E (.append x0 x1 x2 x3 x4) σ h n K t = Runs (aev (X.ev σ h) h n (.append x0 x1 x2 x3 x4)) n K () := by rw [wxRun_def]; rfl
theorem pure_append {x0 : Nat} {x1 : Nat} {x2 : Nat} {x3 : X} {x4 : X} : AOp.pure (.append x0 x1 x2 x3 x4) = false := rfl
theorem looks_append {x0 : Nat} {x1 : Nat} {x2 : Nat} {x3 : X} {x4 : X} : AOp.looks (.append x0 x1 x2 x3 x4) = true := rfl
theorem target_append {x0 : Nat} {x1 : Nat} {x2 : Nat} {x3 : X} {x4 : X} : AOp.target (.append x0 x1 x2 x3 x4) = some x3 := rfl
theorem wdRun_append {E : Env} {d : Option Nat} {x0 : Nat} {x1 : Nat} {x2 : Nat} {x3 : X} {x4 : X} {g : Option (Nat × Bool)} {ds : List Nat} {σ : Fr} {h : AHeap} {n : Nat} {K : Option Value → AHeap → Nat → Kd → Prop} {t : Tok K} : wdRun E ⟨d, (.append x0 x1 x2 x3 x4), g, ds⟩ σ h n K t = dxMem ⟨d, (.append x0 x1 x2 x3 x4), g, ds⟩ σ h n K () := by rw [wdRun_def]; rfl
theorem wxRun_copy {E : Env} {x0 : Nat} {x1 : X} {x2 : X} {σ : Fr} {h : AHeap} {n : Nat} {K : Option Value → AHeap → Nat → Prop} {t : Tok K} : wxRun E (.copy x0 x1 x2) σ h n K t = Runs (aev (X.ev σ h) h n (.copy x0 x1 x2)) n K () := by rw [wxRun_def]; rfl
theorem pure_copy {x0 : Nat} {x1 : X} {x2 : X} : AOp.pure (.copy x0 x1 x2) = false := rfl
theorem looks_copy {x0 : Nat} {x1 : X} {x2 : X} : AOp.looks (.copy x0 x1 x2) = true := rfl
theorem target_copy {x0 : Nat} {x1 : X} {x2 : X} : AOp.target (.copy x0 x1 x2) = some x1 := rfl
theorem wdRun_copy {E : Env} {d : Option Nat} {x0 : Nat} {x1 : X} {x2 : X} {g : Option (Nat × Bool)} {ds : List Nat} {σ : Fr} {h : AHeap} {n : Nat} {K : Option Value → AHeap → Nat → Kd → Prop} {t : Tok K} : wdRun E ⟨d, (.copy x0 x1 x2), g, ds⟩ σ h n K t = dxMem ⟨d, (.copy x0 x1 x2), g, ds⟩ σ h n K () := by rw [wdRun_def]; rfl
theorem wxRun_min {E : Env} {x0 : List X} {σ : Fr} {h : AHeap} {n : Nat} {K : Option Value → AHeap → Nat → Prop} {t : Tok K} : wxRun E (.min x0) σ h n K t = Runs (aev (X.ev σ h) h n (.min x0)) n K () := by rw [wxRun_def]; rfl
theorem pure_min {x0 : List X} : AOp.pure (.min x0) = true := rfl
theorem looks_min {x0 : List X} : AOp.looks (.min x0) = false := rfl
theorem wdRun_min {E : Env} {d : Option Nat} {x0 : List X} {g : Option (Nat × Bool)} {ds : List Nat} {σ : Fr} {h : AHeap} {n : Nat} {K : Option Value → AHeap → Nat → Kd → Prop} {t : Tok K} : wdRun E ⟨d, (.min x0), g, ds⟩ σ h n K t = dxPure ⟨d, (.min x0), g, ds⟩ σ h n K () := by rw [wdRun_def]; rfl
theorem wxRun_max {E : Env} {x0 : List X} {σ : Fr} {h : AHeap} {n : Nat} {K : Option Value → AHeap → Nat → Prop} {t : Tok K} : wxRun E (.max x0) σ h n K t = Runs (aev (X.ev σ h) h n (.max x0)) n K () := by rw [wxRun_def]; rfl
theorem pure_max {x0 : List X} : AOp.pure (.max x0) = true := rfl
theorem looks_max {x0 : List X} : AOp.looks (.max x0) = false := rfl
theorem wdRun_max {E : Env} {d : Option Nat} {x0 : List X} {g : Option (Nat × Bool)} {ds : List Nat} {σ : Fr} {h : AHeap} {n : Nat} {K : Option Value → AHeap → Nat → Kd → Prop} {t : Tok K} : wdRun E ⟨d, (.max x0), g, ds⟩ σ h n K t = dxPure ⟨d, (.max x0), g, ds⟩ σ h n K () := by rw [wdRun_def]; rfl
theorem wxRun_makeFunc {E : Env} {x0 : Nat} {x1 : List X} {x2 : List X} {σ : Fr} {h : AHeap} {n : Nat} {K : Option Value → AHeap → Nat → Prop} {t : Tok K} : wxRun E (.makeFunc x0 x1 x2) σ h n K t = Runs (aev (X.ev σ h) h n (.makeFunc x0 x1 x2)) n K () := by rw [wxRun_def]; rfl
theorem pure_makeFunc {x0 : Nat} {x1 : List X} {x2 : List X} : AOp.pure (.makeFunc x0 x1 x2) = true := rfl
theorem looks_makeFunc {x0 : Nat} {x1 : List X} {x2 : List X} : AOp.looks (.makeFunc x0 x1 x2) = false := rfl
theorem wdRun_makeFunc {E : Env} {d : Option Nat} {x0 : Nat} {x1 : List X} {x2 : List X} {g : Option (Nat × Bool)} {ds : List Nat} {σ : Fr} {h : AHeap} {n : Nat} {K : Option Value → AHeap → Nat → Kd → Prop} {t : Tok K} : wdRun E ⟨d, (.makeFunc x0 x1 x2), g, ds⟩ σ h n K t = dxPure ⟨d, (.makeFunc x0 x1 x2), g, ds⟩ σ h n K () := by rw [wdRun_def]; rfl
theorem wxRun_makeIface {E : Env} {x0 : TypeId} {x1 : X} {σ : Fr} {h : AHeap} {n : Nat} {K : Option Value → AHeap → Nat → Prop} {t : Tok K} : wxRun E (.makeIface x0 x1) σ h n K t = Runs (aev (X.ev σ h) h n (.makeIface x0 x1)) n K () := by rw [wxRun_def]; rfl
theorem pure_makeIface {x0 : TypeId} {x1 : X} : AOp.pure (.makeIface x0 x1) = true := rfl
theorem looks_makeIface {x0 : TypeId} {x1 : X} : AOp.looks (.makeIface x0 x1) = false := rfl
theorem wdRun_makeIface {E : Env} {d : Option Nat} {x0 : TypeId} {x1 : X} {g : Option (Nat × Bool)} {ds : List Nat} {σ : Fr} {h : AHeap} {n : Nat} {K : Option Value → AHeap → Nat → Kd → Prop} {t : Tok K} : wdRun E ⟨d, (.makeIface x0 x1), g, ds⟩ σ h n K t = dxPure ⟨d, (.makeIface x0 x1), g, ds⟩ σ h n K () := by rw [wdRun_def]; rfl
theorem wxRun_makeSlice {E : Env} {x0 : Nat} {x1 : Nat} {x2 : Nat} {x3 : List Value} {x4 : X} {x5 : X} {σ : Fr} {h : AHeap} {n : Nat} {K : Option Value → AHeap → Nat → Prop} {t : Tok K} : wxRun E (.makeSlice x0 x1 x2 x3 x4 x5) σ h n K t = Runs (aev (X.ev σ h) h n (.makeSlice x0 x1 x2 x3 x4 x5)) n K () := by rw [wxRun_def]; rfl
theorem pure_makeSlice {x0 : Nat} {x1 : Nat} {x2 : Nat} {x3 : List Value} {x4 : X} {x5 : X} : AOp.pure (.makeSlice x0 x1 x2 x3 x4 x5) = false := rfl
theorem looks_makeSlice {x0 : Nat} {x1 : Nat} {x2 : Nat} {x3 : List Value} {x4 : X} {x5 : X} : AOp.looks (.makeSlice x0 x1 x2 x3 x4 x5) = false := rfl
theorem target_makeSlice {x0 : Nat} {x1 : Nat} {x2 : Nat} {x3 : List Value} {x4 : X} {x5 : X} : AOp.target (.makeSlice x0 x1 x2 x3 x4 x5) = none := rfl
theorem wdRun_makeSlice {E : Env} {d : Option Nat} {x0 : Nat} {x1 : Nat} {x2 : Nat} {x3 : List Value} {x4 : X} {x5 : X} {g : Option (Nat × Bool)} {ds : List Nat} {σ : Fr} {h : AHeap} {n : Nat} {K : Option Value → AHeap → Nat → Kd → Prop} {t : Tok K} : wdRun E ⟨d, (.makeSlice x0 x1 x2 x3 x4 x5), g, ds⟩ σ h n K t = dxMem ⟨d, (.makeSlice x0 x1 x2 x3 x4 x5), g, ds⟩ σ h n K () := by rw [wdRun_def]; rfl
theorem wxRun_lookup {E : Env} {x0 : Bool} {x1 : Bool} {x2 : Value} {x3 : X} {x4 : X} {σ : Fr} {h : AHeap} {n : Nat} {K : Option Value → AHeap → Nat → Prop} {t : Tok K} : wxRun E (.lookup x0 x1 x2 x3 x4) σ h n K t = Runs (aev (X.ev σ h) h n (.lookup x0 x1 x2 x3 x4)) n K () := by rw [wxRun_def]; rfl
theorem pure_lookup {x0 : Bool} {x1 : Bool} {x2 : Value} {x3 : X} {x4 : X} : AOp.pure (.lookup x0 x1 x2 x3 x4) = true := rfl
theorem looks_lookup {x0 : Bool} {x1 : Bool} {x2 : Value} {x3 : X} {x4 : X} : AOp.looks (.lookup x0 x1 x2 x3 x4) = true := rfl
theorem wdRun_lookup {E : Env} {d : Option Nat} {x0 : Bool} {x1 : Bool} {x2 : Value} {x3 : X} {x4 : X} {g : Option (Nat × Bool)} {ds : List Nat} {σ : Fr} {h : AHeap} {n : Nat} {K : Option Value → AHeap → Nat → Kd → Prop} {t : Tok K} : wdRun E ⟨d, (.lookup x0 x1 x2 x3 x4), g, ds⟩ σ h n K t = dxPure ⟨d, (.lookup x0 x1 x2 x3 x4), g, ds⟩ σ h n K () := by rw [wdRun_def]; rfl
theorem wxRun_call {E : Env} {x0 : X} {x1 : List X} {σ : Fr} {h : AHeap} {n : Nat} {K : Option Value → AHeap → Nat → Prop} {t : Tok K} : wxRun E (.call x0 x1) σ h n K t = Callee (X.ev σ h x0) (mapX (X.ev σ h) x1) (fun g args => HasCallT E g args h n (fun v => K (some v)) ()) () := by rw [wxRun_def]; rfl
theorem pure_call {x0 : X} {x1 : List X} : AOp.pure (.call x0 x1) = false := rfl
theorem looks_call {x0 : X} {x1 : List X} : AOp.looks (.call x0 x1) = false := rfl
theorem wdRun_call {E : Env} {d : Option Nat} {x0 : X} {x1 : List X} {g : Option (Nat × Bool)} {ds : List Nat} {σ : Fr} {h : AHeap} {n : Nat} {K : Option Value → AHeap → Nat → Kd → Prop} {t : Tok K} : wdRun E ⟨d, .call x0 x1, g, ds⟩ σ h n K t = Callee (X.ev σ h x0) (mapX (X.ev σ h) x1) (fun g args => HasRetT E g args h n (fun v bs n' => K (some v) (putsL h bs) n' ⟨none, bs.map (·.1)⟩) ()) () := by rw [wdRun_def]; rfl
theorem wxRun_fail {E : Env} {σ : Fr} {h : AHeap} {n : Nat} {K : Option Value → AHeap → Nat → Prop} {t : Tok K} : wxRun E (.fail) σ h n K t = Runs (aev (X.ev σ h) h n (.fail)) n K () := by rw [wxRun_def]; rfl
theorem pure_fail : AOp.pure (.fail) = true := rfl
theorem looks_fail : AOp.looks (.fail) = false := rfl
theorem wdRun_fail {E : Env} {d : Option Nat} {g : Option (Nat × Bool)} {ds : List Nat} {σ : Fr} {h : AHeap} {n : Nat} {K : Option Value → AHeap → Nat → Kd → Prop} {t : Tok K} : wdRun E ⟨d, (.fail), g, ds⟩ σ h n K t = dxPure ⟨d, (.fail), g, ds⟩ σ h n K () := by rw [wdRun_def]; rfl
theorem wxRun_cap {E : Env} {x0 : X} {σ : Fr} {h : AHeap} {n : Nat} {K : Option Value → AHeap → Nat → Prop} {t : Tok K} : wxRun E (.cap x0) σ h n K t = Runs (aev (X.ev σ h) h n (.cap x0)) n K () := by rw [wxRun_def]; rfl
theorem pure_cap {x0 : X} : AOp.pure (.cap x0) = true := rfl
theorem looks_cap {x0 : X} : AOp.looks (.cap x0) = false := rfl
theorem wdRun_cap {E : Env} {d : Option Nat} {x0 : X} {g : Option (Nat × Bool)} {ds : List Nat} {σ : Fr} {h : AHeap} {n : Nat} {K : Option Value → AHeap → Nat → Kd → Prop} {t : Tok K} : wdRun E ⟨d, (.cap x0), g, ds⟩ σ h n K t = dxPure ⟨d, (.cap x0), g, ds⟩ σ h n K () := by rw [wdRun_def]; rfl
theorem wxRun_sliceData {E : Env} {x0 : X} {σ : Fr} {h : AHeap} {n : Nat} {K : Option Value → AHeap → Nat → Prop} {t : Tok K} : wxRun E (.sliceData x0) σ h n K t = Runs (aev (X.ev σ h) h n (.sliceData x0)) n K () := by rw [wxRun_def]; rfl
theorem pure_sliceData {x0 : X} : AOp.pure (.sliceData x0) = true := rfl
theorem looks_sliceData {x0 : X} : AOp.looks (.sliceData x0) = false := rfl
theorem wdRun_sliceData {E : Env} {d : Option Nat} {x0 : X} {g : Option (Nat × Bool)} {ds : List Nat} {σ : Fr} {h : AHeap} {n : Nat} {K : Option Value → AHeap → Nat → Kd → Prop} {t : Tok K} : wdRun E ⟨d, (.sliceData x0), g, ds⟩ σ h n K t = dxPure ⟨d, (.sliceData x0), g, ds⟩ σ h n K () := by rw [wdRun_def]; rfl
theorem wxRun_unsafeString {E : Env} {x0 : Nat} {x1 : X} {x2 : X} {σ : Fr} {h : AHeap} {n : Nat} {K : Option Value → AHeap → Nat → Prop} {t : Tok K} : wxRun E (.unsafeString x0 x1 x2) σ h n K t = Runs (aev (X.ev σ h) h n (.unsafeString x0 x1 x2)) n K () := by rw [wxRun_def]; rfl
theorem pure_unsafeString {x0 : Nat} {x1 : X} {x2 : X} : AOp.pure (.unsafeString x0 x1 x2) = false := rfl
theorem looks_unsafeString {x0 : Nat} {x1 : X} {x2 : X} : AOp.looks (.unsafeString x0 x1 x2) = true := rfl
theorem target_unsafeString {x0 : Nat} {x1 : X} {x2 : X} : AOp.target (.unsafeString x0 x1 x2) = some x1 := rfl
theorem wdRun_unsafeString {E : Env} {d : Option Nat} {x0 : Nat} {x1 : X} {x2 : X} {g : Option (Nat × Bool)} {ds : List Nat} {σ : Fr} {h : AHeap} {n : Nat} {K : Option Value → AHeap → Nat → Kd → Prop} {t : Tok K} : wdRun E ⟨d, (.unsafeString x0 x1 x2), g, ds⟩ σ h n K t = dxMem ⟨d, (.unsafeString x0 x1 x2), g, ds⟩ σ h n K () := by rw [wdRun_def]; rfl
theorem wxRun_toUnsafe {E : Env} {x0 : X} {σ : Fr} {h : AHeap} {n : Nat} {K : Option Value → AHeap → Nat → Prop} {t : Tok K} : wxRun E (.toUnsafe x0) σ h n K t = Runs (aev (X.ev σ h) h n (.toUnsafe x0)) n K () := by rw [wxRun_def]; rfl
theorem pure_toUnsafe {x0 : X} : AOp.pure (.toUnsafe x0) = true := rfl
theorem looks_toUnsafe {x0 : X} : AOp.looks (.toUnsafe x0) = true := rfl
theorem wdRun_toUnsafe {E : Env} {d : Option Nat} {x0 : X} {g : Option (Nat × Bool)} {ds : List Nat} {σ : Fr} {h : AHeap} {n : Nat} {K : Option Value → AHeap → Nat → Kd → Prop} {t : Tok K} : wdRun E ⟨d, (.toUnsafe x0), g, ds⟩ σ h n K t = dxPure ⟨d, (.toUnsafe x0), g, ds⟩ σ h n K () := by rw [wdRun_def]; rfl
theorem wxRun_fromUnsafe {E : Env} {x0 : Nat} {x1 : Nat} {x2 : X} {σ : Fr} {h : AHeap} {n : Nat} {K : Option Value → AHeap → Nat → Prop} {t : Tok K} : wxRun E (.fromUnsafe x0 x1 x2) σ h n K t = Runs (aev (X.ev σ h) h n (.fromUnsafe x0 x1 x2)) n K () := by rw [wxRun_def]; rfl
theorem pure_fromUnsafe {x0 : Nat} {x1 : Nat} {x2 : X} : AOp.pure (.fromUnsafe x0 x1 x2) = true := rfl
theorem looks_fromUnsafe {x0 : Nat} {x1 : Nat} {x2 : X} : AOp.looks (.fromUnsafe x0 x1 x2) = true := rfl
theorem wdRun_fromUnsafe {E : Env} {d : Option Nat} {x0 : Nat} {x1 : Nat} {x2 : X} {g : Option (Nat × Bool)} {ds : List Nat} {σ : Fr} {h : AHeap} {n : Nat} {K : Option Value → AHeap → Nat → Kd → Prop} {t : Tok K} : wdRun E ⟨d, (.fromUnsafe x0 x1 x2), g, ds⟩ σ h n K t = dxPure ⟨d, (.fromUnsafe x0 x1 x2), g, ds⟩ σ h n K () := by rw [wdRun_def]; rfl
attribute [simp] wxRun_mov pure_mov looks_mov wdRun_mov wxRun_pick pure_pick looks_pick wdRun_pick wxRun_alloc pure_alloc looks_alloc target_alloc wdRun_alloc wxRun_box pure_box looks_box target_box wdRun_box wxRun_build pure_build looks_build wdRun_build wxRun_buildSlice pure_buildSlice looks_buildSlice target_buildSlice wdRun_buildSlice wxRun_load pure_load looks_load wdRun_load wxRun_store pure_store looks_store target_store wdRun_store wxRun_nilCheck pure_nilCheck looks_nilCheck wdRun_nilCheck wxRun_bin pure_bin looks_bin wdRun_bin wxRun_eqv pure_eqv looks_eqv wdRun_eqv wxRun_eqAgg pure_eqAgg looks_eqAgg wdRun_eqAgg wxRun_un pure_un looks_un wdRun_un wxRun_conv pure_conv looks_conv wdRun_conv wxRun_same pure_same looks_same wdRun_same wxRun_bytesOf pure_bytesOf looks_bytesOf target_bytesOf wdRun_bytesOf wxRun_strOf pure_strOf looks_strOf wdRun_strOf wxRun_sliceStr pure_sliceStr looks_sliceStr wdRun_sliceStr wxRun_slice pure_slice looks_slice wdRun_slice wxRun_sliceArr pure_sliceArr looks_sliceArr wdRun_sliceArr wxRun_fieldAddr pure_fieldAddr looks_fieldAddr wdRun_fieldAddr wxRun_field pure_field looks_field wdRun_field wxRun_indexAddr pure_indexAddr looks_indexAddr wdRun_indexAddr wxRun_indexArr pure_indexArr looks_indexArr wdRun_indexArr wxRun_index pure_index looks_index wdRun_index wxRun_indexStr pure_indexStr looks_indexStr wdRun_indexStr wxRun_extract pure_extract looks_extract wdRun_extract wxRun_lenStr pure_lenStr looks_lenStr wdRun_lenStr wxRun_lenSlice pure_lenSlice looks_lenSlice wdRun_lenSlice wxRun_lenConst pure_lenConst looks_lenConst wdRun_lenConst wxRun_append pure_append looks_append target_append wdRun_append wxRun_copy pure_copy looks_copy target_copy wdRun_copy wxRun_min pure_min looks_min wdRun_min wxRun_max pure_max looks_max wdRun_max wxRun_makeFunc pure_makeFunc looks_makeFunc wdRun_makeFunc wxRun_makeIface pure_makeIface looks_makeIface wdRun_makeIface wxRun_makeSlice pure_makeSlice looks_makeSlice target_makeSlice wdRun_makeSlice wxRun_lookup pure_lookup looks_lookup wdRun_lookup wxRun_call pure_call looks_call wdRun_call wxRun_fail pure_fail looks_fail wdRun_fail wxRun_cap pure_cap looks_cap wdRun_cap wxRun_sliceData pure_sliceData looks_sliceData wdRun_sliceData wxRun_unsafeString pure_unsafeString looks_unsafeString target_unsafeString wdRun_unsafeString wxRun_toUnsafe pure_toUnsafe looks_toUnsafe wdRun_toUnsafe wxRun_fromUnsafe pure_fromUnsafe looks_fromUnsafe wdRun_fromUnsafe
end
end Go.Proofs.YtkaibjdogeikbaaDoor.Am
