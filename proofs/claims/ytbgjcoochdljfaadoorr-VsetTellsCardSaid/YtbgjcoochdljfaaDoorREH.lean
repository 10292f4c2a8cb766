/- Rules to walk through code of the abstract machine with values that are not known (EH). -/
import Derived.Test.YtbgjcoochdljfaaDoorRE
namespace Go.Proofs.YtbgjcoochdljfaaDoorR.Am
noncomputable section
/- CODE IN PARTS: a part that is shown otherwise than by the walk. -/
section
variable {E : Env} {σ : Fr} {h : AHeap} {n : Nat} {Q : Ex → Fr → AHeap → Nat → Prop} {t : Tok Q}
def kThenH (E : Env) (b : ACode) (Q : Ex → Fr → AHeap → Nat → Prop) (_ : Tok Q) (e : Ex) (σ : Fr) (h : AHeap) (n : Nat) : Prop := match e with
  | .normal => HasCodeT E b σ h n Q ()
  | e => Q e σ h n
theorem kThenH_normal {b : ACode} : kThenH E b Q t .normal σ h n = HasCodeT E b σ h n Q () := rfl
theorem kThenH_ret {b : ACode} : kThenH E b Q t .ret σ h n = Q .ret σ h n := rfl
theorem kThenH_exit {b : ACode} {j : Nat} : kThenH E b Q t (.exit j) σ h n = Q (.exit j) σ h n := rfl
attribute [simp] kThenH_normal kThenH_ret kThenH_exit
theorem hc_seq {a b : ACode} (x : HasCode E a σ h n (kThenH E b Q ())) : HasCodeT E (.seq a b) σ h n Q t := by
  obtain ⟨e, σ1, h1, n1, hb, hq⟩ := x
  cases e with
  | normal =>
    obtain ⟨e, σ', h', n', hb2, hq2⟩ := (hq : HasCode E b σ1 h1 n1 Q)
    exact ⟨_, _, _, _, .seq hb hb2, hq2⟩
  | exit j => exact ⟨_, _, _, _, .seqStop hb (by simp), hq⟩
  | ret => exact ⟨_, _, _, _, .seqStop hb (by simp), hq⟩
theorem hc_seqw {a b : ACode} (x : wx E a σ h n (kThenH E b Q ()) ()) : HasCodeT E (.seq a b) σ h n Q t := hc_seq (wx_big x)
theorem hc_walk {c : ACode} (x : wx E c σ h n Q ()) : HasCodeT E c σ h n Q t := wx_big x
theorem hc_start {c : ACode} (σ2 : Fr) {h2 : AHeap} (hs : FSubL σ2 σ) (hh : HSub h2 h) (x : HasCodeT E c σ2 h2 n Q ()) : HasCodeT E c σ h n Q t := HasCode.start (FSub.ofL hs) hh x
theorem hc_block {id : Nat} {c : ACode} (x : HasCodeT E c σ h n (kBlock id Q ()) ()) : HasCodeT E (.block id c) σ h n Q t := by
  obtain ⟨e, σ1, h1, n1, hb, hq⟩ := x
  rw [kBlock_def] at hq
  cases e with
  | normal => exact ⟨_, _, _, _, .block hb (by simp), hq⟩
  | exit j =>
    simp only [blockI] at hq
    split at hq
    · rename_i e; subst e
      exact ⟨_, _, _, _, .blockExit hb, hq⟩
    · rename_i hne
      exact ⟨_, _, _, _, .block hb (by simpa using hne), hq⟩
  | ret => exact ⟨_, _, _, _, .block hb (by simp), hq⟩
theorem hc_inv {c : ACode} (I : Nat → Fr → AHeap → Nat → Prop) (step : ∀ m σ h n, I m σ h n → HasCodeT E c σ h n (kAgain I m Q () ()) ()) : ∀ (m : Nat) (σ : Fr) (h : AHeap) (n : Nat), I m σ h n → HasCode E (.loop c) σ h n Q := by
  refine loop_inv I fun m σ h n hi => ?_
  have x : HasCode E c σ h n (kAgain I m Q () ()) := step m σ h n hi
  rw [kAgain_def] at x
  have : (againI I m Q () ()) = fun e σ' h' n' => match e with
      | .normal => Again I m σ' h' n' ()
      | e => Q e σ' h' n' := by funext e σ h n; cases e <;> rfl
  rw [this] at x
  exact x
end
end
end Go.Proofs.YtbgjcoochdljfaaDoorR.Am
