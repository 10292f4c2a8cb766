/- The evaluator of the abstract machine, part D5: what it finds is a derivation. -/
import Derived.Test.YtkaibjdogeikbaaDoorD3
import Derived.Test.YtkaibjdogeikbaaDoorD4
namespace Go.Proofs.YtkaibjdogeikbaaDoor.Am
noncomputable section
open Go.RowKit (Below)

theorem Prim.kept (p : Prim) {args : List Value} {h : AHeap} {n : Nat} {v : Value} {h' : AHeap} {n' : Nat} (he : p.ev args h n = some (v, h', n')) : n ≤ n' ∧ Keeps h n h' [] := by
  unfold Prim.ev at he
  split at he
  · cases he; exact ⟨Nat.le_refl _, .refl _ _ _⟩
  · split at he
    · cases he; exact ⟨by omega, .new _ _ _ _⟩
    · cases he
  · split at he
    · cases he; exact ⟨Nat.le_refl _, .refl _ _ _⟩
    · cases he
  · split at he
    · cases he; exact ⟨Nat.le_refl _, .refl _ _ _⟩
    · cases he
  · cases he
theorem mkEnv_kept (fs : FT) (ps : List (Nat × Prim)) : (mkEnv fs ps).Kept := by
  intro f args h n v h' n' he
  simp only [mkEnv, primOrc] at he
  split at he
  · exact Prim.kept _ he
  · cases he

/-- What the program's own row for a body-less function is. -/
def Prim.at (P : Program) (f : Nat) : Prim → Prop
  | .noEscape => ∃ fn, P.funcs[f]? = some fn ∧ (fn.name == "runtime.NumGoroutine") = false ∧ fn.body.isNone = true ∧ Extern.findNext fn = none ∧ Extern.find fn = some Extern.AbiNoEscape.same
  | .makeNoZero ty => ∃ fn t ps, P.funcs[f]? = some fn ∧ (fn.name == "runtime.NumGoroutine") = false ∧ fn.body.isNone = true ∧ Extern.findNext fn = none ∧ Extern.find fn = some (Extern.BytealgMakeNoZero.makeNoZero ps #[t]) ∧ P.underlying t = some (.slice ty)
  | .count => ∃ fn, P.funcs[f]? = some fn ∧ (fn.name == "runtime.NumGoroutine") = false ∧ fn.body.isNone = true ∧ Extern.findNext fn = none ∧ Extern.find fn = some Extern.BytealgCount.count
  | .indexByte => ∃ fn, P.funcs[f]? = some fn ∧ (fn.name == "runtime.NumGoroutine") = false ∧ fn.body.isNone = true ∧ Extern.findNext fn = none ∧ Extern.find fn = some Extern.BytealgIndexByte.indexByte

section
variable {P : Program} {w0 : World}

theorem invokes_value {f : Nat} {args : Array Value} {w : World} {u : Value} {w' : World} {R : Value → World → Prop} (hr : (callFunc f args).run P w = .ok (.value u) w') (h : R u w') : Invokes P f args w R := by
  intro o a K Q hK
  rw [hr]
  exact hK u w' h

theorem VRels.two {φ : Phi} {a b : Value} {us : List Value} (h : VRels φ [a, b] us) : ∃ x y, us = [x, y] ∧ VRel φ a x ∧ VRel φ b y := by
  cases h with
  | cons h1 h2 => cases h2 with
    | cons h3 h4 => cases h4; exact ⟨_, _, rfl, h1, h3⟩
theorem VRels.one {φ : Phi} {a : Value} {us : List Value} (h : VRels φ [a] us) : ∃ x, us = [x] ∧ VRel φ a x := by
  cases h with
  | cons h1 h2 => cases h2; exact ⟨_, rfl, h1⟩

theorem prim_call_sound {f : Nat} {p : Prim} (hp : p.at P f) {args : List Value} {h : AHeap} {n : Nat} {v : Value} {h' : AHeap} {n' : Nat} (he : p.ev args h n = some (v, h', n')) : SoundCall P w0 f args h n v h' n' := by
  intro φ T w cargs hs hh hf hG hra
  unfold Prim.ev at he
  split at he
  · obtain ⟨fn, h1, h2, h3, h4, h5⟩ := hp
    cases he
    obtain ⟨x, rfl, hx⟩ := hra.one
    refine invokes_value (u := x) (w' := w) (by rw [run_callFunc_extern h1 h2 h3 h4 h5]; rfl) ⟨φ, T, hx, .refl hs hh⟩
  · rename_i ty m
    split at he
    · rename_i hm
      obtain ⟨fn, t, ps, h1, h2, h3, h4, h5, h6⟩ := hp
      cases he
      obtain ⟨x, rfl, hx⟩ := hra.one
      obtain rfl := hx.eq_of_scalar rfl
      obtain ⟨cs, hrun, hsz, _⟩ := Lib.run_makeNoZero (P := P) w ps t ty h6 m.toNat (by omega)
      have hmi : (m.toNat : Int) = m := by omega
      rw [hmi] at hrun
      have hs2 : Sat 4096 w0 φ T w.drew.drew := (hs.same (SameMem.drew _ _)).same (SameMem.drew _ _)
      have hp := alloc_sound (w := w.drew.drew) (e := ty) (fz := (0, 0)) hs2 hh hG hf (vs := []) (us := []) .nil (c := cs) (by simp) rfl (fun o _ => by omega)
      refine invokes_value (u := .slice (some ⟨w.heap.size, 0, none⟩) m.toNat cs.size) (w' := w.drew.drew.alloc (.cells cs ty)) (by rw [run_callFunc_extern h1 h2 h3 h4 h5, hrun]; rfl) ⟨_, _, ?_, hp⟩
      exact .slice n 0 0 m.toNat 2 ⟨w.heap.size, 0, true, cs.size, ty⟩ _ cs.size (by simp [Phi.ins]) hsz (.inr rfl) (.inr (.inr ⟨1, by omega, rfl, by simp⟩))
    · cases he
  · rename_i s c
    split at he
    · obtain ⟨fn, h1, h2, h3, h4, h5⟩ := hp
      cases he
      obtain ⟨x, y, rfl, hx, hy⟩ := hra.two
      obtain rfl := hx.eq_of_scalar rfl
      obtain rfl := hy.eq_of_scalar rfl
      exact invokes_value (w' := w) (by rw [run_callFunc_extern h1 h2 h3 h4 h5]; exact congrArg (fun r => Result.andThen r fun v w' => Result.ok (Next.value v) w') (Lib.run_countString s c w)) ⟨φ, T, .int _ _, .refl hs hh⟩
    · cases he
  · rename_i s c
    split at he
    · obtain ⟨fn, h1, h2, h3, h4, h5⟩ := hp
      cases he
      obtain ⟨x, y, rfl, hx, hy⟩ := hra.two
      obtain rfl := hx.eq_of_scalar rfl
      obtain rfl := hy.eq_of_scalar rfl
      exact invokes_value (w' := w) (by rw [run_callFunc_extern h1 h2 h3 h4 h5]; exact congrArg (fun r => Result.andThen r fun v w' => Result.ok (Next.value v) w') (Lib.run_indexByteString s c w)) ⟨φ, T, .int _ _, .refl hs hh⟩
    · cases he
  · cases he

def PrimsAt (P : Program) : List (Nat × Prim) → Prop
  | [] => True
  | (f, p) :: l => p.at P f ∧ PrimsAt P l
theorem primsAt_look {l : List (Nat × Prim)} {f : Nat} {p : Prim} (h : PrimsAt P l) (hl : lookF l f = some p) : p.at P f := by
  induction l with
  | nil => cases hl
  | cons q l ih =>
    obtain ⟨k, r⟩ := q
    simp only [lookF] at hl
    split at hl
    · rename_i e; subst e; cases hl; exact h.1
    · exact ih h.2 hl

def CodeAt (P : Program) (f : Nat) (af : AFunc) : Prop := ∃ fn, P.funcs[f]? = some fn ∧ (fn.name == "runtime.NumGoroutine") = false ∧ cFunc P fn = some af
theorem mkEnv_ok {fs : FT} {ps : List (Nat × Prim)} (hm : P.follows .mixedOrders = true) (hf : fs.All (CodeAt P)) (hp : PrimsAt P ps) : EnvOk P w0 (mkEnv fs ps).env := by
  refine ⟨hm, fun f af h => FT.find_all hf h, fun f args h n v h' n' he => ?_⟩
  simp only [EEnv.env, mkEnv, primOrc] at he
  split at he
  · rename_i p hl
    exact prim_call_sound (primsAt_look hp hl) he
  · cases he

/-- A CLOSED RUN: what the evaluator finds is what the call comes to. -/
theorem run_call {fs : FT} {ps : List (Nat × Prim)} (hm : P.follows .mixedOrders = true) (hf : fs.All (CodeAt P)) (hp : PrimsAt P ps) {w : World} {s : List Seed} (hseed : ∀ p ∈ s, SeedOk w s p) {f : Nat} {fn : Func} (hfn : P.funcs[f]? = some fn)
    (hbody : fn.body.isSome = true) (hname : (fn.name == "runtime.NumGoroutine") = false) {args cargs : List Value} {n : Nat} (hn : 4096 ≤ n) (hfr : ∀ p ∈ s, p.1 < n) (hra : VRels (phi0 s) args cargs) {v : Value} {h' : AHeap} {n' : Nat}
    (hb : Big (mkEnv fs ps).env (.call f args (heap0 s) n v h' n')) : Calls P f cargs.toArray w fun e w' => ∃ u φ', e = .returned u ∧ VRel φ' v u ∧ Below w.heap.size w w' := by
  have hsound := hb.sound (mkEnv_ok (w0 := w) hm hf hp)
  obtain ⟨c, hc⟩ := Option.isSome_iff_exists.1 hbody
  refine calls_of_sound hsound hfn hc hname (sat0 hseed) (fun i b hb => hb) (fun i h1 h2 => ?_) hn hra
  have hnone : lookS s i = none := by
    cases hl : lookS s i with
    | none => rfl
    | some q =>
      obtain ⟨l, b⟩ := q
      have := hfr _ (lookS_mem hl)
      simp only at this
      omega
  refine ⟨by rw [heap0_get, hnone]; rfl, fun g => by simp only [phi0, hnone]⟩
end
end
end Go.Proofs.YtkaibjdogeikbaaDoor.Am
