/- The abstract memory and its operations, part A7: what a run of the model does is bounded by what an abstract machine does. -/
import Derived.Test.YtkaibjdogeikbaaDoorA6
namespace Go.Proofs.YtkaibjdogeikbaaDoor.Am
noncomputable section
open Go.RowKit (Below)

section
variable {P : Program} {G : Nat} {w0 : World} {φ : Phi} {T : TH} {w : World} {h : AHeap} {n : Nat} {σ : Fr} {ρ : Operand → Value}

theorem eqGuard_rel (op : BinOp) (t : TypeId) (x y : Operand) {a b : Value} (k : Rk) {lit : Bool} {a' b' : Value} {r : Bool} (ha : VRel φ a' a) (hb : VRel φ b' b) (h : aEqv k lit a' b' = some r)
    (hl : lit = true → (isConst x || isConst y) = true) : (eqGuard op t x y a b).run P w = .ok () w := by
  apply eqGuard_run
  · rintro xs ys ⟨rfl, rfl⟩
    cases ha; cases hb; simp [aEqv] at h
  · by_cases hn : a = .nilIface ∧ b = .nilIface
    · obtain ⟨rfl, rfl⟩ := hn
      cases ha; cases hb
      right
      apply hl
      simp only [aEqv] at h
      split at h
      · rename_i hk; exact hk.2
      · simp at h
    · exact .inl hn

def rkD : Rk → TypeDesc → Bool
  | .bool, .bool | .ptr, .pointer _ | .slice, .slice _ | .map, .map _ _ | .func, .func _ _ _ | .iface, .interface _ => true
  | _, _ => false

theorem aEqv_sound {k : Rk} {lit : Bool} {t : TypeId} {d : TypeDesc} (ht : P.underlying t = some d) (hk : rkD k d = true) (hp : ∀ e, d = .pointer e → ∃ s, sz P e = some s ∧ s ≠ 0)
    {a' b' a b : Value} {r : Bool} (ha : VRel φ a' a) (hb : VRel φ b' b) (h : aEqv k lit a' b' = some r) : (Op.equal t a b).run P w = .ok r w := by
  have key : ∀ dep, (Op.equalIn (dep + 1) t a b).run P w = .ok r w := by
    intro dep
    unfold aEqv at h
    split at h
    all_goals first | (simp at h; done) | (split at h <;> try (simp at h; done))
    all_goals (rename_i hkk; obtain rfl := Option.some.inj h)
    · -- bool
      subst hkk; cases d <;> simp [rkD] at hk
      cases ha; cases hb
      simp [Op.equalIn, run_underlying' ht]
    · -- p == nil
      subst hkk; cases d <;> simp [rkD] at hk
      cases hb
      cases ha <;> simp [Op.equalIn, run_underlying' ht]
    · subst hkk; cases d <;> simp [rkD] at hk
      cases ha
      cases hb <;> simp [Op.equalIn, run_underlying' ht]
    · obtain ⟨rfl, h1, h2⟩ := hkk
      cases d <;> simp [rkD] at hk
      rename_i e
      obtain ⟨s, hsz, hs0⟩ := hp e rfl
      cases ha with
      | ptr i o g l hl =>
        cases hb with
        | ptr i' o' g' l' hl' =>
          simp only at h1 h2
          obtain rfl := h1
          obtain rfl := Option.some.inj h2
          rw [hl] at hl'
          obtain rfl := Option.some.inj hl'
          simp only [Op.equalIn, Sem.run_bind, run_underlying' ht, Result.andThen_ok, run_sizeOf' hsz, ne_eq, hs0, not_false_eq_true, if_true]
          simp only [sameAddr, beq_self_eq_true, if_true, Sem.run_pure, Result.ok.injEq, and_true]
          by_cases ho : o = o'
          · subst ho; simp
          · rw [decide_eq_false (by simpa using ho)]
            simp [beq_eq_false_iff_ne, ho]
    · subst hkk; cases d <;> simp [rkD] at hk
      cases hb
      cases ha <;> simp [Op.equalIn, run_underlying' ht]
    · subst hkk; cases d <;> simp [rkD] at hk
      cases ha
      cases hb <;> simp [Op.equalIn, run_underlying' ht]
    · subst hkk; cases d <;> simp [rkD] at hk
      cases hb
      cases ha <;> simp [Op.equalIn, run_underlying' ht]
    · subst hkk; cases d <;> simp [rkD] at hk
      cases ha
      cases hb <;> simp [Op.equalIn, run_underlying' ht]
    · subst hkk; cases d <;> simp [rkD] at hk
      cases ha; cases hb; simp [Op.equalIn, run_underlying' ht]
    · subst hkk; cases d <;> simp [rkD] at hk
      cases ha; cases hb; simp [Op.equalIn, run_underlying' ht]
    · subst hkk; cases d <;> simp [rkD] at hk
      cases ha; cases hb; simp [Op.equalIn, run_underlying' ht]
    · obtain ⟨rfl, _⟩ := hkk; cases d <;> simp [rkD] at hk
      cases ha; cases hb; simp [Op.equalIn, run_underlying' ht]
    · subst hkk; cases d <;> simp [rkD] at hk
      cases ha; cases hb; simp [Op.equalIn, run_underlying' ht]
    · subst hkk; cases d <;> simp [rkD] at hk
      cases ha; cases hb; simp [Op.equalIn, run_underlying' ht]
  exact key 9999

def plainPair : Value → Value → Bool
  | .int _ _, .int _ _ | .float _ _, .float _ _ | .complex _ _ _, .complex _ _ _ | .string _, .string _ => false
  | _, _ => true
theorem eqv_bin (op : BinOp) (hop : op = .eql ∨ op = .neq) (t : TypeId) {k : Rk} {lit : Bool} {a' b' a b : Value} {r : Bool} (ha : VRel φ a' a) (hb : VRel φ b' b) (h : aEqv k lit a' b' = some r)
    (he : (Op.equal t a b).run P w = .ok r w) : (binOp op t a b).run P w = .ok (.bool (if op = .neq then !r else r)) w := by
  have hc : ∀ a b : Value, plainPair a b = true → (binOp .eql t a b = do Pure.pure (.bool (← Op.equal t a b))) ∧ (binOp .neq t a b = do Pure.pure (.bool (!(← Op.equal t a b)))) := by
    intro a b hm
    cases a <;> cases b <;> first | exact ⟨rfl, rfl⟩ | (simp [plainPair] at hm; done)
  have hab : plainPair a b = true := by
    clear he hc
    cases ha <;> cases hb <;> first | rfl | (simp [aEqv] at h; done)
  obtain ⟨h1, h2⟩ := hc a b hab
  rcases hop with rfl | rfl
  · rw [h1]; simp [he]
  · rw [h2]; simp [he]

theorem un_sound {op : UnOp} {a v : Value} (h : aUn op a = some v) : (Op.unary op a).run P w = .ok v w := by
  unfold aUn at h
  split at h
  · cases op <;> simp only at h <;> (try (simp at h; done)) <;> (obtain rfl := Option.some.inj h)
    · simp [Op.unary, Op.intArith]
    · simp [Op.unary, Op.intBits]
  · cases op <;> simp only at h <;> (try (simp at h; done)) <;> (obtain rfl := Option.some.inj h)
    simp [Op.unary]
  · simp at h

theorem bound_sound {v u : Value} {m k : Nat} {M : Nat} {code : BoundsCode} (h : aBound m v = some k) (hv : VRel φ v u) (hM : m ≤ M) : (Instr.sliceBound u M code).run P w = .ok k w ∧ k ≤ m := by
  unfold aBound at h
  split at h
  · split at h
    · rename_i hk n hc
      obtain rfl := Option.some.inj h
      cases hv
      refine ⟨?_, by omega⟩
      simp only [Instr.sliceBound, Sem.run_bind, asIntOf, Sem.run_pure, Result.andThen_ok]
      rw [if_pos ⟨hc.1, by omega⟩]
      simp
    · simp at h
  · simp at h

theorem cOpt_spec {x : Option Operand} {y : Option X} (h : cOpt x = some y) : (x = none ∧ y = none) ∨ ∃ a b, x = some a ∧ y = some b ∧ cX a = some b := by
  cases x with
  | none => simp [cOpt] at h; exact .inl ⟨rfl, h.symm⟩
  | some a =>
    simp only [cOpt, Option.map_eq_some_iff] at h
    obtain ⟨b, hb, rfl⟩ := h
    exact .inr ⟨a, b, rfl, rfl, hb⟩

/-- The bounds, high ahead of low, without max. -/
theorem bounds_sound (hρ : RhoRel φ σ h ρ) {len cap : Nat} {lo hi : Option Operand} {lo' hi' : Option X} {l u : Nat} (hlo : cOpt lo = some lo') (hhi : cOpt hi = some hi')
    (hb : aBounds (X.ev σ h) len lo' hi' = some (l, u)) (hc : len ≤ cap) (isSlice : Bool) :
    (Instr.sliceBounds isSlice len cap (lo.map ρ) (hi.map ρ) none).run P w = .ok (l, u, cap) w ∧ l ≤ u ∧ u ≤ len := by
  unfold aBounds at hb
  split at hb
  · simp at hb
  · rename_i u' hu
    split at hb
    · simp at hb
    · rename_i l' hl
      simp at hb
      obtain ⟨rfl, rfl⟩ := hb
      have h1 : (∀ code : BoundsCode, (match (hi.map ρ) with | some v => Instr.sliceBound v cap code | none => Pure.pure len : Sem Nat).run P w = .ok u' w) ∧ u' ≤ len := by
        rcases cOpt_spec hhi with ⟨rfl, rfl⟩ | ⟨a, b, rfl, rfl, hab⟩
        · simp at hu; subst hu; exact ⟨fun _ => rfl, Nat.le_refl _⟩
        · simp only [Option.bind_eq_some_iff] at hu
          obtain ⟨v, hv, hu⟩ := hu
          exact ⟨fun code => (bound_sound hu (hρ _ _ _ hab hv) hc).1, (bound_sound (P := P) (w := w) (code := .index) hu (hρ _ _ _ hab hv) hc).2⟩
      have h2 : (∀ code : BoundsCode, (match (lo.map ρ) with | some v => Instr.sliceBound v u' code | none => Pure.pure 0 : Sem Nat).run P w = .ok l' w) ∧ l' ≤ u' := by
        rcases cOpt_spec hlo with ⟨rfl, rfl⟩ | ⟨a, b, rfl, rfl, hab⟩
        · simp at hl; subst hl; exact ⟨fun _ => rfl, Nat.zero_le _⟩
        · simp only [Option.bind_eq_some_iff] at hl
          obtain ⟨v, hv, hl⟩ := hl
          exact ⟨fun code => (bound_sound hl (hρ _ _ _ hab hv) (Nat.le_refl _)).1, (bound_sound (P := P) (w := w) (code := .index) hl (hρ _ _ _ hab hv) (Nat.le_refl _)).2⟩
      refine ⟨?_, h2.2, h1.2⟩
      have e1 := h1.1 (if isSlice then .sliceAcap else .sliceAlen)
      have e2 := h2.1 .sliceB
      unfold Instr.sliceBounds
      cases hhi' : hi.map ρ with
      | none =>
        rw [hhi'] at e1
        simp only [Sem.run_pure, Result.ok.injEq, and_true] at e1
        subst e1
        cases hlo' : lo.map ρ with
        | none => rw [hlo'] at e2; simp at e2; subst e2; simp
        | some v => rw [hlo'] at e2; simp only at e2; simp [e2]
      | some v =>
        rw [hhi'] at e1
        simp only at e1
        cases hlo' : lo.map ρ with
        | none => rw [hlo'] at e2; simp at e2; subst e2; simp [e1]
        | some v => rw [hlo'] at e2; simp only at e2; simp [e1, e2]

end
end
end Go.Proofs.YtkaibjdogeikbaaDoor.Am
