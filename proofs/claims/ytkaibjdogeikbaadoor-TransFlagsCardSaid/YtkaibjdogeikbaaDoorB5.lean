/- The soundness of the operations of the abstract machine, part B5. -/
import Derived.Test.YtkaibjdogeikbaaDoorB4
namespace Go.Proofs.YtkaibjdogeikbaaDoor.Am
noncomputable section
open Go.RowKit (Below)

section
variable {P : Program} {G : Nat} {w0 : World} {φ : Phi} {T : TH} {w : World} {h : AHeap} {n : Nat} {σ : Fr} {ρ : Operand → Value}

theorem cX_map {x : Operand} {f : X → AOp} {a : AOp} (h : (cX x).map f = some a) : ∃ y, cX x = some y ∧ a = f y := by
  simp only [Option.map_eq_some_iff] at h
  obtain ⟨y, hy, rfl⟩ := h
  exact ⟨y, hy, rfl⟩

theorem OpDoes.of_value (hs : Sat G w0 φ T w) (hh : Sub h T) {s : Sem Value} {v u : Value} (hr : s.run P w = .ok u w) (hv : VRel φ v u) :
    OpDoes P G w0 φ T w h n (do Pure.pure (.value (← s))) v h n := .pure hs hh (by simp [hr]) hv
theorem OpDoes.of_new {s : Sem Value} {v u : Value} {φ' : Phi} {T' : TH} {w' : World} {h' : AHeap} {n' : Nat} (hr : s.run P w = .ok u w') (hv : VRel φ' v u) (hp : Post G w0 φ T h n φ' T' w' h' n') :
    OpDoes P G w0 φ T w h n (do Pure.pure (.value (← s))) v h' n' := ⟨.value u, u, φ', T', w', by simp [hr], rfl, hv, hp⟩

theorem optmap {α β : Type} {x : Option α} {f : α → β} {b : β} (h : x.map f = some b) : ∃ a, x = some a ∧ f a = b := by simpa [Option.map_eq_some_iff] using h

theorem isConst_lit {x y : Operand} {lit : Bool} (h : lit = false ∨ lit = (isConst x || isConst y)) : lit = true → (isConst x || isConst y) = true := by
  intro hl; rcases h with h | h
  · rw [h] at hl; cases hl
  · rw [← h]; exact hl

theorem cBin_sound (hs : Sat G w0 φ T w) (hh : Sub h T) (hρ : RhoRel φ σ h ρ) {op : BinOp} {t : TypeId} {x y : Operand} {a : AOp} (hc : cBin P op t x y = some a) {v : Value} {h' : AHeap} {n' : Nat}
    (ha : aev (X.ev σ h) h n a = some (v, h', n')) : OpDoes P G w0 φ T w h n (do Pure.pure (.value (← (do eqGuard op t x y (ρ x) (ρ y); binOp op t (ρ x) (ρ y) : Sem Value)))) v h' n' := by
  unfold cBin at hc
  split at hc
  rotate_left
  · simp at hc
  rename_i x' y' d hx hy hd
  have hbin : ∀ v, aev (X.ev σ h) h n (.bin op x' y') = some (v, h', n') → OpDoes P G w0 φ T w h n (do Pure.pure (.value (← (do eqGuard op t x y (ρ x) (ρ y); binOp op t (ρ x) (ρ y) : Sem Value)))) v h' n' := by
    intro v ha
    simp only [aev] at ha
    split at ha
    · rename_i p q hp hq
      obtain ⟨v', hv', he⟩ := optmap ha
      simp at he
      obtain ⟨rfl, rfl, rfl⟩ := he
      have h1 := hρ _ _ _ hx hp
      have h2 := hρ _ _ _ hy hq
      have hsc : scalar p = true ∧ scalar q = true ∧ scalar v' = true := by
        unfold aBin at hv'
        split at hv'
        · refine ⟨rfl, rfl, ?_⟩
          split at hv'
          · unfold aShift at hv'; split at hv' <;> simp at hv'; subst hv'; rfl
          · unfold aShift at hv'; split at hv' <;> simp at hv'; subst hv'; rfl
          · split at hv'
            · rename_i hk _; cases op <;> simp only [aIntOp] at hv' <;> (try split at hv') <;> (try (simp at hv'; done)) <;> (obtain rfl := Option.some.inj hv') <;> rfl
            · simp at hv'
        · refine ⟨rfl, rfl, ?_⟩
          cases op <;> simp only [aStrOp] at hv' <;> (try split at hv') <;> (try (simp at hv'; done)) <;> (obtain rfl := Option.some.inj hv') <;> rfl
        · simp at hv'
      rw [h1.eq_of_scalar hsc.1, h2.eq_of_scalar hsc.2.1]
      exact .of_value hs hh (aBin_sound hv' t x y) (.of_scalar hsc.2.2)
    · simp at ha
  have heqv : ∀ (k : Rk) (neg : Bool) (lit : Bool) (v : Value), aev (X.ev σ h) h n (.eqv neg k lit x' y') = some (v, h', n') → rkD k d = true → (∀ e, d = .pointer e → ∃ s, sz P e = some s ∧ s ≠ 0) →
      (lit = false ∨ lit = (isConst x || isConst y)) → (neg = false ∧ op = .eql ∨ neg = true ∧ op = .neq) →
      OpDoes P G w0 φ T w h n (do Pure.pure (.value (← (do eqGuard op t x y (ρ x) (ρ y); binOp op t (ρ x) (ρ y) : Sem Value)))) v h' n' := by
    intro k neg lit v ha hk hp hl hop
    simp only [aev] at ha
    split at ha
    · rename_i p q hpv hqv
      obtain ⟨r, hr, he⟩ := optmap ha
      simp only [Prod.mk.injEq] at he
      obtain ⟨rfl, rfl, rfl⟩ := he
      have h1 := hρ _ _ _ hx hpv
      have h2 := hρ _ _ _ hy hqv
      have hg := eqGuard_rel (P := P) (w := w) op t x y k h1 h2 hr (isConst_lit hl)
      have he := aEqv_sound (P := P) (w := w) hd hk hp h1 h2 hr
      have hb := eqv_bin (P := P) (w := w) op (by rcases hop with ⟨_, h⟩ | ⟨_, h⟩ <;> simp [h]) t h1 h2 hr he
      refine .of_value hs hh (u := .bool (if neg = true then !r else r)) ?_ (.bool _)
      simp only [Sem.run_bind, hg, Result.andThen_ok, hb]
      rcases hop with ⟨rfl, rfl⟩ | ⟨rfl, rfl⟩ <;> rfl
    · simp at ha
  have hagg : ∀ (ls : List Leaf) (neg : Bool) (v : Value), aev (X.ev σ h) h n (.eqAgg neg ls x' y') = some (v, h', n') → isAggD d = true → P.eqGuardType P.depth t = false → leaves P 40 t = some ls →
      (neg = false ∧ op = .eql ∨ neg = true ∧ op = .neq) →
      OpDoes P G w0 φ T w h n (do Pure.pure (.value (← (do eqGuard op t x y (ρ x) (ρ y); binOp op t (ρ x) (ρ y) : Sem Value)))) v h' n' := by
    intro ls neg v ha hag hgt hls hop
    simp only [aev] at ha
    split at ha
    · rename_i p q hpv hqv
      obtain ⟨r, hr, he⟩ := optmap ha
      simp only [Prod.mk.injEq] at he
      obtain ⟨rfl, rfl, rfl⟩ := he
      have h1 := hρ _ _ _ hx hpv
      have h2 := hρ _ _ _ hy hqv
      refine .of_value hs hh (u := .bool (if neg = true then !r else r)) ?_ (.bool _)
      rw [eqAgg_sound hd hag hgt hls h1 h2 hr (by rcases hop with ⟨_, h⟩ | ⟨_, h⟩ <;> simp [h])]
      rcases hop with ⟨rfl, rfl⟩ | ⟨rfl, rfl⟩ <;> rfl
    · simp at ha
  have hnp : ∀ e, d = .pointer e → d = .pointer e := fun _ h => h
  split at hc
  · simp at hc; subst hc; exact hbin v ha
  · simp at hc; subst hc; exact hbin v ha
  · split at hc
    · rename_i ho; simp at hc; subst hc; exact heqv .bool false false v ha rfl (fun e he => by cases he) (.inl rfl) (.inl ⟨rfl, ho⟩)
    · split at hc
      · rename_i ho; simp at hc; subst hc; exact heqv .bool true false v ha rfl (fun e he => by cases he) (.inl rfl) (.inr ⟨rfl, ho⟩)
      · simp at hc
  · rename_i e
    split at hc
    · rename_i hsz
      have hp : ∀ e', (TypeDesc.pointer e) = .pointer e' → ∃ s, sz P e' = some s ∧ s ≠ 0 := by
        intro e' he'
        obtain rfl : e = e' := by simpa using he'
        obtain ⟨s, hs'⟩ := Option.isSome_iff_exists.1 hsz.2
        exact ⟨s, hs', fun h0 => hsz.1 (by rw [hs', h0])⟩
      split at hc
      · rename_i ho; simp at hc; subst hc; exact heqv .ptr false false v ha rfl hp (.inl rfl) (.inl ⟨rfl, ho⟩)
      · split at hc
        · rename_i ho; simp at hc; subst hc; exact heqv .ptr true false v ha rfl hp (.inl rfl) (.inr ⟨rfl, ho⟩)
        · simp at hc
    · simp at hc
  · split at hc
    · rename_i ho; simp at hc; subst hc; exact heqv .slice false false v ha rfl (fun e he => by cases he) (.inl rfl) (.inl ⟨rfl, ho⟩)
    · split at hc
      · rename_i ho; simp at hc; subst hc; exact heqv .slice true false v ha rfl (fun e he => by cases he) (.inl rfl) (.inr ⟨rfl, ho⟩)
      · simp at hc
  · split at hc
    · rename_i ho; simp at hc; subst hc; exact heqv .map false false v ha rfl (fun e he => by cases he) (.inl rfl) (.inl ⟨rfl, ho⟩)
    · split at hc
      · rename_i ho; simp at hc; subst hc; exact heqv .map true false v ha rfl (fun e he => by cases he) (.inl rfl) (.inr ⟨rfl, ho⟩)
      · simp at hc
  · split at hc
    · rename_i ho; simp at hc; subst hc; exact heqv .func false false v ha rfl (fun e he => by cases he) (.inl rfl) (.inl ⟨rfl, ho⟩)
    · split at hc
      · rename_i ho; simp at hc; subst hc; exact heqv .func true false v ha rfl (fun e he => by cases he) (.inl rfl) (.inr ⟨rfl, ho⟩)
      · simp at hc
  · split at hc
    · rename_i ho; simp only [Option.some.injEq] at hc; subst hc; exact heqv .iface false _ v ha rfl (fun e he => by cases he) (.inr rfl) (.inl ⟨rfl, ho⟩)
    · split at hc
      · rename_i ho; simp only [Option.some.injEq] at hc; subst hc; exact heqv .iface true _ v ha rfl (fun e he => by cases he) (.inr rfl) (.inr ⟨rfl, ho⟩)
      · simp at hc
  · split at hc
    · simp at hc
    · rename_i hgt
      split at hc
      · rename_i ls hls
        split at hc
        · rename_i ho; simp at hc; subst hc; exact hagg ls false v ha rfl (by simpa using hgt) hls (.inl ⟨rfl, ho⟩)
        · split at hc
          · rename_i ho; simp at hc; subst hc; exact hagg ls true v ha rfl (by simpa using hgt) hls (.inr ⟨rfl, ho⟩)
          · simp at hc
      · simp at hc
  · split at hc
    · simp at hc
    · rename_i hgt
      split at hc
      · rename_i ls hls
        split at hc
        · rename_i ho; simp at hc; subst hc; exact hagg ls false v ha rfl (by simpa using hgt) hls (.inl ⟨rfl, ho⟩)
        · split at hc
          · rename_i ho; simp at hc; subst hc; exact hagg ls true v ha rfl (by simpa using hgt) hls (.inr ⟨rfl, ho⟩)
          · simp at hc
      · simp at hc
  · simp at hc

end
end
end Go.Proofs.YtkaibjdogeikbaaDoor.Am
