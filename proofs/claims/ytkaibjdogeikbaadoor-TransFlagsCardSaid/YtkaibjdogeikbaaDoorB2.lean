/- The soundness of the operations of the abstract machine, part B2. -/
import Derived.Test.YtkaibjdogeikbaaDoorB1
namespace Go.Proofs.YtkaibjdogeikbaaDoor.Am
noncomputable section
open Go.RowKit (Below)

section
variable {P : Program} {G : Nat} {w0 : World} {φ : Phi} {T : TH} {w : World} {h : AHeap} {n : Nat} {σ : Fr} {ρ : Operand → Value}

theorem copy_sound (hs : Sat G w0 φ T w) (hh : Sub h T) {ts : Array TypeId} {e : TypeId} (h0 : P.underlying (ts.getD 0 0) = some (.slice e)) (hts : ts.size = 2) {esz : Nat} (hsz : sz P e = some esz)
    {d x d' x' v : Value} {h' : AHeap} {n' : Nat} {t : TypeId} (ha : aCopy h n esz d' x' = some (v, h', n')) (hdr : VRel φ d' d) (hxr : VRel φ x' x) :
    ∃ φ' T' w', (Builtin.copy_ ts t #[d, x]).run P w = .ok v w' ∧ Post G w0 φ T h n φ' T' w' h' n' ∧ scalar v = true := by
  have g0 : ts[0]? = some (ts.getD 0 0) := by simp [hts]
  unfold aCopy at ha
  split at ha
  · simp at ha
  · rename_i m vs he
    obtain ⟨hlen, hvlen, hone, _⟩ := elems_sound (P := P) hs hh he hxr
    split at ha
    · simp at ha
      obtain ⟨rfl, rfl, rfl⟩ := ha
      cases hdr
      obtain ⟨us, hus, hfirst⟩ := elems_sound' (P := P) hs hh he hxr (Nat.zero_le m)
      refine ⟨φ, T, w, ?_, .refl hs hh, rfl⟩
      unfold Builtin.copy_
      simp only [g0, List.getElem?_toArray, List.getElem?_cons_zero, List.getElem?_cons_succ, Sem.run_bind, run_underlying' h0, Result.andThen_ok, Sem.run_pure, hlen, run_sizeOf' hsz, Nat.min_def, Nat.le_zero_eq]
      split
      · rename_i hm0; subst hm0; rw [hfirst w (.refl w)]; rfl
      · rw [hfirst w (.refl w)]; rfl
    · rename_i b o g len k
      cases hdr with
      | slice i o g len k lc a c hl hn ha' hk =>
        obtain ⟨us, hus, hfirst⟩ := elems_sound' (P := P) hs hh he hxr (Nat.min_le_left m len)
        split at ha
        · rename_i hm0
          simp at ha
          obtain ⟨rfl, rfl, rfl⟩ := ha
          refine ⟨φ, T, w, ?_, .refl hs hh, rfl⟩
          have hus0 : us = [] := by
            have : us.length = 0 := by rw [← hus.length, hm0]; simp
            exact List.length_eq_zero_iff.1 this
          rw [hm0] at hfirst
          subst hus0
          unfold Builtin.copy_
          simp only [g0, List.getElem?_toArray, List.getElem?_cons_zero, List.getElem?_cons_succ, Sem.run_bind, run_underlying' h0, Result.andThen_ok, Sem.run_pure, hlen, run_sizeOf' hsz]
          rw [show Nat.min m len = 0 from hm0]
          simp only [hfirst w (.refl w), Result.andThen_ok]
          rfl
        · rename_i hm0
          split at ha
          · rename_i h1 hw
            simp at ha
            obtain ⟨rfl, rfl, rfl⟩ := ha
            have hc : a = ⟨lc.block, lc.off + o, none⟩ := by
              rcases ha' with h | h
              · have := Nat.min_le_right m len; omega
              · exact h
            subst hc
            have hone' : (vs.take (min m len * esz)).all Value.oneCell' = true := by
              simp only [List.all_eq_true] at hone ⊢
              exact fun v hv => hone v (List.mem_of_mem_take hv)
            obtain ⟨φ', T', w', hst, hp⟩ := write_sound (P := P) (n := n) hs hh hw hl hus hone'
            refine ⟨φ', T', w', ?_, hp, rfl⟩
            unfold Builtin.copy_
            simp only [g0, List.getElem?_toArray, List.getElem?_cons_zero, List.getElem?_cons_succ, Sem.run_bind, run_underlying' h0, Result.andThen_ok, Sem.run_pure, hlen, run_sizeOf' hsz]
            rw [show Nat.min m len = min m len from rfl]
            simp only [hfirst w (.refl w), Result.andThen_ok, hst, goInt]
          · simp at ha
    · simp at ha

theorem min_sound {ts : Array TypeId} {t : TypeId} {vs us : List Value} {v : Value} (h : aMin vs = some v) (hr : VRels φ vs us) : (Builtin.min_ ts t us.toArray).run P w = .ok v w ∧ scalar v = true := by
  have key : ∀ (k : IntKind) (vs us : List Value) (x : Int) (v : Value), aMinFrom k x vs = some v → VRels φ vs us → (us.foldlM Builtin.min2 (.int k x)).run P w = .ok v w ∧ scalar v = true := by
    intro k vs
    induction vs with
    | nil => intro us x v h hr; cases hr; simp [aMinFrom] at h; subst h; exact ⟨rfl, rfl⟩
    | cons y vs ih =>
      intro us x v h hr
      cases hr with
      | cons hy ht =>
        cases y <;> simp only [aMinFrom] at h <;> (try (simp at h; done))
        split at h
        · rename_i hk; subst hk
          cases hy
          simp only [List.foldlM_cons, Sem.run_bind, Builtin.min2, Sem.run_pure, Result.andThen_ok]
          exact ih _ _ _ h ht
        · simp at h
  cases hr with
  | nil => simp [aMin] at h
  | cons hx ht =>
    rename_i x y xs ys
    cases x <;> simp only [aMin] at h <;> (try (simp at h; done))
    cases hx
    exact key _ _ _ _ _ h ht

theorem max_sound {ts : Array TypeId} {t : TypeId} {vs us : List Value} {v : Value} (h : aMax vs = some v) (hr : VRels φ vs us) : (Builtin.max_ ts t us.toArray).run P w = .ok v w ∧ scalar v = true := by
  have key : ∀ (k : IntKind) (vs us : List Value) (x : Int) (v : Value), aMaxFrom k x vs = some v → VRels φ vs us → (us.foldlM Builtin.max2 (.int k x)).run P w = .ok v w ∧ scalar v = true := by
    intro k vs
    induction vs with
    | nil => intro us x v h hr; cases hr; simp [aMaxFrom] at h; subst h; exact ⟨rfl, rfl⟩
    | cons y vs ih =>
      intro us x v h hr
      cases hr with
      | cons hy ht =>
        cases y <;> simp only [aMaxFrom] at h <;> (try (simp at h; done))
        split at h
        · rename_i hk; subst hk
          cases hy
          simp only [List.foldlM_cons, Sem.run_bind, Builtin.max2, Sem.run_pure, Result.andThen_ok]
          exact ih _ _ _ h ht
        · simp at h
  cases hr with
  | nil => simp [aMax] at h
  | cons hx ht =>
    rename_i x y xs ys
    cases x <;> simp only [aMax] at h <;> (try (simp at h; done))
    cases hx
    exact key _ _ _ _ _ h ht

/- ---------------------------------------------------------------- rows of zeros; parts laid -/

theorem repeatCells_length (z : List Value) (k : Nat) : (repeatCells z k).length = k * z.length := by
  induction k with
  | zero => simp [repeatCells]
  | succ k ih => simp [repeatCells, ih, Nat.add_mul]; omega
theorem repeatCells_get (z : List Value) (k i : Nat) (hi : i < k * z.length) : (repeatCells z k)[i]? = z[i % z.length]? := by
  induction k generalizing i with
  | zero => simp at hi
  | succ k ih =>
    simp only [repeatCells]
    by_cases h : i < z.length
    · rw [List.getElem?_append_left h, Nat.mod_eq_of_lt h]
    · rw [List.getElem?_append_right (by omega), ih _ (by rw [Nat.add_mul] at hi; omega)]
      congr 1
      rw [Nat.mod_eq_sub_mod (by omega : i ≥ z.length)]
theorem zeroRow_take (z : Array Value) (k c : Nat) (hk : k ≤ c) (hz : 0 < z.size) :
    (((Array.range (c * z.size)).map (z[· % z.size]!)).toList).take (repeatCells z.toList k).length = repeatCells z.toList k := by
  apply List.ext_getElem?
  intro i
  rw [List.getElem?_take, repeatCells_length]
  simp only [Array.length_toList]
  split
  · rename_i hi
    rw [repeatCells_get _ _ _ (by simpa using hi)]
    have hlt : i < c * z.size := Nat.lt_of_lt_of_le hi (Nat.mul_le_mul_right _ hk)
    have hmod : i % z.size < z.size := Nat.mod_lt _ hz
    simp [hlt, hmod]
  · rename_i hi
    rw [List.getElem?_eq_none]
    rw [repeatCells_length]
    simpa using hi

theorem foldl_set (vs : List Value) : ∀ (cs : Array Value) (off i : Nat), off + i + vs.length ≤ cs.size →
    (vs.zipIdx i).foldl (fun cs (c, j) => cs.setIfInBounds (off + j) c) cs = spliceA cs (off + i) vs := by
  induction vs with
  | nil => intro cs off i _; simp [spliceA, splice_nil]
  | cons v vs ih =>
    intro cs off i h
    simp only [List.length_cons] at h
    simp only [List.zipIdx_cons, List.foldl_cons]
    rw [ih _ _ _ (by simp; omega)]
    unfold spliceA
    rw [splice_cons _ _ _ _ (by simp; omega)]
    simp [Nat.add_assoc]

theorem fill_sound {ρ' : X → Option Value} (hρ : ∀ x x' v, cX x = some x' → ρ' x' = some v → VRel φ v (ρ x)) (place : Nat → Option (Nat × Nat)) :
    ∀ (parts : List (Nat × Operand)) (qs : List (Nat × Nat × X)) (cells cs : List Value) (ds : Array Value), cParts place parts = some qs → aFill ρ' cells qs = some cs → VRels φ cells ds.toList →
      cells.all Value.oneCell' = true →
      ∃ es, Instr.fill place ds (parts.map fun (i, x) => (i, ρ x)) = some es ∧ VRels φ cs es.toList ∧ cs.all Value.oneCell' = true ∧ cs.length = cells.length
  | [], qs, cells, cs, ds, hq, ha, hr, ho => by
    simp [cParts] at hq; subst hq; simp [aFill] at ha; subst ha; exact ⟨ds, rfl, hr, ho, rfl⟩
  | (i, x) :: parts, qs, cells, cs, ds, hq, ha, hr, ho => by
    simp only [cParts] at hq
    split at hq
    · rename_i off size y r hp hy hrest
      simp at hq
      subst hq
      simp only [aFill] at ha
      split at ha
      · simp at ha
      · rename_i v hv
        split at ha
        · rename_i hc
          obtain ⟨h1, h2, h3⟩ := hc
          have hvr := hρ _ _ _ hy hv
          have hcells := hvr.cells
          have hl := hcells.length
          have hl2 := hr.length
          simp only [Array.length_toList] at hl hl2
          have hsp : VRels φ (splice cells off v.cells.toList) (spliceA ds off (ρ x).cells.toList).toList := by
            simp only [spliceA, splice]
            have hh : ((ρ x).cells.toList).length = (v.cells.toList).length := by simp [hl]
            rw [hh]
            exact ((hr.take _).append hcells).append (hr.drop _)
          have hone := hvr.oneCells h3
          have ho' : (splice cells off v.cells.toList).all Value.oneCell' = true := by
            simp only [splice, List.all_append, Bool.and_eq_true]
            simp only [List.all_eq_true] at ho hone ⊢
            exact ⟨⟨fun v hv => ho v (List.mem_of_mem_take hv), hone⟩, fun v hv => ho v (List.mem_of_mem_drop hv)⟩
          obtain ⟨es, he1, he2, he3, he4⟩ := fill_sound hρ place parts r _ cs _ hrest ha hsp ho'
          refine ⟨es, ?_, he2, he3, by rw [he4, splice_length (by simp; omega)]⟩
          simp only [List.map_cons, Instr.fill, hp]
          rw [if_neg (by simp; omega)]
          have := foldl_set (ρ x).cells.toList ds off 0 (by simp; omega)
          rw [← he1]
          congr 1
          rw [← Array.foldl_toList, Array.toList_zipIdx]
          exact this
        · simp at ha
    · simp at hq

end
end
end Go.Proofs.YtkaibjdogeikbaaDoor.Am
