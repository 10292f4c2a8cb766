/- The soundness of code and calls of the abstract machine, part C5: every derivation of the abstract machine is a run of the model. -/
import Derived.Test.YtkaibjdogeikbaaDoorC4
namespace Go.Proofs.YtkaibjdogeikbaaDoor.Am
noncomputable section
open Go.RowKit (Below)

def Ex.conv : Ex → Exit
  | .normal => .normal
  | .exit id => .exit id
  | .ret => .ret

section
variable {P : Program} {w0 : World}

theorem drawInv_any {l : List AOper} {recs : List Rec} {ntmps : Nat} {σ : Fr} {h : AHeap} {n : Nat} {σ' : Fr} {h' : AHeap} {n' : Nat} (hd : SoundDraw P w0 l σ h n recs σ' h' n') (hle : n ≤ n') (hst : staticOk l = true)
    (hap : ∀ i j a b, (i, j) ∈ openPairs l → recs[i]? = some a → recs[j]? = some b → apartHeaps a b) {cops : Array Oper} (hc : cOpers P ntmps true cops cops.toList = some l) (hG : 4096 ≤ n)
    {φ : Phi} {T : TH} {a0 : Act} {Q : Exit → Act → World → Prop}
    (hQ : ∀ φ' T' w' a', Post 4096 w0 φ T h n φ' T' w' h' n' → FrameRel φ' σ' a' → a'.tmps.size = ntmps → a'.defers = a0.defers → Q .normal a' w') :
    ∀ (fuel : Nat) (listed : Array Bool) (a : Act) (w : World) (φ1 : Phi) (T1 : TH), DrawInv l recs w0 ntmps σ h n n' φ T a0 fuel listed a w φ1 T1 → wpAny P .any cops Q fuel listed a w := by
  have hd' := hd
  obtain ⟨d1, d2, d3, d5, d4⟩ := hd'
  obtain ⟨hlen, hget⟩ := cOpers_get hc
  intro fuel
  induction fuel with
  | zero =>
    intro listed a w φ1 T1 inv
    have hall : ∀ i, i < l.length → listed.getD i false = true := by
      intro i hi
      have := inv.count
      rw [List.length_eq_zero_iff, List.filter_eq_nil_iff] at this
      simpa using this i (by simpa using hi)
    refine ⟨?_, ?_⟩
    · unfold Region.ready
      rw [List.filter_eq_nil_iff]
      intro i hi
      have hi' : i < l.length := by rw [hlen]; simpa using hi
      have := hall i hi'
      rw [Array.getD_eq_getD_getElem?] at this ⊢
      have hs : i < listed.size := by rw [inv.size]; exact hi'
      simp [hs] at this ⊢
      simp [this]
    · refine hQ φ1 T1 w a ⟨inv.sat, inv.le, fun i b hb => ?_, inv.frame, inv.fresh, hle, d5⟩ (fun t v hv => ?_) inv.tmps inv.defers
      · refine inv.heap i b ?_
        rw [foldS_all i _ _ _ (fun j hj => hall j (by simpa [d1] using hj)), ← d3]
        exact hb
      · refine inv.slots t v ?_
        rw [foldS_all t _ _ _ (fun j hj => hall j (by simp at hj; omega)), ← d2]
        exact hv
  | succ fuel ih =>
    intro listed a w φ1 T1 inv
    refine ⟨fun hnil => ?_, fun i hi => ?_⟩
    · -- the first one that is not listed is ready
      exfalso
      have hex : ∃ i, i < l.length ∧ listed.getD i false = false := by
        have := inv.count
        have hne : ((List.range l.length).filter fun i => !listed.getD i false) ≠ [] := by
          intro e; rw [e] at this; simp at this
        obtain ⟨x, hx⟩ := List.exists_mem_of_ne_nil _ hne
        simp only [List.mem_filter, List.mem_range, Bool.not_eq_true'] at hx
        exact ⟨x, hx.1, hx.2⟩
      obtain ⟨i, ⟨hi1, hi2⟩, hmin⟩ : ∃ i, (i < l.length ∧ listed.getD i false = false) ∧ ∀ j, j < i → listed.getD j false = true := by
        obtain ⟨x, hx⟩ := hex
        have : ∀ m x, x ≤ m → x < l.length ∧ listed.getD x false = false → ∃ i, (i < l.length ∧ listed.getD i false = false) ∧ ∀ j, j < i → listed.getD j false = true := by
          intro m
          induction m with
          | zero => intro x hx hp; exact ⟨x, hp, fun j hj => by omega⟩
          | succ m ihm =>
            intro x hx hp
            by_cases hall : ∀ j, j < x → listed.getD j false = true
            · exact ⟨x, hp, hall⟩
            · simp only [Classical.not_forall, Bool.not_eq_true] at hall
              obtain ⟨j, hj, hjf⟩ := hall
              exact ihm j (by omega) ⟨by omega, hjf⟩
        exact this x x (Nat.le_refl _) hx
      have hic : i < cops.toList.length := by rw [← hlen]; exact hi1
      have hic' : i < cops.size := by simpa using hic
      obtain ⟨o, ho, hoc⟩ := hget i cops[i] (by simp [hic'])
      obtain ⟨_, _, _, hdd, _⟩ := cOper_spec hoc
      simp only [staticOk, Bool.and_eq_true, List.all_eq_true] at hst
      have hmem : i ∈ Region.ready .any cops listed := by
        unfold Region.ready
        simp only [List.mem_filter, List.mem_range, Bool.and_eq_true, Bool.not_eq_true']
        refine ⟨hic', ?_, ?_⟩
        · rw [Array.getD_eq_getD_getElem?] at hi2 ⊢
          have hs : i < listed.size := by rw [inv.size]; exact hi1
          simp [hs] at hi2 ⊢
          exact hi2
        · simp only [Array.getElem?_eq_getElem hic', Option.map_some, Option.getD_some, Array.all_eq_true_iff_forall_mem]
          intro e he
          cases hb : Region.binds .any e with
          | false => simp
          | true =>
            have hdm : e.on ∈ o.deps := by
              rw [hdd]; simp only [if_true]; exact mem_cDeps.2 ⟨e, by simpa using he, hb, rfl⟩
            have := hst.1 (o, i) (by
              rw [List.mem_iff_getElem?]
              exact ⟨i, by simp [ho]⟩)
            simp only [decide_eq_true_eq] at this
            simpa using hmin e.on (this e.on hdm)
      rw [hnil] at hmem
      cases hmem
    · exact drawInv_step hd hst hap hc hG inv hi fun a' w' φ2 T2 inv' => ih _ a' w' φ2 T2 inv'

def SoundCode (P : Program) (w0 : World) (c : ACode) (σ : Fr) (h : AHeap) (n : Nat) (e : Ex) (σ' : Fr) (h' : AHeap) (n' : Nat) : Prop :=
  ∀ (cc : Code) (ntmps : Nat), cCode P ntmps cc = some c → ∀ φ T w a, Sat 4096 w0 φ T w → Sub h T → Fresh φ T n n' → 4096 ≤ n → FrameRel φ σ a → a.tmps.size = ntmps →
    ∀ (Q : Exit → Act → World → Prop), (∀ φ' T' w' a', Post 4096 w0 φ T h n φ' T' w' h' n' → FrameRel φ' σ' a' → a'.tmps.size = ntmps → a'.defers = a.defers → Q e.conv a' w') → cc.wp P Q a w

theorem cCode_region {ntmps : Nat} {cc : Code} {l : List AOper} {pr : Option (List (Nat × Nat))} (hc : cCode P ntmps cc = some (.region l pr)) : ∃ id cops draw, cc = .region id cops draw ∧ cOpers P ntmps draw cops cops.toList = some l ∧
    ((draw = true ∧ staticOk l = true ∧ pr = some (openPairs l)) ∨ (draw = false ∧ pr = none)) := by
  cases cc <;> simp only [cCode] at hc <;> (try (repeat' split at hc) <;> simp [Option.map_eq_some_iff] at hc; done)
  rename_i id cops draw
  split at hc
  · rename_i l' hl
    split at hc
    · rename_i hd
      split at hc
      · rename_i hst
        simp only [Option.some.injEq, ACode.region.injEq] at hc
        obtain ⟨rfl, rfl⟩ := hc
        exact ⟨id, cops, draw, rfl, hl, .inl ⟨hd, hst, rfl⟩⟩
      · cases hc
    · rename_i hd
      simp only [Option.some.injEq, ACode.region.injEq] at hc
      obtain ⟨rfl, rfl⟩ := hc
      exact ⟨id, cops, draw, rfl, hl, .inr ⟨by simpa using hd, rfl⟩⟩
  · cases hc

theorem regionDraw_sound (hm : P.follows .mixedOrders = true) {l : List AOper} {recs : List Rec} {σ : Fr} {h : AHeap} {n : Nat} {σ' : Fr} {h' : AHeap} {n' : Nat} (hd : SoundDraw P w0 l σ h n recs σ' h' n') (hle : n ≤ n') {ps : List (Nat × Nat)}
    (hap : ∀ i j a b, (i, j) ∈ ps → recs[i]? = some a → recs[j]? = some b → apartHeaps a b) : SoundCode P w0 (.region l (some ps)) σ h n .normal σ' h' n' := by
  intro cc ntmps hc φ T w a hs hh hf hG hfr hsz Q hQ
  obtain ⟨id, cops, draw, rfl, hl, ⟨rfl, hst, he⟩ | ⟨_, he⟩⟩ := cCode_region hc
  case inr => cases he
  obtain rfl := Option.some.inj he
  have hd0 := hd
  obtain ⟨d1, d2, d3, d5, d4⟩ := hd0
  obtain ⟨hlen, _⟩ := cOpers_get hl
  refine wp_region_any hm ?_
  have hsame : SameMem w { w with drawn := w.drawn + 1 } := SameMem.drew _ _
  have hsize : cops.size = l.length := by rw [hlen]; simp
  refine drawInv_any hd hle hst hap hl hG (a0 := a) (fun φ' T' w' a' hp => hQ φ' T' w' a' hp) cops.size _ a _ φ T ?_
  have hfalse : ∀ i, (Array.replicate cops.size false).getD i false = false := by
    intro i
    simp only [Array.getD_eq_getD_getElem?, Array.getElem?_replicate]
    split <;> rfl
  have hfe : (fun i => (Array.replicate cops.size false).getD i false) = fun _ => false := funext hfalse
  refine ⟨by simp [hsize], hs.same hsame, .refl _, fun t v hv => ?_, fun i b hb => ?_, fun i _ _ => rfl, fun i _ hf g => hf g, fun k c hk _ i h1 h2 => ?_, fun k o _ hk => ?_, hsz, rfl, ?_⟩
  · rw [foldS_none t _ _ _ hfalse] at hv; exact hfr t v hv
  · rw [foldS_none i _ _ _ hfalse] at hb; exact hh i b hb
  · obtain ⟨o, ho⟩ : ∃ o, l[k]? = some o := ⟨l[k]'(by have := (List.getElem?_eq_some_iff.1 hk).1; omega), by simp⟩
    obtain ⟨_, s1, s2, s3, _⟩ := d4 k o c ho hk
    exact hf i (by omega) (by omega)
  · simp only [hfalse] at hk; cases hk
  · rw [List.filter_eq_self.2 (fun i _ => by rw [hfalse]; rfl)]
    simp [hsize]

theorem region_sound {l : List AOper} {σ : Fr} {h : AHeap} {n : Nat} {σ' : Fr} {h' : AHeap} {n' : Nat} (hd : SoundOps P w0 l σ h n σ' h' n') : SoundCode P w0 (.region l none) σ h n .normal σ' h' n' := by
  intro cc ntmps hc φ T w a hs hh hf hG hfr hsz Q hQ
  obtain ⟨id, cops, draw, rfl, hl, ⟨_, _, he⟩ | ⟨rfl, _⟩⟩ := cCode_region hc
  case inl => cases he
  exact wp_region_list (hd cops ntmps false cops.toList hl φ T w a hs hh hf hG hfr hsz Q fun φ' T' w' a' hp hfr' hsz' hdf => hQ φ' T' w' a' hp hfr' hsz' hdf)

theorem cCode_seq {ntmps : Nat} {cc : Code} {a b : ACode} (h : cCode P ntmps cc = some (.seq a b)) : ∃ x y, cc = .seq x y ∧ cCode P ntmps x = some a ∧ cCode P ntmps y = some b := by
  cases cc <;> simp only [cCode] at h <;> (try (repeat' split at h) <;> simp [Option.map_eq_some_iff] at h; done)
  split at h
  · rename_i x y hx hy; simp at h; obtain ⟨rfl, rfl⟩ := h; exact ⟨_, _, rfl, hx, hy⟩
  · simp at h
theorem cCode_cond {ntmps : Nat} {cc : Code} {c : X} {a b : ACode} (h : cCode P ntmps cc = some (.cond c a b)) : ∃ o x y, cc = .cond o x y ∧ cX o = some c ∧ cCode P ntmps x = some a ∧ cCode P ntmps y = some b := by
  cases cc <;> simp only [cCode] at h <;> (try (repeat' split at h) <;> simp [Option.map_eq_some_iff] at h; done)
  split at h
  · rename_i o x y ho hx hy; simp at h; obtain ⟨rfl, rfl, rfl⟩ := h; exact ⟨_, _, _, rfl, ho, hx, hy⟩
  · simp at h
theorem cCode_block {ntmps : Nat} {cc : Code} {id : Nat} {a : ACode} (h : cCode P ntmps cc = some (.block id a)) : ∃ x, cc = .block id x ∧ cCode P ntmps x = some a := by
  cases cc <;> simp only [cCode] at h <;> (try (repeat' split at h) <;> simp [Option.map_eq_some_iff] at h; done)
  obtain ⟨x, hx, he⟩ := optmap h
  simp at he
  obtain ⟨rfl, rfl⟩ := he
  exact ⟨_, rfl, hx⟩
theorem cCode_loop {ntmps : Nat} {cc : Code} {a : ACode} (h : cCode P ntmps cc = some (.loop a)) : ∃ x, cc = .loop x ∧ cCode P ntmps x = some a := by
  cases cc <;> simp only [cCode] at h <;> (try (repeat' split at h) <;> simp [Option.map_eq_some_iff] at h; done)
  obtain ⟨x, hx, he⟩ := optmap h
  simp at he
  subst he
  exact ⟨_, rfl, hx⟩
theorem cCode_skip {ntmps : Nat} {cc : Code} (h : cCode P ntmps cc = some .skip) : cc = .skip := by
  cases cc <;> simp only [cCode] at h <;> first | rfl | ((repeat' split at h) <;> simp [Option.map_eq_some_iff] at h; done)
theorem cCode_ret {ntmps : Nat} {cc : Code} (h : cCode P ntmps cc = some .ret) : cc = .ret := by
  cases cc <;> simp only [cCode] at h <;> first | rfl | ((repeat' split at h) <;> simp [Option.map_eq_some_iff] at h; done)
theorem cCode_exit {ntmps : Nat} {cc : Code} {id : Nat} (h : cCode P ntmps cc = some (.exit id)) : cc = .exit id := by
  cases cc <;> simp only [cCode] at h <;> first | (simp at h; subst h; rfl) | ((repeat' split at h) <;> simp [Option.map_eq_some_iff] at h; done)

theorem seq_sound {a b : ACode} {σ : Fr} {h : AHeap} {n : Nat} {σ1 : Fr} {h1 : AHeap} {n1 : Nat} {e : Ex} {σ' : Fr} {h' : AHeap} {n' : Nat} (m1 : n ≤ n1) (m2 : n1 ≤ n') (x : SoundCode P w0 a σ h n .normal σ1 h1 n1)
    (y : SoundCode P w0 b σ1 h1 n1 e σ' h' n') : SoundCode P w0 (.seq a b) σ h n e σ' h' n' := by
  intro cc ntmps hc φ T w ac hs hh hf hG hfr hsz Q hQ
  obtain ⟨cx, cy, rfl, hx, hy⟩ := cCode_seq hc
  refine wp_seq (x cx ntmps hx φ T w ac hs hh (hf.left m2) hG hfr hsz _ fun φ1 T1 w1 a1 hp hfr1 hsz1 hdf => ?_)
  exact y cy ntmps hy φ1 T1 w1 a1 hp.sat hp.sub (hf.right hh hp) (by omega) hfr1 hsz1 Q fun φ2 T2 w2 a2 hp2 hfr2 hsz2 hdf2 => hQ φ2 T2 w2 a2 (hp.trans hp2) hfr2 hsz2 (by rw [hdf2, hdf])

theorem seqStop_sound {a b : ACode} {σ : Fr} {h : AHeap} {n : Nat} {e : Ex} {σ' : Fr} {h' : AHeap} {n' : Nat} (x : SoundCode P w0 a σ h n e σ' h' n') (he : e ≠ .normal) : SoundCode P w0 (.seq a b) σ h n e σ' h' n' := by
  intro cc ntmps hc φ T w ac hs hh hf hG hfr hsz Q hQ
  obtain ⟨cx, cy, rfl, hx, hy⟩ := cCode_seq hc
  refine wp_seq (x cx ntmps hx φ T w ac hs hh hf hG hfr hsz _ fun φ1 T1 w1 a1 hp hfr1 hsz1 hdf => ?_)
  have := hQ φ1 T1 w1 a1 hp hfr1 hsz1 hdf
  cases e <;> first | exact absurd rfl he | exact this

theorem cond_sound {c : X} {a b : ACode} {σ : Fr} {h : AHeap} {n : Nat} {t : Bool} {e : Ex} {σ' : Fr} {h' : AHeap} {n' : Nat} (pc : X.ev σ h c = some (.bool t)) (x : SoundCode P w0 (if t then a else b) σ h n e σ' h' n') :
    SoundCode P w0 (.cond c a b) σ h n e σ' h' n' := by
  intro cc ntmps hc φ T w ac hs hh hf hG hfr hsz Q hQ
  obtain ⟨o, cx, cy, rfl, ho, hx, hy⟩ := cCode_cond hc
  have hr := hfr.rho hs hh o c _ ho pc
  have hev : ac.eval o = .bool t := hr.eq_of_scalar rfl
  refine wp_cond hev ?_
  refine x (if t then cx else cy) ntmps ?_ φ T w ac hs hh hf hG hfr hsz Q hQ
  cases t <;> assumption

theorem block_sound {id : Nat} {c : ACode} {σ : Fr} {h : AHeap} {n : Nat} {e : Ex} {σ' : Fr} {h' : AHeap} {n' : Nat} (x : SoundCode P w0 c σ h n e σ' h' n') (he : e ≠ .exit id) : SoundCode P w0 (.block id c) σ h n e σ' h' n' := by
  intro cc ntmps hc φ T w ac hs hh hf hG hfr hsz Q hQ
  obtain ⟨cx, rfl, hx⟩ := cCode_block hc
  refine wp_block (x cx ntmps hx φ T w ac hs hh hf hG hfr hsz _ fun φ1 T1 w1 a1 hp hfr1 hsz1 hdf => ?_)
  have := hQ φ1 T1 w1 a1 hp hfr1 hsz1 hdf
  cases e with
  | normal => exact this
  | ret => exact this
  | exit id' =>
    have hne : id' ≠ id := fun h => he (by rw [h])
    simp only [Ex.conv, Exit.inBlock, if_neg hne] at this ⊢
    exact this

theorem blockExit_sound {id : Nat} {c : ACode} {σ : Fr} {h : AHeap} {n : Nat} {σ' : Fr} {h' : AHeap} {n' : Nat} (x : SoundCode P w0 c σ h n (.exit id) σ' h' n') : SoundCode P w0 (.block id c) σ h n .normal σ' h' n' := by
  intro cc ntmps hc φ T w ac hs hh hf hG hfr hsz Q hQ
  obtain ⟨cx, rfl, hx⟩ := cCode_block hc
  refine wp_block (x cx ntmps hx φ T w ac hs hh hf hG hfr hsz _ fun φ1 T1 w1 a1 hp hfr1 hsz1 hdf => ?_)
  have := hQ φ1 T1 w1 a1 hp hfr1 hsz1 hdf
  simp only [Ex.conv, Exit.inBlock, if_true] at this ⊢
  exact this

end
end
end Go.Proofs.YtkaibjdogeikbaaDoor.Am
