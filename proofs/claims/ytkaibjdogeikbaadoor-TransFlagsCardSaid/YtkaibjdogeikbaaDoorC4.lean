/- The soundness of code and calls of the abstract machine, part C4: every derivation of the abstract machine is a run of the model. -/
import Derived.Test.YtkaibjdogeikbaaDoorC3
namespace Go.Proofs.YtkaibjdogeikbaaDoor.Am
noncomputable section
open Go.RowKit (Below)

/-- S is closed: with an operation, all that it waits for. -/
def Closed (l : List AOper) (S : Nat → Bool) : Prop := ∀ k o, l[k]? = some o → S k = true → ∀ d, d ∈ o.deps → S d = true

theorem ancOf_mem {acc : List Nat} {i : Nat} : ∀ {l : List Nat}, (ancOf acc l).testBit i = true → i ∈ l ∨ ∃ k, k ∈ l ∧ (acc.getD k 0).testBit i = true
  | [], h => by simp [ancOf] at h
  | d :: ds, h => by
    simp only [ancOf, Nat.testBit_or, Nat.testBit_two_pow, Bool.or_eq_true, decide_eq_true_eq] at h
    rcases h with rfl | h | h
    · exact .inl (.head _)
    · exact .inr ⟨d, .head _, h⟩
    · rcases ancOf_mem h with h | ⟨k, hk, h⟩
      · exact .inl (.tail _ h)
      · exact .inr ⟨k, .tail _ hk, h⟩

theorem ancTab_spec (full : List AOper) : ∀ (os pre : List AOper) (acc : List Nat), full = pre ++ os → acc.length = pre.length →
    (∀ j o, full[j]? = some o → j < acc.length → ∀ S : Nat → Bool, Closed full S → (∀ d, d ∈ o.deps → S d = true) → ∀ i, (acc.getD j 0).testBit i = true → S i = true) →
    (ancTab os acc).length = full.length ∧ ∀ j o, full[j]? = some o → ∀ S : Nat → Bool, Closed full S → (∀ d, d ∈ o.deps → S d = true) → ∀ i, ((ancTab os acc).getD j 0).testBit i = true → S i = true
  | [], pre, acc, hf, hl, h => by
    simp at hf
    subst hf
    refine ⟨hl, fun j o ho S hS hd i hi => h j o ho ?_ S hS hd i hi⟩
    rw [hl]; exact (List.getElem?_eq_some_iff.1 ho).1
  | o :: os, pre, acc, hf, hl, h => by
    simp only [ancTab]
    refine ancTab_spec full os (pre ++ [o]) _ (by simp [hf]) (by simp [hl]) (fun j o' ho' hj S hS hd i hi => ?_)
    simp only [List.length_append, List.length_cons, List.length_nil] at hj
    by_cases hjl : j < acc.length
    · rw [List.getD_eq_getElem?_getD, List.getElem?_append_left hjl, ← List.getD_eq_getElem?_getD] at hi
      exact h j o' ho' hjl S hS hd i hi
    · have hje : j = acc.length := by omega
      subst hje
      rw [List.getD_eq_getElem?_getD, List.getElem?_append_right (by omega)] at hi
      simp only [Nat.sub_self, List.getElem?_cons_zero, Option.getD_some] at hi
      have hoo : o' = o := by
        rw [hf, hl, List.getElem?_append_right (by omega)] at ho'
        simpa using ho'.symm
      subst hoo
      rcases ancOf_mem hi with hi | ⟨k, hk, hik⟩
      · exact hd i hi
      · by_cases hkl : k < acc.length
        · obtain ⟨ok, hok⟩ : ∃ ok, full[k]? = some ok := ⟨full[k]'(by rw [hf]; simp; omega), by simp⟩
          exact h k ok hok hkl S hS (fun d hd' => hS k ok hok (hd k hk) d hd') i hik
        · rw [List.getD_eq_getElem?_getD, List.getElem?_eq_none (by omega)] at hik
          simp at hik

theorem anc_closed {l : List AOper} {S : Nat → Bool} (hS : Closed l S) {j : Nat} {o : AOper} (ho : l[j]? = some o) (hd : ∀ d, d ∈ o.deps → S d = true) {i : Nat} (hi : ((ancTab l []).getD j 0).testBit i = true) : S i = true :=
  (ancTab_spec l l [] [] rfl rfl (fun j o _ hj => by simp at hj)).2 j o ho S hS hd i hi

theorem mem_openPairs {l : List AOper} {i j : Nat} (hij : i < j) (hj : j < l.length) (h : ¬((ancTab l []).getD j 0).testBit i = true) : (i, j) ∈ openPairs l := by
  unfold openPairs
  refine List.mem_flatMap.2 ⟨j, by simpa using hj, List.mem_filterMap.2 ⟨i, by simpa using hij, ?_⟩⟩
  rw [if_neg h]

section
variable {P : Program} {w0 : World}

theorem cOpers_get {cops : Array Oper} {ntmps : Nat} {draw : Bool} : ∀ {cl : List Oper} {l : List AOper}, cOpers P ntmps draw cops cl = some l → l.length = cl.length ∧ ∀ (k : Nat) (co : Oper), cl[k]? = some co → ∃ o : AOper, l[k]? = some o ∧ cOper P ntmps draw cops co = some o
  | [], l, h => by simp [cOpers] at h; subst h; exact ⟨rfl, fun k co hk => by simp at hk⟩
  | c :: cl, l, h => by
    simp only [cOpers] at h
    split at h
    · rename_i o l' ho hl
      simp at h
      subst h
      obtain ⟨h1, h2⟩ := cOpers_get hl
      refine ⟨by simp [h1], fun k co hk => ?_⟩
      cases k with
      | zero => simp at hk; subst hk; exact ⟨o, by simp, ho⟩
      | succ k => simp at hk; obtain ⟨o', h3, h4⟩ := h2 k co hk; exact ⟨o', by simpa using h3, h4⟩
    · simp at h

theorem mem_cDeps {es : List Edge} {d : Nat} : d ∈ cDeps es ↔ ∃ e, e ∈ es ∧ Region.binds .any e = true ∧ e.on = d := by
  unfold cDeps
  rw [List.mem_filterMap]
  constructor
  · rintro ⟨e, he, h⟩
    split at h
    · rename_i hb; exact ⟨e, he, hb, by simpa using h⟩
    · cases h
  · rintro ⟨e, he, hb, rfl⟩
    exact ⟨e, he, by rw [if_pos hb]⟩

structure DrawInv (l : List AOper) (recs : List Rec) (w0 : World) (ntmps : Nat) (σ : Fr) (h : AHeap) (n n' : Nat) (φ : Phi) (T : TH) (a0 : Act) (fuel : Nat) (listed : Array Bool) (a : Act) (w : World) (φ1 : Phi) (T1 : TH) : Prop where
  size : listed.size = l.length
  sat : Sat 4096 w0 φ1 T1 w
  le : Phi.Le φ φ1
  slots : ∀ t v, foldS (List.zipWith wSlot l recs) (fun i => listed.getD i false) σ.get t = some v → ∃ u, a.tmps[t]? = some u ∧ VRel φ1 v u
  heap : ∀ i b, foldS (recs.map wHeap) (fun i => listed.getD i false) h.get i = some b → T1 i = some b
  frame : ∀ i, h.get i = none → ¬(n ≤ i ∧ i < n') → T1 i = T i
  fresh : ∀ i, ¬(n ≤ i ∧ i < n') → (∀ g, φ i g = none) → ∀ g, φ1 i g = none
  pend : ∀ k c, recs[k]? = some c → listed.getD k false = false → Fresh φ1 T1 c.n c.n'
  closed : Closed l (fun i => listed.getD i false)
  tmps : a.tmps.size = ntmps
  defers : a.defers = a0.defers
  count : ((List.range l.length).filter fun i => !listed.getD i false).length = fuel

theorem drawInv_step {l : List AOper} {recs : List Rec} {ntmps : Nat} {σ : Fr} {h : AHeap} {n : Nat} {σ' : Fr} {h' : AHeap} {n' : Nat} (hd : SoundDraw P w0 l σ h n recs σ' h' n') (hst : staticOk l = true)
    (hap : ∀ i j a b, (i, j) ∈ openPairs l → recs[i]? = some a → recs[j]? = some b → apartHeaps a b) {cops : Array Oper} (hc : cOpers P ntmps true cops cops.toList = some l) (hG : 4096 ≤ n)
    {φ : Phi} {T : TH} {a0 : Act} {fuel : Nat} {listed : Array Bool} {a : Act} {w : World} {φ1 : Phi} {T1 : TH} (inv : DrawInv l recs w0 ntmps σ h n n' φ T a0 (fuel + 1) listed a w φ1 T1) {i : Nat}
    (hi : i ∈ Region.ready .any cops listed) {Q : Exit → Act → World → Prop} {K : Act → World → Prop}
    (hK : ∀ a' w' φ2 T2, DrawInv l recs w0 ntmps σ h n n' φ T a0 fuel (listed.setIfInBounds i true) a' w' φ2 T2 → K a' w') : wpOp P cops Q i K a w := by
  obtain ⟨d1, d2, d3, d5, d4⟩ := hd
  obtain ⟨hlen, hget⟩ := cOpers_get hc
  unfold Region.ready at hi
  simp only [List.mem_filter, List.mem_range, Bool.and_eq_true, Bool.not_eq_true'] at hi
  obtain ⟨hilt, hunl, hdeps⟩ := hi
  have hilt' : i < cops.toList.length := by simpa using hilt
  obtain ⟨o, ho, hoc⟩ := hget i cops[i] (by simp [hilt])
  have hil : i < l.length := by rw [hlen]; exact hilt'
  obtain ⟨c, hc'⟩ : ∃ c, recs[i]? = some c := ⟨recs[i]'(by omega), by simp⟩
  obtain ⟨r0, r1, r2, r3, r4, r5, r6, σk, r7, r8⟩ := d4 i o c ho hc'
  obtain ⟨hop, hdst, hdlt, hdd, _⟩ := cOper_spec hoc
  have hunl' : listed.getD i false = false := by
    rw [Array.getD_eq_getD_getElem?] at hunl ⊢
    have : i < listed.size := by rw [inv.size]; exact hil
    simp [this] at hunl ⊢
    exact hunl
  have hready : ∀ d, d ∈ o.deps → listed.getD d false = true := by
    intro d hdm
    rw [hdd] at hdm
    simp only [if_true] at hdm
    obtain ⟨e, he, hb, rfl⟩ := mem_cDeps.1 hdm
    simp only [Array.getElem?_eq_getElem hilt, Option.map_some, Option.getD_some, Array.all_eq_true_iff_forall_mem] at hdeps
    have := hdeps e (by simpa using he)
    simpa [hb] using this
  -- pairs
  simp only [staticOk, Bool.and_eq_true, List.all_eq_true] at hst
  obtain ⟨hst1, hst2⟩ := hst
  have hslots : ∀ (x y : Nat) (p q : AOper), (x, y) ∈ openPairs l → l[x]? = some p → l[y]? = some q → apartSlots p q = true := by
    intro x y p q hxy hx hy
    have := hst2 (x, y) hxy
    simpa [hx, hy] using this
  have hbefore : ∀ (j : Nat) (p : AOper), j < i → l[j]? = some p → listed.getD j false = true ∨ (j, i) ∈ openPairs l := by
    intro j p hj hp
    by_cases ha : ((ancTab l []).getD i 0).testBit j = true
    · exact .inl (anc_closed inv.closed ho hready ha)
    · exact .inr (mem_openPairs hj hil ha)
  have hafter : ∀ (j : Nat) (p : AOper), i < j → l[j]? = some p → listed.getD j false = false ∨ (i, j) ∈ openPairs l := by
    intro j p hj hp
    by_cases ha : ((ancTab l []).getD j 0).testBit i = true
    · left
      cases hx : listed.getD j false with
      | false => rfl
      | true =>
        have := anc_closed inv.closed hp (fun d hd => inv.closed j p hp hx d hd) ha
        rw [hunl'] at this; cases this
    · exact .inr (mem_openPairs hj (List.getElem?_eq_some_iff.1 hp).1 ha)
  have hzip : ∀ (j : Nat) (W : Nat → Option (Option Value)), (List.zipWith wSlot l recs)[j]? = some W → ∃ (p : AOper) (q : Rec), l[j]? = some p ∧ recs[j]? = some q ∧ W = wSlot p q := by
    intro j W hW
    rw [List.getElem?_zipWith] at hW
    split at hW
    · rename_i p q hp hq; simp at hW; exact ⟨p, q, hp, hq, hW.symm⟩
    · cases hW
  have hmap : ∀ (j : Nat) (W : Nat → Option (Option Blk)), (recs.map wHeap)[j]? = some W → ∃ q : Rec, recs[j]? = some q ∧ W = wHeap q := by
    intro j W hW
    rw [List.getElem?_map] at hW
    cases hq : recs[j]? with
    | none => simp [hq] at hW
    | some q => simp [hq] at hW; exact ⟨q, rfl, hW.symm⟩
  have hlget : ∀ (j : Nat), j < recs.length → ∃ p : AOper, l[j]? = some p := fun j hj => ⟨l[j]'(by omega), by simp⟩
  -- what the operation reads
  have hfr : FrameRel φ1 σk a := by
    intro t v hv
    rw [r7] at hv
    split at hv
    · rename_i hrt
      refine inv.slots t v ?_
      rw [← hv]
      refine foldS_congr t _ _ _ _ _ rfl (fun j W hW hne => ?_)
      obtain ⟨p, q, hp, hq, rfl⟩ := hzip j W hW
      have hpd : p.dst = some t := by
        unfold wSlot at hne
        split at hne
        · assumption
        · exact absurd rfl hne
      rcases Nat.lt_trichotomy j i with hj | hj | hj
      · rw [decide_eq_true hj]
        rcases hbefore j p hj hp with h1 | h1
        · exact h1
        · have := hslots _ _ _ _ h1 hp ho
          simp only [apartSlots, hpd, Bool.and_eq_true, Bool.not_eq_true'] at this
          rw [hrt] at this; cases this.1.1
      · subst hj; rw [hunl']; simp
      · rw [decide_eq_false (by omega)]
        rcases hafter j p hj hp with h1 | h1
        · exact h1
        · have := hslots _ _ _ _ h1 ho hp
          simp only [apartSlots, hpd, Bool.and_eq_true, Bool.not_eq_true'] at this
          rw [hrt] at this; cases this.2
    · cases hv
  have hsub : ∀ k b, c.h.get k = some b → foldS (recs.map wHeap) (fun i => listed.getD i false) h.get k = some b := by
    intro k b hb
    rw [← r6 k b hb]
    refine foldS_congr k _ _ _ _ _ rfl (fun j W hW hne => ?_)
    obtain ⟨q, hq, rfl⟩ := hmap j W hW
    have hqc : k ∈ q.chg := by
      unfold wHeap at hne
      split at hne
      · rename_i hh; simpa using hh
      · exact absurd rfl hne
    obtain ⟨p, hp⟩ := hlget j (List.getElem?_eq_some_iff.1 hq).1
    rcases Nat.lt_trichotomy j i with hj | hj | hj
    · rw [decide_eq_true hj]
      rcases hbefore j p hj hp with h1 | h1
      · exact h1
      · have := (hap _ _ _ _ h1 hq hc').1 k hqc
        rw [hb] at this; cases this
    · subst hj; rw [hunl']; simp
    · rw [decide_eq_false (by omega)]
      rcases hafter j p hj hp with h1 | h1
      · exact h1
      · have := (hap _ _ _ _ h1 hc' hq).2 k hqc
        rw [hb] at this; cases this
  have hsubT : Sub c.h T1 := fun k b hb => inv.heap k b (hsub k b hb)
  have hpend := inv.pend i c hc' hunl'
  have hS' : ∀ j, (listed.setIfInBounds i true).getD j false = if j = i then true else listed.getD j false := by
    intro j
    simp only [Array.getD_eq_getD_getElem?, Array.getElem?_setIfInBounds]
    have : i < listed.size := by rw [inv.size]; exact hil
    by_cases hj : i = j
    · subst hj; simp [this]
    · simp [hj, Ne.symm hj]
  have step : ∀ φ2 T2 w2 u, Post 4096 w0 φ1 T1 c.h c.n φ2 T2 w2 c.h' c.n' → (∀ v, c.r = some v → VRel φ2 v u) → K (a.put cops[i].dst u) w2 := by
    intro φ2 T2 w2 u hp hr
    refine hK _ _ φ2 T2 ⟨by simp [inv.size], hp.sat, inv.le.trans hp.le, fun t v hv => ?_, fun k b hb => ?_, fun k hk hkn => ?_, fun k hk hf => ?_, fun k q hq hkl => ?_, fun k p hp' hk d hd => ?_, by rw [put_size, inv.tmps], by rw [put_defers, inv.defers], ?_⟩
    · -- slots
      have hSeq : (fun j => (listed.setIfInBounds i true).getD j false) = fun j => if j = i then true else listed.getD j false := funext hS'
      rw [hSeq] at hv
      have hWi : (List.zipWith wSlot l recs)[i]? = some (wSlot o c) := by rw [List.getElem?_zipWith, ho, hc']
      by_cases hdt : o.dst = some t
      · rw [foldS_insert t _ (fun j => listed.getD j false) _ _ i _ hWi (by simp) (fun j hj => by simp [hj]) hunl' (fun j W hj hW hSj => by
          obtain ⟨p, q, hp, hq, rfl⟩ := hzip j W hW
          unfold wSlot
          split
          · rename_i hpd
            exfalso
            rcases hafter j p hj hp with h1 | h1
            · rw [hSj] at h1; cases h1
            · have := hslots _ _ _ _ h1 ho hp
              simp [apartSlots, hdt, hpd] at this
          · rfl)] at hv
        simp only [wSlot, hdt, if_true] at hv
        refine ⟨u, ?_, hr v hv⟩
        rw [tmps_put, ← hdst, hdt]
        rw [if_pos ⟨rfl, by rw [inv.tmps]; exact hdlt t (by rw [← hdst, hdt])⟩]
      · have hW0 : wSlot o c t = none := by simp [wSlot, hdt]
        have : foldS (List.zipWith wSlot l recs) (fun j => listed.getD j false) σ.get t = some v := by
          rw [← hv]
          refine foldS_congr t _ _ _ _ _ rfl (fun j W hW hne => ?_)
          have hji : j ≠ i := by
            intro e; subst e; rw [hWi] at hW
            obtain rfl := Option.some.inj hW
            exact hne hW0
          simp [hji]
        obtain ⟨u', hu', hr'⟩ := inv.slots t v this
        refine ⟨u', ?_, hr'.mono hp.le⟩
        rw [tmps_put, ← hdst, if_neg (by simp [hdt])]
        exact hu'
    · -- the memory
      have hSeq : (fun j => (listed.setIfInBounds i true).getD j false) = fun j => if j = i then true else listed.getD j false := funext hS'
      rw [hSeq] at hb
      have hWi : (recs.map wHeap)[i]? = some (wHeap c) := by rw [List.getElem?_map, hc']; rfl
      by_cases hck : k ∈ c.chg
      · rw [foldS_insert k _ (fun j => listed.getD j false) _ _ i _ hWi (by simp) (fun j hj => by simp [hj]) hunl' (fun j W hj hW hSj => by
          obtain ⟨q, hq, rfl⟩ := hmap j W hW
          unfold wHeap
          split
          · rename_i hqc
            exfalso
            have hqc' : k ∈ q.chg := by simpa using hqc
            obtain ⟨p, hp⟩ := hlget j (List.getElem?_eq_some_iff.1 hq).1
            rcases hafter j p hj hp with h1 | h1
            · rw [hSj] at h1; cases h1
            · have ⟨g1, g2⟩ := hap _ _ _ _ h1 hc' hq
              obtain ⟨_, _, _, _, s4, _, _⟩ := d4 j p q hp hq
              rcases (r4.2 k hck).2 with hx | hx
              · rw [g2 k hqc'] at hx; cases hx
              · rcases (s4.2 k hqc').2 with hy | hy
                · rw [g1 k hck] at hy; cases hy
                · have := r5 j q hj hq; omega
          · rfl)] at hb
        have hx : wHeap c k = some (c.h'.get k) := by unfold wHeap; rw [if_pos (by simpa using hck)]
        rw [hx] at hb
        exact hp.sub k b hb
      · have hW0 : wHeap c k = none := by unfold wHeap; rw [if_neg (by simpa using hck)]
        have hb' : foldS (recs.map wHeap) (fun j => listed.getD j false) h.get k = some b := by
          rw [← hb]
          refine foldS_congr k _ _ _ _ _ rfl (fun j W hW hne => ?_)
          have hji : j ≠ i := by
            intro e; subst e; rw [hWi] at hW
            obtain rfl := Option.some.inj hW
            exact hne hW0
          simp [hji]
        have hT1 := inv.heap k b hb'
        cases hx : c.h.get k with
        | some b0 =>
          have h1 := hsub k b0 hx
          rw [hb'] at h1
          obtain rfl := Option.some.inj h1
          exact hp.sub k b (r4.1 k b hx hck)
        | none =>
          rw [hp.frame k hx (fun hin => by
            have := (hpend k hin.1 hin.2).1
            rw [hT1] at this; cases this)]
          exact hT1
    · have hck : c.h.get k = none := by
        cases hx : c.h.get k with
        | none => rfl
        | some b =>
          rcases r0 k b hx with ⟨d, hd⟩ | hd
          · rw [hk] at hd; cases hd
          · exact absurd hd hkn
      rw [hp.frame k hck (by omega)]
      exact inv.frame k hk hkn
    · exact hp.fresh k (by omega) (inv.fresh k hk hf)
    · rw [hS'] at hkl
      split at hkl
      · cases hkl
      · rename_i hki
        have hold := inv.pend k q hq hkl
        obtain ⟨p, hp'⟩ := hlget k (List.getElem?_eq_some_iff.1 hq).1
        obtain ⟨_, s1, s2, s3, _, s5, _⟩ := d4 k p q hp' hq
        have hdisj : q.n' ≤ c.n ∨ c.n' ≤ q.n := by
          rcases Nat.lt_or_gt_of_ne hki with hlt | hgt
          · exact .inl (s5 i c hlt hc')
          · exact .inr (r5 k q hgt hq)
        intro x hx1 hx2
        obtain ⟨g1, g2⟩ := hold x hx1 hx2
        have hcx : c.h.get x = none := by
          cases hy : c.h.get x with
          | none => rfl
          | some b => have := hsubT x b hy; rw [g1] at this; cases this
        exact ⟨by rw [hp.frame x hcx (by omega), g1], hp.fresh x (by omega) g2⟩
    · simp only [hS'] at hk ⊢
      split
      · rfl
      · rename_i hdi
        split at hk
        · rename_i hki
          subst hki
          rw [ho] at hp'
          obtain rfl := Option.some.inj hp'
          exact hready d hd
        · exact inv.closed k p hp' hk d hd
    · have hcnt := inv.count
      have key : ∀ N, i < N → ((List.range N).filter fun j => !listed.getD j false).length = ((List.range N).filter fun j => !(listed.setIfInBounds i true).getD j false).length + 1 := by
        intro N
        induction N with
        | zero => intro h; omega
        | succ N ih =>
          intro hN
          simp only [List.range_succ, List.filter_append, List.length_append, List.filter_cons, List.filter_nil]
          by_cases hiN : i = N
          · subst hiN
            have e1 : ((List.range i).filter fun j => !listed.getD j false) = ((List.range i).filter fun j => !(listed.setIfInBounds i true).getD j false) := by
              apply List.filter_congr
              intro j hj
              rw [hS', if_neg (by have := List.mem_range.1 hj; omega)]
            rw [e1, hunl', hS', if_pos rfl]
            simp
          · rw [ih (by omega), hS' N, if_neg (Ne.symm hiN)]
            omega
      have := key l.length hil
      omega
  have hso := r8 cops[i] cops ntmps true hoc φ1 T1 w a inv.sat hsubT hpend (by omega) hfr K Q step
  unfold wpOp
  simp only [Array.getElem?_eq_getElem hilt]
  split
  · rename_i hw; rw [if_pos hw] at hso; exact .inl hso
  · rename_i hw; rw [if_neg hw] at hso; exact hso

end
end
end Go.Proofs.YtkaibjdogeikbaaDoor.Am
