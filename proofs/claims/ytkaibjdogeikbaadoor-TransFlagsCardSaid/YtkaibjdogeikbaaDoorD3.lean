/- The evaluator of the abstract machine, part D3: what it finds is a derivation. -/
import Derived.Test.YtkaibjdogeikbaaDoorD2
namespace Go.Proofs.YtkaibjdogeikbaaDoor.Am
noncomputable section
open Go.RowKit (Below)

/- FROM A DERIVATION TO A CALL; what a memory is seeded with. -/

abbrev Seed := Nat × Loc × Blk
def lookS : List Seed → Nat → Option (Loc × Blk)
  | [], _ => none
  | (k, l, b) :: s, i => if k = i then some (l, b) else lookS s i
def Blk.gen : Blk → Nat
  | .cells _ cs _ => cs.length
  | .map _ => 0
def phi0 (s : List Seed) : Phi := fun i g => match lookS s i with
  | some (l, b) => if g = b.gen then some l else none
  | none => none
def heap0 (s : List Seed) : AHeap := s.map fun p => (p.1, p.2.2)
theorem heap0_get (s : List Seed) (i : Nat) : (heap0 s).get i = (lookS s i).map (·.2) := by
  induction s with
  | nil => rfl
  | cons p s ih =>
    obtain ⟨k, l, b⟩ := p
    simp only [heap0, List.map_cons, lookS, AHeap.get_cons] at ih ⊢
    split
    · rfl
    · exact ih
theorem lookS_mem {s : List Seed} {i : Nat} {l : Loc} {b : Blk} (h : lookS s i = some (l, b)) : (i, l, b) ∈ s := by
  induction s with
  | nil => cases h
  | cons p s ih =>
    obtain ⟨k, l', b'⟩ := p
    simp only [lookS] at h
    split at h
    · rename_i e; subst e; cases h; exact .head _
    · exact .tail _ (ih h)
theorem phi0_some {s : List Seed} {i g : Nat} {l : Loc} (h : phi0 s i g = some l) : ∃ b, lookS s i = some (l, b) ∧ g = b.gen := by
  unfold phi0 at h
  split at h
  · rename_i l' b hs
    split at h
    · rename_i hg; cases h; exact ⟨b, hs, hg⟩
    · cases h
  · cases h

/-- What a block of the seed must be in the world. -/
def SeedOk (w : World) (s : List Seed) (p : Seed) : Prop :=
  p.2.1.own = false ∧ p.2.1.block < w.heap.size ∧ (p.1 < 4096 → p.2.1.block = p.1 ∧ p.2.1.off = 0) ∧
  match p.2.2 with
  | .cells own cs min => own = none ∧ min ≤ cs.length ∧ cs.all Value.oneCell' = true ∧ ∀ k v, cs[k]? = some v → ∃ u, w.cell? ⟨p.2.1.block, p.2.1.off + k, none⟩ = some u ∧ VRel (phi0 s) v u
  | .map es => ∃ ces clock, w.heap[p.2.1.block]? = some (.map ces clock) ∧
      es.length = ces.size ∧ ∀ (k : Nat) (x : Value × Value), es[k]? = some x → ∃ e : MapEntry, ces[k]? = some e ∧ scalar x.1 = true ∧ e.key = x.1 ∧ VRel (phi0 s) x.2 e.val

theorem sat0 {w : World} {s : List Seed} (h : ∀ p ∈ s, SeedOk w s p) : Sat 4096 w (phi0 s) (fun i => (heap0 s).get i) w := by
  refine ⟨.refl _ _, fun i g l hl hi => ?_, fun i g l hl _ => ?_, fun i g l hl ho => ?_, fun i g l j k m hl hm ho => ?_, fun i g l k m hl hm => ?_, fun i g l hl ho => ?_, fun i b hb => ?_⟩
  · obtain ⟨b, hs, _⟩ := phi0_some hl
    obtain ⟨h1, h2, h3, _⟩ := h _ (lookS_mem hs)
    exact ⟨(h3 hi).1, (h3 hi).2, h1⟩
  · obtain ⟨b, hs, _⟩ := phi0_some hl
    exact (h _ (lookS_mem hs)).2.1
  · obtain ⟨b, hs, _⟩ := phi0_some hl
    have := (h _ (lookS_mem hs)).1
    simp only [ho] at this
    cases this
  · obtain ⟨b, hs, _⟩ := phi0_some hl
    have := (h _ (lookS_mem hs)).1
    simp only [ho] at this
    cases this
  · obtain ⟨b, hs, _⟩ := phi0_some hl
    obtain ⟨c, hs', _⟩ := phi0_some hm
    rw [hs] at hs'
    cases hs'
    rfl
  · obtain ⟨b, hs, _⟩ := phi0_some hl
    have := (h _ (lookS_mem hs)).1
    simp only [ho] at this
    cases this
  · rw [heap0_get] at hb
    obtain ⟨⟨l, b'⟩, hs, rfl⟩ := Option.map_eq_some_iff.1 hb
    obtain ⟨h1, h2, h3, h4⟩ := h _ (lookS_mem hs)
    have hphi : phi0 s i b'.gen = some l := by simp only [phi0, hs, if_true]
    cases b' with
    | cells own cs min =>
      obtain ⟨rfl, h5, h6, h7⟩ := h4
      refine ⟨⟨l, hphi⟩, h5, h6, fun g l' hl' hg => ?_⟩
      obtain ⟨b2, hs2, hg2⟩ := phi0_some hl'
      rw [hs] at hs2
      obtain ⟨rfl, rfl⟩ := Prod.mk.inj (Option.some.inj hs2)
      simp only [Blk.gen] at hg2
      subst hg2
      exact ⟨Nat.le_refl _, (fun t ht => by cases ht), fun k v _ hk => h7 k v hk⟩
    | map es =>
      obtain ⟨ces, clock, h5, h6, h7⟩ := h4
      exact ⟨l, hphi, h1, ces, clock, h5, h6, h7⟩

section
variable {P : Program} {w : World}
theorem calls_of_sound {f : Nat} {args : List Value} {h : AHeap} {n : Nat} {v : Value} {h' : AHeap} {n' : Nat} (x : SoundCall P w f args h n v h' n') {fn : Func} {c : Code} (hfn : P.funcs[f]? = some fn) (hbody : fn.body = some c)
    (hname : (fn.name == "runtime.NumGoroutine") = false) {φ : Phi} {T : TH} {cargs : List Value} (hs : Sat 4096 w φ T w) (hh : Sub h T) (hf : Fresh φ T n n') (hn : 4096 ≤ n) (hra : VRels φ args cargs) :
    Calls P f cargs.toArray w fun e w' => ∃ u φ', e = .returned u ∧ VRel φ' v u ∧ Below w.heap.size w w' := by
  have hrun : (callFunc f cargs.toArray).run P w = .ok (.enter f cargs.toArray) w := by
    simp only [callFunc, Sem.run_bind, run_program, Result.andThen_ok, hfn, hname, hbody, Bool.false_eq_true, if_false, Option.isNone_some, Sem.run_pure]
  have := x φ T w cargs hs hh hf hn hra { (default : Oper) with dst := some 0 } ⟨#[undef], []⟩
    (fun a w' => ∃ u φ', a.tmps[0]? = some u ∧ VRel φ' v u ∧ Below w.heap.size w w') (fun _ _ _ => False)
    (fun u w' ⟨φ', T', h1, h2⟩ => ⟨u, φ', by simp [Act.put], h1, h2.sat.below⟩)
  rw [hrun] at this
  simp only [Oper.upon] at this
  refine this.mono fun e w' he => ?_
  cases e with
  | returned r =>
    obtain ⟨u, φ', h1, h2, h3⟩ := he
    simp [Act.put] at h1
    exact ⟨u, φ', by rw [h1], h2, h3⟩
  | panicked c => cases he
  | outgrown => exact absurd he (by simp [LetsOut])
end
end
end Go.Proofs.YtkaibjdogeikbaaDoor.Am
