/- The soundness of code and calls of the abstract machine, part C3: every derivation of the abstract machine is a run of the model. -/
import Derived.Test.YtkaibjdogeikbaaDoorC2
namespace Go.Proofs.YtkaibjdogeikbaaDoor.Am
noncomputable section
open Go.RowKit (Below)

section
variable {P : Program} {w0 : World}

theorem Post.trans {G : Nat} {φ φ1 φ2 : Phi} {T T1 T2 : TH} {w1 w2 : World} {h h1 h2 : AHeap} {n n1 n2 : Nat} (a : Post G w0 φ T h n φ1 T1 w1 h1 n1) (b : Post G w0 φ1 T1 h1 n1 φ2 T2 w2 h2 n2) :
    Post G w0 φ T h n φ2 T2 w2 h2 n2 where
  sat := b.sat
  le := a.le.trans b.le
  sub := b.sub
  frame := fun i hi hn => by
    have m1 := a.mono
    have m2 := b.mono
    have e1 := a.frame i hi (by omega)
    have hn1 : h1.get i = none := by
      cases hx : h1.get i with
      | none => rfl
      | some c =>
        rcases a.dom i c hx with ⟨d, hd⟩ | hd
        · rw [hi] at hd; cases hd
        · omega
    rw [b.frame i hn1 (by omega), e1]
  fresh := fun i hi hf => by
    have m1 := a.mono
    have m2 := b.mono
    exact b.fresh i (by omega) (a.fresh i (by omega) hf)
  mono := Nat.le_trans a.mono b.mono
  dom := fun i c hc => by
    have m1 := a.mono
    have m2 := b.mono
    rcases b.dom i c hc with ⟨d, hd⟩ | hd
    · rcases a.dom i d hd with h | h
      · exact .inl h
      · exact .inr (by omega)
    · exact .inr (by omega)

theorem Post.sub' {G : Nat} {φ φ1 : Phi} {T T1 : TH} {w1 : World} {h h1 h2 : AHeap} {n n1 : Nat} (a : Post G w0 φ T h n φ1 T1 w1 h1 n1) (hs : HSub h2 h1) : Post G w0 φ T h n φ1 T1 w1 h2 n1 :=
  ⟨a.sat, a.le, fun i b hb => a.sub i b (hs i b hb), a.frame, a.fresh, a.mono, fun i b hb => a.dom i b (hs i b hb)⟩

theorem Fresh.left {φ : Phi} {T : TH} {n n1 n2 : Nat} (h : Fresh φ T n n2) (h1 : n1 ≤ n2) : Fresh φ T n n1 := fun i a b => h i a (by omega)
theorem Fresh.right {G : Nat} {φ φ1 : Phi} {T T1 : TH} {w1 : World} {h h1 : AHeap} {n n1 n2 : Nat} (hs : Sub h T) (hf : Fresh φ T n n2) (a : Post G w0 φ T h n φ1 T1 w1 h1 n1) : Fresh φ1 T1 n1 n2 := by
  intro i h1' h2'
  have m := a.mono
  obtain ⟨hT, hφ⟩ := hf i (by omega) h2'
  have hn : h.get i = none := by
    cases hx : h.get i with
    | none => rfl
    | some c => have := hs i c hx; rw [hT] at this; cases this
  exact ⟨by rw [a.frame i hn (by omega), hT], a.fresh i (by omega) hφ⟩

/-- A run on a part of the memory, seen from the whole. -/
theorem Post.framed {G : Nat} {φ φ1 : Phi} {T T1 : TH} {w1 : World} {h h0 h0' h' : AHeap} {n n1 : Nat} (a : Post G w0 φ T h0 n φ1 T1 w1 h0' n1) (hh : Sub h T) (hs : HSub h0 h) (hf : Framed h h0 n h0' n1 h') :
    Post G w0 φ T h n φ1 T1 w1 h' n1 where
  sat := a.sat
  le := a.le
  sub := fun i b hb => by
    rcases hf i b hb with h1 | ⟨h1, h2, h3⟩
    · exact a.sub i b h1
    · rw [a.frame i h1 h2]; exact hh i b h3
  frame := fun i hi hn => a.frame i (by
    cases hx : h0.get i with
    | none => rfl
    | some c => have := hs i c hx; rw [hi] at this; cases this) hn
  fresh := a.fresh
  mono := a.mono
  dom := fun i b hb => by
    rcases hf i b hb with h1 | ⟨h1, h2, h3⟩
    · rcases a.dom i b h1 with ⟨c, hc⟩ | hc
      · exact .inl ⟨c, hs i c hc⟩
      · exact .inr hc
    · exact .inl ⟨b, h3⟩

def SoundOps (P : Program) (w0 : World) (l : List AOper) (σ : Fr) (h : AHeap) (n : Nat) (σ' : Fr) (h' : AHeap) (n' : Nat) : Prop :=
  ∀ (cops : Array Oper) (ntmps : Nat) (draw : Bool) (cl : List Oper), cOpers P ntmps draw cops cl = some l →
    ∀ φ T w a, Sat 4096 w0 φ T w → Sub h T → Fresh φ T n n' → 4096 ≤ n → FrameRel φ σ a → a.tmps.size = ntmps → ∀ (Q : Exit → Act → World → Prop),
      (∀ φ' T' w' a', Post 4096 w0 φ T h n φ' T' w' h' n' → FrameRel φ' σ' a' → a'.tmps.size = ntmps → a'.defers = a.defers → Q .normal a' w') → wpList P cops Q cl a w

theorem opsNil_sound {σ : Fr} {h : AHeap} {n : Nat} : SoundOps P w0 [] σ h n σ h n := by
  intro cops ntmps draw cl hc φ T w a hs hh hf hG hfr hsz Q hQ
  cases cl with
  | nil => exact hQ φ T w a (.refl hs hh) hfr hsz rfl
  | cons c cl => simp only [cOpers] at hc; split at hc <;> simp at hc

theorem opsCons_sound {o : AOper} {l : List AOper} {σ : Fr} {h : AHeap} {n : Nat} {r : Option Value} {h1 : AHeap} {n1 : Nat} {σ' : Fr} {h' : AHeap} {n' : Nat} (m1 : n ≤ n1) (m2 : n1 ≤ n') (p1 : SoundOp P w0 o σ h n r h1 n1)
    (p2 : SoundOps P w0 l (setDst σ o.dst r) h1 n1 σ' h' n') : SoundOps P w0 (o :: l) σ h n σ' h' n' := by
  intro cops ntmps draw cl hc φ T w a hs hh hf hG hfr hsz Q hQ
  cases cl with
  | nil => simp [cOpers] at hc
  | cons c cl =>
    simp only [cOpers] at hc
    split at hc
    · rename_i o' l' ho hl
      simp at hc
      obtain ⟨rfl, rfl⟩ := hc
      obtain ⟨_, hdst, hdlt, _⟩ := cOper_spec ho
      have := p1 c cops ntmps draw ho φ T w a hs hh (hf.left m2) hG hfr (wpList P cops Q cl) Q (fun φ' T' w' u hp hr => by
        refine p2 cops ntmps draw cl hl φ' T' w' (a.put c.dst u) hp.sat hp.sub (hf.right hh hp) (by omega) ?_ (by rw [put_size, hsz]) Q (fun φ'' T'' w'' a' hp2 hfr' hsz' hdf => ?_)
        · rw [hdst]; exact (hfr.mono hp.le).put (fun k hk => by rw [hsz]; exact hdlt k hk) hr
        · exact hQ φ'' T'' w'' a' (hp.trans hp2) hfr' hsz' (by rw [hdf, put_defers]))
      unfold wpList
      split
      · rename_i hw; rw [if_pos hw] at this; exact .inl this
      · rename_i hw; rw [if_neg hw] at this; exact this
    · simp at hc

/- ---------------------------------------------------------------- a region whose order is open -/

/-- What the operations of S have written, in the text's order. -/
def foldS {α : Type} : List (Nat → Option (Option α)) → (Nat → Bool) → (Nat → Option α) → Nat → Option α
  | [], _, base => base
  | W :: Ws, S, base => foldS Ws (fun i => S (i + 1)) (fun t => if S 0 then (W t).getD (base t) else base t)

theorem foldS_congr {α : Type} (t : Nat) : ∀ (Ws : List (Nat → Option (Option α))) (S S' : Nat → Bool) (base base' : Nat → Option α), base t = base' t →
    (∀ i W, Ws[i]? = some W → W t ≠ none → S i = S' i) → foldS Ws S base t = foldS Ws S' base' t
  | [], S, S', base, base', hb, _ => hb
  | W :: Ws, S, S', base, base', hb, h => by
    simp only [foldS]
    refine foldS_congr t Ws _ _ _ _ ?_ (fun i W' hW' hne => h (i + 1) W' (by simpa using hW') hne)
    by_cases hW : W t = none
    · simp only [hW, Option.getD_none, hb]; split <;> split <;> rfl
    · have := h 0 W (by simp) hW
      simp only [this]
      cases hx : W t with
      | none => exact absurd hx hW
      | some x => simp only [Option.getD_some]; split <;> first | rfl | exact hb

theorem foldS_none {α : Type} (t : Nat) : ∀ (Ws : List (Nat → Option (Option α))) (S : Nat → Bool) (base : Nat → Option α), (∀ i, S i = false) → foldS Ws S base t = base t
  | [], _, _, _ => rfl
  | W :: Ws, S, base, h => by
    simp only [foldS, h 0, Bool.false_eq_true, if_false]
    exact foldS_none t Ws _ _ fun i => h (i + 1)

theorem foldS_take {α : Type} (t : Nat) : ∀ (k : Nat) (Ws : List (Nat → Option (Option α))) (base : Nat → Option α), foldS (Ws.take k) (fun _ => true) base t = foldS Ws (fun i => decide (i < k)) base t
  | 0, Ws, base => by
    simp only [List.take_zero, foldS]
    exact (foldS_none t Ws _ base fun i => by simp).symm
  | k + 1, [], base => by simp [foldS]
  | k + 1, W :: Ws, base => by
    simp only [List.take_succ_cons, foldS]
    rw [foldS_take t k Ws]
    refine foldS_congr t Ws _ _ _ _ (by simp) (fun i _ _ _ => by simp)

theorem foldS_all {α : Type} (t : Nat) (Ws : List (Nat → Option (Option α))) (S : Nat → Bool) (base : Nat → Option α) (hS : ∀ i, i < Ws.length → S i = true) : foldS Ws S base t = foldS Ws (fun _ => true) base t :=
  foldS_congr t Ws S _ base base rfl fun i _ hW _ => hS i (List.getElem?_eq_some_iff.1 hW).1

theorem foldS_insert {α : Type} (t : Nat) : ∀ (Ws : List (Nat → Option (Option α))) (S S' : Nat → Bool) (base : Nat → Option α) (i : Nat) (W : Nat → Option (Option α)), Ws[i]? = some W → S' i = true →
    (∀ j, j ≠ i → S' j = S j) → S i = false → (∀ j V, i < j → Ws[j]? = some V → S j = true → V t = none) →
    foldS Ws S' base t = match W t with | some x => x | none => foldS Ws S base t
  | [], S, S', base, i, W, hW, _, _, _, _ => by simp at hW
  | V :: Ws, S, S', base, 0, W, hW, h1, h2, h3, h4 => by
    simp at hW; subst hW
    simp only [foldS, h1, h3, if_true, Bool.false_eq_true, if_false]
    cases hx : V t with
    | none =>
      simp only
      refine foldS_congr t Ws _ _ _ _ (by simp [hx]) (fun i _ _ _ => h2 (i + 1) (by omega))
    | some x =>
      simp only
      have : ∀ (Ws : List (Nat → Option (Option α))) (S S' : Nat → Bool) (base : Nat → Option α), (∀ j V, Ws[j]? = some V → S j = true → V t = none) → (∀ j, S' j = S j) → foldS Ws S' base t = base t := by
        intro Ws
        induction Ws with
        | nil => intro _ _ _ _ _; rfl
        | cons V Ws ih =>
          intro S S' base h g
          simp only [foldS]
          rw [ih (fun i => S (i + 1)) (fun i => S' (i + 1)) _ (fun j V' hV' hS => h (j + 1) V' (by simpa using hV') hS) (fun j => g (j + 1))]
          split
          · rename_i hs
            rw [h 0 V (by simp) (by rw [← g 0]; exact hs)]; rfl
          · rfl
      rw [this Ws (fun i => S (i + 1)) (fun i => S' (i + 1)) _ (fun j V' hV' hS => h4 (j + 1) V' (by omega) (by simpa using hV') hS) (fun j => h2 (j + 1) (by omega))]
      simp [hx]
  | V :: Ws, S, S', base, i + 1, W, hW, h1, h2, h3, h4 => by
    simp only [foldS, h2 0 (by omega)]
    exact foldS_insert t Ws (fun i => S (i + 1)) (fun i => S' (i + 1)) _ i W (by simpa using hW) h1 (fun j hj => h2 (j + 1) (by omega)) h3 (fun j V' hj hV' hS => h4 (j + 1) V' (by omega) (by simpa using hV') hS)

def wSlot (o : AOper) (c : Rec) : Nat → Option (Option Value) := fun t => if o.dst = some t then some c.r else none
def wHeap (c : Rec) : Nat → Option (Option Blk) := fun i => if c.chg.contains i then some (c.h'.get i) else none

def SoundDraw (P : Program) (w0 : World) (l : List AOper) (σ : Fr) (h : AHeap) (n : Nat) (recs : List Rec) (σ' : Fr) (h' : AHeap) (n' : Nat) : Prop :=
  recs.length = l.length ∧
  (∀ t, σ'.get t = foldS (List.zipWith wSlot l recs) (fun _ => true) σ.get t) ∧
  (∀ i, h'.get i = foldS (recs.map wHeap) (fun _ => true) h.get i) ∧
  (∀ i b, h'.get i = some b → (∃ d, h.get i = some d) ∨ (n ≤ i ∧ i < n')) ∧
  (∀ k o c, l[k]? = some o → recs[k]? = some c → (∀ i b, c.h.get i = some b → (∃ d, h.get i = some d) ∨ (n ≤ i ∧ i < n')) ∧ n ≤ c.n ∧ c.n ≤ c.n' ∧ c.n' ≤ n' ∧ c.ok ∧ (∀ j d, k < j → recs[j]? = some d → c.n' ≤ d.n) ∧
    (∀ i b, c.h.get i = some b → foldS (recs.map wHeap) (fun i => decide (i < k)) h.get i = some b) ∧
    ∃ σk : Fr, (∀ t, σk.get t = if o.reads.contains t then foldS (List.zipWith wSlot l recs) (fun i => decide (i < k)) σ.get t else none) ∧ SoundOp P w0 o σk c.h c.n c.r c.h' c.n')

theorem drawNil_sound {σ : Fr} {h : AHeap} {n : Nat} : SoundDraw P w0 [] σ h n [] σ h n :=
  ⟨rfl, fun _ => rfl, fun _ => rfl, fun _ b hb => .inl ⟨b, hb⟩, fun k o c hk => by simp at hk⟩

theorem get_puts (h h' : AHeap) (i : Nat) : ∀ (l : List Nat), (∀ j, j ∈ l → (h'.get j).isSome) → (h.puts h' l).get i = if l.contains i then h'.get i else h.get i := by
  intro l
  induction l generalizing h with
  | nil => intro _; simp [AHeap.puts]
  | cons j l ih =>
    intro hl
    obtain ⟨b, hb⟩ := Option.isSome_iff_exists.1 (hl j (by simp))
    simp only [AHeap.puts, hb]
    rw [ih _ (fun k hk => hl k (by simp [hk]))]
    by_cases hi : i = j
    · subst hi; simp [hb]
    · rw [AHeap.get_put_ne _ _ (Ne.symm hi)]
      simp [hi]

theorem get_setDst (σ : Fr) (d : Option Nat) (r : Option Value) (t : Nat) : (setDst σ d r).get t = if d = some t then r else σ.get t := by
  cases d with
  | none => simp [setDst]
  | some d =>
    simp only [setDst, Option.some.injEq]
    cases r with
    | none =>
      simp only
      split
      · rename_i e; subst e; exact Fr.get_del_same _ _
      · rename_i e; exact Fr.get_del_ne _ e
    | some r =>
      simp only [Fr.get_put]

theorem drawCons_sound {o : AOper} {l : List AOper} {σ : Fr} {h : AHeap} {c : Rec} {recs : List Rec} {σ' : Fr} {h' : AHeap} {n' : Nat} (m1 : c.n ≤ c.n') (m2 : c.n' ≤ n') (p1 : SoundOp P w0 o (σ.restrict o.reads) c.h c.n c.r c.h' c.n')
    (ps : HSub c.h h) (pok : c.ok) (p2 : SoundDraw P w0 l (setDst σ o.dst c.r) (h.puts c.h' c.chg) c.n' recs σ' h' n') : SoundDraw P w0 (o :: l) σ h c.n (c :: recs) σ' h' n' := by
  obtain ⟨q1, q2, q3, q5, q4⟩ := p2
  have bs : (setDst σ o.dst c.r).get = fun t => if true then (wSlot o c t).getD (σ.get t) else σ.get t := by
    funext t
    rw [get_setDst]
    simp only [wSlot, if_true]
    split <;> rfl
  have bh : (h.puts c.h' c.chg).get = fun i => if true then (wHeap c i).getD (h.get i) else h.get i := by
    funext i
    rw [get_puts _ _ _ _ (fun j hj => (pok.2 j hj).1)]
    simp only [wHeap, if_true]
    split <;> rfl
  have hdom : ∀ i d, (h.puts c.h' c.chg).get i = some d → (∃ d, h.get i = some d) ∨ (c.n ≤ i ∧ i < n') := by
    intro i d hd
    rw [get_puts _ _ _ _ (fun j hj => (pok.2 j hj).1)] at hd
    split at hd
    · rename_i hc
      rcases (pok.2 i (by simpa using hc)).2 with hx | hx
      · obtain ⟨b, hb⟩ := Option.isSome_iff_exists.1 hx
        exact .inl ⟨b, ps i b hb⟩
      · right; omega
    · exact .inl ⟨d, hd⟩
  refine ⟨by simp [q1], fun t => ?_, fun i => ?_, fun i b hb => ?_, fun k o' c' hk hc => ?_⟩
  · rw [q2, bs]; rfl
  · rw [q3, bh]; rfl
  · rcases q5 i b hb with ⟨d, hd⟩ | hx
    · exact hdom i d hd
    · right; omega
  · cases k with
    | zero =>
      simp at hk hc
      subst hk; subst hc
      refine ⟨fun i b hb => .inl ⟨b, ps i b hb⟩, Nat.le_refl _, m1, m2, pok, fun j d hj hd => ?_, fun i b hb => ?_, σ.restrict o.reads, fun t => ?_, p1⟩
      · cases j with
        | zero => omega
        | succ j =>
          simp at hd
          have hlt := (List.getElem?_eq_some_iff.1 hd).1
          obtain ⟨oj, hoj⟩ : ∃ oj, l[j]? = some oj := ⟨l[j]'(by omega), by simp⟩
          exact (q4 j oj d hoj hd).2.1
      · rw [← foldS_take i 0]
        simp only [List.take_zero, foldS]
        exact ps i b hb
      · rw [Fr.get_restrict]
        split
        · rw [← foldS_take t 0]; rfl
        · rfl
    | succ k =>
      simp at hk hc
      obtain ⟨r0, r1, r2, r3, r4, r5, r6, σk, r7, r8⟩ := q4 k o' c' hk hc
      refine ⟨fun i b hb => ?_, by omega, r2, r3, r4, fun j d hj hd => ?_, fun i b hb => ?_, σk, fun t => ?_, r8⟩
      · rcases r0 i b hb with ⟨d, hd⟩ | hx
        · exact hdom i d hd
        · right; omega
      · cases j with
        | zero => omega
        | succ j => exact r5 j d (by omega) (by simpa using hd)
      · have := r6 i b hb
        rw [bh] at this
        simp only [List.map_cons, foldS]
        rw [← this]
        exact foldS_congr i _ _ _ _ _ (by simp) (fun j _ _ _ => by simp)
      · rw [r7]
        split
        · rw [bs]
          simp only [List.zipWith_cons_cons, foldS]
          exact foldS_congr t _ _ _ _ _ (by simp) (fun j _ _ _ => by simp)
        · rfl

end
end
end Go.Proofs.YtkaibjdogeikbaaDoor.Am
