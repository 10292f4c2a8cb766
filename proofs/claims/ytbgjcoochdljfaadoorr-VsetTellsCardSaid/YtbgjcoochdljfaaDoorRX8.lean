/- Contracts of the program's functions (X8). -/
import Derived.Test.YtbgjcoochdljfaaDoorRX7
namespace Go.Proofs.YtbgjcoochdljfaaDoorR.Am
noncomputable section
/- CONTRACT: the ranges of a set. -/
/-- Ranges, the newest first, and one number more. -/
def addR : List (Nat × Nat) → Nat → List (Nat × Nat)
  | [], v => [(v, v)]
  | (f, t) :: r, v => if t + 1 = v then (f, v) :: r else (v, v) :: (f, t) :: r
def rangesR (N : Nat) : List (Nat × Nat) := (els N).foldl addR []
def pairL (r : List (Nat × Nat)) : List Value := r.flatMap fun p => [.int .i64 (p.1 : Int), .int .i64 (p.2 : Int)]
theorem pairL_len : ∀ r : List (Nat × Nat), (pairL r).length = 2 * r.length
  | [] => rfl
  | p :: r => by have := pairL_len r; simp only [pairL, List.flatMap_cons] at *; simp [this]; omega
theorem pairL_snoc (r : List (Nat × Nat)) (f t : Nat) : pairL (r ++ [(f, t)]) = pairL r ++ [.int .i64 (f : Int), .int .i64 (t : Int)] := by simp [pairL]
structure RSt where
  rr : List (Nat × Nat)
  q : Nat
  h : AHeap
  n : Nat
  mn : Nat
def RSt.val (s : RSt) : Value := match s.rr with
  | [] => .slice none 0 0
  | _ :: r => .slice (some ⟨s.q, 0, some (2 * r.length + 2)⟩) (r.length + 1) 4
def RSt.blk (s : RSt) : Blk := .cells (some 35) (pairL s.rr.reverse) s.mn
def stepR (c : Nat) (s : RSt) (v : Nat) : Ex × RSt := match s.rr with
  | [] => (.normal, ⟨[(v, v)], s.n + 1, ((s.h.put s.n (.cells (some 35) [.int .i64 (v : Int), .int .i64 (v : Int)] 2)).put (s.n + 1) (.cells (some 35) [.int .i64 (v : Int), .int .i64 (v : Int)] 2)).put c (.cells (some 32) [.slice (some ⟨s.n + 1, 0, some 2⟩) 1 4] 1), s.n + 2, 2⟩)
  | (f, t) :: r => if t + 1 = v then (.normal, ⟨(f, v) :: r, s.q, s.h.put s.q (.cells (some 35) (pairL (r.reverse ++ [(f, v)])) (2 * r.length + 2)), s.n, 2 * r.length + 2⟩)
    else (.normal, ⟨(v, v) :: (f, t) :: r, s.q, ((s.h.put s.n (.cells (some 35) [.int .i64 (v : Int), .int .i64 (v : Int)] 2)).put s.q (.cells (some 35) (pairL (r.reverse ++ [(f, t)]) ++ [.int .i64 (v : Int), .int .i64 (v : Int)]) s.mn)).put c (.cells (some 32) [.slice (some ⟨s.q, 0, some (2 * r.length + 2 + 2)⟩) (r.length + 1 + 1) 4] 1), s.n + 1, s.mn⟩)
structure okR (h0 : AHeap) (n0 c N : Nat) (l : List Nat) (s : RSt) : Prop where
  cell : s.h.get c = some (.cells (some 32) [s.val] 1)
  blk : s.rr ≠ [] → n0 + 2 ≤ s.q ∧ s.h.get s.q = some s.blk
  wf : WF s.h s.n
  sub : HSub h0 s.h
  none : s.h.get n0 = none
  ge : n0 + 2 ≤ s.n
  le : s.n + 2 * l.length ≤ n0 + 2 + 2 * (els N).length
  len : s.rr.length + l.length ≤ (els N).length
  fold : l.foldl addR s.rr = rangesR N
  low : ∀ v ∈ l, v < 4096
  mn : s.mn ≤ 2 * s.rr.length
theorem els_len (N : Nat) : (els N).length ≤ 4096 := by
  have := List.length_filter_le (N.testBit ·) (List.range 4096)
  simpa [els, elsP] using this
theorem okR_next {h0 : AHeap} {n0 c N : Nat} (hc : c < n0) (hw0 : WF h0 n0) (hc0 : h0.get c = none) {s : RSt} {v : Nat} {l : List Nat} (hok : okR h0 n0 c N (v :: l) s) : okR h0 n0 c N l (stepR c s v).2 := by
  obtain ⟨h1, h2, h3, h4, h5, h6, h7, h8, h9, h10, h11⟩ := hok
  obtain ⟨rr, q, h, n, mn⟩ := s
  simp only [List.length_cons, List.foldl_cons] at h3 h4 h5 h6 h7 h8 h9 h11
  have hlow : ∀ x ∈ l, x < 4096 := fun x hx => h10 x (.tail _ hx)
  have hsubc : ∀ {g : AHeap} (b : Blk), HSub h0 g → HSub h0 (g.put c b) := fun b hg => .put_new b hc0 hg
  cases rr with
  | nil =>
    simp only [stepR]
    exact ⟨by rw [AHeap.get_put_same]; rfl, fun _ => ⟨by ((try dsimp only); omega), by rw [AHeap.get_put_ne _ _ (by ((try dsimp only); omega)), AHeap.get_put_same]; rfl⟩,
      ((h3.put (m := n + 1) _ (by ((try dsimp only); omega)) (by ((try dsimp only); omega))).put (m := n + 2) _ (by ((try dsimp only); omega)) (by ((try dsimp only); omega))).put _ (by ((try dsimp only); omega)) (Nat.le_refl _),
      hsubc _ ((h4.new hw0 (by ((try dsimp only); omega)) _).new hw0 (by ((try dsimp only); omega)) _),
      by rw [AHeap.get_put_ne _ _ (by ((try dsimp only); omega)), AHeap.get_put_ne _ _ (by ((try dsimp only); omega)), AHeap.get_put_ne _ _ (by ((try dsimp only); omega))]; exact h5,
      by ((try dsimp only); omega), by ((try dsimp only); omega), by simp only [List.length_cons, List.length_nil] at *; omega, h9, hlow, by simp⟩
  | cons p r =>
    obtain ⟨f, t⟩ := p
    obtain ⟨hq, hg⟩ := h2 (by simp)
    have hqn := h3.lt hg
    simp only [] at hq hqn
    simp only [List.length_cons] at h8 h11
    simp only [addR] at h9
    by_cases hcase : t + 1 = v
    · rw [if_pos hcase] at h9
      simp only [stepR, if_pos hcase]
      exact ⟨by rw [AHeap.get_put_ne _ _ (by ((try dsimp only); omega)), h1]; rfl, fun _ => ⟨hq, by rw [AHeap.get_put_same]; simp [RSt.blk]⟩, h3.put _ hqn (Nat.le_refl _), h4.new hw0 (by ((try dsimp only); omega)) _,
        by rw [AHeap.get_put_ne _ _ (by ((try dsimp only); omega))]; exact h5, h6, by ((try dsimp only); omega), by simp only [List.length_cons]; omega, h9, hlow, by simp only [List.length_cons]; omega⟩
    · rw [if_neg hcase] at h9
      simp only [stepR, if_neg hcase]
      exact ⟨by rw [AHeap.get_put_same]; rfl, fun _ => ⟨hq, by rw [AHeap.get_put_ne _ _ (by ((try dsimp only); omega)), AHeap.get_put_same]; simp [RSt.blk, pairL]⟩,
        ((h3.put _ (by ((try dsimp only); omega)) (Nat.le_succ _)).put _ (by ((try dsimp only); omega)) (Nat.le_refl _)).put _ (by ((try dsimp only); omega)) (Nat.le_refl _),
        hsubc _ ((h4.new hw0 (by ((try dsimp only); omega)) _).new hw0 (by ((try dsimp only); omega)) _),
        by rw [AHeap.get_put_ne _ _ (by ((try dsimp only); omega)), AHeap.get_put_ne _ _ (by ((try dsimp only); omega)), AHeap.get_put_ne _ _ (by ((try dsimp only); omega))]; exact h5,
        by ((try dsimp only); omega), by ((try dsimp only); omega), by simp only [List.length_cons]; omega, h9, hlow, by simp only [List.length_cons]; omega⟩
theorem atR (r : List (Nat × Nat)) (f t : Nat) : List.take 1 (List.drop (r.length * 2 + 1) (pairL (r.reverse ++ [(f, t)]))) = [.int .i64 (t : Int)] := by
  have e : r.length * 2 = (pairL r.reverse).length := by rw [pairL_len]; simp; omega
  rw [pairL_snoc, e, List.drop_append, List.drop_of_length_le (by omega), Nat.add_sub_cancel_left]; rfl
theorem setR (r : List (Nat × Nat)) (f t v : Nat) : List.take (r.length * 2 + 1) (pairL (r.reverse ++ [(f, t)])) ++ .int .i64 (v : Int) :: List.drop (r.length * 2 + 1 + 1) (pairL (r.reverse ++ [(f, t)])) = pairL (r.reverse ++ [(f, v)]) := by
  have e : r.length * 2 = (pairL r.reverse).length := by rw [pairL_len]; simp; omega
  rw [pairL_snoc, pairL_snoc, e, List.take_append, List.drop_append, List.take_of_length_le (by omega), List.drop_of_length_le (by omega), Nat.add_sub_cancel_left, Nat.add_assoc, Nat.add_sub_cancel_left]
  simp
theorem ranges_round {h0 : AHeap} {n0 c N : Nat} (hc : c < n0) (hw0 : WF h0 n0) (hc0 : h0.get c = none) {s : RSt} {v : Nat} {l : List Nat} (hok : okR h0 n0 c N (v :: l) s) :
    HasCode EV14 F10L0A (setPs [(3, .pointer (some ⟨c, 0, some 1⟩))] [8] [.int .i64 (v : Nat)]) s.h s.n (fun e1 σ1 h1 n1 => e1 = .normal ∧ HasCode EV14 F10L0B σ1 h1 n1 (fun e _ hb n' => e = (stepR c s v).1 ∧ hb = (stepR c s v).2.h ∧ n' = (stepR c s v).2.n ∧ (isNorm (stepR c s v).1 = true → okR h0 n0 c N l (stepR c s v).2))) := by
  have hnext := okR_next hc hw0 hc0 hok
  have hv : v < 4096 := hok.low v (.head _)
  have hcell := hok.cell
  have hge := hok.ge
  have hcn : c < s.n := by omega
  have hcn' : ¬ c = s.n := by omega
  refine wx_big (t := ()) ?_
  simp -dsimp (discharger := omega) [F10L0A, setPs]
  refine wx_big (t := ()) ?_
  have hmn := hok.mn
  obtain ⟨rr, q, h, n, mn⟩ := s
  cases rr with
  | nil =>
    simp only [stepR, RSt.val] at *
    simp -dsimp (discharger := omega) [F10L0B, hcell, AHeap.read_of hcell, aFill, aAppend, aElems, repeatCells]
    exact fun _ => hnext
  | cons p r =>
    obtain ⟨f, t⟩ := p
    obtain ⟨hq, hgq⟩ := hok.blk (by simp)
    have hlen := hok.len
    have hle := els_len N
    simp only [RSt.blk, List.reverse_cons, List.length_cons] at hgq hlen
    have hat := atR r f t
    have hpl : (pairL (r.reverse ++ [(f, t)])).length = 2 * r.length + 2 := by rw [pairL_len]; simp; omega
    simp only [List.length_cons] at hq hge hcn hcn' hmn
    have hqc : ¬ q = c := by omega
    have hcq : ¬ c = q := by omega
    have hqn := hok.wf.lt hgq
    simp only [] at hqn
    by_cases hcase : t + 1 = v
    · simp only [stepR, if_pos hcase, RSt.val] at *
      have ht : ((t : Int) == (v : Int) - 1) = true := by simp; omega
      have hst := setR r f t v
      generalize pairL (r.reverse ++ [(f, t)]) = P at *
      generalize pairL (r.reverse ++ [(f, v)]) = P' at *
      simp -dsimp (discharger := omega) [F10L0B, AHeap.read_of hcell, hgq, AHeap.read_of hgq, hat, hpl, ht, hst]
      exact fun _ => hnext
    · simp only [stepR, if_neg hcase, RSt.val] at *
      have ht : ((t : Int) == (v : Int) - 1) = false := by simp; omega
      generalize pairL (r.reverse ++ [(f, t)]) = P at *
      simp -dsimp (discharger := omega) [F10L0B, hcell, AHeap.read_of hcell, hgq, AHeap.read_of hgq, hat, hpl, ht, aFill, aAppend, aElems, repeatCells]
      exact fun _ => hnext
theorem run_norm {S : Type} {step : S → Nat → Ex × S} {ok : List Nat → S → Prop} (hstep : ∀ s v l, ok (v :: l) s → (step s v).1 = .normal ∧ ok l (step s v).2) : ∀ (l : List Nat) (s : S), ok l s → (runR step l s).1 = .normal ∧ ok [] (runR step l s).2
  | [], s, h => ⟨rfl, h⟩
  | v :: l, s, h => by
    obtain ⟨h1, h2⟩ := hstep s v l h
    rw [runR, h1]
    exact run_norm hstep l _ h2
theorem stepR_norm (c : Nat) (s : RSt) (v : Nat) : (stepR c s v).1 = .normal := by
  unfold stepR
  split
  · rfl
  · split <;> rfl
def FV14 : Env := rangesEnv EV14
/-- A slice of ranges. -/
def RgV (h : AHeap) (v : Value) (rr : List (Nat × Nat)) : Prop :=
  rr = [] ∧ v = .slice none 0 0 ∨ rr ≠ [] ∧ ∃ q mn, mn ≤ 2 * rr.length ∧ v = .slice (some ⟨q, 0, some (2 * rr.length)⟩) rr.length 4 ∧ h.get q = some (.cells (some 35) (pairL rr.reverse) mn)
/-- What Ranges tells, and lays. -/
def RgR (n : Nat) (v : Value) (bs : List (Nat × Blk)) (n' : Nat) (rr : List (Nat × Nat)) : Prop :=
  n' ≤ n + 8210 ∧ n ≤ n' ∧ (rr = [] ∧ v = .slice none 0 0 ∧ bs = [] ∨ rr ≠ [] ∧ ∃ q mn, n ≤ q ∧ q < n' ∧ mn ≤ 2 * rr.length ∧ v = .slice (some ⟨q, 0, some (2 * rr.length)⟩) rr.length 4 ∧ bs = [(q, .cells (some 35) (pairL rr.reverse) mn)])
theorem each_ret (N : Nat) (h : AHeap) (n : Nat) : Ret EV14 24 [.agg (wv N).toArray] h n (.func (.func 38) #[] #[.pointer (some ⟨n, 0, some 64⟩)]) [(n, .cells (some 26) (wv N) 64)] (n + 1) := by
  refine rsx24 (by simp) (by simp) ?_
  simp -dsimp (discharger := omega) [B24, HSub.refl]
theorem ret_f14 {f : Nat} {args : List Value} {h : AHeap} {n : Nat} {v : Value} {l : List (Nat × Blk)} {n' : Nat} (x : Ret EV14 f args h n v l n') : Ret FV14 f args h n v l n' := Ret.ranged (fs := fs14) (ps := ps14) x
theorem ranges_ret (N : Nat) {h : AHeap} {n : Nat} (hw : WF h n) (ht : HasTab h) (hn : 4096 ≤ n) : ∃ v bs n', RgR n v bs n' (rangesR N) ∧ Ret FV14 10 [.agg (wv N).toArray] h n v bs n' := by
  obtain ⟨H, hH⟩ : ∃ H, H = ((h.put n (.cells (some 26) (wv N) 64)).put (n + 1) (.cells (some 32) [.slice none 0 0] 1)).put (n + 2) (.cells (some 26) (wv N) 64) := ⟨_, rfl⟩
  obtain ⟨s0, hs0⟩ : ∃ s0 : RSt, s0 = ⟨[], 0, H, n + 5, 0⟩ := ⟨_, rfl⟩
  have hok0 : okR h (n + 3) (n + 1) N (els N) s0 := by
    subst hs0
    refine ⟨?_, fun x => absurd rfl x, ?_, ?_, ?_, Nat.le_refl _, Nat.le_refl _, by simp, rfl, fun v hv => (els_lt hv).1, Nat.zero_le _⟩
    · simp only [hH]; rw [AHeap.get_put_ne _ _ (by omega), AHeap.get_put_same]; rfl
    · simp only [hH]
      exact ((hw.put (m := n + 1) _ (by omega) (by omega)).put (m := n + 2) _ (by omega) (by omega)).put (m := n + 5) _ (by omega) (by omega)
    · simp only [hH]
      refine (((HSub.refl h).new hw ?_ _).new hw ?_ _).new hw ?_ _ <;> omega
    · simp only [hH]; rw [AHeap.get_put_ne _ _ (by omega), AHeap.get_put_ne _ _ (by omega), AHeap.get_put_ne _ _ (by omega)]; exact hw _ (by omega)
  have hw0 : WF h (n + 3) := hw.mono (by omega)
  have hc0 : h.get (n + 1) = none := hw _ (by omega)
  obtain ⟨hnorm, hfin⟩ := run_norm (step := stepR (n + 1)) (ok := okR h (n + 3) (n + 1) N) (fun s v l hk => ⟨stepR_norm _ s v, okR_next (by omega) hw0 hc0 hk⟩) (els N) s0 hok0
  obtain ⟨s', hs'⟩ : ∃ s', s' = (runR (stepR (n + 1)) (els N) s0).2 := ⟨_, rfl⟩
  rw [← hs'] at hfin
  have hrr : s'.rr = rangesR N := hfin.fold
  have hlen := els_len N
  have hle := hfin.le
  simp only [List.length_nil] at hle
  have hge := hfin.ge
  have hv : RgR n s'.val (if s'.rr = [] then [] else [(s'.q, s'.blk)]) s'.n (rangesR N) := by
    refine ⟨by omega, by omega, ?_⟩
    rw [← hrr]
    cases hr : s'.rr with
    | nil => exact .inl ⟨rfl, by rw [RSt.val, hr], by simp⟩
    | cons p r =>
      obtain ⟨hq, hg⟩ := hfin.blk (by rw [hr]; simp)
      have := hfin.wf.lt hg
      refine .inr ⟨by simp, s'.q, s'.mn, by omega, this, hr ▸ hfin.mn, ?_, ?_⟩
      · rw [RSt.val, hr]; simp only [List.length_cons]; rw [show 2 * (r.length + 1) = 2 * r.length + 2 by omega]
      · rw [if_neg (by simp), RSt.blk, hr]
  refine ⟨s'.val, _, s'.n, hv, ?_⟩
  have hcell := hfin.cell
  have hsub : HSub (putsL h (if s'.rr = [] then [] else [(s'.q, s'.blk)])) s'.h := by
    split
    · exact hfin.sub
    · rename_i hr
      obtain ⟨hq, hg⟩ := hfin.blk hr
      exact .ofE (.left (.inr (by simpa using hg)) (fun i b _ hb => hfin.sub i b hb))
  refine wret_of (E := FV14) (af := F10) rfl (by simp [F10]) (by split <;> simp) (by
    intro i hi
    split at hi
    · simp at hi
    · rename_i hr
      obtain ⟨hq, hg⟩ := hfin.blk hr
      have := hfin.wf.lt hg
      simp at hi
      subst hi
      right; omega) ?_
  simp -dsimp (discharger := omega) [F10, B10, take_wv]
  with_reducible refine call_ret (ret_f14 (each_ret N _ _)) ?_
  simp -dsimp (discharger := omega) []
  refine range_each (fun s : RSt => s.h) (fun s : RSt => s.n) (stepR (n + 1)) (okR h (n + 3) (n + 1) N) (N := N) (p := n + 2) s0 (by rw [hs0, hH]) (by rw [hs0]) (by omega) rfl (by simp) [(3, .pointer (some ⟨n + 1, 0, some 1⟩))] (by simp) hok0 (fun l s hk => hk.sub _ _ ht) (fun l s hk => hk.none) (fun s v l hk hv => ranges_round (by omega) hw0 hc0 hk) ?_ ?_
  · rw [← hs']; exact hfin.none
  · rw [← hs', hnorm]
    simp -dsimp (discharger := omega) [AHeap.read_of hcell]
    exact ⟨[s'.val], rfl, rfl, hsub⟩
end
end Go.Proofs.YtbgjcoochdljfaaDoorR.Am
