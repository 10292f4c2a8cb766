/- Contracts of the program's functions (X23). -/
import Derived.Test.YtbgjcoochdljfaaDoorRX22
import Derived.Test.YtbgjcoochdljfaaDoorRX8
import Derived.Test.YtbgjcoochdljfaaDoorRLVu
namespace Go.Proofs.YtbgjcoochdljfaaDoorR.Am
noncomputable section
/- CONTRACT: the document's Ranges. -/
theorem wret_exL {E : Env} {f : Nat} {af : AFunc} {args : List Value} {h : AHeap} {n : Nat} {P : Value → List (Nat × Blk) → Nat → Prop} (hf : E.fs f = some af) (ha : args.length ≤ af.ntmps)
    (hx : wx E af.body (argFr 0 args) h n (Done af.results (fun v1 h1 n1 => ∃ l, P v1 l n1 ∧ (l.map (·.1)).Nodup ∧ (∀ i, i ∈ l.map (·.1) → (h.get i).isSome ∨ n ≤ i ∧ i < n1) ∧ HSub (putsL h l) h1)) ()) : ∃ v l n', P v l n' ∧ Ret E f args h n v l n' := by
  obtain ⟨e, σ', h1, n1, hb, he, vs, hvs, l, hP, hnd, hids, hsub⟩ := wx_big hx
  exact ⟨_, l, n1, hP, .lift (.call hf ha hb he hvs hsub) (Nat.le_refl _), hnd, hids⟩
theorem elsP_succ (p : Nat → Bool) (m : Nat) : elsP p (m + 1) = elsP p m ++ (if p m then [m] else []) := by
  unfold elsP
  rw [List.range_succ, List.filter_append]
  cases h : p m <;> simp [h]
theorem elsP_run {p : Nat → Bool} {j : Nat} : ∀ k, (∀ i, j ≤ i → i < j + k → p i = true) → elsP p (j + k) = elsP p j ++ List.range' j k
  | 0, _ => by simp
  | k + 1, h => by
    rw [← Nat.add_assoc, elsP_succ, elsP_run k (fun i h1 h2 => h i h1 (by omega)), h (j + k) (by omega) (by omega), if_pos rfl, List.append_assoc, List.range'_concat (step := 1), Nat.one_mul]
theorem foldRun (f : Nat) (r : List (Nat × Nat)) : ∀ (k t : Nat), (List.range' (t + 1) k).foldl addR ((f, t) :: r) = (f, t + k) :: r
  | 0, t => rfl
  | k + 1, t => by
    rw [List.range'_succ, List.foldl_cons, addR, if_pos rfl, foldRun f r k (t + 1)]
    congr 2; omega
/-- The ranges below a number, newest first. -/
def drr (N j : Nat) : List (Nat × Nat) := (elsP (N.testBit ·) j).foldl addR []
theorem elsP_rise (p : Nat → Bool) (m : Nat) : (elsP p m).Pairwise (· < ·) := List.Pairwise.filter _ List.pairwise_lt_range
theorem elsP_mem {p : Nat → Bool} {m i : Nat} : i ∈ elsP p m ↔ i < m ∧ p i = true := by
  unfold elsP; rw [List.mem_filter, List.mem_range]
theorem drr_good {N : Nat} (hN : Vs N) (j : Nat) : RGood (drr N j) ∧ ∀ i, InR (drr N j) i ↔ i < j ∧ N.testBit i = true := by
  obtain ⟨h1, h2, _⟩ := addR_all (l := elsP (N.testBit ·) j) (rr := []) ⟨.nil, by simp⟩ (elsP_rise _ _) (fun v hv => hN v (elsP_mem.1 hv).2) (by simp)
  refine ⟨h1, fun i => ?_⟩
  rw [drr, h2 i, elsP_mem]
  constructor
  · rintro (⟨p, hp, _⟩ | h)
    · simp at hp
    · exact h
  · exact .inr
theorem drr_skip {N j : Nat} (h : N.testBit j = false) : drr N (j + 1) = drr N j := by
  rw [drr, elsP_succ, h]; simp [drr]
theorem drr_run {N j t : Nat} (hN : Vs N) (hj : 1 ≤ j) (h0 : N.testBit (j - 1) = false) (hjt : j ≤ t) (hb : ∀ i, j ≤ i → i ≤ t → N.testBit i = true) : drr N (t + 1) = (j, t) :: drr N j := by
  obtain ⟨⟨_, g1⟩, g2⟩ := drr_good hN j
  have e1 : addR (drr N j) j = (j, j) :: drr N j := by
    cases hd : drr N j with
    | nil => rfl
    | cons p r =>
      obtain ⟨f, u⟩ := p
      have hp := g1 (f, u) (by rw [hd]; exact .head _)
      have hin : InR (drr N j) u := ⟨(f, u), by rw [hd]; exact .head _, by simp only at hp ⊢; omega⟩
      have := (g2 u).1 hin
      rw [addR, if_neg fun e => by
        have e' : j - 1 = u := by omega
        rw [e', this.2] at h0; cases h0]
  have e2 : elsP (N.testBit ·) (t + 1) = elsP (N.testBit ·) j ++ List.range' j (t - j + 1) := by
    have := elsP_run (p := (N.testBit ·)) (j := j) (t - j + 1) (fun i h1 h2 => hb i h1 (by omega))
    rw [show j + (t - j + 1) = t + 1 by omega] at this
    exact this
  rw [drr, e2, List.foldl_append, List.range'_succ, List.foldl_cons]
  show (List.range' (j + 1) (t - j)).foldl addR (addR (drr N j) j) = _
  rw [e1, foldRun, show j + (t - j) = t by omega]
theorem drr_one {N : Nat} (hN : Vs N) : drr N 1 = [] := by
  rw [drr, elsP_succ, bit_out hN (by omega)]; rfl
theorem drr_end {N : Nat} (hN : Vs N) {j : Nat} (hj : 4095 ≤ j) (hj2 : j ≤ 4096) : drr N j = rangesR N := by
  rcases (show j = 4095 ∨ j = 4096 by omega) with rfl | rfl
  · exact (drr_skip (bit_out hN (by omega))).symm
  · rfl
/- A slice of pairs that is appended to. -/
def PrsV (n0 : Nat) (h : AHeap) (v : Value) (rs : List (Nat × Nat)) : Prop :=
  rs = [] ∧ v = .slice none 0 0 ∨ ¬ rs = [] ∧ ∃ q : Nat, n0 ≤ q ∧ v = .slice (some ⟨q, 0, some (2 * rs.length)⟩) rs.length 4 ∧ h.get q = some (.cells (some 70) (pairL rs) 2)
theorem PrsV.mono {n0 : Nat} {h h' : AHeap} (hs : HSub h h') {v : Value} {rs : List (Nat × Nat)} (x : PrsV n0 h v rs) : PrsV n0 h' v rs := by
  rcases x with x | ⟨hne, q, hq, e, hg⟩
  · exact .inl x
  · exact .inr ⟨hne, q, hq, e, hs _ _ hg⟩
theorem prs_append {n0 : Nat} {h0 h : AHeap} {n : Nat} {v : Value} {rs : List (Nat × Nat)} {f u : Nat} (hw0 : WF h0 n0) (hs : HSub h0 h) (hw : WF h n) (hn : n0 ≤ n) (hl : rs.length ≤ 10000) (hS : PrsV n0 h v rs)
    {K : Option Value → AHeap → Nat → Prop} {t : Tok K} (hK : ∀ v' h' n', PrsV n0 h' v' (rs ++ [(f, u)]) → HSub h0 h' → WF h' n' → n ≤ n' → n' ≤ n + 2 → K (some v') h' n') :
    Runs (aAppend (h.put n (.cells (some 70) [.int .i64 (f : Int), .int .i64 (u : Int)] 2)) (n + 1) 70 2 16 v (.slice (some ⟨n, 0, some 2⟩) 1 4)) (n + 1) K t := by
  have hs1 := hs.new hw0 hn (.cells (some 70) [.int .i64 (f : Int), .int .i64 (u : Int)] 2)
  have hw1 : WF (h.put n (.cells (some 70) [.int .i64 (f : Int), .int .i64 (u : Int)] 2)) (n + 1) := hw.put _ (by omega) (by omega)
  rcases hS with ⟨rfl, rfl⟩ | ⟨hne, q, hq, rfl, hg⟩
  · have hK := hK (.slice (some ⟨n + 1, 0, some 2⟩) 1 4) ((h.put n (.cells (some 70) [.int .i64 (f : Int), .int .i64 (u : Int)] 2)).put (n + 1) (.cells (some 70) [.int .i64 (f : Int), .int .i64 (u : Int)] 2)) (n + 2) (.inr ⟨by simp, n + 1, by omega, rfl, by simp [pairL]⟩) (hs1.new hw0 (by omega) _) (hw1.put _ (by simp) (by simp)) (by omega) (by omega)
    simp [aAppend, aElems]
    exact hK
  · have hp : 0 < rs.length := List.length_pos_iff.2 hne
    have hqn := hw.lt hg
    have hpl := pairL_len rs
    have hK := hK (.slice (some ⟨q, 0, some (2 * (rs ++ [(f, u)]).length)⟩) (rs ++ [(f, u)]).length 4) ((h.put n (.cells (some 70) [.int .i64 (f : Int), .int .i64 (u : Int)] 2)).put q (.cells (some 70) (pairL (rs ++ [(f, u)])) 2)) (n + 1) (.inr ⟨by simp, q, hq, rfl, by simp⟩) (hs1.new hw0 hq _) (hw1.put _ (by omega) (by omega)) (by omega) (by omega)
    rw [pairL_snoc] at hK
    simp (discharger := omega) [aAppend, aElems, hg, hpl]
    simpa [Nat.mul_add] using hK
def DiInv (N i j : Nat) (v : Value) (h0 : AHeap) (n0 r : Nat) (σ : Fr) (h : AHeap) (n : Nat) : Prop :=
  n = n0 ∧ h = h0 ∧ ∃ t : Nat, t + r = 4094 ∧ j ≤ t ∧ (∀ k, j ≤ k → k ≤ t → N.testBit k = true) ∧ σ = [(1, .pointer (some ⟨i, 0, some 4096⟩)), (3, v), (4, .int .i64 (t : Int)), (5, .int .i64 (j : Int))]
def DiPost (N i j : Nat) (v : Value) (h0 : AHeap) (n0 : Nat) (e : Ex) (σ' : Fr) (h' : AHeap) (n' : Nat) : Prop :=
  n' = n0 ∧ h' = h0 ∧ e = .exit 2 ∧ ∃ t : Nat, t ≤ 4094 ∧ j ≤ t ∧ (∀ k, j ≤ k → k ≤ t → N.testBit k = true) ∧ N.testBit (t + 1) = false ∧ σ'.get 1 = some (.pointer (some ⟨i, 0, some 4096⟩)) ∧ σ'.get 3 = some v ∧ σ'.get 4 = some (.int .i64 (t : Int)) ∧ σ'.get 5 = some (.int .i64 (j : Int))
theorem din_loop {N i j : Nat} (hN : Vs N) {v : Value} {h0 : AHeap} (hg : h0.get i = some (.cells (some 45) (bv N) 4096)) {n0 : Nat} :
    ∀ (m : Nat) (σ : Fr) (h : AHeap) (n : Nat), DiInv N i j v h0 n0 m σ h n → HasCode EV14 (.loop F35L0) σ h n (DiPost N i j v h0 n0) := by
  refine wx_inv _ fun m σ h n hI => ?_
  obtain ⟨rfl, rfl, t, ht, hjt, hb, rfl⟩ := hI
  have hlt : t + 1 < 4096 := by omega
  have e1 : List.take 1 (List.drop (t + 1) (bv N)) = [.bool (N.testBit (t + 1))] := bvf_at _ hlt
  cases hx : N.testBit (t + 1) with
  | false =>
    rw [hx] at e1
    have fin : ∀ {σ : Fr}, σ.get 1 = some (.pointer (some ⟨i, 0, some 4096⟩)) → σ.get 3 = some v → σ.get 4 = some (.int .i64 (t : Int)) → σ.get 5 = some (.int .i64 (j : Int)) → DiPost N i j v h n (.exit 2) σ h n := fun a b c d => ⟨rfl, rfl, rfl, t, by omega, hjt, hb, hx, a, b, c, d⟩
    simp -dsimp (discharger := omega) [F35L0, AHeap.read_of hg, e1]
    exact fin rfl rfl rfl rfl
  | true =>
    have := hN _ hx
    rw [hx] at e1
    have hb' : ∀ k, j ≤ k → k ≤ t + 1 → N.testBit k = true := fun k h1 h2 => by
      by_cases e : k = t + 1
      · rw [e]; exact hx
      · exact hb k h1 (by omega)
    have fin : ∀ {tk : Tok (DiInv N i j v h n)} {σ : Fr}, FSubL [(1, .pointer (some ⟨i, 0, some 4096⟩)), (3, v), (4, .int .i64 ((t + 1 : Nat) : Int)), (5, .int .i64 (j : Int))] σ → Again (DiInv N i j v h n) m σ h n tk := fun hσ =>
      .mk' (4094 - (t + 1)) (by omega) _ _ hσ (.refl _) ⟨rfl, rfl, t + 1, by omega, by omega, hb', rfl⟩
    simp -dsimp (discharger := omega) [F35L0, AHeap.read_of hg, e1]
    exact fin (by simp)
def DrInv (N i : Nat) (h0 : AHeap) (n0 r : Nat) (σ : Fr) (h : AHeap) (n : Nat) : Prop :=
  ∃ (j : Nat) (v : Value), j + r = 4096 ∧ 1 ≤ j ∧ (N.testBit j = false ∨ N.testBit (j - 1) = false) ∧ HSub h0 h ∧ WF h n ∧ n0 ≤ n ∧ n ≤ n0 + 2 * j ∧ PrsV n0 h v (drr N j).reverse ∧ σ = [(1, .pointer (some ⟨i, 0, some 4096⟩)), (3, v), (4, .int .i64 (j : Int))]
def DrPost (N : Nat) (h0 : AHeap) (n0 : Nat) (e : Ex) (σ' : Fr) (h' : AHeap) (n' : Nat) : Prop :=
  e = .exit 0 ∧ ∃ v, HSub h0 h' ∧ WF h' n' ∧ n0 ≤ n' ∧ n' ≤ n0 + 8192 ∧ PrsV n0 h' v (rangesR N).reverse ∧ σ'.get 3 = some v
theorem drr_len (N j : Nat) (hj : j ≤ 4096) : (drr N j).length ≤ 4096 := by
  have h1 := addR_len (l := elsP (N.testBit ·) j) (rr := [])
  have h2 : (elsP (N.testBit ·) j).length ≤ j := by
    have := List.length_filter_le (N.testBit ·) (List.range j)
    simpa [elsP] using this
  unfold drr; simp only [List.length_nil] at h1; omega
theorem dr_loop {N i : Nat} (hN : Vs N) {h0 : AHeap} (hg0 : h0.get i = some (.cells (some 45) (bv N) 4096)) {n0 : Nat} (hw0 : WF h0 n0) :
    ∀ (m : Nat) (σ : Fr) (h : AHeap) (n : Nat), DrInv N i h0 n0 m σ h n → HasCode EV14 (.loop F35L1) σ h n (DrPost N h0 n0) := by
  refine wx_inv _ fun m σ h n hI => ?_
  obtain ⟨j, v, hj, hj1, hbj, hs, hw, hn, hn1, hP, rfl⟩ := hI
  have hg := hs _ _ hg0
  have hin := hw.lt hg
  by_cases hend : 4095 ≤ j
  · rw [drr_end hN hend (by omega)] at hP
    have fin : ∀ {σ : Fr}, σ.get 3 = some v → DrPost N h0 n0 (.exit 0) σ h n := fun a => ⟨rfl, v, hs, hw, hn, by omega, hP, a⟩
    have h1 : ¬ ((j : Int) ≤ 4094) := by omega
    simp -dsimp (discharger := omega) [F35L1, h1]
    exact fin rfl
  · have h1 : ((j : Int) ≤ 4094) := by omega
    have hlt : j < 4096 := by omega
    have e1 : List.take 1 (List.drop j (bv N)) = [.bool (N.testBit j)] := bvf_at _ hlt
    cases hx : N.testBit j with
    | false =>
      rw [hx] at e1
      have fin : ∀ {tk : Tok (DrInv N i h0 n0)} {σ : Fr}, FSubL [(1, .pointer (some ⟨i, 0, some 4096⟩)), (3, v), (4, .int .i64 ((j + 1 : Nat) : Int))] σ → Again (DrInv N i h0 n0) m σ h n tk := fun hσ =>
        .mk' (4096 - (j + 1)) (by omega) _ _ hσ (.refl _) ⟨j + 1, v, by omega, by omega, .inr (by rw [Nat.add_sub_cancel]; exact hx), hs, hw, hn, by omega, by rw [drr_skip hx]; exact hP, rfl⟩
      simp -dsimp (discharger := omega) [F35L1, AHeap.read_of hg, e1, h1]
      exact fin (by simp)
    | true =>
      rw [hx] at e1
      have hb0 : N.testBit (j - 1) = false := hbj.resolve_left (by rw [hx]; decide)
      simp -dsimp (discharger := omega) [F35L1, AHeap.read_of hg, e1, h1]
      refine loop_use (din_loop (N := N) (i := i) (j := j) hN (v := v) hg (n0 := n) (4094 - j) _ _ _ ⟨rfl, rfl, j, by omega, Nat.le_refl _, fun k h1 h2 => by rw [show k = j by omega]; exact hx, rfl⟩) (by simp) (.refl _) ?_
      rintro e σ' h' n' ⟨rfl, rfl, rfl, t, ht, hjt, hbt, hbe, q1, q3, q4, q5⟩
      have hrun := drr_run hN hj1 hb0 hjt hbt
      have hrl := drr_len N j (by omega)
      simp -dsimp (discharger := omega) [q3, q4, q5, aFill, repeatCells]
      refine prs_append hw0 hs hw hn (by rw [List.length_reverse]; omega) hP fun v' h2 n2 a b c d e => ?_
      have fin : ∀ {tk : Tok (DrInv N i h0 n0)} {σ : Fr}, FSubL [(1, .pointer (some ⟨i, 0, some 4096⟩)), (3, v'), (4, .int .i64 ((t + 1 : Nat) : Int))] σ → Again (DrInv N i h0 n0) m σ h2 n2 tk := fun hσ =>
        .mk' (4096 - (t + 1)) (by omega) _ _ hσ (.refl _) ⟨t + 1, v', by omega, by omega, .inl hbe, b, c, by omega, by omega, by rw [hrun, List.reverse_cons]; exact a, rfl⟩
      simp -dsimp (discharger := omega) [q4]
      exact fin (by simp [q1])
/-- What it tells, and lays. -/
def DgR (n : Nat) (v : Value) (bs : List (Nat × Blk)) (n' : Nat) (rr : List (Nat × Nat)) : Prop :=
  n' ≤ n + 8200 ∧ n ≤ n' ∧ (rr = [] ∧ v = .slice none 0 0 ∧ bs = [] ∨ rr ≠ [] ∧ ∃ q, n ≤ q ∧ q < n' ∧ v = .slice (some ⟨q, 0, some (2 * rr.length)⟩) rr.length 4 ∧ bs = [(q, .cells (some 70) (pairL rr.reverse) 2)])
theorem dranges_ret {N : Nat} (hN : Vs N) {h : AHeap} {n : Nat} (hw : WF h n) : ∃ v bs n', DgR n v bs n' (rangesR N) ∧ Ret EV14 35 [.agg (bv N).toArray] h n v bs n' := by
  have hw1 : WF (h.put n (.cells (some 45) (bv N) 4096)) (n + 1) := hw.put _ (by omega) (by omega)
  have hs1 : HSub h (h.put n (.cells (some 45) (bv N) 4096)) := (HSub.refl h).new hw (Nat.le_refl _) _
  refine wret_exL (P := fun v bs n' => DgR n v bs n' (rangesR N)) (af := F35) rfl (by show 1 ≤ 30; omega) ?_
  simp -dsimp (discharger := omega) [F35, B35, -List.reduceReplicate]
  refine loop_use (dr_loop (i := n) hN (h0 := h.put n (.cells (some 45) (bv N) 4096)) (by rw [AHeap.get_put_same]) hw1 4095 _ _ _ ⟨1, .slice none 0 0, rfl, Nat.le_refl _, .inr (bit_out hN (by omega)), .refl _, hw1, Nat.le_refl _, by omega, .inl ⟨by rw [drr_one hN]; rfl, rfl⟩, rfl⟩) (by simp) (.refl _) ?_
  rintro e σ' h' n' ⟨rfl, v, hs, hw', hn, hn', hP, q3⟩
  simp -dsimp (discharger := omega) [q3]
  rcases hP with ⟨hr, rfl⟩ | ⟨hne, q, hq, rfl, hg⟩
  · refine ⟨_, rfl, [], ⟨by omega, by omega, .inl ⟨by simpa using hr, rfl, rfl⟩⟩, by simp, by simp, ?_⟩
    exact fun a b hb => hs _ _ (hs1 _ _ hb)
  · have hqn := hw'.lt hg
    refine ⟨_, rfl, [(q, .cells (some 70) (pairL (rangesR N).reverse) 2)], ⟨by omega, by omega, .inr ⟨by simpa using hne, q, by omega, hqn, by simp, rfl⟩⟩, by simp, fun i b hi => ?_, ?_⟩
    · simp at hi
      obtain ⟨rfl, -⟩ := hi
      right; omega
    · refine .ofE (.left (.inr (by simpa using hg)) (fun a b _ hb => hs _ _ (hs1 _ _ hb)))
end
end Go.Proofs.YtbgjcoochdljfaaDoorR.Am
