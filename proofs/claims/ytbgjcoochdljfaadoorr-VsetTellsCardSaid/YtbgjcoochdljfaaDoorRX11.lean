/- Contracts of the program's functions (X11). -/
import Derived.Test.YtbgjcoochdljfaaDoorRX10
import Derived.Test.YtbgjcoochdljfaaDoorRLP
namespace Go.Proofs.YtbgjcoochdljfaaDoorR.Am
noncomputable section
/- CONTRACT: a text read. -/
def parseG : List (List UInt8) → Bool → Nat → Nat × Nat
  | [], w, N => if w then (0, 24) else (N, 0)
  | p :: l, w, N => if partB p then parseG l (w || decide (4094 < (partN p).2) || decide ((partN p).2 < (partN p).1)) (N ||| rng (partN p).1 (partN p).2) else (0, 5)
def parseN (s : List UInt8) : Nat × Nat := if s = [110, 111, 110, 101] then (0, 0) else if s = [97, 108, 108] then (allN, 0) else parseG (splitL 44 s) false 0
def PrInv (ps : List (List UInt8)) (i j q mn : Nat) (h0 : AHeap) (n0 : Nat) (R : Nat × Nat) (r : Nat) (σ : Fr) (h : AHeap) (n : Nat) : Prop :=
  ∃ (k : Nat) (w : Bool) (N : Nat), k + r = ps.length ∧ parseG (ps.drop k) w N = R ∧ HSub h0 h ∧ WF h n ∧ n0 ≤ n ∧ n ≤ n0 + 20 * k ∧ h.get i = some (.cells (some 26) (wv N) 64) ∧ h.get j = some (.cells (some 26) (wv 0) 64) ∧ h.get q = some (.cells (some 9) (strsL ps) mn) ∧
    σ = [(2, .pointer (some ⟨j, 0, some 64⟩)), (4, .pointer (some ⟨i, 0, some 64⟩)), (5, .bool w), (18, .slice (some ⟨q, 0, some ps.length⟩) ps.length 2), (19, .int .i64 (ps.length : Int)), (20, .int .i64 (k : Int))]
def PrPost (i j : Nat) (h0 : AHeap) (n0 m : Nat) (R : Nat × Nat) (e : Ex) (σ' : Fr) (h' : AHeap) (n' : Nat) : Prop :=
  HSub h0 h' ∧ n' ≤ n0 + 20 * m ∧ h'.get j = some (.cells (some 26) (wv 0) 64) ∧ σ'.get 2 = some (.pointer (some ⟨j, 0, some 64⟩)) ∧
  ((e = .exit 1 ∧ ∃ (w : Bool) (N : Nat), R = (if w then (0, 24) else (N, 0)) ∧ h'.get i = some (.cells (some 26) (wv N) 64) ∧ σ'.get 4 = some (.pointer (some ⟨i, 0, some 64⟩)) ∧ σ'.get 5 = some (.bool w)) ∨
   (e = .ret ∧ R = (0, 5) ∧ σ'.get 3 = some (.int .i64 5)))
theorem parse_loop {ps : List (List UInt8)} (hl : ps.length < 100000) (hps : ∀ p ∈ ps, p.length < 100000) {i j q mn : Nat} (hij : i ≠ j) (hiq : i ≠ q) (_hjq : j ≠ q) (hmn : mn ≤ ps.length) {h0 : AHeap} {n0 : Nat} (he : HasErrs h0) (hi0 : h0.get i = none) (hj0 : h0.get j = none) (hn0 : 4096 ≤ n0) (_hin : i < n0) (_hjn : j < n0) (_hqn : q < n0) (_hw0 : ∀ k, n0 ≤ k → h0.get k = none) {R : Nat × Nat} :
    ∀ (m : Nat) (σ : Fr) (h : AHeap) (n : Nat), PrInv ps i j q mn h0 n0 R m σ h n → HasCode EV14 (.loop F8L0) σ h n (PrPost i j h0 n0 ps.length R) := by
  refine wx_inv _ fun m σ h n hI => ?_
  obtain ⟨k, w, N, hk, hR, hs, hw, hn, hn1, hgi, hgj, hgq, rfl⟩ := hI
  cases m with
  | zero =>
    have e : ps.drop k = [] := List.drop_of_length_le (by omega)
    rw [e, parseG] at hR
    have fin : ∀ {σ : Fr}, σ.get 2 = some (.pointer (some ⟨j, 0, some 64⟩)) → σ.get 4 = some (.pointer (some ⟨i, 0, some 64⟩)) → σ.get 5 = some (.bool w) → PrPost i j h0 n0 ps.length R (.exit 1) σ h n := fun a b c => ⟨hs, by omega, hgj, a, .inl ⟨rfl, w, N, hR.symm, hgi, b, c⟩⟩
    simp -dsimp (discharger := omega) [F8L0]
    exact fin rfl rfl rfl
  | succ m =>
    obtain ⟨p, hx⟩ : ∃ p, ps[k]? = some p := ⟨_, List.getElem?_eq_getElem (by omega)⟩
    have hpl := hps p (List.mem_of_getElem? hx)
    have hdr : ps.drop k = p :: ps.drop (k + 1) := by
      obtain ⟨hlt, rfl⟩ := List.getElem?_eq_some_iff.1 hx
      exact List.drop_eq_getElem_cons hlt
    rw [hdr, parseG] at hR
    obtain ⟨v, ⟨x, y, rfl, hx1, hy1, hxy⟩, hr⟩ := part_ret hpl hw (he.sub hs) (by omega)
    have hq1 := strsL_get? hx
    have ht1 := take1 hq1
    have hsl : (strsL ps).length = ps.length := by simp [strsL]
    have hk1 : k + 1 ≤ ps.length := by omega
    -- the heap behind the part
    obtain ⟨H, hH⟩ : ∃ H, H = (h.put (n + 7) (.cells (some 35) [.int .i64 0, .int .i64 0] 2)).put (n + 7) (.cells (some 35) [.int .i64 (x : Int), .int .i64 (y : Int)] 2) := ⟨_, rfl⟩
    have gH : ∀ a b, h.get a = some b → H.get a = some b := fun a b hb => by
      have := hw.lt hb
      rw [hH, AHeap.get_put_ne _ _ (by omega), AHeap.get_put_ne _ _ (by omega)]; exact hb
    have hHn : H.get (n + 7) = some (.cells (some 35) [.int .i64 (x : Int), .int .i64 (y : Int)] 2) := by rw [hH, AHeap.get_put_same]
    have hsH : HSub h0 H := fun a b hb => gH a b (hs a b hb)
    have hwH : WF H (n + 8) := by rw [hH]; exact (hw.put (m := n + 8) _ (by omega) (by omega)).put _ (by omega) (Nat.le_refl _)
    have hHi := gH _ _ hgi
    have hHj := gH _ _ hgj
    have hHq := gH _ _ hgq
    have hin' := hw.lt hgi
    have hjn' := hw.lt hgj
    have hwi := with_ret N (a := (x : Int)) (b := (y : Int)) (by omega) (by omega) (by omega) (by omega) hwH
    simp -dsimp (discharger := omega) [F8L0, AHeap.read_of hgq, ht1, hsl, hmn, hk1]
    with_reducible refine call_ret hr ?_
    simp -dsimp (discharger := omega) []
    rw [← hH]
    cases hb : partB p with
    | false =>
      rw [hb] at hR
      have fin : ∀ {σ : Fr} {h' : AHeap}, h' = H.put j (.cells (some 26) (wv 0) 64) → σ.get 2 = some (.pointer (some ⟨j, 0, some 64⟩)) → σ.get 3 = some (.int .i64 5) → PrPost i j h0 n0 ps.length R .ret σ h' (n + 8) := fun a b c => by
        subst a
        exact ⟨.put_new _ hj0 hsH, by omega, by rw [AHeap.get_put_same], b, .inr ⟨rfl, hR.symm, c⟩⟩
      simp -dsimp (discharger := omega) [aFill, -List.reduceReplicate, hHj, drop_wv]
      exact fin rfl rfl rfl
    | true =>
      obtain ⟨rfl, rfl⟩ := hxy hb
      rw [hb] at hR
      simp only [if_true] at hR
      have fin : ∀ {tk : Tok (PrInv ps i j q mn h0 n0 R)} {σ : Fr}, FSubL [(2, .pointer (some ⟨j, 0, some 64⟩)), (4, .pointer (some ⟨i, 0, some 64⟩)), (5, .bool (w || decide (4094 < (partN p).2) || decide ((partN p).2 < (partN p).1))), (18, .slice (some ⟨q, 0, some ps.length⟩) ps.length 2), (19, .int .i64 (ps.length : Int)), (20, .int .i64 ((k + 1 : Nat) : Int))] σ →
          Again (PrInv ps i j q mn h0 n0 R) (m + 1) σ (H.put i (.cells (some 26) (wv (N ||| rng (partN p).1 (partN p).2)) 64)) (n + 8 + 10) tk := fun hσ =>
        .mk' m (by omega) _ _ hσ (.refl _) ⟨k + 1, _, _, by omega, hR, .put_new _ hi0 hsH, (hwH.mono (by omega)).put _ (by omega) (Nat.le_refl _), by omega, by omega, by rw [AHeap.get_put_same], by rw [AHeap.get_put_ne _ _ hij]; exact hHj, by rw [AHeap.get_put_ne _ _ hiq]; exact hHq, rfl⟩
      generalize (partN p).1 = x at *
      generalize (partN p).2 = y at *
      cases w with
      | true =>
        simp -dsimp (discharger := omega) [AHeap.read_of hHn, AHeap.read_of hHi, take_wv]
        with_reducible refine call_ret hwi ?_
        simp -dsimp (discharger := omega) [hHi, drop_wv]
        exact fin (by simp)
      | false =>
        by_cases h1 : 4094 < y
        · have h1' : (4094 : Int) < (y : Int) := by omega
          simp -dsimp (discharger := omega) [AHeap.read_of hHn, AHeap.read_of hHi, take_wv, h1']
          with_reducible refine call_ret hwi ?_
          simp -dsimp (discharger := omega) [hHi, drop_wv]
          exact fin (by simp [h1])
        · have h1' : ¬ ((4094 : Int) < (y : Int)) := by omega
          simp -dsimp (discharger := omega) [AHeap.read_of hHn, AHeap.read_of hHi, take_wv, h1']
          with_reducible refine call_ret hwi ?_
          simp -dsimp (discharger := omega) [hHi, drop_wv]
          exact fin (by simp [h1])
theorem lens_mem : ∀ {ps : List (List UInt8)} {p : List UInt8}, p ∈ ps → p.length ≤ lens ps
  | q :: ps, p, h => by
    rcases List.mem_cons.1 h with rfl | h
    · simp only [lens]; omega
    · have := lens_mem h; simp only [lens]; omega
theorem splitL_mem_len {c : UInt8} {s p : List UInt8} (h : p ∈ splitL c s) : p.length ≤ s.length + 1 := by
  have := lens_mem h
  rwa [splitL_lens] at this
theorem parse_ret {s : List UInt8} (hl : s.length < 10000) {h : AHeap} {n : Nat} (hw : WF h n) (he : HasErrs h) (hn : 4096 ≤ n) : Ret EV14 8 [.string ⟨s.toArray⟩] h n (.tuple #[.agg (wv (parseN s).1).toArray, .int .i64 ((parseN s).2 : Nat)]) [] (n + 300000) := by
  have hW : ∀ b, WF (h.put n b) (n + 1) := fun b => hw.put b (by omega) (by omega)
  have hsb : ∀ b, HSub h (h.put n b) := fun b => (HSub.refl h).new hw (Nat.le_refl _) b
  have hsb2 : ∀ b c, HSub h ((h.put n b).put n c) := fun b c => (hsb b).new hw (Nat.le_refl _) c
  refine rsx8 (by simp) (by simp) ?_
  by_cases h0 : s = [110, 111, 110, 101]
  · subst h0
    have e : parseN [110, 111, 110, 101] = (0, 0) := rfl
    rw [e]
    simp -dsimp (discharger := omega) [B8, aFill, -List.reduceReplicate, ← wv_zero, take_wv, drop_wv]
    exact hsb2 _ _
  · by_cases h1 : s = [97, 108, 108]
    · subst h1
      have e : parseN [97, 108, 108] = (allN, 0) := rfl
      rw [e]
      simp -dsimp (discharger := omega) [B8, -List.reduceReplicate, ← wv_zero]
      with_reducible refine call_ret (all_ret (hW _)) ?_
      simp -dsimp (discharger := omega) [take_wv, drop_wv]
      exact hsb2 _ _
    · have e : parseN s = parseG (splitL 44 s) false 0 := by rw [parseN, if_neg h0, if_neg h1]
      have b0 : (s == [110, 111, 110, 101]) = false := beq_false_of_ne h0
      have b1 : (s == [97, 108, 108]) = false := beq_false_of_ne h1
      have hpl := split_len 44 s
      have hsp : ∀ p ∈ splitL 44 s, p.length < 100000 := fun p hp => by have := splitL_mem_len hp; omega
      rw [e]
      simp -dsimp (discharger := omega) [B8, -List.reduceReplicate, ← wv_zero, b0, b1]
      with_reducible refine call_ret (split_ret s 44 (by omega) _ _) ?_
      generalize hps : splitL 44 s = ps at *
      generalize hR : parseG ps false 0 = R at *
      have i1 : h.get (n + 1) = none := hw _ (by omega)
      have i0 : h.get n = none := hw _ (by omega)
      simp -dsimp (discharger := omega) []
      refine loop_use (parse_loop (ps := ps) (i := n + 1) (j := n) (q := n + 2) (mn := ps.length) (h0 := h) (n0 := n + 3) (R := R) (by omega) hsp (by omega) (by omega) (by omega) (Nat.le_refl _) he i1 i0 (by omega) (by omega) (by omega) (by omega) (fun k hk => hw k (by omega)) ps.length _ (((h.put n (.cells (some 26) (wv 0) 64)).put (n + 1) (.cells (some 26) (wv 0) 64)).put (n + 2) (.cells (some 9) (strsL ps) ps.length)) _ ⟨0, false, 0, by omega, hR, ((hsb _).new hw (by omega) _).new hw (by omega) _, (((hW _).put (m := n + 2) _ (by omega) (by omega)).put (m := n + 3) _ (by omega) (by omega)), Nat.le_refl _, by omega, by rw [AHeap.get_put_ne _ _ (by omega), AHeap.get_put_same], by rw [AHeap.get_put_ne _ _ (by omega), AHeap.get_put_ne _ _ (by omega), AHeap.get_put_same], by rw [AHeap.get_put_same], rfl⟩) (by simp) (.refl _) ?_
      rintro e' σ' h' n' ⟨hs', hn', hj, g2, ⟨rfl, w, N, hRe, hi, g4, g5⟩ | ⟨rfl, hRe, g3⟩⟩
      · cases w with
        | true =>
          simp only [if_true] at hRe
          rw [hRe]
          simp -dsimp (discharger := omega) [g2, g5, aFill, -List.reduceReplicate, take_wv, drop_wv, hj]
          exact ⟨.put_new _ i0 hs', by omega⟩
        | false =>
          simp only [Bool.false_eq_true, if_false] at hRe
          rw [hRe]
          simp -dsimp (discharger := omega) [g2, g4, g5, take_wv, drop_wv, hj, AHeap.read_of hi]
          exact ⟨.put_new _ i0 hs', by omega⟩
      · rw [hRe]
        simp -dsimp (discharger := omega) [g2, g3, AHeap.read_of hj, take_wv]
        exact ⟨hs', by omega⟩
end
end Go.Proofs.YtbgjcoochdljfaaDoorR.Am
