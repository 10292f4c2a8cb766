/- Contracts of the program's functions (X15). -/
import Derived.Test.YtbgjcoochdljfaaDoorRX12
import Derived.Test.YtbgjcoochdljfaaDoorRDT
namespace Go.Proofs.YtbgjcoochdljfaaDoorR.Am
noncomputable section
/- CONTRACT: a set behind calls (made). -/
def ksT : List IntKind := [.i64, .i64, .i64]
def actN (N : Nat) : List Int → Nat
  | [w, a, b] => if w = 0 ∨ w = 1 ∨ w = 3 then N ||| rng a b else if w = 2 then less N (rng a b) else if w = 4 then N &&& rng a b else if w = 5 then N ||| ofN [a, b] else N
  | _ => N
def madeN (rs : List (List Int)) : Nat := (rs.take 20).foldl actN 0
theorem ofN_vs (ns : List Int) : Vs (ofN ns) := by
  have : ∀ (l : List Int) (N : Nat), Vs N → Vs (l.foldl (fun N z => N ||| rng z z) N) := by
    intro l
    induction l with
    | nil => exact fun _ h => h
    | cons z l ih => exact fun N h => ih _ (h.or (Vs.rng _ _))
  exact this ns 0 Vs.zero
theorem actN_vs {N : Nat} (h : Vs N) (r : List Int) : Vs (actN N r) := by
  unfold actN
  split
  · split
    · exact h.or (Vs.rng _ _)
    · split
      · exact h.less
      · split
        · exact h.and
        · split
          · exact h.or (ofN_vs _)
          · exact h
  · exact h
theorem madeN_vs (rs : List (List Int)) : Vs (madeN rs) := by
  have : ∀ (l : List (List Int)) (N : Nat), Vs N → Vs (l.foldl actN N) := by
    intro l
    induction l with
    | nil => exact fun _ h => h
    | cons z l ih => exact fun N h => ih _ (actN_vs h _)
  exact this _ 0 Vs.zero
/-- A row of a list of rows, read. -/
theorem rowsRead {ks : List IntKind} {rs : List (List Int)} (hr : ∀ r ∈ rs, RowOk ks r) {h : AHeap} {i : Nat} (hg : h.get i = some (.cells none (rowsL ks rs) 0)) {k : Nat} {r : List Int} (hk : rs[k]? = some r) : h.read i (rs.length * ks.length) (k * ks.length) ks.length = some (rowC ks r) := by
  have hrow := rowsL_row hr hk
  have hlt := (List.getElem?_eq_some_iff.1 hk).1
  have hlen := rowsL_len hr
  have h1 : (k + 1) * ks.length ≤ rs.length * ks.length := Nat.mul_le_mul_right _ hlt
  rw [Nat.add_mul, Nat.one_mul] at h1
  rw [AHeap.read_of hg]
  simp only [Blk.read]
  rw [if_pos ⟨Nat.zero_le _, by rw [hlen]; exact Nat.le_refl _, h1⟩, hrow]
theorem row3 {r : List Int} (h : RowOk ksT r) : ∃ w a b : Int, r = [w, a, b] ∧ -9223372036854775808 ≤ w ∧ w < 9223372036854775808 ∧ -9223372036854775808 ≤ a ∧ a < 9223372036854775808 ∧ -9223372036854775808 ≤ b ∧ b < 9223372036854775808 := by
  match r, h with
  | [w, a, b], h =>
    obtain ⟨h1, h2, h3, _⟩ := h
    have g1 := bounds_i64 h1
    have g2 := bounds_i64 h2
    have g3 := bounds_i64 h3
    exact ⟨w, a, b, rfl, by omega, by omega, by omega, by omega, by omega, by omega⟩
  | [], h => exact h.elim
  | [_], h => exact h.2.elim
  | [_, _], h => exact h.2.2.elim
  | _ :: _ :: _ :: _ :: _, h => exact h.2.2.2.elim
theorem made_next {rs : List (List Int)} {k : Nat} {r : List Int} (hk : rs[k]? = some r) : (rs.take (k + 1)).foldl actN 0 = actN ((rs.take k).foldl actN 0) r := by
  rw [List.take_add_one, hk]; simp
/-- What the list's slice is. -/
def RowsV (rs : List (List Int)) (u : Value) (h : AHeap) : Prop := u = .slice none 0 0 ∧ rs = [] ∨ ∃ i0, u = .slice (some ⟨i0, 0, some (rs.length * 3)⟩) rs.length 0 ∧ h.get i0 = some (.cells none (rowsL ksT rs) 0)
theorem RowsV.sub {rs : List (List Int)} {u : Value} {h h' : AHeap} (x : RowsV rs u h) (hs : HSub h h') : RowsV rs u h' := by
  rcases x with x | ⟨i0, e, hg⟩
  · exact .inl x
  · exact .inr ⟨i0, e, hs _ _ hg⟩
def MdInv (rs : List (List Int)) (u : Value) (i j : Nat) (h0 : AHeap) (n0 r : Nat) (σ : Fr) (h : AHeap) (n : Nat) : Prop :=
  ∃ k : Nat, k + r = rs.length ∧ k ≤ 20 ∧ n0 ≤ n ∧ n ≤ n0 + 40 * k ∧ HSub h0 h ∧ WF h n ∧ h.get i = some (.cells (some 26) (wv ((rs.take k).foldl actN 0)) 64) ∧ h.get j = some (.cells (some 26) (wv 0) 64) ∧
    σ = [(2, .pointer (some ⟨j, 0, some 64⟩)), (3, .pointer (some ⟨i, 0, some 64⟩)), (6, u), (7, .int .i64 (rs.length : Int)), (8, .int .i64 (k : Int))]
def MdPost (rs : List (List Int)) (i j : Nat) (h0 : AHeap) (n0 : Nat) (e : Ex) (σ' : Fr) (h' : AHeap) (n' : Nat) : Prop :=
  e = .exit 0 ∧ n0 ≤ n' ∧ n' ≤ n0 + 840 ∧ HSub h0 h' ∧ WF h' n' ∧ h'.get i = some (.cells (some 26) (wv (madeN rs)) 64) ∧ h'.get j = some (.cells (some 26) (wv 0) 64) ∧ σ'.get 2 = some (.pointer (some ⟨j, 0, some 64⟩)) ∧ σ'.get 3 = some (.pointer (some ⟨i, 0, some 64⟩))
set_option maxHeartbeats 1000000 in
theorem made_loop {rs : List (List Int)} (hl : rs.length < 9223372036854775808) (hr : ∀ r ∈ rs, RowOk ksT r) {u : Value} {i j : Nat} (hij : i ≠ j) {h0 : AHeap} {n0 : Nat} (hw0 : ∀ k, n0 ≤ k → h0.get k = none) (hi0 : h0.get i = none) (_hi : i < n0) (hj : j < n0)
    (hu : RowsV rs u h0) :
    ∀ (m : Nat) (σ : Fr) (h : AHeap) (n : Nat), MdInv rs u i j h0 n0 m σ h n → HasCode EV14 (.loop F7L0) σ h n (MdPost rs i j h0 n0) := by
  refine wx_inv _ fun m σ h n hI => ?_
  obtain ⟨k, hk, hk20, hn, hn1, hs, hw, hgi, hgj, rfl⟩ := hI
  cases m with
  | zero =>
    have e : (rs.take k).foldl actN 0 = madeN rs := by rw [madeN, List.take_of_length_le (by omega), List.take_of_length_le (by omega)]
    rw [e] at hgi
    have fin : ∀ {σ : Fr}, σ.get 2 = some (.pointer (some ⟨j, 0, some 64⟩)) → σ.get 3 = some (.pointer (some ⟨i, 0, some 64⟩)) → MdPost rs i j h0 n0 (.exit 0) σ h n := fun a b => ⟨rfl, hn, by omega, hs, hw, hgi, hgj, a, b⟩
    obtain rfl : k = rs.length := by omega
    simp -dsimp (discharger := omega) [F7L0]
    exact fin rfl rfl
  | succ m =>
    have hlt : k < rs.length := by omega
    obtain ⟨x, hx⟩ : ∃ x, rs[k]? = some x := ⟨_, List.getElem?_eq_getElem hlt⟩
    obtain ⟨w, a, b, rfl, w0, w1, a0, a1, b0, b1⟩ := row3 (hr x (List.mem_of_getElem? hx))
    have hnx := made_next hx
    rcases hu.sub hs with ⟨_, rfl⟩ | ⟨i0, rfl, hg⟩
    · simp at hlt
    have hrd := rowsRead hr hg hx
    simp only [ksT, List.length_cons, List.length_nil, Nat.zero_add, Nat.reduceAdd, rowC] at hrd
    obtain ⟨H, hH⟩ : ∃ H, H = (h.put n (.cells (some 47) [.int .i64 0, .int .i64 0, .int .i64 0] 3)).put n (.cells (some 47) [.int .i64 w, .int .i64 a, .int .i64 b] 3) := ⟨_, rfl⟩
    have gH : ∀ p c, h.get p = some c → H.get p = some c := fun p c hc => by
      have := hw.lt hc
      rw [hH, AHeap.get_put_ne _ _ (by omega), AHeap.get_put_ne _ _ (by omega)]; exact hc
    have hHn : H.get n = some (.cells (some 47) [.int .i64 w, .int .i64 a, .int .i64 b] 3) := by rw [hH, AHeap.get_put_same]
    have hsH : HSub h0 H := fun p c hc => gH p c (hs p c hc)
    have hwH : WF H (n + 1) := by rw [hH]; exact (hw.put (m := n + 1) _ (by omega) (by omega)).put _ (by omega) (Nat.le_refl _)
    have hHi := gH _ _ hgi
    have hHj := gH _ _ hgj
    have hin' := hw.lt hgi
    generalize hN : (rs.take k).foldl actN 0 = N at *
    have c1 := with_ret N a0 a1 b0 b1 hwH
    have c2 := without_ret N a0 a1 b0 b1 hwH
    have fin : ∀ {tk : Tok (MdInv rs (.slice (some ⟨i0, 0, some (rs.length * 3)⟩) rs.length 0) i j h0 n0)} {σ : Fr} {n' : Nat} {H' : AHeap}, HSub h0 H' → WF H' n' → H'.get i = some (.cells (some 26) (wv (actN N [w, a, b])) 64) → H'.get j = some (.cells (some 26) (wv 0) 64) → n + 1 ≤ n' → n' ≤ n + 40 → k < 20 → FSubL [(2, .pointer (some ⟨j, 0, some 64⟩)), (3, .pointer (some ⟨i, 0, some 64⟩)), (6, .slice (some ⟨i0, 0, some (rs.length * 3)⟩) rs.length 0), (7, .int .i64 (rs.length : Int)), (8, .int .i64 ((k + 1 : Nat) : Int))] σ →
        Again (MdInv rs (.slice (some ⟨i0, 0, some (rs.length * 3)⟩) rs.length 0) i j h0 n0) (m + 1) σ H' n' tk := fun g1 g2 g3 g4 l1 l2 l3 hσ =>
      .mk' m (by omega) _ _ hσ (.refl _) ⟨k + 1, by omega, by omega, by omega, by omega, g1, g2, by rw [g3, hnx], g4, rfl⟩
    have finP : ∀ {tk : Tok (MdInv rs (.slice (some ⟨i0, 0, some (rs.length * 3)⟩) rs.length 0) i j h0 n0)} {σ : Fr} {n1 n' M : Nat} {H0 : AHeap}, HSub h0 H0 → WF H0 n1 → H0.get j = some (.cells (some 26) (wv 0) 64) → n1 ≤ n' → M = actN N [w, a, b] → n + 1 ≤ n' → n' ≤ n + 40 → k < 20 → FSubL [(2, .pointer (some ⟨j, 0, some 64⟩)), (3, .pointer (some ⟨i, 0, some 64⟩)), (6, .slice (some ⟨i0, 0, some (rs.length * 3)⟩) rs.length 0), (7, .int .i64 (rs.length : Int)), (8, .int .i64 ((k + 1 : Nat) : Int))] σ →
        Again (MdInv rs (.slice (some ⟨i0, 0, some (rs.length * 3)⟩) rs.length 0) i j h0 n0) (m + 1) σ (H0.put i (.cells (some 26) (wv M) 64)) n' tk := fun s1 s2 s3 s4 s6 l1 l2 l3 hσ => by
      subst s6
      exact fin (.put_new _ hi0 s1) ((s2.mono s4).put _ (by omega) (Nat.le_refl _)) (by rw [AHeap.get_put_same]) (by rw [AHeap.get_put_ne _ _ hij]; exact s3) l1 l2 l3 hσ
    by_cases h20 : k = 20
    · have e : madeN rs = N := by rw [← hN, h20]; rfl
      have ex : ∀ {σ : Fr}, σ.get 2 = some (.pointer (some ⟨j, 0, some 64⟩)) → σ.get 3 = some (.pointer (some ⟨i, 0, some 64⟩)) → MdPost rs i j h0 n0 (.exit 0) σ H (n + 1) := fun a b => ⟨rfl, by omega, by omega, hsH, hwH, by rw [e]; exact hHi, hHj, a, b⟩
      subst h20
      simp -dsimp (discharger := omega) [F7L0, hrd]
      rw [← hH]
      exact ex rfl rfl
    · have k20 : ((k : Int) == 20) = false := by simp; omega
      simp -dsimp (discharger := omega) [F7L0, hrd, k20]
      rw [← hH]
      by_cases q0 : w = 0
      · subst q0
        simp -dsimp (discharger := omega) [AHeap.read_of hHi, AHeap.read_of hHn, take_wv]
        with_reducible refine call_ret c1 ?_
        simp -dsimp (discharger := omega) [hHi, drop_wv]
        exact finP hsH hwH hHj (by omega) (by simp [actN]) (by omega) (by omega) (by omega) (by simp)
      by_cases q1 : w = 1
      · subst q1
        simp -dsimp (discharger := omega) [AHeap.read_of hHi, AHeap.read_of hHn, take_wv]
        with_reducible refine call_ret c1 ?_
        simp -dsimp (discharger := omega) [hHi, drop_wv]
        exact finP hsH hwH hHj (by omega) (by simp [actN]) (by omega) (by omega) (by omega) (by simp)
      by_cases q3 : w = 3
      · subst q3
        simp -dsimp (discharger := omega) [AHeap.read_of hHi, AHeap.read_of hHn, take_wv]
        with_reducible refine call_ret c1 ?_
        simp -dsimp (discharger := omega) [hHi, drop_wv]
        exact finP hsH hwH hHj (by omega) (by simp [actN]) (by omega) (by omega) (by omega) (by simp)
      have f0 : (w == 0) = false := beq_false_of_ne q0
      have f1 : (w == 1) = false := beq_false_of_ne q1
      have f3 : (w == 3) = false := beq_false_of_ne q3
      by_cases q2 : w = 2
      · subst q2
        simp -dsimp (discharger := omega) [AHeap.read_of hHi, AHeap.read_of hHn, take_wv]
        with_reducible refine call_ret c2 ?_
        simp -dsimp (discharger := omega) [hHi, drop_wv]
        exact finP hsH hwH hHj (by omega) (by simp [actN]) (by omega) (by omega) (by omega) (by simp)
      have f2 : (w == 2) = false := beq_false_of_ne q2
      by_cases q4 : w = 4
      · subst q4
        have c4 := with_ret 0 a0 a1 b0 b1 (hwH.touch [])
        rw [Nat.zero_or] at c4
        simp -dsimp (discharger := omega) [f0, f1, f3, f2, AHeap.read_of hHi, AHeap.read_of hHn, take_wv, -List.reduceReplicate, ← wv_zero, aFill]
        with_reducible refine ret_on [] c4 ?_
        simp -dsimp (discharger := omega) []
        with_reducible refine ret_ret (meet_ret _ _ (hwH.mono (by omega))) ?_
        simp -dsimp (discharger := omega) [hHi, drop_wv]
        refine ⟨by omega, ?_⟩
        exact finP hsH hwH hHj (by omega) (by simp [actN]) (by omega) (by omega) (by omega) (by simp)
      have f4 : (w == 4) = false := beq_false_of_ne q4
      by_cases q5 : w = 5
      · subst q5
        simp -dsimp (discharger := omega) [AHeap.read_of hHi, AHeap.read_of hHn, take_wv, aFill, repeatCells]
        obtain ⟨H2, hH2⟩ : ∃ H2, H2 = H.put (n + 1) (.cells (some 3) [.int .i64 a, .int .i64 b] 2) := ⟨_, rfl⟩
        have g2 : H2.get (n + 1) = some (.cells (some 3) [.int .i64 a, .int .i64 b] 2) := by rw [hH2, AHeap.get_put_same]
        have w2 : WF H2 (n + 1 + 1) := by rw [hH2]; exact hwH.put _ (by omega) (by omega)
        have i2 : H2.get i = some (.cells (some 26) (wv N) 64) := by rw [hH2, AHeap.get_put_ne _ _ (by omega)]; exact hHi
        have r2 : (touch [n + 1] H2).read (n + 1) 2 0 2 = some (intL [a, b]) := by rw [touch_read (by simp), AHeap.read_of g2]; rfl
        have c5 : Ret EV14 15 [.slice (some ⟨n + 1, 0, some 2⟩) 2 2] (touch [n + 1] H2) (n + 1 + 1) (.agg (wv (ofN [a, b])).toArray) [] (n + 1 + 1 + 22) := of_ret (ns := [a, b]) (by simp) (by simp; omega) (w2.touch _) r2
        refine ⟨by omega, ?_⟩
        rw [← hH2]
        with_reducible refine ret_on [n + 1] c5 ?_
        simp -dsimp (discharger := omega) []
        with_reducible refine ret_ret (union_ret _ _ (w2.mono (by omega))) ?_
        simp -dsimp (discharger := omega) [i2, drop_wv]
        have j2 : H2.get j = some (.cells (some 26) (wv 0) 64) := by rw [hH2, AHeap.get_put_ne _ _ (by omega)]; exact hHj
        have s2 : HSub h0 H2 := by
          rw [hH2]; exact .put_new _ (hw0 _ (by omega)) hsH
        refine ⟨by omega, ?_⟩
        exact finP s2 w2 j2 (by omega) (by simp [actN]) (by omega) (by omega) (by omega) (by simp)
      have f5 : (w == 5) = false := beq_false_of_ne q5
      simp -dsimp (discharger := omega) [f0, f1, f2, f3, f4, f5]
      have e : N = actN N [w, a, b] := by simp [actN, q0, q1, q2, q3, q4, q5]
      exact fin hsH hwH (by rw [← e]; exact hHi) hHj (by omega) (by omega) (by omega) (by simp)
theorem made_ret {rs : List (List Int)} (hl : rs.length < 9223372036854775808) (hr : ∀ r ∈ rs, RowOk ksT r) {u : Value} {h : AHeap} {n : Nat} (hw : WF h n) (hu : RowsV rs u h) : Ret EV14 7 [u] h n (.agg (wv (madeN rs)).toArray) [] (n + 842) := by
  have hsb : HSub h ((h.put n (.cells (some 26) (wv 0) 64)).put (n + 1) (.cells (some 26) (wv 0) 64)) := ((HSub.refl h).new hw (Nat.le_refl _) _).new hw (Nat.le_succ _) _
  have hw2 : WF ((h.put n (.cells (some 26) (wv 0) 64)).put (n + 1) (.cells (some 26) (wv 0) 64)) (n + 2) := (hw.put (m := n + 2) _ (by omega) (by omega)).put _ (by omega) (Nat.le_refl _)
  have hul : u = .slice none 0 0 ∧ rs = [] ∨ ∃ i0, u = .slice (some ⟨i0, 0, some (rs.length * 3)⟩) rs.length 0 := hu.imp (fun x => x) (fun ⟨i0, e, _⟩ => ⟨i0, e⟩)
  refine rsx7 (by simp) (by simp) ?_
  rcases hul with ⟨rfl, rfl⟩ | ⟨i0, rfl⟩
  · simp -dsimp (discharger := omega) [B7, -List.reduceReplicate, ← wv_zero]
    refine loop_use (made_loop (rs := []) (u := .slice none 0 0) (i := n + 1) (j := n) (h0 := h) (n0 := n + 2) (by simp) (by simp) (by omega) (fun k hk => hw k (by omega)) (hw _ (by omega)) (by omega) (by omega) hu 0 _ _ _ ⟨0, rfl, by omega, Nat.le_refl _, by omega, hsb, hw2, by rw [AHeap.get_put_same]; rfl, by rw [AHeap.get_put_ne _ _ (by omega), AHeap.get_put_same], rfl⟩) (by simp) (.refl _) ?_
    rintro e σ' h' n' ⟨rfl, hn, hn1, hs, hw', gi, gj, g2, g3⟩
    simp -dsimp (discharger := omega) [g2, g3, gj, AHeap.read_of gi, take_wv, drop_wv]
    exact ⟨.put_new _ (hw _ (by omega)) hs, by omega⟩
  · simp -dsimp (discharger := omega) [B7, -List.reduceReplicate, ← wv_zero]
    refine loop_use (made_loop (rs := rs) (u := .slice (some ⟨i0, 0, some (rs.length * 3)⟩) rs.length 0) (i := n + 1) (j := n) (h0 := h) (n0 := n + 2) hl hr (by omega) (fun k hk => hw k (by omega)) (hw _ (by omega)) (by omega) (by omega) hu rs.length _ _ _ ⟨0, by omega, by omega, Nat.le_refl _, by omega, hsb, hw2, by rw [AHeap.get_put_same]; rfl, by rw [AHeap.get_put_ne _ _ (by omega), AHeap.get_put_same], rfl⟩) (by simp) (.refl _) ?_
    rintro e σ' h' n' ⟨rfl, hn, hn1, hs, hw', gi, gj, g2, g3⟩
    simp -dsimp (discharger := omega) [g2, g3, gj, AHeap.read_of gi, take_wv, drop_wv]
    exact ⟨.put_new _ (hw _ (by omega)) hs, by omega⟩
end
end Go.Proofs.YtbgjcoochdljfaaDoorR.Am
