/- Contracts of the program's functions (X21). -/
import Derived.Test.YtbgjcoochdljfaaDoorRX12
namespace Go.Proofs.YtbgjcoochdljfaaDoorR.Am
noncomputable section
/- CONTRACT: a longer text read. -/
theorem parse_retL {s : List UInt8} (hl : s.length < 50000) {h : AHeap} {n : Nat} (hw : WF h n) (he : HasErrs h) (hn : 4096 ≤ n) : Ret EV14 8 [.string ⟨s.toArray⟩] h n (.tuple #[.agg (wv (parseN s).1).toArray, .int .i64 ((parseN s).2 : Nat)]) [] (n + 1100000) := by
  have hW : ∀ b, WF (h.put n b) (n + 1) := fun b => hw.put b (by omega) (by omega)
  have hsb : ∀ b, HSub h (h.put n b) := fun b => (HSub.refl h).new hw (Nat.le_refl _) b
  have hsb2 : ∀ b c, HSub h ((h.put n b).put n c) := fun b c => (hsb b).new hw (Nat.le_refl _) c
  refine rsx8 (by simp) (by simp) ?_
  by_cases h0 : s = [110, 111, 110, 101]
  · subst h0
    have e : parseN [110, 111, 110, 101] = (0, 0) := rfl
    rw [e]
    simp -dsimp (discharger := omega) [B8, aFill, -List.reduceReplicate, ← wv_zero, take_wv, drop_wv]
    exact hsb2 _ _
  · by_cases h1 : s = [97, 108, 108]
    · subst h1
      have e : parseN [97, 108, 108] = (allN, 0) := rfl
      rw [e]
      simp -dsimp (discharger := omega) [B8, -List.reduceReplicate, ← wv_zero]
      with_reducible refine call_ret (all_ret (hW _)) ?_
      simp -dsimp (discharger := omega) [take_wv, drop_wv]
      exact hsb2 _ _
    · have e : parseN s = parseG (splitL 44 s) false 0 := by rw [parseN, if_neg h0, if_neg h1]
      have b0 : (s == [110, 111, 110, 101]) = false := beq_false_of_ne h0
      have b1 : (s == [97, 108, 108]) = false := beq_false_of_ne h1
      have hpl := split_len 44 s
      have hsp : ∀ p ∈ splitL 44 s, p.length < 100000 := fun p hp => by have := splitL_mem_len hp; omega
      rw [e]
      simp -dsimp (discharger := omega) [B8, -List.reduceReplicate, ← wv_zero, b0, b1]
      with_reducible refine call_ret (split_ret s 44 (by omega) _ _) ?_
      generalize hps : splitL 44 s = ps at *
      generalize hR : parseG ps false 0 = R at *
      have i1 : h.get (n + 1) = none := hw _ (by omega)
      have i0 : h.get n = none := hw _ (by omega)
      simp -dsimp (discharger := omega) []
      refine loop_use (parse_loop (ps := ps) (i := n + 1) (j := n) (q := n + 2) (mn := ps.length) (h0 := h) (n0 := n + 3) (R := R) (by omega) hsp (by omega) (by omega) (by omega) (Nat.le_refl _) he i1 i0 (by omega) (by omega) (by omega) (by omega) (fun k hk => hw k (by omega)) ps.length _ (((h.put n (.cells (some 26) (wv 0) 64)).put (n + 1) (.cells (some 26) (wv 0) 64)).put (n + 2) (.cells (some 9) (strsL ps) ps.length)) _ ⟨0, false, 0, by omega, hR, ((hsb _).new hw (by omega) _).new hw (by omega) _, (((hW _).put (m := n + 2) _ (by omega) (by omega)).put (m := n + 3) _ (by omega) (by omega)), Nat.le_refl _, by omega, by rw [AHeap.get_put_ne _ _ (by omega), AHeap.get_put_same], by rw [AHeap.get_put_ne _ _ (by omega), AHeap.get_put_ne _ _ (by omega), AHeap.get_put_same], by rw [AHeap.get_put_same], rfl⟩) (by simp) (.refl _) ?_
      rintro e' σ' h' n' ⟨hs', hn', hj, g2, ⟨rfl, w, N, hRe, hi, g4, g5⟩ | ⟨rfl, hRe, g3⟩⟩
      · cases w with
        | true =>
          simp only [if_true] at hRe
          rw [hRe]
          simp -dsimp (discharger := omega) [g2, g5, aFill, -List.reduceReplicate, take_wv, drop_wv, hj]
          exact ⟨.put_new _ i0 hs', by omega⟩
        | false =>
          simp only [Bool.false_eq_true, if_false] at hRe
          rw [hRe]
          simp -dsimp (discharger := omega) [g2, g4, g5, take_wv, drop_wv, hj, AHeap.read_of hi]
          exact ⟨.put_new _ i0 hs', by omega⟩
      · rw [hRe]
        simp -dsimp (discharger := omega) [g2, g3, AHeap.read_of hj, take_wv]
        exact ⟨hs', by omega⟩
theorem par_g {s : List UInt8} (hl : s.length < 50000) {N e : Nat} (hp : parseN s = (N, e)) {h : AHeap} {n : Nat} (hw : WF h n) (he : HasErrs h) (hn : 4096 ≤ n) {m : Nat} (hm : m = n + 1100000) : Ret FV14 8 [.string ⟨s.toArray⟩] h n (.tuple #[.agg (wv N).toArray, .int .i64 (e : Nat)]) [] m := by
  subst hm
  have := parse_retL hl hw he hn
  rw [hp] at this
  exact ret_f14 this
theorem ndig_le4 {u : Nat} (h : u < 10000) : ndig u ≤ 4 := by
  have hb := ndig_bounds u
  refine Nat.le_of_not_lt fun h => ?_
  rcases hb.2 with e | e
  · omega
  · have : 10 ^ 4 ≤ 10 ^ (ndig u - 1) := Nat.pow_le_pow_right (by decide) (by omega)
    omega
/-- How long a set's text is. -/
theorem textL_len (N : Nat) : (textL N).length < 50000 := by
  unfold textL
  split
  · decide
  · split
    · decide
    · have hlen := rangesR_len N
      have := joinL_le (sep := [44]) (B := 9) (ss := (rangesR N).reverse.map rgT) (fun s hs => by
          obtain ⟨p, hp, rfl⟩ := List.mem_map.1 hs
          have := rangesR_lt N p (List.mem_reverse.1 hp)
          have l1 := ndig_le4 (u := p.1) (by omega)
          have l2 := ndig_le4 (u := p.2) (by omega)
          rw [← decs_len] at l1 l2
          unfold rgT
          split
          · simp only [List.length_append, List.length_cons]; omega
          · omega)
      simp only [List.length_map, List.length_reverse, List.length_singleton] at this
      omega
end
end Go.Proofs.YtbgjcoochdljfaaDoorR.Am
