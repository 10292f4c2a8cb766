/- Contracts of the program's functions (X3). -/
import Derived.Test.YtbgjcoochdljfaaDoorRX2
namespace Go.Proofs.YtbgjcoochdljfaaDoorR.Am
noncomputable section
/- CONTRACTS: the numbers from one to another one. -/
theorem rng_or (a : Int) (c : Nat) (h0 : a ≤ c) (h1 : 1 ≤ c) (h2 : c ≤ 4094) : rng a ((c : Int) - 1) ||| 2 ^ c = rng a c := by
  refine Nat.eq_of_testBit_eq fun i => ?_
  rw [Nat.testBit_or, rng_bit, rng_bit, Nat.testBit_two_pow, ← Bool.decide_or]
  exact decide_eq_decide.2 (by omega)
theorem rng_none (a b : Int) (h : ∀ i : Nat, a ≤ i → (i : Int) ≤ b → 1 ≤ i → i ≤ 4094 → False) : rng a b = 0 := by
  refine Nat.eq_of_testBit_eq fun i => ?_
  rw [rng_bit, Nat.zero_testBit]
  exact decide_eq_false (fun ⟨h1, h2, h3, h4⟩ => h i h1 h2 h3 h4)
theorem rng_cut (a b : Int) (c : Nat) (h : min b 4094 < c) (_h1 : c ≤ 4095) (h2 : (c : Int) - 1 ≤ b) : rng a ((c : Int) - 1) = rng a b := by
  refine Nat.eq_of_testBit_eq fun i => ?_
  rw [rng_bit, rng_bit]
  exact decide_eq_decide.2 (by omega)
theorem shl_one (c : Nat) : shlI .u64 1 ((c : Int) % 64) = ((2 ^ (c % 64) : Nat) : Int) := by
  have : ∀ j : Fin 64, shlI .u64 1 (j.1 : Int) = ((2 ^ j.1 : Nat) : Int) := by decide +kernel
  have := this ⟨c % 64, Nat.mod_lt _ (by decide)⟩
  rw [← this]; congr 1
theorem pow64_lt (c : Nat) : 2 ^ (c % 64) < 18446744073709551616 := Nat.lt_of_lt_of_le (Nat.pow_lt_pow_right (by decide) (Nat.mod_lt c (show 0 < 64 by decide))) (by decide)
theorem span_or (N c : Nat) : orI .u64 (word N (c / 64) : Nat) (shlI .u64 1 ((c : Int) % 64)) = ((word N (c / 64) ||| 2 ^ (c % 64) : Nat) : Int) := by
  rw [shl_one, or64 (word_lt _ _) (pow64_lt c)]
theorem wv_put (N c : Nat) (hc : c < 4096) : List.take (c / 64) (wv N) ++ .int .u64 ((word N (c / 64) ||| 2 ^ (c % 64) : Nat) : Int) :: List.drop (c / 64 + 1) (wv N) = wv (N ||| 2 ^ c) := by
  rw [← wv_add N c hc, List.set_eq_take_append_cons_drop, if_pos (by simp; omega)]
def SpInv (a b : Int) (i j : Nat) (h0 : AHeap) (n0 r : Nat) (σ : Fr) (h : AHeap) (n : Nat) : Prop :=
  n = n0 ∧ ∃ c : Nat, r = 4096 - c ∧ a ≤ c ∧ 1 ≤ c ∧ (c = (max a 1).toNat ∨ (c ≤ 4095 ∧ (c : Int) - 1 ≤ b)) ∧ h = h0.put i (.cells (some 26) (wv (rng a ((c : Int) - 1))) 64) ∧ σ = [(1, .int .i64 b), (4, .pointer (some ⟨j, 0, some 64⟩)), (5, .pointer (some ⟨i, 0, some 64⟩)), (6, .int .i64 (c : Int))]
def SpPost (a b : Int) (i j : Nat) (h0 : AHeap) (n0 : Nat) (e : Ex) (σ' : Fr) (h' : AHeap) (n' : Nat) : Prop :=
  n' = n0 ∧ h' = h0.put i (.cells (some 26) (wv (rng a b)) 64) ∧ e = .exit 0 ∧ σ'.get 4 = some (.pointer (some ⟨j, 0, some 64⟩)) ∧ σ'.get 5 = some (.pointer (some ⟨i, 0, some 64⟩))
theorem span_loop {a b : Int} (ha : a < 9223372036854775808) (hb0 : -9223372036854775808 ≤ b) (hb1 : b < 9223372036854775808) {i j : Nat} {h0 : AHeap} {n0 : Nat} (hi : i < n0) :
    ∀ (m : Nat) (σ : Fr) (h : AHeap) (n : Nat), SpInv a b i j h0 n0 m σ h n → HasCode EV14 (.loop F29L0) σ h n (SpPost a b i j h0 n0) := by
  refine wx_inv _ fun m σ h n hI => ?_
  obtain ⟨rfl, c, hm, hac, h1c, hc, rfl, rfl⟩ := hI
  by_cases hle : (c : Int) ≤ min b 4094
  · have e1 : ((c : Int).tmod 64) = (c : Int) % 64 := rfl
    have e2 : ((c : Int) / 64).toNat = c / 64 := by omega
    have e8 : ¬ ((c : Int) % 64 < 0) := by omega
    have e3 := span_or (rng a ((c : Int) - 1)) c
    have e4 := wv_put (rng a ((c : Int) - 1)) c (by omega)
    rw [rng_or a c hac h1c (by omega)] at e4
    have e5 := wv_at (rng a ((c : Int) - 1)) (show c / 64 < 64 by omega)
    simp -dsimp (discharger := omega) [F29L0, e1, e2, e8, e3, e4, e5]
    refine ⟨hi, .mk' (4096 - (c + 1)) (by omega) [(1, .int .i64 b), (4, .pointer (some ⟨j, 0, some 64⟩)), (5, .pointer (some ⟨i, 0, some 64⟩)), (6, .int .i64 ((c + 1 : Nat) : Int))] (h0.put i (.cells (some 26) (wv (rng a c)) 64)) (by simp) (put_over _ _ _ _) ⟨rfl, c + 1, rfl, by omega, by omega, .inr ⟨by omega, by omega⟩, ?_, rfl⟩⟩
    rw [show ((c + 1 : Nat) : Int) - 1 = c by omega]
  · have e : rng a ((c : Int) - 1) = rng a b := by
      rcases hc with hc | ⟨hc1, hc2⟩
      · rw [rng_none _ _ (by omega), rng_none _ _ (by omega)]
      · exact rng_cut a b c (by omega) hc1 hc2
    rw [e]
    simp -dsimp (discharger := omega) [F29L0]
    exact ⟨rfl, rfl, rfl, rfl, rfl⟩
theorem span_ret {a b : Int} (ha0 : -9223372036854775808 ≤ a) (ha : a < 9223372036854775808) (hb0 : -9223372036854775808 ≤ b) (hb1 : b < 9223372036854775808) {h : AHeap} {n : Nat} (hw : WF h n) :
    Ret EV14 29 [.int .i64 a, .int .i64 b] h n (.agg (wv (rng a b)).toArray) [] (n + 2) := by
  have hz : rng a (((max a 1).toNat : Int) - 1) = 0 := rng_none _ _ (by omega)
  have hmx : (max a 1) = (((max a 1).toNat : Nat) : Int) := by omega
  refine rsx29 (by simp) (by simp) ?_
  simp -dsimp (discharger := omega) [B29, -List.reduceReplicate, ← wv_zero]
  refine loop_use (span_loop (i := n + 1) (j := n) (h0 := h.put n (.cells (some 26) (wv 0) 64)) ha hb0 hb1 (by omega) (4096 - (max a 1).toNat) _ _ _ ⟨rfl, (max a 1).toNat, rfl, by omega, by omega, .inl rfl, rfl, rfl⟩) ?_ ?_ ?_
  · have e : (if a < 1 then 1 else a) = max a 1 := by omega
    rw [← hmx]; simp [e]
  · rw [hz]; exact .refl _
  · rintro e σ' h' n' ⟨rfl, rfl, rfl, g1, g2⟩
    simp -dsimp (discharger := omega) [-List.reduceReplicate, g1, g2, take_wv, drop_wv]
    refine ((HSub.refl h).new hw ?_ _ |>.new hw ?_ _).new hw ?_ _ <;> omega
theorem with_ret (N : Nat) {a b : Int} (ha0 : -9223372036854775808 ≤ a) (ha : a < 9223372036854775808) (hb0 : -9223372036854775808 ≤ b) (hb1 : b < 9223372036854775808) {h : AHeap} {n : Nat} (hw : WF h n) :
    Ret EV14 11 [.agg (wv N).toArray, .int .i64 a, .int .i64 b] h n (.agg (wv (N ||| rng a b)).toArray) [] (n + 10) := by
  refine rsx11 (by simp) (by simp) ?_
  simp -dsimp (discharger := omega) [B11, -List.reduceReplicate, ← wv_zero, take_wv]
  with_reducible refine ret_on [] (span_ret ha0 ha hb0 hb1 (((hw.put _ (by omega) (Nat.le_succ n)).put _ (by omega) (Nat.le_succ _)).touch [])) ?_
  simp -dsimp (discharger := omega) [-List.reduceReplicate]
  with_reducible refine ret_ret (union_ret _ _ (((hw.put _ (by omega) (Nat.le_succ n)).put _ (by omega) (Nat.le_succ _)).mono (by omega))) ?_
  simp -dsimp (discharger := omega) [-List.reduceReplicate, take_wv, drop_wv]
  refine (((HSub.refl h).new hw ?_ _).new hw ?_ _).new hw ?_ _ <;> omega
theorem without_ret (N : Nat) {a b : Int} (ha0 : -9223372036854775808 ≤ a) (ha : a < 9223372036854775808) (hb0 : -9223372036854775808 ≤ b) (hb1 : b < 9223372036854775808) {h : AHeap} {n : Nat} (hw : WF h n) :
    Ret EV14 17 [.agg (wv N).toArray, .int .i64 a, .int .i64 b] h n (.agg (wv (less N (rng a b))).toArray) [] (n + 7) := by
  refine rsx17 (by simp) (by simp) ?_
  simp -dsimp (discharger := omega) [B17, -List.reduceReplicate, ← wv_zero, take_wv]
  with_reducible refine ret_on [] (span_ret ha0 ha hb0 hb1 (((hw.put _ (by omega) (Nat.le_succ n)).put _ (by omega) (Nat.le_succ _)).touch [])) ?_
  simp -dsimp (discharger := omega) [-List.reduceReplicate]
  with_reducible refine ret_ret (both_ret wo_ok (((hw.put _ (by omega) (Nat.le_succ n)).put _ (by omega) (Nat.le_succ _)).mono (by omega))) ?_
  simp -dsimp (discharger := omega) [-List.reduceReplicate, take_wv, drop_wv]
  refine (((HSub.refl h).new hw ?_ _).new hw ?_ _).new hw ?_ _ <;> omega
def allN : Nat := rng 1 4094
theorem all_ret {h : AHeap} {n : Nat} (hw : WF h n) : Ret EV14 14 [] h n (.agg (wv allN).toArray) [] (n + 11) := by
  have e : (0 : Nat) ||| rng 1 4094 = allN := Nat.zero_or _
  have hc := with_ret 0 (a := 1) (b := 4094) (by omega) (by omega) (by omega) (by omega) (hw.put (.cells (some 26) (wv 0) 64) (i := n) (by omega) (Nat.le_succ n))
  rw [e] at hc
  refine rsx14 (by simp) (by simp) ?_
  simp -dsimp (discharger := omega) [B14, -List.reduceReplicate, ← wv_zero, aFill]
  with_reducible refine call_ret hc ?_
  simp -dsimp (discharger := omega) [-List.reduceReplicate, take_wv, drop_wv]
  refine ((HSub.refl h).new hw ?_ _).new hw ?_ _ <;> omega
end
end Go.Proofs.YtbgjcoochdljfaaDoorR.Am
