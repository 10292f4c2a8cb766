/- Contracts and plain facts (LVt). -/
import Derived.Test.YtbgjcoochdljfaaDoorRLVq
namespace Go.Proofs.YtbgjcoochdljfaaDoorR.Am
noncomputable section
/- HOW MANY: of two sets together; the numbers gone through, rising. -/
theorem cnt_or_and (N M : Nat) : ∀ k, cnt (N ||| M) k + cnt (N &&& M) k = cnt N k + cnt M k
  | 0 => rfl
  | k + 1 => by
    have ih := cnt_or_and N M k
    simp only [cnt, Nat.testBit_or, Nat.testBit_and]
    cases N.testBit k <;> cases M.testBit k <;> simp <;> omega
theorem elsP_len (N : Nat) : ∀ m, (elsP (N.testBit ·) m).length = cnt N m
  | 0 => rfl
  | m + 1 => by
    have ih := elsP_len N m
    unfold elsP at ih ⊢
    rw [List.range_succ, List.filter_append, List.length_append, ih, cnt]
    cases h : N.testBit m <;> simp [h]
theorem els_card (N : Nat) : (els N).length = cnt N 4096 := elsP_len N 4096
theorem els_rise (N : Nat) : (els N).Pairwise (· < ·) := List.Pairwise.filter _ List.pairwise_lt_range
theorem els_mem (N i : Nat) : i ∈ els N ↔ i < 4096 ∧ N.testBit i = true := by
  unfold els elsP
  rw [List.mem_filter, List.mem_range]
theorem els_vs {N v : Nat} (hN : Vs N) (h : v ∈ els N) : 1 ≤ v ∧ v ≤ 4094 := hN v (els_lt h).2
/- Whether a set has a number. -/
theorem hasZ_or (N M : Nat) (n : Int) : hasZ (N ||| M) n = (hasZ N n || hasZ M n) := by
  unfold hasZ; rw [Nat.testBit_or]; cases decide (1 ≤ n ∧ n ≤ 4094) <;> rfl
theorem hasZ_and (N M : Nat) (n : Int) : hasZ (N &&& M) n = (hasZ N n && hasZ M n) := by
  unfold hasZ; rw [Nat.testBit_and]; cases decide (1 ≤ n ∧ n ≤ 4094) <;> rfl
theorem hasZ_less (N M : Nat) (n : Int) : hasZ (less N M) n = (hasZ N n && !hasZ M n) := by
  unfold hasZ; rw [less_bit]; cases decide (1 ≤ n ∧ n ≤ 4094) <;> rfl
theorem hasZ_rng (a b n : Int) : hasZ (rng a b) n = decide (a ≤ n ∧ n ≤ b ∧ 1 ≤ n ∧ n ≤ 4094) := by
  unfold hasZ
  rw [rng_bit, ← Bool.decide_and]
  exact decide_eq_decide.2 (by omega)
theorem hasZ_bit {N : Nat} (hN : Vs N) (i : Nat) : hasZ N (i : Int) = N.testBit i := by
  unfold hasZ
  cases h : N.testBit i with
  | false => rw [show ((i : Int)).toNat = i by omega, h, Bool.and_false]
  | true =>
    have := hN i h
    rw [show ((i : Int)).toNat = i by omega, h, decide_eq_true (by omega)]; rfl
theorem cnt_next {N : Nat} (hN : Vs N) (j : Nat) : cnt N j = cnt N (j - 1) + (if hasZ N ((j : Int) - 1) then 1 else 0) := by
  cases j with
  | zero => rfl
  | succ j => rw [show (((j + 1 : Nat) : Int) - 1) = ((j : Nat) : Int) by omega, hasZ_bit hN, Nat.add_sub_cancel, cnt]
theorem cnt_top {N : Nat} (hN : Vs N) : cnt N 4097 = cnt N 4096 := by
  have h : N.testBit 4096 = false := by
    cases h : N.testBit 4096 with
    | false => rfl
    | true => have := hN _ h; omega
  have e : ∀ m, N.testBit m = false → cnt N (m + 1) = cnt N m := fun m hm => by rw [cnt, hm]; rfl
  exact e 4096 h
end
end Go.Proofs.YtbgjcoochdljfaaDoorR.Am
