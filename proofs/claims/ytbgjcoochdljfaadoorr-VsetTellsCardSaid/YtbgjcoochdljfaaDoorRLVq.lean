/- Contracts and plain facts (LVq). -/
import Derived.Test.YtbgjcoochdljfaaDoorRLVp
namespace Go.Proofs.YtbgjcoochdljfaaDoorR.Am
noncomputable section
/- THE LOWEST BIT; the numbers of a set in order. -/
structure IsLow (x j : Nat) : Prop where
  bit : x.testBit j = true
  low : ∀ i, i < j → x.testBit i = false
theorem isLow_ex {x : Nat} : ∀ {i : Nat}, x.testBit i = true → ∃ j, j ≤ i ∧ IsLow x j := by
  intro i
  induction i using Nat.strongRecOn with
  | ind i ih =>
    intro hi
    by_cases h : ∃ k, k < i ∧ x.testBit k = true
    · obtain ⟨k, hk, hb⟩ := h
      obtain ⟨j, hj, hl⟩ := ih k hk hb
      exact ⟨j, by omega, hl⟩
    · refine ⟨i, Nat.le_refl _, hi, fun k hk => ?_⟩
      cases e : x.testBit k with
      | false => rfl
      | true => exact absurd ⟨k, hk, e⟩ h
theorem IsLow.split {x j : Nat} (h : IsLow x j) : x = 2 ^ (j + 1) * (x / 2 ^ (j + 1)) + 2 ^ j := by
  refine Nat.eq_of_testBit_eq fun i => ?_
  rw [Nat.testBit_two_pow_mul_add _ (Nat.pow_lt_pow_right (by decide) (Nat.lt_succ_self j))]
  split
  · rename_i hi
    rw [Nat.testBit_two_pow]
    rcases Nat.lt_or_ge i j with h1 | h1
    · rw [h.low i h1, decide_eq_false (by omega)]
    · obtain rfl : i = j := by omega
      rw [h.bit, decide_eq_true rfl]
  · rename_i hi
    rw [Nat.testBit_div_two_pow, show i - (j + 1) + (j + 1) = i by omega]
theorem IsLow.pred {x j : Nat} (h : IsLow x j) (i : Nat) : (x - 1).testBit i = if i < j then true else if i = j then false else x.testBit i := by
  have e : x - 1 = 2 ^ (j + 1) * (x / 2 ^ (j + 1)) + (2 ^ j - 1) := by
    have := h.split
    have := Nat.two_pow_pos j
    omega
  have hlt : 2 ^ j - 1 < 2 ^ (j + 1) := by
    have := Nat.two_pow_pos j
    rw [Nat.pow_succ]; omega
  rw [e, Nat.testBit_two_pow_mul_add _ hlt]
  by_cases h1 : i < j
  · rw [if_pos (by omega), if_pos h1, Nat.testBit_two_pow_sub_one, decide_eq_true h1]
  · rw [if_neg h1]
    by_cases h2 : i = j
    · rw [if_pos h2, if_pos (by omega), Nat.testBit_two_pow_sub_one, decide_eq_false (by omega)]
    · rw [if_neg h2, if_neg (by omega), Nat.testBit_div_two_pow, show i - (j + 1) + (j + 1) = i by omega]
/-- Without its lowest bit. -/
theorem IsLow.drop {x j : Nat} (h : IsLow x j) (i : Nat) : (x &&& (x - 1)).testBit i = (x.testBit i && decide (i ≠ j)) := by
  rw [Nat.testBit_and, h.pred]
  rcases Nat.lt_trichotomy i j with h1 | h1 | h1
  · rw [h.low i h1]; rfl
  · subst h1; simp
  · rw [if_neg (by omega), if_neg (by omega), decide_eq_true (show i ≠ j by omega)]; cases x.testBit i <;> rfl
/-- Its lowest bit alone. -/
theorem IsLow.only {x j : Nat} (h : IsLow x j) (hx : x < 18446744073709551616) : x &&& (18446744073709551616 - x) = 2 ^ j := by
  have hpos : 0 < x := by
    rcases Nat.eq_zero_or_pos x with e | e
    · have := h.bit; rw [e] at this; simp at this
    · exact e
  refine Nat.eq_of_testBit_eq fun i => ?_
  have e : 18446744073709551616 - x = 2 ^ 64 - ((x - 1) + 1) := by omega
  rw [Nat.testBit_and, e, Nat.testBit_two_pow_sub_succ (by omega), h.pred, Nat.testBit_two_pow]
  rcases Nat.lt_trichotomy i j with h1 | h1 | h1
  · rw [h.low i h1, decide_eq_false (show ¬ j = i by omega)]; rfl
  · subst h1
    have : i < 64 := by
      refine Nat.lt_of_not_le fun hle => ?_
      have hb := h.bit
      rw [Nat.testBit_lt_two_pow (Nat.lt_of_lt_of_le hx (show (18446744073709551616 : Nat) = 2 ^ 64 by rfl ▸ Nat.pow_le_pow_right (by decide) hle))] at hb
      cases hb
    rw [h.bit]; simp [this]
  · rw [if_neg (by omega), if_neg (by omega), decide_eq_false (show ¬ j = i by omega)]; cases x.testBit i <;> simp
theorem IsLow.lt {x j : Nat} (h : IsLow x j) (hx : x < 18446744073709551616) : j < 64 := by
  refine Nat.lt_of_not_le fun hle => ?_
  have hb := h.bit
  rw [Nat.testBit_lt_two_pow (Nat.lt_of_lt_of_le hx (show (18446744073709551616 : Nat) = 2 ^ 64 by rfl ▸ Nat.pow_le_pow_right (by decide) hle))] at hb
  cases hb
/-- The numbers of a set, in order. -/
def elsP (p : Nat → Bool) (m : Nat) : List Nat := (List.range m).filter p
def els (N : Nat) : List Nat := elsP (N.testBit ·) 4096
theorem elsP_congr {p q : Nat → Bool} {m : Nat} (h : ∀ i, i < m → p i = q i) : elsP p m = elsP q m :=
  List.filter_congr fun i hi => h i (List.mem_range.1 hi)
theorem elsP_nil {p : Nat → Bool} {m : Nat} (h : ∀ i, i < m → p i = false) : elsP p m = [] :=
  List.filter_eq_nil_iff.2 fun i hi => by rw [h i (List.mem_range.1 hi)]; simp
theorem elsP_cons {p : Nat → Bool} {v : Nat} (hv : p v = true) (hl : ∀ i, i < v → p i = false) : ∀ {m : Nat}, v < m → elsP p m = v :: elsP (fun i => p i && decide (i ≠ v)) m
  | m + 1, hm => by
    unfold elsP
    rw [List.range_succ, List.filter_append, List.filter_append]
    rcases Nat.lt_or_ge v m with h | h
    · have := elsP_cons hv hl h
      unfold elsP at this
      have e : (decide (m ≠ v)) = true := decide_eq_true (by omega)
      rw [this, List.cons_append]
      congr 2
      simp only [List.filter_cons, e, Bool.and_true, List.filter_nil]
    · obtain rfl : v = m := by omega
      have a : (List.range v).filter p = [] := elsP_nil hl
      have b : (List.range v).filter (fun i => p i && decide (i ≠ v)) = [] := elsP_nil fun i hi => by rw [hl i hi]; rfl
      rw [a, b]
      simp [hv]
/-- What is yet to be gone through: from word k, of which x is left. -/
def cur (N k x i : Nat) : Bool := if i / 64 < k then false else if i / 64 = k then x.testBit (i % 64) else N.testBit i
theorem cur_next (N k : Nat) : elsP (cur N k 0) 4096 = elsP (cur N (k + 1) (word N (k + 1))) 4096 := by
  refine elsP_congr fun i hi => ?_
  unfold cur
  have e : 64 * (i / 64) + i % 64 = i := by omega
  by_cases h1 : i / 64 < k
  · rw [if_pos h1, if_pos (by omega)]
  · rw [if_neg h1]
    by_cases h2 : i / 64 = k
    · rw [if_pos h2, if_pos (by omega), Nat.zero_testBit]
    · rw [if_neg h2, if_neg (by omega)]
      by_cases h3 : i / 64 = k + 1
      · rw [if_pos h3, word_bit, ← h3, e, decide_eq_true (Nat.mod_lt _ (by decide))]; rfl
      · rw [if_neg h3]
theorem cur_zero (N : Nat) : elsP (cur N 0 (word N 0)) 4096 = els N := by
  refine elsP_congr fun i hi => ?_
  unfold cur
  rw [if_neg (by omega)]
  by_cases h2 : i / 64 = 0
  · rw [if_pos h2, word_bit, decide_eq_true (Nat.mod_lt _ (by decide)), show 64 * 0 + i % 64 = i by omega]; rfl
  · rw [if_neg h2]
theorem cur_end (N x : Nat) : elsP (cur N 64 x) 4096 = [] := elsP_nil fun i hi => by
  unfold cur; rw [if_pos (by omega)]
theorem cur_cons {N k x j : Nat} (h : IsLow x j) (hx : x < 18446744073709551616) (hk : k < 64) : elsP (cur N k x) 4096 = (64 * k + j) :: elsP (cur N k (x &&& (x - 1))) 4096 := by
  have hj := h.lt hx
  rw [elsP_cons (v := 64 * k + j) (by unfold cur; rw [if_neg (by omega), if_pos (by omega), show (64 * k + j) % 64 = j by omega, h.bit]) (fun i hi => by
    unfold cur
    by_cases h1 : i / 64 < k
    · rw [if_pos h1]
    · rw [if_neg h1, if_pos (by omega), h.low _ (by omega)]) (show 64 * k + j < 4096 by omega)]
  refine congrArg (List.cons _) (elsP_congr fun i hi => ?_)
  unfold cur
  by_cases h1 : i / 64 < k
  · simp [h1]
  · rw [if_neg h1, if_neg h1]
    by_cases h2 : i / 64 = k
    · rw [if_pos h2, if_pos h2, h.drop]
      congr 1
      exact decide_eq_decide.2 (by omega)
    · rw [if_neg h2, if_neg h2, decide_eq_true (show i ≠ 64 * k + j by omega), Bool.and_true]
theorem low_ex {x : Nat} (hx : x ≠ 0) : ∃ j, IsLow x j := by
  obtain ⟨i, hi⟩ : ∃ i, x.testBit i = true := Nat.exists_testBit_of_ne_zero hx
  obtain ⟨j, _, h⟩ := isLow_ex hi
  exact ⟨j, h⟩
theorem els_lt {N v : Nat} (h : v ∈ els N) : v < 4096 ∧ N.testBit v = true := by
  have := List.mem_filter.1 h
  exact ⟨List.mem_range.1 this.1, this.2⟩
end
end Go.Proofs.YtbgjcoochdljfaaDoorR.Am
