/- Contracts and plain facts (LVs). -/
import Derived.Test.YtbgjcoochdljfaaDoorRL
namespace Go.Proofs.YtbgjcoochdljfaaDoorR.Am
noncomputable section
/- SETS OF NUMBERS as one number, and as words. -/
def word (N k : Nat) : Nat := (N >>> (64 * k)) % 18446744073709551616
def wv (N : Nat) : List Value := (List.range 64).map fun k => .int .u64 (word N k : Nat)
@[simp] theorem wv_len (N : Nat) : (wv N).length = 64 := by simp [wv]
theorem wv_get (N : Nat) {k : Nat} (hk : k < 64) : (wv N)[k]? = some (.int .u64 (word N k : Nat)) := by
  simp [wv, hk]
theorem word_lt (N k : Nat) : word N k < 18446744073709551616 := Nat.mod_lt _ (by decide)
theorem word_bit (N k j : Nat) : (word N k).testBit j = (decide (j < 64) && N.testBit (64 * k + j)) := by
  unfold word
  rw [show (18446744073709551616 : Nat) = 2 ^ 64 by rfl, Nat.testBit_mod_two_pow, Nat.testBit_shiftRight]
theorem wv_zero : wv 0 = List.replicate 64 (.int .u64 0) := by rfl
theorem lt_pow_le {N k i : Nat} (h : N < 2 ^ k) (hi : k ≤ i) : N < 2 ^ i := Nat.lt_of_lt_of_le h (Nat.pow_le_pow_right (by decide) hi)
theorem word_inj {N M : Nat} (hN : N < 2 ^ 4096) (hM : M < 2 ^ 4096) (h : ∀ k, k < 64 → word N k = word M k) : N = M := by
  refine Nat.eq_of_testBit_eq fun i => ?_
  rcases Nat.lt_or_ge i 4096 with hi | hi
  · have h1 := h (i / 64) (Nat.div_lt_of_lt_mul (show i < 64 * 64 from hi))
    have h2 := word_bit N (i / 64) (i % 64)
    have h3 := word_bit M (i / 64) (i % 64)
    rw [h1] at h2
    rw [h2] at h3
    have hj : i % 64 < 64 := Nat.mod_lt _ (by decide)
    have e : 64 * (i / 64) + i % 64 = i := by omega
    simpa [hj, e] using h3
  · rw [Nat.testBit_lt_two_pow (lt_pow_le (k := 4096) hN hi), Nat.testBit_lt_two_pow (lt_pow_le (k := 4096) hM hi)]
theorem wv_ext {l : List Value} {N : Nat} (hl : l.length = 64) (h : ∀ k, k < 64 → l[k]? = some (.int .u64 (word N k : Nat))) : l = wv N := by
  refine List.ext_getElem? fun k => ?_
  rcases Nat.lt_or_ge k 64 with hk | hk
  · rw [h k hk, wv_get N hk]
  · rw [List.getElem?_eq_none (by omega), List.getElem?_eq_none (by simp; omega)]
theorem word_or (N M k : Nat) : word (N ||| M) k = word N k ||| word M k := by
  refine Nat.eq_of_testBit_eq fun i => ?_
  simp only [word_bit, Nat.testBit_or]
  cases decide (i < 64) <;> simp
theorem word_and (N M k : Nat) : word (N &&& M) k = word N k &&& word M k := by
  refine Nat.eq_of_testBit_eq fun i => ?_
  simp only [word_bit, Nat.testBit_and]
  cases decide (i < 64) <;> simp
theorem word_xor (N M k : Nat) : word (N ^^^ M) k = word N k ^^^ word M k := by
  refine Nat.eq_of_testBit_eq fun i => ?_
  simp only [word_bit, Nat.testBit_xor]
  cases decide (i < 64) <;> simp
theorem word_pow (n k : Nat) : word (2 ^ n) k = if k = n / 64 then 2 ^ (n % 64) else 0 := by
  refine Nat.eq_of_testBit_eq fun i => ?_
  rw [word_bit, Nat.testBit_two_pow]
  split
  · rename_i h
    rw [Nat.testBit_two_pow]
    by_cases hi : i < 64
    · simp only [hi, decide_true, Bool.true_and]
      exact decide_eq_decide.2 (by omega)
    · simp only [hi, decide_false, Bool.false_and]
      exact (decide_eq_false (by omega)).symm
  · rw [Nat.zero_testBit]
    by_cases hi : i < 64
    · simp only [hi, decide_true, Bool.true_and]
      exact decide_eq_false (by omega)
    · simp [hi]
/-- One number more. -/
theorem wv_add (N n : Nat) (_hn : n < 4096) : (wv N).set (n / 64) (.int .u64 ((word N (n / 64) ||| 2 ^ (n % 64) : Nat) : Int)) = wv (N ||| 2 ^ n) := by
  refine wv_ext (by simp) fun k hk => ?_
  rw [List.getElem?_set]
  split
  · rename_i h
    subst h
    rw [if_pos (by simp; omega), word_or, word_pow, if_pos rfl]
  · rename_i h
    rw [wv_get N hk, word_or, word_pow, if_neg (fun e => h e.symm), Nat.or_zero]
/-- The numbers from one to another one, none but 1 to 4094. -/
def rng (a b : Int) : Nat := 2 ^ (max a 1).toNat * (2 ^ (min b 4094 + 1 - max a 1).toNat - 1)
theorem rng_bit (a b : Int) (i : Nat) : (rng a b).testBit i = decide (a ≤ i ∧ (i : Int) ≤ b ∧ 1 ≤ i ∧ i ≤ 4094) := by
  unfold rng
  rw [Nat.testBit_two_pow_mul, Nat.testBit_two_pow_sub_one, ← Bool.decide_and]
  exact decide_eq_decide.2 (by omega)
theorem lt_of_bits {N k : Nat} (h : ∀ i, k ≤ i → N.testBit i = false) : N < 2 ^ k := by
  refine Nat.lt_of_not_le fun hle => ?_
  have : N ≠ 0 := fun e => by subst e; exact absurd hle (by simp [])
  obtain ⟨i, hi, hb⟩ := Nat.exists_ge_and_testBit_of_ge_two_pow hle
  rw [h i hi] at hb
  cases hb
/-- A set of the layer's. -/
def Vs (N : Nat) : Prop := ∀ i, N.testBit i = true → 1 ≤ i ∧ i ≤ 4094
theorem Vs.lt {N : Nat} (h : Vs N) : N < 2 ^ 4096 := lt_of_bits (k := 4096) fun i hi => by
  cases e : N.testBit i with
  | false => rfl
  | true => have := h i e; omega
theorem Vs.zero : Vs 0 := fun i h => by simp at h
theorem Vs.rng (a b : Int) : Vs (rng a b) := fun i h => by rw [rng_bit] at h; simp at h; omega
theorem Vs.or {N M : Nat} (h : Vs N) (g : Vs M) : Vs (N ||| M) := fun i x => by
  rw [Nat.testBit_or, Bool.or_eq_true] at x; exact x.elim (h i) (g i)
theorem Vs.and {N M : Nat} (h : Vs N) : Vs (N &&& M) := fun i x => by
  rw [Nat.testBit_and, Bool.and_eq_true] at x; exact h i x.1
/-- A set without another one. -/
def less (N M : Nat) : Nat := N ^^^ (N &&& M)
theorem less_bit (N M i : Nat) : (less N M).testBit i = (N.testBit i && !M.testBit i) := by
  unfold less
  rw [Nat.testBit_xor, Nat.testBit_and]
  cases N.testBit i <;> cases M.testBit i <;> rfl
theorem Vs.less {N M : Nat} (h : Vs N) : Vs (less N M) := fun i x => by
  rw [less_bit, Bool.and_eq_true] at x; exact h i x.1
/-- Whether it has a number. -/
def hasZ (N : Nat) (n : Int) : Bool := decide (1 ≤ n ∧ n ≤ 4094) && N.testBit n.toNat
end
end Go.Proofs.YtbgjcoochdljfaaDoorR.Am
