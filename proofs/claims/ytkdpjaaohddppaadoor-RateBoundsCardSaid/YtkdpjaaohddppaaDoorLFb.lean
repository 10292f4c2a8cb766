/- Contracts and plain facts (LFb). -/
import Derived.Test.YtkdpjaaohddppaaDoorX3
namespace Go.Proofs.YtkdpjaaohddppaaDoor.Am
noncomputable section
/- FLOATS not below 0: how far a rounded number may lie from the number. -/
theorem rnd_near (n d : Nat) : 2 * (rndE n d * 2 ^ d) ≤ 2 * n + 2 ^ d ∧ 2 * n ≤ 2 * (rndE n d * 2 ^ d) + 2 ^ d := by
  have hdm := Nat.div_add_mod n (2 ^ d)
  have hm := Nat.mod_lt n (pow_pos' d)
  unfold rndE
  have hz := pow_pos' d
  generalize n % 2 ^ d = r at *
  generalize n / 2 ^ d = q at *
  generalize 2 ^ d = c at *
  have e1 : (q + 1) * c = c * q + c := by rw [Nat.add_mul, Nat.one_mul, Nat.mul_comm]
  have e0 : (q + 0) * c = c * q := by rw [Nat.add_zero, Nat.mul_comm]
  by_cases h1 : c < 2 * r
  · rw [decide_eq_true h1, Bool.true_or]
    show 2 * ((q + 1) * c) ≤ _ ∧ _ ≤ 2 * ((q + 1) * c) + _
    rw [e1]; omega
  · rw [decide_eq_false h1, Bool.false_or]
    by_cases h2 : c = 2 * r
    · cases hb : (c == 2 * r && q % 2 == 1) with
      | true =>
        show 2 * ((q + 1) * c) ≤ _ ∧ _ ≤ 2 * ((q + 1) * c) + _
        rw [e1]; omega
      | false =>
        show 2 * ((q + 0) * c) ≤ _ ∧ _ ≤ 2 * ((q + 0) * c) + _
        rw [e0]; omega
    · have hb : (c == 2 * r) = false := beq_eq_false_iff_ne.2 h2
      rw [hb, Bool.false_and]
      show 2 * ((q + 0) * c) ≤ _ ∧ _ ≤ 2 * ((q + 0) * c) + _
      rw [e0]; omega
theorem fU_key {B : Nat} (hB : B = fB) (e m : Nat) (h : B ≤ m ∧ m ≤ 2 * B ∨ e = 0 ∧ m < B) : fU (e * B + m) = m * 2 ^ e := by
  have hB0 := fB_pos
  unfold fU
  rw [← hB] at hB0 ⊢
  rcases h with ⟨h1, h2⟩ | ⟨h1, h2⟩
  · have hge : ¬ (e * B + m < B) := by omega
    rw [if_neg hge]
    by_cases h3 : m = 2 * B
    · have e1 : e * B + m = (e + 2) * B := by rw [h3, Nat.add_mul]
      rw [e1, Nat.mul_mod_left, Nat.mul_div_cancel _ hB0, h3]
      have : e + 2 - 1 = e + 1 := by omega
      rw [this, Nat.pow_succ, Nat.add_zero, Nat.mul_comm (2 ^ e) 2, ← Nat.mul_assoc, Nat.mul_comm B 2]
    · obtain ⟨k, rfl⟩ : ∃ k, m = B + k := ⟨m - B, by omega⟩
      have e1 : e * B + (B + k) = k + (e + 1) * B := by rw [Nat.add_mul, Nat.one_mul]; omega
      rw [e1, Nat.add_mul_mod_self_right, Nat.add_mul_div_right _ _ hB0, Nat.mod_eq_of_lt (show k < B by omega), Nat.div_eq_of_lt (show k < B by omega)]
      congr 2; omega
  · rw [h1, Nat.zero_mul, Nat.zero_add, if_pos h2]; simp
/-- 2 ^ 53 and one more. -/
def qN : Nat := 9007199254740992
def qP : Nat := 9007199254740993
theorem rung_val {V : Nat} (hV : ¬ V = 0) : ∃ r, (rungOf V 0 = r ∨ rungOf V 0 = fI ∧ fI ≤ r) ∧ fU r * qN ≤ V * qP ∧ V * qN ≤ fU r * qP := by
  have key : ∃ r, r = expo V 0 * fB + rndE V (expo V 0) ∧ fU r * qN ≤ V * qP ∧ V * qN ≤ fU r * qP := by
    refine ⟨_, rfl, ?_⟩
    have hq : qN = 2 * fB := by decide
    have hp : qP = 2 * fB + 1 := by decide
    have hB1 : fB = 2 ^ 52 := fB_pow
    rw [hq, hp]
    by_cases he : expo V 0 = 0
    · rw [he, rnd_zero, Nat.zero_mul, Nat.zero_add]
      have hlog : V.log2 ≤ 52 := by unfold expo at he; omega
      have hlt : V < 2 ^ 53 := (Nat.log2_lt hV).1 (by omega)
      have : fU V = V := by
        have := fU_key rfl 0 V (by have : 2 ^ 53 = 2 * 2 ^ 52 := by decide
                                   rw [hB1]; omega)
        rw [Nat.zero_mul, Nat.zero_add] at this
        rw [this]; simp
      rw [this, Nat.mul_add]
      omega
    · have hlog : expo V 0 + 52 = V.log2 := by unfold expo at he ⊢; omega
      have hlo : 2 ^ expo V 0 * fB ≤ V := by
        rw [hB1, ← Nat.pow_add, hlog]; exact Nat.log2_self_le hV
      have hhi : V < 2 ^ expo V 0 * (2 * fB) := by
        have : 2 ^ expo V 0 * (2 * fB) = 2 ^ (V.log2 + 1) := by
          rw [hB1, show 2 * 2 ^ 52 = 2 ^ 53 by decide, ← Nat.pow_add]; congr 1; omega
        rw [this]; exact Nat.lt_log2_self
      have hr0 : fB ≤ rndE V (expo V 0) := by
        refine Nat.le_trans ?_ (rnd_lo _ _)
        rw [Nat.le_div_iff_mul_le (pow_pos' _), Nat.mul_comm]; exact hlo
      have hr1 : rndE V (expo V 0) ≤ 2 * fB := by
        have h1 := rnd_hi V (expo V 0)
        have h2 : V / 2 ^ expo V 0 < 2 * fB := by
          rw [Nat.div_lt_iff_lt_mul (pow_pos' _), Nat.mul_comm]; exact hhi
        omega
      rw [fU_key rfl _ _ (.inl ⟨hr0, hr1⟩)]
      obtain ⟨n1, n2⟩ := rnd_near V (expo V 0)
      have hlo2 : 2 ^ expo V 0 * fB ≤ rndE V (expo V 0) * 2 ^ expo V 0 := by rw [Nat.mul_comm]; exact Nat.mul_le_mul_right _ hr0
      generalize rndE V (expo V 0) * 2 ^ expo V 0 = x at *
      generalize 2 ^ expo V 0 = c at *
      clear hhi hr0 hr1 hlog he hq hp hB1
      generalize fB = B at *
      have a1 : 2 * x * B ≤ (2 * V + c) * B := Nat.mul_le_mul_right _ n1
      have a2 : 2 * V * B ≤ (2 * x + c) * B := Nat.mul_le_mul_right _ n2
      rw [Nat.add_mul] at a1 a2
      have e1 : x * (2 * B) = 2 * x * B := by rw [← Nat.mul_assoc, Nat.mul_comm x 2]
      have e2 : V * (2 * B) = 2 * V * B := by rw [← Nat.mul_assoc, Nat.mul_comm V 2]
      rw [Nat.mul_add, Nat.mul_add, e1, e2]
      omega
  obtain ⟨r, hr, h1, h2⟩ := key
  refine ⟨r, ?_, h1, h2⟩
  unfold rungOf
  rw [if_neg hV, Nat.sub_zero, ← hr]
  by_cases h : r ≤ fI
  · exact .inl (Nat.min_eq_left h)
  · exact .inr ⟨Nat.min_eq_right (by omega), by omega⟩
theorem rung_up (V : Nat) : fU (rungOf V 0) * qN ≤ V * qP := by
  by_cases hV : V = 0
  · rw [hV, rungOf_zero, fU_zero]; simp
  · obtain ⟨r, h | ⟨h, hr⟩, h1, -⟩ := rung_val hV
    · rw [h]; exact h1
    · rw [h]
      exact Nat.le_trans (Nat.mul_le_mul_right _ (fU_le hr)) h1
theorem rung_dn {V : Nat} (hf : rungOf V 0 < fI) : V * qN ≤ fU (rungOf V 0) * qP := by
  by_cases hV : V = 0
  · rw [hV]; simp
  · obtain ⟨r, h | ⟨h, hr⟩, -, h2⟩ := rung_val hV
    · rw [h]; exact h2
    · omega
/-- So many roundings apart. -/
def Near (k a b : Nat) : Prop := a * qN ^ k ≤ b * qP ^ k
theorem qNP : qN ≤ qP := by decide
theorem Near.of_le {a b : Nat} (h : a ≤ b) (k : Nat) : Near k a b := Nat.mul_le_mul h (Nat.pow_le_pow_left qNP k)
theorem Near.one {a b : Nat} (h : a * qN ≤ b * qP) : Near 1 a b := by unfold Near; rw [Nat.pow_one, Nat.pow_one]; exact h
theorem Near.trans {i j a b c : Nat} (h : Near i a b) (k : Near j b c) : Near (i + j) a c := by
  unfold Near at *
  rw [Nat.pow_add, Nat.pow_add, ← Nat.mul_assoc]
  refine Nat.le_trans (Nat.mul_le_mul_right _ h) ?_
  rw [Nat.mul_assoc, Nat.mul_comm (qP ^ i), ← Nat.mul_assoc]
  refine Nat.le_trans (Nat.mul_le_mul_right _ k) ?_
  rw [Nat.mul_assoc, Nat.mul_comm (qP ^ j)]
  exact Nat.le_refl _
theorem Near.mono {i j a b : Nat} (h : Near i a b) (hij : i ≤ j) : Near j a b := by
  have := h.trans (.of_le (Nat.le_refl b) (j - i))
  rwa [show i + (j - i) = j by omega] at this
theorem Near.add {k a b c d : Nat} (h : Near k a b) (g : Near k c d) : Near k (a + c) (b + d) := by
  unfold Near at *
  rw [Nat.add_mul, Nat.add_mul]; exact Nat.add_le_add h g
theorem near_num : qP ^ 242 * 1073741824 ≤ qN ^ 242 * 1073741825 := by decide +kernel
theorem near_end {k a b : Nat} (h : Near k a b) (hk : k ≤ 242) : a * 1073741824 ≤ b * 1073741825 := by
  have h := h.mono hk
  unfold Near at h
  have h0 : 0 < qN ^ 242 := Nat.pow_pos (by decide)
  refine Nat.le_of_mul_le_mul_right ?_ h0
  calc a * 1073741824 * qN ^ 242 = a * qN ^ 242 * 1073741824 := Nat.mul_right_comm _ _ _
    _ ≤ b * qP ^ 242 * 1073741824 := Nat.mul_le_mul_right _ h
    _ = b * (qP ^ 242 * 1073741824) := Nat.mul_assoc _ _ _
    _ ≤ b * (qN ^ 242 * 1073741825) := Nat.mul_le_mul_left _ near_num
    _ = b * 1073741825 * qN ^ 242 := by rw [Nat.mul_assoc, Nat.mul_comm (1073741825)]
theorem near_up (V : Nat) : Near 1 (fU (rungOf V 0)) V := .one (rung_up V)
theorem near_dn {V : Nat} (hf : rungOf V 0 < fI) : Near 1 V (fU (rungOf V 0)) := .one (rung_dn hf)
end
end Go.Proofs.YtkdpjaaohddppaaDoor.Am
