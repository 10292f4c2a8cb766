/- Contracts of the program's functions (X3). -/
import Derived.Test.YtkdpjaaohddppaaDoorX2
import Derived.Test.YtkdpjaaohddppaaDoorLFm
namespace Go.Proofs.YtkdpjaaohddppaaDoor.Am
noncomputable section
/- FLOATS not below 0, infinity too: sums and products. -/
def addP (x y : Nat) : Nat := if x = fI ∨ y = fI then fI else rungOf (fU x + fU y) 0
def mulP (x y : Nat) : Nat := if x = fI ∨ y = fI then fI else rungOf (fU x * fU y) 1074
theorem read_inf : Ieee.double.read fI = .infinity false := by decide +kernel
theorem add_pos {x y : Nat} (hx : x ≤ fI) (hy : y ≤ fI) : Ieee.double.add x y = some (addP x y) := by
  unfold addP
  by_cases h1 : x = fI
  · rw [if_pos (.inl h1), h1]
    by_cases h2 : y = fI
    · rw [h2]; decide +kernel
    · obtain ⟨m, u, e, -⟩ := read_pos (x := y) (by omega)
      unfold Ieee.Format.add
      rw [read_inf, e]; rfl
  · by_cases h2 : y = fI
    · rw [if_pos (.inr h2), h2]
      obtain ⟨m, u, e, -⟩ := read_pos (x := x) (by omega)
      unfold Ieee.Format.add
      rw [read_inf, e]; rfl
    · rw [if_neg (by omega)]
      exact add_pos_fin (by omega) (by omega)
theorem addP_mono {x y z : Nat} (h : y ≤ z) (hz : z ≤ fI) : addP x y ≤ addP x z := by
  unfold addP
  by_cases h1 : x = fI
  · rw [if_pos (.inl h1), if_pos (.inl h1)]; exact Nat.le_refl _
  · by_cases h2 : z = fI
    · rw [if_pos (show x = fI ∨ z = fI from .inr h2)]
      split
      · exact Nat.le_refl _
      · exact rungOf_le _ _
    · rw [if_neg (by omega), if_neg (by omega)]
      exact rungOf_mono (Nat.add_le_add_left (fU_le h) _)
theorem mul_pos {x y : Nat} (hx : x ≤ fI) (hy0 : 0 < y) (hy : y < fI) : Ieee.double.mul x y = some (mulP x y) := by
  unfold mulP
  by_cases h1 : x = fI
  · rw [if_pos (.inl h1), h1]
    obtain ⟨m, u, e, v⟩ := read_pos hy
    have hU : 0 < fU y := fU_pos.2 hy0
    have hm : ¬ m = 0 := fun h => by rw [h, Nat.zero_mul] at v; omega
    unfold Ieee.Format.mul
    rw [read_inf, e]
    simp only [Ieee.Datum.product, if_neg hm]
    rfl
  · rw [if_neg (by omega)]
    exact mul_pos_fin (by omega) hy
theorem mulP_mono {x y z : Nat} (h : y ≤ z) (hz : z < fI) : mulP x y ≤ mulP x z := by
  unfold mulP
  by_cases h1 : x = fI
  · rw [if_pos (.inl h1), if_pos (.inl h1)]; exact Nat.le_refl _
  · rw [if_neg (by omega), if_neg (by omega)]
    exact rungOf_mono (Nat.mul_le_mul_left _ (fU_le h))
theorem mulP_le (x y : Nat) : mulP x y ≤ fI := by
  unfold mulP
  split
  · exact Nat.le_refl _
  · exact rungOf_le _ _
def ofN (d : Nat) : Nat := rungOf (d * 2 ^ 1074) 0
theorem ofN_mono {d e : Nat} (h : d ≤ e) : ofN d ≤ ofN e := rungOf_mono (Nat.mul_le_mul_right _ h)
theorem ofN_top : ofN (2 ^ 64) < fI := by decide +kernel
theorem ofN_one : 0 < ofN 1 := by decide +kernel
theorem ofN_rng {d : Nat} (h0 : 0 < d) (h1 : d < 2 ^ 64) : 0 < ofN d ∧ ofN d < fI :=
  ⟨Nat.lt_of_lt_of_le ofN_one (ofN_mono h0), Nat.lt_of_le_of_lt (ofN_mono (Nat.le_of_lt h1)) ofN_top⟩
theorem near_nat (d : Nat) : FloatKind.f64.nearest (d : Int) = ofN d := by
  have e : FloatKind.f64.nearest (d : Int) = Ieee.double.nearest false d 0 := by
    unfold FloatKind.nearest FloatKind.encode
    rw [decide_eq_false (by omega : ¬ (d : Int) < 0), Int.natAbs_natCast]; rfl
  have e1 : ((0 : Int) - -1074).toNat = 1074 := by decide
  have e2 : ((-1074 : Int) - -1074).toNat = 0 := by decide
  rw [e, nearest_rung d 0 (-1074) (by omega) (by omega), e1, e2]
  unfold ofN
  rfl
theorem rnd_zero (n : Nat) : rndE n 0 = n := by
  unfold rndE
  simp [Nat.mod_one]
theorem exact_aux {B l : Nat} (hB : B = 2 ^ 52) (q m : Nat) (hm : m < B) (hl : l = (q + 1) * B + m) : (expo ((B + m) * 2 ^ q) 0 - 0) * B + rndE ((B + m) * 2 ^ q) (expo ((B + m) * 2 ^ q) 0) = l := by
  have hlog : (B + m).log2 = 52 := by
    have h0 : B + m ≠ 0 := by omega
    have a := (Nat.le_log2 h0 (k := 52)).2 (by omega)
    have b := (Nat.log2_lt h0 (k := 53)).2 (by omega)
    omega
  have hne : ¬ B + m = 0 := by omega
  have he : expo ((B + m) * 2 ^ q) 0 = q := by
    unfold expo
    rw [log2_shift hne, hlog]; omega
  rw [he]
  have := rnd_scale (B + m) 0 q
  rw [Nat.zero_add] at this
  rw [this, rnd_zero, hl, Nat.add_mul, Nat.one_mul, Nat.sub_zero, Nat.add_assoc]
theorem small_aux {B l : Nat} (hB : B = 2 ^ 52) (h0 : ¬ l = 0) (hl : l < B) : (expo l 0 - 0) * B + rndE l (expo l 0) = l := by
  have hlog := (Nat.log2_lt h0 (k := 52)).2 (by omega)
  have he : expo l 0 = 0 := by unfold expo; omega
  rw [he, rnd_zero]; simp
/-- A word's value is rounded to the word. -/
theorem rungOf_fU {l : Nat} (h : l ≤ fI) : rungOf (fU l) 0 = l := by
  by_cases h0 : l = 0
  · rw [h0, fU_zero, rungOf_zero]
  · have hU : ¬ fU l = 0 := by have := fU_pos.2 (show 0 < l by omega); omega
    unfold rungOf
    rw [if_neg hU]
    have key : (expo (fU l) 0 - 0) * fB + rndE (fU l) (expo (fU l) 0) = l := by
      unfold fU
      by_cases h1 : l < fB
      · rw [if_pos h1]; exact small_aux fB_pow h0 h1
      · rw [if_neg h1]
        have hq : 1 ≤ l / fB := by rw [Nat.le_div_iff_mul_le fB_pos]; omega
        have hdm := Nat.div_add_mod l fB
        refine exact_aux fB_pow (l / fB - 1) (l % fB) (Nat.mod_lt _ fB_pos) ?_
        have e : l / fB - 1 + 1 = l / fB := by omega
        rw [e, Nat.mul_comm]
        exact hdm.symm
    rw [key]
    exact Nat.min_eq_left h
theorem addP_ge {x y : Nat} (hx : x ≤ fI) : x ≤ addP x y := by
  unfold addP
  split
  · exact hx
  · have := rungOf_mono (V := fU x) (W := fU x + fU y) (D := 0) (Nat.le_add_right _ _)
    rwa [rungOf_fU hx] at this
def afterN (r b l d : Nat) : Nat := if d = 0 then l else min b (addP l (mulP r (ofN d)))
theorem after_mono {r b l d e : Nat} (hl : l ≤ b) (hb : b ≤ fI) (h : d ≤ e) (he : e < 2 ^ 64) : afterN r b l d ≤ afterN r b l e := by
  unfold afterN
  by_cases h1 : e = 0
  · rw [if_pos (by omega), if_pos h1]; exact Nat.le_refl _
  · rw [if_neg h1]
    by_cases h2 : d = 0
    · rw [if_pos h2]
      exact Nat.le_min.2 ⟨hl, addP_ge (Nat.le_trans hl hb)⟩
    · rw [if_neg h2]
      have hm := mulP_mono (x := r) (ofN_mono h) (ofN_rng (by omega) he).2
      have ha := addP_mono (x := l) hm (mulP_le _ _)
      exact Nat.le_min.2 ⟨Nat.min_le_left _ _, Nat.le_trans (Nat.min_le_right _ _) ha⟩
end
end Go.Proofs.YtkdpjaaohddppaaDoor.Am
