/- Contracts and plain facts (LFo). -/
import Derived.Test.YtkdpjaaohddppaaGreatDoorLFl
namespace Go.Proofs.YtkdpjaaohddppaaGreatDoor.Am
noncomputable section
/- FLOATS: what is told of their order. -/
def fK (x : Nat) : Int := if fNan x then (fS : Int) else fKey x
theorem fKey_rng {x : Nat} (h : fNan x = false) : -(fI : Int) ≤ fKey x ∧ fKey x ≤ (fI : Int) := by
  have h1 := of_decide_eq_false h
  unfold fKey
  split <;> omega
theorem ord_lt (x y : Nat) : (Ieee.double.order x y == some .lt) = (!(fNan x || fNan y) && decide (fKey x < fKey y)) := by
  rw [order_key]
  cases fNan x || fNan y with
  | true => rfl
  | false =>
    simp only [Bool.false_eq_true,if_false,Bool.not_false,Bool.true_and]
    rw [cmpI]
    by_cases h : fKey x < fKey y
    · rw [if_pos h,decide_eq_true h]; rfl
    · rw [if_neg h,decide_eq_false h]
      split <;> rfl
theorem ord_gt (x y : Nat) : (Ieee.double.order x y == some .gt) = (!(fNan x || fNan y) && decide (fKey y < fKey x)) := by
  rw [order_key]
  cases fNan x || fNan y with
  | true => rfl
  | false =>
    simp only [Bool.false_eq_true,if_false,Bool.not_false,Bool.true_and]
    rw [cmpI]
    by_cases h : fKey x < fKey y
    · rw [if_pos h,decide_eq_false (by omega)]; rfl
    · rw [if_neg h]
      by_cases h2 : fKey x = fKey y
      · rw [if_pos h2,decide_eq_false (by omega)]; rfl
      · rw [if_neg h2,decide_eq_true (by omega)]; rfl
theorem ord_eq (x y : Nat) : (Ieee.double.order x y == some .eq) = (!(fNan x || fNan y) && decide (fKey x = fKey y)) := by
  rw [order_key]
  cases fNan x || fNan y with
  | true => rfl
  | false =>
    simp only [Bool.false_eq_true,if_false,Bool.not_false,Bool.true_and]
    rw [cmpI]
    by_cases h : fKey x < fKey y
    · rw [if_pos h,decide_eq_false (by omega)]; rfl
    · rw [if_neg h]
      by_cases h2 : fKey x = fKey y
      · rw [if_pos h2,decide_eq_true h2]; rfl
      · rw [if_neg h2,decide_eq_false h2]; rfl
def fLess (x y : Nat) : Bool := decide (fK x < fK y)
theorem less_law (x y : Nat) : fLess x y = if fNan x || fNan y then (!fNan x && fNan y) else decide (fKey x < fKey y) := by
  have hIS : (fI : Int) < (fS : Int) := by decide
  unfold fLess fK
  cases hx : fNan x with
  | true =>
    cases hy : fNan y with
    | true => simp
    | false =>
      have := fKey_rng hy
      simp only [Bool.true_or,if_true,Bool.false_eq_true,if_false,Bool.not_true,Bool.false_and]
      exact decide_eq_false (by omega)
  | false =>
    have h1 := fKey_rng hx
    cases hy : fNan y with
    | true =>
      simp only [Bool.or_true,if_true,Bool.false_eq_true,if_false,Bool.not_false,Bool.true_and]
      exact decide_eq_true (by omega)
    | false => simp
def fClean (x : Nat) : Nat := if !fNan x && decide (0 < fKey x) then x else 0
theorem fKey_zero : fKey 0 = 0 := by decide
theorem fNan_zero : fNan 0 = false := by decide
end
end Go.Proofs.YtkdpjaaohddppaaGreatDoor.Am
