/- Contracts and plain facts (LFc). -/
import Derived.Test.YtkdpjaaohddppaaGreatDoorE
import Derived.Test.YtkdpjaaohddppaaGreatDoorLFo
namespace Go.Proofs.YtkdpjaaohddppaaGreatDoor.Am
noncomputable section
/- FLOATS COMPARED. -/
def fEq (a b : Nat) : Bool := !(fNan a || fNan b) && decide (fKey a = fKey b)
def fLt (a b : Nat) : Bool := !(fNan a || fNan b) && decide (fKey a < fKey b)
theorem fl_neq (a b : Nat) : aFloatOp .neq .f64 a b = some (.bool (!fEq a b)) := by
  have := ord_eq a b
  unfold fEq
  rw [← this]; rfl
theorem fl_lss (a b : Nat) : aFloatOp .lss .f64 a b = some (.bool (fLt a b)) := by
  have := ord_lt a b
  unfold fLt
  rw [← this]; rfl
theorem fl_gtr (a b : Nat) : aFloatOp .gtr .f64 a b = some (.bool (fLt b a)) := by
  have := ord_gt a b
  unfold fLt
  rw [Bool.or_comm,← this]; rfl
theorem fEq_self (a : Nat) : (!fEq a a) = fNan a := by
  unfold fEq
  rw [decide_eq_true rfl]
  cases fNan a <;> rfl
end
end Go.Proofs.YtkdpjaaohddppaaGreatDoor.Am
