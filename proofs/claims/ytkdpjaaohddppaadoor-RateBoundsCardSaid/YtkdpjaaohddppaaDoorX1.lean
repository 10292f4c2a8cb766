/- Contracts of the program's functions (X1). -/
import Derived.Test.YtkdpjaaohddppaaDoorG
import Derived.Test.YtkdpjaaohddppaaDoorL
import Derived.Test.YtkdpjaaohddppaaDoorLFo
namespace Go.Proofs.YtkdpjaaohddppaaDoor.Am
noncomputable section
/- CONTRACTS: the order of rates. -/
def fEq (a b : Nat) : Bool := !(fNan a || fNan b) && decide (fKey a = fKey b)
def fLt (a b : Nat) : Bool := !(fNan a || fNan b) && decide (fKey a < fKey b)
theorem fl_neq (a b : Nat) : aFloatOp .neq .f64 a b = some (.bool (!fEq a b)) := by
  have := ord_eq a b
  unfold fEq
  rw [← this]; rfl
theorem fl_lss (a b : Nat) : aFloatOp .lss .f64 a b = some (.bool (fLt a b)) := by
  have := ord_lt a b
  unfold fLt
  rw [← this]; rfl
theorem fl_gtr (a b : Nat) : aFloatOp .gtr .f64 a b = some (.bool (fLt b a)) := by
  have := ord_gt a b
  unfold fLt
  rw [Bool.or_comm, ← this]; rfl
theorem fl_geq (a b : Nat) : aFloatOp .geq .f64 a b = some (.bool (fLt b a || fEq a b)) := by
  have h1 := ord_gt a b
  have h2 := ord_eq a b
  unfold fLt fEq
  rw [Bool.or_comm (fNan b), ← h1, ← h2]; rfl
theorem fEq_self (a : Nat) : (!fEq a a) = fNan a := by
  unfold fEq
  rw [decide_eq_true rfl]
  cases fNan a <;> rfl
theorem nan_ret (a : Nat) (h : AHeap) (n : Nat) : Ret EV11 38 [.float .f64 a] h n (.bool (fNan a)) [] n := by
  refine rsx38 (by simp) (by simp) ?_
  have := fEq_self a
  simp -dsimp (discharger := omega) [B38, fl_neq, this]
  exact .refl _
theorem less_ret (a b : Nat) (h : AHeap) (n : Nat) : Ret EV11 20 [.float .f64 a, .float .f64 b] h n (.bool (fLess a b)) [] n := by
  refine rsx20 (by simp) (by simp) ?_
  have hn := nan_ret a h n
  have hm := nan_ret b h n
  rw [less_law]
  cases ha : fNan a with
  | true =>
    rw [ha] at hn
    simp -dsimp (discharger := omega) [B20]
    with_reducible refine call_ret hn ?_
    simp -dsimp (discharger := omega) []
    with_reducible refine call_ret hn ?_
    simp -dsimp (discharger := omega) []
    exact .refl _
  | false =>
    rw [ha] at hn
    cases hb : fNan b with
    | true =>
      rw [hb] at hm
      simp -dsimp (discharger := omega) [B20]
      with_reducible refine call_ret hn ?_
      simp -dsimp (discharger := omega) []
      with_reducible refine call_ret hm ?_
      simp -dsimp (discharger := omega) []
      with_reducible refine call_ret hn ?_
      simp -dsimp (discharger := omega) []
      with_reducible refine call_ret hm ?_
      simp -dsimp (discharger := omega) []
      exact .refl _
    | false =>
      rw [hb] at hm
      simp -dsimp (discharger := omega) [B20]
      with_reducible refine call_ret hn ?_
      simp -dsimp (discharger := omega) []
      with_reducible refine call_ret hm ?_
      simp -dsimp (discharger := omega) [fl_lss]
      refine ⟨?_, .refl _⟩
      unfold fLt
      rw [ha, hb]; simp
theorem same_ret (a b : Nat) (h : AHeap) (n : Nat) : Ret EV11 21 [.float .f64 a, .float .f64 b] h n (.bool (!fLess a b && !fLess b a)) [] n := by
  refine rsx21 (by simp) (by simp) ?_
  have h1 := less_ret a b h n
  have h2 := less_ret b a h n
  simp -dsimp (discharger := omega) [B21]
  with_reducible refine call_ret h1 ?_
  cases fLess a b with
  | true =>
    simp -dsimp (discharger := omega) []
    exact .refl _
  | false =>
    simp -dsimp (discharger := omega) []
    with_reducible refine call_ret h2 ?_
    simp -dsimp (discharger := omega) []
    exact .refl _
theorem clean_ret (a : Nat) (h : AHeap) (n : Nat) : Ret EV11 19 [.float .f64 a] h n (.float .f64 (fClean a)) [] n := by
  refine rsx19 (by simp) (by simp) ?_
  have e : fLt 0 a = (!fNan a && decide (0 < fKey a)) := by
    unfold fLt
    rw [fNan_zero, fKey_zero, Bool.false_or]
  have ec : fClean a = if fLt 0 a then a else 0 := by rw [e]; rfl
  rw [ec]
  cases hh : fLt 0 a with
  | true =>
    simp -dsimp (discharger := omega) [B19, fl_gtr, hh]
    exact .refl _
  | false =>
    simp -dsimp (discharger := omega) [B19, fl_gtr, hh]
    exact .refl _
end
end Go.Proofs.YtkdpjaaohddppaaDoor.Am
