/- Contracts and plain facts (LFl). -/
import Derived.Test.YtkdpjaaohddppaaGreatDoorL
import GoSem.Core.Float
namespace Go.Proofs.YtkdpjaaohddppaaGreatDoor.Am
noncomputable section
open Ieee
/- FLOATS: their order is that of their words. -/
def fB : Nat := 4503599627370496
def fS : Nat := 9223372036854775808
def fI : Nat := 9218868437227405312
def fRung (x : Nat) : Nat := x % fS
def fNeg (x : Nat) : Bool := x / fS % 2 == 1
def fNan (x : Nat) : Bool := decide (fI < fRung x)
def fKey (x : Nat) : Int := if fNeg x then -(fRung x : Int) else (fRung x : Int)
theorem dB : double.binade = fB := by decide +kernel
theorem dS : double.signWeight = fS := by decide +kernel
theorem dI : double.infRung = fI := by decide +kernel
theorem dL : double.leastPlace = -1074 := by decide +kernel
theorem read_def (x : Nat) : double.read x = if fRung x < fB then .number (fNeg x) (fRung x) (-1074) else if fRung x < fI then .number (fNeg x) (fB + fRung x % fB) (-1074 + ((fRung x / fB - 1 : Nat) : Int)) else if fRung x = fI then .infinity (fNeg x) else .nan (fNeg x) (fRung x - fI) := by
  unfold Format.read
  simp only [dB,dS,dI,dL]
  rfl
def fU (r : Nat) : Nat := if r < fB then r else (fB + r % fB) * 2 ^ (r / fB - 1)
theorem fB_pos : 0 < fB := by decide
theorem fU_step (r : Nat) : fU r < fU (r + 1) := by
  unfold fU
  by_cases h1 : r + 1 < fB
  · rw [if_pos h1,if_pos (by omega)]; omega
  · by_cases h2 : r < fB
    · have e : r + 1 = fB := by omega
      rw [if_pos h2,if_neg h1,e,Nat.mod_self,Nat.div_self fB_pos]
      simp; omega
    · rw [if_neg h2,if_neg h1]
      have hq : 1 ≤ r / fB := by rw [Nat.le_div_iff_mul_le fB_pos]; omega
      have hdm := Nat.div_add_mod r fB
      have hm := Nat.mod_lt r fB_pos
      by_cases h3 : r % fB + 1 < fB
      · have hd1 : (r + 1) / fB = r / fB := by
          rw [Nat.div_eq_iff fB_pos]
          generalize r / fB = q at *
          generalize r % fB = m at *
          constructor
          · rw [Nat.mul_comm]; omega
          · rw [Nat.mul_comm] at hdm; have : (q + 1) * fB = q * fB + fB := by rw [Nat.add_mul,Nat.one_mul]
            omega
        have hm1 : (r + 1) % fB = r % fB + 1 := by
          have := Nat.div_add_mod (r + 1) fB
          rw [hd1] at this
          omega
        rw [hd1,hm1]
        have hp : 0 < 2 ^ (r / fB - 1) := Nat.pos_of_ne_zero (by simp)
        exact Nat.mul_lt_mul_of_pos_right (by omega) hp
      · have hme : r % fB = fB - 1 := by omega
        have e1 : r + 1 = fB * (r / fB + 1) := by rw [Nat.mul_add,Nat.mul_one]; omega
        have hd1 : (r + 1) / fB = r / fB + 1 := by rw [e1,Nat.mul_div_cancel_left _ fB_pos]
        have hm1 : (r + 1) % fB = 0 := by rw [e1,Nat.mul_mod_right]
        rw [hd1,hm1,hme]
        obtain ⟨q,hq'⟩ : ∃ q,r / fB = q + 1 := ⟨r / fB - 1,by omega⟩
        rw [hq']
        have e2 : q + 1 + 1 - 1 = q + 1 := by omega
        have e3 : q + 1 - 1 = q := by omega
        rw [e2,e3,Nat.pow_succ]
        have hp : 0 < 2 ^ q := Nat.pos_of_ne_zero (by simp)
        generalize 2 ^ q = w at *
        have : (fB + (fB - 1)) * w < (fB + fB) * w := Nat.mul_lt_mul_of_pos_right (by have := fB_pos; omega) hp
        have e4 : (fB + 0) * (w * 2) = (fB + fB) * w := by rw [Nat.add_zero,Nat.add_mul,Nat.mul_comm w 2,← Nat.mul_assoc,Nat.mul_comm fB 2,Nat.two_mul,Nat.add_mul]
        omega
theorem fU_lt {r s : Nat} (h : r < s) : fU r < fU s := by
  induction s with
  | zero => omega
  | succ s ih =>
    have := fU_step s
    rcases Nat.lt_or_ge r s with h1 | h1
    · have := ih h1; omega
    · have : r = s := by omega
      subst this; assumption
theorem fU_zero : fU 0 = 0 := by unfold fU; rw [if_pos fB_pos]
theorem cmpI (a b : Int) : compare a b = if a < b then .lt else if a = b then .eq else .gt := rfl
theorem cmp_of {a b c d : Int} (h1 : a < b ↔ c < d) (h2 : a = b ↔ c = d) : compare a b = compare c d := by
  rw [cmpI,cmpI]
  by_cases x : a < b
  · rw [if_pos x,if_pos (h1.1 x)]
  · rw [if_neg x,if_neg (fun h => x (h1.2 h))]
    by_cases y : a = b
    · rw [if_pos y,if_pos (h2.1 y)]
    · rw [if_neg y,if_neg (fun h => y (h2.2 h))]
theorem cmp_scale (a b : Int) {c : Int} (hc : 0 < c) : compare (a * c) (b * c) = compare a b :=
  cmp_of (Int.mul_lt_mul_right hc) ⟨fun h => Int.eq_of_mul_eq_mul_right (by omega) h,fun h => by rw [h]⟩
theorem signed_mul (neg : Bool) (m u w : Nat) : signed neg m (u + w) = signed neg m u * ((2 ^ w : Nat) : Int) := by
  unfold signed
  cases neg with
  | true => simp only [if_true,Nat.shiftLeft_eq,Nat.pow_add,← Nat.mul_assoc,Int.natCast_mul,Int.neg_mul]
  | false => simp only [Bool.false_eq_true,if_false,Nat.shiftLeft_eq,Nat.pow_add,← Nat.mul_assoc,Int.natCast_mul]
def fVal (x : Nat) : Int := if fNeg x then -(fU (fRung x) : Int) else (fU (fRung x) : Int)
theorem read_fin {x : Nat} (h : fRung x < fI) : ∃ m u : Nat,double.read x = .number (fNeg x) m (-1074 + (u : Int)) ∧ signed (fNeg x) m u = fVal x := by
  rw [read_def]
  by_cases h1 : fRung x < fB
  · refine ⟨fRung x,0,by rw [if_pos h1]; rfl, ?_⟩
    unfold signed fVal fU
    rw [if_pos h1]; simp
  · refine ⟨fB + fRung x % fB,fRung x / fB - 1,by rw [if_neg h1,if_pos h], ?_⟩
    unfold signed fVal fU
    rw [if_neg h1,Nat.shiftLeft_eq]
theorem order_fin {x y : Nat} (hx : fRung x < fI) (hy : fRung y < fI) : double.order x y = some (compare (fVal x) (fVal y)) := by
  obtain ⟨m,u,e1,v1⟩ := read_fin hx
  obtain ⟨k,w,e2,v2⟩ := read_fin hy
  unfold Format.order
  rw [e1,e2,← v1,← v2]
  simp only [Datum.order]
  congr 1
  have hb : min (-1074 + (u : Int)) (-1074 + (w : Int)) = -1074 + ((min u w : Nat) : Int) := by omega
  rw [hb]
  have a1 : (-1074 + (u : Int) - (-1074 + ((min u w : Nat) : Int))).toNat = u - min u w := by omega
  have a2 : (-1074 + (w : Int) - (-1074 + ((min u w : Nat) : Int))).toNat = w - min u w := by omega
  rw [a1,a2]
  have b1 : signed (fNeg x) m u = signed (fNeg x) m (u - min u w) * ((2 ^ (min u w) : Nat) : Int) := by rw [← signed_mul]; congr 1; omega
  have b2 : signed (fNeg y) k w = signed (fNeg y) k (w - min u w) * ((2 ^ (min u w) : Nat) : Int) := by rw [← signed_mul]; congr 1; omega
  rw [b1,b2,cmp_scale _ _ (by have : 0 < 2 ^ (min u w) := Nat.pos_of_ne_zero (by simp); omega)]
theorem fU_le {r s : Nat} (h : r ≤ s) : fU r ≤ fU s := by
  rcases Nat.lt_or_ge r s with h1 | h1
  · exact Nat.le_of_lt (fU_lt h1)
  · have : r = s := by omega
    rw [this]; exact Nat.le_refl _
theorem fU_inj {r s : Nat} (h : fU r = fU s) : r = s := by
  rcases Nat.lt_trichotomy r s with h1 | h1 | h1
  · have := fU_lt h1; omega
  · exact h1
  · have := fU_lt h1; omega
theorem fU_lt_iff {r s : Nat} : fU r < fU s ↔ r < s := ⟨fun h => by
  rcases Nat.lt_or_ge r s with h1 | h1
  · exact h1
  · have := fU_le h1; omega,fU_lt⟩
theorem fU_eq_iff {r s : Nat} : fU r = fU s ↔ r = s := ⟨fU_inj,fun h => by rw [h]⟩
theorem fU_pos {r : Nat} : 0 < fU r ↔ 0 < r := by
  have := @fU_lt_iff 0 r
  rwa [fU_zero] at this
theorem val_key (x y : Nat) : compare (fVal x) (fVal y) = compare (fKey x) (fKey y) := by
  have a := @fU_lt_iff (fRung x) (fRung y)
  have b := @fU_lt_iff (fRung y) (fRung x)
  have c := @fU_eq_iff (fRung x) (fRung y)
  have d := @fU_pos (fRung x)
  have e := @fU_pos (fRung y)
  unfold fVal fKey
  refine cmp_of ?_ ?_
  · split <;> split <;> omega
  · split <;> split <;> omega
theorem order_key (x y : Nat) : double.order x y = if fNan x || fNan y then none else some (compare (fKey x) (fKey y)) := by
  have rx := read_def x
  have ry := read_def y
  have hBI : fB < fI := by decide
  by_cases nx : fI < fRung x
  · have : fNan x = true := decide_eq_true nx
    rw [this,Bool.true_or,if_pos rfl]
    rw [if_neg (by omega),if_neg (by omega),if_neg (by omega)] at rx
    unfold Format.order
    rw [rx]; rfl
  · have hnx : fNan x = false := decide_eq_false nx
    rw [hnx,Bool.false_or]
    by_cases ny : fI < fRung y
    · have : fNan y = true := decide_eq_true ny
      rw [this,if_pos rfl]
      rw [if_neg (by omega),if_neg (by omega),if_neg (by omega)] at ry
      unfold Format.order
      rw [ry]
      cases double.read x <;> rfl
    · have hny : fNan y = false := decide_eq_false ny
      rw [hny]
      simp only [Bool.false_eq_true,if_false]
      by_cases ix : fRung x < fI
      · by_cases iy : fRung y < fI
        · rw [order_fin ix iy,val_key]
        · have ey : fRung y = fI := by omega
          rw [if_neg (by omega),if_neg iy,if_pos ey] at ry
          obtain ⟨m,u,e1, -⟩ := read_fin ix
          unfold Format.order
          rw [e1,ry]
          simp only [Datum.order]
          rw [cmpI]
          unfold fKey
          cases fNeg x <;> cases fNeg y <;> simp <;> repeat' split
          all_goals first | rfl | omega
      · have ex : fRung x = fI := by omega
        rw [if_neg (by omega),if_neg ix,if_pos ex] at rx
        by_cases iy : fRung y < fI
        · obtain ⟨m,u,e1, -⟩ := read_fin iy
          unfold Format.order
          rw [rx,e1]
          simp only [Datum.order]
          rw [cmpI]
          unfold fKey
          cases fNeg x <;> cases fNeg y <;> simp <;> repeat' split
          all_goals first | rfl | omega
        · have ey : fRung y = fI := by omega
          rw [if_neg (by omega),if_neg iy,if_pos ey] at ry
          unfold Format.order
          rw [rx,ry]
          simp only [Datum.order]
          unfold fKey
          rw [ex,ey]
          cases fNeg x <;> cases fNeg y <;> decide +kernel
end
end Go.Proofs.YtkdpjaaohddppaaGreatDoor.Am
