/- Contracts and plain facts (LQf). -/
import Derived.Test.YtkdpjaaohddppaaGreatDoorLQe
namespace Go.Proofs.YtkdpjaaohddppaaGreatDoor.Am
noncomputable section
/- THE SHORTEST DIGITS,as the code finds them. -/
def skewN (mant : Nat) (x : Int) : Bool := decide (mant = 4503599627370496) && decide (-1074 < x)
def pOf (sk : Bool) (x : Int) : Int := if sk then -((x * 631305 - 261663) / 2097152) else -(x * 78913 / 262144)
def iOf (sk : Bool) (x : Int) : Nat := (pOf sk x + 348).toNat
def sOf (sk : Bool) (x : Int) (s : Nat) : Nat := (-(x - (s : Int) + lpZ (pOf sk x) + 3)).toNat
def usN (sk : Bool) (x : Int) (s y : Nat) : Nat := uscN y (hiT (iOf sk x)) (loT (iOf sk x)) (sOf sk x s)
def minN (sk : Bool) (mant s : Nat) : Nat := if sk then (4 * mant - 1) * 2 ^ (s - 2) else (2 * mant - 1) * 2 ^ (s - 1)
def maxN (mant s : Nat) : Nat := (2 * mant + 1) * 2 ^ (s - 1)
def dminN (sk : Bool) (mant : Nat) (x : Int) (s : Nat) : Nat := (usN sk x s (minN sk mant s) + mant % 2 + 3) / 4
def dmaxN (sk : Bool) (mant : Nat) (x : Int) (s : Nat) : Nat := (usN sk x s (maxN mant s) - mant % 2) / 4
def shortD (sk : Bool) (mant : Nat) (x : Int) (s : Nat) : Nat :=
  if dminN sk mant x s ≤ dmaxN sk mant x s / 10 * 10 then dmaxN sk mant x s / 10 else if dminN sk mant x s < dmaxN sk mant x s then rnd (usN sk x s (mant * 2 ^ s)) else dminN sk mant x s
def shortP (sk : Bool) (mant : Nat) (x : Int) (s : Nat) : Int :=
  if dminN sk mant x s ≤ dmaxN sk mant x s / 10 * 10 then -(pOf sk x - 1) else -(pOf sk x)
def expChk (k : Nat) (sk : Bool) : Bool :=
  let x : Int := (k : Int) - 1074
  decide (0 ≤ x + lpZ (pOf sk x)) && decide (x + lpZ (pOf sk x) ≤ 3) && decide (-300 ≤ pOf sk x) && decide (pOf sk x ≤ 330)
theorem exp_all : ((List.range 2046).all fun k => expChk k true && expChk k false) = true := by decide +kernel
structure ExpOk (sk : Bool) (x : Int) : Prop where
  a0 : 0 ≤ x + lpZ (pOf sk x)
  a1 : x + lpZ (pOf sk x) ≤ 3
  p0 : -300 ≤ pOf sk x
  p1 : pOf sk x ≤ 330
theorem exp_ok {x : Int} (h0 : -1074 ≤ x) (h1 : x ≤ 971) (sk : Bool) : ExpOk sk x := by
  obtain ⟨k,hk⟩ : ∃ k : Nat,x = (k : Int) - 1074 := ⟨(x + 1074).toNat,by omega⟩
  have := List.all_eq_true.1 exp_all k (List.mem_range.2 (by omega))
  simp only [Bool.and_eq_true,expChk,decide_eq_true_iff] at this
  rw [← hk] at this
  obtain ⟨⟨⟨⟨a,b⟩,c⟩,d⟩,⟨⟨a',b'⟩,c'⟩,d'⟩ := this
  cases sk
  · exact ⟨a',b',c',d'⟩
  · exact ⟨a,b,c,d⟩
theorem hi_all : (Pinned.pow10Rows.all fun r => decide (9223372036854775808 ≤ r.1)) = true := by decide +kernel
theorem hi_big {i : Nat} (hi : i < 696) : 9223372036854775808 ≤ hiT i := by
  have := List.all_eq_true.1 hi_all _ (List.mem_of_getElem? (rows_at hi))
  simpa using this
theorem usc_ge {x hi lo s : Nat} : (x * hi / 18446744073709551616 - 1) / 2 ^ s ≤ uscN x hi lo s := by
  have h1 : (x * hi / 18446744073709551616 - 1) / 2 ^ s ≤ x * hi / 18446744073709551616 / 2 ^ s := Nat.div_le_div_right (Nat.sub_le _ _)
  unfold uscN
  simp only
  split
  · split
    · exact Nat.left_le_or
    · exact Nat.le_trans h1 Nat.left_le_or
  · exact Nat.le_trans h1 Nat.left_le_or
theorem usc_lt {x hi lo s : Nat} (hx : x < 18446744073709551616) (hhi : hi < 18446744073709551616) (hs : s ≤ 63) : uscN x hi lo s < 2 ^ (64 - s) := by
  have hH : x * hi / 18446744073709551616 < 18446744073709551616 := by
    have : x * hi < 18446744073709551616 * 18446744073709551616 := Nat.mul_lt_mul_of_lt_of_lt hx hhi
    exact Nat.div_lt_of_lt_mul this
  have hq : ∀ {y : Nat},y ≤ x * hi / 18446744073709551616 → y / 2 ^ s < 2 ^ (64 - s) := by
    intro y hy
    refine Nat.div_lt_of_lt_mul ?_
    rw [← Nat.pow_add,show s + (64 - s) = 64 by omega]
    exact Nat.lt_of_le_of_lt hy hH
  have h2 : ∀ c : Prop,[Decidable c] → (if c then 1 else 0) < 2 ^ (64 - s) := fun c _ => by
    have := Nat.one_lt_two_pow (show 64 - s ≠ 0 by omega)
    split <;> omega
  have h1 : 1 < 2 ^ (64 - s) := Nat.one_lt_two_pow (by omega)
  unfold uscN
  simp only
  split
  · split
    · exact Nat.or_lt_two_pow (hq (Nat.sub_le _ _)) (h2 _)
    · exact Nat.or_lt_two_pow (hq (Nat.le_refl _)) (h2 _)
  · exact Nat.or_lt_two_pow (hq (Nat.le_refl _)) h1
structure MOk (mant s : Nat) (x : Int) : Prop where
  lo : 9223372036854775808 ≤ mant * 2 ^ s
  hi : mant * 2 ^ s < 18446744073709551616
  s0 : 11 ≤ s
  s1 : s ≤ 63
  m1 : 1 ≤ mant
  m2 : mant < 9007199254740992
  x0 : -1074 ≤ x
  x1 : x ≤ 971
  nm : mant < 4503599627370496 → x = -1074
theorem MOk.pow {mant s : Nat} {x : Int} (o : MOk mant s x) : (2 * mant) * 2 ^ (s - 1) = mant * 2 ^ s ∧ (4 * mant) * 2 ^ (s - 2) = mant * 2 ^ s ∧ 2 * 2 ^ (s - 1) = 2 ^ s ∧ 4 * 2 ^ (s - 2) = 2 ^ s := by
  have h := o.s0
  have e1 : 2 ^ s = 2 * 2 ^ (s - 1) := by rw [← Nat.pow_succ']; congr 1; omega
  have e2 : 2 ^ s = 4 * 2 ^ (s - 2) := by rw [show (4 : Nat) = 2 ^ 2 from rfl,← Nat.pow_add]; congr 1; omega
  refine ⟨?_, ?_,e1.symm,e2.symm⟩
  · rw [e1]; grind
  · rw [e2]; grind
theorem MOk.minmax {mant s : Nat} {x : Int} (o : MOk mant s x) (sk : Bool) : minN sk mant s + (if sk then 2 ^ (s - 2) else 2 ^ (s - 1)) = mant * 2 ^ s ∧ maxN mant s = mant * 2 ^ s + 2 ^ (s - 1) ∧ maxN mant s < 18446744073709551616 ∧ 4611686018427387904 ≤ minN sk mant s ∧ minN sk mant s < 18446744073709551616 := by
  obtain ⟨e1,e2,e3,e4⟩ := o.pow
  have hm := o.m1
  have hlo := o.lo
  have hhi := o.hi
  have h2 : 2 ^ s ≤ mant * 2 ^ s := Nat.le_mul_of_pos_left _ hm
  have h3 : mant * 2 ^ s + 2 ^ s ≤ 18446744073709551616 := by
    have h5 : 18446744073709551616 = 2 ^ (64 - s) * 2 ^ s := by rw [← Nat.pow_add,show 64 - s + s = 64 by have := o.s1; omega]
    have h4 : mant < 2 ^ (64 - s) := Nat.lt_of_mul_lt_mul_right (by rw [← h5]; exact hhi)
    have h6 : (mant + 1) * 2 ^ s ≤ 2 ^ (64 - s) * 2 ^ s := Nat.mul_le_mul_right _ h4
    rw [← h5,Nat.add_mul,Nat.one_mul] at h6
    exact h6
  have a1 : (2 * mant - 1) * 2 ^ (s - 1) + 2 ^ (s - 1) = mant * 2 ^ s := by
    rw [← e1,← Nat.succ_mul]; congr 1; omega
  have a2 : (4 * mant - 1) * 2 ^ (s - 2) + 2 ^ (s - 2) = mant * 2 ^ s := by
    rw [← e2,← Nat.succ_mul]; congr 1; omega
  have a3 : maxN mant s = mant * 2 ^ s + 2 ^ (s - 1) := by unfold maxN; rw [Nat.add_mul,e1,Nat.one_mul]
  have p1 : 0 < 2 ^ (s - 1) := Nat.two_pow_pos _
  unfold minN
  cases sk
  · simp only [Bool.false_eq_true,if_false]; exact ⟨a1,a3,by omega,by omega,by omega⟩
  · simp only [if_true]; exact ⟨a2,a3,by omega,by omega,by omega⟩
theorem MOk.sc {mant s : Nat} {x : Int} (o : MOk mant s x) (sk : Bool) : -(x - (s : Int) + lpZ (pOf sk x) + 3) = (sOf sk x s : Int) ∧ 5 ≤ sOf sk x s ∧ sOf sk x s + 3 ≤ s ∧ s ≤ sOf sk x s + 6 ∧ pOf sk x + 348 = (iOf sk x : Int) ∧ 48 ≤ iOf sk x ∧ iOf sk x ≤ 678 := by
  have e := exp_ok o.x0 o.x1 sk
  have h0 := o.s0
  have h1 := o.s1
  obtain ⟨a0,a1,p0,p1⟩ := e
  unfold sOf iOf
  omega
theorem us_ge {mant s : Nat} {x : Int} (o : MOk mant s x) (sk : Bool) {y : Nat} (hy : 4611686018427387904 ≤ y) : 1 ≤ usN sk x s y ∧ (9223372036854775808 ≤ y → 3 ≤ usN sk x s y) := by
  obtain ⟨_,h1,h2,_,_,h3,h4⟩ := o.sc sk
  have hb := hi_big (i := iOf sk x) (by omega)
  have hs1 := o.s1
  have hge := usc_ge (x := y) (hi := hiT (iOf sk x)) (lo := loT (iOf sk x)) (s := sOf sk x s)
  have hpw : 2 ^ sOf sk x s ≤ 2 ^ 60 := Nat.pow_le_pow_right (by decide) (by omega)
  rw [show (2 : Nat) ^ 60 = 1152921504606846976 by decide] at hpw
  have hp0 := Nat.two_pow_pos (sOf sk x s)
  unfold usN
  have key : ∀ z q : Nat,z ≤ y → q * 1152921504606846976 + 1 ≤ z / 2 → q ≤ uscN y (hiT (iOf sk x)) (loT (iOf sk x)) (sOf sk x s) := by
    intro z q h0 h6
    have h5 : z * 9223372036854775808 ≤ y * hiT (iOf sk x) := Nat.mul_le_mul h0 hb
    refine Nat.le_trans ?_ hge
    refine (Nat.le_div_iff_mul_le hp0).2 (Nat.le_trans (Nat.mul_le_mul_left q hpw) ?_)
    have h7 : z / 2 ≤ y * hiT (iOf sk x) / 18446744073709551616 := by omega
    exact Nat.le_sub_of_add_le (Nat.le_trans h6 h7)
  constructor
  · exact key 4611686018427387904 1 hy (by omega)
  · intro hy2
    exact key 9223372036854775808 3 hy2 (by omega)
theorem short_pos {mant s : Nat} {x : Int} (o : MOk mant s x) (sk : Bool) : 1 ≤ dminN sk mant x s ∧ 1 ≤ shortD sk mant x s ∧ shortD sk mant x s < 1000000000000000000 := by
  obtain ⟨m1,m2,m3,m4,m5⟩ := o.minmax sk
  obtain ⟨_,h1,h2,_,_,h3,h4⟩ := o.sc sk
  obtain ⟨_,_,_,hhi,_⟩ := tab_ok (i := iOf sk x) (by omega)
  have hs1 := o.s1
  have a1 := (us_ge o sk m4).1
  have a2 := (us_ge o sk (y := mant * 2 ^ s) (by have := o.lo; omega)).2 o.lo
  have lt : ∀ y,y < 18446744073709551616 → usN sk x s y < 576460752303423488 := fun y hy => by
    refine Nat.lt_of_lt_of_le (usc_lt hy hhi (by omega)) ?_
    rw [show (576460752303423488 : Nat) = 2 ^ 59 by decide]
    exact Nat.pow_le_pow_right (by decide) (by omega)
  have b1 := lt _ m5
  have b2 := lt _ m3
  have b3 := lt _ o.hi
  have d1 : 1 ≤ dminN sk mant x s := by unfold dminN; omega
  refine ⟨d1, ?_, ?_⟩
  · unfold shortD
    split
    · omega
    · split
      · unfold rnd; omega
      · exact d1
  · unfold shortD
    split
    · unfold dmaxN; omega
    · split
      · unfold rnd; omega
      · unfold dminN; omega
end
end Go.Proofs.YtkdpjaaohddppaaGreatDoor.Am
