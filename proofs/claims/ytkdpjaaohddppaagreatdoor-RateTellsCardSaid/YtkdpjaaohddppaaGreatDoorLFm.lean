/- Contracts and plain facts (LFm). -/
import Derived.Test.YtkdpjaaohddppaaGreatDoorLFl
namespace Go.Proofs.YtkdpjaaohddppaaGreatDoor.Am
noncomputable section
open Ieee
/- FLOATS: rounding goes up with what is rounded. -/
def rndE (n d : Nat) : Nat := n / 2 ^ d + (decide (2 ^ d < 2 * (n % 2 ^ d)) || (2 ^ d == 2 * (n % 2 ^ d) && n / 2 ^ d % 2 == 1)).toNat
theorem pow_pos' (d : Nat) : 0 < 2 ^ d := Nat.pos_of_ne_zero (by simp)
theorem cut_rnd (neg : Bool) (n d : Nat) : Toward.even.cut neg n d = rndE n d := by
  unfold Toward.cut rndE
  simp only [Nat.shiftLeft_eq,Nat.one_mul]
  by_cases h : d ≤ n.log2 + 2
  · rw [Nat.min_eq_left h]
  · rw [Nat.min_eq_right (by omega)]
    have h1 : n < 2 ^ (n.log2 + 1) := Nat.lt_log2_self
    have h2 : 2 ^ (n.log2 + 2) = 2 * 2 ^ (n.log2 + 1) := by rw [Nat.pow_succ 2 (n.log2 + 1)]; omega
    have h3 : 2 ^ (n.log2 + 2) ≤ 2 ^ d := Nat.pow_le_pow_right (by omega) (by omega)
    generalize 2 ^ (n.log2 + 2) = a at *
    generalize 2 ^ (n.log2 + 1) = b at *
    generalize 2 ^ d = c at *
    rw [Nat.div_eq_of_lt (show n < a by omega),Nat.div_eq_of_lt (show n < c by omega),Nat.mod_eq_of_lt (show n < a by omega),Nat.mod_eq_of_lt (show n < c by omega)]
    have e1 : decide (a < 2 * n) = false := decide_eq_false (by omega)
    have e2 : decide (c < 2 * n) = false := decide_eq_false (by omega)
    rw [e1,e2]
    simp
theorem rnd_scale (n d k : Nat) : rndE (n * 2 ^ k) (d + k) = rndE n d := by
  unfold rndE
  have hk := pow_pos' k
  have e1 : 2 ^ (d + k) = 2 ^ d * 2 ^ k := Nat.pow_add 2 d k
  have e2 : n * 2 ^ k / 2 ^ (d + k) = n / 2 ^ d := by rw [e1,Nat.mul_div_mul_right _ _ hk]
  have e3 : n * 2 ^ k % 2 ^ (d + k) = n % 2 ^ d * 2 ^ k := by rw [e1,Nat.mul_mod_mul_right]
  rw [e2,e3,e1]
  have e4 : decide (2 ^ d * 2 ^ k < 2 * (n % 2 ^ d * 2 ^ k)) = decide (2 ^ d < 2 * (n % 2 ^ d)) := by
    rw [← Nat.mul_assoc]
    exact decide_eq_decide.2 (Nat.mul_lt_mul_right hk)
  have e5 : (2 ^ d * 2 ^ k == 2 * (n % 2 ^ d * 2 ^ k)) = (2 ^ d == 2 * (n % 2 ^ d)) := by
    rw [← Nat.mul_assoc]
    have : (2 ^ d * 2 ^ k = 2 * (n % 2 ^ d) * 2 ^ k) ↔ (2 ^ d = 2 * (n % 2 ^ d)) := Nat.mul_left_inj (by omega)
    cases h : decide (2 ^ d = 2 * (n % 2 ^ d)) with
    | true =>
      have h' := of_decide_eq_true h
      rw [beq_iff_eq.2 (this.2 h'),beq_iff_eq.2 h']
    | false =>
      have h' := of_decide_eq_false h
      rw [beq_eq_false_iff_ne.2 (fun x => h' (this.1 x)),beq_eq_false_iff_ne.2 h']
  rw [e4,e5]
theorem rnd_lo (n d : Nat) : n / 2 ^ d ≤ rndE n d := Nat.le_add_right _ _
theorem rnd_hi (n d : Nat) : rndE n d ≤ n / 2 ^ d + 1 := by
  unfold rndE
  have : ∀ b : Bool,b.toNat ≤ 1 := fun b => by cases b <;> decide
  have := this (decide (2 ^ d < 2 * (n % 2 ^ d)) || (2 ^ d == 2 * (n % 2 ^ d) && n / 2 ^ d % 2 == 1))
  omega
theorem rnd_mono {n m d : Nat} (h : n ≤ m) : rndE n d ≤ rndE m d := by
  have hq : n / 2 ^ d ≤ m / 2 ^ d := Nat.div_le_div_right h
  by_cases hlt : n / 2 ^ d < m / 2 ^ d
  · have := rnd_hi n d
    have := rnd_lo m d
    omega
  · have he : n / 2 ^ d = m / 2 ^ d := by omega
    have hr : n % 2 ^ d ≤ m % 2 ^ d := by
      have a := Nat.div_add_mod n (2 ^ d)
      have b := Nat.div_add_mod m (2 ^ d)
      rw [he] at a; omega
    unfold rndE
    rw [he]
    generalize n % 2 ^ d = r at *
    generalize m % 2 ^ d = s at *
    generalize 2 ^ d = c at *
    have : ∀ a b : Bool,(a = true → b = true) → a.toNat ≤ b.toNat := fun a b h => by cases a <;> cases b <;> simp at h ⊢
    refine Nat.add_le_add_left (this _ _ fun h1 => ?_) _
    simp only [Bool.or_eq_true,decide_eq_true_eq,Bool.and_eq_true,beq_iff_eq] at h1 ⊢
    rcases h1 with h1 | ⟨h1,h2⟩
    · left; omega
    · by_cases hs : c = 2 * s
      · exact .inr ⟨hs,h2⟩
      · left; omega
def expo (V D : Nat) : Nat := max (V.log2 - 52) D
def rungOf (V D : Nat) : Nat := if V = 0 then 0 else min ((expo V D - D) * fB + rndE V (expo V D)) fI
theorem fB_pow : fB = 2 ^ 52 := by decide
theorem key_mono {V W D B I : Nat} (hB : B = 2 ^ 52) (hV : ¬ V = 0) (h : V ≤ W) : min ((expo V D - D) * B + rndE V (expo V D)) I ≤ min ((expo W D - D) * B + rndE W (expo W D)) I := by
  have hlog : V.log2 ≤ W.log2 := by
    rw [Nat.le_log2 (by omega)]
    exact Nat.le_trans (Nat.log2_self_le hV) h
  have he : expo V D ≤ expo W D := by unfold expo; omega
  have hD : D ≤ expo V D := by unfold expo; omega
  have key : (expo V D - D) * B + rndE V (expo V D) ≤ (expo W D - D) * B + rndE W (expo W D) := by
    by_cases hee : expo V D = expo W D
    · rw [hee]; exact Nat.add_le_add_left (rnd_mono h) _
    · have hlt : expo V D < expo W D := by omega
      have hWl : expo W D + 52 = W.log2 := by unfold expo at hlt ⊢; omega
      have hVl : V.log2 ≤ expo V D + 52 := by unfold expo; omega
      have hW0 : W ≠ 0 := by omega
      have w1 : B ≤ W / 2 ^ expo W D := by
        rw [Nat.le_div_iff_mul_le (pow_pos' _),hB,← Nat.pow_add,Nat.add_comm 52,hWl]
        exact Nat.log2_self_le hW0
      have v1 : V / 2 ^ expo V D < 2 * B := by
        rw [Nat.div_lt_iff_lt_mul (pow_pos' _),hB]
        have h53 : 2 * 2 ^ 52 = 2 ^ 53 := by decide
        have e1 : 2 * 2 ^ 52 * 2 ^ expo V D = 2 ^ (expo V D + 52 + 1) := by
          rw [h53,Nat.mul_comm,← Nat.pow_add]
        rw [e1]
        exact Nat.lt_of_lt_of_le Nat.lt_log2_self (Nat.pow_le_pow_right (by omega) (by omega))
      have a := rnd_hi V (expo V D)
      have b := rnd_lo W (expo W D)
      have c : (expo V D - D) * B + B ≤ (expo W D - D) * B := by
        have h1 : expo V D - D + 1 ≤ expo W D - D := by omega
        have h2 := Nat.mul_le_mul_right B h1
        rw [Nat.add_mul,Nat.one_mul] at h2
        exact h2
      clear hB hWl hVl
      generalize (expo V D - D) * B = p at *
      generalize (expo W D - D) * B = q at *
      generalize V / 2 ^ expo V D = x at *
      generalize W / 2 ^ expo W D = y at *
      omega
  exact Nat.le_min.2 ⟨Nat.le_trans (Nat.min_le_left _ _) key,Nat.min_le_right _ _⟩
theorem rungOf_mono {V W D : Nat} (h : V ≤ W) : rungOf V D ≤ rungOf W D := by
  unfold rungOf
  by_cases hV : V = 0
  · rw [if_pos hV]; exact Nat.zero_le _
  · rw [if_neg hV,if_neg (show ¬ W = 0 by omega)]
    exact key_mono fB_pow hV h
theorem rungOf_zero (D : Nat) : rungOf 0 D = 0 := by unfold rungOf; rw [if_pos rfl]
theorem log2_shift {m : Nat} (hm : ¬ m = 0) (k : Nat) : (m * 2 ^ k).log2 = m.log2 + k := by
  have h0 : m * 2 ^ k ≠ 0 := Nat.mul_ne_zero hm (by have := pow_pos' k; omega)
  have a : 2 ^ (m.log2 + k) ≤ m * 2 ^ k := by rw [Nat.pow_add]; exact Nat.mul_le_mul_right _ (Nat.log2_self_le hm)
  have b : m * 2 ^ k < 2 ^ (m.log2 + k + 1) := by
    have e : 2 ^ (m.log2 + k + 1) = 2 ^ (m.log2 + 1) * 2 ^ k := by rw [← Nat.pow_add]; congr 1; omega
    rw [e]
    exact Nat.mul_lt_mul_of_pos_right Nat.lt_log2_self (pow_pos' k)
  have c := (Nat.le_log2 h0).2 a
  have d := (Nat.log2_lt h0).2 b
  omega
theorem nearest_rung (mag : Nat) (place b : Int) (h1 : b ≤ place) (h2 : b ≤ -1074) : double.nearest false mag place = rungOf (mag * 2 ^ (place - b).toNat) (-1074 - b).toNat := by
  unfold Format.nearest
  have hw : ∀ r,double.word false r = r := fun r => rfl
  rw [hw,hw,dL,dB,dI]
  by_cases hm : mag = 0
  · rw [if_pos hm,hm,Nat.zero_mul,rungOf_zero]
  · rw [if_neg hm]
    obtain ⟨k,hk⟩ : ∃ k : Nat,place - b = (k : Int) := ⟨(place - b).toNat,by omega⟩
    obtain ⟨D,hD⟩ : ∃ D : Nat, -1074 - b = (D : Int) := ⟨(-1074 - b).toNat,by omega⟩
    have hlog := log2_shift hm k
    have hV : ¬ mag * 2 ^ k = 0 := Nat.mul_ne_zero hm (by have := pow_pos' k; omega)
    have hfb : double.fractionBits = 52 := rfl
    have hlast : max (place + (mag.log2 : Int) - (double.fractionBits : Int)) (-1074) = b + ((expo (mag * 2 ^ k) D : Nat) : Int) := by
      rw [hfb]
      unfold expo
      rw [hlog]
      omega
    rw [hlast]
    have a1 : (place - b).toNat = k := by omega
    have a2 : (-1074 - b).toNat = D := by omega
    have hDe : D ≤ expo (mag * 2 ^ k) D := by unfold expo; omega
    rw [a1,a2,cut_rnd]
    unfold rungOf
    rw [if_neg hV]
    generalize expo (mag * 2 ^ k) D = e at *
    have b1 : (b + (e : Int) - -1074).toNat = e - D := by omega
    have b2 : (place - (b + (e : Int))).toNat = k - e := by omega
    have b3 : (b + (e : Int) - place).toNat = e - k := by omega
    rw [b1,b2,b3,Nat.shiftLeft_eq]
    have b4 : rndE (mag * 2 ^ (k - e)) (e - k) = rndE (mag * 2 ^ k) e := by
      by_cases hke : e ≤ k
      · have := rnd_scale (mag * 2 ^ (k - e)) 0 e
        have e1 : mag * 2 ^ (k - e) * 2 ^ e = mag * 2 ^ k := by rw [Nat.mul_assoc,← Nat.pow_add]; congr 2; omega
        rw [e1,Nat.zero_add] at this
        rw [this]; congr 1; omega
      · have := rnd_scale mag (e - k) k
        have e1 : e - k + k = e := by omega
        rw [e1] at this
        have e2 : k - e = 0 := by omega
        rw [e2,this]; simp
    rw [b4]
theorem fRung_pos {x : Nat} (h : x ≤ fI) : fRung x = x ∧ fNeg x = false := by
  have hIS : fI < fS := by decide
  unfold fRung fNeg
  rw [Nat.mod_eq_of_lt (by omega),Nat.div_eq_of_lt (by omega)]
  exact ⟨rfl,rfl⟩
theorem read_pos {x : Nat} (h : x < fI) : ∃ m u : Nat,double.read x = .number false m (-1074 + (u : Int)) ∧ m * 2 ^ u = fU x := by
  obtain ⟨h1,h2⟩ := fRung_pos (Nat.le_of_lt h)
  obtain ⟨m,u,e,v⟩ := read_fin (x := x) (by rw [h1]; exact h)
  rw [h2] at e v
  refine ⟨m,u,e, ?_⟩
  unfold signed fVal at v
  rw [h2,h1,Nat.shiftLeft_eq] at v
  simp only [Bool.false_eq_true,if_false] at v
  exact Int.ofNat_inj.1 v
theorem mul_pos_fin {x y : Nat} (hx : x < fI) (hy : y < fI) : double.mul x y = some (rungOf (fU x * fU y) 1074) := by
  obtain ⟨m,u,e1,v1⟩ := read_pos hx
  obtain ⟨k,w,e2,v2⟩ := read_pos hy
  unfold Format.mul
  rw [e1,e2]
  simp only [Datum.product,Option.map_some,Format.write,Bool.xor_false]
  congr 1
  rw [nearest_rung _ _ (-2148) (by omega) (by omega)]
  have a : (-1074 + (u : Int) + (-1074 + (w : Int)) - -2148).toNat = u + w := by omega
  rw [a,← v1,← v2,Nat.pow_add]
  congr 1
  rw [Nat.mul_assoc,Nat.mul_left_comm k,← Nat.mul_assoc m]
end
end Go.Proofs.YtkdpjaaohddppaaGreatDoor.Am
