/- Contracts and plain facts (LFd). -/
import Derived.Test.YtkdpjaaohddppaaGreatDoorLFm
import Derived.Test.YtkdpjaaohddppaaGreatDoorLFo
namespace Go.Proofs.YtkdpjaaohddppaaGreatDoor.Am
noncomputable section
open Ieee
/- QUOTIENTS,PRODUCTS,CONVERSIONS stay finite. -/
set_option exponentiation.threshold 3000 in
theorem toF_pos (m : Nat) : double.nearest false m 0 = rungOf (m * 2 ^ 1074) 0 := by
  have := nearest_rung m 0 (-1074) (by decide) (by decide)
  rw [this]; rfl
set_option exponentiation.threshold 3000 in
theorem fU_log {x : Nat} (h : x ≤ 4841369599423283200) (hx : ¬ fU x = 0) : (fU x).log2 ≤ 1126 := by
  have h1 := fU_le h
  have h2 : fU 4841369599423283200 = 2 ^ 1126 := by decide +kernel
  rw [h2] at h1
  refine Nat.le_of_not_lt fun hc => ?_
  have h3 : 2 ^ (fU x).log2 ≤ fU x := Nat.log2_self_le hx
  have h4 : 2 ^ 1127 ≤ 2 ^ (fU x).log2 := Nat.pow_le_pow_right (by decide) hc
  have h5 : (2 : Nat) ^ 1127 = 2 ^ 1126 * 2 := Nat.pow_succ ..
  have h6 : 0 < (2 : Nat) ^ 1126 := Nat.two_pow_pos _
  omega
theorem fU_log1 {y : Nat} (h : 4607182418800017408 ≤ y) : 1074 ≤ (fU y).log2 := by
  have h1 := fU_le h
  have h2 : fU 4607182418800017408 = 2 ^ 1074 := by decide +kernel
  rw [h2] at h1
  refine (Nat.le_log2 ?_).2 h1
  have := Nat.two_pow_pos 1074
  omega
theorem rung_top {E : Nat} : rungOf (2 ^ (1134 + E)) E < fI := by
  unfold rungOf
  have hp : 2 ^ (1134 + E) ≠ 0 := Nat.ne_of_gt (Nat.two_pow_pos _)
  rw [if_neg hp]
  have he : expo (2 ^ (1134 + E)) E = 1082 + E := by
    unfold expo; rw [Nat.log2_two_pow]; omega
  rw [he]
  have hr := rnd_hi (2 ^ (1134 + E)) (1082 + E)
  have hd : 2 ^ (1134 + E) / 2 ^ (1082 + E) = fB := by
    rw [show 1134 + E = 52 + (1082 + E) by omega,Nat.pow_add,Nat.mul_div_cancel _ (Nat.two_pow_pos _)]
    decide
  rw [hd] at hr
  have h1 : (1082 + E - E) * fB + rndE (2 ^ (1134 + E)) (1082 + E) ≤ 1082 * fB + fB + 1 := by
    rw [show 1082 + E - E = 1082 by omega]; omega
  have h2 : 1082 * fB + fB + 1 < fI := by decide
  omega
theorem div_pos_fin {x y : Nat} (hx : x ≤ 4841369599423283200) (hy : 4607182418800017408 ≤ y) (hyf : y < fI) : ∃ r,double.div x y = some r ∧ r < fI := by
  have hxf : x < fI := Nat.lt_of_le_of_lt hx (by decide)
  obtain ⟨m,u,e1,v1⟩ := read_pos hxf
  obtain ⟨k,w,e2,v2⟩ := read_pos hyf
  have hUy := fU_log1 hy
  have hk : k ≠ 0 := by
    rintro rfl
    rw [Nat.zero_mul] at v2
    rw [← v2] at hUy
    simp at hUy
  unfold Format.div
  rw [e1,e2]
  simp only [Datum.quotient,if_neg hk,Option.map_some,Format.write,Bool.xor_false]
  refine ⟨_,rfl, ?_⟩
  have hfb : double.fractionBits + 2 = 54 := rfl
  rw [hfb]
  obtain ⟨more,hmore⟩ : ∃ more,more = 54 + k.log2 - m.log2 := ⟨_,rfl⟩
  rw [← hmore]
  obtain ⟨q,hq⟩ : ∃ q,q = 2 * (m <<< more / k) + (m <<< more % k != 0).toNat := ⟨_,rfl⟩
  rw [← hq]
  have hpl : -1074 + (u : Int) - (-1074 + (w : Int)) - (more : Int) - 1 = (u : Int) - (w : Int) - (more : Int) - 1 := by omega
  rw [hpl]
  obtain ⟨b,hb⟩ : ∃ b : Int,b = min ((u : Int) - (w : Int) - (more : Int) - 1) (-1074) := ⟨_,rfl⟩
  rw [nearest_rung q _ b (by omega) (by omega)]
  by_cases hm : m = 0
  · have : q = 0 := by rw [hq,hm]; simp
    rw [this,Nat.zero_mul,rungOf_zero]; decide
  · -- how long the quotient is
    have hUx : ¬ fU x = 0 := by
      rw [← v1]; exact Nat.mul_ne_zero hm (Nat.ne_of_gt (Nat.two_pow_pos _))
    have hlx := fU_log hx hUx
    rw [← v1,log2_shift hm] at hlx
    rw [← v2,log2_shift hk] at hUy
    obtain ⟨A,hA⟩ : ∃ A,A = m.log2 + more + 3 - k.log2 := ⟨_,rfl⟩
    have hqA : q ≤ 2 ^ A := by
      have h1 : m <<< more < 2 ^ (m.log2 + more + 1) := by
        rw [Nat.shiftLeft_eq]
        have := Nat.lt_log2_self (n := m)
        rw [show m.log2 + more + 1 = (m.log2 + 1) + more by omega,Nat.pow_add]
        exact Nat.mul_lt_mul_of_pos_right this (Nat.two_pow_pos _)
      have h2 : 2 ^ k.log2 ≤ k := Nat.log2_self_le hk
      have h3 : m <<< more / k < 2 ^ (m.log2 + more + 1 - k.log2) := by
        refine Nat.div_lt_of_lt_mul (Nat.lt_of_lt_of_le h1 ?_)
        have : 2 ^ (m.log2 + more + 1) = 2 ^ k.log2 * 2 ^ (m.log2 + more + 1 - k.log2) := by
          rw [← Nat.pow_add]; congr 1; omega
        rw [this]
        exact Nat.mul_le_mul_right _ h2
      have h4 : (m <<< more % k != 0).toNat ≤ 1 := Bool.toNat_le _
      have h5 : 2 ^ A = 2 ^ (m.log2 + more + 1 - k.log2) * 4 := by
        rw [hA,show m.log2 + more + 3 - k.log2 = (m.log2 + more + 1 - k.log2) + 2 by omega,Nat.pow_add]
      omega
    obtain ⟨t,ht⟩ : ∃ t,t = ((u : Int) - (w : Int) - (more : Int) - 1 - b).toNat := ⟨_,rfl⟩
    have hAt : A + t ≤ 60 + (-b).toNat := by omega
    obtain ⟨E,hE⟩ : ∃ E,E = (-1074 - b).toNat := ⟨_,rfl⟩
    rw [← ht,← hE]
    refine Nat.lt_of_le_of_lt (rungOf_mono ?_) (rung_top (E := E))
    calc q * 2 ^ t ≤ 2 ^ A * 2 ^ t := Nat.mul_le_mul_right _ hqA
      _ = 2 ^ (A + t) := (Nat.pow_add ..).symm
      _ ≤ 2 ^ (1134 + E) := Nat.pow_le_pow_right (by decide) (by omega)
theorem mul_bound {x y a b c : Nat} (hx : x ≤ a) (hy : y ≤ b) (ha : a < fI) (hb : b < fI) (hc : rungOf (fU a * fU b) 1074 ≤ c) : ∃ r,double.mul x y = some r ∧ r ≤ c := ⟨_,mul_pos_fin (by omega) (by omega),Nat.le_trans (rungOf_mono (Nat.mul_le_mul (fU_le hx) (fU_le hy))) hc⟩
theorem mul_b1 : rungOf (fU 4841369599423283200 * fU 4831355200913801216) 1074 ≤ 5100000000000000000 := by decide +kernel
theorem mul_b2 : rungOf (fU 4831355200913801216 * fU 4936209963552724370) 1074 ≤ 5200000000000000000 := by decide +kernel
set_option exponentiation.threshold 3000 in
theorem toF_le {m : Nat} (h : m < 4503599627370496) : rungOf (m * 2 ^ 1074) 0 ≤ 4841369599423283200 := by
  have h1 : rungOf (4503599627370496 * 2 ^ 1074) 0 = 4841369599423283200 := by decide +kernel
  rw [← h1]
  exact rungOf_mono (Nat.mul_le_mul_right _ (by omega))
end
end Go.Proofs.YtkdpjaaohddppaaGreatDoor.Am
