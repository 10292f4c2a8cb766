/- Contracts and plain facts (L3). -/
import Derived.Test.YtkdpjaaohddppaaGreatDoorL2
namespace Go.Proofs.YtkdpjaaohddppaaGreatDoor.Am
noncomputable section
/- PLAIN FACTS: decimal texts of numbers. -/
theorem shrI_pos (k : IntKind) {a : Int} (h : 0 ≤ a) (j : Nat) (hj : j ≤ k.bits) : shrI k a (j : Int) = a / ((2 ^ j : Nat) : Int) := by
  obtain ⟨m,rfl⟩ : ∃ m : Nat,a = (m : Int) := ⟨a.toNat,by omega⟩
  rw [shrI_nat,Nat.min_eq_left hj]; rfl
theorem tmodP {a b : Int} (h : 0 ≤ a) : Int.tmod a b = a % b := Int.tmod_eq_emod_of_nonneg h
theorem tdivP {a b : Int} (h : 0 ≤ a) : Int.tdiv a b = a / b := Int.tdiv_eq_ediv_of_nonneg h
theorem cset {l : List UInt8} {i : Nat} (h : i < l.length) (x : UInt8) : List.take i (u8s l) ++ Value.int .u8 (x.toNat : Int) :: List.drop (i + 1) (u8s l) = u8s (l.set i x) := by
  have : u8s (l.set i x) = (u8s l).set i (.int .u8 (x.toNat : Int)) := by simp [u8s,List.map_set]
  rw [this,List.set_eq_take_append_cons_drop,if_pos (by simpa using h)]
def dgs : Nat → Nat → List UInt8
  | 0,_ => []
  | k + 1,u => dgs k (u / 10) ++ [UInt8.ofNat (48 + u % 10)]
@[simp] theorem dgs_len : ∀ k u,(dgs k u).length = k
  | 0,_ => rfl
  | k + 1,u => by simp [dgs,dgs_len k]
def ndig (u : Nat) : Nat := if u < 10 then 1 else ndig (u / 10) + 1
termination_by u
decreasing_by omega
theorem ndig_of : ∀ {k u : Nat},(k = 0 ∨ 10 ^ k ≤ u) → u < 10 ^ (k + 1) → ndig u = k + 1
  | 0,u,_,h => by rw [ndig.eq_def,if_pos (by simpa using h)]
  | k + 1,u,h1,h2 => by
    have h1 : 10 ^ (k + 1) ≤ u := by simpa using h1
    have e1 : 10 ^ (k + 1) = 10 ^ k * 10 := Nat.pow_succ _ _
    have e2 : 10 ^ (k + 1 + 1) = 10 ^ (k + 1) * 10 := Nat.pow_succ _ _
    have hp : 0 < 10 ^ k := Nat.pos_of_ne_zero (by simp)
    rw [ndig.eq_def,if_neg (by omega),ndig_of (k := k) (u := u / 10) (.inr (by omega)) (by omega)]
theorem ndig_pos (u : Nat) : 0 < ndig u := by rw [ndig.eq_def]; split <;> omega
theorem ndig_bounds (u : Nat) : u < 10 ^ ndig u ∧ (ndig u = 1 ∨ 10 ^ (ndig u - 1) ≤ u) := by
  induction u using Nat.strongRecOn with
  | _ u ih =>
    rw [ndig.eq_def]
    split
    · rename_i h; exact ⟨by omega, .inl rfl⟩
    · rename_i h
      obtain ⟨h1,h2⟩ := ih (u / 10) (by omega)
      have e1 : 10 ^ (ndig (u / 10) + 1) = 10 ^ ndig (u / 10) * 10 := Nat.pow_succ _ _
      refine ⟨by omega, .inr ?_⟩
      rw [Nat.add_sub_cancel]
      rcases h2 with h2 | h2
      · rw [h2]; omega
      · have hp := ndig_pos (u / 10)
        have e2 : 10 ^ ndig (u / 10) = 10 ^ (ndig (u / 10) - 1) * 10 := by
          rw [← Nat.pow_succ]; congr 1; omega
        omega
def isD (c : UInt8) : Bool := decide (48 ≤ c.toNat) && decide (c.toNat ≤ 57)
def decV (s : List UInt8) : Nat := s.foldl (fun a c => 10 * a + (c.toNat - 48)) 0
theorem decV_snoc (s : List UInt8) (c : UInt8) : decV (s ++ [c]) = 10 * decV s + (c.toNat - 48) := by simp [decV,List.foldl_append]
theorem snoc_of {α : Type} {s : List α} {k : Nat} (h : s.length = k + 1) : ∃ l c,s = l ++ [c] := by
  have hne : s ≠ [] := by intro e; rw [e] at h; simp at h
  exact ⟨s.dropLast,s.getLast hne,(List.dropLast_concat_getLast hne).symm⟩
theorem decV_lt (s : List UInt8) (h : s.all isD = true) : decV s < 10 ^ s.length := by
  obtain ⟨k,hk⟩ : ∃ k,s.length = k := ⟨_,rfl⟩
  induction k generalizing s with
  | zero => rw [List.eq_nil_of_length_eq_zero hk]; simp [decV]
  | succ k ih =>
    obtain ⟨l,c,rfl⟩ := snoc_of hk
    simp only [List.all_append,Bool.and_eq_true] at h
    have := ih l h.1 (by simpa using hk)
    have hc : isD c = true := by simpa using h.2
    simp [isD] at hc
    rw [decV_snoc,List.length_append,List.length_singleton,Nat.pow_succ]
    omega
end
end Go.Proofs.YtkdpjaaohddppaaGreatDoor.Am
