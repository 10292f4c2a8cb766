/- Contracts and plain facts (LQe). -/
import Derived.Test.YtkdpjaaohddppaaGreatDoorLQd
import GoSem.PinnedTables
namespace Go.Proofs.YtkdpjaaohddppaaGreatDoor.Am
noncomputable section
/- THE TABLE OF POWERS: each entry is the least whole number not below. -/
def hiT (i : Nat) : Nat := (Pinned.pow10Rows.getD i (0,0)).1
def loT (i : Nat) : Nat := (Pinned.pow10Rows.getD i (0,0)).2
def tabChk (i : Nat) (r : Nat × Nat) : Bool :=
  let N := tenI i * 2 ^ (1327 - lpZ ((i : Int) - 348)).toNat
  let D := tenD * twoD
  let pm := r.1 * 18446744073709551616 - r.2
  decide (N ≤ pm * D) && decide (pm * D < N + D) && decide (r.2 ≤ r.1 * 18446744073709551616) && decide (r.1 < 18446744073709551616) && decide (r.2 < 18446744073709551616)
def tabAll : Nat → List (Nat × Nat) → Bool
  | _,[] => true
  | i,r :: l => tabChk i r && tabAll (i + 1) l
theorem tab_all : tabAll 0 Pinned.pow10Rows = true := by decide +kernel
theorem tab_len : Pinned.pow10Rows.length = 696 := by decide +kernel
theorem tabAll_get : ∀ {l : List (Nat × Nat)} {i k : Nat} {r : Nat × Nat},tabAll i l = true → l[k]? = some r → tabChk (i + k) r = true
  | [],_,_,_,_,h => by simp at h
  | a :: l,i,0,r,h,hk => by
    simp only [tabAll,Bool.and_eq_true] at h
    simp at hk; subst hk; exact h.1
  | a :: l,i,k + 1,r,h,hk => by
    simp only [tabAll,Bool.and_eq_true] at h
    have := tabAll_get h.2 (show l[k]? = some r by simpa using hk)
    rwa [show i + 1 + k = i + (k + 1) by omega] at this
structure TabOk (i : Nat) : Prop where
  lo : tenI i * 2 ^ (1327 - lpZ ((i : Int) - 348)).toNat ≤ (hiT i * 18446744073709551616 - loT i) * (tenD * twoD)
  hi : (hiT i * 18446744073709551616 - loT i) * (tenD * twoD) < tenI i * 2 ^ (1327 - lpZ ((i : Int) - 348)).toNat + tenD * twoD
  le : loT i ≤ hiT i * 18446744073709551616
  bh : hiT i < 18446744073709551616
  bl : loT i < 18446744073709551616
theorem rows_at {i : Nat} (hi : i < 696) : Pinned.pow10Rows[i]? = some (hiT i,loT i) := by
  have hl : i < Pinned.pow10Rows.length := by rw [tab_len]; exact hi
  rw [List.getElem?_eq_getElem hl]
  unfold hiT loT
  rw [List.getD_eq_getElem?_getD,List.getElem?_eq_getElem hl]; rfl
theorem tab_ok {i : Nat} (hi : i < 696) : TabOk i := by
  have := tabAll_get tab_all (rows_at hi)
  rw [Nat.zero_add] at this
  simp only [tabChk,Bool.and_eq_true,decide_eq_true_iff] at this
  obtain ⟨⟨⟨⟨h1,h2⟩,h3⟩,h4⟩,h5⟩ := this
  exact ⟨h1,h2,h3,h4,h5⟩
structure PowOk (i : Nat) : Prop where
  lo : tenD * 2 ^ (1200 + lpZ ((i : Int) - 348)).toNat ≤ tenI i * twoD
  hi : tenI i * twoD * 9007199254740992 ≤ tenD * 2 ^ (1201 + lpZ ((i : Int) - 348)).toNat * 9007199254740991
  l0 : -1160 ≤ lpZ ((i : Int) - 348)
  l1 : lpZ ((i : Int) - 348) ≤ 1160
end
end Go.Proofs.YtkdpjaaohddppaaGreatDoor.Am
