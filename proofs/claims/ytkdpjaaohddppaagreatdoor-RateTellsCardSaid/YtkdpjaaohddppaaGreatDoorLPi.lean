/- Contracts and plain facts (LPi). -/
namespace Go.Proofs.YtkdpjaaohddppaaGreatDoor.Am
noncomputable section
/- TOO MANY NUMBERS for too few places. -/
theorem pigeon : ∀ (B : Nat) (f : Nat → Nat),(∀ k,k ≤ B → f k < B) → ∃ j k,j < k ∧ k ≤ B ∧ f j = f k
  | 0,f,h => absurd (h 0 (Nat.le_refl _)) (Nat.not_lt_zero _)
  | B + 1,f,h => by
    by_cases hv : f (B + 1) = B
    · by_cases hx : ∃ j,j ≤ B ∧ f j = B
      · obtain ⟨j,hj,e⟩ := hx
        exact ⟨j,B + 1,by omega,Nat.le_refl _,by rw [e,hv]⟩
      · obtain ⟨j,k,h1,h2,h3⟩ := pigeon B f (fun k hk => by
          have := h k (by omega)
          rcases Nat.lt_or_ge (f k) B with h4 | h4
          · exact h4
          · exact absurd ⟨k,hk,by omega⟩ hx)
        exact ⟨j,k,h1,by omega,h3⟩
    · have hv2 : f (B + 1) < B := by have := h (B + 1) (Nat.le_refl _); omega
      obtain ⟨j,k,h1,h2,h3⟩ := pigeon B (fun i => if f i = B then f (B + 1) else f i) (fun k hk => by
        have := h k (by omega)
        show (if f k = B then f (B + 1) else f k) < B
        split <;> omega)
      by_cases a : f j = B
      · rw [if_pos a] at h3
        by_cases b : f k = B
        · exact ⟨j,k,h1,by omega,by rw [a,b]⟩
        · rw [if_neg b] at h3
          exact ⟨k,B + 1,by omega,Nat.le_refl _,h3.symm⟩
      · rw [if_neg a] at h3
        by_cases b : f k = B
        · rw [if_pos b] at h3
          exact ⟨j,B + 1,by omega,Nat.le_refl _,h3⟩
        · rw [if_neg b] at h3
          exact ⟨j,k,h1,by omega,h3⟩
end
end Go.Proofs.YtkdpjaaohddppaaGreatDoor.Am
