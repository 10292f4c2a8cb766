/- Contracts and plain facts (LQc). -/
import Derived.Test.YtkdpjaaohddppaaGreatDoorLQb
namespace Go.Proofs.YtkdpjaaohddppaaGreatDoor.Am
noncomputable section
/- ROUNDING: of a number not yet rounded; which float is near. -/
def rnd (u : Nat) : Nat := (u + 1 + u / 4 % 2) / 4
structure NearF (T N m X : Nat) : Prop where
  up : 4 * N ≤ (4 * m + 2) * (T * 2 ^ X)
  upe : 4 * N = (4 * m + 2) * (T * 2 ^ X) → m % 2 = 0
  lo : ¬ (m = 4503599627370496 ∧ 126 < X) → 4 * m * (T * 2 ^ X) ≤ 4 * N + 2 * (T * 2 ^ X)
  loe : ¬ (m = 4503599627370496 ∧ 126 < X) → 4 * m * (T * 2 ^ X) = 4 * N + 2 * (T * 2 ^ X) → m % 2 = 0
  skew : m = 4503599627370496 → 126 < X → 4 * m * (T * 2 ^ X) ≤ 4 * N + T * 2 ^ X
structure FOk (m X : Nat) : Prop where
  m53 : m < 9007199254740992
  x126 : 126 ≤ X
  norm : m < 4503599627370496 → X = 126
end
end Go.Proofs.YtkdpjaaohddppaaGreatDoor.Am
