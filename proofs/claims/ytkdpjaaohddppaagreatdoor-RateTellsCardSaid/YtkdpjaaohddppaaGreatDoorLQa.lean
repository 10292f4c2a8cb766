/- Contracts and plain facts (LQa). -/
namespace Go.Proofs.YtkdpjaaohddppaaGreatDoor.Am
noncomputable section
/- NUMBERS NEAR TO WHOLE ONES: of two neighbours in a row of best fractions,none with a lesser denominator comes nearer. -/
def conv (Y : Nat) : Nat → Nat → Nat → Nat → Nat → Nat → Nat → Nat × Nat × Nat × Nat
  | 0,_,_,p0,q0,p1,q1 => (p0,q0,p1,q1)
  | f + 1,n,d,p0,q0,p1,q1 => if d = 0 then (p0,q0,p1,q1) else if Y ≤ q1 then (p0,q0,p1,q1) else
    conv Y f d (n % d) p1 q1 (n / d * p1 + p0) (n / d * q1 + q0)
end
end Go.Proofs.YtkdpjaaohddppaaGreatDoor.Am
