/- Contracts and plain facts (LQd). -/
import Derived.Test.YtkdpjaaohddppaaGreatDoorLQc
namespace Go.Proofs.YtkdpjaaohddppaaGreatDoor.Am
noncomputable section
/- POWERS OF TEN: what is checked of each. -/
def lpZ (p : Int) : Int := p * 108853 / 32768
def tenD : Nat := 10 ^ 400
def twoD : Nat := 2 ^ 1200
def tenI (i : Nat) : Nat := 10 ^ (i + 52)
end
end Go.Proofs.YtkdpjaaohddppaaGreatDoor.Am
