/- Contracts and plain facts (LQb). -/
import Derived.Test.YtkdpjaaohddppaaGreatDoorLQa
namespace Go.Proofs.YtkdpjaaohddppaaGreatDoor.Am
noncomputable section
/- A PRODUCT,NOT YET ROUNDED: when its four-fold's whole part and its last bit are right. -/
def uscN (x hi lo s : Nat) : Nat :=
  let H := x * hi / 18446744073709551616
  let M := x * hi % 18446744073709551616
  let M2 := x * lo / 18446744073709551616
  if H % 2 ^ s = 0 then
    if M < M2 then ((H - 1) / 2 ^ s) ||| (if 1 < M + 18446744073709551616 - M2 then 1 else 0) else (H / 2 ^ s) ||| (if 1 < M - M2 then 1 else 0)
  else (H / 2 ^ s) ||| 1
end
end Go.Proofs.YtkdpjaaohddppaaGreatDoor.Am
