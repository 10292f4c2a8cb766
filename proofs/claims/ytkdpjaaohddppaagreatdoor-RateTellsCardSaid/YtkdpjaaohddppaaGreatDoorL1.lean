/- Contracts and plain facts (L1). -/
import Derived.Test.YtkdpjaaohddppaaGreatDoorL
namespace Go.Proofs.YtkdpjaaohddppaaGreatDoor.Am
noncomputable section
/- GENERAL FACTS: numbers' bits,abstract heaps,byte strings as numbers. -/
theorem take1 {α} {l : List α} {k : Nat} {v : α} (h : l[k]? = some v) : List.take 1 (List.drop k l) = [v] := by
  obtain ⟨hk,rfl⟩ := List.getElem?_eq_some_iff.1 h
  rw [List.drop_eq_getElem_cons hk]; rfl
/- Bits of numbers without a sign. -/
theorem ofInt_nat {w x : Nat} (hx : x < 2 ^ w) : (BitVec.ofInt w (x : Int)).toNat = x := by
  rw [BitVec.ofInt_natCast,BitVec.toNat_ofNat,Nat.mod_eq_of_lt hx]
theorem wrapN {k : IntKind} (hk : k.signed = false) {x : Nat} (hx : x < 2 ^ k.bits) : k.wrap (x : Int) = (x : Int) :=
  wrapU hk (by omega) (by exact_mod_cast hx)
theorem andN {k : IntKind} (hk : k.signed = false) {x y : Nat} (hx : x < 2 ^ k.bits) (hy : y < 2 ^ k.bits) : andI k (x : Int) (y : Int) = ((x &&& y : Nat) : Int) := by
  rw [andI,BitVec.toNat_and,ofInt_nat hx,ofInt_nat hy]
  exact wrapN hk (Nat.lt_of_le_of_lt Nat.and_le_left hx)
theorem orN {k : IntKind} (hk : k.signed = false) {x y : Nat} (hx : x < 2 ^ k.bits) (hy : y < 2 ^ k.bits) : orI k (x : Int) (y : Int) = ((x ||| y : Nat) : Int) := by
  rw [orI,BitVec.toNat_or,ofInt_nat hx,ofInt_nat hy]
  exact wrapN hk (Nat.or_lt_two_pow hx hy)
theorem and64 {x y : Nat} (hx : x < 18446744073709551616) (hy : y < 18446744073709551616) : andI .u64 (x : Int) (y : Int) = ((x &&& y : Nat) : Int) := andN rfl hx hy
theorem or64 {x y : Nat} (hx : x < 18446744073709551616) (hy : y < 18446744073709551616) : orI .u64 (x : Int) (y : Int) = ((x ||| y : Nat) : Int) := orN rfl hx hy
end
end Go.Proofs.YtkdpjaaohddppaaGreatDoor.Am
