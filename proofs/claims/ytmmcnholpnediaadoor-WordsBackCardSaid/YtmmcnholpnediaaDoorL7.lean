/- Contracts and plain facts (L7). -/
import Derived.Test.YtmmcnholpnediaaDoorL3
import Derived.Test.YtmmcnholpnediaaDoorL4
import Derived.Test.YtmmcnholpnediaaDoorL6
namespace Go.Proofs.YtmmcnholpnediaaDoor.Am
noncomputable section
/- PREFIXES' TEXTS, masks: plain facts. -/
def clampN (b : Int) : Nat := if b < 0 then 0 else if b < 32 then b.toNat else 32
theorem clampN_le (b : Int) : clampN b ≤ 32 := by
  unfold clampN; repeat' split
  all_goals omega
theorem clampN_nat {k : Nat} (h : k ≤ 32) : clampN (k : Int) = k := by
  unfold clampN; repeat' split
  all_goals omega
def pfT (a : Nat) (bits : Int) : List UInt8 := ipT (maskd a (clampN bits)) ++ if clampN bits < 32 then 47 :: decs (clampN bits) else []
theorem maskd_lt {a : Nat} (ha : a < 4294967296) (c : Nat) : maskd a c < 4294967296 := Nat.lt_of_le_of_lt (Nat.div_mul_le_self _ _) ha
theorem maskd32 (a : Nat) : maskd a 32 = a := by simp [maskd]
theorem andNot_mask {a b : Nat} (ha : a < 4294967296) (hb : b ≤ 32) : andNotI .u32 (a : Int) ((2 ^ (32 - b) - 1 : Nat) : Int) = ((maskd a b : Nat) : Int) := by
  have hp : 2 ^ (32 - b) ≤ 2 ^ 32 := Nat.pow_le_pow_right (by omega) (by omega)
  have hp1 : 0 < 2 ^ (32 - b) := Nat.pos_of_ne_zero (by simp)
  have key : (BitVec.ofInt 32 (a : Int) &&& ~~~(BitVec.ofInt 32 ((2 ^ (32 - b) - 1 : Nat) : Int))).toNat = maskd a b := by
    rw [BitVec.ofInt_natCast, BitVec.ofInt_natCast, BitVec.toNat_and, BitVec.toNat_not, BitVec.toNat_ofNat, BitVec.toNat_ofNat, Nat.mod_eq_of_lt ha, Nat.mod_eq_of_lt (by omega)]
    have e : 2 ^ 32 - 1 - (2 ^ (32 - b) - 1) = mask32 b := by unfold mask32; omega
    rw [e]
    exact and_mask32 ha hb
  show IntKind.u32.wrap ((BitVec.ofInt 32 (a : Int) &&& ~~~(BitVec.ofInt 32 ((2 ^ (32 - b) - 1 : Nat) : Int))).toNat : Int) = _
  rw [key]
  have := maskd_lt ha b
  simp (discharger := omega) []
theorem shl32 {k : Nat} (hk : k ≤ 32) : IntKind.u32.wrap (shlI .u32 1 (k : Int) - 1) = ((2 ^ k - 1 : Nat) : Int) := by
  have e : shlI .u32 1 (k : Int) = IntKind.u32.wrap (1 * 2 ^ (Min.min k 32)) := rfl
  have e2 : (1 * 2 ^ k : Int) = ((2 ^ k : Nat) : Int) := by simp
  rw [e, Nat.min_eq_left hk, e2]
  by_cases h : k = 32
  · subst h; rfl
  · have hp : 2 ^ k ≤ 2 ^ 31 := Nat.pow_le_pow_right (by omega) (by omega)
    have hp1 : 0 < 2 ^ k := Nat.pos_of_ne_zero (by simp)
    generalize 2 ^ k = P at *
    rw [wrap_u32 (x := (P : Int)) (by omega) (by omega)]
    have e3 : (P : Int) - 1 = ((P - 1 : Nat) : Int) := by omega
    rw [e3, wrap_u32 (by omega) (by omega)]
end
end Go.Proofs.YtmmcnholpnediaaDoor.Am
