/- Contracts and plain facts (L1). -/
import Derived.Test.YtbgjcoochdljfaaDoorRL
namespace Go.Proofs.YtbgjcoochdljfaaDoorR.Am
noncomputable section
/- GENERAL FACTS: numbers' bits, abstract heaps, byte strings as numbers. -/
theorem call_gen {E : Env} {f : Nat} {args : List Value} {H : AHeap} {n : Nat} {Q : Value → AHeap → Nat → Prop} {tk : Tok Q} (X : AHeap → Prop) (hX : X H) (k : ∀ G, X G → HasCallT E f args G n Q tk) : HasCallT E f args H n Q tk := k H hX
theorem wx_gen {E : Env} {c : ACode} {σ : Fr} {H : AHeap} {n : Nat} {Q : Ex → Fr → AHeap → Nat → Prop} {tk : Tok Q} (X : Fr → AHeap → Prop) (hX : X σ H) (k : ∀ σ G, X σ G → wx E c σ G n Q tk) : wx E c σ H n Q tk := k σ H hX
theorem Ret.mono {E : Env} {f : Nat} {args : List Value} {h : AHeap} {n : Nat} {v : Value} {l : List (Nat × Blk)} {m n' : Nat} (x : Ret E f args h n v l m) (hm : m ≤ n') : Ret E f args h n v l n' :=
  ⟨.lift x.1 hm, x.2.1, fun i hi => (x.2.2 i hi).imp id fun y => ⟨y.1, by omega⟩⟩
theorem take1 {α} {l : List α} {k : Nat} {v : α} (h : l[k]? = some v) : List.take 1 (List.drop k l) = [v] := by
  obtain ⟨hk, rfl⟩ := List.getElem?_eq_some_iff.1 h
  rw [List.drop_eq_getElem_cons hk]; rfl
theorem nat0 (x : Nat) : (((x : Nat) : Int) == 0) = (x == 0) := by
  cases x with
  | zero => rfl
  | succ x => rfl
theorem natEq (x y : Nat) : (((x : Nat) : Int) == ((y : Nat) : Int)) = (x == y) := by
  by_cases h : x = y
  · subst h; simp
  · rw [beqIF (by omega)]; simp [h]
theorem WF.sub {h h' : AHeap} {n : Nat} (w : WF h n) (c : ∀ j b, h'.get j = some b → h.get j = some b) : WF h' n := fun i hi => by
  cases hh : h'.get i with
  | none => rfl
  | some b => have := c i b hh; rw [w i hi] at this; cases this
def numL (bs : List UInt8) : Nat := bs.foldl (fun a b => 256 * a + b.toNat) 0
theorem numL_take {bs : List UInt8} {i : Nat} (hi : i < bs.length) : numL (bs.take (i + 1)) = 256 * numL (bs.take i) + bs[i].toNat := by
  rw [List.take_succ_eq_append_getElem hi, numL, List.foldl_append]; rfl
theorem numL_lt (bs : List UInt8) : ∀ i, i ≤ bs.length → numL (bs.take i) < 256 ^ i
  | 0, _ => by simp [numL]
  | i + 1, hi => by
    have h := numL_lt bs i (by omega)
    have h2 := bs[i].toNat_lt
    rw [numL_take (by omega), Nat.pow_succ]
    omega
/- Bits of numbers without a sign. -/
theorem ofInt_nat {w x : Nat} (hx : x < 2 ^ w) : (BitVec.ofInt w (x : Int)).toNat = x := by
  rw [BitVec.ofInt_natCast, BitVec.toNat_ofNat, Nat.mod_eq_of_lt hx]
theorem wrapN {k : IntKind} (hk : k.signed = false) {x : Nat} (hx : x < 2 ^ k.bits) : k.wrap (x : Int) = (x : Int) :=
  wrapU hk (by omega) (by exact_mod_cast hx)
theorem andN {k : IntKind} (hk : k.signed = false) {x y : Nat} (hx : x < 2 ^ k.bits) (hy : y < 2 ^ k.bits) : andI k (x : Int) (y : Int) = ((x &&& y : Nat) : Int) := by
  rw [andI, BitVec.toNat_and, ofInt_nat hx, ofInt_nat hy]
  exact wrapN hk (Nat.lt_of_le_of_lt Nat.and_le_left hx)
theorem orN {k : IntKind} (hk : k.signed = false) {x y : Nat} (hx : x < 2 ^ k.bits) (hy : y < 2 ^ k.bits) : orI k (x : Int) (y : Int) = ((x ||| y : Nat) : Int) := by
  rw [orI, BitVec.toNat_or, ofInt_nat hx, ofInt_nat hy]
  exact wrapN hk (Nat.or_lt_two_pow hx hy)
theorem xorN {k : IntKind} (hk : k.signed = false) {x y : Nat} (hx : x < 2 ^ k.bits) (hy : y < 2 ^ k.bits) : xorI k (x : Int) (y : Int) = ((x ^^^ y : Nat) : Int) := by
  rw [xorI, BitVec.toNat_xor, ofInt_nat hx, ofInt_nat hy]
  exact wrapN hk (Nat.xor_lt_two_pow hx hy)
theorem and64 {x y : Nat} (hx : x < 18446744073709551616) (hy : y < 18446744073709551616) : andI .u64 (x : Int) (y : Int) = ((x &&& y : Nat) : Int) := andN rfl hx hy
theorem or64 {x y : Nat} (hx : x < 18446744073709551616) (hy : y < 18446744073709551616) : orI .u64 (x : Int) (y : Int) = ((x ||| y : Nat) : Int) := orN rfl hx hy
theorem xor64 {x y : Nat} (hx : x < 18446744073709551616) (hy : y < 18446744073709551616) : xorI .u64 (x : Int) (y : Int) = ((x ^^^ y : Nat) : Int) := xorN rfl hx hy
theorem shl8_64 {a : Nat} (ha : a < 2 ^ 56) : shlI .u64 (a : Int) 8 = ((a * 256 : Nat) : Int) := by
  have : shlI .u64 (a : Int) 8 = IntKind.u64.wrap ((a : Int) * 256) := rfl
  rw [this]
  simp (discharger := omega) []
theorem step64 {a x : Nat} (ha : a < 2 ^ 56) (hx : x < 256) : orI .u64 (shlI .u64 (a : Int) 8) (x : Int) = ((256 * a + x : Nat) : Int) := by
  rw [shl8_64 ha, or64 (by omega) (by omega)]
  have := Nat.two_pow_add_eq_or_of_lt (i := 8) hx a
  rw [show a * 256 = 2 ^ 8 * a by omega, ← this]
end
end Go.Proofs.YtbgjcoochdljfaaDoorR.Am
