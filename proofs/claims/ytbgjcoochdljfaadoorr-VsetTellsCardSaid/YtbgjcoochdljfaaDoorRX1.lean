/- Contracts of the program's functions (X1). -/
import Derived.Test.YtbgjcoochdljfaaDoorRG
import Derived.Test.YtbgjcoochdljfaaDoorRLVs
import Derived.Test.YtbgjcoochdljfaaDoorRL1
namespace Go.Proofs.YtbgjcoochdljfaaDoorR.Am
noncomputable section
/- CONTRACTS: sets. -/
theorem leaves_wv {N M : Nat} (hN : N < 2 ^ 4096) (hM : M < 2 ^ 4096) : leavesEq (List.replicate 64 .int) (wv N) (wv M) = some (decide (N = M)) := by
  have gen : ∀ (a b : List Nat), a.length = b.length → leavesEq (List.replicate a.length .int) (a.map fun x : Nat => .int .u64 (x : Int)) (b.map fun x : Nat => .int .u64 (x : Int)) = some (decide (a = b)) := by
    intro a
    induction a with
    | nil => intro b hb; cases b with
      | nil => rfl
      | cons _ _ => simp at hb
    | cons x a ih => intro b hb; cases b with
      | nil => simp at hb
      | cons y b =>
        simp only [List.length_cons, Nat.add_right_cancel_iff] at hb
        simp only [List.length_cons, List.replicate_succ, List.map_cons, leavesEq, leafEq, if_true, ih b hb]
        by_cases e : x = y
        · subst e; simp
        · have : ((x : Int) == y) = false := by simp; omega
          simp [this, e]
  have := gen ((List.range 64).map (word N)) ((List.range 64).map (word M)) (by simp)
  simp only [List.length_map, List.length_range, List.map_map] at this
  refine Eq.trans this (congrArg some (decide_eq_decide.2 ⟨fun e => word_inj hN hM fun k hk => ?_, fun e => by rw [e]⟩))
  have := congrArg (fun l : List Nat => l[k]?) e
  simpa [hk] using this
theorem and_one (x : Nat) : ((x &&& 1 : Nat) : Int) = if x.testBit 0 then 1 else 0 := by
  rw [Nat.and_one_is_mod, Nat.testBit_zero]
  split
  · rename_i h; simp at h; omega
  · rename_i h; simp at h; omega
theorem wv_at (N : Nat) {i : Nat} (hi : i < 64) : List.take 1 (List.drop i (wv N)) = [.int .u64 (word N i : Nat)] := by
  have hl : i < (wv N).length := by simpa using hi
  rw [List.drop_eq_getElem_cons hl, List.take_succ_cons, List.take_zero]
  have := wv_get N hi
  rw [List.getElem?_eq_getElem hl] at this
  rw [Option.some.inj this]
theorem sh_word (N k : Nat) {j : Nat} (hj : j < 64) : shrI .u64 (word N k : Nat) (j : Nat) = ((word N k >>> j : Nat) : Int) := by
  rw [shrI_nat, show Min.min j IntKind.u64.bits = j from Nat.min_eq_left (by show j ≤ 64; omega), Nat.shiftRight_eq_div_pow]
theorem has_bit (N m : Nat) : (andI .u64 (shrI .u64 (word N (m / 64) : Nat) ((m : Int) % 64)) 1 == 1) = N.testBit m := by
  have e4 : (word N (m / 64) >>> (m % 64)).testBit 0 = N.testBit m := by
    rw [Nat.testBit_shiftRight, word_bit, show m % 64 + 0 < 64 by omega |> decide_eq_true, show 64 * (m / 64) + (m % 64 + 0) = m by omega]; rfl
  have e6 : word N (m / 64) >>> (m % 64) < 18446744073709551616 := by
    rw [Nat.shiftRight_eq_div_pow]; exact Nat.lt_of_le_of_lt (Nat.div_le_self _ _) (word_lt _ _)
  have e7 := and64 e6 (show 1 < 18446744073709551616 by decide)
  rw [and_one, e4] at e7
  rw [show ((m : Int) % 64) = ((m % 64 : Nat) : Int) by omega, sh_word N (m / 64) (show m % 64 < 64 by omega)]
  rw [show (1 : Int) = ((1 : Nat) : Int) by rfl, e7]
  cases N.testBit m <;> rfl
theorem has_ret (N : Nat) (n : Int) (hn0 : -9223372036854775808 ≤ n) (hn1 : n < 9223372036854775808) {h : AHeap} {k : Nat} (hw : WF h k) : Ret EV14 16 [.agg (wv N).toArray, .int .i64 n] h k (.bool (hasZ N n)) [] (k + 1) := by
  have hs : ∀ b, HSub h (h.put k b) := fun b => (HSub.refl h).new hw (Nat.le_refl _) b
  refine rsx16 (by simp) (by simp) ?_
  by_cases h1 : 1 ≤ n
  · by_cases h2 : n ≤ 4094
    · obtain ⟨m, rfl⟩ := Int.eq_ofNat_of_zero_le (show 0 ≤ n by omega)
      have e1 : ((m : Int).tmod 64) = ((m % 64 : Nat) : Int) := rfl
      have e2 : ((m : Int) / 64).toNat = m / 64 := by omega
      have e8 : ¬ ((m : Int) % 64 < 0) := by omega
      simp -dsimp (discharger := omega) [B16, h1, h2, wv_at, e1, e2, e8, has_bit, hs, hasZ]
    · simp -dsimp (discharger := omega) [B16, h1, h2, hasZ, hs]
  · simp -dsimp (discharger := omega) [B16, h1, hasZ, hs]
end
end Go.Proofs.YtbgjcoochdljfaaDoorR.Am
