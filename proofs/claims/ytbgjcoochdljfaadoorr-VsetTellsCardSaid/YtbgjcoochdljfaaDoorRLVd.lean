/- Contracts and plain facts (LVd). -/
import Derived.Test.YtbgjcoochdljfaaDoorRLVt
import Derived.Test.YtbgjcoochdljfaaDoorRX3
namespace Go.Proofs.YtbgjcoochdljfaaDoorR.Am
noncomputable section
/- SETS as arrays of truths. -/
def bvf (f : Nat → Bool) : List Value := (List.range 4096).map fun k => .bool (f k)
def bv (N : Nat) : List Value := bvf N.testBit
@[simp] theorem bvf_len (f : Nat → Bool) : (bvf f).length = 4096 := by simp [bvf]
@[simp] theorem bv_len (N : Nat) : (bv N).length = 4096 := bvf_len _
theorem bvf_get (f : Nat → Bool) {k : Nat} (hk : k < 4096) : (bvf f)[k]? = some (.bool (f k)) := by
  unfold bvf
  rw [List.getElem?_map, List.getElem?_range hk]; rfl
theorem bvf_ext {f g : Nat → Bool} (h : ∀ k, k < 4096 → f k = g k) : bvf f = bvf g := by
  unfold bvf
  exact List.map_congr_left fun k hk => by rw [h k (List.mem_range.1 hk)]
theorem bv_zero : bv 0 = List.replicate 4096 (.bool false) := by
  unfold bv bvf
  rw [List.map_congr_left (g := fun _ => Value.bool false) fun k _ => by rw [Nat.zero_testBit], List.map_const', List.length_range]
theorem bvf_at (f : Nat → Bool) {i : Nat} (hi : i < 4096) : List.take 1 (List.drop i (bvf f)) = [.bool (f i)] := by
  have hl : i < (bvf f).length := by rw [bvf_len]; exact hi
  rw [List.drop_eq_getElem_cons hl, List.take_succ_cons, List.take_zero]
  have := bvf_get f hi
  rw [List.getElem?_eq_getElem hl] at this
  rw [Option.some.inj this]
theorem bvf_put (f : Nat → Bool) {i : Nat} (hi : i < 4096) (b : Bool) : List.take i (bvf f) ++ .bool b :: List.drop (i + 1) (bvf f) = bvf (fun k => if k = i then b else f k) := by
  have e : List.take i (bvf f) ++ .bool b :: List.drop (i + 1) (bvf f) = (bvf f).set i (.bool b) := by
    rw [List.set_eq_take_append_cons_drop, if_pos (by rw [bvf_len]; exact hi)]
  rw [e]
  refine List.ext_getElem? fun k => ?_
  rw [List.getElem?_set]
  rcases Nat.lt_or_ge k 4096 with hk | hk
  · have e3 := bvf_get (fun k => if k = i then b else f k) hk
    rw [e3]
    split
    · rename_i h
      subst h
      rw [if_pos (by rw [bvf_len]; exact hi), if_pos rfl]
    · rename_i h
      rw [bvf_get _ hk, if_neg (fun e => h e.symm)]
  · have e1 : (bvf fun k => if k = i then b else f k)[k]? = none := List.getElem?_eq_none (by rw [bvf_len]; exact hk)
    have e2 : (bvf f)[k]? = none := List.getElem?_eq_none (by rw [bvf_len]; exact hk)
    rw [e1, e2, if_neg (by omega)]
theorem take_bvf (f : Nat → Bool) : List.take 4096 (bvf f) = bvf f := List.take_of_length_le (by rw [bvf_len]; exact Nat.le_refl _)
theorem drop_bvf (f : Nat → Bool) : List.drop 4096 (bvf f) = [] := List.drop_of_length_le (by rw [bvf_len]; exact Nat.le_refl _)
theorem take_bv (N : Nat) : List.take 4096 (bv N) = bv N := take_bvf _
theorem drop_bv (N : Nat) : List.drop 4096 (bv N) = [] := drop_bvf _
/- A loop's array: what is done below a number. -/
def upTo (j : Nat) (f g : Nat → Bool) (i : Nat) : Bool := if 1 ≤ i ∧ i < j then g i else f i
theorem upTo_one (f g : Nat → Bool) : bvf (upTo 1 f g) = bvf f := bvf_ext fun k _ => by
  unfold upTo; rw [if_neg (by omega)]
theorem upTo_put {f g : Nat → Bool} {j : Nat} (h1 : 1 ≤ j) : bvf (fun k => if k = j then g j else upTo j f g k) = bvf (upTo (j + 1) f g) := bvf_ext fun k _ => by
  unfold upTo
  by_cases e : k = j
  · subst e; rw [if_pos rfl, if_pos (by omega)]
  · rw [if_neg e]
    by_cases h : 1 ≤ k ∧ k < j
    · rw [if_pos h, if_pos (by omega)]
    · rw [if_neg h, if_neg (by omega)]
theorem upTo_skip {f g : Nat → Bool} {j : Nat} (h : g j = f j) : bvf (upTo j f g) = bvf (upTo (j + 1) f g) := bvf_ext fun k _ => by
  unfold upTo
  by_cases e : k = j
  · subst e
    by_cases h1 : 1 ≤ k
    · rw [if_neg (by omega), if_pos (by omega), h]
    · rw [if_neg (by omega), if_neg (by omega)]
  · by_cases h : 1 ≤ k ∧ k < j
    · rw [if_pos h, if_pos (by omega)]
    · rw [if_neg h, if_neg (by omega)]
theorem upTo_end {f g : Nat → Bool} {N : Nat} (h0 : ∀ i, i < 4096 → (i < 1 ∨ 4095 ≤ i) → f i = N.testBit i) (h1 : ∀ i, 1 ≤ i → i < 4095 → g i = N.testBit i) : bvf (upTo 4095 f g) = bv N := bvf_ext fun k hk => by
  unfold upTo
  by_cases h : 1 ≤ k ∧ k < 4095
  · rw [if_pos h, h1 k h.1 h.2]
  · rw [if_neg h, h0 k hk (by omega)]
/-- The document's With. -/
def withD (N : Nat) (a b : Int) (is : Bool) : Nat := if is then N ||| rng a b else less N (rng a b)
theorem withD_bit (N : Nat) (a b : Int) (is : Bool) (i : Nat) : (withD N a b is).testBit i = if a ≤ i ∧ (i : Int) ≤ b ∧ 1 ≤ i ∧ i ≤ 4094 then is else N.testBit i := by
  unfold withD
  cases is with
  | true =>
    rw [if_pos rfl, Nat.testBit_or, rng_bit]
    by_cases h : a ≤ i ∧ (i : Int) ≤ b ∧ 1 ≤ i ∧ i ≤ 4094
    · rw [if_pos h, decide_eq_true h, Bool.or_true]
    · rw [if_neg h, decide_eq_false h, Bool.or_false]
  | false =>
    rw [if_neg (by decide), less_bit, rng_bit]
    by_cases h : a ≤ i ∧ (i : Int) ≤ b ∧ 1 ≤ i ∧ i ≤ 4094
    · rw [if_pos h, decide_eq_true h, Bool.not_true, Bool.and_false]
    · rw [if_neg h, decide_eq_false h, Bool.not_false, Bool.and_true]
end
end Go.Proofs.YtbgjcoochdljfaaDoorR.Am
