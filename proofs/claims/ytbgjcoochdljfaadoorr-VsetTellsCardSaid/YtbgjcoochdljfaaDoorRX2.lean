/- Contracts of the program's functions (X2). -/
import Derived.Test.YtbgjcoochdljfaaDoorRX1
namespace Go.Proofs.YtbgjcoochdljfaaDoorR.Am
noncomputable section
/- CONTRACTS: two sets put together word by word. -/
def mixL (N R m : Nat) : List Value := (List.range 64).map fun k => .int .u64 ((if k < m then word R k else word N k : Nat) : Int)
@[simp] theorem mixL_len (N R m : Nat) : (mixL N R m).length = 64 := by simp [mixL]
theorem mixL_zero (N R : Nat) : mixL N R 0 = wv N := by simp [mixL, wv]
theorem mixL_all (N R : Nat) : mixL N R 64 = wv R := by
  unfold mixL wv
  refine List.map_congr_left fun k hk => ?_
  rw [if_pos (List.mem_range.1 hk)]
theorem mixL_get (N R m : Nat) {k : Nat} (hk : k < 64) : (mixL N R m)[k]? = some (.int .u64 ((if k < m then word R k else word N k : Nat) : Int)) := by simp [mixL, hk]
theorem mixL_at (N R : Nat) {m : Nat} (hm : m < 64) : List.take 1 (List.drop m (mixL N R m)) = [.int .u64 (word N m : Nat)] := by
  have hl : m < (mixL N R m).length := by simpa using hm
  rw [List.drop_eq_getElem_cons hl, List.take_succ_cons, List.take_zero]
  have := mixL_get N R m hm
  rw [List.getElem?_eq_getElem hl, if_neg (Nat.lt_irrefl m)] at this
  rw [Option.some.inj this]
theorem mixL_set (N R : Nat) {m : Nat} (hm : m < 64) : (mixL N R m).set m (.int .u64 (word R m : Nat)) = mixL N R (m + 1) := by
  refine List.ext_getElem? fun k => ?_
  rw [List.getElem?_set]
  split
  · rename_i h
    subst h
    rw [if_pos (by simpa using hm), mixL_get _ _ _ hm, if_pos (by omega)]
  · rename_i h
    rcases Nat.lt_or_ge k 64 with hk | hk
    · rw [mixL_get _ _ _ hk, mixL_get _ _ _ hk]
      by_cases e : k < m
      · rw [if_pos e, if_pos (by omega)]
      · rw [if_neg e, if_neg (by omega)]
    · rw [List.getElem?_eq_none (by simpa using hk), List.getElem?_eq_none (by simpa using hk)]
theorem mixL_put (N R : Nat) {m : Nat} (hm : m < 64) : List.take m (mixL N R m) ++ .int .u64 (word R m : Nat) :: List.drop (m + 1) (mixL N R m) = mixL N R (m + 1) := by
  rw [← mixL_set N R hm, List.set_eq_take_append_cons_drop, if_pos (by simpa using hm)]
theorem put_over (h : AHeap) (i : Nat) (a b : Blk) : HSub (h.put i b) ((h.put i a).put i b) := fun k c hc => by
  by_cases e : k = i
  · subst e; rw [AHeap.get_put_same] at hc ⊢; exact hc
  · rw [AHeap.get_put_ne _ _ (fun x => e x.symm)] at hc; rw [AHeap.get_put_ne _ _ (fun x => e x.symm), AHeap.get_put_ne _ _ (fun x => e x.symm)]; exact hc
theorem drop_wv (N : Nat) : List.drop 64 (wv N) = [] := List.drop_of_length_le (by simp)
theorem take_wv (N : Nat) : List.take 64 (wv N) = wv N := List.take_of_length_le (by simp)
theorem andNot64 {x y : Nat} (hx : x < 18446744073709551616) (hy : y < 18446744073709551616) : andNotI .u64 (x : Int) (y : Int) = ((x ^^^ (x &&& y) : Nat) : Int) := by
  have h1 : (BitVec.ofInt 64 (x : Int) &&& ~~~(BitVec.ofInt 64 (y : Int))).toNat = x ^^^ (x &&& y) := by
    refine Nat.eq_of_testBit_eq fun i => ?_
    rw [BitVec.testBit_toNat, BitVec.getLsbD_and, BitVec.getLsbD_not, Nat.testBit_xor, Nat.testBit_and]
    rw [BitVec.ofInt_natCast, BitVec.ofInt_natCast, BitVec.getLsbD_ofNat, BitVec.getLsbD_ofNat]
    rcases Nat.lt_or_ge i 64 with hi | hi
    · simp only [hi, decide_true, Bool.true_and]
      cases x.testBit i <;> cases y.testBit i <;> rfl
    · have hb : ∀ z, z < 18446744073709551616 → z.testBit i = false := fun z hz => Nat.testBit_lt_two_pow (Nat.lt_of_lt_of_le hz (show (18446744073709551616 : Nat) = 2 ^ 64 by rfl ▸ Nat.pow_le_pow_right (by decide) hi))
      rw [hb x hx, hb y hy]; simp [Nat.not_lt.2 hi]
  show IntKind.u64.wrap ((BitVec.ofInt 64 (x : Int) &&& ~~~(BitVec.ofInt 64 (y : Int))).toNat : Int) = _
  rw [h1]
  have hlt : x ^^^ (x &&& y) < 2 ^ 64 := Nat.xor_lt_two_pow hx (Nat.and_lt_two_pow _ hy)
  exact wrap_u64 (by omega) (by omega)
theorem without1_ret {x y : Nat} (hx : x < 18446744073709551616) (hy : y < 18446744073709551616) (h : AHeap) (n : Nat) : Ret EV14 32 [.int .u64 (x : Int), .int .u64 (y : Int)] h n (.int .u64 ((x ^^^ (x &&& y) : Nat) : Int)) [] n := by
  have e := andNot64 hx hy
  generalize (x ^^^ (x &&& y)) = z at *
  refine rsx32 (by simp) (by simp) ?_
  simp -dsimp (discharger := omega) [B32, e, HSub.refl]
theorem union1_ret {x y : Nat} (hx : x < 18446744073709551616) (hy : y < 18446744073709551616) (h : AHeap) (n : Nat) : Ret EV14 33 [.int .u64 (x : Int), .int .u64 (y : Int)] h n (.int .u64 ((x ||| y : Nat) : Int)) [] n := by
  have e := or64 hx hy
  generalize (x ||| y) = z at *
  refine rsx33 (by simp) (by simp) ?_
  simp -dsimp (discharger := omega) [B33, e, HSub.refl]
theorem meet1_ret {x y : Nat} (hx : x < 18446744073709551616) (hy : y < 18446744073709551616) (h : AHeap) (n : Nat) : Ret EV14 34 [.int .u64 (x : Int), .int .u64 (y : Int)] h n (.int .u64 ((x &&& y : Nat) : Int)) [] n := by
  have e := and64 hx hy
  generalize (x &&& y) = z at *
  refine rsx34 (by simp) (by simp) ?_
  simp -dsimp (discharger := omega) [B34, e, HSub.refl]
def BothInv (N M R f i j : Nat) (h0 : AHeap) (n0 r : Nat) (σ : Fr) (h : AHeap) (n : Nat) : Prop :=
  n = n0 ∧ ∃ k : Nat, k + r = 64 ∧ h = h0.put i (.cells (some 26) (mixL N R k) 64) ∧ σ = [(2, .func (.func f) #[] #[]), (3, .pointer (some ⟨i, 0, some 64⟩)), (6, .pointer (some ⟨j, 0, some 64⟩)), (10, .agg (wv M).toArray), (11, .int .i64 (k : Int))]
def BothPost (R i j : Nat) (h0 : AHeap) (n0 : Nat) (e : Ex) (σ' : Fr) (h' : AHeap) (n' : Nat) : Prop :=
  n' = n0 ∧ h' = h0.put i (.cells (some 26) (wv R) 64) ∧ e = .exit 0 ∧ σ'.get 3 = some (.pointer (some ⟨i, 0, some 64⟩)) ∧ σ'.get 6 = some (.pointer (some ⟨j, 0, some 64⟩))
theorem both_loop {N M R f i j : Nat} (hf : ∀ k, k < 64 → ∀ h n, Ret EV14 f [.int .u64 (word N k : Nat), .int .u64 (word M k : Nat)] h n (.int .u64 (word R k : Nat)) [] n) {h0 : AHeap} {n0 : Nat} :
    ∀ (m : Nat) (σ : Fr) (h : AHeap) (n : Nat), BothInv N M R f i j h0 n0 m σ h n → HasCode EV14 (.loop F31L0) σ h n (BothPost R i j h0 n0) := by
  refine wx_inv _ fun m σ h n hI => ?_
  obtain ⟨rfl, k, hk, rfl, rfl⟩ := hI
  cases m with
  | zero =>
    obtain rfl : k = 64 := by omega
    rw [mixL_all]
    simp -dsimp (discharger := omega) [F31L0]
    exact ⟨rfl, rfl, rfl, rfl, rfl⟩
  | succ m =>
    have hlt : k < 64 := by omega
    have e1 := wv_get M hlt
    have e2 := mixL_at N R hlt
    have e3 := mixL_put N R hlt
    simp -dsimp (discharger := omega) [F31L0, e1, e2]
    with_reducible refine call_ret (hf k hlt _ _) ?_
    simp -dsimp (discharger := omega) [e3]
    exact .mk' m (by omega) [(2, .func (.func f) #[] #[]), (3, .pointer (some ⟨i, 0, some 64⟩)), (6, .pointer (some ⟨j, 0, some 64⟩)), (10, .agg (wv M).toArray), (11, .int .i64 ((k + 1 : Nat) : Int))] (h0.put i (.cells (some 26) (mixL N R (k + 1)) 64)) (by simp) (put_over _ _ _ _) ⟨rfl, k + 1, by omega, rfl, rfl⟩
theorem both_ret {N M R f : Nat} (hf : ∀ k, k < 64 → ∀ h n, Ret EV14 f [.int .u64 (word N k : Nat), .int .u64 (word M k : Nat)] h n (.int .u64 (word R k : Nat)) [] n) {h : AHeap} {n : Nat} (hw : WF h n) :
    Ret EV14 31 [.agg (wv N).toArray, .agg (wv M).toArray, .func (.func f) #[] #[]] h n (.agg (wv R).toArray) [] (n + 3) := by
  have hs : HSub h (((h.put (n + 1) (.cells (some 26) (wv M) 64)).put (n + 2) (.cells (some 26) (wv 0) 64))) := (((HSub.refl h).new hw (by omega) _).new hw (by omega) _)
  refine rsx31 (by simp) (by simp) ?_
  simp -dsimp (discharger := omega) [B31, -List.reduceReplicate, ← wv_zero, take_wv]
  refine loop_use (both_loop (i := n) (j := n + 2) (h0 := (h.put (n + 1) (.cells (some 26) (wv M) 64)).put (n + 2) (.cells (some 26) (wv 0) 64)) hf 64 _ _ _ ⟨rfl, 0, rfl, by rw [mixL_zero], rfl⟩) (by simp) ?_ ?_
  · exact .ofE (.left (.inr (by first | (simp; done) | (simp; omega))) (.left (.inr (by first | (simp; done) | (simp; omega))) (.left (.inr (by first | (simp; done) | (simp; omega))) (.right (.inl (by first | (simp; done) | (simp; omega))) (.right (.inl (by first | (simp; done) | (simp; omega))) (.right (.inl (by first | (simp; done) | (simp; omega))) (.refl _ _)))))))
  · rintro e σ' h' n' ⟨rfl, rfl, rfl, g1, g2⟩
    simp -dsimp (discharger := omega) [-List.reduceReplicate, g1, g2, take_wv, drop_wv]
    refine (hs.new hw ?_ _).new hw ?_ _ <;> omega
theorem un_ok {N M : Nat} (k : Nat) (_ : k < 64) (h : AHeap) (n : Nat) : Ret EV14 33 [.int .u64 (word N k : Nat), .int .u64 (word M k : Nat)] h n (.int .u64 (word (N ||| M) k : Nat)) [] n := by
  rw [word_or]; exact union1_ret (word_lt _ _) (word_lt _ _) h n
theorem me_ok {N M : Nat} (k : Nat) (_ : k < 64) (h : AHeap) (n : Nat) : Ret EV14 34 [.int .u64 (word N k : Nat), .int .u64 (word M k : Nat)] h n (.int .u64 (word (N &&& M) k : Nat)) [] n := by
  rw [word_and]; exact meet1_ret (word_lt _ _) (word_lt _ _) h n
theorem wo_ok {N M : Nat} (k : Nat) (_ : k < 64) (h : AHeap) (n : Nat) : Ret EV14 32 [.int .u64 (word N k : Nat), .int .u64 (word M k : Nat)] h n (.int .u64 (word (less N M) k : Nat)) [] n := by
  unfold less; rw [word_xor, word_and]; exact without1_ret (word_lt _ _) (word_lt _ _) h n
theorem union_ret (N M : Nat) {h : AHeap} {n : Nat} (hw : WF h n) : Ret EV14 19 [.agg (wv N).toArray, .agg (wv M).toArray] h n (.agg (wv (N ||| M)).toArray) [] (n + 6) := by
  refine rsx19 (by simp) (by simp) ?_
  simp -dsimp (discharger := omega) [B19, -List.reduceReplicate, ← wv_zero, take_wv]
  with_reducible refine call_ret (both_ret un_ok (((hw.put _ (by omega) (Nat.le_succ n)).put _ (by omega) (Nat.le_succ _)).put _ (by omega) (Nat.le_succ _))) ?_
  simp -dsimp (discharger := omega) [-List.reduceReplicate, take_wv, drop_wv]
  refine ((((HSub.refl h).new hw ?_ _).new hw ?_ _).new hw ?_ _).new hw ?_ _ <;> omega
theorem meet_ret (N M : Nat) {h : AHeap} {n : Nat} (hw : WF h n) : Ret EV14 21 [.agg (wv N).toArray, .agg (wv M).toArray] h n (.agg (wv (N &&& M)).toArray) [] (n + 6) := by
  refine rsx21 (by simp) (by simp) ?_
  simp -dsimp (discharger := omega) [B21, -List.reduceReplicate, ← wv_zero, take_wv]
  with_reducible refine call_ret (both_ret me_ok (((hw.put _ (by omega) (Nat.le_succ n)).put _ (by omega) (Nat.le_succ _)).put _ (by omega) (Nat.le_succ _))) ?_
  simp -dsimp (discharger := omega) [-List.reduceReplicate, take_wv, drop_wv]
  refine ((((HSub.refl h).new hw ?_ _).new hw ?_ _).new hw ?_ _).new hw ?_ _ <;> omega
end
end Go.Proofs.YtbgjcoochdljfaaDoorR.Am
