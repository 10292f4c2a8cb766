/- Contracts of the program's functions (X9). -/
import Derived.Test.YtkdpjaaohddppaaDoorX7
import Derived.Test.YtkdpjaaohddppaaDoorX2
namespace Go.Proofs.YtkdpjaaohddppaaDoor.Am
noncomputable section
/- CONTRACTS: the document's buckets. -/
def rankN (a : Nat) : Int := if fNan a then 3 else if fLt 9218868437227405311 a then 2 else if fLt a 18442240474082181119 then 0 else 1
theorem rank_ret (a : Nat) (h : AHeap) (n : Nat) : Ret EV11 29 [.float .f64 a] h n (.int .i64 (rankN a)) [] n := by
  refine rsx29 (by simp) (by simp) ?_
  have e0 := fEq_self a
  unfold rankN
  cases h0 : fNan a with
  | true =>
    rw [h0] at e0
    simp -dsimp (discharger := omega) [B29, fl_neq, e0]
    exact .refl _
  | false =>
    rw [h0] at e0
    cases h1 : fLt 9218868437227405311 a with
    | true =>
      simp -dsimp (discharger := omega) [B29, fl_neq, e0, fl_gtr, h1]
      exact .refl _
    | false =>
      cases h2 : fLt a 18442240474082181119 with
      | true =>
        simp -dsimp (discharger := omega) [B29, fl_neq, e0, fl_gtr, h1, fl_lss, h2]
        exact .refl _
      | false =>
        simp -dsimp (discharger := omega) [B29, fl_neq, e0, fl_gtr, h1, fl_lss, h2]
        exact .refl _
theorem fClean_if (a : Nat) : fClean a = if fLt 0 a then a else 0 := by
  have e : fLt 0 a = (!fNan a && decide (0 < fKey a)) := by
    unfold fLt
    rw [fNan_zero, fKey_zero, Bool.false_or]
  rw [e]; rfl
theorem fkey_lo : fKey 18442240474082181119 = -9218868437227405311 := by decide
theorem fnan_lo : fNan 18442240474082181119 = false := by decide
theorem fkey_hi : fKey 9218868437227405311 = 9218868437227405311 := by decide
theorem fnan_hi : fNan 9218868437227405311 = false := by decide
theorem dclean_ret (a : Nat) (h : AHeap) (n : Nat) : Ret EV11 28 [.float .f64 a] h n (.float .f64 (fClean a)) [] n := by
  refine rsx28 (by simp) (by simp) ?_
  have R := fun H m => rank_ret a H m
  rw [fClean_if]
  have hlt : fLt 0 a = (!fNan a && decide (0 < fKey a)) := by
    unfold fLt
    rw [fNan_zero, fKey_zero, Bool.false_or]
  have hle : (fLt a 0 || fEq a 0) = (!fNan a && decide (fKey a ≤ 0)) := by
    unfold fLt fEq
    rw [fNan_zero, fKey_zero, Bool.or_false]
    cases fNan a with
    | true => rfl
    | false =>
      by_cases hh : fKey a ≤ 0
      · rw [decide_eq_true hh]
        by_cases h2 : fKey a < 0
        · rw [decide_eq_true h2]; rfl
        · rw [decide_eq_false h2, decide_eq_true (show fKey a = 0 by omega)]; rfl
      · rw [decide_eq_false hh, decide_eq_false (by omega), decide_eq_false (show ¬ fKey a = 0 by omega)]; rfl
  cases h0 : fNan a with
  | true =>
    have hr : rankN a = 3 := by unfold rankN; rw [h0]; rfl
    rw [h0] at hlt
    rw [hr] at R
    simp -dsimp (discharger := omega) [B28]
    with_reducible refine call_ret (R _ _) ?_
    simp -dsimp (discharger := omega) [hlt]
    exact .refl _
  | false =>
    rw [h0] at hlt hle
    have hr3 : ¬ rankN a = 3 := by unfold rankN; rw [h0]; simp; split <;> (try split) <;> decide
    by_cases hz : rankN a = 0
    · have hk : fKey a ≤ 0 := by
        unfold rankN at hz
        rw [h0] at hz
        simp only [Bool.false_eq_true, if_false] at hz
        split at hz
        · cases hz
        · split at hz
          · rename_i hh
            unfold fLt at hh
            rw [h0, fnan_lo, fkey_lo] at hh
            simp at hh
            omega
          · cases hz
      rw [decide_eq_false (by omega)] at hlt
      rw [hz] at R
      simp -dsimp (discharger := omega) [B28]
      with_reducible refine call_ret (R _ _) ?_
      simp -dsimp (discharger := omega) []
      with_reducible refine call_ret (R _ _) ?_
      simp -dsimp (discharger := omega) [hlt]
      exact .refl _
    · generalize rankN a = r at *
      simp -dsimp (discharger := omega) [B28]
      with_reducible refine call_ret (R _ _) ?_
      have b3 : (r == 3) = false := beq_eq_false_iff_ne.2 hr3
      have b0 : (r == 0) = false := beq_eq_false_iff_ne.2 hz
      simp -dsimp (discharger := omega) [b3]
      with_reducible refine call_ret (R _ _) ?_
      by_cases hk : fKey a ≤ 0
      · rw [decide_eq_true hk] at hle
        rw [decide_eq_false (by omega)] at hlt
        simp -dsimp (discharger := omega) [b0, hlt, fl_leq, hle]
        exact .refl _
      · rw [decide_eq_false hk] at hle
        rw [decide_eq_true (by omega)] at hlt
        simp -dsimp (discharger := omega) [b0, hlt, fl_leq, hle]
        exact .refl _
theorem rank_pos {x : Nat} (hx : x ≤ fI) : rankN x = if x = fI then 2 else 1 := by
  obtain ⟨k1, n1⟩ := key_pos hx
  unfold rankN fLt
  rw [n1, fnan_hi, fnan_lo, fkey_hi, fkey_lo, k1]
  have : fI = 9218868437227405312 := rfl
  rw [this] at hx ⊢
  simp
  by_cases h : x = 9218868437227405312
  · rw [if_pos (by omega), if_pos h]
  · rw [if_neg (by omega), if_neg h]
set_option maxHeartbeats 1000000 in
theorem dafter_ret {r b l : Nat} (hr : r ≤ fI) (hb : b ≤ fI) (hl : l ≤ fI) (a : Int) {d : Nat} (hd : d < 18446744073709551616) {h : AHeap} {n : Nat} (hw : WF h n) : Ret EV11 30 [bkt r b l a, .int .u64 (d : Int)] h n (.float .f64 (afterN r b l d)) [] (n + 1) := by
  refine rsx30 (by simp) (by simp) ?_
  unfold afterN
  by_cases h0 : d = 0
  · rw [if_pos h0, h0]
    simp -dsimp (discharger := omega) [B30, bkt]
    exact .new (.refl _) hw (Nat.le_refl _) _
  · rw [if_neg h0]
    obtain ⟨p0, p1⟩ := ofN_rng (d := d) (by omega) hd
    have hm : aFloatOp .mul .f64 r (ofN d) = some (.float .f64 (mulP r (ofN d))) := by
      have := mul_pos hr p0 p1
      unfold aFloatOp
      show (Ieee.double.mul r (ofN d)).map _ = _
      rw [this]; rfl
    have ha : aFloatOp .add .f64 l (mulP r (ofN d)) = some (.float .f64 (addP l (mulP r (ofN d)))) := by
      have := add_pos hl (mulP_le r (ofN d))
      unfold aFloatOp
      show (Ieee.double.add l (mulP r (ofN d))).map _ = _
      rw [this]; rfl
    have hn := near_nat d
    have hle : addP l (mulP r (ofN d)) ≤ fI := addP_le
    have hlt := flt_pos hb hle
    simp -dsimp (discharger := omega) [B30, bkt, hn, hm, ha]
    generalize addP l (mulP r (ofN d)) = z at *
    by_cases hz : b < z
    · rw [decide_eq_true hz] at hlt
      rw [Nat.min_eq_left (by omega)]
      simp -dsimp (discharger := omega) [fl_gtr, hlt]
      exact .new (.refl _) hw (Nat.le_refl _) _
    · rw [decide_eq_false hz] at hlt
      rw [Nat.min_eq_right (by omega)]
      simp -dsimp (discharger := omega) [fl_gtr, hlt]
      exact .new (.refl _) hw (Nat.le_refl _) _
set_option maxHeartbeats 1000000 in
theorem dbclean_ret {r b l : Nat} (hb : b < 18446744073709551616) (hl : l < 18446744073709551616) (a : Int) {h : AHeap} {n : Nat} (hw : WF h n) :
    Ret EV11 26 [bkt r b l a] h n (bkt (fClean r) (fClean b) (min (fClean l) (fClean b)) a) [] (n + 2) := by
  refine rsx26 (by simp) (by simp) ?_
  have C := fun x H m => dclean_ret x H m
  have c1 := (clean_le hb).1
  have c2 := (clean_le hl).1
  have hlt := flt_pos c1 c2
  simp -dsimp (discharger := omega) [B26, bkt]
  with_reducible refine call_ret (C r _ _) ?_
  simp -dsimp (discharger := omega) []
  with_reducible refine call_ret (C b _ _) ?_
  simp -dsimp (discharger := omega) []
  with_reducible refine call_ret (C l _ _) ?_
  generalize fClean r = r' at *
  generalize fClean b = b' at *
  generalize fClean l = l' at *
  by_cases hz : b' < l'
  · rw [decide_eq_true hz] at hlt
    rw [Nat.min_eq_right (by omega)]
    simp -dsimp (discharger := omega) [fl_gtr, hlt, bkt]
    repeat refine HSub.new ?_ hw (by omega) _
    exact .refl _
  · rw [decide_eq_false hz] at hlt
    rw [Nat.min_eq_left (by omega)]
    simp -dsimp (discharger := omega) [fl_gtr, hlt, bkt]
    repeat refine HSub.new ?_ hw (by omega) _
    exact .refl _
theorem dnew_ret {r b : Nat} (hb : b < 18446744073709551616) (a : Int) {h : AHeap} {n : Nat} (hw : WF h n) :
    Ret EV11 9 [.float .f64 r, .float .f64 b, .int .i64 a] h n (bkt (fClean r) (fClean b) (fClean b) a) [] (n + 3) := by
  refine rsx9 (by simp) (by simp) ?_
  have hm : min (fClean b) (fClean b) = fClean b := Nat.min_self _
  have C := fun H m (x : WF H m) => @dbclean_ret r b b hb hb a H m x
  rw [hm] at C
  unfold bkt at C
  simp -dsimp (discharger := omega) [B9, aFill]
  with_reducible refine call_ret (C _ _ ?_) ?_
  · exact hw.put _ (by omega) (by omega)
  simp -dsimp (discharger := omega) [bkt]
  repeat refine HSub.new ?_ hw (by omega) _
  exact .refl _
set_option maxHeartbeats 1000000 in
theorem dto_ret {r b l : Nat} (hr : r < 18446744073709551616) (hb : b < 18446744073709551616) (hl : l < 18446744073709551616) {a now : Int} (a1 : -9223372036854775808 ≤ a) (b2 : now ≤ 9223372036854775807) {h : AHeap} {n : Nat} (hw : WF h n) :
    Ret EV11 12 [bkt r b l a, .int .i64 now] h n (bkt (fClean r) (fClean b) (toL r b l a now) (toA a now)) [] (n + 5) := by
  refine rsx12 (by simp) (by simp) ?_
  have C := fun H m (x : WF H m) => @dbclean_ret r b l hb hl a H m x
  have c0 := (clean_le hr).1
  have c1 := (clean_le hb).1
  have c2 := (clean_le hl).1
  unfold toL toA
  unfold bkt at C
  simp -dsimp (discharger := omega) [B12, bkt]
  with_reducible refine call_ret (C _ _ ?_) ?_
  · exact (hw.put _ (by omega) (Nat.le_succ n)).put _ (by omega) (Nat.le_succ _)
  by_cases hc : a < now
  · rw [if_pos hc, if_pos hc]
    have hd := sub_u64 a1 b2 hc
    have A := fun H m (x : WF H m) => @dafter_ret (fClean r) (fClean b) (min (fClean l) (fClean b)) c0 c1 (by omega) a (now - a).toNat (by omega) H m x
    unfold bkt at A
    generalize fClean r = r' at *
    generalize fClean b = b' at *
    generalize min (fClean l) b' = l' at *
    simp -dsimp (discharger := omega) []
    rw [hd]
    with_reducible refine call_ret (A _ _ ?_) ?_
    · repeat refine WF.put (n := n + 1 + 1 + 2) ?_ _ (by omega) (Nat.le_refl _)
      exact hw.mono (by omega)
    simp -dsimp (discharger := omega) [bkt]
    repeat refine HSub.new ?_ hw (by omega) _
    exact .refl _
  · rw [if_neg hc, if_neg hc]
    simp -dsimp (discharger := omega) [bkt]
    repeat refine HSub.new ?_ hw (by omega) _
    exact .refl _
set_option maxHeartbeats 1000000 in
theorem dtake_ret {r b l x : Nat} (hr : r < 18446744073709551616) (hb : b < 18446744073709551616) (hl : l < 18446744073709551616) (hx : x < 18446744073709551616) {a now : Int} (a1 : -9223372036854775808 ≤ a) (b2 : now ≤ 9223372036854775807) {h : AHeap} {n : Nat} (hw : WF h n) :
    Ret EV11 11 [bkt r b l a, .int .i64 now, .float .f64 x] h n (.tuple #[bkt (fClean r) (fClean b) (takeL (toL r b l a now) (fClean x)) (toA a now), .bool (decide (fClean x ≤ toL r b l a now))]) [] (n + 7) := by
  refine rsx11 (by simp) (by simp) ?_
  have T := fun H m (x : WF H m) => @dto_ret r b l hr hb hl a now a1 b2 H m x
  have C := fun H m => dclean_ret x H m
  have hL := (toL_le (l := l) hr hb a now).2
  have hn := (clean_le hx).1
  have K := fun H m => rank_ret (toL r b l a now) H m
  rw [rank_pos hL] at K
  generalize toL r b l a now = L at *
  generalize toA a now = A at *
  generalize fClean x = y at *
  unfold bkt at T
  simp -dsimp (discharger := omega) [B11, bkt]
  with_reducible refine call_ret (T _ _ ?_) ?_
  · exact (hw.put _ (by omega) (Nat.le_succ n)).put _ (by omega) (Nat.le_succ _)
  simp -dsimp (discharger := omega) []
  with_reducible refine call_ret (C _ _) ?_
  unfold takeL
  by_cases h1 : L < y
  · rw [if_pos h1, decide_eq_false (by omega)]
    have e : fLt L y = true := by rw [flt_pos hL hn]; exact decide_eq_true h1
    simp -dsimp (discharger := omega) [fl_gtr, e, bkt]
    repeat refine HSub.new ?_ hw (by omega) _
    exact .refl _
  · rw [if_neg h1, decide_eq_true (by omega)]
    have e : fLt L y = false := by rw [flt_pos hL hn]; exact decide_eq_false h1
    simp -dsimp (discharger := omega) [fl_gtr, e]
    by_cases h2 : L = fI
    · rw [if_pos h2] at K ⊢
      with_reducible refine call_ret (K _ _) ?_
      simp -dsimp (discharger := omega) [bkt]
      repeat refine HSub.new ?_ hw (by omega) _
      exact .refl _
    · rw [if_neg h2] at K ⊢
      have hs := sub_fl (Nat.lt_of_le_of_ne hL h2) (show y ≤ L by omega)
      with_reducible refine call_ret (K _ _) ?_
      simp -dsimp (discharger := omega) [hs, bkt]
      repeat refine HSub.new ?_ hw (by omega) _
      exact .refl _
def DInv (w p t : Nat) (h0 : AHeap) (n0 m : Nat) (σ : Fr) (h : AHeap) (n : Nat) : Prop :=
  ∃ i j : Nat, i ≤ t ∧ t ≤ j ∧ j ≤ 1099511627776 ∧ j - i < 2 ^ m ∧ m ≤ 41 ∧ HSub h0 h ∧ WF h n ∧ n0 ≤ n ∧ n + m ≤ n0 + 41 ∧ σ = [(1, .float .f64 w), (2, .pointer (some ⟨p, 0, some 4⟩)), (6, .int .u64 (i : Int)), (7, .int .u64 (j : Int))]
def DPost (t : Nat) (h0 : AHeap) (n0 : Nat) (e : Ex) (σ' : Fr) (h' : AHeap) (n' : Nat) : Prop :=
  e = .exit 0 ∧ HSub h0 h' ∧ n' ≤ n0 + 41 ∧ σ'.get 6 = some (.int .u64 (t : Int))
set_option maxHeartbeats 1000000 in
theorem dwait_loop {r b l w : Nat} (hr : r ≤ fI) (hb : b ≤ fI) (hl : l ≤ fI) (hwI : w ≤ fI) {a : Int} {p t : Nat} (hL : Least (isThere r b l w) 1099511627777 t) {h0 : AHeap} {n0 : Nat} (hp : h0.get p = some (.cells (some 29) [.float .f64 r, .float .f64 b, .float .f64 l, .int .i64 a] 4)) :
    ∀ (m : Nat) (σ : Fr) (h : AHeap) (n : Nat), DInv w p t h0 n0 m σ h n → HasCode EV11 (.loop F16L0) σ h n (DPost t h0 n0) := by
  refine wx_inv _ fun m σ h n hI => ?_
  obtain ⟨i, j, h1, h2, h3, h4, hm, hs, hw, hn0, hn1, rfl⟩ := hI
  obtain ⟨l1, l2, l3⟩ := hL
  have hp' := hs.at hp
  by_cases hij : i < j
  · obtain ⟨m, rfl⟩ : ∃ k, m = k + 1 := by
      cases m with
      | zero => simp at h4; omega
      | succ k => exact ⟨k, rfl⟩
    have hp2 : 2 ^ (m + 1) = 2 * 2 ^ m := by rw [Nat.pow_succ, Nat.mul_comm]
    rw [hp2] at h4
    obtain ⟨k, hk1, hk2⟩ : ∃ k : Nat, k = i + (j - i) / 2 ∧ (i : Int) + ((j : Int) - (i : Int)).tdiv 2 = (k : Int) := by
      refine ⟨i + (j - i) / 2, rfl, ?_⟩
      rw [Int.tdiv_eq_ediv_of_nonneg (by omega)]
      omega
    have A := fun H m (x : WF H m) => @dafter_ret r b l hr hb hl a k (by omega) H m x
    have hle : afterN r b l k ≤ fI := by
      unfold afterN; split
      · exact hl
      · exact Nat.le_trans (Nat.min_le_left _ _) hb
    have hge : (fLt w (afterN r b l k) || fEq (afterN r b l k) w) = isThere r b l w k := by
      unfold isThere
      rw [flt_pos hwI hle, feq_pos hle hwI]
      by_cases h1 : w < afterN r b l k
      · rw [decide_eq_true h1, Bool.true_or, decide_eq_true (show w ≤ afterN r b l k by omega)]
      · rw [decide_eq_false h1]
        exact decide_eq_decide.2 (by omega)
    unfold bkt at A
    have hd : IntKind.wrap .u64 (((j : Int) - (i : Int)).tdiv 2) = ((j : Int) - (i : Int)).tdiv 2 := by
      rw [Int.tdiv_eq_ediv_of_nonneg (by omega)]
      simp [IntKind.wrap, IntKind.bits, IntKind.signed]
      omega
    have hd2 : IntKind.wrap .u64 (k : Int) = (k : Int) := by
      simp [IntKind.wrap, IntKind.bits, IntKind.signed]
      omega
    have hsub : ∀ a b : Nat, b - a = 0 ∨ 2 * (b - a) ≤ j - i → b - a < 2 ^ m := fun a b h => by
      have : 0 < 2 ^ m := Nat.pow_pos (by decide)
      omega
    simp -dsimp (discharger := omega) [F16L0, AHeap.read_of hp', hd, hk2, hd2]
    with_reducible refine call_ret (A _ _ ?_) ?_
    · exact hw
    cases hP : isThere r b l w k with
    | false =>
      rw [hP] at hge
      have hkr : k < t := by
        rcases Nat.lt_or_ge k t with h | h
        · exact h
        · rw [l3 k h (by omega)] at hP; cases hP
      simp -dsimp (discharger := omega) [fl_geq, hge]
      exact .mk' m (by omega) [(1, .float .f64 w), (2, .pointer (some ⟨p, 0, some 4⟩)), (6, .int .u64 ((k + 1 : Nat) : Int)), (7, .int .u64 (j : Int))] h (by simp) (.refl _)
        ⟨k + 1, j, by omega, h2, h3, hsub _ _ (by omega), by omega, hs, hw.mono (by omega), by omega, by omega, rfl⟩
    | true =>
      rw [hP] at hge
      have hrk : t ≤ k := by
        rcases Nat.lt_or_ge k t with h | h
        · rw [l2 k h] at hP; cases hP
        · exact h
      simp -dsimp (discharger := omega) [fl_geq, hge]
      exact .mk' m (by omega) [(1, .float .f64 w), (2, .pointer (some ⟨p, 0, some 4⟩)), (6, .int .u64 (i : Int)), (7, .int .u64 (k : Int))] h (by simp) (.refl _)
        ⟨i, k, h1, hrk, by omega, hsub _ _ (by omega), by omega, hs, hw.mono (by omega), by omega, by omega, rfl⟩
  · simp -dsimp (discharger := omega) [F16L0]
    have : i = t := by omega
    exact ⟨rfl, hs, by omega, by rw [this]; rfl⟩
set_option maxHeartbeats 1000000 in
theorem dwait_ret {r b l x : Nat} (hr : r < 18446744073709551616) (hb : b < 18446744073709551616) (hl : l < 18446744073709551616) (hx : x < 18446744073709551616) {a : Int} {t : Nat} (ht : Least (isThere (fClean r) (fClean b) (min (fClean l) (fClean b)) (fClean x)) 1099511627777 t)
    {h : AHeap} {n : Nat} (hw : WF h n) :
    Ret EV11 16 [bkt r b l a, .float .f64 x] h n (waitV t) [] (n + 45) := by
  refine rsx16 (by simp) (by simp) ?_
  have hr' := (clean_le hr).1
  have hb' := (clean_le hb).1
  have hx' := (clean_le hx).1
  have hl' := (clean_le hl).1
  have C := fun H m (x : WF H m) => @dbclean_ret r b l hb hl a H m x
  have D := fun H m => dclean_ret x H m
  have A := fun H m (y : WF H m) => @dafter_ret (fClean r) (fClean b) (min (fClean l) (fClean b)) hr' hb' (by omega) a 1099511627776 (by omega) H m y
  have hA : afterN (fClean r) (fClean b) (min (fClean l) (fClean b)) 1099511627776 ≤ fI := by
    unfold afterN; split
    · omega
    · exact Nat.le_trans (Nat.min_le_left _ _) hb'
  have hlt : fLt (afterN (fClean r) (fClean b) (min (fClean l) (fClean b)) 1099511627776) (fClean x) = !isThere (fClean r) (fClean b) (min (fClean l) (fClean b)) (fClean x) 1099511627776 := by
    rw [flt_pos hA hx']
    unfold isThere
    by_cases hh : fClean x ≤ afterN (fClean r) (fClean b) (min (fClean l) (fClean b)) 1099511627776
    · rw [decide_eq_true hh, decide_eq_false (by omega)]; rfl
    · rw [decide_eq_false hh, decide_eq_true (by omega)]; rfl
  have hlI : min (fClean l) (fClean b) ≤ fI := by omega
  unfold bkt at C A
  generalize fClean r = r' at *
  generalize fClean b = b' at *
  generalize fClean x = x' at *
  generalize min (fClean l) b' = l' at *
  obtain ⟨l1, l2, l3⟩ := id ht
  simp -dsimp (discharger := omega) [B16, bkt]
  with_reducible refine call_ret (C _ _ ?_) ?_
  · exact hw.put _ (by omega) (by omega)
  simp -dsimp (discharger := omega) []
  with_reducible refine call_ret (D _ _) ?_
  simp -dsimp (discharger := omega) []
  have hw2 : ∀ b1 b2 : Blk, WF ((h.put n b1).put n b2) (n + 1 + 2) := fun b1 b2 => (hw.put _ (by omega) (by omega)).put _ (by omega) (Nat.le_refl _)
  have hs2 : ∀ b1 b2 : Blk, HSub h ((h.put n b1).put n b2) := fun b1 b2 => .new (.new (.refl _) hw (by omega) _) hw (by omega) _
  with_reducible refine call_ret (A _ _ ?_) ?_
  · exact hw2 _ _
  unfold waitV
  by_cases hc : t ≤ 1099511627776
  · have p1 : isThere r' b' l' x' 1099511627776 = true := l3 _ hc (by omega)
    rw [p1] at hlt
    rw [if_pos hc]
    simp -dsimp (discharger := omega) [fl_lss, hlt]
    refine loop_use (dwait_loop (p := n) (a := a) (h0 := (h.put n (Blk.cells (some 29) [Value.float FloatKind.f64 r, Value.float FloatKind.f64 b, Value.float FloatKind.f64 l, Value.int IntKind.i64 a] 4)).put n (Blk.cells (some 29) [Value.float FloatKind.f64 r', Value.float FloatKind.f64 b', Value.float FloatKind.f64 l', Value.int IntKind.i64 a] 4)) (n0 := n + 1 + 2 + 1) hr' hb' hlI hx' ht (by simp) 41 [(1, .float .f64 x'), (2, .pointer (some ⟨n, 0, some 4⟩)), (6, .int .u64 ((0 : Nat) : Int)), (7, .int .u64 ((1099511627776 : Nat) : Int))] _ (n + 1 + 2 + 1)
      ⟨0, 1099511627776, by omega, hc, Nat.le_refl _, by decide, by omega, .refl _, (hw2 _ _).mono (by omega), Nat.le_refl _, by omega, rfl⟩) (by simp) (.refl _) ?_
    rintro e σ' h' n' ⟨rfl, hs, hn, g6⟩
    simp -dsimp (discharger := omega) [g6]
    exact ⟨(hs2 _ _).trans hs, by omega⟩
  · have p1 : isThere r' b' l' x' 1099511627776 = false := l2 _ (by omega)
    rw [p1] at hlt
    rw [if_neg hc]
    simp -dsimp (discharger := omega) [fl_lss, hlt]
    exact hs2 _ _
theorem same_bkt (r b l : Nat) (a : Int) {h : AHeap} {n : Nat} (hw : WF h n) : Ret EV11 17 [bkt r b l a, bkt r b l a] h n (.bool true) [] (n + 2) := by
  refine rsx17 (by simp) (by simp) ?_
  have A := fun x H m => alike_ret x H m
  simp -dsimp (discharger := omega) [B17, bkt]
  with_reducible refine call_ret (A _ _ _) ?_
  simp -dsimp (discharger := omega) []
  with_reducible refine call_ret (A _ _ _) ?_
  simp -dsimp (discharger := omega) []
  with_reducible refine call_ret (A _ _ _) ?_
  simp -dsimp (discharger := omega) []
  repeat refine HSub.new ?_ hw (by omega) _
  exact .refl _
end
end Go.Proofs.YtkdpjaaohddppaaDoor.Am
