/- Contracts of the program's functions (X7). -/
import Derived.Test.YtkdpjaaohddppaaDoorX6
namespace Go.Proofs.YtkdpjaaohddppaaDoor.Am
noncomputable section
/- CONTRACTS: sort.Search over a predicate that goes up; Wait. -/
/-- Least place r where P holds, among the first N. -/
def Least (P : Nat → Bool) (N r : Nat) : Prop := r ≤ N ∧ (∀ k, k < r → P k = false) ∧ ∀ k, r ≤ k → k < N → P k = true
def SInv (f : Value) (N r : Nat) (h0 : AHeap) (n0 m : Nat) (σ : Fr) (h : AHeap) (n : Nat) : Prop :=
  ∃ i j : Nat, i ≤ r ∧ r ≤ j ∧ j ≤ N ∧ j - i < 2 ^ m ∧ m ≤ 41 ∧ HSub h0 h ∧ WF h n ∧ n0 ≤ n ∧ n + m ≤ n0 + 41 ∧ σ = [(1, f), (5, .int .i64 (i : Int)), (6, .int .i64 (j : Int))]
def SPost (r : Nat) (h0 : AHeap) (n0 : Nat) (e : Ex) (σ' : Fr) (h' : AHeap) (n' : Nat) : Prop :=
  e = .exit 0 ∧ HSub h0 h' ∧ n' ≤ n0 + 41 ∧ σ'.get 5 = some (.int .i64 (r : Int))
set_option maxHeartbeats 1000000 in
theorem search_loop {P : Nat → Bool} {N r : Nat} (hN : N ≤ 1099511627777) (hL : Least P N r) {g : Nat} {cap : List Value} {h0 : AHeap} {n0 : Nat}
    (hc : ∀ (k : Nat) (H : AHeap) (m : Nat), k < N → HSub h0 H → WF H m → n0 ≤ m → Ret EV11 g (.int .i64 (k : Int) :: cap) H m (.bool (P k)) [] (m + 1)) :
    ∀ (m : Nat) (σ : Fr) (h : AHeap) (n : Nat), SInv (.func (.func g) #[] cap.toArray) N r h0 n0 m σ h n → HasCode EV11 (.loop F33L0) σ h n (SPost r h0 n0) := by
  refine wx_inv _ fun m σ h n hI => ?_
  obtain ⟨i, j, h1, h2, h3, h4, hm, hs, hw, hn0, hn1, rfl⟩ := hI
  obtain ⟨l1, l2, l3⟩ := hL
  by_cases hij : i < j
  · obtain ⟨m, rfl⟩ : ∃ k, m = k + 1 := by
      cases m with
      | zero => simp at h4; omega
      | succ k => exact ⟨k, rfl⟩
    have hp2 : 2 ^ (m + 1) = 2 * 2 ^ m := by rw [Nat.pow_succ, Nat.mul_comm]
    rw [hp2] at h4
    obtain ⟨k, hk1, hk2⟩ : ∃ k : Nat, k = (i + j) / 2 ∧ shrI .u64 (((i : Int) + (j : Int))) 1 = (k : Int) := by
      refine ⟨(i + j) / 2, rfl, ?_⟩
      unfold shrI
      simp only [IntKind.bits]
      show ((i : Int) + (j : Int)).fdiv 2 = _
      rw [Int.fdiv_eq_ediv_of_nonneg _ (by omega)]
      omega
    have hkN : k < N := by omega
    have C := hc k h n hkN hs hw hn0
    simp -dsimp (discharger := omega) [F33L0, hk2]
    with_reducible refine call_ret C ?_
    have hsub : ∀ a b : Nat, b - a = 0 ∨ 2 * (b - a) ≤ j - i → b - a < 2 ^ m := fun a b h => by
      have : 0 < 2 ^ m := Nat.pow_pos (by decide)
      omega
    cases hP : P k with
    | false =>
      have hkr : k < r := by
        rcases Nat.lt_or_ge k r with h | h
        · exact h
        · rw [l3 k h hkN] at hP; cases hP
      simp -dsimp (discharger := omega) []
      exact .mk' m (by omega) [(1, .func (.func g) #[] cap.toArray), (5, .int .i64 ((k + 1 : Nat) : Int)), (6, .int .i64 (j : Int))] h (by simp) (.refl _)
        ⟨k + 1, j, by omega, h2, h3, hsub _ _ (by omega), by omega, hs, hw.mono (by omega), by omega, by omega, rfl⟩
    | true =>
      have hrk : r ≤ k := by
        rcases Nat.lt_or_ge k r with h | h
        · rw [l2 k h] at hP; cases hP
        · exact h
      simp -dsimp (discharger := omega) []
      exact .mk' m (by omega) [(1, .func (.func g) #[] cap.toArray), (5, .int .i64 (i : Int)), (6, .int .i64 (k : Int))] h (by simp) (.refl _)
        ⟨i, k, h1, hrk, by omega, hsub _ _ (by omega), by omega, hs, hw.mono (by omega), by omega, by omega, rfl⟩
  · simp -dsimp (discharger := omega) [F33L0]
    have : i = r := by omega
    exact ⟨rfl, hs, by omega, by rw [this]; rfl⟩
theorem search_ret {P : Nat → Bool} {r : Nat} (hL : Least P 1099511627777 r) {g : Nat} {cap : List Value} {h0 : AHeap} {n0 : Nat} (hw : WF h0 n0)
    (hc : ∀ (k : Nat) (H : AHeap) (m : Nat), k < 1099511627777 → HSub h0 H → WF H m → n0 ≤ m → Ret EV11 g (.int .i64 (k : Int) :: cap) H m (.bool (P k)) [] (m + 1)) :
    Ret EV11 33 [.int .i64 1099511627777, .func (.func g) #[] cap.toArray] h0 n0 (.int .i64 (r : Int)) [] (n0 + 41) := by
  refine rsx33 (by simp) (by simp) ?_
  simp -dsimp (discharger := omega) [B33]
  refine loop_use (search_loop (Nat.le_refl _) hL hc 41 [(1, .func (.func g) #[] cap.toArray), (5, .int .i64 ((0 : Nat) : Int)), (6, .int .i64 ((1099511627777 : Nat) : Int))] h0 n0 ⟨0, 1099511627777, by omega, hL.1, Nat.le_refl _, by decide, by omega, .refl _, hw, Nat.le_refl _, by omega, rfl⟩) (by simp) (.refl _) ?_
  rintro e σ' h' n' ⟨rfl, hs, hn, g5⟩
  simp -dsimp (discharger := omega) [g5]
  exact ⟨hs, hn⟩
/-- Is so much there behind k ticks? -/
def isThere (r b l w k : Nat) : Bool := decide (w ≤ afterN r b l k)
set_option maxHeartbeats 1000000 in
theorem wait1_ret {r b l : Nat} (hr : r ≤ fI) (hb : b ≤ fI) (hl : l ≤ fI) {a : Int} {w : Nat} (hwI : w ≤ fI) {p q : Nat} {h : AHeap} (hp : h.get p = some (bktB r b l a)) (hq : h.get q = some (.cells (some 24) [.float .f64 w] 1)) {k : Nat} (hk : k < 1099511627777) {n : Nat} (hw : WF h n) :
    Ret EV11 34 [.int .i64 (k : Int), bktP p, .pointer (some ⟨q, 0, some 1⟩)] h n (.bool (isThere r b l w k)) [] (n + 1) := by
  refine rsx34 (by simp) (by simp) ?_
  unfold isThere
  have A := fun H m (x : WF H m) => @after_ret r b l hr hb hl a k (by omega) H m x
  have hle : afterN r b l k ≤ fI := by
    unfold afterN; split
    · exact hl
    · exact Nat.le_trans (Nat.min_le_left _ _) hb
  have hge : (fLt w (afterN r b l k) || fEq (afterN r b l k) w) = decide (w ≤ afterN r b l k) := by
    rw [flt_pos hwI hle, feq_pos hle hwI]
    by_cases h1 : w < afterN r b l k
    · rw [decide_eq_true h1, Bool.true_or, decide_eq_true (show w ≤ afterN r b l k by omega)]
    · rw [decide_eq_false h1]
      exact decide_eq_decide.2 (by omega)
  unfold bkt at A
  simp -dsimp (discharger := omega) [B34, bktP, AHeap.read_of hp, bktB, bktC]
  with_reducible refine ret_ret (A _ _ ?_) ?_
  · exact hw
  simp -dsimp (discharger := omega) [AHeap.read_of hq, fl_geq, hge]
  exact .refl _
theorem least_ex {P : Nat → Bool} : ∀ (N : Nat), (∀ i j, i ≤ j → j < N → P i = true → P j = true) → ∃ r, Least P N r
  | 0, _ => ⟨0, Nat.le_refl _, fun k hk => by omega, fun k _ hk => by omega⟩
  | N + 1, h => by
    obtain ⟨r, h1, h2, h3⟩ := least_ex N fun i j hij hj => h i j hij (by omega)
    by_cases hr : r < N
    · refine ⟨r, by omega, h2, fun k hk1 hk2 => ?_⟩
      rcases Nat.lt_or_ge k N with hk | hk
      · exact h3 k hk1 hk
      · exact h r k hk1 hk2 (h3 r (Nat.le_refl _) hr)
    · have hrN : r = N := by omega
      cases hP : P N with
      | true =>
        refine ⟨N, by omega, fun k hk => h2 k (by omega), fun k hk1 hk2 => ?_⟩
        have : k = N := by omega
        rw [this]; exact hP
      | false =>
        refine ⟨N + 1, by omega, fun k hk => ?_, fun k hk1 hk2 => by omega⟩
        rcases Nat.lt_or_ge k N with hk | hk
        · exact h2 k (by omega)
        · have : k = N := by omega
          rw [this]; exact hP
theorem there_ex {r b l : Nat} (hb : b ≤ fI) (hl : l ≤ b) (w : Nat) : ∃ t, Least (isThere r b l w) 1099511627777 t := by
  refine least_ex _ fun i j hij hj hi => ?_
  unfold isThere at *
  have := after_mono (r := r) hl hb hij (show j < 2 ^ 64 by omega)
  exact decide_eq_true (Nat.le_trans (of_decide_eq_true hi) this)
theorem HSub.at {h H : AHeap} (x : HSub h H) {i : Nat} {b : Blk} (e : h.get i = some b) : H.get i = some b := x i b e
def waitV (t : Nat) : Value := if t ≤ 1099511627776 then .tuple #[.int .i64 (t : Int), .bool true] else .tuple #[.int .i64 0, .bool false]
set_option maxHeartbeats 1000000 in
theorem wait_ret {r b l x : Nat} (hr : r < 18446744073709551616) (hb : b < 18446744073709551616) (hl : l < 18446744073709551616) (hx : x < 18446744073709551616) {a : Int} {t : Nat} (ht : Least (isThere (fClean r) (fClean b) (min (fClean l) (fClean b)) (fClean x)) 1099511627777 t)
    {p : Nat} {h : AHeap} (hp : h.get p = some (bktB r b l a)) {n : Nat} (hw : WF h n) :
    Ret EV11 15 [bktP p, .float .f64 x] h n (waitV t) [] (n + 43) := by
  have hpn := hw.lt hp
  refine rsx15 (by simp) (by simp) ?_
  have hr' := (clean_le hr).1
  have hb' := (clean_le hb).1
  have hx' := (clean_le hx).1
  have hl' := (clean_le hl).1
  simp -dsimp (discharger := omega) [B15, bktP, AHeap.read_of hp, bktB, bktC]
  have C := fun H m h1 h2 => @bclean_ret r b l hr hb hl a (n + 1) H h1 m h2
  unfold bktP bktB bktC at C
  with_reducible refine call_ret (C _ _ ?_ ?_) ?_
  · simp
  · omega
  have D := fun H m => clean_ret x H m
  simp -dsimp (discharger := omega) []
  with_reducible refine call_ret (D _ _) ?_
  simp -dsimp (discharger := omega) []
  have W := fun (k : Nat) (H : AHeap) (m : Nat) (hk : k < 1099511627777) (h1 : H.get (n + 1) = some (bktB (fClean r) (fClean b) (min (fClean l) (fClean b)) a)) (h2 : H.get n = some (.cells (some 24) [.float .f64 (fClean x)] 1)) (hw' : WF H m) => wait1_ret hr' hb' (show min (fClean l) (fClean b) ≤ fI by omega) hx' h1 h2 hk hw'
  unfold bktP at W
  generalize fClean r = r' at *
  generalize fClean b = b' at *
  generalize fClean x = x' at *
  generalize min (fClean l) b' = l' at *
  with_reducible refine call_ret (search_ret (g := 34) (cap := [.pointer (some ⟨n + 1, 0, some 4⟩), .pointer (some ⟨n, 0, some 1⟩)]) ht ?_ (fun k H m hk hs hw' hn => W k H m hk (hs.at ?_) (hs.at ?_) hw')) ?_
  · exact ((((hw.put _ (by omega) (Nat.le_succ n)).put _ (by omega) (Nat.le_succ _)).put _ (by omega) (Nat.le_refl _)).put _ (by omega) (Nat.le_refl _)).put _ (by omega) (Nat.le_refl _)
  · simp [bktB, bktC]
  · simp
  unfold waitV
  have hs : HSub h (((((h.put n (Blk.cells (some 24) [Value.float FloatKind.f64 x] 1)).put (n + 1) (Blk.cells (some 26) [Value.float FloatKind.f64 0, Value.float FloatKind.f64 0, Value.float FloatKind.f64 0, Value.int IntKind.i64 0] 4)).put (n + 1)
              (Blk.cells (some 26) [Value.float FloatKind.f64 r, Value.float FloatKind.f64 b, Value.float FloatKind.f64 l, Value.int IntKind.i64 a] 4)).put (n + 1)
          (Blk.cells (some 26) [Value.float FloatKind.f64 r', Value.float FloatKind.f64 b', Value.float FloatKind.f64 l', Value.int IntKind.i64 a] 4)).put n (Blk.cells (some 24) [Value.float FloatKind.f64 x'] 1)) := by
    repeat refine HSub.new ?_ hw (by omega) _
    exact .refl _
  by_cases hc : t ≤ 1099511627776
  · rw [if_pos hc]
    simp -dsimp (discharger := omega) []
    exact hs
  · rw [if_neg hc]
    simp -dsimp (discharger := omega) []
    exact hs
end
end Go.Proofs.YtkdpjaaohddppaaDoor.Am
