/- Contracts of the program's functions (X8). -/
import Derived.Test.YtkdpjaaohddppaaDoorX7
import Derived.Test.YtkdpjaaohddppaaDoorX2
namespace Go.Proofs.YtkdpjaaohddppaaDoor.Am
noncomputable section
/- THE WALK of RateWaits. -/
/-- A heap of which only so much is told. -/
theorem hc_abs {E : Env} {f : Nat} {args : List Value} {h : AHeap} {n : Nat} {Q : Value → AHeap → Nat → Prop} {t : Tok Q} (F : AHeap → Prop) (hf : F h) (k : ∀ H, F H → HasCallT E f args H n Q t) : HasCallT E f args h n Q t := k h hf
theorem hI_wf : WF hI 5 := fun i hi => by
  simp only [hI, AHeap.get_cons]
  rw [if_neg (by omega), if_neg (by omega), if_neg (by omega), if_neg (by omega)]
  rfl
theorem hI_put {H : AHeap} (hs : HSub hI H) {i : Nat} (hi : 5 ≤ i) (b : Blk) : HSub hI (H.put i b) := hs.new hI_wf hi b
set_option maxHeartbeats 2000000 in
theorem waits_walk {a0 a1 a2 x : Nat} (h0 : a0 < 18446744073709551616) (h1 : a1 < 18446744073709551616) (h2 : a2 < 18446744073709551616) (hx : x < 18446744073709551616) {h : AHeap} {n : Nat} (hs : HSub hI h) (hw : WF h n) (hn : n ≤ 5000) :
    HasCallT EV11 4 [.agg #[.int .u64 (a0 : Int), .int .u64 (a1 : Int), .int .u64 (a2 : Int)], .int .u64 (x : Int)] h n (fun v _ _ => v = .bool true) () := by
  refine inl4 ?_
  have hn4 : 4 < n := hw.lt (hs 4 _ rfl)
  simp -dsimp (discharger := omega) [B4]
  with_reducible refine call_ret (from_ret a0 _ _) ?_
  simp -dsimp (discharger := omega) []
  with_reducible refine call_ret (from_ret a1 _ _) ?_
  have hw1 := hw.put (i := n) (Blk.cells (some 45) [Value.int IntKind.u64 ↑a0, Value.int IntKind.u64 ↑a1, Value.int IntKind.u64 ↑a2] 3) (Nat.lt_succ_self n) (Nat.le_succ n)
  simp -dsimp (discharger := omega) []
  with_reducible refine call_ret (new_ret h0 h1 0 hw1) ?_
  obtain ⟨c1, _, _, c4, _⟩ := clean_le h0
  obtain ⟨d1, _, _, d4, _⟩ := clean_le h1
  have C := fun H m => clean_ret x H m
  obtain ⟨e1, _, _, e4, _⟩ := clean_le hx
  have R64 : fClean a0 < 18446744073709551616 := Nat.lt_of_le_of_lt c1 (by decide)
  have B64 : fClean a1 < 18446744073709551616 := Nat.lt_of_le_of_lt d1 (by decide)
  simp -dsimp (discharger := omega) [bkt]
  with_reducible refine hc_abs (fun H => HSub hI H ∧ WF H (n + 4) ∧ H.get (n + 1 + 2) = some (bktB (fClean a0) (fClean a1) (fClean a1) 0)) ⟨?_, ?_, ?_⟩ ?_
  · repeat refine hI_put ?_ (by omega) _
    exact hs
  · repeat refine WF.put (n := n + 4) ?_ _ (by omega) (Nat.le_refl _)
    exact hw.mono (by omega)
  · simp [bktB, bktC]
  rintro H1 ⟨hs1, hw2, hg1⟩
  with_reducible refine call_ret (from_ret a2 _ _) ?_
  simp -dsimp (discharger := omega) [hg1, bktB, bktC]
  with_reducible refine call_ret (from_ret x _ _) ?_
  simp -dsimp (discharger := omega) []
  with_reducible refine call_ret (C _ _) ?_
  simp -dsimp (discharger := omega) []
  with_reducible refine call_ret (from_ret x _ _) ?_
  obtain ⟨R, hR⟩ : ∃ R, fClean a0 = R := ⟨_, rfl⟩
  obtain ⟨B, hB⟩ : ∃ B, fClean a1 = B := ⟨_, rfl⟩
  obtain ⟨L, hL⟩ : ∃ L, min (fClean a2) B = L := ⟨_, rfl⟩
  obtain ⟨w, hwt⟩ : ∃ w, fClean x = w := ⟨_, rfl⟩
  rw [hR] at c1 c4 hg1 R64 ⊢
  rw [hB] at d1 d4 hg1 B64 ⊢
  rw [hwt] at e1 e4 C ⊢
  have hLB : L ≤ B := by rw [← hL]; exact Nat.min_le_right _ _
  obtain ⟨t, ht⟩ := there_ex (r := R) d1 hLB w
  have hto : ∀ k : Nat, toL R B a2 0 (k : Int) = afterN R B L k := fun k => by
    unfold toL
    rw [c4, d4, hL]
    by_cases hk : (0 : Int) < (k : Int)
    · rw [if_pos hk]; congr 1
    · rw [if_neg hk]
      unfold afterN
      rw [if_pos (by omega)]
  have Wt := fun (H : AHeap) (p m : Nat) (hp : H.get p = some (bktB R B a2 0)) (hw : WF H m) => @wait_ret R B a2 x R64 B64 h2 hx 0 t (by rw [c4, d4, hL, hwt]; exact ht) p H hp m hw
  have Hs := fun (H : AHeap) (p m k : Nat) (hk : k ≤ 1099511627776) (hp : H.get p = some (bktB R B a2 0)) (hw : WF H m) => @has_ret R B a2 R64 B64 h2 0 (k : Int) (by omega) (by omega) (by omega) (by omega) p H hp m hw
  unfold bktP at Wt Hs
  simp -dsimp (discharger := omega) []
  with_reducible refine hc_abs (fun H => HSub hI H ∧ WF H (n + 1 + 2 + 1 + 1) ∧ H.get (n + 1 + 2) = some (bktB R B a2 0) ∧ H.get (n + 1 + 2 + 1) = some (bktB R B a2 0)) ⟨?_, ?_, ?_, ?_⟩ ?_
  · repeat refine hI_put ?_ (by omega) _
    exact hs1
  · repeat refine WF.put (n := n + 1 + 2 + 1 + 1) ?_ _ (by omega) (Nat.le_refl _)
    exact hw2.mono (by omega)
  · simp [bktB, bktC]
  · simp [bktB, bktC]
  rintro H2 ⟨hs2, hw3, hg2, hg3⟩
  with_reducible refine call_ret (Wt _ _ _ hg2 hw3) ?_
  have A := fun H m => alike_ret a2 H m
  have hA : ∀ k, afterN R B L k ≤ fI := fun k => by
    unfold afterN; split
    · omega
    · exact Nat.le_trans (Nat.min_le_left _ _) d1
  have hlt : ∀ k, fLt (afterN R B L k) w = !isThere R B L w k := fun k => by
    rw [flt_pos (hA k) e1]
    unfold isThere
    by_cases hh : w ≤ afterN R B L k
    · rw [decide_eq_true hh, decide_eq_false (by omega)]; rfl
    · rw [decide_eq_false hh, decide_eq_true (by omega)]; rfl
  have Wk := fun (H : AHeap) (m : Nat) (x : HSub hI H) (y : WF H m) (z : m ≤ 6000000000) => wk11 x y z
  obtain ⟨l1, l2, l3⟩ := ht
  unfold waitV
  by_cases hc : t ≤ 1099511627776
  · rw [if_pos hc]
    have p1 := l3 t (Nat.le_refl _) (by omega)
    have q1 : fLt (toL R B a2 0 (t : Int)) w = false := by rw [hto, hlt, p1]; rfl
    simp -dsimp (discharger := omega) [AHeap.read_of hg2, AHeap.read_of hg3, bktB, bktC]
    with_reducible refine call_ret (A _ _) ?_
    simp -dsimp (discharger := omega) [AHeap.read_of hg2, AHeap.read_of hg3, bktB, bktC, hw3.none]
    obtain ⟨q, hq⟩ : ∃ q, q = n + 1 + 2 + 1 + 1 + 43 := ⟨_, rfl⟩
    replace hw3 : WF H2 q := hw3.mono (by omega)
    rw [← hq]
    with_reducible refine hc_abs (fun H => HSub hI H ∧ WF H (q + 1 + 1) ∧ H.get q = some (bktB R B a2 0) ∧ H.get (q + 1) = some (bktB R B a2 0)) ⟨?_, ?_, ?_, ?_⟩ ?_
    · repeat refine hI_put ?_ (by omega) _
      exact hs2
    · repeat refine WF.put (n := q + 1 + 1) ?_ _ (by omega) (Nat.le_refl _)
      exact hw3.mono (by omega)
    · simp [bktB, bktC]
    · simp [bktB, bktC]
    rintro H3 ⟨hs3, hw4, hg4, hg5⟩
    have S1 := Hs H3 q (q + 1 + 1) t hc hg4 hw4
    cases t with
    | zero =>
      generalize toL R B a2 0 ((0 : Nat) : Int) = z at *
      with_reducible refine call_ret S1 ?_
      simp -dsimp (discharger := omega) [fl_lss, q1]
      with_reducible refine call_ret (Wk _ _ ?_ ?_ ?_) ?_
      · exact hI_put hs3 (by omega) _
      · exact (hw4.put _ (by omega) (Nat.le_refl _)).mono (by omega)
      · omega
      simp -dsimp (discharger := omega) []
    | succ t =>
      have p2 := l2 t (by omega)
      have q2 : fLt (toL R B a2 0 (t : Int)) w = true := by rw [hto, hlt, p2]; rfl
      have S2 := fun (H : AHeap) (hp : H.get (q + 1) = some (bktB R B a2 0)) (hw : WF H (q + 1 + 1 + 1)) => Hs H (q + 1) (q + 1 + 1 + 1) t (by omega) hp hw
      generalize toL R B a2 0 ((t + 1 : Nat) : Int) = z at *
      generalize toL R B a2 0 (t : Int) = z2 at *
      with_reducible refine call_ret S1 ?_
      simp -dsimp (discharger := omega) [fl_lss, q1]
      with_reducible refine call_ret (S2 _ ?_ ?_) ?_
      · simp [hg5]
      · exact (hw4.put _ (by omega) (Nat.le_refl _)).mono (by omega)
      simp -dsimp (discharger := omega) [fl_lss, q2]
      with_reducible refine call_ret (Wk _ _ ?_ ?_ ?_) ?_
      · exact hI_put (hI_put hs3 (by omega) _) (by omega) _
      · refine WF.put (n := q + 1 + 1 + 1 + 1) (WF.put (n := q + 1 + 1 + 1 + 1) (hw4.mono (by omega)) _ (by omega) (Nat.le_refl _)) _ (by omega) (Nat.le_refl _)
      · omega
      simp -dsimp (discharger := omega) []
  · rw [if_neg hc]
    have p1 := l2 1099511627776 (by omega)
    have q1 : fLt (toL R B a2 0 ((1099511627776 : Nat) : Int)) w = true := by rw [hto, hlt, p1]; rfl
    have Hs := fun (H : AHeap) (p m : Nat) (hp : H.get p = some (bktB R B a2 0)) (hw : WF H m) => Hs H p m 1099511627776 (by omega) hp hw
    generalize toL R B a2 0 ((1099511627776 : Nat) : Int) = z at *
    simp -dsimp (discharger := omega) [AHeap.read_of hg2, AHeap.read_of hg3, bktB, bktC]
    with_reducible refine call_ret (A _ _) ?_
    simp -dsimp (discharger := omega) [AHeap.read_of hg2, AHeap.read_of hg3, bktB, bktC]
    obtain ⟨q, hq⟩ : ∃ q, q = n + 1 + 2 + 1 + 1 + 43 := ⟨_, rfl⟩
    replace hw3 : WF H2 q := hw3.mono (by omega)
    rw [← hq]
    with_reducible refine hc_abs (fun H => HSub hI H ∧ WF H (q + 1) ∧ H.get q = some (bktB R B a2 0)) ⟨?_, ?_, ?_⟩ ?_
    · repeat refine hI_put ?_ (by omega) _
      exact hs2
    · repeat refine WF.put (n := q + 1) ?_ _ (by omega) (Nat.le_refl _)
      exact hw3.mono (by omega)
    · simp [bktB, bktC]
    rintro H3 ⟨hs3, hw4, hg4⟩
    with_reducible refine call_ret (Hs H3 q (q + 1) hg4 hw4) ?_
    simp -dsimp (discharger := omega) [fl_lss, q1]
    with_reducible refine call_ret (Wk _ _ ?_ ?_ ?_) ?_
    · exact hI_put hs3 (by omega) _
    · exact (hw4.put _ (by omega) (Nat.le_refl _)).mono (by omega)
    · omega
    simp -dsimp (discharger := omega) []
end
end Go.Proofs.YtkdpjaaohddppaaDoor.Am
