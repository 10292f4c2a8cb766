/- Contracts of the program's functions (X11). -/
import Derived.Test.YtkdpjaaohddppaaDoorX10
namespace Go.Proofs.YtkdpjaaohddppaaDoor.Am
noncomputable section
/- THE WALK of RateBuckets, whole. -/
set_option maxHeartbeats 2000000 in
theorem buckets_walk {r b : Nat} (hr64 : r < 18446744073709551616) (hb64 : b < 18446744073709551616) {rs : List (List Int)} (hl : rs.length < 9223372036854775808) (hr : ∀ x ∈ rs, RowOk ksA x) {i0 : Nat} {u : Value} (hu : u = .slice none 0 0 ∧ rs = [] ∨ u = .slice (some ⟨i0, 0, some (rs.length * 3)⟩) rs.length 0)
    {h : AHeap} {n : Nat} (hs : HSub hI h) (hw : WF h n) (hn : n ≤ 5000) (hi : h.get i0 = some (.cells none (rowsL ksA rs) 0)) :
    HasCallT EV11 3 [.int .u64 (r : Int), .int .u64 (b : Int), u] h n (fun v _ _ => v = .bool true) () := by
  refine inl3 ?_
  have hn4 : 4 < n := hw.lt (hs 4 _ rfl)
  have hin := hw.lt hi
  have c0 := (clean_le hr64).1
  have c1 := (clean_le hb64).1
  have hfI : fI < 18446744073709551616 := by decide
  have N1 := new_ret hr64 hb64 0 hw
  have N2 := fun H m (x : WF H m) => @dnew_ret r b hb64 0 H m x
  have Wk := fun (H : AHeap) (m : Nat) (x : HSub hI H) (y : WF H m) (z : m ≤ 6000000000) => wk11 x y z
  unfold bkt at N1 N2
  simp -dsimp (discharger := omega) [B3]
  with_reducible refine call_ret (from_ret r _ _) ?_
  simp -dsimp (discharger := omega) []
  with_reducible refine call_ret (from_ret b _ _) ?_
  simp -dsimp (discharger := omega) []
  with_reducible refine call_ret N1 ?_
  simp -dsimp (discharger := omega) []
  with_reducible refine hc_abs (fun H => HSub hI H ∧ WF H (n + 2 + 1) ∧ H.get (n + 2) = some (bktB (fClean r) (fClean b) (fClean b) 0) ∧ H.get i0 = some (.cells none (rowsL ksA rs) 0)) ⟨?_, ?_, ?_, ?_⟩ ?_
  · repeat refine hI_put ?_ (by omega) _
    exact hs
  · repeat refine WF.put (n := n + 2 + 1) ?_ _ (by omega) (Nat.le_refl _)
    exact hw.mono (by omega)
  · simp [bktB, bktC]
  · rw [AHeap.get_put_ne _ _ (by omega), AHeap.get_put_ne _ _ (by omega)]; exact hi
  rintro H1 ⟨hs1, hw1, hg1, hi1⟩
  with_reducible refine call_ret (from_ret r _ _) ?_
  simp -dsimp (discharger := omega) []
  with_reducible refine call_ret (from_ret b _ _) ?_
  simp -dsimp (discharger := omega) []
  with_reducible refine call_ret (N2 _ _ hw1) ?_
  simp -dsimp (discharger := omega) []
  obtain ⟨H2, hH2⟩ : ∃ H2, (H1.put (n + 2 + 1 + 3) (Blk.cells (some 29) [Value.float FloatKind.f64 0, Value.float FloatKind.f64 0, Value.float FloatKind.f64 0, Value.int IntKind.i64 0] 4)).put (n + 2 + 1 + 3)
      (Blk.cells (some 29) [Value.float FloatKind.f64 (fClean r), Value.float FloatKind.f64 (fClean b), Value.float FloatKind.f64 (fClean b), Value.int IntKind.i64 0] 4) = H2 := ⟨_, rfl⟩
  have hs2 : HSub hI H2 := by rw [← hH2]; exact hI_put (hI_put hs1 (by omega) _) (by omega) _
  have hw2 : WF H2 (n + 2 + 1 + 3 + 1) := by
    rw [← hH2]
    repeat refine WF.put (n := n + 2 + 1 + 3 + 1) ?_ _ (by omega) (Nat.le_refl _)
    exact hw1.mono (by omega)
  have hg2 : H2.get (n + 2) = some (bktB (fClean r) (fClean b) (fClean b) 0) := by
    rw [← hH2, AHeap.get_put_ne _ _ (by omega), AHeap.get_put_ne _ _ (by omega)]; exact hg1
  have hq2 : H2.get (n + 2 + 1 + 3) = some (dbktB (fClean r) (fClean b) (fClean b) 0) := by
    rw [← hH2]; exact AHeap.get_put_same _ _ _
  have hi2 : H2.get i0 = some (.cells none (rowsL ksA rs) 0) := by
    rw [← hH2, AHeap.get_put_ne _ _ (by omega), AHeap.get_put_ne _ _ (by omega)]; exact hi1
  rw [hH2]
  rcases hu with ⟨rfl, rfl⟩ | rfl
  · simp -dsimp (discharger := omega) []
    with_reducible refine wx_round ?_
    simp -dsimp (discharger := omega) [F3L0]
    with_reducible refine call_ret (Wk _ _ hs2 hw2 (by omega)) ?_
    simp -dsimp (discharger := omega) []
  · simp -dsimp (discharger := omega) []
    refine loop_use (buckets_loop (i0 := i0) (p := n + 2) (q := n + 2 + 1 + 3) hl hr (by omega) (by omega) (by omega) (by omega) (by omega) rs.length [(7, bktP (n + 2)), (8, bktP (n + 2 + 1 + 3)), (30, .slice (some ⟨i0, 0, some (rs.length * 3)⟩) rs.length 0), (31, .int .i64 (rs.length : Int)), (32, .int .i64 ((0 : Nat) : Int))] H2 (n + 2 + 1 + 3 + 1)
      ⟨0, fClean r, fClean b, fClean b, 0, by omega, by omega, by omega, by omega, by omega, by omega, by omega, hs2, hw2, by omega, hg2, hq2, hi2, rfl⟩) (by simp [bktP]) (.refl _) ?_
    rintro e σ' h' n' ⟨rfl, hs3, hw3, hn3⟩
    simp -dsimp (discharger := omega) []
    with_reducible refine call_ret (Wk _ _ hs3 hw3 (by omega)) ?_
    simp -dsimp (discharger := omega) []
end
end Go.Proofs.YtkdpjaaohddppaaDoor.Am
