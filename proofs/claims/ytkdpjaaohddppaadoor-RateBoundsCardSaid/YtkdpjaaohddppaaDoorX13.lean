/- Contracts of the program's functions (X13). -/
import Derived.Test.YtkdpjaaohddppaaDoorX12
namespace Go.Proofs.YtkdpjaaohddppaaDoor.Am
noncomputable section
/- THE WALK of RateBounds, whole. -/
set_option maxHeartbeats 2000000 in
theorem bounds_walk {r b : Nat} (hr64 : r < 18446744073709551616) (hb64 : b < 18446744073709551616) {rs : List (List Int)} (hl : rs.length < 9223372036854775808) (hr : ∀ x ∈ rs, RowOk ksT x) {i0 : Nat} {u : Value} (hu : u = .slice none 0 0 ∧ rs = [] ∨ u = .slice (some ⟨i0, 0, some (rs.length * 2)⟩) rs.length 0)
    {h : AHeap} {n : Nat} (hs : HSub hI h) (hw : WF h n) (hn : n ≤ 5000) (hi : h.get i0 = some (.cells none (rowsL ksT rs) 0)) :
    HasCallT EV11 6 [.int .u64 (r : Int), .int .u64 (b : Int), u] h n (fun v _ _ => v = .bool true) () := by
  refine inl6 ?_
  have hn4 : 4 < n := hw.lt (hs 4 _ rfl)
  have hin := hw.lt hi
  obtain ⟨c1, _, _, c4, _⟩ := clean_le hr64
  obtain ⟨d1, _, _, d4, _⟩ := clean_le hb64
  have C1 := fun H m => clean_ret r H m
  have C2 := fun H m => clean_ret b H m
  have N1 := new_ret hr64 hb64 0 hw
  have Wk := fun (H : AHeap) (m : Nat) (x : HSub hI H) (y : WF H m) (z : m ≤ 6000000000) => wk11 x y z
  have e1 : fEq (fClean r) (fClean r) = true := by rw [feq_pos c1 c1]; exact decide_eq_true rfl
  have e2 : fEq (fClean b) (fClean b) = true := by rw [feq_pos d1 d1]; exact decide_eq_true rfl
  unfold bkt at N1
  obtain ⟨R, hR⟩ : ∃ R, fClean r = R := ⟨_, rfl⟩
  obtain ⟨B, hB⟩ : ∃ B, fClean b = B := ⟨_, rfl⟩
  rw [hR] at c1 c4 C1 N1 e1
  rw [hB] at d1 d4 C2 N1 e2
  simp -dsimp (discharger := omega) [B6]
  with_reducible refine call_ret (from_ret r _ _) ?_
  simp -dsimp (discharger := omega) []
  with_reducible refine call_ret (from_ret b _ _) ?_
  simp -dsimp (discharger := omega) []
  with_reducible refine call_ret N1 ?_
  simp -dsimp (discharger := omega) []
  have from1 := fun H m => from_ret r H m
  have from2 := fun H m => from_ret b H m
  with_reducible refine ret_ret (from1 _ _) ?_
  simp -dsimp (discharger := omega) []
  with_reducible refine ret_ret (C1 _ _) ?_
  simp -dsimp (discharger := omega) [fl_neq, e1]
  with_reducible refine ret_ret (from2 _ _) ?_
  simp -dsimp (discharger := omega) []
  with_reducible refine ret_ret (C2 _ _) ?_
  simp -dsimp (discharger := omega) [fl_neq, e2]
  obtain ⟨H2, hH2⟩ : ∃ H2, (h.put (n + 2) (Blk.cells (some 26) [Value.float FloatKind.f64 0, Value.float FloatKind.f64 0, Value.float FloatKind.f64 0, Value.int IntKind.i64 0] 4)).put (n + 2)
      (Blk.cells (some 26) [Value.float FloatKind.f64 R, Value.float FloatKind.f64 B, Value.float FloatKind.f64 B, Value.int IntKind.i64 0] 4) = H2 := ⟨_, rfl⟩
  have hs2 : HSub hI H2 := by rw [← hH2]; exact hI_put (hI_put hs (by omega) _) (by omega) _
  have hw2 : WF H2 (n + 2 + 1) := by
    rw [← hH2]
    repeat refine WF.put (n := n + 2 + 1) ?_ _ (by omega) (Nat.le_refl _)
    exact hw.mono (by omega)
  have hg2 : H2.get (n + 2) = some (bktB R B B 0) := by
    rw [← hH2]; exact AHeap.get_put_same _ _ _
  have hi2 : H2.get i0 = some (.cells none (rowsL ksT rs) 0) := by
    rw [← hH2, AHeap.get_put_ne _ _ (by omega), AHeap.get_put_ne _ _ (by omega)]; exact hi
  rw [hH2]
  rcases hu with ⟨rfl, rfl⟩ | rfl
  · simp -dsimp (discharger := omega) []
    with_reducible refine wx_round ?_
    simp -dsimp (discharger := omega) [F6L0]
    with_reducible refine call_ret (Wk _ _ hs2 hw2 (by omega)) ?_
    simp -dsimp (discharger := omega) []
  · simp -dsimp (discharger := omega) []
    refine loop_use (bounds_loop (i0 := i0) (p := n + 2) (R := R) (B := B) hl hr (by omega) (by omega) c4 d4 c1 d1 rs.length [(7, bktP (n + 2)), (8, .int .i64 ((0 : Nat) : Int)), (9, .float .f64 0), (41, .slice (some ⟨i0, 0, some (rs.length * 2)⟩) rs.length 0), (42, .int .i64 (rs.length : Int)), (43, .int .i64 ((0 : Nat) : Int))] H2 (n + 2 + 1)
      ⟨0, 0, 0, B, by omega, by omega, by omega, Acc.start R B, hs2, hw2, by omega, hg2, hi2, rfl⟩) (by simp [bktP]) (.refl _) ?_
    rintro e σ' h' n' ⟨rfl, hs3, hw3, hn3⟩
    simp -dsimp (discharger := omega) []
    with_reducible refine call_ret (Wk _ _ hs3 hw3 (by omega)) ?_
    simp -dsimp (discharger := omega) []
end
end Go.Proofs.YtkdpjaaohddppaaDoor.Am
