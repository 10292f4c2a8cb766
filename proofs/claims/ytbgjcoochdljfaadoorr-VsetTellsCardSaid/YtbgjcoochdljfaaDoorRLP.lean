/- Contracts and plain facts (LP). -/
import Derived.Test.YtbgjcoochdljfaaDoorRG
namespace Go.Proofs.YtbgjcoochdljfaaDoorR.Am
noncomputable section
/- CONTRACTS OF GO's LIBRARY: strings. -/
theorem sliteByte_ret (l : List UInt8) (c : UInt8) (h : AHeap) (n : Nat) : Ret EV14 71 [.string ⟨l.toArray⟩, .int .u8 (c.toNat : Int)] h n (.int .i64 (Lib.indexByte l c)) [] n := by
  refine rsx71 (by simp) (by simp) ?_
  simp -dsimp [B71]
  with_reducible refine call_ret (indexByte14 l c h n) ?_
  simp -dsimp [HSub.refl]
theorem sliteIndex_ret (l : List UInt8) (c : UInt8) (h : AHeap) (n : Nat) : Ret EV14 60 [.string ⟨l.toArray⟩, .string ⟨[c].toArray⟩] h n (.int .i64 (Lib.indexByte l c)) [] n := by
  refine rsx60 (by simp) (by simp) ?_
  simp -dsimp [B60]
  refine Test.split (fun hc => ?_) (fun hc => ?_)
  · have hl : l = [c] := (show [c] = l by simpa using hc).symm
    subst hl
    simp -dsimp [HSub.refl, Lib.indexByte]
  simp -dsimp
  with_reducible refine call_ret (sliteByte_ret l c h n) ?_
  simp -dsimp [HSub.refl]
theorem index_ret (l : List UInt8) (c : UInt8) (h : AHeap) (n : Nat) : Ret EV14 50 [.string ⟨l.toArray⟩, .string ⟨[c].toArray⟩] h n (.int .i64 (Lib.indexByte l c)) [] n := by
  refine rsx50 (by simp) (by simp) ?_
  simp -dsimp [B50]
  with_reducible refine call_ret (sliteIndex_ret l c h n) ?_
  simp -dsimp [HSub.refl]
theorem count_ret (l : List UInt8) (c : UInt8) (h : AHeap) (n : Nat) : Ret EV14 49 [.string ⟨l.toArray⟩, .string ⟨[c].toArray⟩] h n (.int .i64 (Lib.countByte l c : Nat)) [] n := by
  refine rsx49 (by simp) (by simp) ?_
  simp -dsimp [B49]
  with_reducible refine call_ret (count14 l c h n) ?_
  simp -dsimp [HSub.refl]

/-- strings.Split at one byte: the loop. -/
theorem split_loop (l : List UInt8) (c : UInt8) (hlen : l.length < 1000000000) (h0 : AHeap) (n0 : Nat) :
    ∀ (m : Nat) (σ : Fr) (h : AHeap) (n : Nat), (n = n0 + 1 ∧ ∃ (done : List (List UInt8)) (r : List UInt8) (k : Nat), Lib.countByte r c = k ∧ m = k ∧ splitL c l = done ++ splitL c r ∧ done.length + r.length ≤ l.length ∧
        h = h0.put n0 (.cells (some 9) (strsL done ++ emptyS (k + 1)) (done.length + k + 1)) ∧
        σ = [(0, .string ⟨r.toArray⟩), (1, .string ⟨[c].toArray⟩), (2, .int .i64 0), (3, .int .i64 ((done.length + k : Nat) : Int)), (9, .slice (some ⟨n0, 0, some (done.length + k + 1)⟩) (done.length + k + 1) 2), (10, .int .i64 (done.length : Int))]) →
      HasCode EV14 (.loop F40L0) σ h n fun e σ' h' n' => e = .exit 0 ∧ n' = n0 + 1 ∧ ∃ (done : List (List UInt8)) (r : List UInt8), splitL c l = done ++ [r] ∧ h' = h0.put n0 (.cells (some 9) (strsL done ++ emptyS 1) (done.length + 1)) ∧
        σ'.get 0 = some (.string ⟨r.toArray⟩) ∧ σ'.get 9 = some (.slice (some ⟨n0, 0, some (done.length + 1)⟩) (done.length + 1) 2) ∧ σ'.get 10 = some (.int .i64 (done.length : Int)) := by
  refine wx_inv _ fun m σ h n hI => ?_
  obtain ⟨rfl, done, r, k, hk, rfl, hsp, hrl, rfl, rfl⟩ := hI
  cases m with
  | zero =>
    simp -dsimp [F40L0]
    exact ⟨done, r, by rw [hsp, split_zero hk], by simp, rfl, rfl, rfl⟩
  | succ k =>
    obtain ⟨i, hi, hil, hrc, hrs⟩ := split_succ hk
    simp -dsimp (discharger := omega) [F40L0]
    with_reducible refine call_ret (index_ret r c _ _) ?_
    simp -dsimp (discharger := omega) [hi]
    refine .mk' k (by omega) [(0, .string ⟨(r.drop (i + 1)).toArray⟩), (1, .string ⟨[c].toArray⟩), (2, .int .i64 0), (3, .int .i64 (((done ++ [r.take i]).length + k : Nat) : Int)), (9, .slice (some ⟨n0, 0, some ((done ++ [r.take i]).length + k + 1)⟩) ((done ++ [r.take i]).length + k + 1) 2), (10, .int .i64 ((done ++ [r.take i]).length : Int))]
      (h0.put n0 (.cells (some 9) (strsL (done ++ [r.take i]) ++ emptyS (k + 1)) ((done ++ [r.take i]).length + k + 1))) ?_ (.over ?_) ⟨rfl, done ++ [r.take i], r.drop (i + 1), k, hrc, rfl, by rw [hsp, hrs]; simp, by simp; omega, rfl, rfl⟩
    · simp; omega
    · rw [set_next]; simp; omega
/-- strings.Split: at one byte. -/
theorem genSplit_ret (l : List UInt8) (c : UInt8) (hlen : l.length < 1000000000) (h : AHeap) (n : Nat) : Ret EV14 40 [.string ⟨l.toArray⟩, .string ⟨[c].toArray⟩, .int .i64 0, .int .i64 (-1)] h n
    (.slice (some ⟨n, 0, some (splitL c l).length⟩) (splitL c l).length 2) [(n, .cells (some 9) (strsL (splitL c l)) (splitL c l).length)] (n + 1) := by
  refine rsx40 (by simp) (by simp) ?_
  have hc := count_le l c
  simp -dsimp (discharger := omega) [B40]
  with_reducible refine call_ret (count_ret l c _ _) ?_
  simp -dsimp (discharger := omega) []
  refine loop_use (split_loop l c hlen h n _ _ _ _ ⟨rfl, [], l, _, rfl, rfl, rfl, by simp, rfl, rfl⟩) (by simp) ?_ ?_
  · exact .eq (by simp [emptyS, strsL])
  · rintro e σ' h' n' ⟨rfl, rfl, done, r, hp, rfl, g0, g9, g10⟩
    have hb := split_len c l
    rw [hp] at hb ⊢
    simp at hb
    simp -dsimp (discharger := omega) [g0, g9, g10]
    rw [set_next]
    exact .over (by simp [emptyS])
theorem split_ret (l : List UInt8) (c : UInt8) (hlen : l.length < 1000000000) (h : AHeap) (n : Nat) : Ret EV14 25 [.string ⟨l.toArray⟩, .string ⟨[c].toArray⟩] h n
    (.slice (some ⟨n, 0, some (splitL c l).length⟩) (splitL c l).length 2) [(n, .cells (some 9) (strsL (splitL c l)) (splitL c l).length)] (n + 1) := by
  refine rsx25 (by simp) (by simp) ?_
  simp -dsimp (discharger := omega) [B25]
  with_reducible refine call_ret (genSplit_ret l c hlen h n) ?_
  simp -dsimp (discharger := omega) [HSub.refl]

end
end Go.Proofs.YtbgjcoochdljfaaDoorR.Am
