/- Contracts of the program's functions (X14). -/
import Derived.Test.YtbgjcoochdljfaaDoorRX13
namespace Go.Proofs.YtbgjcoochdljfaaDoorR.Am
noncomputable section
/- THE WALK of VsetKnown. -/
theorem known_ret {h : AHeap} {n : Nat} (hw : WF h n) (hg : Gm h) (hn : 4096 ≤ n) {m : Nat} (hm : m = n + 20000000) : Ret FV14 4 [] h n (.bool true) [] m := by
  obtain ⟨c, hc⟩ : ∃ c, c = 300001 := ⟨_, rfl⟩
  refine wret_of (E := FV14) (af := F4) rfl (by simp [F4]) (by simp) (by simp) ?_
  obtain ⟨H1, hH1⟩ : ∃ H, H = h.put n (.cells (some 9) (strsL badL) 18) := ⟨_, rfl⟩
  have s1 : HSub h H1 := by rw [hH1]; exact (HSub.refl h).new hw (Nat.le_refl _) _
  have w1 : WF H1 (n + 1) := by rw [hH1]; exact hw.put _ (by omega) (by omega)
  have g1 : H1.get n = some (.cells (some 9) (strsL badL) 18) := by rw [hH1, AHeap.get_put_same]
  have r1 : H1.read n 18 0 badL.length = some (strsL badL) := by rw [AHeap.read_of g1]; rfl
  simp -dsimp (discharger := omega) [F4, B4, -List.reduceReplicate, ← wv_zero, aFill, repeatCells]
  refine loop_use (known_loop0 (ps := badL) (by decide) bad_all (q := n) (g := 18) hc r1 (hg.sub s1) (n0 := n + 1) w1 (by omega) 18 _ _ _ ⟨0, rfl, .refl _, w1, Nat.le_refl _, by omega, rfl⟩) (by simp [badL]) (.eq (by rw [hH1]; rfl)) ?_
  rintro e σ' h2 n2 ⟨rfl, s2, w2, l2, u2⟩
  have bl : badL.length = 18 := rfl
  rw [bl] at u2
  obtain ⟨H3, hH3⟩ : ∃ H, H = h2.put n2 (.cells (some 9) (strsL wideL) 6) := ⟨_, rfl⟩
  have s3 : HSub h H3 := by rw [hH3]; exact (s1.trans s2).new hw (by omega) _
  have w3 : WF H3 (n2 + 1) := by rw [hH3]; exact w2.put _ (by omega) (by omega)
  have g3 : H3.get n2 = some (.cells (some 9) (strsL wideL) 6) := by rw [hH3, AHeap.get_put_same]
  have r3 : H3.read n2 6 0 wideL.length = some (strsL wideL) := by rw [AHeap.read_of g3]; rfl
  simp -dsimp (discharger := omega) [-List.reduceReplicate, aFill, repeatCells]
  refine loop_use (known_loop1 (ps := wideL) (by decide) wide_all (q := n2) (g := 6) hc r3 (hg.sub s3) (n0 := n2 + 1) w3 (by omega) 6 _ _ _ ⟨0, rfl, .refl _, w3, Nat.le_refl _, by omega, rfl⟩) (by simp [wideL]) (.eq (by rw [hH3]; rfl)) ?_
  rintro e σ' h4 n4 ⟨rfl, s4', w4, l4, u4⟩
  have wl : wideL.length = 6 := rfl
  rw [wl] at u4
  have s4 := s3.trans s4'
  obtain ⟨m5, hm5⟩ : ∃ x, x = n4 + 300000 := ⟨_, rfl⟩
  obtain ⟨m6, hm6⟩ : ∃ x, x = m5 + 1 + 300000 := ⟨_, rfl⟩
  obtain ⟨m7, hm7⟩ : ∃ x, x = m6 + 1 + 300000 := ⟨_, rfl⟩
  obtain ⟨m8, hm8⟩ : ∃ x, x = m7 + 1 + 300000 := ⟨_, rfl⟩
  obtain ⟨NX, hNX⟩ : ∃ N, (parseN [52, 48, 57, 53, 44, 120]).1 = N := ⟨_, rfl⟩
  have pX := pair_eta a5
  rw [hNX] at pX
  clear hNX
  simp -dsimp (discharger := omega) [-List.reduceReplicate]
  with_reducible refine call_ret (par_f (by decide) a1 w4 (hg.sub s4).errs (by omega) hm5) ?_
  simp -dsimp (discharger := omega) [-List.reduceReplicate, drop_wv]
  obtain ⟨H5, hH5, s5, w5, k5', g5⟩ := set_step (N := aN) (m := m5) s4 hw (w4.mono (by omega)) (by omega)
  rw [← hH5]
  with_reducible refine call_ret (par_f (by decide) a3 w5 (hg.sub s5).errs (by omega) hm6) ?_
  simp -dsimp (discharger := omega) [-List.reduceReplicate, drop_wv]
  obtain ⟨H6, hH6, s6, w6, k6', g6⟩ := set_step (N := 0) (m := m6) s5 hw (w5.mono (by omega)) (by omega)
  rw [← hH6]
  with_reducible refine call_ret (par_f (by decide) a4 w6 (hg.sub s6).errs (by omega) hm7) ?_
  simp -dsimp (discharger := omega) [-List.reduceReplicate, drop_wv]
  obtain ⟨H7, hH7, s7, w7, k7', g7⟩ := set_step (N := allN) (m := m7) s6 hw (w6.mono (by omega)) (by omega)
  rw [← hH7]
  with_reducible refine call_ret (par_f (by decide) pX w7 (hg.sub s7).errs (by omega) hm8) ?_
  have q5 := k7' _ _ (k6' _ _ g5)
  have q6 := k7' _ _ g6
  simp -dsimp (discharger := omega) [-List.reduceReplicate, ← wv_zero, take_wv, drop_wv, AHeap.read_of q5]
  obtain ⟨H8, hH8, s8, w8, k8', g8⟩ := set_step (N := NX) (m := m8) s7 hw (w7.mono (by omega)) (by omega)
  rw [← hH8]
  obtain ⟨m9, hm9⟩ : ∃ x, x = m8 + 1 + 40000 := ⟨_, rfl⟩
  obtain ⟨m10, hm10⟩ : ∃ x, x = m9 + 40000 := ⟨_, rfl⟩
  have q5' := k8' _ _ q5
  have q6' := k8' _ _ q6
  have q7' := k8' _ _ g7
  have vsA : Vs aN := parseN_vs _
  have l00 : leavesEq (List.replicate 64 .int) (wv 0) (wv 0) = some true := leaves_wv Vs.zero.lt Vs.zero.lt
  have lAA : leavesEq (List.replicate 64 .int) (wv allN) (wv allN) = some true := by rw [leaves_wv Vs.all.lt Vs.all.lt, decide_eq_true rfl]
  with_reducible refine ret_ret (tx_f vsA a2 w8 (hg.sub s8).gl (by omega) hm9) ?_
  simp -dsimp (discharger := omega) [-List.reduceReplicate, take_wv, aFill, AHeap.read_of q6', l00]
  with_reducible refine ret_ret (tx_f Vs.zero a6 (w8.mono (m := m9) (by omega)) (hg.sub s8).gl (by omega) hm10) ?_
  simp -dsimp (discharger := omega) [-List.reduceReplicate, take_wv, AHeap.read_of q7']
  with_reducible refine ret_ret (ret_f14 (all_ret (w8.mono (m := m10) (by omega)))) ?_
  simp -dsimp (discharger := omega) [-List.reduceReplicate, take_wv, AHeap.read_of q7', lAA]
  have hl := len_ret allN (h := H8) (n := m10 + 11) (w8.mono (by omega))
  rw [a7] at hl
  with_reducible refine ret_ret (ret_f14 hl) ?_
  simp -dsimp (discharger := omega) [-List.reduceReplicate, aFill, repeatCells]
  obtain ⟨p1, hp1⟩ : ∃ x, m10 + 11 + 1 = x := ⟨_, rfl⟩
  rw [hp1]
  obtain ⟨H9, hH9⟩ : ∃ H, H = H8.put p1 (.cells (some 3) [.int .i64 0, .int .i64 (-1), .int .i64 4095, .int .i64 7] 4) := ⟨_, rfl⟩
  rw [← hH9]
  have s9 : HSub h H9 := by rw [hH9]; exact s8.new hw (by omega) _
  have w9 : WF H9 (p1 + 1) := by rw [hH9]; exact (w8.mono (m := p1) (by omega)).put _ (by omega) (by omega)
  have r9 : H9.read p1 4 0 4 = some (intL [0, -1, 4095, 7]) := by rw [hH9, AHeap.read_of (AHeap.get_put_same _ _ _)]; rfl
  have r9t : (touch [p1] H9).read p1 4 0 4 = some (intL [0, -1, 4095, 7]) := by rw [hH9]; simp [touch, AHeap.read_of, intL]
  have q7n : H9.get m7 = some (.cells (some 26) (wv allN) 64) := by rw [hH9, AHeap.get_put_ne _ _ (by omega)]; exact q7'
  have c9 : Ret EV14 15 [.slice (some ⟨p1, 0, some 4⟩) 4 2] (touch [p1] H9) (p1 + 1) (.agg (wv (ofN [0, -1, 4095, 7])).toArray) [] (p1 + 1 + 42) := of_ret (ns := [0, -1, 4095, 7]) (by decide) (by decide) (w9.touch _) r9t
  have lOO : leavesEq (List.replicate 64 .int) (wv (ofN [0, -1, 4095, 7])) (wv (ofN [7])) = some true := by rw [leaves_wv (by decide +kernel) (by decide +kernel), decide_eq_true a8]
  with_reducible refine ret_on [p1] (ret_f14 c9) ?_
  simp -dsimp (discharger := omega) [-List.reduceReplicate, aFill, repeatCells]
  obtain ⟨p2, hp2⟩ : ∃ x, p1 + 1 + 42 = x := ⟨_, rfl⟩
  rw [hp2]
  obtain ⟨H10, hH10⟩ : ∃ H, H = H9.put p2 (.cells (some 3) [.int .i64 7] 1) := ⟨_, rfl⟩
  rw [← hH10]
  have s10 : HSub h H10 := by rw [hH10]; exact s9.new hw (by omega) _
  have w10 : WF H10 (p2 + 1) := by rw [hH10]; exact (w9.mono (m := p2) (by omega)).put _ (by omega) (by omega)
  have r10 : H10.read p2 1 0 1 = some (intL [7]) := by rw [hH10, AHeap.read_of (AHeap.get_put_same _ _ _)]; rfl
  have q10 : H10.get m7 = some (.cells (some 26) (wv allN) 64) := by rw [hH10, AHeap.get_put_ne _ _ (by omega)]; exact q7n
  have c10 : Ret EV14 15 [.slice (some ⟨p2, 0, some 1⟩) 1 2] H10 (p2 + 1) (.agg (wv (ofN [7])).toArray) [] (p2 + 1 + 12) := of_ret (ns := [7]) (by decide) (by decide) w10 r10
  refine ⟨by omega, ?_⟩
  with_reducible refine ret_ret (ret_f14 c10) ?_
  simp -dsimp (discharger := omega) [-List.reduceReplicate, lOO]
  obtain ⟨p3, hp3⟩ : ∃ x, p2 + 1 + 12 = x := ⟨_, rfl⟩
  rw [hp3]
  have w11 : WF H10 p3 := w10.mono (by omega)
  with_reducible refine ret_ret (ret_f14 (of_nil w11)) ?_
  simp -dsimp (discharger := omega) [-List.reduceReplicate, take_wv, aFill, AHeap.read_of q10, l00]
  have v0 : Ret EV14 16 [.agg (wv allN).toArray, .int .i64 0] H10 (p3 + 2) (.bool false) [] (p3 + 2 + 1) := by
    have := has_ret allN 0 (by omega) (by omega) (w11.mono (m := p3 + 2) (by omega))
    rwa [show hasZ allN 0 = false by decide +kernel] at this
  with_reducible refine ret_ret (ret_f14 v0) ?_
  simp -dsimp (discharger := omega) [-List.reduceReplicate, take_wv, AHeap.read_of q10]
  have v1 : Ret EV14 16 [.agg (wv allN).toArray, .int .i64 4095] H10 (p3 + 2 + 1) (.bool false) [] (p3 + 2 + 1 + 1) := by
    have := has_ret allN 4095 (by omega) (by omega) (w11.mono (m := p3 + 2 + 1) (by omega))
    rwa [show hasZ allN 4095 = false by decide +kernel] at this
  with_reducible refine ret_ret (ret_f14 v1) ?_
  simp -dsimp (discharger := omega) [-List.reduceReplicate, take_wv, AHeap.read_of q10]
  have v2 : Ret EV14 16 [.agg (wv allN).toArray, .int .i64 (-1)] H10 (p3 + 2 + 1 + 1) (.bool false) [] (p3 + 2 + 1 + 1 + 1) := by
    have := has_ret allN (-1) (by omega) (by omega) (w11.mono (m := p3 + 2 + 1 + 1) (by omega))
    rwa [show hasZ allN (-1) = false by decide +kernel] at this
  with_reducible refine ret_ret (ret_f14 v2) ?_
  simp -dsimp (discharger := omega) [-List.reduceReplicate, take_wv, AHeap.read_of q10]
  have v3 : Ret EV14 16 [.agg (wv allN).toArray, .int .i64 1099511627776] H10 (p3 + 2 + 1 + 1 + 1) (.bool false) [] (p3 + 2 + 1 + 1 + 1 + 1) := by
    have := has_ret allN 1099511627776 (by omega) (by omega) (w11.mono (m := p3 + 2 + 1 + 1 + 1) (by omega))
    rwa [show hasZ allN 1099511627776 = false by decide +kernel] at this
  with_reducible refine ret_ret (ret_f14 v3) ?_
  simp -dsimp (discharger := omega) [-List.reduceReplicate]
  obtain ⟨p4, hp4⟩ : ∃ x, p3 + 2 + 1 + 1 + 1 + 1 = x := ⟨_, rfl⟩
  rw [hp4]
  with_reducible refine ret_ret (ret_f14 (all_ret (w11.mono (m := p4) (by omega)))) ?_
  simp -dsimp (discharger := omega) [-List.reduceReplicate]
  have b1 := without_ret allN (a := -5) (b := 1125899906842624) (by omega) (by omega) (by omega) (by omega) (w11.mono (m := p4 + 11) (by omega))
  rw [a9] at b1
  with_reducible refine ret_ret (ret_f14 b1) ?_
  simp -dsimp (discharger := omega) [-List.reduceReplicate, take_wv, aFill, AHeap.read_of q10, l00]
  have b2 := without_ret allN (a := 1) (b := 1) (by omega) (by omega) (by omega) (by omega) (w11.mono (m := p4 + 11 + 7) (by omega))
  with_reducible refine ret_ret (ret_f14 b2) ?_
  simp -dsimp (discharger := omega) [-List.reduceReplicate]
  obtain ⟨p5, hp5⟩ : ∃ x, p4 + 11 + 7 + 7 = x := ⟨_, rfl⟩
  rw [hp5]
  obtain ⟨p6, hp6⟩ : ∃ x, x = p5 + 40000 := ⟨_, rfl⟩
  obtain ⟨p7, hp7⟩ : ∃ x, x = p6 + 2000000 := ⟨_, rfl⟩
  with_reducible refine ret_ret (tx_f (Vs.all.less) a10 (w11.mono (m := p5) (by omega)) (hg.sub s10).gl (by omega) hp6) ?_
  simp -dsimp (discharger := omega) [-List.reduceReplicate]
  with_reducible refine ret_ret (tells_ret (w11.mono (m := p6) (by omega)) (hg.sub s10) (by omega) hp7) ?_
  simp -dsimp (discharger := omega) [-List.reduceReplicate]
  exact ⟨_, rfl, rfl, s10, by omega⟩
end
end Go.Proofs.YtbgjcoochdljfaaDoorR.Am
