/- Contracts of the program's functions (X20). -/
import Derived.Test.YtbgjcoochdljfaaDoorRX19
namespace Go.Proofs.YtbgjcoochdljfaaDoorR.Am
noncomputable section
/- THE WALK of VsetOnce. -/
theorem rgm_of {rr : List (Nat × Nat)} {h : AHeap} {n n' i13 : Nat} {v : Value} {bs : List (Nat × Blk)} (hR : RgR n v bs n' rr) (hw : WF h n) (hi : i13 < n) :
    n ≤ n' ∧ n' ≤ n + 8210 ∧ ∃ pp cc, v = .slice pp rr.reverse.length cc ∧ RgM rr.reverse pp cc i13 (putsL h bs) ∧ HSub h (putsL h bs) ∧ WF (putsL h bs) n' := by
  obtain ⟨h1, h2, hR⟩ := hR
  refine ⟨h2, h1, ?_⟩
  rcases hR with ⟨rfl, rfl, rfl⟩ | ⟨hne, q, mn, hq1, hq2, hmn, rfl, rfl⟩
  · exact ⟨none, 0, rfl, .inl rfl, .refl _, hw.mono h2⟩
  · rw [← List.length_reverse (as := rr)] at hmn ⊢
    exact ⟨_, _, rfl, .inr ⟨q, mn, rfl, rfl, hmn, by omega, by simp [putsL]⟩, by simpa [putsL] using (HSub.refl h).new hw hq1 _, by simpa [putsL] using hw.put _ hq2 h2⟩
theorem once_ret {rs ts : List (List Int)} (hl1 : rs.length < 9223372036854775808) (hr1 : ∀ r ∈ rs, RowOk ksT r) (hl2 : ts.length < 9223372036854775808) (hr2 : ∀ r ∈ ts, RowOk ksT r) {u1 u2 : Value} {s : List UInt8} (hsl : s.length < 9223372036854775808)
    {h : AHeap} {n : Nat} (hw : WF h n) (hu1 : RowsV rs u1 h) (hu2 : RowsV ts u2 h) (hg : Gm h) (hn : 4096 ≤ n) {m : Nat} (hm : m = n + 6000000) :
    Ret FV14 3 [u1, u2, .string ⟨s.toArray⟩] h n (.bool true) [] m := by
  refine wret_of (E := FV14) (af := F3) rfl (by simp [F3]) (by simp) (by simp) ?_
  obtain ⟨n2, hn2⟩ : ∃ x, x = n + 842 := ⟨_, rfl⟩
  obtain ⟨n3, hn3⟩ : ∃ x, x = n2 + 842 := ⟨_, rfl⟩
  have c1 := ret_f14 (made_ret hl1 hr1 hw hu1)
  rw [← hn2] at c1
  have c2 := ret_f14 (made_ret hl2 hr2 (hw.mono (m := n2) (by omega)) hu2)
  rw [← hn3] at c2
  have vA := madeN_vs rs
  have vB := madeN_vs ts
  generalize madeN rs = A at *
  generalize madeN ts = B at *
  simp -dsimp (discharger := omega) [F3, B3, -List.reduceReplicate, ← wv_zero]
  with_reducible refine call_ret c1 ?_
  simp -dsimp (discharger := omega) [-List.reduceReplicate]
  with_reducible refine call_ret c2 ?_
  simp -dsimp (discharger := omega) [-List.reduceReplicate, take_wv, drop_wv]
  obtain ⟨H2, hH2⟩ : ∃ H, H = (((h.put n3 (.cells (some 26) (wv 0) 64)).put (n3 + 1) (.cells (some 26) (wv 0) 64)).put n3 (.cells (some 26) (wv A) 64)).put (n3 + 1) (.cells (some 26) (wv B) 64) := ⟨_, rfl⟩
  rw [← hH2]
  have ga2 : H2.get n3 = some (.cells (some 26) (wv A) 64) := by rw [hH2, AHeap.get_put_ne _ _ (by omega), AHeap.get_put_same]
  have gb2 : H2.get (n3 + 1) = some (.cells (some 26) (wv B) 64) := by rw [hH2, AHeap.get_put_same]
  have s2 : HSub h H2 := fun a b hb => by
    have := hw.lt hb
    rw [hH2, AHeap.get_put_ne _ _ (by omega), AHeap.get_put_ne _ _ (by omega), AHeap.get_put_ne _ _ (by omega), AHeap.get_put_ne _ _ (by omega)]; exact hb
  have w2 : WF H2 (n3 + 2) := by
    rw [hH2]
    exact ((((hw.mono (m := n3) (by omega)).put (m := n3 + 2) _ (by omega) (by omega)).put _ (by omega) (Nat.le_refl _)).put _ (by omega) (Nat.le_refl _)).put _ (by omega) (Nat.le_refl _)
  obtain ⟨n4, hn4⟩ : ∃ x, x = n3 + 1 + 1 + 40000 := ⟨_, rfl⟩
  obtain ⟨n5, hn5⟩ : ∃ x, x = n4 + 1100000 := ⟨_, rfl⟩
  with_reducible refine call_ret (tx_f vA rfl w2 (hg.sub s2).gl (by omega) hn4) ?_
  simp -dsimp (discharger := omega) []
  have tl := textL_len A
  with_reducible refine call_ret (par_g tl (parse_text vA) (w2.mono (m := n4) (by omega)) (hg.sub s2).errs (by omega) hn5) ?_
  simp -dsimp (discharger := omega) [-List.reduceReplicate, take_wv, drop_wv]
  obtain ⟨H3, hH3, s3, w3, m3, g3⟩ := set_step (N := A) (m := n5) s2 hw (w2.mono (by omega)) (by omega)
  rw [← hH3]
  have ga3 := m3 _ _ ga2
  have gb3 := m3 _ _ gb2
  have gl3 := (hg.sub s3).gl
  have lAA : leavesEq (List.replicate 64 .int) (wv A) (wv A) = some true := by rw [leaves_wv vA.lt vA.lt, decide_eq_true rfl]
  have lAB : leavesEq (List.replicate 64 .int) (wv A) (wv B) = some (decide (textL A = textL B)) := by
    rw [leaves_wv vA.lt vB.lt]
    exact congrArg some (decide_eq_decide.2 ⟨fun e => by rw [e], fun e => text_inj vA vB e⟩)
  obtain ⟨n6, hn6⟩ : ∃ x, x = n5 + 1 + 40000 := ⟨_, rfl⟩
  obtain ⟨n7, hn7⟩ : ∃ x, x = n6 + 40000 := ⟨_, rfl⟩
  have t1 := tx_f vA rfl w3 gl3 (by omega) hn6
  have t2 := tx_f vB rfl (w3.mono (m := n6) (by omega)) gl3 (by omega) hn7
  obtain ⟨b, hb⟩ : ∃ b, decide (textL A = textL B) = b := ⟨_, rfl⟩
  have hb2 : (textL A == textL B) = b := by rw [← hb, Bool.eq_iff_iff]; simp
  rw [hb] at lAB
  simp -dsimp (discharger := omega) [AHeap.read_of ga2, AHeap.read_of ga3, AHeap.read_of gb3, take_wv, lAA, lAB, -List.reduceReplicate]
  with_reducible refine ret_ret t1 ?_
  simp -dsimp (discharger := omega) [AHeap.read_of gb3, take_wv, -List.reduceReplicate]
  with_reducible refine ret_ret t2 ?_
  simp -dsimp (discharger := omega) [AHeap.read_of ga3, take_wv, hb2, -List.reduceReplicate]
  obtain ⟨H4, hH4⟩ : ∃ H, H = H3.put n7 (.cells (some 26) (wv 0) 64) := ⟨_, rfl⟩
  rw [← hH4]
  have w7 : WF H3 n7 := w3.mono (by omega)
  have k4 : HSub H3 H4 := by rw [hH4]; exact (HSub.refl H3).new w7 (Nat.le_refl _) _
  have w4 : WF H4 (n7 + 1) := by rw [hH4]; exact w7.put _ (by omega) (by omega)
  have g4 : H4.get n7 = some (.cells (some 26) (wv 0) 64) := by rw [hH4, AHeap.get_put_same]
  obtain ⟨v, bs, n8, hR, hret⟩ := ranges_ret A w4 (gl3.sub k4).tab (by omega)
  obtain ⟨hn8, hn8', pp, cc, rfl, hM, k5, w5⟩ := rgm_of (i13 := n7) hR w4 (by omega)
  obtain ⟨hri, hsu⟩ := rangesR_rise vA
  have hrl : (rangesR A).reverse.length ≤ 4096 := by rw [List.length_reverse]; exact rangesR_len A
  have huni := uniL_ranges vA
  with_reducible refine call_ret hret ?_
  obtain ⟨H5, hH5⟩ : ∃ H, H = putsL H4 bs := ⟨_, rfl⟩
  rw [← hH5] at hM k5 w5 ⊢
  clear hret hR
  generalize (rangesR A).reverse = gs at *
  simp -dsimp (discharger := omega) []
  refine loop_use (once_loop (s := .string ⟨s.toArray⟩) (rs := gs) (pp := pp) (cc := cc) (i7 := n3) (i13 := n7) (h0 := H3) (n0 := n8) hrl hri (w7 _ (Nat.le_refl _)) (fun k hk => w7 k (by omega)) gs.length _ _ _ ⟨0, -1, by omega, fun p hp => by have := hri.ok p (by simpa using hp); omega, by omega, by omega, Nat.le_refl _, by omega, fun a b hb => k5 _ _ (k4 _ _ hb), w5, k5 _ _ g4, hM, rfl⟩) (by simp [sumR]) (.refl _) ?_
  rintro e σ' h' n9 ⟨rfl, hn9, hn9', s6, w6, g13, q2, q7, q11, q13⟩
  rw [huni] at g13
  rw [hsu] at q11
  simp -dsimp (discharger := omega) [q2, -List.reduceReplicate]
  generalize hws : List.take (if (100 : Int) < ↑s.length then (100 : Int) else ↑s.length).toNat s = w
  have hwl : w.length < 10000 := by
    rw [← hws, List.length_take]
    split <;> omega
  obtain ⟨D, hD⟩ : ∃ D, D = (parseN w).1 := ⟨_, rfl⟩
  obtain ⟨F, hF⟩ : ∃ F, F = (parseN w).2 := ⟨_, rfl⟩
  have hp : parseN w = (D, F) := by rw [hD, hF]
  have vD : Vs D := by rw [hD]; exact parseN_vs w
  have hDF : F ≠ 0 → D = 0 := fun h => by rw [hD]; exact parseN_bad (by rw [← hF]; exact h)
  have hF24 : F ≤ 24 := by rw [hF]; exact parseN_le w
  clear hD hF hws
  have hs6 : HSub h h' := fun a b hb => s6 _ _ (s3 a b hb)
  obtain ⟨n10, hn10⟩ : ∃ x, x = n9 + 300000 := ⟨_, rfl⟩
  with_reducible refine call_ret (par_f hwl hp w6 (hg.sub hs6).errs (by omega) hn10) ?_
  simp -dsimp (discharger := omega) [-List.reduceReplicate, take_wv, drop_wv]
  obtain ⟨H6, hH6, s7, w8, m7, g7⟩ := set_step (N := D) (m := n10) hs6 hw (w6.mono (by omega)) (by omega)
  rw [← hH6]
  obtain ⟨n11, hn11⟩ : ∃ x, x = n10 + 1 + 40000 := ⟨_, rfl⟩
  obtain ⟨n12, hn12⟩ : ∃ x, x = n11 + 1100000 := ⟨_, rfl⟩
  with_reducible refine call_ret (tx_f vD rfl w8 (hg.sub s7).gl (by omega) hn11) ?_
  simp -dsimp (discharger := omega) [-List.reduceReplicate]
  with_reducible refine call_ret (par_g (textL_len D) (parse_text vD) (w8.mono (m := n11) (by omega)) (hg.sub s7).errs (by omega) hn12) ?_
  have a7 := m7 _ _ (s6 _ _ ga3)
  have a13 := m7 _ _ g13
  simp -dsimp (discharger := omega) [q7, q11, q13, -List.reduceReplicate, take_wv, drop_wv, AHeap.read_of a7, AHeap.read_of a13, lAA]
  obtain ⟨H7, hH7, s8, w9, m8, g8⟩ := set_step (N := D) (m := n12) s7 hw (w8.mono (by omega)) (by omega)
  rw [← hH7]
  have hL : Ret FV14 12 [.agg (wv A).toArray] H7 (n12 + 1) (.int .i64 (card A : Nat)) [] (n12 + 1 + 1) := ret_f14 (len_ret A w9)
  obtain ⟨n13, hn13⟩ : ∃ x, x = n12 + 1 + 1 + 2000000 := ⟨_, rfl⟩
  have hT := tells_ret (w9.mono (m := n12 + 1 + 1) (by omega)) (hg.sub s8) (by omega) hn13
  have b7 := m8 _ _ g7
  have lDD : leavesEq (List.replicate 64 .int) (wv D) (wv D) = some true := by rw [leaves_wv vD.lt vD.lt, decide_eq_true rfl]
  have l00 : leavesEq (List.replicate 64 .int) (wv 0) (wv 0) = some true := leaves_wv Vs.zero.lt Vs.zero.lt
  with_reducible refine call_ret hL ?_
  by_cases hF0 : F = 0
  · subst hF0
    simp -dsimp (discharger := omega) [-List.reduceReplicate, take_wv, AHeap.read_of b7, AHeap.read_of g8, lDD]
    with_reducible refine call_ret hT ?_
    simp -dsimp (discharger := omega) [F3]
    exact ⟨s8, by omega⟩
  · obtain rfl := hDF hF0
    have hFb : ((F : Int) == 0) = false := by simp; omega
    simp -dsimp (discharger := omega) [-List.reduceReplicate, take_wv, AHeap.read_of b7, AHeap.read_of g8, l00, hFb, aFill]
    with_reducible refine call_ret hT ?_
    simp -dsimp (discharger := omega) [F3]
    exact ⟨s8, by omega⟩
end
end Go.Proofs.YtbgjcoochdljfaaDoorR.Am
