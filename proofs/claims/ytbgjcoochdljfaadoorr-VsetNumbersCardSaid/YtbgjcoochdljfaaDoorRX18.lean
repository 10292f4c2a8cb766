/- Contracts of the program's functions (X18). -/
import Derived.Test.YtbgjcoochdljfaaDoorRX17
namespace Go.Proofs.YtbgjcoochdljfaaDoorR.Am
noncomputable section
/- THE WALK of VsetNumbers. -/
theorem numbers_ret {rs ts : List (List Int)} (hl1 : rs.length < 9223372036854775808) (hr1 : ∀ r ∈ rs, RowOk ksT r) (hl2 : ts.length < 9223372036854775808) (hr2 : ∀ r ∈ ts, RowOk ksT r) {u1 u2 : Value} {fr to : Int} {far : Nat} (hfar : far < 65536)
    (hf0 : -9223372036854775808 ≤ fr) (hf1 : fr < 9223372036854775808) (ht0 : -9223372036854775808 ≤ to) (ht1 : to < 9223372036854775808) {h : AHeap} {n : Nat} (hw : WF h n) (hu1 : RowsV rs u1 h) (hu2 : RowsV ts u2 h) (hg : Gm h) (hn : 4096 ≤ n) {m : Nat} (hm : m = n + 3000000) :
    Ret FV14 6 [u1, u2, .int .i64 fr, .int .i64 to, .int .u16 (far : Int)] h n (.bool true) [] m := by
  refine wret_of (E := FV14) (af := F6) rfl (by simp [F6]) (by simp) (by simp) ?_
  obtain ⟨H1, hH1⟩ : ∃ H, H = (h.put n (.cells (some 53) [.int .u16 (far : Int)] 1)).put (n + 1) (.cells (some 4) [.bool false] 1) := ⟨_, rfl⟩
  have s1 : HSub h H1 := by rw [hH1]; exact ((HSub.refl h).new hw (Nat.le_refl _) _).new hw (Nat.le_succ _) _
  have w1 : WF H1 (n + 2) := by rw [hH1]; exact (hw.put (m := n + 2) _ (by omega) (by omega)).put _ (by omega) (Nat.le_refl _)
  have gf1 : H1.get n = some (.cells (some 53) [.int .u16 (far : Int)] 1) := by rw [hH1, AHeap.get_put_ne _ _ (by omega), AHeap.get_put_same]
  have gr1 : H1.get (n + 1) = some (.cells (some 4) [.bool false] 1) := by rw [hH1, AHeap.get_put_same]
  obtain ⟨n2, hn2⟩ : ∃ x, x = n + 2 + 842 := ⟨_, rfl⟩
  obtain ⟨n3, hn3⟩ : ∃ x, x = n2 + 842 := ⟨_, rfl⟩
  have c1 := ret_f14 (made_ret hl1 hr1 w1 (hu1.sub s1))
  rw [← hn2] at c1
  have c2 := ret_f14 (made_ret hl2 hr2 (w1.mono (m := n2) (by omega)) (hu2.sub s1))
  rw [← hn3] at c2
  have vA := madeN_vs rs
  have vB := madeN_vs ts
  generalize madeN rs = A at *
  generalize madeN ts = B at *
  simp -dsimp (discharger := omega) [F6, B6, -List.reduceReplicate, ← wv_zero]
  rw [← hH1]
  with_reducible refine call_ret c1 ?_
  simp -dsimp (discharger := omega) [-List.reduceReplicate]
  with_reducible refine call_ret c2 ?_
  simp -dsimp (discharger := omega) [-List.reduceReplicate, ← wv_zero, take_wv, drop_wv]
  obtain ⟨H2, hH2⟩ : ∃ H, H = (((H1.put n3 (.cells (some 26) (wv 0) 64)).put (n3 + 1) (.cells (some 26) (wv 0) 64)).put n3 (.cells (some 26) (wv A) 64)).put (n3 + 1) (.cells (some 26) (wv B) 64) := ⟨_, rfl⟩
  rw [← hH2]
  have k2 : ∀ a b, a < n3 → H1.get a = some b → H2.get a = some b := fun a b ha hb => by
    rw [hH2, AHeap.get_put_ne _ _ (by omega), AHeap.get_put_ne _ _ (by omega), AHeap.get_put_ne _ _ (by omega), AHeap.get_put_ne _ _ (by omega)]; exact hb
  have ga2 : H2.get n3 = some (.cells (some 26) (wv A) 64) := by rw [hH2, AHeap.get_put_ne _ _ (by omega), AHeap.get_put_same]
  have gb2 : H2.get (n3 + 1) = some (.cells (some 26) (wv B) 64) := by rw [hH2, AHeap.get_put_same]
  have s2 : HSub h H2 := fun a b hb => k2 a b (by have := hw.lt hb; omega) (s1 a b hb)
  have w2 : WF H2 (n3 + 2) := by
    rw [hH2]
    exact ((((w1.mono (m := n3) (by omega)).put (m := n3 + 2) _ (by omega) (by omega)).put _ (by omega) (Nat.le_refl _)).put _ (by omega) (Nat.le_refl _)).put _ (by omega) (Nat.le_refl _)
  obtain ⟨n4, hn4⟩ : ∃ x, x = n3 + 2 + 10 + 7 + 6 + 6 := ⟨_, rfl⟩
  with_reducible refine ret_on [] (ret_f14 (with_ret A hf0 hf1 ht0 ht1 (w2.touch []))) ?_
  simp -dsimp (discharger := omega) [take_wv, AHeap.read_of ga2]
  with_reducible refine ret_on [] (ret_f14 (without_ret A hf0 hf1 ht0 ht1 ((w2.mono (m := n3 + 2 + 10) (by omega)).touch []))) ?_
  simp -dsimp (discharger := omega) [take_wv, AHeap.read_of ga2, AHeap.read_of gb2]
  with_reducible refine ret_on [] (ret_f14 (union_ret A B ((w2.mono (m := n3 + 2 + 10 + 7) (by omega)).touch []))) ?_
  simp -dsimp (discharger := omega) [take_wv, AHeap.read_of ga2, AHeap.read_of gb2]
  with_reducible refine ret_on [] (ret_f14 (meet_ret A B ((w2.mono (m := n3 + 2 + 10 + 7 + 6) (by omega)).touch []))) ?_
  simp -dsimp (discharger := omega) [-List.reduceReplicate, drop_wv]
  simp only [show n3 + 1 + 1 + 10 + 7 + 6 + 6 = n4 by omega]
  obtain ⟨H3, hH3⟩ : ∃ H, H = (((((((H2.put n4 (.cells (some 26) (wv 0) 64)).put (n4 + 1) (.cells (some 26) (wv 0) 64)).put (n4 + 1 + 1) (.cells (some 26) (wv 0) 64)).put (n4 + 1 + 1 + 1) (.cells (some 26) (wv 0) 64)).put n4 (.cells (some 26) (wv (A ||| rng fr to)) 64)).put (n4 + 1) (.cells (some 26) (wv (less A (rng fr to))) 64)).put (n4 + 1 + 1) (.cells (some 26) (wv (A ||| B)) 64)).put (n4 + 1 + 1 + 1) (.cells (some 26) (wv (A &&& B)) 64) := ⟨_, rfl⟩
  rw [← hH3]
  have k3 : ∀ a b, a < n4 → H2.get a = some b → H3.get a = some b := fun a b ha hb => by
    rw [hH3, AHeap.get_put_ne _ _ (by omega), AHeap.get_put_ne _ _ (by omega), AHeap.get_put_ne _ _ (by omega), AHeap.get_put_ne _ _ (by omega), AHeap.get_put_ne _ _ (by omega), AHeap.get_put_ne _ _ (by omega), AHeap.get_put_ne _ _ (by omega), AHeap.get_put_ne _ _ (by omega)]; exact hb
  have ga3 := k3 _ _ (by omega) ga2
  have gb3 := k3 _ _ (by omega) gb2
  have gf3 := k3 _ _ (by omega) (k2 _ _ (by omega) gf1)
  have gr3 := k3 _ _ (by omega) (k2 _ _ (by omega) gr1)
  have gw3 : H3.get n4 = some (.cells (some 26) (wv (A ||| rng fr to)) 64) := by
    rw [hH3, AHeap.get_put_ne _ _ (by omega), AHeap.get_put_ne _ _ (by omega), AHeap.get_put_ne _ _ (by omega), AHeap.get_put_same]
  have go3 : H3.get (n4 + 1) = some (.cells (some 26) (wv (less A (rng fr to))) 64) := by
    rw [hH3, AHeap.get_put_ne _ _ (by omega), AHeap.get_put_ne _ _ (by omega), AHeap.get_put_same]
  have gu3 : H3.get (n4 + 1 + 1) = some (.cells (some 26) (wv (A ||| B)) 64) := by
    rw [hH3, AHeap.get_put_ne _ _ (by omega), AHeap.get_put_same]
  have gm3 : H3.get (n4 + 1 + 1 + 1) = some (.cells (some 26) (wv (A &&& B)) 64) := by rw [hH3, AHeap.get_put_same]
  have s3 : HSub h H3 := fun a b hb => k3 a b (by have := hw.lt hb; omega) (s2 a b hb)
  have w3 : WF H3 (n4 + 4) := by
    rw [hH3]
    repeat refine WF.put (n := n4 + 4) ?_ _ (by omega) (Nat.le_refl _)
    exact w2.mono (by omega)
  refine ⟨by omega, by omega, by omega, by omega, ?_⟩
  refine loop_use (num_loop (p9 := .pointer (some ⟨n, 0, some 1⟩)) (p10 := .pointer (some ⟨n + 1, 0, some 1⟩)) (ca := n3) (cb := n3 + 1) (cw := n4) (co := n4 + 1) (cu := n4 + 1 + 1) (cm := n4 + 1 + 1 + 1) (A := A) (B := B) (fr := fr) (to := to) vA hf0 hf1 ht0 ht1 w3 ⟨ga3, gb3, gw3, go3, gu3, gm3⟩ 4098 _ _ _ ⟨0, 0, -1, rfl, rfl, Nat.le_refl _, rfl, rfl, Nat.le_refl _, by omega, rfl⟩) (by simp) (.refl _) ?_
  rintro e σ' h' n5 ⟨rfl, rfl, hn5, hn6, q9, q10, q11, q12, q15, q16, q17⟩
  simp -dsimp (discharger := omega) [q11, AHeap.read_of ga3, take_wv]
  with_reducible refine call_ret (ret_f14 (each_ret A h' n5)) ?_
  simp -dsimp (discharger := omega) []
  obtain ⟨H4, hH4⟩ : ∃ H, H = ((((h'.put n5 (.cells (some 26) (wv A) 64)).put (n5 + 1) (.cells (some 3) [.int .i64 0] 1)).put (n5 + 1 + 1) (.cells (some 3) [.int .i64 0] 1)).put (n5 + 1) (.cells (some 3) [.int .i64 0] 1)).put (n5 + 1 + 1) (.cells (some 3) [.int .i64 0] 1) := ⟨_, rfl⟩
  rw [← hH4]
  have w5 : WF h' n5 := w3.mono hn5
  have k4 : ∀ a b, h'.get a = some b → H4.get a = some b := fun a b hb => by
    have := w5.lt hb
    rw [hH4, AHeap.get_put_ne _ _ (by omega), AHeap.get_put_ne _ _ (by omega), AHeap.get_put_ne _ _ (by omega), AHeap.get_put_ne _ _ (by omega), AHeap.get_put_ne _ _ (by omega)]; exact hb
  have w4 : WF H4 (n5 + 3) := by
    rw [hH4]
    repeat refine WF.put (n := n5 + 3) ?_ _ (by omega) (Nat.le_refl _)
    exact w5.mono (by omega)
  have gp4 : H4.get n5 = some (.cells (some 26) (wv A) 64) := by
    rw [hH4, AHeap.get_put_ne _ _ (by omega), AHeap.get_put_ne _ _ (by omega), AHeap.get_put_ne _ _ (by omega), AHeap.get_put_ne _ _ (by omega), AHeap.get_put_same]
  have gk4 : H4.get (n5 + 1) = some (numB1 0) := by
    rw [hH4, AHeap.get_put_ne _ _ (by omega), AHeap.get_put_same]; rfl
  have gl4 : H4.get (n5 + 1 + 1) = some (numB1 0) := by rw [hH4, AHeap.get_put_same]; rfl
  have hgt : HasTab H4 := k4 _ _ (s3 _ _ hg.gl.tab)
  have x1 : h'.get (n5 + 1) = none := w5 _ (by omega)
  have x2 : h'.get (n5 + 1 + 1) = none := w5 _ (by omega)
  have hok : okF h' (n5 + 5) (n5 + 1) (n5 + 1 + 1) n n3 (n5 + 1 + 1 + 1) far A (els A) ⟨0, 0, H4, n5 + 5⟩ :=
    ⟨⟨gk4, gl4, k4 _ _ gf3, k4 _ _ ga3, w4 _ (by omega), w4.mono (show n5 + 3 ≤ n5 + 5 by omega), k4, Nat.le_refl _⟩, Nat.le_refl _, by simp, Nat.zero_le _, fun v hv => (els_vs vA hv).1, els_rise A, fun v hv => ⟨(els_lt hv).1, by rw [hasZ_bit vA]; exact (els_lt hv).2⟩⟩
  obtain ⟨⟨r1, r2, r3, r4, r5, r6, r7, r8⟩, rle, rk, re⟩ := runF (kc := n5 + 1) (lc := n5 + 1 + 1) (fc := n) (ac := n3) (iL := n5 + 1 + 1 + 1) x1 x2 (by omega) (by omega) (by omega) (by omega) (by omega) (by omega) (by omega) (els A) _ hok
  refine range_each (fun s : FSt => s.h) (fun s : FSt => s.n) (stepF (n5 + 1) (n5 + 1 + 1) far) (okF h' (n5 + 5) (n5 + 1) (n5 + 1 + 1) n n3 (n5 + 1 + 1 + 1) far A) (N := A) (p := n5) ⟨0, 0, H4, n5 + 5⟩ rfl rfl (by omega) rfl gp4
    [(9, .pointer (some ⟨n, 0, some 1⟩)), (10, .pointer (some ⟨n + 1, 0, some 1⟩)), (11, .pointer (some ⟨n3, 0, some 64⟩)), (21, .pointer (some ⟨n5 + 1, 0, some 1⟩)), (22, .pointer (some ⟨n5 + 1 + 1, 0, some 1⟩))] (by simp [q9, q10, q11]) hok (fun l s hk => hk.mem.sub _ _ (s3 _ _ hg.gl.tab)) (fun l s hk => hk.mem.none) (fun s v l hk hv => far_round hfar x1 x2 (by omega) (by omega) (by omega) (by omega) (by omega) (by omega) (by omega) hk) r5 ?_
  have hcard : (els A).length = card A := els_card A
  rw [hcard] at rk rle
  generalize runR (stepF (n5 + 1) (n5 + 1 + 1) far) (els A) ⟨0, 0, H4, n5 + 5⟩ = R at *
  obtain ⟨ex, ⟨k, last, H5, n6⟩⟩ := R
  simp only at r1 r2 r3 r4 r5 r6 r7 r8 rle rk re ⊢
  subst rk
  have gu5 := r7 _ _ gu3
  have gm5 := r7 _ _ gm3
  have gb5 := r7 _ _ gb3
  have gr5 := r7 _ _ gr3
  have hsum : ((card (A ||| B) : Nat) : Int) + ((card (A &&& B) : Nat) : Int) = ((card A : Nat) : Int) + ((card B : Nat) : Int) := by
    have := cnt_or_and A B 4096
    unfold card; omega
  have dA : card A ≤ 4096 := cnt_le A 4096
  have dB : card B ≤ 4096 := cnt_le B 4096
  have dU : card (A ||| B) ≤ 4096 := cnt_le _ 4096
  have dM : card (A &&& B) ≤ 4096 := cnt_le _ 4096
  have hL : ∀ (N : Nat) {k : Nat}, n6 ≤ k → Ret FV14 12 [.agg (wv N).toArray] (touch [] H5) k (.int .i64 (card N : Nat)) [] (k + 1) := fun N k hk => ret_f14 (len_ret N ((r6.mono hk).touch []))
  obtain ⟨n7, hn7⟩ : ∃ x, x = n6 + 1 + 1 + 1 + 1 + 1 + 2000000 := ⟨_, rfl⟩
  have hT := tells_ret (r6.mono (m := n6 + 1 + 1 + 1 + 1 + 1) (by omega)) (hg.sub (fun a b hb => r7 _ _ (s3 a b hb))) (by omega) hn7
  have lA := @hL A
  have lU := @hL (A ||| B)
  have lM := @hL (A &&& B)
  have lB := @hL B
  generalize card A = cA at *
  generalize card B = cB at *
  generalize card (A ||| B) = cU at *
  generalize card (A &&& B) = cM at *
  rcases re with rfl | rfl
  all_goals simp -dsimp (discharger := omega) [q11, q17, AHeap.read_of r4, take_wv]
  all_goals with_reducible refine ret_on [] (lA (by omega)) ?_
  all_goals simp -dsimp (discharger := omega) [q9, q15, q17, AHeap.read_of r1, AHeap.read_of r3, AHeap.read_of gu5, numB1, take_wv]
  all_goals with_reducible refine ret_on [] (lU (by omega)) ?_
  all_goals simp -dsimp (discharger := omega) [q16, AHeap.read_of gm5, take_wv]
  all_goals with_reducible refine ret_on [] (lM (by omega)) ?_
  all_goals simp -dsimp (discharger := omega) [q11, AHeap.read_of r4, take_wv, hsum]
  all_goals with_reducible refine ret_on [] (lA (by omega)) ?_
  all_goals simp -dsimp (discharger := omega) [q12, AHeap.read_of gb5, take_wv]
  all_goals with_reducible refine ret_on [] (lB (by omega)) ?_
  all_goals simp -dsimp (discharger := omega) []
  all_goals with_reducible refine ret_ret hT ?_
  all_goals simp -dsimp (discharger := omega) [q10, gr5]
  all_goals refine ⟨by omega, ?_⟩
  all_goals simp -dsimp (discharger := omega) [F6, q10]
  all_goals exact ⟨.put_new _ (hw _ (by omega)) (fun a b hb => r7 _ _ (s3 a b hb)), by omega⟩
end
end Go.Proofs.YtbgjcoochdljfaaDoorR.Am
