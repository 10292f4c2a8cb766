/- Contracts of the program's functions (X12). -/
import Derived.Test.YtbgjcoochdljfaaDoorRX9
import Derived.Test.YtbgjcoochdljfaaDoorRX11
namespace Go.Proofs.YtbgjcoochdljfaaDoorR.Am
noncomputable section
/- CLOSED FACTS of the texts. -/
theorem k1 : parseN [53, 44, 51, 45, 52, 44, 49, 48] = (1080, 0) := by decide +kernel
theorem k2 : textL 1080 = [51, 45, 53, 44, 49, 48] := by decide +kernel
theorem k3 : parseN [49, 45, 52, 48, 57, 52] = (allN, 0) := by decide +kernel
theorem k4 : textL allN = [97, 108, 108] := by rw [textL, if_neg (by decide +kernel), if_pos rfl]
theorem k5 : (parseN [52, 48, 57, 53]).2 = 24 := by decide +kernel
theorem k6 : (parseN [53, 45, 51]).2 = 24 := by decide +kernel
theorem k7 : (parseN [48, 53]).2 = 5 := by decide +kernel
theorem parseG_vs : ∀ {ps : List (List UInt8)} {w : Bool} {N : Nat}, Vs N → Vs (parseG ps w N).1
  | [], w, N, h => by rw [parseG]; split; exact Vs.zero; exact h
  | p :: ps, w, N, h => by
    rw [parseG]
    split
    · exact parseG_vs (h.or (Vs.rng _ _))
    · exact Vs.zero
theorem parseN_vs (s : List UInt8) : Vs (parseN s).1 := by
  rw [parseN]
  split
  · exact Vs.zero
  · split
    · exact Vs.all
    · exact parseG_vs Vs.zero
theorem vs1080 : Vs 1080 := by have := parseN_vs [53, 44, 51, 45, 52, 44, 49, 48]; rwa [k1] at this
structure Gm (h : AHeap) : Prop where
  gl : Gl h
  errs : HasErrs h
theorem Gm.sub {h h' : AHeap} (x : Gm h) (hs : HSub h h') : Gm h' := ⟨x.gl.sub hs, x.errs.sub hs⟩
theorem par_f {s : List UInt8} (hl : s.length < 10000) {N e : Nat} (hp : parseN s = (N, e)) {h : AHeap} {n : Nat} (hw : WF h n) (he : HasErrs h) (hn : 4096 ≤ n) {m : Nat} (hm : m = n + 300000) : Ret FV14 8 [.string ⟨s.toArray⟩] h n (.tuple #[.agg (wv N).toArray, .int .i64 (e : Nat)]) [] m := by
  subst hm
  have := parse_ret hl hw he hn
  rw [hp] at this
  exact ret_f14 this
theorem tx_f {N : Nat} (hN : Vs N) {t : List UInt8} (ht : textL N = t) {h : AHeap} {n : Nat} (hw : WF h n) (hg : Gl h) (hn : 4096 ≤ n) {m : Nat} (hm : m = n + 40000) : Ret FV14 9 [.agg (wv N).toArray] h n (.string ⟨t.toArray⟩) [] m := by
  subst hm ht; exact text_ret hN hw hg hn
theorem pair_eta {s : List UInt8} {e : Nat} (h : (parseN s).2 = e) : parseN s = ((parseN s).1, e) := by rw [← h]
theorem set_step {h H : AHeap} {n m N : Nat} (hs : HSub h H) (hw0 : WF h n) (hw : WF H m) (hm : n ≤ m) : ∃ H', H' = (H.put m (.cells (some 26) (wv 0) 64)).put m (.cells (some 26) (wv N) 64) ∧ HSub h H' ∧ WF H' (m + 1) ∧ (∀ a b, H.get a = some b → H'.get a = some b) ∧ H'.get m = some (.cells (some 26) (wv N) 64) :=
  ⟨_, rfl, (hs.new hw0 hm _).new hw0 hm _, (hw.put (m := m + 1) _ (by omega) (by omega)).put _ (by omega) (Nat.le_refl _), fun a b hb => ((HSub.refl H).new hw (Nat.le_refl _) _).new hw (Nat.le_refl _) _ a b hb, by rw [AHeap.get_put_same]⟩
/-- The chapter's rows are told. -/
theorem tells_ret {h : AHeap} {n : Nat} (hw : WF h n) (hg : Gm h) (hn : 4096 ≤ n) {m : Nat} (hm : m = n + 2000000) : Ret FV14 13 [] h n (.bool true) [] m := by
  obtain ⟨N5, h5⟩ : ∃ N, N = (parseN [52, 48, 57, 53]).1 := ⟨_, rfl⟩
  obtain ⟨N6, h6⟩ : ∃ N, N = (parseN [53, 45, 51]).1 := ⟨_, rfl⟩
  obtain ⟨N7, h7⟩ : ∃ N, N = (parseN [48, 53]).1 := ⟨_, rfl⟩
  have p5 := pair_eta k5
  have p6 := pair_eta k6
  have p7 := pair_eta k7
  rw [← h5] at p5
  rw [← h6] at p6
  rw [← h7] at p7
  clear h5 h6 h7
  obtain ⟨n1, hn1⟩ : ∃ x, x = n + 300000 := ⟨_, rfl⟩
  obtain ⟨n2, hn2⟩ : ∃ x, x = n1 + 1 + 300000 := ⟨_, rfl⟩
  obtain ⟨n3, hn3⟩ : ∃ x, x = n2 + 1 + 300000 := ⟨_, rfl⟩
  obtain ⟨n4, hn4⟩ : ∃ x, x = n3 + 1 + 300000 := ⟨_, rfl⟩
  obtain ⟨n5, hn5⟩ : ∃ x, x = n4 + 1 + 300000 := ⟨_, rfl⟩
  obtain ⟨n6, hn6⟩ : ∃ x, x = n5 + 1 + 40000 := ⟨_, rfl⟩
  obtain ⟨n7, hn7⟩ : ∃ x, x = n6 + 40000 := ⟨_, rfl⟩
  refine wret_of (E := FV14) (af := F13) rfl (by simp [F13]) (by simp) (by simp) ?_
  simp -dsimp (discharger := omega) [F13, B13, -List.reduceReplicate, ← wv_zero]
  with_reducible refine call_ret (par_f (by decide) k1 hw hg.errs hn hn1) ?_
  simp -dsimp (discharger := omega) [-List.reduceReplicate, drop_wv]
  obtain ⟨H1, hH1, s1, w1, m1, g1⟩ := set_step (N := 1080) (m := n1) (HSub.refl h) hw (hw.mono (by omega)) (by omega)
  rw [← hH1]
  with_reducible refine call_ret (par_f (by decide) k3 w1 (hg.sub s1).errs (by omega) hn2) ?_
  simp -dsimp (discharger := omega) [-List.reduceReplicate, drop_wv]
  obtain ⟨H2, hH2, s2, w2, m2, g2⟩ := set_step (N := allN) (m := n2) s1 hw (w1.mono (by omega)) (by omega)
  rw [← hH2]
  with_reducible refine call_ret (par_f (by decide) p5 w2 (hg.sub s2).errs (by omega) hn3) ?_
  simp -dsimp (discharger := omega) [-List.reduceReplicate, drop_wv]
  obtain ⟨H3, hH3, s3, w3, m3, g3⟩ := set_step (N := N5) (m := n3) s2 hw (w2.mono (by omega)) (by omega)
  rw [← hH3]
  with_reducible refine call_ret (par_f (by decide) p6 w3 (hg.sub s3).errs (by omega) hn4) ?_
  simp -dsimp (discharger := omega) [-List.reduceReplicate, drop_wv]
  obtain ⟨H4, hH4, s4, w4, m4, g4⟩ := set_step (N := N6) (m := n4) s3 hw (w3.mono (by omega)) (by omega)
  rw [← hH4]
  with_reducible refine call_ret (par_f (by decide) p7 w4 (hg.sub s4).errs (by omega) hn5) ?_
  have q1 := m4 _ _ (m3 _ _ (m2 _ _ g1))
  simp -dsimp (discharger := omega) [-List.reduceReplicate, take_wv, drop_wv, AHeap.read_of q1]
  obtain ⟨H5, hH5, s5, w5, m5, g5⟩ := set_step (N := N7) (m := n5) s4 hw (w4.mono (by omega)) (by omega)
  rw [← hH5]
  have q2 := m5 _ _ (m4 _ _ (m3 _ _ g2))
  with_reducible refine call_ret (tx_f vs1080 k2 w5 (hg.sub s5).gl (by omega) hn6) ?_
  simp -dsimp (discharger := omega) [AHeap.read_of q2, take_wv]
  with_reducible refine call_ret (tx_f Vs.all k4 (w5.mono (m := n6) (by omega)) (hg.sub s5).gl (by omega) hn7) ?_
  simp -dsimp (discharger := omega) [F13]
  exact ⟨s5, by omega⟩
end
end Go.Proofs.YtbgjcoochdljfaaDoorR.Am
