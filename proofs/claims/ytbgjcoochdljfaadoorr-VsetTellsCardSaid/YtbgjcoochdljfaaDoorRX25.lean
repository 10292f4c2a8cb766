/- Contracts of the program's functions (X25). -/
import Derived.Test.YtbgjcoochdljfaaDoorRX24
import Derived.Test.YtbgjcoochdljfaaDoorRX12
namespace Go.Proofs.YtbgjcoochdljfaaDoorR.Am
noncomputable section
/- CONTRACT: whether a set is the document's (like). -/
/-- What a slice of pairs of some type is. -/
def LkM (ty : Nat) (rs : List (Nat × Nat)) (pp : Option Addr) (cc : Nat) (h : AHeap) : Prop := rs = [] ∨ ∃ q mn, pp = some ⟨q, 0, some (2 * rs.length)⟩ ∧ cc = 4 ∧ mn ≤ 2 * rs.length ∧ h.get q = some (.cells (some ty) (pairL rs) mn)
theorem LkM.sub {ty : Nat} {rs : List (Nat × Nat)} {pp : Option Addr} {cc : Nat} {h h' : AHeap} (x : LkM ty rs pp cc h) (hs : HSub h h') : LkM ty rs pp cc h' := by
  rcases x with x | ⟨q, mn, a, b, c, d⟩
  · exact .inl x
  · exact .inr ⟨q, mn, a, b, c, hs _ _ d⟩
/-- New blocks, all from a number on. -/
def Fresh2 (n n' : Nat) (bs : List (Nat × Blk)) : Prop := bs = [] ∨ ∃ q b, bs = [(q, b)] ∧ n ≤ q ∧ q < n'
theorem Fresh2.sub {n n' : Nat} {bs : List (Nat × Blk)} (x : Fresh2 n n' bs) (hn : n ≤ n') {h : AHeap} (hw : WF h n) : HSub h (putsL h bs) ∧ WF (putsL h bs) n' := by
  rcases x with rfl | ⟨q, b, rfl, h1, h2⟩
  · exact ⟨.refl _, hw.mono hn⟩
  · exact ⟨by simpa [putsL] using (HSub.refl h).new hw h1 b, by simpa [putsL] using hw.put b h2 hn⟩
theorem rg_lk {rr : List (Nat × Nat)} {n n' : Nat} {v : Value} {bs : List (Nat × Blk)} (hR : RgR n v bs n' rr) : n ≤ n' ∧ n' ≤ n + 8210 ∧ Fresh2 n n' bs ∧ ∃ pp cc, v = .slice pp rr.reverse.length cc ∧ ∀ h, LkM 35 rr.reverse pp cc (putsL h bs) := by
  obtain ⟨h1, h2, hR⟩ := hR
  refine ⟨h2, h1, ?_⟩
  rcases hR with ⟨rfl, rfl, rfl⟩ | ⟨hne, q, mn, hq1, hq2, hmn, rfl, rfl⟩
  · exact ⟨.inl rfl, none, 0, rfl, fun _ => .inl rfl⟩
  · rw [← List.length_reverse (as := rr)] at hmn ⊢
    exact ⟨.inr ⟨_, _, rfl, hq1, hq2⟩, _, _, rfl, fun h => .inr ⟨q, mn, rfl, rfl, hmn, by simp [putsL]⟩⟩
theorem dg_lk {rr : List (Nat × Nat)} {n n' : Nat} {v : Value} {bs : List (Nat × Blk)} (hR : DgR n v bs n' rr) : n ≤ n' ∧ n' ≤ n + 8200 ∧ Fresh2 n n' bs ∧ ∃ pp cc, v = .slice pp rr.reverse.length cc ∧ ∀ h, LkM 70 rr.reverse pp cc (putsL h bs) := by
  obtain ⟨h1, h2, hR⟩ := hR
  refine ⟨h2, h1, ?_⟩
  rcases hR with ⟨rfl, rfl, rfl⟩ | ⟨hne, q, hq1, hq2, rfl, rfl⟩
  · exact ⟨.inl rfl, none, 0, rfl, fun _ => .inl rfl⟩
  · have hp : 0 < rr.length := List.length_pos_iff.2 hne
    rw [← List.length_reverse (as := rr)] at hp ⊢
    exact ⟨.inr ⟨_, _, rfl, hq1, hq2⟩, _, _, rfl, fun h => .inr ⟨q, 2, rfl, rfl, by omega, by simp [putsL]⟩⟩
def LkInv (rs : List (Nat × Nat)) (pp pq : Option Addr) (cc cd : Nat) (h0 : AHeap) (n0 r : Nat) (σ : Fr) (h : AHeap) (n : Nat) : Prop :=
  n = n0 ∧ h = h0 ∧ ∃ k : Nat, k + r = rs.length ∧ σ = [(5, .slice pp rs.length cc), (6, .slice pq rs.length cd), (7, .int .i64 (k : Int))]
theorem like_loop {rs : List (Nat × Nat)} (hl : rs.length ≤ 4096) {pp pq : Option Addr} {cc cd : Nat} {h0 : AHeap} (h5 : LkM 35 rs pp cc h0) (h6 : LkM 70 rs pq cd h0) {n0 : Nat} :
    ∀ (m : Nat) (σ : Fr) (h : AHeap) (n : Nat), LkInv rs pp pq cc cd h0 n0 m σ h n → HasCode FV14 (.loop F23L0) σ h n (fun e _ h' n' => e = .exit 0 ∧ h' = h0 ∧ n' = n0) := by
  refine wx_inv _ fun m σ h n hI => ?_
  obtain ⟨rfl, rfl, k, hk, rfl⟩ := hI
  cases m with
  | zero =>
    obtain rfl : k = rs.length := by omega
    simp -dsimp (discharger := omega) [F23L0]
  | succ m =>
    have hlt : k < rs.length := by omega
    rcases h5 with rfl | ⟨q, mn, rfl, rfl, hm, hg⟩
    · simp at hlt
    rcases h6 with rfl | ⟨q', mn', rfl, rfl, hm', hg'⟩
    · simp at hlt
    obtain ⟨p, hx⟩ : ∃ p, rs[k]? = some p := ⟨_, List.getElem?_eq_getElem hlt⟩
    have a1 := pair_at1 hx
    have a2 := pair_at2 hx
    have hpl := pairL_len rs
    have b1 : k * 2 + 1 ≤ 2 * rs.length := by omega
    have b2 : k * 2 + 1 + 1 ≤ 2 * rs.length := by omega
    have fin : ∀ {tk : Tok (LkInv rs (some ⟨q, 0, some (2 * rs.length)⟩) (some ⟨q', 0, some (2 * rs.length)⟩) 4 4 h n)} {σ : Fr}, FSubL [(5, .slice (some ⟨q, 0, some (2 * rs.length)⟩) rs.length 4), (6, .slice (some ⟨q', 0, some (2 * rs.length)⟩) rs.length 4), (7, .int .i64 ((k + 1 : Nat) : Int))] σ → Again (LkInv rs (some ⟨q, 0, some (2 * rs.length)⟩) (some ⟨q', 0, some (2 * rs.length)⟩) 4 4 h n) (m + 1) σ h n tk := fun hσ =>
      .mk' m (by omega) _ _ hσ (.refl _) ⟨rfl, rfl, k + 1, by omega, rfl⟩
    simp -dsimp (discharger := omega) [F23L0, AHeap.read_of hg, AHeap.read_of hg', a1, a2, hpl, b1, b2, hm, hm']
    exact fin (by simp)
theorem like_ret {N : Nat} (hN : Vs N) {h : AHeap} {n : Nat} (hw : WF h n) (hg : Gl h) (hn : 4096 ≤ n) {m : Nat} (hm : m = n + 200000000) : Ret FV14 23 [.agg (wv N).toArray, .agg (bv N).toArray] h n (.bool true) [] m := by
  refine wret_of (E := FV14) (af := F23) rfl (by show 2 ≤ 61; omega) (by simp) (by simp) ?_
  obtain ⟨H1, hH1⟩ : ∃ H, H = (h.put n (.cells (some 26) (wv N) 64)).put (n + 1) (.cells (some 45) (bv N) 4096) := ⟨_, rfl⟩
  have s1 : HSub h H1 := by rw [hH1]; exact ((HSub.refl h).new hw (Nat.le_refl _) _).new hw (Nat.le_succ _) _
  have w1 : WF H1 (n + 2) := by rw [hH1]; exact (hw.put (m := n + 2) _ (by omega) (by omega)).put _ (by omega) (Nat.le_refl _)
  have ga : H1.get n = some (.cells (some 26) (wv N) 64) := by rw [hH1, AHeap.get_put_ne _ _ (by omega), AHeap.get_put_same]
  have gb : H1.get (n + 1) = some (.cells (some 45) (bv N) 4096) := by rw [hH1, AHeap.get_put_same]
  obtain ⟨v5, b5, n5, hR5, c5⟩ := ranges_ret N w1 (hg.sub s1).tab (by omega)
  obtain ⟨l5, u5, f5, pp, cc, rfl, k5⟩ := rg_lk hR5
  obtain ⟨s5, w5⟩ := f5.sub l5 w1
  obtain ⟨v6, b6, n6, hR6, c6⟩ := dranges_ret hN (w5.touch [])
  obtain ⟨l6, u6, f6, pq, cd, rfl, k6⟩ := dg_lk hR6
  obtain ⟨H5, hH5⟩ : ∃ H, H = putsL H1 b5 := ⟨_, rfl⟩
  rw [← hH5] at s5 w5 c6
  have k5' := k5 H1
  rw [← hH5] at k5'
  obtain ⟨s6, w6⟩ := f6.sub l6 w5
  obtain ⟨H6, hH6⟩ : ∃ H, H = putsL H5 b6 := ⟨_, rfl⟩
  have k6' := k6 H5
  rw [← hH6] at k6' s6 w6
  have k5'' := k5'.sub s6
  have e5 : ∀ i c, H1.get i = some c → ¬ i ∈ b5.map (·.1) := fun i c hc hi => by
    have := w1.lt hc
    rcases f5 with rfl | ⟨q, b, rfl, a1, a2⟩
    · simp at hi
    · simp at hi; omega
  simp -dsimp (discharger := omega) [F23, B23, take_wv]
  rw [← hH1]
  with_reducible refine ret_ret c5 ?_
  rw [← hH5]
  have gb5 := s5 _ _ gb
  have ga5 := s5 _ _ ga
  simp -dsimp (discharger := omega) [AHeap.read_of gb5, take_bv]
  refine ⟨fun i x hi he => e5 (n + 1) _ gb (by rw [← he]; exact List.mem_map.2 ⟨(i, x), hi, rfl⟩), ?_⟩
  with_reducible refine ret_on [] (ret_f14 c6) ?_
  have ga6 := s6 _ _ ga5
  have gb6 := s6 _ _ gb5
  have hs6 : HSub h H6 := fun a b hb => s6 _ _ (s5 _ _ (s1 _ _ hb))
  obtain ⟨n8, hn8⟩ : ∃ x, x = n6 + 1 + 1 + 40000 := ⟨_, rfl⟩
  obtain ⟨n9, hn9⟩ : ∃ x, x = n8 + 100000000 := ⟨_, rfl⟩
  have c7 : Ret FV14 12 [.agg (wv N).toArray] (touch [] H6) n6 (.int .i64 (card N : Nat)) [] (n6 + 1) := ret_f14 (len_ret N (w6.touch []))
  have c8 : Ret FV14 36 [.agg (bv N).toArray] (touch [] H6) (n6 + 1) (.int .i64 (card N : Nat)) [] (n6 + 1 + 1) := ret_f14 (dlen_ret hN ((w6.mono (Nat.le_succ n6)).touch []))
  have c9 := tx_f hN rfl (w6.mono (m := n6 + 1 + 1) (by omega)) (hg.sub hs6) (by omega) hn8
  have c10 : Ret FV14 37 [.agg (bv N).toArray] (touch [] H6) n8 (.string ⟨(textL N).toArray⟩) [] n9 := ret_f14 (dtext_ret hN ((w6.mono (m := n8) (by omega)).touch []) hn9)
  have hrl : (rangesR N).reverse.length ≤ 4096 := by rw [List.length_reverse]; exact rangesR_len N
  simp -dsimp (discharger := omega) []
  rw [← hH6]
  simp -dsimp (discharger := omega) [AHeap.read_of ga6, take_wv]
  with_reducible refine ret_on [] c7 ?_
  simp -dsimp (discharger := omega) [AHeap.read_of gb6, take_bv]
  with_reducible refine ret_on [] c8 ?_
  simp -dsimp (discharger := omega) [AHeap.read_of ga6, take_wv]
  with_reducible refine ret_ret c9 ?_
  simp -dsimp (discharger := omega) [AHeap.read_of gb6, take_bv]
  with_reducible refine ret_on [] c10 ?_
  simp -dsimp (discharger := omega) []
  refine loop_use (like_loop hrl k5'' k6' (rangesR N).reverse.length _ _ _ ⟨rfl, rfl, 0, by omega, rfl⟩) (by simp) (.refl _) ?_
  rintro e σ' h' n' ⟨rfl, rfl, rfl⟩
  simp -dsimp (discharger := omega) [F23]
  exact ⟨hs6, by omega⟩
end
end Go.Proofs.YtbgjcoochdljfaaDoorR.Am
