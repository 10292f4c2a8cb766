/- Contracts of the program's functions (X19). -/
import Derived.Test.YtbgjcoochdljfaaDoorRX15
import Derived.Test.YtbgjcoochdljfaaDoorRLVu
import Derived.Test.YtbgjcoochdljfaaDoorRLVt
import Derived.Test.YtbgjcoochdljfaaDoorRX21
namespace Go.Proofs.YtbgjcoochdljfaaDoorR.Am
noncomputable section
/- THE WALK of VsetOnce: the ranges rise, and are the numbers. -/
theorem parseG_le : ∀ {ps : List (List UInt8)} {w : Bool} {N : Nat}, (parseG ps w N).2 ≤ 24
  | [], w, N => by rw [parseG]; split <;> simp
  | p :: ps, w, N => by
    rw [parseG]
    split
    · exact parseG_le
    · simp
theorem parseN_le (s : List UInt8) : (parseN s).2 ≤ 24 := by
  unfold parseN
  split
  · simp
  · split
    · simp
    · exact parseG_le
theorem sumR_append : ∀ (a b : List (Nat × Nat)), sumR (a ++ b) = sumR a + sumR b
  | [], b => by simp [sumR]
  | p :: a, b => by rw [List.cons_append, sumR, sumR, sumR_append a b]; omega
theorem sumR_reverse : ∀ a : List (Nat × Nat), sumR a.reverse = sumR a
  | [] => rfl
  | p :: a => by rw [List.reverse_cons, sumR_append, sumR_reverse a, sumR, sumR, sumR]; omega
theorem sumR_take {rs : List (Nat × Nat)} {k : Nat} {p : Nat × Nat} (hk : rs[k]? = some p) : sumR (rs.take (k + 1)) = sumR (rs.take k) + (p.2 - p.1 + 1) := by
  rw [take_snoc hk, sumR_append, sumR, sumR]
theorem sumR_le (rs : List (Nat × Nat)) (k : Nat) : sumR (rs.take k) ≤ sumR rs := by
  conv => rhs; rw [← List.take_append_drop k rs, sumR_append]
  omega
theorem uniL_take {rs : List (Nat × Nat)} {k : Nat} {p : Nat × Nat} (hk : rs[k]? = some p) : uniL (rs.take (k + 1)) 0 = uniL (rs.take k) 0 ||| rng (p.1 : Nat) (p.2 : Nat) := by
  rw [take_snoc hk]; simp [uniL]
/-- Ranges that rise, oldest first. -/
structure Rise (rs : List (Nat × Nat)) : Prop where
  ok : ∀ p ∈ rs, 1 ≤ p.1 ∧ p.1 ≤ p.2 ∧ p.2 ≤ 4094
  apart : rs.Pairwise (fun p q => p.2 + 1 < q.1)
  sum : sumR rs ≤ 4096
theorem rangesR_rise {N : Nat} (hN : Vs N) : Rise (rangesR N).reverse ∧ sumR (rangesR N).reverse = card N := by
  obtain ⟨⟨h1, h2⟩, _, h3⟩ := rangesR_good hN
  have e : (els N).length = card N := els_card N
  exact ⟨⟨fun p hp => h2 p (List.mem_reverse.1 hp), List.pairwise_reverse.2 h1, by rw [sumR_reverse, h3, e]; exact cnt_le _ _⟩, by rw [sumR_reverse, h3, e]⟩
/-- What the ranges' slice is. -/
def RgM (rs : List (Nat × Nat)) (pp : Option Addr) (cc i13 : Nat) (h : AHeap) : Prop := rs = [] ∨ ∃ q mn, pp = some ⟨q, 0, some (2 * rs.length)⟩ ∧ cc = 4 ∧ mn ≤ 2 * rs.length ∧ i13 ≠ q ∧ h.get q = some (.cells (some 35) (pairL rs) mn)
def OnInv (s : Value) (rs : List (Nat × Nat)) (pp : Option Addr) (cc i7 i13 : Nat) (h0 : AHeap) (n0 r : Nat) (σ : Fr) (h : AHeap) (n : Nat) : Prop :=
  ∃ (k : Nat) (last : Int), k + r = rs.length ∧ (∀ p ∈ rs.drop k, last + 1 < (p.1 : Int)) ∧ -1 ≤ last ∧ last ≤ 4094 ∧ n0 ≤ n ∧ n ≤ n0 + 11 * k ∧ HSub h0 h ∧ WF h n ∧ h.get i13 = some (.cells (some 26) (wv (uniL (rs.take k) 0)) 64) ∧ RgM rs pp cc i13 h ∧
    σ = [(2, s), (7, .pointer (some ⟨i7, 0, some 64⟩)), (11, .int .i64 (sumR (rs.take k) : Nat)), (12, .int .i64 last), (13, .pointer (some ⟨i13, 0, some 64⟩)), (49, .slice pp rs.length cc), (50, .int .i64 (rs.length : Int)), (51, .int .i64 (k : Int))]
def OnPost (s : Value) (rs : List (Nat × Nat)) (i7 i13 : Nat) (h0 : AHeap) (n0 : Nat) (e : Ex) (σ' : Fr) (h' : AHeap) (n' : Nat) : Prop :=
  e = .exit 0 ∧ n0 ≤ n' ∧ n' ≤ n0 + 11 * rs.length ∧ HSub h0 h' ∧ WF h' n' ∧ h'.get i13 = some (.cells (some 26) (wv (uniL rs 0)) 64) ∧ σ'.get 2 = some s ∧ σ'.get 7 = some (.pointer (some ⟨i7, 0, some 64⟩)) ∧ σ'.get 11 = some (.int .i64 (sumR rs : Nat)) ∧ σ'.get 13 = some (.pointer (some ⟨i13, 0, some 64⟩))
theorem once_loop {s : Value} {rs : List (Nat × Nat)} (hl : rs.length ≤ 4096) (hR : Rise rs) {pp : Option Addr} {cc i7 i13 : Nat} {h0 : AHeap} {n0 : Nat} (hi0 : h0.get i13 = none) (hw0 : ∀ k, n0 ≤ k → h0.get k = none) :
    ∀ (m : Nat) (σ : Fr) (h : AHeap) (n : Nat), OnInv s rs pp cc i7 i13 h0 n0 m σ h n → HasCode FV14 (.loop F3L0) σ h n (OnPost s rs i7 i13 h0 n0) := by
  refine wx_inv _ fun m σ h n hI => ?_
  obtain ⟨k, last, hk, hla, hl0, hl1, hn, hn1, hs, hw, hg, hgm, rfl⟩ := hI
  cases m with
  | zero =>
    have e : rs.take k = rs := List.take_of_length_le (by omega)
    rw [e] at hg ⊢
    have fin : ∀ {σ : Fr}, σ.get 2 = some s → σ.get 7 = some (.pointer (some ⟨i7, 0, some 64⟩)) → σ.get 11 = some (.int .i64 (sumR rs : Nat)) → σ.get 13 = some (.pointer (some ⟨i13, 0, some 64⟩)) → OnPost s rs i7 i13 h0 n0 (.exit 0) σ h n := fun a b c d => ⟨rfl, hn, by omega, hs, hw, hg, a, b, c, d⟩
    obtain rfl : k = rs.length := by omega
    simp -dsimp (discharger := omega) [F3L0]
    exact fin rfl rfl rfl rfl
  | succ m =>
    have hlt : k < rs.length := by omega
    obtain ⟨p, hx⟩ : ∃ p, rs[k]? = some p := ⟨_, List.getElem?_eq_getElem hlt⟩
    rcases hgm with rfl | ⟨q, mn, rfl, rfl, hmn, hq, hgq⟩
    · simp at hlt
    have hpo := hR.ok p (List.mem_of_getElem? hx)
    have hdr : rs.drop k = p :: rs.drop (k + 1) := by
      obtain ⟨hlt, rfl⟩ := List.getElem?_eq_some_iff.1 hx
      exact List.drop_eq_getElem_cons hlt
    have hlp := hla p (by rw [hdr]; exact .head _)
    have hnl : ∀ r ∈ rs.drop (k + 1), ((p.2 : Nat) : Int) + 1 < (r.1 : Int) := by
      have hp := hR.apart
      rw [← List.take_append_drop k rs, List.pairwise_append] at hp
      have hp2 := hp.2.1
      rw [hdr, List.pairwise_cons] at hp2
      intro r hr
      have := hp2.1 r hr
      omega
    have hsum := sumR_take hx
    have huni := uniL_take hx
    have hsl := sumR_le rs (k + 1)
    have hs4 := hR.sum
    obtain ⟨f, t⟩ := p
    simp only at hpo hlp hnl hsum huni
    have hpa := pair_at hx
    simp only at hpa
    have hpl := pairL_len rs
    obtain ⟨H, hH⟩ : ∃ H, H = (h.put n (.cells (some 35) [.int .i64 0, .int .i64 0] 2)).put n (.cells (some 35) [.int .i64 (f : Int), .int .i64 (t : Int)] 2) := ⟨_, rfl⟩
    have gH : ∀ p c, h.get p = some c → H.get p = some c := fun p c hc => by
      have := hw.lt hc
      rw [hH, AHeap.get_put_ne _ _ (by omega), AHeap.get_put_ne _ _ (by omega)]; exact hc
    have hHn : H.get n = some (.cells (some 35) [.int .i64 (f : Int), .int .i64 (t : Int)] 2) := by rw [hH, AHeap.get_put_same]
    have hsH : HSub h0 H := fun p c hc => gH p c (hs p c hc)
    have hwH : WF H (n + 1) := by rw [hH]; exact (hw.put (m := n + 1) _ (by omega) (by omega)).put _ (by omega) (Nat.le_refl _)
    have hgH := gH _ _ hg
    have hqH := gH _ _ hgq
    have hin := hw.lt hg
    have hk2 : k * 2 + 2 ≤ 2 * rs.length := by omega
    have c1 := with_ret (uniL (rs.take k) 0) (a := (f : Int)) (b := (t : Int)) (by omega) (by omega) (by omega) (by omega) hwH
    rw [← huni] at c1
    have fin : ∀ {tk : Tok (OnInv s rs (some ⟨q, 0, some (2 * rs.length)⟩) 4 i7 i13 h0 n0)} {σ : Fr}, FSubL [(2, s), (7, .pointer (some ⟨i7, 0, some 64⟩)), (11, .int .i64 (sumR (rs.take (k + 1)) : Nat)), (12, .int .i64 (t : Int)), (13, .pointer (some ⟨i13, 0, some 64⟩)), (49, .slice (some ⟨q, 0, some (2 * rs.length)⟩) rs.length 4), (50, .int .i64 (rs.length : Int)), (51, .int .i64 ((k + 1 : Nat) : Int))] σ →
        Again (OnInv s rs (some ⟨q, 0, some (2 * rs.length)⟩) 4 i7 i13 h0 n0) (m + 1) σ (H.put i13 (.cells (some 26) (wv (uniL (rs.take (k + 1)) 0)) 64)) (n + 1 + 10) tk := fun hσ =>
      .mk' m (by omega) _ _ hσ (.refl _) ⟨k + 1, (t : Int), by omega, hnl, by omega, by omega, by omega, by omega, .put_new _ hi0 hsH, (hwH.mono (by omega)).put _ (by omega) (Nat.le_refl _), by rw [AHeap.get_put_same], .inr ⟨q, mn, rfl, rfl, hmn, hq, by rw [AHeap.get_put_ne _ _ hq]; exact hqH⟩, rfl⟩
    rw [hsum] at hsl fin
    generalize uniL (rs.take k) 0 = M at *
    generalize uniL (rs.take (k + 1)) 0 = M' at *
    generalize sumR (rs.take k) = S at *
    have q1 : ¬ ((f : Int) ≤ last + 1) := by omega
    have q2 : ¬ ((t : Int) < (f : Int)) := by omega
    obtain ⟨V, hV⟩ : ∃ V, V = S + (t - f + 1) := ⟨_, rfl⟩
    have e11 : (S : Int) + ((t : Int) - (f : Int) + 1) = (V : Int) := by omega
    rw [← hV] at fin hsl
    simp -dsimp (discharger := omega) [F3L0, AHeap.read_of hgq, hpa, hpl, hmn, hk2, q1, q2, e11, AHeap.read_of hg, take_wv]
    rw [← hH]
    with_reducible refine call_ret (ret_f14 c1) ?_
    simp -dsimp (discharger := omega) [hgH, drop_wv]
    exact fin (by simp)
end
end Go.Proofs.YtbgjcoochdljfaaDoorR.Am
