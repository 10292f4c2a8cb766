/- Contracts of the program's functions (X24). -/
import Derived.Test.YtbgjcoochdljfaaDoorRX23
import Derived.Test.YtbgjcoochdljfaaDoorRX9
import Derived.Test.YtbgjcoochdljfaaDoorRX21
namespace Go.Proofs.YtbgjcoochdljfaaDoorR.Am
noncomputable section
/- CONTRACTS: the document's digits, Text. -/
def DdInv (u : Nat) (h0 : AHeap) (n0 r : Nat) (σ : Fr) (h : AHeap) (n : Nat) : Prop :=
  ∃ w : List UInt8, r ≤ u ∧ n0 ≤ n ∧ n ≤ n0 + (u - r) ∧ HSub h0 h ∧ WF h n ∧ w.length ≤ 20 * (u - r) ∧ (r = 0 ∧ w = decs u ∨ 0 < r ∧ decs r ++ w = decs u) ∧ σ = [(0, .int .i64 (r : Int)), (3, .string ⟨w.toArray⟩)]
def DdPost (u : Nat) (h0 : AHeap) (n0 : Nat) (e : Ex) (σ' : Fr) (h' : AHeap) (n' : Nat) : Prop :=
  e = .exit 0 ∧ n0 ≤ n' ∧ n' ≤ n0 + u ∧ HSub h0 h' ∧ σ'.get 3 = some (.string ⟨(decs u).toArray⟩)
theorem dd_loop {u : Nat} (hu : u < 10000) {h0 : AHeap} {n0 : Nat} (hw0 : WF h0 n0) :
    ∀ (m : Nat) (σ : Fr) (h : AHeap) (n : Nat), DdInv u h0 n0 m σ h n → HasCode EV14 (.loop F47L0) σ h n (DdPost u h0 n0) := by
  refine wx_inv _ fun m σ h n hI => ?_
  obtain ⟨w, hm, hn, hn1, hs, hw, hwl, hc, rfl⟩ := hI
  rcases hc with ⟨rfl, rfl⟩ | ⟨hm0, hd⟩
  · have fin : ∀ {σ : Fr}, σ.get 3 = some (.string ⟨(decs u).toArray⟩) → DdPost u h0 n0 (.exit 0) σ h n := fun a => ⟨rfl, hn, by omega, hs, a⟩
    simp -dsimp (discharger := omega) [F47L0]
    exact fin rfl
  · have hp : (0 : Int) < (m : Int) := by omega
    have e1 : ((m : Int).tmod 10) = ((m % 10 : Nat) : Int) := rfl
    have e2 : ((m : Int).tdiv 10) = ((m / 10 : Nat) : Int) := rfl
    have hlt : m % 10 < 10 := Nat.mod_lt _ (by decide)
    have hdl : decs m ++ w = decs u := hd
    have hnew : (m / 10 = 0 ∧ UInt8.ofNat (48 + m % 10) :: w = decs u) ∨ 0 < m / 10 ∧ decs (m / 10) ++ (UInt8.ofNat (48 + m % 10) :: w) = decs u := by
      by_cases h10 : m < 10
      · refine .inl ⟨by omega, ?_⟩
        rw [decs_small h10] at hd
        rw [← hd, Nat.mod_eq_of_lt h10]; rfl
      · refine .inr ⟨by omega, ?_⟩
        rw [decs_big h10, List.append_assoc] at hd
        exact hd
    obtain ⟨c, hc⟩ : ∃ c, c = UInt8.ofNat (48 + m % 10) := ⟨_, rfl⟩
    have hcn : ((c.toNat : Nat) : Int) = 48 + ((m % 10 : Nat) : Int) := by rw [hc, digC hlt]; omega
    rw [← hc] at hnew
    have hlw : w.length ≤ 200000 := by omega
    have fin : ∀ {tk : Tok (DdInv u h0 n0)} {σ : Fr} {b : Blk}, FSubL [(0, .int .i64 ((m / 10 : Nat) : Int)), (3, .string ⟨(c :: w).toArray⟩)] σ → Again (DdInv u h0 n0) m σ (h.put n b) (n + 1) tk := fun hσ =>
      .mk' (m / 10) (by omega) _ _ hσ (.refl _) ⟨c :: w, by omega, by omega, by omega, hs.new hw0 hn _, hw.put _ (by omega) (by omega), by simp only [List.length_cons]; omega, hnew, rfl⟩
    clear hc
    obtain ⟨y, hy⟩ : ∃ y, y = m / 10 := ⟨_, rfl⟩
    have e5 : (m : Int) / 10 = (y : Int) := by omega
    rw [← hy] at fin e2
    clear hnew hd hdl hy
    generalize m % 10 = x at *
    simp -dsimp (discharger := omega) [F47L0, e1, aFill, repeatCells]
    have e4 : bytesOf? [Value.int .u8 (48 + (x : Int))] = some [c] := by
      rw [← hcn]; exact bytesOf_u8s [c]
    simp -dsimp (discharger := omega) [e4, e5]
    exact fin (by simp)
theorem ddigits_ret {u : Nat} (h1 : 1 ≤ u) (hu : u < 10000) {h : AHeap} {n : Nat} (hw : WF h n) : Ret EV14 47 [.int .i64 (u : Int)] h n (.string ⟨(decs u).toArray⟩) [] (n + 10000) := by
  refine rsx47 (by simp) (by simp) ?_
  simp -dsimp (discharger := omega) [B47]
  refine loop_use (dd_loop (u := u) hu (h0 := h) (n0 := n) hw u _ _ _ ⟨[], Nat.le_refl _, Nat.le_refl _, by omega, .refl _, hw, by simp, .inr ⟨by omega, List.append_nil _⟩, rfl⟩) (by simp) (.refl _) ?_
  rintro e σ' h' n' ⟨rfl, hn, hn', hs, q3⟩
  simp -dsimp (discharger := omega) [q3]
  exact ⟨hs, by omega⟩
/- Texts put together. -/
theorem joinL_snoc (sep : List UInt8) (ws : List (List UInt8)) (w : List UInt8) : joinL sep (ws ++ [w]) = if ws = [] then w else joinL sep ws ++ (sep ++ w) := by
  cases ws with
  | nil => rfl
  | cons a l => rw [List.cons_append, joinL_cons, joinL_cons, joinT_snoc, if_neg (by simp), List.append_assoc, List.append_assoc]
theorem pair_at1 {r : List (Nat × Nat)} {k : Nat} {p : Nat × Nat} (hk : r[k]? = some p) : List.take 1 (List.drop (k * 2) (pairL r)) = [.int .i64 (p.1 : Int)] := by
  have h := congrArg (List.take 1) (pair_at hk)
  rw [List.take_take] at h
  exact h
theorem pair_at2 {r : List (Nat × Nat)} {k : Nat} {p : Nat × Nat} (hk : r[k]? = some p) : List.take 1 (List.drop (k * 2 + 1) (pairL r)) = [.int .i64 (p.2 : Int)] := by
  have h := congrArg (List.drop 1) (pair_at hk)
  rw [List.drop_take, List.drop_drop] at h
  exact h
def DtInv (c : Nat) (rs : List (Nat × Nat)) (q : Nat) (h0 : AHeap) (n0 r : Nat) (σ : Fr) (h : AHeap) (n : Nat) : Prop :=
  ∃ (k : Nat) (w : List UInt8), k + r = rs.length ∧ n0 ≤ n ∧ n ≤ n0 + c * k ∧ h = h0 ∧ w = joinL [44] ((rs.take k).map rgT) ∧ w.length ≤ 10 * k ∧
    σ = [(3, .slice (some ⟨q, 0, some (2 * rs.length)⟩) rs.length 4), (4, .string ⟨w.toArray⟩), (5, .int .i64 (k : Int))]
def DtPost (c : Nat) (rs : List (Nat × Nat)) (h0 : AHeap) (n0 : Nat) (e : Ex) (σ' : Fr) (h' : AHeap) (n' : Nat) : Prop :=
  e = .exit 0 ∧ n' ≤ n0 + c * rs.length ∧ h' = h0 ∧ σ'.get 4 = some (.string ⟨(joinL [44] (rs.map rgT)).toArray⟩)
theorem dt_loop {c : Nat} (hc : c = 20000) {rs : List (Nat × Nat)} (hl : rs.length ≤ 4096) (hR : ∀ p ∈ rs, 1 ≤ p.1 ∧ p.1 ≤ p.2 ∧ p.2 ≤ 4094) {q : Nat} {h0 : AHeap} (hg : h0.get q = some (.cells (some 70) (pairL rs) 2)) {n0 : Nat} (hw : WF h0 n0) :
    ∀ (m : Nat) (σ : Fr) (h : AHeap) (n : Nat), DtInv c rs q h0 n0 m σ h n → HasCode EV14 (.loop F37L0) σ h n (DtPost c rs h0 n0) := by
  refine wx_inv _ fun m σ h n hI => ?_
  obtain ⟨k, w, hk, hn, hn1, rfl, hw0, hwl, rfl⟩ := hI
  cases m with
  | zero =>
    have e : rs.take k = rs := List.take_of_length_le (by omega)
    rw [e] at hw0
    obtain rfl : k = rs.length := by omega
    have fin : ∀ {σ : Fr}, σ.get 4 = some (.string ⟨w.toArray⟩) → DtPost c rs h n0 (.exit 0) σ h n := fun a => ⟨rfl, hn1, rfl, by rw [← hw0]; exact a⟩
    simp -dsimp (discharger := omega) [F37L0]
    exact fin rfl
  | succ m =>
    have hlt : k < rs.length := by omega
    obtain ⟨p, hx⟩ : ∃ p, rs[k]? = some p := ⟨_, List.getElem?_eq_getElem hlt⟩
    have hpo := hR p (List.mem_of_getElem? hx)
    have a1 := pair_at1 hx
    have a2 := pair_at2 hx
    have hpl := pairL_len rs
    have hts : (rs.take (k + 1)).map rgT = (rs.take k).map rgT ++ [rgT p] := by rw [List.take_add_one, hx]; simp
    have hsn := joinL_snoc [44] ((rs.take k).map rgT) (rgT p)
    rw [← hts, ← hw0] at hsn
    have hnil : (rs.take k).map rgT = [] ↔ k = 0 := by
      rw [List.map_eq_nil_iff, ← List.length_eq_zero_iff, List.length_take]; omega
    obtain ⟨f, u⟩ := p
    simp only at hpo a1 a2
    have lf := ndig_le4 (u := f) (by omega)
    have lu := ndig_le4 (u := u) (by omega)
    rw [← decs_len] at lf lu
    have c1 := ddigits_ret (u := f) (by omega) (by omega) (hw.mono hn)
    have c2 := ddigits_ret (u := u) (by omega) (by omega) (hw.mono (m := n + 10000) (by omega))
    have b1 : k * 2 + 1 ≤ 2 * rs.length := by omega
    have b2 : k * 2 + 1 + 1 ≤ 2 * rs.length := by omega
    have b3 : 2 ≤ 2 * rs.length := by omega
    have fin : ∀ {tk : Tok (DtInv c rs q h n0)} {σ : Fr} {w' : List UInt8} {n' : Nat}, w' = joinL [44] ((rs.take (k + 1)).map rgT) → w'.length ≤ 10 * (k + 1) → n ≤ n' → n' ≤ n + 20000 → FSubL [(3, .slice (some ⟨q, 0, some (2 * rs.length)⟩) rs.length 4), (4, .string ⟨w'.toArray⟩), (5, .int .i64 ((k + 1 : Nat) : Int))] σ → Again (DtInv c rs q h n0) (m + 1) σ h n' tk := fun e1 e2 e3 e4 hσ => by
      have hck : c * (k + 1) = c * k + c := by rw [Nat.mul_add, Nat.mul_one]
      exact .mk' m (by omega) _ _ hσ (.refl _) ⟨k + 1, _, by omega, by omega, by omega, rfl, e1, e2, rfl⟩
    have hk4 : k < 4096 := by omega
    clear hw0 hts
    by_cases hk0 : k = 0
    · rw [if_pos (hnil.2 hk0)] at hsn
      subst hk0
      have hwe : w = [] := List.length_eq_zero_iff.1 (by omega)
      subst hwe
      rw [Nat.zero_mul, List.drop_zero] at a1
      rw [Nat.zero_mul, Nat.zero_add, List.drop_one] at a2
      simp -dsimp (discharger := omega) [F37L0, AHeap.read_of hg, a1, hpl, b1, b2]
      with_reducible refine call_ret c1 ?_
      by_cases hfu : f < u
      · simp -dsimp (discharger := omega) [AHeap.read_of hg, a1, a2, hpl, b1, b2, hfu]
        with_reducible refine call_ret c2 ?_
        simp -dsimp (discharger := omega) []
        exact fin (w' := decs f ++ 45 :: decs u) (by rw [hsn, rgT, if_pos hfu]) (by simp only [List.length_append, List.length_cons]; omega) (by omega) (by omega) (by simp)
      · simp -dsimp (discharger := omega) [AHeap.read_of hg, a1, a2, hpl, b1, b2, hfu]
        exact fin (w' := decs f) (by rw [hsn, rgT, if_neg hfu]) (by omega) (by omega) (by omega) (by simp)
    · rw [if_neg (fun e => hk0 (hnil.1 e))] at hsn
      have k0 : (0 : Int) < (k : Int) := by omega
      simp -dsimp (discharger := omega) [F37L0, AHeap.read_of hg, a1, hpl, b1, b3]
      with_reducible refine call_ret c1 ?_
      by_cases hfu : f < u
      · simp -dsimp (discharger := omega) [AHeap.read_of hg, a1, a2, hpl, b1, b2, b3, hfu]
        with_reducible refine call_ret c2 ?_
        simp -dsimp (discharger := omega) []
        exact fin (w' := w ++ (44 :: (decs f ++ 45 :: decs u))) (by rw [hsn, rgT, if_pos hfu]; rfl) (by simp only [List.length_append, List.length_cons]; omega) (by omega) (by omega) (by simp)
      · simp -dsimp (discharger := omega) [AHeap.read_of hg, a1, a2, hpl, b1, b2, b3, hfu]
        exact fin (w' := w ++ (44 :: decs f)) (by rw [hsn, rgT, if_neg hfu]; rfl) (by simp only [List.length_append, List.length_cons]; omega) (by omega) (by omega) (by simp)
/- How many: none, all. -/
theorem cnt_miss {N i : Nat} (hi : N.testBit i = false) : ∀ k, i < k → cnt N k + 1 ≤ k
  | k + 1, h => by
    by_cases e : i = k
    · subst e
      have := cnt_le N i
      rw [cnt, hi]; simp; omega
    · have := cnt_miss hi k (by omega)
      rw [cnt]; split <;> omega
theorem cnt_miss2 {N i j : Nat} (hi : N.testBit i = false) (hj : N.testBit j = false) (hij : i < j) : ∀ k, j < k → cnt N k + 2 ≤ k
  | k + 1, h => by
    by_cases e : j = k
    · subst e
      have := cnt_miss hi j hij
      rw [cnt, hj]; simp; omega
    · have := cnt_miss2 hi hj hij k (by omega)
      rw [cnt]; split <;> omega
theorem card_zero {N : Nat} (hN : Vs N) : card N = 0 ↔ N = 0 := by
  constructor
  · intro h
    refine Decidable.byContradiction fun h0 => rangesR_ne hN h0 ?_
    have e : els N = [] := List.length_eq_zero_iff.1 ((els_card N).trans h)
    rw [rangesR, e]; rfl
  · intro h
    rw [h]; decide +kernel
theorem card_all {N : Nat} (hN : Vs N) : card N = 4094 ↔ N = allN := by
  constructor
  · intro h
    refine Nat.eq_of_testBit_eq fun i => ?_
    rw [allN, rng_bit]
    by_cases hi : 1 ≤ i ∧ i ≤ 4094
    · rw [decide_eq_true (by omega)]
      cases hb : N.testBit i with
      | true => rfl
      | false =>
        have := cnt_miss2 (bit_out hN (i := 0) (by omega)) hb (by omega) 4095 (by omega)
        rw [card_4095 hN] at this
        omega
    · rw [decide_eq_false (by omega), bit_out hN (by omega)]
  · intro h
    rw [h]; decide +kernel
theorem dtext_ret {N : Nat} (hN : Vs N) {h : AHeap} {n : Nat} (hw : WF h n) {m : Nat} (hm : m = n + 100000000) : Ret EV14 37 [.agg (bv N).toArray] h n (.string ⟨(textL N).toArray⟩) [] m := by
  obtain ⟨c, hc⟩ : ∃ c, c = 20000 := ⟨_, rfl⟩
  have hsb : ∀ b, HSub h (h.put n b) := fun b => (HSub.refl h).new hw (Nat.le_refl _) b
  obtain ⟨H1, hH1⟩ : ∃ H, H = h.put n (.cells (some 45) (bv N) 4096) := ⟨_, rfl⟩
  have s1 : HSub h H1 := hH1 ▸ hsb _
  have w1 : WF H1 (n + 1) := by rw [hH1]; exact hw.put _ (by omega) (by omega)
  have g1 : H1.get n = some (.cells (some 45) (bv N) 4096) := by rw [hH1, AHeap.get_put_same]
  have hz := card_zero hN
  have ha := card_all hN
  have hcl : card N ≤ 4096 := cnt_le N 4096
  refine rsx37 (by simp) (by simp) ?_
  simp -dsimp (discharger := omega) [B37, take_bv]
  rw [← hH1]
  with_reducible refine call_ret (dlen_ret hN w1) ?_
  by_cases h0 : card N = 0
  · have e : textL N = [110, 111, 110, 101] := by rw [textL, if_pos (hz.1 h0)]
    rw [e, h0]
    simp -dsimp (discharger := omega) []
    exact ⟨s1, by omega⟩
  · have b0 : (((card N : Nat) : Int) == 0) = false := by simp; omega
    simp -dsimp (discharger := omega) [b0, AHeap.read_of g1, take_bv]
    with_reducible refine call_ret (dlen_ret hN (w1.mono (m := n + 1 + 1) (by omega))) ?_
    by_cases h4 : card N = 4094
    · have e : textL N = [97, 108, 108] := by rw [textL, if_neg (fun e => h0 (hz.2 e)), if_pos (ha.1 h4)]
      rw [e, h4]
      simp -dsimp (discharger := omega) []
      exact ⟨s1, by omega⟩
    · have b4 : (((card N : Nat) : Int) == 4094) = false := by simp; omega
      have e : textL N = joinL [44] ((rangesR N).reverse.map rgT) := by rw [textL, if_neg (fun e => h0 (hz.2 e)), if_neg (fun e => h4 (ha.2 e))]
      rw [e]
      obtain ⟨⟨_, hR⟩, _, _⟩ := rangesR_good hN
      have hR' : ∀ p ∈ (rangesR N).reverse, 1 ≤ p.1 ∧ p.1 ≤ p.2 ∧ p.2 ≤ 4094 := fun p hp => hR p (List.mem_reverse.1 hp)
      obtain ⟨v, bs, n', ⟨hn1, hn2, hD⟩, hret⟩ := dranges_ret hN (w1.mono (m := n + 1 + 1 + 1) (by omega))
      have hne : rangesR N ≠ [] := rangesR_ne hN (fun e => h0 (hz.2 e))
      rcases hD with ⟨hD, _⟩ | ⟨_, q, hq1, hq2, rfl, rfl⟩
      · exact absurd hD hne
      have hlen := rangesR_len N
      have hrl : (rangesR N).reverse.length = (rangesR N).length := List.length_reverse
      rw [← hrl] at hret hlen
      obtain ⟨H2, hH2⟩ : ∃ H, H = H1.put q (.cells (some 70) (pairL (rangesR N).reverse) 2) := ⟨_, rfl⟩
      have s2 : HSub h H2 := by rw [hH2]; exact s1.new hw (by omega) _
      have w2 : WF H2 n' := by rw [hH2]; exact (w1.mono (m := n + 1 + 1 + 1) (by omega)).put _ hq2 hn2
      have g2 : H2.get q = some (.cells (some 70) (pairL (rangesR N).reverse) 2) := by rw [hH2, AHeap.get_put_same]
      simp -dsimp (discharger := omega) [b4, AHeap.read_of g1, take_bv]
      generalize (rangesR N).reverse = rs at *
      with_reducible refine call_ret hret ?_
      simp -dsimp (discharger := omega) []
      rw [← hH2]
      have hcl : c * rs.length ≤ c * 4096 := Nat.mul_le_mul_left _ hlen
      refine loop_use (dt_loop hc (rs := rs) (q := q) hlen hR' g2 w2 rs.length _ _ _ ⟨0, [], by omega, Nat.le_refl _, by omega, rfl, rfl, by simp, rfl⟩) (by simp) (.refl _) ?_
      rintro e' σ' h' n2 ⟨rfl, hn3, rfl, q4⟩
      simp -dsimp (discharger := omega) [q4]
      exact ⟨s2, by omega⟩
end
end Go.Proofs.YtbgjcoochdljfaaDoorR.Am
