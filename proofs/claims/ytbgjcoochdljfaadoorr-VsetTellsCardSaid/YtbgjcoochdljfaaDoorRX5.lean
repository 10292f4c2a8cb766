/- Contracts of the program's functions (X5). -/
import Derived.Test.YtbgjcoochdljfaaDoorRX4
import Derived.Test.YtbgjcoochdljfaaDoorRLVp
namespace Go.Proofs.YtbgjcoochdljfaaDoorR.Am
noncomputable section
/- CONTRACTS: how many numbers a set has. -/
theorem andS64 {x y : Nat} (hx : x < 9223372036854775808) (hy : y < 9223372036854775808) : andI .i64 (x : Int) (y : Int) = ((x &&& y : Nat) : Int) := by
  have h1 : x < 2 ^ IntKind.i64.bits := by show x < 2 ^ 64; omega
  have h2 : y < 2 ^ IntKind.i64.bits := by show y < 2 ^ 64; omega
  rw [andI, BitVec.toNat_and, ofInt_nat h1, ofInt_nat h2]
  have := @Nat.and_le_left x y
  exact wrap64 (by omega) (by omega)
theorem ones_ret {x : Nat} (hx : x < 18446744073709551616) (h : AHeap) (n : Nat) : Ret EV14 30 [.int .u64 (x : Int)] h n (.int .i64 (cnt x 64 : Nat)) [] n := by
  obtain ⟨c0, c1, c2, c3, c4, c5, c6, c7, h0, h1, h2, h3, h4, h5, h6, h7, e3, hc⟩ := sw_all x hx
  have M5 : (6148914691236517205 : Int) = ((6148914691236517205 : Nat) : Int) := rfl
  have M3 : (3689348814741910323 : Int) = ((3689348814741910323 : Nat) : Int) := rfl
  have MF : (1085102592571150095 : Int) = ((1085102592571150095 : Nat) : Int) := rfl
  -- the steps by name
  obtain ⟨p, hp⟩ : ∃ p, p = x / 2 := ⟨_, rfl⟩
  obtain ⟨q, hq⟩ : ∃ q, q = p &&& 6148914691236517205 := ⟨_, rfl⟩
  obtain ⟨r, hr⟩ : ∃ r, r = x &&& 6148914691236517205 := ⟨_, rfl⟩
  obtain ⟨x1, hx1⟩ : ∃ y, y = q + r := ⟨_, rfl⟩
  obtain ⟨p2, hp2⟩ : ∃ p, p = x1 / 4 := ⟨_, rfl⟩
  obtain ⟨q2, hq2⟩ : ∃ q, q = p2 &&& 3689348814741910323 := ⟨_, rfl⟩
  obtain ⟨r2, hr2⟩ : ∃ r, r = x1 &&& 3689348814741910323 := ⟨_, rfl⟩
  obtain ⟨x2, hx2⟩ : ∃ y, y = q2 + r2 := ⟨_, rfl⟩
  obtain ⟨p3, hp3⟩ : ∃ p, p = x2 / 16 := ⟨_, rfl⟩
  obtain ⟨s3, hs3⟩ : ∃ p, p = p3 + x2 := ⟨_, rfl⟩
  obtain ⟨x3, hx3⟩ : ∃ y, y = s3 &&& 1085102592571150095 := ⟨_, rfl⟩
  obtain ⟨p4, hp4⟩ : ∃ p, p = x3 / 256 := ⟨_, rfl⟩
  obtain ⟨x4, hx4⟩ : ∃ p, p = x3 + p4 := ⟨_, rfl⟩
  obtain ⟨p5, hp5⟩ : ∃ p, p = x4 / 65536 := ⟨_, rfl⟩
  obtain ⟨x5, hx5⟩ : ∃ p, p = x4 + p5 := ⟨_, rfl⟩
  obtain ⟨p6, hp6⟩ : ∃ p, p = x5 / 4294967296 := ⟨_, rfl⟩
  obtain ⟨x6, hx6⟩ : ∃ p, p = x5 + p6 := ⟨_, rfl⟩
  have bq : q ≤ 6148914691236517205 := hq ▸ Nat.and_le_right
  have br : r ≤ 6148914691236517205 := hr ▸ Nat.and_le_right
  have bq2 : q2 ≤ 3689348814741910323 := hq2 ▸ Nat.and_le_right
  have br2 : r2 ≤ 3689348814741910323 := hr2 ▸ Nat.and_le_right
  have b3 : x3 ≤ 1085102592571150095 := hx3 ▸ Nat.and_le_right
  have e : x3 = sw3 8 (sw2 8 (sw1 8 x)) := by
    unfold sw3 sw2 sw1
    rw [bm85, bm51, bm15, ← hp, ← hq, ← hr, ← hx1, ← hp2, ← hq2, ← hr2, ← hx2, ← hp3, ← hs3, ← hx3]
  rw [e3] at e
  obtain ⟨f1, f2, f3, f4⟩ := sum8 h0 h1 h2 h3 h4 h5 h6 h7 e (hp4 ▸ hx4) (hp5 ▸ hx5) (hp6 ▸ hx6)
  rw [← hc] at f1
  clear hc e e3 h0 h1 h2 h3 h4 h5 h6 h7
  have s1 : shrI .u64 (x : Int) 1 = (p : Int) := by rw [hp]; exact shrI_nat .u64 x 1
  have s2 : shrI .u64 (x1 : Int) 2 = (p2 : Int) := by rw [hp2]; exact shrI_nat .u64 x1 2
  have s3' : shrI .u64 (x2 : Int) 4 = (p3 : Int) := by rw [hp3]; exact shrI_nat .u64 x2 4
  have s4 : shrI .u64 (x3 : Int) 8 = (p4 : Int) := by rw [hp4]; exact shrI_nat .u64 x3 8
  have s5 : shrI .u64 (x4 : Int) 16 = (p5 : Int) := by rw [hp5]; exact shrI_nat .u64 x4 16
  have s6 : shrI .u64 (x5 : Int) 32 = (p6 : Int) := by rw [hp6]; exact shrI_nat .u64 x5 32
  have a1 : andI .u64 (p : Int) 6148914691236517205 = (q : Int) := by rw [hq, M5, and64 (by omega) (by decide)]
  have a2 : andI .u64 (x : Int) 6148914691236517205 = (r : Int) := by rw [hr, M5, and64 (by omega) (by decide)]
  have a3 : andI .u64 (p2 : Int) 3689348814741910323 = (q2 : Int) := by rw [hq2, M3, and64 (by omega) (by decide)]
  have a4 : andI .u64 (x1 : Int) 3689348814741910323 = (r2 : Int) := by rw [hr2, M3, and64 (by omega) (by decide)]
  have a5 : andI .u64 (s3 : Int) 1085102592571150095 = (x3 : Int) := by rw [hx3, MF, and64 (by omega) (by decide)]
  have w1 : (q : Int) + r = x1 := by omega
  have w2 : (q2 : Int) + r2 = x2 := by omega
  have w3 : (p3 : Int) + x2 = s3 := by omega
  have w4 : (x3 : Int) + p4 = x4 := by omega
  have w5 : (x4 : Int) + p5 = x5 := by omega
  have w6 : (x5 : Int) + p6 = x6 := by omega
  have l1 : x1 < 18446744073709551616 := by omega
  have l2 : x2 < 18446744073709551616 := by omega
  have l3 : s3 < 18446744073709551616 := by omega
  have l4 : x4 < 18446744073709551616 := by omega
  have l5 : x5 < 18446744073709551616 := by omega
  have a6 : andI .i64 (x6 : Int) 127 = ((x6 % 128 : Nat) : Int) := by
    rw [show (127 : Int) = ((127 : Nat) : Int) by rfl, andS64 f2 (by decide), show (127 : Nat) = 2 ^ 7 - 1 by rfl, Nat.and_two_pow_sub_one_eq_mod]
  rw [f1] at a6
  generalize cnt x 64 = c at a6 ⊢
  clear hp hq hr hx1 hp2 hq2 hr2 hx2 hp3 hs3 hx3 hp4 hx4 hp5 hx5 hp6 hx6
  refine rsx30 (by simp) (by simp) ?_
  simp -dsimp (discharger := omega) [B30, s1, s2, s3', s4, s5, s6, a1, a2, a3, a4, a5, a6, w1, w2, w3, w4, w5, w6, HSub.refl]
def LenInv (N : Nat) (h0 : AHeap) (n0 r : Nat) (σ : Fr) (h : AHeap) (n : Nat) : Prop :=
  n = n0 ∧ h = h0 ∧ ∃ k : Nat, k + r = 64 ∧ σ = [(3, .int .i64 (cnt N (64 * k) : Nat)), (7, .agg (wv N).toArray), (8, .int .i64 (k : Int))]
def LenPost (N : Nat) (h0 : AHeap) (n0 : Nat) (e : Ex) (σ' : Fr) (h' : AHeap) (n' : Nat) : Prop :=
  n' = n0 ∧ h' = h0 ∧ e = .exit 0 ∧ σ'.get 3 = some (.int .i64 (cnt N 4096 : Nat))
theorem len_loop {N : Nat} {h0 : AHeap} {n0 : Nat} :
    ∀ (m : Nat) (σ : Fr) (h : AHeap) (n : Nat), LenInv N h0 n0 m σ h n → HasCode EV14 (.loop F12L0) σ h n (LenPost N h0 n0) := by
  refine wx_inv _ fun m σ h n hI => ?_
  obtain ⟨rfl, rfl, k, hk, rfl⟩ := hI
  cases m with
  | zero =>
    obtain rfl : k = 64 := by omega
    have fin : ∀ {σ : Fr}, σ.get 3 = some (.int .i64 (cnt N (64 * 64) : Nat)) → LenPost N h n (.exit 0) σ h n := fun hg => ⟨rfl, rfl, rfl, hg⟩
    simp -dsimp (discharger := omega) [F12L0]
    exact fin rfl
  | succ m =>
    have hlt : k < 64 := by omega
    have e1 := wv_get N hlt
    have hc := ones_ret (word_lt N k) h n
    have hn := cnt_word N k
    have b1 := cnt_le N (64 * k)
    have b2 := cnt_le (word N k) 64
    have fin : ∀ {tk : Tok (LenInv N h n)} {σ : Fr}, FSubL [(3, .int .i64 ((cnt N (64 * (k + 1)) : Nat) : Int)), (7, .agg (wv N).toArray), (8, .int .i64 ((k + 1 : Nat) : Int))] σ → Again (LenInv N h n) (m + 1) σ h n tk := fun hσ =>
      .mk' m (by omega) _ _ hσ (.refl _) ⟨rfl, rfl, k + 1, by omega, rfl⟩
    rw [hn] at fin
    generalize cnt N (64 * k) = a at *
    generalize cnt (word N k) 64 = b at *
    simp -dsimp (discharger := omega) [F12L0, e1]
    with_reducible refine call_ret hc ?_
    simp -dsimp (discharger := omega) []
    exact fin (by simp)
/-- How many numbers a set has. -/
def card (N : Nat) : Nat := cnt N 4096
theorem len_ret (N : Nat) {h : AHeap} {n : Nat} (hw : WF h n) : Ret EV14 12 [.agg (wv N).toArray] h n (.int .i64 (card N : Nat)) [] (n + 1) := by
  refine rsx12 (by simp) (by simp) ?_
  simp -dsimp (discharger := omega) [B12, take_wv]
  refine loop_use (len_loop (N := N) (h0 := h.put n (.cells (some 26) (wv N) 64)) (n0 := n + 1) 64 _ _ _ ⟨rfl, rfl, 0, rfl, rfl⟩) (by simp [cnt]) (.refl _) ?_
  rintro e σ' h' n' ⟨rfl, rfl, rfl, g1⟩
  simp -dsimp (discharger := omega) [g1, card]
  refine (HSub.refl h).new hw ?_ _; omega
end
end Go.Proofs.YtbgjcoochdljfaaDoorR.Am
