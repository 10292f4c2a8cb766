/- Contracts of the program's functions (X17). -/
import Derived.Test.YtbgjcoochdljfaaDoorRX16
namespace Go.Proofs.YtbgjcoochdljfaaDoorR.Am
noncomputable section
/- THE WALK of VsetNumbers: number by number. -/
def p64 (i : Nat) : Value := .pointer (some ⟨i, 0, some 64⟩)
def setB (N : Nat) : Blk := .cells (some 26) (wv N) 64
structure NMem (h : AHeap) (ca cb cw co cu cm A B : Nat) (fr to : Int) : Prop where
  ga : h.get ca = some (.cells (some 26) (wv A) 64)
  gb : h.get cb = some (.cells (some 26) (wv B) 64)
  gw : h.get cw = some (.cells (some 26) (wv (A ||| rng fr to)) 64)
  go : h.get co = some (.cells (some 26) (wv (less A (rng fr to))) 64)
  gu : h.get cu = some (.cells (some 26) (wv (A ||| B)) 64)
  gm : h.get cm = some (.cells (some 26) (wv (A &&& B)) 64)
def NuInv (p9 p10 : Value) (ca cb cw co cu cm A : Nat) (fr to : Int) (h0 : AHeap) (n0 r : Nat) (σ : Fr) (h : AHeap) (n : Nat) : Prop :=
  ∃ (j c : Nat) (z : Int), j + r = 4098 ∧ c = cnt A (j - 1) ∧ c ≤ j ∧ z = (j : Int) - 1 ∧ h = h0 ∧ n0 ≤ n ∧ n ≤ n0 + 10 * j ∧
    σ = [(2, .int .i64 fr), (3, .int .i64 to), (9, p9), (10, p10), (11, .pointer (some ⟨ca, 0, some 64⟩)), (12, .pointer (some ⟨cb, 0, some 64⟩)), (13, .pointer (some ⟨cw, 0, some 64⟩)), (14, .pointer (some ⟨co, 0, some 64⟩)), (15, .pointer (some ⟨cu, 0, some 64⟩)), (16, .pointer (some ⟨cm, 0, some 64⟩)), (17, .int .i64 (c : Int)), (18, .int .i64 z)]
def NuPost (p9 p10 : Value) (ca cb cu cm A : Nat) (h0 : AHeap) (n0 : Nat) (e : Ex) (σ' : Fr) (h' : AHeap) (n' : Nat) : Prop :=
  e = .exit 0 ∧ h' = h0 ∧ n0 ≤ n' ∧ n' ≤ n0 + 41000 ∧ σ'.get 9 = some p9 ∧ σ'.get 10 = some p10 ∧ σ'.get 11 = some (.pointer (some ⟨ca, 0, some 64⟩)) ∧ σ'.get 12 = some (.pointer (some ⟨cb, 0, some 64⟩)) ∧ σ'.get 15 = some (.pointer (some ⟨cu, 0, some 64⟩)) ∧ σ'.get 16 = some (.pointer (some ⟨cm, 0, some 64⟩)) ∧ σ'.get 17 = some (.int .i64 (card A : Nat))
set_option maxHeartbeats 4000000 in
theorem num_loop {p9 p10 : Value} {ca cb cw co cu cm A B : Nat} {fr to : Int} (hA : Vs A) (_hf0 : -9223372036854775808 ≤ fr) (_hf1 : fr < 9223372036854775808) (_ht0 : -9223372036854775808 ≤ to) (_ht1 : to < 9223372036854775808) {h0 : AHeap} {n0 : Nat} (hw : WF h0 n0) (hM : NMem h0 ca cb cw co cu cm A B fr to) :
    ∀ (m : Nat) (σ : Fr) (h : AHeap) (n : Nat), NuInv p9 p10 ca cb cw co cu cm A fr to h0 n0 m σ h n → HasCode FV14 (.loop F6L0) σ h n (NuPost p9 p10 ca cb cu cm A h0 n0) := by
  refine wx_inv _ fun m σ h n hI => ?_
  obtain ⟨j, c, z, hj, hc, hcj, hz, rfl, hn, hn1, rfl⟩ := hI
  cases m with
  | zero =>
    obtain rfl : j = 4098 := by omega
    have hcard : c = card A := by
      rw [hc]; exact cnt_top hA
    have fin : ∀ {σ : Fr}, σ.get 9 = some p9 → σ.get 10 = some p10 → σ.get 11 = some (.pointer (some ⟨ca, 0, some 64⟩)) → σ.get 12 = some (.pointer (some ⟨cb, 0, some 64⟩)) → σ.get 15 = some (.pointer (some ⟨cu, 0, some 64⟩)) → σ.get 16 = some (.pointer (some ⟨cm, 0, some 64⟩)) → σ.get 17 = some (.int .i64 (c : Nat)) → NuPost p9 p10 ca cb cu cm A h n0 (.exit 0) σ h n := fun a1 a2 a3 a4 a5 a6 a7 => ⟨rfl, rfl, hn, by omega, a1, a2, a3, a4, a5, a6, by rw [← hcard]; exact a7⟩
    clear hc hcard
    have hz' : ¬ z ≤ 4096 := by omega
    simp -dsimp (discharger := omega) [F6L0, hz']
    exact fin rfl rfl rfl rfl rfl rfl rfl
  | succ m =>
    have hnx := cnt_next hA j
    rw [← hz, ← hc] at hnx
    clear hc
    obtain ⟨ga, gb, gw, go, gu, gm⟩ := hM
    have H : ∀ (N : Nat) {k : Nat}, n0 ≤ k → Ret FV14 16 [.agg (wv N).toArray, .int .i64 z] h k (.bool (hasZ N z)) [] (k + 1) := fun N k hk => ret_f14 (has_ret N z (by omega) (by omega) (hw.mono hk))
    have HA := @H A
    have HB := @H B
    have HW := @H (A ||| rng fr to)
    have HO := @H (less A (rng fr to))
    have HU := @H (A ||| B)
    have HM := @H (A &&& B)
    rw [hasZ_or, hasZ_rng] at HW
    rw [hasZ_less, hasZ_rng] at HO
    rw [hasZ_or] at HU
    rw [hasZ_and] at HM
    have fin : ∀ {tk : Tok (NuInv p9 p10 ca cb cw co cu cm A fr to h n0)} {σ : Fr} {c' n' : Nat}, c' = cnt A j → n ≤ n' → n' ≤ n + 10 → FSubL [(2, .int .i64 fr), (3, .int .i64 to), (9, p9), (10, p10), (11, .pointer (some ⟨ca, 0, some 64⟩)), (12, .pointer (some ⟨cb, 0, some 64⟩)), (13, .pointer (some ⟨cw, 0, some 64⟩)), (14, .pointer (some ⟨co, 0, some 64⟩)), (15, .pointer (some ⟨cu, 0, some 64⟩)), (16, .pointer (some ⟨cm, 0, some 64⟩)), (17, .int .i64 (c' : Int)), (18, .int .i64 (z + 1))] σ →
        Again (NuInv p9 p10 ca cb cw co cu cm A fr to h n0) (m + 1) σ h n' tk := fun a b d hσ =>
      .mk' m (by omega) _ _ hσ (.refl _) ⟨j + 1, _, z + 1, by omega, by rw [Nat.add_sub_cancel]; exact a, by have := cnt_le A j; omega, by omega, rfl, by omega, by omega, rfl⟩
    generalize hasZ A z = x at *
    generalize hasZ B z = y at *
    have hz4 : z ≤ 4096 := by omega
    clear H
    by_cases h1 : fr ≤ z
    · by_cases h2 : z ≤ to
      · by_cases h3 : 1 ≤ z
        · by_cases h4 : z ≤ 4094
          · have hi : decide (fr ≤ z ∧ z ≤ to ∧ 1 ≤ z ∧ z ≤ 4094) = true := decide_eq_true (by omega)
            rw [hi] at HW HO
            cases x with
            | true =>
              cases y with
              | true =>
                simp -dsimp (discharger := omega) [F6L0, hz4, h1, h2, h3, h4, AHeap.read_of gw, take_wv]
                with_reducible refine ret_ret (HW (by omega)) ?_
                simp -dsimp (discharger := omega) [AHeap.read_of ga, take_wv]
                with_reducible refine ret_ret (HA (by omega)) ?_
                simp -dsimp (discharger := omega) [AHeap.read_of go, take_wv]
                with_reducible refine ret_ret (HO (by omega)) ?_
                simp -dsimp (discharger := omega) [AHeap.read_of ga, take_wv]
                with_reducible refine ret_ret (HA (by omega)) ?_
                simp -dsimp (discharger := omega) [AHeap.read_of gu, take_wv]
                with_reducible refine ret_ret (HU (by omega)) ?_
                simp -dsimp (discharger := omega) [AHeap.read_of ga, take_wv]
                with_reducible refine ret_ret (HA (by omega)) ?_
                simp -dsimp (discharger := omega) [AHeap.read_of gm, take_wv]
                with_reducible refine ret_ret (HM (by omega)) ?_
                simp -dsimp (discharger := omega) [AHeap.read_of ga, take_wv]
                with_reducible refine ret_ret (HA (by omega)) ?_
                simp -dsimp (discharger := omega) [AHeap.read_of gb, take_wv]
                with_reducible refine ret_ret (HB (by omega)) ?_
                simp -dsimp (discharger := omega) [AHeap.read_of ga, take_wv]
                with_reducible refine call_ret (HA (by omega)) ?_
                simp -dsimp (discharger := omega) []
                exact fin (c' := c + 1) (by simp [hnx]) (by omega) (by omega) (by simp)
              | false =>
                simp -dsimp (discharger := omega) [F6L0, hz4, h1, h2, h3, h4, AHeap.read_of gw, take_wv]
                with_reducible refine ret_ret (HW (by omega)) ?_
                simp -dsimp (discharger := omega) [AHeap.read_of ga, take_wv]
                with_reducible refine ret_ret (HA (by omega)) ?_
                simp -dsimp (discharger := omega) [AHeap.read_of go, take_wv]
                with_reducible refine ret_ret (HO (by omega)) ?_
                simp -dsimp (discharger := omega) [AHeap.read_of ga, take_wv]
                with_reducible refine ret_ret (HA (by omega)) ?_
                simp -dsimp (discharger := omega) [AHeap.read_of gu, take_wv]
                with_reducible refine ret_ret (HU (by omega)) ?_
                simp -dsimp (discharger := omega) [AHeap.read_of ga, take_wv]
                with_reducible refine ret_ret (HA (by omega)) ?_
                simp -dsimp (discharger := omega) [AHeap.read_of gm, take_wv]
                with_reducible refine ret_ret (HM (by omega)) ?_
                simp -dsimp (discharger := omega) [AHeap.read_of ga, take_wv]
                with_reducible refine ret_ret (HA (by omega)) ?_
                simp -dsimp (discharger := omega) [AHeap.read_of gb, take_wv]
                with_reducible refine ret_ret (HB (by omega)) ?_
                simp -dsimp (discharger := omega) [AHeap.read_of ga, take_wv]
                with_reducible refine call_ret (HA (by omega)) ?_
                simp -dsimp (discharger := omega) []
                exact fin (c' := c + 1) (by simp [hnx]) (by omega) (by omega) (by simp)
            | false =>
              cases y with
              | true =>
                simp -dsimp (discharger := omega) [F6L0, hz4, h1, h2, h3, h4, AHeap.read_of gw, take_wv]
                with_reducible refine ret_ret (HW (by omega)) ?_
                simp -dsimp (discharger := omega) [AHeap.read_of ga, take_wv]
                with_reducible refine ret_ret (HA (by omega)) ?_
                simp -dsimp (discharger := omega) [AHeap.read_of go, take_wv]
                with_reducible refine ret_ret (HO (by omega)) ?_
                simp -dsimp (discharger := omega) [AHeap.read_of ga, take_wv]
                with_reducible refine ret_ret (HA (by omega)) ?_
                simp -dsimp (discharger := omega) [AHeap.read_of gu, take_wv]
                with_reducible refine ret_ret (HU (by omega)) ?_
                simp -dsimp (discharger := omega) [AHeap.read_of ga, take_wv]
                with_reducible refine ret_ret (HA (by omega)) ?_
                simp -dsimp (discharger := omega) [AHeap.read_of gb, take_wv]
                with_reducible refine ret_ret (HB (by omega)) ?_
                simp -dsimp (discharger := omega) [AHeap.read_of gm, take_wv]
                with_reducible refine ret_ret (HM (by omega)) ?_
                simp -dsimp (discharger := omega) [AHeap.read_of ga, take_wv]
                with_reducible refine ret_ret (HA (by omega)) ?_
                simp -dsimp (discharger := omega) [AHeap.read_of ga, take_wv]
                with_reducible refine call_ret (HA (by omega)) ?_
                simp -dsimp (discharger := omega) []
                exact fin (c' := c) (by simp [hnx]) (by omega) (by omega) (by simp)
              | false =>
                simp -dsimp (discharger := omega) [F6L0, hz4, h1, h2, h3, h4, AHeap.read_of gw, take_wv]
                with_reducible refine ret_ret (HW (by omega)) ?_
                simp -dsimp (discharger := omega) [AHeap.read_of ga, take_wv]
                with_reducible refine ret_ret (HA (by omega)) ?_
                simp -dsimp (discharger := omega) [AHeap.read_of go, take_wv]
                with_reducible refine ret_ret (HO (by omega)) ?_
                simp -dsimp (discharger := omega) [AHeap.read_of ga, take_wv]
                with_reducible refine ret_ret (HA (by omega)) ?_
                simp -dsimp (discharger := omega) [AHeap.read_of gu, take_wv]
                with_reducible refine ret_ret (HU (by omega)) ?_
                simp -dsimp (discharger := omega) [AHeap.read_of ga, take_wv]
                with_reducible refine ret_ret (HA (by omega)) ?_
                simp -dsimp (discharger := omega) [AHeap.read_of gb, take_wv]
                with_reducible refine ret_ret (HB (by omega)) ?_
                simp -dsimp (discharger := omega) [AHeap.read_of gm, take_wv]
                with_reducible refine ret_ret (HM (by omega)) ?_
                simp -dsimp (discharger := omega) [AHeap.read_of ga, take_wv]
                with_reducible refine ret_ret (HA (by omega)) ?_
                simp -dsimp (discharger := omega) [AHeap.read_of ga, take_wv]
                with_reducible refine call_ret (HA (by omega)) ?_
                simp -dsimp (discharger := omega) []
                exact fin (c' := c) (by simp [hnx]) (by omega) (by omega) (by simp)
          · have hi : decide (fr ≤ z ∧ z ≤ to ∧ 1 ≤ z ∧ z ≤ 4094) = false := decide_eq_false (by omega)
            rw [hi] at HW HO
            cases x with
            | true =>
              cases y with
              | true =>
                simp -dsimp (discharger := omega) [F6L0, hz4, h1, h2, h3, h4, AHeap.read_of gw, take_wv]
                with_reducible refine ret_ret (HW (by omega)) ?_
                simp -dsimp (discharger := omega) [AHeap.read_of ga, take_wv]
                with_reducible refine ret_ret (HA (by omega)) ?_
                simp -dsimp (discharger := omega) [AHeap.read_of go, take_wv]
                with_reducible refine ret_ret (HO (by omega)) ?_
                simp -dsimp (discharger := omega) [AHeap.read_of ga, take_wv]
                with_reducible refine ret_ret (HA (by omega)) ?_
                simp -dsimp (discharger := omega) [AHeap.read_of gu, take_wv]
                with_reducible refine ret_ret (HU (by omega)) ?_
                simp -dsimp (discharger := omega) [AHeap.read_of ga, take_wv]
                with_reducible refine ret_ret (HA (by omega)) ?_
                simp -dsimp (discharger := omega) [AHeap.read_of gm, take_wv]
                with_reducible refine ret_ret (HM (by omega)) ?_
                simp -dsimp (discharger := omega) [AHeap.read_of ga, take_wv]
                with_reducible refine ret_ret (HA (by omega)) ?_
                simp -dsimp (discharger := omega) [AHeap.read_of gb, take_wv]
                with_reducible refine ret_ret (HB (by omega)) ?_
                simp -dsimp (discharger := omega) [AHeap.read_of ga, take_wv]
                with_reducible refine call_ret (HA (by omega)) ?_
                simp -dsimp (discharger := omega) []
                exact fin (c' := c + 1) (by simp [hnx]) (by omega) (by omega) (by simp)
              | false =>
                simp -dsimp (discharger := omega) [F6L0, hz4, h1, h2, h3, h4, AHeap.read_of gw, take_wv]
                with_reducible refine ret_ret (HW (by omega)) ?_
                simp -dsimp (discharger := omega) [AHeap.read_of ga, take_wv]
                with_reducible refine ret_ret (HA (by omega)) ?_
                simp -dsimp (discharger := omega) [AHeap.read_of go, take_wv]
                with_reducible refine ret_ret (HO (by omega)) ?_
                simp -dsimp (discharger := omega) [AHeap.read_of ga, take_wv]
                with_reducible refine ret_ret (HA (by omega)) ?_
                simp -dsimp (discharger := omega) [AHeap.read_of gu, take_wv]
                with_reducible refine ret_ret (HU (by omega)) ?_
                simp -dsimp (discharger := omega) [AHeap.read_of ga, take_wv]
                with_reducible refine ret_ret (HA (by omega)) ?_
                simp -dsimp (discharger := omega) [AHeap.read_of gm, take_wv]
                with_reducible refine ret_ret (HM (by omega)) ?_
                simp -dsimp (discharger := omega) [AHeap.read_of ga, take_wv]
                with_reducible refine ret_ret (HA (by omega)) ?_
                simp -dsimp (discharger := omega) [AHeap.read_of gb, take_wv]
                with_reducible refine ret_ret (HB (by omega)) ?_
                simp -dsimp (discharger := omega) [AHeap.read_of ga, take_wv]
                with_reducible refine call_ret (HA (by omega)) ?_
                simp -dsimp (discharger := omega) []
                exact fin (c' := c + 1) (by simp [hnx]) (by omega) (by omega) (by simp)
            | false =>
              cases y with
              | true =>
                simp -dsimp (discharger := omega) [F6L0, hz4, h1, h2, h3, h4, AHeap.read_of gw, take_wv]
                with_reducible refine ret_ret (HW (by omega)) ?_
                simp -dsimp (discharger := omega) [AHeap.read_of ga, take_wv]
                with_reducible refine ret_ret (HA (by omega)) ?_
                simp -dsimp (discharger := omega) [AHeap.read_of go, take_wv]
                with_reducible refine ret_ret (HO (by omega)) ?_
                simp -dsimp (discharger := omega) [AHeap.read_of ga, take_wv]
                with_reducible refine ret_ret (HA (by omega)) ?_
                simp -dsimp (discharger := omega) [AHeap.read_of gu, take_wv]
                with_reducible refine ret_ret (HU (by omega)) ?_
                simp -dsimp (discharger := omega) [AHeap.read_of ga, take_wv]
                with_reducible refine ret_ret (HA (by omega)) ?_
                simp -dsimp (discharger := omega) [AHeap.read_of gb, take_wv]
                with_reducible refine ret_ret (HB (by omega)) ?_
                simp -dsimp (discharger := omega) [AHeap.read_of gm, take_wv]
                with_reducible refine ret_ret (HM (by omega)) ?_
                simp -dsimp (discharger := omega) [AHeap.read_of ga, take_wv]
                with_reducible refine ret_ret (HA (by omega)) ?_
                simp -dsimp (discharger := omega) [AHeap.read_of ga, take_wv]
                with_reducible refine call_ret (HA (by omega)) ?_
                simp -dsimp (discharger := omega) []
                exact fin (c' := c) (by simp [hnx]) (by omega) (by omega) (by simp)
              | false =>
                simp -dsimp (discharger := omega) [F6L0, hz4, h1, h2, h3, h4, AHeap.read_of gw, take_wv]
                with_reducible refine ret_ret (HW (by omega)) ?_
                simp -dsimp (discharger := omega) [AHeap.read_of ga, take_wv]
                with_reducible refine ret_ret (HA (by omega)) ?_
                simp -dsimp (discharger := omega) [AHeap.read_of go, take_wv]
                with_reducible refine ret_ret (HO (by omega)) ?_
                simp -dsimp (discharger := omega) [AHeap.read_of ga, take_wv]
                with_reducible refine ret_ret (HA (by omega)) ?_
                simp -dsimp (discharger := omega) [AHeap.read_of gu, take_wv]
                with_reducible refine ret_ret (HU (by omega)) ?_
                simp -dsimp (discharger := omega) [AHeap.read_of ga, take_wv]
                with_reducible refine ret_ret (HA (by omega)) ?_
                simp -dsimp (discharger := omega) [AHeap.read_of gb, take_wv]
                with_reducible refine ret_ret (HB (by omega)) ?_
                simp -dsimp (discharger := omega) [AHeap.read_of gm, take_wv]
                with_reducible refine ret_ret (HM (by omega)) ?_
                simp -dsimp (discharger := omega) [AHeap.read_of ga, take_wv]
                with_reducible refine ret_ret (HA (by omega)) ?_
                simp -dsimp (discharger := omega) [AHeap.read_of ga, take_wv]
                with_reducible refine call_ret (HA (by omega)) ?_
                simp -dsimp (discharger := omega) []
                exact fin (c' := c) (by simp [hnx]) (by omega) (by omega) (by simp)
        · have hi : decide (fr ≤ z ∧ z ≤ to ∧ 1 ≤ z ∧ z ≤ 4094) = false := decide_eq_false (by omega)
          rw [hi] at HW HO
          cases x with
          | true =>
            cases y with
            | true =>
              simp -dsimp (discharger := omega) [F6L0, hz4, h1, h2, h3, AHeap.read_of gw, take_wv]
              with_reducible refine ret_ret (HW (by omega)) ?_
              simp -dsimp (discharger := omega) [AHeap.read_of ga, take_wv]
              with_reducible refine ret_ret (HA (by omega)) ?_
              simp -dsimp (discharger := omega) [AHeap.read_of go, take_wv]
              with_reducible refine ret_ret (HO (by omega)) ?_
              simp -dsimp (discharger := omega) [AHeap.read_of ga, take_wv]
              with_reducible refine ret_ret (HA (by omega)) ?_
              simp -dsimp (discharger := omega) [AHeap.read_of gu, take_wv]
              with_reducible refine ret_ret (HU (by omega)) ?_
              simp -dsimp (discharger := omega) [AHeap.read_of ga, take_wv]
              with_reducible refine ret_ret (HA (by omega)) ?_
              simp -dsimp (discharger := omega) [AHeap.read_of gm, take_wv]
              with_reducible refine ret_ret (HM (by omega)) ?_
              simp -dsimp (discharger := omega) [AHeap.read_of ga, take_wv]
              with_reducible refine ret_ret (HA (by omega)) ?_
              simp -dsimp (discharger := omega) [AHeap.read_of gb, take_wv]
              with_reducible refine ret_ret (HB (by omega)) ?_
              simp -dsimp (discharger := omega) [AHeap.read_of ga, take_wv]
              with_reducible refine call_ret (HA (by omega)) ?_
              simp -dsimp (discharger := omega) []
              exact fin (c' := c + 1) (by simp [hnx]) (by omega) (by omega) (by simp)
            | false =>
              simp -dsimp (discharger := omega) [F6L0, hz4, h1, h2, h3, AHeap.read_of gw, take_wv]
              with_reducible refine ret_ret (HW (by omega)) ?_
              simp -dsimp (discharger := omega) [AHeap.read_of ga, take_wv]
              with_reducible refine ret_ret (HA (by omega)) ?_
              simp -dsimp (discharger := omega) [AHeap.read_of go, take_wv]
              with_reducible refine ret_ret (HO (by omega)) ?_
              simp -dsimp (discharger := omega) [AHeap.read_of ga, take_wv]
              with_reducible refine ret_ret (HA (by omega)) ?_
              simp -dsimp (discharger := omega) [AHeap.read_of gu, take_wv]
              with_reducible refine ret_ret (HU (by omega)) ?_
              simp -dsimp (discharger := omega) [AHeap.read_of ga, take_wv]
              with_reducible refine ret_ret (HA (by omega)) ?_
              simp -dsimp (discharger := omega) [AHeap.read_of gm, take_wv]
              with_reducible refine ret_ret (HM (by omega)) ?_
              simp -dsimp (discharger := omega) [AHeap.read_of ga, take_wv]
              with_reducible refine ret_ret (HA (by omega)) ?_
              simp -dsimp (discharger := omega) [AHeap.read_of gb, take_wv]
              with_reducible refine ret_ret (HB (by omega)) ?_
              simp -dsimp (discharger := omega) [AHeap.read_of ga, take_wv]
              with_reducible refine call_ret (HA (by omega)) ?_
              simp -dsimp (discharger := omega) []
              exact fin (c' := c + 1) (by simp [hnx]) (by omega) (by omega) (by simp)
          | false =>
            cases y with
            | true =>
              simp -dsimp (discharger := omega) [F6L0, hz4, h1, h2, h3, AHeap.read_of gw, take_wv]
              with_reducible refine ret_ret (HW (by omega)) ?_
              simp -dsimp (discharger := omega) [AHeap.read_of ga, take_wv]
              with_reducible refine ret_ret (HA (by omega)) ?_
              simp -dsimp (discharger := omega) [AHeap.read_of go, take_wv]
              with_reducible refine ret_ret (HO (by omega)) ?_
              simp -dsimp (discharger := omega) [AHeap.read_of ga, take_wv]
              with_reducible refine ret_ret (HA (by omega)) ?_
              simp -dsimp (discharger := omega) [AHeap.read_of gu, take_wv]
              with_reducible refine ret_ret (HU (by omega)) ?_
              simp -dsimp (discharger := omega) [AHeap.read_of ga, take_wv]
              with_reducible refine ret_ret (HA (by omega)) ?_
              simp -dsimp (discharger := omega) [AHeap.read_of gb, take_wv]
              with_reducible refine ret_ret (HB (by omega)) ?_
              simp -dsimp (discharger := omega) [AHeap.read_of gm, take_wv]
              with_reducible refine ret_ret (HM (by omega)) ?_
              simp -dsimp (discharger := omega) [AHeap.read_of ga, take_wv]
              with_reducible refine ret_ret (HA (by omega)) ?_
              simp -dsimp (discharger := omega) [AHeap.read_of ga, take_wv]
              with_reducible refine call_ret (HA (by omega)) ?_
              simp -dsimp (discharger := omega) []
              exact fin (c' := c) (by simp [hnx]) (by omega) (by omega) (by simp)
            | false =>
              simp -dsimp (discharger := omega) [F6L0, hz4, h1, h2, h3, AHeap.read_of gw, take_wv]
              with_reducible refine ret_ret (HW (by omega)) ?_
              simp -dsimp (discharger := omega) [AHeap.read_of ga, take_wv]
              with_reducible refine ret_ret (HA (by omega)) ?_
              simp -dsimp (discharger := omega) [AHeap.read_of go, take_wv]
              with_reducible refine ret_ret (HO (by omega)) ?_
              simp -dsimp (discharger := omega) [AHeap.read_of ga, take_wv]
              with_reducible refine ret_ret (HA (by omega)) ?_
              simp -dsimp (discharger := omega) [AHeap.read_of gu, take_wv]
              with_reducible refine ret_ret (HU (by omega)) ?_
              simp -dsimp (discharger := omega) [AHeap.read_of ga, take_wv]
              with_reducible refine ret_ret (HA (by omega)) ?_
              simp -dsimp (discharger := omega) [AHeap.read_of gb, take_wv]
              with_reducible refine ret_ret (HB (by omega)) ?_
              simp -dsimp (discharger := omega) [AHeap.read_of gm, take_wv]
              with_reducible refine ret_ret (HM (by omega)) ?_
              simp -dsimp (discharger := omega) [AHeap.read_of ga, take_wv]
              with_reducible refine ret_ret (HA (by omega)) ?_
              simp -dsimp (discharger := omega) [AHeap.read_of ga, take_wv]
              with_reducible refine call_ret (HA (by omega)) ?_
              simp -dsimp (discharger := omega) []
              exact fin (c' := c) (by simp [hnx]) (by omega) (by omega) (by simp)
      · have hi : decide (fr ≤ z ∧ z ≤ to ∧ 1 ≤ z ∧ z ≤ 4094) = false := decide_eq_false (by omega)
        rw [hi] at HW HO
        cases x with
        | true =>
          cases y with
          | true =>
            simp -dsimp (discharger := omega) [F6L0, hz4, h1, h2, AHeap.read_of gw, take_wv]
            with_reducible refine ret_ret (HW (by omega)) ?_
            simp -dsimp (discharger := omega) [AHeap.read_of ga, take_wv]
            with_reducible refine ret_ret (HA (by omega)) ?_
            simp -dsimp (discharger := omega) [AHeap.read_of go, take_wv]
            with_reducible refine ret_ret (HO (by omega)) ?_
            simp -dsimp (discharger := omega) [AHeap.read_of ga, take_wv]
            with_reducible refine ret_ret (HA (by omega)) ?_
            simp -dsimp (discharger := omega) [AHeap.read_of gu, take_wv]
            with_reducible refine ret_ret (HU (by omega)) ?_
            simp -dsimp (discharger := omega) [AHeap.read_of ga, take_wv]
            with_reducible refine ret_ret (HA (by omega)) ?_
            simp -dsimp (discharger := omega) [AHeap.read_of gm, take_wv]
            with_reducible refine ret_ret (HM (by omega)) ?_
            simp -dsimp (discharger := omega) [AHeap.read_of ga, take_wv]
            with_reducible refine ret_ret (HA (by omega)) ?_
            simp -dsimp (discharger := omega) [AHeap.read_of gb, take_wv]
            with_reducible refine ret_ret (HB (by omega)) ?_
            simp -dsimp (discharger := omega) [AHeap.read_of ga, take_wv]
            with_reducible refine call_ret (HA (by omega)) ?_
            simp -dsimp (discharger := omega) []
            exact fin (c' := c + 1) (by simp [hnx]) (by omega) (by omega) (by simp)
          | false =>
            simp -dsimp (discharger := omega) [F6L0, hz4, h1, h2, AHeap.read_of gw, take_wv]
            with_reducible refine ret_ret (HW (by omega)) ?_
            simp -dsimp (discharger := omega) [AHeap.read_of ga, take_wv]
            with_reducible refine ret_ret (HA (by omega)) ?_
            simp -dsimp (discharger := omega) [AHeap.read_of go, take_wv]
            with_reducible refine ret_ret (HO (by omega)) ?_
            simp -dsimp (discharger := omega) [AHeap.read_of ga, take_wv]
            with_reducible refine ret_ret (HA (by omega)) ?_
            simp -dsimp (discharger := omega) [AHeap.read_of gu, take_wv]
            with_reducible refine ret_ret (HU (by omega)) ?_
            simp -dsimp (discharger := omega) [AHeap.read_of ga, take_wv]
            with_reducible refine ret_ret (HA (by omega)) ?_
            simp -dsimp (discharger := omega) [AHeap.read_of gm, take_wv]
            with_reducible refine ret_ret (HM (by omega)) ?_
            simp -dsimp (discharger := omega) [AHeap.read_of ga, take_wv]
            with_reducible refine ret_ret (HA (by omega)) ?_
            simp -dsimp (discharger := omega) [AHeap.read_of gb, take_wv]
            with_reducible refine ret_ret (HB (by omega)) ?_
            simp -dsimp (discharger := omega) [AHeap.read_of ga, take_wv]
            with_reducible refine call_ret (HA (by omega)) ?_
            simp -dsimp (discharger := omega) []
            exact fin (c' := c + 1) (by simp [hnx]) (by omega) (by omega) (by simp)
        | false =>
          cases y with
          | true =>
            simp -dsimp (discharger := omega) [F6L0, hz4, h1, h2, AHeap.read_of gw, take_wv]
            with_reducible refine ret_ret (HW (by omega)) ?_
            simp -dsimp (discharger := omega) [AHeap.read_of ga, take_wv]
            with_reducible refine ret_ret (HA (by omega)) ?_
            simp -dsimp (discharger := omega) [AHeap.read_of go, take_wv]
            with_reducible refine ret_ret (HO (by omega)) ?_
            simp -dsimp (discharger := omega) [AHeap.read_of ga, take_wv]
            with_reducible refine ret_ret (HA (by omega)) ?_
            simp -dsimp (discharger := omega) [AHeap.read_of gu, take_wv]
            with_reducible refine ret_ret (HU (by omega)) ?_
            simp -dsimp (discharger := omega) [AHeap.read_of ga, take_wv]
            with_reducible refine ret_ret (HA (by omega)) ?_
            simp -dsimp (discharger := omega) [AHeap.read_of gb, take_wv]
            with_reducible refine ret_ret (HB (by omega)) ?_
            simp -dsimp (discharger := omega) [AHeap.read_of gm, take_wv]
            with_reducible refine ret_ret (HM (by omega)) ?_
            simp -dsimp (discharger := omega) [AHeap.read_of ga, take_wv]
            with_reducible refine ret_ret (HA (by omega)) ?_
            simp -dsimp (discharger := omega) [AHeap.read_of ga, take_wv]
            with_reducible refine call_ret (HA (by omega)) ?_
            simp -dsimp (discharger := omega) []
            exact fin (c' := c) (by simp [hnx]) (by omega) (by omega) (by simp)
          | false =>
            simp -dsimp (discharger := omega) [F6L0, hz4, h1, h2, AHeap.read_of gw, take_wv]
            with_reducible refine ret_ret (HW (by omega)) ?_
            simp -dsimp (discharger := omega) [AHeap.read_of ga, take_wv]
            with_reducible refine ret_ret (HA (by omega)) ?_
            simp -dsimp (discharger := omega) [AHeap.read_of go, take_wv]
            with_reducible refine ret_ret (HO (by omega)) ?_
            simp -dsimp (discharger := omega) [AHeap.read_of ga, take_wv]
            with_reducible refine ret_ret (HA (by omega)) ?_
            simp -dsimp (discharger := omega) [AHeap.read_of gu, take_wv]
            with_reducible refine ret_ret (HU (by omega)) ?_
            simp -dsimp (discharger := omega) [AHeap.read_of ga, take_wv]
            with_reducible refine ret_ret (HA (by omega)) ?_
            simp -dsimp (discharger := omega) [AHeap.read_of gb, take_wv]
            with_reducible refine ret_ret (HB (by omega)) ?_
            simp -dsimp (discharger := omega) [AHeap.read_of gm, take_wv]
            with_reducible refine ret_ret (HM (by omega)) ?_
            simp -dsimp (discharger := omega) [AHeap.read_of ga, take_wv]
            with_reducible refine ret_ret (HA (by omega)) ?_
            simp -dsimp (discharger := omega) [AHeap.read_of ga, take_wv]
            with_reducible refine call_ret (HA (by omega)) ?_
            simp -dsimp (discharger := omega) []
            exact fin (c' := c) (by simp [hnx]) (by omega) (by omega) (by simp)
    · have hi : decide (fr ≤ z ∧ z ≤ to ∧ 1 ≤ z ∧ z ≤ 4094) = false := decide_eq_false (by omega)
      rw [hi] at HW HO
      cases x with
      | true =>
        cases y with
        | true =>
          simp -dsimp (discharger := omega) [F6L0, hz4, h1, AHeap.read_of gw, take_wv]
          with_reducible refine ret_ret (HW (by omega)) ?_
          simp -dsimp (discharger := omega) [AHeap.read_of ga, take_wv]
          with_reducible refine ret_ret (HA (by omega)) ?_
          simp -dsimp (discharger := omega) [AHeap.read_of go, take_wv]
          with_reducible refine ret_ret (HO (by omega)) ?_
          simp -dsimp (discharger := omega) [AHeap.read_of ga, take_wv]
          with_reducible refine ret_ret (HA (by omega)) ?_
          simp -dsimp (discharger := omega) [AHeap.read_of gu, take_wv]
          with_reducible refine ret_ret (HU (by omega)) ?_
          simp -dsimp (discharger := omega) [AHeap.read_of ga, take_wv]
          with_reducible refine ret_ret (HA (by omega)) ?_
          simp -dsimp (discharger := omega) [AHeap.read_of gm, take_wv]
          with_reducible refine ret_ret (HM (by omega)) ?_
          simp -dsimp (discharger := omega) [AHeap.read_of ga, take_wv]
          with_reducible refine ret_ret (HA (by omega)) ?_
          simp -dsimp (discharger := omega) [AHeap.read_of gb, take_wv]
          with_reducible refine ret_ret (HB (by omega)) ?_
          simp -dsimp (discharger := omega) [AHeap.read_of ga, take_wv]
          with_reducible refine call_ret (HA (by omega)) ?_
          simp -dsimp (discharger := omega) []
          exact fin (c' := c + 1) (by simp [hnx]) (by omega) (by omega) (by simp)
        | false =>
          simp -dsimp (discharger := omega) [F6L0, hz4, h1, AHeap.read_of gw, take_wv]
          with_reducible refine ret_ret (HW (by omega)) ?_
          simp -dsimp (discharger := omega) [AHeap.read_of ga, take_wv]
          with_reducible refine ret_ret (HA (by omega)) ?_
          simp -dsimp (discharger := omega) [AHeap.read_of go, take_wv]
          with_reducible refine ret_ret (HO (by omega)) ?_
          simp -dsimp (discharger := omega) [AHeap.read_of ga, take_wv]
          with_reducible refine ret_ret (HA (by omega)) ?_
          simp -dsimp (discharger := omega) [AHeap.read_of gu, take_wv]
          with_reducible refine ret_ret (HU (by omega)) ?_
          simp -dsimp (discharger := omega) [AHeap.read_of ga, take_wv]
          with_reducible refine ret_ret (HA (by omega)) ?_
          simp -dsimp (discharger := omega) [AHeap.read_of gm, take_wv]
          with_reducible refine ret_ret (HM (by omega)) ?_
          simp -dsimp (discharger := omega) [AHeap.read_of ga, take_wv]
          with_reducible refine ret_ret (HA (by omega)) ?_
          simp -dsimp (discharger := omega) [AHeap.read_of gb, take_wv]
          with_reducible refine ret_ret (HB (by omega)) ?_
          simp -dsimp (discharger := omega) [AHeap.read_of ga, take_wv]
          with_reducible refine call_ret (HA (by omega)) ?_
          simp -dsimp (discharger := omega) []
          exact fin (c' := c + 1) (by simp [hnx]) (by omega) (by omega) (by simp)
      | false =>
        cases y with
        | true =>
          simp -dsimp (discharger := omega) [F6L0, hz4, h1, AHeap.read_of gw, take_wv]
          with_reducible refine ret_ret (HW (by omega)) ?_
          simp -dsimp (discharger := omega) [AHeap.read_of ga, take_wv]
          with_reducible refine ret_ret (HA (by omega)) ?_
          simp -dsimp (discharger := omega) [AHeap.read_of go, take_wv]
          with_reducible refine ret_ret (HO (by omega)) ?_
          simp -dsimp (discharger := omega) [AHeap.read_of ga, take_wv]
          with_reducible refine ret_ret (HA (by omega)) ?_
          simp -dsimp (discharger := omega) [AHeap.read_of gu, take_wv]
          with_reducible refine ret_ret (HU (by omega)) ?_
          simp -dsimp (discharger := omega) [AHeap.read_of ga, take_wv]
          with_reducible refine ret_ret (HA (by omega)) ?_
          simp -dsimp (discharger := omega) [AHeap.read_of gb, take_wv]
          with_reducible refine ret_ret (HB (by omega)) ?_
          simp -dsimp (discharger := omega) [AHeap.read_of gm, take_wv]
          with_reducible refine ret_ret (HM (by omega)) ?_
          simp -dsimp (discharger := omega) [AHeap.read_of ga, take_wv]
          with_reducible refine ret_ret (HA (by omega)) ?_
          simp -dsimp (discharger := omega) [AHeap.read_of ga, take_wv]
          with_reducible refine call_ret (HA (by omega)) ?_
          simp -dsimp (discharger := omega) []
          exact fin (c' := c) (by simp [hnx]) (by omega) (by omega) (by simp)
        | false =>
          simp -dsimp (discharger := omega) [F6L0, hz4, h1, AHeap.read_of gw, take_wv]
          with_reducible refine ret_ret (HW (by omega)) ?_
          simp -dsimp (discharger := omega) [AHeap.read_of ga, take_wv]
          with_reducible refine ret_ret (HA (by omega)) ?_
          simp -dsimp (discharger := omega) [AHeap.read_of go, take_wv]
          with_reducible refine ret_ret (HO (by omega)) ?_
          simp -dsimp (discharger := omega) [AHeap.read_of ga, take_wv]
          with_reducible refine ret_ret (HA (by omega)) ?_
          simp -dsimp (discharger := omega) [AHeap.read_of gu, take_wv]
          with_reducible refine ret_ret (HU (by omega)) ?_
          simp -dsimp (discharger := omega) [AHeap.read_of ga, take_wv]
          with_reducible refine ret_ret (HA (by omega)) ?_
          simp -dsimp (discharger := omega) [AHeap.read_of gb, take_wv]
          with_reducible refine ret_ret (HB (by omega)) ?_
          simp -dsimp (discharger := omega) [AHeap.read_of gm, take_wv]
          with_reducible refine ret_ret (HM (by omega)) ?_
          simp -dsimp (discharger := omega) [AHeap.read_of ga, take_wv]
          with_reducible refine ret_ret (HA (by omega)) ?_
          simp -dsimp (discharger := omega) [AHeap.read_of ga, take_wv]
          with_reducible refine call_ret (HA (by omega)) ?_
          simp -dsimp (discharger := omega) []
          exact fin (c' := c) (by simp [hnx]) (by omega) (by omega) (by simp)
end
end Go.Proofs.YtbgjcoochdljfaaDoorR.Am
