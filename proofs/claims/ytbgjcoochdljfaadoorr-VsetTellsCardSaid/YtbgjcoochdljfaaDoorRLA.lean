/- Contracts and plain facts (LA). -/
import Derived.Test.YtbgjcoochdljfaaDoorRLM
namespace Go.Proofs.YtbgjcoochdljfaaDoorR.Am
noncomputable section
/- CONTRACTS OF GO's LIBRARY: strconv.ParseUint of base ten. -/
theorem decV_app (a b : List UInt8) : decV a ≤ decV (a ++ b) := by
  have key : ∀ (l : List UInt8) (x : Nat), x ≤ l.foldl (fun a c => 10 * a + (c.toNat - 48)) x := by
    intro l
    induction l with
    | nil => intro x; exact Nat.le_refl _
    | cons b l ih => intro x; refine Nat.le_trans ?_ (ih (10 * x + (b.toNat - 48))); omega
  unfold decV
  rw [List.foldl_append]
  exact key _ _
def okU (t : List UInt8) (M : Nat) : Bool := t.all isD && !t.isEmpty && decide (decV t ≤ M)
theorem okU_bad {t : List UInt8} {M i : Nat} {c : UInt8} (hc : t[i]? = some c) (hd : isD c = false) : okU t M = false := by
  have : t.all isD = false := by
    rw [Bool.eq_false_iff]
    intro h
    have := List.all_eq_true.1 h c (List.mem_of_getElem? hc)
    rw [hd] at this; cases this
  rw [okU, this]; rfl
theorem okU_over {t : List UInt8} {M i : Nat} (h : M < decV (t.take i)) : okU t M = false := by
  have := decV_app (t.take i) (t.drop i)
  rw [List.take_append_drop] at this
  have : ¬ decV t ≤ M := by omega
  rw [okU, decide_eq_false this, Bool.and_false]
def eIf (c : Int) : Value := .iface 107 (.int .i64 c)
def PUInv (t : List UInt8) (M : Nat) (z : Nat) (h0 : AHeap) (n0 : Nat) (r : Nat) (σ : Fr) (h : AHeap) (n : Nat) : Prop :=
  n = n0 ∧ h = h0 ∧ ∃ i, i + r = t.length ∧ (t.take i).all isD = true ∧ decV (t.take i) ≤ M ∧
    σ = [(1, .int .i64 10), (8, .bool false), (9, .string ⟨t.toArray⟩), (10, .int .u64 1844674407370955162), (11, .int .u64 (M : Int)), (12, .bool false), (13, .int .u64 ((decV (t.take i) : Nat) : Int)), (99, .slice (some ⟨z, 0, some t.length⟩) t.length 2), (100, .int .i64 (t.length : Int)), (101, .int .i64 (i : Int))]
def PUPost (t : List UInt8) (M : Nat) (h0 : AHeap) (n0 : Nat) (e : Ex) (σ' : Fr) (h' : AHeap) (n' : Nat) : Prop :=
  n' = n0 ∧ h' = h0 ∧ (e = .exit 3 ∧ t.all isD = true ∧ decV t ≤ M ∧ σ'.get 12 = some (.bool false) ∧ σ'.get 13 = some (.int .u64 ((decV t : Nat) : Int)) ∨
    e = .ret ∧ okU t M = false ∧ ∃ (x : Nat) (c : Int), x < 18446744073709551616 ∧ (c = 1 ∧ x = M ∨ c = 2 ∧ x = 0) ∧ σ'.get 6 = some (.int .u64 (x : Int)) ∧ σ'.get 7 = some (eIf c))
set_option maxRecDepth 100000 in
set_option maxHeartbeats 1000000 in
theorem pu_loop {t : List UInt8} (ht : t.length < 100000) {M : Nat} (hM : M < 18446744073709551616) {z : Nat} {h0 : AHeap} (hz : h0.get z = some (.cells (some 5) (u8s t) t.length)) {n0 : Nat} :
    ∀ (r : Nat) (σ : Fr) (h : AHeap) (n : Nat), PUInv t M z h0 n0 r σ h n → HasCode EV14 (.loop F62L0) σ h n (PUPost t M h0 n0) := by
  refine wx_inv _ fun r σ h n hI => ?_
  obtain ⟨rfl, rfl, i, hi, hd, hv, rfl⟩ := hI
  have hrd := AHeap.read_of hz
  cases r with
  | zero =>
    obtain rfl : i = t.length := by omega
    rw [List.take_length] at hd hv
    simp -dsimp (discharger := omega) [F62L0]
    exact ⟨rfl, rfl, .inl ⟨rfl, hd, hv, by simp, by simp⟩⟩
  | succ r =>
    have hlt : i < t.length := by omega
    have hx := List.getElem?_eq_getElem hlt
    generalize t[i] = c at hx
    have hc := c.toNat_lt
    have h1 := take1 (u8s_get? hx)
    have hsn : decV (t.take (i + 1)) = 10 * decV (t.take i) + (c.toNat - 48) := by rw [take_snoc hx, decV_snoc]
    have hda : (t.take (i + 1)).all isD = isD c := by rw [take_snoc hx, List.all_append, hd]; simp
    have hret : ∀ {σ : Fr} (x : Nat) (e : Int), x < 18446744073709551616 → okU t M = false → (e = 1 ∧ x = M ∨ e = 2 ∧ x = 0) → σ.get 6 = some (.int .u64 (x : Int)) → σ.get 7 = some (eIf e) → PUPost t M h n .ret σ h n := fun x e hx ho he h6 h7 => ⟨rfl, rfl, .inr ⟨rfl, ho, x, e, hx, he, h6, h7⟩⟩
    generalize hV : decV (t.take i) = V at *
    by_cases d1 : 48 ≤ c.toNat ∧ c.toNat ≤ 57
    · have hdc : isD c = true := by simp [isD, d1]
      have hn1 : 10 * V + (c.toNat - 48) = V * 10 + (c.toNat - 48) := by omega
      by_cases o1 : 1844674407370955162 ≤ V
      · simp -dsimp (discharger := omega) [F62L0, hrd, h1]
        exact hret M 1 hM (okU_over (i := i + 1) (by omega)) (by simp) (by simp) (by simp [eIf])
      · by_cases o2 : 18446744073709551616 ≤ V * 10 + (c.toNat - 48)
        · have hw : IntKind.u64.wrap ((V : Int) * 10 + ((c.toNat : Int) - 48)) = (V : Int) * 10 + ((c.toNat : Int) - 48) - 18446744073709551616 := by
            simp only [IntKind.wrap, IntKind.bits, IntKind.signed]
            simp
            omega
          simp -dsimp (discharger := omega) [F62L0, hrd, h1, hw]
          exact hret M 1 hM (okU_over (i := i + 1) (by omega)) (by simp) (by simp) (by simp [eIf])
        · by_cases o3 : M < V * 10 + (c.toNat - 48)
          · simp -dsimp (discharger := omega) [F62L0, hrd, h1]
            exact hret M 1 hM (okU_over (i := i + 1) (by omega)) (by simp) (by simp) (by simp [eIf])
          · simp -dsimp (discharger := omega) [F62L0, hrd, h1]
            exact .mk' r (by omega) [(1, .int .i64 10), (8, .bool false), (9, .string ⟨t.toArray⟩), (10, .int .u64 1844674407370955162), (11, .int .u64 (M : Int)), (12, .bool false), (13, .int .u64 ((decV (t.take (i + 1)) : Nat) : Int)), (99, .slice (some ⟨z, 0, some t.length⟩) t.length 2), (100, .int .i64 (t.length : Int)), (101, .int .i64 ((i + 1 : Nat) : Int))] h (by simp [hsn]; omega) (.refl _) ⟨rfl, rfl, i + 1, by omega, by rw [hda, hdc], by omega, rfl⟩
    · have hdc : isD c = false := by simp [isD]; omega
      have ho : okU t M = false := okU_bad hx hdc
      have hor : orI .u8 (c.toNat : Int) 32 = ((c.toNat ||| 32 : Nat) : Int) := orN (k := .u8) rfl hc (by decide)
      have hor2 : c.toNat ||| 32 < 256 := Nat.or_lt_two_pow (n := 8) hc (by decide)
      generalize c.toNat ||| 32 = m at hor hor2
      have h48 : c.toNat < 48 ∨ ¬ c.toNat < 48 := by omega
      rcases h48 with h48 | h48
      · by_cases m1 : 97 ≤ m
        · by_cases m2 : m ≤ 122
          · simp -dsimp (discharger := omega) [F62L0, hrd, h1]
            with_reducible refine inl75 ?_
            simp -dsimp (discharger := omega) [B75, hor]
            with_reducible refine inl75 ?_
            simp -dsimp (discharger := omega) [B75, hor]
            with_reducible refine inl75 ?_
            simp -dsimp (discharger := omega) [B75, hor]
            exact hret 0 2 (by omega) ho (by simp) (by simp) (by simp [eIf])
          · simp -dsimp (discharger := omega) [F62L0, hrd, h1]
            with_reducible refine inl75 ?_
            simp -dsimp (discharger := omega) [B75, hor]
            with_reducible refine inl75 ?_
            simp -dsimp (discharger := omega) [B75, hor]
            exact hret 0 2 (by omega) ho (by simp) (by simp) (by simp [eIf])
        · simp -dsimp (discharger := omega) [F62L0, hrd, h1]
          with_reducible refine inl75 ?_
          simp -dsimp (discharger := omega) [B75, hor]
          exact hret 0 2 (by omega) ho (by simp) (by simp) (by simp [eIf])
      · have h57 : 57 < c.toNat := by omega
        by_cases h95 : c.toNat = 95
        · by_cases m1 : 97 ≤ m
          · by_cases m2 : m ≤ 122
            · simp -dsimp (discharger := omega) [F62L0, hrd, h1]
              with_reducible refine inl75 ?_
              simp -dsimp (discharger := omega) [B75, hor]
              with_reducible refine inl75 ?_
              simp -dsimp (discharger := omega) [B75, hor]
              with_reducible refine inl75 ?_
              simp -dsimp (discharger := omega) [B75, hor]
              exact hret 0 2 (by omega) ho (by simp) (by simp) (by simp [eIf])
            · simp -dsimp (discharger := omega) [F62L0, hrd, h1]
              with_reducible refine inl75 ?_
              simp -dsimp (discharger := omega) [B75, hor]
              with_reducible refine inl75 ?_
              simp -dsimp (discharger := omega) [B75, hor]
              exact hret 0 2 (by omega) ho (by simp) (by simp) (by simp [eIf])
          · simp -dsimp (discharger := omega) [F62L0, hrd, h1]
            with_reducible refine inl75 ?_
            simp -dsimp (discharger := omega) [B75, hor]
            exact hret 0 2 (by omega) ho (by simp) (by simp) (by simp [eIf])
        · by_cases m1 : 97 ≤ m
          · by_cases m2 : m ≤ 122
            · simp -dsimp (discharger := omega) [F62L0, hrd, h1]
              with_reducible refine inl75 ?_
              simp -dsimp (discharger := omega) [B75, hor]
              with_reducible refine inl75 ?_
              simp -dsimp (discharger := omega) [B75, hor]
              with_reducible refine inl75 ?_
              simp -dsimp (discharger := omega) [B75, hor]
              exact hret 0 2 (by omega) ho (by simp) (by simp) (by simp [eIf])
            · simp -dsimp (discharger := omega) [F62L0, hrd, h1]
              with_reducible refine inl75 ?_
              simp -dsimp (discharger := omega) [B75, hor]
              with_reducible refine inl75 ?_
              simp -dsimp (discharger := omega) [B75, hor]
              exact hret 0 2 (by omega) ho (by simp) (by simp) (by simp [eIf])
          · simp -dsimp (discharger := omega) [F62L0, hrd, h1]
            with_reducible refine inl75 ?_
            simp -dsimp (discharger := omega) [B75, hor]
            exact hret 0 2 (by omega) ho (by simp) (by simp) (by simp [eIf])
end
end Go.Proofs.YtbgjcoochdljfaaDoorR.Am
