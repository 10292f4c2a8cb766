/- Contracts and plain facts (LY). -/
import Derived.Test.YtmmcnholpnediaaDoorLW
namespace Go.Proofs.YtmmcnholpnediaaDoor.Am
noncomputable section
/- CONTRACTS OF GO's LIBRARY: strconv.Atoi. -/
def ATInv (s t : List UInt8) (z : Nat) (h0 : AHeap) (n0 : Nat) (r : Nat) (σ : Fr) (h : AHeap) (n : Nat) : Prop :=
  n = n0 ∧ h = h0 ∧ ∃ i, i + r = t.length ∧ (t.take i).all isD = true ∧
    σ = [(5, .string ⟨s.toArray⟩), (6, .int .i64 ((decV (t.take i) : Nat) : Int)), (47, .slice (some ⟨z, 0, some t.length⟩) t.length 2), (48, .int .i64 (t.length : Int)), (49, .int .i64 (i : Int))]
def ATPost (s t : List UInt8) (h0 : AHeap) (n0 : Nat) (e : Ex) (σ' : Fr) (h' : AHeap) (n' : Nat) : Prop :=
  n' = n0 ∧ h' = h0 ∧ (e = .exit 0 ∧ t.all isD = true ∧ σ'.get 5 = some (.string ⟨s.toArray⟩) ∧ σ'.get 6 = some (.int .i64 ((decV t : Nat) : Int)) ∨
    e = .ret ∧ t.all isD = false ∧ σ'.get 2 = some (.int .i64 0) ∧ σ'.get 3 = some (eIf 2))
theorem at_loop {s t : List UInt8} (ht : t.length < 19) {z : Nat} {h0 : AHeap} (hz : h0.get z = some (.cells (some 5) (u8s t) t.length)) {n0 : Nat} :
    ∀ (r : Nat) (σ : Fr) (h : AHeap) (n : Nat), ATInv s t z h0 n0 r σ h n → HasCode EV15 (.loop F66L0) σ h n (ATPost s t h0 n0) := by
  refine wx_inv _ fun r σ h n hI => ?_
  obtain ⟨rfl, rfl, i, hi, hd, rfl⟩ := hI
  have hrd := AHeap.read_of hz
  cases r with
  | zero =>
    obtain rfl : i = t.length := by omega
    rw [List.take_length] at hd
    simp -dsimp (discharger := omega) [F66L0]
    exact ⟨rfl, rfl, .inl ⟨rfl, hd, by simp, by simp⟩⟩
  | succ r =>
    have hlt : i < t.length := by omega
    have hx := List.getElem?_eq_getElem hlt
    generalize t[i] = c at hx
    have hc := c.toNat_lt
    have h1 := take1 (u8s_get? hx)
    have hsn : decV (t.take (i + 1)) = 10 * decV (t.take i) + (c.toNat - 48) := by rw [take_snoc hx, decV_snoc]
    have hda : (t.take (i + 1)).all isD = isD c := by rw [take_snoc hx, List.all_append, hd]; simp
    have hV := decV_lt _ hd
    have hp : 10 ^ (t.take i).length ≤ 10 ^ 17 := Nat.pow_le_pow_right (by omega) (by rw [List.length_take]; omega)
    generalize decV (t.take i) = V at *
    have hbad : isD c = false → t.all isD = false := fun hdc => by
      rw [Bool.eq_false_iff]
      intro h
      have := List.all_eq_true.1 h c (List.mem_of_getElem? hx)
      rw [hdc] at this; cases this
    by_cases d0 : 48 ≤ c.toNat
    · by_cases d1 : c.toNat ≤ 57
      · have hdc : isD c = true := by simp [isD, d0, d1]
        simp -dsimp (discharger := omega) [F66L0, hrd, h1]
        exact .mk' r (by omega) [(5, .string ⟨s.toArray⟩), (6, .int .i64 ((decV (t.take (i + 1)) : Nat) : Int)), (47, .slice (some ⟨z, 0, some t.length⟩) t.length 2), (48, .int .i64 (t.length : Int)), (49, .int .i64 ((i + 1 : Nat) : Int))] h (by simp [hsn]; omega) (.refl _) ⟨rfl, rfl, i + 1, by omega, by rw [hda, hdc], rfl⟩
      · have hdc : isD c = false := by simp [isD]; omega
        simp -dsimp (discharger := omega) [F66L0, hrd, h1]
        exact ⟨rfl, rfl, .inr ⟨rfl, hbad hdc, by simp, by simp [eIf]⟩⟩
    · have hdc : isD c = false := by simp [isD]; omega
      have hw : IntKind.u8.wrap ((c.toNat : Int) - 48) = (c.toNat : Int) + 208 := by
        simp only [IntKind.wrap, IntKind.bits, IntKind.signed]
        simp
        omega
      simp -dsimp (discharger := omega) [F66L0, hrd, h1, hw]
      exact ⟨rfl, rfl, .inr ⟨rfl, hbad hdc, by simp, by simp [eIf]⟩⟩
theorem okU_of {t : List UInt8} (h : t.all isD = true) (h0 : t ≠ []) {M : Nat} (hM : decV t ≤ M) : okU t M = true := by
  simp only [okU, h, isE h0, decide_eq_true hM]; rfl
theorem okU_not {t : List UInt8} (h : t.all isD = false) (M : Nat) : okU t M = false := by
  rw [okU, h]; rfl
theorem iatoi_ret {s : List UInt8} (ht : s.length < 100000) {h : AHeap} {n : Nat} (hw : WF h n) :
    ∃ v, PIV s v ∧ Ret EV15 66 [.string ⟨s.toArray⟩] h n v [] (n + 1) := by
  by_cases hl : 0 < s.length ∧ s.length < 19
  · cases s with
    | nil => simp at hl
    | cons c t =>
      have hc := c.toNat_lt
      have htl : t.length < 18 := by simp only [List.length_cons] at hl; omega
      refine rex66 ?_
      by_cases c43 : c = 43
      · subst c43
        have e43 : ((43 : UInt8).toNat : Int) = 43 := rfl
        have hun : unS (43 :: t) = t := rfl
        have hneg : ¬ (43 :: t : List UInt8).head? = some 45 := by simp
        by_cases h0 : t = []
        · subst h0
          simp -dsimp (discharger := omega) [B66, e43]
          exact ⟨PIV.bad (c := 2) rfl (by omega) (by omega) (.inr rfl), .refl _⟩
        · have hpos : 0 < t.length := List.length_pos_iff.2 h0
          have hst : HSub h (h.put n (.cells (some 5) (u8s t) t.length)) := (HSub.refl h).new hw (Nat.le_refl n) _
          simp -dsimp (discharger := omega) [B66, e43]
          refine loop_use (at_loop (s := 43 :: t) (t := t) (by omega) (z := n) (h0 := h.put n (.cells (some 5) (u8s t) t.length)) (by simp) (n0 := n + 1) t.length [(5, .string ⟨(43 :: t).toArray⟩), (6, .int .i64 ((decV (t.take 0) : Nat) : Int)), (47, .slice (some ⟨n, 0, some t.length⟩) t.length 2), (48, .int .i64 (t.length : Int)), (49, .int .i64 ((0 : Nat) : Int))] _ _ ⟨rfl, rfl, 0, by omega, rfl, rfl⟩) (by simp [decV]) (.refl _) ?_
          rintro e σ' h' n' ⟨rfl, rfl, ⟨rfl, h1, g5, g6⟩ | ⟨rfl, ho, g2, g3⟩⟩
          · have hV := decV_lt _ h1
            have hp : 10 ^ t.length ≤ 10 ^ 18 := Nat.pow_le_pow_right (by omega) (by omega)
            have hA : atoiO (43 :: t) = some ((decV t : Nat) : Int) := by unfold atoiO; rw [hun, okU_of h1 h0 (by omega), if_pos rfl, if_neg hneg, if_pos (by omega)]
            simp -dsimp (discharger := omega) [g5, g6, e43]
            exact ⟨PIV.good hA (by omega) (by omega), hst⟩
          · have hA : atoiO (43 :: t) = none := by unfold atoiO; rw [hun, okU_not ho]; rfl
            simp -dsimp (discharger := omega) [g2, g3]
            exact ⟨PIV.bad (c := 2) hA (by omega) (by omega) (.inr rfl), hst⟩
      · by_cases c45 : c = 45
        · subst c45
          have e45 : ((45 : UInt8).toNat : Int) = 45 := rfl
          have hun : unS (45 :: t) = t := rfl
          have hneg : (45 :: t : List UInt8).head? = some 45 := rfl
          by_cases h0 : t = []
          · subst h0
            simp -dsimp (discharger := omega) [B66, e45]
            exact ⟨PIV.bad (c := 2) rfl (by omega) (by omega) (.inr rfl), .refl _⟩
          · have hpos : 0 < t.length := List.length_pos_iff.2 h0
            have hst : HSub h (h.put n (.cells (some 5) (u8s t) t.length)) := (HSub.refl h).new hw (Nat.le_refl n) _
            simp -dsimp (discharger := omega) [B66, e45]
            refine loop_use (at_loop (s := 45 :: t) (t := t) (by omega) (z := n) (h0 := h.put n (.cells (some 5) (u8s t) t.length)) (by simp) (n0 := n + 1) t.length [(5, .string ⟨(45 :: t).toArray⟩), (6, .int .i64 ((decV (t.take 0) : Nat) : Int)), (47, .slice (some ⟨n, 0, some t.length⟩) t.length 2), (48, .int .i64 (t.length : Int)), (49, .int .i64 ((0 : Nat) : Int))] _ _ ⟨rfl, rfl, 0, by omega, rfl, rfl⟩) (by simp [decV]) (.refl _) ?_
            rintro e σ' h' n' ⟨rfl, rfl, ⟨rfl, h1, g5, g6⟩ | ⟨rfl, ho, g2, g3⟩⟩
            · have hV := decV_lt _ h1
              have hp : 10 ^ t.length ≤ 10 ^ 18 := Nat.pow_le_pow_right (by omega) (by omega)
              have hA : atoiO (45 :: t) = some (-((decV t : Nat) : Int)) := by unfold atoiO; rw [hun, okU_of h1 h0 (by omega), if_pos rfl, if_pos hneg, if_pos (by omega)]
              simp -dsimp (discharger := omega) [g5, g6, e45]
              exact ⟨PIV.good hA (by omega) (by omega), hst⟩
            · have hA : atoiO (45 :: t) = none := by unfold atoiO; rw [hun, okU_not ho]; rfl
              simp -dsimp (discharger := omega) [g2, g3]
              exact ⟨PIV.bad (c := 2) hA (by omega) (by omega) (.inr rfl), hst⟩
        · have n43 : ¬ (c.toNat : Int) = 43 := fun e => c43 (UInt8.toNat_inj.1 (by show c.toNat = 43; omega))
          have n45 : ¬ (c.toNat : Int) = 45 := fun e => c45 (UInt8.toNat_inj.1 (by show c.toNat = 45; omega))
          have hun : unS (c :: t) = c :: t := by simp [unS, c43, c45]
          have hneg : ¬ (c :: t : List UInt8).head? = some 45 := by simp [c45]
          have h0 : (c :: t) ≠ [] := by simp
          have hx0 : (c :: t)[0]? = some c := rfl
          generalize hS : c :: t = S at *
          have hst : HSub h (h.put n (.cells (some 5) (u8s S) S.length)) := (HSub.refl h).new hw (Nat.le_refl n) _
          simp -dsimp (discharger := omega) [B66, hx0, n43, n45, -getElem?_pos]
          refine loop_use (at_loop (s := S) (t := S) (by omega) (z := n) (h0 := h.put n (.cells (some 5) (u8s S) S.length)) (by simp) (n0 := n + 1) S.length [(5, .string ⟨S.toArray⟩), (6, .int .i64 ((decV (S.take 0) : Nat) : Int)), (47, .slice (some ⟨n, 0, some S.length⟩) S.length 2), (48, .int .i64 (S.length : Int)), (49, .int .i64 ((0 : Nat) : Int))] _ _ ⟨rfl, rfl, 0, by omega, rfl, rfl⟩) (by simp [decV]) (.refl _) ?_
          rintro e σ' h' n' ⟨rfl, rfl, ⟨rfl, h1, g5, g6⟩ | ⟨rfl, ho, g2, g3⟩⟩
          · have hV := decV_lt _ h1
            have hp : 10 ^ S.length ≤ 10 ^ 18 := Nat.pow_le_pow_right (by omega) (by omega)
            have hA : atoiO S = some ((decV S : Nat) : Int) := by unfold atoiO; rw [hun, okU_of h1 h0 (by omega), if_pos rfl, if_neg hneg, if_pos (by omega)]
            simp -dsimp (discharger := omega) [g5, g6, hx0, n45, -getElem?_pos]
            exact ⟨PIV.good hA (by omega) (by omega), hst⟩
          · have hA : atoiO S = none := by unfold atoiO; rw [hun, okU_not ho]; rfl
            simp -dsimp (discharger := omega) [g2, g3]
            exact ⟨PIV.bad (c := 2) hA (by omega) (by omega) (.inr rfl), hst⟩
  · obtain ⟨v, ⟨x, e, rfl, h0, h1, hp⟩, hret⟩ := parseInt_ret ht hw
    refine rex66 ?_
    have hl2 : s.length = 0 ∨ 0 < s.length ∧ ¬ s.length < 19 := by omega
    rcases hl2 with hl2 | ⟨hl2, hl3⟩
    · simp -dsimp (discharger := omega) [B66]
      with_reducible refine call_ret hret ?_
      simp -dsimp (discharger := omega) []
      exact ⟨⟨x, e, rfl, h0, h1, hp⟩, .refl _⟩
    · simp -dsimp (discharger := omega) [B66]
      with_reducible refine call_ret hret ?_
      simp -dsimp (discharger := omega) []
      exact ⟨⟨x, e, rfl, h0, h1, hp⟩, .refl _⟩
end
end Go.Proofs.YtmmcnholpnediaaDoor.Am
