/- Contracts and plain facts (LW). -/
import Derived.Test.YtmmcnholpnediaaDoorLT
namespace Go.Proofs.YtmmcnholpnediaaDoor.Am
noncomputable section
/- CONTRACTS OF GO's LIBRARY: strconv.Atoi. -/
def sgn : List UInt8 → Bool
  | 45 :: _ => true
  | _ => false
def unS (s : List UInt8) : List UInt8 := match s with
  | [] => []
  | c :: t => if c = 43 ∨ c = 45 then t else s
def atoiO (s : List UInt8) : Option Int := if okU (unS s) 18446744073709551615 then
    (if s.head? = some 45 then (if decV (unS s) ≤ 9223372036854775808 then some (-((decV (unS s) : Nat) : Int)) else none)
      else (if decV (unS s) < 9223372036854775808 then some ((decV (unS s) : Nat) : Int) else none)) else none
def PIV (s : List UInt8) (v : Value) : Prop := ∃ (x : Int) (e : Value), v = .tuple #[.int .i64 x, e] ∧ -9223372036854775808 ≤ x ∧ x < 9223372036854775808 ∧ (atoiO s = some x ∧ e = .nilIface ∨ atoiO s = none ∧ ∃ c : Int, (c = 1 ∨ c = 2) ∧ e = eIf c)
theorem PIV.bad {s : List UInt8} {x : Int} {c : Int} (h : atoiO s = none) (h0 : -9223372036854775808 ≤ x) (h1 : x < 9223372036854775808) (hc : c = 1 ∨ c = 2) : PIV s (.tuple #[.int .i64 x, eIf c]) := ⟨x, _, rfl, h0, h1, .inr ⟨h, c, hc, rfl⟩⟩
theorem PIV.good {s : List UInt8} {x : Int} (h : atoiO s = some x) (h0 : -9223372036854775808 ≤ x) (h1 : x < 9223372036854775808) : PIV s (.tuple #[.int .i64 x, .nilIface]) := ⟨x, _, rfl, h0, h1, .inl ⟨h, rfl⟩⟩
theorem okU_nil (M : Nat) : okU [] M = false := rfl
theorem u8b (a b : UInt8) : (((a.toNat : Nat) : Int) == ((b.toNat : Nat) : Int)) = (a == b) := by
  rw [natEq]
  by_cases hxy : a = b
  · subst hxy; simp
  · have : a.toNat ≠ b.toNat := fun z => hxy (UInt8.toNat_inj.1 z)
    rw [beq_eq_false_iff_ne.2 this, beq_eq_false_iff_ne.2 hxy]
theorem conv_hi {u : Nat} (h : u < 9223372036854775808) : IntKind.i64.wrap (u : Int) = (u : Int) := wrap64 (by omega) (by omega)
theorem conv_edge : IntKind.i64.wrap 9223372036854775808 = -9223372036854775808 := rfl
set_option maxRecDepth 100000 in
theorem parseInt_ret {s : List UInt8} (ht : s.length < 100000) {h : AHeap} {n : Nat} (hw : WF h n) :
    ∃ v, PIV s v ∧ Ret EV15 79 [.string ⟨s.toArray⟩, .int .i64 10, .int .i64 0] h n v [] (n + 1) := by
  refine rex79 ?_
  cases s with
  | nil =>
    simp -dsimp (discharger := omega) [B79]
    exact ⟨PIV.bad rfl (by omega) (by omega) (.inr rfl), .refl _⟩
  | cons c t =>
    have hc := c.toNat_lt
    have htl : t.length < 100000 := by simp only [List.length_cons] at ht; omega
    have sh63 : shlI .u64 1 63 = 9223372036854775808 := rfl
    by_cases c43 : c = 43
    · subst c43
      have e43 : ((43 : UInt8).toNat : Int) = 43 := rfl
      have hun : unS (43 :: t) = t := rfl
      have hneg : ¬ (43 :: t : List UInt8).head? = some 45 := by simp
      obtain ⟨v, ⟨x, e, ⟨hx, hp⟩, rfl⟩, hret⟩ := parseUint_ret htl (b := 0) (.inl ⟨rfl, rfl⟩) hw
      simp -dsimp (discharger := omega) [B79, e43]
      with_reducible refine call_ret hret ?_
      rcases hp with ⟨ho, rfl, rfl⟩ | ⟨ho, k, ⟨rfl, rfl⟩ | ⟨rfl, rfl⟩, rfl⟩
      · by_cases hlt : decV t < 9223372036854775808
        · have hA : atoiO (43 :: t) = some ((decV t : Nat) : Int) := by unfold atoiO; rw [hun, ho, if_pos rfl, if_neg hneg, if_pos hlt]
          simp -dsimp (discharger := omega) [sh63]
          exact ⟨PIV.good hA (by omega) (by omega), .refl _⟩
        · have hA : atoiO (43 :: t) = none := by unfold atoiO; rw [hun, ho, if_pos rfl, if_neg hneg, if_neg hlt]
          simp -dsimp (discharger := omega) [sh63]
          exact ⟨PIV.bad (c := 1) hA (by omega) (by omega) (.inl rfl), .refl _⟩
      · have hA : atoiO (43 :: t) = none := by rw [atoiO, hun, ho]; rfl
        simp -dsimp (discharger := omega) [sh63, eIf]
        exact ⟨PIV.bad (c := 1) hA (by omega) (by omega) (.inl rfl), .refl _⟩
      · have hA : atoiO (43 :: t) = none := by rw [atoiO, hun, ho]; rfl
        simp -dsimp (discharger := omega) [sh63, eIf]
        exact ⟨PIV.bad (c := 2) hA (by omega) (by omega) (.inr rfl), .refl _⟩
    · by_cases c45 : c = 45
      · subst c45
        have e45 : ((45 : UInt8).toNat : Int) = 45 := rfl
        have hun : unS (45 :: t) = t := rfl
        have hneg : (45 :: t : List UInt8).head? = some 45 := rfl
        obtain ⟨v, ⟨x, e, ⟨hx, hp⟩, rfl⟩, hret⟩ := parseUint_ret htl (b := 0) (.inl ⟨rfl, rfl⟩) hw
        simp -dsimp (discharger := omega) [B79, e45]
        with_reducible refine call_ret hret ?_
        rcases hp with ⟨ho, rfl, rfl⟩ | ⟨ho, k, ⟨rfl, rfl⟩ | ⟨rfl, rfl⟩, rfl⟩
        · by_cases hlt : decV t ≤ 9223372036854775808
          · have hA : atoiO (45 :: t) = some (-((decV t : Nat) : Int)) := by unfold atoiO; rw [hun, ho, if_pos rfl, if_pos hneg, if_pos hlt]
            have hw2 : IntKind.i64.wrap (-IntKind.i64.wrap ((decV t : Nat) : Int)) = -((decV t : Nat) : Int) := by
              rcases Nat.lt_or_ge (decV t) 9223372036854775808 with h | h
              · rw [conv_hi h, wrap64 (by omega) (by omega)]
              · have : decV t = 9223372036854775808 := by omega
                rw [this]; rfl
            simp -dsimp (discharger := omega) [sh63, hw2]
            exact ⟨PIV.good hA (by omega) (by omega), .refl _⟩
          · have hA : atoiO (45 :: t) = none := by unfold atoiO; rw [hun, ho, if_pos rfl, if_pos hneg, if_neg hlt]
            have hw2 : IntKind.i64.wrap (-IntKind.i64.wrap 9223372036854775808) = -9223372036854775808 := rfl
            simp -dsimp (discharger := omega) [sh63, hw2]
            exact ⟨PIV.bad (c := 1) hA (by omega) (by omega) (.inl rfl), .refl _⟩
        · have hA : atoiO (45 :: t) = none := by rw [atoiO, hun, ho]; rfl
          have hw2 : IntKind.i64.wrap (-IntKind.i64.wrap 9223372036854775808) = -9223372036854775808 := rfl
          simp -dsimp (discharger := omega) [sh63, eIf, hw2]
          exact ⟨PIV.bad (c := 1) hA (by omega) (by omega) (.inl rfl), .refl _⟩
        · have hA : atoiO (45 :: t) = none := by rw [atoiO, hun, ho]; rfl
          simp -dsimp (discharger := omega) [sh63, eIf]
          exact ⟨PIV.bad (c := 2) hA (by omega) (by omega) (.inr rfl), .refl _⟩
      · have n43 : ¬ (c.toNat : Int) = 43 := fun e => c43 (UInt8.toNat_inj.1 (by show c.toNat = 43; omega))
        have n45 : ¬ (c.toNat : Int) = 45 := fun e => c45 (UInt8.toNat_inj.1 (by show c.toNat = 45; omega))
        have hun : unS (c :: t) = c :: t := by simp [unS, c43, c45]
        have hneg : ¬ (c :: t : List UInt8).head? = some 45 := by simp [c45]
        obtain ⟨v, ⟨x, e, ⟨hx, hp⟩, rfl⟩, hret⟩ := parseUint_ret ht (b := 0) (.inl ⟨rfl, rfl⟩) hw
        simp -dsimp (discharger := omega) [B79, n43, n45]
        with_reducible refine call_ret hret ?_
        rcases hp with ⟨ho, rfl, rfl⟩ | ⟨ho, k, ⟨rfl, rfl⟩ | ⟨rfl, rfl⟩, rfl⟩
        · by_cases hlt : decV (c :: t) < 9223372036854775808
          · have hA : atoiO (c :: t) = some ((decV (c :: t) : Nat) : Int) := by unfold atoiO; rw [hun, ho, if_pos rfl, if_neg hneg, if_pos hlt]
            simp -dsimp (discharger := omega) [sh63]
            exact ⟨PIV.good hA (by omega) (by omega), .refl _⟩
          · have hA : atoiO (c :: t) = none := by unfold atoiO; rw [hun, ho, if_pos rfl, if_neg hneg, if_neg hlt]
            simp -dsimp (discharger := omega) [sh63]
            exact ⟨PIV.bad (c := 1) hA (by omega) (by omega) (.inl rfl), .refl _⟩
        · have hA : atoiO (c :: t) = none := by rw [atoiO, hun, ho]; rfl
          simp -dsimp (discharger := omega) [sh63, eIf]
          exact ⟨PIV.bad (c := 1) hA (by omega) (by omega) (.inl rfl), .refl _⟩
        · have hA : atoiO (c :: t) = none := by rw [atoiO, hun, ho]; rfl
          simp -dsimp (discharger := omega) [sh63, eIf]
          exact ⟨PIV.bad (c := 2) hA (by omega) (by omega) (.inr rfl), .refl _⟩
end
end Go.Proofs.YtmmcnholpnediaaDoor.Am
