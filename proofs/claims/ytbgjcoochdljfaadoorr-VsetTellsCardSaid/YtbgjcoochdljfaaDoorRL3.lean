/- Contracts and plain facts (L3). -/
import Derived.Test.YtbgjcoochdljfaaDoorRL2
namespace Go.Proofs.YtbgjcoochdljfaaDoorR.Am
noncomputable section
/- PLAIN FACTS: decimal texts of numbers. -/
theorem shrI_pos (k : IntKind) {a : Int} (h : 0 ≤ a) (j : Nat) (hj : j ≤ k.bits) : shrI k a (j : Int) = a / ((2 ^ j : Nat) : Int) := by
  obtain ⟨m, rfl⟩ : ∃ m : Nat, a = (m : Int) := ⟨a.toNat, by omega⟩
  rw [shrI_nat, Nat.min_eq_left hj]; rfl
theorem tmodP {a b : Int} (h : 0 ≤ a) : Int.tmod a b = a % b := Int.tmod_eq_emod_of_nonneg h
theorem tdivP {a b : Int} (h : 0 ≤ a) : Int.tdiv a b = a / b := Int.tdiv_eq_ediv_of_nonneg h
theorem cset {l : List UInt8} {i : Nat} (h : i < l.length) (x : UInt8) : List.take i (u8s l) ++ Value.int .u8 (x.toNat : Int) :: List.drop (i + 1) (u8s l) = u8s (l.set i x) := by
  have : u8s (l.set i x) = (u8s l).set i (.int .u8 (x.toNat : Int)) := by simp [u8s, List.map_set]
  rw [this, List.set_eq_take_append_cons_drop, if_pos (by simpa using h)]
def dgs : Nat → Nat → List UInt8
  | 0, _ => []
  | k + 1, u => dgs k (u / 10) ++ [UInt8.ofNat (48 + u % 10)]
@[simp] theorem dgs_len : ∀ k u, (dgs k u).length = k
  | 0, _ => rfl
  | k + 1, u => by simp [dgs, dgs_len k]
def ndig (u : Nat) : Nat := if u < 10 then 1 else ndig (u / 10) + 1
termination_by u
decreasing_by omega
theorem ndig_of : ∀ {k u : Nat}, (k = 0 ∨ 10 ^ k ≤ u) → u < 10 ^ (k + 1) → ndig u = k + 1
  | 0, u, _, h => by rw [ndig.eq_def, if_pos (by simpa using h)]
  | k + 1, u, h1, h2 => by
    have h1 : 10 ^ (k + 1) ≤ u := by simpa using h1
    have e1 : 10 ^ (k + 1) = 10 ^ k * 10 := Nat.pow_succ _ _
    have e2 : 10 ^ (k + 1 + 1) = 10 ^ (k + 1) * 10 := Nat.pow_succ _ _
    have hp : 0 < 10 ^ k := Nat.pos_of_ne_zero (by simp)
    rw [ndig.eq_def, if_neg (by omega), ndig_of (k := k) (u := u / 10) (.inr (by omega)) (by omega)]
theorem ndig_pos (u : Nat) : 0 < ndig u := by rw [ndig.eq_def]; split <;> omega
theorem ndig_bounds (u : Nat) : u < 10 ^ ndig u ∧ (ndig u = 1 ∨ 10 ^ (ndig u - 1) ≤ u) := by
  induction u using Nat.strongRecOn with
  | _ u ih =>
    rw [ndig.eq_def]
    split
    · rename_i h; exact ⟨by omega, .inl rfl⟩
    · rename_i h
      obtain ⟨h1, h2⟩ := ih (u / 10) (by omega)
      have e1 : 10 ^ (ndig (u / 10) + 1) = 10 ^ ndig (u / 10) * 10 := Nat.pow_succ _ _
      refine ⟨by omega, .inr ?_⟩
      rw [Nat.add_sub_cancel]
      rcases h2 with h2 | h2
      · rw [h2]; omega
      · have hp := ndig_pos (u / 10)
        have e2 : 10 ^ ndig (u / 10) = 10 ^ (ndig (u / 10) - 1) * 10 := by
          rw [← Nat.pow_succ]; congr 1; omega
        omega
/-- A number's decimal text. -/
def decs (u : Nat) : List UInt8 := dgs (ndig u) u
theorem decs_small {u : Nat} (h : u < 10) : decs u = [UInt8.ofNat (48 + u)] := by
  rw [decs, ndig.eq_def, if_pos h]
  simp only [dgs, List.nil_append]
  rw [Nat.mod_eq_of_lt h]
theorem decs_big {u : Nat} (h : ¬ u < 10) : decs u = decs (u / 10) ++ [UInt8.ofNat (48 + u % 10)] := by
  rw [decs, ndig.eq_def, if_neg h]; rfl
theorem decs_len (u : Nat) : (decs u).length = ndig u := dgs_len _ _
theorem decs_ne (u : Nat) : decs u ≠ [] := fun e => by
  have h1 := decs_len u
  have h2 := ndig_pos u
  rw [e] at h1; simp at h1; omega
/-- The number that digits tell; none: they are none. -/
def isD (c : UInt8) : Bool := decide (48 ≤ c.toNat) && decide (c.toNat ≤ 57)
def decV (s : List UInt8) : Nat := s.foldl (fun a c => 10 * a + (c.toNat - 48)) 0
theorem decV_snoc (s : List UInt8) (c : UInt8) : decV (s ++ [c]) = 10 * decV s + (c.toNat - 48) := by simp [decV, List.foldl_append]
theorem digC {k : Nat} (h : k < 10) : (UInt8.ofNat (48 + k)).toNat = 48 + k := by rw [UInt8.toNat_ofNat', Nat.mod_eq_of_lt (by omega)]
theorem isD_dig {k : Nat} (h : k < 10) : isD (UInt8.ofNat (48 + k)) = true := by simp [isD, digC h]; omega
theorem dgs_isD : ∀ k u, (dgs k u).all isD = true
  | 0, _ => rfl
  | k + 1, u => by
    simp only [dgs, List.all_append, dgs_isD k, Bool.true_and]
    rw [List.all_cons, isD_dig (Nat.mod_lt u (by omega : 0 < 10))]; rfl
theorem dgs_val : ∀ k u, decV (dgs k u) = u % 10 ^ k
  | 0, u => by simp [dgs, decV, Nat.mod_one]
  | k + 1, u => by
    simp only [dgs, decV_snoc, dgs_val k]
    rw [digC (Nat.mod_lt u (by omega)), Nat.pow_succ, Nat.mul_comm (10 ^ k) 10, Nat.mod_mul]
    omega
theorem decs_val (u : Nat) : decV (decs u) = u := by
  rw [decs, dgs_val, Nat.mod_eq_of_lt (ndig_bounds u).1]
theorem decs_isD (u : Nat) : (decs u).all isD = true := dgs_isD _ _
theorem snoc_of {α : Type} {s : List α} {k : Nat} (h : s.length = k + 1) : ∃ l c, s = l ++ [c] := by
  have hne : s ≠ [] := by intro e; rw [e] at h; simp at h
  exact ⟨s.dropLast, s.getLast hne, (List.dropLast_concat_getLast hne).symm⟩
theorem decV_lt (s : List UInt8) (h : s.all isD = true) : decV s < 10 ^ s.length := by
  obtain ⟨k, hk⟩ : ∃ k, s.length = k := ⟨_, rfl⟩
  induction k generalizing s with
  | zero => rw [List.eq_nil_of_length_eq_zero hk]; simp [decV]
  | succ k ih =>
    obtain ⟨l, c, rfl⟩ := snoc_of hk
    simp only [List.all_append, Bool.and_eq_true] at h
    have := ih l h.1 (by simpa using hk)
    have hc : isD c = true := by simpa using h.2
    simp [isD] at hc
    rw [decV_snoc, List.length_append, List.length_singleton, Nat.pow_succ]
    omega
/-- Digits without noughts in front are the text of their number. -/
theorem dgs_of : ∀ (k : Nat) (s : List UInt8), s.length = k → s.all isD = true → dgs k (decV s) = s
  | 0, s, h, _ => by rw [List.eq_nil_of_length_eq_zero h]; rfl
  | k + 1, s, h, hd => by
    obtain ⟨l, c, rfl⟩ : ∃ l c, s = l ++ [c] := snoc_of h
    simp only [List.all_append, Bool.and_eq_true] at hd
    have hc : isD c = true := by simpa using hd.2
    simp [isD] at hc
    rw [decV_snoc]
    simp only [dgs]
    have e1 : (10 * decV l + (c.toNat - 48)) / 10 = decV l := by omega
    have e2 : (10 * decV l + (c.toNat - 48)) % 10 = c.toNat - 48 := by omega
    rw [e1, e2, dgs_of k l (by simpa using h) hd.1, show 48 + (c.toNat - 48) = c.toNat by omega, UInt8.ofNat_toNat]
def canon (s : List UInt8) : Bool := s.all isD && !s.isEmpty && (s.length == 1 || s.head? != some 48)
theorem dgs_head : ∀ (k u : Nat), 10 ^ k ≤ u → u < 10 ^ (k + 1) → (dgs (k + 1) u).head? ≠ some 48
  | 0, u, h1, h2 => by
    have h1 : 1 ≤ u := by simpa using h1
    have h2 : u < 10 := by simpa using h2
    simp only [dgs, List.nil_append, List.head?_cons, Option.some.injEq, ne_eq]
    intro e
    have := congrArg UInt8.toNat e
    rw [digC (Nat.mod_lt u (by omega)), Nat.mod_eq_of_lt h2] at this
    have e48 : (48 : UInt8).toNat = 48 := rfl
    omega
  | k + 1, u, h1, h2 => by
    have e1 : 10 ^ (k + 1) = 10 ^ k * 10 := Nat.pow_succ _ _
    have e2 : 10 ^ (k + 1 + 1) = 10 ^ (k + 1) * 10 := Nat.pow_succ _ _
    have ih := dgs_head k (u / 10) (by omega) (by omega)
    have hne : dgs (k + 1) (u / 10) ≠ [] := fun e => by have := dgs_len (k + 1) (u / 10); rw [e] at this; simp at this
    show (dgs (k + 1) (u / 10) ++ _).head? ≠ some 48
    cases hd : dgs (k + 1) (u / 10) with
    | nil => exact absurd hd hne
    | cons a l => rw [hd] at ih; exact ih
theorem decs_canon (u : Nat) : canon (decs u) = true := by
  have hb := ndig_bounds u
  have hl := decs_len u
  have hp := ndig_pos u
  have hd := decs_isD u
  have hne : (decs u).isEmpty = false := by
    cases h : decs u with
    | nil => exact absurd h (decs_ne u)
    | cons a l => rfl
  unfold canon
  rw [hd, hne, hl]
  rcases hb.2 with h1 | h1
  · rw [h1]; rfl
  · obtain ⟨k, hk⟩ : ∃ k, ndig u = k + 1 := ⟨ndig u - 1, by omega⟩
    by_cases hk0 : ndig u = 1
    · rw [hk0]; rfl
    have hh : (decs u).head? ≠ some 48 := by
      rw [decs, hk]
      rw [hk] at h1 hb
      exact dgs_head k u (by simpa using h1) hb.1
    simp [hh]
theorem canon_dec {s : List UInt8} (h : canon s = true) : decs (decV s) = s := by
  simp only [canon, Bool.and_eq_true, Bool.or_eq_true, Bool.not_eq_true', beq_iff_eq, bne_iff_ne, ne_eq] at h
  obtain ⟨⟨hd, hne⟩, hz⟩ := h
  have hlt := decV_lt s hd
  obtain ⟨k, hk⟩ : ∃ k, s.length = k + 1 := by
    cases s with
    | nil => simp at hne
    | cons a l => exact ⟨l.length, rfl⟩
  have hn : ndig (decV s) = k + 1 := by
    rw [hk] at hlt
    apply ndig_of _ hlt
    rcases hz with h1 | h1
    · left; omega
    · by_cases k0 : k = 0
      · exact .inl k0
      right
      obtain ⟨j, hj⟩ : ∃ j, k = j + 1 := ⟨k - 1, by omega⟩
      cases s with
      | nil => simp at hk
      | cons a l =>
        -- the first digit is not 0
        have ha : isD a = true := by simp only [List.all_cons, Bool.and_eq_true] at hd; exact hd.1
        simp [isD] at ha
        have ha1 : 49 ≤ a.toNat := by
          rcases Nat.lt_or_ge a.toNat 49 with h | h
          · exfalso; apply h1
            have : a = 48 := UInt8.toNat_inj.1 (by show a.toNat = 48; omega)
            rw [this]; rfl
          · exact h
        have key : ∀ (l : List UInt8) (x : Nat), 10 ^ l.length * x ≤ l.foldl (fun a c => 10 * a + (c.toNat - 48)) x := by
          intro l
          induction l with
          | nil => intro x; simp
          | cons b l ih =>
            intro x
            simp only [List.foldl_cons, List.length_cons]
            refine Nat.le_trans ?_ (ih _)
            rw [Nat.pow_succ, Nat.mul_assoc]
            exact Nat.mul_le_mul_left _ (by omega)
        have hk2 : l.length = k := by simpa using hk
        have := key l (10 * 0 + (a.toNat - 48))
        rw [hk2] at this
        show 10 ^ k ≤ decV (a :: l)
        unfold decV
        simp only [List.foldl_cons]
        refine Nat.le_trans ?_ this
        exact Nat.le_mul_of_pos_right _ (by omega)
  rw [decs, hn]
  exact dgs_of (k + 1) s hk hd
theorem decs_inj {a b : Nat} (h : decs a = decs b) : a = b := by rw [← decs_val a, ← decs_val b, h]
theorem dec_canon_iff (s : List UInt8) : decs (decV s) = s ↔ canon s = true := ⟨fun h => by rw [← h]; exact decs_canon _, canon_dec⟩
/-- What a text tells as a number without noughts in front. -/
def numI (s : List UInt8) : Int := if canon s = true ∧ decV s < 9223372036854775808 then (decV s : Int) else -1
end
end Go.Proofs.YtbgjcoochdljfaaDoorR.Am
