/- Contracts and plain facts (L4). -/
import Derived.Test.YtmmcnholpnediaaDoorL3
namespace Go.Proofs.YtmmcnholpnediaaDoor.Am
noncomputable section
/- PLAIN LAW: an address's text, parted at points, or read byte by byte. -/
def octV (p : List UInt8) : Option Nat := if canon p = true ∧ decV p ≤ 255 then some (decV p) else none
def octs : List (List UInt8) → Nat → Option Nat
  | [], a => some a
  | p :: ps, a => match octV p with
    | none => none
    | some v => octs ps (256 * a + v)
def ipO (s : List UInt8) : Option Nat := if (splitL 46 s).length = 4 then octs (splitL 46 s) 0 else none
def dspan (r : List UInt8) : List UInt8 := (r.take 4).takeWhile isD
def docK : Nat → List UInt8 → Nat → Option Nat
  | 0, _, _ => none
  | m + 1, r, a => match octV (dspan r) with
    | none => none
    | some v => if m = 0 then (if r.drop (dspan r).length = [] then some (256 * a + v) else none) else
      match r.drop (dspan r).length with
      | [] => none
      | c :: r3 => if c = 46 then docK m r3 (256 * a + v) else none
theorem docK_s (m : Nat) (r : List UInt8) (a : Nat) : docK (m + 1) r a = match octV (dspan r) with
    | none => none
    | some v => if m = 0 then (if r.drop (dspan r).length = [] then some (256 * a + v) else none) else
      match r.drop (dspan r).length with
      | [] => none
      | c :: r3 => if c = 46 then docK m r3 (256 * a + v) else none := rfl
theorem octV_some {p : List UInt8} {v : Nat} (h : octV p = some v) : p.all isD = true ∧ 1 ≤ p.length ∧ p.length ≤ 3 ∧ v ≤ 255 ∧ v = decV p := by
  unfold octV at h
  split at h
  · rename_i hc
    cases h
    have e := canon_dec hc.1
    have hb := ndig_bounds (decV p)
    have hl := decs_len (decV p)
    have hp := ndig_pos (decV p)
    rw [e] at hl
    refine ⟨?_, by omega, ?_, hc.2, rfl⟩
    · rw [← e]; exact decs_isD _
    · rcases Nat.lt_or_ge 3 p.length with h | h
      · exfalso
        rcases hb.2 with h1 | h1
        · omega
        · have : 10 ^ 3 ≤ 10 ^ (ndig (decV p) - 1) := Nat.pow_le_pow_right (by omega) (by omega)
          omega
      · exact h
  · cases h
theorem split_pre {c : UInt8} : ∀ (r : List UInt8), (c ∉ r ∧ splitL c r = [r]) ∨ ∃ q r', r = q ++ c :: r' ∧ c ∉ q ∧ splitL c r = q :: splitL c r'
  | [] => .inl ⟨by simp, rfl⟩
  | x :: r => by
    by_cases hx : x = c
    · subst hx
      exact .inr ⟨[], r, rfl, by simp, by simp [splitL]⟩
    · rcases split_pre (c := c) r with ⟨h1, h2⟩ | ⟨q, r', rfl, h1, h2⟩
      · exact .inl ⟨by simp [h1]; exact fun e => hx e.symm, by simp only [splitL, if_neg hx, h2]⟩
      · exact .inr ⟨x :: q, r', rfl, by simp [h1]; exact fun e => hx e.symm, by simp only [splitL, if_neg hx, h2]⟩
theorem dspan_all (r : List UInt8) : (dspan r).all isD = true := by
  unfold dspan
  generalize r.take 4 = l
  induction l with
  | nil => rfl
  | cons a l ih =>
    rw [List.takeWhile_cons]
    split
    · rename_i h; rw [List.all_cons, h, ih]; rfl
    · rfl
theorem dspan_pre (r : List UInt8) : dspan r ++ r.drop (dspan r).length = r := by
  have h : dspan r <+: r := (List.takeWhile_prefix _).trans (List.take_prefix _ _)
  obtain ⟨t, ht⟩ := h
  have : r.drop (dspan r).length = t := by
    have h2 := List.drop_left' (l₁ := dspan r) (l₂ := t) rfl
    rwa [ht] at h2
  rw [this, ht]
theorem tw_all {p : List UInt8} (hp : p.all isD = true) : p.takeWhile isD = p := by
  induction p with
  | nil => rfl
  | cons a l ih =>
    simp only [List.all_cons, Bool.and_eq_true] at hp
    rw [List.takeWhile_cons, if_pos hp.1, ih hp.2]
theorem dspan_of {p t : List UInt8} (hp : p.all isD = true) (hl : p.length ≤ 3) (ht : t = [] ∨ ∃ c t', t = c :: t' ∧ isD c = false) : dspan (p ++ t) = p := by
  unfold dspan
  rw [List.take_append]
  have e : p.take 4 = p := List.take_of_length_le (by omega)
  rw [e, List.takeWhile_append]
  have hw : p.takeWhile isD = p := tw_all hp
  rw [hw, if_pos rfl]
  rcases ht with rfl | ⟨c, t', rfl, hc⟩
  · simp
  · obtain ⟨k, hk⟩ : ∃ k, 4 - p.length = k + 1 := ⟨3 - p.length, by omega⟩
    rw [hk, List.take_succ_cons, List.takeWhile_cons, hc]; simp
theorem isD_46 : isD 46 = false := rfl
theorem isD_47 : isD 47 = false := rfl
theorem dig_not {p : List UInt8} (hp : p.all isD = true) {c : UInt8} (hc : isD c = false) : c ∉ p := fun h => by
  have := List.all_eq_true.1 hp c h
  rw [hc] at this; cases this
theorem uniq_pre {c : UInt8} : ∀ {q p r s : List UInt8}, c ∉ q → c ∉ p → q ++ c :: r = p ++ c :: s → q = p ∧ r = s
  | [], [], r, s, _, _, h => by simpa using h
  | [], b :: p, r, s, _, h2, h => by
    simp only [List.nil_append, List.cons_append, List.cons.injEq] at h
    exact absurd h.1 (by intro e; exact h2 (by simp [e]))
  | a :: q, [], r, s, h1, _, h => by
    simp only [List.nil_append, List.cons_append, List.cons.injEq] at h
    exact absurd h.1 (by intro e; exact h1 (by simp [e]))
  | a :: q, b :: p, r, s, h1, h2, h => by
    simp only [List.cons_append, List.cons.injEq] at h
    have := uniq_pre (q := q) (p := p) (fun e => h1 (by simp [e])) (fun e => h2 (by simp [e])) h.2
    exact ⟨by rw [h.1, this.1], this.2⟩
theorem docK_split : ∀ (m : Nat) (r : List UInt8) (a : Nat), docK (m + 1) r a = if (splitL 46 r).length = m + 1 then octs (splitL 46 r) a else none
  | m, r, a => by
    have hsp := dspan_all r
    have hpre := dspan_pre r
    have hnd : (46 : UInt8) ∉ dspan r := dig_not hsp isD_46
    rcases split_pre (c := 46) r with ⟨h1, h2⟩ | ⟨q, r', hr, h1, h2⟩
    · rw [h2]
      simp only [List.length_singleton]
      cases m with
      | zero =>
        rw [docK_s]; simp only [octs, if_true]
        cases ho : octV r with
        | some v =>
          obtain ⟨d1, d2, d3, d4, d5⟩ := octV_some ho
          have : dspan r = r := by
            have := dspan_of (t := []) d1 d3 (.inl rfl)
            simpa using this
          rw [this, ho]
          simp
        | none =>
          cases hd : octV (dspan r) with
          | none => rfl
          | some v =>
            simp only
            rw [if_neg]
            · intro e
              rw [e, List.append_nil] at hpre
              rw [hpre, ho] at hd; cases hd
      | succ m =>
        rw [if_neg (by omega)]
        rw [docK_s]
        cases hd : octV (dspan r) with
        | none => rfl
        | some v =>
          simp only
          rw [if_neg (by omega)]
          cases hdr : r.drop (dspan r).length with
          | nil => rfl
          | cons c r3 =>
            simp only
            rw [if_neg]
            intro e
            rw [hdr, e] at hpre
            rw [← hpre] at h1
            simp at h1
    · rw [h2]
      simp only [List.length_cons]
      have hne := splitL_ne 46 r'
      have hlp : 0 < (splitL 46 r').length := List.length_pos_iff.2 hne
      cases m with
      | zero =>
        rw [if_neg (by omega)]
        rw [docK_s]
        cases hd : octV (dspan r) with
        | none => rfl
        | some v =>
          simp only [if_true]
          rw [if_neg]
          intro e
          rw [e, List.append_nil] at hpre
          rw [hpre, hr] at hnd
          simp at hnd
      | succ m =>
        rw [docK_s]; simp only [octs]
        have ih := docK_split m r'
        cases ho : octV q with
        | some v =>
          obtain ⟨d1, d2, d3, d4, d5⟩ := octV_some ho
          have e : dspan r = q := by rw [hr]; exact dspan_of d1 d3 (.inr ⟨46, r', rfl, isD_46⟩)
          have e2 : r.drop q.length = 46 :: r' := by rw [hr]; simp
          rw [e, ho, e2]
          simp only
          rw [if_neg (by omega)]
          simp only [if_true]
          rw [ih]
          by_cases h : (splitL 46 r').length = m + 1
          · rw [if_pos h, if_pos (by omega)]
          · rw [if_neg h, if_neg (by omega)]
        | none =>
          have e1 : (if (splitL 46 r').length + 1 = m + 1 + 1 then (none : Option Nat) else none) = none := by split <;> rfl
          simp only [e1]
          cases hd : octV (dspan r) with
          | none => rfl
          | some v =>
            simp only
            rw [if_neg (by omega)]
            cases hdr : r.drop (dspan r).length with
            | nil => rfl
            | cons c r3 =>
              simp only
              rw [if_neg]
              intro e
              rw [hdr, e] at hpre
              rw [hr] at hpre
              have := (uniq_pre hnd h1 (by rw [hr]; exact hpre)).1
              rw [this, ho] at hd; cases hd
theorem ipO_doc (s : List UInt8) : docK 4 s 0 = ipO s := docK_split 3 s 0
theorem octs_lt : ∀ {l : List (List UInt8)} {a v : Nat}, octs l a = some v → v < 256 ^ l.length * (a + 1)
  | [], a, v, h => by cases h; simp
  | p :: l, a, v, h => by
    simp only [octs] at h
    cases ho : octV p with
    | none => rw [ho] at h; cases h
    | some w =>
      rw [ho] at h
      have := octs_lt h
      have hw := (octV_some ho).2.2.2.1
      rw [List.length_cons, Nat.pow_succ, Nat.mul_assoc]
      refine Nat.lt_of_lt_of_le this (Nat.mul_le_mul_left _ (by omega))
theorem ipO_lt {s : List UInt8} {v : Nat} (h : ipO s = some v) : v < 4294967296 := by
  unfold ipO at h
  split at h
  · rename_i hl
    have := octs_lt h
    rw [hl] at this
    omega
  · cases h
/-- An address's text. -/
def ipT (a : Nat) : List UInt8 := decs (a / 16777216) ++ 46 :: (decs (a / 65536 % 256) ++ 46 :: (decs (a / 256 % 256) ++ 46 :: decs (a % 256)))
theorem ipT_join (a : Nat) : joinL [46] [decs (a / 16777216), decs (a / 65536 % 256), decs (a / 256 % 256), decs (a % 256)] = ipT a := by
  simp [joinL, ipT]
def ipN (s : List UInt8) : Nat := (ipO s).getD 0
def ipE (s : List UInt8) : Nat := if (ipO s).isSome then 0 else 5
/-- An address's first bits. -/
def low (b : Nat) : Nat := 2 ^ (32 - b)
def maskd (a b : Nat) : Nat := a / 2 ^ (32 - b) * 2 ^ (32 - b)
def mask32 (b : Nat) : Nat := 4294967296 - 2 ^ (32 - b)
theorem and_mask32 {x b : Nat} (hx : x < 4294967296) (hb : b ≤ 32) : x &&& mask32 b = maskd x b := by
  have e : mask32 b = 2 ^ (32 - b) * (2 ^ b - 1) := by
    unfold mask32
    rw [Nat.mul_sub, ← Nat.pow_add, show 32 - b + b = 32 by omega]
    omega
  have hp : 0 < 2 ^ (32 - b) := Nat.pos_of_ne_zero (by simp)
  have h1 : (x &&& mask32 b) / 2 ^ (32 - b) = x / 2 ^ (32 - b) := by
    rw [Nat.and_div_two_pow, e, Nat.mul_div_cancel_left _ hp, Nat.and_two_pow_sub_one_eq_mod, Nat.mod_eq_of_lt]
    rw [Nat.div_lt_iff_lt_mul hp, ← Nat.pow_add, show b + (32 - b) = 32 by omega]
    exact hx
  have h2 : (x &&& mask32 b) % 2 ^ (32 - b) = 0 := by
    rw [Nat.and_mod_two_pow, e, Nat.mul_mod_right, Nat.and_zero]
  have h3 := Nat.div_add_mod (x &&& mask32 b) (2 ^ (32 - b))
  rw [h1, h2] at h3
  unfold maskd
  rw [Nat.mul_comm]; omega
theorem xor_mask32 {x y b : Nat} (hx : x < 4294967296) (hy : y < 4294967296) (hb : b ≤ 32) : ((x ^^^ y) &&& mask32 b = 0) ↔ x / 2 ^ (32 - b) = y / 2 ^ (32 - b) := by
  have hp : 0 < 2 ^ (32 - b) := Nat.pos_of_ne_zero (by simp)
  have hlt : x ^^^ y < 2 ^ 32 := Nat.xor_lt_two_pow hx hy
  rw [and_mask32 hlt hb, maskd, Nat.mul_eq_zero]
  have : ¬ 2 ^ (32 - b) = 0 := by omega
  rw [Nat.xor_div_two_pow]
  constructor
  · rintro (h | h)
    · have h2 : y / 2 ^ (32 - b) = x / 2 ^ (32 - b) ^^^ (x / 2 ^ (32 - b) ^^^ y / 2 ^ (32 - b)) := by rw [← Nat.xor_assoc, Nat.xor_self, Nat.zero_xor]
      rw [h2, h, Nat.xor_zero]
    · exact absurd h this
  · intro h
    left; rw [h, Nat.xor_self]
end
end Go.Proofs.YtmmcnholpnediaaDoor.Am
