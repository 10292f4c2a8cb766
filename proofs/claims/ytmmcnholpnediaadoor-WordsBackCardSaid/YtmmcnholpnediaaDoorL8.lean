/- Contracts and plain facts (L8). -/
import Derived.Test.YtmmcnholpnediaaDoorL5
namespace Go.Proofs.YtmmcnholpnediaaDoor.Am
noncomputable section
/- WORDS SET TOGETHER AGAIN: plain facts. -/
structure GoodW (x : List UInt8) : Prop where
  ne : ¬ x = []
  clean : ∀ c ∈ x, wsp c = false ∧ ¬ c = 35
  plain : ∀ c ∈ x, plainC c = true
  len : x.length ≤ 16
theorem go_word : ∀ (x acc r : List UInt8), (∀ c ∈ x, wsp c = false ∧ ¬ c = 35) → wordsGo acc (x ++ r) = wordsGo (acc ++ x) r
  | [], acc, r, _ => by simp
  | c :: x, acc, r, h => by
    have hc := h c (by simp)
    rw [List.cons_append, wordsGo_cons hc.2, hc.1]
    simp only [Bool.false_eq_true, if_false]
    rw [go_word x (acc ++ [c]) r (fun d hd => h d (by simp [hd])), List.append_assoc]; rfl
theorem go_sp (acc r : List UInt8) : wordsGo acc (32 :: r) = word1 acc ++ wordsGo [] r := by
  rw [wordsGo_cons (by decide)]; rfl
theorem go_tab (acc r : List UInt8) : wordsGo acc (9 :: r) = word1 acc ++ wordsGo [] r := by
  rw [wordsGo_cons (by decide)]; rfl
theorem go_join {t : List UInt8} (ht : ∀ w, wordsGo w t = word1 w) : ∀ (ws : List (List UInt8)) (w : List UInt8), (∀ x ∈ ws, GoodW x) → ¬ w = [] → wordsGo w (joinT [32] ws ++ t) = w :: ws
  | [], w, _, hw => by
    have e : joinT [32] [] = [] := rfl
    rw [e, List.nil_append, ht, word1_some hw]
  | x :: ws, w, h, hw => by
    have hx := h x (by simp)
    have e : joinT [32] (x :: ws) ++ t = 32 :: (x ++ (joinT [32] ws ++ t)) := by simp [joinT]
    rw [e, go_sp, word1_some hw, go_word x [] _ hx.clean, List.nil_append, go_join ht ws x (fun y hy => h y (by simp [hy])) hx.ne]; rfl
theorem words_join {t : List UInt8} (ht : ∀ w, wordsGo w t = word1 w) (ws : List (List UInt8)) (h : ∀ x ∈ ws, GoodW x) : wordsL (joinL [32] ws ++ t) = ws := by
  cases ws with
  | nil =>
    show wordsGo [] ([] ++ t) = []
    rw [List.nil_append, ht]; rfl
  | cons x ws =>
    have hx := h x (by simp)
    rw [joinL_cons, List.append_assoc]
    show wordsGo [] _ = _
    rw [go_word x [] _ hx.clean, List.nil_append, go_join ht ws x (fun y hy => h y (by simp [hy])) hx.ne]
/-- The line with more blanks. -/
def blk2 (b : Nat → Bool) (i : Nat) (x : List UInt8) : List UInt8 := x ++ 32 :: (if b i then [32, 9, 32] else [])
def ln2 (b : Nat → Bool) : Nat → List (List UInt8) → List UInt8
  | _, [] => []
  | i, x :: r => blk2 b i x ++ ln2 b (i + 1) r
theorem ln2_snoc (b : Nat → Bool) : ∀ (l : List (List UInt8)) (i : Nat) (x : List UInt8), ln2 b i (l ++ [x]) = ln2 b i l ++ blk2 b (i + l.length) x
  | [], i, x => by simp [ln2]
  | y :: l, i, x => by
    simp only [List.cons_append, ln2, ln2_snoc b l (i + 1) x, List.append_assoc, List.length_cons]
    rw [show i + 1 + l.length = i + (l.length + 1) by omega]
theorem go_ln2 (b : Nat → Bool) : ∀ (ws : List (List UInt8)) (i : Nat), (∀ x ∈ ws, GoodW x) → wordsGo [] (ln2 b i ws) = ws
  | [], i, _ => rfl
  | x :: ws, i, h => by
    have hx := h x (by simp)
    have ih := go_ln2 b ws (i + 1) (fun y hy => h y (by simp [hy]))
    simp only [ln2, blk2, List.append_assoc]
    rw [go_word x [] _ hx.clean, List.nil_append, List.cons_append, go_sp, word1_some hx.ne]
    cases b i with
    | true =>
      simp only [if_true, List.cons_append, List.nil_append]
      rw [go_sp, go_tab, go_sp, ih]; rfl
    | false => simp only [Bool.false_eq_true, if_false, List.nil_append]; rw [ih]; rfl
theorem words_ln2 (b : Nat → Bool) (ws : List (List UInt8)) (h : ∀ x ∈ ws, GoodW x) : wordsL (9 :: ln2 b 0 ws) = ws := by
  show wordsGo [] _ = _
  rw [go_tab, go_ln2 b ws 0 h]; rfl
theorem sumLen_good : ∀ (ws : List (List UInt8)), (∀ x ∈ ws, GoodW x) → sumLen ws ≤ 16 * ws.length
  | [], _ => Nat.zero_le _
  | x :: ws, h => by
    have := sumLen_good ws (fun y hy => h y (by simp [hy]))
    have hx := (h x (by simp)).len
    simp only [sumLen, List.map_cons, List.sum_cons, List.length_cons] at this ⊢
    omega
theorem join_len {ws : List (List UInt8)} (h : ∀ x ∈ ws, GoodW x) : (joinL [32] ws).length ≤ 17 * ws.length := by
  cases ws with
  | nil => exact Nat.zero_le _
  | cons x ws =>
    have hx := (h x (by simp)).len
    have := sumLen_good ws (fun y hy => h y (by simp [hy]))
    rw [joinL_cons, List.length_append, joinT_len]
    simp only [List.length_cons, List.length_nil]
    omega
theorem ln2_len (b : Nat → Bool) : ∀ (ws : List (List UInt8)) (i : Nat), (∀ x ∈ ws, GoodW x) → (ln2 b i ws).length ≤ 20 * ws.length
  | [], i, _ => Nat.zero_le _
  | x :: ws, i, h => by
    have hx := (h x (by simp)).len
    have ih := ln2_len b ws (i + 1) (fun y hy => h y (by simp [hy]))
    simp only [ln2, blk2, List.length_append, List.length_cons]
    have : (if b i = true then ([32, 9, 32] : List UInt8) else []).length ≤ 3 := by split <;> simp
    omega
theorem join_plain {ws : List (List UInt8)} (h : ∀ x ∈ ws, GoodW x) : (joinL [32] ws).all plainC = true := by
  have hT : ∀ l : List (List UInt8), (∀ x ∈ l, GoodW x) → (joinT [32] l).all plainC = true := fun l hl => by
    simp only [joinT, List.all_eq_true, List.mem_flatMap]
    rintro c ⟨x, hx, hc⟩
    rcases List.mem_append.1 hc with hc | hc
    · simp at hc; subst hc; decide
    · exact (hl x hx).plain c hc
  cases ws with
  | nil => rfl
  | cons x ws =>
    rw [joinL_cons, List.all_append, hT ws (fun y hy => h y (by simp [hy])), Bool.and_true]
    exact List.all_eq_true.2 (h x (by simp)).plain
theorem ln2_plain (b : Nat → Bool) : ∀ (ws : List (List UInt8)) (i : Nat), (∀ x ∈ ws, GoodW x) → (ln2 b i ws).all plainC = true
  | [], i, _ => rfl
  | x :: ws, i, h => by
    have ih := ln2_plain b ws (i + 1) (fun y hy => h y (by simp [hy]))
    have hx := List.all_eq_true.2 (h x (by simp)).plain
    simp only [ln2, blk2, List.all_append, List.all_cons, hx, ih]
    cases b i <;> decide
theorem words_mem : ∀ (s w : List UInt8), ∀ x ∈ wordsGo w s, ∀ c ∈ x, c ∈ w ∨ c ∈ s
  | [], w, x, hx, c, hc => by
    unfold wordsGo word1 at hx
    split at hx
    · cases hx
    · simp at hx; subst hx; exact .inl hc
  | a :: r, w, x, hx, c, hc => by
    have one : x ∈ word1 w → c ∈ w := fun hx => by
      unfold word1 at hx
      split at hx
      · cases hx
      · simp at hx; subst hx; exact hc
    unfold wordsGo at hx
    split at hx
    · exact .inl (one hx)
    · split at hx
      · rcases List.mem_append.1 hx with hx | hx
        · exact .inl (one hx)
        · rcases words_mem r [] x hx c hc with h | h
          · cases h
          · exact .inr (by simp [h])
      · rcases words_mem r (w ++ [a]) x hx c hc with h | h
        · rcases List.mem_append.1 h with h | h
          · exact .inl h
          · simp at h; exact .inr (by simp [h])
        · exact .inr (by simp [h])
theorem good_of {s x : List UInt8} (hs : s.all plainC = true) (hl : s.length ≤ 16) (hx : x ∈ wordsL s) : GoodW x := by
  obtain ⟨h1, h2⟩ := words_bytes s [] (fun c hc => by cases hc) x hx
  refine ⟨h1, h2, fun c hc => ?_, ?_⟩
  · rcases words_mem s [] x hx c hc with h | h
    · cases h
    · exact List.all_eq_true.1 hs c h
  · have := words_long s [] x hx
    simp at this; omega
end
end Go.Proofs.YtmmcnholpnediaaDoor.Am
