/- Contracts and plain facts (L5). -/
import Derived.Test.YtmmcnholpnediaaDoorL
namespace Go.Proofs.YtmmcnholpnediaaDoor.Am
noncomputable section
/- WORDS OF A LINE: plain facts. -/
/-- A blank. -/
def wsp (c : UInt8) : Bool := c == 32 || c == 9
def word1 (w : List UInt8) : List (List UInt8) := if w = [] then [] else [w]
/-- The words of what is left, behind the word begun. -/
def wordsGo : List UInt8 → List UInt8 → List (List UInt8)
  | w, [] => word1 w
  | w, c :: r => if c = 35 then word1 w else if wsp c then word1 w ++ wordsGo [] r else wordsGo (w ++ [c]) r
def wordsL (s : List UInt8) : List (List UInt8) := wordsGo [] s
/-- Bytes that a line may have. -/
def plainC (c : UInt8) : Bool := c == 9 || (32 ≤ c && c ≤ 126)
/-- The line ahead of its remark. -/
def ahead (s : List UInt8) : List UInt8 := s.takeWhile (fun c => c != 35)
theorem wordsGo_ahead : ∀ (s w : List UInt8), wordsGo w (ahead s) = wordsGo w s
  | [], w => rfl
  | c :: r, w => by
    unfold ahead
    by_cases h : c = 35
    · subst h; simp [wordsGo]
    · have hc : (c != 35) = true := by simpa using h
      rw [List.takeWhile_cons_of_pos (by simpa using h)]
      have ih1 := wordsGo_ahead r []
      have ih2 := wordsGo_ahead r (w ++ [c])
      unfold ahead at ih1 ih2
      simp only [wordsGo, if_neg h, ih1, ih2]
theorem ahead_no (s : List UInt8) : ∀ c ∈ ahead s, ¬ c = 35 := by
  induction s with
  | nil => intro c hc; cases hc
  | cons a r ih =>
    intro c hc
    unfold ahead at hc ih
    by_cases h : a = 35
    · subst h; simp at hc
    · rw [List.takeWhile_cons_of_pos (by simpa using h)] at hc
      rcases List.mem_cons.1 hc with rfl | hc
      · exact h
      · exact ih c hc
theorem word1_nil : word1 [] = [] := rfl
theorem word1_some {w : List UInt8} (h : ¬ w = []) : word1 w = [w] := by simp [word1, h]
/-- Of a line without a remark. -/
theorem wordsGo_cons {c : UInt8} (h : ¬ c = 35) (w r : List UInt8) : wordsGo w (c :: r) = if wsp c then word1 w ++ wordsGo [] r else wordsGo (w ++ [c]) r := by
  simp only [wordsGo, if_neg h]
/-- Every word has a byte and no blank and no #. -/
theorem words_bytes : ∀ (s w : List UInt8), (∀ c ∈ w, wsp c = false ∧ ¬ c = 35) → ∀ x ∈ wordsGo w s, ¬ x = [] ∧ ∀ c ∈ x, wsp c = false ∧ ¬ c = 35
  | [], w, hw, x, hx => by
    unfold wordsGo word1 at hx
    split at hx
    · cases hx
    · rename_i h; simp at hx; subst hx; exact ⟨h, hw⟩
  | a :: r, w, hw, x, hx => by
    have one : ∀ x, x ∈ word1 w → ¬ x = [] ∧ ∀ c ∈ x, wsp c = false ∧ ¬ c = 35 := fun x hx => by
      unfold word1 at hx
      split at hx
      · cases hx
      · rename_i h; simp at hx; subst hx; exact ⟨h, hw⟩
    unfold wordsGo at hx
    split at hx
    · exact one x hx
    · rename_i h35
      split at hx
      · rcases List.mem_append.1 hx with hx | hx
        · exact one x hx
        · exact words_bytes r [] (fun c hc => by cases hc) x hx
      · rename_i hs
        refine words_bytes r (w ++ [a]) (fun c hc => ?_) x hx
        rcases List.mem_append.1 hc with hc | hc
        · exact hw c hc
        · simp at hc; subst hc; exact ⟨by simpa using hs, h35⟩
theorem words_len : ∀ (s w : List UInt8), (wordsGo w s).length ≤ s.length + 1
  | [], w => by unfold wordsGo word1; split <;> simp
  | a :: r, w => by
    have h1 : (word1 w).length ≤ 1 := by unfold word1; split <;> simp
    unfold wordsGo
    split
    · simp; omega
    · split
      · have := words_len r []
        have h0 : (wordsGo [] r).length ≤ r.length + 1 := this
        simp only [List.length_append, List.length_cons]; omega
      · have := words_len r (w ++ [a])
        simp only [List.length_cons]; omega
theorem words_long : ∀ (s w : List UInt8), ∀ x ∈ wordsGo w s, x.length ≤ w.length + s.length
  | [], w, x, hx => by
    unfold wordsGo word1 at hx
    split at hx
    · cases hx
    · simp at hx; subst hx; simp
  | a :: r, w, x, hx => by
    have one : ∀ x, x ∈ word1 w → x.length ≤ w.length := fun x hx => by
      unfold word1 at hx
      split at hx
      · cases hx
      · simp at hx; subst hx; exact Nat.le_refl _
    unfold wordsGo at hx
    simp only [List.length_cons]
    split at hx
    · have := one x hx; omega
    · split at hx
      · rcases List.mem_append.1 hx with hx | hx
        · have := one x hx; omega
        · have := words_long r [] x hx; simp at this; omega
      · have := words_long r (w ++ [a]) x hx; simp at this; omega
end
end Go.Proofs.YtmmcnholpnediaaDoor.Am
