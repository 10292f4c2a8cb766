/- Contracts and plain facts (L07a). -/
import Derived.Test.YtkaibjdogeikbaaDoorL0
namespace Go.Proofs.YtkaibjdogeikbaaDoor.Am
noncomputable section

/- TEXTS OF FLAGS, IN PLAIN LEAN. -/
def namesL : List (List UInt8) := [[102, 105, 110], [115, 121, 110], [114, 115, 116], [112, 115, 104], [97, 99, 107], [117, 114, 103], [101, 99, 101], [99, 119, 114]]
def idxL (s : List UInt8) : List (List UInt8) → Nat → Option Nat
  | [], _ => none
  | x :: l, j => if s = x then some j else idxL s l (j + 1)
def textNames (f : Nat) : List (List UInt8) := (namesL.zipIdx.filter fun p => f.testBit p.2).map (·.1)
def textL (f : Nat) : List UInt8 := if textNames f = [] then [45] else joinL [44] (textNames f)
def parseGo : List (List UInt8) → Nat → Bool → Nat × Nat
  | [], f, again => if again then (0, 9) else (f, 0)
  | p :: ps, f, again => match idxL p namesL 0 with
    | none => (0, 23)
    | some k => parseGo ps (f ||| 2 ^ k) (again || f.testBit k)
def parseL (s : List UInt8) : Nat × Nat := if s = [45] then (0, 0) else parseGo (splitL 44 s) 0 false

def flagsOk (f : Nat) : Bool :=
  parseL (textL f) == (f, 0) && parseL (joinL [44] (splitL 44 (textL f)).reverse) == (f, 0) &&
  (parseL (textL f ++ [44] ++ (splitL 44 (textL f)).reverse.headD [])).2 == (if f = 0 then 23 else 9) && (parseL (textL f ++ [44, 83, 89, 78])).2 == 23
theorem flags_all : ∀ f : Fin 256, flagsOk f.1 = true := by decide +kernel

def pop (f : Nat) : Nat := ((List.range 8).filter fun k => f.testBit k).length
theorem pop_or : ∀ f : Fin 256, ∀ k : Fin 8, f.1.testBit k.1 = false → pop (f.1 ||| 2 ^ k.1) = pop f.1 + 1 := by decide +kernel
theorem or_lt : ∀ f : Fin 256, ∀ k : Fin 8, f.1 ||| 2 ^ k.1 < 256 := by decide +kernel
theorem text_len : ∀ f : Fin 256, (textL f.1).length + 1 = if f.1 = 0 then 2 else 4 * pop f.1 := by decide +kernel
theorem or_pos : ∀ f : Fin 256, ∀ k : Fin 8, f.1 ||| 2 ^ k.1 ≠ 0 := by decide +kernel
theorem idxL_names {p : List UInt8} {k : Nat} (h : idxL p namesL 0 = some k) : k < 8 ∧ p.length = 3 := by
  simp only [idxL, namesL] at h
  repeat' split at h
  all_goals first
    | (cases h; done)
    | (simp only [Option.some.injEq] at h; rename_i e; subst e; subst h; exact ⟨by decide, rfl⟩)
theorem parseGo_ok : ∀ (ps : List (List UInt8)) (f : Nat) (again : Bool) (p : Nat), f < 256 → parseGo ps f again = (p, 0) → again = false ∧ p < 256 ∧ 4 * pop p = 4 * pop f + lens ps ∧ (ps ≠ [] → p ≠ 0)
  | [], f, again, p, hf, h => by
    cases again with
    | true => simp [parseGo] at h
    | false => simp [parseGo] at h; subst h; exact ⟨rfl, hf, by simp [lens], by simp⟩
  | q :: ps, f, again, p, hf, h => by
    simp only [parseGo] at h
    split at h
    · simp at h
    · rename_i k hk
      obtain ⟨hk8, hlen⟩ := idxL_names hk
      have hor : f ||| 2 ^ k < 256 := or_lt ⟨f, hf⟩ ⟨k, hk8⟩
      obtain ⟨h1, h2, h3, h4⟩ := parseGo_ok ps _ _ p hor h
      simp only [Bool.or_eq_false_iff] at h1
      have : pop (f ||| 2 ^ k) = pop f + 1 := pop_or ⟨f, hf⟩ ⟨k, hk8⟩ h1.2
      refine ⟨h1.1, h2, by simp only [lens]; omega, fun _ => ?_⟩
      cases ps with
      | cons => exact h4 (by simp)
      | nil => simp [parseGo, h1] at h; rw [← h]; exact or_pos ⟨f, hf⟩ ⟨k, hk8⟩
theorem parseGo_err : ∀ (ps : List (List UInt8)) (f : Nat) (again : Bool) (p e : Nat), parseGo ps f again = (p, e) → e ≠ 0 → p = 0
  | [], f, again, p, e, h, he => by
    cases again with
    | true => simp [parseGo] at h; exact h.1.symm
    | false => simp [parseGo] at h; exact absurd h.2.symm he
  | q :: ps, f, again, p, e, h, he => by
    simp only [parseGo] at h
    split at h
    · simp at h; exact h.1.symm
    · exact parseGo_err ps _ _ p e h he
theorem parseL_lt {s : List UInt8} : (parseL s).1 < 256 := by
  unfold parseL
  split
  · decide
  · rcases h : parseGo (splitL 44 s) 0 false with ⟨p, e⟩
    by_cases he : e = 0
    · subst he; exact (parseGo_ok _ _ _ _ (by decide) h).2.1
    · rw [parseGo_err _ _ _ _ _ h he]; exact (by decide : (0 : Nat) < 256)
/-- What is read has a text as long; what is not read is no flag. -/
theorem parseL_len (s : List UInt8) : (parseL s).2 = 0 ∧ (textL (parseL s).1).length = s.length ∨ (parseL s).2 ≠ 0 ∧ (parseL s).1 = 0 := by
  unfold parseL
  split
  · rename_i h; subst h; exact .inl ⟨rfl, by decide⟩
  · rcases h : parseGo (splitL 44 s) 0 false with ⟨p, e⟩
    by_cases he : e = 0
    · subst he
      obtain ⟨_, h2, h3, h4⟩ := parseGo_ok _ _ _ _ (by decide) h
      refine .inl ⟨rfl, ?_⟩
      have ht := text_len ⟨p, h2⟩
      simp only [h4 (splitL_ne _ _), if_false] at ht
      have hl := splitL_lens 44 s
      have h0 : pop 0 = 0 := by decide
      show (textL p).length = s.length
      omega
    · exact .inr ⟨he, parseGo_err _ _ _ _ _ h he⟩
end
end Go.Proofs.YtkaibjdogeikbaaDoor.Am
