/- Contracts and plain facts (L). -/
import Derived.Test.YtkaibjdogeikbaaDoorE
namespace Go.Proofs.YtkaibjdogeikbaaDoor.Am
noncomputable section
/- PLAIN FACTS FOR THE LIBRARY's CONTRACTS. -/
theorem prim_indexByte {ps : List (Nat × Prim)} {f : Nat} (hf : lookF ps f = some .indexByte) {l : List UInt8} {c : UInt8} {h : AHeap} {n : Nat} : primOrc ps f [.string ⟨l.toArray⟩, .int .u8 (c.toNat : Int)] h n = some (.int .i64 (Lib.indexByte l c), h, n) := by
  have : c.toNat < 256 := UInt8.toNat_lt c
  simp only [primOrc, hf, Prim.ev]
  rw [if_pos (by omega)]
  simp
theorem prim_count {ps : List (Nat × Prim)} {f : Nat} (hf : lookF ps f = some .count) {l : List UInt8} {c : UInt8} {h : AHeap} {n : Nat} : primOrc ps f [.string ⟨l.toArray⟩, .int .u8 (c.toNat : Int)] h n = some (.int .i64 (Lib.countByte l c : Nat), h, n) := by
  have : c.toNat < 256 := UInt8.toNat_lt c
  simp only [primOrc, hf, Prim.ev]
  rw [if_pos (by omega)]
  simp
theorem prim_makeNoZero {ps : List (Nat × Prim)} {f ty : Nat} (hf : lookF ps f = some (.makeNoZero ty)) {m : Int} (h0 : 0 ≤ m) (h1 : m ≤ 70368744177664) {h : AHeap} {n : Nat} : primOrc ps f [.int .i64 m] h n = some (.slice (some ⟨n, 0, some 0⟩) m.toNat 2, h.put n (.cells (some ty) [] 0), n + 1) := by
  simp only [primOrc, hf, Prim.ev]
  rw [if_pos ⟨h0, h1⟩]
theorem orc_ret {fs : FT} {ps : List (Nat × Prim)} {f : Nat} {args : List Value} {h : AHeap} {n : Nat} {v : Value} {l : List (Nat × Blk)} {n' : Nat} (hp : primOrc ps f args h n = some (v, putsL h l, n')) (hn : n ≤ n') (hnd : (l.map (·.1)).Nodup) (hids : ∀ i, i ∈ l.map (·.1) → (h.get i).isSome ∨ n ≤ i ∧ i < n') : Ret (mkEnv fs ps).env f args h n v l n' := ⟨.orc hp hn, hnd, hids⟩
def joinL (sep : List UInt8) : List (List UInt8) → List UInt8
  | [] => []
  | [a] => a
  | a :: b :: l => a ++ sep ++ joinL sep (b :: l)
/-- A text parted at a byte. -/
def splitL (c : UInt8) : List UInt8 → List (List UInt8)
  | [] => [[]]
  | x :: l => if x = c then [] :: splitL c l else match splitL c l with
    | [] => [[x]]
    | p :: ps => (x :: p) :: ps
theorem splitL_ne (c : UInt8) (l : List UInt8) : splitL c l ≠ [] := by
  cases l with
  | nil => simp [splitL]
  | cons x l =>
    simp only [splitL]
    split
    · simp
    · split <;> simp
/-- How long the parts are. -/
def lens : List (List UInt8) → Nat
  | [] => 0
  | a :: l => a.length + 1 + lens l
theorem splitL_lens (c : UInt8) : ∀ l : List UInt8, lens (splitL c l) = l.length + 1
  | [] => rfl
  | x :: l => by
    simp only [splitL]
    split
    · simp only [lens, splitL_lens c l, List.length_nil, List.length_cons]; omega
    · have ih := splitL_lens c l
      split
      · rename_i h; exact absurd h (splitL_ne c l)
      · rename_i p ps h; rw [h] at ih; simp only [lens, List.length_cons] at ih ⊢; omega
/-- Strings as cells. -/
def strsL (l : List (List UInt8)) : List Value := l.map fun s => .string ⟨s.toArray⟩
def emptyS (k : Nat) : List Value := List.replicate k (.string ⟨#[]⟩)
@[simp] theorem strsL_length (l : List (List UInt8)) : (strsL l).length = l.length := by simp [strsL]
@[simp] theorem emptyS_length (k : Nat) : (emptyS k).length = k := by simp [emptyS]
@[simp] theorem take_strsL (l : List (List UInt8)) : (strsL l).take l.length = strsL l := List.take_of_length_le (by simp)
theorem strsL_append (a b : List (List UInt8)) : strsL (a ++ b) = strsL a ++ strsL b := by simp [strsL]
theorem split_zero {c : UInt8} : ∀ {l : List UInt8}, Lib.countByte l c = 0 → splitL c l = [l]
  | [], _ => rfl
  | x :: l, h => by
    simp only [Lib.countByte, List.count_cons] at h
    have hx : ¬ x = c := by intro e; simp [e] at h
    simp only [splitL, if_neg hx]
    rw [split_zero (l := l) (by simp only [Lib.countByte]; omega)]
theorem split_succ {c : UInt8} : ∀ {l : List UInt8} {k : Nat}, Lib.countByte l c = k + 1 → ∃ i : Nat, Lib.indexByte l c = (i : Int) ∧ i < l.length ∧ Lib.countByte (l.drop (i + 1)) c = k ∧ splitL c l = l.take i :: splitL c (l.drop (i + 1))
  | [], k, h => by simp [Lib.countByte] at h
  | x :: l, k, h => by
    by_cases hx : x = c
    · subst hx
      refine ⟨0, by simp [Lib.indexByte], by simp, ?_, by simp [splitL]⟩
      simp only [Lib.countByte, List.count_cons_self] at h
      simp only [Lib.countByte, Nat.zero_add, List.drop_succ_cons, List.drop_zero]; omega
    · have h' : Lib.countByte l c = k + 1 := by
        simp only [Lib.countByte, List.count_cons] at h ⊢
        simpa [hx] using h
      obtain ⟨i, h1, h2, h3, h4⟩ := split_succ h'
      refine ⟨i + 1, ?_, by simp only [List.length_cons]; omega, by simpa using h3, ?_⟩
      · have hne : ¬ Lib.indexByte l c = -1 := by omega
        have hb : (x == c) = false := by simpa using hx
        simp only [Lib.indexByte, hb, h1]
        rw [if_neg (by decide), if_neg (by simp)]
        rfl
      · simp only [splitL, if_neg hx, h4, List.take_succ_cons, List.drop_succ_cons]
theorem set_next (done : List (List UInt8)) (p : List UInt8) (k : Nat) : List.take done.length (strsL done ++ emptyS (k + 1)) ++ Value.string ⟨p.toArray⟩ :: List.drop (done.length + 1) (strsL done ++ emptyS (k + 1)) = strsL (done ++ [p]) ++ emptyS k := by
  have h1 : (strsL done).length = done.length := by simp
  rw [← h1, List.take_left, strsL_append, ← List.drop_drop, List.drop_left]
  simp [emptyS, strsL, List.replicate_succ]
@[simp] theorem repeat_one (v : Value) : ∀ k : Nat, repeatCells [v] k = List.replicate k v
  | 0 => rfl
  | k + 1 => by simp [repeatCells, repeat_one v k, List.replicate_succ]
theorem count_le (l : List UInt8) (c : UInt8) : Lib.countByte l c ≤ l.length := List.count_le_length
theorem lens_ge : ∀ l : List (List UInt8), l.length ≤ lens l
  | [] => Nat.le_refl _
  | a :: l => by have := lens_ge l; simp only [lens, List.length_cons]; omega
theorem split_len (c : UInt8) (l : List UInt8) : (splitL c l).length ≤ l.length + 1 := by
  have := lens_ge (splitL c l); rw [splitL_lens] at this; exact this
def joinT (sep : List UInt8) (l : List (List UInt8)) : List UInt8 := l.flatMap fun s => sep ++ s
theorem joinL_cons (sep a : List UInt8) : ∀ l : List (List UInt8), joinL sep (a :: l) = a ++ joinT sep l
  | [] => by simp [joinL, joinT]
  | b :: l => by simp only [joinL, joinL_cons sep b l, joinT, List.flatMap_cons, List.append_assoc]
theorem joinT_snoc (sep : List UInt8) (l : List (List UInt8)) (x : List UInt8) : joinT sep (l ++ [x]) = joinT sep l ++ sep ++ x := by simp [joinT]
def sumLen (l : List (List UInt8)) : Nat := (l.map (·.length)).sum
theorem sumLen_snoc (l : List (List UInt8)) (x : List UInt8) : sumLen (l ++ [x]) = sumLen l + x.length := by simp [sumLen]
theorem joinT_len (sep : List UInt8) : ∀ l : List (List UInt8), (joinT sep l).length = sep.length * l.length + sumLen l
  | [] => by simp [joinT, sumLen]
  | x :: l => by
    have := joinT_len sep l
    simp only [joinT, sumLen, List.flatMap_cons, List.length_append, List.length_cons, List.map_cons, List.sum_cons] at this ⊢
    rw [this, Nat.mul_succ]; omega
theorem strsL_get? {l : List (List UInt8)} {i : Nat} {s : List UInt8} (h : l[i]? = some s) : (strsL l)[i]? = some (.string ⟨s.toArray⟩) := by simp [strsL, h]
theorem take_snoc {α : Type} {l : List α} {j : Nat} {x : α} (h : l[j]? = some x) : l.take (j + 1) = l.take j ++ [x] := by
  obtain ⟨hlt, rfl⟩ := List.getElem?_eq_some_iff.1 h
  rw [List.take_succ_eq_append_getElem hlt]
theorem sumLen_take_le (l : List (List UInt8)) (j : Nat) : sumLen (l.take j) ≤ sumLen l := by
  induction l generalizing j with
  | nil => simp
  | cons a l ih => cases j with
    | zero => simp [sumLen]
    | succ j => have := ih j; simp only [sumLen, List.take_succ_cons, List.map_cons, List.sum_cons] at this ⊢; omega
theorem tdiv_big {a b : Nat} (hb : 0 < b) (hb2 : b < 1000000000) (h : a * b < 1000000000) : (a : Int) < Int.tdiv 9223372036854775807 (b : Int) := by
  have h1 : a < 9223372036854775807 / b := by
    have : a + 1 ≤ 9223372036854775807 / b := by
      rw [Nat.le_div_iff_mul_le hb, Nat.succ_mul]
      omega
    omega
  have h2 : Int.tdiv 9223372036854775807 (b : Int) = ((9223372036854775807 / b : Nat) : Int) := rfl
  rw [h2]; omega
theorem tdiv_le {b : Nat} (hb : 0 < b) : Int.tdiv 9223372036854775807 (b : Int) < 9223372036854775808 := by
  have h2 : Int.tdiv 9223372036854775807 (b : Int) = ((9223372036854775807 / b : Nat) : Int) := rfl
  have := Nat.div_le_self 9223372036854775807 b
  rw [h2]; omega
theorem strsL_set {l : List (List UInt8)} {i : Nat} (hi : i < l.length) (x : List UInt8) : List.take i (strsL l) ++ Value.string ⟨x.toArray⟩ :: List.drop (i + 1) (strsL l) = strsL (l.set i x) := by
  have : strsL (l.set i x) = (strsL l).set i (.string ⟨x.toArray⟩) := by simp [strsL, List.map_set]
  rw [this, List.set_eq_take_append_cons_drop, if_pos (by simpa using hi)]
end
end Go.Proofs.YtkaibjdogeikbaaDoor.Am
namespace Go.Proofs.YtkaibjdogeikbaaDoor.Am
noncomputable section

/- TEXTS OF FLAGS, IN PLAIN LEAN. -/
def namesL : List (List UInt8) := [[102, 105, 110], [115, 121, 110], [114, 115, 116], [112, 115, 104], [97, 99, 107], [117, 114, 103], [101, 99, 101], [99, 119, 114]]
def idxL (s : List UInt8) : List (List UInt8) → Nat → Option Nat
  | [], _ => none
  | x :: l, j => if s = x then some j else idxL s l (j + 1)
def textNames (f : Nat) : List (List UInt8) := (namesL.zipIdx.filter fun p => f.testBit p.2).map (·.1)
def textL (f : Nat) : List UInt8 := if textNames f = [] then [45] else joinL [44] (textNames f)
def parseGo : List (List UInt8) → Nat → Bool → Nat × Nat
  | [], f, again => if again then (0, 9) else (f, 0)
  | p :: ps, f, again => match idxL p namesL 0 with
    | none => (0, 23)
    | some k => parseGo ps (f ||| 2 ^ k) (again || f.testBit k)
def parseL (s : List UInt8) : Nat × Nat := if s = [45] then (0, 0) else parseGo (splitL 44 s) 0 false

def flagsOk (f : Nat) : Bool :=
  parseL (textL f) == (f, 0) && parseL (joinL [44] (splitL 44 (textL f)).reverse) == (f, 0) &&
  (parseL (textL f ++ [44] ++ (splitL 44 (textL f)).reverse.headD [])).2 == (if f = 0 then 23 else 9) && (parseL (textL f ++ [44, 83, 89, 78])).2 == 23
theorem flags_all : ∀ f : Fin 256, flagsOk f.1 = true := by decide +kernel

def pop (f : Nat) : Nat := ((List.range 8).filter fun k => f.testBit k).length
theorem pop_or : ∀ f : Fin 256, ∀ k : Fin 8, f.1.testBit k.1 = false → pop (f.1 ||| 2 ^ k.1) = pop f.1 + 1 := by decide +kernel
theorem or_lt : ∀ f : Fin 256, ∀ k : Fin 8, f.1 ||| 2 ^ k.1 < 256 := by decide +kernel
theorem text_len : ∀ f : Fin 256, (textL f.1).length + 1 = if f.1 = 0 then 2 else 4 * pop f.1 := by decide +kernel
theorem or_pos : ∀ f : Fin 256, ∀ k : Fin 8, f.1 ||| 2 ^ k.1 ≠ 0 := by decide +kernel
theorem idxL_names {p : List UInt8} {k : Nat} (h : idxL p namesL 0 = some k) : k < 8 ∧ p.length = 3 := by
  simp only [idxL, namesL] at h
  repeat' split at h
  all_goals first
    | (cases h; done)
    | (simp only [Option.some.injEq] at h; rename_i e; subst e; subst h; exact ⟨by decide, rfl⟩)
theorem parseGo_ok : ∀ (ps : List (List UInt8)) (f : Nat) (again : Bool) (p : Nat), f < 256 → parseGo ps f again = (p, 0) → again = false ∧ p < 256 ∧ 4 * pop p = 4 * pop f + lens ps ∧ (ps ≠ [] → p ≠ 0)
  | [], f, again, p, hf, h => by
    cases again with
    | true => simp [parseGo] at h
    | false => simp [parseGo] at h; subst h; exact ⟨rfl, hf, by simp [lens], by simp⟩
  | q :: ps, f, again, p, hf, h => by
    simp only [parseGo] at h
    split at h
    · simp at h
    · rename_i k hk
      obtain ⟨hk8, hlen⟩ := idxL_names hk
      have hor : f ||| 2 ^ k < 256 := or_lt ⟨f, hf⟩ ⟨k, hk8⟩
      obtain ⟨h1, h2, h3, h4⟩ := parseGo_ok ps _ _ p hor h
      simp only [Bool.or_eq_false_iff] at h1
      have : pop (f ||| 2 ^ k) = pop f + 1 := pop_or ⟨f, hf⟩ ⟨k, hk8⟩ h1.2
      refine ⟨h1.1, h2, by simp only [lens]; omega, fun _ => ?_⟩
      cases ps with
      | cons => exact h4 (by simp)
      | nil => simp [parseGo, h1] at h; rw [← h]; exact or_pos ⟨f, hf⟩ ⟨k, hk8⟩
theorem parseGo_err : ∀ (ps : List (List UInt8)) (f : Nat) (again : Bool) (p e : Nat), parseGo ps f again = (p, e) → e ≠ 0 → p = 0
  | [], f, again, p, e, h, he => by
    cases again with
    | true => simp [parseGo] at h; exact h.1.symm
    | false => simp [parseGo] at h; exact absurd h.2.symm he
  | q :: ps, f, again, p, e, h, he => by
    simp only [parseGo] at h
    split at h
    · simp at h; exact h.1.symm
    · exact parseGo_err ps _ _ p e h he
theorem parseL_lt {s : List UInt8} : (parseL s).1 < 256 := by
  unfold parseL
  split
  · decide
  · rcases h : parseGo (splitL 44 s) 0 false with ⟨p, e⟩
    by_cases he : e = 0
    · subst he; exact (parseGo_ok _ _ _ _ (by decide) h).2.1
    · rw [parseGo_err _ _ _ _ _ h he]; exact (by decide : (0 : Nat) < 256)
/-- What is read has a text as long; what is not read is no flag. -/
theorem parseL_len (s : List UInt8) : (parseL s).2 = 0 ∧ (textL (parseL s).1).length = s.length ∨ (parseL s).2 ≠ 0 ∧ (parseL s).1 = 0 := by
  unfold parseL
  split
  · rename_i h; subst h; exact .inl ⟨rfl, by decide⟩
  · rcases h : parseGo (splitL 44 s) 0 false with ⟨p, e⟩
    by_cases he : e = 0
    · subst he
      obtain ⟨_, h2, h3, h4⟩ := parseGo_ok _ _ _ _ (by decide) h
      refine .inl ⟨rfl, ?_⟩
      have ht := text_len ⟨p, h2⟩
      simp only [h4 (splitL_ne _ _), if_false] at ht
      have hl := splitL_lens 44 s
      have h0 : pop 0 = 0 := by decide
      show (textL p).length = s.length
      omega
    · exact .inr ⟨he, parseGo_err _ _ _ _ _ h he⟩
end
end Go.Proofs.YtkaibjdogeikbaaDoor.Am
namespace Go.Proofs.YtkaibjdogeikbaaDoor.Am
noncomputable section
/- THE DOCUMENT'S READING OF FLAGS, IN PLAIN LEAN. -/
theorem split_end {c : UInt8} : ∀ {l : List UInt8}, (∀ x, x ∈ l → x ≠ c) → splitL c l = [l]
  | [], _ => rfl
  | x :: l, h => by
    rw [splitL, if_neg (h x (by simp)), split_end fun y hy => h y (by simp [hy])]
theorem split_at {c : UInt8} : ∀ {l : List UInt8} {p : Nat}, (∀ x, x ∈ l.take p → x ≠ c) → l[p]? = some c → splitL c l = l.take p :: splitL c (l.drop (p + 1))
  | [], p, _, h2 => by simp at h2
  | x :: l, 0, _, h2 => by
    have : x = c := by simpa using h2
    simp [splitL, this]
  | x :: l, p + 1, h1, h2 => by
    have ih := split_at (l := l) (p := p) (fun y hy => h1 y (by simp [hy])) (by simpa using h2)
    have hx : x ≠ c := h1 x (by simp)
    simp only [splitL, if_neg hx, ih, List.take_succ_cons, List.drop_succ_cons]
/-- How often each flag was named: what the loop holds. -/
structure Bits (bits : List Nat) (f : Nat) (a : Bool) : Prop where
  len : bits.length = 8
  lt : f < 256
  bit : ∀ k, k < 8 → decide (0 < bits.getD k 0) = f.testBit k
  twice : bits.any (fun b => decide (1 < b)) = a
theorem bits_zero : Bits [0, 0, 0, 0, 0, 0, 0, 0] 0 false := ⟨rfl, by omega, by simp; decide, rfl⟩
theorem bits_put {bits : List Nat} {f : Nat} {a : Bool} (x : Bits bits f a) {k : Nat} (hk : k < 8) : Bits (bits.set k (bits.getD k 0 + 1)) (f ||| 2 ^ k) (a || f.testBit k) := by
  obtain ⟨h1, h2, h3, h4⟩ := x
  refine ⟨by simp [h1], or_lt ⟨f, h2⟩ ⟨k, hk⟩, fun j hj => ?_, ?_⟩
  · rw [Nat.testBit_or, Nat.testBit_two_pow]
    by_cases e : k = j
    · subst e; simp [List.getD_eq_getElem?_getD, h1, hk]
    · have := h3 j hj
      simp only [List.getD_eq_getElem?_getD] at this ⊢
      rw [List.getElem?_set_ne e, this]; simp [e]
  · rw [← h4, ← h3 k hk]
    match bits, h1 with
    | [b0, b1, b2, b3, b4, b5, b6, b7], _ =>
      match k, hk with
      | 0, _ | 1, _ | 2, _ | 3, _ | 4, _ | 5, _ | 6, _ | 7, _ => simp; grind
def downL : List Nat → Nat → Nat × Nat
  | [], r => (r, 0)
  | b :: l, r => if 1 < b then (0, 9) else downL l (2 * r + b)
theorem down_all : ∀ f : Fin 256, downL ((List.range 8).map fun k => (f.1.testBit k).toNat).reverse 0 = (f.1, 0) := by decide +kernel
theorem down_twice : ∀ (l : List Nat) (r : Nat), l.any (fun b => decide (1 < b)) = true → downL l r = (0, 9)
  | [], r, h => by simp at h
  | b :: l, r, h => by
    simp only [downL]
    split
    · rfl
    · rename_i hb
      exact down_twice l _ (by simpa [hb] using h)
theorem down_bits {bits : List Nat} {f : Nat} {a : Bool} (x : Bits bits f a) : downL bits.reverse 0 = if a then (0, 9) else (f, 0) := by
  obtain ⟨h1, h2, h3, h4⟩ := x
  cases a with
  | true => rw [down_twice _ _ (by simpa using h4)]; rfl
  | false =>
    have e : bits = (List.range 8).map fun k => (f.testBit k).toNat := by
      refine List.ext_getElem (by simp [h1]) fun j hj hj2 => ?_
      simp at hj2
      rw [List.any_eq_false] at h4
      have h5 := h4 bits[j] (List.getElem_mem hj)
      have h6 := h3 j hj2
      simp [List.getD_eq_getElem?_getD, hj] at h6 h5 ⊢
      cases hb : f.testBit j with
      | true => simp [hb] at h6; simp; omega
      | false => simp [hb] at h6; simp; omega
    rw [e]
    exact down_all ⟨f, h2⟩
theorem name_idx {x : List UInt8} {i : Nat} (hi : i < 8) : (namesL.getD i [] = x) ↔ idxL x namesL 0 = some i := by
  constructor
  · rintro rfl
    match i, hi with
    | 0, _ | 1, _ | 2, _ | 3, _ | 4, _ | 5, _ | 6, _ | 7, _ => rfl
  · intro h
    simp only [idxL, namesL] at h
    repeat' split at h
    all_goals first
      | (cases h; done)
      | (simp only [Option.some.injEq] at h; rename_i e; subst e; subst h; rfl)
end
end Go.Proofs.YtkaibjdogeikbaaDoor.Am
namespace Go.Proofs.YtkaibjdogeikbaaDoor.Am
noncomputable section
/- THE DOCUMENT'S TEXT OF FLAGS, IN PLAIN LEAN. -/
def refUp (f : Nat) : Nat → List UInt8
  | 0 => []
  | j + 1 => if f.testBit j then (if refUp f j = [] then namesL.getD j [] else refUp f j ++ [44] ++ namesL.getD j []) else refUp f j
theorem refUp_len (f : Nat) : ∀ j, j ≤ 8 → (refUp f j).length ≤ 4 * j
  | 0, _ => Nat.le_refl _
  | j + 1, hj => by
    have := refUp_len f j (by omega)
    have h3 : (namesL.getD j []).length = 3 := by
      match j, hj with
      | 0, _ | 1, _ | 2, _ | 3, _ | 4, _ | 5, _ | 6, _ | 7, _ => rfl
    simp only [refUp]
    split
    · split <;> simp only [List.length_append, h3, List.length_cons, List.length_nil] <;> omega
    · omega
theorem refUp_all : ∀ f : Fin 256, (if refUp f.1 8 = [] then [45] else refUp f.1 8) = textL f.1 := by decide +kernel
theorem bit_mod {f j : Nat} : (f / 2 ^ j % 2 = 1) ↔ f.testBit j = true := by
  rw [Nat.testBit_eq_decide_div_mod_eq]; simp
theorem div_next (f j : Nat) : f / 2 ^ j / 2 = f / 2 ^ (j + 1) := by rw [Nat.div_div_eq_div_mul, Nat.pow_succ]
end
end Go.Proofs.YtkaibjdogeikbaaDoor.Am
