/- Contracts and plain facts (L). -/
import Derived.Test.YtbgjcoochdljfaaDoorRE
namespace Go.Proofs.YtbgjcoochdljfaaDoorR.Am
noncomputable section
/- PLAIN FACTS FOR THE LIBRARY's CONTRACTS. -/
/-- A contract whose value is found by the walk. -/
theorem wret_ex {E : Env} {f : Nat} {af : AFunc} {args : List Value} {h : AHeap} {n : Nat} {P : Value → Prop} {n' : Nat} (hf : E.fs f = some af) (ha : args.length ≤ af.ntmps)
    (hx : wx E af.body (argFr 0 args) h n (Done af.results (fun v1 h1 n1 => P v1 ∧ HSub h h1 ∧ n1 ≤ n')) ()) : ∃ v, P v ∧ Ret E f args h n v [] n' := by
  obtain ⟨e, σ', h1, n1, hb, he, vs, hvs, hP, hsub, hn⟩ := wx_big hx
  exact ⟨_, hP, .lift (.call hf ha hb he hvs hsub) hn, by simp, by simp⟩
theorem prim_indexByte {ps : List (Nat × Prim)} {f : Nat} (hf : lookF ps f = some .indexByte) {l : List UInt8} {c : UInt8} {h : AHeap} {n : Nat} : primOrc ps f [.string ⟨l.toArray⟩, .int .u8 (c.toNat : Int)] h n = some (.int .i64 (Lib.indexByte l c), h, n) := by
  have : c.toNat < 256 := UInt8.toNat_lt c
  simp only [primOrc, hf, Prim.ev]
  rw [if_pos (by omega)]
  simp
theorem prim_count {ps : List (Nat × Prim)} {f : Nat} (hf : lookF ps f = some .count) {l : List UInt8} {c : UInt8} {h : AHeap} {n : Nat} : primOrc ps f [.string ⟨l.toArray⟩, .int .u8 (c.toNat : Int)] h n = some (.int .i64 (Lib.countByte l c : Nat), h, n) := by
  have : c.toNat < 256 := UInt8.toNat_lt c
  simp only [primOrc, hf, Prim.ev]
  rw [if_pos (by omega)]
  simp
theorem prim_makeNoZero {ps : List (Nat × Prim)} {f ty : Nat} (hf : lookF ps f = some (.makeNoZero ty)) {m : Int} (h0 : 0 ≤ m) (h1 : m ≤ 70368744177664) {h : AHeap} {n : Nat} : primOrc ps f [.int .i64 m] h n = some (.slice (some ⟨n, 0, some 0⟩) m.toNat 2, h.put n (.cells (some ty) [] 0), n + 1) := by
  simp only [primOrc, hf, Prim.ev]
  rw [if_pos ⟨h0, h1⟩]
theorem orc_ret {fs : FT} {ps : List (Nat × Prim)} {f : Nat} {args : List Value} {h : AHeap} {n : Nat} {v : Value} {l : List (Nat × Blk)} {n' : Nat} (hp : primOrc ps f args h n = some (v, putsL h l, n')) (hn : n ≤ n') (hnd : (l.map (·.1)).Nodup) (hids : ∀ i, i ∈ l.map (·.1) → (h.get i).isSome ∨ n ≤ i ∧ i < n') : Ret (mkEnv fs ps).env f args h n v l n' := ⟨.orc hp hn, hnd, hids⟩
def joinL (sep : List UInt8) : List (List UInt8) → List UInt8
  | [] => []
  | [a] => a
  | a :: b :: l => a ++ sep ++ joinL sep (b :: l)
/-- A text parted at a byte. -/
def splitL (c : UInt8) : List UInt8 → List (List UInt8)
  | [] => [[]]
  | x :: l => if x = c then [] :: splitL c l else match splitL c l with
    | [] => [[x]]
    | p :: ps => (x :: p) :: ps
theorem splitL_ne (c : UInt8) (l : List UInt8) : splitL c l ≠ [] := by
  cases l with
  | nil => simp [splitL]
  | cons x l =>
    simp only [splitL]
    split
    · simp
    · split <;> simp
/-- How long the parts are. -/
def lens : List (List UInt8) → Nat
  | [] => 0
  | a :: l => a.length + 1 + lens l
theorem splitL_lens (c : UInt8) : ∀ l : List UInt8, lens (splitL c l) = l.length + 1
  | [] => rfl
  | x :: l => by
    simp only [splitL]
    split
    · simp only [lens, splitL_lens c l, List.length_nil, List.length_cons]; omega
    · have ih := splitL_lens c l
      split
      · rename_i h; exact absurd h (splitL_ne c l)
      · rename_i p ps h; rw [h] at ih; simp only [lens, List.length_cons] at ih ⊢; omega
/-- Strings as cells. -/
def strsL (l : List (List UInt8)) : List Value := l.map fun s => .string ⟨s.toArray⟩
def emptyS (k : Nat) : List Value := List.replicate k (.string ⟨#[]⟩)
@[simp] theorem strsL_length (l : List (List UInt8)) : (strsL l).length = l.length := by simp [strsL]
@[simp] theorem emptyS_length (k : Nat) : (emptyS k).length = k := by simp [emptyS]
@[simp] theorem take_strsL (l : List (List UInt8)) : (strsL l).take l.length = strsL l := List.take_of_length_le (by simp)
theorem strsL_append (a b : List (List UInt8)) : strsL (a ++ b) = strsL a ++ strsL b := by simp [strsL]
theorem split_zero {c : UInt8} : ∀ {l : List UInt8}, Lib.countByte l c = 0 → splitL c l = [l]
  | [], _ => rfl
  | x :: l, h => by
    simp only [Lib.countByte, List.count_cons] at h
    have hx : ¬ x = c := by intro e; simp [e] at h
    simp only [splitL, if_neg hx]
    rw [split_zero (l := l) (by simp only [Lib.countByte]; omega)]
theorem split_succ {c : UInt8} : ∀ {l : List UInt8} {k : Nat}, Lib.countByte l c = k + 1 → ∃ i : Nat, Lib.indexByte l c = (i : Int) ∧ i < l.length ∧ Lib.countByte (l.drop (i + 1)) c = k ∧ splitL c l = l.take i :: splitL c (l.drop (i + 1))
  | [], k, h => by simp [Lib.countByte] at h
  | x :: l, k, h => by
    by_cases hx : x = c
    · subst hx
      refine ⟨0, by simp [Lib.indexByte], by simp, ?_, by simp [splitL]⟩
      simp only [Lib.countByte, List.count_cons_self] at h
      simp only [Lib.countByte, Nat.zero_add, List.drop_succ_cons, List.drop_zero]; omega
    · have h' : Lib.countByte l c = k + 1 := by
        simp only [Lib.countByte, List.count_cons] at h ⊢
        simpa [hx] using h
      obtain ⟨i, h1, h2, h3, h4⟩ := split_succ h'
      refine ⟨i + 1, ?_, by simp only [List.length_cons]; omega, by simpa using h3, ?_⟩
      · have hne : ¬ Lib.indexByte l c = -1 := by omega
        have hb : (x == c) = false := by simpa using hx
        simp only [Lib.indexByte, hb, h1]
        rw [if_neg (by decide), if_neg (by simp)]
        rfl
      · simp only [splitL, if_neg hx, h4, List.take_succ_cons, List.drop_succ_cons]
theorem set_next (done : List (List UInt8)) (p : List UInt8) (k : Nat) : List.take done.length (strsL done ++ emptyS (k + 1)) ++ Value.string ⟨p.toArray⟩ :: List.drop (done.length + 1) (strsL done ++ emptyS (k + 1)) = strsL (done ++ [p]) ++ emptyS k := by
  have h1 : (strsL done).length = done.length := by simp
  rw [← h1, List.take_left, strsL_append, ← List.drop_drop, List.drop_left]
  simp [emptyS, strsL, List.replicate_succ]
@[simp] theorem repeat_one (v : Value) : ∀ k : Nat, repeatCells [v] k = List.replicate k v
  | 0 => rfl
  | k + 1 => by simp [repeatCells, repeat_one v k, List.replicate_succ]
theorem count_le (l : List UInt8) (c : UInt8) : Lib.countByte l c ≤ l.length := List.count_le_length
theorem lens_ge : ∀ l : List (List UInt8), l.length ≤ lens l
  | [] => Nat.le_refl _
  | a :: l => by have := lens_ge l; simp only [lens, List.length_cons]; omega
theorem split_len (c : UInt8) (l : List UInt8) : (splitL c l).length ≤ l.length + 1 := by
  have := lens_ge (splitL c l); rw [splitL_lens] at this; exact this
def joinT (sep : List UInt8) (l : List (List UInt8)) : List UInt8 := l.flatMap fun s => sep ++ s
theorem joinL_cons (sep a : List UInt8) : ∀ l : List (List UInt8), joinL sep (a :: l) = a ++ joinT sep l
  | [] => by simp [joinL, joinT]
  | b :: l => by simp only [joinL, joinL_cons sep b l, joinT, List.flatMap_cons, List.append_assoc]
theorem joinT_snoc (sep : List UInt8) (l : List (List UInt8)) (x : List UInt8) : joinT sep (l ++ [x]) = joinT sep l ++ sep ++ x := by simp [joinT]
def sumLen (l : List (List UInt8)) : Nat := (l.map (·.length)).sum
theorem sumLen_snoc (l : List (List UInt8)) (x : List UInt8) : sumLen (l ++ [x]) = sumLen l + x.length := by simp [sumLen]
theorem joinT_len (sep : List UInt8) : ∀ l : List (List UInt8), (joinT sep l).length = sep.length * l.length + sumLen l
  | [] => by simp [joinT, sumLen]
  | x :: l => by
    have := joinT_len sep l
    simp only [joinT, sumLen, List.flatMap_cons, List.length_append, List.length_cons, List.map_cons, List.sum_cons] at this ⊢
    rw [this, Nat.mul_succ]; omega
theorem strsL_get? {l : List (List UInt8)} {i : Nat} {s : List UInt8} (h : l[i]? = some s) : (strsL l)[i]? = some (.string ⟨s.toArray⟩) := by simp [strsL, h]
theorem take_snoc {α : Type} {l : List α} {j : Nat} {x : α} (h : l[j]? = some x) : l.take (j + 1) = l.take j ++ [x] := by
  obtain ⟨hlt, rfl⟩ := List.getElem?_eq_some_iff.1 h
  rw [List.take_succ_eq_append_getElem hlt]
theorem sumLen_take_le (l : List (List UInt8)) (j : Nat) : sumLen (l.take j) ≤ sumLen l := by
  induction l generalizing j with
  | nil => simp
  | cons a l ih => cases j with
    | zero => simp [sumLen]
    | succ j => have := ih j; simp only [sumLen, List.take_succ_cons, List.map_cons, List.sum_cons] at this ⊢; omega
theorem tdiv_big {a b : Nat} (hb : 0 < b) (hb2 : b < 1000000000) (h : a * b < 1000000000) : (a : Int) < Int.tdiv 9223372036854775807 (b : Int) := by
  have h1 : a < 9223372036854775807 / b := by
    have : a + 1 ≤ 9223372036854775807 / b := by
      rw [Nat.le_div_iff_mul_le hb, Nat.succ_mul]
      omega
    omega
  have h2 : Int.tdiv 9223372036854775807 (b : Int) = ((9223372036854775807 / b : Nat) : Int) := rfl
  rw [h2]; omega
theorem tdiv_le {b : Nat} (_hb : 0 < b) : Int.tdiv 9223372036854775807 (b : Int) < 9223372036854775808 := by
  have h2 : Int.tdiv 9223372036854775807 (b : Int) = ((9223372036854775807 / b : Nat) : Int) := rfl
  have := Nat.div_le_self 9223372036854775807 b
  rw [h2]; omega
theorem strsL_set {l : List (List UInt8)} {i : Nat} (hi : i < l.length) (x : List UInt8) : List.take i (strsL l) ++ Value.string ⟨x.toArray⟩ :: List.drop (i + 1) (strsL l) = strsL (l.set i x) := by
  have : strsL (l.set i x) = (strsL l).set i (.string ⟨x.toArray⟩) := by simp [strsL, List.map_set]
  rw [this, List.set_eq_take_append_cons_drop, if_pos (by simpa using hi)]
end
end Go.Proofs.YtbgjcoochdljfaaDoorR.Am
