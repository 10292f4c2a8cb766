/- Rules to walk through code of the abstract machine with values that are not known (E3). -/
import Derived.Test.YtkaibjdogeikbaaDoorE2
namespace Go.Proofs.YtkaibjdogeikbaaDoor.Am
noncomputable section

/- STRINGS AS LISTS OF BYTES. -/
@[simp] theorem str_size (l : List UInt8) : (ByteArray.mk l.toArray).size = l.length := by simp [ByteArray.size]
theorem str_of (s : ByteArray) : ∃ l : List UInt8, s = ⟨l.toArray⟩ := ⟨s.data.toList, by simp⟩
@[simp] theorem str_append (a b : List UInt8) : (ByteArray.mk a.toArray) ++ (ByteArray.mk b.toArray) = ByteArray.mk (a ++ b).toArray := by
  apply ByteArray.ext; simp [ByteArray.data_append]
@[simp] theorem str_extract (l : List UInt8) (i j : Nat) : (ByteArray.mk l.toArray).extract i j = ByteArray.mk ((l.take j).drop i).toArray := by
  apply ByteArray.ext; simp [ByteArray.data_extract, List.extract_eq_take_drop, List.drop_take]
@[simp] theorem str_toList (l : List UInt8) : (ByteArray.mk l.toArray).toList = l := by
  rw [ByteArray.toList_eq]
@[simp] theorem str_get? (l : List UInt8) (i : Nat) : (ByteArray.mk l.toArray)[i]? = l[i]? := by
  by_cases h : i < l.length
  · rw [List.getElem?_eq_getElem h, getElem?_pos _ _ (by simpa using h)]; rfl
  · rw [List.getElem?_eq_none (by omega), getElem?_neg _ _ (by simpa using h)]
@[simp] theorem str_get (l : List UInt8) (i : Nat) (h : i < (ByteArray.mk l.toArray).size) : (ByteArray.mk l.toArray)[i] = l[i]'(by simpa using h) := rfl
theorem str_inj {a b : List UInt8} : ByteArray.mk a.toArray = ByteArray.mk b.toArray ↔ a = b := by
  constructor
  · intro h; have := congrArg (fun s => s.data.toList) h; simpa using this
  · rintro rfl; rfl
@[simp] theorem str_empty : ByteArray.empty = ByteArray.mk ([] : List UInt8).toArray := rfl

/-- Bytes as cells. -/
def u8s (l : List UInt8) : List Value := l.map fun b => .int .u8 (b.toNat : Int)
@[simp] theorem u8s_length (l : List UInt8) : (u8s l).length = l.length := by simp [u8s]
@[simp] theorem u8s_nil : u8s [] = [] := rfl
@[simp] theorem take_u8s (l : List UInt8) : (u8s l).take l.length = u8s l := List.take_of_length_le (by simp)
theorem u8s_cons (a : UInt8) (l : List UInt8) : u8s (a :: l) = .int .u8 (a.toNat : Int) :: u8s l := rfl
theorem u8s_append (a b : List UInt8) : u8s (a ++ b) = u8s a ++ u8s b := by simp [u8s]
theorem u8s_take (l : List UInt8) (k : Nat) : (u8s l).take k = u8s (l.take k) := by simp [u8s]
theorem u8s_drop (l : List UInt8) (k : Nat) : (u8s l).drop k = u8s (l.drop k) := by simp [u8s]
@[simp] theorem byteCells_str (l : List UInt8) : byteCells ⟨l.toArray⟩ = u8s l := by simp [byteCells, u8s]
@[simp] theorem bytesOf_u8s : ∀ l : List UInt8, bytesOf? (u8s l) = some l
  | [] => rfl
  | a :: l => by
    have ha : a.toNat < 256 := UInt8.toNat_lt a
    rw [u8s_cons]
    simp only [bytesOf?, bytesOf_u8s l]
    rw [if_pos (by omega)]
    simp
theorem u8s_get? {l : List UInt8} {i : Nat} {b : UInt8} (h : l[i]? = some b) : (u8s l)[i]? = some (.int .u8 (b.toNat : Int)) := by simp [u8s, h]
theorem u8s_inj : ∀ {a b : List UInt8}, u8s a = u8s b → a = b
  | [], [], _ => rfl
  | [], _ :: _, h => by cases h
  | _ :: _, [], h => by cases h
  | x :: a, y :: b, h => by
    rw [u8s_cons, u8s_cons] at h
    simp only [List.cons.injEq, Value.int.injEq, true_and] at h
    rw [u8s_inj h.2]
    have : x.toNat = y.toNat := by omega
    rw [UInt8.toNat_inj.1 this]

/- WHAT A MEMORY READS AS. -/
def Blk.read (b : Blk) (g o m : Nat) : Option (List Value) := match b with
  | .cells _ cs min => if min ≤ g ∧ g ≤ cs.length ∧ o + m ≤ g then some ((cs.drop o).take m) else none
  | .map _ => none
theorem AHeap.read_def (h : AHeap) (i g o m : Nat) : h.read i g o m = (h.get i).bind fun b => b.read g o m := by
  unfold AHeap.read
  cases h.get i with
  | none => rfl
  | some b => cases b <;> rfl
@[simp] theorem AHeap.read_put (h : AHeap) (i : Nat) (b : Blk) (j g o m : Nat) : (h.put i b).read j g o m = if i = j then b.read g o m else h.read j g o m := by
  simp only [AHeap.read_def, AHeap.get_put]
  split <;> simp
theorem AHeap.read_of {h : AHeap} {i : Nat} {b : Blk} (hi : h.get i = some b) (g o m : Nat) : h.read i g o m = b.read g o m := by
  rw [AHeap.read_def, hi]; rfl
theorem read_sub {h : AHeap} {i g o m : Nat} {vs : List Value} (x : h.read i g o m = some vs) {a b : Nat} (hab : a + b ≤ m) : h.read i g (o + a) b = some ((vs.drop a).take b) := by
  rw [AHeap.read_def] at x ⊢
  cases hb : h.get i with
  | none => rw [hb] at x; cases x
  | some blk =>
    rw [hb] at x
    cases blk with
    | map es => cases x
    | cells own cs min =>
      simp only [Option.bind_some, Blk.read] at x ⊢
      split at x
      · rename_i hc
        cases x
        rw [if_pos (by omega)]
        rw [List.drop_take, List.drop_drop, List.take_take]
        rw [Nat.min_eq_left (by omega)]
      · cases x
theorem read_one {h : AHeap} {i g o m : Nat} {vs : List Value} (x : h.read i g o m = some vs) {a : Nat} {v : Value} (ha : vs[a]? = some v) (hm : a < m) : h.read i g (o + a) 1 = some [v] := by
  rw [read_sub x (by omega)]
  obtain ⟨hlt, rfl⟩ := List.getElem?_eq_some_iff.1 ha
  rw [List.drop_eq_getElem_cons hlt]; rfl
theorem read_mono {h h' : AHeap} (hs : HSub h h') {i g o m : Nat} {vs : List Value} (x : h.read i g o m = some vs) : h'.read i g o m = some vs := by
  rw [AHeap.read_def] at x ⊢
  cases hb : h.get i with
  | none => rw [hb] at x; cases x
  | some blk => rw [hb] at x; rw [hs _ _ hb]; exact x
theorem read_lt {h : AHeap} {n : Nat} (w : WF h n) {i g o m : Nat} {vs : List Value} (x : h.read i g o m = some vs) : i < n := by
  rw [AHeap.read_def] at x
  cases hb : h.get i with
  | none => rw [hb] at x; cases x
  | some blk => exact w.lt hb
theorem read_ne {h : AHeap} {n : Nat} (w : WF h n) {i g o m : Nat} {vs : List Value} (x : h.read i g o m = some vs) : (¬ n = i) ∧ (¬ i = n) ∧ (∀ k, ¬ n + k = i) ∧ (∀ k, ¬ i = n + k) := by
  have := read_lt w x
  exact ⟨by omega, by omega, fun k => by omega, fun k => by omega⟩
attribute [simp] Blk.read
theorem touch_read {ids : List Nat} {h : AHeap} {i g o m : Nat} (hi : i ∈ ids) : (touch ids h).read i g o m = h.read i g o m := by
  simp only [AHeap.read_def, touch_get, if_pos hi]
@[simp] theorem touch_read_if {ids : List Nat} {h : AHeap} {i g o m : Nat} : (touch ids h).read i g o m = if i ∈ ids then h.read i g o m else none := by
  split
  · rename_i hi; exact touch_read hi
  · rename_i hi; simp only [AHeap.read_def, touch_get, if_neg hi]; rfl
theorem touch_get_if {ids : List Nat} {h : AHeap} {i : Nat} : (touch ids h).get i = if i ∈ ids then h.get i else none := touch_get h i ids
attribute [simp] touch_get_if
theorem read_len {h : AHeap} {i g o m : Nat} {vs : List Value} (x : h.read i g o m = some vs) : vs.length = m := by
  rw [AHeap.read_def] at x
  cases hb : h.get i with
  | none => rw [hb] at x; cases x
  | some blk =>
    rw [hb] at x
    cases blk with
    | map es => cases x
    | cells own cs min =>
      simp only [Option.bind_some, Blk.read] at x
      split at x
      · rename_i hc; cases x; simp; omega
      · cases x

/-- A slice of elements of so many cells. -/
inductive Sl (h : AHeap) (esz : Nat) : Value → Nat → List Value → Prop
  | nil : Sl h esz (.slice none 0 0) 0 []
  | mk {i o g k len : Nat} {vs : List Value} (hr : h.read i g o (len * esz) = some vs) : Sl h esz (.slice (some ⟨i, o, some g⟩) len k) len vs
theorem Sl.mono {h h' : AHeap} (hs : HSub h h') {e : Nat} {v : Value} {n : Nat} {vs : List Value} (x : Sl h e v n vs) : Sl h' e v n vs := by
  cases x with
  | nil => exact .nil
  | mk hr => exact .mk (read_mono hs hr)
theorem Sl.elems {h : AHeap} {e : Nat} {v : Value} {n : Nat} {vs : List Value} (x : Sl h e v n vs) : aElems h e v = some (n, vs) := by
  cases x with
  | nil => rfl
  | mk hr => simp only [aElems, hr, Option.map_some]
theorem Sl.lenS {h : AHeap} {e : Nat} {v : Value} {n : Nat} {vs : List Value} (x : Sl h e v n vs) : vs.length = n * e := by
  cases x with
  | nil => simp
  | mk hr => exact read_len hr

@[simp] theorem wrap64 {x : Int} (h0 : -9223372036854775808 ≤ x) (h1 : x < 9223372036854775808) : IntKind.i64.wrap x = x := by
  simp only [IntKind.wrap, IntKind.bits, IntKind.signed]
  simp
  omega
theorem wrapU {k : IntKind} {x : Int} (hk : k.signed = false) (h0 : 0 ≤ x) (h1 : x < 2 ^ k.bits) : k.wrap x = x := by
  cases k <;> simp [IntKind.signed] at hk <;> simp only [IntKind.wrap, IntKind.bits, IntKind.signed] at * <;> simp at * <;> omega
@[simp] theorem wrap_u8 {x : Int} (h0 : 0 ≤ x) (h1 : x < 256) : IntKind.u8.wrap x = x := wrapU rfl h0 h1
@[simp] theorem wrap_u16 {x : Int} (h0 : 0 ≤ x) (h1 : x < 65536) : IntKind.u16.wrap x = x := wrapU rfl h0 h1
@[simp] theorem wrap_u32 {x : Int} (h0 : 0 ≤ x) (h1 : x < 4294967296) : IntKind.u32.wrap x = x := wrapU rfl h0 h1
@[simp] theorem wrap_u64 {x : Int} (h0 : 0 ≤ x) (h1 : x < 18446744073709551616) : IntKind.u64.wrap x = x := wrapU rfl h0 h1
@[simp] theorem iteT {α : Sort _} {c : Prop} [Decidable c] {a b : α} (h : c) : (if c then a else b) = a := if_pos h
@[simp] theorem iteF {α : Sort _} {c : Prop} [Decidable c] {a b : α} (h : ¬ c) : (if c then a else b) = b := if_neg h
@[simp] theorem aBound_nat {m i : Nat} {k : IntKind} (h : i ≤ m) : aBound m (.int k (i : Int)) = some i := by simp only [aBound]; rw [if_pos (by omega)]; rfl
@[simp] theorem aBound_int {m : Nat} {x : Int} {k : IntKind} (h0 : 0 ≤ x) (h : x ≤ m) : aBound m (.int k x) = some x.toNat := by simp only [aBound]; rw [if_pos (by omega)]
end
end Go.Proofs.YtkaibjdogeikbaaDoor.Am
