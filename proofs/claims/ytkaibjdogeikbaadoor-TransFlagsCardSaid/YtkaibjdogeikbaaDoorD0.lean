/- The evaluator of the abstract machine, part D0: what it finds is a derivation. -/
import Derived.Test.YtkaibjdogeikbaaDoorC6
namespace Go.Proofs.YtkaibjdogeikbaaDoor.Am
noncomputable section

/- The operations, each by itself: smaller terms. -/
def ev_mov (ρ : X → Option Value) (h : AHeap) (n : Nat) (x : X) : Option (Value × AHeap × Nat) := (ρ x).map fun v => (v, h, n)
def ev_same (ρ : X → Option Value) (h : AHeap) (n : Nat) (x : X) : Option (Value × AHeap × Nat) := match ρ x with
    | some (.string s) => some (.string s, h, n)
    | _ => none
def ev_pick (ρ : X → Option Value) (h : AHeap) (n : Nat) (c : X) (a : X) (b : X) : Option (Value × AHeap × Nat) := match ρ c with
    | some (.bool true) => (ρ a).map fun v => (v, h, n)
    | some (.bool false) => (ρ b).map fun v => (v, h, n)
    | _ => none
def ev_alloc (h : AHeap) (n : Nat) (ty : Nat) (zero : List Value) : Option (Value × AHeap × Nat) := some (.pointer (some ⟨n, 0, some zero.length⟩), h.put n (.cells (some ty) zero zero.length), n + 1)
def ev_box (ρ : X → Option Value) (h : AHeap) (n : Nat) (ty : Nat) (x : X) : Option (Value × AHeap × Nat) := match ρ x with
    | some v => if isTuple v then none else some (.pointer (some ⟨n, 0, some v.cells.toList.length⟩), h.put n (.cells (some ty) v.cells.toList v.cells.toList.length), n + 1)
    | none => none
def ev_build (ρ : X → Option Value) (h : AHeap) (n : Nat) (zero : List Value) (parts : List (Nat × Nat × X)) : Option (Value × AHeap × Nat) := (aFill ρ zero parts).map fun cs => (.agg cs.toArray, h, n)
def ev_buildSlice (ρ : X → Option Value) (h : AHeap) (n : Nat) (ty : Nat) (esz : Nat) (len : Nat) (zero : List Value) (parts : List (Nat × Nat × X)) : Option (Value × AHeap × Nat) := match aFill ρ (repeatCells zero len) parts with
    | some cs => if cs.length = len * esz ∧ 0 < esz then some (.slice (some ⟨n, 0, some cs.length⟩) len (2 * esz), h.put n (.cells (some ty) cs cs.length), n + 1) else none
    | none => none
def ev_load (ρ : X → Option Value) (h : AHeap) (n : Nat) (m : Option Nat) (a : X) : Option (Value × AHeap × Nat) := match ρ a with
    | some (.pointer (some ⟨i, o, some g⟩)) => match m with
      | none => match h.read i g o 1 with
        | some [v] => some (v, h, n)
        | _ => none
      | some m => (h.read i g o m).map fun vs => (.agg vs.toArray, h, n)
    | _ => none
def ev_store (ρ : X → Option Value) (h : AHeap) (n : Nat) (m : Nat) (a : X) (x : X) : Option (Value × AHeap × Nat) := match ρ a, ρ x with
    | some (.pointer (some ⟨i, o, some g⟩)), some v => if v.cells.size = m ∧ isTuple v = false then (h.write i g o v.cells.toList).map fun h' => (undef, h', n) else none
    | _, _ => none
def ev_nilCheck (ρ : X → Option Value) (h : AHeap) (n : Nat) (x : X) : Option (Value × AHeap × Nat) := match ρ x with
    | some (.pointer (some a)) => some (.pointer (some a), h, n)
    | some (.func (.func f) xs us) => some (.func (.func f) xs us, h, n)
    | _ => none
def ev_bin (ρ : X → Option Value) (h : AHeap) (n : Nat) (op : BinOp) (x : X) (y : X) : Option (Value × AHeap × Nat) := match ρ x, ρ y with
    | some a, some b => (aBin op a b).map fun v => (v, h, n)
    | _, _ => none
def ev_eqv (ρ : X → Option Value) (h : AHeap) (n : Nat) (neg : Bool) (k : Rk) (lit : Bool) (x : X) (y : X) : Option (Value × AHeap × Nat) := match ρ x, ρ y with
    | some a, some b => (aEqv k lit a b).map fun v => (.bool (if neg then !v else v), h, n)
    | _, _ => none
def ev_eqAgg (ρ : X → Option Value) (h : AHeap) (n : Nat) (neg : Bool) (ls : List Leaf) (x : X) (y : X) : Option (Value × AHeap × Nat) := match ρ x, ρ y with
    | some (.agg a), some (.agg b) => (leavesEq ls a.toList b.toList).map fun v => (.bool (if neg then !v else v), h, n)
    | _, _ => none
def ev_un (ρ : X → Option Value) (h : AHeap) (n : Nat) (op : UnOp) (x : X) : Option (Value × AHeap × Nat) := match ρ x with
    | some a => (aUn op a).map fun v => (v, h, n)
    | none => none
def ev_conv (ρ : X → Option Value) (h : AHeap) (n : Nat) (k : IntKind) (x : X) : Option (Value × AHeap × Nat) := match ρ x with
    | some (.int _ m) => some (.int k (k.wrap m), h, n)
    | _ => none
def ev_bytesOf (ρ : X → Option Value) (h : AHeap) (n : Nat) (ty : Nat) (x : X) : Option (Value × AHeap × Nat) := match ρ x with
    | some (.string s) => some (.slice (some ⟨n, 0, some (byteCells s).length⟩) s.size 2, h.put n (.cells (some ty) (byteCells s) (byteCells s).length), n + 1)
    | _ => none
def ev_strOf (ρ : X → Option Value) (h : AHeap) (n : Nat) (x : X) : Option (Value × AHeap × Nat) := match ρ x with
    | some (.slice none 0 0) => some (.string ByteArray.empty, h, n)
    | some (.slice (some ⟨i, o, some g⟩) len _) => match h.read i g o len with
      | some vs => match bytesOf? vs with
        | some l => some (.string ⟨l.toArray⟩, h, n)
        | none => none
      | none => none
    | _ => none
def ev_sliceStr (ρ : X → Option Value) (h : AHeap) (n : Nat) (x : X) (lo : Option X) (hi : Option X) : Option (Value × AHeap × Nat) := match ρ x with
    | some (.string s) => match aBounds ρ s.size lo hi with
      | some (l, u) => some (.string (s.extract l u), h, n)
      | none => none
    | _ => none
def ev_slice (ρ : X → Option Value) (h : AHeap) (n : Nat) (esz : Nat) (x : X) (lo : Option X) (hi : Option X) (mx : Option X) : Option (Value × AHeap × Nat) := match ρ x with
    | some (.slice none 0 0) => match aBounds ρ 0 lo hi with
      | some _ => (match mx with | none => some (.slice none 0 0, h, n) | some _ => none)
      | none => none
    | some (.slice (some ⟨i, o, some g⟩) len k) => match mx with
      | none => match aBounds ρ len lo hi with
        | some (l, u) => some (.slice (some ⟨i, o + l * esz, some g⟩) (u - l) (if k % 2 = 1 then k - 2 * l else if k = 2 * esz then k else 0), h, n)
        | none => none
      | some mx => match (ρ mx).bind (aBound len) with
        | some m => match aBounds ρ m lo hi, hi with
          | some (l, u), some _ => some (.slice (some ⟨i, o + l * esz, some g⟩) (u - l) (2 * (m - l) + 1), h, n)
          | _, _ => none
        | none => none
    | _ => none
def ev_sliceArr (ρ : X → Option Value) (h : AHeap) (n : Nat) (esz : Nat) (len : Nat) (x : X) (lo : Option X) (hi : Option X) : Option (Value × AHeap × Nat) := match ρ x with
    | some (.pointer (some ⟨i, o, some g⟩)) => match aBounds ρ len lo hi with
      | some (l, u) => some (.slice (some ⟨i, o + l * esz, some g⟩) (u - l) (2 * (len - l) + 1), h, n)
      | none => none
    | _ => none
def ev_fieldAddr (ρ : X → Option Value) (h : AHeap) (n : Nat) (off : Nat) (x : X) : Option (Value × AHeap × Nat) := match ρ x with
    | some (.pointer (some ⟨i, o, some g⟩)) => some (.pointer (some ⟨i, o + off, some g⟩), h, n)
    | _ => none
def ev_field (ρ : X → Option Value) (h : AHeap) (n : Nat) (off : Nat) (m : Option Nat) (x : X) : Option (Value × AHeap × Nat) := match ρ x with
    | some (.agg cs) => (aPart cs off m).map fun v => (v, h, n)
    | _ => none
def ev_indexAddr (ρ : X → Option Value) (h : AHeap) (n : Nat) (esz : Nat) (x : X) (i : X) : Option (Value × AHeap × Nat) := match ρ x, ρ i with
    | some (.slice (some ⟨b, o, some g⟩) len _), some (.int _ ix) => if 0 ≤ ix ∧ ix < len then some (.pointer (some ⟨b, o + ix.toNat * esz, some g⟩), h, n) else none
    | _, _ => none
def ev_indexArr (ρ : X → Option Value) (h : AHeap) (n : Nat) (esz : Nat) (len : Nat) (x : X) (i : X) : Option (Value × AHeap × Nat) := match ρ x, ρ i with
    | some (.pointer (some ⟨b, o, some g⟩)), some (.int _ ix) => if 0 ≤ ix ∧ ix < len then some (.pointer (some ⟨b, o + ix.toNat * esz, some g⟩), h, n) else none
    | _, _ => none
def ev_index (ρ : X → Option Value) (h : AHeap) (n : Nat) (esz : Nat) (len : Nat) (m : Option Nat) (x : X) (i : X) : Option (Value × AHeap × Nat) := match ρ x, ρ i with
    | some (.agg cs), some (.int _ ix) => if 0 ≤ ix ∧ ix < len then (aPart cs (ix.toNat * esz) m).map fun v => (v, h, n) else none
    | _, _ => none
def ev_indexStr (ρ : X → Option Value) (h : AHeap) (n : Nat) (x : X) (i : X) : Option (Value × AHeap × Nat) := match ρ x, ρ i with
    | some (.string s), some (.int _ ix) => if 0 ≤ ix ∧ ix < s.size then (s[ix.toNat]?).map fun b => (.int .u8 (b.toNat : Int), h, n) else none
    | _, _ => none
def ev_extract (ρ : X → Option Value) (h : AHeap) (n : Nat) (x : X) (i : Nat) : Option (Value × AHeap × Nat) := match ρ x with
    | some (.tuple vs) => (vs[i]?).map fun v => (v, h, n)
    | _ => none
def ev_lenStr (ρ : X → Option Value) (h : AHeap) (n : Nat) (x : X) : Option (Value × AHeap × Nat) := match ρ x with
    | some (.string s) => some (.int .i64 (s.size : Int), h, n)
    | _ => none
def ev_lenSlice (ρ : X → Option Value) (h : AHeap) (n : Nat) (x : X) : Option (Value × AHeap × Nat) := match ρ x with
    | some (.slice _ len _) => some (.int .i64 (len : Int), h, n)
    | _ => none
def ev_lenConst (h : AHeap) (n : Nat) (m : Nat) : Option (Value × AHeap × Nat) := some (.int .i64 (m : Int), h, n)
def ev_append (ρ : X → Option Value) (h : AHeap) (n : Nat) (ty : Nat) (esz : Nat) (bytes : Nat) (x : X) (y : X) : Option (Value × AHeap × Nat) := match ρ x, ρ y with
    | some s, some v => aAppend h n ty esz bytes s v
    | _, _ => none
def ev_copy (ρ : X → Option Value) (h : AHeap) (n : Nat) (esz : Nat) (x : X) (y : X) : Option (Value × AHeap × Nat) := match ρ x, ρ y with
    | some d, some v => aCopy h n esz d v
    | _, _ => none
def ev_min (ρ : X → Option Value) (h : AHeap) (n : Nat) (xs : List X) : Option (Value × AHeap × Nat) := match mapX ρ xs with
    | some vs => (aMin vs).map fun v => (v, h, n)
    | none => none
def ev_max (ρ : X → Option Value) (h : AHeap) (n : Nat) (xs : List X) : Option (Value × AHeap × Nat) := match mapX ρ xs with
    | some vs => (aMax vs).map fun v => (v, h, n)
    | none => none
def ev_makeFunc (ρ : X → Option Value) (h : AHeap) (n : Nat) (fn : Nat) (first : List X) (captured : List X) : Option (Value × AHeap × Nat) := match mapX ρ first, mapX ρ captured with
    | some xs, some us => some (.func (.func fn) xs.toArray us.toArray, h, n)
    | _, _ => none
def ev_makeIface (ρ : X → Option Value) (h : AHeap) (n : Nat) (t : TypeId) (x : X) : Option (Value × AHeap × Nat) := (ρ x).map fun v => (.iface t v, h, n)
def ev_makeSlice (ρ : X → Option Value) (h : AHeap) (n : Nat) (ty : Nat) (esz : Nat) (bytes : Nat) (zero : List Value) (l : X) (c : X) : Option (Value × AHeap × Nat) := match ρ l, ρ c with
    | some (.int _ l), some (.int _ c) => if 0 ≤ l ∧ l ≤ c ∧ bytes * c ≤ 281474976710656 ∧ c < 9223372036854775808 ∧ 0 < esz ∧ zero.length = esz then
        some (.slice (some ⟨n, 0, some (repeatCells zero l.toNat).length⟩) l.toNat (2 * esz), h.put n (.cells (some ty) (repeatCells zero l.toNat) (repeatCells zero l.toNat).length), n + 1)
      else none
    | _, _ => none
def ev_lookup (ρ : X → Option Value) (h : AHeap) (n : Nat) (kstr : Bool) (commaOk : Bool) (zero : Value) (x : X) (i : X) : Option (Value × AHeap × Nat) := match ρ x, ρ i with
    | some m, some k => if keyKind kstr k then (aLookup h commaOk zero m k).map fun v => (v, h, n) else none
    | _, _ => none
def ev_call : Option (Value × AHeap × Nat) := none
def ev_fail : Option (Value × AHeap × Nat) := none
def ev_cap (ρ : X → Option Value) (h : AHeap) (n : Nat) (x : X) : Option (Value × AHeap × Nat) := match ρ x with
    | some (.slice none 0 0) => some (.int .i64 0, h, n)
    | some (.slice (some _) _ k) => if k % 2 = 1 then some (.int .i64 ((k / 2 : Nat) : Int), h, n) else none
    | _ => none
def ev_sliceData (ρ : X → Option Value) (h : AHeap) (n : Nat) (x : X) : Option (Value × AHeap × Nat) := match ρ x with
    | some (.slice none 0 0) => some (.pointer none, h, n)
    | some (.slice (some a) len _) => if 0 < len then some (.pointer (some a), h, n) else none
    | _ => none
def ev_unsafeString (ρ : X → Option Value) (h : AHeap) (n : Nat) (ty : Nat) (x : X) (l : X) : Option (Value × AHeap × Nat) := match ρ x, ρ l with
    | some (.pointer none), some (.int _ 0) => some (.string ByteArray.empty, h, n)
    | some (.pointer (some ⟨i, o, some g⟩)), some (.int _ m) => match h.get i with
      | some (.cells (some t) cs min) => if t = ty ∧ 0 < m ∧ m < 9223372036854775808 then match h.read i g o m.toNat with
        | some vs => match bytesOf? vs with
          | some l => some (.string ⟨l.toArray⟩, h.put i (.cells none cs min), n)
          | none => none
        | none => none
        else none
      | _ => none
    | _, _ => none
def ev_toUnsafe (ρ : X → Option Value) (h : AHeap) (n : Nat) (x : X) : Option (Value × AHeap × Nat) := match ρ x with
    | some (.pointer none) => some (.pointer none, h, n)
    | some (.pointer (some ⟨i, o, some g⟩)) => match h.read i g o 1 with
      | some _ => some (.pointer (some ⟨i, o, some g⟩), h, n)
      | none => none
    | _ => none
def ev_fromUnsafe (ρ : X → Option Value) (h : AHeap) (n : Nat) (u : Nat) (s : Nat) (x : X) : Option (Value × AHeap × Nat) := match ρ x with
    | some (.pointer none) => some (.pointer none, h, n)
    | some (.pointer (some ⟨i, o, some g⟩)) => match h.get i with
      | some (.cells (some t) _ min) => if t = u ∧ min ≤ g ∧ o % s = 0 ∧ 0 < s ∧ o + s ≤ g then some (.pointer (some ⟨i, o, some g⟩), h, n) else none
      | _ => none
    | _ => none
def aevF (ρ : X → Option Value) (h : AHeap) (n : Nat) : AOp → Option (Value × AHeap × Nat)
  | .mov x => ev_mov ρ h n x
  | .same x => ev_same ρ h n x
  | .pick c a b => ev_pick ρ h n c a b
  | .alloc ty zero => ev_alloc h n ty zero
  | .box ty x => ev_box ρ h n ty x
  | .build zero parts => ev_build ρ h n zero parts
  | .buildSlice ty esz len zero parts => ev_buildSlice ρ h n ty esz len zero parts
  | .load m a => ev_load ρ h n m a
  | .store m a x => ev_store ρ h n m a x
  | .nilCheck x => ev_nilCheck ρ h n x
  | .bin op x y => ev_bin ρ h n op x y
  | .eqv neg k lit x y => ev_eqv ρ h n neg k lit x y
  | .eqAgg neg ls x y => ev_eqAgg ρ h n neg ls x y
  | .un op x => ev_un ρ h n op x
  | .conv k x => ev_conv ρ h n k x
  | .bytesOf ty x => ev_bytesOf ρ h n ty x
  | .strOf x => ev_strOf ρ h n x
  | .sliceStr x lo hi => ev_sliceStr ρ h n x lo hi
  | .slice esz x lo hi mx => ev_slice ρ h n esz x lo hi mx
  | .sliceArr esz len x lo hi => ev_sliceArr ρ h n esz len x lo hi
  | .fieldAddr off x => ev_fieldAddr ρ h n off x
  | .field off m x => ev_field ρ h n off m x
  | .indexAddr esz x i => ev_indexAddr ρ h n esz x i
  | .indexArr esz len x i => ev_indexArr ρ h n esz len x i
  | .index esz len m x i => ev_index ρ h n esz len m x i
  | .indexStr x i => ev_indexStr ρ h n x i
  | .extract x i => ev_extract ρ h n x i
  | .lenStr x => ev_lenStr ρ h n x
  | .lenSlice x => ev_lenSlice ρ h n x
  | .lenConst m => ev_lenConst h n m
  | .append ty esz bytes x y => ev_append ρ h n ty esz bytes x y
  | .copy esz x y => ev_copy ρ h n esz x y
  | .min xs => ev_min ρ h n xs
  | .max xs => ev_max ρ h n xs
  | .makeFunc fn first captured => ev_makeFunc ρ h n fn first captured
  | .makeIface t x => ev_makeIface ρ h n t x
  | .makeSlice ty esz bytes zero l c => ev_makeSlice ρ h n ty esz bytes zero l c
  | .lookup kstr commaOk zero x i => ev_lookup ρ h n kstr commaOk zero x i
  | .call _ _ => ev_call
  | .fail => ev_fail
  | .cap x => ev_cap ρ h n x
  | .sliceData x => ev_sliceData ρ h n x
  | .unsafeString ty x l => ev_unsafeString ρ h n ty x l
  | .toUnsafe x => ev_toUnsafe ρ h n x
  | .fromUnsafe u s x => ev_fromUnsafe ρ h n u s x
theorem aevF_eq (ρ : X → Option Value) (h : AHeap) (n : Nat) (op : AOp) : aevF ρ h n op = aev ρ h n op := by cases op <;> rfl
end
end Go.Proofs.YtkaibjdogeikbaaDoor.Am
