/- The evaluator of the abstract machine,part D: what it finds is a derivation. -/
import Derived.Test.YtkdpjaaohddppaaGreatDoorC
import Derived.Lib.Bytealg
import Derived.Lib.MakeNoZero
import Derived.Lib.Repeat
import Derived.OpenShut
import Derived.MakeChecks
import Derived.ChangeKeys
import Derived.WideKeyArgs2
import Derived.WideKeyElems2
import Derived.FnData
namespace Go.Proofs.YtkdpjaaohddppaaGreatDoor.Am
noncomputable section

/- The operations,each by itself: smaller terms. -/
def ev_mov (ρ : X → Option Value) (h : AHeap) (n : Nat) (x : X) : Option (Value × AHeap × Nat) := (ρ x).map fun v => (v,h,n)
def ev_same (ρ : X → Option Value) (h : AHeap) (n : Nat) (x : X) : Option (Value × AHeap × Nat) := match ρ x with
    | some (.string s) => some (.string s,h,n)
    | _ => none
def ev_pick (ρ : X → Option Value) (h : AHeap) (n : Nat) (c : X) (a : X) (b : X) : Option (Value × AHeap × Nat) := match ρ c with
    | some (.bool true) => (ρ a).map fun v => (v,h,n)
    | some (.bool false) => (ρ b).map fun v => (v,h,n)
    | _ => none
def ev_alloc (h : AHeap) (n : Nat) (ty : Nat) (zero : List Value) : Option (Value × AHeap × Nat) := some (.pointer (some ⟨n,0,some zero.length⟩),h.put n (.cells (some ty) zero zero.length),n + 1)
def ev_box (ρ : X → Option Value) (h : AHeap) (n : Nat) (ty : Nat) (x : X) : Option (Value × AHeap × Nat) := match ρ x with
    | some v => if isTuple v then none else some (.pointer (some ⟨n,0,some v.cells.toList.length⟩),h.put n (.cells (some ty) v.cells.toList v.cells.toList.length),n + 1)
    | none => none
def ev_build (ρ : X → Option Value) (h : AHeap) (n : Nat) (zero : List Value) (parts : List (Nat × Nat × X)) : Option (Value × AHeap × Nat) := (aFill ρ zero parts).map fun cs => (.agg cs.toArray,h,n)
def ev_buildSlice (ρ : X → Option Value) (h : AHeap) (n : Nat) (ty : Nat) (esz : Nat) (len : Nat) (zero : List Value) (parts : List (Nat × Nat × X)) : Option (Value × AHeap × Nat) := match aFill ρ (repeatCells zero len) parts with
    | some cs => if cs.length = len * esz ∧ 0 < esz then some (.slice (some ⟨n,0,some cs.length⟩) len (2 * esz),h.put n (.cells (some ty) cs cs.length),n + 1) else none
    | none => none
def ev_load (ρ : X → Option Value) (h : AHeap) (n : Nat) (m : Option Nat) (a : X) : Option (Value × AHeap × Nat) := match ρ a with
    | some (.pointer (some ⟨i,o,some g⟩)) => match m with
      | none => match h.read i g o 1 with
        | some [v] => some (v,h,n)
        | _ => none
      | some m => (h.read i g o m).map fun vs => (.agg vs.toArray,h,n)
    | _ => none
def ev_store (ρ : X → Option Value) (h : AHeap) (n : Nat) (m : Nat) (a : X) (x : X) : Option (Value × AHeap × Nat) := match ρ a, ρ x with
    | some (.pointer (some ⟨i,o,some g⟩)),some v => if v.cells.size = m ∧ isTuple v = false then (h.write i g o v.cells.toList).map fun h' => (undef,h',n) else none
    | _,_ => none
def ev_nilCheck (ρ : X → Option Value) (h : AHeap) (n : Nat) (x : X) : Option (Value × AHeap × Nat) := match ρ x with
    | some (.pointer (some a)) => some (.pointer (some a),h,n)
    | some (.func (.func f) xs us) => some (.func (.func f) xs us,h,n)
    | _ => none
def ev_bin (ρ : X → Option Value) (h : AHeap) (n : Nat) (op : BinOp) (x : X) (y : X) : Option (Value × AHeap × Nat) := match ρ x, ρ y with
    | some a,some b => (aBin op a b).map fun v => (v,h,n)
    | _,_ => none
def ev_eqv (ρ : X → Option Value) (h : AHeap) (n : Nat) (neg : Bool) (k : Rk) (lit : Bool) (x : X) (y : X) : Option (Value × AHeap × Nat) := match ρ x, ρ y with
    | some a,some b => (aEqv k lit a b).map fun v => (.bool (if neg then !v else v),h,n)
    | _,_ => none
def ev_eqAgg (ρ : X → Option Value) (h : AHeap) (n : Nat) (neg : Bool) (ls : List Leaf) (x : X) (y : X) : Option (Value × AHeap × Nat) := match ρ x, ρ y with
    | some (.agg a),some (.agg b) => (leavesEq ls a.toList b.toList).map fun v => (.bool (if neg then !v else v),h,n)
    | _,_ => none
def ev_un (ρ : X → Option Value) (h : AHeap) (n : Nat) (op : UnOp) (x : X) : Option (Value × AHeap × Nat) := match ρ x with
    | some a => (aUn op a).map fun v => (v,h,n)
    | none => none
def ev_conv (ρ : X → Option Value) (h : AHeap) (n : Nat) (k : IntKind) (x : X) : Option (Value × AHeap × Nat) := match ρ x with
    | some (.int _ m) => some (.int k (k.wrap m),h,n)
    | _ => none
def ev_bytesOf (ρ : X → Option Value) (h : AHeap) (n : Nat) (ty : Nat) (x : X) : Option (Value × AHeap × Nat) := match ρ x with
    | some (.string s) => some (.slice (some ⟨n,0,some (byteCells s).length⟩) s.size 2,h.put n (.cells (some ty) (byteCells s) (byteCells s).length),n + 1)
    | _ => none
def ev_strOf (ρ : X → Option Value) (h : AHeap) (n : Nat) (x : X) : Option (Value × AHeap × Nat) := match ρ x with
    | some (.slice none 0 0) => some (.string ByteArray.empty,h,n)
    | some (.slice (some ⟨i,o,some g⟩) len _) => match h.read i g o len with
      | some vs => match bytesOf? vs with
        | some l => some (.string ⟨l.toArray⟩,h,n)
        | none => none
      | none => none
    | _ => none
def ev_sliceStr (ρ : X → Option Value) (h : AHeap) (n : Nat) (x : X) (lo : Option X) (hi : Option X) : Option (Value × AHeap × Nat) := match ρ x with
    | some (.string s) => match aBounds ρ s.size lo hi with
      | some (l,u) => some (.string (s.extract l u),h,n)
      | none => none
    | _ => none
def ev_slice (ρ : X → Option Value) (h : AHeap) (n : Nat) (esz : Nat) (x : X) (lo : Option X) (hi : Option X) (mx : Option X) : Option (Value × AHeap × Nat) := match ρ x with
    | some (.slice none 0 0) => match aBounds ρ 0 lo hi with
      | some _ => (match mx with | none => some (.slice none 0 0,h,n) | some _ => none)
      | none => none
    | some (.slice (some ⟨i,o,some g⟩) len k) => match mx with
      | none => match aBounds ρ len lo hi with
        | some (l,u) => some (.slice (some ⟨i,o + l * esz,some g⟩) (u - l) (if k % 2 = 1 then k - 2 * l else if k = 2 * esz then k else 0),h,n)
        | none => none
      | some mx => match (ρ mx).bind (aBound len) with
        | some m => match aBounds ρ m lo hi,hi with
          | some (l,u),some _ => some (.slice (some ⟨i,o + l * esz,some g⟩) (u - l) (2 * (m - l) + 1),h,n)
          | _,_ => none
        | none => none
    | _ => none
def ev_sliceArr (ρ : X → Option Value) (h : AHeap) (n : Nat) (esz : Nat) (len : Nat) (x : X) (lo : Option X) (hi : Option X) : Option (Value × AHeap × Nat) := match ρ x with
    | some (.pointer (some ⟨i,o,some g⟩)) => match aBounds ρ len lo hi with
      | some (l,u) => some (.slice (some ⟨i,o + l * esz,some g⟩) (u - l) (2 * (len - l) + 1),h,n)
      | none => none
    | _ => none
def ev_fieldAddr (ρ : X → Option Value) (h : AHeap) (n : Nat) (off : Nat) (x : X) : Option (Value × AHeap × Nat) := match ρ x with
    | some (.pointer (some ⟨i,o,some g⟩)) => some (.pointer (some ⟨i,o + off,some g⟩),h,n)
    | _ => none
def ev_field (ρ : X → Option Value) (h : AHeap) (n : Nat) (off : Nat) (m : Option Nat) (x : X) : Option (Value × AHeap × Nat) := match ρ x with
    | some (.agg cs) => (aPart cs off m).map fun v => (v,h,n)
    | _ => none
def ev_indexAddr (ρ : X → Option Value) (h : AHeap) (n : Nat) (esz : Nat) (x : X) (i : X) : Option (Value × AHeap × Nat) := match ρ x, ρ i with
    | some (.slice (some ⟨b,o,some g⟩) len _),some (.int _ ix) => if 0 ≤ ix ∧ ix < len then some (.pointer (some ⟨b,o + ix.toNat * esz,some g⟩),h,n) else none
    | _,_ => none
def ev_indexArr (ρ : X → Option Value) (h : AHeap) (n : Nat) (esz : Nat) (len : Nat) (x : X) (i : X) : Option (Value × AHeap × Nat) := match ρ x, ρ i with
    | some (.pointer (some ⟨b,o,some g⟩)),some (.int _ ix) => if 0 ≤ ix ∧ ix < len then some (.pointer (some ⟨b,o + ix.toNat * esz,some g⟩),h,n) else none
    | _,_ => none
def ev_index (ρ : X → Option Value) (h : AHeap) (n : Nat) (esz : Nat) (len : Nat) (m : Option Nat) (x : X) (i : X) : Option (Value × AHeap × Nat) := match ρ x, ρ i with
    | some (.agg cs),some (.int _ ix) => if 0 ≤ ix ∧ ix < len then (aPart cs (ix.toNat * esz) m).map fun v => (v,h,n) else none
    | _,_ => none
def ev_indexStr (ρ : X → Option Value) (h : AHeap) (n : Nat) (x : X) (i : X) : Option (Value × AHeap × Nat) := match ρ x, ρ i with
    | some (.string s),some (.int _ ix) => if 0 ≤ ix ∧ ix < s.size then (s[ix.toNat]?).map fun b => (.int .u8 (b.toNat : Int),h,n) else none
    | _,_ => none
def ev_extract (ρ : X → Option Value) (h : AHeap) (n : Nat) (x : X) (i : Nat) : Option (Value × AHeap × Nat) := match ρ x with
    | some (.tuple vs) => (vs[i]?).map fun v => (v,h,n)
    | _ => none
def ev_lenStr (ρ : X → Option Value) (h : AHeap) (n : Nat) (x : X) : Option (Value × AHeap × Nat) := match ρ x with
    | some (.string s) => some (.int .i64 (s.size : Int),h,n)
    | _ => none
def ev_lenSlice (ρ : X → Option Value) (h : AHeap) (n : Nat) (x : X) : Option (Value × AHeap × Nat) := match ρ x with
    | some (.slice _ len _) => some (.int .i64 (len : Int),h,n)
    | _ => none
def ev_lenConst (h : AHeap) (n : Nat) (m : Nat) : Option (Value × AHeap × Nat) := some (.int .i64 (m : Int),h,n)
def ev_append (ρ : X → Option Value) (h : AHeap) (n : Nat) (ty : Nat) (esz : Nat) (bytes : Nat) (x : X) (y : X) : Option (Value × AHeap × Nat) := match ρ x, ρ y with
    | some s,some v => aAppend h n ty esz bytes s v
    | _,_ => none
def ev_copy (ρ : X → Option Value) (h : AHeap) (n : Nat) (esz : Nat) (x : X) (y : X) : Option (Value × AHeap × Nat) := match ρ x, ρ y with
    | some d,some v => aCopy h n esz d v
    | _,_ => none
def ev_min (ρ : X → Option Value) (h : AHeap) (n : Nat) (xs : List X) : Option (Value × AHeap × Nat) := match mapX ρ xs with
    | some vs => (aMin vs).map fun v => (v,h,n)
    | none => none
def ev_max (ρ : X → Option Value) (h : AHeap) (n : Nat) (xs : List X) : Option (Value × AHeap × Nat) := match mapX ρ xs with
    | some vs => (aMax vs).map fun v => (v,h,n)
    | none => none
def ev_makeFunc (ρ : X → Option Value) (h : AHeap) (n : Nat) (fn : Nat) (first : List X) (captured : List X) : Option (Value × AHeap × Nat) := match mapX ρ first,mapX ρ captured with
    | some xs,some us => some (.func (.func fn) xs.toArray us.toArray,h,n)
    | _,_ => none
def ev_makeIface (ρ : X → Option Value) (h : AHeap) (n : Nat) (t : TypeId) (x : X) : Option (Value × AHeap × Nat) := (ρ x).map fun v => (.iface t v,h,n)
def ev_makeSlice (ρ : X → Option Value) (h : AHeap) (n : Nat) (ty : Nat) (esz : Nat) (bytes : Nat) (zero : List Value) (l : X) (c : X) : Option (Value × AHeap × Nat) := match ρ l, ρ c with
    | some (.int _ l),some (.int _ c) => if 0 ≤ l ∧ l ≤ c ∧ bytes * c ≤ 281474976710656 ∧ c < 9223372036854775808 ∧ 0 < esz ∧ zero.length = esz then
        some (.slice (some ⟨n,0,some (repeatCells zero l.toNat).length⟩) l.toNat (2 * esz),h.put n (.cells (some ty) (repeatCells zero l.toNat) (repeatCells zero l.toNat).length),n + 1)
      else none
    | _,_ => none
def ev_lookup (ρ : X → Option Value) (h : AHeap) (n : Nat) (kstr : Bool) (commaOk : Bool) (zero : Value) (x : X) (i : X) : Option (Value × AHeap × Nat) := match ρ x, ρ i with
    | some m,some k => if keyKind kstr k then (aLookup h commaOk zero m k).map fun v => (v,h,n) else none
    | _,_ => none
def ev_call : Option (Value × AHeap × Nat) := none
def ev_fail : Option (Value × AHeap × Nat) := none
def ev_cap (ρ : X → Option Value) (h : AHeap) (n : Nat) (x : X) : Option (Value × AHeap × Nat) := match ρ x with
    | some (.slice none 0 0) => some (.int .i64 0,h,n)
    | some (.slice (some _) _ k) => if k % 2 = 1 then some (.int .i64 ((k / 2 : Nat) : Int),h,n) else none
    | _ => none
def ev_sliceData (ρ : X → Option Value) (h : AHeap) (n : Nat) (x : X) : Option (Value × AHeap × Nat) := match ρ x with
    | some (.slice none 0 0) => some (.pointer none,h,n)
    | some (.slice (some a) len _) => if 0 < len then some (.pointer (some a),h,n) else none
    | _ => none
def ev_unsafeString (ρ : X → Option Value) (h : AHeap) (n : Nat) (ty : Nat) (x : X) (l : X) : Option (Value × AHeap × Nat) := match ρ x, ρ l with
    | some (.pointer none),some (.int _ 0) => some (.string ByteArray.empty,h,n)
    | some (.pointer (some ⟨i,o,some g⟩)),some (.int _ m) => match h.get i with
      | some (.cells (some t) cs min) => if t = ty ∧ 0 < m ∧ m < 9223372036854775808 then match h.read i g o m.toNat with
        | some vs => match bytesOf? vs with
          | some l => some (.string ⟨l.toArray⟩,h.put i (.cells none cs min),n)
          | none => none
        | none => none
        else none
      | _ => none
    | _,_ => none
def ev_toUnsafe (ρ : X → Option Value) (h : AHeap) (n : Nat) (x : X) : Option (Value × AHeap × Nat) := match ρ x with
    | some (.pointer none) => some (.pointer none,h,n)
    | some (.pointer (some ⟨i,o,some g⟩)) => match h.read i g o 1 with
      | some _ => some (.pointer (some ⟨i,o,some g⟩),h,n)
      | none => none
    | _ => none
def ev_fromUnsafe (ρ : X → Option Value) (h : AHeap) (n : Nat) (u : Nat) (s : Nat) (x : X) : Option (Value × AHeap × Nat) := match ρ x with
    | some (.pointer none) => some (.pointer none,h,n)
    | some (.pointer (some ⟨i,o,some g⟩)) => match h.get i with
      | some (.cells (some t) _ min) => if t = u ∧ min ≤ g ∧ o % s = 0 ∧ 0 < s ∧ o + s ≤ g then some (.pointer (some ⟨i,o,some g⟩),h,n) else none
      | _ => none
    | _ => none
def ev_rangeStr (ρ : X → Option Value) (h : AHeap) (n : Nat) (x : X) : Option (Value × AHeap × Nat) := match ρ x with
    | some (.string s) => some (.pointer (some ⟨n,0,some 0⟩),h.put n (.iter s 0),n + 1)
    | _ => none
def ev_toFloat (ρ : X → Option Value) (h : AHeap) (n : Nat) (k : FloatKind) (x : X) : Option (Value × AHeap × Nat) := match ρ x with
    | some (.int _ m) => some (.float k (k.nearest m),h,n)
    | _ => none
def ev_sameF (ρ : X → Option Value) (h : AHeap) (n : Nat) (k : FloatKind) (x : X) : Option (Value × AHeap × Nat) := match ρ x with
    | some (.float k' b) => if k' = k then some (.float k b,h,n) else none
    | _ => none
def ev_nextStr (ρ : X → Option Value) (h : AHeap) (n : Nat) (x : X) : Option (Value × AHeap × Nat) := match ρ x with
    | some (.pointer (some ⟨i,0,some 0⟩)) => match h.get i with
      | some (.iter s pos) => if pos < s.size then some (.tuple #[.bool true, .int .i64 (pos : Int), .int .i32 ((Utf8.decode s pos).1 : Int)],h.put i (.iter s (pos + (Utf8.decode s pos).2)),n)
        else some (.tuple #[.bool false],h,n)
      | _ => none
    | _ => none
def aevF (ρ : X → Option Value) (h : AHeap) (n : Nat) : AOp → Option (Value × AHeap × Nat)
  | .mov x => ev_mov ρ h n x
  | .same x => ev_same ρ h n x
  | .pick c a b => ev_pick ρ h n c a b
  | .alloc ty zero => ev_alloc h n ty zero
  | .box ty x => ev_box ρ h n ty x
  | .build zero parts => ev_build ρ h n zero parts
  | .buildSlice ty esz len zero parts => ev_buildSlice ρ h n ty esz len zero parts
  | .load m a => ev_load ρ h n m a
  | .store m a x => ev_store ρ h n m a x
  | .nilCheck x => ev_nilCheck ρ h n x
  | .bin op x y => ev_bin ρ h n op x y
  | .eqv neg k lit x y => ev_eqv ρ h n neg k lit x y
  | .eqAgg neg ls x y => ev_eqAgg ρ h n neg ls x y
  | .un op x => ev_un ρ h n op x
  | .conv k x => ev_conv ρ h n k x
  | .bytesOf ty x => ev_bytesOf ρ h n ty x
  | .strOf x => ev_strOf ρ h n x
  | .sliceStr x lo hi => ev_sliceStr ρ h n x lo hi
  | .slice esz x lo hi mx => ev_slice ρ h n esz x lo hi mx
  | .sliceArr esz len x lo hi => ev_sliceArr ρ h n esz len x lo hi
  | .fieldAddr off x => ev_fieldAddr ρ h n off x
  | .field off m x => ev_field ρ h n off m x
  | .indexAddr esz x i => ev_indexAddr ρ h n esz x i
  | .indexArr esz len x i => ev_indexArr ρ h n esz len x i
  | .index esz len m x i => ev_index ρ h n esz len m x i
  | .indexStr x i => ev_indexStr ρ h n x i
  | .extract x i => ev_extract ρ h n x i
  | .lenStr x => ev_lenStr ρ h n x
  | .lenSlice x => ev_lenSlice ρ h n x
  | .lenConst m => ev_lenConst h n m
  | .append ty esz bytes x y => ev_append ρ h n ty esz bytes x y
  | .copy esz x y => ev_copy ρ h n esz x y
  | .min xs => ev_min ρ h n xs
  | .max xs => ev_max ρ h n xs
  | .makeFunc fn first captured => ev_makeFunc ρ h n fn first captured
  | .makeIface t x => ev_makeIface ρ h n t x
  | .makeSlice ty esz bytes zero l c => ev_makeSlice ρ h n ty esz bytes zero l c
  | .lookup kstr commaOk zero x i => ev_lookup ρ h n kstr commaOk zero x i
  | .call _ _ => ev_call
  | .fail => ev_fail
  | .cap x => ev_cap ρ h n x
  | .sliceData x => ev_sliceData ρ h n x
  | .unsafeString ty x l => ev_unsafeString ρ h n ty x l
  | .toUnsafe x => ev_toUnsafe ρ h n x
  | .fromUnsafe u s x => ev_fromUnsafe ρ h n u s x
  | .rangeStr x => ev_rangeStr ρ h n x
  | .toFloat k x => ev_toFloat ρ h n k x
  | .sameF k x => ev_sameF ρ h n k x
  | .nextStr x => ev_nextStr ρ h n x
theorem aevF_eq (ρ : X → Option Value) (h : AHeap) (n : Nat) (op : AOp) : aevF ρ h n op = aev ρ h n op := by cases op <;> rfl
end
end Go.Proofs.YtkdpjaaohddppaaGreatDoor.Am
namespace Go.Proofs.YtkdpjaaohddppaaGreatDoor.Am
noncomputable section

/- An evaluator: what it finds is a derivation. -/

theorem AHeap.get_filter (h : AHeap) (p : Nat → Bool) (i : Nat) : AHeap.get (h.filter fun q => p q.1) i = if p i then h.get i else none := by
  induction h with
  | nil => simp [AHeap.get_nil]
  | cons q h ih =>
    obtain ⟨k,b⟩ := q
    simp only [List.filter_cons]
    by_cases hk : p k = true
    · simp only [hk,if_true,AHeap.get_cons]
      split
      · rename_i e; subst e; simp only [hk,if_true]
      · exact ih
    · simp only [hk,if_false,Bool.false_eq_true]
      rw [ih,AHeap.get_cons]
      split
      · split
        · rename_i h1 e; subst e; exact absurd h1 hk
        · rfl
      · rfl
theorem HSub.filter (h : AHeap) (p : Nat → Bool) : HSub (h.filter fun q => p q.1) h := by
  intro i b hb
  rw [AHeap.get_filter] at hb
  split at hb
  · exact hb
  · cases hb


/- WHICH BLOCKS AN OPERATION MAY TURN. -/
def refsOf : Value → List Nat
  | .pointer (some a) => [a.block]
  | .slice (some a) _ _ => [a.block]
  | .map (some r) => [r]
  | _ => []
def AOp.pure : AOp → Bool
  | .alloc _ _ | .box _ _ | .buildSlice .. | .bytesOf _ _ | .makeSlice .. | .store .. | .copy .. | .append .. | .unsafeString .. | .call .. | .rangeStr _ | .nextStr _ => false
  | _ => true
def AOp.target : AOp → Option X
  | .store _ a _ | .copy _ a _ | .append _ _ _ a _ | .unsafeString _ a _ | .nextStr a => some a
  | _ => none
def logOf (ρ : X → Option Value) (op : AOp) : List Nat := match op.target with
  | some a => match ρ a with | some v => refsOf v | none => []
  | none => []

theorem aev_pure {ρ : X → Option Value} {h : AHeap} {n : Nat} {op : AOp} {v : Value} {h' : AHeap} {n' : Nat} (hp : op.pure = true) (ha : aev ρ h n op = some (v,h',n')) : h' = h ∧ n' = n := by
  cases op <;> simp only [AOp.pure,Bool.false_eq_true] at hp <;> simp only [aev] at ha <;> (repeat' split at ha) <;>
    first
    | cases ha; done
    | (simp only [Option.map_eq_some_iff,Option.some.injEq,Prod.mk.injEq] at ha; obtain ⟨_,rfl,rfl⟩ := ha; exact ⟨rfl,rfl⟩)
    | (simp only [Option.map_eq_some_iff,Prod.mk.injEq] at ha; obtain ⟨_,_,_,rfl,rfl⟩ := ha; exact ⟨rfl,rfl⟩)

def Keeps (h : AHeap) (n : Nat) (h' : AHeap) (log : List Nat) : Prop := ∀ i b,i < n → i ∉ log → h.get i = some b → h'.get i = some b
theorem Keeps.refl (h : AHeap) (n : Nat) (log : List Nat) : Keeps h n h log := fun _ _ _ _ x => x
theorem Keeps.new (h : AHeap) (n : Nat) (b : Blk) (log : List Nat) : Keeps h n (h.put n b) log := fun i c hi _ hc => by rw [AHeap.get_put_ne _ _ (by omega)]; exact hc
theorem Keeps.put (h : AHeap) (n i : Nat) (b : Blk) (log : List Nat) (hi : i ∈ log) : Keeps h n (h.put i b) log := fun j c _ hl hc => by rw [AHeap.get_put_ne _ _ (fun e => hl (by rw [← e]; exact hi))]; exact hc

theorem write_keeps {h : AHeap} {i g o : Nat} {vs : List Value} {h' : AHeap} (hw : h.write i g o vs = some h') (n : Nat) (log : List Nat) (hi : i ∈ log) : Keeps h n h' log := by
  unfold AHeap.write at hw
  split at hw
  · split at hw
    · cases hw; exact .put _ _ _ _ _ hi
    · cases hw
  · cases hw

theorem aev_keeps {ρ : X → Option Value} {h : AHeap} {n : Nat} {op : AOp} {v : Value} {h' : AHeap} {n' : Nat} (ha : aev ρ h n op = some (v,h',n')) : Keeps h n h' (logOf ρ op) := by
  by_cases hp : op.pure = true
  · rw [(aev_pure hp ha).1]; exact .refl _ _ _
  · cases op <;> simp only [AOp.pure,not_true_eq_false] at hp <;> simp only [aev] at ha
    case alloc => cases ha; exact .new _ _ _ _
    case box =>
      split at ha
      · split at ha
        · cases ha
        · cases ha; exact .new _ _ _ _
      · cases ha
    case buildSlice =>
      split at ha
      · split at ha
        · cases ha; exact .new _ _ _ _
        · cases ha
      · cases ha
    case bytesOf =>
      split at ha
      · cases ha; exact .new _ _ _ _
      · cases ha
    case makeSlice =>
      split at ha
      · split at ha
        · cases ha; exact .new _ _ _ _
        · cases ha
      · cases ha
    case store =>
      split at ha
      · rename_i i o g v' hv _
        split at ha
        · obtain ⟨h1,hw,he⟩ := optmap ha
          simp only [Prod.mk.injEq] at he
          obtain ⟨_,rfl,_⟩ := he
          exact write_keeps hw _ _ (by simp [logOf,AOp.target,hv,refsOf])
        · cases ha
      · cases ha
    case copy =>
      split at ha
      · rename_i d v' hd _
        unfold aCopy at ha
        split at ha
        · cases ha
        · split at ha
          · cases ha; exact .refl _ _ _
          · split at ha
            · cases ha; exact .refl _ _ _
            · split at ha
              · rename_i h1 hw
                cases ha
                exact write_keeps hw _ _ (by simp [logOf,AOp.target,hd,refsOf])
              · cases ha
          · cases ha
      · cases ha
    case append =>
      split at ha
      · rename_i s v' hs _
        unfold aAppend at ha
        split at ha
        · cases ha
        · split at ha
          · split at ha
            · cases ha; exact .refl _ _ _
            · cases ha; exact .refl _ _ _
            · cases ha
          · split at ha
            · split at ha
              · cases ha; exact .new _ _ _ _
              · cases ha
            · split at ha
              · split at ha
                · split at ha
                  · split at ha
                    · cases ha; exact .new _ _ _ _
                    · cases ha
                  · cases ha
                · split at ha
                  · split at ha
                    · cases ha; exact .put _ _ _ _ _ (by simp [logOf,AOp.target,hs,refsOf])
                    · cases ha
                  · cases ha
              · cases ha
            · cases ha
      · cases ha
    case unsafeString =>
      split at ha
      · cases ha; exact .refl _ _ _
      · rename_i hv _
        split at ha
        · split at ha
          · split at ha
            · split at ha
              · cases ha; exact .put _ _ _ _ _ (by simp [logOf,AOp.target,hv,refsOf])
              · cases ha
            · cases ha
          · cases ha
        · cases ha
      · cases ha
    case call => cases ha
    case rangeStr =>
      split at ha
      · cases ha; exact .new _ _ _ _
      · cases ha
    case nextStr =>
      split at ha
      · rename_i i hv
        split at ha
        · split at ha
          · cases ha; exact .put _ _ _ _ _ (by simp [logOf,AOp.target,hv,refsOf])
          · cases ha; exact .refl _ _ _
        · cases ha
      · cases ha

theorem AHeap.get_mem {h : AHeap} {i : Nat} {b : Blk} (hb : h.get i = some b) : (i,b) ∈ h := by
  induction h with
  | nil => cases hb
  | cons q h ih =>
    obtain ⟨k,c⟩ := q
    simp only [AHeap.get_cons] at hb
    split at hb
    · rename_i e; subst e; cases hb; simp
    · exact .tail _ (ih hb)

def Rec.okB (c : Rec) : Bool :=
  (c.h.all fun q => Nat.blt q.1 c.n) &&
  c.chg.all fun i => (c.h'.get i).isSome && ((c.h.get i).isSome || (Nat.ble c.n i && Nat.blt i c.n'))
theorem Rec.okB_ok {c : Rec} (h : c.okB = true) (hk : ∃ log,Keeps c.h c.n c.h' log ∧ ∀ i,i ∈ log → i < c.n → i ∈ c.chg) : c.ok := by
  simp only [Rec.okB,Bool.and_eq_true,List.all_eq_true,Bool.or_eq_true,Nat.blt_eq,Nat.ble_eq] at h
  obtain ⟨log,hk,hl⟩ := hk
  refine ⟨fun i b hb hi => ?_,fun i hi => ?_⟩
  · have := h.1 _ (AHeap.get_mem hb)
    exact hk i b this (fun hm => hi (hl i hm this)) hb
  · obtain ⟨h1,h2⟩ := h.2 i hi
    exact ⟨h1,h2⟩

def apartB (a b : Rec) : Bool := (a.chg.all fun i => (b.h.get i).isNone) && (b.chg.all fun i => (a.h.get i).isNone)
theorem apartB_ok {a b : Rec} (h : apartB a b = true) : apartHeaps a b := by
  simp only [apartB,Bool.and_eq_true,List.all_eq_true,Option.isNone_iff_eq_none] at h
  exact h

structure EEnv where
  fs : Nat → Option AFunc
  orc : Nat → List Value → AHeap → Nat → Option (Value × AHeap × Nat)
def EEnv.env (E : EEnv) : Env := ⟨E.fs,fun f args h n v h' n' => E.orc f args h n = some (v,h',n'),fun _ _ _ _ _ _ _ => False,fun _ _ _ _ _ _ _ _ => False⟩
def EEnv.Kept (E : EEnv) : Prop := ∀ f args h n v h' n',E.orc f args h n = some (v,h',n') → n ≤ n' ∧ Keeps h n h' []

abbrev Out := Value × AHeap × Nat × List Nat
abbrev CallEv := Nat → List Value → AHeap → Nat → Option Out
abbrev CodeEv := ACode → Fr → AHeap → Nat → Option (Ex × Fr × AHeap × Nat × List Nat)

def evRun (call : CallEv) (o : AOper) (σ : Fr) (h : AHeap) (n : Nat) : Option (Option Value × AHeap × Nat × List Nat) :=
  match o.op with
  | .call f xs => match X.ev σ h f,mapX (X.ev σ h) xs with
    | some (.func (.func g) first captured),some vs => match call g (first.toList ++ vs ++ captured.toList) h n with
      | some (v,h',n',log) => some (some v,h',n',log)
      | none => none
    | _,_ => none
  | op => match aevF (X.ev σ h) h n op with
    | some (v,h',n') => bif Nat.ble n n' then some (some v,h',n',logOf (X.ev σ h) op) else none
    | none => none
def evOp (call : CallEv) (o : AOper) (σ : Fr) (h : AHeap) (n : Nat) : Option (Option Value × AHeap × Nat × List Nat) :=
  match o.guard with
  | none => evRun call o σ h n
  | some (d,b) => match σ.get d with
    | some (.bool c) => bif c == b then evRun call o σ h n else some (some undef,h,n,[])
    | some (.tuple vs) => bif vs.toList.isEmpty then some (some undef,h,n,[]) else none
    | _ => none
def evOps (call : CallEv) : List AOper → Fr → AHeap → Nat → List Nat → Option (Fr × AHeap × Nat × List Nat)
  | [], σ,h,n,log => some (σ,h,n,log)
  | o :: l, σ,h,n,log => match evOp call o σ h n with
    | some (r,h1,n1,log1) => evOps call l (setDst σ o.dst r) h1 n1 (log1 ++ log)
    | none => none

def isCall : AOp → Bool
  | .call _ _ => true
  | _ => false
def isMov : AOp → Bool
  | .mov _ => true
  | .pick _ _ _ => true
  | _ => false
def smallHeap (o : AOper) (σ : Fr) (h : AHeap) (bad : List Nat) : AHeap :=
  bif isMov o.op then h.filter fun q => Nat.blt q.1 4096
  else bif isCall o.op then h.filter fun q => Nat.blt q.1 4096 || !bad.contains q.1
  else h.filter fun q => Nat.blt q.1 4096 || (o.reads.flatMap fun t => match σ.get t with | some v => refsOf v | none => []).contains q.1
def badOf (pairs : List (Nat × Nat)) (j : Nat) (chs : List (Nat × List Nat)) : List Nat :=
  chs.flatMap fun c => bif pairs.any (fun p => Nat.beq p.1 c.1 && Nat.beq p.2 j) then c.2 else []
def evDraw (call : CallEv) (pairs : List (Nat × Nat)) : List AOper → Nat → Fr → AHeap → Nat → List Nat → List (Nat × List Nat) → Option (List Rec × Fr × AHeap × Nat × List Nat)
  | [],_, σ,h,n,log,_ => some ([], σ,h,n,log)
  | o :: l,j, σ,h,n,log,chs =>
    match evOp call o (σ.restrict o.reads) (smallHeap o σ h (badOf pairs j chs)) n with
    | some (r,h1,n1,log1) =>
      bif o.op.pure then match evDraw call pairs l (j + 1) (setDst σ o.dst r) h n1 log chs with
        | some (rs, σ',h',n',log') => some (⟨smallHeap o σ h (badOf pairs j chs),n,r,smallHeap o σ h (badOf pairs j chs),n1,[]⟩ :: rs, σ',h',n',log')
        | none => none
      else
      let chg := (log1 ++ (h1.filter fun q => Nat.ble n q.1).map (·.1))
      let c : Rec := ⟨smallHeap o σ h (badOf pairs j chs),n,r,h1,n1,chg⟩
      bif c.okB then match evDraw call pairs l (j + 1) (setDst σ o.dst r) (h.puts h1 chg) n1 (log1 ++ log) ((j,chg) :: chs) with
        | some (rs, σ',h',n',log') => some (c :: rs, σ',h',n',log')
        | none => none
      else none
    | none => none
def pairsB (pairs : List (Nat × Nat)) (recs : List Rec) : Bool :=
  pairs.all fun p => match recs[p.1]?,recs[p.2]? with
    | some a,some b => apartB a b
    | _,_ => true

def keepsOld (n : Nat) (vs : List Value) : Bool := vs.all fun v => match v with
  | .pointer (some a) => Nat.blt a.block n
  | .slice (some a) _ _ => Nat.blt a.block n
  | .map (some r) => Nat.blt r n
  | .func _ _ _ | .iface _ _ | .agg _ | .tuple _ => false
  | _ => true
def blkOld (n : Nat) : Blk → Bool
  | .cells _ cs _ => keepsOld n cs
  | .map _ => true
  | .iter _ _ => true
  | .obj _ _ _ => true
def resOld (n : Nat) : Value → Bool
  | .tuple vs => keepsOld n vs.toList
  | v => keepsOld n [v]
def gcDrop (v : Value) (n : Nat) (log : List Nat) (h : AHeap) : AHeap :=
  bif resOld n v && log.all (fun i => match h.get i with | some b => blkOld n b | none => false) then h.filter fun q => Nat.blt q.1 n else h
def evCall (E : EEnv) (code : CodeEv) : CallEv := fun f args h n =>
  match E.fs f with
  | some af => if args.length ≤ af.ntmps then
      match code af.body (argFr 0 args) h n with
      | some (.normal, σ',h1,n',log) | some (.ret, σ',h1,n',log) => match evRes σ' h1 af.results with
        | some vs => some (resVal vs,gcDrop (resVal vs) n (log.filter (Nat.blt · n)) h1,n',log.filter (Nat.blt · n))
        | none => none
      | _ => none
    else none
  | none => match E.orc f args h n with
    | some (v,h',n') => some (v,h',n',[])
    | none => none

def evCode (E : EEnv) : Nat → CodeEv
  | 0 => fun _ _ _ _ => none
  | k + 1 => fun c σ h n => match c with
    | .skip => some (.normal, σ,h,n,[])
    | .region l none => match evOps (evCall E (evCode E k)) l σ h n [] with
      | some (σ',h',n',log) => some (.normal, σ',h',n',log)
      | none => none
    | .region l (some pairs) => match evDraw (evCall E (evCode E k)) pairs l 0 σ h n [] [] with
        | some (recs, σ',h',n',log) => bif pairsB pairs recs then some (.normal, σ',h',n',log) else none
        | none => none
    | .seq a b => match evCode E k a σ h n with
      | some (.normal, σ1,h1,n1,log1) => match evCode E k b σ1 h1 n1 with
        | some (e, σ',h',n',log) => some (e, σ',h',n',log ++ log1)
        | none => none
      | r => r
    | .cond x a b => match X.ev σ h x with
      | some (.bool true) => evCode E k a σ h n
      | some (.bool false) => evCode E k b σ h n
      | _ => none
    | .block id a => match evCode E k a σ h n with
      | some (.exit j, σ',h',n',log) => bif Nat.beq j id then some (.normal, σ',h',n',log) else some (.exit j, σ',h',n',log)
      | r => r
    | .loop a => match evCode E k a σ h n with
      | some (.normal, σ1,h1,n1,log1) => match evCode E k (.loop a) σ1 h1 n1 with
        | some (e, σ',h',n',log) => some (e, σ',h',n',log ++ log1)
        | none => none
      | r => r
    | .exit id => some (.exit id, σ,h,n,[])
    | .ret => some (.ret, σ,h,n,[])
    | .fail => none
    | .ranges _ _ _ _ => none
    | .scope _ => none
    | .label _ => none

theorem Keeps.trans {h : AHeap} {n : Nat} {h1 : AHeap} {l1 : List Nat} {n1 : Nat} {h2 : AHeap} {l2 : List Nat} (a : Keeps h n h1 l1) (hn : n ≤ n1) (b : Keeps h1 n1 h2 l2) : Keeps h n h2 (l2 ++ l1) :=
  fun i c hi hl hc => b i c (by omega) (fun x => hl (List.mem_append_left _ x)) (a i c hi (fun x => hl (List.mem_append_right _ x)) hc)

def CallOk (E : Env) (call : CallEv) : Prop := ∀ f args h n v h' n' log,call f args h n = some (v,h',n',log) → Big E (.call f args h n v h' n') ∧ Keeps h n h' log

theorem evRun_big {E : Env} {call : CallEv} (hc : CallOk E call) {o : AOper} {σ : Fr} {h : AHeap} {n : Nat} {r : Option Value} {h' : AHeap} {n' : Nat} {log : List Nat} (pg : ∀ d b,o.guard = some (d,b) → σ.get d = some (.bool b))
    (he : evRun call o σ h n = some (r,h',n',log)) : Big E (.op o σ h n r h' n') ∧ Keeps h n h' log ∧ (o.op.pure = true → h' = h) := by
  unfold evRun at he
  split at he
  · rename_i f xs hop
    split at he
    · rename_i g first captured vs hf hx
      split at he
      · rename_i v h1 n1 log1 hcall
        simp only [Option.some.injEq,Prod.mk.injEq] at he
        obtain ⟨rfl,rfl,rfl,rfl⟩ := he
        obtain ⟨h2,h3⟩ := hc _ _ _ _ _ _ _ _ hcall
        exact ⟨.opCall pg hop hf hx h2,h3,fun hp => by rw [hop] at hp; cases hp⟩
      · cases he
    · cases he
  · split at he
    · rename_i v h1 n1 hv
      rw [aevF_eq] at hv
      cases hn : Nat.ble n n1 with
      | true =>
        rw [hn] at he
        simp only [cond_true,Option.some.injEq,Prod.mk.injEq] at he
        obtain ⟨rfl,rfl,rfl,rfl⟩ := he
        exact ⟨.prim pg hv (Nat.le_of_ble_eq_true hn),aev_keeps hv,fun hp => (aev_pure hp hv).1⟩
      | false => rw [hn] at he; cases he
    · cases he
theorem evOp_big {E : Env} {call : CallEv} (hc : CallOk E call) {o : AOper} {σ : Fr} {h : AHeap} {n : Nat} {r : Option Value} {h' : AHeap} {n' : Nat} {log : List Nat}
    (he : evOp call o σ h n = some (r,h',n',log)) : Big E (.op o σ h n r h' n') ∧ Keeps h n h' log ∧ (o.op.pure = true → h' = h) := by
  unfold evOp at he
  split at he
  · rename_i hg
    exact evRun_big hc (by rw [hg]; simp) he
  · rename_i d b hg
    split at he
    · rename_i c hd
      by_cases e : c = b
      · subst e
        simp only [beq_self_eq_true,cond_true] at he
        exact evRun_big hc (by rw [hg]; intro d' b' e; cases e; exact hd) he
      · have hb : (c == b) = false := by simpa using e
        rw [hb] at he
        simp only [cond_false,Option.some.injEq,Prod.mk.injEq] at he
        obtain ⟨rfl,rfl,rfl,rfl⟩ := he
        exact ⟨.skip hg (by rw [hd]; cases b <;> cases c <;> simp_all), .refl _ _ _,fun _ => rfl⟩
    · rename_i vs hd
      cases hv : vs.toList.isEmpty with
      | false => rw [hv] at he; cases he
      | true =>
        have hvs : vs = #[] := by simpa using hv
        subst hvs
        simp only [List.isEmpty_nil,cond_true,Option.some.injEq,Prod.mk.injEq] at he
        obtain ⟨rfl,rfl,rfl,rfl⟩ := he
        exact ⟨.skipOff hg hd, .refl _ _ _,fun _ => rfl⟩
    · cases he
theorem evOps_big {E : Env} {call : CallEv} (hc : CallOk E call) : ∀ {l : List AOper} {σ : Fr} {h : AHeap} {n : Nat} {log0 : List Nat} {σ' : Fr} {h' : AHeap} {n' : Nat} {log : List Nat},
    evOps call l σ h n log0 = some (σ',h',n',log) → Big E (.ops l σ h n σ' h' n') ∧ ∀ h0 n0,n0 ≤ n → Keeps h0 n0 h log0 → Keeps h0 n0 h' log
  | [], σ,h,n,log0, σ',h',n',log,he => by
    simp only [evOps,Option.some.injEq,Prod.mk.injEq] at he
    obtain ⟨rfl,rfl,rfl,rfl⟩ := he
    exact ⟨.opsNil,fun _ _ _ x => x⟩
  | o :: l, σ,h,n,log0, σ',h',n',log,he => by
    simp only [evOps] at he
    split at he
    · rename_i r h1 n1 log1 h2
      obtain ⟨b1,k1,_⟩ := evOp_big hc h2
      obtain ⟨b2,k2⟩ := evOps_big hc he
      have hle := b1.le
      simp only [J.mono] at hle
      exact ⟨.opsCons b1 b2,fun h0 n0 hn k0 => k2 h0 n0 (by omega) (k0.trans hn k1)⟩
    · cases he
theorem smallHeap_sub (o : AOper) (σ : Fr) (h : AHeap) (bad : List Nat) : HSub (smallHeap o σ h bad) h := by
  unfold smallHeap
  cases isMov o.op
  case true => exact HSub.filter h fun k => Nat.blt k 4096
  cases isCall o.op
  · exact HSub.filter h fun k => Nat.blt k 4096 || (o.reads.flatMap fun t => match σ.get t with | some v => refsOf v | none => []).contains k
  · exact HSub.filter h fun k => Nat.blt k 4096 || !bad.contains k
theorem puts_keeps (h' : AHeap) (n : Nat) : ∀ (l : List Nat) (h : AHeap) (log : List Nat),(∀ i,i ∈ l → i < n → i ∈ log) → Keeps h n (h.puts h' l) log
  | [],h,log,_ => .refl _ _ _
  | i :: l,h,log,hl => fun j b hj hlog hb => by
    simp only [AHeap.puts]
    refine puts_keeps h' n l _ log (fun i hi => hl i (.tail _ hi)) j b hj hlog ?_
    split
    · rw [AHeap.get_put_ne _ _ (fun e => hlog (by rw [← e]; exact hl i (.head _) (by omega)))]; exact hb
    · exact hb
theorem mem_chg {log1 : List Nat} {h1 : AHeap} {n : Nat} {i : Nat} (hi : i ∈ log1 ++ (h1.filter fun q => Nat.ble n q.1).map (·.1)) (hn : i < n) : i ∈ log1 := by
  rcases List.mem_append.1 hi with h | h
  · exact h
  · obtain ⟨q,hq,rfl⟩ := List.mem_map.1 h
    have := (List.mem_filter.1 hq).2
    simp at this
    omega
theorem evDraw_big {E : Env} {call : CallEv} (hc : CallOk E call) {pairs : List (Nat × Nat)} : ∀ {l : List AOper} {j : Nat} {σ : Fr} {h : AHeap} {n : Nat} {log0 : List Nat} {acc : List (Nat × List Nat)} {recs : List Rec} {σ' : Fr} {h' : AHeap} {n' : Nat} {log : List Nat},
    evDraw call pairs l j σ h n log0 acc = some (recs, σ',h',n',log) → Big E (.draw l σ h n recs σ' h' n') ∧ ∀ h0 n0,n0 ≤ n → Keeps h0 n0 h log0 → Keeps h0 n0 h' log
  | [],j, σ,h,n,log0,acc,recs, σ',h',n',log,he => by
    simp only [evDraw,Option.some.injEq,Prod.mk.injEq] at he
    obtain ⟨rfl,rfl,rfl,rfl,rfl⟩ := he
    exact ⟨.drawNil,fun _ _ _ x => x⟩
  | o :: l,j, σ,h,n,log0,acc,recs, σ',h',n',log,he => by
    simp only [evDraw] at he
    split at he
    · rename_i r h1 n1 log1 h2
      obtain ⟨b1,k1,kp⟩ := evOp_big hc h2
      have hle := b1.le
      simp only [J.mono] at hle
      cases hp : o.op.pure with
      | true =>
        rw [hp] at he
        simp only [cond_true] at he
        split at he
        · rename_i rs σ2 h3 n2 log2 h4
          simp only [Option.some.injEq,Prod.mk.injEq] at he
          obtain ⟨rfl,rfl,rfl,rfl,rfl⟩ := he
          obtain ⟨b2,k2⟩ := evDraw_big hc h4
          rw [kp hp] at b1
          exact ⟨.drawCons (c := ⟨smallHeap o σ h (badOf pairs j acc),n,r,smallHeap o σ h (badOf pairs j acc),n1,[]⟩) b1 (smallHeap_sub o σ h (badOf pairs j acc)) ⟨fun _ _ x _ => x,fun i hi => by cases hi⟩ b2,fun h0 n0 hn k0 => k2 h0 n0 (by omega) k0⟩
        · cases he
      | false =>
        rw [hp] at he
        simp only [cond_false] at he
        cases hok : Rec.okB ⟨smallHeap o σ h (badOf pairs j acc),n,r,h1,n1,log1 ++ (h1.filter fun q => Nat.ble n q.1).map (·.1)⟩ with
        | false => rw [hok] at he; cases he
        | true =>
          rw [hok] at he
          simp only [cond_true] at he
          split at he
          · rename_i rs σ2 h3 n2 log2 h4
            simp only [Option.some.injEq,Prod.mk.injEq] at he
            obtain ⟨rfl,rfl,rfl,rfl,rfl⟩ := he
            obtain ⟨b2,k2⟩ := evDraw_big hc h4
            refine ⟨.drawCons (c := ⟨smallHeap o σ h (badOf pairs j acc),n,r,h1,n1,_⟩) b1 (smallHeap_sub o σ h (badOf pairs j acc)) (Rec.okB_ok hok ⟨log1,k1,fun i hi _ => List.mem_append_left _ hi⟩) b2,fun h0 n0 hn k0 => k2 h0 n0 (by omega) ?_⟩
            exact k0.trans hn (puts_keeps h1 n _ h log1 fun i hi hin => mem_chg hi hin)
          · cases he
    · cases he
theorem pairsB_ok {pairs : List (Nat × Nat)} {recs : List Rec} (h : pairsB pairs recs = true) (i j : Nat) (a b : Rec) (hij : (i,j) ∈ pairs) (ha : recs[i]? = some a) (hb : recs[j]? = some b) : apartHeaps a b := by
  simp only [pairsB,List.all_eq_true] at h
  have := h _ hij
  simp only [ha,hb] at this
  exact apartB_ok this
theorem gcDrop_sub (v : Value) (n : Nat) (log : List Nat) (h : AHeap) : HSub (gcDrop v n log h) h := by
  unfold gcDrop
  cases resOld n v && log.all (fun i => match h.get i with | some b => blkOld n b | none => false)
  · exact fun _ _ x => x
  · exact HSub.filter h fun k => Nat.blt k n
theorem gcDrop_keeps {h0 : AHeap} {v : Value} {n : Nat} {log log' : List Nat} {h : AHeap} (k : Keeps h0 n h log') (hl : ∀ i,i ∈ log' → i < n → i ∈ log) : Keeps h0 n (gcDrop v n log h) log := by
  intro i b hi hlog hb
  have := k i b hi (fun x => hlog (hl i x hi)) hb
  unfold gcDrop
  cases resOld n v && log.all (fun i => match h.get i with | some b => blkOld n b | none => false)
  · exact this
  · simp only [cond_true]
    rw [AHeap.get_filter h (fun k => Nat.blt k n) i,if_pos (by simpa using hi)]
    exact this
theorem evCall_big {E : EEnv} (hE : E.Kept) {code : CodeEv} (hc : ∀ c σ h n e σ' h' n' log,code c σ h n = some (e, σ',h',n',log) → Big E.env (.code c σ h n e σ' h' n') ∧ Keeps h n h' log) : CallOk E.env (evCall E code) := by
  intro f args h n v h' n' log he
  have hmem : ∀ (log1 : List Nat) i,i ∈ log1 → i < n → i ∈ log1.filter (Nat.blt · n) := fun log1 i hi hn => List.mem_filter.2 ⟨hi,by simpa using hn⟩
  unfold evCall at he
  split at he
  · rename_i af hf
    split at he
    · rename_i hargs
      split at he
      · rename_i σ' h1 n1 log1 hb
        obtain ⟨b1,k1⟩ := hc _ _ _ _ _ _ _ _ _ hb
        split at he
        · rename_i vs hvs
          simp only [Option.some.injEq,Prod.mk.injEq] at he
          obtain ⟨rfl,rfl,rfl,rfl⟩ := he
          exact ⟨.call hf hargs b1 (.inl rfl) hvs (gcDrop_sub _ n _ h1),gcDrop_keeps k1 (hmem log1)⟩
        · cases he
      · rename_i σ' h1 n1 log1 hb
        obtain ⟨b1,k1⟩ := hc _ _ _ _ _ _ _ _ _ hb
        split at he
        · rename_i vs hvs
          simp only [Option.some.injEq,Prod.mk.injEq] at he
          obtain ⟨rfl,rfl,rfl,rfl⟩ := he
          exact ⟨.call hf hargs b1 (.inr rfl) hvs (gcDrop_sub _ n _ h1),gcDrop_keeps k1 (hmem log1)⟩
        · cases he
      · cases he
    · cases he
  · split at he
    · rename_i v1 h1 n1 ho
      simp only [Option.some.injEq,Prod.mk.injEq] at he
      obtain ⟨rfl,rfl,rfl,rfl⟩ := he
      obtain ⟨h2,h3⟩ := hE _ _ _ _ _ _ _ ho
      exact ⟨.orc ho h2,h3⟩
    · cases he

theorem evCode_big {E : EEnv} (hE : E.Kept) : ∀ (k : Nat) (c : ACode) (σ : Fr) (h : AHeap) (n : Nat) (e : Ex) (σ' : Fr) (h' : AHeap) (n' : Nat) (log : List Nat),evCode E k c σ h n = some (e, σ',h',n',log) → Big E.env (.code c σ h n e σ' h' n') ∧ Keeps h n h' log
  | 0,_,_,_,_,_,_,_,_,_,he => by simp [evCode] at he
  | k + 1,c, σ,h,n,e, σ',h',n',log,he => by
    have ih := evCode_big hE k
    have hcall := evCall_big hE ih
    unfold evCode at he
    split at he
    · cases he; exact ⟨.cskip, .refl _ _ _⟩
    · split at he
      · rename_i h1; cases he
        obtain ⟨b1,k1⟩ := evOps_big hcall h1
        exact ⟨.region b1,k1 _ _ (Nat.le_refl _) (.refl _ _ _)⟩
      · cases he
    · rename_i pairs
      split at he
      · rename_i recs σ1 h1 n1 log1 hd
        cases hp : pairsB pairs recs with
        | true =>
          rw [hp] at he
          cases he
          obtain ⟨b1,k1⟩ := evDraw_big hcall hd
          exact ⟨.regionDraw b1 (pairsB_ok hp),k1 _ _ (Nat.le_refl _) (.refl _ _ _)⟩
        | false => rw [hp] at he; cases he
      · cases he
    · split at he
      · rename_i σ1 h1 n1 log1 hx
        split at he
        · rename_i e2 σ2 h2 n2 log2 hy
          cases he
          obtain ⟨b1,k1⟩ := ih _ _ _ _ _ _ _ _ _ hx
          obtain ⟨b2,k2⟩ := ih _ _ _ _ _ _ _ _ _ hy
          have hle := b1.le
          simp only [J.mono] at hle
          exact ⟨.seq b1 b2,k1.trans hle k2⟩
        · cases he
      · rename_i hne
        obtain ⟨b1,k1⟩ := ih _ _ _ _ _ _ _ _ _ he
        exact ⟨.seqStop b1 (by intro e1; subst e1; exact hne _ _ _ _ he),k1⟩
    · split at he
      · rename_i h1
        obtain ⟨b1,k1⟩ := ih _ _ _ _ _ _ _ _ _ he
        exact ⟨.cond h1 b1,k1⟩
      · rename_i h1
        obtain ⟨b1,k1⟩ := ih _ _ _ _ _ _ _ _ _ he
        exact ⟨.cond h1 b1,k1⟩
      · cases he
    · rename_i id a
      split at he
      · rename_i j σ1 h1 n1 log1 hb
        obtain ⟨b1,k1⟩ := ih _ _ _ _ _ _ _ _ _ hb
        cases hj : Nat.beq j id with
        | true =>
          rw [hj] at he
          cases he
          obtain rfl := Nat.eq_of_beq_eq_true hj
          exact ⟨.blockExit b1,k1⟩
        | false =>
          rw [hj] at he
          cases he
          exact ⟨.block b1 (by intro e1; cases e1; simp at hj),k1⟩
      · rename_i hne
        obtain ⟨b1,k1⟩ := ih _ _ _ _ _ _ _ _ _ he
        exact ⟨.block b1 (by intro e1; subst e1; exact hne _ _ _ _ _ he),k1⟩
    · split at he
      · rename_i σ1 h1 n1 log1 hx
        split at he
        · rename_i e2 σ2 h2 n2 log2 hy
          cases he
          obtain ⟨b1,k1⟩ := ih _ _ _ _ _ _ _ _ _ hx
          obtain ⟨b2,k2⟩ := ih _ _ _ _ _ _ _ _ _ hy
          have hle := b1.le
          simp only [J.mono] at hle
          exact ⟨.loop b1 b2,k1.trans hle k2⟩
        · cases he
      · rename_i hne
        obtain ⟨b1,k1⟩ := ih _ _ _ _ _ _ _ _ _ he
        exact ⟨.loopStop b1 (by intro e1; subst e1; exact hne _ _ _ _ he),k1⟩
    · cases he; exact ⟨.exit, .refl _ _ _⟩
    · cases he; exact ⟨.ret, .refl _ _ _⟩
    · cases he
    · cases he
    · cases he
    · cases he

end
end Go.Proofs.YtkdpjaaohddppaaGreatDoor.Am
namespace Go.Proofs.YtkdpjaaohddppaaGreatDoor.Am
noncomputable section

/- What body-less functions answer. -/
inductive Prim
  | noEscape
  | makeNoZero (ty : Nat)
  | count
  | indexByte
  | toBits
  | rep
  | fromBits

def Prim.ev : Prim → List Value → AHeap → Nat → Option (Value × AHeap × Nat)
  | .noEscape,[x],h,n => some (x,h,n)
  | .makeNoZero ty,[.int .i64 m],h,n => if 0 ≤ m ∧ m ≤ 70368744177664 then some (.slice (some ⟨n,0,some 0⟩) m.toNat 2,h.put n (.cells (some ty) [] 0),n + 1) else none
  | .count,[.string s, .int .u8 c],h,n => if 0 ≤ c ∧ c < 256 then some (.int .i64 (Lib.countByte s.data.toList c.toNat.toUInt8),h,n) else none
  | .indexByte,[.string s, .int .u8 c],h,n => if 0 ≤ c ∧ c < 256 then some (.int .i64 (Lib.indexByte s.data.toList c.toNat.toUInt8),h,n) else none
  | .rep,[.string s, .int .i64 m],h,n => if 0 ≤ m ∧ m ≤ 9223372036854775807 ∧ s.size * m.toNat ≤ 140737488355328 then some (.string ⟨(Lib.repeatL s.data.toList m.toNat).toArray⟩,h,n) else none
  | .toBits,[.float .f64 b],h,n => some (.int .u64 (b : Int),h,n)
  | .fromBits,[.int .u64 m],h,n => some (.float .f64 m.toNat,h,n)
  | _,_,_,_ => none

def lookF {α : Type} : List (Nat × α) → Nat → Option α
  | [],_ => none
  | (k,f) :: l,i => if k = i then some f else lookF l i
def primOrc (l : List (Nat × Prim)) (f : Nat) (args : List Value) (h : AHeap) (n : Nat) : Option (Value × AHeap × Nat) :=
  match lookF l f with
  | some p => p.ev args h n
  | none => none

inductive FT
  | leaf
  | node (k : Nat) (f : AFunc) (l r : FT)
def FT.find (t : FT) : Nat → Option AFunc := FT.rec (motive := fun _ => Nat → Option AFunc) (fun _ => none) (fun k f _ _ l r i => bif Nat.beq k i then some f else bif Nat.ble i k then l i else r i) t
def FT.All (p : Nat → AFunc → Prop) : FT → Prop
  | .leaf => True
  | .node k f l r => p k f ∧ l.All p ∧ r.All p
theorem FT.find_all {p : Nat → AFunc → Prop} : ∀ {t : FT} {i : Nat} {f : AFunc},t.All p → t.find i = some f → p i f
  | .leaf,_,_,_,h => by cases h
  | .node k g l r,i,f,ha,h => by
    have h' : (bif Nat.beq k i then some g else bif Nat.ble i k then l.find i else r.find i) = some f := h
    cases hb : Nat.beq k i with
    | true =>
      rw [hb] at h'
      cases h'
      obtain rfl := Nat.eq_of_beq_eq_true hb
      exact ha.1
    | false =>
      rw [hb] at h'
      cases hc : Nat.ble i k with
      | true => rw [hc] at h'; exact FT.find_all ha.2.1 h'
      | false => rw [hc] at h'; exact FT.find_all ha.2.2 h'
def mkEnv (fs : FT) (ps : List (Nat × Prim)) : EEnv := ⟨fs.find,primOrc ps⟩
end
end Go.Proofs.YtkdpjaaohddppaaGreatDoor.Am
namespace Go.Proofs.YtkdpjaaohddppaaGreatDoor.Am
noncomputable section
open Go.RowKit (Below)

/- FROM A DERIVATION TO A CALL; what a memory is seeded with. -/

abbrev Seed := Nat × Loc × Blk
def lookS : List Seed → Nat → Option (Loc × Blk)
  | [],_ => none
  | (k,l,b) :: s,i => if k = i then some (l,b) else lookS s i
def Blk.gen : Blk → Nat
  | .cells _ cs _ => cs.length
  | .map _ => 0
  | .iter _ _ => 0
  | .obj _ _ _ => 0
def phi0 (s : List Seed) : Phi := fun i g => match lookS s i with
  | some (l,b) => if g = b.gen then some l else none
  | none => none
def heap0 (s : List Seed) : AHeap := s.map fun p => (p.1,p.2.2)
theorem heap0_get (s : List Seed) (i : Nat) : (heap0 s).get i = (lookS s i).map (·.2) := by
  induction s with
  | nil => rfl
  | cons p s ih =>
    obtain ⟨k,l,b⟩ := p
    simp only [heap0,List.map_cons,lookS,AHeap.get_cons] at ih ⊢
    split
    · rfl
    · exact ih
theorem lookS_mem {s : List Seed} {i : Nat} {l : Loc} {b : Blk} (h : lookS s i = some (l,b)) : (i,l,b) ∈ s := by
  induction s with
  | nil => cases h
  | cons p s ih =>
    obtain ⟨k,l',b'⟩ := p
    simp only [lookS] at h
    split at h
    · rename_i e; subst e; cases h; exact .head _
    · exact .tail _ (ih h)
theorem phi0_some {s : List Seed} {i g : Nat} {l : Loc} (h : phi0 s i g = some l) : ∃ b,lookS s i = some (l,b) ∧ g = b.gen := by
  unfold phi0 at h
  split at h
  · rename_i l' b hs
    split at h
    · rename_i hg; cases h; exact ⟨b,hs,hg⟩
    · cases h
  · cases h

def SeedOk (w : World) (s : List Seed) (p : Seed) : Prop :=
  p.2.1.own = false ∧ p.2.1.block < w.heap.size ∧ (p.1 < 4096 → p.2.1.block = p.1 ∧ p.2.1.off = 0) ∧
  match p.2.2 with
  | .cells own cs min => own = none ∧ min ≤ cs.length ∧ cs.all Value.oneCell' = true ∧ ∀ k v,cs[k]? = some v → ∃ u,w.cell? ⟨p.2.1.block,p.2.1.off + k,none⟩ = some u ∧ VRel (phi0 s) v u
  | .map es => ∃ ces clock,w.heap[p.2.1.block]? = some (.map ces clock) ∧
      es.length = ces.size ∧ ∀ (k : Nat) (x : Value × Value),es[k]? = some x → ∃ e : MapEntry,ces[k]? = some e ∧ scalar x.1 = true ∧ e.key = x.1 ∧ VRel (phi0 s) x.2 e.val
  | .iter _ _ => False
  | .obj _ _ _ => False

theorem sat0 {w : World} {s : List Seed} (h : ∀ p ∈ s,SeedOk w s p) : Sat 4096 w (phi0 s) (fun i => (heap0 s).get i) w := by
  refine ⟨.refl _ _,fun i g l hl hi => ?_,fun i g l hl _ => ?_,fun i g l hl ho => ?_,fun i g l j k m hl hm ho => ?_,fun i g l k m hl hm => ?_,fun i g l hl ho => ?_,fun i b hb => ?_⟩
  · obtain ⟨b,hs,_⟩ := phi0_some hl
    obtain ⟨h1,h2,h3,_⟩ := h _ (lookS_mem hs)
    exact ⟨(h3 hi).1,(h3 hi).2,h1⟩
  · obtain ⟨b,hs,_⟩ := phi0_some hl
    exact (h _ (lookS_mem hs)).2.1
  · obtain ⟨b,hs,_⟩ := phi0_some hl
    have := (h _ (lookS_mem hs)).1
    simp only [ho] at this
    cases this
  · obtain ⟨b,hs,_⟩ := phi0_some hl
    have := (h _ (lookS_mem hs)).1
    simp only [ho] at this
    cases this
  · obtain ⟨b,hs,_⟩ := phi0_some hl
    obtain ⟨c,hs',_⟩ := phi0_some hm
    rw [hs] at hs'
    cases hs'
    rfl
  · obtain ⟨b,hs,_⟩ := phi0_some hl
    have := (h _ (lookS_mem hs)).1
    simp only [ho] at this
    cases this
  · rw [heap0_get] at hb
    obtain ⟨⟨l,b'⟩,hs,rfl⟩ := Option.map_eq_some_iff.1 hb
    obtain ⟨h1,h2,h3,h4⟩ := h _ (lookS_mem hs)
    have hphi : phi0 s i b'.gen = some l := by simp only [phi0,hs,if_true]
    cases b' with
    | cells own cs min =>
      obtain ⟨rfl,h5,h6,h7⟩ := h4
      refine ⟨⟨l,hphi⟩,h5,h6,fun g l' hl' hg => ?_⟩
      obtain ⟨b2,hs2,hg2⟩ := phi0_some hl'
      rw [hs] at hs2
      obtain ⟨rfl,rfl⟩ := Prod.mk.inj (Option.some.inj hs2)
      simp only [Blk.gen] at hg2
      subst hg2
      exact ⟨Nat.le_refl _,(fun t ht => by cases ht),fun k v _ hk => h7 k v hk⟩
    | map es =>
      obtain ⟨ces,clock,h5,h6,h7⟩ := h4
      exact ⟨l,hphi,h1,ces,clock,h5,h6,h7⟩
    | iter s p => exact h4.elim
    | obj b o σ => exact h4.elim

section
variable {P : Program} {w : World}
theorem calls_of_sound {f : Nat} {args : List Value} {h : AHeap} {n : Nat} {v : Value} {h' : AHeap} {n' : Nat} (x : SoundCall P w f args h n v h' n') {fn : Func} {c : Code} (hfn : P.funcs[f]? = some fn) (hbody : fn.body = some c)
    (hname : (fn.name == "runtime.NumGoroutine") = false) {φ : Phi} {T : TH} {cargs : List Value} (hs : Sat 4096 w φ T w) (hh : Sub h T) (hf : Fresh φ T n n') (hn : 4096 ≤ n) (hra : VRels φ args cargs) :
    Calls P f cargs.toArray w fun e w' => ∃ u φ', e = .returned u ∧ VRel φ' v u ∧ Below w.heap.size w w' := by
  have hrun : (callFunc f cargs.toArray).run P w = .ok (.enter f cargs.toArray) w := by
    simp only [callFunc, Sem.run_bind, run_program, Result.andThen_ok, hfn, hname, hbody, Bool.false_eq_true, if_false, Option.isNone_some, Sem.run_pure]
  have := x φ T w cargs hs hh hf hn hra { (default : Oper) with dst := some 0 } ⟨#[undef], []⟩
    (fun a w' => ∃ u φ', a.tmps[0]? = some u ∧ VRel φ' v u ∧ Below w.heap.size w w') (fun _ _ _ => False)
    (fun u w' ⟨φ', T', h1, h2⟩ => ⟨u, φ', by simp [Act.put], h1, h2.sat.below⟩)
  rw [hrun] at this
  simp only [Oper.upon] at this
  refine this.mono fun e w' he => ?_
  cases e with
  | returned r =>
    obtain ⟨u, φ', h1, h2, h3⟩ := he
    simp [Act.put] at h1
    exact ⟨u, φ', by rw [h1], h2, h3⟩
  | panicked c => cases he
  | outgrown => exact absurd he (by simp [LetsOut])
end
end
end Go.Proofs.YtkdpjaaohddppaaGreatDoor.Am
namespace Go.Proofs.YtkdpjaaohddppaaGreatDoor.Am
noncomputable section

/- THE EVALUATOR AGAIN,by recursors alone: for the kernel. -/
abbrev RunOut := Option (Option Value × AHeap × Nat × List Nat)
def finK (n : Nat) (log : List Nat) (r : Option (Value × AHeap × Nat)) : RunOut := match r with
  | some (v,h',n') => bif Nat.ble n n' then some (some v,h',n',log) else none
  | none => none
def refsX (r : Option Value) : List Nat := match r with | some v => refsOf v | none => []
def callK (call : CallEv) (σ : Fr) (h : AHeap) (n : Nat) (f : X) (xs : List X) : RunOut := match X.ev σ h f,mapX (X.ev σ h) xs with
  | some (.func (.func g) first captured),some vs => match call g (first.toList ++ vs ++ captured.toList) h n with
    | some (v,h',n',log) => some (some v,h',n',log)
    | none => none
  | _,_ => none
def runK (call : CallEv) (σ : Fr) (h : AHeap) (n : Nat) (op : AOp) : RunOut :=
  AOp.rec (motive := fun _ => RunOut)
    (fun x0 => finK n [] (ev_mov (X.ev σ h) h n x0))
    (fun x0 x1 x2 => finK n [] (ev_pick (X.ev σ h) h n x0 x1 x2))
    (fun x0 x1 => finK n [] (ev_alloc h n x0 x1))
    (fun x0 x1 => finK n [] (ev_box (X.ev σ h) h n x0 x1))
    (fun x0 x1 => finK n [] (ev_build (X.ev σ h) h n x0 x1))
    (fun x0 x1 x2 x3 x4 => finK n [] (ev_buildSlice (X.ev σ h) h n x0 x1 x2 x3 x4))
    (fun x0 x1 => finK n [] (ev_load (X.ev σ h) h n x0 x1))
    (fun x0 x1 x2 => finK n (refsX (X.ev σ h x1)) (ev_store (X.ev σ h) h n x0 x1 x2))
    (fun x0 => finK n [] (ev_nilCheck (X.ev σ h) h n x0))
    (fun x0 x1 x2 => finK n [] (ev_bin (X.ev σ h) h n x0 x1 x2))
    (fun x0 x1 x2 x3 x4 => finK n [] (ev_eqv (X.ev σ h) h n x0 x1 x2 x3 x4))
    (fun x0 x1 x2 x3 => finK n [] (ev_eqAgg (X.ev σ h) h n x0 x1 x2 x3))
    (fun x0 x1 => finK n [] (ev_un (X.ev σ h) h n x0 x1))
    (fun x0 x1 => finK n [] (ev_conv (X.ev σ h) h n x0 x1))
    (fun x0 => finK n [] (ev_same (X.ev σ h) h n x0))
    (fun x0 x1 => finK n [] (ev_bytesOf (X.ev σ h) h n x0 x1))
    (fun x0 => finK n [] (ev_strOf (X.ev σ h) h n x0))
    (fun x0 x1 x2 => finK n [] (ev_sliceStr (X.ev σ h) h n x0 x1 x2))
    (fun x0 x1 x2 x3 x4 => finK n [] (ev_slice (X.ev σ h) h n x0 x1 x2 x3 x4))
    (fun x0 x1 x2 x3 x4 => finK n [] (ev_sliceArr (X.ev σ h) h n x0 x1 x2 x3 x4))
    (fun x0 x1 => finK n [] (ev_fieldAddr (X.ev σ h) h n x0 x1))
    (fun x0 x1 x2 => finK n [] (ev_field (X.ev σ h) h n x0 x1 x2))
    (fun x0 x1 x2 => finK n [] (ev_indexAddr (X.ev σ h) h n x0 x1 x2))
    (fun x0 x1 x2 x3 => finK n [] (ev_indexArr (X.ev σ h) h n x0 x1 x2 x3))
    (fun x0 x1 x2 x3 x4 => finK n [] (ev_index (X.ev σ h) h n x0 x1 x2 x3 x4))
    (fun x0 x1 => finK n [] (ev_indexStr (X.ev σ h) h n x0 x1))
    (fun x0 x1 => finK n [] (ev_extract (X.ev σ h) h n x0 x1))
    (fun x0 => finK n [] (ev_lenStr (X.ev σ h) h n x0))
    (fun x0 => finK n [] (ev_lenSlice (X.ev σ h) h n x0))
    (fun x0 => finK n [] (ev_lenConst h n x0))
    (fun x0 x1 x2 x3 x4 => finK n (refsX (X.ev σ h x3)) (ev_append (X.ev σ h) h n x0 x1 x2 x3 x4))
    (fun x0 x1 x2 => finK n (refsX (X.ev σ h x1)) (ev_copy (X.ev σ h) h n x0 x1 x2))
    (fun x0 => finK n [] (ev_min (X.ev σ h) h n x0))
    (fun x0 => finK n [] (ev_max (X.ev σ h) h n x0))
    (fun x0 x1 x2 => finK n [] (ev_makeFunc (X.ev σ h) h n x0 x1 x2))
    (fun x0 x1 => finK n [] (ev_makeIface (X.ev σ h) h n x0 x1))
    (fun x0 x1 x2 x3 x4 x5 => finK n [] (ev_makeSlice (X.ev σ h) h n x0 x1 x2 x3 x4 x5))
    (fun x0 x1 x2 x3 x4 => finK n [] (ev_lookup (X.ev σ h) h n x0 x1 x2 x3 x4))
    (callK call σ h n)
    (finK n [] (ev_fail))
    (fun x0 => finK n [] (ev_cap (X.ev σ h) h n x0))
    (fun x0 => finK n [] (ev_sliceData (X.ev σ h) h n x0))
    (fun x0 x1 x2 => finK n (refsX (X.ev σ h x1)) (ev_unsafeString (X.ev σ h) h n x0 x1 x2))
    (fun x0 => finK n [] (ev_toUnsafe (X.ev σ h) h n x0))
    (fun x0 x1 x2 => finK n [] (ev_fromUnsafe (X.ev σ h) h n x0 x1 x2))
    (fun x0 => finK n [] (ev_rangeStr (X.ev σ h) h n x0))
    (fun x0 => finK n (refsX (X.ev σ h x0)) (ev_nextStr (X.ev σ h) h n x0))
    (fun x0 x1 => finK n [] (ev_toFloat (X.ev σ h) h n x0 x1))
    (fun x0 x1 => finK n [] (ev_sameF (X.ev σ h) h n x0 x1))
    op
def pureK (op : AOp) : Bool :=
  AOp.rec (motive := fun _ => Bool)
    (fun _ => true)
    (fun _ _ _ => true)
    (fun _ _ => false)
    (fun _ _ => false)
    (fun _ _ => true)
    (fun _ _ _ _ _ => false)
    (fun _ _ => true)
    (fun _ _ _ => false)
    (fun _ => true)
    (fun _ _ _ => true)
    (fun _ _ _ _ _ => true)
    (fun _ _ _ _ => true)
    (fun _ _ => true)
    (fun _ _ => true)
    (fun _ => true)
    (fun _ _ => false)
    (fun _ => true)
    (fun _ _ _ => true)
    (fun _ _ _ _ _ => true)
    (fun _ _ _ _ _ => true)
    (fun _ _ => true)
    (fun _ _ _ => true)
    (fun _ _ _ => true)
    (fun _ _ _ _ => true)
    (fun _ _ _ _ _ => true)
    (fun _ _ => true)
    (fun _ _ => true)
    (fun _ => true)
    (fun _ => true)
    (fun _ => true)
    (fun _ _ _ _ _ => false)
    (fun _ _ _ => false)
    (fun _ => true)
    (fun _ => true)
    (fun _ _ _ => true)
    (fun _ _ => true)
    (fun _ _ _ _ _ _ => false)
    (fun _ _ _ _ _ => true)
    (fun _ _ => false)
    (true)
    (fun _ => true)
    (fun _ => true)
    (fun _ _ _ => false)
    (fun _ => true)
    (fun _ _ _ => true)
    (fun _ => false)
    (fun _ => false)
    (fun _ _ => true)
    (fun _ _ => true)
    op
theorem pureK_eq (op : AOp) : pureK op = op.pure := by cases op <;> rfl
theorem runK_eq (call : CallEv) (o : AOper) (σ : Fr) (h : AHeap) (n : Nat) : runK call σ h n o.op = evRun call o σ h n := by
  obtain ⟨d,op,g,deps⟩ := o
  cases op <;> first | rfl | (simp only [runK,evRun,callK]; rfl)

def opK (call : CallEv) (o : AOper) (σ : Fr) (h : AHeap) (n : Nat) : RunOut :=
  Option.rec (motive := fun _ => RunOut) (runK call σ h n o.op)
    (fun p => match σ.get p.1 with
      | some (.bool c) => bif c == p.2 then runK call σ h n o.op else some (some undef,h,n,[])
      | some (.tuple vs) => bif vs.toList.isEmpty then some (some undef,h,n,[]) else none
      | _ => none) o.guard
theorem opK_eq (call : CallEv) (o : AOper) (σ : Fr) (h : AHeap) (n : Nat) : opK call o σ h n = evOp call o σ h n := by
  unfold opK evOp
  rw [runK_eq]
  cases o.guard with
  | none => rfl
  | some p => rfl
def opsK (call : CallEv) (l : List AOper) : Fr → AHeap → Nat → List Nat → Option (Fr × AHeap × Nat × List Nat) :=
  List.rec (motive := fun _ => Fr → AHeap → Nat → List Nat → Option (Fr × AHeap × Nat × List Nat)) (fun σ h n log => some (σ,h,n,log))
    (fun o _ ih σ h n log => Option.rec (motive := fun _ => Option (Fr × AHeap × Nat × List Nat)) none (fun r => ih (setDst σ o.dst r.1) r.2.1 r.2.2.1 (r.2.2.2 ++ log)) (opK call o σ h n)) l
theorem opsK_eq (call : CallEv) : ∀ (l : List AOper) (σ : Fr) (h : AHeap) (n : Nat) (log : List Nat),opsK call l σ h n log = evOps call l σ h n log
  | [],_,_,_,_ => rfl
  | o :: l, σ,h,n,log => by
    show Option.rec (motive := fun _ => Option (Fr × AHeap × Nat × List Nat)) none (fun r => opsK call l (setDst σ o.dst r.1) r.2.1 r.2.2.1 (r.2.2.2 ++ log)) (opK call o σ h n) = _
    simp only [evOps,opK_eq]
    cases evOp call o σ h n with
    | none => rfl
    | some r => obtain ⟨a,b,c,d⟩ := r; exact opsK_eq call l _ _ _ _
abbrev DrawOut := Option (List Rec × Fr × AHeap × Nat × List Nat)
def consK (c : Rec) : DrawOut → DrawOut
  | some (rs, σ',h',n',log') => some (c :: rs, σ',h',n',log')
  | none => none
def drawK (call : CallEv) (pairs : List (Nat × Nat)) (l : List AOper) : Nat → Fr → AHeap → Nat → List Nat → List (Nat × List Nat) → DrawOut :=
  List.rec (motive := fun _ => Nat → Fr → AHeap → Nat → List Nat → List (Nat × List Nat) → DrawOut) (fun _ σ h n log _ => some ([], σ,h,n,log))
    (fun o _ ih j σ h n log chs => Option.rec (motive := fun _ => DrawOut) none
      (fun r => bif pureK o.op then consK ⟨smallHeap o σ h (badOf pairs j chs),n,r.1,smallHeap o σ h (badOf pairs j chs),r.2.2.1,[]⟩ (ih (j + 1) (setDst σ o.dst r.1) h r.2.2.1 log chs)
        else bif Rec.okB ⟨smallHeap o σ h (badOf pairs j chs),n,r.1,r.2.1,r.2.2.1,r.2.2.2 ++ (r.2.1.filter fun q => Nat.ble n q.1).map (·.1)⟩ then
          consK ⟨smallHeap o σ h (badOf pairs j chs),n,r.1,r.2.1,r.2.2.1,r.2.2.2 ++ (r.2.1.filter fun q => Nat.ble n q.1).map (·.1)⟩
            (ih (j + 1) (setDst σ o.dst r.1) (h.puts r.2.1 (r.2.2.2 ++ (r.2.1.filter fun q => Nat.ble n q.1).map (·.1))) r.2.2.1 (r.2.2.2 ++ log) ((j,r.2.2.2 ++ (r.2.1.filter fun q => Nat.ble n q.1).map (·.1)) :: chs))
        else none)
      (opK call o (σ.restrict o.reads) (smallHeap o σ h (badOf pairs j chs)) n)) l
theorem drawK_eq (call : CallEv) (pairs : List (Nat × Nat)) : ∀ (l : List AOper) (j : Nat) (σ : Fr) (h : AHeap) (n : Nat) (log : List Nat) (chs : List (Nat × List Nat)),drawK call pairs l j σ h n log chs = evDraw call pairs l j σ h n log chs
  | [],_,_,_,_,_,_ => rfl
  | o :: l,j, σ,h,n,log,chs => by
    show Option.rec (motive := fun _ => DrawOut) none
      (fun r => bif pureK o.op then consK ⟨smallHeap o σ h (badOf pairs j chs),n,r.1,smallHeap o σ h (badOf pairs j chs),r.2.2.1,[]⟩ (drawK call pairs l (j + 1) (setDst σ o.dst r.1) h r.2.2.1 log chs)
        else bif Rec.okB ⟨smallHeap o σ h (badOf pairs j chs),n,r.1,r.2.1,r.2.2.1,r.2.2.2 ++ (r.2.1.filter fun q => Nat.ble n q.1).map (·.1)⟩ then
          consK ⟨smallHeap o σ h (badOf pairs j chs),n,r.1,r.2.1,r.2.2.1,r.2.2.2 ++ (r.2.1.filter fun q => Nat.ble n q.1).map (·.1)⟩
            (drawK call pairs l (j + 1) (setDst σ o.dst r.1) (h.puts r.2.1 (r.2.2.2 ++ (r.2.1.filter fun q => Nat.ble n q.1).map (·.1))) r.2.2.1 (r.2.2.2 ++ log) ((j,r.2.2.2 ++ (r.2.1.filter fun q => Nat.ble n q.1).map (·.1)) :: chs))
        else none)
      (opK call o (σ.restrict o.reads) (smallHeap o σ h (badOf pairs j chs)) n) = _
    simp only [evDraw,opK_eq,pureK_eq]
    cases evOp call o (σ.restrict o.reads) (smallHeap o σ h (badOf pairs j chs)) n with
    | none => rfl
    | some r =>
      obtain ⟨a,b,c,d⟩ := r
      simp only [drawK_eq call pairs l]
      cases o.op.pure <;> simp only [cond_true,cond_false]
      · split <;> (rename_i hx; rw [hx]; rfl)
      · rfl
abbrev CodeOut := Option (Ex × Fr × AHeap × Nat × List Nat)
def thenK (log1 : List Nat) : CodeOut → CodeOut
  | some (e, σ',h',n',log) => some (e, σ',h',n',log ++ log1)
  | none => none
def endK (id : Nat) : CodeOut → CodeOut
  | some (.exit j, σ',h',n',log) => bif Nat.beq j id then some (.normal, σ',h',n',log) else some (.exit j, σ',h',n',log)
  | r => r
def regK : Option (Fr × AHeap × Nat × List Nat) → CodeOut
  | some (σ',h',n',log) => some (.normal, σ',h',n',log)
  | none => none
def dregK (pairs : List (Nat × Nat)) : DrawOut → CodeOut
  | some (recs, σ',h',n',log) => bif pairsB pairs recs then some (.normal, σ',h',n',log) else none
  | none => none
def bindK (r : CodeOut) (k : Fr → AHeap → Nat → CodeOut) : CodeOut :=
  Option.rec (motive := fun _ => CodeOut) none (fun p => Ex.rec (motive := fun _ => CodeOut) (thenK p.2.2.2.2 (k p.2.1 p.2.2.1 p.2.2.2.1)) (fun j => some (.exit j,p.2)) (some (.ret,p.2)) p.1) r
def condK (v : Option Value) (a b : CodeOut) : CodeOut := match v with
  | some (.bool true) => a
  | some (.bool false) => b
  | _ => none
def codeK (E : EEnv) (k : Nat) : CodeEv :=
  Nat.rec (motive := fun _ => CodeEv) (fun _ _ _ _ => none)
    (fun _ ih c σ h n => ACode.rec (motive := fun _ => CodeOut) (some (.normal, σ,h,n,[]))
      (fun l pr => Option.rec (motive := fun _ => CodeOut) (regK (opsK (evCall E ih) l σ h n [])) (fun pairs => dregK pairs (drawK (evCall E ih) pairs l 0 σ h n [] [])) pr)
      (fun a b _ _ => bindK (ih a σ h n) (ih b))
      (fun x a b _ _ => condK (X.ev σ h x) (ih a σ h n) (ih b σ h n))
      (fun id a _ => endK id (ih a σ h n))
      (fun a _ => bindK (ih a σ h n) (ih (.loop a)))
      (fun id => some (.exit id, σ,h,n,[]))
      (some (.ret, σ,h,n,[]))
      none (fun _ _ _ _ _ _ => none) (fun _ _ => none) (fun _ => none) c) k
theorem bindK_eq (r : CodeOut) (k : Fr → AHeap → Nat → CodeOut) : bindK r k = match r with
    | some (.normal, σ1,h1,n1,log1) => match k σ1 h1 n1 with
      | some (e, σ',h',n',log) => some (e, σ',h',n',log ++ log1)
      | none => none
    | r => r := by
  cases r with
  | none => rfl
  | some p =>
    obtain ⟨e, σ,h,n,log⟩ := p
    cases e <;> first | rfl | (simp only [bindK]; cases k σ h n <;> rfl)
theorem codeK_eq (E : EEnv) : ∀ (k : Nat) (c : ACode) (σ : Fr) (h : AHeap) (n : Nat),codeK E k c σ h n = evCode E k c σ h n
  | 0,_,_,_,_ => rfl
  | k + 1,c, σ,h,n => by
    have ih : codeK E k = evCode E k := funext fun c => funext fun σ => funext fun h => funext fun n => codeK_eq E k c σ h n
    have hs : ∀ c,codeK E (k + 1) c σ h n = ACode.rec (motive := fun _ => CodeOut) (some (.normal, σ,h,n,[]))
      (fun l pr => Option.rec (motive := fun _ => CodeOut) (regK (opsK (evCall E (codeK E k)) l σ h n [])) (fun pairs => dregK pairs (drawK (evCall E (codeK E k)) pairs l 0 σ h n [] [])) pr)
      (fun a b _ _ => bindK (codeK E k a σ h n) (codeK E k b))
      (fun x a b _ _ => condK (X.ev σ h x) (codeK E k a σ h n) (codeK E k b σ h n))
      (fun id a _ => endK id (codeK E k a σ h n))
      (fun a _ => bindK (codeK E k a σ h n) (codeK E k (.loop a)))
      (fun id => some (.exit id, σ,h,n,[]))
      (some (.ret, σ,h,n,[]))
      none (fun _ _ _ _ _ _ => none) (fun _ _ => none) (fun _ => none) c := fun _ => rfl
    rw [hs,ih]
    cases c with
    | region l pr =>
      cases pr with
      | none => simp only [evCode,opsK_eq]; cases evOps (evCall E (evCode E k)) l σ h n [] <;> rfl
      | some pairs => simp only [evCode,drawK_eq]; cases evDraw (evCall E (evCode E k)) pairs l 0 σ h n [] [] <;> rfl
    | seq a b => simp only [evCode,bindK_eq]; rfl
    | loop a => simp only [evCode,bindK_eq]; rfl
    | cond x a b => rfl
    | block id a => rfl
    | _ => rfl
end
end Go.Proofs.YtkdpjaaohddppaaGreatDoor.Am
namespace Go.Proofs.YtkdpjaaohddppaaGreatDoor.Am
noncomputable section
open Go.RowKit (Below)

theorem Prim.kept (p : Prim) {args : List Value} {h : AHeap} {n : Nat} {v : Value} {h' : AHeap} {n' : Nat} (he : p.ev args h n = some (v,h',n')) : n ≤ n' ∧ Keeps h n h' [] := by
  unfold Prim.ev at he
  split at he
  · cases he; exact ⟨Nat.le_refl _, .refl _ _ _⟩
  · split at he
    · cases he; exact ⟨by omega, .new _ _ _ _⟩
    · cases he
  · split at he
    · cases he; exact ⟨Nat.le_refl _, .refl _ _ _⟩
    · cases he
  · split at he
    · cases he; exact ⟨Nat.le_refl _, .refl _ _ _⟩
    · cases he
  · split at he
    · cases he; exact ⟨Nat.le_refl _, .refl _ _ _⟩
    · cases he
  · cases he; exact ⟨Nat.le_refl _, .refl _ _ _⟩
  · cases he; exact ⟨Nat.le_refl _, .refl _ _ _⟩
  · cases he
theorem mkEnv_kept (fs : FT) (ps : List (Nat × Prim)) : (mkEnv fs ps).Kept := by
  intro f args h n v h' n' he
  simp only [mkEnv,primOrc] at he
  split at he
  · exact Prim.kept _ he
  · cases he

def Prim.at (P : Program) (f : Nat) : Prim → Prop
  | .noEscape => ∃ fn, P.funcs[f]? = some fn ∧ (fn.name == "runtime.NumGoroutine") = false ∧ fn.body.isNone = true ∧ Extern.findNext fn = none ∧ Extern.find fn = some Extern.AbiNoEscape.same
  | .makeNoZero ty => ∃ fn t ps, P.funcs[f]? = some fn ∧ (fn.name == "runtime.NumGoroutine") = false ∧ fn.body.isNone = true ∧ Extern.findNext fn = none ∧ Extern.find fn = some (Extern.BytealgMakeNoZero.makeNoZero ps #[t]) ∧ P.underlying t = some (.slice ty)
  | .count => ∃ fn, P.funcs[f]? = some fn ∧ (fn.name == "runtime.NumGoroutine") = false ∧ fn.body.isNone = true ∧ Extern.findNext fn = none ∧ Extern.find fn = some Extern.BytealgCount.count
  | .indexByte => ∃ fn, P.funcs[f]? = some fn ∧ (fn.name == "runtime.NumGoroutine") = false ∧ fn.body.isNone = true ∧ Extern.findNext fn = none ∧ Extern.find fn = some Extern.BytealgIndexByte.indexByte
  | .rep => ∃ fn, P.funcs[f]? = some fn ∧ (fn.name == "runtime.NumGoroutine") = false ∧ fn.body.isSome = true ∧ ∀ (s : ByteArray) (c : Nat) (w : World), c ≤ 9223372036854775807 → s.size * c ≤ 140737488355328 →
      Calls P f #[.string s, .int .i64 c] w fun e w' => e = .returned (.string ⟨(Lib.repeatL s.data.toList c).toArray⟩) ∧ Below w.heap.size w w'
  | .toBits => ∃ fn, P.funcs[f]? = some fn ∧ (fn.name == "runtime.NumGoroutine") = false ∧ fn.body.isNone = true ∧ Extern.findNext fn = none ∧ Extern.find fn = some Extern.MathFloatBits.float64bits
  | .fromBits => ∃ fn, P.funcs[f]? = some fn ∧ (fn.name == "runtime.NumGoroutine") = false ∧ fn.body.isNone = true ∧ Extern.findNext fn = none ∧ Extern.find fn = some Extern.MathFloatBits.float64frombits

theorem Sat.later {G : Nat} {w0 : World} {φ : Phi} {T : TH} {w w' : World} (h : Sat G w0 φ T w) (hb : Below w.heap.size w w') : Sat G w0 φ T w' where
  below := h.below.trans (hb.mono h.below.size)
  glob := h.glob
  old := h.old
  new := fun i g l hl ho => by rw [hb.block _ (h.inside hl)]; exact h.new i g l hl ho
  apart := h.apart
  uni := h.uni
  fits := h.fits
  blk := fun i b hT => (h.blk i b hT).congr (.refl _) (fun _ _ x => x) fun _ _ hl => hb.block _ (h.inside hl)

section
variable {P : Program} {w0 : World}

theorem invokes_value {f : Nat} {args : Array Value} {w : World} {u : Value} {w' : World} {R : Value → World → Prop} (hr : (callFunc f args).run P w = .ok (.value u) w') (h : R u w') : Invokes P f args w R := by
  intro o a K Q hK
  rw [hr]
  exact hK u w' h

theorem VRels.two {φ : Phi} {a b : Value} {us : List Value} (h : VRels φ [a,b] us) : ∃ x y,us = [x,y] ∧ VRel φ a x ∧ VRel φ b y := by
  cases h with
  | cons h1 h2 => cases h2 with
    | cons h3 h4 => cases h4; exact ⟨_,_,rfl,h1,h3⟩
theorem VRels.one {φ : Phi} {a : Value} {us : List Value} (h : VRels φ [a] us) : ∃ x,us = [x] ∧ VRel φ a x := by
  cases h with
  | cons h1 h2 => cases h2; exact ⟨_,rfl,h1⟩

theorem prim_call_sound {f : Nat} {p : Prim} (hp : p.at P f) {args : List Value} {h : AHeap} {n : Nat} {v : Value} {h' : AHeap} {n' : Nat} (he : p.ev args h n = some (v,h',n')) : SoundCall P w0 f args h n v h' n' := by
  intro φ T w cargs hs hh hf hG hra
  unfold Prim.ev at he
  split at he
  · obtain ⟨fn,h1,h2,h3,h4,h5⟩ := hp
    cases he
    obtain ⟨x,rfl,hx⟩ := hra.one
    refine invokes_value (u := x) (w' := w) (by rw [run_callFunc_extern h1 h2 h3 h4 h5]; rfl) ⟨φ,T,hx, .refl hs hh⟩
  · rename_i ty m
    split at he
    · rename_i hm
      obtain ⟨fn,t,ps,h1,h2,h3,h4,h5,h6⟩ := hp
      cases he
      obtain ⟨x,rfl,hx⟩ := hra.one
      obtain rfl := hx.eq_of_scalar rfl
      obtain ⟨cs,hrun,hsz,_⟩ := Lib.run_makeNoZero (P := P) w ps t ty h6 m.toNat (by omega)
      have hmi : (m.toNat : Int) = m := by omega
      rw [hmi] at hrun
      have hs2 : Sat 4096 w0 φ T w.drew.drew := (hs.same (SameMem.drew _ _)).same (SameMem.drew _ _)
      have hp := alloc_sound (w := w.drew.drew) (e := ty) (fz := (0,0)) hs2 hh hG hf (vs := []) (us := []) .nil (c := cs) (by simp) rfl (fun o _ => by omega)
      refine invokes_value (u := .slice (some ⟨w.heap.size,0,none⟩) m.toNat cs.size) (w' := w.drew.drew.alloc (.cells cs ty)) (by rw [run_callFunc_extern h1 h2 h3 h4 h5,hrun]; rfl) ⟨_,_, ?_,hp⟩
      exact .slice n 0 0 m.toNat 2 ⟨w.heap.size,0,true,cs.size,ty⟩ _ cs.size (by simp [Phi.ins]) hsz (.inr rfl) (.inr (.inr ⟨1,by omega,rfl,by simp⟩))
    · cases he
  · rename_i s c
    split at he
    · obtain ⟨fn,h1,h2,h3,h4,h5⟩ := hp
      cases he
      obtain ⟨x,y,rfl,hx,hy⟩ := hra.two
      obtain rfl := hx.eq_of_scalar rfl
      obtain rfl := hy.eq_of_scalar rfl
      exact invokes_value (w' := w) (by rw [run_callFunc_extern h1 h2 h3 h4 h5]; exact congrArg (fun r => Result.andThen r fun v w' => Result.ok (Next.value v) w') (Lib.run_countString s c w)) ⟨φ,T, .int _ _, .refl hs hh⟩
    · cases he
  · rename_i s c
    split at he
    · obtain ⟨fn,h1,h2,h3,h4,h5⟩ := hp
      cases he
      obtain ⟨x,y,rfl,hx,hy⟩ := hra.two
      obtain rfl := hx.eq_of_scalar rfl
      obtain rfl := hy.eq_of_scalar rfl
      exact invokes_value (w' := w) (by rw [run_callFunc_extern h1 h2 h3 h4 h5]; exact congrArg (fun r => Result.andThen r fun v w' => Result.ok (Next.value v) w') (Lib.run_indexByteString s c w)) ⟨φ,T, .int _ _, .refl hs hh⟩
    · cases he
  · rename_i s m
    split at he
    · rename_i hm
      obtain ⟨fn,h1,h2,h3,h4⟩ := hp
      cases he
      obtain ⟨x,y,rfl,hx,hy⟩ := hra.two
      obtain rfl := hx.eq_of_scalar rfl
      obtain rfl := hy.eq_of_scalar rfl
      intro o a K Q hK
      have hrun : (callFunc f #[.string s, .int .i64 m]).run P w = .ok (.enter f #[.string s, .int .i64 m]) w := by
        cases hb : fn.body with
        | none => rw [hb] at h3; cases h3
        | some c => simp only [callFunc,Sem.run_bind,run_program,Result.andThen_ok,h1,h2,hb,Bool.false_eq_true,if_false,Option.isNone_some,Sem.run_pure]
      have hc := h4 s m.toNat w (by omega) hm.2.2
      have hmi : ((m.toNat : Nat) : Int) = m := by omega
      rw [hmi] at hc
      show o.upon P a K Q ((callFunc f #[.string s, .int .i64 m]).run P w)
      rw [hrun]
      simp only [Oper.upon]
      refine hc.mono fun e w' ⟨he,hbl⟩ => ?_
      subst he
      exact hK _ _ ⟨φ,T, .string _, .refl (hs.later hbl) hh⟩
    · cases he
  · obtain ⟨fn,h1,h2,h3,h4,h5⟩ := hp
    cases he
    obtain ⟨x,rfl,hx⟩ := hra.one
    obtain rfl := hx.eq_of_scalar rfl
    exact invokes_value (w' := w) (by rw [run_callFunc_extern h1 h2 h3 h4 h5]; rfl) ⟨φ,T, .int _ _, .refl hs hh⟩
  · obtain ⟨fn,h1,h2,h3,h4,h5⟩ := hp
    cases he
    obtain ⟨x,rfl,hx⟩ := hra.one
    obtain rfl := hx.eq_of_scalar rfl
    exact invokes_value (w' := w) (by rw [run_callFunc_extern h1 h2 h3 h4 h5]; rfl) ⟨φ,T, .float _ _, .refl hs hh⟩
  · cases he

def PrimsAt (P : Program) : List (Nat × Prim) → Prop
  | [] => True
  | (f,p) :: l => p.at P f ∧ PrimsAt P l
theorem primsAt_look {l : List (Nat × Prim)} {f : Nat} {p : Prim} (h : PrimsAt P l) (hl : lookF l f = some p) : p.at P f := by
  induction l with
  | nil => cases hl
  | cons q l ih =>
    obtain ⟨k,r⟩ := q
    simp only [lookF] at hl
    split at hl
    · rename_i e; subst e; cases hl; exact h.1
    · exact ih h.2 hl

def CodeAt (P : Program) (f : Nat) (af : AFunc) : Prop := ∃ fn, P.funcs[f]? = some fn ∧ (fn.name == "runtime.NumGoroutine") = false ∧ cFunc P fn = some af
theorem mkEnv_ok {fs : FT} {ps : List (Nat × Prim)} (hm : P.follows .mixedOrders = true) (hf : fs.All (CodeAt P)) (hp : PrimsAt P ps) : EnvOk P w0 (mkEnv fs ps).env := by
  refine ⟨hm,fun f af h => FT.find_all hf h,fun f args h n v h' n' he => ?_,fun _ _ _ _ _ _ _ x => x.elim,fun _ _ _ _ _ _ _ _ x => x.elim⟩
  simp only [EEnv.env,mkEnv,primOrc] at he
  split at he
  · rename_i p hl
    exact prim_call_sound (primsAt_look hp hl) he
  · cases he

theorem run_call {fs : FT} {ps : List (Nat × Prim)} (hm : P.follows .mixedOrders = true) (hf : fs.All (CodeAt P)) (hp : PrimsAt P ps) {w : World} {s : List Seed} (hseed : ∀ p ∈ s, SeedOk w s p) {f : Nat} {fn : Func} (hfn : P.funcs[f]? = some fn)
    (hbody : fn.body.isSome = true) (hname : (fn.name == "runtime.NumGoroutine") = false) {args cargs : List Value} {n : Nat} (hn : 4096 ≤ n) (hfr : ∀ p ∈ s, p.1 < n) (hra : VRels (phi0 s) args cargs) {v : Value} {h' : AHeap} {n' : Nat}
    (hb : Big (mkEnv fs ps).env (.call f args (heap0 s) n v h' n')) : Calls P f cargs.toArray w fun e w' => ∃ u φ', e = .returned u ∧ VRel φ' v u ∧ Below w.heap.size w w' := by
  have hsound := hb.sound (R := anyRo) trivial (mkEnv_ok (w0 := w) hm hf hp)
  obtain ⟨c, hc⟩ := Option.isSome_iff_exists.1 hbody
  refine calls_of_sound hsound hfn hc hname (sat0 hseed) (fun i b hb => hb) (fun i h1 h2 => ?_) hn hra
  have hnone : lookS s i = none := by
    cases hl : lookS s i with
    | none => rfl
    | some q =>
      obtain ⟨l, b⟩ := q
      have := hfr _ (lookS_mem hl)
      simp only at this
      omega
  refine ⟨by rw [heap0_get, hnone]; rfl, fun g => by simp only [phi0, hnone]⟩
end
end
end Go.Proofs.YtkdpjaaohddppaaGreatDoor.Am
namespace Go.Proofs.YtkdpjaaohddppaaGreatDoor.Am
noncomputable section
open Go.ChangeShapes Go.WideShapes Go.WideElems Go.WideMaps Go.RowKit

section
variable {H : Type} {enc : TypeId × Value → H} {P : Program} {w : World} {base : Nat} {sp : Nat → Bool} {held : Bool}

theorem seed_cells {g : Nat} {nm : String} {cs : Array Value} {l : List Value} {s : List Seed} (hg : P.globalNamed nm = some g) (hv : w.var? P nm = some cs) (hl : cs.toList = l) (hlt : g < w.heap.size) (hone : l.all Value.oneCell' = true) (hr : ∀ v,v ∈ l → ∃ u,u = v ∧ VRel (phi0 s) v u) :
    SeedOk w s (g,⟨g,0,false,0,0⟩, .cells none l 0) := by
  refine ⟨rfl,hlt,fun _ => ⟨rfl,rfl⟩,rfl,Nat.zero_le _,hone,fun k v hk => ?_⟩
  obtain ⟨u,rfl,hr⟩ := hr v (List.mem_of_getElem? hk)
  refine ⟨u, ?_,hr⟩
  simp only [Nat.zero_add]
  rw [World.var?_cell hg hv k,← Array.getElem?_toList,hl]; exact hk
theorem var?_lt {g : Nat} {nm : String} {cs : Array Value} (hg : P.globalNamed nm = some g) (hv : w.var? P nm = some cs) : g < w.heap.size := by
  simp only [World.var?,hg,Option.bind_some] at hv
  split at hv
  · rename_i hh
    rcases Nat.lt_or_ge g w.heap.size with h | h
    · exact h
    · rw [Array.getElem?_eq_none h] at hh; cases hh
  · cases hv
end
end
end Go.Proofs.YtkdpjaaohddppaaGreatDoor.Am
namespace Go.Proofs.YtkdpjaaohddppaaGreatDoor.Am
noncomputable section

/- TABLES: calls that are known,for a run that comes to them. -/
theorem Big.swap {E E' : Env} (hfs : ∀ f af,E'.fs f = some af → E.fs f = some af) (ho : ∀ f args h n v h' n',E'.orc f args h n v h' n' → n ≤ n' → Big E (.call f args h n v h' n')) (hy : ∀ l args h n v h' n',E'.yl l args h n v h' n' → E.yl l args h n v h' n') (hx : ∀ c σ h n e σ' h' n',E'.xc c σ h n e σ' h' n' → E.xc c σ h n e σ' h' n') {j : J} (b : Big E' j) : Big E j := by
  induction b with
  | prim pg pa pm => exact .prim pg pa pm
  | skip pg pd => exact .skip pg pd
  | skipOff pg pd => exact .skipOff pg pd
  | opCall pg po pf px _ ih => exact .opCall pg po pf px ih
  | opYield pg po pf px py pm => exact .opYield pg po pf px (hy _ _ _ _ _ _ _ py) pm
  | ext px pm => exact .ext (hx _ _ _ _ _ _ _ _ px) pm
  | opMovAny pg po => exact .opMovAny pg po
  | opsNan g1 g2 e1 p1 p2 hp hq pa pb pc hc _ i1 => exact .opsNan g1 g2 e1 p1 p2 hp hq pa pb pc hc i1
  | opsNil => exact .opsNil
  | opsCons _ _ i1 i2 => exact .opsCons i1 i2
  | drawNil => exact .drawNil
  | drawCons _ ps pok _ i1 i2 => exact .drawCons i1 ps pok i2
  | cskip => exact .cskip
  | region _ i1 => exact .region i1
  | regionDraw _ pp i1 => exact .regionDraw i1 pp
  | seq _ _ i1 i2 => exact .seq i1 i2
  | seqStop _ pe i1 => exact .seqStop i1 pe
  | cond pc _ i1 => exact .cond pc i1
  | block _ pe i1 => exact .block i1 pe
  | blockExit _ i1 => exact .blockExit i1
  | loop _ _ i1 i2 => exact .loop i1 i2
  | loopStop _ pe i1 => exact .loopStop i1 pe
  | exit => exact .exit
  | ret => exact .ret
  | label => exact .label
  | scope _ pe i1 => exact .scope i1 pe
  | scopeJump _ pf _ pe i1 i2 => exact .scopeJump i1 pf i2 pe
  | weak _ pσ ph i1 => exact .weak i1 pσ ph
  | start _ pσ ph i1 => exact .start i1 pσ ph
  | call pf pargs _ pe pr ph i1 => exact .call (hfs _ _ pf) pargs i1 pe pr ph
  | frame _ ps pf i1 => exact .frame i1 ps pf
  | early _ pm i1 => exact .early i1 pm
  | lift _ pm i1 => exact .lift i1 pm
  | orc po pm => exact ho _ _ _ _ _ _ _ po pm

/- Values without addresses,held against one another. -/
def eqS : Value → Value → Bool
  | .bool a, .bool b => a == b
  | .int k a, .int l b => decide (k = l) && a == b
  | .float k a, .float l b => decide (k = l) && a == b
  | .string a, .string b => a.data.toList == b.data.toList
  | .nilIface, .nilIface => true
  | .slice none 0 0, .slice none 0 0 => true
  | .pointer none, .pointer none => true
  | _,_ => false
def eqSs : List Value → List Value → Bool
  | [],[] => true
  | a :: l,b :: m => eqS a b && eqSs l m
  | _,_ => false
def eqV : Value → Value → Bool
  | .agg a, .agg b => eqSs a.toList b.toList
  | a,b => eqS a b
def eqVs : List Value → List Value → Bool
  | [],[] => true
  | a :: l,b :: m => eqV a b && eqVs l m
  | _,_ => false
def eqT : Value → Value → Bool
  | .tuple a, .tuple b => eqVs a.toList b.toList
  | a,b => eqV a b
theorem eqS_eq {a b : Value} (h : eqS a b = true) : a = b := by
  unfold eqS at h
  split at h <;> first
    | rfl
    | (simp at h; done)
    | (simp only [beq_iff_eq] at h; rw [h]; done)
    | (simp only [Bool.and_eq_true,decide_eq_true_eq,beq_iff_eq] at h; rw [h.1,h.2]; done)
    | (simp only [beq_iff_eq] at h; congr 1; apply ByteArray.ext; exact Array.toList_inj.1 h)
theorem eqSs_eq : ∀ {a b : List Value},eqSs a b = true → a = b
  | [],[],_ => rfl
  | [],_ :: _,h => by cases h
  | _ :: _,[],h => by cases h
  | a :: l,b :: m,h => by
    simp only [eqSs,Bool.and_eq_true] at h
    rw [eqS_eq h.1,eqSs_eq h.2]
theorem eqV_eq {a b : Value} (h : eqV a b = true) : a = b := by
  unfold eqV at h
  split at h
  · rw [Array.toList_inj.1 (eqSs_eq h)]
  · exact eqS_eq h
theorem eqVs_eq : ∀ {a b : List Value},eqVs a b = true → a = b
  | [],[],_ => rfl
  | [],_ :: _,h => by cases h
  | _ :: _,[],h => by cases h
  | a :: l,b :: m,h => by
    simp only [eqVs,Bool.and_eq_true] at h
    rw [eqV_eq h.1,eqVs_eq h.2]
theorem eqT_eq {a b : Value} (h : eqT a b = true) : a = b := by
  unfold eqT at h
  split at h
  · rw [Array.toList_inj.1 (eqVs_eq h)]
  · exact eqV_eq h

structure Ent where
  f : Nat
  args : List Value
  n0 : Nat
  v : Value
  n1 : Nat
def lookE : List Ent → Nat → List Value → Nat → Option Ent
  | [],_,_,_ => none
  | e :: l,f,args,n => bif Nat.beq e.f f && eqVs e.args args && Nat.ble n e.n0 then some e else lookE l f args n
theorem lookE_some {l : List Ent} {f : Nat} {args : List Value} {n : Nat} {e : Ent} (h : lookE l f args n = some e) : e ∈ l ∧ e.f = f ∧ e.args = args ∧ n ≤ e.n0 := by
  induction l with
  | nil => cases h
  | cons x l ih =>
    simp only [lookE] at h
    cases hc : (Nat.beq x.f f && eqVs x.args args && Nat.ble n x.n0) with
    | true =>
      rw [hc] at h
      cases h
      simp only [Bool.and_eq_true] at hc
      exact ⟨.head _,Nat.eq_of_beq_eq_true hc.1.1,eqVs_eq hc.1.2,Nat.le_of_ble_eq_true hc.2⟩
    | false =>
      rw [hc] at h
      obtain ⟨h1,h2⟩ := ih h
      exact ⟨.tail _ h1,h2⟩
def isOut (v : Value) (n1 : Nat) : Option Out → Bool
  | some (u,_,n',_) => eqT u v && Nat.beq n' n1
  | _ => false
def isQuiet (v : Value) (n1 : Nat) : Option Out → Bool
  | some (u,_,n',log) => eqT u v && Nat.beq n' n1 && log.isEmpty
  | _ => false
end
end Go.Proofs.YtkdpjaaohddppaaGreatDoor.Am
