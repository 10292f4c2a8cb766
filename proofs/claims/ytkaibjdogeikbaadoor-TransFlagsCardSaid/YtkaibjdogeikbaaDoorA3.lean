/- The abstract memory and its operations, part A3: what a run of the model does is bounded by what an abstract machine does. -/
import Derived.Test.YtkaibjdogeikbaaDoorA2
namespace Go.Proofs.YtkaibjdogeikbaaDoor.Am
noncomputable section

/-- Lists of pairs, by key. -/
abbrev Fr := List (Nat × Value)
def Fr.getC : Fr → Nat → Option Value
  | [], _ => none
  | (j, b) :: h, i => bif Nat.beq j i then some b else Fr.getC h i
def Fr.get (l : Fr) : Nat → Option Value := List.rec (motive := fun _ => Nat → Option Value) (fun _ => none) (fun p _ ih i => bif Nat.beq p.1 i then some p.2 else ih i) l
theorem Fr.get_nil (i : Nat) : Fr.get [] i = none := rfl
theorem Fr.get_cons (j : Nat) (b : Value) (h : Fr) (i : Nat) : Fr.get ((j, b) :: h) i = if j = i then some b else Fr.get h i := by
  show (bif Nat.beq j i then some b else Fr.get h i) = _
  by_cases e : j = i
  · subst e; simp
  · rw [if_neg e, show Nat.beq j i = false from by cases hb : Nat.beq j i with | false => rfl | true => exact absurd (Nat.eq_of_beq_eq_true hb) e]; rfl
def Fr.del : Fr → Nat → Fr
  | [], _ => []
  | (j, b) :: h, i => if j = i then Fr.del h i else (j, b) :: Fr.del h i
def Fr.put (h : Fr) (i : Nat) (b : Value) : Fr := (i, b) :: h

theorem Fr.get_del_ne (h : Fr) {i j : Nat} (hij : i ≠ j) : (h.del i).get j = h.get j := by
  induction h with
  | nil => rfl
  | cons x h ih =>
    obtain ⟨k, b⟩ := x
    simp only [Fr.del]
    split
    · rename_i e; subst e; simp only [Fr.get_cons, if_neg hij]; exact ih
    · simp only [Fr.get_cons]; split <;> simp_all
theorem Fr.get_del_same (h : Fr) (i : Nat) : (h.del i).get i = none := by
  induction h with
  | nil => rfl
  | cons x h ih =>
    obtain ⟨k, b⟩ := x
    simp only [Fr.del]
    split
    · exact ih
    · rename_i e; simp only [Fr.get_cons, if_neg e]; exact ih
theorem Fr.get_put (h : Fr) (i j : Nat) (b : Value) : (h.put i b).get j = if i = j then some b else h.get j := Fr.get_cons i b h j

/-- Operands. -/
inductive X
  | t (n : Nat)
  | c (v : Value)
  | g (n : Nat)
  | f (n : Nat)

def X.ev (σ : Fr) (h : AHeap) : X → Option Value
  | .t n => σ.get n
  | .c v => some v
  | .g n => match h.get n with
    | some (.cells _ cs _) => some (.pointer (some ⟨n, 0, some cs.length⟩))
    | _ => none
  | .f n => some (.func (.func n) #[] #[])

inductive Leaf | int | bool | str | float
  deriving DecidableEq

inductive Rk | bool | ptr | slice | map | func | iface
  deriving DecidableEq

inductive AOp
  | mov (x : X)
  | pick (c a b : X)
  | alloc (ty : Nat) (zero : List Value)
  | box (ty : Nat) (x : X)
  | build (zero : List Value) (parts : List (Nat × Nat × X))
  | buildSlice (ty esz len : Nat) (zero : List Value) (parts : List (Nat × Nat × X))
  | load (m : Option Nat) (a : X)
  | store (m : Nat) (a x : X)
  | nilCheck (x : X)
  | bin (op : BinOp) (x y : X)
  | eqv (neg : Bool) (k : Rk) (lit : Bool) (x y : X)
  | eqAgg (neg : Bool) (ls : List Leaf) (x y : X)
  | un (op : UnOp) (x : X)
  | conv (k : IntKind) (x : X)
  | same (x : X)
  | bytesOf (ty : Nat) (x : X)
  | strOf (x : X)
  | sliceStr (x : X) (lo hi : Option X)
  | slice (esz : Nat) (x : X) (lo hi mx : Option X)
  | sliceArr (esz n : Nat) (x : X) (lo hi : Option X)
  | fieldAddr (off : Nat) (x : X)
  | field (off : Nat) (m : Option Nat) (x : X)
  | indexAddr (esz : Nat) (x i : X)
  | indexArr (esz n : Nat) (x i : X)
  | index (esz n : Nat) (m : Option Nat) (x i : X)
  | indexStr (x i : X)
  | extract (x : X) (i : Nat)
  | lenStr (x : X)
  | lenSlice (x : X)
  | lenConst (n : Nat)
  | append (ty esz bytes : Nat) (x y : X)
  | copy (esz : Nat) (x y : X)
  | min (xs : List X)
  | max (xs : List X)
  | makeFunc (fn : Nat) (first captured : List X)
  | makeIface (t : TypeId) (x : X)
  | makeSlice (ty esz bytes : Nat) (zero : List Value) (l c : X)
  | lookup (kstr commaOk : Bool) (zero : Value) (x i : X)
  | call (f : X) (args : List X)
  | fail
  | cap (x : X)
  | sliceData (x : X)
  | unsafeString (ty : Nat) (x l : X)
  | toUnsafe (x : X)
  | fromUnsafe (u s : Nat) (x : X)

structure AOper where
  dst : Option Nat
  op : AOp
  guard : Option (Nat × Bool)
  deps : List Nat

inductive ACode
  | skip
  | region (ops : List AOper) (pairs : Option (List (Nat × Nat)))
  | seq (a b : ACode)
  | cond (c : X) (thn els : ACode)
  | block (id : Nat) (body : ACode)
  | loop (body : ACode)
  | exit (id : Nat)
  | ret
  | fail

inductive ARes
  | tmp (t : Nat)
  | cell (t : Nat) (m : Option Nat)

structure AFunc where
  nparams : Nat
  ntmps : Nat
  results : List ARes
  body : ACode

/- WHAT AN OPERATION READS; which pairs of operations have no order. -/
def X.reads : X → List Nat
  | .t n => [n]
  | _ => []
def optReads : Option X → List Nat
  | none => []
  | some x => x.reads

def AOp.reads : AOp → List Nat
  | .mov x | .box _ x | .nilCheck x | .un _ x | .conv _ x | .same x | .bytesOf _ x | .strOf x | .fieldAddr _ x | .field _ _ x | .extract x _ | .lenStr x | .lenSlice x | .makeIface _ x | .load _ x | .cap x | .sliceData x | .toUnsafe x | .fromUnsafe _ _ x => x.reads
  | .pick c a b => c.reads ++ a.reads ++ b.reads
  | .alloc _ _ | .lenConst _ | .fail => []
  | .build _ ps | .buildSlice _ _ _ _ ps => ps.flatMap fun p => p.2.2.reads
  | .store _ a x | .bin _ a x | .eqv _ _ _ a x | .eqAgg _ _ a x | .indexAddr _ a x | .indexArr _ _ a x | .index _ _ _ a x | .indexStr a x | .append _ _ _ a x | .copy _ a x | .makeSlice _ _ _ _ a x | .unsafeString _ a x | .lookup _ _ _ a x => a.reads ++ x.reads
  | .sliceStr x lo hi | .sliceArr _ _ x lo hi => x.reads ++ optReads lo ++ optReads hi
  | .slice _ x lo hi mx => x.reads ++ optReads lo ++ optReads hi ++ optReads mx
  | .min xs | .max xs => xs.flatMap X.reads
  | .makeFunc _ a b => a.flatMap X.reads ++ b.flatMap X.reads
  | .call f xs => f.reads ++ xs.flatMap X.reads

def AOper.reads (o : AOper) : List Nat :=
  (match o.guard with | some (d, _) => [d] | none => []) ++ o.op.reads


/-- What must run ahead of operations, as bits. -/
def ancOf (acc : List Nat) : List Nat → Nat
  | [] => 0
  | d :: ds => 2 ^ d ||| (acc.getD d 0 ||| ancOf acc ds)
def ancTab : List AOper → List Nat → List Nat
  | [], acc => acc
  | o :: os, acc => ancTab os (acc ++ [ancOf acc o.deps])

/-- Two operations whose order is open do not meet in their slots. -/
def apartSlots (a b : AOper) : Bool :=
  (match a.dst with | some d => !b.reads.contains d && b.dst != some d | none => true) && (match b.dst with | some d => !a.reads.contains d | none => true)

/-- The pairs of operations whose order is open. -/
def openPairs (ops : List AOper) : List (Nat × Nat) :=
  (List.range ops.length).flatMap fun j => (List.range j).filterMap fun i => if ((ancTab ops []).getD j 0).testBit i then none else some (i, j)

def staticOk (ops : List AOper) : Bool :=
  (ops.zipIdx.all fun (o, j) => o.deps.all fun i => decide (i < j)) &&
  (openPairs ops).all fun (i, j) => match ops[i]?, ops[j]? with
    | some a, some b => apartSlots a b
    | _, _ => false

/- ------------------------------------------------------------ what the operations come to -/

def splice (cs : List Value) (o : Nat) (vs : List Value) : List Value := cs.take o ++ vs ++ cs.drop (o + vs.length)

def mapX (ρ : X → Option Value) : List X → Option (List Value)
  | [] => some []
  | x :: xs => match ρ x, mapX ρ xs with
    | some v, some vs => some (v :: vs)
    | _, _ => none

def aFill (ρ : X → Option Value) (cells : List Value) : List (Nat × Nat × X) → Option (List Value)
  | [] => some cells
  | (off, size, x) :: rest => match ρ x with
    | none => none
    | some v => if v.cells.size = size ∧ off + size ≤ cells.length ∧ isTuple v = false then aFill ρ (splice cells off v.cells.toList) rest else none

def repeatCells (zero : List Value) : Nat → List Value
  | 0 => []
  | n + 1 => zero ++ repeatCells zero n

/-- Some cells at a place that a generation tells. -/
def AHeap.read (h : AHeap) (i g o m : Nat) : Option (List Value) :=
  match h.get i with
  | some (.cells _ cs min) => if min ≤ g ∧ g ≤ cs.length ∧ o + m ≤ g then some ((cs.drop o).take m) else none
  | _ => none

/-- Some cells are written, at the block's own generation. -/
def AHeap.write (h : AHeap) (i g o : Nat) (vs : List Value) : Option AHeap :=
  match h.get i with
  | some (.cells (some t) cs _) => if g = cs.length ∧ o + vs.length ≤ g then some (h.put i (.cells (some t) (splice cs o vs) g)) else none
  | _ => none

def aIntOp (op : BinOp) (k : IntKind) (a b : Int) : Option Value :=
  match op with
  | .add => some (.int k (k.wrap (a + b)))
  | .sub => some (.int k (k.wrap (a - b)))
  | .mul => some (.int k (k.wrap (a * b)))
  | .quo => if b = 0 then none else some (.int k (k.wrap (a.tdiv b)))
  | .rem => if b = 0 then none else some (.int k (a.tmod b))
  | .and => some (.int k (k.wrap (BitVec.ofInt k.bits a &&& BitVec.ofInt k.bits b).toNat))
  | .or => some (.int k (k.wrap (BitVec.ofInt k.bits a ||| BitVec.ofInt k.bits b).toNat))
  | .xor => some (.int k (k.wrap (BitVec.ofInt k.bits a ^^^ BitVec.ofInt k.bits b).toNat))
  | .andNot => some (.int k (k.wrap (BitVec.ofInt k.bits a &&& ~~~(BitVec.ofInt k.bits b)).toNat))
  | .eql => some (.bool (a == b))
  | .neq => some (.bool (a != b))
  | .lss => some (.bool (decide (a < b)))
  | .leq => some (.bool (decide (a ≤ b)))
  | .gtr => some (.bool (decide (a > b)))
  | .geq => some (.bool (decide (a ≥ b)))
  | _ => none

def aShift (op : BinOp) (k : IntKind) (a b : Int) : Option Value :=
  if b < 0 then none else
  match op with
  | .shl => some (.int k (k.wrap (a * 2 ^ (Min.min b.toNat k.bits))))
  | .shr => some (.int k (a.fdiv (2 ^ (Min.min b.toNat k.bits))))
  | _ => none

def aStrOp (op : BinOp) (x y : ByteArray) : Option Value :=
  match op with
  | .add => if x.size + y.size < 9223372036854775808 then some (.string (x ++ y)) else none
  | .eql => some (.bool (x.toList == y.toList))
  | .neq => some (.bool (!(x.toList == y.toList)))
  | .lss => some (.bool (Op.bytesLess x.toList y.toList))
  | .leq => some (.bool (Op.bytesLess x.toList y.toList || x.toList == y.toList))
  | .gtr => some (.bool (!(Op.bytesLess x.toList y.toList || x.toList == y.toList)))
  | .geq => some (.bool (!(Op.bytesLess x.toList y.toList)))
  | _ => none

def aBin (op : BinOp) : Value → Value → Option Value
  | .int k a, .int k' b => match op with
    | .shl => aShift .shl k a b
    | .shr => aShift .shr k a b
    | _ => if k = k' then aIntOp op k a b else none
  | .string a, .string b => aStrOp op a b
  | _, _ => none

def aEqv (k : Rk) (lit : Bool) : Value → Value → Option Bool
  | .bool a, .bool b => if k = .bool then some (a == b) else none
  | .pointer a, .pointer none => if k = .ptr then some a.isNone else none
  | .pointer none, .pointer b => if k = .ptr then some b.isNone else none
  | .pointer (some a), .pointer (some b) => if k = .ptr ∧ a.block = b.block ∧ a.spot = b.spot then some (decide (a.off = b.off)) else none
  | .slice a _ _, .slice none _ _ => if k = .slice then some a.isNone else none
  | .slice none _ _, .slice b _ _ => if k = .slice then some b.isNone else none
  | .map a, .map none => if k = .map then some a.isNone else none
  | .map none, .map b => if k = .map then some b.isNone else none
  | .nilFunc, .nilFunc => if k = .func then some true else none
  | .nilFunc, .func _ _ _ => if k = .func then some false else none
  | .func _ _ _, .nilFunc => if k = .func then some false else none
  | .nilIface, .nilIface => if k = .iface ∧ lit then some true else none
  | .nilIface, .iface _ _ => if k = .iface then some false else none
  | .iface _ _, .nilIface => if k = .iface then some false else none
  | _, _ => none

def leafEq : Leaf → Value → Value → Option Bool
  | .int, .int k a, .int k' b => if k = k' then some (a == b) else none
  | .bool, .bool a, .bool b => some (a == b)
  | .str, .string a, .string b => some (a == b)
  | .float, .float k a, .float k' b => if k = k' then some (Op.floatEq k a b) else none
  | _, _, _ => none
def leavesEq : List Leaf → List Value → List Value → Option Bool
  | [], [], [] => some true
  | l :: ls, x :: xs, y :: ys => match leafEq l x y, leavesEq ls xs ys with
    | some a, some b => some (a && b)
    | _, _ => none
  | _, _, _ => none

def aUn (op : UnOp) : Value → Option Value
  | .int k n => match op with
    | .neg => some (.int k (k.wrap (0 - n)))
    | .xor => some (.int k (k.wrap (BitVec.ofInt k.bits (if k.signed then -1 else k.max) ^^^ BitVec.ofInt k.bits n).toNat))
    | _ => none
  | .bool b => match op with
    | .not => some (.bool !b)
    | _ => none
  | _ => none

def byteCells (s : ByteArray) : List Value := s.data.toList.map fun b => .int .u8 (b.toNat : Int)

/-- Bytes of cells. -/
def bytesOf? : List Value → Option (List UInt8)
  | [] => some []
  | .int .u8 n :: vs => if 0 ≤ n ∧ n < 256 then match bytesOf? vs with
      | some l => some (UInt8.ofNat n.toNat :: l)
      | none => none
    else none
  | _ :: _ => none

/-- A bound of a slice: from 0 to m. -/
def aBound (m : Nat) : Value → Option Nat
  | .int _ n => if 0 ≤ n ∧ n ≤ m then some n.toNat else none
  | _ => none
def optX (ρ : X → Option Value) : Option X → Option (Option Value)
  | none => some none
  | some x => (ρ x).map some
/-- Low and high bounds within len. -/
def aBounds (ρ : X → Option Value) (len : Nat) (lo hi : Option X) : Option (Nat × Nat) :=
  match (match hi with | none => some len | some x => (ρ x).bind (aBound len)) with
  | none => none
  | some h => match (match lo with | none => some 0 | some x => (ρ x).bind (aBound h)) with
    | none => none
    | some l => some (l, h)

def aPart (cs : Array Value) (off : Nat) : Option Nat → Option Value
  | none => cs[off]?
  | some m => some (.agg (cs.extract off (off + m)))

/-- How many elements, and their cells, an appended or copied value has. -/
def aElems (h : AHeap) (esz : Nat) : Value → Option (Nat × List Value)
  | .slice none _ _ => some (0, [])
  | .slice (some ⟨i, o, some g⟩) n _ => (h.read i g o (n * esz)).map fun vs => (n, vs)
  | .string s => if esz = 1 then some (s.size, byteCells s) else none
  | _ => none

def aAppend (h : AHeap) (n : Nat) (ty esz bytes : Nat) (s x : Value) : Option (Value × AHeap × Nat) :=
  match aElems h esz x with
  | none => none
  | some (m, vs) =>
    if m = 0 then (match s with
      | .slice none 0 0 => some (s, h, n)
      | .slice (some _) _ _ => some (s, h, n)
      | _ => none) else
    match s with
    | .slice none 0 0 =>
      if 2 * m * bytes ≤ 281474976710656 then some (.slice (some ⟨n, 0, some vs.length⟩) m (2 * esz), h.put n (.cells (some ty) vs vs.length), n + 1) else none
    | .slice (some ⟨i, o, some g⟩) len k =>
      if 2 * (len + m) * bytes ≤ 281474976710656 then
        if k % 2 = 1 then
          (if k / 2 < len + m then match h.read i g o (len * esz) with
            | some us => some (.slice (some ⟨n, 0, some (us ++ vs).length⟩) (len + m) (2 * esz), h.put n (.cells (some ty) (us ++ vs) (us ++ vs).length), n + 1)
            | none => none
          else none)
        else match h.get i with
          | some (.cells (some t) cs min) =>
            if t = ty ∧ k = 2 * esz ∧ o = 0 ∧ min ≤ g ∧ g = cs.length ∧ len * esz = g ∧ 0 < esz then
              some (.slice (some ⟨i, 0, some (cs ++ vs).length⟩) (len + m) (2 * esz), h.put i (.cells (some ty) (cs ++ vs) min), n)
            else none
          | _ => none
      else none
    | _ => none

def aCopy (h : AHeap) (n : Nat) (esz : Nat) (d x : Value) : Option (Value × AHeap × Nat) :=
  match aElems h esz x with
  | none => none
  | some (m, vs) => match d with
    | .slice none 0 0 => some (.int .i64 0, h, n)
    | .slice (some ⟨i, o, some g⟩) len _ =>
      if Min.min m len = 0 then some (.int .i64 0, h, n) else
      match h.write i g o (vs.take (Min.min m len * esz)) with
      | some h' => some (.int .i64 (Min.min m len : Nat), h', n)
      | none => none
    | _ => none

def aMinFrom (k : IntKind) : Int → List Value → Option Value
  | x, [] => some (.int k x)
  | x, .int k' y :: rest => if k = k' then aMinFrom k (if y < x then y else x) rest else none
  | _, _ :: _ => none
def aMin : List Value → Option Value
  | .int k x :: rest => aMinFrom k x rest
  | _ => none
def aMaxFrom (k : IntKind) : Int → List Value → Option Value
  | x, [] => some (.int k x)
  | x, .int k' y :: rest => if k = k' then aMaxFrom k (if y > x then y else x) rest else none
  | _, _ :: _ => none
def aMax : List Value → Option Value
  | .int k x :: rest => aMaxFrom k x rest
  | _ => none

def keyKind (kstr : Bool) : Value → Bool
  | .string _ => kstr
  | .int _ _ => !kstr
  | _ => false
def sameKey : Value → Value → Option Bool
  | .int k a, .int k' b => if k = k' then some (a == b) else none
  | .string a, .string b => some (a == b)
  | _, _ => none
def findEntry (k : Value) : List (Value × Value) → Option (Option Value)
  | [] => some none
  | (j, v) :: es => match sameKey k j with
    | some true => some (some v)
    | some false => findEntry k es
    | none => none

def aLookup (h : AHeap) (commaOk : Bool) (zero : Value) (m k : Value) : Option Value :=
  match m with
  | .map none => some (if commaOk then .tuple #[zero, .bool false] else zero)
  | .map (some r) => match h.get r with
    | some (.map es) => match findEntry k es with
      | some (some v) => some (if commaOk then .tuple #[v, .bool true] else v)
      | some none => some (if commaOk then .tuple #[zero, .bool false] else zero)
      | none => none
    | _ => none
  | _ => none

/-- An operation that is no call: its value, the memory behind it. -/
def aev (ρ : X → Option Value) (h : AHeap) (n : Nat) : AOp → Option (Value × AHeap × Nat)
  | .mov x => (ρ x).map fun v => (v, h, n)
  | .same x => match ρ x with
    | some (.string s) => some (.string s, h, n)
    | _ => none
  | .pick c a b => match ρ c with
    | some (.bool true) => (ρ a).map fun v => (v, h, n)
    | some (.bool false) => (ρ b).map fun v => (v, h, n)
    | _ => none
  | .alloc ty zero => some (.pointer (some ⟨n, 0, some zero.length⟩), h.put n (.cells (some ty) zero zero.length), n + 1)
  | .box ty x => match ρ x with
    | some v => if isTuple v then none else some (.pointer (some ⟨n, 0, some v.cells.toList.length⟩), h.put n (.cells (some ty) v.cells.toList v.cells.toList.length), n + 1)
    | none => none
  | .build zero parts => (aFill ρ zero parts).map fun cs => (.agg cs.toArray, h, n)
  | .buildSlice ty esz len zero parts => match aFill ρ (repeatCells zero len) parts with
    | some cs => if cs.length = len * esz ∧ 0 < esz then some (.slice (some ⟨n, 0, some cs.length⟩) len (2 * esz), h.put n (.cells (some ty) cs cs.length), n + 1) else none
    | none => none
  | .load m a => match ρ a with
    | some (.pointer (some ⟨i, o, some g⟩)) => match m with
      | none => match h.read i g o 1 with
        | some [v] => some (v, h, n)
        | _ => none
      | some m => (h.read i g o m).map fun vs => (.agg vs.toArray, h, n)
    | _ => none
  | .store m a x => match ρ a, ρ x with
    | some (.pointer (some ⟨i, o, some g⟩)), some v => if v.cells.size = m ∧ isTuple v = false then (h.write i g o v.cells.toList).map fun h' => (undef, h', n) else none
    | _, _ => none
  | .nilCheck x => match ρ x with
    | some (.pointer (some a)) => some (.pointer (some a), h, n)
    | some (.func (.func f) xs us) => some (.func (.func f) xs us, h, n)
    | _ => none
  | .bin op x y => match ρ x, ρ y with
    | some a, some b => (aBin op a b).map fun v => (v, h, n)
    | _, _ => none
  | .eqv neg k lit x y => match ρ x, ρ y with
    | some a, some b => (aEqv k lit a b).map fun v => (.bool (if neg then !v else v), h, n)
    | _, _ => none
  | .eqAgg neg ls x y => match ρ x, ρ y with
    | some (.agg a), some (.agg b) => (leavesEq ls a.toList b.toList).map fun v => (.bool (if neg then !v else v), h, n)
    | _, _ => none
  | .un op x => match ρ x with
    | some a => (aUn op a).map fun v => (v, h, n)
    | none => none
  | .conv k x => match ρ x with
    | some (.int _ m) => some (.int k (k.wrap m), h, n)
    | _ => none
  | .bytesOf ty x => match ρ x with
    | some (.string s) => some (.slice (some ⟨n, 0, some (byteCells s).length⟩) s.size 2, h.put n (.cells (some ty) (byteCells s) (byteCells s).length), n + 1)
    | _ => none
  | .strOf x => match ρ x with
    | some (.slice none 0 0) => some (.string ByteArray.empty, h, n)
    | some (.slice (some ⟨i, o, some g⟩) len _) => match h.read i g o len with
      | some vs => match bytesOf? vs with
        | some l => some (.string ⟨l.toArray⟩, h, n)
        | none => none
      | none => none
    | _ => none
  | .sliceStr x lo hi => match ρ x with
    | some (.string s) => match aBounds ρ s.size lo hi with
      | some (l, u) => some (.string (s.extract l u), h, n)
      | none => none
    | _ => none
  | .slice esz x lo hi mx => match ρ x with
    | some (.slice none 0 0) => match aBounds ρ 0 lo hi with
      | some _ => (match mx with | none => some (.slice none 0 0, h, n) | some _ => none)
      | none => none
    | some (.slice (some ⟨i, o, some g⟩) len k) => match mx with
      | none => match aBounds ρ len lo hi with
        | some (l, u) => some (.slice (some ⟨i, o + l * esz, some g⟩) (u - l) (if k % 2 = 1 then k - 2 * l else if k = 2 * esz then k else 0), h, n)
        | none => none
      | some mx => match (ρ mx).bind (aBound len) with
        | some m => match aBounds ρ m lo hi, hi with
          | some (l, u), some _ => some (.slice (some ⟨i, o + l * esz, some g⟩) (u - l) (2 * (m - l) + 1), h, n)
          | _, _ => none
        | none => none
    | _ => none
  | .sliceArr esz len x lo hi => match ρ x with
    | some (.pointer (some ⟨i, o, some g⟩)) => match aBounds ρ len lo hi with
      | some (l, u) => some (.slice (some ⟨i, o + l * esz, some g⟩) (u - l) (2 * (len - l) + 1), h, n)
      | none => none
    | _ => none
  | .fieldAddr off x => match ρ x with
    | some (.pointer (some ⟨i, o, some g⟩)) => some (.pointer (some ⟨i, o + off, some g⟩), h, n)
    | _ => none
  | .field off m x => match ρ x with
    | some (.agg cs) => (aPart cs off m).map fun v => (v, h, n)
    | _ => none
  | .indexAddr esz x i => match ρ x, ρ i with
    | some (.slice (some ⟨b, o, some g⟩) len _), some (.int _ ix) => if 0 ≤ ix ∧ ix < len then some (.pointer (some ⟨b, o + ix.toNat * esz, some g⟩), h, n) else none
    | _, _ => none
  | .indexArr esz len x i => match ρ x, ρ i with
    | some (.pointer (some ⟨b, o, some g⟩)), some (.int _ ix) => if 0 ≤ ix ∧ ix < len then some (.pointer (some ⟨b, o + ix.toNat * esz, some g⟩), h, n) else none
    | _, _ => none
  | .index esz len m x i => match ρ x, ρ i with
    | some (.agg cs), some (.int _ ix) => if 0 ≤ ix ∧ ix < len then (aPart cs (ix.toNat * esz) m).map fun v => (v, h, n) else none
    | _, _ => none
  | .indexStr x i => match ρ x, ρ i with
    | some (.string s), some (.int _ ix) => if 0 ≤ ix ∧ ix < s.size then (s[ix.toNat]?).map fun b => (.int .u8 (b.toNat : Int), h, n) else none
    | _, _ => none
  | .extract x i => match ρ x with
    | some (.tuple vs) => (vs[i]?).map fun v => (v, h, n)
    | _ => none
  | .lenStr x => match ρ x with
    | some (.string s) => some (.int .i64 (s.size : Int), h, n)
    | _ => none
  | .lenSlice x => match ρ x with
    | some (.slice _ len _) => some (.int .i64 (len : Int), h, n)
    | _ => none
  | .lenConst m => some (.int .i64 (m : Int), h, n)
  | .append ty esz bytes x y => match ρ x, ρ y with
    | some s, some v => aAppend h n ty esz bytes s v
    | _, _ => none
  | .copy esz x y => match ρ x, ρ y with
    | some d, some v => aCopy h n esz d v
    | _, _ => none
  | .min xs => match mapX ρ xs with
    | some vs => (aMin vs).map fun v => (v, h, n)
    | none => none
  | .max xs => match mapX ρ xs with
    | some vs => (aMax vs).map fun v => (v, h, n)
    | none => none
  | .makeFunc fn first captured => match mapX ρ first, mapX ρ captured with
    | some xs, some us => some (.func (.func fn) xs.toArray us.toArray, h, n)
    | _, _ => none
  | .makeIface t x => (ρ x).map fun v => (.iface t v, h, n)
  | .makeSlice ty esz bytes zero l c => match ρ l, ρ c with
    | some (.int _ l), some (.int _ c) => if 0 ≤ l ∧ l ≤ c ∧ bytes * c ≤ 281474976710656 ∧ c < 9223372036854775808 ∧ 0 < esz ∧ zero.length = esz then
        some (.slice (some ⟨n, 0, some (repeatCells zero l.toNat).length⟩) l.toNat (2 * esz), h.put n (.cells (some ty) (repeatCells zero l.toNat) (repeatCells zero l.toNat).length), n + 1)
      else none
    | _, _ => none
  | .lookup kstr commaOk zero x i => match ρ x, ρ i with
    | some m, some k => if keyKind kstr k then (aLookup h commaOk zero m k).map fun v => (v, h, n) else none
    | _, _ => none
  | .call _ _ => none
  | .fail => none
  | .cap x => match ρ x with
    | some (.slice none 0 0) => some (.int .i64 0, h, n)
    | some (.slice (some _) _ k) => if k % 2 = 1 then some (.int .i64 ((k / 2 : Nat) : Int), h, n) else none
    | _ => none
  | .sliceData x => match ρ x with
    | some (.slice none 0 0) => some (.pointer none, h, n)
    | some (.slice (some a) len _) => if 0 < len then some (.pointer (some a), h, n) else none
    | _ => none
  | .unsafeString ty x l => match ρ x, ρ l with
    | some (.pointer none), some (.int _ 0) => some (.string ByteArray.empty, h, n)
    | some (.pointer (some ⟨i, o, some g⟩)), some (.int _ m) => match h.get i with
      | some (.cells (some t) cs min) => if t = ty ∧ 0 < m ∧ m < 9223372036854775808 then match h.read i g o m.toNat with
        | some vs => match bytesOf? vs with
          | some l => some (.string ⟨l.toArray⟩, h.put i (.cells none cs min), n)
          | none => none
        | none => none
        else none
      | _ => none
    | _, _ => none
  | .toUnsafe x => match ρ x with
    | some (.pointer none) => some (.pointer none, h, n)
    | some (.pointer (some ⟨i, o, some g⟩)) => match h.read i g o 1 with
      | some _ => some (.pointer (some ⟨i, o, some g⟩), h, n)
      | none => none
    | _ => none
  | .fromUnsafe u s x => match ρ x with
    | some (.pointer none) => some (.pointer none, h, n)
    | some (.pointer (some ⟨i, o, some g⟩)) => match h.get i with
      | some (.cells (some t) _ min) => if t = u ∧ min ≤ g ∧ o % s = 0 ∧ 0 < s ∧ o + s ≤ g then some (.pointer (some ⟨i, o, some g⟩), h, n) else none
      | _ => none
    | _ => none

end
end Go.Proofs.YtkaibjdogeikbaaDoor.Am
