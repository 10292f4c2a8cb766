/- The abstract memory and its operations, part A4: what a run of the model does is bounded by what an abstract machine does. -/
import Derived.Test.YtkaibjdogeikbaaDoorA3
import GoSem.Dispatch
namespace Go.Proofs.YtkaibjdogeikbaaDoor.Am
noncomputable section

def cX : Operand → Option X
  | .tmp t => some (.t t)
  | .const v => if flat v then some (.c v) else none
  | .global g => if g < 4096 then some (.g g) else none
  | .func f => some (.f f)
def cXs : List Operand → Option (List X)
  | [] => some []
  | x :: xs => match cX x, cXs xs with
    | some a, some b => some (a :: b)
    | _, _ => none
def cOpt : Option Operand → Option (Option X)
  | none => some none
  | some x => (cX x).map some

def sz (P : Program) (t : TypeId) : Option Nat := (P.info? t).map (·.size)
def isAggD : TypeDesc → Bool
  | .struct _ | .array _ _ => true
  | _ => false
/-- The size of an aggregate; none: one cell. -/
def aggSize (P : Program) (t : TypeId) : Option (Option Nat) :=
  match P.underlying t, P.info? t with
  | some d, some i => if isAggD d then some (some i.size) else some none
  | _, _ => none
/-- The zero value's cells: as many as the type has. -/
def zeroCells? (P : Program) (t : TypeId) : Option (List Value) :=
  match P.info? t with
  | some i => match i.zero with
    | some v => if v.cells.toList.all scalar && v.cells.size == i.size then some v.cells.toList else none
    | none => none
  | none => none

def cParts (place : Nat → Option (Nat × Nat)) : List (Nat × Operand) → Option (List (Nat × Nat × X))
  | [] => some []
  | (i, x) :: rest => match place i, cX x, cParts place rest with
    | some (off, size), some y, some r => some ((off, size, y) :: r)
    | _, _, _ => none

def structPlace (P : Program) (fs : Array Field) (i : Nat) : Option (Nat × Nat) :=
  match fs[i]? with
  | some f => match sz P f.type with
    | some s => some (f.offset, s)
    | none => none
  | none => none

mutual
/-- The leaves of a type that may be compared cell by cell. -/
def leaves (P : Program) : Nat → TypeId → Option (List Leaf)
  | 0, _ => none
  | d + 1, t => match P.underlying t with
    | some .bool => some [.bool]
    | some (.int _) => some [.int]
    | some .string => some [.str]
    | some (.float _) => some [.float]
    | some (.array n e) => match leaves P d e, sz P e with
      | some l, some s => if l.length = s then some (List.replicate n l).flatten else none
      | _, _ => none
    | some (.struct fs) => if P.stoodInHeld t then none else fieldLeaves P d 0 fs.toList
    | _ => none
def fieldLeaves (P : Program) : Nat → Nat → List Field → Option (List Leaf)
  | 0, _, _ => none
  | _ + 1, _, [] => some []
  | d + 1, off, f :: fs => if f.name = "_" ∨ f.offset ≠ off then none else
    match leaves P d f.type, sz P f.type, fieldLeaves P d (off + (sz P f.type).getD 0) fs with
    | some l, some s, some r => if l.length = s then some (l ++ r) else none
    | _, _, _ => none
end

def cBuiltin (P : Program) (b : Builtin) (ts : Array TypeId) (args : List X) : Option AOp :=
  match b, args with
  | .len, [x] => match P.underlying (ts.getD 0 0), ts.size with
    | some .string, 1 => some (.lenStr x)
    | some (.slice _), 1 => some (.lenSlice x)
    | some (.array n _), 1 => some (.lenConst n)
    | some (.pointer a), 1 => match P.underlying a with
      | some (.array n _) => some (.lenConst n)
      | _ => none
    | _, _ => none
  | .append, [x, y] => match P.underlying (ts.getD 0 0), P.underlying (ts.getD 1 0), ts.size with
    | some (.slice e), some d, 2 => match d with
      | .int _ => none
      | _ => match P.info? e, zeroCells? P e with
        | some i, some _ => if 0 < i.size ∧ 0 < i.bytes then some (.append e i.size i.bytes x y) else none
        | _, _ => none
    | _, _, _ => none
  | .copy, [x, y] => match P.underlying (ts.getD 0 0), ts.size with
    | some (.slice e), 2 => match sz P e with
      | some s => if 0 < s then some (.copy s x y) else none
      | none => none
    | _, _ => none
  | .min, xs => some (.min xs)
  | .max, xs => some (.max xs)
  | .cap, [x] => match P.underlying (ts.getD 0 0), ts.size with
    | some (.slice _), 1 => some (.cap x)
    | _, _ => none
  | .unsafeSliceData, [x] => some (.sliceData x)
  | .unsafeString, [x, l] => match P.underlying (ts.getD 0 0) with
    | some (.pointer e) => if sz P e = some 1 ∧ 0 < ts.size ∧ 0 < P.depth then some (.unsafeString e x l) else none
    | _ => none
  | _, _ => none

def isConst : Operand → Bool
  | .const _ => true
  | _ => false

def cBin (P : Program) (op : BinOp) (t : TypeId) (x y : Operand) : Option AOp :=
  match cX x, cX y, P.underlying t with
  | some a, some b, some d => match d with
    | .int _ => some (.bin op a b)
    | .string => some (.bin op a b)
    | .bool => if op = .eql then some (.eqv false .bool false a b) else if op = .neq then some (.eqv true .bool false a b) else none
    | .pointer e => if sz P e ≠ some 0 ∧ (sz P e).isSome then (if op = .eql then some (.eqv false .ptr false a b) else if op = .neq then some (.eqv true .ptr false a b) else none) else none
    | .slice _ => if op = .eql then some (.eqv false .slice false a b) else if op = .neq then some (.eqv true .slice false a b) else none
    | .map _ _ => if op = .eql then some (.eqv false .map false a b) else if op = .neq then some (.eqv true .map false a b) else none
    | .func _ _ _ => if op = .eql then some (.eqv false .func false a b) else if op = .neq then some (.eqv true .func false a b) else none
    | .interface _ => if op = .eql then some (.eqv false .iface (isConst x || isConst y) a b) else if op = .neq then some (.eqv true .iface (isConst x || isConst y) a b) else none
    | .struct _ | .array _ _ => if P.eqGuardType P.depth t then none else match leaves P 40 t with
      | some ls => if op = .eql then some (.eqAgg false ls a b) else if op = .neq then some (.eqAgg true ls a b) else none
      | none => none
    | _ => none
  | _, _, _ => none

def cConv (P : Program) (src dst : TypeId) (x : X) : Option AOp :=
  match P.underlying src, P.underlying dst with
  | some (.int _), some (.int k) => some (.conv k x)
  | some .string, some .string => some (.same x)
  | some .string, some (.slice e) => match P.underlying e, zeroCells? P e with
    | some (.int .u8), some [_] => some (.bytesOf e x)
    | _, _ => none
  | some (.slice e), some .string => match P.underlying e with
    | some (.int .u8) => some (.strOf x)
    | _ => none
  | some (.pointer t), some .unsafePointer => match sz P t with
    | some s => if 0 < s then some (.toUnsafe x) else none
    | none => none
  | some .unsafePointer, some (.pointer u) => match sz P u with
    | some s => if 0 < P.depth then some (.fromUnsafe u s x) else none
    | none => none
  | _, _ => none

def cOp (P : Program) (op : Op) : Option AOp :=
  match op with
  | .move x | .assign x => (cX x).map .mov
  | .pick c a b => match cX c, cX a, cX b with
    | some c, some a, some b => some (.pick c a b)
    | _, _, _ => none
  | .alloc e => (zeroCells? P e).map (.alloc e)
  | .box e x => (cX x).map (.box e)
  | .build t parts => match P.underlying t, zeroCells? P t with
    | some (.struct fs), some z => if fs.all (fun f => (sz P f.type).isSome) then (cParts (structPlace P fs) parts.toList).map (.build z) else none
    | some (.array _ e), some z => match sz P e with
      | some s => (cParts (fun i => some (i * s, s)) parts.toList).map (.build z)
      | none => none
    | _, _ => none
  | .buildSlice t len parts => match P.underlying t with
    | some (.slice e) => match sz P e, zeroCells? P e with
      | some s, some z => if len * s ≤ 16777216 ∧ 0 < s then (cParts (fun i => some (i * s, s)) parts.toList).map (.buildSlice e s len z) else none
      | _, _ => none
    | _ => none
  | .load t a => match aggSize P t, cX a with
    | some m, some a => some (.load m a)
    | _, _ => none
  | .store t a x => match sz P t, cX a, cX x with
    | some m, some a, some x => some (.store m a x)
    | _, _, _ => none
  | .nilCheck x => (cX x).map .nilCheck
  | .binOp op t x y _ => cBin P op t x y
  | .unOp op _ x => (cX x).map (.un op)
  | .convert src dst x => (cX x).bind (cConv P src dst)
  | .makeInterface t x => match P.underlying t with
    | some (.interface _) => none
    | some _ => (cX x).map (.makeIface t)
    | none => none
  | .makeFunc (.func f) first captured => match cXs first.toList, cXs captured.toList with
    | some a, some b => some (.makeFunc f a b)
    | _, _ => none
  | .makeSlice t l c => match P.underlying t with
    | some (.slice e) => match P.info? e, zeroCells? P e, cX l, cX c with
      | some i, some z, some l, some c => if 0 < i.size ∧ 0 < i.bytes then some (.makeSlice e i.size i.bytes z l c) else none
      | _, _, _, _ => none
    | _ => none
  | .slice t x lo hi mx => match P.underlying t, cX x, cOpt lo, cOpt hi, cOpt mx with
    | some (.array n e), some x, some lo, some hi, some none => match sz P e with
      | some s => some (.sliceArr s n x lo hi)
      | none => none
    | some .string, some x, some lo, some hi, some none => some (.sliceStr x lo hi)
    | some (.slice e), some x, some lo, some hi, some mx => match sz P e with
      | some s => if 0 < s then some (.slice s x lo hi mx) else none
      | none => none
    | _, _, _, _, _ => none
  | .fieldAddr s x f => match P.underlying s, cX x with
    | some (.struct fs), some x => match fs[f]? with
      | some fd => match sz P fd.type with
        | some (_ + 1) => some (.fieldAddr fd.offset x)
        | _ => none
      | none => none
    | _, _ => none
  | .field t x f => match P.underlying t, cX x with
    | some (.struct fs), some x => match fs[f]? with
      | some fd => (aggSize P fd.type).map fun m => .field fd.offset m x
      | none => none
    | _, _ => none
  | .indexAddr t x i => match P.underlying t, cX x, cX i with
    | some (.array n e), some x, some i => match sz P e with
      | some s => some (.indexArr s n x i)
      | none => none
    | some (.slice e), some x, some i => (sz P e).map fun s => .indexAddr s x i
    | _, _, _ => none
  | .index t x i => match P.underlying t, cX x, cX i with
    | some (.array n e), some x, some i => match sz P e, aggSize P e with
      | some s, some m => some (.index s n m x i)
      | _, _ => none
    | some .string, some x, some i => some (.indexStr x i)
    | _, _, _ => none
  | .lookup t x i ok => match P.underlying t, cX x, cX i with
    | some (.map k e), some x, some i => match P.underlying k, P.info? e with
      | some (.int _), some info => match info.zero with
        | some z => if flat z then some (.lookup false ok z x i) else none
        | none => none
      | some .string, some info => match info.zero with
        | some z => if flat z then some (.lookup true ok z x i) else none
        | none => none
      | _, _ => none
    | _, _, _ => none
  | .extract x i => (cX x).map fun x => .extract x i
  | .panic _ => some .fail
  | .call c => match c.callee, cXs c.args.toList with
    | .builtin b, some args => cBuiltin P b c.argTypes args
    | .value f, some args => (cX f).map fun f => .call f args
    | _, _ => none
  | _ => none

def cDeps (es : List Edge) : List Nat := es.filterMap fun e => if Region.binds .any e then some e.on else none

def dstOk (ntmps : Nat) : Option Tmp → Bool
  | some d => decide (d < ntmps)
  | none => true
def cOper (P : Program) (ntmps : Nat) (draw : Bool) (ops : Array Oper) (o : Oper) : Option AOper :=
  match cOp P o.op, (match o.guard with
    | none => some none
    | some (j, b) => match (ops[j]?).bind (·.dst) with
      | some d => some (some (d, b))
      | none => none : Option (Option (Nat × Bool))) with
  | some a, some g => if dstOk ntmps o.dst then some ⟨o.dst, a, g, if draw then cDeps o.after.toList else []⟩ else none
  | _, _ => none

def cOpers (P : Program) (ntmps : Nat) (draw : Bool) (ops : Array Oper) : List Oper → Option (List AOper)
  | [] => some []
  | o :: os => match cOper P ntmps draw ops o, cOpers P ntmps draw ops os with
    | some a, some b => some (a :: b)
    | _, _ => none

def cCode (P : Program) (ntmps : Nat) : Code → Option ACode
  | .skip => some .skip
  | .region _ ops draw => match cOpers P ntmps draw ops ops.toList with
    | some l => if draw then (if staticOk l then some (.region l (some (openPairs l))) else none) else some (.region l none)
    | none => none
  | .seq a b => match cCode P ntmps a, cCode P ntmps b with
    | some x, some y => some (.seq x y)
    | _, _ => none
  | .cond c a b => match cX c, cCode P ntmps a, cCode P ntmps b with
    | some c, some x, some y => some (.cond c x y)
    | _, _, _ => none
  | .block id b => (cCode P ntmps b).map (.block id)
  | .loop b => (cCode P ntmps b).map .loop
  | .exit id => some (.exit id)
  | .ret => some .ret
  | .refuse _ => some .fail
  | _ => none

def cRes (P : Program) : List ResultVar → Option (List ARes)
  | [] => some []
  | .tmp t :: rs => (cRes P rs).map (.tmp t :: ·)
  | .cell t ty :: rs => match aggSize P ty, cRes P rs with
    | some m, some r => some (.cell t m :: r)
    | _, _ => none

def cFunc (P : Program) (fn : Func) : Option AFunc :=
  match fn.body with
  | none => none
  | some c => match cCode P fn.ntmps c, cRes P fn.results.toList with
    | some b, some r => some ⟨fn.params.size + fn.nfree, fn.ntmps, r, b⟩
    | _, _ => none

end
end Go.Proofs.YtkaibjdogeikbaaDoor.Am
