/- The abstract memory and its operations, part A1: what a run of the model does is bounded by what an abstract machine does. -/
import Derived.Below
import Derived.Orders
import Derived.KernelRfl
namespace Go.Proofs.YtkaibjdogeikbaaDoor.Am
noncomputable section
open Go.RowKit (Below)

/-- Where an abstract block's generation lies. -/
structure Loc where
  block : Nat
  off : Nat
  own : Bool
  size : Nat
  ty : Nat

abbrev Phi := Nat → Nat → Option Loc

def Phi.Le (φ ψ : Phi) : Prop := ∀ i g l, φ i g = some l → ψ i g = some l

theorem Phi.Le.refl (φ : Phi) : Phi.Le φ φ := fun _ _ _ h => h
theorem Phi.Le.trans {a b c : Phi} (h : Phi.Le a b) (k : Phi.Le b c) : Phi.Le a c := fun _ _ _ x => k _ _ _ (h _ _ _ x)

/-- An abstract value and a value of the machine. -/
inductive VRel (φ : Phi) : Value → Value → Prop
  | bool (b : Bool) : VRel φ (.bool b) (.bool b)
  | int (k : IntKind) (n : Int) : VRel φ (.int k n) (.int k n)
  | float (k : FloatKind) (b : Nat) : VRel φ (.float k b) (.float k b)
  | string (s : ByteArray) : VRel φ (.string s) (.string s)
  | ptrNil : VRel φ (.pointer none) (.pointer none)
  | ptr (i o g : Nat) (l : Loc) (h : φ i g = some l) : VRel φ (.pointer (some ⟨i, o, some g⟩)) (.pointer (some ⟨l.block, l.off + o, none⟩))
  | sliceNil : VRel φ (.slice none 0 0) (.slice none 0 0)
  | slice (i o g n k : Nat) (l : Loc) (a : Addr) (c : Nat) (h : φ i g = some l) (hn : n ≤ c) (ha : c = 0 ∨ a = ⟨l.block, l.off + o, none⟩)
      (hk : k = 0 ∨ k = 2 * c + 1 ∨ ∃ e, k = 2 * e ∧ l.own = true ∧ o + c * e ≤ l.size) :
      VRel φ (.slice (some ⟨i, o, some g⟩) n k) (.slice (some a) n c)
  | mapNil : VRel φ (.map none) (.map none)
  | map (i : Nat) (l : Loc) (h : φ i 0 = some l) : VRel φ (.map (some i)) (.map (some l.block))
  | nilFunc : VRel φ .nilFunc .nilFunc
  | func (fn : Fn) (xs ys us vs : Array Value) (h : xs.size = ys.size) (hr : ∀ i (hi : i < xs.size) (hj : i < ys.size), VRel φ xs[i] ys[i])
      (k : us.size = vs.size) (kr : ∀ i (hi : i < us.size) (hj : i < vs.size), VRel φ us[i] vs[i]) : VRel φ (.func fn xs us) (.func fn ys vs)
  | nilIface : VRel φ .nilIface .nilIface
  | iface (t : TypeId) (v u : Value) (h : VRel φ v u) : VRel φ (.iface t v) (.iface t u)
  | agg (xs ys : Array Value) (h : xs.size = ys.size) (ho : xs.toList.all Value.oneCell' = true) (hr : ∀ i (hi : i < xs.size) (hj : i < ys.size), VRel φ xs[i] ys[i]) : VRel φ (.agg xs) (.agg ys)
  | tuple (xs ys : Array Value) (h : xs.size = ys.size) (hr : ∀ i (hi : i < xs.size) (hj : i < ys.size), VRel φ xs[i] ys[i]) : VRel φ (.tuple xs) (.tuple ys)

theorem VRel.mono {φ ψ : Phi} (h : Phi.Le φ ψ) {v u : Value} (r : VRel φ v u) : VRel ψ v u := by
  induction r with
  | bool b => exact .bool b
  | int k n => exact .int k n
  | float k b => exact .float k b
  | string s => exact .string s
  | ptrNil => exact .ptrNil
  | ptr i o g l hl => exact .ptr i o g l (h _ _ _ hl)
  | sliceNil => exact .sliceNil
  | slice i o g n k l a c hl hn ha hk => exact .slice i o g n k l a c (h _ _ _ hl) hn ha hk
  | mapNil => exact .mapNil
  | map i l hl => exact .map i l (h _ _ _ hl)
  | nilFunc => exact .nilFunc
  | func fn xs ys us vs e hr k kr ih1 ih2 => exact .func fn xs ys us vs e ih1 k ih2
  | nilIface => exact .nilIface
  | iface t v u hv ih => exact .iface t v u ih
  | agg xs ys e ho hr ih => exact .agg xs ys e ho ih
  | tuple xs ys e hr ih => exact .tuple xs ys e ih

/-- Lists of values, one by one. -/
inductive VRels (φ : Phi) : List Value → List Value → Prop
  | nil : VRels φ [] []
  | cons {x y : Value} {xs ys : List Value} (h : VRel φ x y) (t : VRels φ xs ys) : VRels φ (x :: xs) (y :: ys)

namespace VRels
variable {φ ψ : Phi}
theorem mono (h : Phi.Le φ ψ) {xs ys : List Value} (r : VRels φ xs ys) : VRels ψ xs ys := by
  induction r with
  | nil => exact .nil
  | cons hx _ ih => exact .cons (hx.mono h) ih
theorem length {xs ys : List Value} (r : VRels φ xs ys) : xs.length = ys.length := by
  induction r with
  | nil => rfl
  | cons _ _ ih => simp [ih]
theorem get {xs ys : List Value} (r : VRels φ xs ys) {i : Nat} {v : Value} (h : xs[i]? = some v) : ∃ u, ys[i]? = some u ∧ VRel φ v u := by
  induction r generalizing i with
  | nil => simp at h
  | cons hx _ ih =>
    cases i with
    | zero => simp at h; subst h; exact ⟨_, by simp, hx⟩
    | succ i => simp at h; obtain ⟨u, hu, hr⟩ := ih h; exact ⟨u, by simpa using hu, hr⟩
theorem append {xs ys us vs : List Value} (r : VRels φ xs ys) (s : VRels φ us vs) : VRels φ (xs ++ us) (ys ++ vs) := by
  induction r with
  | nil => exact s
  | cons hx _ ih => exact .cons hx ih
theorem take {xs ys : List Value} (r : VRels φ xs ys) (n : Nat) : VRels φ (xs.take n) (ys.take n) := by
  induction r generalizing n with
  | nil => simp; exact .nil
  | cons hx _ ih => cases n with
    | zero => simp; exact .nil
    | succ n => simp; exact .cons hx (ih n)
theorem drop {xs ys : List Value} (r : VRels φ xs ys) (n : Nat) : VRels φ (xs.drop n) (ys.drop n) := by
  induction r generalizing n with
  | nil => simp; exact .nil
  | cons hx t ih => cases n with
    | zero => simp; exact .cons hx t
    | succ n => simp; exact ih n
theorem of_get {xs ys : List Value} (e : xs.length = ys.length) (h : ∀ i (hi : i < xs.length) (hj : i < ys.length), VRel φ xs[i] ys[i]) : VRels φ xs ys := by
  induction xs generalizing ys with
  | nil => cases ys with
    | nil => exact .nil
    | cons y ys => simp at e
  | cons x xs ih => cases ys with
    | nil => simp at e
    | cons y ys =>
      simp at e
      refine .cons (h 0 (by simp) (by simp)) (ih e fun i hi hj => ?_)
      exact h (i + 1) (by simp; omega) (by simp; omega)
theorem get' {xs ys : List Value} (r : VRels φ xs ys) (i : Nat) (hi : i < xs.length) (hj : i < ys.length) : VRel φ xs[i] ys[i] := by
  obtain ⟨u, hu, hr⟩ := r.get (i := i) (v := xs[i]) (by simp)
  have : ys[i] = u := by simpa [List.getElem?_eq_getElem hj] using hu
  rw [this]; exact hr
end VRels

/-- Arrays of values, one by one. -/
theorem VRels.of_arrays {φ : Phi} {xs ys : Array Value} (e : xs.size = ys.size) (h : ∀ i (hi : i < xs.size) (hj : i < ys.size), VRel φ xs[i] ys[i]) :
    VRels φ xs.toList ys.toList :=
  .of_get (by simpa using e) fun i hi hj => by simpa using h i (by simpa using hi) (by simpa using hj)

theorem VRels.agg {φ : Phi} {xs ys : Array Value} (r : VRels φ xs.toList ys.toList) (ho : xs.toList.all Value.oneCell' = true) : VRel φ (.agg xs) (.agg ys) :=
  .agg xs ys (by simpa using r.length) ho fun i hi hj => r.get' i (by simpa using hi) (by simpa using hj)
theorem VRels.tuple {φ : Phi} {xs ys : Array Value} (r : VRels φ xs.toList ys.toList) : VRel φ (.tuple xs) (.tuple ys) :=
  .tuple xs ys (by simpa using r.length) fun i hi hj => r.get' i (by simpa using hi) (by simpa using hj)
theorem VRels.func {φ : Phi} {fn : Fn} {xs ys us vs : Array Value} (r : VRels φ xs.toList ys.toList) (s : VRels φ us.toList vs.toList) :
    VRel φ (.func fn xs us) (.func fn ys vs) :=
  .func fn xs ys us vs (by simpa using r.length) (fun i hi hj => r.get' i (by simpa using hi) (by simpa using hj))
    (by simpa using s.length) fun i hi hj => s.get' i (by simpa using hi) (by simpa using hj)

/-- The cells of a value. -/
theorem VRel.cells {φ : Phi} {v u : Value} (r : VRel φ v u) : VRels φ v.cells.toList u.cells.toList := by
  cases r with
  | agg xs ys e ho h => exact .of_arrays e h
  | _ => all_goals (simp only [Value.cells]; exact .cons (by constructor <;> assumption) .nil)

theorem VRel.oneCell {φ : Phi} {v u : Value} (r : VRel φ v u) : u.oneCell' = v.oneCell' := by cases r <;> rfl

/-- Values in which no address stands: they are their own. -/
def scalar : Value → Bool
  | .bool _ | .int _ _ | .float _ _ | .string _ | .pointer none | .slice none 0 0 | .map none | .nilFunc | .nilIface => true
  | .func _ xs us => xs.isEmpty && us.isEmpty
  | _ => false
def flat : Value → Bool
  | .agg xs => xs.toList.all scalar
  | v => scalar v

theorem VRel.of_scalar {φ : Phi} {v : Value} (h : scalar v = true) : VRel φ v v := by
  unfold scalar at h
  split at h
  · exact .bool _
  · exact .int _ _
  · exact .float _ _
  · exact .string _
  · exact .ptrNil
  · exact .sliceNil
  · exact .mapNil
  · exact .nilFunc
  · exact .nilIface
  · rename_i fn xs us
    simp at h
    obtain ⟨rfl, rfl⟩ := h
    exact VRels.func .nil .nil
  · simp at h

theorem VRels.of_scalars {φ : Phi} {vs : List Value} (h : vs.all scalar = true) : VRels φ vs vs := by
  induction vs with
  | nil => exact .nil
  | cons v vs ih => simp at h; exact .cons (.of_scalar h.1) (ih (by simpa using h.2))

theorem oneCell_of_scalar {v : Value} (h : scalar v = true) : v.oneCell' = true := by
  cases v <;> first | rfl | (simp [scalar] at h; done)
theorem oneCells_of_scalars {vs : List Value} (h : vs.all scalar = true) : vs.all Value.oneCell' = true := by
  simp only [List.all_eq_true] at h ⊢
  exact fun v hv => oneCell_of_scalar (h v hv)
/-- A value's cells are cells, but a tuple's. -/
def isTuple : Value → Bool
  | .tuple _ => true
  | _ => false
theorem VRel.oneCells {φ : Phi} {v u : Value} (r : VRel φ v u) (h : isTuple v = false) : v.cells.toList.all Value.oneCell' = true := by
  cases r with
  | agg xs ys e ho hr => exact ho
  | tuple => simp [isTuple] at h
  | _ => all_goals rfl

theorem VRel.of_flat {φ : Phi} {v : Value} (h : flat v = true) : VRel φ v v := by
  unfold flat at h
  split at h
  · exact VRels.agg (.of_scalars h) (oneCells_of_scalars h)
  · exact .of_scalar h

/-- A related value of a scalar is itself. -/
theorem VRel.eq_of_scalar {φ : Phi} {v u : Value} (r : VRel φ v u) (h : scalar v = true) : u = v := by
  cases r <;> simp [scalar] at h <;> try rfl
  rename_i fn xs ys us vs e hr k kr
  obtain ⟨rfl, rfl⟩ := h
  simp at e k
  have h1 : ys = #[] := by simpa using e.symm
  have h2 : vs = #[] := by simpa using k.symm
  rw [h1, h2]
theorem VRels.eq_of_scalars {φ : Phi} {vs us : List Value} (r : VRels φ vs us) (h : vs.all scalar = true) : us = vs := by
  induction r with
  | nil => rfl
  | cons hx _ ih => simp at h; rw [hx.eq_of_scalar h.1, ih (by simpa using h.2)]
theorem VRel.eq_of_flat {φ : Phi} {v u : Value} (r : VRel φ v u) (h : flat v = true) : u = v := by
  cases r with
  | agg xs ys e ho hr =>
    have := (VRels.of_arrays e hr).eq_of_scalars (by simpa [flat] using h)
    have : ys = xs := Array.toList_inj.1 this
    rw [this]
  | _ => all_goals (exact VRel.eq_of_scalar (φ := φ) (by constructor <;> assumption) (by simpa [flat] using h))

/-- A block of the abstract memory. -/
inductive Blk
  | cells (own : Option Nat) (cs : List Value) (min : Nat)
  | map (es : List (Value × Value))

abbrev AHeap := List (Nat × Blk)
def AHeap.getC : AHeap → Nat → Option Blk
  | [], _ => none
  | (j, b) :: h, i => bif Nat.beq j i then some b else AHeap.getC h i
def AHeap.get (l : AHeap) : Nat → Option Blk := List.rec (motive := fun _ => Nat → Option Blk) (fun _ => none) (fun p _ ih i => bif Nat.beq p.1 i then some p.2 else ih i) l
theorem AHeap.get_nil (i : Nat) : AHeap.get [] i = none := rfl
theorem AHeap.get_cons (j : Nat) (b : Blk) (h : AHeap) (i : Nat) : AHeap.get ((j, b) :: h) i = if j = i then some b else AHeap.get h i := by
  show (bif Nat.beq j i then some b else AHeap.get h i) = _
  by_cases e : j = i
  · subst e; simp
  · rw [if_neg e, show Nat.beq j i = false from by cases hb : Nat.beq j i with | false => rfl | true => exact absurd (Nat.eq_of_beq_eq_true hb) e]; rfl
def AHeap.put (h : AHeap) (i : Nat) (b : Blk) : AHeap := (i, b) :: h

@[simp] theorem AHeap.get_put_same (h : AHeap) (i : Nat) (b : Blk) : (h.put i b).get i = some b := by simp [AHeap.put, AHeap.get_cons]
theorem AHeap.get_put_ne (h : AHeap) {i j : Nat} (b : Blk) (hij : i ≠ j) : (h.put i b).get j = h.get j := by
  simp only [AHeap.put, AHeap.get_cons, if_neg hij]
theorem AHeap.get_put (h : AHeap) (i j : Nat) (b : Blk) : (h.put i b).get j = if i = j then some b else h.get j := by
  split
  · rename_i e; subst e; simp
  · rename_i e; exact get_put_ne h b e

/-- A block lies in the machine's memory. -/
def Unfrozen (w : World) (l : Loc) : Prop := ∀ o, o < l.size → w.frozen? ⟨l.block, o, none⟩ = false

def BlkRel (φ : Phi) (w : World) (i : Nat) : Blk → Prop
  | .cells own cs min => (∃ l, φ i cs.length = some l) ∧ min ≤ cs.length ∧ cs.all Value.oneCell' = true ∧
      ∀ g l, φ i g = some l → min ≤ g → g ≤ cs.length ∧ (∀ t, own = some t → l.own = true ∧ l.ty = t ∧ Unfrozen w l) ∧
        ∀ k v, k < g → cs[k]? = some v → ∃ u, w.cell? ⟨l.block, l.off + k, none⟩ = some u ∧ VRel φ v u
  | .map es => ∃ l, φ i 0 = some l ∧ l.own = false ∧ ∃ ces clock, w.heap[l.block]? = some (.map ces clock) ∧
      es.length = ces.size ∧ ∀ (k : Nat) (x : Value × Value), es[k]? = some x → ∃ e : MapEntry, ces[k]? = some e ∧ scalar x.1 = true ∧ e.key = x.1 ∧ VRel φ x.2 e.val

abbrev TH := Nat → Option Blk

/-- The abstract memory T, at the places that φ tells, in the world w: a call that began in w0. -/
structure Sat (G : Nat) (w0 : World) (φ : Phi) (T : TH) (w : World) : Prop where
  below : Below w0.heap.size w0 w
  glob : ∀ i g l, φ i g = some l → i < G → l.block = i ∧ l.off = 0 ∧ l.own = false
  old : ∀ i g l, φ i g = some l → l.own = false → l.block < w0.heap.size
  new : ∀ i g l, φ i g = some l → l.own = true → w0.heap.size ≤ l.block ∧ l.off = 0 ∧
    ∃ c fz, w.heap[l.block]? = some (.cells c l.ty fz) ∧ c.size = l.size
  apart : ∀ i g l j k m, φ i g = some l → φ j k = some m → l.own = true → l.block = m.block → i = j
  uni : ∀ i g l k m, φ i g = some l → φ i k = some m → l.own = m.own
  fits : ∀ i g l, φ i g = some l → l.own = true → g ≤ l.size
  blk : ∀ i b, T i = some b → BlkRel φ w i b

end
end Go.Proofs.YtkaibjdogeikbaaDoor.Am
