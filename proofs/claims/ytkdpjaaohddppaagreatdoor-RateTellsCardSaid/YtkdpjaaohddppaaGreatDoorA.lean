/- The abstract memory and its operations,part A: what a run of the model does is bounded by what an abstract machine does. -/
import Derived.Below
import Derived.Orders
import Derived.KernelRfl
import GoSem.Dispatch
namespace Go.Proofs.YtkdpjaaohddppaaGreatDoor.Am
noncomputable section
open Go.RowKit (Below)

structure Loc where
  block : Nat
  off : Nat
  own : Bool
  size : Nat
  ty : Nat

abbrev Phi := Nat → Nat → Option Loc

def Phi.Le (φ ψ : Phi) : Prop := ∀ i g l, φ i g = some l → ψ i g = some l

theorem Phi.Le.refl (φ : Phi) : Phi.Le φ φ := fun _ _ _ h => h
theorem Phi.Le.trans {a b c : Phi} (h : Phi.Le a b) (k : Phi.Le b c) : Phi.Le a c := fun _ _ _ x => k _ _ _ (h _ _ _ x)

inductive VRel (φ : Phi) : Value → Value → Prop
  | bool (b : Bool) : VRel φ (.bool b) (.bool b)
  | int (k : IntKind) (n : Int) : VRel φ (.int k n) (.int k n)
  | float (k : FloatKind) (b : Nat) : VRel φ (.float k b) (.float k b)
  | string (s : ByteArray) : VRel φ (.string s) (.string s)
  | ptrNil : VRel φ (.pointer none) (.pointer none)
  | ptr (i o g : Nat) (l : Loc) (h : φ i g = some l) : VRel φ (.pointer (some ⟨i,o,some g⟩)) (.pointer (some ⟨l.block,l.off + o,none⟩))
  | sliceNil : VRel φ (.slice none 0 0) (.slice none 0 0)
  | slice (i o g n k : Nat) (l : Loc) (a : Addr) (c : Nat) (h : φ i g = some l) (hn : n ≤ c) (ha : c = 0 ∨ a = ⟨l.block,l.off + o,none⟩)
      (hk : k = 0 ∨ k = 2 * c + 1 ∨ ∃ e,k = 2 * e ∧ l.own = true ∧ o + c * e ≤ l.size) :
      VRel φ (.slice (some ⟨i,o,some g⟩) n k) (.slice (some a) n c)
  | mapNil : VRel φ (.map none) (.map none)
  | map (i : Nat) (l : Loc) (h : φ i 0 = some l) : VRel φ (.map (some i)) (.map (some l.block))
  | nilFunc : VRel φ .nilFunc .nilFunc
  | func (fn : Fn) (xs ys us vs : Array Value) (h : xs.size = ys.size) (hr : ∀ i (hi : i < xs.size) (hj : i < ys.size),VRel φ xs[i] ys[i])
      (k : us.size = vs.size) (kr : ∀ i (hi : i < us.size) (hj : i < vs.size),VRel φ us[i] vs[i]) : VRel φ (.func fn xs us) (.func fn ys vs)
  | nilIface : VRel φ .nilIface .nilIface
  | iface (t : TypeId) (v u : Value) (h : VRel φ v u) : VRel φ (.iface t v) (.iface t u)
  | agg (xs ys : Array Value) (h : xs.size = ys.size) (ho : xs.toList.all Value.oneCell' = true) (hr : ∀ i (hi : i < xs.size) (hj : i < ys.size),VRel φ xs[i] ys[i]) : VRel φ (.agg xs) (.agg ys)
  | tuple (xs ys : Array Value) (h : xs.size = ys.size) (hr : ∀ i (hi : i < xs.size) (hj : i < ys.size),VRel φ xs[i] ys[i]) : VRel φ (.tuple xs) (.tuple ys)

theorem VRel.mono {φ ψ : Phi} (h : Phi.Le φ ψ) {v u : Value} (r : VRel φ v u) : VRel ψ v u := by
  induction r with
  | bool b => exact .bool b
  | int k n => exact .int k n
  | float k b => exact .float k b
  | string s => exact .string s
  | ptrNil => exact .ptrNil
  | ptr i o g l hl => exact .ptr i o g l (h _ _ _ hl)
  | sliceNil => exact .sliceNil
  | slice i o g n k l a c hl hn ha hk => exact .slice i o g n k l a c (h _ _ _ hl) hn ha hk
  | mapNil => exact .mapNil
  | map i l hl => exact .map i l (h _ _ _ hl)
  | nilFunc => exact .nilFunc
  | func fn xs ys us vs e hr k kr ih1 ih2 => exact .func fn xs ys us vs e ih1 k ih2
  | nilIface => exact .nilIface
  | iface t v u hv ih => exact .iface t v u ih
  | agg xs ys e ho hr ih => exact .agg xs ys e ho ih
  | tuple xs ys e hr ih => exact .tuple xs ys e ih

inductive VRels (φ : Phi) : List Value → List Value → Prop
  | nil : VRels φ [] []
  | cons {x y : Value} {xs ys : List Value} (h : VRel φ x y) (t : VRels φ xs ys) : VRels φ (x :: xs) (y :: ys)

namespace VRels
variable {φ ψ : Phi}
theorem mono (h : Phi.Le φ ψ) {xs ys : List Value} (r : VRels φ xs ys) : VRels ψ xs ys := by
  induction r with
  | nil => exact .nil
  | cons hx _ ih => exact .cons (hx.mono h) ih
theorem length {xs ys : List Value} (r : VRels φ xs ys) : xs.length = ys.length := by
  induction r with
  | nil => rfl
  | cons _ _ ih => simp [ih]
theorem get {xs ys : List Value} (r : VRels φ xs ys) {i : Nat} {v : Value} (h : xs[i]? = some v) : ∃ u,ys[i]? = some u ∧ VRel φ v u := by
  induction r generalizing i with
  | nil => simp at h
  | cons hx _ ih =>
    cases i with
    | zero => simp at h; subst h; exact ⟨_,by simp,hx⟩
    | succ i => simp at h; obtain ⟨u,hu,hr⟩ := ih h; exact ⟨u,by simpa using hu,hr⟩
theorem append {xs ys us vs : List Value} (r : VRels φ xs ys) (s : VRels φ us vs) : VRels φ (xs ++ us) (ys ++ vs) := by
  induction r with
  | nil => exact s
  | cons hx _ ih => exact .cons hx ih
theorem take {xs ys : List Value} (r : VRels φ xs ys) (n : Nat) : VRels φ (xs.take n) (ys.take n) := by
  induction r generalizing n with
  | nil => simp; exact .nil
  | cons hx _ ih => cases n with
    | zero => simp; exact .nil
    | succ n => simp; exact .cons hx (ih n)
theorem drop {xs ys : List Value} (r : VRels φ xs ys) (n : Nat) : VRels φ (xs.drop n) (ys.drop n) := by
  induction r generalizing n with
  | nil => simp; exact .nil
  | cons hx t ih => cases n with
    | zero => simp; exact .cons hx t
    | succ n => simp; exact ih n
theorem of_get {xs ys : List Value} (e : xs.length = ys.length) (h : ∀ i (hi : i < xs.length) (hj : i < ys.length),VRel φ xs[i] ys[i]) : VRels φ xs ys := by
  induction xs generalizing ys with
  | nil => cases ys with
    | nil => exact .nil
    | cons y ys => simp at e
  | cons x xs ih => cases ys with
    | nil => simp at e
    | cons y ys =>
      simp at e
      refine .cons (h 0 (by simp) (by simp)) (ih e fun i hi hj => ?_)
      exact h (i + 1) (by simp; omega) (by simp; omega)
theorem get' {xs ys : List Value} (r : VRels φ xs ys) (i : Nat) (hi : i < xs.length) (hj : i < ys.length) : VRel φ xs[i] ys[i] := by
  obtain ⟨u,hu,hr⟩ := r.get (i := i) (v := xs[i]) (by simp)
  have : ys[i] = u := by simpa [List.getElem?_eq_getElem hj] using hu
  rw [this]; exact hr
end VRels

theorem VRels.of_arrays {φ : Phi} {xs ys : Array Value} (e : xs.size = ys.size) (h : ∀ i (hi : i < xs.size) (hj : i < ys.size),VRel φ xs[i] ys[i]) :
    VRels φ xs.toList ys.toList :=
  .of_get (by simpa using e) fun i hi hj => by simpa using h i (by simpa using hi) (by simpa using hj)

theorem VRels.agg {φ : Phi} {xs ys : Array Value} (r : VRels φ xs.toList ys.toList) (ho : xs.toList.all Value.oneCell' = true) : VRel φ (.agg xs) (.agg ys) :=
  .agg xs ys (by simpa using r.length) ho fun i hi hj => r.get' i (by simpa using hi) (by simpa using hj)
theorem VRels.tuple {φ : Phi} {xs ys : Array Value} (r : VRels φ xs.toList ys.toList) : VRel φ (.tuple xs) (.tuple ys) :=
  .tuple xs ys (by simpa using r.length) fun i hi hj => r.get' i (by simpa using hi) (by simpa using hj)
theorem VRels.func {φ : Phi} {fn : Fn} {xs ys us vs : Array Value} (r : VRels φ xs.toList ys.toList) (s : VRels φ us.toList vs.toList) :
    VRel φ (.func fn xs us) (.func fn ys vs) :=
  .func fn xs ys us vs (by simpa using r.length) (fun i hi hj => r.get' i (by simpa using hi) (by simpa using hj))
    (by simpa using s.length) fun i hi hj => s.get' i (by simpa using hi) (by simpa using hj)

theorem VRel.cells {φ : Phi} {v u : Value} (r : VRel φ v u) : VRels φ v.cells.toList u.cells.toList := by
  cases r with
  | agg xs ys e ho h => exact .of_arrays e h
  | _ => all_goals (simp only [Value.cells]; exact .cons (by constructor <;> assumption) .nil)

theorem VRel.oneCell {φ : Phi} {v u : Value} (r : VRel φ v u) : u.oneCell' = v.oneCell' := by cases r <;> rfl

def scalar : Value → Bool
  | .bool _ | .int _ _ | .float _ _ | .string _ | .pointer none | .slice none 0 0 | .map none | .nilFunc | .nilIface => true
  | .func _ xs us => xs.isEmpty && us.isEmpty
  | _ => false
def flat : Value → Bool
  | .agg xs => xs.toList.all scalar
  | v => scalar v

theorem VRel.of_scalar {φ : Phi} {v : Value} (h : scalar v = true) : VRel φ v v := by
  unfold scalar at h
  split at h
  · exact .bool _
  · exact .int _ _
  · exact .float _ _
  · exact .string _
  · exact .ptrNil
  · exact .sliceNil
  · exact .mapNil
  · exact .nilFunc
  · exact .nilIface
  · rename_i fn xs us
    simp at h
    obtain ⟨rfl,rfl⟩ := h
    exact VRels.func .nil .nil
  · simp at h

theorem VRels.of_scalars {φ : Phi} {vs : List Value} (h : vs.all scalar = true) : VRels φ vs vs := by
  induction vs with
  | nil => exact .nil
  | cons v vs ih => simp at h; exact .cons (.of_scalar h.1) (ih (by simpa using h.2))

theorem oneCell_of_scalar {v : Value} (h : scalar v = true) : v.oneCell' = true := by
  cases v <;> first | rfl | (simp [scalar] at h; done)
theorem oneCells_of_scalars {vs : List Value} (h : vs.all scalar = true) : vs.all Value.oneCell' = true := by
  simp only [List.all_eq_true] at h ⊢
  exact fun v hv => oneCell_of_scalar (h v hv)
def isTuple : Value → Bool
  | .tuple _ => true
  | _ => false
theorem VRel.oneCells {φ : Phi} {v u : Value} (r : VRel φ v u) (h : isTuple v = false) : v.cells.toList.all Value.oneCell' = true := by
  cases r with
  | agg xs ys e ho hr => exact ho
  | tuple => simp [isTuple] at h
  | _ => all_goals rfl

theorem VRel.of_flat {φ : Phi} {v : Value} (h : flat v = true) : VRel φ v v := by
  unfold flat at h
  split at h
  · exact VRels.agg (.of_scalars h) (oneCells_of_scalars h)
  · exact .of_scalar h

theorem VRel.eq_of_scalar {φ : Phi} {v u : Value} (r : VRel φ v u) (h : scalar v = true) : u = v := by
  cases r <;> simp [scalar] at h <;> try rfl
  rename_i fn xs ys us vs e hr k kr
  obtain ⟨rfl,rfl⟩ := h
  simp at e k
  have h1 : ys = #[] := by simpa using e.symm
  have h2 : vs = #[] := by simpa using k.symm
  rw [h1,h2]
theorem VRels.eq_of_scalars {φ : Phi} {vs us : List Value} (r : VRels φ vs us) (h : vs.all scalar = true) : us = vs := by
  induction r with
  | nil => rfl
  | cons hx _ ih => simp at h; rw [hx.eq_of_scalar h.1,ih (by simpa using h.2)]
theorem VRel.eq_of_flat {φ : Phi} {v u : Value} (r : VRel φ v u) (h : flat v = true) : u = v := by
  cases r with
  | agg xs ys e ho hr =>
    have := (VRels.of_arrays e hr).eq_of_scalars (by simpa [flat] using h)
    have : ys = xs := Array.toList_inj.1 this
    rw [this]
  | _ => all_goals (exact VRel.eq_of_scalar (φ := φ) (by constructor <;> assumption) (by simpa [flat] using h))

inductive Blk
  | cells (own : Option Nat) (cs : List Value) (min : Nat)
  | map (es : List (Value × Value))
  | iter (s : ByteArray) (pos : Nat)
  | obj (b : Nat) (o : Obj) (σ : List (Nat × Value))

abbrev AHeap := List (Nat × Blk)
def AHeap.get (l : AHeap) : Nat → Option Blk := List.rec (motive := fun _ => Nat → Option Blk) (fun _ => none) (fun p _ ih i => bif Nat.beq p.1 i then some p.2 else ih i) l
theorem AHeap.get_nil (i : Nat) : AHeap.get [] i = none := rfl
theorem AHeap.get_cons (j : Nat) (b : Blk) (h : AHeap) (i : Nat) : AHeap.get ((j,b) :: h) i = if j = i then some b else AHeap.get h i := by
  show (bif Nat.beq j i then some b else AHeap.get h i) = _
  by_cases e : j = i
  · subst e; simp
  · rw [if_neg e,show Nat.beq j i = false from by cases hb : Nat.beq j i with | false => rfl | true => exact absurd (Nat.eq_of_beq_eq_true hb) e]; rfl
def AHeap.put (h : AHeap) (i : Nat) (b : Blk) : AHeap := (i,b) :: h

@[simp] theorem AHeap.get_put_same (h : AHeap) (i : Nat) (b : Blk) : (h.put i b).get i = some b := by simp [AHeap.put,AHeap.get_cons]
theorem AHeap.get_put_ne (h : AHeap) {i j : Nat} (b : Blk) (hij : i ≠ j) : (h.put i b).get j = h.get j := by
  simp only [AHeap.put,AHeap.get_cons,if_neg hij]
theorem AHeap.get_put (h : AHeap) (i j : Nat) (b : Blk) : (h.put i b).get j = if i = j then some b else h.get j := by
  split
  · rename_i e; subst e; simp
  · rename_i e; exact get_put_ne h b e

def Unfrozen (w : World) (l : Loc) : Prop := (∃ c fz,w.heap[l.block]? = some (.cells c l.ty fz) ∧ c.size = l.size) ∧ ∀ o,o < l.size → w.frozen? ⟨l.block,o,none⟩ = false

def noCells (o : Obj) : Bool := match o with
  | .cells .. => false
  | _ => true
def objTmps (o : Obj) : Array Value := match o with
  | .loop r => r.tmps
  | _ => #[]
def BlkRel (φ : Phi) (w : World) (i : Nat) : Blk → Prop
  | .cells own cs min => (∃ l, φ i cs.length = some l) ∧ min ≤ cs.length ∧ cs.all Value.oneCell' = true ∧
      ∀ g l, φ i g = some l → min ≤ g → g ≤ cs.length ∧ (∀ t,own = some t → l.own = true ∧ l.ty = t ∧ Unfrozen w l) ∧
        ∀ k v,k < g → cs[k]? = some v → ∃ u,w.cell? ⟨l.block,l.off + k,none⟩ = some u ∧ VRel φ v u
  | .map es => ∃ l, φ i 0 = some l ∧ l.own = false ∧ ∃ ces clock,w.heap[l.block]? = some (.map ces clock) ∧
      es.length = ces.size ∧ ∀ (k : Nat) (x : Value × Value),es[k]? = some x → ∃ e : MapEntry,ces[k]? = some e ∧ scalar x.1 = true ∧ e.key = x.1 ∧ VRel φ x.2 e.val
  | .iter s pos => ∃ l, φ i 0 = some l ∧ l.own = true ∧ l.off = 0 ∧ w.heap[l.block]? = some (.stringIter s pos)
  | .obj b o σ => ∃ l, φ i 0 = some l ∧ l.own = true ∧ l.off = 0 ∧ l.block = b ∧ w.heap[b]? = some o ∧ noCells o = true ∧ ∀ p ∈ σ,∃ u,(objTmps o)[p.1]? = some u ∧ VRel φ p.2 u

abbrev TH := Nat → Option Blk

structure Sat (G : Nat) (w0 : World) (φ : Phi) (T : TH) (w : World) : Prop where
  below : Below w0.heap.size w0 w
  glob : ∀ i g l, φ i g = some l → i < G → l.block = i ∧ l.off = 0 ∧ l.own = false
  old : ∀ i g l, φ i g = some l → l.own = false → l.block < w0.heap.size
  new : ∀ i g l, φ i g = some l → l.own = true → w0.heap.size ≤ l.block ∧ l.off = 0 ∧
    ((∃ c fz,w.heap[l.block]? = some (.cells c l.ty fz) ∧ c.size = l.size) ∨ l.size = 0 ∧ ∃ o,w.heap[l.block]? = some o ∧ noCells o = true)
  apart : ∀ i g l j k m, φ i g = some l → φ j k = some m → l.own = true → l.block = m.block → i = j
  uni : ∀ i g l k m, φ i g = some l → φ i k = some m → l.own = m.own
  fits : ∀ i g l, φ i g = some l → l.own = true → g ≤ l.size
  blk : ∀ i b,T i = some b → BlkRel φ w i b

end
end Go.Proofs.YtkdpjaaohddppaaGreatDoor.Am
namespace Go.Proofs.YtkdpjaaohddppaaGreatDoor.Am
noncomputable section
open Go.RowKit (Below)

theorem cell?_congr {w w' : World} {b : Nat} (h : w'.heap[b]? = w.heap[b]?) (o : Nat) (s : Option Nat) : w'.cell? ⟨b,o,s⟩ = w.cell? ⟨b,o,s⟩ := by
  simp only [World.cell?,h]
theorem frozen?_congr {w w' : World} {b : Nat} (h : w'.heap[b]? = w.heap[b]?) (o : Nat) (s : Option Nat) : w'.frozen? ⟨b,o,s⟩ = w.frozen? ⟨b,o,s⟩ := by
  simp only [World.frozen?,h]

theorem BlkRel.congr {φ ψ : Phi} {w w' : World} {i : Nat} {b : Blk} (h : BlkRel φ w i b) (hle : Phi.Le φ ψ) (hi : ∀ g l, ψ i g = some l → φ i g = some l)
    (hw : ∀ g l, φ i g = some l → w'.heap[l.block]? = w.heap[l.block]?) : BlkRel ψ w' i b := by
  cases b with
  | cells own cs min =>
    obtain ⟨⟨l,hl⟩,hm,hone,h⟩ := h
    refine ⟨⟨l,hle _ _ _ hl⟩,hm,hone,fun g l hg hmin => ?_⟩
    have hg' := hi g l hg
    obtain ⟨h1,h2,h3⟩ := h g l hg' hmin
    refine ⟨h1,fun t ho => ⟨(h2 t ho).1,(h2 t ho).2.1,by rw [hw g l hg']; exact (h2 t ho).2.2.1,fun o ho' => ?_⟩,fun k v hk hv => ?_⟩
    · rw [frozen?_congr (hw g l hg')]; exact (h2 t ho).2.2.2 o ho'
    · obtain ⟨u,hu,hr⟩ := h3 k v hk hv
      exact ⟨u,by rw [cell?_congr (hw g l hg')]; exact hu,hr.mono hle⟩
  | map es =>
    obtain ⟨l,hl,ho,ces,clock,hc,hs,he⟩ := h
    refine ⟨l,hle _ _ _ hl,ho,ces,clock,by rw [hw 0 l hl]; exact hc,hs,fun k x hx => ?_⟩
    obtain ⟨e,h1,h2,h3,h4⟩ := he k x hx
    exact ⟨e,h1,h2,h3,h4.mono hle⟩
  | iter s pos =>
    obtain ⟨l,hl,ho,hoff,hc⟩ := h
    exact ⟨l,hle _ _ _ hl,ho,hoff,by rw [hw 0 l hl]; exact hc⟩
  | obj b o σ =>
    obtain ⟨l,hl,ho,hoff,hb,hc,hn,hσ⟩ := h
    exact ⟨l,hle _ _ _ hl,ho,hoff,hb,by rw [← hb] at hc ⊢; rw [hw 0 l hl]; exact hc,hn,fun p hp => let ⟨u,h1,h2⟩ := hσ p hp; ⟨u,h1,h2.mono hle⟩⟩

structure SameMem (w w' : World) : Prop where
  heap : w'.heap = w.heap
  os : w'.os = w.os
  tape : w'.tape = w.tape
  output : w'.output = w.output

theorem SameMem.refl (w : World) : SameMem w w := ⟨rfl,rfl,rfl,rfl⟩
theorem SameMem.drew (w : World) (n : Nat) : SameMem w { w with drawn := n } := ⟨rfl,rfl,rfl,rfl⟩

theorem Below.same {B : Nat} {a w w' : World} (h : Below B a w) (s : SameMem w w') : Below B a w' :=
  ⟨s.os.trans h.os,s.tape.trans h.tape,s.output.trans h.output,by rw [s.heap]; exact h.size,fun k hk => by rw [s.heap]; exact h.block k hk⟩

section
variable {G : Nat} {w0 : World} {φ : Phi} {T : TH} {w : World}

theorem Sat.same (h : Sat G w0 φ T w) {w' : World} (s : SameMem w w') : Sat G w0 φ T w' where
  below := Below.same h.below s
  glob := h.glob
  old := h.old
  new := fun i g l hl ho => by rw [s.heap]; exact h.new i g l hl ho
  apart := h.apart
  uni := h.uni
  fits := h.fits
  blk := fun i b hb => (h.blk i b hb).congr (.refl _) (fun _ _ x => x) fun _ _ _ => by rw [s.heap]

def Phi.ins (φ : Phi) (i g : Nat) (l : Loc) : Phi := fun j k => if j = i ∧ k = g then some l else φ j k
theorem Phi.ins_same (φ : Phi) (i g : Nat) (l : Loc) : φ.ins i g l i g = some l := by simp [Phi.ins]
theorem Phi.ins_le {φ : Phi} {i g : Nat} {l : Loc} (h : φ i g = none) : Phi.Le φ (φ.ins i g l) := by
  intro j k m hm
  unfold Phi.ins
  split
  · rename_i e; obtain ⟨rfl,rfl⟩ := e; rw [h] at hm; cases hm
  · exact hm
theorem Phi.ins_cases {φ : Phi} {i g j k : Nat} {l m : Loc} (h : φ.ins i g l j k = some m) : (j = i ∧ k = g ∧ m = l) ∨ (φ j k = some m ∧ ¬(j = i ∧ k = g)) := by
  unfold Phi.ins at h
  split at h
  · rename_i e; left; exact ⟨e.1,e.2,by simpa using h.symm⟩
  · rename_i e; right; exact ⟨h,e⟩

def TH.put (T : TH) (i : Nat) (b : Blk) : TH := fun j => if i = j then some b else T j
theorem TH.put_same (T : TH) (i : Nat) (b : Blk) : T.put i b i = some b := by simp [TH.put]
theorem TH.put_ne (T : TH) {i j : Nat} (b : Blk) (h : i ≠ j) : T.put i b j = T j := by simp [TH.put,h]

theorem Sat.inside (h : Sat G w0 φ T w) {i g : Nat} {l : Loc} (hl : φ i g = some l) : l.block < w.heap.size := by
  cases ho : l.own with
  | false => have := h.old i g l hl ho; have := h.below.size; omega
  | true =>
    obtain ⟨_,_,hc⟩ := h.new i g l hl ho
    rcases hc with ⟨c,fz,hc,_⟩ | ⟨_,o,hc,_⟩
    · exact (Array.getElem?_eq_some_iff.1 hc).1
    · exact (Array.getElem?_eq_some_iff.1 hc).1

theorem Sat.alloc (h : Sat G w0 φ T w) {i g : Nat} {c : Array Value} {e : TypeId} {fz : Nat × Nat} {cs : List Value} {min : Nat} (hG : G ≤ i)
    (hone : ∀ k m, φ i k = some m → m.own = true) (hnone : φ i g = none) (hg : g = cs.length) (hmin : min ≤ g)
    (hfz : ∀ o,o < c.size → ¬(fz.1 ≤ o ∧ o < fz.2)) (hlen : cs.length ≤ c.size) (hcell : cs.all Value.oneCell' = true)
    (hr : ∀ (k : Nat) (v : Value),cs[k]? = some v → ∃ u : Value,c[k]? = some u ∧ VRel φ v u)
    (hold : ∀ k m, φ i k = some m → min ≤ k → k ≤ g ∧ m.ty = e ∧ Unfrozen w m ∧ ∀ (j : Nat) (v : Value),j < k → cs[j]? = some v → ∃ u : Value,w.cell? ⟨m.block,m.off + j,none⟩ = some u ∧ VRel φ v u) :
    Sat G w0 (φ.ins i g ⟨w.heap.size,0,true,c.size,e⟩) (T.put i (.cells (some e) cs min)) (w.alloc (.cells c e fz)) := by
  have hle : Phi.Le φ (φ.ins i g ⟨w.heap.size,0,true,c.size,e⟩) := Phi.ins_le hnone
  have hold? : ∀ b,b < w.heap.size → (w.alloc (.cells c e fz)).heap[b]? = w.heap[b]? := fun b hb => Below.heap_alloc _ _ _ hb
  have hnew? : (w.alloc (.cells c e fz)).heap[w.heap.size]? = some (.cells c e fz) := by
    show (w.heap.push _)[w.heap.size]? = _
    simp
  refine ⟨h.below.alloc h.below.size _, ?_, ?_, ?_, ?_, ?_, ?_, ?_⟩
  · intro j k m hm hj
    rcases Phi.ins_cases hm with ⟨rfl,rfl,rfl⟩ | ⟨hm,_⟩
    · omega
    · exact h.glob j k m hm hj
  · intro j k m hm ho
    rcases Phi.ins_cases hm with ⟨rfl,rfl,rfl⟩ | ⟨hm,_⟩
    · cases ho
    · exact h.old j k m hm ho
  · intro j k m hm ho
    rcases Phi.ins_cases hm with ⟨rfl,rfl,rfl⟩ | ⟨hm',_⟩
    · exact ⟨h.below.size,rfl, .inl ⟨c,fz,hnew?,rfl⟩⟩
    · obtain ⟨h1,h2,h3⟩ := h.new j k m hm' ho
      exact ⟨h1,h2,by rw [hold? _ (h.inside hm')]; exact h3⟩
  · intro j k m j' k' m' hm hm' ho hb
    rcases Phi.ins_cases hm with ⟨e1,e2,e3⟩ | ⟨h1,_⟩ <;> rcases Phi.ins_cases hm' with ⟨f1,f2,f3⟩ | ⟨h2,_⟩
    · rw [e1,f1]
    · have := h.inside h2; rw [e3] at hb; simp at hb; omega
    · have := h.inside h1; rw [f3] at hb; simp at hb; omega
    · exact h.apart j k m j' k' m' h1 h2 ho hb
  · intro j k m k' m' hm hm'
    rcases Phi.ins_cases hm with ⟨e1,e2,e3⟩ | ⟨h1,_⟩ <;> rcases Phi.ins_cases hm' with ⟨f1,f2,f3⟩ | ⟨h2,_⟩
    · rw [e3,f3]
    · rw [e3]; rw [e1] at h2; exact (hone _ _ h2).symm
    · rw [f3]; rw [f1] at h1; exact hone _ _ h1
    · exact h.uni j k m k' m' h1 h2
  · intro j k m hm ho
    rcases Phi.ins_cases hm with ⟨rfl,rfl,rfl⟩ | ⟨hm,_⟩
    · simpa [hg] using hlen
    · exact h.fits j k m hm ho
  · intro j b hb
    by_cases hj : i = j
    · subst hj
      rw [TH.put_same] at hb
      obtain rfl := Option.some.inj hb
      refine ⟨⟨_,by rw [← hg]; exact Phi.ins_same _ _ _ _⟩,by omega,hcell,fun k m hm hk => ?_⟩
      rcases Phi.ins_cases hm with ⟨_,rfl,rfl⟩ | ⟨hm',_⟩
      · refine ⟨by omega,fun t ht => ⟨rfl,Option.some.inj ht,⟨c,fz,hnew?,rfl⟩,fun o ho => ?_⟩,fun j v hj hv => ?_⟩
        · have hf := hfz o ho
          simp only [World.frozen?,hnew?]
          simp only [Bool.and_eq_false_iff,decide_eq_false_iff_not]
          omega
        · obtain ⟨u,hu,hr'⟩ := hr j v hv
          exact ⟨u,by simp only [World.cell?,hnew?]; simpa using hu,hr'.mono hle⟩
      · obtain ⟨h1,hty,h2,h3⟩ := hold k m hm' hk
        refine ⟨by omega,fun t ht => ⟨hone k m hm',hty.trans (Option.some.inj ht),by rw [hold? _ (h.inside hm')]; exact h2.1,fun o ho => ?_⟩,fun j v hj hv => ?_⟩
        · rw [frozen?_congr (hold? _ (h.inside hm'))]; exact h2.2 o ho
        · obtain ⟨u,hu,hr'⟩ := h3 j v hj hv
          exact ⟨u,by rw [cell?_congr (hold? _ (h.inside hm'))]; exact hu,hr'.mono hle⟩
    · rw [TH.put_ne _ _ hj] at hb
      refine (h.blk j b hb).congr hle (fun k m hm => ?_) (fun k m hm => hold? _ (h.inside hm))
      rcases Phi.ins_cases hm with ⟨rfl,_,_⟩ | ⟨hm,_⟩
      · exact absurd rfl hj
      · exact hm

def setRow (w : World) (b : Nat) (c : Array Value) : World :=
  { w with heap := w.heap.modify b fun
      | .cells _ e fz => .cells c e fz
      | o => o }
theorem setRow_ne (w : World) {b b' : Nat} (c : Array Value) (h : b' ≠ b) : (setRow w b c).heap[b']? = w.heap[b']? := by
  simp only [setRow,Array.getElem?_modify]; rw [if_neg (by omega)]
theorem setRow_same {w : World} {b : Nat} {c0 : Array Value} {e : TypeId} {fz : Nat × Nat} (c : Array Value) (h : w.heap[b]? = some (.cells c0 e fz)) :
    (setRow w b c).heap[b]? = some (.cells c e fz) := by
  simp [setRow,Array.getElem?_modify,h]
theorem Below.setRow {B : Nat} {a w : World} (h : Below B a w) {b : Nat} (hb : B ≤ b) (c : Array Value) : Below B a (setRow w b c) :=
  h.trans ⟨rfl,rfl,rfl,by simp [Go.Proofs.YtkdpjaaohddppaaGreatDoor.Am.setRow],fun k hk => setRow_ne _ _ (by omega)⟩

theorem Sat.write (h : Sat G w0 φ T w) {i g : Nat} {l : Loc} {c0 c : Array Value} {e : TypeId} {fz : Nat × Nat} {cs : List Value} {min g' : Nat} (hl : φ i g = some l)
    (ho : l.own = true) (hrow : w.heap[l.block]? = some (.cells c0 e fz)) (hsize : c.size = c0.size) (hg : g' = cs.length) (hmin : min ≤ g') (hfit : g' ≤ l.size)
    (hnone : g' = g ∨ φ i g' = none) (hcell : cs.all Value.oneCell' = true)
    (hold : ∀ k m,(φ.ins i g' l) i k = some m → min ≤ k → k ≤ g' ∧ m.ty = l.ty ∧ Unfrozen w m ∧
      ∀ (j : Nat) (v : Value),j < k → cs[j]? = some v → ∃ u : Value,(setRow w l.block c).cell? ⟨m.block,m.off + j,none⟩ = some u ∧ VRel φ v u) :
    Sat G w0 (φ.ins i g' l) (T.put i (.cells (some l.ty) cs min)) (setRow w l.block c) := by
  have hins : Phi.Le φ (φ.ins i g' l) := by
    rcases hnone with rfl | hnone
    · intro j k m hm
      unfold Phi.ins
      split
      · rename_i e'; obtain ⟨rfl,rfl⟩ := e'; rw [← hm,hl]
      · exact hm
    · exact Phi.ins_le hnone
  have hback : ∀ j k m,(φ.ins i g' l) j k = some m → ∃ k', φ j k' = some m := fun j k m hm => by
    rcases Phi.ins_cases hm with ⟨rfl,rfl,rfl⟩ | ⟨hm,_⟩
    · exact ⟨g,hl⟩
    · exact ⟨k,hm⟩
  obtain ⟨hB,hoff,hnw⟩ := h.new i g l hl ho
  obtain ⟨rfl,hs1⟩ : l.ty = e ∧ c0.size = l.size := by
    rcases hnw with ⟨c1,fz1,hrow1,hs1⟩ | ⟨_,o,hrow1,hno⟩
    · rw [hrow] at hrow1
      simp only [Option.some.injEq,Obj.cells.injEq] at hrow1
      exact ⟨hrow1.2.1.symm,by rw [hrow1.1]; exact hs1⟩
    · rw [hrow] at hrow1; cases hrow1; cases hno
  have hfzn : ∀ b o,(setRow w l.block c).frozen? ⟨b,o,none⟩ = w.frozen? ⟨b,o,none⟩ := fun b o => by
    by_cases hb : b = l.block
    · subst hb; simp only [World.frozen?,setRow_same c hrow,hrow]
    · exact frozen?_congr (setRow_ne _ _ hb) _ _
  have hcel : ∀ m : Loc,(∃ c fz,w.heap[m.block]? = some (.cells c m.ty fz) ∧ c.size = m.size) → ∃ c' fz,(setRow w l.block c).heap[m.block]? = some (.cells c' m.ty fz) ∧ c'.size = m.size := fun m ⟨c',fz',h1,h2⟩ => by
    by_cases hb : m.block = l.block
    · rw [hb,hrow] at h1
      simp only [Option.some.injEq,Obj.cells.injEq] at h1
      obtain ⟨h5,h6,h7⟩ := h1
      exact ⟨c,fz,by rw [hb,setRow_same c hrow,h6],by rw [hsize,h5,h2]⟩
    · exact ⟨c',fz',by rw [setRow_ne _ _ hb]; exact h1,h2⟩
  refine ⟨Below.setRow h.below hB c, ?_, ?_, ?_, ?_, ?_, ?_, ?_⟩
  · intro j k m hm hj; obtain ⟨k',hm⟩ := hback j k m hm; exact h.glob j k' m hm hj
  · intro j k m hm ho; obtain ⟨k',hm⟩ := hback j k m hm; exact h.old j k' m hm ho
  · intro j k m hm ho
    obtain ⟨k',hm⟩ := hback j k m hm
    obtain ⟨h1,h2,h3⟩ := h.new j k' m hm ho
    by_cases hb : m.block = l.block
    · rw [hb] at h3 ⊢
      rw [hrow] at h3
      rcases h3 with ⟨c',fz',h3,h4⟩ | ⟨_,o,h3,hno⟩
      · simp only [Option.some.injEq,Obj.cells.injEq] at h3
        obtain ⟨h5,h6,h7⟩ := h3
        exact ⟨by rw [← hb]; exact h1,h2, .inl ⟨c,_,by rw [setRow_same c hrow,h6],by rw [hsize,h5,h4]⟩⟩
      · cases h3; cases hno
    · exact ⟨h1,h2,by rw [setRow_ne _ _ hb]; exact h3⟩
  · intro j k m j' k' m' hm hm' ho hb
    obtain ⟨a,hm⟩ := hback j k m hm
    obtain ⟨b,hm'⟩ := hback j' k' m' hm'
    exact h.apart j a m j' b m' hm hm' ho hb
  · intro j k m k' m' hm hm'
    obtain ⟨a,hm⟩ := hback j k m hm
    obtain ⟨b,hm'⟩ := hback j k' m' hm'
    exact h.uni j a m b m' hm hm'
  · intro j k m hm ho
    rcases Phi.ins_cases hm with ⟨rfl,rfl,rfl⟩ | ⟨hm,_⟩
    · exact hfit
    · exact h.fits j k m hm ho
  · intro j b hb
    by_cases hj : i = j
    · subst hj
      rw [TH.put_same] at hb
      obtain rfl := Option.some.inj hb
      refine ⟨⟨_,by rw [← hg]; exact Phi.ins_same _ _ _ _⟩,by omega,hcell,fun k m hm hk => ?_⟩
      obtain ⟨h1,hty,h2,h3⟩ := hold k m hm hk
      obtain ⟨k',hm'⟩ := hback _ k m hm
      refine ⟨by omega,fun t ht => ⟨(h.uni i k' m g l hm' hl).trans ho,hty.trans (Option.some.inj ht),hcel m h2.1,fun o ho => by rw [hfzn]; exact h2.2 o ho⟩,fun j v hj hv => ?_⟩
      obtain ⟨u,hu,hr'⟩ := h3 j v hj hv
      exact ⟨u,hu,hr'.mono hins⟩
    · rw [TH.put_ne _ _ hj] at hb
      refine (h.blk j b hb).congr hins (fun k m hm => ?_) (fun k m hm => ?_)
      · rcases Phi.ins_cases hm with ⟨rfl,_,_⟩ | ⟨hm,_⟩
        · exact absurd rfl hj
        · exact hm
      · refine setRow_ne _ _ fun hb => hj ?_
        exact h.apart i g l j k m hl hm ho hb.symm

theorem Sat.iter (h : Sat G w0 φ T w) {i : Nat} {s : ByteArray} (hG : G ≤ i) (hnone : ∀ g, φ i g = none) :
    Sat G w0 (φ.ins i 0 ⟨w.heap.size,0,true,0,0⟩) (T.put i (.iter s 0)) (w.alloc (.stringIter s 0)) := by
  have hle : Phi.Le φ (φ.ins i 0 ⟨w.heap.size,0,true,0,0⟩) := Phi.ins_le (hnone 0)
  have hold? : ∀ b,b < w.heap.size → (w.alloc (.stringIter s 0)).heap[b]? = w.heap[b]? := fun b hb => Below.heap_alloc _ _ _ hb
  have hnew? : (w.alloc (.stringIter s 0)).heap[w.heap.size]? = some (.stringIter s 0) := by
    show (w.heap.push _)[w.heap.size]? = _
    simp
  refine ⟨h.below.alloc h.below.size _, ?_, ?_, ?_, ?_, ?_, ?_, ?_⟩
  · intro j k m hm hj
    rcases Phi.ins_cases hm with ⟨rfl,rfl,rfl⟩ | ⟨hm,_⟩
    · omega
    · exact h.glob j k m hm hj
  · intro j k m hm ho
    rcases Phi.ins_cases hm with ⟨rfl,rfl,rfl⟩ | ⟨hm,_⟩
    · cases ho
    · exact h.old j k m hm ho
  · intro j k m hm ho
    rcases Phi.ins_cases hm with ⟨rfl,rfl,rfl⟩ | ⟨hm',_⟩
    · exact ⟨h.below.size,rfl, .inr ⟨rfl,_,hnew?,rfl⟩⟩
    · obtain ⟨h1,h2,h3⟩ := h.new j k m hm' ho
      exact ⟨h1,h2,by rw [hold? _ (h.inside hm')]; exact h3⟩
  · intro j k m j' k' m' hm hm' ho hb
    rcases Phi.ins_cases hm with ⟨e1,e2,e3⟩ | ⟨h1,_⟩ <;> rcases Phi.ins_cases hm' with ⟨f1,f2,f3⟩ | ⟨h2,_⟩
    · rw [e1,f1]
    · have := h.inside h2; rw [e3] at hb; simp at hb; omega
    · have := h.inside h1; rw [f3] at hb; simp at hb; omega
    · exact h.apart j k m j' k' m' h1 h2 ho hb
  · intro j k m k' m' hm hm'
    rcases Phi.ins_cases hm with ⟨e1,e2,e3⟩ | ⟨h1,_⟩ <;> rcases Phi.ins_cases hm' with ⟨f1,f2,f3⟩ | ⟨h2,_⟩
    · rw [e3,f3]
    · rw [e1,hnone] at h2; cases h2
    · rw [f1,hnone] at h1; cases h1
    · exact h.uni j k m k' m' h1 h2
  · intro j k m hm ho
    rcases Phi.ins_cases hm with ⟨rfl,rfl,rfl⟩ | ⟨hm,_⟩
    · exact Nat.le_refl _
    · exact h.fits j k m hm ho
  · intro j b hb
    by_cases hj : i = j
    · subst hj
      rw [TH.put_same] at hb
      obtain rfl := Option.some.inj hb
      exact ⟨_,Phi.ins_same _ _ _ _,rfl,rfl,hnew?⟩
    · rw [TH.put_ne _ _ hj] at hb
      refine (h.blk j b hb).congr hle (fun k m hm => ?_) (fun k m hm => hold? _ (h.inside hm))
      rcases Phi.ins_cases hm with ⟨rfl,_,_⟩ | ⟨hm,_⟩
      · exact absurd rfl hj
      · exact hm

def setObj' (w : World) (b : Nat) (o : Obj) : World := { w with heap := w.heap.setIfInBounds b o }
theorem setObj'_ne (w : World) {b b' : Nat} (o : Obj) (h : b' ≠ b) : (setObj' w b o).heap[b']? = w.heap[b']? := by
  simp only [setObj',Array.getElem?_setIfInBounds]; rw [if_neg (by omega)]
theorem setObj'_same {w : World} {b : Nat} (o : Obj) (h : b < w.heap.size) : (setObj' w b o).heap[b]? = some o := by
  simp [setObj',h]
theorem Sat.iterNext (h : Sat G w0 φ T w) {i : Nat} {l : Loc} {s : ByteArray} {p p' : Nat} (hl : φ i 0 = some l) (ho : l.own = true) (hT : T i = some (.iter s p)) :
    Sat G w0 φ (T.put i (.iter s p')) (setObj' w l.block (.stringIter s p')) := by
  have hB := (h.new i 0 l hl ho).1
  have hin := h.inside hl
  obtain ⟨l2,hl2,_,hoff,hrow⟩ := h.blk i _ hT
  rw [hl] at hl2
  obtain rfl := Option.some.inj hl2
  refine ⟨h.below.trans ⟨rfl,rfl,rfl,by simp [setObj'],fun k hk => setObj'_ne _ _ (by omega)⟩,h.glob,h.old, ?_,h.apart,h.uni,h.fits, ?_⟩
  · intro j k m hm hmo
    obtain ⟨h1,h2,h3⟩ := h.new j k m hm hmo
    by_cases hb : m.block = l.block
    · rw [hb] at h3 ⊢
      rw [hrow] at h3
      rcases h3 with ⟨c',fz',h3,_⟩ | ⟨h4,_⟩
      · cases h3
      · exact ⟨by rw [← hb]; exact h1,h2, .inr ⟨h4,_,setObj'_same _ hin,rfl⟩⟩
    · exact ⟨h1,h2,by rw [setObj'_ne _ _ hb]; exact h3⟩
  · intro j b hb
    by_cases hj : i = j
    · subst hj
      rw [TH.put_same] at hb
      obtain rfl := Option.some.inj hb
      exact ⟨l,hl,ho,hoff,setObj'_same _ hin⟩
    · rw [TH.put_ne _ _ hj] at hb
      refine (h.blk j b hb).congr (.refl _) (fun _ _ x => x) (fun k m hm => setObj'_ne _ _ fun hbb => hj ?_)
      exact h.apart i 0 l j k m hl hm ho hbb.symm

theorem Sat.obj (h : Sat G w0 φ T w) {i : Nat} {o : Obj} (hno : noCells o = true) (hG : G ≤ i) (hnone : ∀ g, φ i g = none) {σ : List (Nat × Value)} (hσ : ∀ p ∈ σ,∃ u,(objTmps o)[p.1]? = some u ∧ VRel φ p.2 u) :
    Sat G w0 (φ.ins i 0 ⟨w.heap.size,0,true,0,0⟩) (T.put i (.obj w.heap.size o σ)) (w.alloc o) := by
  have hle : Phi.Le φ (φ.ins i 0 ⟨w.heap.size,0,true,0,0⟩) := Phi.ins_le (hnone 0)
  have hold? : ∀ b,b < w.heap.size → (w.alloc o).heap[b]? = w.heap[b]? := fun b hb => Below.heap_alloc _ _ _ hb
  have hnew? : (w.alloc o).heap[w.heap.size]? = some o := by
    show (w.heap.push _)[w.heap.size]? = _
    simp
  refine ⟨h.below.alloc h.below.size _, ?_, ?_, ?_, ?_, ?_, ?_, ?_⟩
  · intro j k m hm hj
    rcases Phi.ins_cases hm with ⟨rfl,rfl,rfl⟩ | ⟨hm,_⟩
    · omega
    · exact h.glob j k m hm hj
  · intro j k m hm ho
    rcases Phi.ins_cases hm with ⟨rfl,rfl,rfl⟩ | ⟨hm,_⟩
    · cases ho
    · exact h.old j k m hm ho
  · intro j k m hm ho
    rcases Phi.ins_cases hm with ⟨rfl,rfl,rfl⟩ | ⟨hm',_⟩
    · exact ⟨h.below.size,rfl, .inr ⟨rfl,_,hnew?,hno⟩⟩
    · obtain ⟨h1,h2,h3⟩ := h.new j k m hm' ho
      exact ⟨h1,h2,by rw [hold? _ (h.inside hm')]; exact h3⟩
  · intro j k m j' k' m' hm hm' ho hb
    rcases Phi.ins_cases hm with ⟨e1,e2,e3⟩ | ⟨h1,_⟩ <;> rcases Phi.ins_cases hm' with ⟨f1,f2,f3⟩ | ⟨h2,_⟩
    · rw [e1,f1]
    · have := h.inside h2; rw [e3] at hb; simp at hb; omega
    · have := h.inside h1; rw [f3] at hb; simp at hb; omega
    · exact h.apart j k m j' k' m' h1 h2 ho hb
  · intro j k m k' m' hm hm'
    rcases Phi.ins_cases hm with ⟨e1,e2,e3⟩ | ⟨h1,_⟩ <;> rcases Phi.ins_cases hm' with ⟨f1,f2,f3⟩ | ⟨h2,_⟩
    · rw [e3,f3]
    · rw [e1,hnone] at h2; cases h2
    · rw [f1,hnone] at h1; cases h1
    · exact h.uni j k m k' m' h1 h2
  · intro j k m hm ho
    rcases Phi.ins_cases hm with ⟨rfl,rfl,rfl⟩ | ⟨hm,_⟩
    · exact Nat.le_refl _
    · exact h.fits j k m hm ho
  · intro j b hb
    by_cases hj : i = j
    · subst hj
      rw [TH.put_same] at hb
      obtain rfl := Option.some.inj hb
      exact ⟨_,Phi.ins_same _ _ _ _,rfl,rfl,rfl,hnew?,hno,fun p hp => let ⟨u,h1,h2⟩ := hσ p hp; ⟨u,h1,h2.mono hle⟩⟩
    · rw [TH.put_ne _ _ hj] at hb
      refine (h.blk j b hb).congr hle (fun k m hm => ?_) (fun k m hm => hold? _ (h.inside hm))
      rcases Phi.ins_cases hm with ⟨rfl,_,_⟩ | ⟨hm,_⟩
      · exact absurd rfl hj
      · exact hm
theorem Sat.objTurn (h : Sat G w0 φ T w) {i b : Nat} {o o' : Obj} {σ : List (Nat × Value)} (hno : noCells o' = true) (htm : objTmps o' = objTmps o) (hT : T i = some (.obj b o σ)) :
    Sat G w0 φ (T.put i (.obj b o' σ)) (setObj' w b o') := by
  obtain ⟨l,hl,ho,hoff,hlb,hrow,hno0,hσ⟩ := h.blk i _ hT
  subst hlb
  have hB := (h.new i 0 l hl ho).1
  have hin := h.inside hl
  refine ⟨h.below.trans ⟨rfl,rfl,rfl,by simp [setObj'],fun k hk => setObj'_ne _ _ (by omega)⟩,h.glob,h.old, ?_,h.apart,h.uni,h.fits, ?_⟩
  · intro j k m hm hmo
    obtain ⟨h1,h2,h3⟩ := h.new j k m hm hmo
    by_cases hb : m.block = l.block
    · rw [hb] at h3 ⊢
      rw [hrow] at h3
      rcases h3 with ⟨c',fz',h3,_⟩ | ⟨h4,_⟩
      · cases h3; cases hno0
      · exact ⟨by rw [← hb]; exact h1,h2, .inr ⟨h4,_,setObj'_same _ hin,hno⟩⟩
    · exact ⟨h1,h2,by rw [setObj'_ne _ _ hb]; exact h3⟩
  · intro j b hb
    by_cases hj : i = j
    · subst hj
      rw [TH.put_same] at hb
      obtain rfl := Option.some.inj hb
      exact ⟨l,hl,ho,hoff,rfl,setObj'_same _ hin,hno,by rw [htm]; exact hσ⟩
    · rw [TH.put_ne _ _ hj] at hb
      refine (h.blk j b hb).congr (.refl _) (fun _ _ x => x) (fun k m hm => setObj'_ne _ _ fun hbb => hj ?_)
      exact h.apart i 0 l j k m hl hm ho hbb.symm

end
end
end Go.Proofs.YtkdpjaaohddppaaGreatDoor.Am
namespace Go.Proofs.YtkdpjaaohddppaaGreatDoor.Am
noncomputable section

abbrev Fr := List (Nat × Value)
def Fr.getC : Fr → Nat → Option Value
  | [],_ => none
  | (j,b) :: h,i => bif Nat.beq j i then some b else Fr.getC h i
def Fr.get (l : Fr) : Nat → Option Value := List.rec (motive := fun _ => Nat → Option Value) (fun _ => none) (fun p _ ih i => bif Nat.beq p.1 i then some p.2 else ih i) l
theorem Fr.get_nil (i : Nat) : Fr.get [] i = none := rfl
theorem Fr.get_cons (j : Nat) (b : Value) (h : Fr) (i : Nat) : Fr.get ((j,b) :: h) i = if j = i then some b else Fr.get h i := by
  show (bif Nat.beq j i then some b else Fr.get h i) = _
  by_cases e : j = i
  · subst e; simp
  · rw [if_neg e,show Nat.beq j i = false from by cases hb : Nat.beq j i with | false => rfl | true => exact absurd (Nat.eq_of_beq_eq_true hb) e]; rfl
def Fr.del : Fr → Nat → Fr
  | [],_ => []
  | (j,b) :: h,i => if j = i then Fr.del h i else (j,b) :: Fr.del h i
def Fr.put (h : Fr) (i : Nat) (b : Value) : Fr := (i,b) :: h

theorem Fr.get_del_ne (h : Fr) {i j : Nat} (hij : i ≠ j) : (h.del i).get j = h.get j := by
  induction h with
  | nil => rfl
  | cons x h ih =>
    obtain ⟨k,b⟩ := x
    simp only [Fr.del]
    split
    · rename_i e; subst e; simp only [Fr.get_cons,if_neg hij]; exact ih
    · simp only [Fr.get_cons]; split <;> simp_all
theorem Fr.get_del_same (h : Fr) (i : Nat) : (h.del i).get i = none := by
  induction h with
  | nil => rfl
  | cons x h ih =>
    obtain ⟨k,b⟩ := x
    simp only [Fr.del]
    split
    · exact ih
    · rename_i e; simp only [Fr.get_cons,if_neg e]; exact ih
theorem Fr.get_put (h : Fr) (i j : Nat) (b : Value) : (h.put i b).get j = if i = j then some b else h.get j := Fr.get_cons i b h j

inductive X
  | t (n : Nat)
  | c (v : Value)
  | g (n : Nat)
  | f (n : Nat)

def X.ev (σ : Fr) (h : AHeap) : X → Option Value
  | .t n => σ.get n
  | .c v => some v
  | .g n => match h.get n with
    | some (.cells _ cs _) => some (.pointer (some ⟨n,0,some cs.length⟩))
    | _ => none
  | .f n => some (.func (.func n) #[] #[])

inductive Leaf | int | bool | str | float
  deriving DecidableEq

inductive Rk | bool | ptr | slice | map | func | iface | ifc (ts : List Nat)
  deriving DecidableEq
def Rk.isI : Rk → Bool
  | .iface | .ifc _ => true
  | _ => false

inductive AOp
  | mov (x : X)
  | pick (c a b : X)
  | alloc (ty : Nat) (zero : List Value)
  | box (ty : Nat) (x : X)
  | build (zero : List Value) (parts : List (Nat × Nat × X))
  | buildSlice (ty esz len : Nat) (zero : List Value) (parts : List (Nat × Nat × X))
  | load (m : Option Nat) (a : X)
  | store (m : Nat) (a x : X)
  | nilCheck (x : X)
  | bin (op : BinOp) (x y : X)
  | eqv (neg : Bool) (k : Rk) (lit : Bool) (x y : X)
  | eqAgg (neg : Bool) (ls : List Leaf) (x y : X)
  | un (op : UnOp) (x : X)
  | conv (k : IntKind) (x : X)
  | same (x : X)
  | bytesOf (ty : Nat) (x : X)
  | strOf (x : X)
  | sliceStr (x : X) (lo hi : Option X)
  | slice (esz : Nat) (x : X) (lo hi mx : Option X)
  | sliceArr (esz n : Nat) (x : X) (lo hi : Option X)
  | fieldAddr (off : Nat) (x : X)
  | field (off : Nat) (m : Option Nat) (x : X)
  | indexAddr (esz : Nat) (x i : X)
  | indexArr (esz n : Nat) (x i : X)
  | index (esz n : Nat) (m : Option Nat) (x i : X)
  | indexStr (x i : X)
  | extract (x : X) (i : Nat)
  | lenStr (x : X)
  | lenSlice (x : X)
  | lenConst (n : Nat)
  | append (ty esz bytes : Nat) (x y : X)
  | copy (esz : Nat) (x y : X)
  | min (xs : List X)
  | max (xs : List X)
  | makeFunc (fn : Nat) (first captured : List X)
  | makeIface (t : TypeId) (x : X)
  | makeSlice (ty esz bytes : Nat) (zero : List Value) (l c : X)
  | lookup (kstr commaOk : Bool) (zero : Value) (x i : X)
  | call (f : X) (args : List X)
  | fail
  | cap (x : X)
  | sliceData (x : X)
  | unsafeString (ty : Nat) (x l : X)
  | toUnsafe (x : X)
  | fromUnsafe (u s : Nat) (x : X)
  | rangeStr (x : X)
  | nextStr (x : X)
  | toFloat (k : FloatKind) (x : X)
  | sameF (k : FloatKind) (x : X)

structure AOper where
  dst : Option Nat
  op : AOp
  guard : Option (Nat × Bool)
  deps : List Nat

inductive ACode
  | skip
  | region (ops : List AOper) (pairs : Option (List (Nat × Nat)))
  | seq (a b : ACode)
  | cond (c : X) (thn els : ACode)
  | block (id : Nat) (body : ACode)
  | loop (body : ACode)
  | exit (id : Nat)
  | ret
  | fail
  | ranges (x : X) (ps : List Nat) (assign body : ACode)
  | scope (body : ACode)
  | label (l : Nat)
def gB : Nat := 1000000
def findLab : ACode → Nat → Option ACode
  | .seq a b,l => match findLab a l with
    | some r => some (.seq r b)
    | none => findLab b l
  | .label l',l => if l' == l then some .skip else none
  | _,_ => none

inductive ARes
  | tmp (t : Nat)
  | cell (t : Nat) (m : Option Nat)

structure AFunc where
  nparams : Nat
  ntmps : Nat
  results : List ARes
  body : ACode

/- WHAT AN OPERATION READS; which pairs of operations have no order. -/
def X.reads : X → List Nat
  | .t n => [n]
  | _ => []
def optReads : Option X → List Nat
  | none => []
  | some x => x.reads

def AOp.reads : AOp → List Nat
  | .mov x | .box _ x | .nilCheck x | .un _ x | .conv _ x | .same x | .bytesOf _ x | .strOf x | .fieldAddr _ x | .field _ _ x | .extract x _ | .lenStr x | .lenSlice x | .makeIface _ x | .load _ x | .cap x | .sliceData x | .toUnsafe x | .fromUnsafe _ _ x | .rangeStr x | .nextStr x | .toFloat _ x | .sameF _ x => x.reads
  | .pick c a b => c.reads ++ a.reads ++ b.reads
  | .alloc _ _ | .lenConst _ | .fail => []
  | .build _ ps | .buildSlice _ _ _ _ ps => ps.flatMap fun p => p.2.2.reads
  | .store _ a x | .bin _ a x | .eqv _ _ _ a x | .eqAgg _ _ a x | .indexAddr _ a x | .indexArr _ _ a x | .index _ _ _ a x | .indexStr a x | .append _ _ _ a x | .copy _ a x | .makeSlice _ _ _ _ a x | .unsafeString _ a x | .lookup _ _ _ a x => a.reads ++ x.reads
  | .sliceStr x lo hi | .sliceArr _ _ x lo hi => x.reads ++ optReads lo ++ optReads hi
  | .slice _ x lo hi mx => x.reads ++ optReads lo ++ optReads hi ++ optReads mx
  | .min xs | .max xs => xs.flatMap X.reads
  | .makeFunc _ a b => a.flatMap X.reads ++ b.flatMap X.reads
  | .call f xs => f.reads ++ xs.flatMap X.reads

def AOper.reads (o : AOper) : List Nat :=
  (match o.guard with | some (d,_) => [d] | none => []) ++ o.op.reads


def ancOf (acc : List Nat) : List Nat → Nat
  | [] => 0
  | d :: ds => 2 ^ d ||| (acc.getD d 0 ||| ancOf acc ds)
def ancTab : List AOper → List Nat → List Nat
  | [],acc => acc
  | o :: os,acc => ancTab os (acc ++ [ancOf acc o.deps])

def apartSlots (a b : AOper) : Bool :=
  (match a.dst with | some d => !b.reads.contains d && b.dst != some d | none => true) && (match b.dst with | some d => !a.reads.contains d | none => true)

def openPairs (ops : List AOper) : List (Nat × Nat) :=
  (List.range ops.length).flatMap fun j => (List.range j).filterMap fun i => if ((ancTab ops []).getD j 0).testBit i then none else some (i,j)

def staticOk (ops : List AOper) : Bool :=
  (ops.zipIdx.all fun (o,j) => o.deps.all fun i => decide (i < j)) &&
  (openPairs ops).all fun (i,j) => match ops[i]?,ops[j]? with
    | some a,some b => apartSlots a b
    | _,_ => false

/- ------------------------------------------------------------ what the operations come to -/

def splice (cs : List Value) (o : Nat) (vs : List Value) : List Value := cs.take o ++ vs ++ cs.drop (o + vs.length)

def mapX (ρ : X → Option Value) : List X → Option (List Value)
  | [] => some []
  | x :: xs => match ρ x,mapX ρ xs with
    | some v,some vs => some (v :: vs)
    | _,_ => none

def aFill (ρ : X → Option Value) (cells : List Value) : List (Nat × Nat × X) → Option (List Value)
  | [] => some cells
  | (off,size,x) :: rest => match ρ x with
    | none => none
    | some v => if v.cells.size = size ∧ off + size ≤ cells.length ∧ isTuple v = false then aFill ρ (splice cells off v.cells.toList) rest else none

def repeatCells (zero : List Value) : Nat → List Value
  | 0 => []
  | n + 1 => zero ++ repeatCells zero n

def AHeap.read (h : AHeap) (i g o m : Nat) : Option (List Value) :=
  match h.get i with
  | some (.cells _ cs min) => if min ≤ g ∧ g ≤ cs.length ∧ o + m ≤ g then some ((cs.drop o).take m) else none
  | _ => none

def AHeap.write (h : AHeap) (i g o : Nat) (vs : List Value) : Option AHeap :=
  match h.get i with
  | some (.cells (some t) cs _) => if g = cs.length ∧ o + vs.length ≤ g then some (h.put i (.cells (some t) (splice cs o vs) g)) else none
  | _ => none

def aIntOp (op : BinOp) (k : IntKind) (a b : Int) : Option Value :=
  match op with
  | .add => some (.int k (k.wrap (a + b)))
  | .sub => some (.int k (k.wrap (a - b)))
  | .mul => some (.int k (k.wrap (a * b)))
  | .quo => if b = 0 then none else some (.int k (k.wrap (a.tdiv b)))
  | .rem => if b = 0 then none else some (.int k (a.tmod b))
  | .and => some (.int k (k.wrap (BitVec.ofInt k.bits a &&& BitVec.ofInt k.bits b).toNat))
  | .or => some (.int k (k.wrap (BitVec.ofInt k.bits a ||| BitVec.ofInt k.bits b).toNat))
  | .xor => some (.int k (k.wrap (BitVec.ofInt k.bits a ^^^ BitVec.ofInt k.bits b).toNat))
  | .andNot => some (.int k (k.wrap (BitVec.ofInt k.bits a &&& ~~~(BitVec.ofInt k.bits b)).toNat))
  | .eql => some (.bool (a == b))
  | .neq => some (.bool (a != b))
  | .lss => some (.bool (decide (a < b)))
  | .leq => some (.bool (decide (a ≤ b)))
  | .gtr => some (.bool (decide (a > b)))
  | .geq => some (.bool (decide (a ≥ b)))
  | _ => none

def aShift (op : BinOp) (k : IntKind) (a b : Int) : Option Value :=
  if b < 0 then none else
  match op with
  | .shl => some (.int k (k.wrap (a * 2 ^ (Min.min b.toNat k.bits))))
  | .shr => some (.int k (a.fdiv (2 ^ (Min.min b.toNat k.bits))))
  | _ => none

def aStrOp (op : BinOp) (x y : ByteArray) : Option Value :=
  match op with
  | .add => if x.size + y.size < 9223372036854775808 then some (.string (x ++ y)) else none
  | .eql => some (.bool (x.toList == y.toList))
  | .neq => some (.bool (!(x.toList == y.toList)))
  | .lss => some (.bool (Op.bytesLess x.toList y.toList))
  | .leq => some (.bool (Op.bytesLess x.toList y.toList || x.toList == y.toList))
  | .gtr => some (.bool (!(Op.bytesLess x.toList y.toList || x.toList == y.toList)))
  | .geq => some (.bool (!(Op.bytesLess x.toList y.toList)))
  | _ => none

def aFloatOp (op : BinOp) (k : FloatKind) (a b : Nat) : Option Value :=
  match op with
  | .add => (k.format.add a b).map (.float k)
  | .sub => (k.format.sub a b).map (.float k)
  | .mul => (k.format.mul a b).map (.float k)
  | .quo => (k.format.div a b).map (.float k)
  | .eql => some (.bool (k.format.order a b == some .eq))
  | .neq => some (.bool (k.format.order a b != some .eq))
  | .lss => some (.bool (k.format.order a b == some .lt))
  | .leq => some (.bool (k.format.order a b == some .lt || k.format.order a b == some .eq))
  | .gtr => some (.bool (k.format.order a b == some .gt))
  | .geq => some (.bool (k.format.order a b == some .gt || k.format.order a b == some .eq))
  | _ => none

def aBin (op : BinOp) : Value → Value → Option Value
  | .int k a, .int k' b => match op with
    | .shl => aShift .shl k a b
    | .shr => aShift .shr k a b
    | _ => if k = k' then aIntOp op k a b else none
  | .string a, .string b => aStrOp op a b
  | .float k a, .float k' b => if k = k' then aFloatOp op k a b else none
  | _,_ => none

def aIfc (k : Rk) (t : TypeId) (v : Value) (u : TypeId) (w : Value) : Option Bool := match k with
  | .ifc ts => if t = u then (match v,w with
    | .int ka a, .int kb b => if ts.contains t = true ∧ ka = kb then some (a == b) else none
    | _,_ => none) else some false
  | _ => none
def aEqv (k : Rk) (lit : Bool) : Value → Value → Option Bool
  | .bool a, .bool b => if k = .bool then some (a == b) else none
  | .pointer a, .pointer none => if k = .ptr then some a.isNone else none
  | .pointer none, .pointer b => if k = .ptr then some b.isNone else none
  | .pointer (some a), .pointer (some b) => if k = .ptr ∧ a.block = b.block ∧ a.spot = b.spot then some (decide (a.off = b.off)) else none
  | .slice a _ _, .slice none _ _ => if k = .slice then some a.isNone else none
  | .slice none _ _, .slice b _ _ => if k = .slice then some b.isNone else none
  | .map a, .map none => if k = .map then some a.isNone else none
  | .map none, .map b => if k = .map then some b.isNone else none
  | .nilFunc, .nilFunc => if k = .func then some true else none
  | .nilFunc, .func _ _ _ => if k = .func then some false else none
  | .func _ _ _, .nilFunc => if k = .func then some false else none
  | .nilIface, .nilIface => if k = .iface ∧ lit then some true else none
  | .nilIface, .iface _ _ => if k.isI = true then some false else none
  | .iface _ _, .nilIface => if k.isI = true then some false else none
  | .iface t v, .iface u w => aIfc k t v u w
  | _,_ => none

def leafEq : Leaf → Value → Value → Option Bool
  | .int, .int k a, .int k' b => if k = k' then some (a == b) else none
  | .bool, .bool a, .bool b => some (a == b)
  | .str, .string a, .string b => some (a == b)
  | .float, .float k a, .float k' b => if k = k' then some (Op.floatEq k a b) else none
  | _,_,_ => none
def leavesEq : List Leaf → List Value → List Value → Option Bool
  | [],[],[] => some true
  | l :: ls,x :: xs,y :: ys => match leafEq l x y,leavesEq ls xs ys with
    | some a,some b => some (a && b)
    | _,_ => none
  | _,_,_ => none

def aUn (op : UnOp) : Value → Option Value
  | .int k n => match op with
    | .neg => some (.int k (k.wrap (0 - n)))
    | .xor => some (.int k (k.wrap (BitVec.ofInt k.bits (if k.signed then -1 else k.max) ^^^ BitVec.ofInt k.bits n).toNat))
    | _ => none
  | .bool b => match op with
    | .not => some (.bool !b)
    | _ => none
  | .float k b => match op with
    | .neg => some (.float k (Op.negFloat k b))
    | _ => none
  | _ => none

def byteCells (s : ByteArray) : List Value := s.data.toList.map fun b => .int .u8 (b.toNat : Int)

def bytesOf? : List Value → Option (List UInt8)
  | [] => some []
  | .int .u8 n :: vs => if 0 ≤ n ∧ n < 256 then match bytesOf? vs with
      | some l => some (UInt8.ofNat n.toNat :: l)
      | none => none
    else none
  | _ :: _ => none

def aBound (m : Nat) : Value → Option Nat
  | .int _ n => if 0 ≤ n ∧ n ≤ m then some n.toNat else none
  | _ => none
def optX (ρ : X → Option Value) : Option X → Option (Option Value)
  | none => some none
  | some x => (ρ x).map some
def aBounds (ρ : X → Option Value) (len : Nat) (lo hi : Option X) : Option (Nat × Nat) :=
  match (match hi with | none => some len | some x => (ρ x).bind (aBound len)) with
  | none => none
  | some h => match (match lo with | none => some 0 | some x => (ρ x).bind (aBound h)) with
    | none => none
    | some l => some (l,h)

def aPart (cs : Array Value) (off : Nat) : Option Nat → Option Value
  | none => cs[off]?
  | some m => some (.agg (cs.extract off (off + m)))

def aElems (h : AHeap) (esz : Nat) : Value → Option (Nat × List Value)
  | .slice none _ _ => some (0,[])
  | .slice (some ⟨i,o,some g⟩) n _ => (h.read i g o (n * esz)).map fun vs => (n,vs)
  | .string s => if esz = 1 then some (s.size,byteCells s) else none
  | _ => none

def aAppend (h : AHeap) (n : Nat) (ty esz bytes : Nat) (s x : Value) : Option (Value × AHeap × Nat) :=
  match aElems h esz x with
  | none => none
  | some (m,vs) =>
    if m = 0 then (match s with
      | .slice none 0 0 => some (s,h,n)
      | .slice (some _) _ _ => some (s,h,n)
      | _ => none) else
    match s with
    | .slice none 0 0 =>
      if 2 * m * bytes ≤ 281474976710656 then some (.slice (some ⟨n,0,some vs.length⟩) m (2 * esz),h.put n (.cells (some ty) vs vs.length),n + 1) else none
    | .slice (some ⟨i,o,some g⟩) len k =>
      if 2 * (len + m) * bytes ≤ 281474976710656 then
        if k % 2 = 1 then
          (if k / 2 < len + m then match h.read i g o (len * esz) with
            | some us => some (.slice (some ⟨n,0,some (us ++ vs).length⟩) (len + m) (2 * esz),h.put n (.cells (some ty) (us ++ vs) (us ++ vs).length),n + 1)
            | none => none
          else none)
        else match h.get i with
          | some (.cells (some t) cs min) =>
            if t = ty ∧ k = 2 * esz ∧ o = 0 ∧ min ≤ g ∧ g = cs.length ∧ len * esz = g ∧ 0 < esz then
              some (.slice (some ⟨i,0,some (cs ++ vs).length⟩) (len + m) (2 * esz),h.put i (.cells (some ty) (cs ++ vs) min),n)
            else none
          | _ => none
      else none
    | _ => none

def aCopy (h : AHeap) (n : Nat) (esz : Nat) (d x : Value) : Option (Value × AHeap × Nat) :=
  match aElems h esz x with
  | none => none
  | some (m,vs) => match d with
    | .slice none 0 0 => some (.int .i64 0,h,n)
    | .slice (some ⟨i,o,some g⟩) len _ =>
      if Min.min m len = 0 then some (.int .i64 0,h,n) else
      match h.write i g o (vs.take (Min.min m len * esz)) with
      | some h' => some (.int .i64 (Min.min m len : Nat),h',n)
      | none => none
    | _ => none

def aMinFrom (k : IntKind) : Int → List Value → Option Value
  | x,[] => some (.int k x)
  | x, .int k' y :: rest => if k = k' then aMinFrom k (if y < x then y else x) rest else none
  | _,_ :: _ => none
def aMinF2 (k : FloatKind) (x y : Nat) : Option Nat := match k.format.order x y with
  | none => none
  | some .lt => some x
  | some .gt => some y
  | some .eq => some (if (k.decode x).neg then x else y)
def aMinF (k : FloatKind) : Nat → List Value → Option Value
  | x,[] => some (.float k x)
  | x, .float k' y :: rest => if k = k' then match aMinF2 k x y with | some z => aMinF k z rest | none => none else none
  | _,_ :: _ => none
def aMin : List Value → Option Value
  | .int k x :: rest => aMinFrom k x rest
  | .float k x :: rest => aMinF k x rest
  | _ => none
def aMaxFrom (k : IntKind) : Int → List Value → Option Value
  | x,[] => some (.int k x)
  | x, .int k' y :: rest => if k = k' then aMaxFrom k (if y > x then y else x) rest else none
  | _,_ :: _ => none
def aMax : List Value → Option Value
  | .int k x :: rest => aMaxFrom k x rest
  | _ => none

def keyKind (kstr : Bool) : Value → Bool
  | .string _ => kstr
  | .int _ _ => !kstr
  | _ => false
def sameKey : Value → Value → Option Bool
  | .int k a, .int k' b => if k = k' then some (a == b) else none
  | .string a, .string b => some (a == b)
  | _,_ => none
def findEntry (k : Value) : List (Value × Value) → Option (Option Value)
  | [] => some none
  | (j,v) :: es => match sameKey k j with
    | some true => some (some v)
    | some false => findEntry k es
    | none => none

def aLookup (h : AHeap) (commaOk : Bool) (zero : Value) (m k : Value) : Option Value :=
  match m with
  | .map none => some (if commaOk then .tuple #[zero, .bool false] else zero)
  | .map (some r) => match h.get r with
    | some (.map es) => match findEntry k es with
      | some (some v) => some (if commaOk then .tuple #[v, .bool true] else v)
      | some none => some (if commaOk then .tuple #[zero, .bool false] else zero)
      | none => none
    | _ => none
  | _ => none

def aev (ρ : X → Option Value) (h : AHeap) (n : Nat) : AOp → Option (Value × AHeap × Nat)
  | .mov x => (ρ x).map fun v => (v,h,n)
  | .same x => match ρ x with
    | some (.string s) => some (.string s,h,n)
    | _ => none
  | .pick c a b => match ρ c with
    | some (.bool true) => (ρ a).map fun v => (v,h,n)
    | some (.bool false) => (ρ b).map fun v => (v,h,n)
    | _ => none
  | .alloc ty zero => some (.pointer (some ⟨n,0,some zero.length⟩),h.put n (.cells (some ty) zero zero.length),n + 1)
  | .box ty x => match ρ x with
    | some v => if isTuple v then none else some (.pointer (some ⟨n,0,some v.cells.toList.length⟩),h.put n (.cells (some ty) v.cells.toList v.cells.toList.length),n + 1)
    | none => none
  | .build zero parts => (aFill ρ zero parts).map fun cs => (.agg cs.toArray,h,n)
  | .buildSlice ty esz len zero parts => match aFill ρ (repeatCells zero len) parts with
    | some cs => if cs.length = len * esz ∧ 0 < esz then some (.slice (some ⟨n,0,some cs.length⟩) len (2 * esz),h.put n (.cells (some ty) cs cs.length),n + 1) else none
    | none => none
  | .load m a => match ρ a with
    | some (.pointer (some ⟨i,o,some g⟩)) => match m with
      | none => match h.read i g o 1 with
        | some [v] => some (v,h,n)
        | _ => none
      | some m => (h.read i g o m).map fun vs => (.agg vs.toArray,h,n)
    | _ => none
  | .store m a x => match ρ a, ρ x with
    | some (.pointer (some ⟨i,o,some g⟩)),some v => if v.cells.size = m ∧ isTuple v = false then (h.write i g o v.cells.toList).map fun h' => (undef,h',n) else none
    | _,_ => none
  | .nilCheck x => match ρ x with
    | some (.pointer (some a)) => some (.pointer (some a),h,n)
    | some (.func (.func f) xs us) => some (.func (.func f) xs us,h,n)
    | _ => none
  | .bin op x y => match ρ x, ρ y with
    | some a,some b => (aBin op a b).map fun v => (v,h,n)
    | _,_ => none
  | .eqv neg k lit x y => match ρ x, ρ y with
    | some a,some b => (aEqv k lit a b).map fun v => (.bool (if neg then !v else v),h,n)
    | _,_ => none
  | .eqAgg neg ls x y => match ρ x, ρ y with
    | some (.agg a),some (.agg b) => (leavesEq ls a.toList b.toList).map fun v => (.bool (if neg then !v else v),h,n)
    | _,_ => none
  | .un op x => match ρ x with
    | some a => (aUn op a).map fun v => (v,h,n)
    | none => none
  | .conv k x => match ρ x with
    | some (.int _ m) => some (.int k (k.wrap m),h,n)
    | _ => none
  | .bytesOf ty x => match ρ x with
    | some (.string s) => some (.slice (some ⟨n,0,some (byteCells s).length⟩) s.size 2,h.put n (.cells (some ty) (byteCells s) (byteCells s).length),n + 1)
    | _ => none
  | .strOf x => match ρ x with
    | some (.slice none 0 0) => some (.string ByteArray.empty,h,n)
    | some (.slice (some ⟨i,o,some g⟩) len _) => match h.read i g o len with
      | some vs => match bytesOf? vs with
        | some l => some (.string ⟨l.toArray⟩,h,n)
        | none => none
      | none => none
    | _ => none
  | .sliceStr x lo hi => match ρ x with
    | some (.string s) => match aBounds ρ s.size lo hi with
      | some (l,u) => some (.string (s.extract l u),h,n)
      | none => none
    | _ => none
  | .slice esz x lo hi mx => match ρ x with
    | some (.slice none 0 0) => match aBounds ρ 0 lo hi with
      | some _ => (match mx with | none => some (.slice none 0 0,h,n) | some _ => none)
      | none => none
    | some (.slice (some ⟨i,o,some g⟩) len k) => match mx with
      | none => match aBounds ρ len lo hi with
        | some (l,u) => some (.slice (some ⟨i,o + l * esz,some g⟩) (u - l) (if k % 2 = 1 then k - 2 * l else if k = 2 * esz then k else 0),h,n)
        | none => none
      | some mx => match (ρ mx).bind (aBound len) with
        | some m => match aBounds ρ m lo hi,hi with
          | some (l,u),some _ => some (.slice (some ⟨i,o + l * esz,some g⟩) (u - l) (2 * (m - l) + 1),h,n)
          | _,_ => none
        | none => none
    | _ => none
  | .sliceArr esz len x lo hi => match ρ x with
    | some (.pointer (some ⟨i,o,some g⟩)) => match aBounds ρ len lo hi with
      | some (l,u) => some (.slice (some ⟨i,o + l * esz,some g⟩) (u - l) (2 * (len - l) + 1),h,n)
      | none => none
    | _ => none
  | .fieldAddr off x => match ρ x with
    | some (.pointer (some ⟨i,o,some g⟩)) => some (.pointer (some ⟨i,o + off,some g⟩),h,n)
    | _ => none
  | .field off m x => match ρ x with
    | some (.agg cs) => (aPart cs off m).map fun v => (v,h,n)
    | _ => none
  | .indexAddr esz x i => match ρ x, ρ i with
    | some (.slice (some ⟨b,o,some g⟩) len _),some (.int _ ix) => if 0 ≤ ix ∧ ix < len then some (.pointer (some ⟨b,o + ix.toNat * esz,some g⟩),h,n) else none
    | _,_ => none
  | .indexArr esz len x i => match ρ x, ρ i with
    | some (.pointer (some ⟨b,o,some g⟩)),some (.int _ ix) => if 0 ≤ ix ∧ ix < len then some (.pointer (some ⟨b,o + ix.toNat * esz,some g⟩),h,n) else none
    | _,_ => none
  | .index esz len m x i => match ρ x, ρ i with
    | some (.agg cs),some (.int _ ix) => if 0 ≤ ix ∧ ix < len then (aPart cs (ix.toNat * esz) m).map fun v => (v,h,n) else none
    | _,_ => none
  | .indexStr x i => match ρ x, ρ i with
    | some (.string s),some (.int _ ix) => if 0 ≤ ix ∧ ix < s.size then (s[ix.toNat]?).map fun b => (.int .u8 (b.toNat : Int),h,n) else none
    | _,_ => none
  | .extract x i => match ρ x with
    | some (.tuple vs) => (vs[i]?).map fun v => (v,h,n)
    | _ => none
  | .lenStr x => match ρ x with
    | some (.string s) => some (.int .i64 (s.size : Int),h,n)
    | _ => none
  | .lenSlice x => match ρ x with
    | some (.slice _ len _) => some (.int .i64 (len : Int),h,n)
    | _ => none
  | .lenConst m => some (.int .i64 (m : Int),h,n)
  | .append ty esz bytes x y => match ρ x, ρ y with
    | some s,some v => aAppend h n ty esz bytes s v
    | _,_ => none
  | .copy esz x y => match ρ x, ρ y with
    | some d,some v => aCopy h n esz d v
    | _,_ => none
  | .min xs => match mapX ρ xs with
    | some vs => (aMin vs).map fun v => (v,h,n)
    | none => none
  | .max xs => match mapX ρ xs with
    | some vs => (aMax vs).map fun v => (v,h,n)
    | none => none
  | .makeFunc fn first captured => match mapX ρ first,mapX ρ captured with
    | some xs,some us => some (.func (.func fn) xs.toArray us.toArray,h,n)
    | _,_ => none
  | .makeIface t x => (ρ x).map fun v => (.iface t v,h,n)
  | .makeSlice ty esz bytes zero l c => match ρ l, ρ c with
    | some (.int _ l),some (.int _ c) => if 0 ≤ l ∧ l ≤ c ∧ bytes * c ≤ 281474976710656 ∧ c < 9223372036854775808 ∧ 0 < esz ∧ zero.length = esz then
        some (.slice (some ⟨n,0,some (repeatCells zero l.toNat).length⟩) l.toNat (2 * esz),h.put n (.cells (some ty) (repeatCells zero l.toNat) (repeatCells zero l.toNat).length),n + 1)
      else none
    | _,_ => none
  | .lookup kstr commaOk zero x i => match ρ x, ρ i with
    | some m,some k => if keyKind kstr k then (aLookup h commaOk zero m k).map fun v => (v,h,n) else none
    | _,_ => none
  | .call _ _ => none
  | .fail => none
  | .cap x => match ρ x with
    | some (.slice none 0 0) => some (.int .i64 0,h,n)
    | some (.slice (some _) _ k) => if k % 2 = 1 then some (.int .i64 ((k / 2 : Nat) : Int),h,n) else none
    | _ => none
  | .sliceData x => match ρ x with
    | some (.slice none 0 0) => some (.pointer none,h,n)
    | some (.slice (some a) len _) => if 0 < len then some (.pointer (some a),h,n) else none
    | _ => none
  | .unsafeString ty x l => match ρ x, ρ l with
    | some (.pointer none),some (.int _ 0) => some (.string ByteArray.empty,h,n)
    | some (.pointer (some ⟨i,o,some g⟩)),some (.int _ m) => match h.get i with
      | some (.cells (some t) cs min) => if t = ty ∧ 0 < m ∧ m < 9223372036854775808 then match h.read i g o m.toNat with
        | some vs => match bytesOf? vs with
          | some l => some (.string ⟨l.toArray⟩,h.put i (.cells none cs min),n)
          | none => none
        | none => none
        else none
      | _ => none
    | _,_ => none
  | .toUnsafe x => match ρ x with
    | some (.pointer none) => some (.pointer none,h,n)
    | some (.pointer (some ⟨i,o,some g⟩)) => match h.read i g o 1 with
      | some _ => some (.pointer (some ⟨i,o,some g⟩),h,n)
      | none => none
    | _ => none
  | .fromUnsafe u s x => match ρ x with
    | some (.pointer none) => some (.pointer none,h,n)
    | some (.pointer (some ⟨i,o,some g⟩)) => match h.get i with
      | some (.cells (some t) _ min) => if t = u ∧ min ≤ g ∧ o % s = 0 ∧ 0 < s ∧ o + s ≤ g then some (.pointer (some ⟨i,o,some g⟩),h,n) else none
      | _ => none
    | _ => none
  | .rangeStr x => match ρ x with
    | some (.string s) => some (.pointer (some ⟨n,0,some 0⟩),h.put n (.iter s 0),n + 1)
    | _ => none
  | .toFloat k x => match ρ x with
    | some (.int _ m) => some (.float k (k.nearest m),h,n)
    | _ => none
  | .sameF k x => match ρ x with
    | some (.float k' b) => if k' = k then some (.float k b,h,n) else none
    | _ => none
  | .nextStr x => match ρ x with
    | some (.pointer (some ⟨i,0,some 0⟩)) => match h.get i with
      | some (.iter s pos) => if pos < s.size then some (.tuple #[.bool true, .int .i64 (pos : Int), .int .i32 ((Utf8.decode s pos).1 : Int)],h.put i (.iter s (pos + (Utf8.decode s pos).2)),n)
        else some (.tuple #[.bool false],h,n)
      | _ => none
    | _ => none

end
end Go.Proofs.YtkdpjaaohddppaaGreatDoor.Am
namespace Go.Proofs.YtkdpjaaohddppaaGreatDoor.Am
noncomputable section

def cX : Operand → Option X
  | .tmp t => some (.t t)
  | .const v => if flat v then some (.c v) else none
  | .global g => if g < 4096 then some (.g g) else none
  | .func f => some (.f f)
def cXs : List Operand → Option (List X)
  | [] => some []
  | x :: xs => match cX x,cXs xs with
    | some a,some b => some (a :: b)
    | _,_ => none
def cOpt : Option Operand → Option (Option X)
  | none => some none
  | some x => (cX x).map some

def sz (P : Program) (t : TypeId) : Option Nat := (P.info? t).map (·.size)
def isAggD : TypeDesc → Bool
  | .struct _ | .array _ _ => true
  | _ => false
def aggSize (P : Program) (t : TypeId) : Option (Option Nat) :=
  match P.underlying t,P.info? t with
  | some d,some i => if isAggD d then some (some i.size) else some none
  | _,_ => none
def zeroCells? (P : Program) (t : TypeId) : Option (List Value) :=
  match P.info? t with
  | some i => match i.zero with
    | some v => if v.cells.toList.all scalar && v.cells.size == i.size then some v.cells.toList else none
    | none => none
  | none => none

def cParts (place : Nat → Option (Nat × Nat)) : List (Nat × Operand) → Option (List (Nat × Nat × X))
  | [] => some []
  | (i,x) :: rest => match place i,cX x,cParts place rest with
    | some (off,size),some y,some r => some ((off,size,y) :: r)
    | _,_,_ => none

def structPlace (P : Program) (fs : Array Field) (i : Nat) : Option (Nat × Nat) :=
  match fs[i]? with
  | some f => match sz P f.type with
    | some s => some (f.offset,s)
    | none => none
  | none => none

mutual
def leaves (P : Program) : Nat → TypeId → Option (List Leaf)
  | 0,_ => none
  | d + 1,t => match P.underlying t with
    | some .bool => some [.bool]
    | some (.int _) => some [.int]
    | some .string => some [.str]
    | some (.float _) => some [.float]
    | some (.array n e) => match leaves P d e,sz P e with
      | some l,some s => if l.length = s then some (List.replicate n l).flatten else none
      | _,_ => none
    | some (.struct fs) => if P.stoodInHeld t then none else fieldLeaves P d 0 fs.toList
    | _ => none
def fieldLeaves (P : Program) : Nat → Nat → List Field → Option (List Leaf)
  | 0, _, _ => none
  | _ + 1, _, [] => some []
  | d + 1, off, f :: fs => if f.name = "_" ∨ f.offset ≠ off then none else
    match leaves P d f.type, sz P f.type, fieldLeaves P d (off + (sz P f.type).getD 0) fs with
    | some l, some s, some r => if l.length = s then some (l ++ r) else none
    | _, _, _ => none
end

def cBuiltin (P : Program) (b : Builtin) (ts : Array TypeId) (args : List X) : Option AOp :=
  match b,args with
  | .len,[x] => match P.underlying (ts.getD 0 0),ts.size with
    | some .string,1 => some (.lenStr x)
    | some (.slice _),1 => some (.lenSlice x)
    | some (.array n _),1 => some (.lenConst n)
    | some (.pointer a),1 => match P.underlying a with
      | some (.array n _) => some (.lenConst n)
      | _ => none
    | _,_ => none
  | .append,[x,y] => match P.underlying (ts.getD 0 0),P.underlying (ts.getD 1 0),ts.size with
    | some (.slice e),some d,2 => match d with
      | .int _ => none
      | _ => match P.info? e,zeroCells? P e with
        | some i,some _ => if 0 < i.size ∧ 0 < i.bytes then some (.append e i.size i.bytes x y) else none
        | _,_ => none
    | _,_,_ => none
  | .copy,[x,y] => match P.underlying (ts.getD 0 0),ts.size with
    | some (.slice e),2 => match sz P e with
      | some s => if 0 < s then some (.copy s x y) else none
      | none => none
    | _,_ => none
  | .min,xs => some (.min xs)
  | .max,xs => some (.max xs)
  | .cap,[x] => match P.underlying (ts.getD 0 0),ts.size with
    | some (.slice _),1 => some (.cap x)
    | _,_ => none
  | .unsafeSliceData,[x] => some (.sliceData x)
  | .unsafeString,[x,l] => match P.underlying (ts.getD 0 0) with
    | some (.pointer e) => if sz P e = some 1 ∧ 0 < ts.size ∧ 0 < P.depth then some (.unsafeString e x l) else none
    | _ => none
  | _,_ => none

def isConst : Operand → Bool
  | .const _ => true
  | _ => false

def cmpIntOk (P : Program) (t : TypeId) : Bool := match P.info? t with
  | some i => i.comparable && (match P.underlying t with
    | some (.int _) => true
    | _ => false)
  | none => false
def cmpInts (P : Program) : List Nat := (List.range P.types.size).filter fun t => cmpIntOk P t
def ifcRk (P : Program) (lit : Bool) : Rk := if lit then .iface else .ifc (cmpInts P)
def cBin (P : Program) (op : BinOp) (t : TypeId) (x y : Operand) : Option AOp :=
  match cX x,cX y,P.underlying t with
  | some a,some b,some d => match d with
    | .int _ => some (.bin op a b)
    | .string => some (.bin op a b)
    | .float _ => some (.bin op a b)
    | .bool => if op = .eql then some (.eqv false .bool false a b) else if op = .neq then some (.eqv true .bool false a b) else none
    | .pointer e => if sz P e ≠ some 0 ∧ (sz P e).isSome then (if op = .eql then some (.eqv false .ptr false a b) else if op = .neq then some (.eqv true .ptr false a b) else none) else none
    | .slice _ => if op = .eql then some (.eqv false .slice false a b) else if op = .neq then some (.eqv true .slice false a b) else none
    | .map _ _ => if op = .eql then some (.eqv false .map false a b) else if op = .neq then some (.eqv true .map false a b) else none
    | .func _ _ _ => if op = .eql then some (.eqv false .func false a b) else if op = .neq then some (.eqv true .func false a b) else none
    | .interface _ => if op = .eql then some (.eqv false (ifcRk P (isConst x || isConst y)) (isConst x || isConst y) a b) else if op = .neq then some (.eqv true (ifcRk P (isConst x || isConst y)) (isConst x || isConst y) a b) else none
    | .struct _ | .array _ _ => if P.eqGuardType P.depth t then none else match leaves P 40 t with
      | some ls => if op = .eql then some (.eqAgg false ls a b) else if op = .neq then some (.eqAgg true ls a b) else none
      | none => none
    | _ => none
  | _,_,_ => none

def cConv (P : Program) (src dst : TypeId) (x : X) : Option AOp :=
  match P.underlying src,P.underlying dst with
  | some (.int _),some (.int k) => some (.conv k x)
  | some (.int _),some (.float k) => some (.toFloat k x)
  | some (.float _),some (.float k) => some (.sameF k x)
  | some .string,some .string => some (.same x)
  | some .string,some (.slice e) => match P.underlying e,zeroCells? P e with
    | some (.int .u8),some [_] => some (.bytesOf e x)
    | _,_ => none
  | some (.slice e),some .string => match P.underlying e with
    | some (.int .u8) => some (.strOf x)
    | _ => none
  | some (.pointer t),some .unsafePointer => match sz P t with
    | some s => if 0 < s then some (.toUnsafe x) else none
    | none => none
  | some .unsafePointer,some (.pointer u) => match sz P u with
    | some s => if 0 < P.depth then some (.fromUnsafe u s x) else none
    | none => none
  | _,_ => none

def cOp (P : Program) (op : Op) : Option AOp :=
  match op with
  | .move x | .assign x => (cX x).map .mov
  | .pick c a b => match cX c,cX a,cX b with
    | some c,some a,some b => some (.pick c a b)
    | _,_,_ => none
  | .alloc e => (zeroCells? P e).map (.alloc e)
  | .box e x => (cX x).map (.box e)
  | .build t parts => match P.underlying t,zeroCells? P t with
    | some (.struct fs),some z => if fs.all (fun f => (sz P f.type).isSome) then (cParts (structPlace P fs) parts.toList).map (.build z) else none
    | some (.array _ e),some z => match sz P e with
      | some s => (cParts (fun i => some (i * s,s)) parts.toList).map (.build z)
      | none => none
    | _,_ => none
  | .buildSlice t len parts => match P.underlying t with
    | some (.slice e) => match sz P e,zeroCells? P e with
      | some s,some z => if len * s ≤ 16777216 ∧ 0 < s then (cParts (fun i => some (i * s,s)) parts.toList).map (.buildSlice e s len z) else none
      | _,_ => none
    | _ => none
  | .load t a => match aggSize P t,cX a with
    | some m,some a => some (.load m a)
    | _,_ => none
  | .store t a x => match sz P t,cX a,cX x with
    | some m,some a,some x => some (.store m a x)
    | _,_,_ => none
  | .nilCheck x => (cX x).map .nilCheck
  | .binOp op t x y _ => cBin P op t x y
  | .unOp op _ x => (cX x).map (.un op)
  | .convert src dst x => (cX x).bind (cConv P src dst)
  | .makeInterface t x => match P.underlying t with
    | some (.interface _) => none
    | some _ => (cX x).map (.makeIface t)
    | none => none
  | .makeFunc (.func f) first captured => match cXs first.toList,cXs captured.toList with
    | some a,some b => some (.makeFunc f a b)
    | _,_ => none
  | .makeSlice t l c => match P.underlying t with
    | some (.slice e) => match P.info? e,zeroCells? P e,cX l,cX c with
      | some i,some z,some l,some c => if 0 < i.size ∧ 0 < i.bytes then some (.makeSlice e i.size i.bytes z l c) else none
      | _,_,_,_ => none
    | _ => none
  | .slice t x lo hi mx => match P.underlying t,cX x,cOpt lo,cOpt hi,cOpt mx with
    | some (.array n e),some x,some lo,some hi,some none => match sz P e with
      | some s => some (.sliceArr s n x lo hi)
      | none => none
    | some .string,some x,some lo,some hi,some none => some (.sliceStr x lo hi)
    | some (.slice e),some x,some lo,some hi,some mx => match sz P e with
      | some s => if 0 < s then some (.slice s x lo hi mx) else none
      | none => none
    | _,_,_,_,_ => none
  | .fieldAddr s x f => match P.underlying s,cX x with
    | some (.struct fs),some x => match fs[f]? with
      | some fd => match sz P fd.type with
        | some (_ + 1) => some (.fieldAddr fd.offset x)
        | _ => none
      | none => none
    | _,_ => none
  | .field t x f => match P.underlying t,cX x with
    | some (.struct fs),some x => match fs[f]? with
      | some fd => (aggSize P fd.type).map fun m => .field fd.offset m x
      | none => none
    | _,_ => none
  | .indexAddr t x i => match P.underlying t,cX x,cX i with
    | some (.array n e),some x,some i => match sz P e with
      | some s => some (.indexArr s n x i)
      | none => none
    | some (.slice e),some x,some i => (sz P e).map fun s => .indexAddr s x i
    | _,_,_ => none
  | .index t x i => match P.underlying t,cX x,cX i with
    | some (.array n e),some x,some i => match sz P e,aggSize P e with
      | some s,some m => some (.index s n m x i)
      | _,_ => none
    | some .string,some x,some i => some (.indexStr x i)
    | _,_,_ => none
  | .lookup t x i ok => match P.underlying t,cX x,cX i with
    | some (.map k e),some x,some i => match P.underlying k,P.info? e with
      | some (.int _),some info => match info.zero with
        | some z => if flat z then some (.lookup false ok z x i) else none
        | none => none
      | some .string,some info => match info.zero with
        | some z => if flat z then some (.lookup true ok z x i) else none
        | none => none
      | _,_ => none
    | _,_,_ => none
  | .extract x i => (cX x).map fun x => .extract x i
  | .panic _ => some .fail
  | .range t x => match P.underlying t with
    | some .string => (cX x).map .rangeStr
    | _ => none
  | .next x s => if s = true then (cX x).map .nextStr else none
  | .call c => match c.callee,cXs c.args.toList with
    | .builtin b,some args => cBuiltin P b c.argTypes args
    | .value f,some args => (cX f).map fun f => .call f args
    | _,_ => none
  | _ => none

def cDeps (es : List Edge) : List Nat := es.filterMap fun e => if Region.binds .any e then some e.on else none

def dstOk (ntmps : Nat) : Option Tmp → Bool
  | some d => decide (d < ntmps)
  | none => true
def cOper (P : Program) (ntmps : Nat) (draw : Bool) (ops : Array Oper) (o : Oper) : Option AOper :=
  match some ((cOp P o.op).getD .fail),(match o.guard with
    | none => some none
    | some (j,b) => match (ops[j]?).bind (·.dst) with
      | some d => some (some (d,b))
      | none => none : Option (Option (Nat × Bool))) with
  | some a,some g => if dstOk ntmps o.dst then some ⟨o.dst,a,g,if draw then cDeps o.after.toList else []⟩ else none
  | _,_ => none

def cOpers (P : Program) (ntmps : Nat) (draw : Bool) (ops : Array Oper) : List Oper → Option (List AOper)
  | [] => some []
  | o :: os => match cOper P ntmps draw ops o,cOpers P ntmps draw ops os with
    | some a,some b => some (a :: b)
    | _,_ => none

def cCode (P : Program) (ntmps : Nat) : Code → Option ACode
  | .skip => some .skip
  | .region _ ops draw => match cOpers P ntmps draw ops ops.toList with
    | some l => if draw then (if staticOk l then some (.region l (some (openPairs l))) else none) else some (.region l none)
    | none => none
  | .seq a b => match cCode P ntmps a,cCode P ntmps b with
    | some x,some y => some (.seq x y)
    | _,_ => none
  | .cond c a b => match cX c,cCode P ntmps a,cCode P ntmps b with
    | some c,some x,some y => some (.cond c x y)
    | _,_,_ => none
  | .block id b => if id < gB then (cCode P ntmps b).map (.block id) else some .fail
  | .loop b => (cCode P ntmps b).map .loop
  | .exit id => if id < gB then some (.exit id) else some .fail
  | .scope c => (cCode P ntmps c).map .scope
  | .label l => some (.label l)
  | .goto l => some (.exit (gB + l))
  | .ret => some .ret
  | .refuse _ => some .fail
  | .rangeFunc f ps assign body => match cX f,cCode P ntmps assign,cCode P ntmps body with
    | some x,some a,some b => if ps.toList.all (fun p => decide (p < ntmps)) then some (.ranges x ps.toList a b) else some .fail
    | _,_,_ => some .fail

def cRes (P : Program) : List ResultVar → Option (List ARes)
  | [] => some []
  | .tmp t :: rs => (cRes P rs).map (.tmp t :: ·)
  | .cell t ty :: rs => match aggSize P ty,cRes P rs with
    | some m,some r => some (.cell t m :: r)
    | _,_ => none

def cFunc (P : Program) (fn : Func) : Option AFunc :=
  match fn.body with
  | none => none
  | some c => match cCode P fn.ntmps c,cRes P fn.results.toList with
    | some b,some r => some ⟨fn.params.size + fn.nfree,fn.ntmps,r,b⟩
    | _,_ => none

end
end Go.Proofs.YtkdpjaaohddppaaGreatDoor.Am
namespace Go.Proofs.YtkdpjaaohddppaaGreatDoor.Am
noncomputable section
open Go.RowKit (Below)

section
variable {P : Program} {w : World}

theorem run_underlying' {t : TypeId} {d : TypeDesc} (h : P.underlying t = some d) : (underlying t).run P w = .ok d w := by
  simp [underlying,h]
theorem run_typeInfo' {t : TypeId} {i : TypeInfo} (h : P.info? t = some i) : (typeInfo t).run P w = .ok i w := by
  simp [typeInfo,h]
theorem run_sizeOf' {t : TypeId} {s : Nat} (h : sz P t = some s) : (sizeOf t).run P w = .ok s w := by
  unfold sz at h
  cases hi : P.info? t with
  | none => simp [hi] at h
  | some i => simp [hi] at h; subst h; simp [sizeOf,run_typeInfo' hi]
theorem run_zeroValue' {t : TypeId} {i : TypeInfo} {v : Value} (h : P.info? t = some i) (hz : i.zero = some v) : (zeroValue t).run P w = .ok v w := by
  simp [zeroValue,run_typeInfo' h,hz]
theorem zeroCells?_spec {t : TypeId} {z : List Value} (h : zeroCells? P t = some z) :
    ∃ i v,P.info? t = some i ∧ i.zero = some v ∧ z = v.cells.toList ∧ z.all scalar = true ∧ v.cells.size = i.size := by
  unfold zeroCells? at h
  split at h
  · rename_i i hi
    split at h
    · rename_i v hv
      split at h
      · rename_i hc
        simp only [Bool.and_eq_true,beq_iff_eq] at hc
        simp at h
        exact ⟨i,v,hi,hv,h.symm,by rw [← h]; exact hc.1,hc.2⟩
      · simp at h
    · simp at h
  · simp at h

theorem add_eq (b o n : Nat) : Addr.add ⟨b,o,none⟩ n = ⟨b,o + n,none⟩ := by
  unfold Addr.add
  split
  · rename_i h; subst h; rfl
  · rfl

theorem run_loadCellsFrom (b o : Nat) (us : List Value) : ∀ (i : Nat) (acc : Array Value),
    (∀ k u,us[k]? = some u → w.cell? ⟨b,o + i + k,none⟩ = some u) →
    (loadCellsFrom ⟨b,o,none⟩ i us.length acc).run P w = .ok (acc ++ us.toArray) w := by
  induction us with
  | nil => intro i acc _; simp [loadCellsFrom]
  | cons u us ih =>
    intro i acc h
    have h0 := h 0 u (by simp)
    have ih' := ih (i + 1) (acc.push u) (fun k v hv => by
      have := h (k + 1) v (by simpa using hv)
      rw [show o + (i + 1) + k = o + i + (k + 1) from by omega]; exact this)
    simp only [List.length_cons,loadCellsFrom,Sem.run_bind,run_load,add_eq]
    simp only [Nat.add_zero] at h0
    rw [h0]
    simp only [Result.andThen_ok,ih']
    simp

theorem run_loadCells' {b o : Nat} {us : List Value} (h : ∀ k u,us[k]? = some u → w.cell? ⟨b,o + k,none⟩ = some u) {m : Nat} (hm : us.length = m) :
    (loadCells ⟨b,o,none⟩ m).run P w = .ok us.toArray w := by
  subst hm
  have := run_loadCellsFrom (P := P) (w := w) b o us 0 #[] (by simpa using h)
  simpa [loadCells] using this

def spliceA (c : Array Value) (o : Nat) (vs : List Value) : Array Value := (splice c.toList o vs).toArray
theorem spliceA_size {c : Array Value} {o : Nat} {vs : List Value} (h : o + vs.length ≤ c.size) : (spliceA c o vs).size = c.size := by
  simp [spliceA,splice]; omega
theorem splice_length {cs : List Value} {o : Nat} {vs : List Value} (h : o + vs.length ≤ cs.length) : (splice cs o vs).length = cs.length := by
  simp [splice]; omega
theorem splice_nil (cs : List Value) (o : Nat) : splice cs o [] = cs := by simp [splice]
theorem splice_cons (cs : List Value) (o : Nat) (v : Value) (vs : List Value) (h : o < cs.length) : splice cs o (v :: vs) = splice (cs.set o v) (o + 1) vs := by
  simp only [splice,List.length_cons]
  have h1 : (cs.set o v).take (o + 1) = cs.take o ++ [v] := by
    rw [List.take_succ_eq_append_getElem (by simpa using h)]
    simp [List.take_set_of_le]
  have h2 : (cs.set o v).drop (o + 1 + vs.length) = cs.drop (o + (vs.length + 1)) := by
    rw [List.drop_set_of_lt (by omega)]
    congr 1
    omega
  rw [h1,h2]
  simp

theorem get_splice (cs : List Value) (o : Nat) (vs : List Value) (k : Nat) (h : o + vs.length ≤ cs.length) :
    (splice cs o vs)[k]? = if k < o then cs[k]? else if k < o + vs.length then vs[k - o]? else cs[k]? := by
  unfold splice
  have hl : (List.take o cs).length = o := by simp; omega
  split
  · rename_i hk
    rw [List.append_assoc,List.getElem?_append_left (by omega)]
    rw [List.getElem?_take_of_lt hk]
  · rename_i hk
    rw [List.append_assoc,List.getElem?_append_right (by omega),hl]
    split
    · rename_i hk2
      rw [List.getElem?_append_left (by omega)]
    · rename_i hk2
      rw [List.getElem?_append_right (by omega),List.getElem?_drop]
      congr 1
      omega

theorem setCell_eq_setRow {b o : Nat} {c : Array Value} {e : TypeId} {fz : Nat × Nat} (h : w.heap[b]? = some (.cells c e fz)) (v : Value) :
    w.setCell ⟨b,o,none⟩ v = setRow w b (c.setIfInBounds o v) := by
  unfold World.setCell setRow
  congr 1
  apply Array.ext_getElem?
  intro i
  simp only [Array.getElem?_modify]
  by_cases hi : b = i
  · subst hi; simp [h]
  · simp [hi]

theorem setRow_setRow {b : Nat} (c c' : Array Value) : setRow (setRow w b c) b c' = setRow w b c' := by
  unfold setRow
  congr 1
  apply Array.ext_getElem?
  intro i
  simp only [Array.getElem?_modify]
  by_cases hi : b = i
  · subst hi
    cases h : w.heap[b]? with
    | none => simp
    | some x => cases x <;> simp
  · simp [hi]

theorem setRow_self {b : Nat} {c : Array Value} {e : TypeId} {fz : Nat × Nat} (h : w.heap[b]? = some (.cells c e fz)) : setRow w b c = w := by
  have : (setRow w b c).heap = w.heap := by
    apply Array.ext_getElem?
    intro i
    simp only [setRow,Array.getElem?_modify]
    by_cases hi : b = i
    · subst hi; simp [h]
    · simp [hi]
  unfold setRow at this ⊢
  cases w
  simp only [World.mk.injEq,and_true] at this ⊢
  exact this

theorem run_storeCells' (b o : Nat) (vs : List Value) : ∀ (i : Nat) (w : World) (c : Array Value) (e : TypeId) (fz : Nat × Nat),
    w.heap[b]? = some (.cells c e fz) → o + i + vs.length ≤ c.size → (∀ k,k < vs.length → w.frozen? ⟨b,o + i + k,none⟩ = false) →
    (∀ v,v ∈ vs → v.oneCell' = true) →
    (storeCells ⟨b,o,none⟩ vs i).run P w = .ok () (setRow w b (spliceA c (o + i) vs)) := by
  induction vs with
  | nil =>
    intro i w c e fz h _ _ _
    simp [storeCells,spliceA,splice_nil,setRow_self h]
  | cons v vs ih =>
    intro i w c e fz h hl hf hv
    simp only [List.length_cons] at hl
    have hcell : w.cell? ⟨b,o + i,none⟩ = some (c[o + i]'(by omega)) := by
      simp [World.cell?,h]
    have hfr : w.frozen? ⟨b,o + i,none⟩ = false := by simpa using hf 0 (by simp)
    simp only [storeCells,Sem.run_bind,add_eq]
    rw [run_store _ _ _ _ _ (hv v (by simp)),hcell]
    simp only [hfr,Bool.false_eq_true,if_false,Result.andThen_ok]
    rw [setCell_eq_setRow h]
    have hrow : (setRow w b (c.setIfInBounds (o + i) v)).heap[b]? = some (.cells (c.setIfInBounds (o + i) v) e fz) := setRow_same _ h
    rw [ih (i + 1) _ _ e fz hrow (by simp; omega) (fun k hk => by
      have := hf (k + 1) (by simp; omega)
      have hz : (setRow w b (c.setIfInBounds (o + i) v)).frozen? ⟨b,o + (i + 1) + k,none⟩ = w.frozen? ⟨b,o + (i + 1) + k,none⟩ := by
        simp only [World.frozen?,hrow,h]
      rw [hz,show o + (i + 1) + k = o + i + (k + 1) from by omega]; exact this) (fun u hu => hv u (by simp [hu]))]
    rw [setRow_setRow]
    congr 2
    unfold spliceA
    rw [splice_cons _ _ _ _ (by simp; omega)]
    simp [Nat.add_assoc]

end

def Sub (h : AHeap) (T : TH) : Prop := ∀ i b,h.get i = some b → T i = some b
def Fresh (φ : Phi) (T : TH) (n n' : Nat) : Prop := ∀ i,n ≤ i → i < n' → T i = none ∧ ∀ g, φ i g = none

structure Post (G : Nat) (w0 : World) (φ : Phi) (T : TH) (h : AHeap) (n : Nat) (φ' : Phi) (T' : TH) (w' : World) (h' : AHeap) (n' : Nat) : Prop where
  sat : Sat G w0 φ' T' w'
  le : Phi.Le φ φ'
  sub : Sub h' T'
  frame : ∀ i,h.get i = none → ¬(n ≤ i ∧ i < n') → T' i = T i
  fresh : ∀ i,¬(n ≤ i ∧ i < n') → (∀ g, φ i g = none) → ∀ g, φ' i g = none
  mono : n ≤ n'
  dom : ∀ i b,h'.get i = some b → (∃ c,h.get i = some c) ∨ (n ≤ i ∧ i < n')

section
variable {G : Nat} {w0 : World} {φ : Phi} {T : TH} {w : World} {h : AHeap} {n : Nat}

theorem Post.refl (hs : Sat G w0 φ T w) (hh : Sub h T) : Post G w0 φ T h n φ T w h n :=
  ⟨hs, .refl _,hh,fun _ _ _ => rfl,fun _ _ hf => hf,Nat.le_refl _,fun _ b hb => .inl ⟨b,hb⟩⟩
theorem dom_put {i : Nat} {b c : Blk} (hi : h.get i = some c) {n n' : Nat} : ∀ j d,(h.put i b).get j = some d → (∃ c,h.get j = some c) ∨ (n ≤ j ∧ j < n') := by
  intro j d hj
  rw [AHeap.get_put] at hj
  split at hj
  · rename_i e; subst e; exact .inl ⟨c,hi⟩
  · exact .inl ⟨d,hj⟩
theorem Post.lift {φ' : Phi} {T' : TH} {w' : World} {h' : AHeap} {n1 n' : Nat} (p : Post G w0 φ T h n φ' T' w' h' n1) (pm : n1 ≤ n') : Post G w0 φ T h n φ' T' w' h' n' :=
  ⟨p.sat,p.le,p.sub,fun i hi hn => p.frame i hi (by omega),fun i hn hf => p.fresh i (by omega) hf,Nat.le_trans p.mono pm,fun i b hb => (p.dom i b hb).imp_right (by omega)⟩
theorem Post.start {φ' : Phi} {T' : TH} {w' : World} {h2 h' : AHeap} {n' : Nat} (hs : ∀ i b,h2.get i = some b → h.get i = some b) (p : Post G w0 φ T h2 n φ' T' w' h' n') : Post G w0 φ T h n φ' T' w' h' n' :=
  ⟨p.sat,p.le,p.sub,fun i h1 hn => p.frame i (by cases hx : h2.get i with | none => rfl | some b => rw [hs i b hx] at h1; cases h1) hn,p.fresh,p.mono,fun i b hb => (p.dom i b hb).imp_left fun ⟨c,hc⟩ => ⟨c,hs i c hc⟩⟩
theorem Post.early {φ' : Phi} {T' : TH} {w' : World} {h' : AHeap} {n0 n' : Nat} (hn : n ≤ n0) (p : Post G w0 φ T h n0 φ' T' w' h' n') : Post G w0 φ T h n φ' T' w' h' n' :=
  ⟨p.sat,p.le,p.sub,fun i h1 h2 => p.frame i h1 (by omega),fun i h1 h2 => p.fresh i (by omega) h2,Nat.le_trans hn p.mono,fun i b hb => (p.dom i b hb).imp_right (by omega)⟩
theorem read_sound (hs : Sat G w0 φ T w) (hh : Sub h T) {i g o m : Nat} {vs : List Value} (hr : h.read i g o m = some vs) {l : Loc} (hl : φ i g = some l) :
    ∃ us,VRels φ vs us ∧ us.length = m ∧ vs.length = m ∧ vs.all Value.oneCell' = true ∧ ∀ k u,us[k]? = some u → w.cell? ⟨l.block,l.off + o + k,none⟩ = some u := by
  unfold AHeap.read at hr
  split at hr
  · rename_i own cs min hget
    split at hr
    · rename_i hc
      obtain ⟨h1,h2,h3⟩ := hc
      simp at hr
      have hb := hs.blk i _ (hh i _ hget)
      obtain ⟨_,_,hone,hb⟩ := hb
      obtain ⟨_,_,hcell⟩ := hb g l hl h1
      clear hget hb
      subst hr
      have key : ∀ m o,o + m ≤ g → ∃ us,VRels φ ((cs.drop o).take m) us ∧ us.length = m ∧ ∀ k u,us[k]? = some u → w.cell? ⟨l.block,l.off + o + k,none⟩ = some u := by
        intro m
        induction m with
        | zero => intro o _; exact ⟨[],by simp; exact .nil,rfl,fun k u hu => by simp at hu⟩
        | succ m ih =>
          intro o ho
          obtain ⟨us,h4,h5,h6⟩ := ih (o + 1) (by omega)
          have hlt : o < cs.length := by omega
          obtain ⟨u,hu,hru⟩ := hcell o cs[o] (by omega) (by simp [hlt])
          refine ⟨u :: us, ?_,by simp [h5],fun k v hv => ?_⟩
          · rw [List.drop_eq_getElem_cons hlt,List.take_succ_cons]; exact .cons hru h4
          · cases k with
            | zero => simp at hv; subst hv; simpa using hu
            | succ k =>
              simp at hv
              have := h6 k v hv
              rw [show l.off + o + (k + 1) = l.off + (o + 1) + k from by omega]; exact this
      obtain ⟨us,h4,h5,h6⟩ := key m o h3
      refine ⟨us,h4,h5,by rw [h4.length]; exact h5, ?_,h6⟩
      simp only [List.all_eq_true] at hone ⊢
      exact fun v hv => hone v (List.mem_of_mem_drop (List.mem_of_mem_take hv))
    · simp at hr
  · simp at hr

theorem write_sound {P : Program} (hs : Sat G w0 φ T w) (hh : Sub h T) {i g o : Nat} {vs us : List Value} {h' : AHeap} (hw : h.write i g o vs = some h') {l : Loc} (hl : φ i g = some l)
    (hv : VRels φ vs us) (h3 : vs.all Value.oneCell' = true) : ∃ φ' T' w',(storeCells ⟨l.block,l.off + o,none⟩ us).run P w = .ok () w' ∧ Post G w0 φ T h n φ' T' w' h' n := by
  unfold AHeap.write at hw
  split at hw
  · rename_i t cs min hget
    split at hw
    · rename_i hc
      obtain ⟨h1,h2⟩ := hc
      simp at hw
      subst h1
      have hb := hs.blk i _ (hh i _ hget)
      obtain ⟨_,hmin,hall,hb⟩ := hb
      obtain ⟨_,hown,hcell⟩ := hb cs.length l hl hmin
      obtain ⟨hlo,hty,hunf⟩ := hown t rfl
      subst hty
      obtain ⟨hB,hoff, -⟩ := hs.new i _ l hl hlo
      obtain ⟨⟨c,fz,hrow,hsize⟩,hunf'⟩ := id hunf
      have hfit := hs.fits i _ l hl hlo
      have hlen := hv.length
      have hone : ∀ u,u ∈ us → u.oneCell' = true := by
        intro u hu
        obtain ⟨k,hk,rfl⟩ := List.getElem_of_mem hu
        have := hv.get' k (by omega) hk
        rw [this.oneCell]
        simp only [List.all_eq_true] at h3
        exact h3 _ (List.getElem_mem _)
      have hrun := run_storeCells' (P := P) l.block (l.off + o) us 0 w c l.ty fz hrow (by omega) (fun k hk => by
        rw [hoff]; exact hunf' _ (by omega)) hone
      refine ⟨φ.ins i cs.length l,T.put i (.cells (some l.ty) (splice cs o vs) cs.length),_,hrun, ?_⟩
      have hsp : (splice cs o vs).length = cs.length := splice_length h2
      have hsat := hs.write (cs := splice cs o vs) (min := cs.length) (g' := cs.length) hl hlo hrow (c := spliceA c (l.off + o + 0) us) (by rw [spliceA_size]; omega) hsp.symm (Nat.le_refl _)
        (by omega) (.inl rfl) (by
          simp only [splice,List.all_append,Bool.and_eq_true]
          simp only [List.all_eq_true] at hall h3 ⊢
          exact ⟨⟨fun v hv => hall v (List.mem_of_mem_take hv),h3⟩,fun v hv => hall v (List.mem_of_mem_drop hv)⟩) (fun k m hm hk => ?_)
      · refine ⟨hsat, ?_, ?_,fun j hj _ => ?_,fun j _ hf g => ?_,Nat.le_refl _,by rw [← hw]; exact dom_put hget⟩
        · intro j k m hm
          unfold Phi.ins
          split
          · rename_i e; obtain ⟨rfl,rfl⟩ := e; rw [← hm,hl]
          · exact hm
        · intro j b hjb
          rw [← hw,AHeap.get_put] at hjb
          split at hjb
          · rename_i e; subst e; rw [TH.put_same]; exact hjb
          · rename_i e; rw [TH.put_ne _ _ e]; exact hh _ _ hjb
        · by_cases e : i = j
          · subst e; rw [hget] at hj; cases hj
          · exact TH.put_ne _ _ e
        · unfold Phi.ins
          split
          · rename_i e; obtain ⟨rfl,rfl⟩ := e; rw [hf] at hl; cases hl
          · exact hf g
      · have hkm : k = cs.length ∧ m = l := by
          rcases Phi.ins_cases hm with ⟨_,rfl,rfl⟩ | ⟨hm,_⟩
          · exact ⟨rfl,rfl⟩
          · have := (hb k m hm (by omega)).1
            have hk' : k = cs.length := by omega
            subst hk'
            rw [hl] at hm
            exact ⟨rfl,(Option.some.inj hm).symm⟩
        obtain ⟨rfl,rfl⟩ := hkm
        refine ⟨Nat.le_refl _,rfl,hunf,fun j v hj hjv => ?_⟩
        have hcs : ∀ u,(setRow w m.block (spliceA c (m.off + o + 0) us)).cell? ⟨m.block,m.off + j,none⟩ = some u ↔ (splice c.toList o us)[j]? = some u := by
          intro u
          simp only [World.cell?,setRow_same _ hrow]
          simp [spliceA,hoff]
        rw [get_splice _ _ _ _ h2] at hjv
        have hrow' : ∀ u,w.cell? ⟨m.block,m.off + j,none⟩ = some u → c.toList[j]? = some u := by
          intro u hu
          simp only [World.cell?,hrow] at hu
          simpa [hoff] using hu
        have h2' : o + us.length ≤ c.toList.length := by simp; omega
        split at hjv
        · rename_i hjo
          obtain ⟨u,hu,hru⟩ := hcell j v hj hjv
          exact ⟨u,by rw [hcs,get_splice _ _ _ _ h2',if_pos hjo]; exact hrow' u hu,hru⟩
        · rename_i hjo
          split at hjv
          · rename_i hjo2
            obtain ⟨u,hu,hru⟩ := hv.get hjv
            exact ⟨u,by rw [hcs,get_splice _ _ _ _ h2',if_neg hjo,if_pos (by omega)]; exact hu,hru⟩
          · rename_i hjo2
            obtain ⟨u,hu,hru⟩ := hcell j v hj hjv
            exact ⟨u,by rw [hcs,get_splice _ _ _ _ h2',if_neg hjo,if_neg (by omega)]; exact hrow' u hu,hru⟩
    · simp at hw
  · simp at hw

theorem alloc_sound (hs : Sat G w0 φ T w) (hh : Sub h T) (hG : G ≤ n) (hf : Fresh φ T n (n + 1)) {vs us : List Value} (hv : VRels φ vs us) {c : Array Value} (hc : c.toList.take us.length = us) (hone : vs.all Value.oneCell' = true)
    {e : TypeId} {fz : Nat × Nat} (hfz : ∀ o,o < c.size → ¬(fz.1 ≤ o ∧ o < fz.2)) :
    Post G w0 φ T h n (φ.ins n vs.length ⟨w.heap.size,0,true,c.size,e⟩) (T.put n (.cells (some e) vs vs.length)) (w.alloc (.cells c e fz)) (h.put n (.cells (some e) vs vs.length)) (n + 1) := by
  obtain ⟨hT,hφ⟩ := hf n (Nat.le_refl _) (by omega)
  have hlen : us.length ≤ c.size := by
    have := congrArg List.length hc
    simp at this
    omega
  refine ⟨hs.alloc hG (fun k m hm => by rw [hφ] at hm; cases hm) (hφ _) rfl (Nat.le_refl _) hfz (by rw [hv.length]; exact hlen) hone (fun k v hk => ?_) (fun k m hm => by rw [hφ] at hm; cases hm),
    Phi.ins_le (hφ _), ?_,fun j _ hj => ?_,fun j hj hf g => ?_,by omega,fun j d hj => ?_⟩
  · obtain ⟨u,hu,hr⟩ := hv.get hk
    refine ⟨u, ?_,hr⟩
    rw [← hc,List.getElem?_take] at hu
    split at hu
    · simpa using hu
    · cases hu
  · intro j b hjb
    rw [AHeap.get_put] at hjb
    split at hjb
    · rename_i e; subst e; rw [TH.put_same]; exact hjb
    · rename_i e; rw [TH.put_ne _ _ e]; exact hh _ _ hjb
  · exact TH.put_ne _ _ (by omega)
  · unfold Phi.ins
    split
    · rename_i e; omega
    · exact hf g
  · rw [AHeap.get_put] at hj
    split at hj
    · right; omega
    · exact .inl ⟨d,hj⟩

end
end
end Go.Proofs.YtkdpjaaohddppaaGreatDoor.Am
namespace Go.Proofs.YtkdpjaaohddppaaGreatDoor.Am
noncomputable section
open Go.RowKit (Below)

def ores : Next → Option Value
  | .value v => some v
  | .skip => some undef
  | _ => none

def OpDoes (P : Program) (G : Nat) (w0 : World) (φ : Phi) (T : TH) (w : World) (h : AHeap) (n : Nat) (s : Sem Next) (v : Value) (h' : AHeap) (n' : Nat) : Prop :=
  ∃ nx u φ' T' w',s.run P w = .ok nx w' ∧ ores nx = some u ∧ VRel φ' v u ∧ Post G w0 φ T h n φ' T' w' h' n'

def RhoRel (φ : Phi) (σ : Fr) (h : AHeap) (ρ : Operand → Value) : Prop := ∀ x x' v,cX x = some x' → X.ev σ h x' = some v → VRel φ v (ρ x)

section
variable {P : Program} {G : Nat} {w0 : World} {φ : Phi} {T : TH} {w : World} {h : AHeap} {n : Nat} {σ : Fr} {ρ : Operand → Value}

theorem OpDoes.pure (hs : Sat G w0 φ T w) (hh : Sub h T) {s : Sem Next} {v u : Value} (hr : s.run P w = .ok (.value u) w) (hv : VRel φ v u) : OpDoes P G w0 φ T w h n s v h n :=
  ⟨_,u, φ,T,w,hr,rfl,hv, .refl hs hh⟩

theorem cXs_rel (hρ : RhoRel φ σ h ρ) : ∀ {xs : List Operand} {ys : List X} {vs : List Value},cXs xs = some ys → mapX (X.ev σ h) ys = some vs → VRels φ vs (xs.map ρ)
  | [],ys,vs,hc,hm => by simp [cXs] at hc; subst hc; simp [mapX] at hm; subst hm; exact .nil
  | x :: xs,ys,vs,hc,hm => by
    simp only [cXs] at hc
    split at hc
    · rename_i a b ha hb
      simp at hc
      subst hc
      simp only [mapX] at hm
      split at hm
      · rename_i v us hv hus
        simp at hm
        subst hm
        exact .cons (hρ _ _ _ ha hv) (cXs_rel hρ hb hus)
      · simp at hm
    · simp at hc

theorem aggSize_spec {t : TypeId} {m : Option Nat} (h : aggSize P t = some m) : ∃ d i,P.underlying t = some d ∧ P.info? t = some i ∧ m = if isAggD d then some i.size else none := by
  unfold aggSize at h
  split at h
  · rename_i d i h1 h2
    refine ⟨d,i,h1,h2, ?_⟩
    split at h <;> simp_all
  · simp at h
theorem run_isAgg' {t : TypeId} {d : TypeDesc} (h : P.underlying t = some d) : (isAgg t).run P w = .ok (isAggD d) w := by
  simp only [isAgg,Sem.run_bind,run_underlying' h,Result.andThen_ok]
  cases d <;> rfl

theorem load_does (hs : Sat G w0 φ T w) (hh : Sub h T) {t : TypeId} {m : Option Nat} (hm : aggSize P t = some m) {a : Value} {i o g : Nat} {u : Value} (ha : VRel φ (.pointer (some ⟨i,o,some g⟩)) u)
    (ha' : a = u) {v : Value} (hv : (match m with
      | none => match h.read i g o 1 with
        | some [v] => some v
        | _ => none
      | some m => (h.read i g o m).map fun vs => .agg vs.toArray) = some v) : ∃ u',(Instr.loadAt t a).run P w = .ok u' w ∧ VRel φ v u' := by
  subst ha'
  obtain ⟨d,inf,hd,hi,hm'⟩ := aggSize_spec hm
  cases ha with
  | ptr i o g l hl =>
    simp only [Instr.loadAt,Instr.sureAddr,Sem.run_bind,Sem.run_pure,Result.andThen_ok,loadVar,run_isAgg' hd]
    cases hb : isAggD d with
    | false =>
      rw [hb] at hm'
      simp at hm'
      subst hm'
      simp only at hv
      split at hv
      · rename_i v' hr
        simp at hv
        subst hv
        obtain ⟨us,h1,h2,h3,_,h4⟩ := read_sound hs hh hr hl
        cases h1 with
        | cons hx hn =>
          rename_i y ys
          have := h4 0 y (by simp)
          simp only [Nat.add_zero] at this
          refine ⟨y, ?_,hx⟩
          simp [run_load,this]
      · simp at hv
    | true =>
      rw [hb] at hm'
      simp at hm'
      subst hm'
      simp only [Option.map_eq_some_iff] at hv
      obtain ⟨vs,hr,rfl⟩ := hv
      obtain ⟨us,h1,h2,h3,h5,h4⟩ := read_sound hs hh hr hl
      refine ⟨.agg us.toArray, ?_,VRels.agg (by simpa using h1) (by simpa using h5)⟩
      have hsz : sz P t = some inf.size := by simp [sz,hi]
      simp [run_sizeOf' hsz,run_loadCells' h4 h2]

theorem store_does (hs : Sat G w0 φ T w) (hh : Sub h T) {t : TypeId} {m : Nat} (hm : sz P t = some m) {i o g : Nat} {a x : Value} {v : Value} (ha : VRel φ (.pointer (some ⟨i,o,some g⟩)) a)
    (hx : VRel φ v x) (ht : isTuple v = false) (hv : v.cells.size = m) {h' : AHeap} (hw : h.write i g o v.cells.toList = some h') :
    ∃ φ' T' w',(Instr.storeAt t a x).run P w = .ok () w' ∧ Post G w0 φ T h n φ' T' w' h' n := by
  cases ha with
  | ptr i o g l hl =>
    obtain ⟨φ',T',w',h1,h2⟩ := write_sound (P := P) (n := n) hs hh hw hl hx.cells (hx.oneCells ht)
    refine ⟨φ',T',w', ?_,h2⟩
    have hsize : x.cells.size = m := by rw [← hv]; simpa using hx.cells.length.symm
    simp [Instr.storeAt,Instr.sureAddr,storeVar,run_sizeOf' hm,hsize,h1]

theorem newRow_run (e : TypeId) (c : Array Value) : (newRow e c).run P w = .ok ⟨w.heap.size,0,none⟩ (w.alloc (.cells c e)) := by
  simp only [newRow,Sem.run_bind,run_newObj,Result.andThen_ok,Sem.run_pure]; rfl

theorem alloc_does (hs : Sat G w0 φ T w) (hh : Sub h T) (hG : G ≤ n) (hf : Fresh φ T n (n + 1)) {e : TypeId} {x y : Value} (hv : VRel φ x y) (ht : isTuple x = false) :
    ∃ φ' T' w',(newVar e y).run P w = .ok ⟨w.heap.size,0,none⟩ w' ∧ VRel φ' (.pointer (some ⟨n,0,some x.cells.toList.length⟩)) (.pointer (some ⟨w.heap.size,0,none⟩)) ∧
      Post G w0 φ T h n φ' T' w' (h.put n (.cells (some e) x.cells.toList x.cells.toList.length)) (n + 1) := by
  have hp := alloc_sound (w := w) (e := e) (fz := (0,0)) hs hh hG hf hv.cells (c := y.cells) (List.take_of_length_le (by simp)) (hv.oneCells ht) (fun o _ => by omega)
  refine ⟨_,_,_,newRow_run _ _, ?_,hp⟩
  exact VRel.ptr n 0 _ _ (Phi.ins_same _ _ _ _)


theorem eqGuard_run (op : BinOp) (t : TypeId) (x y : Operand) {a b : Value} (h : ∀ xs ys,¬(a = .agg xs ∧ b = .agg ys)) (h2 : ¬(a = .nilIface ∧ b = .nilIface) ∨ (isConst x || isConst y) = true) :
    (eqGuard op t x y a b).run P w = .ok () w := by
  have hnil : (isConst x || isConst y) = true → ∀ op,(eqGuard op t x y .nilIface .nilIface).run P w = .ok () w := by
    intro hc op
    cases op <;> first | rfl | (cases x <;> cases y <;> first | rfl | (simp [isConst] at hc))
  cases op
  case eql => cases a <;> cases b <;> first | rfl | exact absurd ⟨rfl,rfl⟩ (h _ _) | exact hnil (h2.resolve_left fun hn => hn ⟨rfl,rfl⟩) _
  case neq => cases a <;> cases b <;> first | rfl | exact absurd ⟨rfl,rfl⟩ (h _ _) | exact hnil (h2.resolve_left fun hn => hn ⟨rfl,rfl⟩) _
  all_goals rfl

theorem aIntOp_sound {op : BinOp} {k : IntKind} {a b : Int} {v : Value} (h1 : op ≠ .shl) (h2 : op ≠ .shr) (h : aIntOp op k a b = some v) (t : TypeId) : (binOp op t (.int k a) (.int k b)).run P w = .ok v w := by
  cases op <;> simp only [aIntOp] at h <;> (try contradiction) <;> (try split at h) <;> (try (simp at h; done)) <;> (obtain rfl := Option.some.inj h)
  all_goals simp [binOp,Op.intArith,Op.intDiv,Op.intBits,Op.intCmp, *]

theorem aShift_sound {op : BinOp} {k k' : IntKind} {a b : Int} {v : Value} (h : aShift op k a b = some v) (t : TypeId) : (binOp op t (.int k a) (.int k' b)).run P w = .ok v w := by
  unfold aShift at h
  split at h
  · simp at h
  · rename_i hb
    cases op <;> simp only at h <;> (try (simp at h; done)) <;> (obtain rfl := Option.some.inj h)
    all_goals simp [binOp,Op.shift,hb]

theorem aStrOp_sound {op : BinOp} {a b : ByteArray} {v : Value} (h : aStrOp op a b = some v) (t : TypeId) : (binOp op t (.string a) (.string b)).run P w = .ok v w := by
  cases op <;> simp only [aStrOp] at h <;> (try (simp at h; done)) <;> (try split at h) <;> (try (simp at h; done)) <;> (obtain rfl := Option.some.inj h)
  case add hs =>
    have hc : ¬ ((((a.size + b.size : Nat) : Int)) > IntKind.i64.max) := by
      rw [show IntKind.i64.max = 9223372036854775807 from by decide]; omega
    simp only [binOp,Op.stringOp,if_neg hc,Sem.run_pure]
  all_goals rfl

theorem aFloatOp_sound {op : BinOp} {k : FloatKind} {a b : Nat} {v : Value} (h : aFloatOp op k a b = some v) (t : TypeId) : (binOp op t (.float k a) (.float k b)).run P w = .ok v w ∧ scalar v = true := by
  cases op <;> simp only [aFloatOp] at h <;> (try contradiction) <;> (try (simp only [Option.map_eq_some_iff] at h; obtain ⟨r,hr,rfl⟩ := h)) <;> (try (obtain rfl := Option.some.inj h)) <;> refine ⟨?_,rfl⟩
  all_goals simp [binOp,Op.floatArith,Op.floatCmp, *]

theorem aBin_sound {op : BinOp} {a b v : Value} (h : aBin op a b = some v) (t : TypeId) (x y : Operand) :
    (do eqGuard op t x y a b; binOp op t a b : Sem Value).run P w = .ok v w := by
  have hg : (eqGuard op t x y a b).run P w = .ok () w := by
    apply eqGuard_run
    · rintro xs ys ⟨rfl,rfl⟩; simp [aBin] at h
    · left; rintro ⟨rfl,rfl⟩; simp [aBin] at h
  simp only [Sem.run_bind,hg,Result.andThen_ok]
  unfold aBin at h
  split at h
  · split at h
    · exact aShift_sound h t
    · exact aShift_sound h t
    · split at h
      · rename_i h1 h2 hk
        subst hk
        exact aIntOp_sound (by simpa using h1) (by simpa using h2) h t
      · simp at h
  · exact aStrOp_sound h t
  · split at h
    · rename_i hk; subst hk; exact (aFloatOp_sound h t).1
    · simp at h
  · simp at h

end
end
end Go.Proofs.YtkdpjaaohddppaaGreatDoor.Am
namespace Go.Proofs.YtkdpjaaohddppaaGreatDoor.Am
noncomputable section
open Go.RowKit (Below)

section
variable {P : Program} {G : Nat} {w0 : World} {φ : Phi} {T : TH} {w : World} {h : AHeap} {n : Nat} {σ : Fr} {ρ : Operand → Value}

theorem eqGuard_rel (op : BinOp) (t : TypeId) (x y : Operand) {a b : Value} (k : Rk) {lit : Bool} {a' b' : Value} {r : Bool} (ha : VRel φ a' a) (hb : VRel φ b' b) (h : aEqv k lit a' b' = some r)
    (hl : lit = true → (isConst x || isConst y) = true) : (eqGuard op t x y a b).run P w = .ok () w := by
  apply eqGuard_run
  · rintro xs ys ⟨rfl,rfl⟩
    cases ha; cases hb; simp [aEqv] at h
  · by_cases hn : a = .nilIface ∧ b = .nilIface
    · obtain ⟨rfl,rfl⟩ := hn
      cases ha; cases hb
      right
      apply hl
      simp only [aEqv] at h
      split at h
      · rename_i hk; exact hk.2
      · simp at h
    · exact .inl hn

def rkD : Rk → TypeDesc → Bool
  | .bool, .bool | .ptr, .pointer _ | .slice, .slice _ | .map, .map _ _ | .func, .func _ _ _ | .iface, .interface _ | .ifc _, .interface _ => true
  | _,_ => false

theorem ifcRk_d (P : Program) (lit : Bool) (ms : _) : rkD (ifcRk P lit) (.interface ms) = true := by
  unfold ifcRk; split <;> rfl
theorem ifcRk_ok (P : Program) (lit : Bool) : ∀ ts,ifcRk P lit = .ifc ts → ∀ u,ts.contains u = true → cmpIntOk P u = true := by
  intro ts hts u hu
  unfold ifcRk at hts
  split at hts
  · cases hts
  · simp only [Rk.ifc.injEq] at hts
    subst hts
    have := List.contains_iff_mem.1 hu
    simp only [cmpInts,List.mem_filter] at this
    exact this.2
theorem aIfc_sound {k : Rk} {t : TypeId} {d : TypeDesc} (ht : P.underlying t = some d) (hk : rkD k d = true) (hi : ∀ ts,k = .ifc ts → ∀ u,ts.contains u = true → cmpIntOk P u = true)
    {t1 t2 : TypeId} {v1 v2 a b : Value} {r : Bool} (ha : VRel φ (.iface t1 v1) a) (hb : VRel φ (.iface t2 v2) b) (h : aIfc k t1 v1 t2 v2 = some r) (dep : Nat) : (Op.equalIn (dep + 1 + 1) t a b).run P w = .ok r w := by
  unfold aIfc at h
  split at h
  · rename_i ts
    cases d <;> simp [rkD] at hk
    cases ha with
    | iface _ _ u1 hu1 =>
    cases hb with
    | iface _ _ u2 hu2 =>
    by_cases ht12 : t1 = t2
    · subst ht12
      rw [if_pos rfl] at h
      split at h
      · rename_i ka a kb b
        split at h
        · rename_i hc
          obtain ⟨hc,rfl⟩ := hc
          obtain rfl := Option.some.inj h
          cases hu1; cases hu2
          have hok := hi ts rfl t1 hc
          unfold cmpIntOk at hok
          split at hok
          · rename_i i hinf
            simp only [Bool.and_eq_true] at hok
            obtain ⟨hcmp,hok⟩ := hok
            split at hok
            · rename_i q hund
              simp [Op.equalIn,run_underlying' ht,run_underlying' hund,run_typeInfo' hinf,hcmp]
            · cases hok
          · cases hok
        · simp at h
      · simp at h
    · rw [if_neg ht12] at h
      obtain rfl := Option.some.inj h
      simp [Op.equalIn,run_underlying' ht,ht12]
  · simp at h
set_option maxHeartbeats 1000000 in
theorem aEqv_sound {k : Rk} {lit : Bool} {t : TypeId} {d : TypeDesc} (ht : P.underlying t = some d) (hk : rkD k d = true) (hp : ∀ e,d = .pointer e → ∃ s,sz P e = some s ∧ s ≠ 0) (hi : ∀ ts,k = .ifc ts → ∀ u,ts.contains u = true → cmpIntOk P u = true)
    {a' b' a b : Value} {r : Bool} (ha : VRel φ a' a) (hb : VRel φ b' b) (h : aEqv k lit a' b' = some r) : (Op.equal t a b).run P w = .ok r w := by
  by_cases hif : ∃ t1 v1 t2 v2,a' = .iface t1 v1 ∧ b' = .iface t2 v2
  · obtain ⟨t1,v1,t2,v2,rfl,rfl⟩ := hif
    exact aIfc_sound ht hk hi ha hb h 9998
  have key : ∀ dep,(Op.equalIn (dep + 1) t a b).run P w = .ok r w := by
    intro dep
    unfold aEqv at h
    split at h
    case h_15 t1 v1 t2 v2 => exact absurd ⟨t1,v1,t2,v2,rfl,rfl⟩ hif
    all_goals first | (simp at h; done) | (split at h <;> try (simp at h; done))
    all_goals (rename_i hkk; obtain rfl := Option.some.inj h)
    · -- bool
      subst hkk; cases d <;> simp [rkD] at hk
      cases ha; cases hb
      simp [Op.equalIn,run_underlying' ht]
    · -- p == nil
      subst hkk; cases d <;> simp [rkD] at hk
      cases hb
      cases ha <;> simp [Op.equalIn,run_underlying' ht]
    · subst hkk; cases d <;> simp [rkD] at hk
      cases ha
      cases hb <;> simp [Op.equalIn,run_underlying' ht]
    · obtain ⟨rfl,h1,h2⟩ := hkk
      cases d <;> simp [rkD] at hk
      rename_i e
      obtain ⟨s,hsz,hs0⟩ := hp e rfl
      cases ha with
      | ptr i o g l hl =>
        cases hb with
        | ptr i' o' g' l' hl' =>
          simp only at h1 h2
          obtain rfl := h1
          obtain rfl := Option.some.inj h2
          rw [hl] at hl'
          obtain rfl := Option.some.inj hl'
          simp only [Op.equalIn,Sem.run_bind,run_underlying' ht,Result.andThen_ok,run_sizeOf' hsz,ne_eq,hs0,not_false_eq_true,if_true]
          simp only [sameAddr,beq_self_eq_true,if_true,Sem.run_pure,Result.ok.injEq,and_true]
          by_cases ho : o = o'
          · subst ho; simp
          · rw [decide_eq_false (by simpa using ho)]
            simp [beq_eq_false_iff_ne,ho]
    · subst hkk; cases d <;> simp [rkD] at hk
      cases hb
      cases ha <;> simp [Op.equalIn,run_underlying' ht]
    · subst hkk; cases d <;> simp [rkD] at hk
      cases ha
      cases hb <;> simp [Op.equalIn,run_underlying' ht]
    · subst hkk; cases d <;> simp [rkD] at hk
      cases hb
      cases ha <;> simp [Op.equalIn,run_underlying' ht]
    · subst hkk; cases d <;> simp [rkD] at hk
      cases ha
      cases hb <;> simp [Op.equalIn,run_underlying' ht]
    · subst hkk; cases d <;> simp [rkD] at hk
      cases ha; cases hb; simp [Op.equalIn,run_underlying' ht]
    · subst hkk; cases d <;> simp [rkD] at hk
      cases ha; cases hb; simp [Op.equalIn,run_underlying' ht]
    · subst hkk; cases d <;> simp [rkD] at hk
      cases ha; cases hb; simp [Op.equalIn,run_underlying' ht]
    · obtain ⟨rfl,_⟩ := hkk; cases d <;> simp [rkD] at hk
      cases ha; cases hb; simp [Op.equalIn,run_underlying' ht]
    · cases k <;> simp [Rk.isI] at hkk <;> cases d <;> simp [rkD] at hk <;> (cases ha; cases hb; simp [Op.equalIn,run_underlying' ht])
    · cases k <;> simp [Rk.isI] at hkk <;> cases d <;> simp [rkD] at hk <;> (cases ha; cases hb; simp [Op.equalIn,run_underlying' ht])
  exact key 9999

def plainPair : Value → Value → Bool
  | .int _ _, .int _ _ | .float _ _, .float _ _ | .complex _ _ _, .complex _ _ _ | .string _, .string _ => false
  | _,_ => true
theorem eqv_bin (op : BinOp) (hop : op = .eql ∨ op = .neq) (t : TypeId) {k : Rk} {lit : Bool} {a' b' a b : Value} {r : Bool} (ha : VRel φ a' a) (hb : VRel φ b' b) (h : aEqv k lit a' b' = some r)
    (he : (Op.equal t a b).run P w = .ok r w) : (binOp op t a b).run P w = .ok (.bool (if op = .neq then !r else r)) w := by
  have hc : ∀ a b : Value,plainPair a b = true → (binOp .eql t a b = do Pure.pure (.bool (← Op.equal t a b))) ∧ (binOp .neq t a b = do Pure.pure (.bool (!(← Op.equal t a b)))) := by
    intro a b hm
    cases a <;> cases b <;> first | exact ⟨rfl,rfl⟩ | (simp [plainPair] at hm; done)
  have hab : plainPair a b = true := by
    clear he hc
    cases ha <;> cases hb <;> first | rfl | (simp [aEqv] at h; done)
  obtain ⟨h1,h2⟩ := hc a b hab
  rcases hop with rfl | rfl
  · rw [h1]; simp [he]
  · rw [h2]; simp [he]

theorem un_sound {op : UnOp} {a v : Value} (h : aUn op a = some v) : (Op.unary op a).run P w = .ok v w := by
  unfold aUn at h
  split at h
  · cases op <;> simp only at h <;> (try (simp at h; done)) <;> (obtain rfl := Option.some.inj h)
    · simp [Op.unary,Op.intArith]
    · simp [Op.unary,Op.intBits]
  · cases op <;> simp only at h <;> (try (simp at h; done)) <;> (obtain rfl := Option.some.inj h)
    simp [Op.unary]
  · cases op <;> simp only at h <;> (try (simp at h; done)) <;> (obtain rfl := Option.some.inj h)
    simp [Op.unary]
  · simp at h

theorem bound_sound {v u : Value} {m k : Nat} {M : Nat} {code : BoundsCode} (h : aBound m v = some k) (hv : VRel φ v u) (hM : m ≤ M) : (Instr.sliceBound u M code).run P w = .ok k w ∧ k ≤ m := by
  unfold aBound at h
  split at h
  · split at h
    · rename_i hk n hc
      obtain rfl := Option.some.inj h
      cases hv
      refine ⟨?_,by omega⟩
      simp only [Instr.sliceBound,Sem.run_bind,asIntOf,Sem.run_pure,Result.andThen_ok]
      rw [if_pos ⟨hc.1,by omega⟩]
      simp
    · simp at h
  · simp at h

theorem cOpt_spec {x : Option Operand} {y : Option X} (h : cOpt x = some y) : (x = none ∧ y = none) ∨ ∃ a b,x = some a ∧ y = some b ∧ cX a = some b := by
  cases x with
  | none => simp [cOpt] at h; exact .inl ⟨rfl,h.symm⟩
  | some a =>
    simp only [cOpt,Option.map_eq_some_iff] at h
    obtain ⟨b,hb,rfl⟩ := h
    exact .inr ⟨a,b,rfl,rfl,hb⟩

theorem bounds_sound (hρ : RhoRel φ σ h ρ) {len cap : Nat} {lo hi : Option Operand} {lo' hi' : Option X} {l u : Nat} (hlo : cOpt lo = some lo') (hhi : cOpt hi = some hi')
    (hb : aBounds (X.ev σ h) len lo' hi' = some (l,u)) (hc : len ≤ cap) (isSlice : Bool) :
    (Instr.sliceBounds isSlice len cap (lo.map ρ) (hi.map ρ) none).run P w = .ok (l,u,cap) w ∧ l ≤ u ∧ u ≤ len := by
  unfold aBounds at hb
  split at hb
  · simp at hb
  · rename_i u' hu
    split at hb
    · simp at hb
    · rename_i l' hl
      simp at hb
      obtain ⟨rfl,rfl⟩ := hb
      have h1 : (∀ code : BoundsCode,(match (hi.map ρ) with | some v => Instr.sliceBound v cap code | none => Pure.pure len : Sem Nat).run P w = .ok u' w) ∧ u' ≤ len := by
        rcases cOpt_spec hhi with ⟨rfl,rfl⟩ | ⟨a,b,rfl,rfl,hab⟩
        · simp at hu; subst hu; exact ⟨fun _ => rfl,Nat.le_refl _⟩
        · simp only [Option.bind_eq_some_iff] at hu
          obtain ⟨v,hv,hu⟩ := hu
          exact ⟨fun code => (bound_sound hu (hρ _ _ _ hab hv) hc).1,(bound_sound (P := P) (w := w) (code := .index) hu (hρ _ _ _ hab hv) hc).2⟩
      have h2 : (∀ code : BoundsCode,(match (lo.map ρ) with | some v => Instr.sliceBound v u' code | none => Pure.pure 0 : Sem Nat).run P w = .ok l' w) ∧ l' ≤ u' := by
        rcases cOpt_spec hlo with ⟨rfl,rfl⟩ | ⟨a,b,rfl,rfl,hab⟩
        · simp at hl; subst hl; exact ⟨fun _ => rfl,Nat.zero_le _⟩
        · simp only [Option.bind_eq_some_iff] at hl
          obtain ⟨v,hv,hl⟩ := hl
          exact ⟨fun code => (bound_sound hl (hρ _ _ _ hab hv) (Nat.le_refl _)).1,(bound_sound (P := P) (w := w) (code := .index) hl (hρ _ _ _ hab hv) (Nat.le_refl _)).2⟩
      refine ⟨?_,h2.2,h1.2⟩
      have e1 := h1.1 (if isSlice then .sliceAcap else .sliceAlen)
      have e2 := h2.1 .sliceB
      unfold Instr.sliceBounds
      cases hhi' : hi.map ρ with
      | none =>
        rw [hhi'] at e1
        simp only [Sem.run_pure,Result.ok.injEq,and_true] at e1
        subst e1
        cases hlo' : lo.map ρ with
        | none => rw [hlo'] at e2; simp at e2; subst e2; simp
        | some v => rw [hlo'] at e2; simp only at e2; simp [e2]
      | some v =>
        rw [hhi'] at e1
        simp only at e1
        cases hlo' : lo.map ρ with
        | none => rw [hlo'] at e2; simp at e2; subst e2; simp [e1]
        | some v => rw [hlo'] at e2; simp only at e2; simp [e1,e2]

end
end
end Go.Proofs.YtkdpjaaohddppaaGreatDoor.Am
namespace Go.Proofs.YtkdpjaaohddppaaGreatDoor.Am
noncomputable section
open Go.RowKit (Below)

section
variable {P : Program} {G : Nat} {w0 : World} {φ : Phi} {T : TH} {w : World} {h : AHeap} {n : Nat} {σ : Fr} {ρ : Operand → Value}

/- ---------------------------------------------------------------- strings and slices,cut -/

theorem sliceStr_sound (hρ : RhoRel φ σ h ρ) {t : TypeId} (ht : P.underlying t = some .string) {s : ByteArray} {lo hi : Option Operand} {lo' hi' : Option X} {l u : Nat} (hlo : cOpt lo = some lo')
    (hhi : cOpt hi = some hi') (hb : aBounds (X.ev σ h) s.size lo' hi' = some (l,u)) :
    (Instr.sliceAt t (.string s) (lo.map ρ) (hi.map ρ) none).run P w = .ok (.string (s.extract l u)) w := by
  have hb' := (bounds_sound (P := P) (w := w) hρ hlo hhi hb (Nat.le_refl _) false).1
  simp only [Instr.sliceAt,Instr.slice,Sem.run_bind,run_underlying' ht,Result.andThen_ok,Option.isSome_none,Bool.false_eq_true,if_false,hb',Sem.run_pure]

theorem sliceArr_sound (hρ : RhoRel φ σ h ρ) {t e : TypeId} {len s : Nat} (ht : P.underlying t = some (.array len e)) (hs : sz P e = some s) {i o g : Nat} {a : Value} (ha : VRel φ (.pointer (some ⟨i,o,some g⟩)) a)
    {lo hi : Option Operand} {lo' hi' : Option X} {l u : Nat} (hlo : cOpt lo = some lo') (hhi : cOpt hi = some hi') (hb : aBounds (X.ev σ h) len lo' hi' = some (l,u)) :
    ∃ v,(Instr.sliceAt t a (lo.map ρ) (hi.map ρ) none).run P w = .ok v w ∧ VRel φ (.slice (some ⟨i,o + l * s,some g⟩) (u - l) (2 * (len - l) + 1)) v := by
  cases ha with
  | ptr i o g lc hl =>
    obtain ⟨hb',h1,h2⟩ := bounds_sound (P := P) (w := w) hρ hlo hhi hb (Nat.le_refl _) false
    refine ⟨_,by simp only [Instr.sliceAt,Sem.run_bind,run_underlying' ht,Result.andThen_ok,Instr.sureAddr,Sem.run_pure,hb',run_sizeOf' hs]; rfl, ?_⟩
    refine VRel.slice i (o + l * s) g (u - l) _ lc _ (len - l) hl (by omega) ?_ (.inr (.inl rfl))
    by_cases hc : len = l
    · left; omega
    · right; rw [if_neg hc,add_eq]; congr 1; omega

theorem slice_sound (hρ : RhoRel φ σ h ρ) {t e : TypeId} {s : Nat} (ht : P.underlying t = some (.slice e)) (hsz : sz P e = some s) {i o g len k : Nat} {a : Value}
    (ha : VRel φ (.slice (some ⟨i,o,some g⟩) len k) a) {lo hi : Option Operand} {lo' hi' : Option X} {l u : Nat} (hlo : cOpt lo = some lo') (hhi : cOpt hi = some hi')
    (hb : aBounds (X.ev σ h) len lo' hi' = some (l,u)) :
    ∃ v,(Instr.sliceAt t a (lo.map ρ) (hi.map ρ) none).run P w = .ok v w ∧
      VRel φ (.slice (some ⟨i,o + l * s,some g⟩) (u - l) (if k % 2 = 1 then k - 2 * l else if k = 2 * s then k else 0)) v := by
  cases ha with
  | slice i o g len k lc a c hl hn ha hk =>
    obtain ⟨hb',h1,h2⟩ := bounds_sound (P := P) (w := w) hρ hlo hhi hb hn true
    refine ⟨_,by simp only [Instr.sliceAt,Instr.slice,Sem.run_bind,run_underlying' ht,Result.andThen_ok,Sem.run_pure,hb',run_sizeOf' hsz]; rfl, ?_⟩
    have hrel : ∀ a',(c - l = 0 ∨ a' = ⟨lc.block,lc.off + (o + l * s),none⟩) → VRel φ (.slice (some ⟨i,o + l * s,some g⟩) (u - l) (if k % 2 = 1 then k - 2 * l else if k = 2 * s then k else 0)) (.slice (some a') (u - l) (c - l)) := by
      intro a' ha'
      refine VRel.slice i (o + l * s) g (u - l) _ lc a' (c - l) hl (by omega) ha' ?_
      split
      · rename_i hodd
        rcases hk with hk | hk | ⟨e',hk,_⟩
        · omega
        · right; left; omega
        · omega
      · split
        · rename_i hs'
          rcases hk with hk | hk | ⟨e',hke,ho,hfit⟩
          · left; exact hk
          · omega
          · right; right
            have he : e' = s := by omega
            subst he
            refine ⟨e',hke,ho, ?_⟩
            have : l * e' + (c - l) * e' = c * e' := by rw [← Nat.add_mul]; congr 1; omega
            omega
        · left; rfl
    by_cases hc : c = l
    · rw [if_pos hc]; exact hrel _ (.inl (by omega))
    · rw [if_neg hc]
      refine hrel _ ?_
      by_cases h0 : c - l = 0
      · exact .inl h0
      · right
        rcases ha with ha | ha
        · omega
        · subst ha; show Addr.add _ _ = _; rw [add_eq]; congr 1; omega

theorem slice_nil_sound (hρ : RhoRel φ σ h ρ) {t e : TypeId} {s : Nat} (ht : P.underlying t = some (.slice e)) (hsz : sz P e = some s) {lo hi : Option Operand} {lo' hi' : Option X} {l u : Nat} (hlo : cOpt lo = some lo')
    (hhi : cOpt hi = some hi') (hb : aBounds (X.ev σ h) 0 lo' hi' = some (l,u)) :
    (Instr.sliceAt t (.slice none 0 0) (lo.map ρ) (hi.map ρ) none).run P w = .ok (.slice none 0 0) w := by
  obtain ⟨hb',h1,h2⟩ := bounds_sound (P := P) (w := w) hρ hlo hhi hb (Nat.le_refl _) true
  have hl0 : l = 0 := by omega
  have hu0 : u = 0 := by omega
  subst hl0; subst hu0
  simp [Instr.sliceAt,Instr.slice,run_underlying' ht,hb',run_sizeOf' hsz]

theorem slice3_sound (hρ : RhoRel φ σ h ρ) {t e : TypeId} {s : Nat} (ht : P.underlying t = some (.slice e)) (hsz : sz P e = some s) {i o g len k : Nat} {a : Value}
    (ha : VRel φ (.slice (some ⟨i,o,some g⟩) len k) a) {lo : Option Operand} {hi mx : Operand} {lo' : Option X} {hi' mx' : X} {l u m : Nat} (hlo : cOpt lo = some lo') (hhi : cX hi = some hi') (hmx : cX mx = some mx')
    (hm : (X.ev σ h mx').bind (aBound len) = some m) (hb : aBounds (X.ev σ h) m lo' (some hi') = some (l,u)) :
    ∃ v,(Instr.sliceAt t a (lo.map ρ) (some (ρ hi)) (some (ρ mx))).run P w = .ok v w ∧ VRel φ (.slice (some ⟨i,o + l * s,some g⟩) (u - l) (2 * (m - l) + 1)) v := by
  cases ha with
  | slice i o g len k lc a c hl hn ha hk =>
    simp only [Option.bind_eq_some_iff] at hm
    obtain ⟨mv,hmv,hm⟩ := hm
    obtain ⟨hm1,hm2⟩ := bound_sound (P := P) (w := w) (code := .slice3Acap) hm (hρ _ _ _ hmx hmv) hn
    unfold aBounds at hb
    split at hb
    · simp at hb
    · rename_i u' hu
      split at hb
      · simp at hb
      · rename_i l' hl'
        simp at hb
        obtain ⟨rfl,rfl⟩ := hb
        simp only [Option.bind_eq_some_iff] at hu
        obtain ⟨hv,hhv,hu⟩ := hu
        obtain ⟨h1,h2⟩ := bound_sound (P := P) (w := w) (code := .slice3B) hu (hρ _ _ _ hhi hhv) (Nat.le_refl _)
        have h3 : (match (lo.map ρ) with | some v => Instr.sliceBound v u' .slice3C | none => Pure.pure 0 : Sem Nat).run P w = .ok l' w ∧ l' ≤ u' := by
          rcases cOpt_spec hlo with ⟨rfl,rfl⟩ | ⟨a,b,rfl,rfl,hab⟩
          · simp at hl'; subst hl'; exact ⟨rfl,Nat.zero_le _⟩
          · simp only [Option.bind_eq_some_iff] at hl'
            obtain ⟨v,hv,hl'⟩ := hl'
            exact bound_sound hl' (hρ _ _ _ hab hv) (Nat.le_refl _)
        have hbnd : (Instr.sliceBounds true len c (lo.map ρ) (some (ρ hi)) (some (ρ mx))).run P w = .ok (l',u',m) w := by
          unfold Instr.sliceBounds
          have h3' := h3.1
          cases hlo'' : lo.map ρ with
          | none => rw [hlo''] at h3'; simp at h3'; subst h3'; simp [hm1,h1]
          | some v => rw [hlo''] at h3'; simp only at h3'; simp [hm1,h1,h3']
        refine ⟨_,by simp only [Instr.sliceAt,Instr.slice,Sem.run_bind,run_underlying' ht,Result.andThen_ok,Sem.run_pure,hbnd,run_sizeOf' hsz]; rfl, ?_⟩
        have hrel : ∀ a',(m - l' = 0 ∨ a' = ⟨lc.block,lc.off + (o + l' * s),none⟩) → VRel φ (.slice (some ⟨i,o + l' * s,some g⟩) (u' - l') (2 * (m - l') + 1)) (.slice (some a') (u' - l') (m - l')) := by
          intro a' ha'
          exact VRel.slice i (o + l' * s) g (u' - l') _ lc a' (m - l') hl (by omega) ha' (.inr (.inl rfl))
        by_cases hc : m = l'
        · rw [if_pos hc]; exact hrel _ (.inl (by omega))
        · rw [if_neg hc]
          refine hrel _ ?_
          by_cases h0 : m - l' = 0
          · exact .inl h0
          · right
            rcases ha with ha | ha
            · omega
            · subst ha; show Addr.add _ _ = _; rw [add_eq]; congr 1; omega

/- ---------------------------------------------------------------- addresses,parts -/

theorem fieldAddr_sound {t : TypeId} {fs : Array Field} {f s : Nat} {fd : Field} (ht : P.underlying t = some (.struct fs)) (hf : fs[f]? = some fd) (hsz : sz P fd.type = some (s + 1)) {i o g : Nat} {a : Value}
    (ha : VRel φ (.pointer (some ⟨i,o,some g⟩)) a) : ∃ v,(Instr.fieldAt t a f).run P w = .ok v w ∧ VRel φ (.pointer (some ⟨i,o + fd.offset,some g⟩)) v := by
  cases ha with
  | ptr i o g lc hl =>
    refine ⟨.pointer (some ⟨lc.block,lc.off + (o + fd.offset),none⟩), ?_, .ptr _ _ _ _ hl⟩
    simp [Instr.fieldAt,run_underlying' ht,hf,Instr.sureAddr,fieldPlace,run_sizeOf' hsz,add_eq,Nat.add_assoc]

theorem part_sound {t : TypeId} {m : Option Nat} (hm : aggSize P t = some m) {cs ds : Array Value} (hr : VRel φ (.agg cs) (.agg ds)) {off : Nat} {v : Value} (hv : aPart cs off m = some v) :
    ∃ u,(part t ds off).run P w = .ok u w ∧ VRel φ v u := by
  obtain ⟨d,i,hd,hi,hm'⟩ := aggSize_spec hm
  have hr' := hr.cells
  simp only [Value.cells] at hr'
  cases hb : isAggD d with
  | false =>
    rw [hb] at hm'; simp at hm'; subst hm'
    simp only [aPart] at hv
    obtain ⟨u,hu,hvu⟩ := hr'.get (i := off) (v := v) (by simpa using hv)
    refine ⟨u, ?_,hvu⟩
    have : ds[off]? = some u := by simpa using hu
    simp [part,run_isAgg' hd,hb,this]
  | true =>
    rw [hb] at hm'; simp at hm'; subst hm'
    simp only [aPart,Option.some.injEq] at hv
    subst hv
    have hsz : sz P t = some i.size := by simp [sz,hi]
    refine ⟨.agg (ds.extract off (off + i.size)),by simp [part,run_isAgg' hd,hb,run_sizeOf' hsz],VRels.agg ?_ ?_⟩
    rotate_left
    · have := hr.oneCells rfl
      simp only [Value.cells,List.all_eq_true] at this ⊢
      simp only [Array.toList_extract,List.extract_eq_take_drop]
      exact fun v hv => this v (List.mem_of_mem_drop (List.mem_of_mem_take hv))
    have := (hr'.drop off).take i.size
    simp only [Array.toList_extract,List.extract_eq_take_drop,Nat.add_sub_cancel_left]
    exact this

theorem indexAddr_sound {t e : TypeId} {s : Nat} (ht : P.underlying t = some (.slice e)) (hsz : sz P e = some s) {i o g len k : Nat} {a x : Value} {kd : IntKind} {ix : Int} (ha : VRel φ (.slice (some ⟨i,o,some g⟩) len k) a)
    (hx : VRel φ (.int kd ix) x) (h1 : 0 ≤ ix) (h2 : ix < len) : ∃ v,(Instr.indexAt t a x).run P w = .ok v w ∧ VRel φ (.pointer (some ⟨i,o + ix.toNat * s,some g⟩)) v := by
  cases hx
  cases ha with
  | slice i o g len k lc a c hl hn ha hk =>
    rcases ha with rfl | rfl
    · omega
    · refine ⟨.pointer (some ⟨lc.block,lc.off + (o + ix.toNat * s),none⟩), ?_, .ptr _ _ _ _ hl⟩
      simp [Instr.indexAt,asIntOf,run_underlying' ht,h1,h2,run_sizeOf' hsz,add_eq,Nat.add_assoc]

theorem indexArr_sound {t e : TypeId} {s len : Nat} (ht : P.underlying t = some (.array len e)) (hsz : sz P e = some s) {i o g : Nat} {a x : Value} {kd : IntKind} {ix : Int} (ha : VRel φ (.pointer (some ⟨i,o,some g⟩)) a)
    (hx : VRel φ (.int kd ix) x) (h1 : 0 ≤ ix) (h2 : ix < len) : ∃ v,(Instr.indexAt t a x).run P w = .ok v w ∧ VRel φ (.pointer (some ⟨i,o + ix.toNat * s,some g⟩)) v := by
  cases hx
  cases ha with
  | ptr i o g lc hl =>
    refine ⟨.pointer (some ⟨lc.block,lc.off + (o + ix.toNat * s),none⟩), ?_, .ptr _ _ _ _ hl⟩
    simp [Instr.indexAt,asIntOf,run_underlying' ht,Instr.sureAddr,h1,h2,run_sizeOf' hsz,add_eq,Nat.add_assoc]

theorem index_sound {t e : TypeId} {s len : Nat} {m : Option Nat} (ht : P.underlying t = some (.array len e)) (hsz : sz P e = some s) (hm : aggSize P e = some m) {cs : Array Value} {a x : Value} {kd : IntKind} {ix : Int}
    (ha : VRel φ (.agg cs) a) (hx : VRel φ (.int kd ix) x) (h1 : 0 ≤ ix) (h2 : ix < len) {v : Value} (hv : aPart cs (ix.toNat * s) m = some v) :
    ∃ u,(Instr.index t a x).run P w = .ok u w ∧ VRel φ v u := by
  cases hx
  have hcs : ∃ ds,a = .agg ds := by cases ha; exact ⟨_,rfl⟩
  obtain ⟨ds,rfl⟩ := hcs
  obtain ⟨u,hu,hr⟩ := part_sound (P := P) (w := w) hm ha hv
  refine ⟨u, ?_,hr⟩
  simp [Instr.index,asIntOf,run_underlying' ht,h1,h2,run_sizeOf' hsz,hu]

theorem indexStr_sound {t : TypeId} (ht : P.underlying t = some .string) {s : ByteArray} {kd : IntKind} {ix : Int} (h1 : 0 ≤ ix) {b : UInt8} (hb : s[ix.toNat]? = some b) :
    (Instr.index t (.string s) (.int kd ix)).run P w = .ok (.int .u8 (b.toNat : Int)) w := by
  simp [Instr.index,asIntOf,run_underlying' ht,h1,hb]

end
end
end Go.Proofs.YtkdpjaaohddppaaGreatDoor.Am
namespace Go.Proofs.YtkdpjaaohddppaaGreatDoor.Am
noncomputable section
open Go.RowKit (Below)

section
variable {P : Program} {G : Nat} {w0 : World} {φ : Phi} {T : TH} {w : World} {h : AHeap} {n : Nat} {σ : Fr} {ρ : Operand → Value}

theorem read_le {i g o m : Nat} {vs : List Value} (hr : h.read i g o m = some vs) : vs.length = m ∧ ∀ k,k ≤ m → h.read i g o k = some (vs.take k) := by
  unfold AHeap.read at hr ⊢
  split at hr
  · rename_i own cs min hget
    split at hr
    · rename_i hc
      simp at hr
      subst hr
      refine ⟨by simp; omega,fun k hk => ?_⟩
      rw [if_pos ⟨hc.1,hc.2.1,by omega⟩,List.take_take,Nat.min_eq_left hk]
    · simp at hr
  · simp at hr

theorem byteCells_length (s : ByteArray) : (byteCells s).length = s.size := by simp [byteCells]

theorem elems_sound (hs : Sat G w0 φ T w) (hh : Sub h T) {esz : Nat} {v u : Value} {m : Nat} {vs : List Value} (he : aElems h esz v = some (m,vs)) (hv : VRel φ v u) :
    (Builtin.lenOf u).run P w = .ok m w ∧ vs.length = m * esz ∧ vs.all Value.oneCell' = true ∧
    ∀ k,k ≤ m → ∃ us,VRels φ (vs.take (k * esz)) us ∧ (Builtin.firstCells esz k u).run P w = .ok us.toArray w := by
  unfold aElems at he
  split at he
  · simp at he
    obtain ⟨rfl,rfl⟩ := he
    cases hv
    refine ⟨rfl,by simp,rfl,fun k hk => ⟨[],by simp; exact .nil,rfl⟩⟩
  · rename_i i o g len k0
    simp only [Option.map_eq_some_iff] at he
    obtain ⟨vs',hr,he⟩ := he
    simp at he
    obtain ⟨rfl,rfl⟩ := he
    cases hv with
    | slice i o g len k0 lc a c hl hn ha hk =>
      obtain ⟨hlen,hle⟩ := read_le hr
      refine ⟨rfl,hlen, ?_,fun k hk => ?_⟩
      · obtain ⟨_,_,_,_,h5,_⟩ := read_sound hs hh hr hl; exact h5
      have hkm : k * esz ≤ len * esz := Nat.mul_le_mul_right _ hk
      obtain ⟨us,h1,h2,h3,_,h4⟩ := read_sound hs hh (hle (k * esz) hkm) hl
      refine ⟨us,h1, ?_⟩
      rcases ha with hc | rfl
      · have hk0 : k = 0 := by omega
        subst hk0
        have : us = [] := by simpa using h2
        subst this
        simp [Builtin.firstCells,loadCells,loadCellsFrom]
      · exact run_loadCells' h4 h2
  · rename_i s
    split at he
    · rename_i h1
      simp at he
      obtain ⟨rfl,rfl⟩ := he
      subst h1
      cases hv
      refine ⟨rfl,by simp [byteCells_length],by simp only [byteCells,List.all_map,List.all_eq_true]; intros; rfl,fun k hk => ⟨(byteCells s).take k, ?_, ?_⟩⟩
      · rw [Nat.mul_one]; apply VRels.of_scalars; simp [byteCells,scalar,List.all_eq_true]
        intro x hx
        have := List.mem_of_mem_take hx
        simp at this
        obtain ⟨b,_,rfl⟩ := this
        rfl
      · simp only [Builtin.firstCells,Sem.run_pure,Result.ok.injEq,and_true]
        apply Array.toList_inj.1
        simp only [Array.toList_map,ByteArray.data_extract,Array.toList_extract,List.extract_eq_take_drop,Nat.sub_zero,List.drop_zero,byteCells,List.map_take]
    · simp at he
  · simp at he

theorem growBy_le (N : Nat) : ∀ (r c : Nat),Builtin.growBy N r c ≤ max c (N + (N + 768) / 4)
  | 0,c => by simp [Builtin.growBy]; omega
  | r + 1,c => by
    simp only [Builtin.growBy]
    split
    · omega
    · rename_i hc
      have := growBy_le N r (c + (c + 768) / 4)
      have h2 : c + (c + 768) / 4 ≤ N + (N + 768) / 4 := by omega
      omega
theorem nextslicecap_le {N c : Nat} (h : c < N) : Builtin.nextslicecap N c ≤ 2 * N := by
  unfold Builtin.nextslicecap
  split
  · omega
  · split
    · omega
    · have := growBy_le N 4 c
      omega

theorem zeroCells_size (zero : Array Value) (m : Nat) : (Builtin.zeroCells zero m).size = m * zero.size := by simp [Builtin.zeroCells]

theorem append_new (hs : Sat G w0 φ T w) (hh : Sub h T) (hG : G ≤ n) (hf : Fresh φ T n (n + 1)) {cs us : List Value} (hv : VRels φ cs us) {e : TypeId} {c z : Array Value} {cap esz m : Nat}
    (hc : c = us.toArray ++ Builtin.zeroCells z (cap - m)) (hz : z.size = esz) (hm : m ≤ cap) (hlen : cs.length = m * esz) (hone : cs.all Value.oneCell' = true) :
    ∃ φ' T',VRel φ' (.slice (some ⟨n,0,some cs.length⟩) m (2 * esz)) (.slice (some ⟨w.heap.size,0,none⟩) m cap) ∧
      Post G w0 φ T h n φ' T' (w.alloc (.cells c e)) (h.put n (.cells (some e) cs cs.length)) (n + 1) := by
  have hp := alloc_sound (w := w) (e := e) (fz := (0,0)) hs hh hG hf hv (c := c) (by
    rw [hc]; simp only [Array.toList_append]; exact List.take_left' rfl) hone (fun o _ => by omega)
  refine ⟨_,_, ?_,hp⟩
  have hsize : c.size = cap * esz := by
    rw [hc]
    simp only [Array.size_append,zeroCells_size,hz,List.size_toArray,← hv.length,hlen]
    rw [← Nat.add_mul]; congr 1; omega
  exact VRel.slice n 0 _ m _ _ _ cap (Phi.ins_same _ _ _ _) hm (.inr rfl) (.inr (.inr ⟨esz,rfl,rfl,by simp [hsize]⟩))

theorem run_choose_cap (need old : Nat) (e : TypeId) : ∃ cap w',(choose (.appendCap need old e)).run P w = .ok cap w' ∧ need ≤ cap ∧ SameMem w w' := by
  refine ⟨_, { w with drawn := w.drawn + 1 },by simp [run_choose,Question.forced]; rfl, ?_,SameMem.drew _ _⟩
  simp [Question.cut]

theorem append_run {ts : Array TypeId} {e : TypeId} {d : TypeDesc} (h0 : P.underlying (ts.getD 0 0) = some (.slice e)) (h1 : P.underlying (ts.getD 1 0) = some d) (hts : ts.size = 2) (hd : ∀ k,d ≠ .int k)
    {i : TypeInfo} (hi : P.info? e = some i) {z : Value} (hz : i.zero = some z) (hbytes : 0 < i.bytes) {base : Option Addr} {len cap m : Nat} {x : Value} {t : TypeId} (hlen : (Builtin.lenOf x).run P w = .ok m w)
    {us old : List Value}
    (hfirst' : ∀ w',SameMem w w' → (Builtin.firstCells i.size m x).run P w' = .ok us.toArray w') (hold' : ∀ w',SameMem w w' → (Builtin.firstCells i.size len (.slice base len cap)).run P w' = .ok old.toArray w')
    (hroom : 2 * (len + m) * i.bytes ≤ 281474976710656) (hgrow : cap < len + m) :
    ∃ cap' w',(Builtin.append_ ts t #[.slice base len cap,x]).run P w = .ok (.slice (some ⟨w'.heap.size,0,none⟩) (len + m) cap') (w'.alloc (.cells ((old ++ us).toArray ++ Builtin.zeroCells z.cells (cap' - (len + m))) e)) ∧
      len + m ≤ cap' ∧ SameMem w w' := by
  obtain ⟨cap',w',hc,hcap,hsame⟩ := run_choose_cap (P := P) (w := w) (len + m) cap e
  refine ⟨cap',w', ?_,hcap,hsame⟩
  have g0 : ts[0]? = some (ts.getD 0 0) := by simp [hts]
  have g1 : ts[1]? = some (ts.getD 1 0) := by simp [hts]
  have hnext := nextslicecap_le hgrow
  have hn1 : ¬ (len + m ≤ cap) := by omega
  have hn3 : ¬ (Builtin.nextslicecap (len + m) cap * i.bytes > 2 ^ 48) := by
    have := Nat.mul_le_mul_right i.bytes hnext
    have e48 : 2 ^ 48 = 281474976710656 := by decide
    omega
  have hb0 : i.bytes ≠ 0 := by omega
  unfold Builtin.append_
  simp only [g0,g1,List.getElem?_toArray,List.getElem?_cons_zero,List.getElem?_cons_succ,Sem.run_bind,run_underlying' h0,run_underlying' h1,Result.andThen_ok,run_sizeOf' (show sz P e = some i.size by simp [sz,hi]),
    Sem.run_pure,Bool.false_eq_true,if_false,hlen,hn1,run_typeInfo' hi,false_or,hb0,and_false,hn3,hc,run_askRoom,Bool.not_false,if_true,hold' w' hsame,hfirst' w' hsame,run_zeroValue' hi hz,newRow_run]
  simp only [List.append_toArray]


theorem append_inplace_run {ts : Array TypeId} {e : TypeId} {d : TypeDesc} (h0 : P.underlying (ts.getD 0 0) = some (.slice e)) (h1 : P.underlying (ts.getD 1 0) = some d) (hts : ts.size = 2) (hd : ∀ k,d ≠ .int k)
    {i : TypeInfo} (hi : P.info? e = some i) {a : Addr} {len cap m : Nat} {x : Value} {t : TypeId} (hlen : (Builtin.lenOf x).run P w = .ok m w)
    {us : List Value} (hfirst : (Builtin.firstCells i.size m x).run P w = .ok us.toArray w) (hroom : len + m ≤ cap) {w' : World}
    (hst : (storeCells (a.add (len * i.size)) us).run P w = .ok () w') :
    (Builtin.append_ ts t #[.slice (some a) len cap,x]).run P w = .ok (.slice (some a) (len + m) cap) w' := by
  have g0 : ts[0]? = some (ts.getD 0 0) := by simp [hts]
  have g1 : ts[1]? = some (ts.getD 1 0) := by simp [hts]
  unfold Builtin.append_
  simp only [g0,g1,List.getElem?_toArray,List.getElem?_cons_zero,List.getElem?_cons_succ,Sem.run_bind,run_underlying' h0,run_underlying' h1,Result.andThen_ok,run_sizeOf' (show sz P e = some i.size by simp [sz,hi]),
    Sem.run_pure,Bool.false_eq_true,if_false,hlen,hroom,if_true,Bool.not_false,hfirst,hst]

theorem append_nil_run {ts : Array TypeId} {e : TypeId} {d : TypeDesc} (h0 : P.underlying (ts.getD 0 0) = some (.slice e)) (h1 : P.underlying (ts.getD 1 0) = some d) (hts : ts.size = 2) (hd : ∀ k,d ≠ .int k)
    {i : TypeInfo} (hi : P.info? e = some i) {len cap m : Nat} {x : Value} {t : TypeId} (hlen : (Builtin.lenOf x).run P w = .ok m w)
    {us : List Value} (hfirst : (Builtin.firstCells i.size m x).run P w = .ok us.toArray w) (hroom : len + m ≤ cap) :
    (Builtin.append_ ts t #[.slice none len cap,x]).run P w = .ok (.slice none (len + m) cap) w := by
  have g0 : ts[0]? = some (ts.getD 0 0) := by simp [hts]
  have g1 : ts[1]? = some (ts.getD 1 0) := by simp [hts]
  unfold Builtin.append_
  simp only [g0,g1,List.getElem?_toArray,List.getElem?_cons_zero,List.getElem?_cons_succ,Sem.run_bind,run_underlying' h0,run_underlying' h1,Result.andThen_ok,run_sizeOf' (show sz P e = some i.size by simp [sz,hi]),
    Sem.run_pure,Bool.false_eq_true,if_false,hlen,hroom,if_true,Bool.not_false,hfirst]

theorem grow_inplace (hs : Sat G w0 φ T w) (hh : Sub h T) {i g : Nat} {cs vs us : List Value} {min ty : Nat} (hget : h.get i = some (.cells (some ty) cs min)) (hg : g = cs.length) (hne : vs ≠ []) {l : Loc} (hl : φ i g = some l)
    (hv : VRels φ vs us) (hone : vs.all Value.oneCell' = true) (hfit : cs.length + vs.length ≤ l.size) :
    ∃ φ' T' w',(storeCells ⟨l.block,l.off + g,none⟩ us).run P w = .ok () w' ∧ φ' i (cs ++ vs).length = some l ∧ Post G w0 φ T h n φ' T' w' (h.put i (.cells (some ty) (cs ++ vs) min)) n := by
  subst hg
  have hb := hs.blk i _ (hh i _ hget)
  obtain ⟨_,hmin,hall,hb⟩ := hb
  obtain ⟨_,hown,hcell⟩ := hb cs.length l hl hmin
  obtain ⟨hlo,hty,hunf⟩ := hown ty rfl
  subst hty
  obtain ⟨hB,hoff, -⟩ := hs.new i _ l hl hlo
  obtain ⟨⟨c,fz,hrow,hsize⟩,hunf'⟩ := id hunf
  have hlen := hv.length
  have hvs : 0 < vs.length := List.length_pos_iff.2 hne
  have hnone : φ i (cs ++ vs).length = none := by
    cases hx : φ i (cs ++ vs).length with
    | none => rfl
    | some m => have := (hb _ m hx (by simp; omega)).1; simp at this; omega
  have hone' : ∀ u,u ∈ us → u.oneCell' = true := by
    intro u hu
    obtain ⟨k,hk,rfl⟩ := List.getElem_of_mem hu
    have := hv.get' k (by omega) hk
    rw [this.oneCell]
    simp only [List.all_eq_true] at hone
    exact hone _ (List.getElem_mem _)
  have hrun := run_storeCells' (P := P) l.block (l.off + cs.length) us 0 w c l.ty fz hrow (by omega) (fun k hk => by
    rw [hoff]; exact hunf' _ (by omega)) hone'
  have hcs : ∀ j u,(setRow w l.block (spliceA c (l.off + cs.length + 0) us)).cell? ⟨l.block,l.off + j,none⟩ = some u ↔ (splice c.toList cs.length us)[j]? = some u := by
    intro j u
    simp only [World.cell?,setRow_same _ hrow]
    simp [spliceA,hoff]
  have hrow' : ∀ j u,w.cell? ⟨l.block,l.off + j,none⟩ = some u → c.toList[j]? = some u := by
    intro j u hu
    simp only [World.cell?,hrow] at hu
    simpa [hoff] using hu
  have h2' : cs.length + us.length ≤ c.toList.length := by simp; omega
  refine ⟨φ.ins i (cs ++ vs).length l,T.put i (.cells (some l.ty) (cs ++ vs) min),_,hrun,Phi.ins_same _ _ _ _, ?_⟩
  refine ⟨hs.write (cs := cs ++ vs) (min := min) (g' := (cs ++ vs).length) hl hlo hrow (c := spliceA c (l.off + cs.length + 0) us) (by rw [spliceA_size]; omega) rfl (by simp; omega)
    (by simp; omega) (.inr hnone) (by simp only [List.all_append,Bool.and_eq_true]; exact ⟨hall,hone⟩) (fun k m hm hk => ?_),Phi.ins_le hnone, ?_,fun j hj _ => ?_,fun j _ hf g => ?_,Nat.le_refl _,dom_put hget⟩
  · rcases Phi.ins_cases hm with ⟨_,rfl,rfl⟩ | ⟨hm,hkne⟩
    · refine ⟨Nat.le_refl _,rfl,hunf,fun j v hj hjv => ?_⟩
      by_cases hjc : j < cs.length
      · rw [List.getElem?_append_left hjc] at hjv
        obtain ⟨u,hu,hru⟩ := hcell j v hjc hjv
        exact ⟨u,by rw [hcs,get_splice _ _ _ _ h2',if_pos hjc]; exact hrow' j u hu,hru⟩
      · rw [List.getElem?_append_right (by omega)] at hjv
        obtain ⟨u,hu,hru⟩ := hv.get hjv
        refine ⟨u, ?_,hru⟩
        rw [hcs,get_splice _ _ _ _ h2',if_neg hjc,if_pos (by simp at hj; omega)]
        exact hu
    · obtain ⟨h1,h2,h3⟩ := hb k m hm hk
      refine ⟨by simp; omega,(h2 _ rfl).2.1,(h2 _ rfl).2.2,fun j v hj hjv => ?_⟩
      have hjc : j < cs.length := by omega
      rw [List.getElem?_append_left hjc] at hjv
      obtain ⟨u,hu,hru⟩ := h3 j v hj hjv
      refine ⟨u, ?_,hru⟩
      by_cases hbl : m.block = l.block
      · have hmo : m.off = 0 := by
          obtain ⟨_,h5, -⟩ := hs.new i k m hm (h2 _ rfl).1
          exact h5
        have hadr : (⟨m.block,m.off + j,none⟩ : Addr) = ⟨l.block,l.off + j,none⟩ := by rw [hbl,hmo,hoff]
        rw [hadr] at hu ⊢
        rw [hcs,get_splice _ _ _ _ h2',if_pos hjc]
        exact hrow' j u hu
      · rw [cell?_congr (setRow_ne _ _ hbl)]; exact hu
  · intro j b hjb
    rw [AHeap.get_put] at hjb
    split at hjb
    · rename_i e; subst e; rw [TH.put_same]; exact hjb
    · rename_i e; rw [TH.put_ne _ _ e]; exact hh _ _ hjb
  · by_cases e : i = j
    · subst e; rw [hget] at hj; cases hj
    · exact TH.put_ne _ _ e
  · unfold Phi.ins
    split
    · rename_i e; obtain ⟨rfl,rfl⟩ := e; rw [hf] at hl; cases hl
    · exact hf g

end
end
end Go.Proofs.YtkdpjaaohddppaaGreatDoor.Am
