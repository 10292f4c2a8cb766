/- The evaluator of the abstract machine, part D2: what it finds is a derivation. -/
import Derived.Test.YtkaibjdogeikbaaDoorD1
import Derived.Lib.Bytealg
import Derived.Lib.MakeNoZero
namespace Go.Proofs.YtkaibjdogeikbaaDoor.Am
noncomputable section

/- What body-less functions answer. -/
inductive Prim
  | noEscape
  | makeNoZero (ty : Nat)
  | count
  | indexByte

def Prim.ev : Prim → List Value → AHeap → Nat → Option (Value × AHeap × Nat)
  | .noEscape, [x], h, n => some (x, h, n)
  | .makeNoZero ty, [.int .i64 m], h, n => if 0 ≤ m ∧ m ≤ 70368744177664 then some (.slice (some ⟨n, 0, some 0⟩) m.toNat 2, h.put n (.cells (some ty) [] 0), n + 1) else none
  | .count, [.string s, .int .u8 c], h, n => if 0 ≤ c ∧ c < 256 then some (.int .i64 (Lib.countByte s.data.toList c.toNat.toUInt8), h, n) else none
  | .indexByte, [.string s, .int .u8 c], h, n => if 0 ≤ c ∧ c < 256 then some (.int .i64 (Lib.indexByte s.data.toList c.toNat.toUInt8), h, n) else none
  | _, _, _, _ => none

def lookF {α : Type} : List (Nat × α) → Nat → Option α
  | [], _ => none
  | (k, f) :: l, i => if k = i then some f else lookF l i
def primOrc (l : List (Nat × Prim)) (f : Nat) (args : List Value) (h : AHeap) (n : Nat) : Option (Value × AHeap × Nat) :=
  match lookF l f with
  | some p => p.ev args h n
  | none => none

/-- Functions by their numbers. -/
inductive FT
  | leaf
  | node (k : Nat) (f : AFunc) (l r : FT)
def FT.findC : FT → Nat → Option AFunc
  | .leaf, _ => none
  | .node k f l r, i => bif Nat.beq k i then some f else bif Nat.ble i k then l.findC i else r.findC i
def FT.find (t : FT) : Nat → Option AFunc := FT.rec (motive := fun _ => Nat → Option AFunc) (fun _ => none) (fun k f _ _ l r i => bif Nat.beq k i then some f else bif Nat.ble i k then l i else r i) t
def FT.All (p : Nat → AFunc → Prop) : FT → Prop
  | .leaf => True
  | .node k f l r => p k f ∧ l.All p ∧ r.All p
theorem FT.find_all {p : Nat → AFunc → Prop} : ∀ {t : FT} {i : Nat} {f : AFunc}, t.All p → t.find i = some f → p i f
  | .leaf, _, _, _, h => by cases h
  | .node k g l r, i, f, ha, h => by
    have h' : (bif Nat.beq k i then some g else bif Nat.ble i k then l.find i else r.find i) = some f := h
    cases hb : Nat.beq k i with
    | true =>
      rw [hb] at h'
      cases h'
      obtain rfl := Nat.eq_of_beq_eq_true hb
      exact ha.1
    | false =>
      rw [hb] at h'
      cases hc : Nat.ble i k with
      | true => rw [hc] at h'; exact FT.find_all ha.2.1 h'
      | false => rw [hc] at h'; exact FT.find_all ha.2.2 h'
def mkEnv (fs : FT) (ps : List (Nat × Prim)) : EEnv := ⟨fs.find, primOrc ps⟩
def strs (l : List (List UInt8)) : List Value := l.map fun s => .string ⟨s.toArray⟩

end
end Go.Proofs.YtkaibjdogeikbaaDoor.Am
