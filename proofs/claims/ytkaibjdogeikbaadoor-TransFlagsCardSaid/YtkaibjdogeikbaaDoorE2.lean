/- Rules to walk through code of the abstract machine with values that are not known (E2). -/
import Derived.Test.YtkaibjdogeikbaaDoorE1b
namespace Go.Proofs.YtkaibjdogeikbaaDoor.Am
noncomputable section
theorem Guard_test {c b : Bool} {A B : Prop} {x : Tok A} {y : Tok B} : Guard (some (.bool c)) b A B x y = Test (some (.bool c)) b A B x y := Guard_bool
@[simp] theorem undef_eq : undef = .tuple #[] := rfl
attribute [simp] Guard_off Guard_test
attribute [simp] Runs_some Runs_ite Runs_ite' Test_tt Test_ff Test_tf Test_ft Test_not Callee_some
attribute [simp] sx sxOps sxOp sxDraw aev X.ev Fr.get_cons Fr.get_nil setDst Fr.put Fr.del argFr evRes putsL mapX AHeap.write aBin aStrOp aEqv optX aBounds aPart splice isTuple Value.cells aMin aMax aMinFrom aMaxFrom AHeap.get_put AHeap.get_cons AHeap.get_nil Done
attribute [simp] touchIds AOp.globs X.globs AOper.reads AOp.reads X.reads optReads readIds Kd.apart Kd.clear chgOf chgOk logOf AHeap.puts
/- Operations on numbers, by name. -/
def andI (k : IntKind) (a b : Int) : Int := k.wrap (BitVec.ofInt k.bits a &&& BitVec.ofInt k.bits b).toNat
def orI (k : IntKind) (a b : Int) : Int := k.wrap (BitVec.ofInt k.bits a ||| BitVec.ofInt k.bits b).toNat
def xorI (k : IntKind) (a b : Int) : Int := k.wrap (BitVec.ofInt k.bits a ^^^ BitVec.ofInt k.bits b).toNat
def andNotI (k : IntKind) (a b : Int) : Int := k.wrap (BitVec.ofInt k.bits a &&& ~~~(BitVec.ofInt k.bits b)).toNat
def shlI (k : IntKind) (a b : Int) : Int := k.wrap (a * 2 ^ (Min.min b.toNat k.bits))
def shrI (k : IntKind) (a b : Int) : Int := a.fdiv (2 ^ (Min.min b.toNat k.bits))
def notI (k : IntKind) (a : Int) : Int := k.wrap (BitVec.ofInt k.bits (if k.signed then -1 else k.max) ^^^ BitVec.ofInt k.bits a).toNat
theorem aInt_add (k : IntKind) (a b : Int) : aIntOp .add k a b = some (.int k (k.wrap (a + b))) := rfl
theorem aInt_sub (k : IntKind) (a b : Int) : aIntOp .sub k a b = some (.int k (k.wrap (a - b))) := rfl
theorem aInt_mul (k : IntKind) (a b : Int) : aIntOp .mul k a b = some (.int k (k.wrap (a * b))) := rfl
theorem aInt_quo (k : IntKind) (a b : Int) : aIntOp .quo k a b = if b = 0 then none else some (.int k (k.wrap (a.tdiv b))) := rfl
theorem aInt_rem (k : IntKind) (a b : Int) : aIntOp .rem k a b = if b = 0 then none else some (.int k (a.tmod b)) := rfl
theorem aInt_and (k : IntKind) (a b : Int) : aIntOp .and k a b = some (.int k (andI k a b)) := rfl
theorem aInt_or (k : IntKind) (a b : Int) : aIntOp .or k a b = some (.int k (orI k a b)) := rfl
theorem aInt_xor (k : IntKind) (a b : Int) : aIntOp .xor k a b = some (.int k (xorI k a b)) := rfl
theorem aInt_andNot (k : IntKind) (a b : Int) : aIntOp .andNot k a b = some (.int k (andNotI k a b)) := rfl
theorem aInt_eql (k : IntKind) (a b : Int) : aIntOp .eql k a b = some (.bool (a == b)) := rfl
theorem aInt_neq (k : IntKind) (a b : Int) : aIntOp .neq k a b = some (.bool (a != b)) := rfl
theorem aInt_lss (k : IntKind) (a b : Int) : aIntOp .lss k a b = some (.bool (decide (a < b))) := rfl
theorem aInt_leq (k : IntKind) (a b : Int) : aIntOp .leq k a b = some (.bool (decide (a ≤ b))) := rfl
theorem aInt_gtr (k : IntKind) (a b : Int) : aIntOp .gtr k a b = some (.bool (decide (a > b))) := rfl
theorem aInt_geq (k : IntKind) (a b : Int) : aIntOp .geq k a b = some (.bool (decide (a ≥ b))) := rfl
theorem aShift_shl (k : IntKind) (a b : Int) : aShift .shl k a b = if b < 0 then none else some (.int k (shlI k a b)) := rfl
theorem aShift_shr (k : IntKind) (a b : Int) : aShift .shr k a b = if b < 0 then none else some (.int k (shrI k a b)) := rfl
theorem aUn_neg (k : IntKind) (a : Int) : aUn .neg (.int k a) = some (.int k (k.wrap (0 - a))) := rfl
theorem aUn_xor (k : IntKind) (a : Int) : aUn .xor (.int k a) = some (.int k (notI k a)) := rfl
theorem aUn_not (b : Bool) : aUn .not (.bool b) = some (.bool !b) := rfl
attribute [simp] aInt_add aInt_sub aInt_mul aInt_quo aInt_rem aInt_and aInt_or aInt_xor aInt_andNot aInt_eql aInt_neq aInt_lss aInt_leq aInt_gtr aInt_geq aShift_shl aShift_shr aUn_neg aUn_xor aUn_not
/-- A test that arithmetic decides. -/
theorem Test_decT {p : Prop} [Decidable p] {A B : Prop} {x : Tok A} {y : Tok B} (hp : p) : Test (some (.bool (decide p))) true A B x y = A := by simp [Test, hp]
theorem Test_decF {p : Prop} [Decidable p] {A B : Prop} {x : Tok A} {y : Tok B} (hp : ¬ p) : Test (some (.bool (decide p))) true A B x y = B := by simp [Test, hp]
theorem Test_decT' {p : Prop} [Decidable p] {A B : Prop} {x : Tok A} {y : Tok B} (hp : p) : Test (some (.bool (decide p))) false A B x y = B := by simp [Test, hp]
theorem Test_decF' {p : Prop} [Decidable p] {A B : Prop} {x : Tok A} {y : Tok B} (hp : ¬ p) : Test (some (.bool (decide p))) false A B x y = A := by simp [Test, hp]
theorem Test_beqT {a b : Int} {A B : Prop} {x : Tok A} {y : Tok B} (hp : a = b) : Test (some (.bool (a == b))) true A B x y = A := by simp [Test, hp]
theorem Test_beqF {a b : Int} {A B : Prop} {x : Tok A} {y : Tok B} (hp : ¬ a = b) : Test (some (.bool (a == b))) true A B x y = B := by simp [Test, hp]
theorem Test_beqT' {a b : Int} {A B : Prop} {x : Tok A} {y : Tok B} (hp : a = b) : Test (some (.bool (a == b))) false A B x y = B := by simp [Test, hp]
theorem Test_beqF' {a b : Int} {A B : Prop} {x : Tok A} {y : Tok B} (hp : ¬ a = b) : Test (some (.bool (a == b))) false A B x y = A := by simp [Test, hp]
theorem Runs_iteT {c : Prop} [Decidable c] {r : Option (Value × AHeap × Nat)} {n : Nat} {K : Option Value → AHeap → Nat → Prop} {t : Tok K} (hc : c) : Runs (if c then r else none) n K t = Runs r n K t := by rw [if_pos hc]
attribute [simp] Runs_iteT Test_decT Test_decF Test_decT' Test_decF' Test_beqT Test_beqF Test_beqT' Test_beqF'
@[simp] theorem resVal_nil : resVal [] = .tuple #[] := rfl
@[simp] theorem resVal_one (v : Value) : resVal [v] = v := rfl
@[simp] theorem resVal_more (a b : Value) (l : List Value) : resVal (a :: b :: l) = .tuple (a :: b :: l).toArray := rfl
@[simp] theorem refsOf_ptr (a : Addr) : refsOf (.pointer (some a)) = [a.block] := rfl
@[simp] theorem refsOf_slice (a : Addr) (n k : Nat) : refsOf (.slice (some a) n k) = [a.block] := rfl
@[simp] theorem refsOf_sliceNil (n k : Nat) : refsOf (.slice none n k) = [] := rfl
@[simp] theorem refsOf_map (r : Nat) : refsOf (.map (some r)) = [r] := rfl
@[simp] theorem refsOf_bool (b : Bool) : refsOf (.bool b) = [] := rfl
@[simp] theorem refsOf_int (k : IntKind) (b : Int) : refsOf (.int k b) = [] := rfl
@[simp] theorem refsOf_float (k : FloatKind) (b : Nat) : refsOf (.float k b) = [] := rfl
@[simp] theorem refsOf_string (b : ByteArray) : refsOf (.string b) = [] := rfl
@[simp] theorem refsOf_func (f : Fn) (a b : Array Value) : refsOf (.func f a b) = [] := rfl
@[simp] theorem refsOf_iface (t : TypeId) (v : Value) : refsOf (.iface t v) = [] := rfl
@[simp] theorem refsOf_agg (a : Array Value) : refsOf (.agg a) = [] := rfl
@[simp] theorem refsOf_tuple (a : Array Value) : refsOf (.tuple a) = [] := rfl
@[simp] theorem refsOf_ptrNil : refsOf (.pointer none) = [] := rfl
@[simp] theorem refsOf_mapNil : refsOf (.map none) = [] := rfl
@[simp] theorem refsOf_nilFunc : refsOf .nilFunc = [] := rfl
@[simp] theorem refsOf_nilIface : refsOf .nilIface = [] := rfl
@[simp] theorem refsO_none : refsO none = [] := rfl
@[simp] theorem refsO_ptr (a : Addr) : refsO (some (.pointer (some a))) = [a.block] := rfl
@[simp] theorem refsO_ptrNil : refsO (some (.pointer none)) = [] := rfl
@[simp] theorem refsO_slice (a : Addr) (n k : Nat) : refsO (some (.slice (some a) n k)) = [a.block] := rfl
@[simp] theorem refsO_sliceNil (n k : Nat) : refsO (some (.slice none n k)) = [] := rfl
@[simp] theorem refsO_map (r : Nat) : refsO (some (.map (some r))) = [r] := rfl
@[simp] theorem refsO_mapNil : refsO (some (.map none)) = [] := rfl
@[simp] theorem refsO_bool (b : Bool) : refsO (some (.bool b)) = [] := rfl
@[simp] theorem refsO_int (k : IntKind) (b : Int) : refsO (some (.int k b)) = [] := rfl
@[simp] theorem refsO_float (k : FloatKind) (b : Nat) : refsO (some (.float k b)) = [] := rfl
@[simp] theorem refsO_string (b : ByteArray) : refsO (some (.string b)) = [] := rfl
@[simp] theorem refsO_func (f : Fn) (a b : Array Value) : refsO (some (.func f a b)) = [] := rfl
@[simp] theorem refsO_nilFunc : refsO (some .nilFunc) = [] := rfl
@[simp] theorem refsO_nilIface : refsO (some .nilIface) = [] := rfl
@[simp] theorem refsO_iface (t : TypeId) (v : Value) : refsO (some (.iface t v)) = [] := rfl
@[simp] theorem refsO_agg (a : Array Value) : refsO (some (.agg a)) = [] := rfl
@[simp] theorem refsO_tuple (a : Array Value) : refsO (some (.tuple a)) = [] := rfl
@[simp] theorem logOf_some {ρ : X → Option Value} {op : AOp} {a : X} (h : op.target = some a) : logOf ρ op = refsO (ρ a) := by simp only [logOf, h, refsO]; cases ρ a <;> rfl
theorem logOf_new {ρ : X → Option Value} {op : AOp} (h : op.target = none) : logOf ρ op = [] := by simp only [logOf, h]
@[simp] theorem getE0 {α : Type _} (a0 : α) (l : List α) : (a0 :: l)[0]? = some a0 := rfl
@[simp] theorem getE1 {α : Type _} (a0 a1 : α) (l : List α) : (a0 :: a1 :: l)[1]? = some a1 := rfl
@[simp] theorem getE2 {α : Type _} (a0 a1 a2 : α) (l : List α) : (a0 :: a1 :: a2 :: l)[2]? = some a2 := rfl
@[simp] theorem getE3 {α : Type _} (a0 a1 a2 a3 : α) (l : List α) : (a0 :: a1 :: a2 :: a3 :: l)[3]? = some a3 := rfl
@[simp] theorem getE4 {α : Type _} (a0 a1 a2 a3 a4 : α) (l : List α) : (a0 :: a1 :: a2 :: a3 :: a4 :: l)[4]? = some a4 := rfl
@[simp] theorem getE5 {α : Type _} (a0 a1 a2 a3 a4 a5 : α) (l : List α) : (a0 :: a1 :: a2 :: a3 :: a4 :: a5 :: l)[5]? = some a5 := rfl
@[simp] theorem getE6 {α : Type _} (a0 a1 a2 a3 a4 a5 a6 : α) (l : List α) : (a0 :: a1 :: a2 :: a3 :: a4 :: a5 :: a6 :: l)[6]? = some a6 := rfl
@[simp] theorem getE7 {α : Type _} (a0 a1 a2 a3 a4 a5 a6 a7 : α) (l : List α) : (a0 :: a1 :: a2 :: a3 :: a4 :: a5 :: a6 :: a7 :: l)[7]? = some a7 := rfl
@[simp] theorem getE8 {α : Type _} (a0 a1 a2 a3 a4 a5 a6 a7 a8 : α) (l : List α) : (a0 :: a1 :: a2 :: a3 :: a4 :: a5 :: a6 :: a7 :: a8 :: l)[8]? = some a8 := rfl
@[simp] theorem getE9 {α : Type _} (a0 a1 a2 a3 a4 a5 a6 a7 a8 a9 : α) (l : List α) : (a0 :: a1 :: a2 :: a3 :: a4 :: a5 :: a6 :: a7 :: a8 :: a9 :: l)[9]? = some a9 := rfl
@[simp] theorem getE10 {α : Type _} (a0 a1 a2 a3 a4 a5 a6 a7 a8 a9 a10 : α) (l : List α) : (a0 :: a1 :: a2 :: a3 :: a4 :: a5 :: a6 :: a7 :: a8 :: a9 :: a10 :: l)[10]? = some a10 := rfl
@[simp] theorem getE11 {α : Type _} (a0 a1 a2 a3 a4 a5 a6 a7 a8 a9 a10 a11 : α) (l : List α) : (a0 :: a1 :: a2 :: a3 :: a4 :: a5 :: a6 :: a7 :: a8 :: a9 :: a10 :: a11 :: l)[11]? = some a11 := rfl
@[simp] theorem getE12 {α : Type _} (a0 a1 a2 a3 a4 a5 a6 a7 a8 a9 a10 a11 a12 : α) (l : List α) : (a0 :: a1 :: a2 :: a3 :: a4 :: a5 :: a6 :: a7 :: a8 :: a9 :: a10 :: a11 :: a12 :: l)[12]? = some a12 := rfl
@[simp] theorem getE13 {α : Type _} (a0 a1 a2 a3 a4 a5 a6 a7 a8 a9 a10 a11 a12 a13 : α) (l : List α) : (a0 :: a1 :: a2 :: a3 :: a4 :: a5 :: a6 :: a7 :: a8 :: a9 :: a10 :: a11 :: a12 :: a13 :: l)[13]? = some a13 := rfl
@[simp] theorem getE14 {α : Type _} (a0 a1 a2 a3 a4 a5 a6 a7 a8 a9 a10 a11 a12 a13 a14 : α) (l : List α) : (a0 :: a1 :: a2 :: a3 :: a4 :: a5 :: a6 :: a7 :: a8 :: a9 :: a10 :: a11 :: a12 :: a13 :: a14 :: l)[14]? = some a14 := rfl
@[simp] theorem getE15 {α : Type _} (a0 a1 a2 a3 a4 a5 a6 a7 a8 a9 a10 a11 a12 a13 a14 a15 : α) (l : List α) : (a0 :: a1 :: a2 :: a3 :: a4 :: a5 :: a6 :: a7 :: a8 :: a9 :: a10 :: a11 :: a12 :: a13 :: a14 :: a15 :: l)[15]? = some a15 := rfl
@[simp] theorem get_del_if (σ : Fr) (i j : Nat) : (σ.del i).get j = if i = j then none else σ.get j := by
  split
  · rename_i e; subst e; exact Fr.get_del_same _ _
  · rename_i e; exact Fr.get_del_ne _ e
theorem HSub.refl (h : AHeap) : HSub h h := fun _ _ x => x
/-- The memory has no block from n on. -/
def WF (h : AHeap) (n : Nat) : Prop := ∀ i, n ≤ i → h.get i = none
theorem WF.lt {h : AHeap} {n : Nat} (w : WF h n) {i : Nat} {b : Blk} (hb : h.get i = some b) : i < n := by
  rcases Nat.lt_or_ge i n with x | x
  · exact x
  · rw [w i x] at hb; cases hb
theorem WF.put {h : AHeap} {n : Nat} (w : WF h n) {i m : Nat} (b : Blk) (hi : i < m) (hm : n ≤ m) : WF (h.put i b) m := fun j hj => by
  rw [AHeap.get_put_ne _ _ (by omega)]; exact w j (by omega)
theorem WF.mono {h : AHeap} {n m : Nat} (w : WF h n) (hm : n ≤ m) : WF h m := fun j hj => w j (by omega)
/-- A block is below the next number: as simp wants it. -/
theorem WF.ne {h : AHeap} {n : Nat} (w : WF h n) {i : Nat} {b : Blk} (hb : h.get i = some b) : (¬ n = i) ∧ (¬ i = n) ∧ (∀ k, ¬ n + k = i) ∧ (∀ k, ¬ i = n + k) := by
  have := w.lt hb
  exact ⟨by omega, by omega, fun k => by omega, fun k => by omega⟩

/-- The same but at some blocks. -/
def HSubE (S : List Nat) (h h' : AHeap) : Prop := ∀ i b, i ∉ S → h.get i = some b → h'.get i = some b
theorem HSub.ofE {h h' : AHeap} (x : HSubE [] h h') : HSub h h' := fun i b hb => x i b (by simp) hb
theorem HSubE.refl (S : List Nat) (h : AHeap) : HSubE S h h := fun _ _ _ x => x
theorem HSubE.left {S : List Nat} {h h' : AHeap} {a : Nat} {b : Blk} (hb : a ∈ S ∨ h'.get a = some b) (x : HSubE (a :: S) h h') : HSubE S (h.put a b) h' := fun i c hi hc => by
  rw [AHeap.get_put] at hc
  split at hc
  · rename_i e; subst e; cases hc
    rcases hb with hb | hb
    · exact absurd hb hi
    · exact hb
  · rename_i e
    exact x i c (by simp only [List.mem_cons, not_or]; exact ⟨fun e' => e e'.symm, hi⟩) hc
theorem HSubE.right {S : List Nat} {h h' : AHeap} {a : Nat} {b : Blk} (hb : a ∈ S ∨ h.get a = none) (x : HSubE S h h') : HSubE S h (h'.put a b) := fun i c hi hc => by
  rw [AHeap.get_put]
  split
  · rename_i e; subst e
    rcases hb with hb | hb
    · exact absurd hb hi
    · rw [hb] at hc; cases hc
  · exact x i c hi hc
/-- A new block may be forgotten. -/
theorem HSub.put_new {h h' : AHeap} {i : Nat} (b : Blk) (hi : h.get i = none) (hs : HSub h h') : HSub h (h'.put i b) := fun j c hc => by
  rw [AHeap.get_put_ne _ _ (fun e => by subst e; rw [hi] at hc; cases hc)]; exact hs j c hc
theorem HSub.put_both {h h' : AHeap} (i : Nat) (b : Blk) (hs : HSub h h') : HSub (h.put i b) (h'.put i b) := fun j c hc => by
  rw [AHeap.get_put] at hc ⊢
  split
  · rename_i e; rw [if_pos e] at hc; exact hc
  · rename_i e; rw [if_neg e] at hc; exact hs j c hc
theorem HSub.new {h0 h : AHeap} {n0 i : Nat} (hs : HSub h0 h) (hw : WF h0 n0) (hi : n0 ≤ i) (b : Blk) : HSub h0 (h.put i b) := .put_new b (hw i hi) hs
theorem HSub.trans {a b c : AHeap} (x : HSub a b) (y : HSub b c) : HSub a c := fun i d hd => y i d (x i d hd)
/-- Slots, one by one. -/
def FSubL : Fr → Fr → Prop
  | [], _ => True
  | (k, v) :: σ, σ' => σ'.get k = some v ∧ FSubL σ σ'
theorem FSub.ofL {σ σ' : Fr} (h : FSubL σ σ') : FSub σ σ' := by
  induction σ with
  | nil => exact .nil _
  | cons p σ ih => obtain ⟨k, v⟩ := p; exact .cons h.1 (ih h.2)
attribute [simp] FSubL
/-- The same block written anew. -/
theorem HSub.over {h : AHeap} {i : Nat} {a b c : Blk} (e : b = c) : HSub (h.put i c) ((h.put i a).put i b) := by
  subst e
  exact .ofE (.left (.inr (by simp)) (.right (.inl (by simp)) (.right (.inl (by simp)) (.refl _ _))))
theorem Again.mk' {I : Nat → Fr → AHeap → Nat → Prop} {m : Nat} {σ : Fr} {h : AHeap} {n : Nat} {t : Tok I} (m' : Nat) (hm : m' < m) (σ2 : Fr) (h2 : AHeap) (hs : FSubL σ2 σ) (hh : HSub h2 h) (hi : I m' σ2 h2 n) : Again I m σ h n t := ⟨m', hm, σ2, h2, .ofL hs, hh, hi⟩
theorem loop_use {E : Env} {c : ACode} {σ σ2 : Fr} {h h2 : AHeap} {n : Nat} {Q Q' : Ex → Fr → AHeap → Nat → Prop} {t : Tok Q} (x : HasCode E (.loop c) σ2 h2 n Q') (hs : FSubL σ2 σ) (hh : HSub h2 h) (q : ∀ e σ' h' n', Q' e σ' h' n' → Q e σ' h' n') : HasCodeT E (.loop c) σ h n Q t := (x.start (.ofL hs) hh).mono q
theorem HSub.eq {h h' : AHeap} (e : h = h') : HSub h h' := e ▸ HSub.refl h
end
end Go.Proofs.YtkaibjdogeikbaaDoor.Am
