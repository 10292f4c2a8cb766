/- The abstract memory and its operations, part A6: what a run of the model does is bounded by what an abstract machine does. -/
import Derived.Test.YtkaibjdogeikbaaDoorA5
namespace Go.Proofs.YtkaibjdogeikbaaDoor.Am
noncomputable section
open Go.RowKit (Below)

def ores : Next → Option Value
  | .value v => some v
  | .skip => some undef
  | _ => none

/-- An operation of the machine's does what the abstract one says. -/
def OpDoes (P : Program) (G : Nat) (w0 : World) (φ : Phi) (T : TH) (w : World) (h : AHeap) (n : Nat) (s : Sem Next) (v : Value) (h' : AHeap) (n' : Nat) : Prop :=
  ∃ nx u φ' T' w', s.run P w = .ok nx w' ∧ ores nx = some u ∧ VRel φ' v u ∧ Post G w0 φ T h n φ' T' w' h' n'

def RhoRel (φ : Phi) (σ : Fr) (h : AHeap) (ρ : Operand → Value) : Prop := ∀ x x' v, cX x = some x' → X.ev σ h x' = some v → VRel φ v (ρ x)

section
variable {P : Program} {G : Nat} {w0 : World} {φ : Phi} {T : TH} {w : World} {h : AHeap} {n : Nat} {σ : Fr} {ρ : Operand → Value}

theorem OpDoes.pure (hs : Sat G w0 φ T w) (hh : Sub h T) {s : Sem Next} {v u : Value} (hr : s.run P w = .ok (.value u) w) (hv : VRel φ v u) : OpDoes P G w0 φ T w h n s v h n :=
  ⟨_, u, φ, T, w, hr, rfl, hv, .refl hs hh⟩

theorem cXs_rel (hρ : RhoRel φ σ h ρ) : ∀ {xs : List Operand} {ys : List X} {vs : List Value}, cXs xs = some ys → mapX (X.ev σ h) ys = some vs → VRels φ vs (xs.map ρ)
  | [], ys, vs, hc, hm => by simp [cXs] at hc; subst hc; simp [mapX] at hm; subst hm; exact .nil
  | x :: xs, ys, vs, hc, hm => by
    simp only [cXs] at hc
    split at hc
    · rename_i a b ha hb
      simp at hc
      subst hc
      simp only [mapX] at hm
      split at hm
      · rename_i v us hv hus
        simp at hm
        subst hm
        exact .cons (hρ _ _ _ ha hv) (cXs_rel hρ hb hus)
      · simp at hm
    · simp at hc

theorem aggSize_spec {t : TypeId} {m : Option Nat} (h : aggSize P t = some m) : ∃ d i, P.underlying t = some d ∧ P.info? t = some i ∧ m = if isAggD d then some i.size else none := by
  unfold aggSize at h
  split at h
  · rename_i d i h1 h2
    refine ⟨d, i, h1, h2, ?_⟩
    split at h <;> simp_all
  · simp at h
theorem run_isAgg' {t : TypeId} {d : TypeDesc} (h : P.underlying t = some d) : (isAgg t).run P w = .ok (isAggD d) w := by
  simp only [isAgg, Sem.run_bind, run_underlying' h, Result.andThen_ok]
  cases d <;> rfl

theorem load_does (hs : Sat G w0 φ T w) (hh : Sub h T) {t : TypeId} {m : Option Nat} (hm : aggSize P t = some m) {a : Value} {i o g : Nat} {u : Value} (ha : VRel φ (.pointer (some ⟨i, o, some g⟩)) u)
    (ha' : a = u) {v : Value} (hv : (match m with
      | none => match h.read i g o 1 with
        | some [v] => some v
        | _ => none
      | some m => (h.read i g o m).map fun vs => .agg vs.toArray) = some v) : ∃ u', (Instr.loadAt t a).run P w = .ok u' w ∧ VRel φ v u' := by
  subst ha'
  obtain ⟨d, inf, hd, hi, hm'⟩ := aggSize_spec hm
  cases ha with
  | ptr i o g l hl =>
    simp only [Instr.loadAt, Instr.sureAddr, Sem.run_bind, Sem.run_pure, Result.andThen_ok, loadVar, run_isAgg' hd]
    cases hb : isAggD d with
    | false =>
      rw [hb] at hm'
      simp at hm'
      subst hm'
      simp only at hv
      split at hv
      · rename_i v' hr
        simp at hv
        subst hv
        obtain ⟨us, h1, h2, h3, _, h4⟩ := read_sound hs hh hr hl
        cases h1 with
        | cons hx hn =>
          rename_i y ys
          have := h4 0 y (by simp)
          simp only [Nat.add_zero] at this
          refine ⟨y, ?_, hx⟩
          simp [run_load, this]
      · simp at hv
    | true =>
      rw [hb] at hm'
      simp at hm'
      subst hm'
      simp only [Option.map_eq_some_iff] at hv
      obtain ⟨vs, hr, rfl⟩ := hv
      obtain ⟨us, h1, h2, h3, h5, h4⟩ := read_sound hs hh hr hl
      refine ⟨.agg us.toArray, ?_, VRels.agg (by simpa using h1) (by simpa using h5)⟩
      have hsz : sz P t = some inf.size := by simp [sz, hi]
      simp [run_sizeOf' hsz, run_loadCells' h4 h2]

theorem store_does (hs : Sat G w0 φ T w) (hh : Sub h T) {t : TypeId} {m : Nat} (hm : sz P t = some m) {i o g : Nat} {a x : Value} {v : Value} (ha : VRel φ (.pointer (some ⟨i, o, some g⟩)) a)
    (hx : VRel φ v x) (ht : isTuple v = false) (hv : v.cells.size = m) {h' : AHeap} (hw : h.write i g o v.cells.toList = some h') :
    ∃ φ' T' w', (Instr.storeAt t a x).run P w = .ok () w' ∧ Post G w0 φ T h n φ' T' w' h' n := by
  cases ha with
  | ptr i o g l hl =>
    obtain ⟨φ', T', w', h1, h2⟩ := write_sound (P := P) (n := n) hs hh hw hl hx.cells (hx.oneCells ht)
    refine ⟨φ', T', w', ?_, h2⟩
    have hsize : x.cells.size = m := by rw [← hv]; simpa using hx.cells.length.symm
    simp [Instr.storeAt, Instr.sureAddr, storeVar, run_sizeOf' hm, hsize, h1]

theorem newRow_run (e : TypeId) (c : Array Value) : (newRow e c).run P w = .ok ⟨w.heap.size, 0, none⟩ (w.alloc (.cells c e)) := by
  simp only [newRow, Sem.run_bind, run_newObj, Result.andThen_ok, Sem.run_pure]; rfl

theorem alloc_does (hs : Sat G w0 φ T w) (hh : Sub h T) (hG : G ≤ n) (hf : Fresh φ T n (n + 1)) {e : TypeId} {x y : Value} (hv : VRel φ x y) (ht : isTuple x = false) :
    ∃ φ' T' w', (newVar e y).run P w = .ok ⟨w.heap.size, 0, none⟩ w' ∧ VRel φ' (.pointer (some ⟨n, 0, some x.cells.toList.length⟩)) (.pointer (some ⟨w.heap.size, 0, none⟩)) ∧
      Post G w0 φ T h n φ' T' w' (h.put n (.cells (some e) x.cells.toList x.cells.toList.length)) (n + 1) := by
  have hp := alloc_sound (w := w) (e := e) (fz := (0, 0)) hs hh hG hf hv.cells (c := y.cells) (List.take_of_length_le (by simp)) (hv.oneCells ht) (fun o _ => by omega)
  refine ⟨_, _, _, newRow_run _ _, ?_, hp⟩
  exact VRel.ptr n 0 _ _ (Phi.ins_same _ _ _ _)


theorem eqGuard_run (op : BinOp) (t : TypeId) (x y : Operand) {a b : Value} (h : ∀ xs ys, ¬(a = .agg xs ∧ b = .agg ys)) (h2 : ¬(a = .nilIface ∧ b = .nilIface) ∨ (isConst x || isConst y) = true) :
    (eqGuard op t x y a b).run P w = .ok () w := by
  have hnil : (isConst x || isConst y) = true → ∀ op, (eqGuard op t x y .nilIface .nilIface).run P w = .ok () w := by
    intro hc op
    cases op <;> first | rfl | (cases x <;> cases y <;> first | rfl | (simp [isConst] at hc))
  cases op
  case eql => cases a <;> cases b <;> first | rfl | exact absurd ⟨rfl, rfl⟩ (h _ _) | exact hnil (h2.resolve_left fun hn => hn ⟨rfl, rfl⟩) _
  case neq => cases a <;> cases b <;> first | rfl | exact absurd ⟨rfl, rfl⟩ (h _ _) | exact hnil (h2.resolve_left fun hn => hn ⟨rfl, rfl⟩) _
  all_goals rfl

theorem aIntOp_sound {op : BinOp} {k : IntKind} {a b : Int} {v : Value} (h1 : op ≠ .shl) (h2 : op ≠ .shr) (h : aIntOp op k a b = some v) (t : TypeId) : (binOp op t (.int k a) (.int k b)).run P w = .ok v w := by
  cases op <;> simp only [aIntOp] at h <;> (try contradiction) <;> (try split at h) <;> (try (simp at h; done)) <;> (obtain rfl := Option.some.inj h)
  all_goals simp [binOp, Op.intArith, Op.intDiv, Op.intBits, Op.intCmp, *]

theorem aShift_sound {op : BinOp} {k k' : IntKind} {a b : Int} {v : Value} (h : aShift op k a b = some v) (t : TypeId) : (binOp op t (.int k a) (.int k' b)).run P w = .ok v w := by
  unfold aShift at h
  split at h
  · simp at h
  · rename_i hb
    cases op <;> simp only at h <;> (try (simp at h; done)) <;> (obtain rfl := Option.some.inj h)
    all_goals simp [binOp, Op.shift, hb]

theorem aStrOp_sound {op : BinOp} {a b : ByteArray} {v : Value} (h : aStrOp op a b = some v) (t : TypeId) : (binOp op t (.string a) (.string b)).run P w = .ok v w := by
  cases op <;> simp only [aStrOp] at h <;> (try (simp at h; done)) <;> (try split at h) <;> (try (simp at h; done)) <;> (obtain rfl := Option.some.inj h)
  case add hs =>
    have hc : ¬ ((((a.size + b.size : Nat) : Int)) > IntKind.i64.max) := by
      rw [show IntKind.i64.max = 9223372036854775807 from by decide]; omega
    simp only [binOp, Op.stringOp, if_neg hc, Sem.run_pure]
  all_goals rfl

theorem aBin_sound {op : BinOp} {a b v : Value} (h : aBin op a b = some v) (t : TypeId) (x y : Operand) :
    (do eqGuard op t x y a b; binOp op t a b : Sem Value).run P w = .ok v w := by
  have hg : (eqGuard op t x y a b).run P w = .ok () w := by
    apply eqGuard_run
    · rintro xs ys ⟨rfl, rfl⟩; simp [aBin] at h
    · left; rintro ⟨rfl, rfl⟩; simp [aBin] at h
  simp only [Sem.run_bind, hg, Result.andThen_ok]
  unfold aBin at h
  split at h
  · split at h
    · exact aShift_sound h t
    · exact aShift_sound h t
    · split at h
      · rename_i h1 h2 hk
        subst hk
        exact aIntOp_sound (by simpa using h1) (by simpa using h2) h t
      · simp at h
  · exact aStrOp_sound h t
  · simp at h

end
end
end Go.Proofs.YtkaibjdogeikbaaDoor.Am
