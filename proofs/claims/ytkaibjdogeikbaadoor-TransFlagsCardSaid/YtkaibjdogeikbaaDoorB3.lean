/- The soundness of the operations of the abstract machine, part B3. -/
import Derived.Test.YtkaibjdogeikbaaDoorB2
import Derived.Laws.StructEq
namespace Go.Proofs.YtkaibjdogeikbaaDoor.Am
noncomputable section
open Go.RowKit (Below)

section
variable {P : Program} {G : Nat} {w0 : World} {φ : Phi} {T : TH} {w : World} {h : AHeap} {n : Nat} {σ : Fr} {ρ : Operand → Value}

/- ---------------------------------------------------------------- struct and array equality -/

theorem leavesEq_append : ∀ (l1 l2 : List Leaf) (xs ys : List Value) (r : Bool), leavesEq (l1 ++ l2) xs ys = some r →
    ∃ r1 r2, leavesEq l1 (xs.take l1.length) (ys.take l1.length) = some r1 ∧ leavesEq l2 (xs.drop l1.length) (ys.drop l1.length) = some r2 ∧ r = (r1 && r2)
  | [], l2, xs, ys, r, h => ⟨true, r, by simp [leavesEq], by simpa using h, by simp⟩
  | l :: l1, l2, xs, ys, r, h => by
    cases xs with
    | nil => simp [leavesEq] at h
    | cons x xs =>
      cases ys with
      | nil => simp [leavesEq] at h
      | cons y ys =>
        simp only [List.cons_append, leavesEq] at h
        split at h
        · rename_i a b ha hb
          simp at h
          subst h
          obtain ⟨r1, r2, h1, h2, h3⟩ := leavesEq_append l1 l2 xs ys b hb
          refine ⟨a && r1, r2, by simp [leavesEq, ha, h1], by simpa using h2, by rw [h3, Bool.and_assoc]⟩
        · simp at h

theorem leavesEq_scalar : ∀ (ls : List Leaf) (xs ys : List Value) (r : Bool), leavesEq ls xs ys = some r → xs.all scalar = true ∧ ys.all scalar = true ∧ xs.length = ls.length ∧ ys.length = ls.length
  | [], xs, ys, r, h => by
    cases xs <;> cases ys <;> simp [leavesEq] at h
    exact ⟨rfl, rfl, rfl, rfl⟩
  | l :: ls, xs, ys, r, h => by
    cases xs with
    | nil => simp [leavesEq] at h
    | cons x xs =>
      cases ys with
      | nil => simp [leavesEq] at h
      | cons y ys =>
        simp only [leavesEq] at h
        split at h
        · rename_i a b ha hb
          obtain ⟨h1, h2, h3, h4⟩ := leavesEq_scalar ls xs ys b hb
          have hxy : scalar x = true ∧ scalar y = true := by
            cases l <;> cases x <;> cases y <;> first | exact ⟨rfl, rfl⟩ | (simp [leafEq] at ha; done)
          exact ⟨by simp [hxy.1]; simpa using h1, by simp [hxy.2]; simpa using h2, by simp [h3], by simp [h4]⟩
        · simp at h

def eqElems (d : Nat) (elem : TypeId) (s : Nat) (xs ys : Array Value) : List Nat → Sem Bool
  | [] => pure true
  | i :: is => do
    let a ← part elem xs (i * s)
    let b ← part elem ys (i * s)
    let r ← Op.equalIn d elem a b
    if (!r) = true then pure false else eqElems d elem s xs ys is

theorem run_equalIn_array (d : Nat) (t : TypeId) {len : Nat} {elem : TypeId} {s : Nat} (xs ys : Array Value) (ht : P.underlying t = some (.array len elem)) (hs : sz P elem = some s) :
    (Op.equalIn (d + 1) t (.agg xs) (.agg ys)).run P w = (eqElems d elem s xs ys (List.range len)).run P w := by
  simp only [Op.equalIn, Sem.run_bind, run_underlying' ht, Result.andThen_ok, run_sizeOf' hs]
  rw [Std.Legacy.Range.forIn_eq_forIn_range']
  simp only [Std.Legacy.Range.size, Nat.sub_zero, Nat.add_sub_cancel, Nat.div_one]
  rw [← List.range_eq_range']
  generalize List.range len = is
  induction is generalizing w with
  | nil => simp [eqElems]
  | cons i is ih =>
    simp only [List.forIn_cons, eqElems, Sem.run_bind, Sem.run_ite]
    generalize (part elem xs (i * s)).run P w = r1
    cases r1 with
    | ok a w1 =>
      simp only [Result.andThen_ok]
      generalize (part elem ys (i * s)).run P w1 = r2
      cases r2 with
      | ok b w2 =>
        simp only [Result.andThen_ok]
        generalize (Op.equalIn d elem a b).run P w2 = r3
        cases r3 with
        | ok r w3 =>
          cases r
          · simp only [Result.andThen_ok, Bool.not_false, if_true, Sem.run_pure]
          · simp only [Result.andThen_ok, Bool.not_true, Bool.false_eq_true, if_false, Sem.run_pure]
            exact ih
        | halt x w3 => simp [Result.andThen]
      | halt x w2 => simp [Result.andThen]
    | halt x w1 => simp [Result.andThen]

/-- What a piece of an aggregate's cells is, as a value of its type. -/
def pieceEq (P : Program) (w : World) (dep : Nat) (t : TypeId) (xs ys : List Value) (r : Bool) : Prop :=
  ∃ d, P.underlying t = some d ∧ if isAggD d then (Op.equalIn dep t (.agg xs.toArray) (.agg ys.toArray)).run P w = .ok r w
    else ∃ x y, xs = [x] ∧ ys = [y] ∧ (Op.equalIn dep t x y).run P w = .ok r w

theorem part_piece {t : TypeId} {dep : Nat} {s : Nat} (hs : sz P t = some s) {xs ys : Array Value} {off : Nat} {r : Bool} (h : pieceEq P w dep t ((xs.toList.drop off).take s) ((ys.toList.drop off).take s) r) :
    ∃ a b, (part t xs off).run P w = .ok a w ∧ (part t ys off).run P w = .ok b w ∧ (Op.equalIn dep t a b).run P w = .ok r w := by
  obtain ⟨d, hd, h⟩ := h
  split at h
  · rename_i ha
    refine ⟨.agg (xs.extract off (off + s)), .agg (ys.extract off (off + s)), by simp [part, run_isAgg' hd, ha, run_sizeOf' hs], by simp [part, run_isAgg' hd, ha, run_sizeOf' hs], ?_⟩
    have e : ∀ zs : Array Value, zs.extract off (off + s) = ((zs.toList.drop off).take s).toArray := by
      intro zs; apply Array.toList_inj.1; simp [List.extract_eq_take_drop]
    rw [e, e]; exact h
  · rename_i ha
    obtain ⟨x, y, hx, hy, h⟩ := h
    have g : ∀ (zs : Array Value) (z : Value), (zs.toList.drop off).take s = [z] → zs[off]? = some z := by
      intro zs z hz
      have := congrArg (fun l => l[0]?) hz
      simp only [List.getElem?_cons_zero] at this
      rw [List.getElem?_take] at this
      split at this
      · rw [List.getElem?_drop] at this; simpa using this
      · cases this
    exact ⟨x, y, by simp [part, run_isAgg' hd, ha, g xs x hx], by simp [part, run_isAgg' hd, ha, g ys y hy], h⟩

def leafD : Leaf → TypeDesc → Prop
  | .int, d => ∃ k, d = .int k
  | .bool, d => d = .bool
  | .str, d => d = .string
  | .float, d => ∃ k, d = .float k
theorem leaf_sound {dep : Nat} {t : TypeId} {d : TypeDesc} {l : Leaf} {x y : Value} {r : Bool} (ht : P.underlying t = some d) (hl : leafEq l x y = some r)
    (hd : leafD l d) : (Op.equalIn (dep + 1) t x y).run P w = .ok r w := by
  cases l <;> cases x <;> cases y <;> simp only [leafEq] at hl <;> (try (simp at hl; done))
  · split at hl
    · rename_i hk; subst hk; simp at hl; subst hl; obtain ⟨k, rfl⟩ := hd; simp [Op.equalIn, run_underlying' ht]
    · simp at hl
  · simp at hl; subst hl; obtain rfl := hd; simp [Op.equalIn, run_underlying' ht]
  · simp at hl; subst hl; obtain rfl := hd; simp [Op.equalIn, run_underlying' ht]
  · split at hl
    · rename_i hk; subst hk; simp at hl; subst hl; obtain ⟨k, rfl⟩ := hd; simp [Op.equalIn, run_underlying' ht]
    · simp at hl

theorem one_leaf {dep : Nat} {t : TypeId} {d : TypeDesc} {l : Leaf} {xs ys : List Value} {r : Bool} (ht : P.underlying t = some d) (hna : isAggD d = false)
    (hd : leafD l d) (h : leavesEq [l] xs ys = some r) : pieceEq P w (dep + 1) t xs ys r := by
  cases xs with
  | nil => simp [leavesEq] at h
  | cons x xs =>
    cases ys with
    | nil => simp [leavesEq] at h
    | cons y ys =>
      simp only [leavesEq] at h
      split at h
      · rename_i a b ha hb
        simp at h
        subst h
        have hb' : xs = [] ∧ ys = [] ∧ b = true := by cases xs <;> cases ys <;> simp [leavesEq] at hb; exact ⟨rfl, rfl, hb⟩
        obtain ⟨rfl, rfl, rfl⟩ := hb'
        refine ⟨d, ht, ?_⟩
        rw [if_neg (by simp [hna])]
        exact ⟨x, y, rfl, rfl, by simpa using leaf_sound ht ha hd⟩
      · simp at h

theorem elems_leaves {dep : Nat} {elem : TypeId} {s : Nat} {ls : List Leaf} (hs : sz P elem = some s) (hls : ls.length = s) (ih : ∀ xs ys r, leavesEq ls xs ys = some r → pieceEq P w dep elem xs ys r) (xs ys : Array Value) :
    ∀ (len k : Nat) (r : Bool), leavesEq (List.replicate len ls).flatten (xs.toList.drop (k * s)) (ys.toList.drop (k * s)) = some r →
      (eqElems dep elem s xs ys (List.range' k len)).run P w = .ok r w
  | 0, k, r, h => by
    simp only [List.replicate_zero, List.flatten_nil] at h
    have : r = true := by
      generalize xs.toList.drop (k * s) = a at h
      generalize ys.toList.drop (k * s) = b at h
      cases a <;> cases b <;> simp [leavesEq] at h
      exact h
    subst this
    simp [eqElems]
  | len + 1, k, r, h => by
    simp only [List.replicate_succ, List.flatten_cons] at h
    obtain ⟨r1, r2, h1, h2, h3⟩ := leavesEq_append _ _ _ _ _ h
    rw [hls] at h1 h2
    obtain ⟨a, b, ha, hb, hab⟩ := part_piece hs (ih _ _ _ h1)
    simp only [List.drop_drop] at h2
    rw [show k * s + s = (k + 1) * s from by rw [Nat.add_mul]; omega] at h2
    have h4 := elems_leaves hs hls ih xs ys len (k + 1) r2 h2
    simp only [List.range'_succ, eqElems, Sem.run_bind, ha, hb, hab, Result.andThen_ok]
    cases r1
    · subst h3; simp
    · subst h3; simpa using h4

theorem leaves_sound : ∀ (d : Nat), (∀ (t : TypeId) (ls : List Leaf), leaves P d t = some ls → ∀ dep, d ≤ dep → ∀ xs ys r, leavesEq ls xs ys = some r → pieceEq P w dep t xs ys r) ∧
    (∀ (off : Nat) (fs : List Field) (ls : List Leaf), fieldLeaves P d off fs = some ls → ∀ dep, d ≤ dep + 1 → ∀ (xs ys : Array Value) r, leavesEq ls (xs.toList.drop off) (ys.toList.drop off) = some r →
      (Op.eqFields dep xs ys fs).run P w = .ok r w)
  | 0 => ⟨fun t ls h => by simp [leaves] at h, fun off fs ls h => by simp [fieldLeaves] at h⟩
  | d + 1 => by
    obtain ⟨ih1, ih2⟩ := leaves_sound d
    constructor
    · intro t ls h dep hdep xs ys r he
      obtain ⟨dep, rfl⟩ : ∃ k, dep = k + 1 := ⟨dep - 1, by omega⟩
      simp only [leaves] at h
      split at h
      · rename_i ht; simp at h; subst h; exact one_leaf (l := .bool) ht rfl rfl he
      · rename_i k ht; simp at h; subst h; exact one_leaf (l := .int) ht rfl ⟨k, rfl⟩ he
      · rename_i ht; simp at h; subst h; exact one_leaf (l := .str) ht rfl rfl he
      · rename_i k ht; simp at h; subst h; exact one_leaf (l := .float) ht rfl ⟨k, rfl⟩ he
      · rename_i len elem ht
        split at h
        · rename_i l s hl hs
          split at h
          · rename_i hls
            simp at h
            subst h
            refine ⟨_, ht, ?_⟩
            rw [if_pos (show isAggD (.array len elem) = true from rfl), run_equalIn_array dep t xs.toArray ys.toArray ht hs, List.range_eq_range']
            exact elems_leaves hs hls (fun xs ys r => ih1 _ _ hl dep (by omega) xs ys r) xs.toArray ys.toArray len 0 r (by simpa using he)
          · simp at h
        · simp at h
      · rename_i fs ht
        split at h
        · simp at h
        · rename_i hp
          refine ⟨_, ht, ?_⟩
          rw [if_pos (show isAggD (.struct fs) = true from rfl)]
          have hf : P.fieldsOf t = fs := by simp [Program.fieldsOf, ht]
          rw [run_equalIn_struct w dep t xs.toArray ys.toArray (by rw [hf]; exact ht) (by simpa using hp), hf]
          exact ih2 0 fs.toList ls h dep (by omega) xs.toArray ys.toArray r (by simpa using he)
      · simp at h
    · intro off fs ls h dep hdep xs ys r he
      cases fs with
      | nil =>
        simp [fieldLeaves] at h; subst h
        have : r = true := by
          generalize xs.toList.drop off = a at he
          generalize ys.toList.drop off = b at he
          cases a <;> cases b <;> simp [leavesEq] at he
          exact he
        subst this
        simp [Op.eqFields]
      | cons f fs =>
        simp only [fieldLeaves] at h
        split at h
        · simp at h
        · rename_i hn
          split at h
          · rename_i l s r' hl hs hr'
            split at h
            · rename_i hls
              simp at h
              subst h
              simp only [not_or, Decidable.not_not] at hn
              obtain ⟨r1, r2, h1, h2, h3⟩ := leavesEq_append _ _ _ _ _ he
              rw [hls] at h1 h2
              obtain ⟨a, b, ha, hb, hab⟩ := part_piece hs (ih1 _ _ hl dep (by omega) _ _ _ h1)
              have h4 := ih2 _ fs r' hr' dep (by omega) xs ys r2 (by rw [hs]; simpa [List.drop_drop] using h2)
              simp only [Op.eqFields]
              rw [if_pos hn.1]
              rw [hn.2]
              simp only [Sem.run_bind, ha, hb, hab, Result.andThen_ok]
              cases r1
              · subst h3; simp
              · subst h3; simpa using h4
            · simp at h
          · simp at h

theorem eqAgg_sound {op : BinOp} {t : TypeId} {x y : Operand} {d : TypeDesc} (ht : P.underlying t = some d) (hagg : isAggD d = true) (hg : P.eqGuardType P.depth t = false) {ls : List Leaf} (hl : leaves P 40 t = some ls)
    {as bs : Array Value} {a b : Value} (ha : VRel φ (.agg as) a) (hb : VRel φ (.agg bs) b) {r : Bool} (he : leavesEq ls as.toList bs.toList = some r) (hop : op = .eql ∨ op = .neq) :
    (do eqGuard op t x y a b; binOp op t a b : Sem Value).run P w = .ok (.bool (if op = .neq then !r else r)) w := by
  obtain ⟨h1, h2, _, _⟩ := leavesEq_scalar _ _ _ _ he
  have ea : a = .agg as := ha.eq_of_flat (by simpa [flat] using h1)
  have eb : b = .agg bs := hb.eq_of_flat (by simpa [flat] using h2)
  subst ea; subst eb
  obtain ⟨d', hd', hpe⟩ := (leaves_sound (P := P) (w := w) 40).1 t ls hl 10000 (by omega) _ _ _ he
  rw [ht] at hd'
  obtain rfl := Option.some.inj hd'
  rw [if_pos hagg] at hpe
  simp only [Array.toArray_toList] at hpe
  rcases hop with rfl | rfl
  · simp only [Sem.run_bind, run_eqGuard_agg w _ t x y as bs hg, Result.andThen_ok, run_eql_struct, hpe]; rfl
  · simp only [Sem.run_bind, run_eqGuard_agg w _ t x y as bs hg, Result.andThen_ok, run_neq_struct, hpe]; rfl

end
end
end Go.Proofs.YtkaibjdogeikbaaDoor.Am
