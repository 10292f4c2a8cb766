/- The evaluator of the abstract machine, part DT: what it finds is a derivation. -/
import Derived.Test.YtbgjcoochdljfaaDoorRD
import Derived.Test.YtbgjcoochdljfaaDoorRL
import Derived.SliceStrings
namespace Go.Proofs.YtbgjcoochdljfaaDoorR.Am
noncomputable section
open Go.ChangeShapes Go.WideShapes Go.RowKit
/- ARGUMENTS THAT ARE LISTS OF ROWS OF NUMBERS (structures of numbers): what a slice of the caller's holds, and where. -/
def rowC : List IntKind → List Int → List Value
  | k :: ks, z :: zs => .int k z :: rowC ks zs
  | _, _ => []
def RowOk : List IntKind → List Int → Prop
  | [], [] => True
  | k :: ks, z :: zs => (Lit.int k z).wf = true ∧ RowOk ks zs
  | _, _ => False
theorem rowC_len : ∀ {ks : List IntKind} {r : List Int}, RowOk ks r → (rowC ks r).length = ks.length
  | [], [], _ => rfl
  | k :: ks, z :: zs, h => by simp [rowC, rowC_len h.2]
  | [], _ :: _, h => h.elim
  | _ :: _, [], h => h.elim
def rowsL (ks : List IntKind) (rs : List (List Int)) : List Value := rs.flatMap (rowC ks)
theorem rowsL_len {ks : List IntKind} : ∀ {rs : List (List Int)}, (∀ r ∈ rs, RowOk ks r) → (rowsL ks rs).length = rs.length * ks.length
  | [], _ => by simp [rowsL]
  | r :: rs, h => by
    have h1 := rowC_len (h r (.head _))
    have h2 := rowsL_len (rs := rs) fun x hx => h x (.tail _ hx)
    unfold rowsL at h2 ⊢
    rw [List.flatMap_cons, List.length_append, h1, h2, List.length_cons, Nat.add_mul, Nat.one_mul, Nat.add_comm]
/-- A row, read. -/
theorem rowsL_row {ks : List IntKind} : ∀ {rs : List (List Int)} (_ : ∀ r ∈ rs, RowOk ks r) {k : Nat} {r : List Int}, rs[k]? = some r → ((rowsL ks rs).drop (k * ks.length)).take ks.length = rowC ks r
  | [], _, k, r, hk => by simp at hk
  | x :: rs, h, k, r, hk => by
    have h1 := rowC_len (h x (.head _))
    cases k with
    | zero =>
      simp at hk
      subst hk
      unfold rowsL
      rw [Nat.zero_mul, List.drop_zero, List.flatMap_cons, ← h1, List.take_left]
    | succ k =>
      have := rowsL_row (rs := rs) (fun x hx => h x (.tail _ hx)) (k := k) (r := r) (by simpa using hk)
      unfold rowsL at this ⊢
      rw [List.flatMap_cons, Nat.add_mul, Nat.one_mul, Nat.add_comm, ← List.drop_drop, ← h1, List.drop_left, h1]
      exact this
theorem rowC_one : ∀ {ks : List IntKind} {r : List Int}, (rowC ks r).all Value.oneCell' = true
  | [], _ => rfl
  | _ :: _, [] => rfl
  | k :: ks, z :: zs => by simp [rowC, Value.oneCell', rowC_one]
theorem rowsL_one {ks : List IntKind} : ∀ {rs : List (List Int)}, (rowsL ks rs).all Value.oneCell' = true
  | [] => rfl
  | r :: rs => by
    have := rowsL_one (ks := ks) (rs := rs)
    unfold rowsL at this ⊢
    rw [List.flatMap_cons, List.all_append, rowC_one, this]; rfl
theorem rowC_int : ∀ {ks : List IntKind} {r : List Int} {v : Value}, v ∈ rowC ks r → ∃ k z, v = .int k z
  | [], _, v, h => by cases h
  | _ :: _, [], v, h => by cases h
  | k :: ks, z :: zs, v, h => by
    simp only [rowC, List.mem_cons] at h
    rcases h with rfl | h
    · exact ⟨_, _, rfl⟩
    · exact rowC_int h
theorem rowsL_int {ks : List IntKind} {rs : List (List Int)} {v : Value} (h : v ∈ rowsL ks rs) : ∃ k z, v = .int k z := by
  unfold rowsL at h
  obtain ⟨r, _, hr⟩ := List.mem_flatMap.1 h
  exact rowC_int hr
theorem add_none (b o x : Nat) : (⟨b, o, none⟩ : Addr).add x = ⟨b, o + x, none⟩ := by
  unfold Addr.add
  split
  · rename_i h; rw [h]; rfl
  · rfl
def RArg (W : World) (v : Value) (ks : List IntKind) (rs : List (List Int)) (l : Loc) : Prop :=
  l.own = false ∧ l.block < W.heap.size ∧ rs.length < 9223372036854775808 ∧ (∀ r ∈ rs, RowOk ks r) ∧
  (∀ k b, (rowsL ks rs)[k]? = some b → W.cell? ⟨l.block, l.off + k, none⟩ = some b) ∧
  (v = .slice none 0 0 ∧ rs = [] ∨ ∃ a cap, v = .slice (some a) rs.length cap ∧ rs.length ≤ cap ∧ (cap = 0 ∨ a = ⟨l.block, l.off, none⟩))
/-- The fields of a structure of numbers, one cell each. -/
def FieldsAre (P : Program) : Nat → List IntKind → List Field → Prop
  | _, [], [] => True
  | o, k :: ks, f :: fs => P.underlying f.type = some (.int k) ∧ f.offset = o ∧ P.cellsOf f.type = 1 ∧ FieldsAre P (o + 1) ks fs
  | _, _, _ => False
section
variable {H : Type} {enc : TypeId × Value → H} {P : Program} {w : World} {base : Nat} {sp : Nat → Bool} {held : Bool}
theorem row_of (enc : TypeId × Value → H) (P : Program) (w : World) (base : Nat) (sp : Nat → Bool) (held : Bool) (n : Nat) : ∀ {ks : List IntKind} {fs : List Field} {cs full : List Value} {o : Nat}, FieldsAre P o ks fs → cs.length = ks.length → cs = full.drop o →
    (∀ (i : Nat) (f : Field), fs[i]? = some f → ∃ y, DataW.trod enc P w base sp held n f.type ((full.drop f.offset).take (P.cellsOf f.type)) = some y) → ∃ r, RowOk ks r ∧ cs = rowC ks r
  | [], [], cs, full, o, _, hl, _, _ => ⟨[], trivial, by
    have : cs = [] := by simpa using hl
    rw [this]; rfl⟩
  | k :: ks, f :: fs, cs, full, o, hf, hl, hcs, hx => by
    obtain ⟨h1, h2, h3, h4⟩ := hf
    cases cs with
    | nil => simp at hl
    | cons c cs =>
      obtain ⟨y, hy⟩ := hx 0 f rfl
      rw [h2, h3, ← hcs] at hy
      obtain ⟨z, e, _, hw⟩ := DataW.trod_int h1 hy
      simp at e
      subst e
      have hd : cs = full.drop (o + 1) := by
        rw [← List.drop_drop, ← hcs]; rfl
      obtain ⟨r, hr, e⟩ := row_of enc P w base sp held n (ks := ks) (fs := fs) (cs := cs) (full := full) (o := o + 1) h4 (by simpa using hl) hd fun i g hg => hx (i + 1) g (by simpa using hg)
      exact ⟨z :: r, ⟨hw, hr⟩, by rw [e]; rfl⟩
  | [], _ :: _, _, _, _, h, _, _, _ => h.elim
  | _ :: _, [], _, _, _, h, _, _, _ => h.elim
theorem open_row {t : TypeId} {fs : Array Field} {ks : List IntKind} {fuel : Nat} {cs : List Value} {x : DataW H × List MemPlace} (ht : P.underlying t = some (.struct fs)) (hf : FieldsAre P 0 ks fs.toList) (hc : P.cellsOf t = ks.length)
    (h : DataW.trod enc P w base sp held fuel t cs = some x) : ∃ r, RowOk ks r ∧ cs = rowC ks r := by
  obtain ⟨xs, n, _, _, hl, hxl, hx⟩ := DataW.trod_struct ht h
  refine row_of enc P w base sp held n (full := cs) (o := 0) hf (by rw [hl, hc]) rfl fun i f hi => ?_
  have := hx i f (by simpa using hi)
  have hlt : i < xs.length := by
    rw [hxl]
    have := (List.getElem?_eq_some_iff.1 hi).1
    simpa using this
  exact ⟨xs[i], by rw [this, List.getElem?_eq_getElem hlt]⟩
end
theorem open_rarg {H : Type} {enc : TypeId × Value → H} {P : Program} {t e : TypeId} {fs : Array Field} {ks : List IntKind} {W : World} {fuel : Nat} {v : Value} {x : DataW H × List MemPlace} (ht : P.underlying t = some (.slice e)) (he : P.underlying e = some (.struct fs))
    (hf : FieldsAre P 0 ks fs.toList) (hc : P.cellsOf e = ks.length) (hk : 0 < ks.length)
    (h : DataW.trod enc P W 0 (fun _ => true) true fuel t [v] = some x) (h0 : 0 < W.heap.size) : ∃ rs l, RArg W v ks rs l := by
  rcases DataW.trod_slice ht h with ⟨hcs, _⟩ | ⟨a, len, cap, elems, rest, n, _, hcs, _, _, hl, hm, hlen, hel, hsp, _⟩
  · exact ⟨[], ⟨0, 0, false, 0, 0⟩, rfl, h0, by simp, by simp, by simp [rowsL], .inl ⟨by simpa using hcs, rfl⟩⟩
  · have hv : v = .slice (some a) len cap := by simpa using hcs
    have each : ∀ i, i < len → ∃ r, RowOk ks r ∧ W.cells? 0 (a.add (i * ks.length)) ks.length = some (rowC ks r) := fun i hi => by
      have h1 := hel i hi
      rw [List.getElem?_eq_getElem (by omega), hc, Option.bind_eq_some_iff] at h1
      obtain ⟨cs', h2, h3⟩ := h1
      obtain ⟨r, hr, rfl⟩ := open_row he hf hc h3
      exact ⟨r, hr, h2⟩
    have all : ∀ m, m ≤ len → ∃ rs : List (List Int), rs.length = m ∧ (∀ r ∈ rs, RowOk ks r) ∧ ∀ i r, rs[i]? = some r → W.cells? 0 (a.add (i * ks.length)) ks.length = some (rowC ks r) := by
      intro m
      induction m with
      | zero => exact fun _ => ⟨[], rfl, by simp, by simp⟩
      | succ m ih =>
        intro hm
        obtain ⟨rs, h1, h2, h3⟩ := ih (by omega)
        obtain ⟨r, hr, hcell⟩ := each m (by omega)
        refine ⟨rs ++ [r], by simp [h1], fun y hy => ?_, fun i y hy => ?_⟩
        · rcases List.mem_append.1 hy with hy | hy
          · exact h2 y hy
          · simp at hy; rw [hy]; exact hr
        · by_cases hi : i < rs.length
          · rw [List.getElem?_append_left hi] at hy
            exact h3 i y hy
          · rw [List.getElem?_append_right (by omega)] at hy
            have hi0 : i - rs.length = 0 := by
              have := (List.getElem?_eq_some_iff.1 hy).1
              simp at this
              omega
            rw [hi0] at hy
            simp at hy
            have : i = m := by omega
            rw [← hy, this]; exact hcell
    obtain ⟨rs, h1, h2, h3⟩ := all len (Nat.le_refl _)
    unfold maxLen at hm
    by_cases hc0 : cap = 0
    · have hl0 : len = 0 := by omega
      have : rs = [] := by cases rs with
        | nil => rfl
        | cons r rs => simp at h1; omega
      subst this
      exact ⟨[], ⟨0, 0, false, 0, 0⟩, rfl, h0, by simp, by simp, by simp [rowsL], .inr ⟨a, cap, by rw [hv, hl0]; rfl, by simp, .inl hc0⟩⟩
    · have c0 : ∃ b, W.cell? a = some b := by
        have hz : ∃ cs, W.cells? 0 a ks.length = some cs := by
          by_cases hl0 : len = 0
          · obtain ⟨hrl, hr⟩ := hsp rfl
            have h4 := hr 0 (by omega)
            rw [List.getElem?_eq_getElem (by omega), hc, Option.bind_eq_some_iff] at h4
            obtain ⟨cs, h5, _⟩ := h4
            have e4 : a.add ((len + 0) * ks.length) = a := by
              rw [hl0]
              simp [Addr.add]
            rw [e4] at h5
            exact ⟨cs, h5⟩
          · obtain ⟨r, hr, hcell⟩ := each 0 (by omega)
            have e4 : a.add (0 * ks.length) = a := by simp [Addr.add]
            rw [e4] at hcell
            exact ⟨_, hcell⟩
        obtain ⟨cs, hz⟩ := hz
        obtain ⟨_, c1, c2⟩ := World.cells?_some hz
        have c3 := c2 0 hk
        rw [List.getElem?_eq_getElem (by omega)] at c3
        exact ⟨_, c3⟩
      obtain ⟨b0, c0⟩ := c0
      have hsp0 : a.spot = none := by
        unfold World.cell? at c0
        split at c0
        · cases hs : a.spot with
          | none => rfl
          | some _ => simp [hs] at c0
        · cases c0
      have hb : a.block < W.heap.size := by
        unfold World.cell? at c0
        split at c0
        · rename_i hh
          exact (Array.getElem?_eq_some_iff.1 hh).1
        · cases c0
      have he' : a = ⟨a.block, a.off, none⟩ := by rw [← hsp0]
      refine ⟨rs, ⟨a.block, a.off, false, 0, 0⟩, rfl, hb, by omega, h2, fun k b hkb => ?_, .inr ⟨a, cap, by rw [h1, hv], by omega, .inr he'⟩⟩
      have hlt := (List.getElem?_eq_some_iff.1 hkb).1
      rw [rowsL_len h2] at hlt
      have hq : k / ks.length < rs.length := by rw [Nat.div_lt_iff_lt_mul hk]; exact hlt
      have hm' := Nat.mod_lt k hk
      have hdm := Nat.div_add_mod k ks.length
      have hr := List.getElem?_eq_getElem hq
      have hcell := h3 _ _ hr
      obtain ⟨_, c1, c2⟩ := World.cells?_some hcell
      have c3 := c2 (k % ks.length) hm'
      have hrow := rowsL_row h2 hr
      have hkb2 : (rowC ks rs[k / ks.length])[k % ks.length]? = some b := by
        rw [← hrow, List.getElem?_take, if_pos hm', List.getElem?_drop, Nat.mul_comm, hdm]
        exact hkb
      rw [hkb2] at c3
      have ead : (a.add (k / ks.length * ks.length)).add (k % ks.length) = ⟨a.block, a.off + k, none⟩ := by
        rw [he', add_none, add_none, Nat.add_assoc, Nat.mul_comm, hdm]
      rw [ead] at c3
      exact c3
/-- The seed of such rows. -/
theorem RArg.seed {W : World} {v : Value} {ks : List IntKind} {rs : List (List Int)} {l : Loc} (x : RArg W v ks rs l) {s : List Seed} {i : Nat} (hi : 4096 ≤ i) : SeedOk W s (i, l, .cells none (rowsL ks rs) 0) := by
  obtain ⟨h1, h2, _, _, h3, _⟩ := x
  refine ⟨h1, h2, fun h => by simp only at h; omega, rfl, Nat.zero_le _, rowsL_one, fun k v hk => ?_⟩
  obtain ⟨q, z, rfl⟩ := rowsL_int (List.mem_of_getElem? hk)
  exact ⟨_, h3 k _ hk, .int _ _⟩
/-- The value that stands for such rows. -/
theorem RArg.val {W : World} {v : Value} {ks : List IntKind} {rs : List (List Int)} {l : Loc} (x : RArg W v ks rs l) {s : List Seed} {i : Nat} (hi : lookS s i = some (l, .cells none (rowsL ks rs) 0)) :
    ∃ u, (u = .slice none 0 0 ∧ rs = [] ∨ u = .slice (some ⟨i, 0, some (rs.length * ks.length)⟩) rs.length 0) ∧ VRel (phi0 s) u v ∧ u.oneCell' = true := by
  obtain ⟨_, _, _, hr, _, ⟨rfl, rfl⟩ | ⟨a, cap, rfl, hl, ha⟩⟩ := x
  · exact ⟨_, .inl ⟨rfl, rfl⟩, .sliceNil, rfl⟩
  · refine ⟨.slice (some ⟨i, 0, some (rs.length * ks.length)⟩) rs.length 0, .inr rfl, .slice i 0 _ _ _ l a cap ?_ hl ?_ (.inl rfl), rfl⟩
    · simp [phi0, hi, Blk.gen, rowsL_len hr]
    · rcases ha with h | h
      · exact .inl h
      · exact .inr (by rw [h]; rfl)
end
end Go.Proofs.YtbgjcoochdljfaaDoorR.Am
