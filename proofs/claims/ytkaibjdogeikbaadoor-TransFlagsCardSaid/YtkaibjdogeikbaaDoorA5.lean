/- The abstract memory and its operations, part A5: what a run of the model does is bounded by what an abstract machine does. -/
import Derived.Test.YtkaibjdogeikbaaDoorA4
namespace Go.Proofs.YtkaibjdogeikbaaDoor.Am
noncomputable section
open Go.RowKit (Below)

section
variable {P : Program} {w : World}

theorem run_underlying' {t : TypeId} {d : TypeDesc} (h : P.underlying t = some d) : (underlying t).run P w = .ok d w := by
  simp [underlying, h]
theorem run_typeInfo' {t : TypeId} {i : TypeInfo} (h : P.info? t = some i) : (typeInfo t).run P w = .ok i w := by
  simp [typeInfo, h]
theorem run_sizeOf' {t : TypeId} {s : Nat} (h : sz P t = some s) : (sizeOf t).run P w = .ok s w := by
  unfold sz at h
  cases hi : P.info? t with
  | none => simp [hi] at h
  | some i => simp [hi] at h; subst h; simp [sizeOf, run_typeInfo' hi]
theorem run_zeroValue' {t : TypeId} {i : TypeInfo} {v : Value} (h : P.info? t = some i) (hz : i.zero = some v) : (zeroValue t).run P w = .ok v w := by
  simp [zeroValue, run_typeInfo' h, hz]
theorem zeroCells?_spec {t : TypeId} {z : List Value} (h : zeroCells? P t = some z) :
    ∃ i v, P.info? t = some i ∧ i.zero = some v ∧ z = v.cells.toList ∧ z.all scalar = true ∧ v.cells.size = i.size := by
  unfold zeroCells? at h
  split at h
  · rename_i i hi
    split at h
    · rename_i v hv
      split at h
      · rename_i hc
        simp only [Bool.and_eq_true, beq_iff_eq] at hc
        simp at h
        exact ⟨i, v, hi, hv, h.symm, by rw [← h]; exact hc.1, hc.2⟩
      · simp at h
    · simp at h
  · simp at h

theorem add_eq (b o n : Nat) : Addr.add ⟨b, o, none⟩ n = ⟨b, o + n, none⟩ := by
  unfold Addr.add
  split
  · rename_i h; subst h; rfl
  · rfl

theorem run_loadCellsFrom (b o : Nat) (us : List Value) : ∀ (i : Nat) (acc : Array Value),
    (∀ k u, us[k]? = some u → w.cell? ⟨b, o + i + k, none⟩ = some u) →
    (loadCellsFrom ⟨b, o, none⟩ i us.length acc).run P w = .ok (acc ++ us.toArray) w := by
  induction us with
  | nil => intro i acc _; simp [loadCellsFrom]
  | cons u us ih =>
    intro i acc h
    have h0 := h 0 u (by simp)
    have ih' := ih (i + 1) (acc.push u) (fun k v hv => by
      have := h (k + 1) v (by simpa using hv)
      rw [show o + (i + 1) + k = o + i + (k + 1) from by omega]; exact this)
    simp only [List.length_cons, loadCellsFrom, Sem.run_bind, run_load, add_eq]
    simp only [Nat.add_zero] at h0
    rw [h0]
    simp only [Result.andThen_ok, ih']
    simp

theorem run_loadCells' {b o : Nat} {us : List Value} (h : ∀ k u, us[k]? = some u → w.cell? ⟨b, o + k, none⟩ = some u) {m : Nat} (hm : us.length = m) :
    (loadCells ⟨b, o, none⟩ m).run P w = .ok us.toArray w := by
  subst hm
  have := run_loadCellsFrom (P := P) (w := w) b o us 0 #[] (by simpa using h)
  simpa [loadCells] using this

/-- The cells behind a store of some. -/
def spliceA (c : Array Value) (o : Nat) (vs : List Value) : Array Value := (splice c.toList o vs).toArray
theorem spliceA_size {c : Array Value} {o : Nat} {vs : List Value} (h : o + vs.length ≤ c.size) : (spliceA c o vs).size = c.size := by
  simp [spliceA, splice]; omega
theorem splice_length {cs : List Value} {o : Nat} {vs : List Value} (h : o + vs.length ≤ cs.length) : (splice cs o vs).length = cs.length := by
  simp [splice]; omega
theorem splice_nil (cs : List Value) (o : Nat) : splice cs o [] = cs := by simp [splice]
theorem splice_cons (cs : List Value) (o : Nat) (v : Value) (vs : List Value) (h : o < cs.length) : splice cs o (v :: vs) = splice (cs.set o v) (o + 1) vs := by
  simp only [splice, List.length_cons]
  have h1 : (cs.set o v).take (o + 1) = cs.take o ++ [v] := by
    rw [List.take_succ_eq_append_getElem (by simpa using h)]
    simp [List.take_set_of_le]
  have h2 : (cs.set o v).drop (o + 1 + vs.length) = cs.drop (o + (vs.length + 1)) := by
    rw [List.drop_set_of_lt (by omega)]
    congr 1
    omega
  rw [h1, h2]
  simp

theorem get_splice (cs : List Value) (o : Nat) (vs : List Value) (k : Nat) (h : o + vs.length ≤ cs.length) :
    (splice cs o vs)[k]? = if k < o then cs[k]? else if k < o + vs.length then vs[k - o]? else cs[k]? := by
  unfold splice
  have hl : (List.take o cs).length = o := by simp; omega
  split
  · rename_i hk
    rw [List.append_assoc, List.getElem?_append_left (by omega)]
    rw [List.getElem?_take_of_lt hk]
  · rename_i hk
    rw [List.append_assoc, List.getElem?_append_right (by omega), hl]
    split
    · rename_i hk2
      rw [List.getElem?_append_left (by omega)]
    · rename_i hk2
      rw [List.getElem?_append_right (by omega), List.getElem?_drop]
      congr 1
      omega

theorem setCell_eq_setRow {b o : Nat} {c : Array Value} {e : TypeId} {fz : Nat × Nat} (h : w.heap[b]? = some (.cells c e fz)) (v : Value) :
    w.setCell ⟨b, o, none⟩ v = setRow w b (c.setIfInBounds o v) := by
  unfold World.setCell setRow
  congr 1
  apply Array.ext_getElem?
  intro i
  simp only [Array.getElem?_modify]
  by_cases hi : b = i
  · subst hi; simp [h]
  · simp [hi]

theorem setRow_setRow {b : Nat} (c c' : Array Value) : setRow (setRow w b c) b c' = setRow w b c' := by
  unfold setRow
  congr 1
  apply Array.ext_getElem?
  intro i
  simp only [Array.getElem?_modify]
  by_cases hi : b = i
  · subst hi
    cases h : w.heap[b]? with
    | none => simp
    | some x => cases x <;> simp
  · simp [hi]

theorem setRow_self {b : Nat} {c : Array Value} {e : TypeId} {fz : Nat × Nat} (h : w.heap[b]? = some (.cells c e fz)) : setRow w b c = w := by
  have : (setRow w b c).heap = w.heap := by
    apply Array.ext_getElem?
    intro i
    simp only [setRow, Array.getElem?_modify]
    by_cases hi : b = i
    · subst hi; simp [h]
    · simp [hi]
  unfold setRow at this ⊢
  cases w
  simp only [World.mk.injEq, and_true] at this ⊢
  exact this

theorem run_storeCells' (b o : Nat) (vs : List Value) : ∀ (i : Nat) (w : World) (c : Array Value) (e : TypeId) (fz : Nat × Nat),
    w.heap[b]? = some (.cells c e fz) → o + i + vs.length ≤ c.size → (∀ k, k < vs.length → w.frozen? ⟨b, o + i + k, none⟩ = false) →
    (∀ v, v ∈ vs → v.oneCell' = true) →
    (storeCells ⟨b, o, none⟩ vs i).run P w = .ok () (setRow w b (spliceA c (o + i) vs)) := by
  induction vs with
  | nil =>
    intro i w c e fz h _ _ _
    simp [storeCells, spliceA, splice_nil, setRow_self h]
  | cons v vs ih =>
    intro i w c e fz h hl hf hv
    simp only [List.length_cons] at hl
    have hcell : w.cell? ⟨b, o + i, none⟩ = some (c[o + i]'(by omega)) := by
      simp [World.cell?, h]
    have hfr : w.frozen? ⟨b, o + i, none⟩ = false := by simpa using hf 0 (by simp)
    simp only [storeCells, Sem.run_bind, add_eq]
    rw [run_store _ _ _ _ _ (hv v (by simp)), hcell]
    simp only [hfr, Bool.false_eq_true, if_false, Result.andThen_ok]
    rw [setCell_eq_setRow h]
    have hrow : (setRow w b (c.setIfInBounds (o + i) v)).heap[b]? = some (.cells (c.setIfInBounds (o + i) v) e fz) := setRow_same _ h
    rw [ih (i + 1) _ _ e fz hrow (by simp; omega) (fun k hk => by
      have := hf (k + 1) (by simp; omega)
      have hz : (setRow w b (c.setIfInBounds (o + i) v)).frozen? ⟨b, o + (i + 1) + k, none⟩ = w.frozen? ⟨b, o + (i + 1) + k, none⟩ := by
        simp only [World.frozen?, hrow, h]
      rw [hz, show o + (i + 1) + k = o + i + (k + 1) from by omega]; exact this) (fun u hu => hv u (by simp [hu]))]
    rw [setRow_setRow]
    congr 2
    unfold spliceA
    rw [splice_cons _ _ _ _ (by simp; omega)]
    simp [Nat.add_assoc]

end

/-- h is a part of T. -/
def Sub (h : AHeap) (T : TH) : Prop := ∀ i b, h.get i = some b → T i = some b
def Fresh (φ : Phi) (T : TH) (n n' : Nat) : Prop := ∀ i, n ≤ i → i < n' → T i = none ∧ ∀ g, φ i g = none

structure Post (G : Nat) (w0 : World) (φ : Phi) (T : TH) (h : AHeap) (n : Nat) (φ' : Phi) (T' : TH) (w' : World) (h' : AHeap) (n' : Nat) : Prop where
  sat : Sat G w0 φ' T' w'
  le : Phi.Le φ φ'
  sub : Sub h' T'
  frame : ∀ i, h.get i = none → ¬(n ≤ i ∧ i < n') → T' i = T i
  fresh : ∀ i, ¬(n ≤ i ∧ i < n') → (∀ g, φ i g = none) → ∀ g, φ' i g = none
  mono : n ≤ n'
  dom : ∀ i b, h'.get i = some b → (∃ c, h.get i = some c) ∨ (n ≤ i ∧ i < n')

section
variable {G : Nat} {w0 : World} {φ : Phi} {T : TH} {w : World} {h : AHeap} {n : Nat}

theorem Post.refl (hs : Sat G w0 φ T w) (hh : Sub h T) : Post G w0 φ T h n φ T w h n :=
  ⟨hs, .refl _, hh, fun _ _ _ => rfl, fun _ _ hf => hf, Nat.le_refl _, fun _ b hb => .inl ⟨b, hb⟩⟩
theorem dom_put {i : Nat} {b c : Blk} (hi : h.get i = some c) {n n' : Nat} : ∀ j d, (h.put i b).get j = some d → (∃ c, h.get j = some c) ∨ (n ≤ j ∧ j < n') := by
  intro j d hj
  rw [AHeap.get_put] at hj
  split at hj
  · rename_i e; subst e; exact .inl ⟨c, hi⟩
  · exact .inl ⟨d, hj⟩
theorem Post.lift {φ' : Phi} {T' : TH} {w' : World} {h' : AHeap} {n1 n' : Nat} (p : Post G w0 φ T h n φ' T' w' h' n1) (pm : n1 ≤ n') : Post G w0 φ T h n φ' T' w' h' n' :=
  ⟨p.sat, p.le, p.sub, fun i hi hn => p.frame i hi (by omega), fun i hn hf => p.fresh i (by omega) hf, Nat.le_trans p.mono pm, fun i b hb => (p.dom i b hb).imp_right (by omega)⟩
theorem Post.start {φ' : Phi} {T' : TH} {w' : World} {h2 h' : AHeap} {n' : Nat} (hs : ∀ i b, h2.get i = some b → h.get i = some b) (p : Post G w0 φ T h2 n φ' T' w' h' n') : Post G w0 φ T h n φ' T' w' h' n' :=
  ⟨p.sat, p.le, p.sub, fun i h1 hn => p.frame i (by cases hx : h2.get i with | none => rfl | some b => rw [hs i b hx] at h1; cases h1) hn, p.fresh, p.mono, fun i b hb => (p.dom i b hb).imp_left fun ⟨c, hc⟩ => ⟨c, hs i c hc⟩⟩
theorem Post.early {φ' : Phi} {T' : TH} {w' : World} {h' : AHeap} {n0 n' : Nat} (hn : n ≤ n0) (p : Post G w0 φ T h n0 φ' T' w' h' n') : Post G w0 φ T h n φ' T' w' h' n' :=
  ⟨p.sat, p.le, p.sub, fun i h1 h2 => p.frame i h1 (by omega), fun i h1 h2 => p.fresh i (by omega) h2, Nat.le_trans hn p.mono, fun i b hb => (p.dom i b hb).imp_right (by omega)⟩
theorem Post.same (hs : Sat G w0 φ T w) (hh : Sub h T) {w' : World} (s : SameMem w w') : Post G w0 φ T h n φ T w' h n := .refl (hs.same s) hh

/-- Cells that are read. -/
theorem read_sound (hs : Sat G w0 φ T w) (hh : Sub h T) {i g o m : Nat} {vs : List Value} (hr : h.read i g o m = some vs) {l : Loc} (hl : φ i g = some l) :
    ∃ us, VRels φ vs us ∧ us.length = m ∧ vs.length = m ∧ vs.all Value.oneCell' = true ∧ ∀ k u, us[k]? = some u → w.cell? ⟨l.block, l.off + o + k, none⟩ = some u := by
  unfold AHeap.read at hr
  split at hr
  · rename_i own cs min hget
    split at hr
    · rename_i hc
      obtain ⟨h1, h2, h3⟩ := hc
      simp at hr
      have hb := hs.blk i _ (hh i _ hget)
      obtain ⟨_, _, hone, hb⟩ := hb
      obtain ⟨_, _, hcell⟩ := hb g l hl h1
      clear hget hb
      subst hr
      have key : ∀ m o, o + m ≤ g → ∃ us, VRels φ ((cs.drop o).take m) us ∧ us.length = m ∧ ∀ k u, us[k]? = some u → w.cell? ⟨l.block, l.off + o + k, none⟩ = some u := by
        intro m
        induction m with
        | zero => intro o _; exact ⟨[], by simp; exact .nil, rfl, fun k u hu => by simp at hu⟩
        | succ m ih =>
          intro o ho
          obtain ⟨us, h4, h5, h6⟩ := ih (o + 1) (by omega)
          have hlt : o < cs.length := by omega
          obtain ⟨u, hu, hru⟩ := hcell o cs[o] (by omega) (by simp [hlt])
          refine ⟨u :: us, ?_, by simp [h5], fun k v hv => ?_⟩
          · rw [List.drop_eq_getElem_cons hlt, List.take_succ_cons]; exact .cons hru h4
          · cases k with
            | zero => simp at hv; subst hv; simpa using hu
            | succ k =>
              simp at hv
              have := h6 k v hv
              rw [show l.off + o + (k + 1) = l.off + (o + 1) + k from by omega]; exact this
      obtain ⟨us, h4, h5, h6⟩ := key m o h3
      refine ⟨us, h4, h5, by rw [h4.length]; exact h5, ?_, h6⟩
      simp only [List.all_eq_true] at hone ⊢
      exact fun v hv => hone v (List.mem_of_mem_drop (List.mem_of_mem_take hv))
    · simp at hr
  · simp at hr

/-- Cells that are written. -/
theorem write_sound {P : Program} (hs : Sat G w0 φ T w) (hh : Sub h T) {i g o : Nat} {vs us : List Value} {h' : AHeap} (hw : h.write i g o vs = some h') {l : Loc} (hl : φ i g = some l)
    (hv : VRels φ vs us) (h3 : vs.all Value.oneCell' = true) : ∃ φ' T' w', (storeCells ⟨l.block, l.off + o, none⟩ us).run P w = .ok () w' ∧ Post G w0 φ T h n φ' T' w' h' n := by
  unfold AHeap.write at hw
  split at hw
  · rename_i t cs min hget
    split at hw
    · rename_i hc
      obtain ⟨h1, h2⟩ := hc
      simp at hw
      subst h1
      have hb := hs.blk i _ (hh i _ hget)
      obtain ⟨_, hmin, hall, hb⟩ := hb
      obtain ⟨_, hown, hcell⟩ := hb cs.length l hl hmin
      obtain ⟨hlo, hty, hunf⟩ := hown t rfl
      subst hty
      obtain ⟨hB, hoff, c, fz, hrow, hsize⟩ := hs.new i _ l hl hlo
      have hfit := hs.fits i _ l hl hlo
      have hlen := hv.length
      have hone : ∀ u, u ∈ us → u.oneCell' = true := by
        intro u hu
        obtain ⟨k, hk, rfl⟩ := List.getElem_of_mem hu
        have := hv.get' k (by omega) hk
        rw [this.oneCell]
        simp only [List.all_eq_true] at h3
        exact h3 _ (List.getElem_mem _)
      have hrun := run_storeCells' (P := P) l.block (l.off + o) us 0 w c l.ty fz hrow (by omega) (fun k hk => by
        rw [hoff]; exact hunf _ (by omega)) hone
      refine ⟨φ.ins i cs.length l, T.put i (.cells (some l.ty) (splice cs o vs) cs.length), _, hrun, ?_⟩
      have hsp : (splice cs o vs).length = cs.length := splice_length h2
      have hsat := hs.write (cs := splice cs o vs) (min := cs.length) (g' := cs.length) hl hlo hrow (c := spliceA c (l.off + o + 0) us) (by rw [spliceA_size]; omega) hsp.symm (Nat.le_refl _)
        (by omega) (.inl rfl) (by
          simp only [splice, List.all_append, Bool.and_eq_true]
          simp only [List.all_eq_true] at hall h3 ⊢
          exact ⟨⟨fun v hv => hall v (List.mem_of_mem_take hv), h3⟩, fun v hv => hall v (List.mem_of_mem_drop hv)⟩) (fun k m hm hk => ?_)
      · refine ⟨hsat, ?_, ?_, fun j hj _ => ?_, fun j _ hf g => ?_, Nat.le_refl _, by rw [← hw]; exact dom_put hget⟩
        · intro j k m hm
          unfold Phi.ins
          split
          · rename_i e; obtain ⟨rfl, rfl⟩ := e; rw [← hm, hl]
          · exact hm
        · intro j b hjb
          rw [← hw, AHeap.get_put] at hjb
          split at hjb
          · rename_i e; subst e; rw [TH.put_same]; exact hjb
          · rename_i e; rw [TH.put_ne _ _ e]; exact hh _ _ hjb
        · by_cases e : i = j
          · subst e; rw [hget] at hj; cases hj
          · exact TH.put_ne _ _ e
        · unfold Phi.ins
          split
          · rename_i e; obtain ⟨rfl, rfl⟩ := e; rw [hf] at hl; cases hl
          · exact hf g
      · have hkm : k = cs.length ∧ m = l := by
          rcases Phi.ins_cases hm with ⟨_, rfl, rfl⟩ | ⟨hm, _⟩
          · exact ⟨rfl, rfl⟩
          · have := (hb k m hm (by omega)).1
            have hk' : k = cs.length := by omega
            subst hk'
            rw [hl] at hm
            exact ⟨rfl, (Option.some.inj hm).symm⟩
        obtain ⟨rfl, rfl⟩ := hkm
        refine ⟨Nat.le_refl _, rfl, hunf, fun j v hj hjv => ?_⟩
        have hcs : ∀ u, (setRow w m.block (spliceA c (m.off + o + 0) us)).cell? ⟨m.block, m.off + j, none⟩ = some u ↔ (splice c.toList o us)[j]? = some u := by
          intro u
          simp only [World.cell?, setRow_same _ hrow]
          simp [spliceA, hoff]
        rw [get_splice _ _ _ _ h2] at hjv
        have hrow' : ∀ u, w.cell? ⟨m.block, m.off + j, none⟩ = some u → c.toList[j]? = some u := by
          intro u hu
          simp only [World.cell?, hrow] at hu
          simpa [hoff] using hu
        have h2' : o + us.length ≤ c.toList.length := by simp; omega
        split at hjv
        · rename_i hjo
          obtain ⟨u, hu, hru⟩ := hcell j v hj hjv
          exact ⟨u, by rw [hcs, get_splice _ _ _ _ h2', if_pos hjo]; exact hrow' u hu, hru⟩
        · rename_i hjo
          split at hjv
          · rename_i hjo2
            obtain ⟨u, hu, hru⟩ := hv.get hjv
            exact ⟨u, by rw [hcs, get_splice _ _ _ _ h2', if_neg hjo, if_pos (by omega)]; exact hu, hru⟩
          · rename_i hjo2
            obtain ⟨u, hu, hru⟩ := hcell j v hj hjv
            exact ⟨u, by rw [hcs, get_splice _ _ _ _ h2', if_neg hjo, if_neg (by omega)]; exact hrow' u hu, hru⟩
    · simp at hw
  · simp at hw

/-- A new block of the call's own. -/
theorem alloc_sound (hs : Sat G w0 φ T w) (hh : Sub h T) (hG : G ≤ n) (hf : Fresh φ T n (n + 1)) {vs us : List Value} (hv : VRels φ vs us) {c : Array Value} (hc : c.toList.take us.length = us) (hone : vs.all Value.oneCell' = true)
    {e : TypeId} {fz : Nat × Nat} (hfz : ∀ o, o < c.size → ¬(fz.1 ≤ o ∧ o < fz.2)) :
    Post G w0 φ T h n (φ.ins n vs.length ⟨w.heap.size, 0, true, c.size, e⟩) (T.put n (.cells (some e) vs vs.length)) (w.alloc (.cells c e fz)) (h.put n (.cells (some e) vs vs.length)) (n + 1) := by
  obtain ⟨hT, hφ⟩ := hf n (Nat.le_refl _) (by omega)
  have hlen : us.length ≤ c.size := by
    have := congrArg List.length hc
    simp at this
    omega
  refine ⟨hs.alloc hG (fun k m hm => by rw [hφ] at hm; cases hm) (hφ _) rfl (Nat.le_refl _) hfz (by rw [hv.length]; exact hlen) hone (fun k v hk => ?_) (fun k m hm => by rw [hφ] at hm; cases hm),
    Phi.ins_le (hφ _), ?_, fun j _ hj => ?_, fun j hj hf g => ?_, by omega, fun j d hj => ?_⟩
  · obtain ⟨u, hu, hr⟩ := hv.get hk
    refine ⟨u, ?_, hr⟩
    rw [← hc, List.getElem?_take] at hu
    split at hu
    · simpa using hu
    · cases hu
  · intro j b hjb
    rw [AHeap.get_put] at hjb
    split at hjb
    · rename_i e; subst e; rw [TH.put_same]; exact hjb
    · rename_i e; rw [TH.put_ne _ _ e]; exact hh _ _ hjb
  · exact TH.put_ne _ _ (by omega)
  · unfold Phi.ins
    split
    · rename_i e; omega
    · exact hf g
  · rw [AHeap.get_put] at hj
    split at hj
    · right; omega
    · exact .inl ⟨d, hj⟩

end
end
end Go.Proofs.YtkaibjdogeikbaaDoor.Am
