/- The soundness of the operations of the abstract machine, part B4. -/
import Derived.Test.YtkaibjdogeikbaaDoorB3
namespace Go.Proofs.YtkaibjdogeikbaaDoor.Am
noncomputable section
open Go.RowKit (Below)

section
variable {P : Program} {G : Nat} {w0 : World} {φ : Phi} {T : TH} {w : World} {h : AHeap} {n : Nat} {σ : Fr} {ρ : Operand → Value}

theorem run_mapM {α β : Type} (f : α → Sem β) (g : α → β) (xs : Array α) (hf : ∀ x, x ∈ xs.toList → (f x).run P w = .ok (g x) w) : (xs.mapM f).run P w = .ok (xs.map g) w := by
  rw [Array.mapM_eq_mapM_toList]
  have : ∀ l : List α, (∀ x, x ∈ l → (f x).run P w = .ok (g x) w) → (l.mapM f).run P w = .ok (l.map g) w := by
    intro l
    induction l with
    | nil => intro _; simp
    | cons x l ih =>
      intro hl
      simp only [List.mapM_cons, Sem.run_bind, hl x (by simp), Result.andThen_ok, ih (fun y hy => hl y (by simp [hy])), Sem.run_pure, List.map_cons]
  simp only [Sem.run_map, this xs.toList hf, Result.andThen_ok]
  congr 1
  apply Array.toList_inj.1; simp

theorem cParts_congr {p q : Nat → Option (Nat × Nat)} : ∀ {parts : List (Nat × Operand)} {qs}, cParts p parts = some qs → (∀ i x, p i = some x → q i = some x) → cParts q parts = some qs
  | [], qs, h, _ => h
  | (i, x) :: parts, qs, h, hpq => by
    simp only [cParts] at h ⊢
    split at h
    · rename_i off size y r hp hy hr
      rw [hpq i _ hp, hy, cParts_congr hr hpq]
      exact h
    · simp at h

theorem structPlace_run {fs : Array Field} (hall : fs.all (fun f => (sz P f.type).isSome) = true) :
    (fs.mapM fun f => do Pure.pure (f.offset, ← sizeOf f.type) : Sem (Array (Nat × Nat))).run P w = .ok (fs.map fun f => (f.offset, (sz P f.type).getD 0)) w := by
  apply run_mapM
  intro f hf
  have : (sz P f.type).isSome = true := by
    simp only [Array.all_eq_true_iff_forall_mem] at hall
    exact hall f (by simpa using hf)
  obtain ⟨s, hs⟩ := Option.isSome_iff_exists.1 this
  simp [run_sizeOf' hs, hs]

theorem buildStruct_sound (hρ : RhoRel φ σ h ρ) {t : TypeId} {fs : Array Field} {z : List Value} (ht : P.underlying t = some (.struct fs)) (hz : zeroCells? P t = some z) (hall : fs.all (fun f => (sz P f.type).isSome) = true)
    {parts : Array (Nat × Operand)} {qs : List (Nat × Nat × X)} (hq : cParts (structPlace P fs) parts.toList = some qs) {cs : List Value} (ha : aFill (X.ev σ h) z qs = some cs) :
    ∃ u, (Instr.build t (parts.map fun (i, x) => (i, ρ x))).run P w = .ok u w ∧ VRel φ (.agg cs.toArray) u := by
  obtain ⟨i, v, hi, hv, rfl, hsc, hsize⟩ := zeroCells?_spec hz
  have hp : ∀ i x, structPlace P fs i = some x → ((fs.map fun f => (f.offset, (sz P f.type).getD 0))[i]?) = some x := by
    intro i x hx
    unfold structPlace at hx
    split at hx
    · rename_i f hf
      split at hx
      · rename_i s hs
        simp at hx
        subst hx
        simp [hf, hs]
      · simp at hx
    · simp at hx
  obtain ⟨es, h1, h2, h3, h4⟩ := fill_sound (ρ := ρ) hρ (fun i => ((fs.map fun f => (f.offset, (sz P f.type).getD 0))[i]?)) parts.toList qs v.cells.toList cs v.cells (cParts_congr hq hp) ha (.of_scalars hsc) (oneCells_of_scalars hsc)
  refine ⟨.agg es, ?_, VRels.agg (by simpa using h2) (by simpa using h3)⟩
  simp only [Instr.build, Sem.run_bind, run_zeroValue' hi hv, Result.andThen_ok, run_underlying' ht, structPlace_run hall, Array.toList_map, h1, Sem.run_pure]

theorem buildArray_sound (hρ : RhoRel φ σ h ρ) {t e : TypeId} {len s : Nat} {z : List Value} (ht : P.underlying t = some (.array len e)) (hz : zeroCells? P t = some z) (hs : sz P e = some s)
    {parts : Array (Nat × Operand)} {qs : List (Nat × Nat × X)} (hq : cParts (fun i => some (i * s, s)) parts.toList = some qs) {cs : List Value} (ha : aFill (X.ev σ h) z qs = some cs) :
    ∃ u, (Instr.build t (parts.map fun (i, x) => (i, ρ x))).run P w = .ok u w ∧ VRel φ (.agg cs.toArray) u := by
  obtain ⟨i, v, hi, hv, rfl, hsc, hsize⟩ := zeroCells?_spec hz
  obtain ⟨es, h1, h2, h3, h4⟩ := fill_sound (ρ := ρ) hρ (fun i => some (i * s, s)) parts.toList qs v.cells.toList cs v.cells hq ha (.of_scalars hsc) (oneCells_of_scalars hsc)
  refine ⟨.agg es, ?_, VRels.agg (by simpa using h2) (by simpa using h3)⟩
  simp only [Instr.build, Sem.run_bind, run_zeroValue' hi hv, Result.andThen_ok, run_underlying' ht, run_sizeOf' hs, Array.toList_map, h1, Sem.run_pure]

theorem repeatCells_scalar {z : List Value} (hz : z.all scalar = true) : ∀ k, (repeatCells z k).all scalar = true
  | 0 => rfl
  | k + 1 => by simp only [repeatCells, List.all_append, Bool.and_eq_true]; exact ⟨hz, repeatCells_scalar hz k⟩

theorem buildSlice_sound (hs : Sat G w0 φ T w) (hh : Sub h T) (hG : G ≤ n) (hf : Fresh φ T n (n + 1)) (hρ : RhoRel φ σ h ρ) {t e : TypeId} {len s : Nat} {z : List Value} (ht : P.underlying t = some (.slice e)) (hz : zeroCells? P e = some z)
    (hsz : sz P e = some s) (hs0 : 0 < s) (hbig : len * s ≤ 16777216) {parts : Array (Nat × Operand)} {qs : List (Nat × Nat × X)} (hq : cParts (fun i => some (i * s, s)) parts.toList = some qs) {cs : List Value}
    (ha : aFill (X.ev σ h) (repeatCells z len) qs = some cs) (hcs : cs.length = len * s) :
    ∃ u φ' T' w', (Instr.buildSlice t len (parts.map fun (i, x) => (i, ρ x))).run P w = .ok u w' ∧ VRel φ' (.slice (some ⟨n, 0, some cs.length⟩) len (2 * s)) u ∧
      Post G w0 φ T h n φ' T' w' (h.put n (.cells (some e) cs cs.length)) (n + 1) := by
  obtain ⟨i, v, hi, hv, rfl, hsc, hsize⟩ := zeroCells?_spec hz
  have hsi : i.size = s := by simp [sz, hi] at hsz; exact hsz
  have hrow : ((Array.range (len * s)).map ((if len * s = 0 then (#[] : Array Value) else v.cells)[· % (if len * s = 0 then (#[] : Array Value) else v.cells).size]!)).toList = repeatCells v.cells.toList len := by
    by_cases h0 : len * s = 0
    · have hl0 : len = 0 := by
        rcases Nat.mul_eq_zero.1 h0 with h | h <;> omega
      subst hl0
      simp [repeatCells]
    · rw [if_neg h0]
      have := zeroRow_take v.cells len len (Nat.le_refl _) (by omega)
      rw [hsize, hsi] at this
      rw [List.take_of_length_le (by simp [repeatCells_length, hsize, hsi])] at this
      simpa [hsize, hsi] using this
  obtain ⟨es, h1, h2, h3, h4⟩ := fill_sound (ρ := ρ) hρ (fun i => some (i * s, s)) parts.toList qs _ cs
    ((Array.range (len * s)).map ((if len * s = 0 then (#[] : Array Value) else v.cells)[· % (if len * s = 0 then (#[] : Array Value) else v.cells).size]!)) hq ha
    (by rw [hrow]; exact .of_scalars (repeatCells_scalar hsc len)) (oneCells_of_scalars (repeatCells_scalar hsc len))
  have hp := alloc_sound (w := w) (e := e) (fz := (0, 0)) hs hh hG hf h2 (c := es) (List.take_of_length_le (by simp)) h3 (fun o _ => by omega)
  refine ⟨.slice (some ⟨w.heap.size, 0, none⟩) len len, _, _, _, ?_, ?_, hp⟩
  · have hb : ¬ (len * s > 2 ^ 24) := by
      have : 2 ^ 24 = 16777216 := by decide
      omega
    simp only [Instr.buildSlice, Sem.run_bind, run_underlying' ht, Result.andThen_ok, run_sizeOf' hsz, hb, if_false, Array.toList_map]
    by_cases h0 : len * s = 0
    · simp only [h0, if_true] at h1 ⊢
      simp only [Sem.run_pure, Result.andThen_ok, h1, Sem.run_bind, newRow_run]
    · simp only [h0, if_false] at h1 ⊢
      simp only [Sem.run_bind, run_zeroValue' hi hv, Sem.run_pure, Result.andThen_ok, h1, newRow_run]
  · have hes : es.size = len * s := by rw [← hcs, h2.length]; simp
    exact VRel.slice n 0 _ len _ _ _ len (Phi.ins_same _ _ _ _) (Nat.le_refl _) (.inr rfl) (.inr (.inr ⟨s, rfl, rfl, by simp [hes]⟩))

theorem makeSlice_sound (hs : Sat G w0 φ T w) (hh : Sub h T) (hG : G ≤ n) (hf : Fresh φ T n (n + 1)) {t e : TypeId} {i : TypeInfo} {z : List Value} (ht : P.underlying t = some (.slice e)) (hi : P.info? e = some i) (hz : zeroCells? P e = some z)
    {l c : Int} {kl kc : IntKind} (h0 : 0 ≤ l) (hlc : l ≤ c) (hb : (i.bytes : Int) * c ≤ 281474976710656) (hc : c < 9223372036854775808) (hsize0 : 0 < i.size) :
    ∃ u φ' T' w', (Instr.makeSlice t (.int kl l) (.int kc c)).run P w = .ok u w' ∧ VRel φ' (.slice (some ⟨n, 0, some (repeatCells z l.toNat).length⟩) l.toNat (2 * i.size)) u ∧
      Post G w0 φ T h n φ' T' w' (h.put n (.cells (some e) (repeatCells z l.toNat) (repeatCells z l.toNat).length)) (n + 1) := by
  obtain ⟨i', v, hi', hv, rfl, hsc, hsize⟩ := zeroCells?_spec hz
  rw [hi] at hi'
  obtain rfl := Option.some.inj hi'
  have hrow : ((Array.range (c.toNat * i.size)).map ((if c.toNat * i.size = 0 then (#[] : Array Value) else v.cells)[· % (if c.toNat * i.size = 0 then (#[] : Array Value) else v.cells).size]!)).toList.take (repeatCells v.cells.toList l.toNat).length
      = repeatCells v.cells.toList l.toNat := by
    by_cases hc0 : c.toNat * i.size = 0
    · have hl0 : l.toNat = 0 := by
        rcases Nat.mul_eq_zero.1 hc0 with h | h <;> omega
      rw [hl0]
      simp [repeatCells]
    · rw [if_neg hc0]
      have := zeroRow_take v.cells l.toNat c.toNat (by omega) (by omega)
      rw [hsize] at this
      simpa [hsize] using this
  have hsc' := repeatCells_scalar hsc l.toNat
  have hp := alloc_sound (w := w) (e := e) (fz := (0, 0)) hs hh hG hf (VRels.of_scalars hsc') (c := (Array.range (c.toNat * i.size)).map ((if c.toNat * i.size = 0 then (#[] : Array Value) else v.cells)[· % (if c.toNat * i.size = 0 then (#[] : Array Value) else v.cells).size]!)) hrow (oneCells_of_scalars hsc') (fun o _ => by omega)
  refine ⟨.slice (some ⟨w.heap.size, 0, none⟩) l.toNat c.toNat, _, _, _, ?_, ?_, hp⟩
  · have hwl : IntKind.i64.wrap l = l := by
      simp only [IntKind.wrap, IntKind.bits, IntKind.signed]
      simp
      omega
    have hwc : IntKind.i64.wrap c = c := by
      simp only [IntKind.wrap, IntKind.bits, IntKind.signed]
      simp
      omega
    have e48 : (2 : Int) ^ 48 = 281474976710656 := by decide
    have hbig : ((decide (c < 0) || decide ((i.bytes : Int) * c > 2 ^ 48)) || decide (l < 0) || decide (l > c)) = false := by
      simp only [Bool.or_eq_false_iff, decide_eq_false_iff_not]
      rw [e48]
      omega
    simp only [Instr.makeSlice, Sem.run_bind, run_underlying' ht, Result.andThen_ok, asInt, asIntOf, Sem.run_pure, run_typeInfo' hi, hwl, hwc]
    simp only [hbig, Bool.false_eq_true, if_false, run_askRoom, Result.andThen_ok, Sem.run_bind, run_sizeOf' (show sz P e = some i.size by simp [sz, hi])]
    by_cases hc0 : c.toNat * i.size = 0
    · simp only [hc0, if_true]
      simp only [Sem.run_pure, Result.andThen_ok, Sem.run_bind, newRow_run]
    · simp only [hc0, if_false]
      simp only [Sem.run_bind, run_zeroValue' hi hv, Sem.run_pure, Result.andThen_ok, newRow_run]
  · refine VRel.slice n 0 _ l.toNat _ _ _ c.toNat (Phi.ins_same _ _ _ _) (by omega) (.inr rfl) (.inr (.inr ⟨i.size, rfl, rfl, by simp⟩))

theorem bytesOf?_cons {v : Value} {vs : List Value} {l : List UInt8} (h : bytesOf? (v :: vs) = some l) : ∃ n l', v = .int .u8 n ∧ bytesOf? vs = some l' ∧ l = UInt8.ofNat n.toNat :: l' := by
  unfold bytesOf? at h
  split at h
  · rename_i h'; cases h'
  · rename_i n vs' h'
    obtain ⟨rfl, rfl⟩ := by simpa using h'
    split at h
    · split at h
      · rename_i l' hl'; simp at h; exact ⟨n, l', rfl, hl', h.symm⟩
      · simp at h
    · simp at h
  · simp at h

theorem strOf_sound (hs : Sat G w0 φ T w) (hh : Sub h T) {i o g len k : Nat} {u : Value} (hu : VRel φ (.slice (some ⟨i, o, some g⟩) len k) u) {vs : List Value} (hr : h.read i g o len = some vs) {l : List UInt8} (hb : bytesOf? vs = some l) :
    (Conv.bytesToString u).run P w = .ok (.string ⟨l.toArray⟩) w := by
  cases hu with
  | slice i o g len k lc a c hl hn ha hk =>
    obtain ⟨us, h1, h2, h3, _, h4⟩ := read_sound hs hh hr hl
    have hsc : ∀ (vs : List Value) (l : List UInt8), bytesOf? vs = some l → vs.all scalar = true := by
      intro vs
      induction vs with
      | nil => intro l _; rfl
      | cons v vs ih =>
        intro l hb
        obtain ⟨n, l', rfl, hl', rfl⟩ := bytesOf?_cons hb
        simp only [List.all_cons, scalar, Bool.true_and]
        exact ih l' hl'
    have hus : us = vs := h1.eq_of_scalars (hsc vs l hb)
    subst hus
    have hload : (loadCells a len).run P w = .ok us.toArray w := by
      rcases ha with hc | rfl
      · have : us = [] := by
          have : us.length = 0 := by omega
          exact List.length_eq_zero_iff.1 this
        subst this
        have : len = 0 := by simpa using h2.symm
        subst this
        simp [loadCells, loadCellsFrom]
      · exact run_loadCells' h4 h2
    simp only [Conv.bytesToString, Sem.run_bind, hload, Result.andThen_ok]
    rw [← Array.forIn_toList]
    have key : ∀ (us : List Value) (l : List UInt8) (s : ByteArray), bytesOf? us = some l →
        (forIn (m := Sem) us s fun c r => do
          match c with
          | .int .u8 n => Pure.pure (.yield (r.push (UInt8.ofNat n.toNat)))
          | _ => do
            (stuck "bytesToString: byte expected" : Sem PUnit)
            Pure.pure (.yield r)).run P w = .ok ⟨s.data ++ l.toArray⟩ w := by
      intro us
      induction us with
      | nil => intro l s hb; simp [bytesOf?] at hb; subst hb; simp
      | cons v us ih =>
        intro l s hb
        obtain ⟨n, l', rfl, hl', rfl⟩ := bytesOf?_cons hb
        simp only [List.forIn_cons, Sem.run_bind, Sem.run_pure, Result.andThen_ok]
        rw [ih l' _ hl']
        simp [ByteArray.push]
    have := key us l ByteArray.empty hb
    have hk := congrArg (fun r => Result.andThen r fun a w' => Sem.run P (Pure.pure (Value.string a)) w') this
    refine Eq.trans hk ?_
    simp only [Result.andThen_ok, Sem.run_pure]
    rw [show ByteArray.empty.data = #[] from rfl]
    simp

theorem freeze_alloc {w : World} {c : Array Value} {e : TypeId} {m : Nat} : (w.alloc (.cells c e)).freeze ⟨w.heap.size, m, none⟩ 1 = w.alloc (.cells c e (m, m + 1)) := by
  have hh : ∀ (hp : Array Obj) (o : Obj) (f : Obj → Obj), (hp.push o).modify hp.size f = hp.push (f o) := by
    intro hp o f
    apply Array.ext_getElem?
    intro i
    simp only [Array.getElem?_modify, Array.getElem?_push]
    split
    · rename_i hi; subst hi; simp
    · rename_i hi
      split
      · rename_i h2; exact absurd h2.symm hi
      · rfl
  unfold World.freeze
  simp only [Nat.succ_ne_zero, if_false]
  show World.mk _ _ _ _ _ = World.mk _ _ _ _ _
  congr 1
  show (w.heap.push _).modify w.heap.size _ = w.heap.push _
  rw [hh]
  simp

theorem bytesOf_sound (hs : Sat G w0 φ T w) (hh : Sub h T) (hG : G ≤ n) (hf : Fresh φ T n (n + 1)) {e : TypeId} (s : ByteArray) :
    ∃ u φ' T' w', (Conv.stringToBytes e s).run P w = .ok u w' ∧ VRel φ' (.slice (some ⟨n, 0, some (byteCells s).length⟩) s.size 2) u ∧
      Post G w0 φ T h n φ' T' w' (h.put n (.cells (some e) (byteCells s) (byteCells s).length)) (n + 1) := by
  obtain ⟨cap, w1, hc, hcap, hsame⟩ := run_choose_cap (P := P) (w := w) s.size 0 e
  have hsc : (byteCells s).all scalar = true := by simp only [byteCells, List.all_map, List.all_eq_true]; intros; rfl
  have hsz : ((s.data.map fun b => Value.int .u8 (b.toNat : Int)) ++ Array.replicate (cap - s.size) (Value.int .u8 0)).size = cap := by
    simp; omega
  have hp := alloc_sound (w := w1) (e := e) (fz := (cap, cap + 1)) (hs.same hsame) hh hG hf (VRels.of_scalars hsc)
    (c := (s.data.map fun b => Value.int .u8 (b.toNat : Int)) ++ Array.replicate (cap - s.size) (Value.int .u8 0)) (by
      simp only [Array.toList_append, Array.toList_map]
      exact List.take_left' (by simp [byteCells])) (oneCells_of_scalars hsc) (fun o ho => by rw [hsz] at ho; simp; omega)
  refine ⟨.slice (some ⟨w1.heap.size, 0, none⟩) s.size cap, _, _, _, ?_, ?_, hp.sat, hp.le, hp.sub, hp.frame, hp.fresh, hp.mono, hp.dom⟩
  · have hshape : (w1.alloc (.cells ((s.data.map fun b => Value.int .u8 (b.toNat : Int)) ++ Array.replicate (cap - s.size) (Value.int .u8 0)) e)).shape? w1.heap.size = some (e, cap) := by
      have hget : (w1.alloc (.cells ((s.data.map fun b => Value.int .u8 (b.toNat : Int)) ++ Array.replicate (cap - s.size) (Value.int .u8 0)) e)).heap[w1.heap.size]? = some (.cells ((s.data.map fun b => Value.int .u8 (b.toNat : Int)) ++ Array.replicate (cap - s.size) (Value.int .u8 0)) e) := by
        show (w1.heap.push _)[w1.heap.size]? = _
        simp
      simp only [World.shape?, hget, hsz]
    simp only [Conv.stringToBytes, Sem.run_bind, hc, Result.andThen_ok, newRow_run, markStringish, run_shape, hshape, run_freeze, Sem.run_pure, freeze_alloc]
  · refine VRel.slice n 0 _ s.size _ _ _ cap (Phi.ins_same _ _ _ _) hcap (.inr rfl) (.inr (.inr ⟨1, rfl, rfl, by simp only [hsz]; omega⟩))

/- ---------------------------------------------------------------- maps that are only read -/

theorem checkKey_plain {kt : TypeId} {d : TypeDesc} (ht : P.underlying kt = some d) (hd : (∃ k, d = .int k) ∨ d = .string) (empty : Bool) (v : Value) : (Instr.checkKey empty 10000 kt v).run P w = .ok () w := by
  have key : ∀ m, (Instr.checkKey empty (m + 1) kt v).run P w = .ok () w := by
    intro m
    simp only [Instr.checkKey, Sem.run_bind, run_underlying' ht, Result.andThen_ok]
    rcases hd with ⟨k, rfl⟩ | rfl <;> cases v <;> rfl
  exact key 9999

def keyD : TypeDesc → Value → Prop
  | d, .int _ _ => ∃ k, d = .int k
  | d, .string _ => d = .string
  | _, _ => False
def keyFits : TypeDesc → Value → Bool
  | .int _, .int _ _ => true
  | .string, .string _ => true
  | _, _ => false

theorem findNow_sound {d : TypeDesc} {key : Value} (hd : keyD d key) :
    ∀ (es : List (Value × Value)) (ces : List MapEntry) (r : Option Value) (i : Nat), findEntry key es = some r → es.length = ces.length →
      (∀ (k : Nat) (x : Value × Value), es[k]? = some x → ∃ e : MapEntry, ces[k]? = some e ∧ scalar x.1 = true ∧ e.key = x.1 ∧ VRel φ x.2 e.val) →
      match r with
      | some v => ∃ j u, Instr.findNow d key ces i = some (some (j, u)) ∧ VRel φ v u
      | none => Instr.findNow d key ces i = some none
  | [], ces, r, i, h, hl, he => by
    simp [findEntry] at h
    subst h
    have : ces = [] := by simpa using hl.symm
    subst this
    rfl
  | (k, v) :: es, ces, r, i, h, hl, he => by
    cases ces with
    | nil => simp at hl
    | cons c ces =>
      obtain ⟨e, h1, h2, h3, h4⟩ := he 0 (k, v) (by simp)
      simp at h1
      subst h1
      simp only at h3 h4
      have hsame : ∀ b, sameKey key k = some b → Instr.sameNow d key c.key = some b := by
        intro b hb
        rw [h3]
        cases key <;> (try exact hd.elim) <;> cases k <;> simp only [sameKey] at hb <;> (try (simp at hb; done))
        · obtain ⟨kk, rfl⟩ := hd; exact hb
        · obtain rfl : d = .string := hd; exact hb
      simp only [findEntry] at h
      split at h
      · rename_i hb
        simp at h
        subst h
        exact ⟨i, c.val, by simp [Instr.findNow, hsame _ hb], h4⟩
      · rename_i hb
        have ih := findNow_sound hd es ces r (i + 1) h (by simpa using hl) (fun k x hx => by
          obtain ⟨e, g1, g2⟩ := he (k + 1) x (by simpa using hx)
          exact ⟨e, by simpa using g1, g2⟩)
        simp only [Instr.findNow, hsame _ hb]
        exact ih
      · simp at h

theorem lookup_sound (hs : Sat G w0 φ T w) (hh : Sub h T) {t kt et : TypeId} {dk : TypeDesc} {inf : TypeInfo} {z : Value} (ht : P.underlying t = some (.map kt et)) (hk : P.underlying kt = some dk) (hdk : (∃ k, dk = .int k) ∨ dk = .string)
    (hi : P.info? et = some inf) (hz : inf.zero = some z) (hzf : flat z = true) {x k ux uk : Value} (hx : VRel φ x ux) (hkr : VRel φ k uk) {commaOk : Bool} {v : Value}
    (hl : aLookup h commaOk z x k = some v) (hkey : keyFits dk k = true) :
    ∃ u, (Instr.lookup t ux uk commaOk).run P w = .ok u w ∧ VRel φ v u := by
  have hck := fun b => checkKey_plain (w := w) hk hdk b uk
  have hzr : VRel φ z z := .of_flat hzf
  have htup : ∀ a b, VRel φ a b → ∀ ok : Bool, VRel φ (if commaOk then .tuple #[a, .bool ok] else a) (if commaOk then .tuple #[b, .bool ok] else b) := by
    intro a b hab ok
    cases commaOk
    · exact hab
    · exact VRels.tuple (.cons hab (.cons (.bool _) .nil))
  have huk : uk = k := by
    apply hkr.eq_of_scalar
    cases dk <;> cases k <;> first | rfl | (simp [keyFits] at hkey; done)
  subst huk
  have hd : keyD dk uk := by
    clear hck hkr hl
    cases dk <;> cases uk <;> first | (simp [keyFits] at hkey; done) | exact ⟨_, rfl⟩ | exact (rfl : TypeDesc.string = .string)
  unfold aLookup at hl
  cases hx <;> simp only at hl <;> (try (simp at hl; done))
  · simp at hl
    subst hl
    refine ⟨_, ?_, htup z z hzr false⟩
    simp [Instr.lookup, run_underlying' ht, hck, Instr.findKey, run_underlying' hk, Instr.findNow, run_zeroValue' hi hz]
  · rename_i i l hl'
    split at hl
    · rename_i es hget
      have hb := hs.blk i _ (hh i _ hget)
      obtain ⟨l2, hl2, ho, ces, clock, hobj, hlen, hent⟩ := hb
      rw [hl'] at hl2
      obtain rfl := Option.some.inj hl2
      have hgo : (getObj l.block).run P w = .ok (.map ces clock) w := by simp [getObj, Sem.run, hobj]
      split at hl
      · rename_i v' hfe
        simp at hl
        subst hl
        obtain ⟨j, u, hn, hr⟩ := findNow_sound (φ := φ) hd es ces.toList (some v') 0 hfe (by simpa using hlen) (fun k x hx => by
          obtain ⟨e, g1, g2⟩ := hent k x hx
          exact ⟨e, by simpa using g1, g2⟩)
        refine ⟨_, ?_, htup v' u hr true⟩
        simp [Instr.lookup, run_underlying' ht, hgo, hck, Instr.findKey, run_underlying' hk, hn]
      · rename_i hfe
        simp at hl
        subst hl
        have hn := findNow_sound (φ := φ) hd es ces.toList none 0 hfe (by simpa using hlen) (fun k x hx => by
          obtain ⟨e, g1, g2⟩ := hent k x hx
          exact ⟨e, by simpa using g1, g2⟩)
        simp only at hn
        refine ⟨_, ?_, htup z z hzr false⟩
        simp [Instr.lookup, run_underlying' ht, hgo, hck, Instr.findKey, run_underlying' hk, hn, run_zeroValue' hi hz]
      · simp at hl
    · simp at hl

end
end
end Go.Proofs.YtkaibjdogeikbaaDoor.Am
