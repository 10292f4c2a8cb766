/- The abstract memory and its operations, part A9: what a run of the model does is bounded by what an abstract machine does. -/
import Derived.Test.YtkaibjdogeikbaaDoorA8
namespace Go.Proofs.YtkaibjdogeikbaaDoor.Am
noncomputable section
open Go.RowKit (Below)

section
variable {P : Program} {G : Nat} {w0 : World} {φ : Phi} {T : TH} {w : World} {h : AHeap} {n : Nat} {σ : Fr} {ρ : Operand → Value}

theorem read_le {i g o m : Nat} {vs : List Value} (hr : h.read i g o m = some vs) : vs.length = m ∧ ∀ k, k ≤ m → h.read i g o k = some (vs.take k) := by
  unfold AHeap.read at hr ⊢
  split at hr
  · rename_i own cs min hget
    split at hr
    · rename_i hc
      simp at hr
      subst hr
      refine ⟨by simp; omega, fun k hk => ?_⟩
      rw [if_pos ⟨hc.1, hc.2.1, by omega⟩, List.take_take, Nat.min_eq_left hk]
    · simp at hr
  · simp at hr

theorem byteCells_length (s : ByteArray) : (byteCells s).length = s.size := by simp [byteCells]

theorem elems_sound (hs : Sat G w0 φ T w) (hh : Sub h T) {esz : Nat} {v u : Value} {m : Nat} {vs : List Value} (he : aElems h esz v = some (m, vs)) (hv : VRel φ v u) :
    (Builtin.lenOf u).run P w = .ok m w ∧ vs.length = m * esz ∧ vs.all Value.oneCell' = true ∧
    ∀ k, k ≤ m → ∃ us, VRels φ (vs.take (k * esz)) us ∧ (Builtin.firstCells esz k u).run P w = .ok us.toArray w := by
  unfold aElems at he
  split at he
  · simp at he
    obtain ⟨rfl, rfl⟩ := he
    cases hv
    refine ⟨rfl, by simp, rfl, fun k hk => ⟨[], by simp; exact .nil, rfl⟩⟩
  · rename_i i o g len k0
    simp only [Option.map_eq_some_iff] at he
    obtain ⟨vs', hr, he⟩ := he
    simp at he
    obtain ⟨rfl, rfl⟩ := he
    cases hv with
    | slice i o g len k0 lc a c hl hn ha hk =>
      obtain ⟨hlen, hle⟩ := read_le hr
      refine ⟨rfl, hlen, ?_, fun k hk => ?_⟩
      · obtain ⟨_, _, _, _, h5, _⟩ := read_sound hs hh hr hl; exact h5
      have hkm : k * esz ≤ len * esz := Nat.mul_le_mul_right _ hk
      obtain ⟨us, h1, h2, h3, _, h4⟩ := read_sound hs hh (hle (k * esz) hkm) hl
      refine ⟨us, h1, ?_⟩
      rcases ha with hc | rfl
      · have hk0 : k = 0 := by omega
        subst hk0
        have : us = [] := by simpa using h2
        subst this
        simp [Builtin.firstCells, loadCells, loadCellsFrom]
      · exact run_loadCells' h4 h2
  · rename_i s
    split at he
    · rename_i h1
      simp at he
      obtain ⟨rfl, rfl⟩ := he
      subst h1
      cases hv
      refine ⟨rfl, by simp [byteCells_length], by simp only [byteCells, List.all_map, List.all_eq_true]; intros; rfl, fun k hk => ⟨(byteCells s).take k, ?_, ?_⟩⟩
      · rw [Nat.mul_one]; apply VRels.of_scalars; simp [byteCells, scalar, List.all_eq_true]
        intro x hx
        have := List.mem_of_mem_take hx
        simp at this
        obtain ⟨b, _, rfl⟩ := this
        rfl
      · simp only [Builtin.firstCells, Sem.run_pure, Result.ok.injEq, and_true]
        apply Array.toList_inj.1
        simp only [Array.toList_map, ByteArray.data_extract, Array.toList_extract, List.extract_eq_take_drop, Nat.sub_zero, List.drop_zero, byteCells, List.map_take]
    · simp at he
  · simp at he

theorem growBy_le (N : Nat) : ∀ (r c : Nat), Builtin.growBy N r c ≤ max c (N + (N + 768) / 4)
  | 0, c => by simp [Builtin.growBy]; omega
  | r + 1, c => by
    simp only [Builtin.growBy]
    split
    · omega
    · rename_i hc
      have := growBy_le N r (c + (c + 768) / 4)
      have h2 : c + (c + 768) / 4 ≤ N + (N + 768) / 4 := by omega
      omega
theorem nextslicecap_le {N c : Nat} (h : c < N) : Builtin.nextslicecap N c ≤ 2 * N := by
  unfold Builtin.nextslicecap
  split
  · omega
  · split
    · omega
    · have := growBy_le N 4 c
      omega

theorem zeroCells_size (zero : Array Value) (m : Nat) : (Builtin.zeroCells zero m).size = m * zero.size := by simp [Builtin.zeroCells]

/-- Behind an append that made a new array. -/
theorem append_new (hs : Sat G w0 φ T w) (hh : Sub h T) (hG : G ≤ n) (hf : Fresh φ T n (n + 1)) {cs us : List Value} (hv : VRels φ cs us) {e : TypeId} {c z : Array Value} {cap esz m : Nat}
    (hc : c = us.toArray ++ Builtin.zeroCells z (cap - m)) (hz : z.size = esz) (hm : m ≤ cap) (hlen : cs.length = m * esz) (hone : cs.all Value.oneCell' = true) :
    ∃ φ' T', VRel φ' (.slice (some ⟨n, 0, some cs.length⟩) m (2 * esz)) (.slice (some ⟨w.heap.size, 0, none⟩) m cap) ∧
      Post G w0 φ T h n φ' T' (w.alloc (.cells c e)) (h.put n (.cells (some e) cs cs.length)) (n + 1) := by
  have hp := alloc_sound (w := w) (e := e) (fz := (0, 0)) hs hh hG hf hv (c := c) (by
    rw [hc]; simp only [Array.toList_append]; exact List.take_left' rfl) hone (fun o _ => by omega)
  refine ⟨_, _, ?_, hp⟩
  have hsize : c.size = cap * esz := by
    rw [hc]
    simp only [Array.size_append, zeroCells_size, hz, List.size_toArray, ← hv.length, hlen]
    rw [← Nat.add_mul]; congr 1; omega
  exact VRel.slice n 0 _ m _ _ _ cap (Phi.ins_same _ _ _ _) hm (.inr rfl) (.inr (.inr ⟨esz, rfl, rfl, by simp [hsize]⟩))

theorem run_choose_cap (need old : Nat) (e : TypeId) : ∃ cap w', (choose (.appendCap need old e)).run P w = .ok cap w' ∧ need ≤ cap ∧ SameMem w w' := by
  refine ⟨_, { w with drawn := w.drawn + 1 }, by simp [run_choose, Question.forced]; rfl, ?_, SameMem.drew _ _⟩
  simp [Question.cut]

theorem append_run {ts : Array TypeId} {e : TypeId} {d : TypeDesc} (h0 : P.underlying (ts.getD 0 0) = some (.slice e)) (h1 : P.underlying (ts.getD 1 0) = some d) (hts : ts.size = 2) (hd : ∀ k, d ≠ .int k)
    {i : TypeInfo} (hi : P.info? e = some i) {z : Value} (hz : i.zero = some z) (hbytes : 0 < i.bytes) {base : Option Addr} {len cap m : Nat} {x : Value} {t : TypeId} (hlen : (Builtin.lenOf x).run P w = .ok m w)
    {us old : List Value}
    (hfirst' : ∀ w', SameMem w w' → (Builtin.firstCells i.size m x).run P w' = .ok us.toArray w') (hold' : ∀ w', SameMem w w' → (Builtin.firstCells i.size len (.slice base len cap)).run P w' = .ok old.toArray w')
    (hroom : 2 * (len + m) * i.bytes ≤ 281474976710656) (hgrow : cap < len + m) :
    ∃ cap' w', (Builtin.append_ ts t #[.slice base len cap, x]).run P w = .ok (.slice (some ⟨w'.heap.size, 0, none⟩) (len + m) cap') (w'.alloc (.cells ((old ++ us).toArray ++ Builtin.zeroCells z.cells (cap' - (len + m))) e)) ∧
      len + m ≤ cap' ∧ SameMem w w' := by
  obtain ⟨cap', w', hc, hcap, hsame⟩ := run_choose_cap (P := P) (w := w) (len + m) cap e
  refine ⟨cap', w', ?_, hcap, hsame⟩
  have g0 : ts[0]? = some (ts.getD 0 0) := by simp [hts]
  have g1 : ts[1]? = some (ts.getD 1 0) := by simp [hts]
  have hnext := nextslicecap_le hgrow
  have hn1 : ¬ (len + m ≤ cap) := by omega
  have hn3 : ¬ (Builtin.nextslicecap (len + m) cap * i.bytes > 2 ^ 48) := by
    have := Nat.mul_le_mul_right i.bytes hnext
    have e48 : 2 ^ 48 = 281474976710656 := by decide
    omega
  have hb0 : i.bytes ≠ 0 := by omega
  unfold Builtin.append_
  simp only [g0, g1, List.getElem?_toArray, List.getElem?_cons_zero, List.getElem?_cons_succ, Sem.run_bind, run_underlying' h0, run_underlying' h1, Result.andThen_ok, run_sizeOf' (show sz P e = some i.size by simp [sz, hi]),
    Sem.run_pure, Bool.false_eq_true, if_false, hlen, hn1, run_typeInfo' hi, false_or, hb0, and_false, hn3, hc, run_askRoom, Bool.not_false, if_true, hold' w' hsame, hfirst' w' hsame, run_zeroValue' hi hz, newRow_run]
  simp only [List.append_toArray]


theorem append_inplace_run {ts : Array TypeId} {e : TypeId} {d : TypeDesc} (h0 : P.underlying (ts.getD 0 0) = some (.slice e)) (h1 : P.underlying (ts.getD 1 0) = some d) (hts : ts.size = 2) (hd : ∀ k, d ≠ .int k)
    {i : TypeInfo} (hi : P.info? e = some i) {a : Addr} {len cap m : Nat} {x : Value} {t : TypeId} (hlen : (Builtin.lenOf x).run P w = .ok m w)
    {us : List Value} (hfirst : (Builtin.firstCells i.size m x).run P w = .ok us.toArray w) (hroom : len + m ≤ cap) {w' : World}
    (hst : (storeCells (a.add (len * i.size)) us).run P w = .ok () w') :
    (Builtin.append_ ts t #[.slice (some a) len cap, x]).run P w = .ok (.slice (some a) (len + m) cap) w' := by
  have g0 : ts[0]? = some (ts.getD 0 0) := by simp [hts]
  have g1 : ts[1]? = some (ts.getD 1 0) := by simp [hts]
  unfold Builtin.append_
  simp only [g0, g1, List.getElem?_toArray, List.getElem?_cons_zero, List.getElem?_cons_succ, Sem.run_bind, run_underlying' h0, run_underlying' h1, Result.andThen_ok, run_sizeOf' (show sz P e = some i.size by simp [sz, hi]),
    Sem.run_pure, Bool.false_eq_true, if_false, hlen, hroom, if_true, Bool.not_false, hfirst, hst]

theorem append_nil_run {ts : Array TypeId} {e : TypeId} {d : TypeDesc} (h0 : P.underlying (ts.getD 0 0) = some (.slice e)) (h1 : P.underlying (ts.getD 1 0) = some d) (hts : ts.size = 2) (hd : ∀ k, d ≠ .int k)
    {i : TypeInfo} (hi : P.info? e = some i) {len cap m : Nat} {x : Value} {t : TypeId} (hlen : (Builtin.lenOf x).run P w = .ok m w)
    {us : List Value} (hfirst : (Builtin.firstCells i.size m x).run P w = .ok us.toArray w) (hroom : len + m ≤ cap) :
    (Builtin.append_ ts t #[.slice none len cap, x]).run P w = .ok (.slice none (len + m) cap) w := by
  have g0 : ts[0]? = some (ts.getD 0 0) := by simp [hts]
  have g1 : ts[1]? = some (ts.getD 1 0) := by simp [hts]
  unfold Builtin.append_
  simp only [g0, g1, List.getElem?_toArray, List.getElem?_cons_zero, List.getElem?_cons_succ, Sem.run_bind, run_underlying' h0, run_underlying' h1, Result.andThen_ok, run_sizeOf' (show sz P e = some i.size by simp [sz, hi]),
    Sem.run_pure, Bool.false_eq_true, if_false, hlen, hroom, if_true, Bool.not_false, hfirst]

/-- A block that the call owns grows: where it lies, or elsewhere. -/
theorem grow_inplace (hs : Sat G w0 φ T w) (hh : Sub h T) {i g : Nat} {cs vs us : List Value} {min ty : Nat} (hget : h.get i = some (.cells (some ty) cs min)) (hg : g = cs.length) (hne : vs ≠ []) {l : Loc} (hl : φ i g = some l)
    (hv : VRels φ vs us) (hone : vs.all Value.oneCell' = true) (hfit : cs.length + vs.length ≤ l.size) :
    ∃ φ' T' w', (storeCells ⟨l.block, l.off + g, none⟩ us).run P w = .ok () w' ∧ φ' i (cs ++ vs).length = some l ∧ Post G w0 φ T h n φ' T' w' (h.put i (.cells (some ty) (cs ++ vs) min)) n := by
  subst hg
  have hb := hs.blk i _ (hh i _ hget)
  obtain ⟨_, hmin, hall, hb⟩ := hb
  obtain ⟨_, hown, hcell⟩ := hb cs.length l hl hmin
  obtain ⟨hlo, hty, hunf⟩ := hown ty rfl
  subst hty
  obtain ⟨hB, hoff, c, fz, hrow, hsize⟩ := hs.new i _ l hl hlo
  have hlen := hv.length
  have hvs : 0 < vs.length := List.length_pos_iff.2 hne
  have hnone : φ i (cs ++ vs).length = none := by
    cases hx : φ i (cs ++ vs).length with
    | none => rfl
    | some m => have := (hb _ m hx (by simp; omega)).1; simp at this; omega
  have hone' : ∀ u, u ∈ us → u.oneCell' = true := by
    intro u hu
    obtain ⟨k, hk, rfl⟩ := List.getElem_of_mem hu
    have := hv.get' k (by omega) hk
    rw [this.oneCell]
    simp only [List.all_eq_true] at hone
    exact hone _ (List.getElem_mem _)
  have hrun := run_storeCells' (P := P) l.block (l.off + cs.length) us 0 w c l.ty fz hrow (by omega) (fun k hk => by
    rw [hoff]; exact hunf _ (by omega)) hone'
  have hcs : ∀ j u, (setRow w l.block (spliceA c (l.off + cs.length + 0) us)).cell? ⟨l.block, l.off + j, none⟩ = some u ↔ (splice c.toList cs.length us)[j]? = some u := by
    intro j u
    simp only [World.cell?, setRow_same _ hrow]
    simp [spliceA, hoff]
  have hrow' : ∀ j u, w.cell? ⟨l.block, l.off + j, none⟩ = some u → c.toList[j]? = some u := by
    intro j u hu
    simp only [World.cell?, hrow] at hu
    simpa [hoff] using hu
  have h2' : cs.length + us.length ≤ c.toList.length := by simp; omega
  refine ⟨φ.ins i (cs ++ vs).length l, T.put i (.cells (some l.ty) (cs ++ vs) min), _, hrun, Phi.ins_same _ _ _ _, ?_⟩
  refine ⟨hs.write (cs := cs ++ vs) (min := min) (g' := (cs ++ vs).length) hl hlo hrow (c := spliceA c (l.off + cs.length + 0) us) (by rw [spliceA_size]; omega) rfl (by simp; omega)
    (by simp; omega) (.inr hnone) (by simp only [List.all_append, Bool.and_eq_true]; exact ⟨hall, hone⟩) (fun k m hm hk => ?_), Phi.ins_le hnone, ?_, fun j hj _ => ?_, fun j _ hf g => ?_, Nat.le_refl _, dom_put hget⟩
  · rcases Phi.ins_cases hm with ⟨_, rfl, rfl⟩ | ⟨hm, hkne⟩
    · refine ⟨Nat.le_refl _, rfl, hunf, fun j v hj hjv => ?_⟩
      by_cases hjc : j < cs.length
      · rw [List.getElem?_append_left hjc] at hjv
        obtain ⟨u, hu, hru⟩ := hcell j v hjc hjv
        exact ⟨u, by rw [hcs, get_splice _ _ _ _ h2', if_pos hjc]; exact hrow' j u hu, hru⟩
      · rw [List.getElem?_append_right (by omega)] at hjv
        obtain ⟨u, hu, hru⟩ := hv.get hjv
        refine ⟨u, ?_, hru⟩
        rw [hcs, get_splice _ _ _ _ h2', if_neg hjc, if_pos (by simp at hj; omega)]
        exact hu
    · obtain ⟨h1, h2, h3⟩ := hb k m hm hk
      refine ⟨by simp; omega, (h2 _ rfl).2.1, (h2 _ rfl).2.2, fun j v hj hjv => ?_⟩
      have hjc : j < cs.length := by omega
      rw [List.getElem?_append_left hjc] at hjv
      obtain ⟨u, hu, hru⟩ := h3 j v hj hjv
      refine ⟨u, ?_, hru⟩
      by_cases hbl : m.block = l.block
      · have hmo : m.off = 0 := by
          obtain ⟨_, h5, _⟩ := hs.new i k m hm (h2 _ rfl).1
          exact h5
        have hadr : (⟨m.block, m.off + j, none⟩ : Addr) = ⟨l.block, l.off + j, none⟩ := by rw [hbl, hmo, hoff]
        rw [hadr] at hu ⊢
        rw [hcs, get_splice _ _ _ _ h2', if_pos hjc]
        exact hrow' j u hu
      · rw [cell?_congr (setRow_ne _ _ hbl)]; exact hu
  · intro j b hjb
    rw [AHeap.get_put] at hjb
    split at hjb
    · rename_i e; subst e; rw [TH.put_same]; exact hjb
    · rename_i e; rw [TH.put_ne _ _ e]; exact hh _ _ hjb
  · by_cases e : i = j
    · subst e; rw [hget] at hj; cases hj
    · exact TH.put_ne _ _ e
  · unfold Phi.ins
    split
    · rename_i e; obtain ⟨rfl, rfl⟩ := e; rw [hf] at hl; cases hl
    · exact hf g

end
end
end Go.Proofs.YtkaibjdogeikbaaDoor.Am
