/- The soundness of the operations of the abstract machine, part B1. -/
import Derived.Test.YtkaibjdogeikbaaDoorA9
namespace Go.Proofs.YtkaibjdogeikbaaDoor.Am
noncomputable section
open Go.RowKit (Below)

section
variable {P : Program} {G : Nat} {w0 : World} {φ : Phi} {T : TH} {w : World} {h : AHeap} {n : Nat} {σ : Fr} {ρ : Operand → Value}

/-- The elements, in whatever world with the same memory. -/
theorem elems_sound' (hs : Sat G w0 φ T w) (hh : Sub h T) {esz : Nat} {v u : Value} {m : Nat} {vs : List Value} (he : aElems h esz v = some (m, vs)) (hv : VRel φ v u) {k : Nat} (hk : k ≤ m) :
    ∃ us, VRels φ (vs.take (k * esz)) us ∧ ∀ w', SameMem w w' → (Builtin.firstCells esz k u).run P w' = .ok us.toArray w' := by
  obtain ⟨us, h1, h2⟩ := (elems_sound (P := P) hs hh he hv).2.2.2 k hk
  refine ⟨us, h1, fun w' s => ?_⟩
  obtain ⟨us', h3, h4⟩ := (elems_sound (P := P) (hs.same s) hh he hv).2.2.2 k hk
  have : us' = us := by
    unfold aElems at he
    split at he
    · simp at he; obtain ⟨rfl, rfl⟩ := he; simp at h1 h3; cases h1; cases h3; rfl
    · rename_i i o g len k0
      simp only [Option.map_eq_some_iff] at he
      obtain ⟨vs', hr, he⟩ := he
      simp at he
      obtain ⟨rfl, rfl⟩ := he
      cases hv with
      | slice i o g len k0 lc a c hl hn ha hk' =>
        obtain ⟨hlen, hle⟩ := read_le hr
        have hkm : k * esz ≤ len * esz := Nat.mul_le_mul_right _ hk
        obtain ⟨us1, g1, g2, g3, _, g4⟩ := read_sound hs hh (hle (k * esz) hkm) hl
        by_cases h0 : k * esz = 0
        · have e1 : us.length = 0 := by rw [← h1.length]; simp [h0]
          have e2 : us'.length = 0 := by rw [← h3.length]; simp [h0]
          rw [List.length_eq_zero_iff.1 e1, List.length_eq_zero_iff.1 e2]
        · rcases ha with hc | rfl
          · have hk0 : k = 0 := by omega
            simp [hk0] at h0
          · have r1 := run_loadCells' (P := P) g4 g2
            have r2 := run_loadCells' (P := P) (w := w') (us := us1) (b := lc.block) (o := lc.off + o) (fun j x hx => by
              have := g4 j x hx
              simp only [World.cell?, s.heap] at this ⊢
              exact this) g2
            simp only [Builtin.firstCells] at h2 h4
            rw [r1] at h2
            rw [r2] at h4
            simp at h2 h4
            rw [← h2, ← h4]
    · split at he
      · simp at he
        obtain ⟨rfl, rfl⟩ := he
        cases hv
        simp only [Builtin.firstCells, Sem.run_pure, Result.ok.injEq, and_true] at h2 h4
        rw [h2] at h4
        simpa using h4.symm
      · simp at he
    · simp at he
  rw [← this]; exact h4

theorem grow_elsewhere (hs : Sat G w0 φ T w) (hh : Sub h T) {b g : Nat} {cs vs us : List Value} {min : Nat} {e : TypeId} {z : Array Value} {cap esz m : Nat} (hget : h.get b = some (.cells (some e) cs min)) (hmin : min ≤ g)
    (hg : g = cs.length) (hne : vs ≠ []) {l : Loc} (hl : φ b g = some l) (hown : l.own = true) (hv : VRels φ (cs ++ vs) us) (hone : vs.all Value.oneCell' = true) (hz : z.size = esz) (hm : m ≤ cap)
    (hlen : (cs ++ vs).length = m * esz) :
    ∃ φ' T', VRel φ' (.slice (some ⟨b, 0, some (cs ++ vs).length⟩) m (2 * esz)) (.slice (some ⟨w.heap.size, 0, none⟩) m cap) ∧
      Post G w0 φ T h n φ' T' (w.alloc (.cells (us.toArray ++ Builtin.zeroCells z (cap - m)) e)) (h.put b (.cells (some e) (cs ++ vs) min)) n := by
  have hb := hs.blk b _ (hh b _ hget)
  obtain ⟨_, _, hall, hb⟩ := hb
  have hvs : 0 < vs.length := List.length_pos_iff.2 hne
  have hnone : φ b (cs ++ vs).length = none := by
    cases hx : φ b (cs ++ vs).length with
    | none => rfl
    | some m => have := (hb _ m hx (by simp; omega)).1; simp at this; omega
  have hGb : G ≤ b := by
    rcases Nat.lt_or_ge b G with hlt | hge
    · have := (hs.glob b g l hl hlt).2.2
      rw [hown] at this; cases this
    · exact hge
  have hsize : (us.toArray ++ Builtin.zeroCells z (cap - m)).size = cap * esz := by
    simp only [Array.size_append, zeroCells_size, hz, List.size_toArray, ← hv.length, hlen]
    rw [← Nat.add_mul]; congr 1; omega
  refine ⟨φ.ins b (cs ++ vs).length ⟨w.heap.size, 0, true, (us.toArray ++ Builtin.zeroCells z (cap - m)).size, e⟩, T.put b (.cells (some e) (cs ++ vs) min), ?_, ?_⟩
  · exact VRel.slice b 0 _ m _ _ _ cap (Phi.ins_same _ _ _ _) hm (.inr rfl) (.inr (.inr ⟨esz, rfl, rfl, by simp only [hsize]; omega⟩))
  · refine ⟨hs.alloc hGb (fun k m hm => (hs.uni b k m g l hm hl).trans hown) hnone rfl (by simp; omega) (fun o _ => by simp) ?_ ?_ (fun k v hk => ?_) (fun k m hm hk => ?_), Phi.ins_le hnone, ?_, fun j hj _ => ?_, fun j _ hf g => ?_, Nat.le_refl _, dom_put hget⟩
    · rw [hv.length]; simp
    · simp only [List.all_append, Bool.and_eq_true]; exact ⟨hall, hone⟩
    · obtain ⟨u, hu, hr⟩ := hv.get hk
      refine ⟨u, ?_, hr⟩
      have hlt : k < us.length := (List.getElem?_eq_some_iff.1 hu).1
      rw [Array.getElem?_append_left (by simpa using hlt)]
      simpa using hu
    · obtain ⟨h1, h2, h3⟩ := hb k m hm hk
      refine ⟨by simp; omega, (h2 _ rfl).2.1, (h2 _ rfl).2.2, fun j v hj hv' => ?_⟩
      rw [List.getElem?_append_left (by omega)] at hv'
      exact h3 j v hj hv'
    · intro j b' hjb
      rw [AHeap.get_put] at hjb
      split at hjb
      · rename_i e; subst e; rw [TH.put_same]; exact hjb
      · rename_i e; rw [TH.put_ne _ _ e]; exact hh _ _ hjb
    · by_cases e' : b = j
      · subst e'; rw [hget] at hj; cases hj
      · exact TH.put_ne _ _ e'
    · unfold Phi.ins
      split
      · rename_i e'; obtain ⟨rfl, rfl⟩ := e'; rw [hf] at hl; cases hl
      · exact hf g

theorem append_sound (hs : Sat G w0 φ T w) (hh : Sub h T) (hG : G ≤ n) {ts : Array TypeId} {e : TypeId} {d : TypeDesc} (h0 : P.underlying (ts.getD 0 0) = some (.slice e)) (h1 : P.underlying (ts.getD 1 0) = some d)
    (hts : ts.size = 2) (hd : ∀ k, d ≠ .int k) {i : TypeInfo} (hi : P.info? e = some i) {z : Value} (hz : i.zero = some z) (hzs : z.cells.size = i.size) (hsz0 : 0 < i.size) (hbytes : 0 < i.bytes)
    {s x s' x' v : Value} {h' : AHeap} {n' : Nat} {t : TypeId} (ha : aAppend h n e i.size i.bytes s' x' = some (v, h', n')) (hf : Fresh φ T n n') (hsr : VRel φ s' s) (hxr : VRel φ x' x) :
    ∃ u φ' T' w', (Builtin.append_ ts t #[s, x]).run P w = .ok u w' ∧ VRel φ' v u ∧ Post G w0 φ T h n φ' T' w' h' n' := by
  unfold aAppend at ha
  split at ha
  · simp at ha
  · rename_i m vs he
    obtain ⟨hlen, hvlen, hone, _⟩ := elems_sound (P := P) hs hh he hxr
    obtain ⟨us, hus, hfirst⟩ := elems_sound' (P := P) hs hh he hxr (Nat.le_refl m)
    rw [← hvlen, List.take_length] at hus
    have hfw := hfirst w (.refl w)
    split at ha
    · -- nothing is appended
      rename_i hm0
      subst hm0
      have hus0 : us = [] := by
        have : us.length = 0 := by rw [← hus.length, hvlen]; simp
        exact List.length_eq_zero_iff.1 this
      subst hus0
      split at ha
      · simp at ha
        obtain ⟨rfl, rfl, rfl⟩ := ha
        cases hsr
        exact ⟨_, φ, T, w, append_nil_run h0 h1 hts hd hi hlen hfw (by simp), .sliceNil, .refl hs hh⟩
      · simp at ha
        obtain ⟨rfl, rfl, rfl⟩ := ha
        cases hsr with
        | slice i' o g len k lc a c hl hn ha hk =>
          refine ⟨_, φ, T, w, append_inplace_run h0 h1 hts hd hi (a := a) (us := []) hlen hfw (by simpa using hn) (w' := w) rfl, ?_, .refl hs hh⟩
          exact VRel.slice _ _ _ _ _ lc a c hl hn ha hk
      · simp at ha
    · rename_i hm0
      split at ha
      · -- onto nil
        split at ha
        · rename_i hroom
          simp at ha
          obtain ⟨rfl, rfl, rfl⟩ := ha
          cases hsr
          obtain ⟨cap', w1, hrun, hcap, hsame⟩ := append_run (t := t) (base := none) (len := 0) (cap := 0) (m := m) (us := us) (old := []) h0 h1 hts hd hi hz hbytes hlen hfirst (fun w' _ => rfl) (by simpa using hroom) (by omega)
          obtain ⟨φ', T', hr, hp⟩ := append_new (e := e) (z := z.cells) (cap := cap') (m := m) (hs.same hsame) hh hG hf hus rfl hzs (by simpa using hcap) hvlen hone
          refine ⟨_, φ', T', _, by simpa using hrun, hr, hp.sat, hp.le, hp.sub, hp.frame, hp.fresh, hp.mono, hp.dom⟩
        · simp at ha
      · rename_i b o g len k
        split at ha
        · rename_i hroom
          split at ha
          · -- a known capacity that is too small
            rename_i hodd
            split at ha
            · rename_i hcap0
              split at ha
              · rename_i us0 hread
                simp only [Option.some.injEq, Prod.mk.injEq] at ha
                obtain ⟨rfl, rfl, rfl⟩ := ha
                have he0 : aElems h i.size (.slice (some ⟨b, o, some g⟩) len k) = some (len, us0) := by simp [aElems, hread]
                obtain ⟨_, hl0, hone0, _⟩ := elems_sound (P := P) hs hh he0 hsr
                obtain ⟨old, hold, hfold⟩ := elems_sound' (P := P) hs hh he0 hsr (Nat.le_refl len)
                rw [← hl0, List.take_length] at hold
                cases hsr with
                | slice i' o g len k lc a c hl hn ha hk =>
                  have hkc : k = 2 * c + 1 := by
                    rcases hk with hk | hk | ⟨_, hk, _⟩
                    · omega
                    · exact hk
                    · omega
                  obtain ⟨cap', w1, hrun, hcap, hsame⟩ := append_run (t := t) (base := some a) (len := len) (cap := c) (m := m) (us := us) (old := old) h0 h1 hts hd hi hz hbytes hlen hfirst hfold hroom (by omega)
                  obtain ⟨φ', T', hr, hp⟩ := append_new (e := e) (z := z.cells) (cap := cap') (m := len + m) (hs.same hsame) hh hG hf (hold.append hus) rfl hzs hcap (by simp [hl0, hvlen, Nat.add_mul])
                    (by simp only [List.all_append, Bool.and_eq_true]; exact ⟨hone0, hone⟩)
                  exact ⟨_, φ', T', _, hrun, hr, hp.sat, hp.le, hp.sub, hp.frame, hp.fresh, hp.mono, hp.dom⟩
              · simp at ha
            · simp at ha
          · rename_i heven
            split at ha
            · rename_i t' cs min hget
              split at ha
              · rename_i hc
                obtain ⟨rfl, hk2, ho, hming, hg, hfull, _⟩ := hc
                simp only [Option.some.injEq, Prod.mk.injEq] at ha
                obtain ⟨rfl, rfl, rfl⟩ := ha
                subst ho
                have hread : h.read b g 0 (len * i.size) = some cs := by
                  unfold AHeap.read
                  rw [hget]
                  simp only
                  rw [if_pos ⟨hming, by omega, by omega⟩]
                  simp [hfull, hg]
                have he0 : aElems h i.size (.slice (some ⟨b, 0, some g⟩) len k) = some (len, cs) := by simp [aElems, hread]
                obtain ⟨_, hl0, hone0, _⟩ := elems_sound (P := P) hs hh he0 hsr
                obtain ⟨old, hold, hfold⟩ := elems_sound' (P := P) hs hh he0 hsr (Nat.le_refl len)
                rw [← hl0, List.take_length] at hold
                have hvne : vs ≠ [] := by
                  intro e0; rw [e0] at hvlen
                  have : 0 < m * i.size := Nat.mul_pos (by omega) hsz0
                  simp at hvlen
                  omega
                cases hsr with
                | slice i' o g len k lc a c hl hn ha hk =>
                  obtain ⟨hown, hfit⟩ : lc.own = true ∧ c * i.size ≤ lc.size := by
                    rcases hk with hk | hk | ⟨e', hk, ho, hfit⟩
                    · omega
                    · omega
                    · have : e' = i.size := by omega
                      subst this
                      exact ⟨ho, by simpa using hfit⟩
                  obtain ⟨_, hoff, _⟩ := hs.new b g lc hl hown
                  by_cases hin : len + m ≤ c
                  · -- in place
                    have ha' : a = ⟨lc.block, lc.off + 0, none⟩ := by
                      rcases ha with h | h
                      · omega
                      · exact h
                    have hfit2 : cs.length + vs.length ≤ lc.size := by
                      rw [hl0, hvlen, ← Nat.add_mul]
                      exact Nat.le_trans (Nat.mul_le_mul_right _ hin) hfit
                    obtain ⟨φ', T', w', hst, hφ', hp⟩ := grow_inplace (P := P) (n := n) hs hh hget hg hvne hl hus hone hfit2
                    have hst' : (storeCells (a.add (len * i.size)) us).run P w = .ok () w' := by
                      rw [ha', Nat.add_zero, add_eq, hfull]; exact hst
                    refine ⟨_, φ', T', w', append_inplace_run h0 h1 hts hd hi hlen hfw hin hst', ?_, hp⟩
                    subst ha'
                    have := VRel.slice (φ := φ') b 0 (cs ++ vs).length (len + m) (2 * i.size) lc ⟨lc.block, lc.off + 0, none⟩ c hφ' hin (.inr rfl) (.inr (.inr ⟨i.size, rfl, hown, by simpa using hfit⟩))
                    simpa using this
                  · -- elsewhere
                    obtain ⟨cap', w1, hrun, hcap, hsame⟩ := append_run (t := t) (base := some a) (len := len) (cap := c) (m := m) (us := us) (old := old) h0 h1 hts hd hi hz hbytes hlen hfirst hfold hroom (by omega)
                    obtain ⟨φ', T', hr, hp⟩ := grow_elsewhere (n := n) (hs.same hsame) hh (e := _) (z := z.cells) (cap := cap') hget hming hg hvne hl hown (hold.append hus) hone hzs (m := len + m) hcap
                      (by simp [hl0, hvlen, Nat.add_mul])
                    exact ⟨_, φ', T', _, hrun, hr, hp.sat, hp.le, hp.sub, hp.frame, hp.fresh, hp.mono, hp.dom⟩
              · simp at ha
            · simp at ha
        · simp at ha
      · simp at ha

end
end
end Go.Proofs.YtkaibjdogeikbaaDoor.Am
