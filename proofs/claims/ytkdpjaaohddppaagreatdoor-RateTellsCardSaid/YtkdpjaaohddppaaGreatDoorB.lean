/- The soundness of the operations of the abstract machine,part B. -/
import Derived.Test.YtkdpjaaohddppaaGreatDoorA
import Derived.Laws.StructEq
namespace Go.Proofs.YtkdpjaaohddppaaGreatDoor.Am
noncomputable section
open Go.RowKit (Below)

section
variable {P : Program} {G : Nat} {w0 : World} {φ : Phi} {T : TH} {w : World} {h : AHeap} {n : Nat} {σ : Fr} {ρ : Operand → Value}

theorem elems_sound' (hs : Sat G w0 φ T w) (hh : Sub h T) {esz : Nat} {v u : Value} {m : Nat} {vs : List Value} (he : aElems h esz v = some (m,vs)) (hv : VRel φ v u) {k : Nat} (hk : k ≤ m) :
    ∃ us,VRels φ (vs.take (k * esz)) us ∧ ∀ w',SameMem w w' → (Builtin.firstCells esz k u).run P w' = .ok us.toArray w' := by
  obtain ⟨us,h1,h2⟩ := (elems_sound (P := P) hs hh he hv).2.2.2 k hk
  refine ⟨us,h1,fun w' s => ?_⟩
  obtain ⟨us',h3,h4⟩ := (elems_sound (P := P) (hs.same s) hh he hv).2.2.2 k hk
  have : us' = us := by
    unfold aElems at he
    split at he
    · simp at he; obtain ⟨rfl,rfl⟩ := he; simp at h1 h3; cases h1; cases h3; rfl
    · rename_i i o g len k0
      simp only [Option.map_eq_some_iff] at he
      obtain ⟨vs',hr,he⟩ := he
      simp at he
      obtain ⟨rfl,rfl⟩ := he
      cases hv with
      | slice i o g len k0 lc a c hl hn ha hk' =>
        obtain ⟨hlen,hle⟩ := read_le hr
        have hkm : k * esz ≤ len * esz := Nat.mul_le_mul_right _ hk
        obtain ⟨us1,g1,g2,g3,_,g4⟩ := read_sound hs hh (hle (k * esz) hkm) hl
        by_cases h0 : k * esz = 0
        · have e1 : us.length = 0 := by rw [← h1.length]; simp [h0]
          have e2 : us'.length = 0 := by rw [← h3.length]; simp [h0]
          rw [List.length_eq_zero_iff.1 e1,List.length_eq_zero_iff.1 e2]
        · rcases ha with hc | rfl
          · have hk0 : k = 0 := by omega
            simp [hk0] at h0
          · have r1 := run_loadCells' (P := P) g4 g2
            have r2 := run_loadCells' (P := P) (w := w') (us := us1) (b := lc.block) (o := lc.off + o) (fun j x hx => by
              have := g4 j x hx
              simp only [World.cell?,s.heap] at this ⊢
              exact this) g2
            simp only [Builtin.firstCells] at h2 h4
            rw [r1] at h2
            rw [r2] at h4
            simp at h2 h4
            rw [← h2,← h4]
    · split at he
      · simp at he
        obtain ⟨rfl,rfl⟩ := he
        cases hv
        simp only [Builtin.firstCells,Sem.run_pure,Result.ok.injEq,and_true] at h2 h4
        rw [h2] at h4
        simpa using h4.symm
      · simp at he
    · simp at he
  rw [← this]; exact h4

theorem grow_elsewhere (hs : Sat G w0 φ T w) (hh : Sub h T) {b g : Nat} {cs vs us : List Value} {min : Nat} {e : TypeId} {z : Array Value} {cap esz m : Nat} (hget : h.get b = some (.cells (some e) cs min)) (hmin : min ≤ g)
    (hg : g = cs.length) (hne : vs ≠ []) {l : Loc} (hl : φ b g = some l) (hown : l.own = true) (hv : VRels φ (cs ++ vs) us) (hone : vs.all Value.oneCell' = true) (hz : z.size = esz) (hm : m ≤ cap)
    (hlen : (cs ++ vs).length = m * esz) :
    ∃ φ' T',VRel φ' (.slice (some ⟨b,0,some (cs ++ vs).length⟩) m (2 * esz)) (.slice (some ⟨w.heap.size,0,none⟩) m cap) ∧
      Post G w0 φ T h n φ' T' (w.alloc (.cells (us.toArray ++ Builtin.zeroCells z (cap - m)) e)) (h.put b (.cells (some e) (cs ++ vs) min)) n := by
  have hb := hs.blk b _ (hh b _ hget)
  obtain ⟨_,_,hall,hb⟩ := hb
  have hvs : 0 < vs.length := List.length_pos_iff.2 hne
  have hnone : φ b (cs ++ vs).length = none := by
    cases hx : φ b (cs ++ vs).length with
    | none => rfl
    | some m => have := (hb _ m hx (by simp; omega)).1; simp at this; omega
  have hGb : G ≤ b := by
    rcases Nat.lt_or_ge b G with hlt | hge
    · have := (hs.glob b g l hl hlt).2.2
      rw [hown] at this; cases this
    · exact hge
  have hsize : (us.toArray ++ Builtin.zeroCells z (cap - m)).size = cap * esz := by
    simp only [Array.size_append,zeroCells_size,hz,List.size_toArray,← hv.length,hlen]
    rw [← Nat.add_mul]; congr 1; omega
  refine ⟨φ.ins b (cs ++ vs).length ⟨w.heap.size,0,true,(us.toArray ++ Builtin.zeroCells z (cap - m)).size,e⟩,T.put b (.cells (some e) (cs ++ vs) min), ?_, ?_⟩
  · exact VRel.slice b 0 _ m _ _ _ cap (Phi.ins_same _ _ _ _) hm (.inr rfl) (.inr (.inr ⟨esz,rfl,rfl,by simp only [hsize]; omega⟩))
  · refine ⟨hs.alloc hGb (fun k m hm => (hs.uni b k m g l hm hl).trans hown) hnone rfl (by simp; omega) (fun o _ => by simp) ?_ ?_ (fun k v hk => ?_) (fun k m hm hk => ?_),Phi.ins_le hnone, ?_,fun j hj _ => ?_,fun j _ hf g => ?_,Nat.le_refl _,dom_put hget⟩
    · rw [hv.length]; simp
    · simp only [List.all_append,Bool.and_eq_true]; exact ⟨hall,hone⟩
    · obtain ⟨u,hu,hr⟩ := hv.get hk
      refine ⟨u, ?_,hr⟩
      have hlt : k < us.length := (List.getElem?_eq_some_iff.1 hu).1
      rw [Array.getElem?_append_left (by simpa using hlt)]
      simpa using hu
    · obtain ⟨h1,h2,h3⟩ := hb k m hm hk
      refine ⟨by simp; omega,(h2 _ rfl).2.1,(h2 _ rfl).2.2,fun j v hj hv' => ?_⟩
      rw [List.getElem?_append_left (by omega)] at hv'
      exact h3 j v hj hv'
    · intro j b' hjb
      rw [AHeap.get_put] at hjb
      split at hjb
      · rename_i e; subst e; rw [TH.put_same]; exact hjb
      · rename_i e; rw [TH.put_ne _ _ e]; exact hh _ _ hjb
    · by_cases e' : b = j
      · subst e'; rw [hget] at hj; cases hj
      · exact TH.put_ne _ _ e'
    · unfold Phi.ins
      split
      · rename_i e'; obtain ⟨rfl,rfl⟩ := e'; rw [hf] at hl; cases hl
      · exact hf g

theorem append_sound (hs : Sat G w0 φ T w) (hh : Sub h T) (hG : G ≤ n) {ts : Array TypeId} {e : TypeId} {d : TypeDesc} (h0 : P.underlying (ts.getD 0 0) = some (.slice e)) (h1 : P.underlying (ts.getD 1 0) = some d)
    (hts : ts.size = 2) (hd : ∀ k,d ≠ .int k) {i : TypeInfo} (hi : P.info? e = some i) {z : Value} (hz : i.zero = some z) (hzs : z.cells.size = i.size) (hsz0 : 0 < i.size) (hbytes : 0 < i.bytes)
    {s x s' x' v : Value} {h' : AHeap} {n' : Nat} {t : TypeId} (ha : aAppend h n e i.size i.bytes s' x' = some (v,h',n')) (hf : Fresh φ T n n') (hsr : VRel φ s' s) (hxr : VRel φ x' x) :
    ∃ u φ' T' w',(Builtin.append_ ts t #[s,x]).run P w = .ok u w' ∧ VRel φ' v u ∧ Post G w0 φ T h n φ' T' w' h' n' := by
  unfold aAppend at ha
  split at ha
  · simp at ha
  · rename_i m vs he
    obtain ⟨hlen,hvlen,hone,_⟩ := elems_sound (P := P) hs hh he hxr
    obtain ⟨us,hus,hfirst⟩ := elems_sound' (P := P) hs hh he hxr (Nat.le_refl m)
    rw [← hvlen,List.take_length] at hus
    have hfw := hfirst w (.refl w)
    split at ha
    · -- nothing is appended
      rename_i hm0
      subst hm0
      have hus0 : us = [] := by
        have : us.length = 0 := by rw [← hus.length,hvlen]; simp
        exact List.length_eq_zero_iff.1 this
      subst hus0
      split at ha
      · simp at ha
        obtain ⟨rfl,rfl,rfl⟩ := ha
        cases hsr
        exact ⟨_, φ,T,w,append_nil_run h0 h1 hts hd hi hlen hfw (by simp), .sliceNil, .refl hs hh⟩
      · simp at ha
        obtain ⟨rfl,rfl,rfl⟩ := ha
        cases hsr with
        | slice i' o g len k lc a c hl hn ha hk =>
          refine ⟨_, φ,T,w,append_inplace_run h0 h1 hts hd hi (a := a) (us := []) hlen hfw (by simpa using hn) (w' := w) rfl, ?_, .refl hs hh⟩
          exact VRel.slice _ _ _ _ _ lc a c hl hn ha hk
      · simp at ha
    · rename_i hm0
      split at ha
      · -- onto nil
        split at ha
        · rename_i hroom
          simp at ha
          obtain ⟨rfl,rfl,rfl⟩ := ha
          cases hsr
          obtain ⟨cap',w1,hrun,hcap,hsame⟩ := append_run (t := t) (base := none) (len := 0) (cap := 0) (m := m) (us := us) (old := []) h0 h1 hts hd hi hz hbytes hlen hfirst (fun w' _ => rfl) (by simpa using hroom) (by omega)
          obtain ⟨φ',T',hr,hp⟩ := append_new (e := e) (z := z.cells) (cap := cap') (m := m) (hs.same hsame) hh hG hf hus rfl hzs (by simpa using hcap) hvlen hone
          refine ⟨_, φ',T',_,by simpa using hrun,hr,hp.sat,hp.le,hp.sub,hp.frame,hp.fresh,hp.mono,hp.dom⟩
        · simp at ha
      · rename_i b o g len k
        split at ha
        · rename_i hroom
          split at ha
          · -- a known capacity that is too small
            rename_i hodd
            split at ha
            · rename_i hcap0
              split at ha
              · rename_i us0 hread
                simp only [Option.some.injEq,Prod.mk.injEq] at ha
                obtain ⟨rfl,rfl,rfl⟩ := ha
                have he0 : aElems h i.size (.slice (some ⟨b,o,some g⟩) len k) = some (len,us0) := by simp [aElems,hread]
                obtain ⟨_,hl0,hone0,_⟩ := elems_sound (P := P) hs hh he0 hsr
                obtain ⟨old,hold,hfold⟩ := elems_sound' (P := P) hs hh he0 hsr (Nat.le_refl len)
                rw [← hl0,List.take_length] at hold
                cases hsr with
                | slice i' o g len k lc a c hl hn ha hk =>
                  have hkc : k = 2 * c + 1 := by
                    rcases hk with hk | hk | ⟨_,hk,_⟩
                    · omega
                    · exact hk
                    · omega
                  obtain ⟨cap',w1,hrun,hcap,hsame⟩ := append_run (t := t) (base := some a) (len := len) (cap := c) (m := m) (us := us) (old := old) h0 h1 hts hd hi hz hbytes hlen hfirst hfold hroom (by omega)
                  obtain ⟨φ',T',hr,hp⟩ := append_new (e := e) (z := z.cells) (cap := cap') (m := len + m) (hs.same hsame) hh hG hf (hold.append hus) rfl hzs hcap (by simp [hl0,hvlen,Nat.add_mul])
                    (by simp only [List.all_append,Bool.and_eq_true]; exact ⟨hone0,hone⟩)
                  exact ⟨_, φ',T',_,hrun,hr,hp.sat,hp.le,hp.sub,hp.frame,hp.fresh,hp.mono,hp.dom⟩
              · simp at ha
            · simp at ha
          · rename_i heven
            split at ha
            · rename_i t' cs min hget
              split at ha
              · rename_i hc
                obtain ⟨rfl,hk2,ho,hming,hg,hfull,_⟩ := hc
                simp only [Option.some.injEq,Prod.mk.injEq] at ha
                obtain ⟨rfl,rfl,rfl⟩ := ha
                subst ho
                have hread : h.read b g 0 (len * i.size) = some cs := by
                  unfold AHeap.read
                  rw [hget]
                  simp only
                  rw [if_pos ⟨hming,by omega,by omega⟩]
                  simp [hfull,hg]
                have he0 : aElems h i.size (.slice (some ⟨b,0,some g⟩) len k) = some (len,cs) := by simp [aElems,hread]
                obtain ⟨_,hl0,hone0,_⟩ := elems_sound (P := P) hs hh he0 hsr
                obtain ⟨old,hold,hfold⟩ := elems_sound' (P := P) hs hh he0 hsr (Nat.le_refl len)
                rw [← hl0,List.take_length] at hold
                have hvne : vs ≠ [] := by
                  intro e0; rw [e0] at hvlen
                  have : 0 < m * i.size := Nat.mul_pos (by omega) hsz0
                  simp at hvlen
                  omega
                cases hsr with
                | slice i' o g len k lc a c hl hn ha hk =>
                  obtain ⟨hown,hfit⟩ : lc.own = true ∧ c * i.size ≤ lc.size := by
                    rcases hk with hk | hk | ⟨e',hk,ho,hfit⟩
                    · omega
                    · omega
                    · have : e' = i.size := by omega
                      subst this
                      exact ⟨ho,by simpa using hfit⟩
                  obtain ⟨_,hoff, -⟩ := hs.new b g lc hl hown
                  by_cases hin : len + m ≤ c
                  · -- in place
                    have ha' : a = ⟨lc.block,lc.off + 0,none⟩ := by
                      rcases ha with h | h
                      · omega
                      · exact h
                    have hfit2 : cs.length + vs.length ≤ lc.size := by
                      rw [hl0,hvlen,← Nat.add_mul]
                      exact Nat.le_trans (Nat.mul_le_mul_right _ hin) hfit
                    obtain ⟨φ',T',w',hst,hφ',hp⟩ := grow_inplace (P := P) (n := n) hs hh hget hg hvne hl hus hone hfit2
                    have hst' : (storeCells (a.add (len * i.size)) us).run P w = .ok () w' := by
                      rw [ha',Nat.add_zero,add_eq,hfull]; exact hst
                    refine ⟨_, φ',T',w',append_inplace_run h0 h1 hts hd hi hlen hfw hin hst', ?_,hp⟩
                    subst ha'
                    have := VRel.slice (φ := φ') b 0 (cs ++ vs).length (len + m) (2 * i.size) lc ⟨lc.block,lc.off + 0,none⟩ c hφ' hin (.inr rfl) (.inr (.inr ⟨i.size,rfl,hown,by simpa using hfit⟩))
                    simpa using this
                  · -- elsewhere
                    obtain ⟨cap',w1,hrun,hcap,hsame⟩ := append_run (t := t) (base := some a) (len := len) (cap := c) (m := m) (us := us) (old := old) h0 h1 hts hd hi hz hbytes hlen hfirst hfold hroom (by omega)
                    obtain ⟨φ',T',hr,hp⟩ := grow_elsewhere (n := n) (hs.same hsame) hh (e := _) (z := z.cells) (cap := cap') hget hming hg hvne hl hown (hold.append hus) hone hzs (m := len + m) hcap
                      (by simp [hl0,hvlen,Nat.add_mul])
                    exact ⟨_, φ',T',_,hrun,hr,hp.sat,hp.le,hp.sub,hp.frame,hp.fresh,hp.mono,hp.dom⟩
              · simp at ha
            · simp at ha
        · simp at ha
      · simp at ha

end
end
end Go.Proofs.YtkdpjaaohddppaaGreatDoor.Am
namespace Go.Proofs.YtkdpjaaohddppaaGreatDoor.Am
noncomputable section
open Go.RowKit (Below)

section
variable {P : Program} {G : Nat} {w0 : World} {φ : Phi} {T : TH} {w : World} {h : AHeap} {n : Nat} {σ : Fr} {ρ : Operand → Value}

theorem copy_sound (hs : Sat G w0 φ T w) (hh : Sub h T) {ts : Array TypeId} {e : TypeId} (h0 : P.underlying (ts.getD 0 0) = some (.slice e)) (hts : ts.size = 2) {esz : Nat} (hsz : sz P e = some esz)
    {d x d' x' v : Value} {h' : AHeap} {n' : Nat} {t : TypeId} (ha : aCopy h n esz d' x' = some (v,h',n')) (hdr : VRel φ d' d) (hxr : VRel φ x' x) :
    ∃ φ' T' w',(Builtin.copy_ ts t #[d,x]).run P w = .ok v w' ∧ Post G w0 φ T h n φ' T' w' h' n' ∧ scalar v = true := by
  have g0 : ts[0]? = some (ts.getD 0 0) := by simp [hts]
  unfold aCopy at ha
  split at ha
  · simp at ha
  · rename_i m vs he
    obtain ⟨hlen,hvlen,hone,_⟩ := elems_sound (P := P) hs hh he hxr
    split at ha
    · simp at ha
      obtain ⟨rfl,rfl,rfl⟩ := ha
      cases hdr
      obtain ⟨us,hus,hfirst⟩ := elems_sound' (P := P) hs hh he hxr (Nat.zero_le m)
      refine ⟨φ,T,w, ?_, .refl hs hh,rfl⟩
      unfold Builtin.copy_
      simp only [g0,List.getElem?_toArray,List.getElem?_cons_zero,List.getElem?_cons_succ,Sem.run_bind,run_underlying' h0,Result.andThen_ok,Sem.run_pure,hlen,run_sizeOf' hsz,Nat.min_def,Nat.le_zero_eq]
      split
      · rename_i hm0; subst hm0; rw [hfirst w (.refl w)]; rfl
      · rw [hfirst w (.refl w)]; rfl
    · rename_i b o g len k
      cases hdr with
      | slice i o g len k lc a c hl hn ha' hk =>
        obtain ⟨us,hus,hfirst⟩ := elems_sound' (P := P) hs hh he hxr (Nat.min_le_left m len)
        split at ha
        · rename_i hm0
          simp at ha
          obtain ⟨rfl,rfl,rfl⟩ := ha
          refine ⟨φ,T,w, ?_, .refl hs hh,rfl⟩
          have hus0 : us = [] := by
            have : us.length = 0 := by rw [← hus.length,hm0]; simp
            exact List.length_eq_zero_iff.1 this
          rw [hm0] at hfirst
          subst hus0
          unfold Builtin.copy_
          simp only [g0,List.getElem?_toArray,List.getElem?_cons_zero,List.getElem?_cons_succ,Sem.run_bind,run_underlying' h0,Result.andThen_ok,Sem.run_pure,hlen,run_sizeOf' hsz]
          rw [show Nat.min m len = 0 from hm0]
          simp only [hfirst w (.refl w),Result.andThen_ok]
          rfl
        · rename_i hm0
          split at ha
          · rename_i h1 hw
            simp at ha
            obtain ⟨rfl,rfl,rfl⟩ := ha
            have hc : a = ⟨lc.block,lc.off + o,none⟩ := by
              rcases ha' with h | h
              · have := Nat.min_le_right m len; omega
              · exact h
            subst hc
            have hone' : (vs.take (min m len * esz)).all Value.oneCell' = true := by
              simp only [List.all_eq_true] at hone ⊢
              exact fun v hv => hone v (List.mem_of_mem_take hv)
            obtain ⟨φ',T',w',hst,hp⟩ := write_sound (P := P) (n := n) hs hh hw hl hus hone'
            refine ⟨φ',T',w', ?_,hp,rfl⟩
            unfold Builtin.copy_
            simp only [g0,List.getElem?_toArray,List.getElem?_cons_zero,List.getElem?_cons_succ,Sem.run_bind,run_underlying' h0,Result.andThen_ok,Sem.run_pure,hlen,run_sizeOf' hsz]
            rw [show Nat.min m len = min m len from rfl]
            simp only [hfirst w (.refl w),Result.andThen_ok,hst,goInt]
          · simp at ha
    · simp at ha

theorem min2F {k : FloatKind} {x y z : Nat} (hz : aMinF2 k x y = some z) : (Builtin.min2 (.float k x) (.float k y)).run P w = .ok (.float k z) w := by
  unfold aMinF2 at hz
  unfold Builtin.min2
  cases hc : k.format.order x y with
  | none => rw [hc] at hz; cases hz
  | some o => rw [hc] at hz; cases o <;> (obtain rfl := Option.some.inj hz) <;> (simp only [hc]; rfl)

theorem minF_sound (k : FloatKind) : ∀ (vs us : List Value) (x : Nat) (v : Value),aMinF k x vs = some v → VRels φ vs us → (us.foldlM Builtin.min2 (.float k x)).run P w = .ok v w ∧ scalar v = true := by
  intro vs
  induction vs with
  | nil => intro us x v h hr; cases hr; simp [aMinF] at h; subst h; exact ⟨rfl,rfl⟩
  | cons y vs ih =>
    intro us x v h hr
    cases hr with
    | cons hy ht =>
      cases y <;> simp only [aMinF] at h <;> (try (simp at h; done))
      split at h
      · rename_i hk; subst hk
        split at h
        · rename_i z hz
          cases hy
          simp only [List.foldlM_cons,Sem.run_bind,min2F hz,Result.andThen_ok]
          exact ih _ _ _ h ht
        · simp at h
      · simp at h

theorem min_sound {ts : Array TypeId} {t : TypeId} {vs us : List Value} {v : Value} (h : aMin vs = some v) (hr : VRels φ vs us) : (Builtin.min_ ts t us.toArray).run P w = .ok v w ∧ scalar v = true := by
  have key : ∀ (k : IntKind) (vs us : List Value) (x : Int) (v : Value),aMinFrom k x vs = some v → VRels φ vs us → (us.foldlM Builtin.min2 (.int k x)).run P w = .ok v w ∧ scalar v = true := by
    intro k vs
    induction vs with
    | nil => intro us x v h hr; cases hr; simp [aMinFrom] at h; subst h; exact ⟨rfl,rfl⟩
    | cons y vs ih =>
      intro us x v h hr
      cases hr with
      | cons hy ht =>
        cases y <;> simp only [aMinFrom] at h <;> (try (simp at h; done))
        split at h
        · rename_i hk; subst hk
          cases hy
          simp only [List.foldlM_cons,Sem.run_bind,Builtin.min2,Sem.run_pure,Result.andThen_ok]
          exact ih _ _ _ h ht
        · simp at h
  cases hr with
  | nil => simp [aMin] at h
  | cons hx ht =>
    rename_i x y xs ys
    cases x <;> simp only [aMin] at h <;> (try (simp at h; done))
    · cases hx
      exact key _ _ _ _ _ h ht
    · cases hx
      exact minF_sound _ _ _ _ _ h ht

theorem max_sound {ts : Array TypeId} {t : TypeId} {vs us : List Value} {v : Value} (h : aMax vs = some v) (hr : VRels φ vs us) : (Builtin.max_ ts t us.toArray).run P w = .ok v w ∧ scalar v = true := by
  have key : ∀ (k : IntKind) (vs us : List Value) (x : Int) (v : Value),aMaxFrom k x vs = some v → VRels φ vs us → (us.foldlM Builtin.max2 (.int k x)).run P w = .ok v w ∧ scalar v = true := by
    intro k vs
    induction vs with
    | nil => intro us x v h hr; cases hr; simp [aMaxFrom] at h; subst h; exact ⟨rfl,rfl⟩
    | cons y vs ih =>
      intro us x v h hr
      cases hr with
      | cons hy ht =>
        cases y <;> simp only [aMaxFrom] at h <;> (try (simp at h; done))
        split at h
        · rename_i hk; subst hk
          cases hy
          simp only [List.foldlM_cons,Sem.run_bind,Builtin.max2,Sem.run_pure,Result.andThen_ok]
          exact ih _ _ _ h ht
        · simp at h
  cases hr with
  | nil => simp [aMax] at h
  | cons hx ht =>
    rename_i x y xs ys
    cases x <;> simp only [aMax] at h <;> (try (simp at h; done))
    cases hx
    exact key _ _ _ _ _ h ht

/- ---------------------------------------------------------------- rows of zeros; parts laid -/

theorem repeatCells_length (z : List Value) (k : Nat) : (repeatCells z k).length = k * z.length := by
  induction k with
  | zero => simp [repeatCells]
  | succ k ih => simp [repeatCells,ih,Nat.add_mul]; omega
theorem repeatCells_get (z : List Value) (k i : Nat) (hi : i < k * z.length) : (repeatCells z k)[i]? = z[i % z.length]? := by
  induction k generalizing i with
  | zero => simp at hi
  | succ k ih =>
    simp only [repeatCells]
    by_cases h : i < z.length
    · rw [List.getElem?_append_left h,Nat.mod_eq_of_lt h]
    · rw [List.getElem?_append_right (by omega),ih _ (by rw [Nat.add_mul] at hi; omega)]
      congr 1
      rw [Nat.mod_eq_sub_mod (by omega : i ≥ z.length)]
theorem zeroRow_take (z : Array Value) (k c : Nat) (hk : k ≤ c) (hz : 0 < z.size) :
    (((Array.range (c * z.size)).map (z[· % z.size]!)).toList).take (repeatCells z.toList k).length = repeatCells z.toList k := by
  apply List.ext_getElem?
  intro i
  rw [List.getElem?_take,repeatCells_length]
  simp only [Array.length_toList]
  split
  · rename_i hi
    rw [repeatCells_get _ _ _ (by simpa using hi)]
    have hlt : i < c * z.size := Nat.lt_of_lt_of_le hi (Nat.mul_le_mul_right _ hk)
    have hmod : i % z.size < z.size := Nat.mod_lt _ hz
    simp [hlt,hmod]
  · rename_i hi
    rw [List.getElem?_eq_none]
    rw [repeatCells_length]
    simpa using hi

theorem foldl_set (vs : List Value) : ∀ (cs : Array Value) (off i : Nat),off + i + vs.length ≤ cs.size →
    (vs.zipIdx i).foldl (fun cs (c,j) => cs.setIfInBounds (off + j) c) cs = spliceA cs (off + i) vs := by
  induction vs with
  | nil => intro cs off i _; simp [spliceA,splice_nil]
  | cons v vs ih =>
    intro cs off i h
    simp only [List.length_cons] at h
    simp only [List.zipIdx_cons,List.foldl_cons]
    rw [ih _ _ _ (by simp; omega)]
    unfold spliceA
    rw [splice_cons _ _ _ _ (by simp; omega)]
    simp [Nat.add_assoc]

theorem fill_sound {ρ' : X → Option Value} (hρ : ∀ x x' v,cX x = some x' → ρ' x' = some v → VRel φ v (ρ x)) (place : Nat → Option (Nat × Nat)) :
    ∀ (parts : List (Nat × Operand)) (qs : List (Nat × Nat × X)) (cells cs : List Value) (ds : Array Value),cParts place parts = some qs → aFill ρ' cells qs = some cs → VRels φ cells ds.toList →
      cells.all Value.oneCell' = true →
      ∃ es,Instr.fill place ds (parts.map fun (i,x) => (i, ρ x)) = some es ∧ VRels φ cs es.toList ∧ cs.all Value.oneCell' = true ∧ cs.length = cells.length
  | [],qs,cells,cs,ds,hq,ha,hr,ho => by
    simp [cParts] at hq; subst hq; simp [aFill] at ha; subst ha; exact ⟨ds,rfl,hr,ho,rfl⟩
  | (i,x) :: parts,qs,cells,cs,ds,hq,ha,hr,ho => by
    simp only [cParts] at hq
    split at hq
    · rename_i off size y r hp hy hrest
      simp at hq
      subst hq
      simp only [aFill] at ha
      split at ha
      · simp at ha
      · rename_i v hv
        split at ha
        · rename_i hc
          obtain ⟨h1,h2,h3⟩ := hc
          have hvr := hρ _ _ _ hy hv
          have hcells := hvr.cells
          have hl := hcells.length
          have hl2 := hr.length
          simp only [Array.length_toList] at hl hl2
          have hsp : VRels φ (splice cells off v.cells.toList) (spliceA ds off (ρ x).cells.toList).toList := by
            simp only [spliceA,splice]
            have hh : ((ρ x).cells.toList).length = (v.cells.toList).length := by simp [hl]
            rw [hh]
            exact ((hr.take _).append hcells).append (hr.drop _)
          have hone := hvr.oneCells h3
          have ho' : (splice cells off v.cells.toList).all Value.oneCell' = true := by
            simp only [splice,List.all_append,Bool.and_eq_true]
            simp only [List.all_eq_true] at ho hone ⊢
            exact ⟨⟨fun v hv => ho v (List.mem_of_mem_take hv),hone⟩,fun v hv => ho v (List.mem_of_mem_drop hv)⟩
          obtain ⟨es,he1,he2,he3,he4⟩ := fill_sound hρ place parts r _ cs _ hrest ha hsp ho'
          refine ⟨es, ?_,he2,he3,by rw [he4,splice_length (by simp; omega)]⟩
          simp only [List.map_cons,Instr.fill,hp]
          rw [if_neg (by simp; omega)]
          have := foldl_set (ρ x).cells.toList ds off 0 (by simp; omega)
          rw [← he1]
          congr 1
          rw [← Array.foldl_toList,Array.toList_zipIdx]
          exact this
        · simp at ha
    · simp at hq

end
end
end Go.Proofs.YtkdpjaaohddppaaGreatDoor.Am
namespace Go.Proofs.YtkdpjaaohddppaaGreatDoor.Am
noncomputable section
open Go.RowKit (Below)

section
variable {P : Program} {G : Nat} {w0 : World} {φ : Phi} {T : TH} {w : World} {h : AHeap} {n : Nat} {σ : Fr} {ρ : Operand → Value}

/- ---------------------------------------------------------------- struct and array equality -/

theorem leavesEq_append : ∀ (l1 l2 : List Leaf) (xs ys : List Value) (r : Bool),leavesEq (l1 ++ l2) xs ys = some r →
    ∃ r1 r2,leavesEq l1 (xs.take l1.length) (ys.take l1.length) = some r1 ∧ leavesEq l2 (xs.drop l1.length) (ys.drop l1.length) = some r2 ∧ r = (r1 && r2)
  | [],l2,xs,ys,r,h => ⟨true,r,by simp [leavesEq],by simpa using h,by simp⟩
  | l :: l1,l2,xs,ys,r,h => by
    cases xs with
    | nil => simp [leavesEq] at h
    | cons x xs =>
      cases ys with
      | nil => simp [leavesEq] at h
      | cons y ys =>
        simp only [List.cons_append,leavesEq] at h
        split at h
        · rename_i a b ha hb
          simp at h
          subst h
          obtain ⟨r1,r2,h1,h2,h3⟩ := leavesEq_append l1 l2 xs ys b hb
          refine ⟨a && r1,r2,by simp [leavesEq,ha,h1],by simpa using h2,by rw [h3,Bool.and_assoc]⟩
        · simp at h

theorem leavesEq_scalar : ∀ (ls : List Leaf) (xs ys : List Value) (r : Bool),leavesEq ls xs ys = some r → xs.all scalar = true ∧ ys.all scalar = true ∧ xs.length = ls.length ∧ ys.length = ls.length
  | [],xs,ys,r,h => by
    cases xs <;> cases ys <;> simp [leavesEq] at h
    exact ⟨rfl,rfl,rfl,rfl⟩
  | l :: ls,xs,ys,r,h => by
    cases xs with
    | nil => simp [leavesEq] at h
    | cons x xs =>
      cases ys with
      | nil => simp [leavesEq] at h
      | cons y ys =>
        simp only [leavesEq] at h
        split at h
        · rename_i a b ha hb
          obtain ⟨h1,h2,h3,h4⟩ := leavesEq_scalar ls xs ys b hb
          have hxy : scalar x = true ∧ scalar y = true := by
            cases l <;> cases x <;> cases y <;> first | exact ⟨rfl,rfl⟩ | (simp [leafEq] at ha; done)
          exact ⟨by simp [hxy.1]; simpa using h1,by simp [hxy.2]; simpa using h2,by simp [h3],by simp [h4]⟩
        · simp at h

def eqElems (d : Nat) (elem : TypeId) (s : Nat) (xs ys : Array Value) : List Nat → Sem Bool
  | [] => pure true
  | i :: is => do
    let a ← part elem xs (i * s)
    let b ← part elem ys (i * s)
    let r ← Op.equalIn d elem a b
    if (!r) = true then pure false else eqElems d elem s xs ys is

theorem run_equalIn_array (d : Nat) (t : TypeId) {len : Nat} {elem : TypeId} {s : Nat} (xs ys : Array Value) (ht : P.underlying t = some (.array len elem)) (hs : sz P elem = some s) :
    (Op.equalIn (d + 1) t (.agg xs) (.agg ys)).run P w = (eqElems d elem s xs ys (List.range len)).run P w := by
  simp only [Op.equalIn,Sem.run_bind,run_underlying' ht,Result.andThen_ok,run_sizeOf' hs]
  rw [Std.Legacy.Range.forIn_eq_forIn_range']
  simp only [Std.Legacy.Range.size,Nat.sub_zero,Nat.add_sub_cancel,Nat.div_one]
  rw [← List.range_eq_range']
  generalize List.range len = is
  induction is generalizing w with
  | nil => simp [eqElems]
  | cons i is ih =>
    simp only [List.forIn_cons,eqElems,Sem.run_bind,Sem.run_ite]
    generalize (part elem xs (i * s)).run P w = r1
    cases r1 with
    | ok a w1 =>
      simp only [Result.andThen_ok]
      generalize (part elem ys (i * s)).run P w1 = r2
      cases r2 with
      | ok b w2 =>
        simp only [Result.andThen_ok]
        generalize (Op.equalIn d elem a b).run P w2 = r3
        cases r3 with
        | ok r w3 =>
          cases r
          · simp only [Result.andThen_ok,Bool.not_false,if_true,Sem.run_pure]
          · simp only [Result.andThen_ok,Bool.not_true,Bool.false_eq_true,if_false,Sem.run_pure]
            exact ih
        | halt x w3 => simp [Result.andThen]
      | halt x w2 => simp [Result.andThen]
    | halt x w1 => simp [Result.andThen]

def pieceEq (P : Program) (w : World) (dep : Nat) (t : TypeId) (xs ys : List Value) (r : Bool) : Prop :=
  ∃ d,P.underlying t = some d ∧ if isAggD d then (Op.equalIn dep t (.agg xs.toArray) (.agg ys.toArray)).run P w = .ok r w
    else ∃ x y,xs = [x] ∧ ys = [y] ∧ (Op.equalIn dep t x y).run P w = .ok r w

theorem part_piece {t : TypeId} {dep : Nat} {s : Nat} (hs : sz P t = some s) {xs ys : Array Value} {off : Nat} {r : Bool} (h : pieceEq P w dep t ((xs.toList.drop off).take s) ((ys.toList.drop off).take s) r) :
    ∃ a b,(part t xs off).run P w = .ok a w ∧ (part t ys off).run P w = .ok b w ∧ (Op.equalIn dep t a b).run P w = .ok r w := by
  obtain ⟨d,hd,h⟩ := h
  split at h
  · rename_i ha
    refine ⟨.agg (xs.extract off (off + s)), .agg (ys.extract off (off + s)),by simp [part,run_isAgg' hd,ha,run_sizeOf' hs],by simp [part,run_isAgg' hd,ha,run_sizeOf' hs], ?_⟩
    have e : ∀ zs : Array Value,zs.extract off (off + s) = ((zs.toList.drop off).take s).toArray := by
      intro zs; apply Array.toList_inj.1; simp [List.extract_eq_take_drop]
    rw [e,e]; exact h
  · rename_i ha
    obtain ⟨x,y,hx,hy,h⟩ := h
    have g : ∀ (zs : Array Value) (z : Value),(zs.toList.drop off).take s = [z] → zs[off]? = some z := by
      intro zs z hz
      have := congrArg (fun l => l[0]?) hz
      simp only [List.getElem?_cons_zero] at this
      rw [List.getElem?_take] at this
      split at this
      · rw [List.getElem?_drop] at this; simpa using this
      · cases this
    exact ⟨x,y,by simp [part,run_isAgg' hd,ha,g xs x hx],by simp [part,run_isAgg' hd,ha,g ys y hy],h⟩

def leafD : Leaf → TypeDesc → Prop
  | .int,d => ∃ k,d = .int k
  | .bool,d => d = .bool
  | .str,d => d = .string
  | .float,d => ∃ k,d = .float k
theorem leaf_sound {dep : Nat} {t : TypeId} {d : TypeDesc} {l : Leaf} {x y : Value} {r : Bool} (ht : P.underlying t = some d) (hl : leafEq l x y = some r)
    (hd : leafD l d) : (Op.equalIn (dep + 1) t x y).run P w = .ok r w := by
  cases l <;> cases x <;> cases y <;> simp only [leafEq] at hl <;> (try (simp at hl; done))
  · split at hl
    · rename_i hk; subst hk; simp at hl; subst hl; obtain ⟨k,rfl⟩ := hd; simp [Op.equalIn,run_underlying' ht]
    · simp at hl
  · simp at hl; subst hl; obtain rfl := hd; simp [Op.equalIn,run_underlying' ht]
  · simp at hl; subst hl; obtain rfl := hd; simp [Op.equalIn,run_underlying' ht]
  · split at hl
    · rename_i hk; subst hk; simp at hl; subst hl; obtain ⟨k,rfl⟩ := hd; simp [Op.equalIn,run_underlying' ht]
    · simp at hl

theorem one_leaf {dep : Nat} {t : TypeId} {d : TypeDesc} {l : Leaf} {xs ys : List Value} {r : Bool} (ht : P.underlying t = some d) (hna : isAggD d = false)
    (hd : leafD l d) (h : leavesEq [l] xs ys = some r) : pieceEq P w (dep + 1) t xs ys r := by
  cases xs with
  | nil => simp [leavesEq] at h
  | cons x xs =>
    cases ys with
    | nil => simp [leavesEq] at h
    | cons y ys =>
      simp only [leavesEq] at h
      split at h
      · rename_i a b ha hb
        simp at h
        subst h
        have hb' : xs = [] ∧ ys = [] ∧ b = true := by cases xs <;> cases ys <;> simp [leavesEq] at hb; exact ⟨rfl,rfl,hb⟩
        obtain ⟨rfl,rfl,rfl⟩ := hb'
        refine ⟨d,ht, ?_⟩
        rw [if_neg (by simp [hna])]
        exact ⟨x,y,rfl,rfl,by simpa using leaf_sound ht ha hd⟩
      · simp at h

theorem elems_leaves {dep : Nat} {elem : TypeId} {s : Nat} {ls : List Leaf} (hs : sz P elem = some s) (hls : ls.length = s) (ih : ∀ xs ys r,leavesEq ls xs ys = some r → pieceEq P w dep elem xs ys r) (xs ys : Array Value) :
    ∀ (len k : Nat) (r : Bool),leavesEq (List.replicate len ls).flatten (xs.toList.drop (k * s)) (ys.toList.drop (k * s)) = some r →
      (eqElems dep elem s xs ys (List.range' k len)).run P w = .ok r w
  | 0,k,r,h => by
    simp only [List.replicate_zero,List.flatten_nil] at h
    have : r = true := by
      generalize xs.toList.drop (k * s) = a at h
      generalize ys.toList.drop (k * s) = b at h
      cases a <;> cases b <;> simp [leavesEq] at h
      exact h
    subst this
    simp [eqElems]
  | len + 1,k,r,h => by
    simp only [List.replicate_succ,List.flatten_cons] at h
    obtain ⟨r1,r2,h1,h2,h3⟩ := leavesEq_append _ _ _ _ _ h
    rw [hls] at h1 h2
    obtain ⟨a,b,ha,hb,hab⟩ := part_piece hs (ih _ _ _ h1)
    simp only [List.drop_drop] at h2
    rw [show k * s + s = (k + 1) * s from by rw [Nat.add_mul]; omega] at h2
    have h4 := elems_leaves hs hls ih xs ys len (k + 1) r2 h2
    simp only [List.range'_succ,eqElems,Sem.run_bind,ha,hb,hab,Result.andThen_ok]
    cases r1
    · subst h3; simp
    · subst h3; simpa using h4

theorem leaves_sound : ∀ (d : Nat),(∀ (t : TypeId) (ls : List Leaf),leaves P d t = some ls → ∀ dep,d ≤ dep → ∀ xs ys r,leavesEq ls xs ys = some r → pieceEq P w dep t xs ys r) ∧
    (∀ (off : Nat) (fs : List Field) (ls : List Leaf),fieldLeaves P d off fs = some ls → ∀ dep,d ≤ dep + 1 → ∀ (xs ys : Array Value) r,leavesEq ls (xs.toList.drop off) (ys.toList.drop off) = some r →
      (Op.eqFields dep xs ys fs).run P w = .ok r w)
  | 0 => ⟨fun t ls h => by simp [leaves] at h,fun off fs ls h => by simp [fieldLeaves] at h⟩
  | d + 1 => by
    obtain ⟨ih1,ih2⟩ := leaves_sound d
    constructor
    · intro t ls h dep hdep xs ys r he
      obtain ⟨dep,rfl⟩ : ∃ k,dep = k + 1 := ⟨dep - 1,by omega⟩
      simp only [leaves] at h
      split at h
      · rename_i ht; simp at h; subst h; exact one_leaf (l := .bool) ht rfl rfl he
      · rename_i k ht; simp at h; subst h; exact one_leaf (l := .int) ht rfl ⟨k,rfl⟩ he
      · rename_i ht; simp at h; subst h; exact one_leaf (l := .str) ht rfl rfl he
      · rename_i k ht; simp at h; subst h; exact one_leaf (l := .float) ht rfl ⟨k,rfl⟩ he
      · rename_i len elem ht
        split at h
        · rename_i l s hl hs
          split at h
          · rename_i hls
            simp at h
            subst h
            refine ⟨_,ht, ?_⟩
            rw [if_pos (show isAggD (.array len elem) = true from rfl),run_equalIn_array dep t xs.toArray ys.toArray ht hs,List.range_eq_range']
            exact elems_leaves hs hls (fun xs ys r => ih1 _ _ hl dep (by omega) xs ys r) xs.toArray ys.toArray len 0 r (by simpa using he)
          · simp at h
        · simp at h
      · rename_i fs ht
        split at h
        · simp at h
        · rename_i hp
          refine ⟨_,ht, ?_⟩
          rw [if_pos (show isAggD (.struct fs) = true from rfl)]
          have hf : P.fieldsOf t = fs := by simp [Program.fieldsOf,ht]
          rw [run_equalIn_struct w dep t xs.toArray ys.toArray (by rw [hf]; exact ht) (by simpa using hp),hf]
          exact ih2 0 fs.toList ls h dep (by omega) xs.toArray ys.toArray r (by simpa using he)
      · simp at h
    · intro off fs ls h dep hdep xs ys r he
      cases fs with
      | nil =>
        simp [fieldLeaves] at h; subst h
        have : r = true := by
          generalize xs.toList.drop off = a at he
          generalize ys.toList.drop off = b at he
          cases a <;> cases b <;> simp [leavesEq] at he
          exact he
        subst this
        simp [Op.eqFields]
      | cons f fs =>
        simp only [fieldLeaves] at h
        split at h
        · simp at h
        · rename_i hn
          split at h
          · rename_i l s r' hl hs hr'
            split at h
            · rename_i hls
              simp at h
              subst h
              simp only [not_or,Decidable.not_not] at hn
              obtain ⟨r1,r2,h1,h2,h3⟩ := leavesEq_append _ _ _ _ _ he
              rw [hls] at h1 h2
              obtain ⟨a,b,ha,hb,hab⟩ := part_piece hs (ih1 _ _ hl dep (by omega) _ _ _ h1)
              have h4 := ih2 _ fs r' hr' dep (by omega) xs ys r2 (by rw [hs]; simpa [List.drop_drop] using h2)
              simp only [Op.eqFields]
              rw [if_pos hn.1]
              rw [hn.2]
              simp only [Sem.run_bind,ha,hb,hab,Result.andThen_ok]
              cases r1
              · subst h3; simp
              · subst h3; simpa using h4
            · simp at h
          · simp at h

theorem eqAgg_sound {op : BinOp} {t : TypeId} {x y : Operand} {d : TypeDesc} (ht : P.underlying t = some d) (hagg : isAggD d = true) (hg : P.eqGuardType P.depth t = false) {ls : List Leaf} (hl : leaves P 40 t = some ls)
    {as bs : Array Value} {a b : Value} (ha : VRel φ (.agg as) a) (hb : VRel φ (.agg bs) b) {r : Bool} (he : leavesEq ls as.toList bs.toList = some r) (hop : op = .eql ∨ op = .neq) :
    (do eqGuard op t x y a b; binOp op t a b : Sem Value).run P w = .ok (.bool (if op = .neq then !r else r)) w := by
  obtain ⟨h1,h2,_,_⟩ := leavesEq_scalar _ _ _ _ he
  have ea : a = .agg as := ha.eq_of_flat (by simpa [flat] using h1)
  have eb : b = .agg bs := hb.eq_of_flat (by simpa [flat] using h2)
  subst ea; subst eb
  obtain ⟨d',hd',hpe⟩ := (leaves_sound (P := P) (w := w) 40).1 t ls hl 10000 (by omega) _ _ _ he
  rw [ht] at hd'
  obtain rfl := Option.some.inj hd'
  rw [if_pos hagg] at hpe
  simp only [Array.toArray_toList] at hpe
  rcases hop with rfl | rfl
  · simp only [Sem.run_bind,run_eqGuard_agg w _ t x y as bs hg,Result.andThen_ok,run_eql_struct,hpe]; rfl
  · simp only [Sem.run_bind,run_eqGuard_agg w _ t x y as bs hg,Result.andThen_ok,run_neq_struct,hpe]; rfl

end
end
end Go.Proofs.YtkdpjaaohddppaaGreatDoor.Am
namespace Go.Proofs.YtkdpjaaohddppaaGreatDoor.Am
noncomputable section
open Go.RowKit (Below)

section
variable {P : Program} {G : Nat} {w0 : World} {φ : Phi} {T : TH} {w : World} {h : AHeap} {n : Nat} {σ : Fr} {ρ : Operand → Value}

theorem run_mapM {α β : Type} (f : α → Sem β) (g : α → β) (xs : Array α) (hf : ∀ x,x ∈ xs.toList → (f x).run P w = .ok (g x) w) : (xs.mapM f).run P w = .ok (xs.map g) w := by
  rw [Array.mapM_eq_mapM_toList]
  have : ∀ l : List α,(∀ x,x ∈ l → (f x).run P w = .ok (g x) w) → (l.mapM f).run P w = .ok (l.map g) w := by
    intro l
    induction l with
    | nil => intro _; simp
    | cons x l ih =>
      intro hl
      simp only [List.mapM_cons,Sem.run_bind,hl x (by simp),Result.andThen_ok,ih (fun y hy => hl y (by simp [hy])),Sem.run_pure,List.map_cons]
  simp only [Sem.run_map,this xs.toList hf,Result.andThen_ok]
  congr 1
  apply Array.toList_inj.1; simp

theorem cParts_congr {p q : Nat → Option (Nat × Nat)} : ∀ {parts : List (Nat × Operand)} {qs},cParts p parts = some qs → (∀ i x,p i = some x → q i = some x) → cParts q parts = some qs
  | [],qs,h,_ => h
  | (i,x) :: parts,qs,h,hpq => by
    simp only [cParts] at h ⊢
    split at h
    · rename_i off size y r hp hy hr
      rw [hpq i _ hp,hy,cParts_congr hr hpq]
      exact h
    · simp at h

theorem structPlace_run {fs : Array Field} (hall : fs.all (fun f => (sz P f.type).isSome) = true) :
    (fs.mapM fun f => do Pure.pure (f.offset,← sizeOf f.type) : Sem (Array (Nat × Nat))).run P w = .ok (fs.map fun f => (f.offset,(sz P f.type).getD 0)) w := by
  apply run_mapM
  intro f hf
  have : (sz P f.type).isSome = true := by
    simp only [Array.all_eq_true_iff_forall_mem] at hall
    exact hall f (by simpa using hf)
  obtain ⟨s,hs⟩ := Option.isSome_iff_exists.1 this
  simp [run_sizeOf' hs,hs]

theorem buildStruct_sound (hρ : RhoRel φ σ h ρ) {t : TypeId} {fs : Array Field} {z : List Value} (ht : P.underlying t = some (.struct fs)) (hz : zeroCells? P t = some z) (hall : fs.all (fun f => (sz P f.type).isSome) = true)
    {parts : Array (Nat × Operand)} {qs : List (Nat × Nat × X)} (hq : cParts (structPlace P fs) parts.toList = some qs) {cs : List Value} (ha : aFill (X.ev σ h) z qs = some cs) :
    ∃ u,(Instr.build t (parts.map fun (i,x) => (i, ρ x))).run P w = .ok u w ∧ VRel φ (.agg cs.toArray) u := by
  obtain ⟨i,v,hi,hv,rfl,hsc,hsize⟩ := zeroCells?_spec hz
  have hp : ∀ i x,structPlace P fs i = some x → ((fs.map fun f => (f.offset,(sz P f.type).getD 0))[i]?) = some x := by
    intro i x hx
    unfold structPlace at hx
    split at hx
    · rename_i f hf
      split at hx
      · rename_i s hs
        simp at hx
        subst hx
        simp [hf,hs]
      · simp at hx
    · simp at hx
  obtain ⟨es,h1,h2,h3,h4⟩ := fill_sound (ρ := ρ) hρ (fun i => ((fs.map fun f => (f.offset,(sz P f.type).getD 0))[i]?)) parts.toList qs v.cells.toList cs v.cells (cParts_congr hq hp) ha (.of_scalars hsc) (oneCells_of_scalars hsc)
  refine ⟨.agg es, ?_,VRels.agg (by simpa using h2) (by simpa using h3)⟩
  simp only [Instr.build,Sem.run_bind,run_zeroValue' hi hv,Result.andThen_ok,run_underlying' ht,structPlace_run hall,Array.toList_map,h1,Sem.run_pure]

theorem buildArray_sound (hρ : RhoRel φ σ h ρ) {t e : TypeId} {len s : Nat} {z : List Value} (ht : P.underlying t = some (.array len e)) (hz : zeroCells? P t = some z) (hs : sz P e = some s)
    {parts : Array (Nat × Operand)} {qs : List (Nat × Nat × X)} (hq : cParts (fun i => some (i * s,s)) parts.toList = some qs) {cs : List Value} (ha : aFill (X.ev σ h) z qs = some cs) :
    ∃ u,(Instr.build t (parts.map fun (i,x) => (i, ρ x))).run P w = .ok u w ∧ VRel φ (.agg cs.toArray) u := by
  obtain ⟨i,v,hi,hv,rfl,hsc,hsize⟩ := zeroCells?_spec hz
  obtain ⟨es,h1,h2,h3,h4⟩ := fill_sound (ρ := ρ) hρ (fun i => some (i * s,s)) parts.toList qs v.cells.toList cs v.cells hq ha (.of_scalars hsc) (oneCells_of_scalars hsc)
  refine ⟨.agg es, ?_,VRels.agg (by simpa using h2) (by simpa using h3)⟩
  simp only [Instr.build,Sem.run_bind,run_zeroValue' hi hv,Result.andThen_ok,run_underlying' ht,run_sizeOf' hs,Array.toList_map,h1,Sem.run_pure]

theorem repeatCells_scalar {z : List Value} (hz : z.all scalar = true) : ∀ k,(repeatCells z k).all scalar = true
  | 0 => rfl
  | k + 1 => by simp only [repeatCells,List.all_append,Bool.and_eq_true]; exact ⟨hz,repeatCells_scalar hz k⟩

theorem buildSlice_sound (hs : Sat G w0 φ T w) (hh : Sub h T) (hG : G ≤ n) (hf : Fresh φ T n (n + 1)) (hρ : RhoRel φ σ h ρ) {t e : TypeId} {len s : Nat} {z : List Value} (ht : P.underlying t = some (.slice e)) (hz : zeroCells? P e = some z)
    (hsz : sz P e = some s) (hs0 : 0 < s) (hbig : len * s ≤ 16777216) {parts : Array (Nat × Operand)} {qs : List (Nat × Nat × X)} (hq : cParts (fun i => some (i * s,s)) parts.toList = some qs) {cs : List Value}
    (ha : aFill (X.ev σ h) (repeatCells z len) qs = some cs) (hcs : cs.length = len * s) :
    ∃ u φ' T' w',(Instr.buildSlice t len (parts.map fun (i,x) => (i, ρ x))).run P w = .ok u w' ∧ VRel φ' (.slice (some ⟨n,0,some cs.length⟩) len (2 * s)) u ∧
      Post G w0 φ T h n φ' T' w' (h.put n (.cells (some e) cs cs.length)) (n + 1) := by
  obtain ⟨i,v,hi,hv,rfl,hsc,hsize⟩ := zeroCells?_spec hz
  have hsi : i.size = s := by simp [sz,hi] at hsz; exact hsz
  have hrow : ((Array.range (len * s)).map ((if len * s = 0 then (#[] : Array Value) else v.cells)[· % (if len * s = 0 then (#[] : Array Value) else v.cells).size]!)).toList = repeatCells v.cells.toList len := by
    by_cases h0 : len * s = 0
    · have hl0 : len = 0 := by
        rcases Nat.mul_eq_zero.1 h0 with h | h <;> omega
      subst hl0
      simp [repeatCells]
    · rw [if_neg h0]
      have := zeroRow_take v.cells len len (Nat.le_refl _) (by omega)
      rw [hsize,hsi] at this
      rw [List.take_of_length_le (by simp [repeatCells_length,hsize,hsi])] at this
      simpa [hsize,hsi] using this
  obtain ⟨es,h1,h2,h3,h4⟩ := fill_sound (ρ := ρ) hρ (fun i => some (i * s,s)) parts.toList qs _ cs
    ((Array.range (len * s)).map ((if len * s = 0 then (#[] : Array Value) else v.cells)[· % (if len * s = 0 then (#[] : Array Value) else v.cells).size]!)) hq ha
    (by rw [hrow]; exact .of_scalars (repeatCells_scalar hsc len)) (oneCells_of_scalars (repeatCells_scalar hsc len))
  have hp := alloc_sound (w := w) (e := e) (fz := (0,0)) hs hh hG hf h2 (c := es) (List.take_of_length_le (by simp)) h3 (fun o _ => by omega)
  refine ⟨.slice (some ⟨w.heap.size,0,none⟩) len len,_,_,_, ?_, ?_,hp⟩
  · have hb : ¬ (len * s > 2 ^ 24) := by
      have : 2 ^ 24 = 16777216 := by decide
      omega
    simp only [Instr.buildSlice,Sem.run_bind,run_underlying' ht,Result.andThen_ok,run_sizeOf' hsz,hb,if_false,Array.toList_map]
    by_cases h0 : len * s = 0
    · simp only [h0,if_true] at h1 ⊢
      simp only [Sem.run_pure,Result.andThen_ok,h1,Sem.run_bind,newRow_run]
    · simp only [h0,if_false] at h1 ⊢
      simp only [Sem.run_bind,run_zeroValue' hi hv,Sem.run_pure,Result.andThen_ok,h1,newRow_run]
  · have hes : es.size = len * s := by rw [← hcs,h2.length]; simp
    exact VRel.slice n 0 _ len _ _ _ len (Phi.ins_same _ _ _ _) (Nat.le_refl _) (.inr rfl) (.inr (.inr ⟨s,rfl,rfl,by simp [hes]⟩))

theorem makeSlice_sound (hs : Sat G w0 φ T w) (hh : Sub h T) (hG : G ≤ n) (hf : Fresh φ T n (n + 1)) {t e : TypeId} {i : TypeInfo} {z : List Value} (ht : P.underlying t = some (.slice e)) (hi : P.info? e = some i) (hz : zeroCells? P e = some z)
    {l c : Int} {kl kc : IntKind} (h0 : 0 ≤ l) (hlc : l ≤ c) (hb : (i.bytes : Int) * c ≤ 281474976710656) (hc : c < 9223372036854775808) (hsize0 : 0 < i.size) :
    ∃ u φ' T' w',(Instr.makeSlice t (.int kl l) (.int kc c)).run P w = .ok u w' ∧ VRel φ' (.slice (some ⟨n,0,some (repeatCells z l.toNat).length⟩) l.toNat (2 * i.size)) u ∧
      Post G w0 φ T h n φ' T' w' (h.put n (.cells (some e) (repeatCells z l.toNat) (repeatCells z l.toNat).length)) (n + 1) := by
  obtain ⟨i',v,hi',hv,rfl,hsc,hsize⟩ := zeroCells?_spec hz
  rw [hi] at hi'
  obtain rfl := Option.some.inj hi'
  have hrow : ((Array.range (c.toNat * i.size)).map ((if c.toNat * i.size = 0 then (#[] : Array Value) else v.cells)[· % (if c.toNat * i.size = 0 then (#[] : Array Value) else v.cells).size]!)).toList.take (repeatCells v.cells.toList l.toNat).length
      = repeatCells v.cells.toList l.toNat := by
    by_cases hc0 : c.toNat * i.size = 0
    · have hl0 : l.toNat = 0 := by
        rcases Nat.mul_eq_zero.1 hc0 with h | h <;> omega
      rw [hl0]
      simp [repeatCells]
    · rw [if_neg hc0]
      have := zeroRow_take v.cells l.toNat c.toNat (by omega) (by omega)
      rw [hsize] at this
      simpa [hsize] using this
  have hsc' := repeatCells_scalar hsc l.toNat
  have hp := alloc_sound (w := w) (e := e) (fz := (0,0)) hs hh hG hf (VRels.of_scalars hsc') (c := (Array.range (c.toNat * i.size)).map ((if c.toNat * i.size = 0 then (#[] : Array Value) else v.cells)[· % (if c.toNat * i.size = 0 then (#[] : Array Value) else v.cells).size]!)) hrow (oneCells_of_scalars hsc') (fun o _ => by omega)
  refine ⟨.slice (some ⟨w.heap.size,0,none⟩) l.toNat c.toNat,_,_,_, ?_, ?_,hp⟩
  · have hwl : IntKind.i64.wrap l = l := by
      simp only [IntKind.wrap,IntKind.bits,IntKind.signed]
      simp
      omega
    have hwc : IntKind.i64.wrap c = c := by
      simp only [IntKind.wrap,IntKind.bits,IntKind.signed]
      simp
      omega
    have e48 : (2 : Int) ^ 48 = 281474976710656 := by decide
    have hbig : ((decide (c < 0) || decide ((i.bytes : Int) * c > 2 ^ 48)) || decide (l < 0) || decide (l > c)) = false := by
      simp only [Bool.or_eq_false_iff,decide_eq_false_iff_not]
      rw [e48]
      omega
    simp only [Instr.makeSlice,Sem.run_bind,run_underlying' ht,Result.andThen_ok,asInt,asIntOf,Sem.run_pure,run_typeInfo' hi,hwl,hwc]
    simp only [hbig,Bool.false_eq_true,if_false,run_askRoom,Result.andThen_ok,Sem.run_bind,run_sizeOf' (show sz P e = some i.size by simp [sz,hi])]
    by_cases hc0 : c.toNat * i.size = 0
    · simp only [hc0,if_true]
      simp only [Sem.run_pure,Result.andThen_ok,Sem.run_bind,newRow_run]
    · simp only [hc0,if_false]
      simp only [Sem.run_bind,run_zeroValue' hi hv,Sem.run_pure,Result.andThen_ok,newRow_run]
  · refine VRel.slice n 0 _ l.toNat _ _ _ c.toNat (Phi.ins_same _ _ _ _) (by omega) (.inr rfl) (.inr (.inr ⟨i.size,rfl,rfl,by simp⟩))

theorem bytesOf?_cons {v : Value} {vs : List Value} {l : List UInt8} (h : bytesOf? (v :: vs) = some l) : ∃ n l',v = .int .u8 n ∧ bytesOf? vs = some l' ∧ l = UInt8.ofNat n.toNat :: l' := by
  unfold bytesOf? at h
  split at h
  · rename_i h'; cases h'
  · rename_i n vs' h'
    obtain ⟨rfl,rfl⟩ := by simpa using h'
    split at h
    · split at h
      · rename_i l' hl'; simp at h; exact ⟨n,l',rfl,hl',h.symm⟩
      · simp at h
    · simp at h
  · simp at h

theorem strOf_sound (hs : Sat G w0 φ T w) (hh : Sub h T) {i o g len k : Nat} {u : Value} (hu : VRel φ (.slice (some ⟨i, o, some g⟩) len k) u) {vs : List Value} (hr : h.read i g o len = some vs) {l : List UInt8} (hb : bytesOf? vs = some l) :
    (Conv.bytesToString u).run P w = .ok (.string ⟨l.toArray⟩) w := by
  cases hu with
  | slice i o g len k lc a c hl hn ha hk =>
    obtain ⟨us, h1, h2, h3, _, h4⟩ := read_sound hs hh hr hl
    have hsc : ∀ (vs : List Value) (l : List UInt8), bytesOf? vs = some l → vs.all scalar = true := by
      intro vs
      induction vs with
      | nil => intro l _; rfl
      | cons v vs ih =>
        intro l hb
        obtain ⟨n, l', rfl, hl', rfl⟩ := bytesOf?_cons hb
        simp only [List.all_cons, scalar, Bool.true_and]
        exact ih l' hl'
    have hus : us = vs := h1.eq_of_scalars (hsc vs l hb)
    subst hus
    have hload : (loadCells a len).run P w = .ok us.toArray w := by
      rcases ha with hc | rfl
      · have : us = [] := by
          have : us.length = 0 := by omega
          exact List.length_eq_zero_iff.1 this
        subst this
        have : len = 0 := by simpa using h2.symm
        subst this
        simp [loadCells, loadCellsFrom]
      · exact run_loadCells' h4 h2
    simp only [Conv.bytesToString, Sem.run_bind, hload, Result.andThen_ok]
    rw [← Array.forIn_toList]
    have key : ∀ (us : List Value) (l : List UInt8) (s : ByteArray), bytesOf? us = some l →
        (forIn (m := Sem) us s fun c r => do
          match c with
          | .int .u8 n => Pure.pure (.yield (r.push (UInt8.ofNat n.toNat)))
          | _ => do
            (stuck "bytesToString: byte expected" : Sem PUnit)
            Pure.pure (.yield r)).run P w = .ok ⟨s.data ++ l.toArray⟩ w := by
      intro us
      induction us with
      | nil => intro l s hb; simp [bytesOf?] at hb; subst hb; simp
      | cons v us ih =>
        intro l s hb
        obtain ⟨n, l', rfl, hl', rfl⟩ := bytesOf?_cons hb
        simp only [List.forIn_cons, Sem.run_bind, Sem.run_pure, Result.andThen_ok]
        rw [ih l' _ hl']
        simp [ByteArray.push]
    have := key us l ByteArray.empty hb
    have hk := congrArg (fun r => Result.andThen r fun a w' => Sem.run P (Pure.pure (Value.string a)) w') this
    refine Eq.trans hk ?_
    simp only [Result.andThen_ok, Sem.run_pure]
    rw [show ByteArray.empty.data = #[] from rfl]
    simp

theorem freeze_alloc {w : World} {c : Array Value} {e : TypeId} {m : Nat} : (w.alloc (.cells c e)).freeze ⟨w.heap.size,m,none⟩ 1 = w.alloc (.cells c e (m,m + 1)) := by
  have hh : ∀ (hp : Array Obj) (o : Obj) (f : Obj → Obj),(hp.push o).modify hp.size f = hp.push (f o) := by
    intro hp o f
    apply Array.ext_getElem?
    intro i
    simp only [Array.getElem?_modify,Array.getElem?_push]
    split
    · rename_i hi; subst hi; simp
    · rename_i hi
      split
      · rename_i h2; exact absurd h2.symm hi
      · rfl
  unfold World.freeze
  simp only [Nat.succ_ne_zero,if_false]
  show World.mk _ _ _ _ _ = World.mk _ _ _ _ _
  congr 1
  show (w.heap.push _).modify w.heap.size _ = w.heap.push _
  rw [hh]
  simp

theorem bytesOf_sound (hs : Sat G w0 φ T w) (hh : Sub h T) (hG : G ≤ n) (hf : Fresh φ T n (n + 1)) {e : TypeId} (s : ByteArray) :
    ∃ u φ' T' w',(Conv.stringToBytes e s).run P w = .ok u w' ∧ VRel φ' (.slice (some ⟨n,0,some (byteCells s).length⟩) s.size 2) u ∧
      Post G w0 φ T h n φ' T' w' (h.put n (.cells (some e) (byteCells s) (byteCells s).length)) (n + 1) := by
  obtain ⟨cap,w1,hc,hcap,hsame⟩ := run_choose_cap (P := P) (w := w) s.size 0 e
  have hsc : (byteCells s).all scalar = true := by simp only [byteCells,List.all_map,List.all_eq_true]; intros; rfl
  have hsz : ((s.data.map fun b => Value.int .u8 (b.toNat : Int)) ++ Array.replicate (cap - s.size) (Value.int .u8 0)).size = cap := by
    simp; omega
  have hp := alloc_sound (w := w1) (e := e) (fz := (cap,cap + 1)) (hs.same hsame) hh hG hf (VRels.of_scalars hsc)
    (c := (s.data.map fun b => Value.int .u8 (b.toNat : Int)) ++ Array.replicate (cap - s.size) (Value.int .u8 0)) (by
      simp only [Array.toList_append,Array.toList_map]
      exact List.take_left' (by simp [byteCells])) (oneCells_of_scalars hsc) (fun o ho => by rw [hsz] at ho; simp; omega)
  refine ⟨.slice (some ⟨w1.heap.size,0,none⟩) s.size cap,_,_,_, ?_, ?_,hp.sat,hp.le,hp.sub,hp.frame,hp.fresh,hp.mono,hp.dom⟩
  · have hshape : (w1.alloc (.cells ((s.data.map fun b => Value.int .u8 (b.toNat : Int)) ++ Array.replicate (cap - s.size) (Value.int .u8 0)) e)).shape? w1.heap.size = some (e,cap) := by
      have hget : (w1.alloc (.cells ((s.data.map fun b => Value.int .u8 (b.toNat : Int)) ++ Array.replicate (cap - s.size) (Value.int .u8 0)) e)).heap[w1.heap.size]? = some (.cells ((s.data.map fun b => Value.int .u8 (b.toNat : Int)) ++ Array.replicate (cap - s.size) (Value.int .u8 0)) e) := by
        show (w1.heap.push _)[w1.heap.size]? = _
        simp
      simp only [World.shape?,hget,hsz]
    simp only [Conv.stringToBytes,Sem.run_bind,hc,Result.andThen_ok,newRow_run,markStringish,run_shape,hshape,run_freeze,Sem.run_pure,freeze_alloc]
  · refine VRel.slice n 0 _ s.size _ _ _ cap (Phi.ins_same _ _ _ _) hcap (.inr rfl) (.inr (.inr ⟨1,rfl,rfl,by simp only [hsz]; omega⟩))

/- ---------------------------------------------------------------- maps that are only read -/

theorem checkKey_plain {kt : TypeId} {d : TypeDesc} (ht : P.underlying kt = some d) (hd : (∃ k,d = .int k) ∨ d = .string) (empty : Bool) (v : Value) : (Instr.checkKey empty 10000 kt v).run P w = .ok () w := by
  have key : ∀ m,(Instr.checkKey empty (m + 1) kt v).run P w = .ok () w := by
    intro m
    simp only [Instr.checkKey,Sem.run_bind,run_underlying' ht,Result.andThen_ok]
    rcases hd with ⟨k,rfl⟩ | rfl <;> cases v <;> rfl
  exact key 9999

def keyD : TypeDesc → Value → Prop
  | d, .int _ _ => ∃ k,d = .int k
  | d, .string _ => d = .string
  | _,_ => False
def keyFits : TypeDesc → Value → Bool
  | .int _, .int _ _ => true
  | .string, .string _ => true
  | _,_ => false

theorem findNow_sound {d : TypeDesc} {key : Value} (hd : keyD d key) :
    ∀ (es : List (Value × Value)) (ces : List MapEntry) (r : Option Value) (i : Nat),findEntry key es = some r → es.length = ces.length →
      (∀ (k : Nat) (x : Value × Value),es[k]? = some x → ∃ e : MapEntry,ces[k]? = some e ∧ scalar x.1 = true ∧ e.key = x.1 ∧ VRel φ x.2 e.val) →
      match r with
      | some v => ∃ j u,Instr.findNow d key ces i = some (some (j,u)) ∧ VRel φ v u
      | none => Instr.findNow d key ces i = some none
  | [],ces,r,i,h,hl,he => by
    simp [findEntry] at h
    subst h
    have : ces = [] := by simpa using hl.symm
    subst this
    rfl
  | (k,v) :: es,ces,r,i,h,hl,he => by
    cases ces with
    | nil => simp at hl
    | cons c ces =>
      obtain ⟨e,h1,h2,h3,h4⟩ := he 0 (k,v) (by simp)
      simp at h1
      subst h1
      simp only at h3 h4
      have hsame : ∀ b,sameKey key k = some b → Instr.sameNow d key c.key = some b := by
        intro b hb
        rw [h3]
        cases key <;> (try exact hd.elim) <;> cases k <;> simp only [sameKey] at hb <;> (try (simp at hb; done))
        · obtain ⟨kk,rfl⟩ := hd; exact hb
        · obtain rfl : d = .string := hd; exact hb
      simp only [findEntry] at h
      split at h
      · rename_i hb
        simp at h
        subst h
        exact ⟨i,c.val,by simp [Instr.findNow,hsame _ hb],h4⟩
      · rename_i hb
        have ih := findNow_sound hd es ces r (i + 1) h (by simpa using hl) (fun k x hx => by
          obtain ⟨e,g1,g2⟩ := he (k + 1) x (by simpa using hx)
          exact ⟨e,by simpa using g1,g2⟩)
        simp only [Instr.findNow,hsame _ hb]
        exact ih
      · simp at h

theorem lookup_sound (hs : Sat G w0 φ T w) (hh : Sub h T) {t kt et : TypeId} {dk : TypeDesc} {inf : TypeInfo} {z : Value} (ht : P.underlying t = some (.map kt et)) (hk : P.underlying kt = some dk) (hdk : (∃ k,dk = .int k) ∨ dk = .string)
    (hi : P.info? et = some inf) (hz : inf.zero = some z) (hzf : flat z = true) {x k ux uk : Value} (hx : VRel φ x ux) (hkr : VRel φ k uk) {commaOk : Bool} {v : Value}
    (hl : aLookup h commaOk z x k = some v) (hkey : keyFits dk k = true) :
    ∃ u,(Instr.lookup t ux uk commaOk).run P w = .ok u w ∧ VRel φ v u := by
  have hck := fun b => checkKey_plain (w := w) hk hdk b uk
  have hzr : VRel φ z z := .of_flat hzf
  have htup : ∀ a b,VRel φ a b → ∀ ok : Bool,VRel φ (if commaOk then .tuple #[a, .bool ok] else a) (if commaOk then .tuple #[b, .bool ok] else b) := by
    intro a b hab ok
    cases commaOk
    · exact hab
    · exact VRels.tuple (.cons hab (.cons (.bool _) .nil))
  have huk : uk = k := by
    apply hkr.eq_of_scalar
    cases dk <;> cases k <;> first | rfl | (simp [keyFits] at hkey; done)
  subst huk
  have hd : keyD dk uk := by
    clear hck hkr hl
    cases dk <;> cases uk <;> first | (simp [keyFits] at hkey; done) | exact ⟨_,rfl⟩ | exact (rfl : TypeDesc.string = .string)
  unfold aLookup at hl
  cases hx <;> simp only at hl <;> (try (simp at hl; done))
  · simp at hl
    subst hl
    refine ⟨_, ?_,htup z z hzr false⟩
    simp [Instr.lookup,run_underlying' ht,hck,Instr.findKey,run_underlying' hk,Instr.findNow,run_zeroValue' hi hz]
  · rename_i i l hl'
    split at hl
    · rename_i es hget
      have hb := hs.blk i _ (hh i _ hget)
      obtain ⟨l2,hl2,ho,ces,clock,hobj,hlen,hent⟩ := hb
      rw [hl'] at hl2
      obtain rfl := Option.some.inj hl2
      have hgo : (getObj l.block).run P w = .ok (.map ces clock) w := by simp [getObj,Sem.run,hobj]
      split at hl
      · rename_i v' hfe
        simp at hl
        subst hl
        obtain ⟨j,u,hn,hr⟩ := findNow_sound (φ := φ) hd es ces.toList (some v') 0 hfe (by simpa using hlen) (fun k x hx => by
          obtain ⟨e,g1,g2⟩ := hent k x hx
          exact ⟨e,by simpa using g1,g2⟩)
        refine ⟨_, ?_,htup v' u hr true⟩
        simp [Instr.lookup,run_underlying' ht,hgo,hck,Instr.findKey,run_underlying' hk,hn]
      · rename_i hfe
        simp at hl
        subst hl
        have hn := findNow_sound (φ := φ) hd es ces.toList none 0 hfe (by simpa using hlen) (fun k x hx => by
          obtain ⟨e,g1,g2⟩ := hent k x hx
          exact ⟨e,by simpa using g1,g2⟩)
        simp only at hn
        refine ⟨_, ?_,htup z z hzr false⟩
        simp [Instr.lookup,run_underlying' ht,hgo,hck,Instr.findKey,run_underlying' hk,hn,run_zeroValue' hi hz]
      · simp at hl
    · simp at hl

end
end
end Go.Proofs.YtkdpjaaohddppaaGreatDoor.Am
namespace Go.Proofs.YtkdpjaaohddppaaGreatDoor.Am
noncomputable section
open Go.RowKit (Below)

section
variable {P : Program} {G : Nat} {w0 : World} {φ : Phi} {T : TH} {w : World} {h : AHeap} {n : Nat} {σ : Fr} {ρ : Operand → Value}

theorem cX_map {x : Operand} {f : X → AOp} {a : AOp} (h : (cX x).map f = some a) : ∃ y,cX x = some y ∧ a = f y := by
  simp only [Option.map_eq_some_iff] at h
  obtain ⟨y,hy,rfl⟩ := h
  exact ⟨y,hy,rfl⟩

theorem OpDoes.of_value (hs : Sat G w0 φ T w) (hh : Sub h T) {s : Sem Value} {v u : Value} (hr : s.run P w = .ok u w) (hv : VRel φ v u) :
    OpDoes P G w0 φ T w h n (do Pure.pure (.value (← s))) v h n := .pure hs hh (by simp [hr]) hv
theorem OpDoes.of_new {s : Sem Value} {v u : Value} {φ' : Phi} {T' : TH} {w' : World} {h' : AHeap} {n' : Nat} (hr : s.run P w = .ok u w') (hv : VRel φ' v u) (hp : Post G w0 φ T h n φ' T' w' h' n') :
    OpDoes P G w0 φ T w h n (do Pure.pure (.value (← s))) v h' n' := ⟨.value u,u, φ',T',w',by simp [hr],rfl,hv,hp⟩

theorem optmap {α β : Type} {x : Option α} {f : α → β} {b : β} (h : x.map f = some b) : ∃ a,x = some a ∧ f a = b := by simpa [Option.map_eq_some_iff] using h

theorem isConst_lit {x y : Operand} {lit : Bool} (h : lit = false ∨ lit = (isConst x || isConst y)) : lit = true → (isConst x || isConst y) = true := by
  intro hl; rcases h with h | h
  · rw [h] at hl; cases hl
  · rw [← h]; exact hl

theorem cBin_sound (hs : Sat G w0 φ T w) (hh : Sub h T) (hρ : RhoRel φ σ h ρ) {op : BinOp} {t : TypeId} {x y : Operand} {a : AOp} (hc : cBin P op t x y = some a) {v : Value} {h' : AHeap} {n' : Nat}
    (ha : aev (X.ev σ h) h n a = some (v,h',n')) : OpDoes P G w0 φ T w h n (do Pure.pure (.value (← (do eqGuard op t x y (ρ x) (ρ y); binOp op t (ρ x) (ρ y) : Sem Value)))) v h' n' := by
  unfold cBin at hc
  split at hc
  rotate_left
  · simp at hc
  rename_i x' y' d hx hy hd
  have hbin : ∀ v,aev (X.ev σ h) h n (.bin op x' y') = some (v,h',n') → OpDoes P G w0 φ T w h n (do Pure.pure (.value (← (do eqGuard op t x y (ρ x) (ρ y); binOp op t (ρ x) (ρ y) : Sem Value)))) v h' n' := by
    intro v ha
    simp only [aev] at ha
    split at ha
    · rename_i p q hp hq
      obtain ⟨v',hv',he⟩ := optmap ha
      simp at he
      obtain ⟨rfl,rfl,rfl⟩ := he
      have h1 := hρ _ _ _ hx hp
      have h2 := hρ _ _ _ hy hq
      have hsc : scalar p = true ∧ scalar q = true ∧ scalar v' = true := by
        unfold aBin at hv'
        split at hv'
        · refine ⟨rfl,rfl, ?_⟩
          split at hv'
          · unfold aShift at hv'; split at hv' <;> simp at hv'; subst hv'; rfl
          · unfold aShift at hv'; split at hv' <;> simp at hv'; subst hv'; rfl
          · split at hv'
            · rename_i hk _; cases op <;> simp only [aIntOp] at hv' <;> (try split at hv') <;> (try (simp at hv'; done)) <;> (obtain rfl := Option.some.inj hv') <;> rfl
            · simp at hv'
        · refine ⟨rfl,rfl, ?_⟩
          cases op <;> simp only [aStrOp] at hv' <;> (try split at hv') <;> (try (simp at hv'; done)) <;> (obtain rfl := Option.some.inj hv') <;> rfl
        · refine ⟨rfl,rfl, ?_⟩
          split at hv'
          · exact (aFloatOp_sound (P := P) (w := w) hv' t).2
          · simp at hv'
        · simp at hv'
      rw [h1.eq_of_scalar hsc.1,h2.eq_of_scalar hsc.2.1]
      exact .of_value hs hh (aBin_sound hv' t x y) (.of_scalar hsc.2.2)
    · simp at ha
  have heqv : ∀ (k : Rk) (neg : Bool) (lit : Bool) (v : Value),aev (X.ev σ h) h n (.eqv neg k lit x' y') = some (v,h',n') → rkD k d = true → (∀ e,d = .pointer e → ∃ s,sz P e = some s ∧ s ≠ 0) → (∀ ts,k = .ifc ts → ∀ u,ts.contains u = true → cmpIntOk P u = true) →
      (lit = false ∨ lit = (isConst x || isConst y)) → (neg = false ∧ op = .eql ∨ neg = true ∧ op = .neq) →
      OpDoes P G w0 φ T w h n (do Pure.pure (.value (← (do eqGuard op t x y (ρ x) (ρ y); binOp op t (ρ x) (ρ y) : Sem Value)))) v h' n' := by
    intro k neg lit v ha hk hp hi hl hop
    simp only [aev] at ha
    split at ha
    · rename_i p q hpv hqv
      obtain ⟨r,hr,he⟩ := optmap ha
      simp only [Prod.mk.injEq] at he
      obtain ⟨rfl,rfl,rfl⟩ := he
      have h1 := hρ _ _ _ hx hpv
      have h2 := hρ _ _ _ hy hqv
      have hg := eqGuard_rel (P := P) (w := w) op t x y k h1 h2 hr (isConst_lit hl)
      have he := aEqv_sound (P := P) (w := w) hd hk hp hi h1 h2 hr
      have hb := eqv_bin (P := P) (w := w) op (by rcases hop with ⟨_,h⟩ | ⟨_,h⟩ <;> simp [h]) t h1 h2 hr he
      refine .of_value hs hh (u := .bool (if neg = true then !r else r)) ?_ (.bool _)
      simp only [Sem.run_bind,hg,Result.andThen_ok,hb]
      rcases hop with ⟨rfl,rfl⟩ | ⟨rfl,rfl⟩ <;> rfl
    · simp at ha
  have hagg : ∀ (ls : List Leaf) (neg : Bool) (v : Value),aev (X.ev σ h) h n (.eqAgg neg ls x' y') = some (v,h',n') → isAggD d = true → P.eqGuardType P.depth t = false → leaves P 40 t = some ls →
      (neg = false ∧ op = .eql ∨ neg = true ∧ op = .neq) →
      OpDoes P G w0 φ T w h n (do Pure.pure (.value (← (do eqGuard op t x y (ρ x) (ρ y); binOp op t (ρ x) (ρ y) : Sem Value)))) v h' n' := by
    intro ls neg v ha hag hgt hls hop
    simp only [aev] at ha
    split at ha
    · rename_i p q hpv hqv
      obtain ⟨r,hr,he⟩ := optmap ha
      simp only [Prod.mk.injEq] at he
      obtain ⟨rfl,rfl,rfl⟩ := he
      have h1 := hρ _ _ _ hx hpv
      have h2 := hρ _ _ _ hy hqv
      refine .of_value hs hh (u := .bool (if neg = true then !r else r)) ?_ (.bool _)
      rw [eqAgg_sound hd hag hgt hls h1 h2 hr (by rcases hop with ⟨_,h⟩ | ⟨_,h⟩ <;> simp [h])]
      rcases hop with ⟨rfl,rfl⟩ | ⟨rfl,rfl⟩ <;> rfl
    · simp at ha
  have hnp : ∀ e,d = .pointer e → d = .pointer e := fun _ h => h
  split at hc
  · simp at hc; subst hc; exact hbin v ha
  · simp at hc; subst hc; exact hbin v ha
  · simp at hc; subst hc; exact hbin v ha
  · split at hc
    · rename_i ho; simp at hc; subst hc; exact heqv .bool false false v ha rfl (fun e he => by cases he) (fun ts he => by cases he) (.inl rfl) (.inl ⟨rfl,ho⟩)
    · split at hc
      · rename_i ho; simp at hc; subst hc; exact heqv .bool true false v ha rfl (fun e he => by cases he) (fun ts he => by cases he) (.inl rfl) (.inr ⟨rfl,ho⟩)
      · simp at hc
  · rename_i e
    split at hc
    · rename_i hsz
      have hp : ∀ e',(TypeDesc.pointer e) = .pointer e' → ∃ s,sz P e' = some s ∧ s ≠ 0 := by
        intro e' he'
        obtain rfl : e = e' := by simpa using he'
        obtain ⟨s,hs'⟩ := Option.isSome_iff_exists.1 hsz.2
        exact ⟨s,hs',fun h0 => hsz.1 (by rw [hs',h0])⟩
      split at hc
      · rename_i ho; simp at hc; subst hc; exact heqv .ptr false false v ha rfl hp (fun ts he => by cases he) (.inl rfl) (.inl ⟨rfl,ho⟩)
      · split at hc
        · rename_i ho; simp at hc; subst hc; exact heqv .ptr true false v ha rfl hp (fun ts he => by cases he) (.inl rfl) (.inr ⟨rfl,ho⟩)
        · simp at hc
    · simp at hc
  · split at hc
    · rename_i ho; simp at hc; subst hc; exact heqv .slice false false v ha rfl (fun e he => by cases he) (fun ts he => by cases he) (.inl rfl) (.inl ⟨rfl,ho⟩)
    · split at hc
      · rename_i ho; simp at hc; subst hc; exact heqv .slice true false v ha rfl (fun e he => by cases he) (fun ts he => by cases he) (.inl rfl) (.inr ⟨rfl,ho⟩)
      · simp at hc
  · split at hc
    · rename_i ho; simp at hc; subst hc; exact heqv .map false false v ha rfl (fun e he => by cases he) (fun ts he => by cases he) (.inl rfl) (.inl ⟨rfl,ho⟩)
    · split at hc
      · rename_i ho; simp at hc; subst hc; exact heqv .map true false v ha rfl (fun e he => by cases he) (fun ts he => by cases he) (.inl rfl) (.inr ⟨rfl,ho⟩)
      · simp at hc
  · split at hc
    · rename_i ho; simp at hc; subst hc; exact heqv .func false false v ha rfl (fun e he => by cases he) (fun ts he => by cases he) (.inl rfl) (.inl ⟨rfl,ho⟩)
    · split at hc
      · rename_i ho; simp at hc; subst hc; exact heqv .func true false v ha rfl (fun e he => by cases he) (fun ts he => by cases he) (.inl rfl) (.inr ⟨rfl,ho⟩)
      · simp at hc
  · split at hc
    · rename_i ho; simp only [Option.some.injEq] at hc; subst hc; exact heqv (ifcRk P _) false _ v ha (ifcRk_d P _ _) (fun e he => by cases he) (ifcRk_ok P _) (.inr rfl) (.inl ⟨rfl,ho⟩)
    · split at hc
      · rename_i ho; simp only [Option.some.injEq] at hc; subst hc; exact heqv (ifcRk P _) true _ v ha (ifcRk_d P _ _) (fun e he => by cases he) (ifcRk_ok P _) (.inr rfl) (.inr ⟨rfl,ho⟩)
      · simp at hc
  · split at hc
    · simp at hc
    · rename_i hgt
      split at hc
      · rename_i ls hls
        split at hc
        · rename_i ho; simp at hc; subst hc; exact hagg ls false v ha rfl (by simpa using hgt) hls (.inl ⟨rfl,ho⟩)
        · split at hc
          · rename_i ho; simp at hc; subst hc; exact hagg ls true v ha rfl (by simpa using hgt) hls (.inr ⟨rfl,ho⟩)
          · simp at hc
      · simp at hc
  · split at hc
    · simp at hc
    · rename_i hgt
      split at hc
      · rename_i ls hls
        split at hc
        · rename_i ho; simp at hc; subst hc; exact hagg ls false v ha rfl (by simpa using hgt) hls (.inl ⟨rfl,ho⟩)
        · split at hc
          · rename_i ho; simp at hc; subst hc; exact hagg ls true v ha rfl (by simpa using hgt) hls (.inr ⟨rfl,ho⟩)
          · simp at hc
      · simp at hc
  · simp at hc

end
end
end Go.Proofs.YtkdpjaaohddppaaGreatDoor.Am
namespace Go.Proofs.YtkdpjaaohddppaaGreatDoor.Am
noncomputable section
open Go.RowKit (Below)

section
variable {P : Program} {G : Nat} {w0 : World} {φ : Phi} {T : TH} {w : World} {h : AHeap} {n : Nat} {σ : Fr} {ρ : Operand → Value}

theorem freeze_ne (w : World) (a : Addr) (m : Nat) {b : Nat} (h : b ≠ a.block) : (w.freeze a m).heap[b]? = w.heap[b]? := by
  unfold World.freeze
  split
  · rfl
  · simp only [Array.getElem?_modify]; rw [if_neg (by omega)]
theorem freeze_same {w : World} {a : Addr} {m : Nat} {c : Array Value} {e : TypeId} {fz : Nat × Nat} (h : w.heap[a.block]? = some (.cells c e fz)) : ∃ fz',(w.freeze a m).heap[a.block]? = some (.cells c e fz') := by
  unfold World.freeze
  split
  · exact ⟨fz,h⟩
  · simp only [Array.getElem?_modify,if_true,h,Option.map_some]
    exact ⟨_,rfl⟩
theorem freeze_size (w : World) (a : Addr) (m : Nat) : (w.freeze a m).heap.size = w.heap.size := by
  unfold World.freeze
  split <;> simp
theorem freeze_rest (w : World) (a : Addr) (m : Nat) : (w.freeze a m).os = w.os ∧ (w.freeze a m).tape = w.tape ∧ (w.freeze a m).output = w.output := by
  unfold World.freeze
  split <;> exact ⟨rfl,rfl,rfl⟩
theorem freeze_cell (w : World) (a p : Addr) (m : Nat) : (w.freeze a m).cell? p = w.cell? p := by
  by_cases h : p.block = a.block
  · simp only [World.cell?]
    rw [h]
    cases hx : w.heap[a.block]? with
    | none =>
      have : (w.freeze a m).heap[a.block]? = none := by
        unfold World.freeze
        split
        · exact hx
        · simp only [Array.getElem?_modify,if_true,hx,Option.map_none]
      rw [this]
    | some o =>
      cases o with
      | cells c e fz =>
        obtain ⟨fz',h'⟩ := freeze_same (m := m) hx
        rw [h']
      | _ =>
        have : (w.freeze a m).heap[a.block]? = w.heap[a.block]? := by
          unfold World.freeze
          split
          · rfl
          · simp only [Array.getElem?_modify,if_true,hx,Option.map_some]
        rw [this,hx]
  · simp only [World.cell?,freeze_ne w a m h]

theorem Sat.freeze (hs : Sat G w0 φ T w) {i g : Nat} {l : Loc} (hl : φ i g = some l) (ho : l.own = true) (hcl : ∃ c fz,w.heap[l.block]? = some (.cells c l.ty fz) ∧ c.size = l.size) {own : Option Nat} {cs : List Value} {min : Nat} (hT : T i = some (.cells own cs min)) (o m : Nat) :
    Sat G w0 φ (T.put i (.cells none cs min)) (w.freeze ⟨l.block,o,none⟩ m) := by
  obtain ⟨hB,hoff, -⟩ := hs.new i g l hl ho
  obtain ⟨c,fz,hrow,hsize⟩ := hcl
  obtain ⟨r1,r2,r3⟩ := freeze_rest w ⟨l.block,o,none⟩ m
  refine ⟨hs.below.trans ⟨r1,r2,r3,by rw [freeze_size]; exact Nat.le_refl _,fun k hk => freeze_ne _ _ _ (by simp only; omega)⟩,hs.glob,hs.old, ?_,hs.apart,hs.uni,hs.fits, ?_⟩
  · intro j k p hp hpo
    obtain ⟨h1,h2,h3⟩ := hs.new j k p hp hpo
    by_cases hb : p.block = l.block
    · rcases h3 with ⟨c',fz',h3,h4⟩ | ⟨_,q,h3,hno⟩
      · obtain ⟨fz2,h5⟩ := freeze_same (a := ⟨p.block,o,none⟩) (m := m) h3
        exact ⟨h1,h2, .inl ⟨c',fz2,by rw [← hb]; exact h5,h4⟩⟩
      · rw [hb,hrow] at h3; cases h3; cases hno
    · exact ⟨h1,h2,by rw [freeze_ne _ _ _ hb]; exact h3⟩
  · intro j b hb
    by_cases hj : i = j
    · subst hj
      rw [TH.put_same] at hb
      obtain rfl := Option.some.inj hb
      obtain ⟨h1,h2,h3,h4⟩ := hs.blk i _ hT
      refine ⟨h1,h2,h3,fun k p hp hk => ?_⟩
      obtain ⟨h5,_,h6⟩ := h4 k p hp hk
      refine ⟨h5,(fun t ht => by cases ht),fun q v hq hv => ?_⟩
      obtain ⟨u,hu,hr⟩ := h6 q v hq hv
      exact ⟨u,by rw [freeze_cell]; exact hu,hr⟩
    · rw [TH.put_ne _ _ hj] at hb
      refine (hs.blk j b hb).congr (.refl _) (fun _ _ x => x) (fun k p hp => freeze_ne _ _ _ fun hbb => hj ?_)
      exact hs.apart i g l j k p hl hp ho hbb.symm

theorem variables_run {u : TypeId} {b o m : Nat} {c : Array Value} {fz : Nat × Nat} {s : Nat} (hsz : sz P u = some s) (hs0 : 0 < s) (hd : 0 < P.depth) (hrow : w.heap[b]? = some (.cells c u fz)) (hmod : o % s = 0) (hfit : o / s + m ≤ c.size / s) :
    (variablesAt ⟨b,o,none⟩ u m).run P w = .ok true w := by
  have hc : P.cellsOf u = s := by simp only [sz] at hsz; simp only [Program.cellsOf,hsz,Option.getD_some]
  have hshape : w.shape? b = some (u,c.size) := by simp only [World.shape?,hrow]
  obtain ⟨d,hd'⟩ : ∃ d,P.depth = d + 1 := ⟨P.depth - 1,by omega⟩
  have hlies : liesAt P P.depth u (c.size / P.cellsOf u) o u m = true := by
    rw [hd']
    unfold liesAt
    rw [hd']
    have : rowAt P (fun x => sameLayout P (d + 1) x u) (d + 1) u (c.size / P.cellsOf u) o m = true := by
      unfold rowAt
      simp only [hc]
      rw [if_neg (by omega)]
      have hsl : sameLayout P (d + 1) u u = true := by unfold sameLayout; simp
      simp only [hmod,hsl,beq_self_eq_true,Bool.and_true,decide_eq_true hfit,Bool.true_or]
    rw [this]; rfl
  simp only [variablesAt,Sem.run_bind,run_program,Result.andThen_ok,run_shape,hshape,Sem.run_pure,hlies]

theorem run_loadBytes (b : Nat) : ∀ (us : List Value) (o : Nat) (acc : ByteArray) (l : List UInt8),bytesOf? us = some l → (∀ k u,us[k]? = some u → w.cell? ⟨b,o + k,none⟩ = some u) →
    (loadBytes ⟨b,o,none⟩ acc us.length).run P w = .ok ⟨acc.data ++ l.toArray⟩ w
  | [],o,acc,l,hb,h => by simp [bytesOf?] at hb; subst hb; simp [loadBytes]
  | u :: us,o,acc,l,hb,h => by
    obtain ⟨n,l',rfl,hl',rfl⟩ := bytesOf?_cons hb
    have h0 := h 0 (.int .u8 n) (by simp)
    simp only [Nat.add_zero] at h0
    have ih := run_loadBytes b us (o + 1) (acc.push (UInt8.ofNat n.toNat)) l' hl' (fun k u hu => by
      have := h (k + 1) u (by simpa using hu)
      rw [show o + 1 + k = o + (k + 1) from by omega]; exact this)
    simp only [List.length_cons,loadBytes,Sem.run_bind,run_load,h0,Result.andThen_ok,add_eq]
    rw [show n.toNat.toUInt8 = UInt8.ofNat n.toNat from rfl,ih]
    simp [ByteArray.push]

theorem bytesOf?_scalar {vs : List Value} {l : List UInt8} (h : bytesOf? vs = some l) : vs.all scalar = true := by
  induction vs generalizing l with
  | nil => rfl
  | cons v vs ih =>
    obtain ⟨n,l',rfl,hl',rfl⟩ := bytesOf?_cons h
    simp only [List.all_cons,scalar,Bool.true_and]
    exact ih hl'

theorem cXs_one {xs : List Operand} {x : X} (h : cXs xs = some [x]) : ∃ a,xs = [a] ∧ cX a = some x := by
  cases xs with
  | nil => simp [cXs] at h
  | cons a xs =>
    simp only [cXs] at h
    split at h
    · rename_i p q hp hq
      simp at h
      obtain ⟨rfl,rfl⟩ := h
      cases xs with
      | nil => exact ⟨a,rfl,hp⟩
      | cons b xs => simp only [cXs] at hq; split at hq <;> simp at hq
    · simp at h
theorem cXs_two {xs : List Operand} {x y : X} (h : cXs xs = some [x,y]) : ∃ a b,xs = [a,b] ∧ cX a = some x ∧ cX b = some y := by
  cases xs with
  | nil => simp [cXs] at h
  | cons a xs =>
    simp only [cXs] at h
    split at h
    · rename_i p q hp hq
      simp at h
      obtain ⟨rfl,rfl⟩ := h
      obtain ⟨b,rfl,hb⟩ := cXs_one hq
      exact ⟨a,b,rfl,hp,hb⟩
    · simp at h

theorem sliceData_def (ts : Array TypeId) (ty : TypeId) (a : Addr) (len c : Nat) (hc : c ≠ 0) : Builtin.unsafeSliceData_ ts ty #[.slice (some a) len c] = pure (.pointer (some a)) := by
  have : Builtin.unsafeSliceData_ ts ty #[.slice (some a) len c] = (do
    if c ≠ 0 then pure (.pointer (some a))
    else if (← viewAt a.block).isSome then pure (.pointer (some a))
    else pure (.pointer (some ⟨← newObj (.view a (← elemOf ty)),0,none⟩))) := rfl
  rw [this,if_pos hc]
theorem unsafeStr_nil (ts : Array TypeId) (ty pt : TypeId) (h : ts[0]? = some pt) (k : IntKind) : (Builtin.unsafeString_ ts ty #[.pointer none, .int k 0]).run P w = .ok (.string .empty) w := by
  have : Builtin.unsafeString_ ts ty #[.pointer none, .int k 0] = (do
    let n ← asInt (.int k 0)
    let some _ := ts[0]? | stuck "unsafe.String: no argument types"
    if n < 0 then runtimePanic (.error "unsafe.String: len out of range")
    if n > IntKind.i64.max then unsupported (.unsafePointer "String: a length above the largest int")
    if n = 0 then pure (.string .empty)
    else runtimePanic (.error "unsafe.String: ptr is nil and len is not zero")) := rfl
  rw [this, h]
  have hmax : IntKind.i64.max = 9223372036854775807 := rfl
  simp [asInt, asIntOf, hmax]
theorem unsafeStr_some (ts : Array TypeId) (ty pt : TypeId) (h : ts[0]? = some pt) (a : Addr) (k : IntKind) (m : Int) (h0 : 0 < m) (hm : m ≤ 9223372036854775807) :
    (Builtin.unsafeString_ ts ty #[.pointer (some a), .int k m]).run P w = (do
    if ← variablesAt a (← elemOf pt) m.toNat then do
      let s ← loadBytes a .empty m.toNat
      freeze a m.toNat
      pure (Value.string s)
    else unsupported (.unsafePointer "String: not so many bytes at ptr") : Sem Value).run P w := by
  have : Builtin.unsafeString_ ts ty #[.pointer (some a), .int k m] = (do
    let n ← asInt (.int k m)
    let some pt := ts[0]? | stuck "unsafe.String: no argument types"
    if n < 0 then runtimePanic (.error "unsafe.String: len out of range")
    if n > IntKind.i64.max then unsupported (.unsafePointer "String: a length above the largest int")
    if n = 0 then pure (.string .empty)
    else if ← variablesAt a (← elemOf pt) n.toNat then do
      let s ← loadBytes a .empty n.toNat
      freeze a n.toNat
      pure (.string s)
    else unsupported (.unsafePointer "String: not so many bytes at ptr")) := rfl
  rw [this, h]
  have hmax : IntKind.i64.max = 9223372036854775807 := rfl
  have h1 : ¬ m < 0 := by omega
  have h2 : ¬ (9223372036854775807 : Int) < m := by omega
  have h3 : m ≠ 0 := by omega
  simp [asInt, asIntOf, hmax, h1, h2, h3]

theorem cBuiltin_sound (hs : Sat G w0 φ T w) (hh : Sub h T) (hG : G ≤ n) (hρ : RhoRel φ σ h ρ) {b : Builtin} {ts : Array TypeId} {args : Array Operand} {xs : List X} {t : TypeId} {consts : Array Bool} (hx : cXs args.toList = some xs)
    {a : AOp} (hc : cBuiltin P b ts xs = some a) {v : Value} {h' : AHeap} {n' : Nat} (ha : aev (X.ev σ h) h n a = some (v,h',n')) (hf : Fresh φ T n n') :
    OpDoes P G w0 φ T w h n (builtin b ts t consts (args.map ρ)) v h' n' := by
  unfold cBuiltin at hc
  split at hc
  · -- len
    rename_i x
    obtain ⟨o,ho,hox⟩ := cXs_one hx
    have hargs : args.map ρ = #[ρ o] := by apply Array.toList_inj.1; simp [ho]
    rw [hargs]
    have g0 : ∀ s : Nat,ts.size = s → 0 < s → ts[0]? = some (ts.getD 0 0) := fun s h1 h2 => by simp [h1,h2]
    split at hc
    · rename_i hu hsz
      simp at hc; subst hc
      simp only [aev] at ha
      split at ha
      · rename_i s hv
        simp at ha
        obtain ⟨rfl,rfl,rfl⟩ := ha
        have hr := hρ _ _ _ hox hv
        rw [hr.eq_of_scalar rfl]
        exact .of_value hs hh (by unfold Builtin.len_; simp only [g0 1 hsz (by omega),List.getElem?_toArray,List.getElem?_cons_zero,Sem.run_bind,run_underlying' hu,Result.andThen_ok,Sem.run_pure]; rfl) (.int _ _)
      · simp at ha
    · rename_i e hu hsz
      simp at hc; subst hc
      simp only [aev] at ha
      split at ha
      · rename_i ad len k hv
        simp at ha
        obtain ⟨rfl,rfl,rfl⟩ := ha
        have hr := hρ _ _ _ hox hv
        refine .of_value hs hh ?_ (.int _ _)
        generalize ρ o = u at hr
        cases hr <;> (unfold Builtin.len_; simp only [g0 1 hsz (by omega),List.getElem?_toArray,List.getElem?_cons_zero,Sem.run_bind,run_underlying' hu,Result.andThen_ok,Sem.run_pure]; rfl)
      · simp at ha
    · rename_i m e hu hsz
      simp at hc; subst hc
      simp only [aev] at ha
      simp at ha
      obtain ⟨rfl,rfl,rfl⟩ := ha
      exact .of_value hs hh (by unfold Builtin.len_; simp only [g0 1 hsz (by omega),List.getElem?_toArray,List.getElem?_cons_zero,Sem.run_bind,run_underlying' hu,Result.andThen_ok,Sem.run_pure]; rfl) (.int _ _)
    · rename_i pe hu hsz
      split at hc
      · rename_i m e hu2
        simp at hc; subst hc
        simp only [aev] at ha
        simp at ha
        obtain ⟨rfl,rfl,rfl⟩ := ha
        exact .of_value hs hh (by unfold Builtin.len_; simp only [g0 1 hsz (by omega),List.getElem?_toArray,List.getElem?_cons_zero,Sem.run_bind,run_underlying' hu,run_underlying' hu2,Result.andThen_ok,Sem.run_pure]; rfl) (.int _ _)
      · simp at hc
    · simp at hc
  · -- append
    rename_i x y
    obtain ⟨o1,o2,ho,hox,hoy⟩ := cXs_two hx
    have hargs : args.map ρ = #[ρ o1, ρ o2] := by apply Array.toList_inj.1; simp [ho]
    rw [hargs]
    split at hc
    · rename_i e d hu hu2 hsz
      split at hc
      · simp at hc
      · rename_i hd
        split at hc
        · rename_i i z hi hz
          split at hc
          · rename_i hpos
            simp at hc; subst hc
            simp only [aev] at ha
            split at ha
            · rename_i s x' hsv hxv
              obtain ⟨i',v0,hi',hv0,_,_,hsize⟩ := zeroCells?_spec hz
              rw [hi] at hi'
              obtain rfl := Option.some.inj hi'
              obtain ⟨u, φ',T',w',h1,h2,h3⟩ := append_sound (t := t) hs hh hG hu hu2 hsz (fun k hk => hd k hk) hi hv0 hsize hpos.1 hpos.2 ha hf (hρ _ _ _ hox hsv) (hρ _ _ _ hoy hxv)
              exact .of_new h1 h2 h3
            · simp at ha
          · simp at hc
        · simp at hc
    · simp at hc
  · -- copy
    rename_i x y
    obtain ⟨o1,o2,ho,hox,hoy⟩ := cXs_two hx
    have hargs : args.map ρ = #[ρ o1, ρ o2] := by apply Array.toList_inj.1; simp [ho]
    rw [hargs]
    split at hc
    · rename_i e hu hsz
      split at hc
      · rename_i s hss
        split at hc
        · simp at hc; subst hc
          simp only [aev] at ha
          split at ha
          · rename_i d x' hdv hxv
            obtain ⟨φ',T',w',h1,h2,h3⟩ := copy_sound (t := t) hs hh hu hsz hss ha (hρ _ _ _ hox hdv) (hρ _ _ _ hoy hxv)
            exact .of_new h1 (.of_scalar h3) h2
          · simp at ha
        · simp at hc
      · simp at hc
    · simp at hc
  · simp at hc; subst hc
    simp only [aev] at ha
    split at ha
    · rename_i vs hvs
      obtain ⟨v',hv',he⟩ := optmap ha
      simp only [Prod.mk.injEq] at he
      obtain ⟨rfl,rfl,rfl⟩ := he
      have hr := cXs_rel hρ hx hvs
      obtain ⟨h1,h2⟩ := min_sound (P := P) (w := w) (ts := ts) (t := t) hv' hr
      have hargs : args.map ρ = (args.toList.map ρ).toArray := by apply Array.toList_inj.1; simp
      rw [hargs]
      exact .of_value hs hh h1 (.of_scalar h2)
    · simp at ha
  · simp at hc; subst hc
    simp only [aev] at ha
    split at ha
    · rename_i vs hvs
      obtain ⟨v',hv',he⟩ := optmap ha
      simp only [Prod.mk.injEq] at he
      obtain ⟨rfl,rfl,rfl⟩ := he
      have hr := cXs_rel hρ hx hvs
      obtain ⟨h1,h2⟩ := max_sound (P := P) (w := w) (ts := ts) (t := t) hv' hr
      have hargs : args.map ρ = (args.toList.map ρ).toArray := by apply Array.toList_inj.1; simp
      rw [hargs]
      exact .of_value hs hh h1 (.of_scalar h2)
    · simp at ha
  · -- cap
    rename_i x
    obtain ⟨o,ho,hox⟩ := cXs_one hx
    have hargs : args.map ρ = #[ρ o] := by apply Array.toList_inj.1; simp [ho]
    rw [hargs]
    split at hc
    · rename_i e hu hsz
      have g0 : ts[0]? = some (ts.getD 0 0) := by simp [hsz]
      simp at hc; subst hc
      simp only [aev] at ha
      split at ha
      · rename_i hv
        simp at ha
        obtain ⟨rfl,rfl,rfl⟩ := ha
        have hr := hρ _ _ _ hox hv
        rw [hr.eq_of_scalar rfl]
        exact .of_value hs hh (by unfold Builtin.cap_; simp only [g0,List.getElem?_toArray,List.getElem?_cons_zero,Sem.run_bind,run_underlying' hu,Result.andThen_ok,Sem.run_pure]; rfl) (.int _ _)
      · rename_i ad len k hv
        split at ha
        · rename_i hodd
          simp at ha
          obtain ⟨rfl,rfl,rfl⟩ := ha
          have hr := hρ _ _ _ hox hv
          generalize ρ o = u at hr
          cases hr with
          | slice i o g n k l a c hl hn ha hk =>
            have hkc : k / 2 = c := by
              rcases hk with h | h | ⟨_,h,_⟩ <;> omega
            refine .of_value hs hh (u := .int .i64 (c : Int)) ?_ (by rw [← hkc]; exact .int _ _)
            unfold Builtin.cap_; simp only [g0,List.getElem?_toArray,List.getElem?_cons_zero,Sem.run_bind,run_underlying' hu,Result.andThen_ok,Sem.run_pure]; rfl
        · simp at ha
      · simp at ha
    · simp at hc
  · -- unsafe.SliceData
    rename_i x
    obtain ⟨o,ho,hox⟩ := cXs_one hx
    have hargs : args.map ρ = #[ρ o] := by apply Array.toList_inj.1; simp [ho]
    rw [hargs]
    simp at hc; subst hc
    simp only [aev] at ha
    split at ha
    · rename_i hv
      simp at ha
      obtain ⟨rfl,rfl,rfl⟩ := ha
      have hr := hρ _ _ _ hox hv
      rw [hr.eq_of_scalar rfl]
      exact .of_value hs hh rfl .ptrNil
    · rename_i ad len k hv
      split at ha
      · rename_i hpos
        simp at ha
        obtain ⟨rfl,rfl,rfl⟩ := ha
        have hr := hρ _ _ _ hox hv
        generalize ρ o = u at hr
        cases hr with
        | slice i o g n k l a c hl hn ha hk =>
          rcases ha with h | rfl
          · omega
          · refine .of_value hs hh (u := .pointer (some ⟨l.block,l.off + o,none⟩)) ?_ (.ptr _ _ _ _ hl)
            rw [sliceData_def _ _ _ _ _ (by omega)]; rfl
      · simp at ha
    · simp at ha
  · -- unsafe.String
    rename_i x y
    obtain ⟨o1,o2,ho,hox,hoy⟩ := cXs_two hx
    have hargs : args.map ρ = #[ρ o1, ρ o2] := by apply Array.toList_inj.1; simp [ho]
    rw [hargs]
    split at hc
    · rename_i e hu
      split at hc
      · rename_i hcond
        obtain ⟨hsz,hts,hdep⟩ := hcond
        have g0 : ts[0]? = some (ts.getD 0 0) := by simp [hts]
        simp at hc; subst hc
        simp only [aev] at ha
        split at ha
        · rename_i k hv hl
          simp at ha
          obtain ⟨rfl,rfl,rfl⟩ := ha
          refine .of_value (s := Builtin.unsafeString_ ts t #[ρ o1, ρ o2]) hs hh ?_ (.string _)
          rw [(hρ _ _ _ hox hv).eq_of_scalar rfl,(hρ _ _ _ hoy hl).eq_of_scalar rfl]
          exact unsafeStr_nil _ _ _ g0 _
        · rename_i i off g k m hv hl
          split at ha
          · rename_i ty cs min hget
            split at ha
            · rename_i hm
              obtain ⟨rfl,hm0,hmax⟩ := hm
              split at ha
              · rename_i vs hread
                split at ha
                · rename_i bl hbl
                  simp at ha
                  obtain ⟨rfl,rfl,rfl⟩ := ha
                  have hr := hρ _ _ _ hox hv
                  have hr2 := hρ _ _ _ hoy hl
                  rw [hr2.eq_of_scalar rfl]
                  generalize ρ o1 = u at hr
                  cases hr with
                  | ptr i off g lc hlc =>
                    obtain ⟨us,h1,h2,h3,_,h4⟩ := read_sound hs hh hread hlc
                    have hus : us = vs := h1.eq_of_scalars (bytesOf?_scalar hbl)
                    subst hus
                    have hb := hs.blk i _ (hh i _ hget)
                    obtain ⟨_,hmin,hall,hb⟩ := hb
                    have hgm : min ≤ g ∧ off + m.toNat ≤ g := by
                      unfold AHeap.read at hread
                      rw [hget] at hread
                      simp only at hread
                      split at hread
                      · rename_i hc; exact ⟨hc.1,hc.2.2⟩
                      · cases hread
                    obtain ⟨hg1,hown,_⟩ := hb g lc hlc hgm.1
                    obtain ⟨ho,hty,hunf⟩ := hown _ rfl
                    obtain ⟨hB,hoff, -⟩ := hs.new i g lc hlc ho
                    obtain ⟨c,fz,hrow,hsize⟩ := hunf.1
                    rw [hty] at hrow
                    have hfit := hs.fits i g lc hlc ho
                    have hvar := variables_run (P := P) (o := lc.off + off) (m := m.toNat) hsz (by omega) hdep hrow (by omega) (by simp only [Nat.div_one]; omega)
                    have hload := run_loadBytes (P := P) (w := w) lc.block us (lc.off + off) ByteArray.empty bl hbl h4
                    rw [h2] at hload
                    have hsat := hs.freeze hlc ho hunf.1 (hh i _ hget) (lc.off + off) m.toNat
                    refine ⟨.value (.string ⟨bl.toArray⟩), .string ⟨bl.toArray⟩, φ,_,_, ?_,rfl, .string _,hsat, .refl _,fun j b hjb => ?_,fun j hj _ => ?_,fun _ _ hf => hf,Nat.le_refl _,dom_put hget⟩
                    · unfold builtin
                      simp only [Sem.run_bind]
                      rw [unsafeStr_some (P := P) ts t _ g0 ⟨lc.block,lc.off + off,none⟩ k m (by omega) (by omega)]
                      simp only [Sem.run_bind,elemOf,run_underlying' hu,Result.andThen_ok,Sem.run_pure,hvar,if_true,hload,run_freeze]
                      rw [show ByteArray.empty.data = #[] from rfl]
                      simp
                    · rw [AHeap.get_put] at hjb
                      split at hjb
                      · rename_i e; subst e; rw [TH.put_same]; exact hjb
                      · rename_i e; rw [TH.put_ne _ _ e]; exact hh _ _ hjb
                    · by_cases e : i = j
                      · subst e; rw [hget] at hj; cases hj
                      · exact TH.put_ne _ _ e
                · simp at ha
              · simp at ha
            · simp at ha
          · simp at ha
        · simp at ha
      · simp at hc
    · simp at hc
  · simp at hc

theorem cConv_sound (hs : Sat G w0 φ T w) (hh : Sub h T) (hG : G ≤ n) (hρ : RhoRel φ σ h ρ) {src dst : TypeId} {o : Operand} {x : X} (hx : cX o = some x) {a : AOp} (hc : cConv P src dst x = some a) {v : Value} {h' : AHeap} {n' : Nat}
    (ha : aev (X.ev σ h) h n a = some (v,h',n')) (hf : Fresh φ T n n') : OpDoes P G w0 φ T w h n (do Pure.pure (.value (← convert src dst (ρ o)))) v h' n' := by
  unfold cConv at hc
  split at hc
  · rename_i k0 k hu hu2
    simp at hc; subst hc
    simp only [aev] at ha
    split at ha
    · rename_i k1 m hv
      simp at ha
      obtain ⟨rfl,rfl,rfl⟩ := ha
      have hr := hρ _ _ _ hx hv
      rw [hr.eq_of_scalar rfl]
      exact .of_value hs hh (by simp [convert,run_underlying' hu,run_underlying' hu2,Conv.intToInt]) (.int _ _)
    · simp at ha
  · rename_i k0 k hu hu2
    simp at hc; subst hc
    simp only [aev] at ha
    split at ha
    · rename_i k1 m hv
      simp at ha
      obtain ⟨rfl,rfl,rfl⟩ := ha
      have hr := hρ _ _ _ hx hv
      rw [hr.eq_of_scalar rfl]
      exact .of_value hs hh (by simp [convert,run_underlying' hu,run_underlying' hu2,Conv.intToFloat]) (.float _ _)
    · simp at ha
  · rename_i k0 k hu hu2
    simp at hc; subst hc
    simp only [aev] at ha
    split at ha
    · rename_i k1 m hv
      split at ha
      · rename_i hk
        subst hk
        simp at ha
        obtain ⟨rfl,rfl,rfl⟩ := ha
        have hr := hρ _ _ _ hx hv
        rw [hr.eq_of_scalar rfl]
        exact .of_value hs hh (by simp [convert,run_underlying' hu,run_underlying' hu2,Conv.floatToFloat]) (.float _ _)
      · simp at ha
    · simp at ha
  · rename_i hu hu2
    simp at hc; subst hc
    simp only [aev] at ha
    split at ha
    · rename_i s hv
      simp at ha
      obtain ⟨rfl,rfl,rfl⟩ := ha
      have hr := hρ _ _ _ hx hv
      rw [hr.eq_of_scalar rfl]
      exact .of_value hs hh (by simp [convert,run_underlying' hu,run_underlying' hu2]) (.string _)
    · simp at ha
  · rename_i e hu hu2
    split at hc
    · rename_i z hu3 hz
      simp at hc; subst hc
      simp only [aev] at ha
      split at ha
      · rename_i s hv
        simp at ha
        obtain ⟨rfl,rfl,rfl⟩ := ha
        have hr := hρ _ _ _ hx hv
        rw [hr.eq_of_scalar rfl]
        obtain ⟨u, φ',T',w',h1,h2,h3⟩ := bytesOf_sound (P := P) (e := e) hs hh hG hf s
        exact .of_new (by simp [convert,run_underlying' hu,run_underlying' hu2,run_underlying' hu3,h1]) h2 h3
      · simp at ha
    · simp at hc
  · rename_i e hu hu2
    split at hc
    · rename_i hu3
      simp at hc; subst hc
      simp only [aev] at ha
      split at ha
      · rename_i hv
        simp at ha
        obtain ⟨rfl,rfl,rfl⟩ := ha
        have hr := hρ _ _ _ hx hv
        rw [hr.eq_of_scalar rfl]
        exact .of_value hs hh (by simp [convert,run_underlying' hu,run_underlying' hu2,run_underlying' hu3,Conv.bytesToString]) (.string _)
      · rename_i i o' g len k hv
        split at ha
        · rename_i vs hread
          split at ha
          · rename_i l hl
            simp at ha
            obtain ⟨rfl,rfl,rfl⟩ := ha
            have hr := hρ _ _ _ hx hv
            have := strOf_sound (P := P) hs hh hr hread hl
            refine .of_value hs hh (u := .string ⟨l.toArray⟩) ?_ (.string _)
            generalize ρ o = u at hr this
            cases hr with
            | slice => simp [convert,run_underlying' hu,run_underlying' hu2,run_underlying' hu3,this]
          · simp at ha
        · simp at ha
      · simp at ha
    · simp at hc
  · rename_i pt hu hu2
    split at hc
    · rename_i k hk
      by_cases hk0 : 0 < k
      case neg => rw [if_neg hk0] at hc; cases hc
      rw [if_pos hk0] at hc
      simp at hc; subst hc
      simp only [aev] at ha
      split at ha
      · rename_i hv
        simp at ha
        obtain ⟨rfl,rfl,rfl⟩ := ha
        have hr := hρ _ _ _ hx hv
        rw [hr.eq_of_scalar rfl]
        exact .of_value hs hh (by simp [convert,run_underlying' hu,run_underlying' hu2,Conv.unsafePointer]) .ptrNil
      · rename_i i o' g hv
        split at ha
        · rename_i vs hread
          simp at ha
          obtain ⟨rfl,rfl,rfl⟩ := ha
          have hr := hρ _ _ _ hx hv
          generalize ρ o = u at hr
          cases hr with
          | ptr i o' g lc hlc =>
            obtain ⟨us,h1,h2,h3,_,h4⟩ := read_sound hs hh hread hlc
            have hcell : ∃ u,w.cell? ⟨lc.block,lc.off + o',none⟩ = some u := by
              cases us with
              | nil => simp at h2
              | cons u us => exact ⟨u,by simpa using h4 0 u (by simp)⟩
            obtain ⟨u,hu'⟩ := hcell
            obtain ⟨c,e,fz,hrow,hlt⟩ : ∃ c e fz,w.heap[lc.block]? = some (.cells c e fz) ∧ lc.off + o' < c.size := by
              unfold World.cell? at hu'
              split at hu'
              · rename_i c e fz hrow
                simp only [Option.isSome_none,Bool.false_eq_true,if_false] at hu'
                exact ⟨c,e,fz,hrow,(Array.getElem?_eq_some_iff.1 hu').1⟩
              · cases hu'
            have hshape : w.shape? lc.block = some (e,c.size) := by simp only [World.shape?,hrow]
            refine .of_value hs hh (u := .pointer (some ⟨lc.block,lc.off + o',none⟩)) ?_ (.ptr _ _ _ _ hlc)
            simp only [convert,Sem.run_bind,run_underlying' hu,run_underlying' hu2,Result.andThen_ok,Conv.unsafePointer,Conv.seenAt,viewAt,run_shape,hshape,Option.isSome_some,if_true,Sem.run_pure,cellsIn,run_sizeOf' hk]
            rw [if_neg (by simp; omega)]
            rfl
        · simp at ha
      · simp at ha
    · simp at hc
  · rename_i pu hu hu2
    split at hc
    · rename_i s hk
      split at hc
      · rename_i hdep
        simp at hc; subst hc
        simp only [aev] at ha
        split at ha
        · rename_i hv
          simp at ha
          obtain ⟨rfl,rfl,rfl⟩ := ha
          have hr := hρ _ _ _ hx hv
          rw [hr.eq_of_scalar rfl]
          exact .of_value hs hh (by simp [convert,run_underlying' hu,run_underlying' hu2,Conv.unsafePointer]) .ptrNil
        · rename_i i o' g hv
          split at ha
          · rename_i t cs min hget
            split at ha
            · rename_i hcond
              obtain ⟨rfl,hmg,hmod,hs0,hfit⟩ := hcond
              simp at ha
              obtain ⟨rfl,rfl,rfl⟩ := ha
              have hr := hρ _ _ _ hx hv
              generalize ρ o = u at hr
              cases hr with
              | ptr i o' g lc hlc =>
                obtain ⟨_,hmin,hall,hb⟩ := hs.blk i _ (hh i _ hget)
                obtain ⟨hg1,hown,_⟩ := hb g lc hlc hmg
                obtain ⟨ho,hty,hunf⟩ := hown _ rfl
                obtain ⟨hB,hoff, -⟩ := hs.new i g lc hlc ho
                obtain ⟨c,fz,hrow,hsize⟩ := hunf.1
                rw [hty] at hrow
                have hfitg := hs.fits i g lc hlc ho
                have hshape : w.shape? lc.block = some (t,c.size) := by simp only [World.shape?,hrow]
                have hdiv : o' / s + 1 ≤ c.size / s := by
                  rw [← Nat.add_div_right _ hs0]; exact Nat.div_le_div_right (by omega)
                have hvar := variables_run (P := P) (o := lc.off + o') (m := 1) hk hs0 hdep hrow (by rw [hoff,Nat.zero_add]; exact hmod) (by rw [hoff,Nat.zero_add]; exact hdiv)
                refine .of_value hs hh (u := .pointer (some ⟨lc.block,lc.off + o',none⟩)) ?_ (.ptr _ _ _ _ hlc)
                simp only [convert,Sem.run_bind,run_underlying' hu,run_underlying' hu2,Result.andThen_ok,Conv.unsafePointer,Conv.seenAt,viewAt,run_shape,hshape,Option.isSome_some,if_true,Sem.run_pure,run_sizeOf' hk,hvar]
                rw [if_pos (by simp)]
                rfl
            · simp at ha
          · simp at ha
        · simp at ha
      · simp at hc
    · simp at hc
  · simp at hc

end
end
end Go.Proofs.YtkdpjaaohddppaaGreatDoor.Am
namespace Go.Proofs.YtkdpjaaohddppaaGreatDoor.Am
noncomputable section
open Go.RowKit (Below)

section
variable {P : Program} {G : Nat} {w0 : World} {φ : Phi} {T : TH} {w : World} {h : AHeap} {n : Nat} {σ : Fr} {ρ : Operand → Value}

theorem OpDoes.of_unit {s : Sem Unit} {φ' : Phi} {T' : TH} {w' : World} {h' : AHeap} {n' : Nat} (hr : s.run P w = .ok () w') (hp : Post G w0 φ T h n φ' T' w' h' n') :
    OpDoes P G w0 φ T w h n (do s; Pure.pure .skip) undef h' n' := ⟨.skip,undef, φ',T',w',by simp [hr],rfl,VRels.tuple .nil,hp⟩

theorem cOp_sound (hs : Sat G w0 φ T w) (hh : Sub h T) (hG : G ≤ n) (hρ : RhoRel φ σ h ρ) {o : Oper} {a : AOp} (hc : cOp P o.op = some a) {v : Value} {h' : AHeap} {n' : Nat}
    (ha : aev (X.ev σ h) h n a = some (v,h',n')) (hf : Fresh φ T n n') : OpDoes P G w0 φ T w h n (execOp ρ o) v h' n' := by
  obtain ⟨dst,op,ty,pos,after,guard⟩ := o
  simp only at hc
  cases op <;> simp only [cOp] at hc <;> (try (simp at hc; done))
  case move x =>
    obtain ⟨y,hy,rfl⟩ := cX_map hc
    simp only [aev] at ha
    obtain ⟨v',hv,he⟩ := optmap ha
    simp only [Prod.mk.injEq] at he
    obtain ⟨rfl,rfl,rfl⟩ := he
    exact .pure hs hh rfl (hρ _ _ _ hy hv)
  case assign x =>
    obtain ⟨y,hy,rfl⟩ := cX_map hc
    simp only [aev] at ha
    obtain ⟨v',hv,he⟩ := optmap ha
    simp only [Prod.mk.injEq] at he
    obtain ⟨rfl,rfl,rfl⟩ := he
    exact .pure hs hh rfl (hρ _ _ _ hy hv)
  case panic x =>
    simp at hc; subst hc
    simp only [aev] at ha
    cases ha
  case pick c x y =>
    split at hc
    · rename_i c' x' y' hc' hx hy
      simp at hc; subst hc
      simp only [aev] at ha
      split at ha
      · rename_i hcv
        obtain ⟨v',hv,he⟩ := optmap ha
        simp only [Prod.mk.injEq] at he
        obtain ⟨rfl,rfl,rfl⟩ := he
        refine .pure hs hh (u := ρ x) ?_ (hρ _ _ _ hx hv)
        simp [execOp,(hρ _ _ _ hc' hcv).eq_of_scalar rfl,asBool]
      · rename_i hcv
        obtain ⟨v',hv,he⟩ := optmap ha
        simp only [Prod.mk.injEq] at he
        obtain ⟨rfl,rfl,rfl⟩ := he
        refine .pure hs hh (u := ρ y) ?_ (hρ _ _ _ hy hv)
        simp [execOp,(hρ _ _ _ hc' hcv).eq_of_scalar rfl,asBool]
      · simp at ha
    · simp at hc
  case alloc e =>
    obtain ⟨z,hz,rfl⟩ := optmap hc
    obtain ⟨i,v0,hi,hv0,rfl,hsc,hsize⟩ := zeroCells?_spec hz
    simp only [aev,Option.some.injEq,Prod.mk.injEq] at ha
    obtain ⟨rfl,rfl,rfl⟩ := ha
    have hr : VRels φ v0.cells.toList v0.cells.toList := .of_scalars hsc
    have hp := alloc_sound (w := w) (e := e) (fz := (0,0)) hs hh hG hf hr (c := v0.cells) (List.take_of_length_le (by simp)) (oneCells_of_scalars hsc) (fun o _ => by omega)
    refine .of_new (u := .pointer (some ⟨w.heap.size,0,none⟩)) ?_ (VRel.ptr n 0 _ _ (Phi.ins_same _ _ _ _)) hp
    simp only [Instr.alloc,Sem.run_bind,run_zeroValue' hi hv0,Result.andThen_ok,newVar,newRow_run,Sem.run_pure]
  case box e x =>
    obtain ⟨y,hy,rfl⟩ := cX_map hc
    simp only [aev] at ha
    split at ha
    · rename_i v' hv
      split at ha
      · simp at ha
      · rename_i htup
        simp only [Option.some.injEq,Prod.mk.injEq] at ha
        obtain ⟨rfl,rfl,rfl⟩ := ha
        obtain ⟨φ',T',w',h1,h2,h3⟩ := alloc_does (P := P) (e := e) hs hh hG hf (hρ _ _ _ hy hv) (by simpa using htup)
        refine .of_new (u := .pointer (some ⟨w.heap.size,0,none⟩)) ?_ h2 h3
        simp only [Instr.box,Sem.run_bind,h1,Result.andThen_ok,Sem.run_pure]
    · simp at ha
  case build t parts =>
    split at hc
    · rename_i fs z ht hz
      split at hc
      · rename_i hall
        obtain ⟨qs,hq,rfl⟩ := optmap hc
        simp only [aev] at ha
        obtain ⟨cs,hcs,he⟩ := optmap ha
        simp only [Prod.mk.injEq] at he
        obtain ⟨rfl,rfl,rfl⟩ := he
        obtain ⟨u,h1,h2⟩ := buildStruct_sound (w := w) hρ ht hz hall hq hcs
        exact .of_value hs hh h1 h2
      · simp at hc
    · rename_i len e z ht hz
      split at hc
      · rename_i s hsz
        obtain ⟨qs,hq,rfl⟩ := optmap hc
        simp only [aev] at ha
        obtain ⟨cs,hcs,he⟩ := optmap ha
        simp only [Prod.mk.injEq] at he
        obtain ⟨rfl,rfl,rfl⟩ := he
        obtain ⟨u,h1,h2⟩ := buildArray_sound (w := w) hρ ht hz hsz hq hcs
        exact .of_value hs hh h1 h2
      · simp at hc
    · simp at hc
  case buildSlice t len parts =>
    split at hc
    · rename_i e ht
      split at hc
      · rename_i s z hsz hz
        split at hc
        · rename_i hb
          obtain ⟨qs,hq,rfl⟩ := optmap hc
          simp only [aev] at ha
          split at ha
          · rename_i cs hcs
            split at ha
            · rename_i hl
              simp only [Option.some.injEq,Prod.mk.injEq] at ha
              obtain ⟨rfl,rfl,rfl⟩ := ha
              obtain ⟨u, φ',T',w',h1,h2,h3⟩ := buildSlice_sound hs hh hG hf hρ ht hz hsz hb.2 hb.1 hq hcs hl.1
              exact .of_new h1 h2 h3
            · simp at ha
          · simp at ha
        · simp at hc
      · simp at hc
    · simp at hc
  case load t x =>
    split at hc
    · rename_i m x' hm hx
      simp at hc; subst hc
      simp only [aev] at ha
      split at ha
      · rename_i i o g hv
        have hr := hρ _ _ _ hx hv
        cases m with
        | none =>
          simp only at ha
          split at ha
          · rename_i v' hread
            simp only [Option.some.injEq,Prod.mk.injEq] at ha
            obtain ⟨rfl,rfl,rfl⟩ := ha
            obtain ⟨u',h1,h2⟩ := load_does (P := P) hs hh hm (a := ρ x) (i := i) (o := o) (g := g) hr rfl (v := v') (by simp only [hread])
            exact .of_value hs hh h1 h2
          · simp at ha
        | some m =>
          simp only at ha
          obtain ⟨vs,hread,he⟩ := optmap ha
          simp only [Prod.mk.injEq] at he
          obtain ⟨rfl,rfl,rfl⟩ := he
          obtain ⟨u',h1,h2⟩ := load_does (P := P) hs hh hm (a := ρ x) (i := i) (o := o) (g := g) hr rfl (v := .agg vs.toArray) (by simp only [hread,Option.map_some])
          exact .of_value hs hh h1 h2
      · simp at ha
    · simp at hc
  case store t x y =>
    split at hc
    · rename_i m x' y' hm hx hy
      simp at hc; subst hc
      simp only [aev] at ha
      split at ha
      · rename_i i o g v' hv hyv
        split at ha
        · rename_i hcond
          obtain ⟨h1,hw,he⟩ := optmap ha
          simp only [Prod.mk.injEq] at he
          obtain ⟨rfl,rfl,rfl⟩ := he
          obtain ⟨φ',T',w',h2,h3⟩ := store_does (P := P) (n := n) hs hh hm (hρ _ _ _ hx hv) (hρ _ _ _ hy hyv) hcond.2 hcond.1 hw
          exact .of_unit h2 h3
        · simp at ha
      · simp at ha
    · simp at hc
  case nilCheck x =>
    obtain ⟨y,hy,rfl⟩ := cX_map hc
    simp only [aev] at ha
    split at ha
    · rename_i ad hv
      simp only [Option.some.injEq,Prod.mk.injEq] at ha
      obtain ⟨rfl,rfl,rfl⟩ := ha
      have hr := hρ _ _ _ hy hv
      refine .pure hs hh (u := ρ x) ?_ hr
      simp only [execOp]
      generalize ρ x = u at hr
      cases hr; rfl
    · rename_i f xs us hv
      simp only [Option.some.injEq,Prod.mk.injEq] at ha
      obtain ⟨rfl,rfl,rfl⟩ := ha
      have hr := hρ _ _ _ hy hv
      refine .pure hs hh (u := ρ x) ?_ hr
      simp only [execOp]
      generalize ρ x = u at hr
      cases hr; rfl
    · simp at ha
  case binOp op t x y yt =>
    exact cBin_sound hs hh hρ hc ha
  case unOp op t x =>
    obtain ⟨y,hy,rfl⟩ := cX_map hc
    simp only [aev] at ha
    split at ha
    · rename_i p hp
      obtain ⟨v',hv',he⟩ := optmap ha
      simp only [Prod.mk.injEq] at he
      obtain ⟨rfl,rfl,rfl⟩ := he
      have hr := hρ _ _ _ hy hp
      have hsc : scalar p = true ∧ scalar v' = true := by
        unfold aUn at hv'
        split at hv'
        · refine ⟨rfl, ?_⟩; cases op <;> simp only at hv' <;> (try (simp at hv'; done)) <;> (obtain rfl := Option.some.inj hv') <;> rfl
        · refine ⟨rfl, ?_⟩; cases op <;> simp only at hv' <;> (try (simp at hv'; done)) <;> (obtain rfl := Option.some.inj hv') <;> rfl
        · refine ⟨rfl, ?_⟩; cases op <;> simp only at hv' <;> (try (simp at hv'; done)) <;> (obtain rfl := Option.some.inj hv') <;> rfl
        · simp at hv'
      refine .of_value (s := Op.unary op (ρ x)) hs hh ?_ (.of_scalar hsc.2)
      rw [hr.eq_of_scalar hsc.1]
      exact un_sound hv'
    · simp at ha
  case convert src dst x =>
    simp only [Option.bind_eq_some_iff] at hc
    obtain ⟨y,hy,hc⟩ := hc
    exact cConv_sound hs hh hG hρ hy hc ha hf
  case makeInterface t x =>
    split at hc
    · simp at hc
    · rename_i d hd hne
      obtain ⟨y,hy,rfl⟩ := cX_map hc
      simp only [aev] at ha
      obtain ⟨v',hv,he⟩ := optmap ha
      simp only [Prod.mk.injEq] at he
      obtain ⟨rfl,rfl,rfl⟩ := he
      refine .of_value (s := Instr.makeInterface t (ρ x)) hs hh ?_ (.iface t _ _ (hρ _ _ _ hy hv))
      simp only [Instr.makeInterface,Sem.run_bind,run_underlying' hne,Result.andThen_ok]
      cases d <;> first | rfl | exact absurd rfl (hd _)
    · simp at hc
  case makeFunc fn first captured =>
    cases fn <;> simp only at hc <;> (try (simp at hc; done))
    rename_i f
    split at hc
    · rename_i as bs ha' hb'
      simp at hc; subst hc
      simp only [aev] at ha
      split at ha
      · rename_i xs us hxs hus
        simp only [Option.some.injEq,Prod.mk.injEq] at ha
        obtain ⟨rfl,rfl,rfl⟩ := ha
        have h1 := cXs_rel hρ ha' hxs
        have h2 := cXs_rel hρ hb' hus
        refine .of_value (s := Instr.makeFunc (.func f) (first.map ρ) (captured.map ρ)) hs hh rfl ?_
        exact VRels.func (by simpa using h1) (by simpa using h2)
      · simp at ha
    · simp at hc
  case makeSlice t l c =>
    split at hc
    · rename_i e ht
      split at hc
      · rename_i i z l' c' hi hz hl hcc
        split at hc
        · rename_i hpos
          simp at hc; subst hc
          simp only [aev] at ha
          split at ha
          · rename_i kl lv kc cv hlv hcv
            split at ha
            · rename_i hb
              simp only [Option.some.injEq,Prod.mk.injEq] at ha
              obtain ⟨rfl,rfl,rfl⟩ := ha
              obtain ⟨u, φ',T',w',h1,h2,h3⟩ := makeSlice_sound (P := P) (kl := kl) (kc := kc) hs hh hG hf ht hi hz hb.1 hb.2.1 hb.2.2.1 hb.2.2.2.1 hpos.1
              refine .of_new (s := Instr.makeSlice t (ρ l) (ρ c)) ?_ h2 h3
              rw [(hρ _ _ _ hl hlv).eq_of_scalar rfl,(hρ _ _ _ hcc hcv).eq_of_scalar rfl]
              exact h1
            · simp at ha
          · simp at ha
        · simp at hc
      · simp at hc
    · simp at hc
  case slice t x lo hi mx =>
    split at hc
    · rename_i len e x' lo' hi' ht hx hlo hhi hmx
      split at hc
      · rename_i s hsz
        simp at hc; subst hc
        have hmx' : mx = none := by cases mx with | none => rfl | some m => simp only [cOpt] at hmx; cases hcx : cX m <;> simp [hcx] at hmx
        subst hmx'
        simp only [aev] at ha
        split at ha
        · rename_i i o g hv
          split at ha
          · rename_i l u hb
            simp only [Option.some.injEq,Prod.mk.injEq] at ha
            obtain ⟨rfl,rfl,rfl⟩ := ha
            obtain ⟨v',h1,h2⟩ := sliceArr_sound (P := P) (w := w) hρ ht hsz (hρ _ _ _ hx hv) hlo hhi hb
            exact .of_value hs hh h1 h2
          · simp at ha
        · simp at ha
      · simp at hc
    · rename_i x' lo' hi' ht hx hlo hhi hmx
      simp at hc; subst hc
      have hmx' : mx = none := by cases mx with | none => rfl | some m => simp only [cOpt] at hmx; cases hcx : cX m <;> simp [hcx] at hmx
      subst hmx'
      simp only [aev] at ha
      split at ha
      · rename_i s hv
        split at ha
        · rename_i l u hb
          simp only [Option.some.injEq,Prod.mk.injEq] at ha
          obtain ⟨rfl,rfl,rfl⟩ := ha
          refine .of_value (s := Instr.sliceAt t (ρ x) (lo.map ρ) (hi.map ρ) none) hs hh ?_ (.string _)
          rw [(hρ _ _ _ hx hv).eq_of_scalar rfl]
          exact sliceStr_sound hρ ht hlo hhi hb
        · simp at ha
      · simp at ha
    · rename_i e x' lo' hi' mx' ht hx hlo hhi hmx
      split at hc
      · rename_i s hsz
        split at hc
        · rename_i hpos
          simp at hc; subst hc
          simp only [aev] at ha
          split at ha
          · rename_i hv
            split at ha
            · rename_i lu hb
              obtain ⟨l,u⟩ := lu
              split at ha
              · simp only [Option.some.injEq,Prod.mk.injEq] at ha
                obtain ⟨rfl,rfl,rfl⟩ := ha
                have hmx' : mx = none := by cases mx with | none => rfl | some m => simp only [cOpt] at hmx; cases hcx : cX m <;> simp [hcx] at hmx
                subst hmx'
                refine .of_value (s := Instr.sliceAt t (ρ x) (lo.map ρ) (hi.map ρ) none) hs hh ?_ .sliceNil
                rw [(hρ _ _ _ hx hv).eq_of_scalar rfl]
                exact slice_nil_sound hρ ht hsz hlo hhi hb
              · simp at ha
            · simp at ha
          · rename_i i o g len k hv
            split at ha
            · split at ha
              · rename_i l u hb
                simp only [Option.some.injEq,Prod.mk.injEq] at ha
                obtain ⟨rfl,rfl,rfl⟩ := ha
                have hmx' : mx = none := by cases mx with | none => rfl | some m => simp only [cOpt] at hmx; cases hcx : cX m <;> simp [hcx] at hmx
                subst hmx'
                obtain ⟨v',h1,h2⟩ := slice_sound (P := P) (w := w) hρ ht hsz (hρ _ _ _ hx hv) hlo hhi hb
                exact .of_value hs hh h1 h2
              · simp at ha
            · rename_i mx'' 
              split at ha
              · rename_i m hm
                split at ha
                · rename_i l u hx2 hb
                  simp only [Option.some.injEq,Prod.mk.injEq] at ha
                  obtain ⟨rfl,rfl,rfl⟩ := ha
                  rcases cOpt_spec hmx with ⟨_,h0⟩ | ⟨m0,m1,rfl,h0,hm01⟩
                  · cases h0
                  · obtain rfl := Option.some.inj h0
                    rcases cOpt_spec hhi with ⟨_,h0⟩ | ⟨h0',h1',rfl,h0,hh01⟩
                    · cases h0
                    · obtain rfl := Option.some.inj h0
                      obtain ⟨v',h1,h2⟩ := slice3_sound (P := P) (w := w) hρ ht hsz (hρ _ _ _ hx hv) hlo hh01 hm01 hm hb
                      exact .of_value hs hh h1 h2
                · simp at ha
              · simp at ha
          · simp at ha
        · simp at hc
      · simp at hc
    · simp at hc
  case fieldAddr s x f =>
    split at hc
    · rename_i fs x' ht hx
      split at hc
      · rename_i fd hfd
        split at hc
        · rename_i k hk
          simp at hc; subst hc
          simp only [aev] at ha
          split at ha
          · rename_i i o g hv
            simp only [Option.some.injEq,Prod.mk.injEq] at ha
            obtain ⟨rfl,rfl,rfl⟩ := ha
            obtain ⟨v',h1,h2⟩ := fieldAddr_sound (P := P) (w := w) ht hfd hk (hρ _ _ _ hx hv)
            exact .of_value hs hh h1 h2
          · simp at ha
        · simp at hc
      · simp at hc
    · simp at hc
  case field t x f =>
    split at hc
    · rename_i fs x' ht hx
      split at hc
      · rename_i fd hfd
        obtain ⟨m,hm,rfl⟩ := optmap hc
        simp only [aev] at ha
        split at ha
        · rename_i cs hv
          obtain ⟨v',hv',he⟩ := optmap ha
          simp only [Prod.mk.injEq] at he
          obtain ⟨rfl,rfl,rfl⟩ := he
          have hr := hρ _ _ _ hx hv
          have hcs : ∃ ds, ρ x = .agg ds := by generalize ρ x = u at hr; cases hr; exact ⟨_,rfl⟩
          obtain ⟨ds,hds⟩ := hcs
          rw [hds] at hr
          obtain ⟨u,h1,h2⟩ := part_sound (P := P) (w := w) hm hr hv'
          refine .of_value (s := Instr.field t (ρ x) f) hs hh (u := u) ?_ h2
          simp [Instr.field,run_underlying' ht,hfd,hds,asAgg,h1]
        · simp at ha
      · simp at hc
    · simp at hc
  case indexAddr t x i =>
    split at hc
    · rename_i len e x' i' ht hx hi
      split at hc
      · rename_i s hsz
        simp at hc; subst hc
        simp only [aev] at ha
        split at ha
        · rename_i b o g k ix hv hiv
          split at ha
          · rename_i hb
            simp only [Option.some.injEq,Prod.mk.injEq] at ha
            obtain ⟨rfl,rfl,rfl⟩ := ha
            obtain ⟨v',h1,h2⟩ := indexArr_sound (P := P) (w := w) ht hsz (hρ _ _ _ hx hv) (hρ _ _ _ hi hiv) hb.1 hb.2
            exact .of_value hs hh h1 h2
          · simp at ha
        · simp at ha
      · simp at hc
    · rename_i e x' i' ht hx hi
      obtain ⟨s,hsz,rfl⟩ := optmap hc
      simp only [aev] at ha
      split at ha
      · rename_i b o g len k kk ix hv hiv
        split at ha
        · rename_i hb
          simp only [Option.some.injEq,Prod.mk.injEq] at ha
          obtain ⟨rfl,rfl,rfl⟩ := ha
          obtain ⟨v',h1,h2⟩ := indexAddr_sound (P := P) (w := w) ht hsz (hρ _ _ _ hx hv) (hρ _ _ _ hi hiv) hb.1 hb.2
          exact .of_value hs hh h1 h2
        · simp at ha
      · simp at ha
    · simp at hc
  case index t x i =>
    split at hc
    · rename_i len e x' i' ht hx hi
      split at hc
      · rename_i s m hsz hm
        simp at hc; subst hc
        simp only [aev] at ha
        split at ha
        · rename_i cs kk ix hv hiv
          split at ha
          · rename_i hb
            obtain ⟨v',hv',he⟩ := optmap ha
            simp only [Prod.mk.injEq] at he
            obtain ⟨rfl,rfl,rfl⟩ := he
            obtain ⟨u,h1,h2⟩ := index_sound (P := P) (w := w) ht hsz hm (hρ _ _ _ hx hv) (hρ _ _ _ hi hiv) hb.1 hb.2 hv'
            exact .of_value hs hh h1 h2
          · simp at ha
        · simp at ha
      · simp at hc
    · rename_i x' i' ht hx hi
      simp at hc; subst hc
      simp only [aev] at ha
      split at ha
      · rename_i s kk ix hv hiv
        split at ha
        · rename_i hb
          obtain ⟨b,hb',he⟩ := optmap ha
          simp only [Prod.mk.injEq] at he
          obtain ⟨rfl,rfl,rfl⟩ := he
          refine .of_value (s := Instr.index t (ρ x) (ρ i)) hs hh ?_ (.int _ _)
          rw [(hρ _ _ _ hx hv).eq_of_scalar rfl,(hρ _ _ _ hi hiv).eq_of_scalar rfl]
          exact indexStr_sound ht hb.1 hb'
        · simp at ha
      · simp at ha
    · simp at hc
  case lookup t x i ok =>
    split at hc
    · rename_i kt et x' i' ht hx hi
      have key : ∀ (kstr : Bool) (dk : TypeDesc) (inf : TypeInfo) (z : Value),P.underlying kt = some dk → ((∃ k,dk = .int k) ∧ kstr = false ∨ dk = .string ∧ kstr = true) → P.info? et = some inf → inf.zero = some z → flat z = true →
          aev (X.ev σ h) h n (.lookup kstr ok z x' i') = some (v,h',n') → OpDoes P G w0 φ T w h n (do Pure.pure (.value (← Instr.lookup t (ρ x) (ρ i) ok))) v h' n' := by
        intro kstr dk inf z hk hdk hinf hz hzf ha
        simp only [aev] at ha
        split at ha
        · rename_i mv kv hmv hkv
          split at ha
          · rename_i hkind
            obtain ⟨v',hv',he⟩ := optmap ha
            simp only [Prod.mk.injEq] at he
            obtain ⟨rfl,rfl,rfl⟩ := he
            have hkf : keyFits dk kv = true := by
              rcases hdk with ⟨⟨k,rfl⟩,rfl⟩ | ⟨rfl,rfl⟩ <;> cases kv <;> first | rfl | (simp [keyKind] at hkind; done)
            obtain ⟨u,h1,h2⟩ := lookup_sound (P := P) hs hh ht hk (by rcases hdk with ⟨h,_⟩ | ⟨h,_⟩; exact .inl h; exact .inr h) hinf hz hzf (hρ _ _ _ hx hmv) (hρ _ _ _ hi hkv) hv' hkf
            exact .of_value hs hh h1 h2
          · simp at ha
        · simp at ha
      split at hc
      · rename_i k inf hk hinf
        split at hc
        · rename_i z hz
          split at hc
          · rename_i hzf; simp at hc; subst hc; exact key false _ inf z hk (.inl ⟨⟨k,rfl⟩,rfl⟩) hinf hz hzf ha
          · simp at hc
        · simp at hc
      · rename_i inf hk hinf
        split at hc
        · rename_i z hz
          split at hc
          · rename_i hzf; simp at hc; subst hc; exact key true _ inf z hk (.inr ⟨rfl,rfl⟩) hinf hz hzf ha
          · simp at hc
        · simp at hc
      · simp at hc
    · simp at hc
  case extract x i =>
    obtain ⟨y,hy,rfl⟩ := cX_map hc
    simp only [aev] at ha
    split at ha
    · rename_i vs hv
      obtain ⟨v',hv',he⟩ := optmap ha
      simp only [Prod.mk.injEq] at he
      obtain ⟨rfl,rfl,rfl⟩ := he
      have hr := hρ _ _ _ hy hv
      have hvs : ∃ us, ρ x = .tuple us ∧ VRels φ vs.toList us.toList := by
        generalize ρ x = u at hr
        cases hr with
        | tuple xs ys e hr => exact ⟨ys,rfl, .of_arrays e hr⟩
      obtain ⟨us,hus,hrel⟩ := hvs
      obtain ⟨u,hu,hru⟩ := hrel.get (i := i) (v := v') (by simpa using hv')
      refine .of_value (s := Instr.extract (ρ x) i) hs hh (u := u) ?_ hru
      have : us[i]? = some u := by simpa using hu
      simp [Instr.extract,hus,this]
    · simp at ha
  case range t x =>
    split at hc
    · rename_i ht
      obtain ⟨y,hy,rfl⟩ := cX_map hc
      simp only [aev] at ha
      split at ha
      · rename_i s hv
        simp only [Option.some.injEq,Prod.mk.injEq] at ha
        obtain ⟨rfl,rfl,rfl⟩ := ha
        obtain ⟨hT,hφ⟩ := hf n (Nat.le_refl _) (by omega)
        refine .of_new (s := Instr.range t (ρ x)) (u := .pointer (some ⟨w.heap.size,0,none⟩)) (φ' := φ.ins n 0 ⟨w.heap.size,0,true,0,0⟩) (T' := T.put n (.iter s 0)) (w' := w.alloc (.stringIter s 0)) ?_ (VRel.ptr n 0 _ _ (Phi.ins_same _ _ _ _)) ?_
        · rw [(hρ _ _ _ hy hv).eq_of_scalar rfl]
          simp only [Instr.range,Sem.run_bind,run_underlying' ht,Result.andThen_ok,Sem.run_pure]
          rfl
        · refine ⟨hs.iter hG hφ,Phi.ins_le (hφ _),fun j b hjb => ?_,fun j _ hj => TH.put_ne _ _ (by omega),fun j hj hf g => ?_,by omega,fun j d hj => ?_⟩
          · rw [AHeap.get_put] at hjb
            split at hjb
            · rename_i e; subst e; rw [TH.put_same]; exact hjb
            · rename_i e; rw [TH.put_ne _ _ e]; exact hh _ _ hjb
          · unfold Phi.ins
            split
            · rename_i e; omega
            · exact hf g
          · rw [AHeap.get_put] at hj
            split at hj
            · right; omega
            · exact .inl ⟨d,hj⟩
      · simp at ha
    · simp at hc
  case next x s =>
    split at hc
    · rename_i hst
      subst hst
      obtain ⟨y,hy,rfl⟩ := cX_map hc
      simp only [aev] at ha
      split at ha
      · rename_i i hv
        split at ha
        · rename_i s pos hget
          have hr := hρ _ _ _ hy hv
          have hT := hh i _ hget
          obtain ⟨l,hl,ho,hoff,hrow⟩ := hs.blk i _ hT
          have hρx : ρ x = .pointer (some ⟨l.block,0,none⟩) := by
            generalize ρ x = u at hr
            cases hr with
            | ptr _ _ _ l2 hl2 =>
              rw [hl] at hl2
              obtain rfl := Option.some.inj hl2
              rw [hoff]
          have hgo : ∀ w : World,w.heap[l.block]? = some (.stringIter s pos) → (getObj l.block).run P w = .ok (.stringIter s pos) w := fun w hw => by simp [getObj,Sem.run,hw]
          split at ha
          · rename_i hlt
            simp only [Option.some.injEq,Prod.mk.injEq] at ha
            obtain ⟨rfl,rfl,rfl⟩ := ha
            refine .of_new (s := Instr.next (ρ x) true ty) (u := .tuple #[.bool true,goInt pos, .int .i32 (Utf8.decode s pos).1]) (φ' := φ) (T' := T.put i (.iter s (pos + (Utf8.decode s pos).2))) (w' := setObj' w l.block (.stringIter s (pos + (Utf8.decode s pos).2))) ?_
              (VRels.tuple (.cons (.bool _) (.cons (.int _ _) (.cons (.int _ _) .nil)))) ?_
            · rw [hρx]
              simp only [Instr.next,Sem.run_bind,hgo w hrow,Result.andThen_ok,hlt,if_true]
              have hso : (setObj l.block (.stringIter s (pos + (Utf8.decode s pos).2))).run P w = .ok () (setObj' w l.block (.stringIter s (pos + (Utf8.decode s pos).2))) := by simp [setObj,Sem.run,hrow,setObj']
              simp only [hso,Result.andThen_ok,Sem.run_pure]
            · refine ⟨hs.iterNext hl ho hT, .refl _,fun j b hjb => ?_,fun j hj _ => ?_,fun _ _ hf => hf,Nat.le_refl _,dom_put hget⟩
              · rw [AHeap.get_put] at hjb
                split at hjb
                · rename_i e; subst e; rw [TH.put_same]; exact hjb
                · rename_i e; rw [TH.put_ne _ _ e]; exact hh _ _ hjb
              · by_cases e : i = j
                · subst e; rw [hget] at hj; cases hj
                · exact TH.put_ne _ _ e
          · rename_i hlt
            simp only [Option.some.injEq,Prod.mk.injEq] at ha
            obtain ⟨rfl,rfl,rfl⟩ := ha
            refine .of_value (s := Instr.next (ρ x) true ty) (u := .tuple #[.bool false]) hs hh ?_ (VRels.tuple (.cons (.bool _) .nil))
            rw [hρx]
            simp only [Instr.next,Sem.run_bind,hgo w hrow,Result.andThen_ok,hlt,if_false,Sem.run_pure]
        · simp at ha
      · simp at ha
    · simp at hc
  case call c =>
    split at hc
    · rename_i b xs hb hx
      have := cBuiltin_sound (t := ty) (consts := c.args.map fun | .const _ => true | _ => false) hs hh hG hρ hx hc ha hf
      obtain ⟨nx,u, φ',T',w',h1,h2,h3,h4⟩ := this
      refine ⟨nx,u, φ',T',w', ?_,h2,h3,h4⟩
      simp only [execOp,resolve,hb,Sem.run_bind,Sem.run_pure,Result.andThen_ok,invoke]
      exact h1
    · rename_i f xs hf hx
      obtain ⟨f',hf',rfl⟩ := optmap hc
      simp [aev] at ha
    · simp at hc

end
end
end Go.Proofs.YtkdpjaaohddppaaGreatDoor.Am
