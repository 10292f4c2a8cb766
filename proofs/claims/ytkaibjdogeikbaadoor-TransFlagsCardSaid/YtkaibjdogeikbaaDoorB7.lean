/- The soundness of the operations of the abstract machine, part B7. -/
import Derived.Test.YtkaibjdogeikbaaDoorB6
namespace Go.Proofs.YtkaibjdogeikbaaDoor.Am
noncomputable section
open Go.RowKit (Below)

section
variable {P : Program} {G : Nat} {w0 : World} {φ : Phi} {T : TH} {w : World} {h : AHeap} {n : Nat} {σ : Fr} {ρ : Operand → Value}

theorem OpDoes.of_unit {s : Sem Unit} {φ' : Phi} {T' : TH} {w' : World} {h' : AHeap} {n' : Nat} (hr : s.run P w = .ok () w') (hp : Post G w0 φ T h n φ' T' w' h' n') :
    OpDoes P G w0 φ T w h n (do s; Pure.pure .skip) undef h' n' := ⟨.skip, undef, φ', T', w', by simp [hr], rfl, VRels.tuple .nil, hp⟩

/-- An operation that is no call. -/
theorem cOp_sound (hs : Sat G w0 φ T w) (hh : Sub h T) (hG : G ≤ n) (hρ : RhoRel φ σ h ρ) {o : Oper} {a : AOp} (hc : cOp P o.op = some a) {v : Value} {h' : AHeap} {n' : Nat}
    (ha : aev (X.ev σ h) h n a = some (v, h', n')) (hf : Fresh φ T n n') : OpDoes P G w0 φ T w h n (execOp ρ o) v h' n' := by
  obtain ⟨dst, op, ty, pos, after, guard⟩ := o
  simp only at hc
  cases op <;> simp only [cOp] at hc <;> (try (simp at hc; done))
  case move x =>
    obtain ⟨y, hy, rfl⟩ := cX_map hc
    simp only [aev] at ha
    obtain ⟨v', hv, he⟩ := optmap ha
    simp only [Prod.mk.injEq] at he
    obtain ⟨rfl, rfl, rfl⟩ := he
    exact .pure hs hh rfl (hρ _ _ _ hy hv)
  case assign x =>
    obtain ⟨y, hy, rfl⟩ := cX_map hc
    simp only [aev] at ha
    obtain ⟨v', hv, he⟩ := optmap ha
    simp only [Prod.mk.injEq] at he
    obtain ⟨rfl, rfl, rfl⟩ := he
    exact .pure hs hh rfl (hρ _ _ _ hy hv)
  case panic x =>
    simp at hc; subst hc
    simp only [aev] at ha
    cases ha
  case pick c x y =>
    split at hc
    · rename_i c' x' y' hc' hx hy
      simp at hc; subst hc
      simp only [aev] at ha
      split at ha
      · rename_i hcv
        obtain ⟨v', hv, he⟩ := optmap ha
        simp only [Prod.mk.injEq] at he
        obtain ⟨rfl, rfl, rfl⟩ := he
        refine .pure hs hh (u := ρ x) ?_ (hρ _ _ _ hx hv)
        simp [execOp, (hρ _ _ _ hc' hcv).eq_of_scalar rfl, asBool]
      · rename_i hcv
        obtain ⟨v', hv, he⟩ := optmap ha
        simp only [Prod.mk.injEq] at he
        obtain ⟨rfl, rfl, rfl⟩ := he
        refine .pure hs hh (u := ρ y) ?_ (hρ _ _ _ hy hv)
        simp [execOp, (hρ _ _ _ hc' hcv).eq_of_scalar rfl, asBool]
      · simp at ha
    · simp at hc
  case alloc e =>
    obtain ⟨z, hz, rfl⟩ := optmap hc
    obtain ⟨i, v0, hi, hv0, rfl, hsc, hsize⟩ := zeroCells?_spec hz
    simp only [aev, Option.some.injEq, Prod.mk.injEq] at ha
    obtain ⟨rfl, rfl, rfl⟩ := ha
    have hr : VRels φ v0.cells.toList v0.cells.toList := .of_scalars hsc
    have hp := alloc_sound (w := w) (e := e) (fz := (0, 0)) hs hh hG hf hr (c := v0.cells) (List.take_of_length_le (by simp)) (oneCells_of_scalars hsc) (fun o _ => by omega)
    refine .of_new (u := .pointer (some ⟨w.heap.size, 0, none⟩)) ?_ (VRel.ptr n 0 _ _ (Phi.ins_same _ _ _ _)) hp
    simp only [Instr.alloc, Sem.run_bind, run_zeroValue' hi hv0, Result.andThen_ok, newVar, newRow_run, Sem.run_pure]
  case box e x =>
    obtain ⟨y, hy, rfl⟩ := cX_map hc
    simp only [aev] at ha
    split at ha
    · rename_i v' hv
      split at ha
      · simp at ha
      · rename_i htup
        simp only [Option.some.injEq, Prod.mk.injEq] at ha
        obtain ⟨rfl, rfl, rfl⟩ := ha
        obtain ⟨φ', T', w', h1, h2, h3⟩ := alloc_does (P := P) (e := e) hs hh hG hf (hρ _ _ _ hy hv) (by simpa using htup)
        refine .of_new (u := .pointer (some ⟨w.heap.size, 0, none⟩)) ?_ h2 h3
        simp only [Instr.box, Sem.run_bind, h1, Result.andThen_ok, Sem.run_pure]
    · simp at ha
  case build t parts =>
    split at hc
    · rename_i fs z ht hz
      split at hc
      · rename_i hall
        obtain ⟨qs, hq, rfl⟩ := optmap hc
        simp only [aev] at ha
        obtain ⟨cs, hcs, he⟩ := optmap ha
        simp only [Prod.mk.injEq] at he
        obtain ⟨rfl, rfl, rfl⟩ := he
        obtain ⟨u, h1, h2⟩ := buildStruct_sound (w := w) hρ ht hz hall hq hcs
        exact .of_value hs hh h1 h2
      · simp at hc
    · rename_i len e z ht hz
      split at hc
      · rename_i s hsz
        obtain ⟨qs, hq, rfl⟩ := optmap hc
        simp only [aev] at ha
        obtain ⟨cs, hcs, he⟩ := optmap ha
        simp only [Prod.mk.injEq] at he
        obtain ⟨rfl, rfl, rfl⟩ := he
        obtain ⟨u, h1, h2⟩ := buildArray_sound (w := w) hρ ht hz hsz hq hcs
        exact .of_value hs hh h1 h2
      · simp at hc
    · simp at hc
  case buildSlice t len parts =>
    split at hc
    · rename_i e ht
      split at hc
      · rename_i s z hsz hz
        split at hc
        · rename_i hb
          obtain ⟨qs, hq, rfl⟩ := optmap hc
          simp only [aev] at ha
          split at ha
          · rename_i cs hcs
            split at ha
            · rename_i hl
              simp only [Option.some.injEq, Prod.mk.injEq] at ha
              obtain ⟨rfl, rfl, rfl⟩ := ha
              obtain ⟨u, φ', T', w', h1, h2, h3⟩ := buildSlice_sound hs hh hG hf hρ ht hz hsz hb.2 hb.1 hq hcs hl.1
              exact .of_new h1 h2 h3
            · simp at ha
          · simp at ha
        · simp at hc
      · simp at hc
    · simp at hc
  case load t x =>
    split at hc
    · rename_i m x' hm hx
      simp at hc; subst hc
      simp only [aev] at ha
      split at ha
      · rename_i i o g hv
        have hr := hρ _ _ _ hx hv
        cases m with
        | none =>
          simp only at ha
          split at ha
          · rename_i v' hread
            simp only [Option.some.injEq, Prod.mk.injEq] at ha
            obtain ⟨rfl, rfl, rfl⟩ := ha
            obtain ⟨u', h1, h2⟩ := load_does (P := P) hs hh hm (a := ρ x) (i := i) (o := o) (g := g) hr rfl (v := v') (by simp only [hread])
            exact .of_value hs hh h1 h2
          · simp at ha
        | some m =>
          simp only at ha
          obtain ⟨vs, hread, he⟩ := optmap ha
          simp only [Prod.mk.injEq] at he
          obtain ⟨rfl, rfl, rfl⟩ := he
          obtain ⟨u', h1, h2⟩ := load_does (P := P) hs hh hm (a := ρ x) (i := i) (o := o) (g := g) hr rfl (v := .agg vs.toArray) (by simp only [hread, Option.map_some])
          exact .of_value hs hh h1 h2
      · simp at ha
    · simp at hc
  case store t x y =>
    split at hc
    · rename_i m x' y' hm hx hy
      simp at hc; subst hc
      simp only [aev] at ha
      split at ha
      · rename_i i o g v' hv hyv
        split at ha
        · rename_i hcond
          obtain ⟨h1, hw, he⟩ := optmap ha
          simp only [Prod.mk.injEq] at he
          obtain ⟨rfl, rfl, rfl⟩ := he
          obtain ⟨φ', T', w', h2, h3⟩ := store_does (P := P) (n := n) hs hh hm (hρ _ _ _ hx hv) (hρ _ _ _ hy hyv) hcond.2 hcond.1 hw
          exact .of_unit h2 h3
        · simp at ha
      · simp at ha
    · simp at hc
  case nilCheck x =>
    obtain ⟨y, hy, rfl⟩ := cX_map hc
    simp only [aev] at ha
    split at ha
    · rename_i ad hv
      simp only [Option.some.injEq, Prod.mk.injEq] at ha
      obtain ⟨rfl, rfl, rfl⟩ := ha
      have hr := hρ _ _ _ hy hv
      refine .pure hs hh (u := ρ x) ?_ hr
      simp only [execOp]
      generalize ρ x = u at hr
      cases hr; rfl
    · rename_i f xs us hv
      simp only [Option.some.injEq, Prod.mk.injEq] at ha
      obtain ⟨rfl, rfl, rfl⟩ := ha
      have hr := hρ _ _ _ hy hv
      refine .pure hs hh (u := ρ x) ?_ hr
      simp only [execOp]
      generalize ρ x = u at hr
      cases hr; rfl
    · simp at ha
  case binOp op t x y yt =>
    exact cBin_sound hs hh hρ hc ha
  case unOp op t x =>
    obtain ⟨y, hy, rfl⟩ := cX_map hc
    simp only [aev] at ha
    split at ha
    · rename_i p hp
      obtain ⟨v', hv', he⟩ := optmap ha
      simp only [Prod.mk.injEq] at he
      obtain ⟨rfl, rfl, rfl⟩ := he
      have hr := hρ _ _ _ hy hp
      have hsc : scalar p = true ∧ scalar v' = true := by
        unfold aUn at hv'
        split at hv'
        · refine ⟨rfl, ?_⟩; cases op <;> simp only at hv' <;> (try (simp at hv'; done)) <;> (obtain rfl := Option.some.inj hv') <;> rfl
        · refine ⟨rfl, ?_⟩; cases op <;> simp only at hv' <;> (try (simp at hv'; done)) <;> (obtain rfl := Option.some.inj hv') <;> rfl
        · simp at hv'
      refine .of_value (s := Op.unary op (ρ x)) hs hh ?_ (.of_scalar hsc.2)
      rw [hr.eq_of_scalar hsc.1]
      exact un_sound hv'
    · simp at ha
  case convert src dst x =>
    simp only [Option.bind_eq_some_iff] at hc
    obtain ⟨y, hy, hc⟩ := hc
    exact cConv_sound hs hh hG hρ hy hc ha hf
  case makeInterface t x =>
    split at hc
    · simp at hc
    · rename_i d hd hne
      obtain ⟨y, hy, rfl⟩ := cX_map hc
      simp only [aev] at ha
      obtain ⟨v', hv, he⟩ := optmap ha
      simp only [Prod.mk.injEq] at he
      obtain ⟨rfl, rfl, rfl⟩ := he
      refine .of_value (s := Instr.makeInterface t (ρ x)) hs hh ?_ (.iface t _ _ (hρ _ _ _ hy hv))
      simp only [Instr.makeInterface, Sem.run_bind, run_underlying' hne, Result.andThen_ok]
      cases d <;> first | rfl | exact absurd rfl (hd _)
    · simp at hc
  case makeFunc fn first captured =>
    cases fn <;> simp only at hc <;> (try (simp at hc; done))
    rename_i f
    split at hc
    · rename_i as bs ha' hb'
      simp at hc; subst hc
      simp only [aev] at ha
      split at ha
      · rename_i xs us hxs hus
        simp only [Option.some.injEq, Prod.mk.injEq] at ha
        obtain ⟨rfl, rfl, rfl⟩ := ha
        have h1 := cXs_rel hρ ha' hxs
        have h2 := cXs_rel hρ hb' hus
        refine .of_value (s := Instr.makeFunc (.func f) (first.map ρ) (captured.map ρ)) hs hh rfl ?_
        exact VRels.func (by simpa using h1) (by simpa using h2)
      · simp at ha
    · simp at hc
  case makeSlice t l c =>
    split at hc
    · rename_i e ht
      split at hc
      · rename_i i z l' c' hi hz hl hcc
        split at hc
        · rename_i hpos
          simp at hc; subst hc
          simp only [aev] at ha
          split at ha
          · rename_i kl lv kc cv hlv hcv
            split at ha
            · rename_i hb
              simp only [Option.some.injEq, Prod.mk.injEq] at ha
              obtain ⟨rfl, rfl, rfl⟩ := ha
              obtain ⟨u, φ', T', w', h1, h2, h3⟩ := makeSlice_sound (P := P) (kl := kl) (kc := kc) hs hh hG hf ht hi hz hb.1 hb.2.1 hb.2.2.1 hb.2.2.2.1 hpos.1
              refine .of_new (s := Instr.makeSlice t (ρ l) (ρ c)) ?_ h2 h3
              rw [(hρ _ _ _ hl hlv).eq_of_scalar rfl, (hρ _ _ _ hcc hcv).eq_of_scalar rfl]
              exact h1
            · simp at ha
          · simp at ha
        · simp at hc
      · simp at hc
    · simp at hc
  case slice t x lo hi mx =>
    split at hc
    · rename_i len e x' lo' hi' ht hx hlo hhi hmx
      split at hc
      · rename_i s hsz
        simp at hc; subst hc
        have hmx' : mx = none := by cases mx with | none => rfl | some m => simp only [cOpt] at hmx; cases hcx : cX m <;> simp [hcx] at hmx
        subst hmx'
        simp only [aev] at ha
        split at ha
        · rename_i i o g hv
          split at ha
          · rename_i l u hb
            simp only [Option.some.injEq, Prod.mk.injEq] at ha
            obtain ⟨rfl, rfl, rfl⟩ := ha
            obtain ⟨v', h1, h2⟩ := sliceArr_sound (P := P) (w := w) hρ ht hsz (hρ _ _ _ hx hv) hlo hhi hb
            exact .of_value hs hh h1 h2
          · simp at ha
        · simp at ha
      · simp at hc
    · rename_i x' lo' hi' ht hx hlo hhi hmx
      simp at hc; subst hc
      have hmx' : mx = none := by cases mx with | none => rfl | some m => simp only [cOpt] at hmx; cases hcx : cX m <;> simp [hcx] at hmx
      subst hmx'
      simp only [aev] at ha
      split at ha
      · rename_i s hv
        split at ha
        · rename_i l u hb
          simp only [Option.some.injEq, Prod.mk.injEq] at ha
          obtain ⟨rfl, rfl, rfl⟩ := ha
          refine .of_value (s := Instr.sliceAt t (ρ x) (lo.map ρ) (hi.map ρ) none) hs hh ?_ (.string _)
          rw [(hρ _ _ _ hx hv).eq_of_scalar rfl]
          exact sliceStr_sound hρ ht hlo hhi hb
        · simp at ha
      · simp at ha
    · rename_i e x' lo' hi' mx' ht hx hlo hhi hmx
      split at hc
      · rename_i s hsz
        split at hc
        · rename_i hpos
          simp at hc; subst hc
          simp only [aev] at ha
          split at ha
          · rename_i hv
            split at ha
            · rename_i lu hb
              obtain ⟨l, u⟩ := lu
              split at ha
              · simp only [Option.some.injEq, Prod.mk.injEq] at ha
                obtain ⟨rfl, rfl, rfl⟩ := ha
                have hmx' : mx = none := by cases mx with | none => rfl | some m => simp only [cOpt] at hmx; cases hcx : cX m <;> simp [hcx] at hmx
                subst hmx'
                refine .of_value (s := Instr.sliceAt t (ρ x) (lo.map ρ) (hi.map ρ) none) hs hh ?_ .sliceNil
                rw [(hρ _ _ _ hx hv).eq_of_scalar rfl]
                exact slice_nil_sound hρ ht hsz hlo hhi hb
              · simp at ha
            · simp at ha
          · rename_i i o g len k hv
            split at ha
            · split at ha
              · rename_i l u hb
                simp only [Option.some.injEq, Prod.mk.injEq] at ha
                obtain ⟨rfl, rfl, rfl⟩ := ha
                have hmx' : mx = none := by cases mx with | none => rfl | some m => simp only [cOpt] at hmx; cases hcx : cX m <;> simp [hcx] at hmx
                subst hmx'
                obtain ⟨v', h1, h2⟩ := slice_sound (P := P) (w := w) hρ ht hsz (hρ _ _ _ hx hv) hlo hhi hb
                exact .of_value hs hh h1 h2
              · simp at ha
            · rename_i mx'' 
              split at ha
              · rename_i m hm
                split at ha
                · rename_i l u hx2 hb
                  simp only [Option.some.injEq, Prod.mk.injEq] at ha
                  obtain ⟨rfl, rfl, rfl⟩ := ha
                  rcases cOpt_spec hmx with ⟨_, h0⟩ | ⟨m0, m1, rfl, h0, hm01⟩
                  · cases h0
                  · obtain rfl := Option.some.inj h0
                    rcases cOpt_spec hhi with ⟨_, h0⟩ | ⟨h0', h1', rfl, h0, hh01⟩
                    · cases h0
                    · obtain rfl := Option.some.inj h0
                      obtain ⟨v', h1, h2⟩ := slice3_sound (P := P) (w := w) hρ ht hsz (hρ _ _ _ hx hv) hlo hh01 hm01 hm hb
                      exact .of_value hs hh h1 h2
                · simp at ha
              · simp at ha
          · simp at ha
        · simp at hc
      · simp at hc
    · simp at hc
  case fieldAddr s x f =>
    split at hc
    · rename_i fs x' ht hx
      split at hc
      · rename_i fd hfd
        split at hc
        · rename_i k hk
          simp at hc; subst hc
          simp only [aev] at ha
          split at ha
          · rename_i i o g hv
            simp only [Option.some.injEq, Prod.mk.injEq] at ha
            obtain ⟨rfl, rfl, rfl⟩ := ha
            obtain ⟨v', h1, h2⟩ := fieldAddr_sound (P := P) (w := w) ht hfd hk (hρ _ _ _ hx hv)
            exact .of_value hs hh h1 h2
          · simp at ha
        · simp at hc
      · simp at hc
    · simp at hc
  case field t x f =>
    split at hc
    · rename_i fs x' ht hx
      split at hc
      · rename_i fd hfd
        obtain ⟨m, hm, rfl⟩ := optmap hc
        simp only [aev] at ha
        split at ha
        · rename_i cs hv
          obtain ⟨v', hv', he⟩ := optmap ha
          simp only [Prod.mk.injEq] at he
          obtain ⟨rfl, rfl, rfl⟩ := he
          have hr := hρ _ _ _ hx hv
          have hcs : ∃ ds, ρ x = .agg ds := by generalize ρ x = u at hr; cases hr; exact ⟨_, rfl⟩
          obtain ⟨ds, hds⟩ := hcs
          rw [hds] at hr
          obtain ⟨u, h1, h2⟩ := part_sound (P := P) (w := w) hm hr hv'
          refine .of_value (s := Instr.field t (ρ x) f) hs hh (u := u) ?_ h2
          simp [Instr.field, run_underlying' ht, hfd, hds, asAgg, h1]
        · simp at ha
      · simp at hc
    · simp at hc
  case indexAddr t x i =>
    split at hc
    · rename_i len e x' i' ht hx hi
      split at hc
      · rename_i s hsz
        simp at hc; subst hc
        simp only [aev] at ha
        split at ha
        · rename_i b o g k ix hv hiv
          split at ha
          · rename_i hb
            simp only [Option.some.injEq, Prod.mk.injEq] at ha
            obtain ⟨rfl, rfl, rfl⟩ := ha
            obtain ⟨v', h1, h2⟩ := indexArr_sound (P := P) (w := w) ht hsz (hρ _ _ _ hx hv) (hρ _ _ _ hi hiv) hb.1 hb.2
            exact .of_value hs hh h1 h2
          · simp at ha
        · simp at ha
      · simp at hc
    · rename_i e x' i' ht hx hi
      obtain ⟨s, hsz, rfl⟩ := optmap hc
      simp only [aev] at ha
      split at ha
      · rename_i b o g len k kk ix hv hiv
        split at ha
        · rename_i hb
          simp only [Option.some.injEq, Prod.mk.injEq] at ha
          obtain ⟨rfl, rfl, rfl⟩ := ha
          obtain ⟨v', h1, h2⟩ := indexAddr_sound (P := P) (w := w) ht hsz (hρ _ _ _ hx hv) (hρ _ _ _ hi hiv) hb.1 hb.2
          exact .of_value hs hh h1 h2
        · simp at ha
      · simp at ha
    · simp at hc
  case index t x i =>
    split at hc
    · rename_i len e x' i' ht hx hi
      split at hc
      · rename_i s m hsz hm
        simp at hc; subst hc
        simp only [aev] at ha
        split at ha
        · rename_i cs kk ix hv hiv
          split at ha
          · rename_i hb
            obtain ⟨v', hv', he⟩ := optmap ha
            simp only [Prod.mk.injEq] at he
            obtain ⟨rfl, rfl, rfl⟩ := he
            obtain ⟨u, h1, h2⟩ := index_sound (P := P) (w := w) ht hsz hm (hρ _ _ _ hx hv) (hρ _ _ _ hi hiv) hb.1 hb.2 hv'
            exact .of_value hs hh h1 h2
          · simp at ha
        · simp at ha
      · simp at hc
    · rename_i x' i' ht hx hi
      simp at hc; subst hc
      simp only [aev] at ha
      split at ha
      · rename_i s kk ix hv hiv
        split at ha
        · rename_i hb
          obtain ⟨b, hb', he⟩ := optmap ha
          simp only [Prod.mk.injEq] at he
          obtain ⟨rfl, rfl, rfl⟩ := he
          refine .of_value (s := Instr.index t (ρ x) (ρ i)) hs hh ?_ (.int _ _)
          rw [(hρ _ _ _ hx hv).eq_of_scalar rfl, (hρ _ _ _ hi hiv).eq_of_scalar rfl]
          exact indexStr_sound ht hb.1 hb'
        · simp at ha
      · simp at ha
    · simp at hc
  case lookup t x i ok =>
    split at hc
    · rename_i kt et x' i' ht hx hi
      have key : ∀ (kstr : Bool) (dk : TypeDesc) (inf : TypeInfo) (z : Value), P.underlying kt = some dk → ((∃ k, dk = .int k) ∧ kstr = false ∨ dk = .string ∧ kstr = true) → P.info? et = some inf → inf.zero = some z → flat z = true →
          aev (X.ev σ h) h n (.lookup kstr ok z x' i') = some (v, h', n') → OpDoes P G w0 φ T w h n (do Pure.pure (.value (← Instr.lookup t (ρ x) (ρ i) ok))) v h' n' := by
        intro kstr dk inf z hk hdk hinf hz hzf ha
        simp only [aev] at ha
        split at ha
        · rename_i mv kv hmv hkv
          split at ha
          · rename_i hkind
            obtain ⟨v', hv', he⟩ := optmap ha
            simp only [Prod.mk.injEq] at he
            obtain ⟨rfl, rfl, rfl⟩ := he
            have hkf : keyFits dk kv = true := by
              rcases hdk with ⟨⟨k, rfl⟩, rfl⟩ | ⟨rfl, rfl⟩ <;> cases kv <;> first | rfl | (simp [keyKind] at hkind; done)
            obtain ⟨u, h1, h2⟩ := lookup_sound (P := P) hs hh ht hk (by rcases hdk with ⟨h, _⟩ | ⟨h, _⟩; exact .inl h; exact .inr h) hinf hz hzf (hρ _ _ _ hx hmv) (hρ _ _ _ hi hkv) hv' hkf
            exact .of_value hs hh h1 h2
          · simp at ha
        · simp at ha
      split at hc
      · rename_i k inf hk hinf
        split at hc
        · rename_i z hz
          split at hc
          · rename_i hzf; simp at hc; subst hc; exact key false _ inf z hk (.inl ⟨⟨k, rfl⟩, rfl⟩) hinf hz hzf ha
          · simp at hc
        · simp at hc
      · rename_i inf hk hinf
        split at hc
        · rename_i z hz
          split at hc
          · rename_i hzf; simp at hc; subst hc; exact key true _ inf z hk (.inr ⟨rfl, rfl⟩) hinf hz hzf ha
          · simp at hc
        · simp at hc
      · simp at hc
    · simp at hc
  case extract x i =>
    obtain ⟨y, hy, rfl⟩ := cX_map hc
    simp only [aev] at ha
    split at ha
    · rename_i vs hv
      obtain ⟨v', hv', he⟩ := optmap ha
      simp only [Prod.mk.injEq] at he
      obtain ⟨rfl, rfl, rfl⟩ := he
      have hr := hρ _ _ _ hy hv
      have hvs : ∃ us, ρ x = .tuple us ∧ VRels φ vs.toList us.toList := by
        generalize ρ x = u at hr
        cases hr with
        | tuple xs ys e hr => exact ⟨ys, rfl, .of_arrays e hr⟩
      obtain ⟨us, hus, hrel⟩ := hvs
      obtain ⟨u, hu, hru⟩ := hrel.get (i := i) (v := v') (by simpa using hv')
      refine .of_value (s := Instr.extract (ρ x) i) hs hh (u := u) ?_ hru
      have : us[i]? = some u := by simpa using hu
      simp [Instr.extract, hus, this]
    · simp at ha
  case call c =>
    split at hc
    · rename_i b xs hb hx
      have := cBuiltin_sound (t := ty) (consts := c.args.map fun | .const _ => true | _ => false) hs hh hG hρ hx hc ha hf
      obtain ⟨nx, u, φ', T', w', h1, h2, h3, h4⟩ := this
      refine ⟨nx, u, φ', T', w', ?_, h2, h3, h4⟩
      simp only [execOp, resolve, hb, Sem.run_bind, Sem.run_pure, Result.andThen_ok, invoke]
      exact h1
    · rename_i f xs hf hx
      obtain ⟨f', hf', rfl⟩ := optmap hc
      simp [aev] at ha
    · simp at hc

end
end
end Go.Proofs.YtkaibjdogeikbaaDoor.Am
