/- The soundness of code and calls of the abstract machine, part C6: every derivation of the abstract machine is a run of the model. -/
import Derived.Test.YtkaibjdogeikbaaDoorC5
import Derived.LoopN
namespace Go.Proofs.YtkaibjdogeikbaaDoor.Am
noncomputable section
open Go.RowKit (Below)

section
variable {P : Program} {w0 : World}

def SoundRounds (P : Program) (w0 : World) (c : ACode) (σ : Fr) (h : AHeap) (n : Nat) (e : Ex) (σ' : Fr) (h' : AHeap) (n' : Nat) : Prop :=
  ∃ N : Nat, ∀ (cc : Code) (ntmps : Nat), cCode P ntmps cc = some c → ∀ φ T w a, Sat 4096 w0 φ T w → Sub h T → Fresh φ T n n' → 4096 ≤ n → FrameRel φ σ a → a.tmps.size = ntmps →
    ∀ (Q : Exit → Act → World → Prop), (∀ φ' T' w' a', Post 4096 w0 φ T h n φ' T' w' h' n' → FrameRel φ' σ' a' → a'.tmps.size = ntmps → a'.defers = a.defers → Q e.conv a' w') → Code.rounds P cc Q N a w

theorem rounds_loop {c : ACode} {σ : Fr} {h : AHeap} {n : Nat} {e : Ex} {σ' : Fr} {h' : AHeap} {n' : Nat} (x : SoundRounds P w0 c σ h n e σ' h' n') : SoundCode P w0 (.loop c) σ h n e σ' h' n' := by
  intro cc ntmps hc φ T w ac hs hh hf hG hfr hsz Q hQ
  obtain ⟨cx, rfl, hx⟩ := cCode_loop hc
  obtain ⟨N, hN⟩ := x
  exact wp_loop_rounds N (hN cx ntmps hx φ T w ac hs hh hf hG hfr hsz Q hQ)

theorem rounds_more {c : ACode} {σ : Fr} {h : AHeap} {n : Nat} {σ1 : Fr} {h1 : AHeap} {n1 : Nat} {e : Ex} {σ' : Fr} {h' : AHeap} {n' : Nat} (m1 : n ≤ n1) (m2 : n1 ≤ n') (x : SoundCode P w0 c σ h n .normal σ1 h1 n1)
    (y : SoundRounds P w0 c σ1 h1 n1 e σ' h' n') : SoundRounds P w0 c σ h n e σ' h' n' := by
  obtain ⟨N, hN⟩ := y
  refine ⟨N + 1, fun cc ntmps hc φ T w ac hs hh hf hG hfr hsz Q hQ => ?_⟩
  refine x cc ntmps hc φ T w ac hs hh (hf.left m2) hG hfr hsz _ fun φ1 T1 w1 a1 hp hfr1 hsz1 hdf => ?_
  exact hN cc ntmps hc φ1 T1 w1 a1 hp.sat hp.sub (hf.right hh hp) (by omega) hfr1 hsz1 Q fun φ2 T2 w2 a2 hp2 hfr2 hsz2 hdf2 => hQ φ2 T2 w2 a2 (hp.trans hp2) hfr2 hsz2 (by rw [hdf2, hdf])

theorem rounds_stop {c : ACode} {σ : Fr} {h : AHeap} {n : Nat} {e : Ex} {σ' : Fr} {h' : AHeap} {n' : Nat} (x : SoundCode P w0 c σ h n e σ' h' n') (he : e ≠ .normal) : SoundRounds P w0 c σ h n e σ' h' n' := by
  refine ⟨1, fun cc ntmps hc φ T w ac hs hh hf hG hfr hsz Q hQ => ?_⟩
  refine x cc ntmps hc φ T w ac hs hh hf hG hfr hsz _ fun φ1 T1 w1 a1 hp hfr1 hsz1 hdf => ?_
  have := hQ φ1 T1 w1 a1 hp hfr1 hsz1 hdf
  cases e <;> first | exact absurd rfl he | exact this

theorem evRes_sound {φ : Phi} {T : TH} {w : World} {h : AHeap} {σ : Fr} {a : Act} (hs : Sat 4096 w0 φ T w) (hh : Sub h T) (hfr : FrameRel φ σ a) : ∀ (rs : List ResultVar) (as : List ARes) (vs : List Value), cRes P rs = some as → evRes σ h as = some vs →
    ∃ us, (rs.mapM fun | .tmp t => Pure.pure (a.tmps.getD t undef) | .cell ad t => do loadVar t (← asAddr (a.tmps.getD ad undef)) : Sem (List Value)).run P w = .ok us w ∧ VRels φ vs us
  | [], as, vs, hc, he => by simp [cRes] at hc; subst hc; simp [evRes] at he; subst he; exact ⟨[], by simp, .nil⟩
  | .tmp t :: rs, as, vs, hc, he => by
    simp only [cRes] at hc
    obtain ⟨r, hr, rfl⟩ := optmap hc
    simp only [evRes] at he
    split at he
    · rename_i v vs' hv hvs
      simp at he
      subst he
      obtain ⟨us, h1, h2⟩ := evRes_sound hs hh hfr rs r vs' hr hvs
      obtain ⟨u, hu, hru⟩ := hfr t v hv
      refine ⟨u :: us, ?_, .cons hru h2⟩
      simp only [List.mapM_cons, Sem.run_bind, Sem.run_pure, Result.andThen_ok, h1]
      simp [hu]
    · simp at he
  | .cell t ty :: rs, as, vs, hc, he => by
    simp only [cRes] at hc
    split at hc
    · rename_i m r hm hr
      simp at hc
      subst hc
      simp only [evRes] at he
      split at he
      · rename_i v x1 x2 vs' hv hvs
        simp at he
        subst he
        obtain ⟨us, h1, h2⟩ := evRes_sound hs hh hfr rs r vs' hr hvs
        simp only [aev] at hv
        split at hv
        · rename_i i o g ht
          obtain ⟨u, hu, hru⟩ := hfr t _ ht
          have hload : ∃ u', (Instr.loadAt ty u).run P w = .ok u' w ∧ VRel φ v u' := by
            cases m with
            | none =>
              simp only at hv
              split at hv
              · rename_i v' hread
                simp only [Option.some.injEq, Prod.mk.injEq] at hv
                obtain ⟨rfl, _, _⟩ := hv
                exact load_does (P := P) hs hh hm hru rfl (v := v') (by simp only [hread])
              · simp at hv
            | some m =>
              simp only at hv
              obtain ⟨vs0, hread, he0⟩ := optmap hv
              simp only [Prod.mk.injEq] at he0
              obtain ⟨rfl, _, _⟩ := he0
              exact load_does (P := P) hs hh hm hru rfl (v := .agg vs0.toArray) (by simp only [hread, Option.map_some])
          obtain ⟨u', h3, h4⟩ := hload
          refine ⟨u' :: us, ?_, .cons h4 h2⟩
          obtain ⟨ad, rfl⟩ : ∃ ad, u = .pointer (some ad) := by cases hru; exact ⟨_, rfl⟩
          have hu2 : a.tmps.getD t undef = .pointer (some ad) := by simp [hu]
          simp only [Instr.loadAt, Instr.sureAddr, Sem.run_bind, Sem.run_pure, Result.andThen_ok] at h3
          have has : (asAddr (.pointer (some ad)) : Sem Addr) = Pure.pure ad := rfl
          simp only [List.mapM_cons, Sem.run_bind, hu2, has, Sem.run_pure, Result.andThen_ok, h3, h1]
        · simp at hv
      · simp at he
    · simp at hc

theorem argFr_get : ∀ (vs : List Value) (i t : Nat), (argFr i vs).get t = if i ≤ t then vs[t - i]? else none
  | [], i, t => by simp [argFr, Fr.get_nil]
  | v :: vs, i, t => by
    simp only [argFr, Fr.get_cons]
    split
    · rename_i h; subst h; simp
    · rename_i h
      rw [argFr_get vs (i + 1) t]
      by_cases hit : i ≤ t
      · rw [if_pos (by omega), if_pos hit]
        obtain ⟨k, hk⟩ : ∃ k, t - i = k + 1 := ⟨t - i - 1, by omega⟩
        rw [hk, show t - (i + 1) = k from by omega]
        simp
      · rw [if_neg (by omega), if_neg hit]

theorem call_sound {fn : Func} {f : Nat} (hfn : P.funcs[f]? = some fn) (hname : (fn.name == "runtime.NumGoroutine") = false) {af : AFunc} (hc : cFunc P fn = some af) {args : List Value} {h : AHeap} {n : Nat} {e : Ex} {σ' : Fr} {h1 : AHeap}
    {n' : Nat} {vs : List Value} {h' : AHeap} (hargs : args.length ≤ af.ntmps) (x : SoundCode P w0 af.body (argFr 0 args) h n e σ' h1 n') (pe : e = .normal ∨ e = .ret) (pr : evRes σ' h1 af.results = some vs) (ph : HSub h' h1) :
    SoundCall P w0 f args h n (resVal vs) h' n' := by
  intro φ T w cargs hs hh hf hG hra
  unfold cFunc at hc
  split at hc
  · simp at hc
  · rename_i c hbody
    split at hc
    · rename_i b r hb hr
      simp at hc
      subst hc
      intro o a K Q hK
      have hrun : (callFunc f cargs.toArray).run P w = .ok (.enter f cargs.toArray) w := by
        simp only [callFunc, Sem.run_bind, run_program, Result.andThen_ok, hfn, hname, hbody, Bool.false_eq_true, if_false, Option.isNone_some, Sem.run_pure]
      rw [hrun]
      simp only [Oper.upon]
      have hlen := hra.length
      refine calls_of_wp hfn hbody ?_
      refine x c fn.ntmps hb φ T w _ hs hh hf hG (fun t v hv => ?_) ?_ _ fun φ' T' w' a' hp hfr' hsz' hdf => ?_
      · rw [argFr_get] at hv
        simp only [Nat.zero_le, if_true, Nat.sub_zero] at hv
        obtain ⟨u, hu, hru⟩ := hra.get hv
        refine ⟨u, ?_, hru⟩
        have hlt := (List.getElem?_eq_some_iff.1 hu).1
        rw [Array.getElem?_append_left (by simpa using hlt)]
        simpa using hu
      · simp only [Array.size_append, List.size_toArray, Array.size_replicate]
        simp only at hargs
        omega
      · obtain ⟨us, h2, h3⟩ := evRes_sound (P := P) hp.sat hp.sub hfr' fn.results.toList r vs hr pr
        have hres : ∃ cv, (results fn a'.tmps).run P w' = .ok cv w' ∧ VRel φ' (resVal vs) cv := by
          have hm : (fn.results.mapM fun | .tmp t => Pure.pure (a'.tmps.getD t undef) | .cell ad t => do loadVar t (← asAddr (a'.tmps.getD ad undef)) : Sem (Array Value)).run P w' = .ok us.toArray w' := by
            rw [Array.mapM_eq_mapM_toList]
            simp only [Sem.run_map, h2, Result.andThen_ok]
          unfold results
          simp only [Sem.run_bind, Sem.run_pure]
          refine ⟨_, congrArg (fun r => Result.andThen r fun vs w' => Result.ok (if h : vs.size = 1 then vs[0] else Value.tuple vs) w') hm, ?_⟩
          cases h3 with
          | nil => exact VRels.tuple .nil
          | cons hx ht =>
            cases ht with
            | nil => exact hx
            | cons hy ht => exact VRels.tuple (.cons hx (.cons hy ht))
        obtain ⟨cv, h4, h5⟩ := hres
        have hfin : K (a.put o.dst cv) w' := hK cv w' ⟨φ', T', h5, hp.sub' ph⟩
        have hd : a'.defers = [] := hdf
        rcases pe with rfl | rfl
        · exact ⟨hd, cv, h4, hfin⟩
        · exact ⟨hd, cv, h4, hfin⟩
    · simp at hc

theorem frame_sound {f : Nat} {args : List Value} {h0 h : AHeap} {n : Nat} {v : Value} {h0' h' : AHeap} {n' : Nat} (x : SoundCall P w0 f args h0 n v h0' n') (ps : HSub h0 h) (pf : Framed h h0 n h0' n' h') : SoundCall P w0 f args h n v h' n' := by
  intro φ T w cargs hs hh hf hG hra o a K Q hK
  refine x φ T w cargs hs (fun i b hb => hh i b (ps i b hb)) hf hG hra o a K Q fun u w' ⟨φ', T', h1, h2⟩ => hK u w' ⟨φ', T', h1, h2.framed hh ps pf⟩

theorem lift_sound {f : Nat} {args : List Value} {h : AHeap} {n : Nat} {v : Value} {h' : AHeap} {n1 n' : Nat} (x : SoundCall P w0 f args h n v h' n1) (pm : n1 ≤ n') : SoundCall P w0 f args h n v h' n' := by
  intro φ T w cargs hs hh hf hG hra o a K Q hK
  refine x φ T w cargs hs hh (hf.left pm) hG hra o a K Q fun u w' ⟨φ', T', h1, h2⟩ => hK u w' ⟨φ', T', h1, h2.lift pm⟩

theorem early_sound {f : Nat} {args : List Value} {h : AHeap} {n n0 : Nat} {v : Value} {h' : AHeap} {n' : Nat} (x : SoundCall P w0 f args h n0 v h' n') (pm : n ≤ n0) : SoundCall P w0 f args h n v h' n' := by
  intro φ T w cargs hs hh hf hG hra o a K Q hK
  refine x φ T w cargs hs hh (fun i h1 h2 => hf i (by omega) h2) (by omega) hra o a K Q fun u w' ⟨φ', T', h1, h2⟩ => hK u w' ⟨φ', T', h1, h2.early pm⟩

def Sound (P : Program) (w0 : World) : J → Prop
  | .op o σ h n r h' n' => SoundOp P w0 o σ h n r h' n'
  | .ops l σ h n σ' h' n' => SoundOps P w0 l σ h n σ' h' n'
  | .draw l σ h n recs σ' h' n' => SoundDraw P w0 l σ h n recs σ' h' n'
  | .code c σ h n e σ' h' n' => SoundCode P w0 c σ h n e σ' h' n' ∧ ∀ b, c = .loop b → SoundRounds P w0 b σ h n e σ' h' n'
  | .call f args h n v h' n' => SoundCall P w0 f args h n v h' n'

/-- The functions' code is the program's; what is known otherwise holds. -/
structure EnvOk (P : Program) (w0 : World) (E : Env) : Prop where
  mixed : P.follows .mixedOrders = true
  fs : ∀ f af, E.fs f = some af → ∃ fn, P.funcs[f]? = some fn ∧ (fn.name == "runtime.NumGoroutine") = false ∧ cFunc P fn = some af
  orc : ∀ f args h n v h' n', E.orc f args h n v h' n' → SoundCall P w0 f args h n v h' n'

theorem Big.sound {E : Env} (hE : EnvOk P w0 E) {j : J} (h : Big E j) : Sound P w0 j := by
  induction h with
  | prim pg pa _ => exact prim_sound pg pa
  | skip pg pd => exact skip_sound pg pd
  | skipOff pg pd => exact skipOff_sound pg pd
  | opCall pg po pf px _ ih => exact opCall_sound pg po pf px ih
  | opsNil => exact opsNil_sound
  | opsCons p1 p2 ih1 ih2 => exact opsCons_sound p1.le p2.le ih1 ih2
  | drawNil => exact drawNil_sound
  | drawCons p1 ps pok p2 ih1 ih2 => exact drawCons_sound p1.le p2.le ih1 ps pok ih2
  | cskip =>
    refine ⟨fun cc ntmps hc φ T w a hs hh hf hG hfr hsz Q hQ => ?_, fun b hb => by cases hb⟩
    obtain rfl := cCode_skip hc
    exact wp_skip (hQ φ T w a (.refl hs hh) hfr hsz rfl)
  | region p1 ih => exact ⟨region_sound ih, fun b hb => by cases hb⟩
  | regionDraw p1 pp ih => exact ⟨regionDraw_sound hE.mixed ih p1.le pp, fun b hb => by cases hb⟩
  | seq x y ih1 ih2 => exact ⟨seq_sound x.le y.le ih1.1 ih2.1, fun b hb => by cases hb⟩
  | seqStop x he ih => exact ⟨seqStop_sound ih.1 he, fun b hb => by cases hb⟩
  | cond pc x ih => exact ⟨cond_sound pc ih.1, fun b hb => by cases hb⟩
  | block x pe ih => exact ⟨block_sound ih.1 pe, fun b hb => by cases hb⟩
  | blockExit x ih => exact ⟨blockExit_sound ih.1, fun b hb => by cases hb⟩
  | loop x y ih1 ih2 =>
    have hr := rounds_more x.le y.le ih1.1 (ih2.2 _ rfl)
    exact ⟨rounds_loop hr, fun b hb => by cases hb; exact hr⟩
  | loopStop x pe ih =>
    have hr := rounds_stop ih.1 pe
    exact ⟨rounds_loop hr, fun b hb => by cases hb; exact hr⟩
  | exit =>
    refine ⟨fun cc ntmps hc φ T w a hs hh hf hG hfr hsz Q hQ => ?_, fun b hb => by cases hb⟩
    obtain rfl := cCode_exit hc
    exact wp_exit (hQ φ T w a (.refl hs hh) hfr hsz rfl)
  | ret =>
    refine ⟨fun cc ntmps hc φ T w a hs hh hf hG hfr hsz Q hQ => ?_, fun b hb => by cases hb⟩
    obtain rfl := cCode_ret hc
    exact wp_ret (hQ φ T w a (.refl hs hh) hfr hsz rfl)
  | weak x pσ ph ih =>
    refine ⟨fun cc ntmps hc φ T w a hs hh hf hG hfr hsz Q hQ => ih.1 cc ntmps hc φ T w a hs hh hf hG hfr hsz Q fun φ' T' w' a' hp hfr' hsz' hdf => hQ φ' T' w' a' (hp.sub' ph) (fun t v hv => hfr' t v (pσ t v hv)) hsz' hdf, fun b hb => ?_⟩
    obtain ⟨N, hN⟩ := ih.2 b hb
    exact ⟨N, fun cc ntmps hc φ T w a hs hh hf hG hfr hsz Q hQ => hN cc ntmps hc φ T w a hs hh hf hG hfr hsz Q fun φ' T' w' a' hp hfr' hsz' hdf => hQ φ' T' w' a' (hp.sub' ph) (fun t v hv => hfr' t v (pσ t v hv)) hsz' hdf⟩
  | start x pσ ph ih =>
    refine ⟨fun cc ntmps hc φ T w a hs hh hf hG hfr hsz Q hQ => ih.1 cc ntmps hc φ T w a hs (fun i b hb => hh i b (ph i b hb)) hf hG (fun t v hv => hfr t v (pσ t v hv)) hsz Q fun φ' T' w' a' hp hfr' hsz' hdf => hQ φ' T' w' a' (hp.start ph) hfr' hsz' hdf, fun b hb => ?_⟩
    obtain ⟨N, hN⟩ := ih.2 b hb
    exact ⟨N, fun cc ntmps hc φ T w a hs hh hf hG hfr hsz Q hQ => hN cc ntmps hc φ T w a hs (fun i b hb => hh i b (ph i b hb)) hf hG (fun t v hv => hfr t v (pσ t v hv)) hsz Q fun φ' T' w' a' hp hfr' hsz' hdf => hQ φ' T' w' a' (hp.start ph) hfr' hsz' hdf⟩
  | call pf pargs x pe pr ph ih =>
    obtain ⟨fn, h1, h2, h3⟩ := hE.fs _ _ pf
    exact call_sound h1 h2 h3 pargs ih.1 pe pr ph
  | frame x ps pf ih => exact frame_sound ih ps pf
  | early x pm ih => exact early_sound ih pm
  | lift x pm ih => exact lift_sound ih pm
  | orc po _ => exact hE.orc _ _ _ _ _ _ _ po

end
end
end Go.Proofs.YtkaibjdogeikbaaDoor.Am
