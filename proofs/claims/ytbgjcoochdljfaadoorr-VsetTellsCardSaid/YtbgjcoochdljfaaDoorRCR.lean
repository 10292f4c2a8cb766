/- The soundness of code and calls of the abstract machine, part CR: every derivation of the abstract machine is a run of the model. -/
import Derived.Test.YtbgjcoochdljfaaDoorRC
import Derived.Test.YtbgjcoochdljfaaDoorRD7b
import Derived.Test.YtbgjcoochdljfaaDoorREH
namespace Go.Proofs.YtbgjcoochdljfaaDoorR.Am
noncomputable section
/- FUNCTIONS THAT RANGE OVER A FUNCTION: their environment; how such a range is walked. -/
def rangesEnv (E : Env) : Env := { E with xc := XR E }
/-- The iterator's environment. -/
def yieldEnv (E : Env) (L iL : Nat) (rd : Blk) (dn : Ex → Blk) (σ0 : Fr) (ps : List Nat) (A B : ACode) : Env := { E with yl := YL E L iL rd dn σ0 ps A B }
theorem rangesEnv_ok {P : Program} {w0 : World} {E : Env} (hE : EnvOk P w0 E) : EnvOkR (fun ro => ro = none) P w0 (rangesEnv E) :=
  ⟨hE.mixed, hE.fs, hE.orc, hE.yl, fun c σ h n e σ' h' n' hx => ⟨fun b hb => (by
    obtain ⟨x, ps, A, B, σ0, gf, af, cap, v0, rfl, _⟩ := hx
    cases hb), ranges_sound hE hx⟩⟩
theorem run_callR {P : Program} {fs : FT} {ps : List (Nat × Prim)} (hm : P.follows .mixedOrders = true) (hf : fs.All (CodeAt P)) (hp : PrimsAt P ps) {w : World} {s : List Seed} (hseed : ∀ p ∈ s, SeedOk w s p) {f : Nat} {fn : Func} (hfn : P.funcs[f]? = some fn)
    (hbody : fn.body.isSome = true) (hname : (fn.name == "runtime.NumGoroutine") = false) {args cargs : List Value} {n : Nat} (hn : 4096 ≤ n) (hfr : ∀ p ∈ s, p.1 < n) (hra : VRels (phi0 s) args cargs) {v : Value} {h' : AHeap} {n' : Nat}
    (hb : Big (rangesEnv (mkEnv fs ps).env) (.call f args (heap0 s) n v h' n')) : Calls P f cargs.toArray w fun e w' => ∃ u φ', e = .returned u ∧ VRel φ' v u ∧ Go.RowKit.Below w.heap.size w w' := by
  have hsound := hb.sound (R := fun ro => ro = none) rfl (rangesEnv_ok (mkEnv_ok (w0 := w) hm hf hp))
  obtain ⟨c, hc⟩ := Option.isSome_iff_exists.1 hbody
  refine calls_of_sound hsound hfn hc hname (sat0 hseed) (fun i b hb => hb) (fun i h1 h2 => ?_) hn hra
  have hnone : lookS s i = none := by
    cases hl : lookS s i with
    | none => rfl
    | some q =>
      obtain ⟨l, b⟩ := q
      have := hfr _ (lookS_mem hl)
      simp only at this
      omega
  refine ⟨by rw [heap0_get, hnone]; rfl, fun g => by simp only [phi0, hnone]⟩
theorem Big.ranged {fs : FT} {ps : List (Nat × Prim)} {j : J} (b : Big (mkEnv fs ps).env j) : Big (rangesEnv (mkEnv fs ps).env) j :=
  Big.swap (E := rangesEnv (mkEnv fs ps).env) (E' := (mkEnv fs ps).env) (fun _ _ h => h) (fun _ _ _ _ _ _ _ ho hn => .orc ho hn) (fun _ _ _ _ _ _ _ x => x) (fun _ _ _ _ _ _ _ _ x => False.elim x) b
theorem Ret.ranged {fs : FT} {ps : List (Nat × Prim)} {f : Nat} {args : List Value} {h : AHeap} {n : Nat} {v : Value} {l : List (Nat × Blk)} {n' : Nat} (x : Ret (mkEnv fs ps).env f args h n v l n') : Ret (rangesEnv (mkEnv fs ps).env) f args h n v l n' := ⟨x.1.ranged, x.2⟩
theorem Big.yielded {fs : FT} {ps : List (Nat × Prim)} {L iL : Nat} {rd : Blk} {dn : Ex → Blk} {σ0 : Fr} {qs : List Nat} {A B : ACode} {j : J} (b : Big (mkEnv fs ps).env j) : Big (yieldEnv (mkEnv fs ps).env L iL rd dn σ0 qs A B) j :=
  Big.swap (E := yieldEnv (mkEnv fs ps).env L iL rd dn σ0 qs A B) (E' := (mkEnv fs ps).env) (fun _ _ h => h) (fun _ _ _ _ _ _ _ ho hn => .orc ho hn) (fun _ _ _ _ _ _ _ x => False.elim x) (fun _ _ _ _ _ _ _ _ x => False.elim x) b
theorem Ret.yielded {fs : FT} {ps : List (Nat × Prim)} {L iL : Nat} {rd : Blk} {dn : Ex → Blk} {σ0 : Fr} {qs : List Nat} {A B : ACode} {f : Nat} {args : List Value} {h : AHeap} {n : Nat} {v : Value} {l : List (Nat × Blk)} {n' : Nat} (x : Ret (mkEnv fs ps).env f args h n v l n') :
    Ret (yieldEnv (mkEnv fs ps).env L iL rd dn σ0 qs A B) f args h n v l n' := ⟨x.1.yielded, x.2⟩
/-- The range: the iterator's call, walked with yields. -/
theorem ranges_use {E : Env} {x : X} {ps : List Nat} {A B : ACode} {σ : Fr} {h : AHeap} {n : Nat} {Q : Ex → Fr → AHeap → Nat → Prop} {t : Tok Q} {gf : Nat} {af : AFunc} {cap : Array Value} (σ0 : Fr) (e : Ex) (v0 : Value) (h' : AHeap) (n' : Nat)
    (hx : X.ev σ h x = some (.func (.func gf) #[] cap)) (hf : E.fs gf = some af) (hσ : ∀ p ∈ σ0, Fr.get σ p.1 = some p.2)
    (hit : ∀ (L : Nat) (rd : Blk) (dn : Ex → Blk), ∃ hX, Big (yieldEnv E L n rd dn σ0 ps A B) (.call gf (.func (.yield L) #[] #[] :: cap.toList) (h.put n rd) (n + 2) v0 hX n') ∧ hX.get n = some (if isNorm e then rd else dn e) ∧ ∀ i b, h'.get i = some b → hX.get i = some b ∧ i ≠ n)
    (q : Q e σ h' n') : HasCodeT (rangesEnv E) (.ranges x ps A B) σ h n Q t := by
  obtain ⟨hX, big, _⟩ := hit 0 (.map []) (fun _ => .map [])
  have hle := big.le
  simp only [J.mono] at hle
  exact ⟨e, σ, h', n', .ext ⟨x, ps, A, B, σ0, gf, af, cap, v0, rfl, hx, hf, hσ, rfl, hit⟩ (by omega), q⟩
/-- A call of yield: a round of the body. -/
theorem yield_use {E : Env} {L iL : Nat} {rd : Blk} {dn : Ex → Blk} {σ0 : Fr} {ps : List Nat} {A B : ACode} {vs : List Value} {h : AHeap} {n : Nat} {Q : Value → AHeap → Nat → Prop} {t : Tok Q} (hB : AHeap) (hlen : vs.length = ps.length) (hg : h.get iL = some rd) (hsub : HSub hB h) (hBn : hB.get iL = none)
    (x : HasCode E A (setPs σ0 ps vs) hB n (fun e1 σ1 h1 n1 => e1 = .normal ∧ HasCode E B σ1 h1 n1 (fun e _ hb n' => Q (.bool (isNorm e)) (hb.put iL (if isNorm e then rd else dn e)) n'))) : YieldT (yieldEnv E L iL rd dn σ0 ps A B) L vs h n Q t := by
  obtain ⟨e1, σ1, h1, n1, b1, rfl, e, σb, hb, n', b2, hq⟩ := x
  have m1 := b1.le
  have m2 := b2.le
  simp only [J.mono] at m1 m2
  refine ⟨_, _, n', ⟨rfl, hlen, hg, hB, σ1, h1, n1, e, σb, hb, hsub, hBn, b1, b2, rfl, fun i b hi hb' => ?_, fun b hb' => ?_⟩, by omega, hq⟩
  · rw [AHeap.get_put_ne _ _ (fun e => hi e.symm)] at hb'; exact hb'
  · rw [AHeap.get_put_same] at hb'; exact (Option.some.inj hb').symm
end
end Go.Proofs.YtbgjcoochdljfaaDoorR.Am
