/- The evaluator of the abstract machine, part D4: what it finds is a derivation. -/
import Derived.Test.YtkaibjdogeikbaaDoorD1
namespace Go.Proofs.YtkaibjdogeikbaaDoor.Am
noncomputable section

/- THE EVALUATOR AGAIN, by recursors alone: for the kernel. -/
abbrev RunOut := Option (Option Value × AHeap × Nat × List Nat)
def finK (n : Nat) (log : List Nat) (r : Option (Value × AHeap × Nat)) : RunOut := match r with
  | some (v, h', n') => bif Nat.ble n n' then some (some v, h', n', log) else none
  | none => none
def refsX (r : Option Value) : List Nat := match r with | some v => refsOf v | none => []
def callK (call : CallEv) (σ : Fr) (h : AHeap) (n : Nat) (f : X) (xs : List X) : RunOut := match X.ev σ h f, mapX (X.ev σ h) xs with
  | some (.func (.func g) first captured), some vs => match call g (first.toList ++ vs ++ captured.toList) h n with
    | some (v, h', n', log) => some (some v, h', n', log)
    | none => none
  | _, _ => none
def runK (call : CallEv) (σ : Fr) (h : AHeap) (n : Nat) (op : AOp) : RunOut :=
  AOp.rec (motive := fun _ => RunOut)
    (fun x0 => finK n [] (ev_mov (X.ev σ h) h n x0))
    (fun x0 x1 x2 => finK n [] (ev_pick (X.ev σ h) h n x0 x1 x2))
    (fun x0 x1 => finK n [] (ev_alloc h n x0 x1))
    (fun x0 x1 => finK n [] (ev_box (X.ev σ h) h n x0 x1))
    (fun x0 x1 => finK n [] (ev_build (X.ev σ h) h n x0 x1))
    (fun x0 x1 x2 x3 x4 => finK n [] (ev_buildSlice (X.ev σ h) h n x0 x1 x2 x3 x4))
    (fun x0 x1 => finK n [] (ev_load (X.ev σ h) h n x0 x1))
    (fun x0 x1 x2 => finK n (refsX (X.ev σ h x1)) (ev_store (X.ev σ h) h n x0 x1 x2))
    (fun x0 => finK n [] (ev_nilCheck (X.ev σ h) h n x0))
    (fun x0 x1 x2 => finK n [] (ev_bin (X.ev σ h) h n x0 x1 x2))
    (fun x0 x1 x2 x3 x4 => finK n [] (ev_eqv (X.ev σ h) h n x0 x1 x2 x3 x4))
    (fun x0 x1 x2 x3 => finK n [] (ev_eqAgg (X.ev σ h) h n x0 x1 x2 x3))
    (fun x0 x1 => finK n [] (ev_un (X.ev σ h) h n x0 x1))
    (fun x0 x1 => finK n [] (ev_conv (X.ev σ h) h n x0 x1))
    (fun x0 => finK n [] (ev_same (X.ev σ h) h n x0))
    (fun x0 x1 => finK n [] (ev_bytesOf (X.ev σ h) h n x0 x1))
    (fun x0 => finK n [] (ev_strOf (X.ev σ h) h n x0))
    (fun x0 x1 x2 => finK n [] (ev_sliceStr (X.ev σ h) h n x0 x1 x2))
    (fun x0 x1 x2 x3 x4 => finK n [] (ev_slice (X.ev σ h) h n x0 x1 x2 x3 x4))
    (fun x0 x1 x2 x3 x4 => finK n [] (ev_sliceArr (X.ev σ h) h n x0 x1 x2 x3 x4))
    (fun x0 x1 => finK n [] (ev_fieldAddr (X.ev σ h) h n x0 x1))
    (fun x0 x1 x2 => finK n [] (ev_field (X.ev σ h) h n x0 x1 x2))
    (fun x0 x1 x2 => finK n [] (ev_indexAddr (X.ev σ h) h n x0 x1 x2))
    (fun x0 x1 x2 x3 => finK n [] (ev_indexArr (X.ev σ h) h n x0 x1 x2 x3))
    (fun x0 x1 x2 x3 x4 => finK n [] (ev_index (X.ev σ h) h n x0 x1 x2 x3 x4))
    (fun x0 x1 => finK n [] (ev_indexStr (X.ev σ h) h n x0 x1))
    (fun x0 x1 => finK n [] (ev_extract (X.ev σ h) h n x0 x1))
    (fun x0 => finK n [] (ev_lenStr (X.ev σ h) h n x0))
    (fun x0 => finK n [] (ev_lenSlice (X.ev σ h) h n x0))
    (fun x0 => finK n [] (ev_lenConst h n x0))
    (fun x0 x1 x2 x3 x4 => finK n (refsX (X.ev σ h x3)) (ev_append (X.ev σ h) h n x0 x1 x2 x3 x4))
    (fun x0 x1 x2 => finK n (refsX (X.ev σ h x1)) (ev_copy (X.ev σ h) h n x0 x1 x2))
    (fun x0 => finK n [] (ev_min (X.ev σ h) h n x0))
    (fun x0 => finK n [] (ev_max (X.ev σ h) h n x0))
    (fun x0 x1 x2 => finK n [] (ev_makeFunc (X.ev σ h) h n x0 x1 x2))
    (fun x0 x1 => finK n [] (ev_makeIface (X.ev σ h) h n x0 x1))
    (fun x0 x1 x2 x3 x4 x5 => finK n [] (ev_makeSlice (X.ev σ h) h n x0 x1 x2 x3 x4 x5))
    (fun x0 x1 x2 x3 x4 => finK n [] (ev_lookup (X.ev σ h) h n x0 x1 x2 x3 x4))
    (callK call σ h n)
    (finK n [] (ev_fail))
    (fun x0 => finK n [] (ev_cap (X.ev σ h) h n x0))
    (fun x0 => finK n [] (ev_sliceData (X.ev σ h) h n x0))
    (fun x0 x1 x2 => finK n (refsX (X.ev σ h x1)) (ev_unsafeString (X.ev σ h) h n x0 x1 x2))
    (fun x0 => finK n [] (ev_toUnsafe (X.ev σ h) h n x0))
    (fun x0 x1 x2 => finK n [] (ev_fromUnsafe (X.ev σ h) h n x0 x1 x2))
    op
def pureK (op : AOp) : Bool :=
  AOp.rec (motive := fun _ => Bool)
    (fun _ => true)
    (fun _ _ _ => true)
    (fun _ _ => false)
    (fun _ _ => false)
    (fun _ _ => true)
    (fun _ _ _ _ _ => false)
    (fun _ _ => true)
    (fun _ _ _ => false)
    (fun _ => true)
    (fun _ _ _ => true)
    (fun _ _ _ _ _ => true)
    (fun _ _ _ _ => true)
    (fun _ _ => true)
    (fun _ _ => true)
    (fun _ => true)
    (fun _ _ => false)
    (fun _ => true)
    (fun _ _ _ => true)
    (fun _ _ _ _ _ => true)
    (fun _ _ _ _ _ => true)
    (fun _ _ => true)
    (fun _ _ _ => true)
    (fun _ _ _ => true)
    (fun _ _ _ _ => true)
    (fun _ _ _ _ _ => true)
    (fun _ _ => true)
    (fun _ _ => true)
    (fun _ => true)
    (fun _ => true)
    (fun _ => true)
    (fun _ _ _ _ _ => false)
    (fun _ _ _ => false)
    (fun _ => true)
    (fun _ => true)
    (fun _ _ _ => true)
    (fun _ _ => true)
    (fun _ _ _ _ _ _ => false)
    (fun _ _ _ _ _ => true)
    (fun _ _ => false)
    (true)
    (fun _ => true)
    (fun _ => true)
    (fun _ _ _ => false)
    (fun _ => true)
    (fun _ _ _ => true)
    op
theorem pureK_eq (op : AOp) : pureK op = op.pure := by cases op <;> rfl
theorem runK_eq (call : CallEv) (o : AOper) (σ : Fr) (h : AHeap) (n : Nat) : runK call σ h n o.op = evRun call o σ h n := by
  obtain ⟨d, op, g, deps⟩ := o
  cases op <;> first | rfl | (simp only [runK, evRun, callK]; rfl)

def opK (call : CallEv) (o : AOper) (σ : Fr) (h : AHeap) (n : Nat) : RunOut :=
  Option.rec (motive := fun _ => RunOut) (runK call σ h n o.op)
    (fun p => match σ.get p.1 with
      | some (.bool c) => bif c == p.2 then runK call σ h n o.op else some (some undef, h, n, [])
      | some (.tuple vs) => bif vs.toList.isEmpty then some (some undef, h, n, []) else none
      | _ => none) o.guard
theorem opK_eq (call : CallEv) (o : AOper) (σ : Fr) (h : AHeap) (n : Nat) : opK call o σ h n = evOp call o σ h n := by
  unfold opK evOp
  rw [runK_eq]
  cases o.guard with
  | none => rfl
  | some p => rfl
def opsK (call : CallEv) (l : List AOper) : Fr → AHeap → Nat → List Nat → Option (Fr × AHeap × Nat × List Nat) :=
  List.rec (motive := fun _ => Fr → AHeap → Nat → List Nat → Option (Fr × AHeap × Nat × List Nat)) (fun σ h n log => some (σ, h, n, log))
    (fun o _ ih σ h n log => Option.rec (motive := fun _ => Option (Fr × AHeap × Nat × List Nat)) none (fun r => ih (setDst σ o.dst r.1) r.2.1 r.2.2.1 (r.2.2.2 ++ log)) (opK call o σ h n)) l
theorem opsK_eq (call : CallEv) : ∀ (l : List AOper) (σ : Fr) (h : AHeap) (n : Nat) (log : List Nat), opsK call l σ h n log = evOps call l σ h n log
  | [], _, _, _, _ => rfl
  | o :: l, σ, h, n, log => by
    show Option.rec (motive := fun _ => Option (Fr × AHeap × Nat × List Nat)) none (fun r => opsK call l (setDst σ o.dst r.1) r.2.1 r.2.2.1 (r.2.2.2 ++ log)) (opK call o σ h n) = _
    simp only [evOps, opK_eq]
    cases evOp call o σ h n with
    | none => rfl
    | some r => obtain ⟨a, b, c, d⟩ := r; exact opsK_eq call l _ _ _ _
abbrev DrawOut := Option (List Rec × Fr × AHeap × Nat × List Nat)
def consK (c : Rec) : DrawOut → DrawOut
  | some (rs, σ', h', n', log') => some (c :: rs, σ', h', n', log')
  | none => none
def drawK (call : CallEv) (pairs : List (Nat × Nat)) (l : List AOper) : Nat → Fr → AHeap → Nat → List Nat → List (Nat × List Nat) → DrawOut :=
  List.rec (motive := fun _ => Nat → Fr → AHeap → Nat → List Nat → List (Nat × List Nat) → DrawOut) (fun _ σ h n log _ => some ([], σ, h, n, log))
    (fun o _ ih j σ h n log chs => Option.rec (motive := fun _ => DrawOut) none
      (fun r => bif pureK o.op then consK ⟨smallHeap o σ h (badOf pairs j chs), n, r.1, smallHeap o σ h (badOf pairs j chs), r.2.2.1, []⟩ (ih (j + 1) (setDst σ o.dst r.1) h r.2.2.1 log chs)
        else bif Rec.okB ⟨smallHeap o σ h (badOf pairs j chs), n, r.1, r.2.1, r.2.2.1, r.2.2.2 ++ (r.2.1.filter fun q => Nat.ble n q.1).map (·.1)⟩ then
          consK ⟨smallHeap o σ h (badOf pairs j chs), n, r.1, r.2.1, r.2.2.1, r.2.2.2 ++ (r.2.1.filter fun q => Nat.ble n q.1).map (·.1)⟩
            (ih (j + 1) (setDst σ o.dst r.1) (h.puts r.2.1 (r.2.2.2 ++ (r.2.1.filter fun q => Nat.ble n q.1).map (·.1))) r.2.2.1 (r.2.2.2 ++ log) ((j, r.2.2.2 ++ (r.2.1.filter fun q => Nat.ble n q.1).map (·.1)) :: chs))
        else none)
      (opK call o (σ.restrict o.reads) (smallHeap o σ h (badOf pairs j chs)) n)) l
theorem drawK_eq (call : CallEv) (pairs : List (Nat × Nat)) : ∀ (l : List AOper) (j : Nat) (σ : Fr) (h : AHeap) (n : Nat) (log : List Nat) (chs : List (Nat × List Nat)), drawK call pairs l j σ h n log chs = evDraw call pairs l j σ h n log chs
  | [], _, _, _, _, _, _ => rfl
  | o :: l, j, σ, h, n, log, chs => by
    show Option.rec (motive := fun _ => DrawOut) none
      (fun r => bif pureK o.op then consK ⟨smallHeap o σ h (badOf pairs j chs), n, r.1, smallHeap o σ h (badOf pairs j chs), r.2.2.1, []⟩ (drawK call pairs l (j + 1) (setDst σ o.dst r.1) h r.2.2.1 log chs)
        else bif Rec.okB ⟨smallHeap o σ h (badOf pairs j chs), n, r.1, r.2.1, r.2.2.1, r.2.2.2 ++ (r.2.1.filter fun q => Nat.ble n q.1).map (·.1)⟩ then
          consK ⟨smallHeap o σ h (badOf pairs j chs), n, r.1, r.2.1, r.2.2.1, r.2.2.2 ++ (r.2.1.filter fun q => Nat.ble n q.1).map (·.1)⟩
            (drawK call pairs l (j + 1) (setDst σ o.dst r.1) (h.puts r.2.1 (r.2.2.2 ++ (r.2.1.filter fun q => Nat.ble n q.1).map (·.1))) r.2.2.1 (r.2.2.2 ++ log) ((j, r.2.2.2 ++ (r.2.1.filter fun q => Nat.ble n q.1).map (·.1)) :: chs))
        else none)
      (opK call o (σ.restrict o.reads) (smallHeap o σ h (badOf pairs j chs)) n) = _
    simp only [evDraw, opK_eq, pureK_eq]
    cases evOp call o (σ.restrict o.reads) (smallHeap o σ h (badOf pairs j chs)) n with
    | none => rfl
    | some r =>
      obtain ⟨a, b, c, d⟩ := r
      simp only [drawK_eq call pairs l]
      cases o.op.pure <;> simp only [cond_true, cond_false]
      · split <;> (rename_i hx; rw [hx]; rfl)
      · rfl
abbrev CodeOut := Option (Ex × Fr × AHeap × Nat × List Nat)
def thenK (log1 : List Nat) : CodeOut → CodeOut
  | some (e, σ', h', n', log) => some (e, σ', h', n', log ++ log1)
  | none => none
def endK (id : Nat) : CodeOut → CodeOut
  | some (.exit j, σ', h', n', log) => bif Nat.beq j id then some (.normal, σ', h', n', log) else some (.exit j, σ', h', n', log)
  | r => r
def regK : Option (Fr × AHeap × Nat × List Nat) → CodeOut
  | some (σ', h', n', log) => some (.normal, σ', h', n', log)
  | none => none
def dregK (pairs : List (Nat × Nat)) : DrawOut → CodeOut
  | some (recs, σ', h', n', log) => bif pairsB pairs recs then some (.normal, σ', h', n', log) else none
  | none => none
/-- What comes behind. -/
def bindK (r : CodeOut) (k : Fr → AHeap → Nat → CodeOut) : CodeOut :=
  Option.rec (motive := fun _ => CodeOut) none (fun p => Ex.rec (motive := fun _ => CodeOut) (thenK p.2.2.2.2 (k p.2.1 p.2.2.1 p.2.2.2.1)) (fun j => some (.exit j, p.2)) (some (.ret, p.2)) p.1) r
def condK (v : Option Value) (a b : CodeOut) : CodeOut := match v with
  | some (.bool true) => a
  | some (.bool false) => b
  | _ => none
def codeK (E : EEnv) (k : Nat) : CodeEv :=
  Nat.rec (motive := fun _ => CodeEv) (fun _ _ _ _ => none)
    (fun _ ih c σ h n => ACode.rec (motive := fun _ => CodeOut) (some (.normal, σ, h, n, []))
      (fun l pr => Option.rec (motive := fun _ => CodeOut) (regK (opsK (evCall E ih) l σ h n [])) (fun pairs => dregK pairs (drawK (evCall E ih) pairs l 0 σ h n [] [])) pr)
      (fun a b _ _ => bindK (ih a σ h n) (ih b))
      (fun x a b _ _ => condK (X.ev σ h x) (ih a σ h n) (ih b σ h n))
      (fun id a _ => endK id (ih a σ h n))
      (fun a _ => bindK (ih a σ h n) (ih (.loop a)))
      (fun id => some (.exit id, σ, h, n, []))
      (some (.ret, σ, h, n, []))
      none c) k
theorem bindK_eq (r : CodeOut) (k : Fr → AHeap → Nat → CodeOut) : bindK r k = match r with
    | some (.normal, σ1, h1, n1, log1) => match k σ1 h1 n1 with
      | some (e, σ', h', n', log) => some (e, σ', h', n', log ++ log1)
      | none => none
    | r => r := by
  cases r with
  | none => rfl
  | some p =>
    obtain ⟨e, σ, h, n, log⟩ := p
    cases e <;> first | rfl | (simp only [bindK]; cases k σ h n <;> rfl)
theorem codeK_eq (E : EEnv) : ∀ (k : Nat) (c : ACode) (σ : Fr) (h : AHeap) (n : Nat), codeK E k c σ h n = evCode E k c σ h n
  | 0, _, _, _, _ => rfl
  | k + 1, c, σ, h, n => by
    have ih : codeK E k = evCode E k := funext fun c => funext fun σ => funext fun h => funext fun n => codeK_eq E k c σ h n
    have hs : ∀ c, codeK E (k + 1) c σ h n = ACode.rec (motive := fun _ => CodeOut) (some (.normal, σ, h, n, []))
      (fun l pr => Option.rec (motive := fun _ => CodeOut) (regK (opsK (evCall E (codeK E k)) l σ h n [])) (fun pairs => dregK pairs (drawK (evCall E (codeK E k)) pairs l 0 σ h n [] [])) pr)
      (fun a b _ _ => bindK (codeK E k a σ h n) (codeK E k b))
      (fun x a b _ _ => condK (X.ev σ h x) (codeK E k a σ h n) (codeK E k b σ h n))
      (fun id a _ => endK id (codeK E k a σ h n))
      (fun a _ => bindK (codeK E k a σ h n) (codeK E k (.loop a)))
      (fun id => some (.exit id, σ, h, n, []))
      (some (.ret, σ, h, n, []))
      none c := fun _ => rfl
    rw [hs, ih]
    cases c with
    | region l pr =>
      cases pr with
      | none => simp only [evCode, opsK_eq]; cases evOps (evCall E (evCode E k)) l σ h n [] <;> rfl
      | some pairs => simp only [evCode, drawK_eq]; cases evDraw (evCall E (evCode E k)) pairs l 0 σ h n [] [] <;> rfl
    | seq a b => simp only [evCode, bindK_eq]; rfl
    | loop a => simp only [evCode, bindK_eq]; rfl
    | cond x a b => rfl
    | block id a => rfl
    | _ => rfl
end
end Go.Proofs.YtkaibjdogeikbaaDoor.Am
