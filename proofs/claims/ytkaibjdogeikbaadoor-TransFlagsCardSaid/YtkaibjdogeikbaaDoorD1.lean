/- The evaluator of the abstract machine, part D1: what it finds is a derivation. -/
import Derived.Test.YtkaibjdogeikbaaDoorD0
namespace Go.Proofs.YtkaibjdogeikbaaDoor.Am
noncomputable section

/- An evaluator: what it finds is a derivation. -/

theorem AHeap.get_filter (h : AHeap) (p : Nat → Bool) (i : Nat) : AHeap.get (h.filter fun q => p q.1) i = if p i then h.get i else none := by
  induction h with
  | nil => simp [AHeap.get_nil]
  | cons q h ih =>
    obtain ⟨k, b⟩ := q
    simp only [List.filter_cons]
    by_cases hk : p k = true
    · simp only [hk, if_true, AHeap.get_cons]
      split
      · rename_i e; subst e; simp only [hk, if_true]
      · exact ih
    · simp only [hk, if_false, Bool.false_eq_true]
      rw [ih, AHeap.get_cons]
      split
      · split
        · rename_i h1 e; subst e; exact absurd h1 hk
        · rfl
      · rfl
theorem HSub.filter (h : AHeap) (p : Nat → Bool) : HSub (h.filter fun q => p q.1) h := by
  intro i b hb
  rw [AHeap.get_filter] at hb
  split at hb
  · exact hb
  · cases hb


/- WHICH BLOCKS AN OPERATION MAY TURN. -/
def refsOf : Value → List Nat
  | .pointer (some a) => [a.block]
  | .slice (some a) _ _ => [a.block]
  | .map (some r) => [r]
  | _ => []
def AOp.pure : AOp → Bool
  | .alloc _ _ | .box _ _ | .buildSlice .. | .bytesOf _ _ | .makeSlice .. | .store .. | .copy .. | .append .. | .unsafeString .. | .call .. => false
  | _ => true
def AOp.target : AOp → Option X
  | .store _ a _ | .copy _ a _ | .append _ _ _ a _ | .unsafeString _ a _ => some a
  | _ => none
def logOf (ρ : X → Option Value) (op : AOp) : List Nat := match op.target with
  | some a => match ρ a with | some v => refsOf v | none => []
  | none => []

theorem aev_pure {ρ : X → Option Value} {h : AHeap} {n : Nat} {op : AOp} {v : Value} {h' : AHeap} {n' : Nat} (hp : op.pure = true) (ha : aev ρ h n op = some (v, h', n')) : h' = h ∧ n' = n := by
  cases op <;> simp only [AOp.pure, Bool.false_eq_true] at hp <;> simp only [aev] at ha <;> (repeat' split at ha) <;>
    first
    | cases ha; done
    | (simp only [Option.map_eq_some_iff, Option.some.injEq, Prod.mk.injEq] at ha; obtain ⟨_, rfl, rfl⟩ := ha; exact ⟨rfl, rfl⟩)
    | (simp only [Option.map_eq_some_iff, Prod.mk.injEq] at ha; obtain ⟨_, _, _, rfl, rfl⟩ := ha; exact ⟨rfl, rfl⟩)

def Keeps (h : AHeap) (n : Nat) (h' : AHeap) (log : List Nat) : Prop := ∀ i b, i < n → i ∉ log → h.get i = some b → h'.get i = some b
theorem Keeps.refl (h : AHeap) (n : Nat) (log : List Nat) : Keeps h n h log := fun _ _ _ _ x => x
theorem Keeps.new (h : AHeap) (n : Nat) (b : Blk) (log : List Nat) : Keeps h n (h.put n b) log := fun i c hi _ hc => by rw [AHeap.get_put_ne _ _ (by omega)]; exact hc
theorem Keeps.put (h : AHeap) (n i : Nat) (b : Blk) (log : List Nat) (hi : i ∈ log) : Keeps h n (h.put i b) log := fun j c _ hl hc => by rw [AHeap.get_put_ne _ _ (fun e => hl (by rw [← e]; exact hi))]; exact hc

theorem write_keeps {h : AHeap} {i g o : Nat} {vs : List Value} {h' : AHeap} (hw : h.write i g o vs = some h') (n : Nat) (log : List Nat) (hi : i ∈ log) : Keeps h n h' log := by
  unfold AHeap.write at hw
  split at hw
  · split at hw
    · cases hw; exact .put _ _ _ _ _ hi
    · cases hw
  · cases hw

theorem aev_keeps {ρ : X → Option Value} {h : AHeap} {n : Nat} {op : AOp} {v : Value} {h' : AHeap} {n' : Nat} (ha : aev ρ h n op = some (v, h', n')) : Keeps h n h' (logOf ρ op) := by
  by_cases hp : op.pure = true
  · rw [(aev_pure hp ha).1]; exact .refl _ _ _
  · cases op <;> simp only [AOp.pure, not_true_eq_false] at hp <;> simp only [aev] at ha
    case alloc => cases ha; exact .new _ _ _ _
    case box =>
      split at ha
      · split at ha
        · cases ha
        · cases ha; exact .new _ _ _ _
      · cases ha
    case buildSlice =>
      split at ha
      · split at ha
        · cases ha; exact .new _ _ _ _
        · cases ha
      · cases ha
    case bytesOf =>
      split at ha
      · cases ha; exact .new _ _ _ _
      · cases ha
    case makeSlice =>
      split at ha
      · split at ha
        · cases ha; exact .new _ _ _ _
        · cases ha
      · cases ha
    case store =>
      split at ha
      · rename_i i o g v' hv _
        split at ha
        · obtain ⟨h1, hw, he⟩ := optmap ha
          simp only [Prod.mk.injEq] at he
          obtain ⟨_, rfl, _⟩ := he
          exact write_keeps hw _ _ (by simp [logOf, AOp.target, hv, refsOf])
        · cases ha
      · cases ha
    case copy =>
      split at ha
      · rename_i d v' hd _
        unfold aCopy at ha
        split at ha
        · cases ha
        · split at ha
          · cases ha; exact .refl _ _ _
          · split at ha
            · cases ha; exact .refl _ _ _
            · split at ha
              · rename_i h1 hw
                cases ha
                exact write_keeps hw _ _ (by simp [logOf, AOp.target, hd, refsOf])
              · cases ha
          · cases ha
      · cases ha
    case append =>
      split at ha
      · rename_i s v' hs _
        unfold aAppend at ha
        split at ha
        · cases ha
        · split at ha
          · split at ha
            · cases ha; exact .refl _ _ _
            · cases ha; exact .refl _ _ _
            · cases ha
          · split at ha
            · split at ha
              · cases ha; exact .new _ _ _ _
              · cases ha
            · split at ha
              · split at ha
                · split at ha
                  · split at ha
                    · cases ha; exact .new _ _ _ _
                    · cases ha
                  · cases ha
                · split at ha
                  · split at ha
                    · cases ha; exact .put _ _ _ _ _ (by simp [logOf, AOp.target, hs, refsOf])
                    · cases ha
                  · cases ha
              · cases ha
            · cases ha
      · cases ha
    case unsafeString =>
      split at ha
      · cases ha; exact .refl _ _ _
      · rename_i hv _
        split at ha
        · split at ha
          · split at ha
            · split at ha
              · cases ha; exact .put _ _ _ _ _ (by simp [logOf, AOp.target, hv, refsOf])
              · cases ha
            · cases ha
          · cases ha
        · cases ha
      · cases ha
    case call => cases ha

theorem AHeap.get_mem {h : AHeap} {i : Nat} {b : Blk} (hb : h.get i = some b) : (i, b) ∈ h := by
  induction h with
  | nil => cases hb
  | cons q h ih =>
    obtain ⟨k, c⟩ := q
    simp only [AHeap.get_cons] at hb
    split at hb
    · rename_i e; subst e; cases hb; simp
    · exact .tail _ (ih hb)

def Rec.okB (c : Rec) : Bool :=
  (c.h.all fun q => Nat.blt q.1 c.n) &&
  c.chg.all fun i => (c.h'.get i).isSome && ((c.h.get i).isSome || (Nat.ble c.n i && Nat.blt i c.n'))
theorem Rec.okB_ok {c : Rec} (h : c.okB = true) (hk : ∃ log, Keeps c.h c.n c.h' log ∧ ∀ i, i ∈ log → i < c.n → i ∈ c.chg) : c.ok := by
  simp only [Rec.okB, Bool.and_eq_true, List.all_eq_true, Bool.or_eq_true, Nat.blt_eq, Nat.ble_eq] at h
  obtain ⟨log, hk, hl⟩ := hk
  refine ⟨fun i b hb hi => ?_, fun i hi => ?_⟩
  · have := h.1 _ (AHeap.get_mem hb)
    exact hk i b this (fun hm => hi (hl i hm this)) hb
  · obtain ⟨h1, h2⟩ := h.2 i hi
    exact ⟨h1, h2⟩

def apartB (a b : Rec) : Bool := (a.chg.all fun i => (b.h.get i).isNone) && (b.chg.all fun i => (a.h.get i).isNone)
theorem apartB_ok {a b : Rec} (h : apartB a b = true) : apartHeaps a b := by
  simp only [apartB, Bool.and_eq_true, List.all_eq_true, Option.isNone_iff_eq_none] at h
  exact h

structure EEnv where
  fs : Nat → Option AFunc
  orc : Nat → List Value → AHeap → Nat → Option (Value × AHeap × Nat)
def EEnv.env (E : EEnv) : Env := ⟨E.fs, fun f args h n v h' n' => E.orc f args h n = some (v, h', n')⟩
/-- What is known otherwise turns no block that was. -/
def EEnv.Kept (E : EEnv) : Prop := ∀ f args h n v h' n', E.orc f args h n = some (v, h', n') → n ≤ n' ∧ Keeps h n h' []

/-- A value, the memory, the next number; the old blocks that were written. -/
abbrev Out := Value × AHeap × Nat × List Nat
abbrev CallEv := Nat → List Value → AHeap → Nat → Option Out
abbrev CodeEv := ACode → Fr → AHeap → Nat → Option (Ex × Fr × AHeap × Nat × List Nat)

def evRun (call : CallEv) (o : AOper) (σ : Fr) (h : AHeap) (n : Nat) : Option (Option Value × AHeap × Nat × List Nat) :=
  match o.op with
  | .call f xs => match X.ev σ h f, mapX (X.ev σ h) xs with
    | some (.func (.func g) first captured), some vs => match call g (first.toList ++ vs ++ captured.toList) h n with
      | some (v, h', n', log) => some (some v, h', n', log)
      | none => none
    | _, _ => none
  | op => match aevF (X.ev σ h) h n op with
    | some (v, h', n') => bif Nat.ble n n' then some (some v, h', n', logOf (X.ev σ h) op) else none
    | none => none
def evOp (call : CallEv) (o : AOper) (σ : Fr) (h : AHeap) (n : Nat) : Option (Option Value × AHeap × Nat × List Nat) :=
  match o.guard with
  | none => evRun call o σ h n
  | some (d, b) => match σ.get d with
    | some (.bool c) => bif c == b then evRun call o σ h n else some (some undef, h, n, [])
    | some (.tuple vs) => bif vs.toList.isEmpty then some (some undef, h, n, []) else none
    | _ => none
def evOps (call : CallEv) : List AOper → Fr → AHeap → Nat → List Nat → Option (Fr × AHeap × Nat × List Nat)
  | [], σ, h, n, log => some (σ, h, n, log)
  | o :: l, σ, h, n, log => match evOp call o σ h n with
    | some (r, h1, n1, log1) => evOps call l (setDst σ o.dst r) h1 n1 (log1 ++ log)
    | none => none

def isCall : AOp → Bool
  | .call _ _ => true
  | _ => false
/-- The part of the memory on which an operation of a drawn region runs. -/
def smallHeap (o : AOper) (σ : Fr) (h : AHeap) (bad : List Nat) : AHeap :=
  bif isCall o.op then h.filter fun q => Nat.blt q.1 4096 || !bad.contains q.1
  else h.filter fun q => Nat.blt q.1 4096 || (o.reads.flatMap fun t => match σ.get t with | some v => refsOf v | none => []).contains q.1
/-- What the open partners of operation j turned. -/
def badOf (pairs : List (Nat × Nat)) (j : Nat) (chs : List (Nat × List Nat)) : List Nat :=
  chs.flatMap fun c => bif pairs.any (fun p => Nat.beq p.1 c.1 && Nat.beq p.2 j) then c.2 else []
def evDraw (call : CallEv) (pairs : List (Nat × Nat)) : List AOper → Nat → Fr → AHeap → Nat → List Nat → List (Nat × List Nat) → Option (List Rec × Fr × AHeap × Nat × List Nat)
  | [], _, σ, h, n, log, _ => some ([], σ, h, n, log)
  | o :: l, j, σ, h, n, log, chs =>
    match evOp call o (σ.restrict o.reads) (smallHeap o σ h (badOf pairs j chs)) n with
    | some (r, h1, n1, log1) =>
      bif o.op.pure then match evDraw call pairs l (j + 1) (setDst σ o.dst r) h n1 log chs with
        | some (rs, σ', h', n', log') => some (⟨smallHeap o σ h (badOf pairs j chs), n, r, smallHeap o σ h (badOf pairs j chs), n1, []⟩ :: rs, σ', h', n', log')
        | none => none
      else
      let chg := (log1 ++ (h1.filter fun q => Nat.ble n q.1).map (·.1))
      let c : Rec := ⟨smallHeap o σ h (badOf pairs j chs), n, r, h1, n1, chg⟩
      bif c.okB then match evDraw call pairs l (j + 1) (setDst σ o.dst r) (h.puts h1 chg) n1 (log1 ++ log) ((j, chg) :: chs) with
        | some (rs, σ', h', n', log') => some (c :: rs, σ', h', n', log')
        | none => none
      else none
    | none => none
def pairsB (pairs : List (Nat × Nat)) (recs : List Rec) : Bool :=
  pairs.all fun p => match recs[p.1]?, recs[p.2]? with
    | some a, some b => apartB a b
    | _, _ => true

def keepsOld (n : Nat) (vs : List Value) : Bool := vs.all fun v => match v with
  | .pointer (some a) => Nat.blt a.block n
  | .slice (some a) _ _ => Nat.blt a.block n
  | .map (some r) => Nat.blt r n
  | .func _ _ _ | .iface _ _ | .agg _ | .tuple _ => false
  | _ => true
def blkOld (n : Nat) : Blk → Bool
  | .cells _ cs _ => keepsOld n cs
  | .map _ => true
def resOld (n : Nat) : Value → Bool
  | .tuple vs => keepsOld n vs.toList
  | v => keepsOld n [v]
/-- At a call's end: new blocks that nothing leads to are forgotten. -/
def gcDrop (v : Value) (n : Nat) (log : List Nat) (h : AHeap) : AHeap :=
  bif resOld n v && log.all (fun i => match h.get i with | some b => blkOld n b | none => false) then h.filter fun q => Nat.blt q.1 n else h
def evCall (E : EEnv) (code : CodeEv) : CallEv := fun f args h n =>
  match E.fs f with
  | some af => if args.length ≤ af.ntmps then
      match code af.body (argFr 0 args) h n with
      | some (.normal, σ', h1, n', log) | some (.ret, σ', h1, n', log) => match evRes σ' h1 af.results with
        | some vs => some (resVal vs, gcDrop (resVal vs) n (log.filter (Nat.blt · n)) h1, n', log.filter (Nat.blt · n))
        | none => none
      | _ => none
    else none
  | none => match E.orc f args h n with
    | some (v, h', n') => some (v, h', n', [])
    | none => none

def evCode (E : EEnv) : Nat → CodeEv
  | 0 => fun _ _ _ _ => none
  | k + 1 => fun c σ h n => match c with
    | .skip => some (.normal, σ, h, n, [])
    | .region l none => match evOps (evCall E (evCode E k)) l σ h n [] with
      | some (σ', h', n', log) => some (.normal, σ', h', n', log)
      | none => none
    | .region l (some pairs) => match evDraw (evCall E (evCode E k)) pairs l 0 σ h n [] [] with
        | some (recs, σ', h', n', log) => bif pairsB pairs recs then some (.normal, σ', h', n', log) else none
        | none => none
    | .seq a b => match evCode E k a σ h n with
      | some (.normal, σ1, h1, n1, log1) => match evCode E k b σ1 h1 n1 with
        | some (e, σ', h', n', log) => some (e, σ', h', n', log ++ log1)
        | none => none
      | r => r
    | .cond x a b => match X.ev σ h x with
      | some (.bool true) => evCode E k a σ h n
      | some (.bool false) => evCode E k b σ h n
      | _ => none
    | .block id a => match evCode E k a σ h n with
      | some (.exit j, σ', h', n', log) => bif Nat.beq j id then some (.normal, σ', h', n', log) else some (.exit j, σ', h', n', log)
      | r => r
    | .loop a => match evCode E k a σ h n with
      | some (.normal, σ1, h1, n1, log1) => match evCode E k (.loop a) σ1 h1 n1 with
        | some (e, σ', h', n', log) => some (e, σ', h', n', log ++ log1)
        | none => none
      | r => r
    | .exit id => some (.exit id, σ, h, n, [])
    | .ret => some (.ret, σ, h, n, [])
    | .fail => none

theorem Keeps.trans {h : AHeap} {n : Nat} {h1 : AHeap} {l1 : List Nat} {n1 : Nat} {h2 : AHeap} {l2 : List Nat} (a : Keeps h n h1 l1) (hn : n ≤ n1) (b : Keeps h1 n1 h2 l2) : Keeps h n h2 (l2 ++ l1) :=
  fun i c hi hl hc => b i c (by omega) (fun x => hl (List.mem_append_left _ x)) (a i c hi (fun x => hl (List.mem_append_right _ x)) hc)

def CallOk (E : Env) (call : CallEv) : Prop := ∀ f args h n v h' n' log, call f args h n = some (v, h', n', log) → Big E (.call f args h n v h' n') ∧ Keeps h n h' log

theorem evRun_big {E : Env} {call : CallEv} (hc : CallOk E call) {o : AOper} {σ : Fr} {h : AHeap} {n : Nat} {r : Option Value} {h' : AHeap} {n' : Nat} {log : List Nat} (pg : ∀ d b, o.guard = some (d, b) → σ.get d = some (.bool b))
    (he : evRun call o σ h n = some (r, h', n', log)) : Big E (.op o σ h n r h' n') ∧ Keeps h n h' log ∧ (o.op.pure = true → h' = h) := by
  unfold evRun at he
  split at he
  · rename_i f xs hop
    split at he
    · rename_i g first captured vs hf hx
      split at he
      · rename_i v h1 n1 log1 hcall
        simp only [Option.some.injEq, Prod.mk.injEq] at he
        obtain ⟨rfl, rfl, rfl, rfl⟩ := he
        obtain ⟨h2, h3⟩ := hc _ _ _ _ _ _ _ _ hcall
        exact ⟨.opCall pg hop hf hx h2, h3, fun hp => by rw [hop] at hp; cases hp⟩
      · cases he
    · cases he
  · split at he
    · rename_i v h1 n1 hv
      rw [aevF_eq] at hv
      cases hn : Nat.ble n n1 with
      | true =>
        rw [hn] at he
        simp only [cond_true, Option.some.injEq, Prod.mk.injEq] at he
        obtain ⟨rfl, rfl, rfl, rfl⟩ := he
        exact ⟨.prim pg hv (Nat.le_of_ble_eq_true hn), aev_keeps hv, fun hp => (aev_pure hp hv).1⟩
      | false => rw [hn] at he; cases he
    · cases he
theorem evOp_big {E : Env} {call : CallEv} (hc : CallOk E call) {o : AOper} {σ : Fr} {h : AHeap} {n : Nat} {r : Option Value} {h' : AHeap} {n' : Nat} {log : List Nat}
    (he : evOp call o σ h n = some (r, h', n', log)) : Big E (.op o σ h n r h' n') ∧ Keeps h n h' log ∧ (o.op.pure = true → h' = h) := by
  unfold evOp at he
  split at he
  · rename_i hg
    exact evRun_big hc (by rw [hg]; simp) he
  · rename_i d b hg
    split at he
    · rename_i c hd
      by_cases e : c = b
      · subst e
        simp only [beq_self_eq_true, cond_true] at he
        exact evRun_big hc (by rw [hg]; intro d' b' e; cases e; exact hd) he
      · have hb : (c == b) = false := by simpa using e
        rw [hb] at he
        simp only [cond_false, Option.some.injEq, Prod.mk.injEq] at he
        obtain ⟨rfl, rfl, rfl, rfl⟩ := he
        exact ⟨.skip hg (by rw [hd]; cases b <;> cases c <;> simp_all), .refl _ _ _, fun _ => rfl⟩
    · rename_i vs hd
      cases hv : vs.toList.isEmpty with
      | false => rw [hv] at he; cases he
      | true =>
        have hvs : vs = #[] := by simpa using hv
        subst hvs
        simp only [List.isEmpty_nil, cond_true, Option.some.injEq, Prod.mk.injEq] at he
        obtain ⟨rfl, rfl, rfl, rfl⟩ := he
        exact ⟨.skipOff hg hd, .refl _ _ _, fun _ => rfl⟩
    · cases he
theorem evOps_big {E : Env} {call : CallEv} (hc : CallOk E call) : ∀ {l : List AOper} {σ : Fr} {h : AHeap} {n : Nat} {log0 : List Nat} {σ' : Fr} {h' : AHeap} {n' : Nat} {log : List Nat},
    evOps call l σ h n log0 = some (σ', h', n', log) → Big E (.ops l σ h n σ' h' n') ∧ ∀ h0 n0, n0 ≤ n → Keeps h0 n0 h log0 → Keeps h0 n0 h' log
  | [], σ, h, n, log0, σ', h', n', log, he => by
    simp only [evOps, Option.some.injEq, Prod.mk.injEq] at he
    obtain ⟨rfl, rfl, rfl, rfl⟩ := he
    exact ⟨.opsNil, fun _ _ _ x => x⟩
  | o :: l, σ, h, n, log0, σ', h', n', log, he => by
    simp only [evOps] at he
    split at he
    · rename_i r h1 n1 log1 h2
      obtain ⟨b1, k1, _⟩ := evOp_big hc h2
      obtain ⟨b2, k2⟩ := evOps_big hc he
      have hle := b1.le
      simp only [J.mono] at hle
      exact ⟨.opsCons b1 b2, fun h0 n0 hn k0 => k2 h0 n0 (by omega) (k0.trans hn k1)⟩
    · cases he
theorem smallHeap_sub (o : AOper) (σ : Fr) (h : AHeap) (bad : List Nat) : HSub (smallHeap o σ h bad) h := by
  unfold smallHeap
  cases isCall o.op
  · exact HSub.filter h fun k => Nat.blt k 4096 || (o.reads.flatMap fun t => match σ.get t with | some v => refsOf v | none => []).contains k
  · exact HSub.filter h fun k => Nat.blt k 4096 || !bad.contains k
theorem puts_keeps (h' : AHeap) (n : Nat) : ∀ (l : List Nat) (h : AHeap) (log : List Nat), (∀ i, i ∈ l → i < n → i ∈ log) → Keeps h n (h.puts h' l) log
  | [], h, log, _ => .refl _ _ _
  | i :: l, h, log, hl => fun j b hj hlog hb => by
    simp only [AHeap.puts]
    refine puts_keeps h' n l _ log (fun i hi => hl i (.tail _ hi)) j b hj hlog ?_
    split
    · rw [AHeap.get_put_ne _ _ (fun e => hlog (by rw [← e]; exact hl i (.head _) (by omega)))]; exact hb
    · exact hb
theorem mem_chg {log1 : List Nat} {h1 : AHeap} {n : Nat} {i : Nat} (hi : i ∈ log1 ++ (h1.filter fun q => Nat.ble n q.1).map (·.1)) (hn : i < n) : i ∈ log1 := by
  rcases List.mem_append.1 hi with h | h
  · exact h
  · obtain ⟨q, hq, rfl⟩ := List.mem_map.1 h
    have := (List.mem_filter.1 hq).2
    simp at this
    omega
theorem evDraw_big {E : Env} {call : CallEv} (hc : CallOk E call) {pairs : List (Nat × Nat)} : ∀ {l : List AOper} {j : Nat} {σ : Fr} {h : AHeap} {n : Nat} {log0 : List Nat} {acc : List (Nat × List Nat)} {recs : List Rec} {σ' : Fr} {h' : AHeap} {n' : Nat} {log : List Nat},
    evDraw call pairs l j σ h n log0 acc = some (recs, σ', h', n', log) → Big E (.draw l σ h n recs σ' h' n') ∧ ∀ h0 n0, n0 ≤ n → Keeps h0 n0 h log0 → Keeps h0 n0 h' log
  | [], j, σ, h, n, log0, acc, recs, σ', h', n', log, he => by
    simp only [evDraw, Option.some.injEq, Prod.mk.injEq] at he
    obtain ⟨rfl, rfl, rfl, rfl, rfl⟩ := he
    exact ⟨.drawNil, fun _ _ _ x => x⟩
  | o :: l, j, σ, h, n, log0, acc, recs, σ', h', n', log, he => by
    simp only [evDraw] at he
    split at he
    · rename_i r h1 n1 log1 h2
      obtain ⟨b1, k1, kp⟩ := evOp_big hc h2
      have hle := b1.le
      simp only [J.mono] at hle
      cases hp : o.op.pure with
      | true =>
        rw [hp] at he
        simp only [cond_true] at he
        split at he
        · rename_i rs σ2 h3 n2 log2 h4
          simp only [Option.some.injEq, Prod.mk.injEq] at he
          obtain ⟨rfl, rfl, rfl, rfl, rfl⟩ := he
          obtain ⟨b2, k2⟩ := evDraw_big hc h4
          rw [kp hp] at b1
          exact ⟨.drawCons (c := ⟨smallHeap o σ h (badOf pairs j acc), n, r, smallHeap o σ h (badOf pairs j acc), n1, []⟩) b1 (smallHeap_sub o σ h (badOf pairs j acc)) ⟨fun _ _ x _ => x, fun i hi => by cases hi⟩ b2, fun h0 n0 hn k0 => k2 h0 n0 (by omega) k0⟩
        · cases he
      | false =>
        rw [hp] at he
        simp only [cond_false] at he
        cases hok : Rec.okB ⟨smallHeap o σ h (badOf pairs j acc), n, r, h1, n1, log1 ++ (h1.filter fun q => Nat.ble n q.1).map (·.1)⟩ with
        | false => rw [hok] at he; cases he
        | true =>
          rw [hok] at he
          simp only [cond_true] at he
          split at he
          · rename_i rs σ2 h3 n2 log2 h4
            simp only [Option.some.injEq, Prod.mk.injEq] at he
            obtain ⟨rfl, rfl, rfl, rfl, rfl⟩ := he
            obtain ⟨b2, k2⟩ := evDraw_big hc h4
            refine ⟨.drawCons (c := ⟨smallHeap o σ h (badOf pairs j acc), n, r, h1, n1, _⟩) b1 (smallHeap_sub o σ h (badOf pairs j acc)) (Rec.okB_ok hok ⟨log1, k1, fun i hi _ => List.mem_append_left _ hi⟩) b2, fun h0 n0 hn k0 => k2 h0 n0 (by omega) ?_⟩
            exact k0.trans hn (puts_keeps h1 n _ h log1 fun i hi hin => mem_chg hi hin)
          · cases he
    · cases he
theorem pairsB_ok {pairs : List (Nat × Nat)} {recs : List Rec} (h : pairsB pairs recs = true) (i j : Nat) (a b : Rec) (hij : (i, j) ∈ pairs) (ha : recs[i]? = some a) (hb : recs[j]? = some b) : apartHeaps a b := by
  simp only [pairsB, List.all_eq_true] at h
  have := h _ hij
  simp only [ha, hb] at this
  exact apartB_ok this
theorem gcDrop_sub (v : Value) (n : Nat) (log : List Nat) (h : AHeap) : HSub (gcDrop v n log h) h := by
  unfold gcDrop
  cases resOld n v && log.all (fun i => match h.get i with | some b => blkOld n b | none => false)
  · exact fun _ _ x => x
  · exact HSub.filter h fun k => Nat.blt k n
theorem gcDrop_keeps {h0 : AHeap} {v : Value} {n : Nat} {log log' : List Nat} {h : AHeap} (k : Keeps h0 n h log') (hl : ∀ i, i ∈ log' → i < n → i ∈ log) : Keeps h0 n (gcDrop v n log h) log := by
  intro i b hi hlog hb
  have := k i b hi (fun x => hlog (hl i x hi)) hb
  unfold gcDrop
  cases resOld n v && log.all (fun i => match h.get i with | some b => blkOld n b | none => false)
  · exact this
  · simp only [cond_true]
    rw [AHeap.get_filter h (fun k => Nat.blt k n) i, if_pos (by simpa using hi)]
    exact this
theorem evCall_big {E : EEnv} (hE : E.Kept) {code : CodeEv} (hc : ∀ c σ h n e σ' h' n' log, code c σ h n = some (e, σ', h', n', log) → Big E.env (.code c σ h n e σ' h' n') ∧ Keeps h n h' log) : CallOk E.env (evCall E code) := by
  intro f args h n v h' n' log he
  have hmem : ∀ (log1 : List Nat) i, i ∈ log1 → i < n → i ∈ log1.filter (Nat.blt · n) := fun log1 i hi hn => List.mem_filter.2 ⟨hi, by simpa using hn⟩
  unfold evCall at he
  split at he
  · rename_i af hf
    split at he
    · rename_i hargs
      split at he
      · rename_i σ' h1 n1 log1 hb
        obtain ⟨b1, k1⟩ := hc _ _ _ _ _ _ _ _ _ hb
        split at he
        · rename_i vs hvs
          simp only [Option.some.injEq, Prod.mk.injEq] at he
          obtain ⟨rfl, rfl, rfl, rfl⟩ := he
          exact ⟨.call hf hargs b1 (.inl rfl) hvs (gcDrop_sub _ n _ h1), gcDrop_keeps k1 (hmem log1)⟩
        · cases he
      · rename_i σ' h1 n1 log1 hb
        obtain ⟨b1, k1⟩ := hc _ _ _ _ _ _ _ _ _ hb
        split at he
        · rename_i vs hvs
          simp only [Option.some.injEq, Prod.mk.injEq] at he
          obtain ⟨rfl, rfl, rfl, rfl⟩ := he
          exact ⟨.call hf hargs b1 (.inr rfl) hvs (gcDrop_sub _ n _ h1), gcDrop_keeps k1 (hmem log1)⟩
        · cases he
      · cases he
    · cases he
  · split at he
    · rename_i v1 h1 n1 ho
      simp only [Option.some.injEq, Prod.mk.injEq] at he
      obtain ⟨rfl, rfl, rfl, rfl⟩ := he
      obtain ⟨h2, h3⟩ := hE _ _ _ _ _ _ _ ho
      exact ⟨.orc ho h2, h3⟩
    · cases he

theorem evCode_big {E : EEnv} (hE : E.Kept) : ∀ (k : Nat) (c : ACode) (σ : Fr) (h : AHeap) (n : Nat) (e : Ex) (σ' : Fr) (h' : AHeap) (n' : Nat) (log : List Nat), evCode E k c σ h n = some (e, σ', h', n', log) → Big E.env (.code c σ h n e σ' h' n') ∧ Keeps h n h' log
  | 0, _, _, _, _, _, _, _, _, _, he => by simp [evCode] at he
  | k + 1, c, σ, h, n, e, σ', h', n', log, he => by
    have ih := evCode_big hE k
    have hcall := evCall_big hE ih
    unfold evCode at he
    split at he
    · cases he; exact ⟨.cskip, .refl _ _ _⟩
    · split at he
      · rename_i h1; cases he
        obtain ⟨b1, k1⟩ := evOps_big hcall h1
        exact ⟨.region b1, k1 _ _ (Nat.le_refl _) (.refl _ _ _)⟩
      · cases he
    · rename_i pairs
      split at he
      · rename_i recs σ1 h1 n1 log1 hd
        cases hp : pairsB pairs recs with
        | true =>
          rw [hp] at he
          cases he
          obtain ⟨b1, k1⟩ := evDraw_big hcall hd
          exact ⟨.regionDraw b1 (pairsB_ok hp), k1 _ _ (Nat.le_refl _) (.refl _ _ _)⟩
        | false => rw [hp] at he; cases he
      · cases he
    · split at he
      · rename_i σ1 h1 n1 log1 hx
        split at he
        · rename_i e2 σ2 h2 n2 log2 hy
          cases he
          obtain ⟨b1, k1⟩ := ih _ _ _ _ _ _ _ _ _ hx
          obtain ⟨b2, k2⟩ := ih _ _ _ _ _ _ _ _ _ hy
          have hle := b1.le
          simp only [J.mono] at hle
          exact ⟨.seq b1 b2, k1.trans hle k2⟩
        · cases he
      · rename_i hne
        obtain ⟨b1, k1⟩ := ih _ _ _ _ _ _ _ _ _ he
        exact ⟨.seqStop b1 (by intro e1; subst e1; exact hne _ _ _ _ he), k1⟩
    · split at he
      · rename_i h1
        obtain ⟨b1, k1⟩ := ih _ _ _ _ _ _ _ _ _ he
        exact ⟨.cond h1 b1, k1⟩
      · rename_i h1
        obtain ⟨b1, k1⟩ := ih _ _ _ _ _ _ _ _ _ he
        exact ⟨.cond h1 b1, k1⟩
      · cases he
    · rename_i id a
      split at he
      · rename_i j σ1 h1 n1 log1 hb
        obtain ⟨b1, k1⟩ := ih _ _ _ _ _ _ _ _ _ hb
        cases hj : Nat.beq j id with
        | true =>
          rw [hj] at he
          cases he
          obtain rfl := Nat.eq_of_beq_eq_true hj
          exact ⟨.blockExit b1, k1⟩
        | false =>
          rw [hj] at he
          cases he
          exact ⟨.block b1 (by intro e1; cases e1; simp at hj), k1⟩
      · rename_i hne
        obtain ⟨b1, k1⟩ := ih _ _ _ _ _ _ _ _ _ he
        exact ⟨.block b1 (by intro e1; subst e1; exact hne _ _ _ _ _ he), k1⟩
    · split at he
      · rename_i σ1 h1 n1 log1 hx
        split at he
        · rename_i e2 σ2 h2 n2 log2 hy
          cases he
          obtain ⟨b1, k1⟩ := ih _ _ _ _ _ _ _ _ _ hx
          obtain ⟨b2, k2⟩ := ih _ _ _ _ _ _ _ _ _ hy
          have hle := b1.le
          simp only [J.mono] at hle
          exact ⟨.loop b1 b2, k1.trans hle k2⟩
        · cases he
      · rename_i hne
        obtain ⟨b1, k1⟩ := ih _ _ _ _ _ _ _ _ _ he
        exact ⟨.loopStop b1 (by intro e1; subst e1; exact hne _ _ _ _ he), k1⟩
    · cases he; exact ⟨.exit, .refl _ _ _⟩
    · cases he; exact ⟨.ret, .refl _ _ _⟩
    · cases he

end
end Go.Proofs.YtkaibjdogeikbaaDoor.Am
