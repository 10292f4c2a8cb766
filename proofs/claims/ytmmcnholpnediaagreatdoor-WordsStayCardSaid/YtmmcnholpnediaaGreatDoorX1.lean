/- Contracts of the program's functions (X1). -/
import Derived.Test.YtmmcnholpnediaaGreatDoorXRow
import Derived.Test.YtmmcnholpnediaaGreatDoorK65b
import Derived.Test.YtmmcnholpnediaaGreatDoorK
namespace Go.Proofs.YtmmcnholpnediaaGreatDoor.Am
noncomputable section
/- CONTRACTS: what a failed row gives. -/
section
variable {h : AHeap} {p : Nat} {v : Value} {i : Nat} {e : Int} {ws : List (List UInt8)} (hp : h.get p = some (rowB v (i : Int) e)) (hv : StrV h v ws) (hl : ws.length < 1000000) (he : ¬ e = 0)
include hp hv hl he
omit hv hl in
theorem wants_no (b : Bool) (c : Int) (n : Nat) : Ret EV65 53 [rowP p, .bool b, .int .i64 c] h n (.bool false) [] n := by
  refine rsx53 (by simp) (by simp) ?_
  have hb : (e == 0) = false := by simpa using he
  cases b with
  | true =>
    simp -dsimp (discharger := omega) [B53]
    with_reducible refine call_ret (err_ret hp _) ?_
    simp -dsimp (discharger := omega) [hb]
    exact .refl _
  | false =>
    simp -dsimp (discharger := omega) [B53]
    with_reducible refine call_ret (fail_no hp he _ _) ?_
    simp -dsimp (discharger := omega) []
    with_reducible refine call_ret (err_ret hp _) ?_
    simp -dsimp (discharger := omega) [hb]
    exact .refl _
omit hp hv hl he in
theorem number_none (h : AHeap) (n : Nat) : Ret EV65 52 [.string ⟨#[]⟩] h n (.tuple #[.int .i64 0, .bool false]) [] n := by
  refine rsx52 (by simp) (by simp) ?_
  simp -dsimp (discharger := omega) [B52]
  exact .refl _
theorem pref_no {n : Nat} (hw : WF h n) (hn : n ≤ 1000000) : Ret EV65 32 [rowP p] h n (.tuple #[.int .u32 0, .int .i64 0]) [] 2000001 := by
  refine rsx32 (by simp) (by simp) ?_
  have c1 : Ret EV65 43 [.string ⟨#[]⟩, .string ⟨#[47]⟩] h n (.tuple #[.string ⟨#[]⟩, .string ⟨#[]⟩, .bool false]) [] 1000000 := f_c1_ok.ret (n := n) (show n ≤ 1000000 by omega) (fun _ _ h => by cases h) hw
  have c2 : Ret EV65 64 [.string ⟨#[]⟩] h 1000000 (.tuple #[.int .u32 0, .int .i64 5]) [] 2000001 := f_i1_ok.ret (n := 1000000) (show 1000000 ≤ 2000000 by omega) (fun _ _ h => by cases h) (hw.mono (by omega))
  simp -dsimp (discharger := omega) [B32]
  with_reducible refine call_ret (word_none hp hv hl he _) ?_
  simp -dsimp (discharger := omega) []
  with_reducible refine call_ret c1 ?_
  simp -dsimp (discharger := omega) []
  with_reducible refine call_ret c2 ?_
  simp -dsimp (discharger := omega) []
  with_reducible refine call_ret (fail_no hp he _ _) ?_
  simp -dsimp (discharger := omega) []
  with_reducible refine call_ret (err_ret hp _) ?_
  simp -dsimp (discharger := omega) []
  exact .refl _
theorem range_no {n : Nat} (hw : WF h n) (hn : n ≤ 3000000) (a b : Int) : Ret EV65 34 [rowP p, .int .i64 a, .int .i64 b] h n (.tuple #[.int .i64 0, .int .i64 0]) [] 3000000 := by
  refine rsx34 (by simp) (by simp) ?_
  have c1 : Ret EV65 43 [.string ⟨#[]⟩, .string ⟨#[45]⟩] h n (.tuple #[.string ⟨#[]⟩, .string ⟨#[]⟩, .bool false]) [] 3000000 := f_c2_ok.ret (n := n) (show n ≤ 3000000 by omega) (fun _ _ h => by cases h) hw
  simp -dsimp (discharger := omega) [B34]
  with_reducible refine call_ret (word_none hp hv hl he _) ?_
  simp -dsimp (discharger := omega) []
  with_reducible refine call_ret c1 ?_
  simp -dsimp (discharger := omega) []
  with_reducible refine call_ret (number_none _ _) ?_
  simp -dsimp (discharger := omega) []
  with_reducible refine call_ret (wants_no hp he _ _ _) ?_
  simp -dsimp (discharger := omega) []
  exact .refl _
theorem one_no (a : Value) (n : Nat) : Ret EV65 25 [rowP p, a] h n (.int .i64 (-1)) [] n := by
  refine rsx25 (by simp) (by simp) ?_
  simp -dsimp (discharger := omega) [B25]
  with_reducible refine call_ret (word_none hp hv hl he _) ?_
  simp -dsimp (discharger := omega) []
  with_reducible refine call_ret (err_ret hp _) ?_
  simp -dsimp (discharger := omega) []
  exact .refl _
theorem num_no (a b : Int) (n : Nat) : Ret EV65 20 [rowP p, .int .i64 a, .int .i64 b] h n (.int .i64 0) [] n := by
  refine rsx20 (by simp) (by simp) ?_
  simp -dsimp (discharger := omega) [B20]
  with_reducible refine call_ret (word_none hp hv hl he _) ?_
  simp -dsimp (discharger := omega) []
  with_reducible refine call_ret (number_none _ _) ?_
  simp -dsimp (discharger := omega) []
  with_reducible refine call_ret (wants_no hp he _ _ _) ?_
  simp -dsimp (discharger := omega) []
  exact .refl _
theorem name_no (n : Nat) : Ret EV65 30 [rowP p] h n (.string ⟨#[]⟩) [] n := by
  refine rsx30 (by simp) (by simp) ?_
  simp -dsimp (discharger := omega) [B30]
  with_reducible refine call_ret (word_none hp hv hl he _) ?_
  simp -dsimp (discharger := omega) []
  with_reducible refine call_ret (wants_no hp he _ _ _) ?_
  simp -dsimp (discharger := omega) []
  exact .refl _
theorem ipr_no {n : Nat} (hw : WF h n) (hn : n ≤ 4000000) : Ret EV65 39 [rowP p] h n (.int .u32 0) [] 4000001 := by
  refine rsx39 (by simp) (by simp) ?_
  have c2 : Ret EV65 64 [.string ⟨#[]⟩] h n (.tuple #[.int .u32 0, .int .i64 5]) [] 4000001 := f_i2_ok.ret (n := n) (show n ≤ 4000000 by omega) (fun _ _ h => by cases h) hw
  simp -dsimp (discharger := omega) [B39]
  with_reducible refine call_ret (word_none hp hv hl he _) ?_
  simp -dsimp (discharger := omega) []
  with_reducible refine call_ret c2 ?_
  simp -dsimp (discharger := omega) []
  with_reducible refine call_ret (fail_no hp he _ _) ?_
  simp -dsimp (discharger := omega) []
  with_reducible refine call_ret (err_ret hp _) ?_
  simp -dsimp (discharger := omega) []
  exact .refl _
theorem rate_no {n : Nat} (hw : WF h n) (hn : n ≤ 5000000) : Ret EV65 40 [rowP p] h n (.float .f64 0) [] 5000000 := by
  refine rsx40 (by simp) (by simp) ?_
  have c2 : Ret EV65 76 [.string ⟨#[]⟩] h n (.tuple #[.float .f64 0, .int .i64 5]) [] 5000000 := f_rp_ok.ret (n := n) (show n ≤ 5000000 by omega) (fun _ _ h => by cases h) hw
  simp -dsimp (discharger := omega) [B40]
  with_reducible refine call_ret (word_none hp hv hl he _) ?_
  simp -dsimp (discharger := omega) []
  with_reducible refine call_ret c2 ?_
  simp -dsimp (discharger := omega) []
  with_reducible refine call_ret (fail_no hp he _ _) ?_
  simp -dsimp (discharger := omega) []
  with_reducible refine call_ret (err_ret hp _) ?_
  simp -dsimp (discharger := omega) []
  exact .refl _
end
end
end Go.Proofs.YtmmcnholpnediaaGreatDoor.Am
namespace Go.Proofs.YtmmcnholpnediaaGreatDoor.Am
noncomputable section
/- THE WALK of WordsStay: the loop over the words. -/
theorem row_ne {h : AHeap} {p q : Nat} {v : Value} {i e : Int} {cs : List Value} {m : Nat} (hp : h.get p = some (rowB v i e)) (hq : h.get q = some (.cells (some 9) cs m)) : ¬ p = q := fun e2 => by
  subst e2
  rw [hp] at hq
  simp [rowB, rT] at hq
theorem strV_row {h : AHeap} {p : Nat} {v u : Value} {i e : Int} {ws : List (List UInt8)} (hp : h.get p = some (rowB v i e)) (x : StrV h u ws) (B : Blk) : StrV (h.put p B) u ws := by
  rcases x with x | ⟨q, m, e, hg, hm⟩
  · exact .inl x
  · exact .inr ⟨q, m, e, by rw [AHeap.get_put, if_neg (row_ne hp hg)]; exact hg, hm⟩
theorem strV_at2 {h : AHeap} {p : Nat} {v : Value} {i e : Int} {a : Option Addr} {l k : Nat} {ws : List (List UInt8)} (hp : h.get p = some (rowB v i e)) (x : StrV h (.slice a l k) ws) {j : Nat} {w : List UInt8} (hw : ws[j]? = some w) : ∃ q : Nat, a = some ⟨q, 0, some ws.length⟩ ∧ l = ws.length ∧ h.read q ws.length j 1 = some [.string ⟨w.toArray⟩] ∧ ¬ p = q := by
  obtain ⟨q, rfl, rfl, hr⟩ := x.at hw
  refine ⟨q, rfl, rfl, hr, ?_⟩
  rcases x with ⟨rfl, -⟩ | ⟨q', m, e', hg, hm⟩
  · cases hw
  · cases e'
    exact row_ne hp hg
def noSuch : List UInt8 := [110, 111, 32, 115, 117, 99, 104, 32, 119, 111, 114, 100]
structure StOk (ws : List (List UInt8)) (v v5 : Value) (p : Nat) (h : AHeap) (n : Nat) (i : Nat) (e : Int) : Prop where
  row : h.get p = some (rowB v (i : Int) e)
  sv : StrV h v ws
  s5 : StrV h v5 ws
  pow : HasPow h
  wf : WF h n
def StInv (ws : List (List UInt8)) (v v5 : Value) (p : Nat) (salt : Nat) (n0 r : Nat) (σ : Fr) (h : AHeap) (n : Nat) : Prop :=
  n = n0 ∧ ∃ k : Nat, k + r = ws.length ∧ StOk ws v v5 p h n k 0 ∧ σ = [(1, .int .u8 (salt : Int)), (5, v5), (7, rowP p), (31, .int .i64 (ws.length : Int)), (32, .int .i64 (k : Int))]
def StPost (ws : List (List UInt8)) (v v5 : Value) (p : Nat) (n0 : Nat) (e : Ex) (σ' : Fr) (h' : AHeap) (n' : Nat) : Prop :=
  n' = n0 ∧ e = .exit 0 ∧ ∃ (k : Nat) (c : Int), StOk ws v v5 p h' n' k c ∧ (c = 26 ∧ k ≤ ws.length ∨ c = 0 ∧ k = ws.length) ∧ σ'.get 5 = some v5 ∧ σ'.get 7 = some (rowP p)
theorem st_loop {ws : List (List UInt8)} (hno : ∀ x ∈ ws, ¬ x = noSuch) (hl : ws.length < 1000000) {v v5 : Value} {p : Nat} (hp0 : 4096 ≤ p) {salt : Nat} (_ : salt < 256) {n0 : Nat} (hpn : p < n0) :
    ∀ (m : Nat) (σ : Fr) (h : AHeap) (n : Nat), StInv ws v v5 p salt n0 m σ h n → HasCode EV65 (.loop F6L0) σ h n (StPost ws v v5 p n0) := by
  refine wx_inv _ fun m σ h n hI => ?_
  obtain ⟨rfl, k, hk, hS, rfl⟩ := hI
  have hp := hS.row
  cases m with
  | zero =>
    have hkl : k = ws.length := by omega
    have fin : StPost ws v v5 p n (.exit 0) [(33, .bool false), (1, .int .u8 (salt : Int)), (5, v5), (7, rowP p), (31, .int .i64 (ws.length : Int)), (32, .int .i64 (k : Int))] h n := ⟨rfl, rfl, k, 0, hS, .inr ⟨rfl, hkl⟩, rfl, rfl⟩
    subst hkl
    simp -dsimp (discharger := omega) [F6L0]
    exact fin
  | succ m =>
    have hlt : k < ws.length := by omega
    obtain ⟨x, hx⟩ : ∃ x, ws[k]? = some x := ⟨_, List.getElem?_eq_getElem hlt⟩
    have hxm : ¬ x = noSuch := hno x (by obtain ⟨h1, rfl⟩ := List.getElem?_eq_some_iff.1 hx; exact List.getElem_mem h1)
    have ht : Int.tmod (salt : Int) 8 = ((salt % 8 : Nat) : Int) := tmod_nat salt 8
    have h8 : salt % 8 < 8 := Nat.mod_lt _ (by omega)
    generalize salt % 8 = s8 at ht h8
    by_cases c : k = s8
    · subst c
      simp -dsimp (discharger := omega) [F6L0, ht, -wR6_0]
      with_reducible refine call_ret (fail_yes hp _ _) ?_
      have fin : StOk ws v v5 p (h.put p (rowB v (k : Int) 26)) n k 26 := ⟨by simp, strV_row hp hS.sv _, strV_row hp hS.s5 _, HasPow.put hS.pow (by omega) _, hS.wf.put _ hpn (Nat.le_refl _)⟩
      simp -dsimp (discharger := omega) []
      exact ⟨rfl, rfl, k, 26, fin, .inl ⟨rfl, by omega⟩, rfl, rfl⟩
    · have hc : ((k : Int) == (s8 : Int)) = false := by simp only [beq_eq_false_iff_ne]; omega
      have hs5 := hS.s5
      obtain ⟨a5, k5, rfl⟩ := hS.s5.shape
      obtain ⟨q5, rfl, -, r5, hne⟩ := strV_at2 hp hs5 hx
      have hIs : Ret EV65 23 [rowP p, .string ⟨#[110, 111, 32, 115, 117, 99, 104, 32, 119, 111, 114, 100]⟩] h n (.bool false) [] n := is_no (s := noSuch) hp hS.sv hl (fun _ e => absurd (Option.some.inj (hx.symm.trans e)) hxm) _
      simp -dsimp (discharger := omega) [F6L0, ht, hc]
      with_reducible refine ret_ret hIs ?_
      simp -dsimp (discharger := omega) []
      with_reducible refine ret_ret (at_ret hp _) ?_
      simp -dsimp (discharger := omega) []
      with_reducible refine ret_ret (word_ret hp hS.sv hl hx (fun q m hg => row_ne hp hg) _) ?_
      simp -dsimp (discharger := omega) [r5, hne]
      have fin : StOk ws v (.slice (some ⟨q5, 0, some ws.length⟩) ws.length k5) p (h.put p (rowB v ((k + 1 : Nat) : Int) 0)) n (k + 1) 0 := ⟨by simp, strV_row hp hS.sv _, strV_row hp hS.s5 _, HasPow.put hS.pow (by omega) _, hS.wf.put _ hpn (Nat.le_refl _)⟩
      exact .mk' m (by omega) [(1, .int .u8 (salt : Int)), (5, .slice (some ⟨q5, 0, some ws.length⟩) ws.length k5), (7, rowP p), (31, .int .i64 (ws.length : Int)), (32, .int .i64 ((k + 1 : Nat) : Int))] (h.put p (rowB v ((k + 1 : Nat) : Int) 0)) (by simp) (.refl _) ⟨rfl, k + 1, by omega, fin, rfl⟩
def ac6 : ACode := match B6 with | .seq a _ => a | c => c
def bc6 : ACode := match B6 with | .seq _ (.seq b _) => b | c => c
def cc6 : ACode := match B6 with | .seq _ (.seq _ (.seq c _)) => c | c => c
def dc6 : ACode := match B6 with | .seq _ (.seq _ (.seq _ (.seq d _))) => d | c => c
def ec6 : ACode := match B6 with | .seq _ (.seq _ (.seq _ (.seq _ (.seq e _)))) => e | c => c
def fc6 : ACode := match B6 with | .seq _ (.seq _ (.seq _ (.seq _ (.seq _ f)))) => f | c => c
theorem b6_eq : B6 = .seq ac6 (.seq bc6 (.seq cc6 (.seq dc6 (.seq ec6 fc6)))) := rfl
set_option maxHeartbeats 4000000 in
theorem stay_end {ws : List (List UInt8)} (hl : ws.length < 1000000) {v v5 : Value} {p : Nat} (hp0 : 4096 ≤ p) {h : AHeap} {n : Nat} (hpn : p < n) (hn : n ≤ 1000000) {k : Nat} {e : Int} (hS : StOk ws v v5 p h n k e) (hke : e = 0 → k = ws.length) {σ : Fr} (g5 : σ.get 5 = some v5) (g7 : σ.get 7 = some (rowP p)) :
    wx EV65 fc6 σ h n (Done [.tmp 4] fun v _ _ => v = .bool true) ⟨⟩ := by
  have hp := hS.row
  have hpow : ∀ {H : AHeap}, HasPow H → HSub hP H := fun hp i b hi => by
    simp only [hP, AHeap.get_cons] at hi
    split at hi
    · rename_i e; subst e; cases hi; exact hp
    · cases hi
  have hw := hS.wf
  by_cases he : e = 0
  · subst he
    have hk := hke rfl
    subst hk
    have hm := more_ret hp hS.sv hl n
    rw [decide_eq_false (p := ws.length < ws.length) (by omega), Bool.and_false] at hm
    have hp2 : (h.put p (rowB v (ws.length : Int) 4)).get p = some (rowB v (ws.length : Int) 4) := by simp
    have wk : Ret EV65 16 [] (h.put p (rowB v (ws.length : Int) 4)) n (.bool true) [] 6000000091 := e_wk_ok.ret (n := n) (show n ≤ 6000000000 by omega) (hpow (HasPow.put hS.pow (by omega) _)) (hw.put _ hpn (Nat.le_refl _))
    obtain ⟨a5, k5, rfl⟩ := hS.s5.shape
    simp -dsimp (discharger := omega) [fc6, B6, g7]
    with_reducible refine call_ret (err_ret hp _) ?_
    simp -dsimp (discharger := omega) [g7]
    with_reducible refine call_ret (end_ret hp hS.sv hl (fun _ => Nat.le_refl _) _) ?_
    simp -dsimp (discharger := omega) [g7]
    with_reducible refine call_ret hm ?_
    simp -dsimp (discharger := omega) [g7]
    with_reducible refine call_ret (word_end hp hS.sv hl (Nat.le_refl _) _) ?_
    simp -dsimp (discharger := omega) [g7]
    with_reducible refine call_ret (err_ret hp2 _) ?_
    simp -dsimp (discharger := omega) [g7]
    with_reducible refine call_ret (at_ret hp2 _) ?_
    simp -dsimp (discharger := omega) [g5]
    with_reducible refine call_ret wk ?_
    simp -dsimp (discharger := omega) []
  · have hb : (e == 0) = false := by simpa using he
    have hIs : Ret EV65 23 [rowP p, .string ⟨#[97]⟩] h 3000000 (.bool false) [] 3000000 := is_no (s := [97]) hp hS.sv hl (fun h => absurd h he) _
    have hs' : HSub h (h.put 3000000 (.cells (some 9) [.string ⟨#[97]⟩] 1)) := HSub.new (.refl _) hw (by omega) _
    have hp' := hs' _ _ hp
    have hv' := hS.sv.mono hs'
    have hw' : WF (h.put 3000000 (.cells (some 9) [.string ⟨#[97]⟩] 1)) 3000001 := (hw.mono (by omega : n ≤ 3000000)).put _ (by omega) (by omega)
    have hm : Ret EV65 22 [rowP p] (h.put 3000000 (.cells (some 9) [.string ⟨#[97]⟩] 1)) 5000000 (.bool false) [] 5000000 := by
      have := more_ret hp' hv' hl 5000000
      rwa [decide_eq_false he, Bool.false_and] at this
    have wk : Ret EV65 16 [] (h.put 3000000 (.cells (some 9) [.string ⟨#[97]⟩] 1)) 5000000 (.bool true) [] 6000000091 := e_wk_ok.ret (n := 5000000) (show 5000000 ≤ 6000000000 by omega) (hpow (HasPow.put hS.pow (by omega) _)) (hw'.mono (by omega))
    simp -dsimp (discharger := omega) [fc6, B6, g7]
    with_reducible refine call_ret (err_ret hp _) ?_
    simp -dsimp (discharger := omega) [g7]
    with_reducible refine call_ret (err_ret hp _) ?_
    simp -dsimp (discharger := omega) [g7]
    with_reducible refine call_ret (at_ret hp _) ?_
    simp -dsimp (discharger := omega) [g7]
    with_reducible refine call_ret (pref_no hp hS.sv hl he hw hn) ?_
    simp -dsimp (discharger := omega) [g7]
    with_reducible refine call_ret (range_no hp hS.sv hl he (hw.mono (by omega)) (by omega) _ _) ?_
    simp -dsimp (discharger := omega) [g7]
    with_reducible refine call_ret (word_none hp hS.sv hl he _) ?_
    simp -dsimp (discharger := omega) [g7]
    with_reducible refine call_ret hIs ?_
    simp -dsimp (discharger := omega) [g7]
    simp -dsimp (discharger := omega) [aFill]
    with_reducible refine call_ret (one_no hp' hv' hl he _ _) ?_
    simp -dsimp (discharger := omega) [g7]
    with_reducible refine call_ret (num_no hp' hv' hl he _ _ _) ?_
    simp -dsimp (discharger := omega) [g7]
    with_reducible refine call_ret (name_no hp' hv' hl he _) ?_
    simp -dsimp (discharger := omega) [g7]
    with_reducible refine call_ret (ipr_no hp' hv' hl he hw' (by omega)) ?_
    simp -dsimp (discharger := omega) [g7]
    with_reducible refine call_ret (rate_no hp' hv' hl he (hw'.mono (by omega)) (by omega)) ?_
    have hfl : aFloatOp .eql .f64 0 0 = some (.bool true) := rfl
    simp -dsimp (discharger := omega) [g7, hfl]
    with_reducible refine call_ret (err_ret hp' _) ?_
    simp -dsimp (discharger := omega) [g7]
    with_reducible refine call_ret (at_ret hp' _) ?_
    simp -dsimp (discharger := omega) [g7]
    with_reducible refine call_ret hm ?_
    simp -dsimp (discharger := omega) [g7]
    with_reducible refine call_ret (end_ret hp' hv' hl (fun h => absurd h he) _) ?_
    simp -dsimp (discharger := omega) []
    with_reducible refine call_ret wk ?_
    simp -dsimp (discharger := omega) []
set_option maxHeartbeats 4000000 in
theorem stay_rest {ws : List (List UInt8)} (hno : ∀ x ∈ ws, ¬ x = noSuch) (hl : ws.length < 100000) {v v5 : Value} {p : Nat} (hp0 : 4096 ≤ p) {salt : Nat} (hsalt : salt < 256) {h : AHeap} {n : Nat} (hpn : p < n) (hn : n ≤ 1000000) {e : Int} (hS : StOk ws v v5 p h n 0 e) (hke : ¬ e = 0 → ws = []) {σ : Fr}
    (g1 : σ.get 1 = some (.int .u8 (salt : Int))) (g5 : σ.get 5 = some v5) (g6 : σ.get 6 = some (.int .i64 e)) (g7 : σ.get 7 = some (rowP p)) :
    wx EV65 dc6 σ h n (kThen EV65 (.seq ec6 fc6) (Done [.tmp 4] fun v _ _ => v = .bool true) ⟨⟩) ⟨⟩ := by
  have hp := hS.row
  obtain ⟨a5, k5, e5⟩ := hS.s5.shape
  simp -dsimp (discharger := omega) [dc6, B6, g7]
  with_reducible refine call_ret (err_ret hp _) ?_
  by_cases he : e = 0
  · subst he
    simp -dsimp (discharger := omega) [g6, ec6, B6, g5, e5]
    refine loop_use (st_loop hno (by omega) hp0 hsalt hpn (v := v) (v5 := v5) ws.length [(1, .int .u8 (salt : Int)), (5, v5), (7, rowP p), (31, .int .i64 (ws.length : Int)), (32, .int .i64 ((0 : Nat) : Int))] h n ⟨rfl, 0, by omega, hS, rfl⟩) (by simp [g1, g5, g7]) (.refl _) ?_
    rintro e σ' h' n' ⟨rfl, rfl, k, c, hS', hk, g5', g7'⟩
    simp -dsimp (discharger := omega) []
    exact stay_end (by omega) hp0 hpn hn hS' (fun e => by rcases hk with ⟨h1, -⟩ | ⟨-, h2⟩ <;> omega) g5' g7'
  · have hne : (e != e) = false := by simp
    have := hke he
    subst this
    simp -dsimp (discharger := omega) [g6, ec6, B6, g5, e5]
    with_reducible refine wx_round ?_
    simp -dsimp (discharger := omega) [F6L0]
    exact stay_end (by simp) hp0 hpn hn hS (fun h => absurd h he) (by simp [g5, e5]) (by simp [g7])
theorem stay_walk {s : List UInt8} (hs : s.length < 9223372036854775808) {salt : Nat} (hsalt : salt < 256) {h : AHeap} {n : Nat} (hw : WF h n) (hp : HasPow h) (hn : 4096 ≤ n) (hn2 : n ≤ 5000) :
    HasCallT EV65 6 [.string ⟨s.toArray⟩, .int .u8 (salt : Int)] h n (fun v _ _ => v = .bool true) () := by
  refine inl6 ?_
  by_cases hok : splitE s = 0
  · have h1 : ¬ 200 < s.length := fun h1 => by unfold splitE at hok; rw [if_pos h1] at hok; cases hok
    have hlen : (wordsL s).length ≤ s.length + 1 := words_len s []
    have hno : ∀ x ∈ wordsL s, ¬ x = noSuch := fun x hx e => by
      have := (words_bytes s [] (fun c hc => by cases hc) x hx).2 32 (by rw [e]; decide)
      exact absurd this.1 (by decide)
    rw [b6_eq]
    simp -dsimp (discharger := omega) [ac6, bc6, cc6, B6]
    with_reducible refine call_ret (wsplit_ok hok hw) ?_
    simp -dsimp (discharger := omega) []
    with_reducible refine call_ret (new_ok hok ?_) ?_
    · exact .of fun j hj => by simp (discharger := omega) [hw.none (i := j) (by omega)]
    simp -dsimp (discharger := omega) []
    refine stay_rest hno (by omega) (p := n + 4 + 2 * (wordsL s).length + 4 + 2 * (wordsL s).length) (by omega) hsalt (v := .slice (some ⟨n + 4 + 2 * (wordsL s).length + 3 + (wordsL s).length, 0, some (wordsL s).length⟩) (wordsL s).length 2) (v5 := .slice (some ⟨n + 3 + (wordsL s).length, 0, some (wordsL s).length⟩) (wordsL s).length 2) (e := 0) (by omega) (by omega) ⟨?_, ?_, ?_, ?_, ?_⟩ (fun h => absurd rfl h) (by simp) (by simp) (by simp) (by simp)
    · simp (discharger := omega)
    · exact .inr ⟨_, (wordsL s).length, rfl, by simp (discharger := omega), Nat.le_refl _⟩
    · exact .inr ⟨_, (wordsL s).length, rfl, by simp (discharger := omega), Nat.le_refl _⟩
    · exact HasPow.put (HasPow.put (HasPow.put hp (by omega) _) (by omega) _) (by omega) _
    · exact .of fun j hj => by simp (discharger := omega) [hw.none (i := j) (by omega)]
  · rw [b6_eq]
    simp -dsimp (discharger := omega) [ac6, bc6, cc6, B6]
    with_reducible refine call_ret (wsplit_bad hs hok hw) ?_
    simp -dsimp (discharger := omega) []
    with_reducible refine call_ret (new_bad hs hok ?_) ?_
    · exact .of fun j hj => by simp (discharger := omega) [hw.none (i := j) (by omega)]
    simp -dsimp (discharger := omega) []
    refine stay_rest (ws := []) (by simp) (by simp) (p := n + 1 + 1) (by omega) hsalt (v := .slice none 0 0) (v5 := .slice none 0 0) (e := (splitE s : Int)) (by omega) (by omega) ⟨?_, .inl ⟨rfl, rfl⟩, .inl ⟨rfl, rfl⟩, ?_, ?_⟩ (fun _ => rfl) (by simp) (by simp) (by simp) (by simp)
    · simp (discharger := omega)
    · exact HasPow.put hp (by omega) _
    · exact .of fun j hj => by simp (discharger := omega) [hw.none (i := j) (by omega)]
end
end Go.Proofs.YtmmcnholpnediaaGreatDoor.Am
