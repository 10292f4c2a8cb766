/- Contracts of the program's functions (XRo). -/
import Derived.Test.YtmmcnholpnediaaDoorXEq
namespace Go.Proofs.YtmmcnholpnediaaDoor.Am
noncomputable section
/- CONTRACTS: words.Row. -/
def rT : Nat := 68
def rowB (v : Value) (i e : Int) : Blk := .cells (some rT) [v, .int .i64 i, .int .i64 e, .bool true] 4
def rowP (p : Nat) : Value := .pointer (some ⟨p, 0, some 4⟩)
theorem err_ret {h : AHeap} {p : Nat} {v : Value} {i e : Int} (hp : h.get p = some (rowB v i e)) (n : Nat) : Ret EV15 18 [rowP p] h n (.int .i64 e) [] n := by
  refine rsx18 (by simp) (by simp) ?_
  simp -dsimp (discharger := omega) [B18, AHeap.read_of hp, rowB, rowP]
  exact .refl _
theorem fail_no {h : AHeap} {p : Nat} {v : Value} {i e : Int} (hp : h.get p = some (rowB v i e)) (he : ¬ e = 0) (c : Int) (n : Nat) : Ret EV15 35 [rowP p, .int .i64 c] h n (.tuple #[]) [] n := by
  refine rsx35 (by simp) (by simp) ?_
  simp -dsimp (discharger := omega) [B35]
  with_reducible refine call_ret (err_ret hp _) ?_
  simp -dsimp (discharger := omega) []
  exact .refl _
theorem fail_yes {h : AHeap} {p : Nat} {v : Value} {i : Int} (hp : h.get p = some (rowB v i 0)) (c : Int) (n : Nat) : Ret EV15 35 [rowP p, .int .i64 c] h n (.tuple #[]) [(p, rowB v i c)] n := by
  refine rsx35 (by simp) (by simp [hp]) ?_
  simp -dsimp (discharger := omega) [B35]
  with_reducible refine call_ret (err_ret hp _) ?_
  simp -dsimp (discharger := omega) [rowP, hp, rowB]
  exact .refl _
theorem at_ret {h : AHeap} {p : Nat} {v : Value} {i e : Int} (hp : h.get p = some (rowB v i e)) (n : Nat) : Ret EV15 31 [rowP p] h n (.int .i64 i) [] n := by
  refine rsx31 (by simp) (by simp) ?_
  simp -dsimp (discharger := omega) [B31, AHeap.read_of hp, rowB, rowP]
  exact .refl _
theorem more_ret {h : AHeap} {p : Nat} {v : Value} {i : Nat} {e : Int} {ws : List (List UInt8)} (hp : h.get p = some (rowB v (i : Int) e)) (hv : StrV h v ws) (_ : ws.length < 1000000) (n : Nat) :
    Ret EV15 38 [rowP p] h n (.bool (decide (e = 0) && decide (i < ws.length))) [] n := by
  refine rsx38 (by simp) (by simp) ?_
  obtain ⟨a, k, rfl⟩ := hv.shape
  by_cases he : e = 0
  · subst he
    simp -dsimp (discharger := omega) [B38]
    with_reducible refine ret_ret (err_ret hp _) ?_
    simp -dsimp (discharger := omega) [AHeap.read_of hp, rowB, rowP]
    exact .refl _
  · have hb : (e == 0) = false := by simpa using he
    rw [decide_eq_false he, Bool.false_and]
    simp -dsimp (discharger := omega) [B38]
    with_reducible refine ret_ret (err_ret hp _) ?_
    simp -dsimp (discharger := omega) [hb, rowP]
    exact .refl _
theorem word_ret {h : AHeap} {p : Nat} {v : Value} {i : Nat} {ws : List (List UInt8)} (hp : h.get p = some (rowB v (i : Int) 0)) (hv : StrV h v ws) (hw : ws.length < 1000000) {x : List UInt8} (hx : ws[i]? = some x) (hpq : ∀ q m, h.get q = some (.cells (some 9) (strsL ws) m) → ¬ p = q) (n : Nat) :
    Ret EV15 29 [rowP p] h n (.string ⟨x.toArray⟩) [(p, rowB v ((i + 1 : Nat) : Int) 0)] n := by
  refine rsx29 (by simp) (by simp [hp]) ?_
  have hi : i < ws.length := (List.getElem?_eq_some_iff.1 hx).1
  have hm := more_ret hp hv hw n
  rw [decide_eq_true rfl, decide_eq_true hi] at hm
  rcases hv with ⟨rfl, -⟩ | ⟨q, m, rfl, hg, hmm⟩
  · cases hx
  have hne := hpq q m hg
  obtain ⟨q', e, -, hr⟩ := StrV.at (.inr ⟨q, m, rfl, hg, hmm⟩ : StrV h _ ws) hx
  cases e
  have e1 : (i : Int) + 1 = ((i + 1 : Nat) : Int) := by omega
  simp -dsimp (discharger := omega) [B29]
  with_reducible refine call_ret hm ?_
  simp -dsimp (discharger := omega) [AHeap.read_of hp, hp, rowB, rowP, hne, hr]
  exact .refl _
theorem word_none {h : AHeap} {p : Nat} {v : Value} {i : Nat} {e : Int} {ws : List (List UInt8)} (hp : h.get p = some (rowB v (i : Int) e)) (hv : StrV h v ws) (hw : ws.length < 1000000) (he : ¬ e = 0) (n : Nat) :
    Ret EV15 29 [rowP p] h n (.string ⟨#[]⟩) [] n := by
  refine rsx29 (by simp) (by simp) ?_
  have hm := more_ret hp hv hw n
  rw [decide_eq_false he, Bool.false_and] at hm
  simp -dsimp (discharger := omega) [B29]
  with_reducible refine call_ret hm ?_
  simp -dsimp (discharger := omega) []
  with_reducible refine call_ret (fail_no hp he _ _) ?_
  simp -dsimp (discharger := omega) []
  exact .refl _
theorem word_end {h : AHeap} {p : Nat} {v : Value} {i : Nat} {ws : List (List UInt8)} (hp : h.get p = some (rowB v (i : Int) 0)) (hv : StrV h v ws) (hw : ws.length < 1000000) (hi : ws.length ≤ i) (n : Nat) :
    Ret EV15 29 [rowP p] h n (.string ⟨#[]⟩) [(p, rowB v (i : Int) 4)] n := by
  refine rsx29 (by simp) (by simp [hp]) ?_
  have hm := more_ret hp hv hw n
  rw [decide_eq_false (p := i < ws.length) (by omega), Bool.and_false] at hm
  simp -dsimp (discharger := omega) [B29]
  with_reducible refine call_ret hm ?_
  simp -dsimp (discharger := omega) []
  with_reducible refine call_ret (fail_yes hp _ _) ?_
  simp -dsimp (discharger := omega) []
  exact .refl _
theorem end_ret {h : AHeap} {p : Nat} {v : Value} {i : Nat} {e : Int} {ws : List (List UInt8)} (hp : h.get p = some (rowB v (i : Int) e)) (hv : StrV h v ws) (hw : ws.length < 1000000) (hi : e = 0 → ws.length ≤ i) (n : Nat) :
    Ret EV15 17 [rowP p] h n (.int .i64 e) [] n := by
  refine rsx17 (by simp) (by simp) ?_
  have hm := more_ret hp hv hw n
  have hb : (decide (e = 0) && decide (i < ws.length)) = false := by
    by_cases h1 : e = 0
    · have := hi h1
      rw [decide_eq_false (p := i < ws.length) (by omega), Bool.and_false]
    · rw [decide_eq_false h1, Bool.false_and]
  rw [hb] at hm
  simp -dsimp (discharger := omega) [B17]
  with_reducible refine call_ret hm ?_
  simp -dsimp (discharger := omega) []
  with_reducible refine call_ret (err_ret hp _) ?_
  simp -dsimp (discharger := omega) []
  exact .refl _
theorem new_bad {s : List UInt8} (hs : s.length < 9223372036854775808) (hbad : ¬ splitE s = 0) {h : AHeap} {n : Nat} (hw : WF h n) :
    Ret EV15 10 [.string ⟨s.toArray⟩] h n (rowP (n + 1)) [(n + 1, rowB (.slice none 0 0) ((0 : Nat) : Int) (splitE s : Int))] (n + 2) := by
  refine rsx10 (by simp) (fun i hi => by simp at hi; subst hi; exact .inr ⟨by omega, by omega⟩) ?_
  simp -dsimp (discharger := omega) [B10]
  with_reducible refine call_ret (wsplit_bad hs hbad hw) ?_
  simp -dsimp (discharger := omega) [aFill, rowB, rowP, rT]
  exact .refl _
theorem new_ok {s : List UInt8} (hok : splitE s = 0) {h : AHeap} {n : Nat} (hw : WF h n) :
    Ret EV15 10 [.string ⟨s.toArray⟩] h n (rowP (n + 4 + 2 * (wordsL s).length)) [(n + 3 + (wordsL s).length, .cells (some 9) (strsL (wordsL s)) (wordsL s).length), (n + 4 + 2 * (wordsL s).length, rowB (.slice (some ⟨n + 3 + (wordsL s).length, 0, some (wordsL s).length⟩) (wordsL s).length 2) ((0 : Nat) : Int) 0)] (n + 5 + 2 * (wordsL s).length) := by
  refine rsx10 (by simp; omega) (fun i hi => by simp at hi; rcases hi with rfl | rfl; exact .inr ⟨by omega, by omega⟩; exact .inr ⟨by omega, by omega⟩) ?_
  simp -dsimp (discharger := omega) [B10]
  with_reducible refine call_ret (wsplit_ok hok hw) ?_
  simp -dsimp (discharger := omega) [aFill, rowB, rowP, rT]
  exact ⟨.refl _, by omega⟩
end
end Go.Proofs.YtmmcnholpnediaaDoor.Am
