/- Contracts and plain facts (LG). -/
import Derived.Test.YtmmcnholpnediaaDoorLF
namespace Go.Proofs.YtmmcnholpnediaaDoor.Am
noncomputable section
/- CONTRACTS: words.Split. -/
def splitE (s : List UInt8) : Nat := if 200 < s.length then 3 else if s.all plainC then 0 else 5
theorem cutA_ahead (s : List UInt8) : cutA s 35 = ahead s := by
  unfold cutA ahead
  induction s with
  | nil => rfl
  | cons b l ih =>
    have hge := Lib.indexByte_ge l 35
    unfold Lib.indexByte
    by_cases h : b = 35
    · subst h; simp
    · have h1 : (b == 35) = false := by simpa using h
      rw [List.takeWhile_cons_of_pos (by simpa using h), h1]
      simp only [Bool.false_eq_true, if_false]
      by_cases h3 : Lib.indexByte l 35 = -1
      · rw [if_pos h3] at ih
        have : (Lib.indexByte l 35 == -1) = true := by simpa using h3
        rw [this]
        simp only [if_true]
        rw [← ih]
      · rw [if_neg h3] at ih
        have : (Lib.indexByte l 35 == -1) = false := by simpa using h3
        rw [this]
        simp only [Bool.false_eq_true, if_false]
        rw [if_neg (by omega), ← ih]
        have e : (Lib.indexByte l 35 + 1).toNat = (Lib.indexByte l 35).toNat + 1 := by omega
        rw [e, List.take_succ_cons]
theorem ahead_len (s : List UInt8) : (ahead s).length ≤ s.length := (List.takeWhile_sublist _).length_le
theorem ahead_mem {s : List UInt8} {c : UInt8} (h : c ∈ ahead s) : c ∈ s := (List.takeWhile_sublist _).subset h
theorem plain_lt {c : UInt8} (h : plainC c = true) : c.toNat < 128 := by
  unfold plainC at h
  simp only [Bool.or_eq_true, beq_iff_eq, Bool.and_eq_true, decide_eq_true_eq] at h
  rcases h with rfl | ⟨_, h⟩
  · decide
  · have := UInt8.le_iff_toNat_le.1 h
    have e : (126 : UInt8).toNat = 126 := rfl
    omega
theorem words_ahead (s : List UInt8) : wordsL (ahead s) = wordsL s := wordsGo_ahead s []
theorem strange_any (s : List UInt8) : s.any strangeC = !s.all plainC := by
  induction s with
  | nil => rfl
  | cons a l ih => simp only [List.any_cons, List.all_cons, ih, strangeC, Bool.not_and]
theorem wsplit_bad {s : List UInt8} (hs : s.length < 9223372036854775808) (hbad : ¬ splitE s = 0) {h : AHeap} {n : Nat} (hw : WF h n) :
    Ret EV15 5 [.string ⟨s.toArray⟩] h n (.tuple #[.slice none 0 0, .int .i64 (splitE s : Int)]) [] (n + 1) := by
  refine rsx5 (by simp) (by simp) ?_
  by_cases h1 : 200 < s.length
  · have e : splitE s = 3 := by rw [splitE, if_pos h1]
    rw [e]
    simp -dsimp (discharger := omega) [B5, HSub.refl]
  · have hp : s.all plainC = false := by
      unfold splitE at hbad
      rw [if_neg h1] at hbad
      cases hp : s.all plainC with
      | true => rw [hp] at hbad; simp at hbad
      | false => rfl
    have e : splitE s = 5 := by rw [splitE, if_neg h1, hp]; rfl
    rw [e]
    simp -dsimp (discharger := omega) [B5]
    with_reducible refine call_ret (containsFunc_ret (bs := s) (v := .slice (some ⟨n, 0, some s.length⟩) s.length 2) (p := strangeC) ?_ (by omega) (fun c h n => strange_ret c h n) _) ?_
    · exact bs_new (m := s.length) (by simp [bufB]) (Nat.le_refl _)
    rw [strange_any, hp]
    simp -dsimp (discharger := omega) []
    exact .new (.refl _) hw (Nat.le_refl _) _
theorem wsplit_ok {s : List UInt8} (hok : splitE s = 0) {h : AHeap} {n : Nat} (hw : WF h n) :
    Ret EV15 5 [.string ⟨s.toArray⟩] h n (.tuple #[.slice (some ⟨n + 3 + (wordsL s).length, 0, some (wordsL s).length⟩) (wordsL s).length 2, .int .i64 0])
      [(n + 3 + (wordsL s).length, .cells (some 9) (strsL (wordsL s)) (wordsL s).length)] (n + 4 + 2 * (wordsL s).length) := by
  refine rsx5 (by simp) (fun i hi => by simp at hi; subst hi; exact .inr ⟨by omega, by omega⟩) ?_
  have h1 : ¬ 200 < s.length := fun h1 => by unfold splitE at hok; rw [if_pos h1] at hok; cases hok
  have hp : s.all plainC = true := by
    unfold splitE at hok
    rw [if_neg h1] at hok
    cases hp : s.all plainC with
    | true => rfl
    | false => rw [hp] at hok; cases hok
  have ha := ahead_len s
  have hw1 : WF (h.put n (.cells (some 5) (u8s s) s.length)) (n + 1) := .of fun j hj => by simp (discharger := omega) [hw.none (i := j) (by omega)]
  simp -dsimp (discharger := omega) [B5]
  with_reducible refine call_ret (containsFunc_ret (bs := s) (v := .slice (some ⟨n, 0, some s.length⟩) s.length 2) (p := strangeC) ?_ (by omega) (fun c h n => strange_ret c h n) _) ?_
  · exact bs_new (m := s.length) (by simp [bufB]) (Nat.le_refl _)
  rw [strange_any, hp]
  simp -dsimp (discharger := omega) []
  with_reducible refine call_ret (cut_ret s 35 (by omega) _ _) ?_
  rw [cutA_ahead]
  simp -dsimp (discharger := omega) []
  with_reducible refine call_ret (fields_ret (s := ahead s) (by omega) (fun c hc => plain_lt (List.all_eq_true.1 hp c (ahead_mem hc))) (fun c hc => ahead_no s c hc) hw1) ?_
  rw [words_ahead]
  simp -dsimp (discharger := omega) []
  rw [show n + 1 + 2 + (wordsL s).length = n + 3 + (wordsL s).length by omega]
  exact .put_both _ _ (.new (.refl _) hw (Nat.le_refl _) _)
end
end Go.Proofs.YtmmcnholpnediaaDoor.Am
