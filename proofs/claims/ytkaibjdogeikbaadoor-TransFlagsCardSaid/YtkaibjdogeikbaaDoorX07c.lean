/- Contracts of the program's functions (X07c). -/
import Derived.Test.YtkaibjdogeikbaaDoorW
namespace Go.Proofs.YtkaibjdogeikbaaDoor.Am
noncomputable section
/- THE LAW TransFlags: the loop that turns the parts round. -/
def RevInv (ps : List (List UInt8)) (h0 : AHeap) (q : Nat) (n0 : Nat) (v0 v1 v5 : Value) (m : Nat) (σ : Fr) (h : AHeap) (n : Nat) : Prop :=
  n = n0 ∧ ∃ (i : Nat) (cur : List (List UInt8)), 2 * i ≤ ps.length ∧ m = ps.length - 2 * i ∧ cur.length = ps.length ∧ (∀ k, k < ps.length → cur[k]? = if k < i ∨ ps.length - i ≤ k then ps[ps.length - 1 - k]? else ps[k]?) ∧
    h = h0.put q (.cells (some 9) (strsL cur) ps.length) ∧
    σ = [(0, v0), (1, v1), (5, v5), (8, .slice (some ⟨q, 0, some ps.length⟩) ps.length 2), (9, .int .i64 (i : Int)), (10, .int .i64 ((ps.length : Int) - 1 - i))]
def RevPost (ps : List (List UInt8)) (h0 : AHeap) (q : Nat) (n0 : Nat) (v0 v1 v5 : Value) (e : Ex) (σ' : Fr) (h' : AHeap) (n' : Nat) : Prop :=
  e = .exit 0 ∧ n' = n0 ∧ h' = h0.put q (.cells (some 9) (strsL ps.reverse) ps.length) ∧ σ'.get 0 = some v0 ∧ σ'.get 1 = some v1 ∧ σ'.get 5 = some v5 ∧ σ'.get 8 = some (.slice (some ⟨q, 0, some ps.length⟩) ps.length 2)
theorem rev_loop {ps : List (List UInt8)} {h0 : AHeap} {q n0 : Nat} (hq : q < n0) (hlen : ps.length < 1000000) (hpos : 0 < ps.length) (v0 v1 v5 : Value) :
    ∀ (m : Nat) (σ : Fr) (h : AHeap) (n : Nat), RevInv ps h0 q n0 v0 v1 v5 m σ h n → HasCode EV07 (.loop F3L0) σ h n (RevPost ps h0 q n0 v0 v1 v5) := by
  refine wx_inv _ fun m σ h n hI => ?_
  obtain ⟨rfl, i, cur, hi, rfl, hcl, hcur, rfl, rfl⟩ := hI
  by_cases hlt : 2 * i + 1 < ps.length
  · have hcl2 : cur.length = ps.length := hcl
    obtain ⟨x, hx⟩ : ∃ x, cur[i]? = some x := ⟨_, List.getElem?_eq_getElem (by omega)⟩
    obtain ⟨y, hy⟩ : ∃ y, cur[ps.length - 1 - i]? = some y := ⟨_, List.getElem?_eq_getElem (by omega)⟩
    have hti : ((ps.length : Int) - 1 - i).toNat = ps.length - 1 - i := by omega
    have hrd : ∀ k z, cur[k]? = some z → List.take 1 (List.drop k (strsL cur)) = [.string ⟨z.toArray⟩] := fun k z hz => by
      have h1 := strsL_get? hz
      obtain ⟨hlt, he⟩ := List.getElem?_eq_some_iff.1 h1
      rw [List.drop_eq_getElem_cons hlt, he]; rfl
    simp -dsimp (discharger := omega) [F3L0, hti, hrd i x hx, hrd _ y hy, hcl]
    refine ⟨hq, .mk' (ps.length - 2 * (i + 1)) (by omega) [(0, v0), (1, v1), (5, v5), (8, .slice (some ⟨q, 0, some ps.length⟩) ps.length 2), (9, .int .i64 ((i + 1 : Nat) : Int)), (10, .int .i64 ((ps.length : Int) - 1 - (i + 1 : Nat)))]
      (h0.put q (.cells (some 9) (strsL ((cur.set i y).set (ps.length - 1 - i) x)) ps.length)) ?_ ?_ ⟨rfl, i + 1, (cur.set i y).set (ps.length - 1 - i) x, by omega, rfl, by simpa using hcl, ?_, rfl, rfl⟩⟩
    · simp; omega
    · rw [strsL_set (by omega), strsL_set (by simp; omega)]
      refine .ofE (.left (.inr (by simp)) ?_)
      repeat (refine .right (.inl (by simp)) ?_)
      exact .refl _ _
    · intro k hk
      rw [hcur i (by omega)] at hx
      rw [if_neg (by omega)] at hx
      rw [hcur _ (by omega), if_neg (by omega)] at hy
      rw [List.getElem?_set, List.getElem?_set]
      by_cases h1 : ps.length - 1 - i = k
      · subst h1
        rw [if_pos rfl, if_pos (by simp; omega), if_pos (by omega), show ps.length - 1 - (ps.length - 1 - i) = i from by omega, hx]
      · rw [if_neg h1]
        by_cases h2 : i = k
        · subst h2
          rw [if_pos rfl, if_pos (by omega), if_pos (by omega), hy]
        · rw [if_neg h2, hcur k hk]
          by_cases h3 : k < i ∨ ps.length - i ≤ k
          · rw [if_pos h3, if_pos (by omega)]
          · rw [if_neg h3, if_neg (by omega)]
  · simp -dsimp (discharger := omega) [F3L0]
    refine ⟨rfl, rfl, ?_, by simp, by simp, by simp, by simp⟩
    have : cur = ps.reverse := by
      refine List.ext_getElem? fun k => ?_
      by_cases hk : k < ps.length
      · rw [hcur k hk, List.getElem?_reverse hk]
        split
        · rfl
        · rename_i h
          have : ps.length - 1 - k = k := by omega
          rw [this]
      · rw [List.getElem?_eq_none (by omega), List.getElem?_eq_none (by simp; omega)]
    rw [this]
theorem flags_short : ∀ f : Fin 256, (joinL [44] (splitL 44 (textL f.1)).reverse).length ≤ 100 ∧ ((splitL 44 (textL f.1)).reverse.headD []).length ≤ 100 := by decide +kernel
theorem flags_walk {f : Nat} (hf : f < 256) (s : List UInt8) (hs : s.length < 9223372036854775808) {h : AHeap} {n : Nat} (hw : WF h n) (hnm : HasNames h) (hn : n ≤ 5000) :
    HasCallT EV07 3 [.int .u8 (f : Int), .string ⟨s.toArray⟩] h n (fun v h' n' => v = .bool true) () := by
  refine inl3 ?_
  have hm : (if (60 : Int) < (s.length : Int) then (60 : Int) else (s.length : Int)).toNat = Min.min 60 s.length := by split <;> omega
  have hs2 : (s.take (Min.min 60 s.length)).length ≤ 60 := by simp; omega
  simp -dsimp (discharger := omega) [B3, hm]
  generalize s.take (Min.min 60 s.length) = s2 at hs2 ⊢
  have hok := flags_all ⟨f, hf⟩
  simp only [flagsOk, Bool.and_eq_true, beq_iff_eq] at hok
  obtain ⟨⟨⟨ok1, ok2⟩, ok3⟩, ok4⟩ := hok
  have htl := text_len ⟨f, hf⟩
  have htl2 : (textL f).length ≤ 100 := by
    have : ∀ f : Fin 256, (textL f.1).length ≤ 100 := by decide +kernel
    exact this ⟨f, hf⟩
  with_reducible refine call_ret (text_ret hf hw hnm) ?_
  simp -dsimp (discharger := omega) []
  with_reducible refine call_ret (parse_ret (s := textL f) (by omega) (hw.mono (by omega)) hnm) ?_
  simp -dsimp (discharger := omega) [ok1]
  with_reducible refine call_ret (split_ret (textL f) 44 (by omega) _ _) ?_
  have hsl := split_len 44 (textL f)
  have hsp : 0 < (splitL 44 (textL f)).length := List.length_pos_iff.2 (splitL_ne _ _)
  have hw1 : WF h (n + 18 + 1) := hw.mono (by omega)
  simp -dsimp (discharger := omega) []
  refine loop_use (rev_loop (q := n + 18 + 1) (by omega) (by omega) hsp (.int .u8 (f : Int)) (.string ⟨s2.toArray⟩) (.string ⟨(textL f).toArray⟩) _ _ _ _ ⟨rfl, 0, splitL 44 (textL f), by omega, rfl, rfl, fun k hk => by rw [if_neg (by omega)], rfl, rfl⟩) (by simp) (.refl _) ?_
  rintro e σ' h' n' ⟨rfl, rfl, rfl, g0, g1, g5, g8⟩
  have hw2 : WF (h.put (n + 18 + 1) (.cells (some 9) (strsL (splitL 44 (textL f)).reverse) (splitL 44 (textL f)).length)) (n + 18 + 1 + 1) := hw1.put _ (by omega) (by omega)
  have hnm2 : HasNames (h.put (n + 18 + 1) (.cells (some 9) (strsL (splitL 44 (textL f)).reverse) (splitL 44 (textL f)).length)) := by
    unfold HasNames; rw [AHeap.get_put_ne _ _ (by omega)]; exact hnm
  obtain ⟨hjs, hpn⟩ : (joinL [44] (splitL 44 (textL f)).reverse).length ≤ 100 ∧ ((splitL 44 (textL f)).reverse.headD []).length ≤ 100 := flags_short ⟨f, hf⟩
  generalize hps : (splitL 44 (textL f)).reverse = ps at ok2 ok3 hw2 hnm2 hjs hpn ⊢
  have hpl : (splitL 44 (textL f)).length = ps.length := by rw [← hps]; simp
  rw [hpl] at hw2 hnm2 hsl hsp g8 ⊢
  have hp0 : ps[0]? = some (ps.headD []) := by
    cases ps with
    | nil => simp at hsp
    | cons a l => rfl
  have hrd0 : List.take 1 (strsL ps) = [.string ⟨(ps.headD []).toArray⟩] := by
    cases ps with
    | nil => simp at hsp
    | cons a l => rfl
  have hwn : ∀ k, WF (h.put (n + 18 + 1) (.cells (some 9) (strsL ps) ps.length)) (n + 18 + 1 + 1 + k) := fun k => hw2.mono (by omega)
  simp only [List.append_assoc, List.cons_append, List.nil_append] at ok3
  generalize ps.headD [] = p0 at hp0 hpn hrd0 ok3
  simp -dsimp (discharger := omega) [g0, g1, g5, g8]
  with_reducible refine call_ret (join_ret (ss := ps) (by simp) hw2 [44] (by simp) (by omega) (by omega)) ?_
  simp -dsimp (discharger := omega) []
  with_reducible refine call_ret (parse_ret (by omega) (hw2.mono (by omega)) hnm2) ?_
  simp -dsimp (discharger := omega) [ok2, g5, g8, hrd0]
  with_reducible refine call_ret (parse_ret (by simp; omega) (hw2.mono (by omega)) hnm2) ?_
  simp -dsimp (discharger := omega) [g0, g1, g5, g8, ok3]
  with_reducible refine call_ret (parse_ret (by simp; omega) (hw2.mono (by omega)) hnm2) ?_
  simp -dsimp (discharger := omega) [g0, g1, g5, g8]
  have hp := parseL_len s2
  have hp2 : (parseL s2).1 < 256 := parseL_lt
  have hf0 : f = 0 ∨ f ≠ 0 := by omega
  rcases hf0 with rfl | hf0
  all_goals
    simp -dsimp (discharger := omega) [g0, g1, g5, g8, ok4]
    with_reducible refine call_ret (parse_ret (by omega) (hw2.mono (by omega)) hnm2) ?_
    rcases hp with ⟨hp, hl⟩ | ⟨hp, hl⟩
    · simp -dsimp (discharger := omega) [g0, g1, g5, g8, hp]
      with_reducible refine call_ret (text_ret hp2 (hw2.mono (by omega)) hnm2) ?_
      simp -dsimp (discharger := omega) [g0, g1, g5, g8, hp, hl]

      with_reducible refine call_ret (wakes_ret (by omega) (hw2.mono (by omega)) hnm2) ?_
      simp -dsimp (discharger := omega) []
    · have hb : (((parseL s2).2 : Int) == 0) = false := by simp; omega
      have hb2 : (((parseL s2).2 : Int) != 0) = true := by simp; omega
      simp -dsimp (discharger := omega) [g0, g1, g5, g8, hb, hb2, hl]

      with_reducible refine call_ret (wakes_ret (by omega) (hw2.mono (by omega)) hnm2) ?_
      simp -dsimp (discharger := omega) []
end
end Go.Proofs.YtkaibjdogeikbaaDoor.Am
