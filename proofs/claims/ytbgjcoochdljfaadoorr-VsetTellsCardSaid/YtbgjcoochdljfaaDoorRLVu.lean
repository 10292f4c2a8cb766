/- Contracts and plain facts (LVu). -/
import Derived.Test.YtbgjcoochdljfaaDoorRX12
namespace Go.Proofs.YtbgjcoochdljfaaDoorR.Am
noncomputable section
/- PLAIN LAWS: a set's ranges rise, lie apart, and are the numbers that it has. -/
def RGood (rr : List (Nat × Nat)) : Prop := rr.Pairwise (fun p q => q.2 + 1 < p.1) ∧ ∀ p ∈ rr, 1 ≤ p.1 ∧ p.1 ≤ p.2 ∧ p.2 ≤ 4094
def InR (rr : List (Nat × Nat)) (i : Nat) : Prop := ∃ p ∈ rr, p.1 ≤ i ∧ i ≤ p.2
def sumR : List (Nat × Nat) → Nat
  | [] => 0
  | p :: r => (p.2 - p.1 + 1) + sumR r
theorem addR_one {rr : List (Nat × Nat)} {v : Nat} (hg : RGood rr) (hv : 1 ≤ v ∧ v ≤ 4094) (hl : ∀ p ∈ rr, p.2 < v) :
    RGood (addR rr v) ∧ (∀ i, InR (addR rr v) i ↔ InR rr i ∨ i = v) ∧ sumR (addR rr v) = sumR rr + 1 ∧ ∀ p ∈ addR rr v, p.2 ≤ v := by
  match rr, hg, hl with
  | [], _, _ =>
    refine ⟨⟨by simp [addR], by simp [addR]; omega⟩, fun i => ?_, by simp [addR, sumR], by simp [addR]⟩
    simp only [addR, InR, List.mem_singleton, exists_eq_left, List.not_mem_nil, false_and, exists_false, false_or]
    omega
  | (f, t) :: r, hg, hl =>
    obtain ⟨h1, h2⟩ := hg
    have hft := h2 _ (.head _)
    have htv := hl _ (.head _)
    rw [List.pairwise_cons] at h1
    simp only [] at hft htv
    by_cases hc : t + 1 = v
    · simp only [addR, if_pos hc]
      refine ⟨⟨List.pairwise_cons.2 ⟨fun q hq => h1.1 q hq, h1.2⟩, fun p hp => ?_⟩, fun i => ?_, by simp only [sumR]; omega, fun p hp => ?_⟩
      · rcases List.mem_cons.1 hp with rfl | hp
        · exact ⟨hft.1, by simp only []; omega, hv.2⟩
        · exact h2 p (.tail _ hp)
      · constructor
        · rintro ⟨p, hp, hi⟩
          rcases List.mem_cons.1 hp with rfl | hp
          · simp only [] at hi
            by_cases e : i = v
            · exact .inr e
            · exact .inl ⟨(f, t), .head _, by simp only []; omega⟩
          · exact .inl ⟨p, .tail _ hp, hi⟩
        · rintro (⟨p, hp, hi⟩ | rfl)
          · rcases List.mem_cons.1 hp with rfl | hp
            · exact ⟨(f, v), .head _, by simp only [] at hi ⊢; omega⟩
            · exact ⟨p, .tail _ hp, hi⟩
          · exact ⟨(f, i), .head _, by simp only []; omega⟩
      · rcases List.mem_cons.1 hp with rfl | hp
        · exact Nat.le_refl _
        · exact Nat.le_of_lt (hl p (.tail _ hp))
    · simp only [addR, if_neg hc]
      refine ⟨⟨List.pairwise_cons.2 ⟨fun q hq => ?_, List.pairwise_cons.2 h1⟩, fun p hp => ?_⟩, fun i => ?_, by simp only [sumR]; omega, fun p hp => ?_⟩
      · rcases List.mem_cons.1 hq with rfl | hq
        · simp only []; omega
        · have := h1.1 q hq
          simp only [] at this ⊢
          omega
      · rcases List.mem_cons.1 hp with rfl | hp
        · exact ⟨hv.1, Nat.le_refl _, hv.2⟩
        · exact h2 p hp
      · constructor
        · rintro ⟨p, hp, hi⟩
          rcases List.mem_cons.1 hp with rfl | hp
          · exact .inr (by simp only [] at hi; omega)
          · exact .inl ⟨p, hp, hi⟩
        · rintro (⟨p, hp, hi⟩ | rfl)
          · exact ⟨p, .tail _ hp, hi⟩
          · exact ⟨(i, i), .head _, Nat.le_refl _, Nat.le_refl _⟩
      · rcases List.mem_cons.1 hp with rfl | hp
        · exact Nat.le_refl _
        · exact Nat.le_of_lt (hl p hp)
theorem addR_all : ∀ {l : List Nat} {rr : List (Nat × Nat)}, RGood rr → l.Pairwise (· < ·) → (∀ v ∈ l, 1 ≤ v ∧ v ≤ 4094) → (∀ v ∈ l, ∀ p ∈ rr, p.2 < v) →
    RGood (l.foldl addR rr) ∧ (∀ i, InR (l.foldl addR rr) i ↔ InR rr i ∨ i ∈ l) ∧ sumR (l.foldl addR rr) = sumR rr + l.length
  | [], rr, hg, _, _, _ => ⟨hg, fun i => by simp, rfl⟩
  | v :: l, rr, hg, hp, hv, hl => by
    rw [List.pairwise_cons] at hp
    obtain ⟨g, m, s, b⟩ := addR_one hg (hv v (.head _)) (hl v (.head _))
    obtain ⟨g2, m2, s2⟩ := addR_all (l := l) g hp.2 (fun x hx => hv x (.tail _ hx)) (fun x hx p hpp => Nat.lt_of_le_of_lt (b p hpp) (hp.1 x hx))
    refine ⟨g2, fun i => ?_, ?_⟩
    · rw [List.foldl_cons, m2 i, m i, List.mem_cons, or_assoc]
    · rw [List.foldl_cons, s2, s, List.length_cons]; omega
theorem elsRise (N : Nat) : (els N).Pairwise (· < ·) := List.Pairwise.filter _ List.pairwise_lt_range
theorem rangesR_good {N : Nat} (hN : Vs N) : RGood (rangesR N) ∧ (∀ i, InR (rangesR N) i ↔ N.testBit i = true) ∧ sumR (rangesR N) = (els N).length := by
  obtain ⟨h1, h2, h3⟩ := addR_all (l := els N) (rr := []) ⟨.nil, by simp⟩ (elsRise N) (fun v hv => hN v (els_lt hv).2) (by simp)
  refine ⟨h1, fun i => ?_, by rw [rangesR, h3]; simp [sumR]⟩
  rw [rangesR, h2 i]
  constructor
  · rintro (⟨p, hp, _⟩ | h)
    · simp at hp
    · exact (els_lt h).2
  · intro h
    have := hN i h
    exact .inr (List.mem_filter.2 ⟨List.mem_range.2 (by omega), h⟩)
/- The set of some ranges. -/
def uniL (rs : List (Nat × Nat)) (M : Nat) : Nat := rs.foldl (fun N p => N ||| rng (p.1 : Nat) (p.2 : Nat)) M
theorem uniL_bit : ∀ (rs : List (Nat × Nat)) (M i : Nat), (∀ p ∈ rs, 1 ≤ p.1 ∧ p.1 ≤ p.2 ∧ p.2 ≤ 4094) → ((uniL rs M).testBit i = true ↔ M.testBit i = true ∨ InR rs i)
  | [], M, i, _ => by simp [uniL, InR]
  | p :: rs, M, i, h => by
    have hp := h p (.head _)
    have ih := uniL_bit rs (M ||| rng (p.1 : Nat) (p.2 : Nat)) i (fun q hq => h q (.tail _ hq))
    unfold uniL at ih ⊢
    rw [List.foldl_cons, ih, Nat.testBit_or, rng_bit, Bool.or_eq_true, decide_eq_true_iff, or_assoc]
    refine or_congr Iff.rfl ⟨?_, ?_⟩
    · rintro (⟨a, b, _, _⟩ | ⟨q, hq, x⟩)
      · exact ⟨p, .head _, by omega, by omega⟩
      · exact ⟨q, .tail _ hq, x⟩
    · rintro ⟨q, hq, x, y⟩
      rcases List.mem_cons.1 hq with rfl | hq
      · exact .inl ⟨by omega, by omega, by omega, by omega⟩
      · exact .inr ⟨q, hq, x, y⟩
theorem uniL_ranges {N : Nat} (hN : Vs N) : uniL (rangesR N).reverse 0 = N := by
  obtain ⟨⟨_, h1⟩, h2, _⟩ := rangesR_good hN
  refine Nat.eq_of_testBit_eq fun i => ?_
  rw [Bool.eq_iff_iff, uniL_bit _ _ _ (fun p hp => h1 p (List.mem_reverse.1 hp)), ← h2 i]
  simp [InR]
/- THE TEXT OF A SET, READ. -/
theorem splitApp {c : UInt8} : ∀ {q : List UInt8} (r : List UInt8), c ∉ q → splitL c (q ++ c :: r) = q :: splitL c r
  | [], r, _ => by simp [splitL]
  | x :: q, r, h => by
    have hx : ¬ x = c := fun e => h (by simp [e])
    have ih := splitApp (c := c) (q := q) r (fun e => h (by simp [e]))
    simp only [List.cons_append, splitL, if_neg hx, ih]
theorem splitOne {c : UInt8} : ∀ {q : List UInt8}, c ∉ q → splitL c q = [q]
  | [], _ => rfl
  | x :: q, h => by
    have hx : ¬ x = c := fun e => h (by simp [e])
    have ih := splitOne (c := c) (q := q) (fun e => h (by simp [e]))
    simp only [splitL, if_neg hx, ih]
theorem split_join {c : UInt8} : ∀ {ps : List (List UInt8)}, ps ≠ [] → (∀ p ∈ ps, c ∉ p) → splitL c (joinL [c] ps) = ps
  | [], h, _ => absurd rfl h
  | [a], _, h => splitOne (h a (.head _))
  | a :: b :: l, _, h => by
    rw [joinL, List.append_assoc, List.singleton_append, splitApp _ (h a (.head _)), split_join (by simp) (fun p hp => h p (.tail _ hp))]
theorem idxAt {c : UInt8} : ∀ {s : List UInt8} {i : Nat}, (∀ x, x ∈ s.take i → ¬ x = c) → s[i]? = some c → Lib.indexByte s c = (i : Int)
  | [], i, _, h => by simp at h
  | x :: s, 0, _, h => by
    simp at h; subst h
    simp [Lib.indexByte]
  | x :: s, i + 1, hn, h => by
    have hx : (x == c) = false := beq_eq_false_iff_ne.2 (hn x (by simp))
    have ih := idxAt (s := s) (i := i) (c := c) (fun y hy => hn y (by simp [hy])) (by simpa using h)
    simp only [Lib.indexByte, hx, ih]
    rw [if_neg (by simp), if_neg (by simp)]
    rfl
theorem idxNo {c : UInt8} : ∀ {s : List UInt8}, (∀ x, x ∈ s → ¬ x = c) → Lib.indexByte s c = -1
  | [], _ => rfl
  | x :: s, hn => by
    have hx : (x == c) = false := beq_eq_false_iff_ne.2 (hn x (by simp))
    have ih := idxNo (s := s) (c := c) (fun y hy => hn y (by simp [hy]))
    simp only [Lib.indexByte, hx, ih]
    rfl
theorem decs_no {u : Nat} {c : UInt8} (hc : isD c = false) : ∀ x, x ∈ decs u → ¬ x = c := fun x hx e => by
  have := List.all_eq_true.1 (decs_isD u) x hx
  rw [e, hc] at this; cases this
theorem numB_decs {u : Nat} (h1 : 1 ≤ u) (h2 : u ≤ 4094) : numB (decs u) = true := by
  have hb := ndig_bounds u
  have hl := decs_len u
  have h4 : ndig u ≤ 4 := by
    refine Nat.le_of_not_lt fun h => ?_
    rcases hb.2 with e | e
    · omega
    · have : 10 ^ 4 ≤ 10 ^ (ndig u - 1) := Nat.pow_le_pow_right (by decide) (by omega)
      omega
  have hh : head48 (decs u) = false := by
    have hc := decs_canon u
    cases hd : decs u with
    | nil => rfl
    | cons c l =>
      rw [hd] at hc
      simp only [canon, Bool.and_eq_true, Bool.or_eq_true] at hc
      rcases hc.2 with e | e
      · have hl0 : l = [] := by simpa using e
        have hv := decs_val u
        rw [hd, hl0] at hv
        simp only [decV, List.foldl_cons, List.foldl_nil] at hv
        simp only [head48]
        refine beq_false_of_ne fun e => ?_
        rw [e] at hv
        have e48 : (48 : UInt8).toNat = 48 := rfl
        omega
      · simp only [head48]
        refine beq_false_of_ne fun e2 => ?_
        rw [e2] at e; simp at e
  have ho : okU (decs u) 65535 = true := by
    unfold okU
    rw [decs_isD, decs_val, decide_eq_true (by omega)]
    cases hd : decs u with
    | nil => exact absurd hd (decs_ne u)
    | cons c l => rfl
  unfold numB
  rw [hh, ho, decide_eq_true (by omega)]; rfl
theorem rgT_part {p : Nat × Nat} (h1 : 1 ≤ p.1) (h2 : p.1 ≤ p.2) (h3 : p.2 ≤ 4094) : partB (rgT p) = true ∧ partN (rgT p) = p := by
  obtain ⟨f, t⟩ := p
  simp only [] at h1 h2 h3
  unfold rgT partB partN cutB cutA cutZ
  by_cases h : f < t
  · have e : Lib.indexByte (decs f ++ 45 :: decs t) 45 = ((decs f).length : Int) := idxAt (by rw [List.take_left]; exact decs_no rfl) (by simp)
    have ne : ¬ ((decs f).length : Int) = -1 := by omega
    have e2 : List.drop ((decs f).length + 1) (decs f ++ 45 :: decs t) = decs t := by
      rw [show (decs f ++ 45 :: decs t) = (decs f ++ [45]) ++ decs t by simp, show (decs f).length + 1 = (decs f ++ [45]).length by simp, List.drop_left]
    simp only [if_pos h, e, if_neg ne, Int.toNat_natCast, List.take_left, e2, numB_decs h1 (show f ≤ 4094 by omega), numB_decs (show 1 ≤ t by omega) h3, decs_val]
    exact ⟨rfl, rfl⟩
  · obtain rfl : f = t := by omega
    have e : Lib.indexByte (decs f) 45 = -1 := idxNo (decs_no rfl)
    simp only [if_neg h, e]
    simp [numB_decs h1 h3, decs_val]
theorem parseG_ranges : ∀ {rs : List (Nat × Nat)} {M : Nat}, (∀ p ∈ rs, 1 ≤ p.1 ∧ p.1 ≤ p.2 ∧ p.2 ≤ 4094) → parseG (rs.map rgT) false M = (uniL rs M, 0)
  | [], M, _ => rfl
  | p :: rs, M, h => by
    have hp := h p (.head _)
    obtain ⟨e1, e2⟩ := rgT_part hp.1 hp.2.1 hp.2.2
    rw [List.map_cons, parseG, if_pos e1, e2, decide_eq_false (by omega), decide_eq_false (by omega), Bool.or_false, Bool.or_false, parseG_ranges (fun q hq => h q (.tail _ hq))]
    rfl
theorem rgT_mem {p : Nat × Nat} {x : UInt8} (h : x ∈ rgT p) : isD x = true ∨ x = 45 := by
  unfold rgT at h
  split at h
  · rcases List.mem_append.1 h with h | h
    · exact .inl (List.all_eq_true.1 (decs_isD _) x h)
    · rcases List.mem_cons.1 h with h | h
      · exact .inr h
      · exact .inl (List.all_eq_true.1 (decs_isD _) x h)
  · exact .inl (List.all_eq_true.1 (decs_isD _) x h)
/-- A set is that of its text. -/
theorem parse_all : parseN [97, 108, 108] = (allN, 0) := by rw [parseN, if_neg (by decide), if_pos rfl]
theorem parse_text {N : Nat} (hN : Vs N) : parseN (textL N) = (N, 0) := by
  by_cases h0 : N = 0
  · subst h0; rfl
  by_cases h1 : N = allN
  · have e : textL N = [97, 108, 108] := by rw [textL, if_neg h0, if_pos h1]
    rw [e, parse_all, h1]
  rw [textL, if_neg h0, if_neg h1]
  obtain ⟨⟨_, g⟩, _, _⟩ := rangesR_good hN
  have hr : ∀ p ∈ (rangesR N).reverse, 1 ≤ p.1 ∧ p.1 ≤ p.2 ∧ p.2 ≤ 4094 := fun p hp => g p (List.mem_reverse.1 hp)
  have hne : (rangesR N).reverse.map rgT ≠ [] := by simpa using rangesR_ne hN h0
  have hu := uniL_ranges hN
  generalize (rangesR N).reverse = rs at *
  have hs : splitL 44 (joinL [44] (rs.map rgT)) = rs.map rgT := split_join hne fun p hp hc => by
    obtain ⟨q, _, rfl⟩ := List.mem_map.1 hp
    rcases rgT_mem hc with h | h
    · exact absurd h (by decide)
    · exact absurd h (by decide)
  have key : ∀ (x : List UInt8) (c : UInt8), c ∈ x → isD c = false → ¬ c = 45 → splitL 44 x = [x] → joinL [44] (rs.map rgT) ≠ x := fun x c hc hd h45 hx e => by
    rw [e, hx] at hs
    have hm : x ∈ rs.map rgT := by rw [← hs]; exact .head _
    obtain ⟨q, _, rfl⟩ := List.mem_map.1 hm
    rcases rgT_mem hc with h | h
    · rw [hd] at h; cases h
    · exact h45 h
  rw [parseN, if_neg (key _ 110 (.head _) (by decide) (by decide) (by decide)), if_neg (key _ 97 (.head _) (by decide) (by decide) (by decide)), hs, parseG_ranges hr, hu]
theorem text_inj {N M : Nat} (hN : Vs N) (hM : Vs M) (h : textL N = textL M) : N = M := by
  have h1 := parse_text hN
  rw [h, parse_text hM] at h1
  exact (congrArg Prod.fst h1).symm
theorem parseG_bad : ∀ {ps : List (List UInt8)} {w : Bool} {N : Nat}, (parseG ps w N).2 ≠ 0 → (parseG ps w N).1 = 0
  | [], w, N, h => by rw [parseG] at h ⊢; split at h <;> simp_all
  | p :: ps, w, N, h => by
    rw [parseG] at h ⊢
    split at h
    · rename_i hb; rw [if_pos hb]; exact parseG_bad h
    · rename_i hb; rw [if_neg hb]
theorem parseN_bad {s : List UInt8} (h : (parseN s).2 ≠ 0) : (parseN s).1 = 0 := by
  unfold parseN at h ⊢
  split at h
  · simp at h
  · rename_i h0
    rw [if_neg h0]
    split at h
    · simp at h
    · rename_i h1
      rw [if_neg h1]
      exact parseG_bad h
end
end Go.Proofs.YtbgjcoochdljfaaDoorR.Am
