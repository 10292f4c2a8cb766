/- Contracts of the program's functions (X16). -/
import Derived.Test.YtbgjcoochdljfaaDoorRX15
import Derived.Test.YtbgjcoochdljfaaDoorRLVt
namespace Go.Proofs.YtbgjcoochdljfaaDoorR.Am
noncomputable section
/- THE WALK of VsetNumbers: the numbers gone through, as far as it is asked. -/
structure FSt where
  k : Nat
  last : Nat
  h : AHeap
  n : Nat
def numB1 (z : Nat) : Blk := .cells (some 3) [.int .i64 (z : Int)] 1
def stepF (kc lc far : Nat) (s : FSt) (v : Nat) : Ex × FSt :=
  (if far < s.k + 1 then .exit 2 else .normal, ⟨s.k + 1, v, (s.h.put lc (numB1 v)).put kc (numB1 (s.k + 1)), s.n + 1⟩)
/-- What the memory holds while the numbers are gone through. -/
structure FMem (h0 : AHeap) (n0 kc lc fc ac iL far N : Nat) (s : FSt) : Prop where
  gk : s.h.get kc = some (numB1 s.k)
  gl : s.h.get lc = some (numB1 s.last)
  gf : s.h.get fc = some (.cells (some 53) [.int .u16 (far : Int)] 1)
  ga : s.h.get ac = some (.cells (some 26) (wv N) 64)
  none : s.h.get iL = none
  wf : WF s.h s.n
  sub : HSub h0 s.h
  ge : n0 ≤ s.n
structure okF (h0 : AHeap) (n0 kc lc fc ac iL far N : Nat) (l : List Nat) (s : FSt) : Prop where
  mem : FMem h0 n0 kc lc fc ac iL far N s
  le : s.n + l.length ≤ n0 + (els N).length
  kl : s.k + l.length = (els N).length
  kf : s.k ≤ far
  lt : ∀ v ∈ l, s.last < v
  rise : l.Pairwise (· < ·)
  has : ∀ v ∈ l, v < 4096 ∧ hasZ N (v : Int) = true
theorem okF_next {h0 : AHeap} {n0 kc lc fc ac iL far N : Nat} (hkc0 : h0.get kc = none) (hlc0 : h0.get lc = none) (hkl : kc ≠ lc) (hkf : kc ≠ fc) (hlf : lc ≠ fc) (hka : kc ≠ ac) (hla : lc ≠ ac) (hki : kc ≠ iL) (hli : lc ≠ iL)
    {s : FSt} {v : Nat} {l : List Nat} (ok : okF h0 n0 kc lc fc ac iL far N (v :: l) s) :
    FMem h0 n0 kc lc fc ac iL far N (stepF kc lc far s v).2 ∧ (stepF kc lc far s v).2.n + l.length ≤ n0 + (els N).length ∧ (isNorm (stepF kc lc far s v).1 = true → okF h0 n0 kc lc fc ac iL far N l (stepF kc lc far s v).2) := by
  obtain ⟨⟨g1, g2, g3, g4, g5, g6, g7, g8⟩, h1, h2, h3, h4, h5, h6⟩ := ok
  have kn := g6.lt g1
  have ln := g6.lt g2
  simp only [List.length_cons] at h1 h2
  rw [List.pairwise_cons] at h5
  have mem : FMem h0 n0 kc lc fc ac iL far N (stepF kc lc far s v).2 :=
    ⟨by simp only [stepF]; rw [AHeap.get_put_same], by simp only [stepF]; rw [AHeap.get_put_ne _ _ hkl, AHeap.get_put_same], by simp only [stepF]; rw [AHeap.get_put_ne _ _ hkf, AHeap.get_put_ne _ _ hlf]; exact g3,
     by simp only [stepF]; rw [AHeap.get_put_ne _ _ hka, AHeap.get_put_ne _ _ hla]; exact g4, by simp only [stepF]; rw [AHeap.get_put_ne _ _ hki, AHeap.get_put_ne _ _ hli]; exact g5,
     by simp only [stepF]; exact (g6.put (m := s.n + 1) _ (by omega) (by omega)).put _ (by omega) (Nat.le_refl _), by simp only [stepF]; exact .put_new _ hkc0 (.put_new _ hlc0 g7), by simp only [stepF]; omega⟩
  refine ⟨mem, by simp only [stepF]; omega, fun hn => ?_⟩
  have hf : s.k + 1 ≤ far := by
    refine Nat.le_of_not_lt fun h => ?_
    simp only [stepF, if_pos h] at hn
    cases hn
  exact ⟨mem, by simp only [stepF]; omega, by simp only [stepF]; omega, hf, fun x hx => h5.1 x hx, h5.2, fun x hx => h6 x (.tail _ hx)⟩
theorem runF {h0 : AHeap} {n0 kc lc fc ac iL far N : Nat} (hkc0 : h0.get kc = none) (hlc0 : h0.get lc = none) (hkl : kc ≠ lc) (hkf : kc ≠ fc) (hlf : lc ≠ fc) (hka : kc ≠ ac) (hla : lc ≠ ac) (hki : kc ≠ iL) (hli : lc ≠ iL) :
    ∀ (l : List Nat) (s : FSt), okF h0 n0 kc lc fc ac iL far N l s → FMem h0 n0 kc lc fc ac iL far N (runR (stepF kc lc far) l s).2 ∧ (runR (stepF kc lc far) l s).2.n ≤ n0 + (els N).length ∧
      (runR (stepF kc lc far) l s).2.k = min (els N).length (far + 1) ∧ ((runR (stepF kc lc far) l s).1 = .normal ∨ (runR (stepF kc lc far) l s).1 = .exit 2)
  | [], s, ok => by
    have := ok.kl
    have := ok.kf
    have := ok.le
    simp only [List.length_nil] at *
    exact ⟨ok.mem, by simp only [runR]; omega, by simp only [runR]; omega, .inl rfl⟩
  | v :: l, s, ok => by
    obtain ⟨m, hle, nx⟩ := okF_next hkc0 hlc0 hkl hkf hlf hka hla hki hli ok
    rw [runR]
    cases hn : isNorm (stepF kc lc far s v).1 with
    | true => exact runF hkc0 hlc0 hkl hkf hlf hka hla hki hli l _ (nx hn)
    | false =>
      have hkl := ok.kl
      have hkf := ok.kf
      simp only [List.length_cons] at hkl
      have hlt : far < s.k + 1 := by
        refine Nat.lt_of_not_le fun h => ?_
        simp only [stepF, if_neg (Nat.not_lt.2 h)] at hn
        cases hn
      refine ⟨m, by simp only [Bool.false_eq_true, if_false]; omega, ?_, ?_⟩
      · simp only [Bool.false_eq_true, if_false, stepF]; omega
      · simp only [Bool.false_eq_true, if_false, stepF, if_pos hlt, or_true]
theorem far_round {h0 : AHeap} {n0 kc lc fc ac rc iL far N : Nat} (hfar : far < 65536) (hkc0 : h0.get kc = none) (hlc0 : h0.get lc = none) (hkl : kc ≠ lc) (hkf : kc ≠ fc) (hlf : lc ≠ fc) (hka : kc ≠ ac) (hla : lc ≠ ac) (hki : kc ≠ iL) (hli : lc ≠ iL)
    {s : FSt} {v : Nat} {l : List Nat} (hok : okF h0 n0 kc lc fc ac iL far N (v :: l) s) :
    HasCode EV14 F6L1A (setPs [(9, .pointer (some ⟨fc, 0, some 1⟩)), (10, .pointer (some ⟨rc, 0, some 1⟩)), (11, .pointer (some ⟨ac, 0, some 64⟩)), (21, .pointer (some ⟨kc, 0, some 1⟩)), (22, .pointer (some ⟨lc, 0, some 1⟩))] [123] [.int .i64 (v : Nat)]) s.h s.n (fun e1 σ1 h1 n1 => e1 = .normal ∧ HasCode EV14 F6L1B σ1 h1 n1 (fun e _ hb n' => e = (stepF kc lc far s v).1 ∧ hb = (stepF kc lc far s v).2.h ∧ n' = (stepF kc lc far s v).2.n ∧ (isNorm (stepF kc lc far s v).1 = true → okF h0 n0 kc lc fc ac iL far N l (stepF kc lc far s v).2))) := by
  obtain ⟨_, _, hnext⟩ := okF_next hkc0 hlc0 hkl hkf hlf hka hla hki hli hok
  obtain ⟨⟨g1, g2, g3, g4, g5, g6, g7, g8⟩, h1, h2, h3, h4, h5, h6⟩ := hok
  obtain ⟨hv, hb⟩ := h6 v (.head _)
  have hl := h4 v (.head _)
  have kn := g6.lt g1
  have ln := g6.lt g2
  have len := els_len N
  simp only [List.length_cons] at h1 h2
  have hc := has_ret N (v : Int) (by omega) (by omega) g6
  rw [hb] at hc
  obtain ⟨k, last, h, n⟩ := s
  simp only [stepF, numB1] at *
  refine wx_big (t := ()) ?_
  simp -dsimp (discharger := omega) [F6L1A, setPs]
  refine wx_big (t := ()) ?_
  have hlv : ¬ (v : Int) ≤ (last : Int) := by omega
  simp -dsimp (discharger := omega) [F6L1B, AHeap.read_of g2, AHeap.read_of g4, take_wv, hlv]
  with_reducible refine call_ret hc ?_
  have n1 : ¬ lc = fc := hlf
  have n2 : ¬ lc = kc := fun e => hkl e.symm
  have n3 : ¬ kc = fc := hkf
  have n4 : ¬ kc = lc := hkl
  by_cases hf : far < k + 1
  · have hf' : (far : Int) < (k : Int) + 1 := by omega
    rw [if_pos hf] at hnext ⊢
    simp -dsimp (discharger := omega) [g1, g2, AHeap.read_of g1, AHeap.read_of g3, hf', n1, n2, n3]
    exact fun x => by cases x
  · have hf' : ¬ ((far : Int) < (k : Int) + 1) := by omega
    rw [if_neg hf] at hnext ⊢
    simp -dsimp (discharger := omega) [g1, g2, AHeap.read_of g1, AHeap.read_of g3, hf', n1, n2, n3]
    exact fun _ => hnext rfl
end
end Go.Proofs.YtbgjcoochdljfaaDoorR.Am
