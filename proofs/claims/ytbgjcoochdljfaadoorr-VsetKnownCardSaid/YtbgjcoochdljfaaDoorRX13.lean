/- Contracts of the program's functions (X13). -/
import Derived.Test.YtbgjcoochdljfaaDoorRX12
namespace Go.Proofs.YtbgjcoochdljfaaDoorR.Am
noncomputable section
/- THE WALK of VsetKnown: texts that are refused. -/
def KnInv (a b d : Nat) (ps : List (List UInt8)) (q g c : Nat) (h0 : AHeap) (n0 r : Nat) (σ : Fr) (h : AHeap) (n : Nat) : Prop :=
  ∃ k : Nat, k + r = ps.length ∧ HSub h0 h ∧ WF h n ∧ n0 ≤ n ∧ n ≤ n0 + c * k ∧ σ = [(a, .slice (some ⟨q, 0, some g⟩) ps.length 2), (b, .int .i64 (ps.length : Int)), (d, .int .i64 (k : Int))]
def KnPost (x c : Nat) (ps : List (List UInt8)) (h0 : AHeap) (n0 : Nat) (e : Ex) (h' : AHeap) (n' : Nat) : Prop :=
  e = .exit x ∧ HSub h0 h' ∧ WF h' n' ∧ n0 ≤ n' ∧ n' ≤ n0 + c * ps.length
theorem known_loop0 {ps : List (List UInt8)} (hl : ps.length < 100) (hps : ∀ p ∈ ps, p.length < 10000 ∧ (parseN p).2 = 5) {q g c : Nat} (hc : c = 300001) {h0 : AHeap} (hr : h0.read q g 0 ps.length = some (strsL ps)) (hg : Gm h0) {n0 : Nat} (hw0 : WF h0 n0) (hn0 : 4096 ≤ n0) :
    ∀ (m : Nat) (σ : Fr) (h : AHeap) (n : Nat), KnInv 17 18 19 ps q g c h0 n0 m σ h n → HasCode FV14 (.loop F4L0) σ h n (fun e _ h' n' => KnPost 0 c ps h0 n0 e h' n') := by
  refine wx_inv _ fun m σ h n hI => ?_
  obtain ⟨k, hk, hs, hw, hn, hn1, rfl⟩ := hI
  cases m with
  | zero =>
    obtain rfl : k = ps.length := by omega
    have fin : KnPost 0 c ps h0 n0 (.exit 0) h n := ⟨rfl, hs, hw, hn, hn1⟩
    simp -dsimp (discharger := omega) [F4L0]
    exact fin
  | succ m =>
    obtain ⟨p, hx⟩ : ∃ p, ps[k]? = some p := ⟨_, List.getElem?_eq_getElem (by omega)⟩
    obtain ⟨hpl, hp5⟩ := hps p (List.mem_of_getElem? hx)
    have hrd := read_mono hs (read_one hr (strsL_get? hx) (by omega))
    rw [Nat.zero_add] at hrd
    obtain ⟨n1, hn1'⟩ : ∃ x, x = n + 300000 := ⟨_, rfl⟩
    have hcall := par_f hpl (pair_eta hp5) hw (hg.sub hs).errs (by omega) hn1'
    have hck : c * (k + 1) = c * k + c := by rw [Nat.mul_add, Nat.mul_one]
    obtain ⟨N, hN⟩ : ∃ N, (parseN p).1 = N := ⟨_, rfl⟩
    rw [hN] at hcall
    obtain ⟨H, hH, s1, w1, m1, g1⟩ := set_step (N := N) (m := n1) hs hw0 (hw.mono (by omega)) (by omega)
    simp -dsimp (discharger := omega) [F4L0, hrd, -List.reduceReplicate, ← wv_zero]
    with_reducible refine call_ret hcall ?_
    simp -dsimp (discharger := omega) [-List.reduceReplicate, drop_wv]
    rw [← hH]
    exact .mk' m (by omega) [(17, .slice (some ⟨q, 0, some g⟩) ps.length 2), (18, .int .i64 (ps.length : Int)), (19, .int .i64 ((k + 1 : Nat) : Int))] _ (by simp) (.refl _) ⟨k + 1, by omega, s1, w1, by omega, by omega, rfl⟩
theorem known_loop1 {ps : List (List UInt8)} (hl : ps.length < 100) (hps : ∀ p ∈ ps, p.length < 10000 ∧ (parseN p).2 = 24) {q g c : Nat} (hc : c = 300001) {h0 : AHeap} (hr : h0.read q g 0 ps.length = some (strsL ps)) (hg : Gm h0) {n0 : Nat} (hw0 : WF h0 n0) (hn0 : 4096 ≤ n0) :
    ∀ (m : Nat) (σ : Fr) (h : AHeap) (n : Nat), KnInv 31 32 33 ps q g c h0 n0 m σ h n → HasCode FV14 (.loop F4L1) σ h n (fun e _ h' n' => KnPost 2 c ps h0 n0 e h' n') := by
  refine wx_inv _ fun m σ h n hI => ?_
  obtain ⟨k, hk, hs, hw, hn, hn1, rfl⟩ := hI
  cases m with
  | zero =>
    obtain rfl : k = ps.length := by omega
    have fin : KnPost 2 c ps h0 n0 (.exit 2) h n := ⟨rfl, hs, hw, hn, hn1⟩
    simp -dsimp (discharger := omega) [F4L1]
    exact fin
  | succ m =>
    obtain ⟨p, hx⟩ : ∃ p, ps[k]? = some p := ⟨_, List.getElem?_eq_getElem (by omega)⟩
    obtain ⟨hpl, hp5⟩ := hps p (List.mem_of_getElem? hx)
    have hrd := read_mono hs (read_one hr (strsL_get? hx) (by omega))
    rw [Nat.zero_add] at hrd
    obtain ⟨n1, hn1'⟩ : ∃ x, x = n + 300000 := ⟨_, rfl⟩
    have hcall := par_f hpl (pair_eta hp5) hw (hg.sub hs).errs (by omega) hn1'
    have hck : c * (k + 1) = c * k + c := by rw [Nat.mul_add, Nat.mul_one]
    obtain ⟨N, hN⟩ : ∃ N, (parseN p).1 = N := ⟨_, rfl⟩
    rw [hN] at hcall
    obtain ⟨H, hH, s1, w1, m1, g1⟩ := set_step (N := N) (m := n1) hs hw0 (hw.mono (by omega)) (by omega)
    simp -dsimp (discharger := omega) [F4L1, hrd, -List.reduceReplicate, ← wv_zero]
    with_reducible refine call_ret hcall ?_
    simp -dsimp (discharger := omega) [-List.reduceReplicate, drop_wv]
    rw [← hH]
    exact .mk' m (by omega) [(31, .slice (some ⟨q, 0, some g⟩) ps.length 2), (32, .int .i64 (ps.length : Int)), (33, .int .i64 ((k + 1 : Nat) : Int))] _ (by simp) (.refl _) ⟨k + 1, by omega, s1, w1, by omega, by omega, rfl⟩
def badL : List (List UInt8) := [[], [44], [49, 44], [49, 44, 44, 50], [97], [49, 45], [45, 49], [49, 45, 50, 45, 51], [32, 49], [49, 32], [48], [48, 48, 48, 48, 49], [49, 50, 51, 52, 53], [43, 49], [65, 76, 76], [110, 111, 110, 101, 44, 49], [49, 95, 48], [97, 108, 108, 32]]
def wideL : List (List UInt8) := [[52, 48, 57, 53], [57, 57, 57, 57], [49, 45, 52, 48, 57, 53], [50, 45, 49], [49, 44, 52, 48, 57, 53], [52, 48, 57, 53, 45, 52, 48, 57, 54]]
theorem bad_all : ∀ p ∈ badL, p.length < 10000 ∧ (parseN p).2 = 5 := by decide +kernel
theorem wide_all : ∀ p ∈ wideL, p.length < 10000 ∧ (parseN p).2 = 24 := by decide +kernel
def aN : Nat := (parseN [49, 44, 50, 44, 52, 44, 52, 48, 57, 52, 44, 51, 44, 54, 51, 45, 54, 53]).1
theorem a1 : parseN [49, 44, 50, 44, 52, 44, 52, 48, 57, 52, 44, 51, 44, 54, 51, 45, 54, 53] = (aN, 0) := by decide +kernel
theorem a2 : textL aN = [49, 45, 52, 44, 54, 51, 45, 54, 53, 44, 52, 48, 57, 52] := by decide +kernel
theorem a3 : parseN [110, 111, 110, 101] = (0, 0) := rfl
theorem a4 : parseN [97, 108, 108] = (allN, 0) := rfl
theorem a5 : (parseN [52, 48, 57, 53, 44, 120]).2 = 5 := by decide +kernel
theorem a6 : textL 0 = [110, 111, 110, 101] := rfl
theorem a7 : card allN = 4094 := by decide +kernel
theorem a8 : ofN [0, -1, 4095, 7] = ofN [7] := by decide +kernel
theorem a9 : less allN (rng (-5) 1125899906842624) = 0 := by decide +kernel
theorem elsP_rng (a c : Nat) : ∀ m, elsP (fun i => decide (a ≤ i ∧ i < a + c)) m = List.range' a (min c (m - a))
  | 0 => by simp [elsP]
  | m + 1 => by
    unfold elsP
    rw [List.range_succ, List.filter_append]
    have ih := elsP_rng a c m
    unfold elsP at ih
    rw [ih]
    by_cases h : a ≤ m ∧ m < a + c
    · rw [List.filter_cons_of_pos (by simpa using h), List.filter_nil, show min c (m + 1 - a) = min c (m - a) + 1 by omega, List.range'_concat]
      congr 2; omega
    · rw [List.filter_cons_of_neg (by simpa using h), List.filter_nil, List.append_nil]
      congr 1; omega
theorem fold_range (f : Nat) (r : List (Nat × Nat)) : ∀ (k t : Nat), (List.range' (t + 1) k).foldl addR ((f, t) :: r) = (f, t + k) :: r
  | 0, t => rfl
  | k + 1, t => by
    rw [List.range'_succ, List.foldl_cons, addR, if_pos rfl, fold_range f r k (t + 1)]
    congr 2; omega
theorem rangesR_rng {a b : Nat} (h1 : 1 ≤ a) (h2 : a ≤ b) (h3 : b ≤ 4094) : rangesR (rng a b) = [(a, b)] := by
  have e : els (rng a b) = List.range' a (b - a + 1) := by
    have := elsP_rng a (b - a + 1) 4096
    rw [show min (b - a + 1) (4096 - a) = b - a + 1 by omega] at this
    rw [← this]
    refine elsP_congr fun i hi => ?_
    rw [rng_bit]
    exact decide_eq_decide.2 (by omega)
  rw [rangesR, e, List.range'_succ, List.foldl_cons, addR, fold_range]
  rw [show a + (b - a) = b by omega]
theorem less_one : less allN (rng 1 1) = rng (2 : Nat) (4094 : Nat) := by
  refine Nat.eq_of_testBit_eq fun i => ?_
  rw [less_bit, allN, rng_bit, rng_bit, rng_bit, ← decide_not, ← Bool.decide_and]
  exact decide_eq_decide.2 (by omega)
theorem a10 : textL (less allN (rng 1 1)) = [50, 45, 52, 48, 57, 52] := by
  rw [less_one, textL, if_neg (by decide +kernel), if_neg (by decide +kernel), rangesR_rng (by omega) (by omega) (by omega)]
  decide +kernel
end
end Go.Proofs.YtbgjcoochdljfaaDoorR.Am
