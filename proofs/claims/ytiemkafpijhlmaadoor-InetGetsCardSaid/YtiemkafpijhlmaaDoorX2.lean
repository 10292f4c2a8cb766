/- Contracts of the program's functions (X2). -/
import Derived.Test.YtiemkafpijhlmaaDoorY3
namespace Go.Proofs.YtiemkafpijhlmaaDoor.Am
noncomputable section
/- CONTRACTS: words, and what a head tells. -/
def WdInv (ws : List Nat) (h0 : AHeap) (n1 q : Nat) (sl : Value) (r : Nat) (σ : Fr) (h : AHeap) (n : Nat) : Prop :=
  ∃ j, 1 ≤ j ∧ j + r = ws.length ∧ n = n1 + (j - 1) ∧ h = h0.put q (bufB (twosL (ws.take j)) 2) ∧
    σ = [(3, .slice (some ⟨q, 0, some (2 * j)⟩) (2 * j) 2), (6, sl), (7, .int .i64 (ws.length : Int)), (8, .int .i64 (j : Int))]
def WdPost (ws : List Nat) (h0 : AHeap) (n1 q : Nat) (e : Ex) (σ' : Fr) (h' : AHeap) (n' : Nat) : Prop :=
  e = .exit 0 ∧ n' = n1 + (ws.length - 1) ∧ h' = h0.put q (bufB (twosL ws) 2) ∧ σ'.get 3 = some (.slice (some ⟨q, 0, some (2 * ws.length)⟩) (2 * ws.length) 2)
theorem wd_loop {ws : List Nat} (hws : ∀ w, w ∈ ws → w < 65536) {h0 : AHeap} {n1 q : Nat} (hw : WF h0 n1) (hq : q < n1) {i o g k : Nat} (hr : h0.read i g o ws.length = some (u16s ws)) (hiq : ¬ i = q) (hlen : ws.length < 1000) :
    ∀ (r : Nat) (σ : Fr) (h : AHeap) (n : Nat), WdInv ws h0 n1 q (.slice (some ⟨i, o, some g⟩) ws.length k) r σ h n → HasCode EV06 (.loop F44L0) σ h n (WdPost ws h0 n1 q) := by
  refine wx_inv _ fun r σ h n hI => ?_
  obtain ⟨j, hj0, hj, rfl, rfl, rfl⟩ := hI
  have hqi : ¬ q = i := fun e => hiq e.symm
  cases r with
  | zero =>
    have hjl : j = ws.length := by omega
    subst hjl
    simp -dsimp (discharger := omega) [F44L0]
    exact ⟨rfl, rfl, by simp, by simp⟩
  | succ r =>
    have hlt : j < ws.length := by omega
    obtain ⟨w, hwj⟩ : ∃ w, ws[j]? = some w := ⟨_, List.getElem?_eq_getElem hlt⟩
    have hrd := read_one hr (u16s_get? hwj) hlt
    have hww : w < 65536 := hws w (List.mem_of_getElem? hwj)
    have htk : ws.take (j + 1) = ws.take j ++ [w] := take_snoc hwj
    have hbl : (twosL (ws.take j)).length = 2 * j := by rw [twosL_length, List.length_take]; omega
    have hnq : ¬ q = n1 + (j - 1) := by omega
    have hbl2 : 2 * j + 2 = 2 * (j + 1) := by omega
    have hu : u8s (twosL (ws.take j)) ++ u8s (twoL w) = u8s (twosL (ws.take (j + 1))) := by rw [htk, twosL_snoc, u8s_append]
    have hul : (u8s (twosL (ws.take (j + 1)))).length = 2 * (j + 1) := by rw [u8s_length, twosL_length, List.length_take]; omega
    have htl : (twoL w).length = 2 := rfl
    have htw : List.take 2 (u8s (twoL w)) = u8s (twoL w) := rfl
    have hul1 : (u8s (twosL (ws.take j))).length = 2 * j := by rw [u8s_length, hbl]
    simp -dsimp (discharger := omega) [F44L0, hrd, hqi, aFill, bufB]
    simp only [two_cells hww]
    simp -dsimp (discharger := omega) [aAppend, aElems, htw, htl, hul1, hu, hul]
    refine .mk' r (by omega) [(3, .slice (some ⟨q, 0, some (2 * (j + 1))⟩) (2 * (j + 1)) 2), (6, .slice (some ⟨i, o, some g⟩) ws.length k), (7, .int .i64 (ws.length : Int)), (8, .int .i64 ((j + 1 : Nat) : Int))] _ (by simp [hbl2]) ?_ ⟨j + 1, by omega, by omega, by omega, rfl, rfl⟩
    refine .ofE (.left (.inr (by simp [bufB])) (.right (.inl (by simp)) (.right (.inr (hw _ (by omega))) (.right (.inl (by simp)) (.refl _ _)))))
theorem words_ret {w : Nat} {ws : List Nat} (hws : ∀ x, x ∈ w :: ws → x < 65536) {h : AHeap} {n : Nat} (hw : WF h n) {i o g k : Nat} (hr : h.read i g o (w :: ws).length = some (u16s (w :: ws))) (hlen : (w :: ws).length < 1000) :
    Ret EV06 44 [.slice (some ⟨i, o, some g⟩) (w :: ws).length k] h n (.slice (some ⟨n + 1, 0, some (2 * (w :: ws).length)⟩) (2 * (w :: ws).length) 2) [(n + 1, bufB (twosL (w :: ws)) 2)] (n + 1 + (w :: ws).length) := by
  have h2 := read_lt hw hr
  have hww : w < 65536 := hws w (.head _)
  have hrd := read_one hr (u16s_get? (i := 0) rfl) (by simp)
  simp at hrd
  refine rsx44 (by simp) (by simp) ?_
  simp -dsimp (discharger := omega) [B44]
  refine wx_round ?_
  have htl : (twoL w).length = 2 := rfl
  have htw : List.take 2 (u8s (twoL w)) = u8s (twoL w) := rfl
  simp -dsimp (discharger := omega) [F44L0, hrd, aFill]
  simp only [two_cells hww]
  simp -dsimp (discharger := omega) [aAppend, aElems, htw, htl]
  refine loop_use (wd_loop (k := k) hws (h0 := h) (n1 := n + 2) (q := n + 1) (hw.mono (Nat.le_add_right n 2)) (by omega) hr (by omega) hlen ws.length [(3, .slice (some ⟨n + 1, 0, some (2 * 1)⟩) (2 * 1) 2), (6, .slice (some ⟨i, o, some g⟩) (w :: ws).length k), (7, .int .i64 ((w :: ws).length : Int)), (8, .int .i64 ((1 : Nat) : Int))] _ _ ⟨1, Nat.le_refl _, by simp; omega, rfl, rfl, rfl⟩) (by simp) ?_ ?_
  · refine .ofE (.left (.inr (by simp [twosL, bufB])) (.right (.inl (by simp)) (.right (.inr (hw _ (by omega))) (.refl _ _))))
  · rintro e σ' h' n' ⟨rfl, rfl, rfl, g0⟩
    simp -dsimp (discharger := omega) [g0]
    exact ⟨.refl _, by omega⟩
/- What a head tells. -/
structure HdN where
  tos : Nat
  ttl : Nat
  proto : Nat
  id : Nat
  evil : Bool
  df : Bool
  more : Bool
  off : Int
  src : Nat
  dst : Nat
structure HdN.ok (t : HdN) : Prop where
  h1 : t.tos < 256
  h2 : t.ttl < 256
  h3 : t.proto < 256
  h4 : t.id < 65536
  h5 : -9223372036854775808 ≤ t.off
  h6 : t.off < 9223372036854775808
  h7 : t.src < 4294967296
  h8 : t.dst < 4294967296

abbrev hdV (t : HdN) (o : Value) : Value := .agg #[.int .u8 (t.tos : Int), .int .u8 (t.ttl : Int), .int .u8 (t.proto : Int), .int .u16 (t.id : Int), .bool t.evil, .bool t.df, .bool t.more, .int .i64 t.off, .int .u32 (t.src : Int), .int .u32 (t.dst : Int), o]
theorem of_ret (t : HdN) {a : Option Addr} {l k : Nat} {h : AHeap} {n : Nat} (hw : WF h n) : Ret EV06 22 [hdV t (.slice a l k)] h n (hdV t (.slice a l k)) [] (n + 2) := by
  refine rsx22 (by simp) (by simp) ?_
  simp -dsimp (discharger := omega) [B22, hdV, aFill]
  repeat (refine HSub.new ?_ hw (by omega) _)
  exact .refl _
theorem first_ret (t : HdN) {a : Option Addr} {l k : Nat} {h : AHeap} {n : Nat} (hw : WF h n) : Ret EV06 25 [hdV t (.slice a l k)] h n (.bool (decide (t.off = 0) && t.more)) [] (n + 1) := by
  refine rsx25 (by simp) (by simp) ?_
  by_cases h0 : t.off = 0
  · simp -dsimp (discharger := omega) [B25, hdV, h0]
    exact HSub.new (.refl _) hw (by omega) _
  · simp -dsimp (discharger := omega) [B25, hdV, h0]
    exact HSub.new (.refl _) hw (by omega) _
theorem later_ret (t : HdN) {a : Option Addr} {l k : Nat} {h : AHeap} {n : Nat} (hw : WF h n) : Ret EV06 26 [hdV t (.slice a l k)] h n (.bool (decide (0 < t.off))) [] (n + 1) := by
  refine rsx26 (by simp) (by simp) ?_
  simp -dsimp (discharger := omega) [B26, hdV]
  exact HSub.new (.refl _) hw (by omega) _
/-- May a body so long be a fragment's? -/
def fitsB (t : HdN) (m : Nat) : Bool := decide (8 * t.off + m ≤ 65535) && (!t.more || decide (m % 8 = 0))
theorem fits_ret {t : HdN} (h0 : 0 ≤ t.off) (h1 : t.off < 65536) {m : Nat} (hm : m < 1000000) {a b : Option Addr} {l k k2 : Nat} {h : AHeap} {n : Nat} (hw : WF h n) : Ret EV06 43 [hdV t (.slice a l k), .slice b m k2] h n (.bool (fitsB t m)) [] (n + 1) := by
  refine rsx43 (by simp) (by simp) ?_
  have hmod : Int.tmod (m : Int) 8 = ((m % 8 : Nat) : Int) := tmod_nat _ 8
  have e8 : ((m : Int) % 8 = 0) ↔ m % 8 = 0 := by omega
  unfold fitsB
  by_cases c1 : 8 * t.off + (m : Int) ≤ 65535
  · cases hmo : t.more
    · simp -dsimp (discharger := omega) [B43, hdV, hmo]
      exact HSub.new (.refl _) hw (by omega) _
    · simp -dsimp (discharger := omega) [B43, hdV, hmo, hmod]
      exact ⟨by rw [Bool.eq_iff_iff]; simp only [beq_iff_eq, decide_eq_true_eq]; omega, HSub.new (.refl _) hw (by omega) _⟩
  · simp -dsimp (discharger := omega) [B43, hdV]
    exact HSub.new (.refl _) hw (by omega) _
theorem rfits_ret {t : HdN} (h0 : 0 ≤ t.off) (h1 : t.off < 65536) {m : Nat} (hm : m < 1000000) {a : Option Addr} {l k : Nat} {h : AHeap} {n : Nat} (hw : WF h n) : Ret EV06 46 [hdV t (.slice a l k), .int .i64 (m : Int)] h n (.bool (fitsB t m)) [] (n + 1) := by
  refine rsx46 (by simp) (by simp) ?_
  have hmod : Int.tmod (m : Int) 8 = ((m % 8 : Nat) : Int) := tmod_nat _ 8
  have e8 : ((m : Int) % 8 = 0) ↔ m % 8 = 0 := by omega
  unfold fitsB
  by_cases c1 : 8 * t.off + (m : Int) ≤ 65535
  · cases hmo : t.more
    · simp -dsimp (discharger := omega) [B46, hdV, hmo]
      exact HSub.new (.refl _) hw (by omega) _
    · by_cases c2 : m % 8 = 0
      · have c3 : (m : Int) % 8 = 0 := by omega
        simp -dsimp (discharger := omega) [B46, hdV, hmo, hmod, c2]
        exact HSub.new (.refl _) hw (by omega) _
      · have c3 : ¬ (m : Int) % 8 = 0 := by omega
        simp -dsimp (discharger := omega) [B46, hdV, hmo, hmod, c2]
        exact HSub.new (.refl _) hw (by omega) _
  · simp -dsimp (discharger := omega) [B46, hdV]
    exact HSub.new (.refl _) hw (by omega) _
theorem sumN_lt (bs : List UInt8) : sumN bs < 65536 := by
  have := fold_le (sumT bs)
  unfold sumN; omega
end
end Go.Proofs.YtiemkafpijhlmaaDoor.Am
