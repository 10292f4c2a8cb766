/- Contracts of the program's functions (X07a). -/
import Derived.Test.YtkaibjdogeikbaaDoorLX
import Derived.Test.YtkaibjdogeikbaaDoorL07a
namespace Go.Proofs.YtkaibjdogeikbaaDoor.Am
noncomputable section
/- CONTRACTS of package trans: Text, Parse. -/
/-- The globals that the chapter's functions read: the names. -/
def HasNames (h : AHeap) : Prop := h.get 0 = some (.cells none (strsL namesL) 0)
def namesUp (f : Nat) : Nat → List (List UInt8)
  | 0 => []
  | j + 1 => namesUp f j ++ (if f.testBit j then [namesL.getD j []] else [])
theorem namesUp_all : ∀ f : Fin 256, namesUp f.1 8 = textNames f.1 := by decide +kernel
theorem namesUp_len (f : Nat) : ∀ j, (namesUp f j).length ≤ j
  | 0 => Nat.le_refl _
  | j + 1 => by have := namesUp_len f j; simp only [namesUp]; split <;> simp <;> omega
theorem bit_eq : ∀ f : Fin 256, ∀ j : Fin 8, (andI .u8 (shrI .u8 (f.1 : Int) (j.1 : Int)) 1 == 1) = f.1.testBit j.1 := by decide +kernel
theorem text_short : ∀ f : Fin 256, (joinL [44] (textNames f.1)).length < 100 := by decide +kernel
theorem text_loop {f : Nat} (hf : f < 256) {h0 : AHeap} {n0 : Nat} (hw : WF h0 n0) :
    ∀ (m : Nat) (σ : Fr) (h : AHeap) (n : Nat), (∃ j v, j + m = 8 ∧ n0 ≤ n ∧ n ≤ n0 + 2 * j ∧ WF h n ∧ HSub h0 h ∧
        (namesUp f j = [] ∧ v = .slice none 0 0 ∨ ∃ q mn, n0 ≤ q ∧ v = .slice (some ⟨q, 0, some (namesUp f j).length⟩) (namesUp f j).length 2 ∧ h.get q = some (.cells (some 9) (strsL (namesUp f j)) mn) ∧ mn ≤ (namesUp f j).length) ∧
        σ = [(0, .int .u8 (f : Int)), (3, v), (6, .agg (strsL namesL).toArray), (7, .int .i64 (j : Int))]) →
      HasCode EV07 (.loop F9L0) σ h n fun e σ' h' n' => e = .exit 0 ∧ n0 ≤ n' ∧ n' ≤ n0 + 16 ∧ WF h' n' ∧ HSub h0 h' ∧ ∃ v, σ'.get 3 = some v ∧
        (namesUp f 8 = [] ∧ v = .slice none 0 0 ∨ ∃ q mn, v = .slice (some ⟨q, 0, some (namesUp f 8).length⟩) (namesUp f 8).length 2 ∧ h'.get q = some (.cells (some 9) (strsL (namesUp f 8)) mn) ∧ mn ≤ (namesUp f 8).length) := by
  refine wx_inv _ fun m σ h n hI => ?_
  obtain ⟨j, v, hj, hn1, hn2, hw', hs, hv, rfl⟩ := hI
  cases m with
  | zero =>
    obtain rfl : j = 8 := by omega
    simp -dsimp (discharger := omega) [F9L0]
    refine ⟨hn1, by omega, hw', hs, ?_⟩
    rcases hv with hv | ⟨q, mn, _, h1, h2, h3⟩
    · exact .inl hv
    · exact .inr ⟨q, h1, mn, h2, h3⟩
  | succ m =>
    have hbit : (andI .u8 (shrI .u8 (f : Int) (j : Int)) 1 == 1) = f.testBit j := bit_eq ⟨f, hf⟩ ⟨j, by omega⟩
    have hidx : (strsL namesL)[j]? = some (.string ⟨(namesL.getD j []).toArray⟩) := by
      have hlt : j < namesL.length := by simp [namesL]; omega
      exact strsL_get? (by simp [List.getElem?_eq_getElem hlt])
    simp -dsimp (discharger := omega) [F9L0, hidx, hbit]
    have hup := namesUp_len f j
    have fin : ∀ (h2 : AHeap) (n2 : Nat) (v2 : Value) (σ2 : Fr), n ≤ n2 → n2 ≤ n + 2 → WF h2 n2 → HSub h0 h2 →
        (namesUp f (j + 1) = [] ∧ v2 = .slice none 0 0 ∨ ∃ q mn, n0 ≤ q ∧ v2 = .slice (some ⟨q, 0, some (namesUp f (j + 1)).length⟩) (namesUp f (j + 1)).length 2 ∧ h2.get q = some (.cells (some 9) (strsL (namesUp f (j + 1))) mn) ∧ mn ≤ (namesUp f (j + 1)).length) →
        σ2.get 0 = some (.int .u8 (f : Int)) → σ2.get 3 = some v2 → σ2.get 6 = some (.agg (strsL namesL).toArray) → σ2.get 7 = some (.int .i64 ((j + 1 : Nat) : Int)) →
        Again (fun m σ h n => ∃ j v, j + m = 8 ∧ n0 ≤ n ∧ n ≤ n0 + 2 * j ∧ WF h n ∧ HSub h0 h ∧
        (namesUp f j = [] ∧ v = .slice none 0 0 ∨ ∃ q mn, n0 ≤ q ∧ v = .slice (some ⟨q, 0, some (namesUp f j).length⟩) (namesUp f j).length 2 ∧ h.get q = some (.cells (some 9) (strsL (namesUp f j)) mn) ∧ mn ≤ (namesUp f j).length) ∧
        σ = [(0, .int .u8 (f : Int)), (3, v), (6, .agg (strsL namesL).toArray), (7, .int .i64 (j : Int))]) (m + 1) σ2 h2 n2 () := by
      intro h2 n2 v2 σ2 a1 a2 a3 a4 a5 b0 b3 b6 b7
      exact .mk' m (by omega) [(0, .int .u8 (f : Int)), (3, v2), (6, .agg (strsL namesL).toArray), (7, .int .i64 ((j + 1 : Nat) : Int))] h2 (by simp only [FSubL]; exact ⟨b0, b3, b6, b7, trivial⟩) (.refl _) ⟨j + 1, v2, by omega, by omega, by omega, a3, a4, a5, rfl⟩
    cases hb : f.testBit j with
    | true =>
      rcases hv with ⟨hv1, rfl⟩ | ⟨q, mn, hq0, rfl, hq, hmn⟩
      · have hup1 : namesUp f (j + 1) = [namesL.getD j []] := by simp [namesUp, hb, hv1]
        simp -dsimp (discharger := omega) [aFill, aAppend, aElems]
        refine fin _ (n + 2) (.slice (some ⟨n + 1, 0, some 1⟩) 1 2) _ (by omega) (by omega) ((hw'.put (m := n + 1) _ (by omega) (by omega)).put _ (by omega) (by omega)) ((hs.new hw (by omega) _).new hw (by omega) _) (.inr ⟨n + 1, 1, by omega, by rw [hup1]; rfl, ?_, by rw [hup1]; simp⟩) (by simp) (by simp) (by simp) (by simp)
        rw [hup1]; simp [strsL]
      · have hqn := hw'.lt hq
        have hup1 : namesUp f (j + 1) = namesUp f j ++ [namesL.getD j []] := by simp [namesUp, hb]
        simp -dsimp (discharger := omega) [aFill, aAppend, aElems, hq]
        refine fin _ (n + 1) (.slice (some ⟨q, 0, some (namesUp f (j + 1)).length⟩) (namesUp f (j + 1)).length 2) _ (by omega) (by omega) ((hw'.put (m := n + 1) _ (by omega) (by omega)).put _ (by omega) (by omega)) ((hs.new hw (by omega) _).new hw (by omega) _) (.inr ⟨q, mn, hq0, rfl, ?_, by rw [hup1]; simp; omega⟩) (by simp) (by simp [hup1]) (by simp) (by simp)
        rw [hup1, strsL_append]; simp [strsL]
    | false =>
      simp -dsimp (discharger := omega) []
      exact fin h n v _ (Nat.le_refl _) (by omega) hw' hs (by simpa [namesUp, hb] using hv) (by simp) (by simp) (by simp) (by simp)
theorem text_ret {f : Nat} (hf : f < 256) {h : AHeap} {n : Nat} (hw : WF h n) (hn : HasNames h) : Ret EV07 9 [.int .u8 (f : Int)] h n (.string ⟨(textL f).toArray⟩) [] (n + 18) := by
  refine rsx9 (by simp) (by simp) ?_
  unfold HasNames at hn
  have hl8 : namesL.length = 8 := rfl
  have ht8 : List.take 8 (strsL namesL) = strsL namesL := rfl
  have hall : namesUp f 8 = textNames f := namesUp_all ⟨f, hf⟩
  simp -dsimp (discharger := omega) [B9, hn, AHeap.read_of hn, hl8, ht8]
  refine loop_use (text_loop hf hw 8 _ _ _ ⟨0, .slice none 0 0, rfl, Nat.le_refl _, Nat.le_refl _, hw, .refl _, .inl ⟨rfl, rfl⟩, rfl⟩) (by simp) (.refl _) ?_
  rintro e σ' h' n' ⟨rfl, hn1, hn2, hw', hs, v, g3, hv⟩
  rw [hall] at hv
  rcases hv with ⟨hv1, rfl⟩ | ⟨q, mn, rfl, hq, hmn⟩
  · simp -dsimp (discharger := omega) [g3]
    exact ⟨by simp [textL, hv1], hs, by omega⟩
  · by_cases hnil : textNames f = []
    · simp -dsimp (discharger := omega) [g3, hnil]
      exact ⟨by simp [textL, hnil], hs, by omega⟩
    · have hpos : 0 < (textNames f).length := List.length_pos_iff.2 hnil
      have hlen : (textNames f).length ≤ 8 := by rw [← hall]; exact namesUp_len f 8
      have hjl := text_short ⟨f, hf⟩
      simp only at hjl
      simp -dsimp (discharger := omega) [g3]
      with_reducible refine call_ret (join_ret (ss := textNames f) (by rw [AHeap.read_of hq]; simp [hmn]) hw' [44] (by simp) (by omega) (by omega)) ?_
      simp -dsimp (discharger := omega) []
      exact ⟨by simp [textL, hnil], hs, by omega⟩
end
end Go.Proofs.YtkaibjdogeikbaaDoor.Am
