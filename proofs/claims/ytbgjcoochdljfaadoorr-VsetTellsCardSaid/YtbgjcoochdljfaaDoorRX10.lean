/- Contracts of the program's functions (X10). -/
import Derived.Test.YtbgjcoochdljfaaDoorRX4
import Derived.Test.YtbgjcoochdljfaaDoorRLE
import Derived.Test.YtbgjcoochdljfaaDoorRLC
namespace Go.Proofs.YtbgjcoochdljfaaDoorR.Am
noncomputable section
/- CONTRACTS: a number, a range read. -/
def head48 (s : List UInt8) : Bool := match s with
  | [] => false
  | c :: _ => c == 48
theorem prefix0_ret (s : List UInt8) (hs : s.length < 1000000) (h : AHeap) (n : Nat) : Ret EV14 52 [.string ⟨s.toArray⟩, .string ⟨#[48]⟩] h n (.bool (head48 s)) [] n := by
  refine rsx52 (by simp) (by simp) ?_
  simp -dsimp (discharger := omega) [B52]
  with_reducible refine inl61 ?_
  cases s with
  | nil =>
    simp -dsimp (discharger := omega) [B61, head48, HSub.refl]
  | cons c l =>
    simp -dsimp (discharger := omega) [B61, head48, HSub.refl]
    try done
def numB (s : List UInt8) : Bool := decide (s.length ≤ 4) && !(head48 s) && okU s 65535
def NumV (s : List UInt8) (v : Value) : Prop := ∃ x : Nat, v = .tuple #[.int .i64 (x : Int), .bool (numB s)] ∧ x < 65536 ∧ (numB s = true → x = decV s)
theorem number_ret {s : List UInt8} (hs : s.length < 100000) {h : AHeap} {n : Nat} (hw : WF h n) (he : HasErrs h) (hn : 4096 ≤ n) : ∃ v, NumV s v ∧ Ret EV14 42 [.string ⟨s.toArray⟩] h n v [] (n + 3) := by
  obtain ⟨v, ⟨x, e, rfl, hx, hc⟩, hr⟩ := parseUint16_ret hs hw he hn
  refine rex42 ?_
  by_cases hl : s.length ≤ 4
  · have h1 : ¬ ((4 : Int) < (s.length : Int)) := by omega
    simp -dsimp (discharger := omega) [B42, h1]
    with_reducible refine call_ret (prefix0_ret s (by omega) _ _) ?_
    cases hh : head48 s with
    | true =>
      have hb : numB s = false := by unfold numB; rw [hh]; simp
      simp -dsimp (discharger := omega) []
      exact ⟨⟨0, by rw [hb]; rfl, by omega, by rw [hb]; simp⟩, .refl _⟩
    | false =>
      simp -dsimp (discharger := omega) []
      with_reducible refine call_ret hr ?_
      rcases hc with ⟨ho, hxv, rfl⟩ | ⟨ho, ty, w, rfl⟩
      · have hb : numB s = true := by unfold numB; rw [hh, ho]; simp [hl]
        simp -dsimp (discharger := omega) []
        exact ⟨⟨x, by rw [hb], hx, fun _ => hxv⟩, .refl _⟩
      · have hb : numB s = false := by unfold numB; rw [ho]; simp
        simp -dsimp (discharger := omega) []
        exact ⟨⟨x, by rw [hb], hx, by rw [hb]; simp⟩, .refl _⟩
  · have h1 : ((4 : Int) < (s.length : Int)) := by omega
    have hb : numB s = false := by unfold numB; rw [decide_eq_false hl]; rfl
    simp -dsimp (discharger := omega) [B42, h1]
    exact ⟨⟨0, by rw [hb]; rfl, by omega, by rw [hb]; simp⟩, .refl _⟩
def partB (s : List UInt8) : Bool := if cutB s 45 then numB (cutA s 45) && numB (cutZ s 45) else numB (cutA s 45)
def partN (s : List UInt8) : Nat × Nat := if cutB s 45 then (decV (cutA s 45), decV (cutZ s 45)) else (decV (cutA s 45), decV (cutA s 45))
def PartV (s : List UInt8) (v : Value) : Prop := ∃ x y : Nat, v = .tuple #[.agg #[.int .i64 (x : Int), .int .i64 (y : Int)], .bool (partB s)] ∧ x < 65536 ∧ y < 65536 ∧ (partB s = true → x = (partN s).1 ∧ y = (partN s).2)
theorem cutA_le (s : List UInt8) (c : UInt8) : (cutA s c).length ≤ s.length := by
  unfold cutA; split
  · exact Nat.le_refl _
  · rw [List.length_take]; omega
theorem cutZ_le (s : List UInt8) (c : UInt8) : (cutZ s c).length ≤ s.length := by
  unfold cutZ; split
  · simp
  · rw [List.length_drop]; omega
theorem part_ret {s : List UInt8} (hs : s.length < 100000) {h : AHeap} {n : Nat} (hw : WF h n) (he : HasErrs h) (hn : 4096 ≤ n) : ∃ v, PartV s v ∧ Ret EV14 26 [.string ⟨s.toArray⟩] h n v [] (n + 7) := by
  have hA := cutA_le s 45
  have hZ := cutZ_le s 45
  have hw1 : ∀ b, WF (h.put n b) (n + 1) := fun b => hw.put b (by omega) (by omega)
  have hsb : ∀ b, HSub h (h.put n b) := fun b => (HSub.refl h).new hw (Nat.le_refl _) b
  obtain ⟨v1, ⟨x, rfl, hx, hxe⟩, hr1⟩ := number_ret (s := cutA s 45) (by omega) (hw1 (.cells (some 35) [.int .i64 0, .int .i64 0] 2)) (he.sub (hsb _)) (by omega)
  obtain ⟨v2, ⟨y, rfl, hy, hye⟩, hr2⟩ := number_ret (s := cutZ s 45) (by omega) ((hw1 (.cells (some 35) [.int .i64 0, .int .i64 0] 2)).mono (show n + 1 ≤ n + 1 + 3 by omega)) (he.sub (hsb _)) (by omega)
  refine rex26 ?_
  simp -dsimp (discharger := omega) [B26]
  with_reducible refine call_ret (cut_ret s 45 (by omega) _ _) ?_
  simp -dsimp (discharger := omega) []
  with_reducible refine call_ret hr1 ?_
  unfold PartV partB partN
  cases hc : cutB s 45 with
  | false =>
    simp -dsimp (discharger := omega) [aFill]
    exact ⟨⟨x, x, ⟨rfl, rfl⟩, hx, hx, fun hb => ⟨hxe hb, hxe hb⟩⟩, (hsb _).new hw (Nat.le_refl _) _⟩
  | true =>
    cases hb : numB (cutA s 45) with
    | true =>
      simp -dsimp (discharger := omega) []
      with_reducible refine call_ret hr2 ?_
      simp -dsimp (discharger := omega) [aFill]
      exact ⟨⟨x, y, ⟨rfl, rfl⟩, hx, hy, fun hb2 => ⟨hxe hb, hye hb2⟩⟩, (hsb _).new hw (Nat.le_refl _) _⟩
    | false =>
      simp -dsimp (discharger := omega) []
      with_reducible refine call_ret hr2 ?_
      simp -dsimp (discharger := omega) [aFill]
      exact ⟨⟨x, y, ⟨rfl, rfl⟩, hx, hy⟩, (hsb _).new hw (Nat.le_refl _) _⟩
end
end Go.Proofs.YtbgjcoochdljfaaDoorR.Am
