/- Contracts and plain facts (LI). -/
import Derived.Test.YtbgjcoochdljfaaDoorRG
import Derived.Test.YtbgjcoochdljfaaDoorRL1
namespace Go.Proofs.YtbgjcoochdljfaaDoorR.Am
noncomputable section
/- CONTRACTS OF GO's LIBRARY: strconv.Itoa of small numbers. -/
def decL (i : Nat) : List UInt8 := if i < 10 then [UInt8.ofNat (48 + i)] else [UInt8.ofNat (48 + i / 10), UInt8.ofNat (48 + i % 10)]
theorem small1 : ∀ i : Fin 10, List.drop i.1 (List.take (i.1 + 1) ([48, 49, 50, 51, 52, 53, 54, 55, 56, 57, 97, 98, 99, 100, 101, 102, 103, 104, 105, 106, 107, 108, 109, 110, 111, 112, 113, 114, 115, 116, 117, 118, 119, 120, 121, 122] : List UInt8)) = decL i.1 := by decide +kernel
theorem small2 : ∀ i : Fin 100, 10 ≤ i.1 → List.drop (i.1 * 2) (List.take (i.1 * 2 + 2) ([48, 48, 48, 49, 48, 50, 48, 51, 48, 52, 48, 53, 48, 54, 48, 55, 48, 56, 48, 57, 49, 48, 49, 49, 49, 50, 49, 51, 49, 52, 49, 53, 49, 54, 49, 55, 49, 56, 49, 57, 50, 48, 50, 49, 50, 50, 50, 51, 50, 52, 50, 53, 50, 54, 50, 55, 50, 56, 50, 57, 51, 48, 51, 49, 51, 50, 51, 51, 51, 52, 51, 53, 51, 54, 51, 55, 51, 56, 51, 57, 52, 48, 52, 49, 52, 50, 52, 51, 52, 52, 52, 53, 52, 54, 52, 55, 52, 56, 52, 57, 53, 48, 53, 49, 53, 50, 53, 51, 53, 52, 53, 53, 53, 54, 53, 55, 53, 56, 53, 57, 54, 48, 54, 49, 54, 50, 54, 51, 54, 52, 54, 53, 54, 54, 54, 55, 54, 56, 54, 57, 55, 48, 55, 49, 55, 50, 55, 51, 55, 52, 55, 53, 55, 54, 55, 55, 55, 56, 55, 57, 56, 48, 56, 49, 56, 50, 56, 51, 56, 52, 56, 53, 56, 54, 56, 55, 56, 56, 56, 57, 57, 48, 57, 49, 57, 50, 57, 51, 57, 52, 57, 53, 57, 54, 57, 55, 57, 56, 57, 57] : List UInt8)) = decL i.1 := by decide +kernel
set_option maxRecDepth 100000 in
theorem small_ret {i : Nat} (hi : i < 100) {h : AHeap} {n : Nat} : Ret EV14 64 [.int .i64 (i : Int)] h n (.string ⟨(decL i).toArray⟩) [] n := by
  refine rsx64 (by simp) (by simp) ?_
  by_cases h10 : i < 10
  · have e := small1 ⟨i, h10⟩
    have e1 : ((i : Int) + 1).toNat = i + 1 := by omega
    simp -dsimp (discharger := omega) [B64, e1, e, -List.take_succ_cons]
    exact .refl _
  · have e := small2 ⟨i, hi⟩ (by simp only; omega)
    have e1 : ((i : Int) * 2 + 2).toNat = i * 2 + 2 := by omega
    have e2 : ((i : Int) * 2).toNat = i * 2 := by omega
    simp -dsimp (discharger := omega) [B64, e1, e2, e, -List.take_succ_cons]
    exact .refl _
theorem itoa_ret {i : Nat} (hi : i < 100) {h : AHeap} {n : Nat} : Ret EV14 27 [.int .i64 (i : Int)] h n (.string ⟨(decL i).toArray⟩) [] n := by
  refine rsx27 (by simp) (by simp) ?_
  simp -dsimp (discharger := omega) [B27]
  with_reducible refine inl43 ?_
  simp -dsimp (discharger := omega) [B43]
  with_reducible refine inl54 ?_
  simp -dsimp (discharger := omega) [B54]
  with_reducible refine call_ret (small_ret hi) ?_
  simp -dsimp (discharger := omega) []
  exact .refl _
end
end Go.Proofs.YtbgjcoochdljfaaDoorR.Am
