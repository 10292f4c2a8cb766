/- Contracts and plain facts (L9). -/
import Derived.Test.YtmmcnholpnediaaDoorL4
import Derived.Test.YtmmcnholpnediaaDoorL7
namespace Go.Proofs.YtmmcnholpnediaaDoor.Am
noncomputable section
/- TEXTS CUT AND SET TOGETHER: plain facts. -/
theorem ndig_le3 {u : Nat} (h : u < 1000) : ndig u ≤ 3 := by
  rcases Nat.lt_or_ge u 10 with h1 | h1
  · rw [ndig_of (k := 0) (.inl rfl) (by omega)]; omega
  · rcases Nat.lt_or_ge u 100 with h2 | h2
    · rw [ndig_of (k := 1) (.inr (by omega)) (by omega)]; omega
    · rw [ndig_of (k := 2) (.inr (by omega)) (by omega)]; omega
theorem ndig_le5 {u : Nat} (h : u < 100000) : ndig u ≤ 5 := by
  rcases Nat.lt_or_ge u 1000 with h1 | h1
  · have := ndig_le3 h1; omega
  · rcases Nat.lt_or_ge u 10000 with h2 | h2
    · rw [ndig_of (k := 3) (.inr (by omega)) (by omega)]; omega
    · rw [ndig_of (k := 4) (.inr (by omega)) (by omega)]; omega
theorem ipT_len15 {a : Nat} (ha : a < 4294967296) : (ipT a).length ≤ 15 := by
  have l : ∀ u, u < 256 → (decs u).length ≤ 3 := fun u hu => by rw [decs_len]; exact ndig_le3 (by omega)
  have l1 := l (a / 16777216) (by omega)
  have l2 := l (a / 65536 % 256) (by omega)
  have l3 := l (a / 256 % 256) (by omega)
  have l4 := l (a % 256) (by omega)
  simp only [ipT, List.length_append, List.length_cons]; omega
theorem pfT_len18 {a : Nat} (ha : a < 4294967296) {k : Nat} (hk : k ≤ 32) : (pfT a (k : Int)).length ≤ 19 := by
  have := ipT_len15 (maskd_lt ha (clampN (k : Int)))
  have hd : (decs k).length ≤ 3 := by rw [decs_len]; exact ndig_le3 (by omega)
  unfold pfT
  rw [clampN_nat hk, List.length_append]
  rw [clampN_nat hk] at this
  split
  · simp only [List.length_cons]; omega
  · simp; omega
end
end Go.Proofs.YtmmcnholpnediaaDoor.Am
