/- Contracts and plain facts (LH). -/
import Derived.Test.YtmmcnholpnediaaDoorLM
import Derived.Test.YtmmcnholpnediaaDoorLJ
import Derived.Test.YtmmcnholpnediaaDoorL7
namespace Go.Proofs.YtmmcnholpnediaaDoor.Am
noncomputable section
/- CONTRACTS: texts of addresses, prefixes, ranges; the program's and the document's. -/
theorem ipT_len {a : Nat} (ha : a < 4294967296) : (ipT a).length ≤ 83 := by
  have l1 := decs_le20 (u := a / 16777216) (by omega)
  have l2 := decs_le20 (u := a / 65536 % 256) (by omega)
  have l3 := decs_le20 (u := a / 256 % 256) (by omega)
  have l4 := decs_le20 (u := a % 256) (by omega)
  simp only [ipT, List.length_append, List.length_cons]; omega
theorem itoaL_len {i : Int} (h0 : -9223372036854775808 ≤ i) (h1 : i < 9223372036854775808) : (itoaL i).length ≤ 21 := by
  unfold itoaL
  split
  · have := decs_le20 (u := (-i).toNat) (by omega); simp; omega
  · have := decs_le20 (u := i.toNat) (by omega); omega
def rgT (low high : Int) : List UInt8 := if high ≤ low then itoaL low else itoaL low ++ 45 :: itoaL high
theorem and32_255 {y : Int} (h0 : 0 ≤ y) (h1 : y < 4294967296) : andI .u32 y 255 = y % 256 := by
  obtain ⟨m, rfl⟩ : ∃ m : Nat, y = (m : Int) := ⟨y.toNat, by omega⟩
  have := andN (k := .u32) rfl (x := m) (y := 255) (by show m < 4294967296; omega) (by decide)
  rw [show (255 : Nat) = 2 ^ 8 - 1 from rfl, Nat.and_two_pow_sub_one_eq_mod] at this
  exact this
theorem wtext_ret {a : Nat} (ha : a < 4294967296) {h : AHeap} {n : Nat} (hw : WF h n) (hp : HasPow h) (hn : 4096 ≤ n) : Ret EV15 11 [.int .u32 (a : Int)] h n (.string ⟨(ipT a).toArray⟩) [] (n + 30) := by
  refine rsx11 (by simp) (by simp) ?_
  have s24 : shrI .u32 (a : Int) 24 = (a : Int) / 16777216 := shrI_pos .u32 (by omega) 24 (by decide)
  have s16 : shrI .u32 (a : Int) 16 = (a : Int) / 65536 := shrI_pos .u32 (by omega) 16 (by decide)
  have s8 : shrI .u32 (a : Int) 8 = (a : Int) / 256 := shrI_pos .u32 (by omega) 8 (by decide)
  have s0 : shrI .u32 (a : Int) 0 = (a : Int) / 1 := shrI_pos .u32 (by omega) 0 (by decide)
  have t24 : itoaL ((a : Int) / 16777216 % 256) = decs (a / 16777216) := by
    have e : (a : Int) / 16777216 % 256 = ((a / 16777216 : Nat) : Int) := by omega
    rw [e, itoaL_nat]
  have t16 : itoaL ((a : Int) / 65536 % 256) = decs (a / 65536 % 256) := itoaL_nat (a / 65536 % 256)
  have t8 : itoaL ((a : Int) / 256 % 256) = decs (a / 256 % 256) := itoaL_nat (a / 256 % 256)
  have t0 : itoaL ((a : Int) % 256) = decs (a % 256) := itoaL_nat (a % 256)
  have hl : ∀ u : Nat, u < 256 → (decs u).length ≤ 20 := fun u hu => decs_le20 (by omega)
  simp -dsimp (discharger := omega) [B11]
  with_reducible refine wx_round ?_
  simp -dsimp (discharger := omega) [F11L0, s24, and32_255]
  with_reducible refine call_ret (itoaI_ret (by omega) (by omega) hp hw hn) ?_
  rw [t24]
  simp -dsimp (discharger := omega) [aFill, aAppend, aElems]
  with_reducible refine wx_round ?_
  simp -dsimp (discharger := omega) [F11L0, s16, and32_255]
  with_reducible refine call_ret (itoaI_ret (by omega) (by omega) (by (repeat (refine HasPow.put ?_ (by omega) _)); exact hp) (.of fun j hj => by simp (discharger := omega) [hw.none (i := j) (by omega)]) (by omega)) ?_
  rw [t16]
  simp -dsimp (discharger := omega) [aFill, aAppend, aElems]
  with_reducible refine wx_round ?_
  simp -dsimp (discharger := omega) [F11L0, s8, and32_255]
  with_reducible refine call_ret (itoaI_ret (by omega) (by omega) (by (repeat (refine HasPow.put ?_ (by omega) _)); exact hp) (.of fun j hj => by simp (discharger := omega) [hw.none (i := j) (by omega)]) (by omega)) ?_
  rw [t8]
  simp -dsimp (discharger := omega) [aFill, aAppend, aElems]
  with_reducible refine wx_round ?_
  simp -dsimp (discharger := omega) [F11L0, s0, Int.ediv_one, and32_255]
  with_reducible refine call_ret (itoaI_ret (by omega) (by omega) (by (repeat (refine HasPow.put ?_ (by omega) _)); exact hp) (.of fun j hj => by simp (discharger := omega) [hw.none (i := j) (by omega)]) (by omega)) ?_
  rw [t0]
  simp -dsimp (discharger := omega) [aFill, aAppend, aElems]
  with_reducible refine wx_round ?_
  simp -dsimp (discharger := omega) [F11L0]
  have l1 := hl (a / 16777216) (by omega)
  have l2 := hl (a / 65536 % 256) (by omega)
  have l3 := hl (a / 256 % 256) (by omega)
  have l4 := hl (a % 256) (by omega)
  refine call_ret (join_ret (ss := [decs (a / 16777216), decs (a / 65536 % 256), decs (a / 256 % 256), decs (a % 256)]) (i := n + 1 + 1) (o := 0) (g := 4) (k := 2) (by simp [strsL]) (.of fun j hj => by simp (discharger := omega) [hw.none (i := j) (by omega)]) [46] (by simp) (by simp) (by rw [ipT_join]; simp only [ipT, List.length_append, List.length_cons]; omega)) ?_
  rw [ipT_join]
  simp -dsimp (discharger := omega) []
  repeat (refine HSub.new ?_ hw (by omega) _)
  exact .refl _
theorem wmasked_ret {a b : Nat} (ha : a < 4294967296) (hb : b ≤ 32) {h : AHeap} {n : Nat} : Ret EV15 33 [.int .u32 (a : Int), .int .i64 (b : Int)] h n (.int .u32 ((maskd a b : Nat) : Int)) [] n := by
  refine rsx33 (by simp) (by simp) ?_
  have e0 : (32 : Int) - (b : Int) = ((32 - b : Nat) : Int) := by omega
  have e1 := shl32 (k := 32 - b) (by omega)
  have e2 := andNot_mask ha hb
  simp -dsimp (discharger := omega) [B33, e0, e1, e2, HSub.refl]
theorem wptext_ret {a : Nat} (ha : a < 4294967296) (bits : Int) {h : AHeap} {n : Nat} (hw : WF h n) (hp : HasPow h) (hn : 4096 ≤ n) :
    Ret EV15 12 [.int .u32 (a : Int), .int .i64 bits] h n (.string ⟨(pfT a bits).toArray⟩) [] (n + 32) := by
  refine rsx12 (by simp) (by simp) ?_
  have hmd := maskd_lt ha (clampN bits)
  have l1 := ipT_len hmd
  have hc := clampN_le bits
  have l2 := decs_le20 (u := clampN bits) (by omega)
  unfold pfT
  by_cases c2 : bits < 32
  · obtain ⟨k, hk, hk32, hmx⟩ : ∃ k : Nat, clampN bits = k ∧ k < 32 ∧ (if (0 : Int) > bits then (0 : Int) else bits) = (k : Int) := by
      refine ⟨clampN bits, rfl, ?_, ?_⟩
      · unfold clampN; repeat' split
        all_goals omega
      · unfold clampN; repeat' split
        all_goals omega
    rw [hk] at hmd l1 l2 ⊢
    rw [if_pos hk32]
    have hmx2 : (if bits < 0 then 0 else bits) = (k : Int) := hmx
    simp -dsimp (discharger := omega) [B12, hmx2]
    with_reducible refine call_ret (wmasked_ret ha (b := k) (by omega)) ?_
    simp -dsimp (discharger := omega) []
    with_reducible refine call_ret (wtext_ret hmd hw hp hn) ?_
    simp -dsimp (discharger := omega) []
    with_reducible refine call_ret (itoaN_ret (u := k) (by omega) hp (hw.mono (by omega)) (by omega)) ?_
    simp -dsimp (discharger := omega) []
    exact .refl _
  · have e : clampN bits = 32 := by
      unfold clampN; repeat' split
      all_goals omega
    rw [e, maskd32, if_neg (by omega), List.append_nil]
    simp -dsimp (discharger := omega) [B12]
    with_reducible refine call_ret (wtext_ret ha hw hp hn) ?_
    simp -dsimp (discharger := omega) []
    exact .refl _
theorem wrange_ret {low high : Int} (h0 : -9223372036854775808 ≤ low) (h1 : low < 9223372036854775808) (h2 : -9223372036854775808 ≤ high) (h3 : high < 9223372036854775808) {h : AHeap} {n : Nat} (hw : WF h n) (hp : HasPow h) (hn : 4096 ≤ n) :
    Ret EV15 13 [.int .i64 low, .int .i64 high] h n (.string ⟨(rgT low high).toArray⟩) [] (n + 2) := by
  refine rsx13 (by simp) (by simp) ?_
  have l1 := itoaL_len h0 h1
  have l2 := itoaL_len h2 h3
  unfold rgT
  by_cases c : high ≤ low
  · rw [if_pos c]
    simp -dsimp (discharger := omega) [B13]
    with_reducible refine call_ret (itoaI_ret h0 h1 hp hw hn) ?_
    simp -dsimp (discharger := omega) []
    exact .refl _
  · rw [if_neg c]
    simp -dsimp (discharger := omega) [B13]
    with_reducible refine call_ret (itoaI_ret h0 h1 hp hw hn) ?_
    simp -dsimp (discharger := omega) []
    with_reducible refine call_ret (itoaI_ret h2 h3 hp (hw.mono (by omega)) (by omega)) ?_
    simp -dsimp (discharger := omega) []
    exact .refl _
end
end Go.Proofs.YtmmcnholpnediaaDoor.Am
