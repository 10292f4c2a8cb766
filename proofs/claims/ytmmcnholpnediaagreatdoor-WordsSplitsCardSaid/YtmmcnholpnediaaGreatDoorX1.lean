/- Contracts of the program's functions (X1). -/
import Derived.Test.YtmmcnholpnediaaGreatDoorLH
import Derived.Test.YtmmcnholpnediaaGreatDoorLG
import Derived.Test.YtmmcnholpnediaaGreatDoorXSpl
import Derived.Test.YtmmcnholpnediaaGreatDoorK
namespace Go.Proofs.YtmmcnholpnediaaGreatDoor.Am
noncomputable section
/- CONTRACTS of the document: digits, texts, words. -/
def DInv (T : List UInt8) (b : Bool) (h0 : AHeap) (n0 : Nat) (r : Nat) (σ : Fr) (h : AHeap) (n : Nat) : Prop :=
  ∃ (x : Int) (m : Nat) (t : List UInt8), x.natAbs = m ∧ m ≤ 9223372036854775808 ∧ ((¬ m = 0 ∨ t = []) ∧ r = m + 1 ∧ decs m ++ t = T ∧ n + ndig m ≤ n0 + T.length ∨ m = 0 ∧ r = 0 ∧ t = T ∧ ¬ t = [] ∧ n ≤ n0 + T.length) ∧ HSub h0 h ∧ WF h n ∧ n0 ≤ n ∧ -9223372036854775808 ≤ x ∧ x < 9223372036854775808 ∧
    σ = [(0, .int .i64 x), (3, .string ⟨t.toArray⟩), (4, .bool b)]
def DPost (T : List UInt8) (b : Bool) (h0 : AHeap) (n0 : Nat) (e : Ex) (σ' : Fr) (h' : AHeap) (n' : Nat) : Prop :=
  e = .exit 0 ∧ HSub h0 h' ∧ n' ≤ n0 + T.length ∧ σ'.get 3 = some (.string ⟨T.toArray⟩) ∧ σ'.get 4 = some (.bool b)
theorem natAbs_mod10 (x : Int) : (Int.tmod x 10).natAbs = x.natAbs % 10 := by
  rcases Int.le_total 0 x with h | h
  · rw [Int.tmod_eq_emod_of_nonneg h]; omega
  · obtain ⟨y, rfl⟩ : ∃ y : Int, x = -y := ⟨-x, by omega⟩
    rw [Int.neg_tmod, Int.tmod_eq_emod_of_nonneg (by omega)]; omega
theorem natAbs_div10 (x : Int) : (Int.tdiv x 10).natAbs = x.natAbs / 10 ∧ -922337203685477580 * 10 ≤ Int.tdiv x 10 * 10 + 100 + x.natAbs := by
  rcases Int.le_total 0 x with h | h
  · rw [Int.tdiv_eq_ediv_of_nonneg h]; omega
  · obtain ⟨y, rfl⟩ : ∃ y : Int, x = -y := ⟨-x, by omega⟩
    rw [Int.neg_tdiv, Int.tdiv_eq_ediv_of_nonneg (by omega)]; omega
set_option maxHeartbeats 2000000 in
theorem d_loop {T : List UInt8} (hT : T.length ≤ 20) {b : Bool} {h0 : AHeap} {n0 : Nat} (hw0 : WF h0 n0) :
    ∀ (r : Nat) (σ : Fr) (h : AHeap) (n : Nat), DInv T b h0 n0 r σ h n → HasCode EV65 (.loop F49L0) σ h n (DPost T b h0 n0) := by
  refine wx_inv _ fun r σ h n hI => ?_
  obtain ⟨x, m, t, hxm, hm, hc, hs, hw, hn0, hx0, hx1, rfl⟩ := hI
  have hmod := natAbs_mod10 x
  have hdiv := (natAbs_div10 x).1
  rcases hc with ⟨hne, rfl, ht, hn⟩ | ⟨rfl, rfl, rfl, hne, hn⟩
  · have htl : (decs m).length + t.length = T.length := by rw [← ht, List.length_append]
    have hdp := decs_len m
    have hp := ndig_pos m
    have hd10 := digC (Nat.mod_lt m (by omega : 0 < 10))
    have hb : (48 : Int) + ((m % 10 : Nat) : Int) = ((UInt8.ofNat (48 + m % 10)).toNat : Int) := by rw [hd10]; omega
    have hb1 : bytesOf? [Value.int .u8 ((UInt8.ofNat (48 + m % 10)).toNat : Int)] = some [UInt8.ofNat (48 + m % 10)] := bytesOf_u8s [UInt8.ofNat (48 + m % 10)]
    have hx10 : -9223372036854775808 ≤ Int.tdiv x 10 ∧ Int.tdiv x 10 < 9223372036854775808 := by omega
    have hdm : (Int.tmod x 10 = ((m % 10 : Nat) : Int) ∨ Int.tmod x 10 = -((m % 10 : Nat) : Int)) := by omega
    have hend : ∀ {σ : Fr} {tk : Tok (DInv T b h0 n0)} (B : Blk), FSubL [(0, .int .i64 (Int.tdiv x 10)), (3, .string ⟨(UInt8.ofNat (48 + m % 10) :: t).toArray⟩), (4, .bool b)] σ → Again (DInv T b h0 n0) (m + 1) σ (h.put n B) (n + 1) tk := fun B hσ => by
      by_cases h10 : m < 10
      · rw [decs_small h10] at ht
        have e1 : m % 10 = m := Nat.mod_eq_of_lt h10
        rw [e1] at hσ
        have ht' : UInt8.ofNat (48 + m) :: t = T := ht
        refine .mk' 0 (by omega) _ _ hσ (.refl _) ⟨_, 0, _, by omega, by omega, .inr ⟨rfl, rfl, ht', by simp, ?_⟩, hs.new hw0 hn0 _, hw.put _ (by omega) (by omega), by omega, hx10.1, hx10.2, rfl⟩
        omega
      · rw [decs_big h10, List.append_assoc] at ht
        have hnd : ndig m = ndig (m / 10) + 1 := by rw [ndig.eq_def, if_neg h10]
        refine .mk' (m / 10 + 1) (by omega) _ _ hσ (.refl _) ⟨_, m / 10, _, by omega, by omega, .inl ⟨.inl (by omega), rfl, ht, by omega⟩, hs.new hw0 hn0 _, hw.put _ (by omega) (by omega), by omega, hx10.1, hx10.2, rfl⟩
    have htc : t.length + 1 ≤ 21 := by omega
    have hq0 : x = 0 → Int.tdiv x 10 = 0 := fun e => by subst e; rfl
    generalize hQ : Int.tdiv x 10 = q at *
    generalize hD : Int.tmod x 10 = d at *
    generalize UInt8.ofNat (48 + m % 10) = c at *
    generalize hww : m % 10 = w at *
    by_cases hx : x = 0
    · have ht0 : t = [] := by rcases hne with h | h; omega; exact h
      have hq := hq0 hx
      subst hx hq
      have hm0 : m = 0 := by omega
      subst hm0 ht0
      have hd0 : d = 0 := by omega
      subst hd0
      have hc48 : c.toNat = 48 := by omega
      have hb48 : bytesOf? [Value.int .u8 48] = some [c] := by rw [← hb1, hc48]; rfl
      simp -dsimp (discharger := omega) [F49L0, aFill, hD, hb48]
      exact hend _ (by simp)
    · have hbne : (x != 0) = true := by simpa using hx
      by_cases hd : 0 ≤ d
      · have hd' : d = (w : Int) := by omega
        subst hd'
        simp -dsimp (discharger := omega) [F49L0, aFill, hD, hQ, hbne, hb, hb1]
        exact hend _ (by simp)
      · have hd' : d = -(w : Int) := by omega
        have hpos : 0 < w := by omega
        subst hd'
        simp -dsimp (discharger := omega) [F49L0, aFill, hD, hQ, hbne, hb, hb1]
        exact hend _ (by simp)
  · have hx : x = 0 := by omega
    subst hx
    have hte : t.isEmpty = false := by simpa using hne
    unfold DPost
    simp -dsimp (discharger := omega) [F49L0, hte]
    exact ⟨hs, hn⟩
theorem rdigits_ret {x : Int} (h0 : -9223372036854775808 ≤ x) (h1 : x < 9223372036854775808) {h : AHeap} {n : Nat} (hw : WF h n) : Ret EV65 49 [.int .i64 x] h n (.string ⟨(itoaL x).toArray⟩) [] (n + 20) := by
  refine rsx49 (by simp) (by simp) ?_
  have hl := decs_le20 (u := x.natAbs) (by omega)
  have hdp := decs_len x.natAbs
  by_cases c : x < 0
  · have e : itoaL x = 45 :: decs x.natAbs := by
      rw [itoaL, if_pos c]
      congr 2; omega
    rw [e]
    simp -dsimp (discharger := omega) [B49]
    refine loop_use (d_loop (T := decs x.natAbs) (b := true) hl hw (x.natAbs + 1) [(0, .int .i64 x), (3, .string ⟨([] : List UInt8).toArray⟩), (4, .bool true)] h n ⟨x, x.natAbs, [], rfl, by omega, .inl ⟨.inr rfl, rfl, by simp, by omega⟩, .refl _, hw, Nat.le_refl _, h0, h1, rfl⟩) (by simp) (.refl _) ?_
    rintro e σ' h' n' ⟨rfl, hs, hn', g3, g4⟩
    simp -dsimp (discharger := omega) [g3, g4]
    exact ⟨hs, by omega⟩
  · have e : itoaL x = decs x.natAbs := by
      rw [itoaL, if_neg c]
      congr 1; omega
    rw [e]
    simp -dsimp (discharger := omega) [B49]
    refine loop_use (d_loop (T := decs x.natAbs) (b := false) hl hw (x.natAbs + 1) [(0, .int .i64 x), (3, .string ⟨([] : List UInt8).toArray⟩), (4, .bool false)] h n ⟨x, x.natAbs, [], rfl, by omega, .inl ⟨.inr rfl, rfl, by simp, by omega⟩, .refl _, hw, Nat.le_refl _, h0, h1, rfl⟩) (by simp) (.refl _) ?_
    rintro e σ' h' n' ⟨rfl, hs, hn', g3, g4⟩
    simp -dsimp (discharger := omega) [g3, g4]
    exact ⟨hs, by omega⟩
theorem rtext_ret {a : Nat} (ha : a < 4294967296) {h : AHeap} {n : Nat} (hw : WF h n) : Ret EV65 11 [.int .u32 (a : Int)] h n (.string ⟨(ipT a).toArray⟩) [] (n + 100) := by
  refine rsx11 (by simp) (by simp) ?_
  have hl : ∀ u : Nat, u < 256 → (decs u).length ≤ 20 := fun u hu => decs_le20 (by omega)
  have l1 := hl (a / 16777216) (by omega)
  have l2 := hl (a / 65536 % 256) (by omega)
  have l3 := hl (a / 256 % 256) (by omega)
  have l4 := hl (a % 256) (by omega)
  have dg : ∀ (u : Nat) {H : AHeap} {m : Nat}, u < 256 → WF H m → Ret EV65 49 [.int .i64 (u : Int)] H m (.string ⟨(decs u).toArray⟩) [] (m + 20) := fun u H m hu hw => by
    have := rdigits_ret (x := (u : Int)) (by omega) (by omega) hw
    rwa [itoaL_nat] at this
  have q1 : Int.tdiv (a : Int) 16777216 = ((a / 16777216 : Nat) : Int) := tdiv_nat a 16777216
  have q2 : Int.tdiv (a : Int) 65536 = ((a / 65536 : Nat) : Int) := tdiv_nat a 65536
  have q3 : Int.tdiv (a : Int) 256 = ((a / 256 : Nat) : Int) := tdiv_nat a 256
  have m2 : Int.tmod ((a / 65536 : Nat) : Int) 256 = ((a / 65536 % 256 : Nat) : Int) := tmod_nat _ 256
  have m3 : Int.tmod ((a / 256 : Nat) : Int) 256 = ((a / 256 % 256 : Nat) : Int) := tmod_nat _ 256
  have m4 : Int.tmod (a : Int) 256 = ((a % 256 : Nat) : Int) := tmod_nat _ 256
  have hT : ipT a = decs (a / 16777216) ++ 46 :: (decs (a / 65536 % 256) ++ 46 :: (decs (a / 256 % 256) ++ 46 :: decs (a % 256))) := rfl
  rw [hT]
  have g1 : a / 16777216 < 256 := by omega
  have g2 : a / 65536 % 256 < 256 := by omega
  have g3 : a / 256 % 256 < 256 := by omega
  have g4 : a % 256 < 256 := by omega
  have b2 : a / 65536 < 4294967296 := by omega
  have b3 : a / 256 < 4294967296 := by omega
  generalize a / 16777216 = a1 at *
  generalize a / 65536 % 256 = a2 at *
  generalize a / 65536 = c2 at *
  generalize a / 256 % 256 = a3 at *
  generalize a / 256 = c3 at *
  generalize a % 256 = a4 at *
  simp -dsimp (discharger := omega) [B11, q1]
  with_reducible refine call_ret (dg a1 g1 hw) ?_
  simp -dsimp (discharger := omega) [q2, m2]
  with_reducible refine call_ret (dg a2 g2 (hw.mono (by omega))) ?_
  simp -dsimp (discharger := omega) [q3, m3]
  with_reducible refine call_ret (dg a3 g3 (hw.mono (by omega))) ?_
  simp -dsimp (discharger := omega) [m4]
  with_reducible refine call_ret (dg a4 g4 (hw.mono (by omega))) ?_
  simp -dsimp (discharger := omega) []
  exact .refl _
def MsInv (c : Nat) (v : Value) (h0 : AHeap) (n0 : Nat) (r : Nat) (σ : Fr) (h : AHeap) (n : Nat) : Prop :=
  h = h0 ∧ n = n0 ∧ ∃ j : Nat, j + r = 32 - c ∧ σ = [(0, v), (5, .int .u64 ((2 ^ j : Nat) : Int)), (6, .int .i64 ((c + j : Nat) : Int))]
def MsPost (c : Nat) (v : Value) (h0 : AHeap) (n0 : Nat) (e : Ex) (σ' : Fr) (h' : AHeap) (n' : Nat) : Prop :=
  h' = h0 ∧ n' = n0 ∧ e = .exit 0 ∧ σ'.get 0 = some v ∧ σ'.get 5 = some (.int .u64 ((2 ^ (32 - c) : Nat) : Int))
theorem ms_loop {c : Nat} (hc : c ≤ 32) {v : Value} {h0 : AHeap} {n0 : Nat} :
    ∀ (r : Nat) (σ : Fr) (h : AHeap) (n : Nat), MsInv c v h0 n0 r σ h n → HasCode EV65 (.loop F51L0) σ h n (MsPost c v h0 n0) := by
  refine wx_inv _ fun r σ h n hI => ?_
  obtain ⟨rfl, rfl, j, hj, rfl⟩ := hI
  cases r with
  | zero =>
    have ej : j = 32 - c := by omega
    subst ej
    unfold MsPost
    simp -dsimp (discharger := omega) [F51L0]
  | succ r =>
    have hp : 2 ^ j ≤ 2 ^ 32 := Nat.pow_le_pow_right (by omega) (by omega)
    have e2 : ((2 ^ j : Nat) : Int) * 2 = ((2 ^ (j + 1) : Nat) : Int) := by rw [Nat.pow_succ]; omega
    have hp2 : 2 ^ (j + 1) ≤ 2 ^ 33 := Nat.pow_le_pow_right (by omega) (by omega)
    generalize hP : 2 ^ j = P at *
    generalize hP2 : 2 ^ (j + 1) = P2 at *
    simp -dsimp (discharger := omega) [F51L0, e2]
    exact .mk' r (by omega) [(0, v), (5, .int .u64 ((2 ^ (j + 1) : Nat) : Int)), (6, .int .i64 ((c + (j + 1) : Nat) : Int))] _ (by simp [hP2]; omega) (.refl _) ⟨rfl, rfl, j + 1, by omega, rfl⟩
theorem rmasked_ret {a b : Nat} (ha : a < 4294967296) (hb : b ≤ 32) {h : AHeap} {n : Nat} : Ret EV65 51 [.int .u32 (a : Int), .int .i64 (b : Int)] h n (.int .u32 ((maskd a b : Nat) : Int)) [] n := by
  refine rsx51 (by simp) (by simp) ?_
  simp -dsimp (discharger := omega) [B51]
  refine loop_use (ms_loop hb (v := .int .u32 (a : Int)) (h0 := h) (n0 := n) (32 - b) [(0, .int .u32 (a : Int)), (5, .int .u64 ((2 ^ 0 : Nat) : Int)), (6, .int .i64 ((b + 0 : Nat) : Int))] h n ⟨rfl, rfl, 0, by omega, rfl⟩) (by simp) (.refl _) ?_
  rintro e σ' h' n' ⟨rfl, rfl, rfl, g0, g5⟩
  have hp1 : 0 < 2 ^ (32 - b) := Nat.pos_of_ne_zero (by simp)
  have hmd := maskd_lt ha b
  have e1 : Int.tdiv (a : Int) ((2 ^ (32 - b) : Nat) : Int) = ((a / 2 ^ (32 - b) : Nat) : Int) := tdiv_nat _ _
  have e2 : ((a / 2 ^ (32 - b) : Nat) : Int) * ((2 ^ (32 - b) : Nat) : Int) = ((maskd a b : Nat) : Int) := by rw [maskd]; exact (Int.natCast_mul _ _).symm
  have h1 : a / 2 ^ (32 - b) ≤ a := Nat.div_le_self _ _
  generalize a / 2 ^ (32 - b) = q at *
  generalize 2 ^ (32 - b) = P at *
  have hP : ¬ (P : Int) = 0 := by omega
  simp -dsimp (discharger := omega) [g0, g5, e1, e2]
  exact .refl _
theorem rptext_ret {a : Nat} (ha : a < 4294967296) (bits : Int) {h : AHeap} {n : Nat} (hw : WF h n) : Ret EV65 13 [.int .u32 (a : Int), .int .i64 bits] h n (.string ⟨(pfT a bits).toArray⟩) [] (n + 200) := by
  refine rsx13 (by simp) (by simp) ?_
  have hmd := maskd_lt ha (clampN bits)
  have l1 := ipT_len hmd
  have hc := clampN_le bits
  have l2 := decs_le20 (u := clampN bits) (by omega)
  unfold pfT
  have dg : ∀ (u : Nat) {H : AHeap} {m : Nat}, u < 256 → WF H m → Ret EV65 49 [.int .i64 (u : Int)] H m (.string ⟨(decs u).toArray⟩) [] (m + 20) := fun u H m hu hw => by
    have := rdigits_ret (x := (u : Int)) (by omega) (by omega) hw
    rwa [itoaL_nat] at this
  by_cases c1 : bits < 0
  · have e : clampN bits = 0 := by rw [clampN, if_pos c1]
    have hm := rmasked_ret ha (b := 0) (by omega) (h := h) (n := n)
    have hi0 : Ret EV65 49 [.int .i64 0] h (n + 100) (.string ⟨(decs 0).toArray⟩) [] (n + 100 + 20) := dg 0 (by omega) (hw.mono (by omega))
    rw [e] at hmd l1 l2 ⊢
    have hm : Ret EV65 51 [.int .u32 (a : Int), .int .i64 0] h n (.int .u32 ((maskd a 0 : Nat) : Int)) [] n := hm
    simp -dsimp (discharger := omega) [B13]
    with_reducible refine call_ret hm ?_
    simp -dsimp (discharger := omega) []
    with_reducible refine call_ret (rtext_ret hmd hw) ?_
    simp -dsimp (discharger := omega) []
    with_reducible refine call_ret hi0 ?_
    simp -dsimp (discharger := omega) []
    exact .refl _
  · by_cases c2 : bits < 32
    · obtain ⟨k, rfl⟩ : ∃ k : Nat, bits = (k : Int) := ⟨bits.toNat, by omega⟩
      have e : clampN (k : Int) = k := clampN_nat (by omega)
      rw [e] at hmd l1 l2 ⊢
      have hk : k < 32 := by omega
      rw [if_pos hk]
      simp -dsimp (discharger := omega) [B13]
      with_reducible refine call_ret (rmasked_ret ha (b := k) (by omega)) ?_
      simp -dsimp (discharger := omega) []
      with_reducible refine call_ret (rtext_ret hmd hw) ?_
      simp -dsimp (discharger := omega) []
      with_reducible refine call_ret (dg k (by omega) (hw.mono (by omega))) ?_
      simp -dsimp (discharger := omega) []
      exact .refl _
    · have e : clampN bits = 32 := by
        unfold clampN; repeat' split
        all_goals omega
      rw [e, maskd32, if_neg (by omega), List.append_nil]
      simp -dsimp (discharger := omega) [B13]
      with_reducible refine call_ret (rtext_ret ha hw) ?_
      simp -dsimp (discharger := omega) []
      exact .refl _
theorem rrange_ret {low high : Int} (h0 : -9223372036854775808 ≤ low) (h1 : low < 9223372036854775808) (h2 : -9223372036854775808 ≤ high) (h3 : high < 9223372036854775808) {h : AHeap} {n : Nat} (hw : WF h n) :
    Ret EV65 15 [.int .i64 low, .int .i64 high] h n (.string ⟨(rgT low high).toArray⟩) [] (n + 40) := by
  refine rsx15 (by simp) (by simp) ?_
  have l1 := itoaL_len h0 h1
  have l2 := itoaL_len h2 h3
  unfold rgT
  by_cases c : high ≤ low
  · rw [if_pos c]
    simp -dsimp (discharger := omega) [B15]
    with_reducible refine call_ret (rdigits_ret h0 h1 hw) ?_
    simp -dsimp (discharger := omega) []
    exact .refl _
  · rw [if_neg c]
    simp -dsimp (discharger := omega) [B15]
    with_reducible refine call_ret (rdigits_ret h0 h1 hw) ?_
    simp -dsimp (discharger := omega) []
    with_reducible refine call_ret (rdigits_ret h2 h3 (hw.mono (by omega))) ?_
    simp -dsimp (discharger := omega) []
    exact .refl _
end
end Go.Proofs.YtmmcnholpnediaaGreatDoor.Am
namespace Go.Proofs.YtmmcnholpnediaaGreatDoor.Am
noncomputable section
/- THE WALK of WordsSplits. -/
theorem splits_r {ws : List (List UInt8)} (hb : ws.length < 1000000) {a : Nat} (ha : a < 4294967296) {lo hi : Int} (l0 : -9223372036854775808 ≤ lo) (l1 : lo < 9223372036854775808) (i0 : -9223372036854775808 ≤ hi) (i1 : hi < 9223372036854775808)
    {σ : Fr} {H : AHeap} {n p T : Nat} {v7 v9 : Value} {e : Int} (hw : WF H n) (hp : HasPow H) (hn : 4096 ≤ n) (hn2 : n ≤ 100000)
    (s7 : StrV H v7 ws) (s9 : StrV H v9 ws) (gp : H.get p = some (.cells (some T) [.int .i64 lo, .int .i64 hi] 2))
    (g1 : σ.get 1 = some (.int .u32 (a : Int))) (g5 : σ.get 5 = some (.pointer (some ⟨p, 0, some 2⟩))) (g7 : σ.get 7 = some v7) (g8 : σ.get 8 = some (.int .i64 e)) (g9 : σ.get 9 = some v9) (g10 : σ.get 10 = some (.int .i64 e)) :
    wx EV65 R3_0 σ H n (kThen EV65 .ret (Done [.tmp 6] fun v _ _ => v = .bool true) ⟨⟩) ⟨⟩ := by
  have eq : Ret EV65 9 [v7, v9] H n (.bool true) [] n := by
    have := equalS_ret hb hb (h := H) (n := n) s7 s9
    rwa [decide_eq_true rfl] at this
  have hpow : HSub hP H := fun i b hi => by
    simp only [hP, AHeap.get_cons] at hi
    split at hi
    · rename_i e; subst e; cases hi; exact hp
    · cases hi
  have wk : ∀ {m : Nat}, n ≤ m → m ≤ 6000000000 → Ret EV65 16 [] H m (.bool true) [] 6000000091 := fun {m} h1 h2 => e_wk_ok.ret (n := m) h2 hpow (hw.mono h1)
  have r0 := AHeap.read_of gp 2 0 1
  have r1 := AHeap.read_of gp 2 1 1
  simp -dsimp (discharger := omega) [g7, g9]
  with_reducible refine ret_ret eq ?_
  simp -dsimp (discharger := omega) [g8, g10, g1]
  with_reducible refine ret_ret (wtext_ret ha hw hp hn) ?_
  simp -dsimp (discharger := omega) [g1]
  with_reducible refine ret_ret (rtext_ret ha (hw.mono (by omega))) ?_
  simp -dsimp (discharger := omega) [g1, g5, r0]
  with_reducible refine ret_ret (wptext_ret ha lo (hw.mono (by omega)) hp (by omega)) ?_
  simp -dsimp (discharger := omega) [g1, g5, r0]
  with_reducible refine ret_ret (rptext_ret ha lo (hw.mono (by omega))) ?_
  simp -dsimp (discharger := omega) [g5, r0, r1]
  with_reducible refine ret_ret (wrange_ret l0 l1 i0 i1 (hw.mono (by omega)) hp (by omega)) ?_
  simp -dsimp (discharger := omega) [g5, r0, r1]
  with_reducible refine ret_ret (rrange_ret l0 l1 i0 i1 (hw.mono (by omega))) ?_
  simp -dsimp (discharger := omega) []
  with_reducible refine ret_ret (wk (by omega) (by omega)) ?_
  simp -dsimp (discharger := omega) []
theorem splits_walk {s : List UInt8} (hs : s.length < 9223372036854775808) {a : Nat} (ha : a < 4294967296) {lo hi : Int} (l0 : -9223372036854775808 ≤ lo) (l1 : lo < 9223372036854775808) (i0 : -9223372036854775808 ≤ hi) (i1 : hi < 9223372036854775808)
    {h : AHeap} {n : Nat} (hw : WF h n) (hp : HasPow h) (hn : 4096 ≤ n) (hn2 : n ≤ 5000) :
    HasCallT EV65 3 [.string ⟨s.toArray⟩, .int .u32 (a : Int), .agg #[.int .i64 lo, .int .i64 hi]] h n (fun v _ _ => v = .bool true) () := by
  refine inl3 ?_
  simp -dsimp (discharger := omega) [B3, -wR3_0]
  by_cases hok : splitE s = 0
  · have h1 : ¬ 200 < s.length := fun h1 => by unfold splitE at hok; rw [if_pos h1] at hok; cases hok
    have hlen : (wordsL s).length ≤ s.length + 1 := words_len s []
    with_reducible refine call_ret (wsplit_ok hok ?_) ?_
    · exact .of fun j hj => by simp (discharger := omega) [hw.none (i := j) (by omega)]
    simp -dsimp (discharger := omega) [-wR3_0]
    with_reducible refine call_ret (rsplit_ok hok ?_) ?_
    · exact .of fun j hj => by simp (discharger := omega) [hw.none (i := j) (by omega)]
    simp -dsimp (discharger := omega) [-wR3_0]
    refine splits_r (ws := wordsL s) (by omega) ha l0 l1 i0 i1 (p := n) (T := 24) (e := 0) (v7 := .slice (some ⟨n + 1 + 3 + (wordsL s).length, 0, some (wordsL s).length⟩) (wordsL s).length 2) (v9 := rsV (n + 1 + 4 + 2 * (wordsL s).length) (wordsL s)) ?_ ?_ (by omega) (by omega) (.inr ⟨_, (wordsL s).length, rfl, ?_, Nat.le_refl _⟩) ?_ ?_ (by simp) (by simp) (by simp) (by simp) (by simp) (by simp)
    · exact .of fun j hj => by
        unfold rsB
        split
        · simp (discharger := omega) [hw.none (i := j) (by omega)]
        · simp (discharger := omega) [hw.none (i := j) (by omega)]
    · unfold rsB
      split
      · refine HasPow.put (HasPow.put hp (by omega) _) (by omega) _
      · refine HasPow.put (HasPow.put (HasPow.put hp (by omega) _) (by omega) _) (by omega) _
    · unfold rsB
      split
      · simp (discharger := omega)
      · simp (discharger := omega)
    · unfold rsV rsB
      split
      · rename_i e; exact .inl ⟨e, rfl⟩
      · rename_i e
        refine .inr ⟨_, _, rfl, by simp (discharger := omega); rfl, ?_⟩
        have := List.length_pos_iff.2 e
        omega
    · unfold rsB
      split
      · simp (discharger := omega)
      · simp (discharger := omega)
  · with_reducible refine call_ret (wsplit_bad hs hok ?_) ?_
    · exact .of fun j hj => by simp (discharger := omega) [hw.none (i := j) (by omega)]
    simp -dsimp (discharger := omega) [-wR3_0]
    with_reducible refine call_ret (rsplit_bad hs hok) ?_
    simp -dsimp (discharger := omega) [-wR3_0]
    refine splits_r (ws := []) (by simp) ha l0 l1 i0 i1 (p := n) (T := 24) (e := (splitE s : Int)) ?_ ?_ (by omega) (by omega) (.inl ⟨rfl, rfl⟩) (.inl ⟨rfl, rfl⟩) ?_ (by simp) (by simp) (by simp) (by simp) (by simp) (by simp)
    · exact .of fun j hj => by simp (discharger := omega) [hw.none (i := j) (by omega)]
    · exact HasPow.put hp (by omega) _
    · simp (discharger := omega)
end
end Go.Proofs.YtmmcnholpnediaaGreatDoor.Am
