/- Contracts and plain facts (LM). -/
import Derived.Test.YtbgjcoochdljfaaDoorRLN
namespace Go.Proofs.YtbgjcoochdljfaaDoorR.Am
noncomputable section
/- CONTRACTS OF GO's LIBRARY: strconv.Itoa. -/
def itoaL (i : Int) : List UInt8 := if i < 0 then 45 :: decs (-i).toNat else decs i.toNat
theorem decL_decs {u : Nat} (h : u < 100) : decL u = decs u := by
  unfold decL
  split
  · rename_i h1; rw [decs_small h1]
  · rename_i h1; rw [decs_big h1, decs_small (by omega)]; rfl
theorem ndig_le20 {u : Nat} (h : u < 18446744073709551616) : ndig u ≤ 20 := by
  rcases (ndig_bounds u).2 with h1 | h1
  · omega
  · rcases Nat.lt_or_ge 20 (ndig u) with h2 | h2
    · have : 10 ^ 20 ≤ 10 ^ (ndig u - 1) := Nat.pow_le_pow_right (by omega) (by omega)
      omega
    · exact h2
theorem decs_le20 {u : Nat} (h : u < 18446744073709551616) : (decs u).length ≤ 20 := by rw [decs_len]; exact ndig_le20 h
def zero24 : List UInt8 := List.replicate 24 0
theorem zero24_u : u8s zero24 = [(.int .u8 0), (.int .u8 0), (.int .u8 0), (.int .u8 0), (.int .u8 0), (.int .u8 0), (.int .u8 0), (.int .u8 0), (.int .u8 0), (.int .u8 0), (.int .u8 0), (.int .u8 0), (.int .u8 0), (.int .u8 0), (.int .u8 0), (.int .u8 0), (.int .u8 0), (.int .u8 0), (.int .u8 0), (.int .u8 0), (.int .u8 0), (.int .u8 0), (.int .u8 0), (.int .u8 0)] := rfl
set_option maxRecDepth 100000 in
theorem formatInt_ret {i : Int} (h0 : -9223372036854775808 ≤ i) (h1 : i < 9223372036854775808) {h : AHeap} {n : Nat} (hp : HasPow h) (hw : WF h n) (hn : 4096 ≤ n) : Ret EV14 54 [.int .i64 i, .int .i64 10] h n (.string ⟨(itoaL i).toArray⟩) [] (n + 1) := by
  refine rsx54 (by simp) (by simp) ?_
  by_cases c1 : i < 0
  · obtain ⟨u, hu, hu0, hul⟩ : ∃ u : Nat, i = -(u : Int) ∧ 0 < u ∧ u ≤ 9223372036854775808 := ⟨(-i).toNat, by omega, by omega, by omega⟩
    have hconv : IntKind.u64.wrap i = ((18446744073709551616 - u : Nat) : Int) := by
      subst hu
      simp only [IntKind.wrap, IntKind.bits, IntKind.signed]
      simp
      omega
    have hneg : IntKind.u64.wrap (-((18446744073709551616 - u : Nat) : Int)) = (u : Int) := by
      simp only [IntKind.wrap, IntKind.bits, IntKind.signed]
      simp
      omega
    have et : itoaL i = 45 :: decs u := by rw [itoaL, if_pos c1, hu]; simp
    have hnd := ndig_le20 (u := u) (by omega)
    have hb := (ndig_bounds u).1
    simp -dsimp (discharger := omega) [B54, hconv, hneg]
    with_reducible refine call_ret (numDigits_ret (by omega) (by omega) (hp.put hn _)) ?_
    have e1 : (1 + (ndig u : Int)).toNat = 1 + ndig u := by omega
    have e2 : 1 + ndig u - 1 = ndig u := by omega
    simp -dsimp (discharger := omega) [e1, e2]
    rw [← zero24_u]
    with_reducible refine fmt_call (ty := 99) (n := n + 1) (z := n) (o := 1) (N := ndig u) (u0 := u) (l0 := zero24) (h := h.put n (.cells (some 99) (u8s zero24) 24)) (by omega) hb (by omega) rfl (by rw [AHeap.get_put_same]) (by omega) ?_
    intro l' h' hl' hd' ⟨ho, hc⟩
    have htk : List.take (1 + ndig u) (.int .u8 45 :: (u8s l').tail) = u8s (45 :: decs u) := by
      cases l' with
      | nil => simp at hl'
      | cons a l' =>
        simp only [List.drop_succ_cons, List.drop_zero] at hd'
        rw [u8s_cons, List.tail_cons, Nat.add_comm 1, List.take_succ_cons, u8s_take, hd']; rfl
    have hsub : HSub h h' := fun i b hb => by
      have hne : ¬ i = n := fun e => by rw [e, hw n (Nat.le_refl n)] at hb; cases hb
      rw [ho i hne, AHeap.get_put_ne _ _ (fun e => hne e.symm)]; exact hb
    simp -dsimp (discharger := omega) [hc, hl', htk, e1, et]
    exact hsub.new hw (Nat.le_refl n) _
  · obtain ⟨u, rfl⟩ : ∃ u : Nat, i = (u : Int) := ⟨i.toNat, by omega⟩
    have et : itoaL (u : Int) = decs u := by rw [itoaL, if_neg c1]; simp
    rw [et]
    by_cases c2 : u < 100
    · simp -dsimp (discharger := omega) [B54]
      with_reducible refine call_ret (small_ret c2) ?_
      rw [decL_decs c2]
      simp -dsimp (discharger := omega) []
      exact .refl _
    · have hnd := ndig_le20 (u := u) (by omega)
      have hb := (ndig_bounds u).1
      simp -dsimp (discharger := omega) [B54]
      with_reducible refine call_ret (numDigits_ret (by omega) (by omega) (hp.put hn _)) ?_
      have e1 : (1 + (ndig u : Int)).toNat = 1 + ndig u := by omega
      have e2 : 1 + ndig u - 1 = ndig u := by omega
      simp -dsimp (discharger := omega) [e1, e2]
      rw [← zero24_u]
      with_reducible refine fmt_call (ty := 99) (n := n + 1) (z := n) (o := 1) (N := ndig u) (u0 := u) (l0 := zero24) (h := h.put n (.cells (some 99) (u8s zero24) 24)) (by omega) hb (by omega) rfl (by rw [AHeap.get_put_same]) (by omega) ?_
      intro l' h' hl' hd' ⟨ho, hc⟩
      have hsub : HSub h h' := fun i b hb => by
        have hne : ¬ i = n := fun e => by rw [e, hw n (Nat.le_refl n)] at hb; cases hb
        rw [ho i hne, AHeap.get_put_ne _ _ (fun e => hne e.symm)]; exact hb
      have htk : List.take (ndig u) (u8s l').tail = u8s (decs u) := by
        rw [← List.drop_one, u8s_drop, u8s_take, hd']; rfl
      simp -dsimp (discharger := omega) [AHeap.read_of hc, hl', htk, e1]
      exact hsub
theorem itoaI_ret {i : Int} (h0 : -9223372036854775808 ≤ i) (h1 : i < 9223372036854775808) {h : AHeap} {n : Nat} (hp : HasPow h) (hw : WF h n) (hn : 4096 ≤ n) : Ret EV14 27 [.int .i64 i] h n (.string ⟨(itoaL i).toArray⟩) [] (n + 1) := by
  refine rsx27 (by simp) (by simp) ?_
  simp -dsimp (discharger := omega) [B27]
  with_reducible refine inl43 ?_
  simp -dsimp (discharger := omega) [B43]
  with_reducible refine call_ret (formatInt_ret h0 h1 hp hw hn) ?_
  simp -dsimp (discharger := omega) []
  exact .refl _
theorem itoaL_nat (u : Nat) : itoaL (u : Int) = decs u := by rw [itoaL, if_neg (by omega)]; simp
theorem itoaN_ret {u : Nat} (h1 : u < 9223372036854775808) {h : AHeap} {n : Nat} (hp : HasPow h) (hw : WF h n) (hn : 4096 ≤ n) : Ret EV14 27 [.int .i64 (u : Int)] h n (.string ⟨(decs u).toArray⟩) [] (n + 1) := by
  have := itoaI_ret (i := (u : Int)) (by omega) (by omega) hp hw hn
  rwa [itoaL_nat] at this
end
end Go.Proofs.YtbgjcoochdljfaaDoorR.Am
