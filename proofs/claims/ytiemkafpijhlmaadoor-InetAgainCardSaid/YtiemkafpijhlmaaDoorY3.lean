/- Contracts of the program's functions (Y3). -/
import Derived.Test.YtiemkafpijhlmaaDoorX1
namespace Go.Proofs.YtiemkafpijhlmaaDoor.Am
noncomputable section
/- CONTRACTS: what the chapter's rows tell. -/
def tellS : List UInt8 := [49, 48, 46, 49, 46, 50, 46, 51, 47, 56]
theorem tell_pf : pfE tellS = 0 ∧ pfBits tellS = 8 ∧ pfIp tellS = 167772160 := by decide +kernel
theorem tell_tx : pfT 167772160 8 = [49, 48, 46, 48, 46, 48, 46, 48, 47, 56] := by
  have e : clampN 8 = 8 := rfl
  unfold pfT
  rw [e]
  have m : maskd 167772160 8 = 167772160 := by decide
  rw [m]
  have d10 : decs 10 = [49, 48] := by rw [← decL_decs (by omega)]; rfl
  have d0 : decs 0 = [48] := by rw [← decL_decs (by omega)]; rfl
  have d8 : decs 8 = [56] := by rw [← decL_decs (by omega)]; rfl
  have e2 : ipT 167772160 = decs 10 ++ 46 :: (decs 0 ++ 46 :: (decs 0 ++ 46 :: decs 0)) := rfl
  rw [e2, d10, d0, d8]
  rfl
def tellB : List UInt8 := [0, 1, 242, 3, 244, 245, 246, 247]
theorem tell_sum : sumN tellB = 8717 := by decide
theorem tells_ret {h : AHeap} {n : Nat} (hw : WF h n) (hp : HasPow h) (he : HasErrs h) (hn : 4096 ≤ n) : Ret EV06 19 [] h n (.bool true) [] (n + 100) := by
  obtain ⟨e1, e2, e3⟩ := tell_pf
  have h1 := parsePrefix_ret (s := tellS) (by decide) hw hp he hn
  rw [e1, e2, e3] at h1
  have h1 : Ret EV06 11 [.string ⟨#[49, 48, 46, 49, 46, 50, 46, 51, 47, 56]⟩] h n (.tuple #[.agg #[.int .u32 167772160, .int .i64 8], .int .i64 0]) [] (n + 30) := h1
  refine rsx19 (by simp) (by simp) ?_
  simp -dsimp (discharger := omega) [B19]
  with_reducible refine call_ret h1 ?_
  simp -dsimp (discharger := omega) [aFill]
  have h2 : ∀ {H : AHeap} {k m : Nat}, H.get k = some (bufB tellB 8) → Ret EV06 23 [.slice (some ⟨k, 0, some 8⟩) 8 2] H m (.int .u16 8717) [] m := fun {H k m} hk => by
    have := sum_ret (bs := tellB) (by decide) (bs_new hk (by decide)) (n := m)
    rw [tell_sum] at this
    exact this
  have hT : ∀ {H : AHeap} {k : Nat}, WF H k → HasPow H → 4096 ≤ k → Ret EV06 15 [.agg #[.int .u32 167772160, .int .i64 8]] H k (.string ⟨#[49, 48, 46, 48, 46, 48, 46, 48, 47, 56]⟩) [] (k + 32) := fun a b c => by
    have := ptext_ret (a := 167772160) (by omega) 8 (by omega) (by omega) a b c
    rw [tell_tx] at this
    exact this
  with_reducible refine call_ret (h2 (by simp [bufB, u8s, tellB])) ?_
  simp -dsimp (discharger := omega) []
  with_reducible refine call_ret (hT (.of fun j hj => by simp (discharger := omega) [hw.none (i := j) (by omega)]) (by (repeat (refine HasPow.put ?_ (by omega) _)); exact hp) (by omega)) ?_
  simp -dsimp (discharger := omega) []
  repeat (refine HSub.new ?_ hw (by omega) _)
  exact .refl _
end
end Go.Proofs.YtiemkafpijhlmaaDoor.Am
