/- Contracts of the program's functions (W). -/
import Derived.Test.YtkaibjdogeikbaaDoorX1
import Derived.Test.YtkaibjdogeikbaaDoorD
namespace Go.Proofs.YtkaibjdogeikbaaDoor.Am
noncomputable section
/- The closed call of 'wakes'. -/
def E07 : EEnv := mkEnv fs07 ps07
theorem wakes_run : (isQuiet (.bool true) 10000051 (evCall E07 (codeK E07 100000) 13 [] [(0, .cells none (strsL namesL) 0)] 10000000) && ([(0, .cells none (strsL namesL) 0)] : AHeap).all fun q => Nat.blt q.1 10000000) = true := by kernel_rfl
theorem wakes_ret {h : AHeap} {n : Nat} (hn : n ≤ 10000000) (hw : WF h n) (hnm : HasNames h) : Ret EV07 13 [] h n (.bool true) [] 10000051 :=
  ⟨closed_any (mkEnv_kept _ _) wakes_run hn (fun i b hb => by
    rw [AHeap.get_cons] at hb
    split at hb
    · rename_i e; subst e; cases hb; exact hnm
    · cases hb) (fun i b hb => hw.lt hb), by simp, by simp⟩
end
end Go.Proofs.YtkaibjdogeikbaaDoor.Am
