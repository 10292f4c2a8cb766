/- Contracts of the program's functions (W). -/
import Derived.Test.YtmkfjdajnamoaaaDoorG
import Derived.Test.YtmkfjdajnamoaaaDoorD
namespace Go.Proofs.YtmkfjdajnamoaaaDoor.Am
noncomputable section
/- The closed call of 'tells'. -/
def E02 : EEnv := mkEnv fs02 ps02
theorem tells_run : (isQuiet (.bool true) 100000205 (evCall E02 (codeK E02 100000) 13 [] [] 100000000) && ([] : AHeap).all fun q => Nat.blt q.1 100000000) = true := by kernel_rfl
theorem tells_ret {h : AHeap} {n : Nat} (hn : n ≤ 100000000) (hw : WF h n) : Ret EV02 13 [] h n (.bool true) [] 100000205 :=
  ⟨closed_any (mkEnv_kept _ _) tells_run hn (fun i b hb => by cases hb) (fun i b hb => hw.lt hb), by simp, by simp⟩
end
end Go.Proofs.YtmkfjdajnamoaaaDoor.Am
