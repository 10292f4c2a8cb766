/- Calls that are known by evaluation (K). -/
import Derived.Test.YtkdpjaaohddppaaGreatDoorS
import Derived.Test.YtkdpjaaohddppaaGreatDoorD7b
import Derived.Test.YtkdpjaaohddppaaGreatDoorX3
namespace Go.Proofs.YtkdpjaaohddppaaGreatDoor.Am
noncomputable section
open Go.Proofs Go.RowKit
/- KNOWN CALLS: wakes. -/
def hW61 : AHeap := [(1, .cells none [.float .f64 9218868437227405312] 0),(5, .cells none [.bool true] 0),(8, .cells none powT 0),(14, .cells none p10L 0)]
def e_wk61 : Ent := ⟨16,[],1000000000000000000000000,(.bool true),1000000000000000000000084⟩
theorem e_wk61_ok : EntOkH (mkEnv fs61 ps61).env hW61 e_wk61 := entH_of_tab (mkEnv_kept _ _) (tb := []) (fun e he => by cases he) (off := []) (k := 100000) (by kernel_rfl)
end
end Go.Proofs.YtkdpjaaohddppaaGreatDoor.Am
