/- Calls that are known by evaluation (K). -/
import Derived.Test.YtkdpjaaohddppaaDoorS
import Derived.Test.YtkdpjaaohddppaaDoorD7b
import GoSem.PinnedTables
namespace Go.Proofs.YtkdpjaaohddppaaDoor.Am
noncomputable section
open Go.Proofs Go.RowKit
/- KNOWN CALLS of chapter 11: wakes. -/
def powT : List Value := (List.range 20).map fun k => .int .u64 ((10 ^ k : Nat) : Int)
def p10 : List Value := Pinned.pow10Rows.flatMap fun x => [.int .u64 x.1, .int .u64 x.2]
def hI : AHeap := [(1, .cells none [.float .f64 9218868437227405312] 0), (2, .cells none [.bool true] 0), (3, .cells none powT 0), (4, .cells none p10 0)]
def e_wk : Ent := ⟨18, [], 6000000000, (.bool true), 6000000084⟩
theorem e_wk_ok : EntOkH (mkEnv fs11 ps11).env hI e_wk := entH_of_tab (mkEnv_kept _ _) (tb := []) (fun e he => by cases he) (off := []) (k := 100000) (by kernel_rfl)
end
end Go.Proofs.YtkdpjaaohddppaaDoor.Am
