/- Calls that are known by evaluation (K). -/
import Derived.Test.YtmmcnholpnediaaDoorS
import Derived.Test.YtmmcnholpnediaaDoorD7b
namespace Go.Proofs.YtmmcnholpnediaaDoor.Am
noncomputable section
open Go.Proofs Go.RowKit
/- KNOWN CALLS. -/
def asT : List Value := (List.range 256).map fun i => .bool (Nat.beq i 9 || Nat.beq i 32 || Nat.beq i 35)
def f_wk : Ent := ⟨9, [], 6000000000, (.bool true), 6000000091⟩
theorem f_wk_ok : EntOkH (mkEnv fs15 ps15).env [] f_wk := entH_of_tab (mkEnv_kept _ _) (tb := []) (fun e he => by cases he) (off := []) (k := 100000) (by kernel_rfl)
def f_as0 : Ent := ⟨45, [(.string ⟨#[32, 9, 35]⟩)], 10000000, (.tuple #[.agg asT.toArray, .bool true]), 10000001⟩
theorem f_as0_ok : EntOkH (mkEnv fs15 ps15).env [] f_as0 := entH_of_tab (mkEnv_kept _ _) (tb := []) (fun e he => by cases he) (off := []) (k := 100000) (by kernel_rfl)
def f_as1 : Ent := ⟨45, [(.string ⟨#[32, 9, 35]⟩)], 20000000, (.tuple #[.agg asT.toArray, .bool true]), 20000001⟩
theorem f_as1_ok : EntOkH (mkEnv fs15 ps15).env [] f_as1 := entH_of_tab (mkEnv_kept _ _) (tb := []) (fun e he => by cases he) (off := []) (k := 100000) (by kernel_rfl)
def f_as2 : Ent := ⟨45, [(.string ⟨#[32, 9, 35]⟩)], 30000000, (.tuple #[.agg asT.toArray, .bool true]), 30000001⟩
theorem f_as2_ok : EntOkH (mkEnv fs15 ps15).env [] f_as2 := entH_of_tab (mkEnv_kept _ _) (tb := []) (fun e he => by cases he) (off := []) (k := 100000) (by kernel_rfl)
def f_as3 : Ent := ⟨45, [(.string ⟨#[32, 9, 35]⟩)], 40000000, (.tuple #[.agg asT.toArray, .bool true]), 40000001⟩
theorem f_as3_ok : EntOkH (mkEnv fs15 ps15).env [] f_as3 := entH_of_tab (mkEnv_kept _ _) (tb := []) (fun e he => by cases he) (off := []) (k := 100000) (by kernel_rfl)
def f_as4 : Ent := ⟨45, [(.string ⟨#[32, 9, 35]⟩)], 50000000, (.tuple #[.agg asT.toArray, .bool true]), 50000001⟩
theorem f_as4_ok : EntOkH (mkEnv fs15 ps15).env [] f_as4 := entH_of_tab (mkEnv_kept _ _) (tb := []) (fun e he => by cases he) (off := []) (k := 100000) (by kernel_rfl)
def f_as5 : Ent := ⟨45, [(.string ⟨#[32, 9, 35]⟩)], 60000000, (.tuple #[.agg asT.toArray, .bool true]), 60000001⟩
theorem f_as5_ok : EntOkH (mkEnv fs15 ps15).env [] f_as5 := entH_of_tab (mkEnv_kept _ _) (tb := []) (fun e he => by cases he) (off := []) (k := 100000) (by kernel_rfl)
def f_as6 : Ent := ⟨45, [(.string ⟨#[32, 9, 35]⟩)], 70000000, (.tuple #[.agg asT.toArray, .bool true]), 70000001⟩
theorem f_as6_ok : EntOkH (mkEnv fs15 ps15).env [] f_as6 := entH_of_tab (mkEnv_kept _ _) (tb := []) (fun e he => by cases he) (off := []) (k := 100000) (by kernel_rfl)
def f_as7 : Ent := ⟨45, [(.string ⟨#[32, 9, 35]⟩)], 80000000, (.tuple #[.agg asT.toArray, .bool true]), 80000001⟩
theorem f_as7_ok : EntOkH (mkEnv fs15 ps15).env [] f_as7 := entH_of_tab (mkEnv_kept _ _) (tb := []) (fun e he => by cases he) (off := []) (k := 100000) (by kernel_rfl)
theorem as_ret {k : Nat} (hk : k < 8) {h : AHeap} {n : Nat} (hw : WF h n) (hn : n ≤ 10000000 * (k + 1)) : Ret (mkEnv fs15 ps15).env 45 [(.string ⟨#[32, 9, 35]⟩)] h n (.tuple #[.agg asT.toArray, .bool true]) [] (10000000 * (k + 1) + 1) := by
  match k, hk with
  | 0, _ => exact f_as0_ok.ret (n := n) (show n ≤ 10000000 by omega) (fun _ _ h => by cases h) hw
  | 1, _ => exact f_as1_ok.ret (n := n) (show n ≤ 20000000 by omega) (fun _ _ h => by cases h) hw
  | 2, _ => exact f_as2_ok.ret (n := n) (show n ≤ 30000000 by omega) (fun _ _ h => by cases h) hw
  | 3, _ => exact f_as3_ok.ret (n := n) (show n ≤ 40000000 by omega) (fun _ _ h => by cases h) hw
  | 4, _ => exact f_as4_ok.ret (n := n) (show n ≤ 50000000 by omega) (fun _ _ h => by cases h) hw
  | 5, _ => exact f_as5_ok.ret (n := n) (show n ≤ 60000000 by omega) (fun _ _ h => by cases h) hw
  | 6, _ => exact f_as6_ok.ret (n := n) (show n ≤ 70000000 by omega) (fun _ _ h => by cases h) hw
  | 7, _ => exact f_as7_ok.ret (n := n) (show n ≤ 80000000 by omega) (fun _ _ h => by cases h) hw
theorem wk_ret {h : AHeap} {n : Nat} (hw : WF h n) (hn : n ≤ 6000000000) : Ret (mkEnv fs15 ps15).env 9 [] h n (.bool true) [] 6000000091 := f_wk_ok.ret (n := n) (show n ≤ 6000000000 by omega) (fun _ _ h => by cases h) hw
end
end Go.Proofs.YtmmcnholpnediaaDoor.Am
