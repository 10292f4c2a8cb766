/- Calls that are known by evaluation (K65b). -/
import Derived.Test.YtmmcnholpnediaaGreatDoorS
import Derived.Test.YtmmcnholpnediaaGreatDoorD7b
import Derived.Test.YtmmcnholpnediaaGreatDoorLM
namespace Go.Proofs.YtmmcnholpnediaaGreatDoor.Am
noncomputable section
open Go.Proofs Go.RowKit
/- KNOWN CALLS on the empty word. -/
def f_c1 : Ent := ⟨43, [(.string ⟨#[]⟩), (.string ⟨#[47]⟩)], 1000000, (.tuple #[(.string ⟨#[]⟩), (.string ⟨#[]⟩), (.bool false)]), 1000000⟩
theorem f_c1_ok : EntOkH (mkEnv fs65 ps65).env [] f_c1 := entH_of_tab (mkEnv_kept _ _) (tb := []) (fun e he => by cases he) (off := []) (k := 100000) (by kernel_rfl)
def f_i1 : Ent := ⟨64, [(.string ⟨#[]⟩)], 2000000, (.tuple #[(.int .u32 0), (.int .i64 5)]), 2000001⟩
theorem f_i1_ok : EntOkH (mkEnv fs65 ps65).env [] f_i1 := entH_of_tab (mkEnv_kept _ _) (tb := []) (fun e he => by cases he) (off := []) (k := 100000) (by kernel_rfl)
def f_c2 : Ent := ⟨43, [(.string ⟨#[]⟩), (.string ⟨#[45]⟩)], 3000000, (.tuple #[(.string ⟨#[]⟩), (.string ⟨#[]⟩), (.bool false)]), 3000000⟩
theorem f_c2_ok : EntOkH (mkEnv fs65 ps65).env [] f_c2 := entH_of_tab (mkEnv_kept _ _) (tb := []) (fun e he => by cases he) (off := []) (k := 100000) (by kernel_rfl)
def f_i2 : Ent := ⟨64, [(.string ⟨#[]⟩)], 4000000, (.tuple #[(.int .u32 0), (.int .i64 5)]), 4000001⟩
theorem f_i2_ok : EntOkH (mkEnv fs65 ps65).env [] f_i2 := entH_of_tab (mkEnv_kept _ _) (tb := []) (fun e he => by cases he) (off := []) (k := 100000) (by kernel_rfl)
def f_rp : Ent := ⟨76, [(.string ⟨#[]⟩)], 5000000, (.tuple #[(.float .f64 0), (.int .i64 5)]), 5000000⟩
theorem f_rp_ok : EntOkH (mkEnv fs65 ps65).env [] f_rp := entH_of_tab (mkEnv_kept _ _) (tb := []) (fun e he => by cases he) (off := []) (k := 100000) (by kernel_rfl)
def f_nm : Ent := ⟨52, [(.string ⟨#[]⟩)], 6000000, (.tuple #[(.int .i64 0), (.bool false)]), 6000000⟩
theorem f_nm_ok : EntOkH (mkEnv fs65 ps65).env [] f_nm := entH_of_tab (mkEnv_kept _ _) (tb := []) (fun e he => by cases he) (off := []) (k := 100000) (by kernel_rfl)
end
end Go.Proofs.YtmmcnholpnediaaGreatDoor.Am
