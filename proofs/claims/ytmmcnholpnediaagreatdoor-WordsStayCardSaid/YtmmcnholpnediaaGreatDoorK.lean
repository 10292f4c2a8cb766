/- Calls that are known by evaluation (K). -/
import Derived.Test.YtmmcnholpnediaaGreatDoorS
import Derived.Test.YtmmcnholpnediaaGreatDoorD7b
import Derived.Test.YtmmcnholpnediaaGreatDoorLM
namespace Go.Proofs.YtmmcnholpnediaaGreatDoor.Am
noncomputable section
open Go.Proofs Go.RowKit
/- KNOWN CALLS of WordsKnown. -/
def E65 : EEnv := mkEnv fs65 ps65
def hP : AHeap := [(2, .cells none powT 0)]
def e_it0 : Ent := ⟨47, [(.int .i64 255)], 1100000000, (.string ⟨#[50, 53, 53]⟩), 1100000001⟩
def e_it1 : Ent := ⟨47, [(.int .i64 255)], 1100001000, (.string ⟨#[50, 53, 53]⟩), 1100001001⟩
def e_it2 : Ent := ⟨47, [(.int .i64 255)], 1100002000, (.string ⟨#[50, 53, 53]⟩), 1100002001⟩
def e_it3 : Ent := ⟨47, [(.int .i64 255)], 1100003000, (.string ⟨#[50, 53, 53]⟩), 1100003001⟩
def e_it4 : Ent := ⟨47, [(.int .i64 128)], 2100000000, (.string ⟨#[49, 50, 56]⟩), 2100000001⟩
def e_it5 : Ent := ⟨47, [(.int .i64 0)], 2100001000, (.string ⟨#[48]⟩), 2100001001⟩
def e_it6 : Ent := ⟨47, [(.int .i64 0)], 2100002000, (.string ⟨#[48]⟩), 2100002001⟩
def e_it7 : Ent := ⟨47, [(.int .i64 0)], 2100003000, (.string ⟨#[48]⟩), 2100003001⟩
def e_it8 : Ent := ⟨47, [(.int .i64 1)], 2100004000, (.string ⟨#[49]⟩), 2100004001⟩
def e_it9 : Ent := ⟨47, [(.int .i64 0)], 3100000000, (.string ⟨#[48]⟩), 3100000001⟩
def e_it10 : Ent := ⟨47, [(.int .i64 0)], 3100001000, (.string ⟨#[48]⟩), 3100001001⟩
def e_it11 : Ent := ⟨47, [(.int .i64 0)], 3100002000, (.string ⟨#[48]⟩), 3100002001⟩
def e_it12 : Ent := ⟨47, [(.int .i64 0)], 3100003000, (.string ⟨#[48]⟩), 3100003001⟩
def e_it13 : Ent := ⟨47, [(.int .i64 0)], 3100004000, (.string ⟨#[48]⟩), 3100004001⟩
def e_it14 : Ent := ⟨47, [(.int .i64 (-2))], 4100000000, (.string ⟨#[45, 50]⟩), 4100000001⟩
def e_it15 : Ent := ⟨47, [(.int .i64 3)], 4100001000, (.string ⟨#[51]⟩), 4100001001⟩
def e_it16 : Ent := ⟨47, [(.int .i64 3)], 5100000000, (.string ⟨#[51]⟩), 5100000001⟩
def tbI : List Ent := [e_it0, e_it1, e_it2, e_it3, e_it4, e_it5, e_it6, e_it7, e_it8, e_it9, e_it10, e_it11, e_it12, e_it13, e_it14, e_it15, e_it16]
theorem hP_pow : HasPow hP := rfl
theorem hP_wf {n : Nat} (hn : 4096 ≤ n) : WF hP n := fun i hi => by
  simp only [hP, AHeap.get_cons]
  rw [if_neg (by omega)]; rfl
theorem e_it0_ok : EntOkH E65.env hP e_it0 := by
  have h := itoaI_ret (i := 255) (by omega) (by omega) hP_pow (hP_wf (n := 1100000000) (by omega)) (by omega)
  rw [show itoaL (255) = [50, 53, 53] from by decide +kernel] at h
  exact entH_ret h
theorem e_it1_ok : EntOkH E65.env hP e_it1 := by
  have h := itoaI_ret (i := 255) (by omega) (by omega) hP_pow (hP_wf (n := 1100001000) (by omega)) (by omega)
  rw [show itoaL (255) = [50, 53, 53] from by decide +kernel] at h
  exact entH_ret h
theorem e_it2_ok : EntOkH E65.env hP e_it2 := by
  have h := itoaI_ret (i := 255) (by omega) (by omega) hP_pow (hP_wf (n := 1100002000) (by omega)) (by omega)
  rw [show itoaL (255) = [50, 53, 53] from by decide +kernel] at h
  exact entH_ret h
theorem e_it3_ok : EntOkH E65.env hP e_it3 := by
  have h := itoaI_ret (i := 255) (by omega) (by omega) hP_pow (hP_wf (n := 1100003000) (by omega)) (by omega)
  rw [show itoaL (255) = [50, 53, 53] from by decide +kernel] at h
  exact entH_ret h
theorem e_it4_ok : EntOkH E65.env hP e_it4 := by
  have h := itoaI_ret (i := 128) (by omega) (by omega) hP_pow (hP_wf (n := 2100000000) (by omega)) (by omega)
  rw [show itoaL (128) = [49, 50, 56] from by decide +kernel] at h
  exact entH_ret h
theorem e_it5_ok : EntOkH E65.env hP e_it5 := by
  have h := itoaI_ret (i := 0) (by omega) (by omega) hP_pow (hP_wf (n := 2100001000) (by omega)) (by omega)
  rw [show itoaL (0) = [48] from by decide +kernel] at h
  exact entH_ret h
theorem e_it6_ok : EntOkH E65.env hP e_it6 := by
  have h := itoaI_ret (i := 0) (by omega) (by omega) hP_pow (hP_wf (n := 2100002000) (by omega)) (by omega)
  rw [show itoaL (0) = [48] from by decide +kernel] at h
  exact entH_ret h
theorem e_it7_ok : EntOkH E65.env hP e_it7 := by
  have h := itoaI_ret (i := 0) (by omega) (by omega) hP_pow (hP_wf (n := 2100003000) (by omega)) (by omega)
  rw [show itoaL (0) = [48] from by decide +kernel] at h
  exact entH_ret h
theorem e_it8_ok : EntOkH E65.env hP e_it8 := by
  have h := itoaI_ret (i := 1) (by omega) (by omega) hP_pow (hP_wf (n := 2100004000) (by omega)) (by omega)
  rw [show itoaL (1) = [49] from by decide +kernel] at h
  exact entH_ret h
theorem e_it9_ok : EntOkH E65.env hP e_it9 := by
  have h := itoaI_ret (i := 0) (by omega) (by omega) hP_pow (hP_wf (n := 3100000000) (by omega)) (by omega)
  rw [show itoaL (0) = [48] from by decide +kernel] at h
  exact entH_ret h
theorem e_it10_ok : EntOkH E65.env hP e_it10 := by
  have h := itoaI_ret (i := 0) (by omega) (by omega) hP_pow (hP_wf (n := 3100001000) (by omega)) (by omega)
  rw [show itoaL (0) = [48] from by decide +kernel] at h
  exact entH_ret h
theorem e_it11_ok : EntOkH E65.env hP e_it11 := by
  have h := itoaI_ret (i := 0) (by omega) (by omega) hP_pow (hP_wf (n := 3100002000) (by omega)) (by omega)
  rw [show itoaL (0) = [48] from by decide +kernel] at h
  exact entH_ret h
theorem e_it12_ok : EntOkH E65.env hP e_it12 := by
  have h := itoaI_ret (i := 0) (by omega) (by omega) hP_pow (hP_wf (n := 3100003000) (by omega)) (by omega)
  rw [show itoaL (0) = [48] from by decide +kernel] at h
  exact entH_ret h
theorem e_it13_ok : EntOkH E65.env hP e_it13 := by
  have h := itoaI_ret (i := 0) (by omega) (by omega) hP_pow (hP_wf (n := 3100004000) (by omega)) (by omega)
  rw [show itoaL (0) = [48] from by decide +kernel] at h
  exact entH_ret h
theorem e_it14_ok : EntOkH E65.env hP e_it14 := by
  have h := itoaI_ret (i := -2) (by omega) (by omega) hP_pow (hP_wf (n := 4100000000) (by omega)) (by omega)
  rw [show itoaL (-2) = [45, 50] from by decide +kernel] at h
  exact entH_ret h
theorem e_it15_ok : EntOkH E65.env hP e_it15 := by
  have h := itoaI_ret (i := 3) (by omega) (by omega) hP_pow (hP_wf (n := 4100001000) (by omega)) (by omega)
  rw [show itoaL (3) = [51] from by decide +kernel] at h
  exact entH_ret h
theorem e_it16_ok : EntOkH E65.env hP e_it16 := by
  have h := itoaI_ret (i := 3) (by omega) (by omega) hP_pow (hP_wf (n := 5100000000) (by omega)) (by omega)
  rw [show itoaL (3) = [51] from by decide +kernel] at h
  exact entH_ret h
theorem tbI_ok : ∀ e, e ∈ tbI → EntOkH E65.env hP e := by
  intro e he
  simp only [tbI, List.mem_cons, List.not_mem_nil, or_false] at he
  rcases he with rfl | rfl | rfl | rfl | rfl | rfl | rfl | rfl | rfl | rfl | rfl | rfl | rfl | rfl | rfl | rfl | rfl
  · exact e_it0_ok
  · exact e_it1_ok
  · exact e_it2_ok
  · exact e_it3_ok
  · exact e_it4_ok
  · exact e_it5_ok
  · exact e_it6_ok
  · exact e_it7_ok
  · exact e_it8_ok
  · exact e_it9_ok
  · exact e_it10_ok
  · exact e_it11_ok
  · exact e_it12_ok
  · exact e_it13_ok
  · exact e_it14_ok
  · exact e_it15_ok
  · exact e_it16_ok
def e_num0 : Ent := ⟨27, [(.string ⟨#[]⟩)], 100000, (.int .i64 4), 100005⟩
theorem e_num0_ok : EntOkH E65.env hP e_num0 := entH_of_tab (mkEnv_kept _ _) tbI_ok (off := [47]) (k := 100000) (by kernel_rfl)
def e_num1 : Ent := ⟨27, [(.string ⟨#[48]⟩)], 200000, (.int .i64 24), 200010⟩
theorem e_num1_ok : EntOkH E65.env hP e_num1 := entH_of_tab (mkEnv_kept _ _) tbI_ok (off := [47]) (k := 100000) (by kernel_rfl)
def e_num2 : Ent := ⟨27, [(.string ⟨#[48, 49]⟩)], 300000, (.int .i64 5), 300009⟩
theorem e_num2_ok : EntOkH E65.env hP e_num2 := entH_of_tab (mkEnv_kept _ _) tbI_ok (off := [47]) (k := 100000) (by kernel_rfl)
def e_num3 : Ent := ⟨27, [(.string ⟨#[52, 50, 57, 52, 57, 54, 55, 50, 57, 54]⟩)], 400000, (.int .i64 0), 400010⟩
theorem e_num3_ok : EntOkH E65.env hP e_num3 := entH_of_tab (mkEnv_kept _ _) tbI_ok (off := [47]) (k := 100000) (by kernel_rfl)
def e_num4 : Ent := ⟨27, [(.string ⟨#[52, 50, 57, 52, 57, 54, 55, 50, 57, 54, 48]⟩)], 500000, (.int .i64 5), 500007⟩
theorem e_num4_ok : EntOkH E65.env hP e_num4 := entH_of_tab (mkEnv_kept _ _) tbI_ok (off := [47]) (k := 100000) (by kernel_rfl)
def e_num5 : Ent := ⟨27, [(.string ⟨#[43, 49]⟩)], 600000, (.int .i64 5), 600009⟩
theorem e_num5_ok : EntOkH E65.env hP e_num5 := entH_of_tab (mkEnv_kept _ _) tbI_ok (off := [47]) (k := 100000) (by kernel_rfl)
def e_name0 : Ent := ⟨29, [(.string ⟨#[97]⟩)], 700000, (.bool true), 700008⟩
theorem e_name0_ok : EntOkH E65.env hP e_name0 := entH_of_tab (mkEnv_kept _ _) tbI_ok (off := [47]) (k := 100000) (by kernel_rfl)
def e_name1 : Ent := ⟨29, [(.string ⟨#[90, 57, 45, 95]⟩)], 800000, (.bool true), 800008⟩
theorem e_name1_ok : EntOkH E65.env hP e_name1 := entH_of_tab (mkEnv_kept _ _) tbI_ok (off := [47]) (k := 100000) (by kernel_rfl)
def e_name2 : Ent := ⟨29, [(.string ⟨#[57, 97]⟩)], 900000, (.bool false), 900007⟩
theorem e_name2_ok : EntOkH E65.env hP e_name2 := entH_of_tab (mkEnv_kept _ _) tbI_ok (off := [47]) (k := 100000) (by kernel_rfl)
def e_name3 : Ent := ⟨29, [(.string ⟨#[45]⟩)], 1000000, (.bool false), 1000007⟩
theorem e_name3_ok : EntOkH E65.env hP e_name3 := entH_of_tab (mkEnv_kept _ _) tbI_ok (off := [47]) (k := 100000) (by kernel_rfl)
def e_name4 : Ent := ⟨29, [(.string ⟨#[97, 46, 98]⟩)], 1100000, (.bool false), 1100008⟩
theorem e_name4_ok : EntOkH E65.env hP e_name4 := entH_of_tab (mkEnv_kept _ _) tbI_ok (off := [47]) (k := 100000) (by kernel_rfl)
def e_name5 : Ent := ⟨29, [(.string ⟨#[97, 50, 51, 52, 53, 54, 55, 56, 57, 48, 49, 50, 51, 52, 53, 54]⟩)], 1200000, (.bool true), 1200008⟩
theorem e_name5_ok : EntOkH E65.env hP e_name5 := entH_of_tab (mkEnv_kept _ _) tbI_ok (off := [47]) (k := 100000) (by kernel_rfl)
def e_name6 : Ent := ⟨29, [(.string ⟨#[97, 50, 51, 52, 53, 54, 55, 56, 57, 48, 49, 50, 51, 52, 53, 54, 55]⟩)], 1300000, (.bool false), 1300007⟩
theorem e_name6_ok : EntOkH E65.env hP e_name6 := entH_of_tab (mkEnv_kept _ _) tbI_ok (off := [47]) (k := 100000) (by kernel_rfl)
def e_ip0 : Ent := ⟨31, [(.string ⟨#[49, 46, 50, 46, 51]⟩)], 1400000, (.int .i64 5), 1400008⟩
theorem e_ip0_ok : EntOkH E65.env hP e_ip0 := entH_of_tab (mkEnv_kept _ _) tbI_ok (off := [47]) (k := 100000) (by kernel_rfl)
def e_ip1 : Ent := ⟨31, [(.string ⟨#[49, 46, 50, 46, 51, 46, 52, 46, 53]⟩)], 1500000, (.int .i64 5), 1500008⟩
theorem e_ip1_ok : EntOkH E65.env hP e_ip1 := entH_of_tab (mkEnv_kept _ _) tbI_ok (off := [47]) (k := 100000) (by kernel_rfl)
def e_ip2 : Ent := ⟨31, [(.string ⟨#[49, 46, 50, 46, 51, 46, 48, 52]⟩)], 1600000, (.int .i64 5), 1600019⟩
theorem e_ip2_ok : EntOkH E65.env hP e_ip2 := entH_of_tab (mkEnv_kept _ _) tbI_ok (off := [47]) (k := 100000) (by kernel_rfl)
def e_ip3 : Ent := ⟨31, [(.string ⟨#[49, 46, 50, 46, 51, 46, 57, 57, 57, 47, 56]⟩)], 1700000, (.int .i64 24), 1700023⟩
theorem e_ip3_ok : EntOkH E65.env hP e_ip3 := entH_of_tab (mkEnv_kept _ _) tbI_ok (off := [47]) (k := 100000) (by kernel_rfl)
def e_ip4 : Ent := ⟨31, [(.string ⟨#[49, 46, 50, 46, 51, 46, 52, 47, 51, 51]⟩)], 1800000, (.int .i64 24), 1800023⟩
theorem e_ip4_ok : EntOkH E65.env hP e_ip4 := entH_of_tab (mkEnv_kept _ _) tbI_ok (off := [47]) (k := 100000) (by kernel_rfl)
def e_ip5 : Ent := ⟨31, [(.string ⟨#[49, 46, 50, 46, 51, 46, 52, 47]⟩)], 1900000, (.int .i64 5), 1900020⟩
theorem e_ip5_ok : EntOkH E65.env hP e_ip5 := entH_of_tab (mkEnv_kept _ _) tbI_ok (off := [47]) (k := 100000) (by kernel_rfl)
def e_ip6 : Ent := ⟨31, [(.string ⟨#[51, 48, 48, 46, 50, 46, 51, 46, 120]⟩)], 2000000, (.int .i64 5), 2000019⟩
theorem e_ip6_ok : EntOkH E65.env hP e_ip6 := entH_of_tab (mkEnv_kept _ _) tbI_ok (off := [47]) (k := 100000) (by kernel_rfl)
def e_ip7 : Ent := ⟨31, [(.string ⟨#[48, 46, 48, 46, 48, 46, 48, 47, 48]⟩)], 2100000, (.int .i64 0), 2100023⟩
theorem e_ip7_ok : EntOkH E65.env hP e_ip7 := entH_of_tab (mkEnv_kept _ _) tbI_ok (off := [47]) (k := 100000) (by kernel_rfl)
def e_ip8 : Ent := ⟨31, [(.string ⟨#[49, 46, 50, 46, 51, 46, 52, 47, 51, 50]⟩)], 2200000, (.int .i64 0), 2200023⟩
theorem e_ip8_ok : EntOkH E65.env hP e_ip8 := entH_of_tab (mkEnv_kept _ _) tbI_ok (off := [47]) (k := 100000) (by kernel_rfl)
def e_ip9 : Ent := ⟨31, [(.string ⟨#[49, 50, 56, 46, 48, 46, 48, 46, 48, 47, 48]⟩)], 2300000, (.int .i64 24), 2300023⟩
theorem e_ip9_ok : EntOkH E65.env hP e_ip9 := entH_of_tab (mkEnv_kept _ _) tbI_ok (off := [47]) (k := 100000) (by kernel_rfl)
def e_rg0 : Ent := ⟨33, [(.string ⟨#[49, 45, 57]⟩)], 2400000, (.int .i64 0), 2400013⟩
theorem e_rg0_ok : EntOkH E65.env hP e_rg0 := entH_of_tab (mkEnv_kept _ _) tbI_ok (off := [47]) (k := 100000) (by kernel_rfl)
def e_rg1 : Ent := ⟨33, [(.string ⟨#[53]⟩)], 2500000, (.int .i64 0), 2500010⟩
theorem e_rg1_ok : EntOkH E65.env hP e_rg1 := entH_of_tab (mkEnv_kept _ _) tbI_ok (off := [47]) (k := 100000) (by kernel_rfl)
def e_rg2 : Ent := ⟨33, [(.string ⟨#[53, 45, 52]⟩)], 2600000, (.int .i64 24), 2600013⟩
theorem e_rg2_ok : EntOkH E65.env hP e_rg2 := entH_of_tab (mkEnv_kept _ _) tbI_ok (off := [47]) (k := 100000) (by kernel_rfl)
def e_rg3 : Ent := ⟨33, [(.string ⟨#[48, 45, 52]⟩)], 2700000, (.int .i64 24), 2700013⟩
theorem e_rg3_ok : EntOkH E65.env hP e_rg3 := entH_of_tab (mkEnv_kept _ _) tbI_ok (off := [47]) (k := 100000) (by kernel_rfl)
def e_rg4 : Ent := ⟨33, [(.string ⟨#[49, 45, 49, 48]⟩)], 2800000, (.int .i64 24), 2800013⟩
theorem e_rg4_ok : EntOkH E65.env hP e_rg4 := entH_of_tab (mkEnv_kept _ _) tbI_ok (off := [47]) (k := 100000) (by kernel_rfl)
def e_rg5 : Ent := ⟨33, [(.string ⟨#[45, 52]⟩)], 2900000, (.int .i64 5), 2900010⟩
theorem e_rg5_ok : EntOkH E65.env hP e_rg5 := entH_of_tab (mkEnv_kept _ _) tbI_ok (off := [47]) (k := 100000) (by kernel_rfl)
def e_rg6 : Ent := ⟨33, [(.string ⟨#[49, 45, 50, 45, 51]⟩)], 3000000, (.int .i64 5), 3000012⟩
theorem e_rg6_ok : EntOkH E65.env hP e_rg6 := entH_of_tab (mkEnv_kept _ _) tbI_ok (off := [47]) (k := 100000) (by kernel_rfl)
def e_t0 : Ent := ⟨10, [(.int .u32 4294967295)], 1000000000, (.string ⟨#[50, 53, 53, 46, 50, 53, 53, 46, 50, 53, 53, 46, 50, 53, 53]⟩), 1100003004⟩
theorem e_t0_ok : EntOkH E65.env hP e_t0 := entH_of_tab (mkEnv_kept _ _) tbI_ok (off := [47]) (k := 100000) (by kernel_rfl)
def e_t1 : Ent := ⟨12, [(.int .u32 4294967295), (.int .i64 1)], 2000000000, (.string ⟨#[49, 50, 56, 46, 48, 46, 48, 46, 48, 47, 49]⟩), 2100004001⟩
theorem e_t1_ok : EntOkH E65.env hP e_t1 := entH_of_tab (mkEnv_kept _ _) tbI_ok (off := [47]) (k := 100000) (by kernel_rfl)
def e_t2 : Ent := ⟨12, [(.int .u32 5), (.int .i64 (-3))], 3000000000, (.string ⟨#[48, 46, 48, 46, 48, 46, 48, 47, 48]⟩), 3100004001⟩
theorem e_t2_ok : EntOkH E65.env hP e_t2 := entH_of_tab (mkEnv_kept _ _) tbI_ok (off := [47]) (k := 100000) (by kernel_rfl)
def e_t3 : Ent := ⟨14, [(.int .i64 (-2)), (.int .i64 3)], 4000000000, (.string ⟨#[45, 50, 45, 51]⟩), 4100001001⟩
theorem e_t3_ok : EntOkH E65.env hP e_t3 := entH_of_tab (mkEnv_kept _ _) tbI_ok (off := [47]) (k := 100000) (by kernel_rfl)
def e_t4 : Ent := ⟨14, [(.int .i64 3), (.int .i64 3)], 5000000000, (.string ⟨#[51]⟩), 5100000001⟩
theorem e_t4_ok : EntOkH E65.env hP e_t4 := entH_of_tab (mkEnv_kept _ _) tbI_ok (off := [47]) (k := 100000) (by kernel_rfl)
def e_wk : Ent := ⟨16, [], 6000000000, (.bool true), 6000000091⟩
theorem e_wk_ok : EntOkH E65.env hP e_wk := entH_of_tab (mkEnv_kept _ _) tbI_ok (off := [47]) (k := 100000) (by kernel_rfl)
def tbK : List Ent := [e_num0, e_num1, e_num2, e_num3, e_num4, e_num5, e_name0, e_name1, e_name2, e_name3, e_name4, e_name5, e_name6, e_ip0, e_ip1, e_ip2, e_ip3, e_ip4, e_ip5, e_ip6, e_ip7, e_ip8, e_ip9, e_rg0, e_rg1, e_rg2, e_rg3, e_rg4, e_rg5, e_rg6, e_t0, e_t1, e_t2, e_t3, e_t4, e_wk]
theorem tbK_ok : ∀ e, e ∈ tbK → EntOkH E65.env hP e := by
  intro e he
  simp only [tbK, List.mem_cons, List.not_mem_nil, or_false] at he
  rcases he with rfl | rfl | rfl | rfl | rfl | rfl | rfl | rfl | rfl | rfl | rfl | rfl | rfl | rfl | rfl | rfl | rfl | rfl | rfl | rfl | rfl | rfl | rfl | rfl | rfl | rfl | rfl | rfl | rfl | rfl | rfl | rfl | rfl | rfl | rfl | rfl
  · exact e_num0_ok
  · exact e_num1_ok
  · exact e_num2_ok
  · exact e_num3_ok
  · exact e_num4_ok
  · exact e_num5_ok
  · exact e_name0_ok
  · exact e_name1_ok
  · exact e_name2_ok
  · exact e_name3_ok
  · exact e_name4_ok
  · exact e_name5_ok
  · exact e_name6_ok
  · exact e_ip0_ok
  · exact e_ip1_ok
  · exact e_ip2_ok
  · exact e_ip3_ok
  · exact e_ip4_ok
  · exact e_ip5_ok
  · exact e_ip6_ok
  · exact e_ip7_ok
  · exact e_ip8_ok
  · exact e_ip9_ok
  · exact e_rg0_ok
  · exact e_rg1_ok
  · exact e_rg2_ok
  · exact e_rg3_ok
  · exact e_rg4_ok
  · exact e_rg5_ok
  · exact e_rg6_ok
  · exact e_t0_ok
  · exact e_t1_ok
  · exact e_t2_ok
  · exact e_t3_ok
  · exact e_t4_ok
  · exact e_wk_ok
def isTrueOut : Option Out → Bool
  | some (.bool true, _) => true
  | _ => false
theorem big_of_run {f : Nat} {args : List Value} {n k : Nat} (he : isTrueOut (evCall (tabEnvH E65 hP [10, 12, 14, 16, 27, 29, 31, 33] tbK) (codeK (tabEnvH E65 hP [10, 12, 14, 16, 27, 29, 31, 33] tbK) k) f args hP n) = true) : ∃ h' n', Big E65.env (.call f args hP n (.bool true) h' n') := by
  have hk : codeK (tabEnvH E65 hP [10, 12, 14, 16, 27, 29, 31, 33] tbK) k = evCode (tabEnvH E65 hP [10, 12, 14, 16, 27, 29, 31, 33] tbK) k := funext fun c => funext fun σ => funext fun h => funext fun n => codeK_eq _ k c σ h n
  rw [hk] at he
  unfold isTrueOut at he
  split at he
  · rename_i q hq
    obtain ⟨h', n', log⟩ := q
    exact ⟨h', n', tabEnvH_big tbK_ok (evCall_big (tabEnvH_kept (mkEnv_kept _ _) tbK_ok) (evCode_big (tabEnvH_kept (mkEnv_kept _ _) tbK_ok) k) _ _ _ _ _ _ _ _ hq).1⟩
  · cases he
theorem known_run : isTrueOut (evCall (tabEnvH E65 hP [10, 12, 14, 16, 27, 29, 31, 33] tbK) (codeK (tabEnvH E65 hP [10, 12, 14, 16, 27, 29, 31, 33] tbK) 100000) 4 [] hP 4098) = true := by kernel_rfl
end
end Go.Proofs.YtmmcnholpnediaaGreatDoor.Am
