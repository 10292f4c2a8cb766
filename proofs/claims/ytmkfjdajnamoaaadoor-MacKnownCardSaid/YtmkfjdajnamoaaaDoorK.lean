/- Calls that are known by evaluation (K). -/
import Derived.Test.YtmkfjdajnamoaaaDoorS
import Derived.Test.YtmkfjdajnamoaaaDoorD7
namespace Go.Proofs.YtmkfjdajnamoaaaDoor.Am
noncomputable section
open Go.Proofs Go.RowKit

def E02 : EEnv := mkEnv fs02 ps02
def e_p0 : Ent := ⟨9, [(.string ⟨#[]⟩)], 100000, (.tuple #[(.agg #[(.int .u8 0), (.int .u8 0), (.int .u8 0), (.int .u8 0), (.int .u8 0), (.int .u8 0)]), (.int .i64 5)]), 100003⟩
theorem e_p0_ok : EntOk E02.env e_p0 := ent_of_run (mkEnv_kept _ _) (k := 100000) (by kernel_rfl)
def e_p1 : Ent := ⟨9, [(.string ⟨#[48, 48, 58, 48, 48, 58, 48, 48, 58, 48, 48, 58, 48, 48]⟩)], 200000, (.tuple #[(.agg #[(.int .u8 0), (.int .u8 0), (.int .u8 0), (.int .u8 0), (.int .u8 0), (.int .u8 0)]), (.int .i64 5)]), 200003⟩
theorem e_p1_ok : EntOk E02.env e_p1 := ent_of_run (mkEnv_kept _ _) (k := 100000) (by kernel_rfl)
def e_p2 : Ent := ⟨9, [(.string ⟨#[48, 48, 58, 48, 48, 58, 48, 48, 58, 48, 48, 58, 48, 48, 58, 48, 48, 58, 48, 48]⟩)], 300000, (.tuple #[(.agg #[(.int .u8 0), (.int .u8 0), (.int .u8 0), (.int .u8 0), (.int .u8 0), (.int .u8 0)]), (.int .i64 5)]), 300003⟩
theorem e_p2_ok : EntOk E02.env e_p2 := ent_of_run (mkEnv_kept _ _) (k := 100000) (by kernel_rfl)
def e_p3 : Ent := ⟨9, [(.string ⟨#[48, 58, 48, 48, 58, 48, 48, 58, 48, 48, 58, 48, 48, 58, 48, 48, 48]⟩)], 400000, (.tuple #[(.agg #[(.int .u8 0), (.int .u8 0), (.int .u8 0), (.int .u8 0), (.int .u8 0), (.int .u8 0)]), (.int .i64 5)]), 400003⟩
theorem e_p3_ok : EntOk E02.env e_p3 := ent_of_run (mkEnv_kept _ _) (k := 100000) (by kernel_rfl)
def e_p4 : Ent := ⟨9, [(.string ⟨#[48, 48, 45, 48, 48, 45, 48, 48, 45, 48, 48, 45, 48, 48, 45, 48, 48]⟩)], 500000, (.tuple #[(.agg #[(.int .u8 0), (.int .u8 0), (.int .u8 0), (.int .u8 0), (.int .u8 0), (.int .u8 0)]), (.int .i64 5)]), 500003⟩
theorem e_p4_ok : EntOk E02.env e_p4 := ent_of_run (mkEnv_kept _ _) (k := 100000) (by kernel_rfl)
def e_p5 : Ent := ⟨9, [(.string ⟨#[48, 48, 58, 48, 48, 58, 48, 48, 58, 48, 48, 58, 48, 48, 58, 48, 103]⟩)], 600000, (.tuple #[(.agg #[(.int .u8 0), (.int .u8 0), (.int .u8 0), (.int .u8 0), (.int .u8 0), (.int .u8 0)]), (.int .i64 5)]), 600003⟩
theorem e_p5_ok : EntOk E02.env e_p5 := ent_of_run (mkEnv_kept _ _) (k := 100000) (by kernel_rfl)
def e_p6 : Ent := ⟨9, [(.string ⟨#[48, 48, 58, 48, 48, 58, 48, 48, 58, 48, 48, 58, 48, 48, 58, 48, 32]⟩)], 700000, (.tuple #[(.agg #[(.int .u8 0), (.int .u8 0), (.int .u8 0), (.int .u8 0), (.int .u8 0), (.int .u8 0)]), (.int .i64 5)]), 700003⟩
theorem e_p6_ok : EntOk E02.env e_p6 := ent_of_run (mkEnv_kept _ _) (k := 100000) (by kernel_rfl)
def e_p7 : Ent := ⟨9, [(.string ⟨#[32, 48, 58, 48, 48, 58, 48, 48, 58, 48, 48, 58, 48, 48, 58, 48, 48]⟩)], 800000, (.tuple #[(.agg #[(.int .u8 0), (.int .u8 0), (.int .u8 0), (.int .u8 0), (.int .u8 0), (.int .u8 0)]), (.int .i64 5)]), 800003⟩
theorem e_p7_ok : EntOk E02.env e_p7 := ent_of_run (mkEnv_kept _ _) (k := 100000) (by kernel_rfl)
def e_p8 : Ent := ⟨9, [(.string ⟨#[48, 120, 58, 48, 48, 58, 48, 48, 58, 48, 48, 58, 48, 48, 58, 48, 48]⟩)], 900000, (.tuple #[(.agg #[(.int .u8 0), (.int .u8 0), (.int .u8 0), (.int .u8 0), (.int .u8 0), (.int .u8 0)]), (.int .i64 5)]), 900003⟩
theorem e_p8_ok : EntOk E02.env e_p8 := ent_of_run (mkEnv_kept _ _) (k := 100000) (by kernel_rfl)
def e_p9 : Ent := ⟨9, [(.string ⟨#[48, 48, 58, 48, 48, 58, 48, 48, 58, 48, 48, 58, 48, 48, 58, 49, 48, 0]⟩)], 1000000, (.tuple #[(.agg #[(.int .u8 0), (.int .u8 0), (.int .u8 0), (.int .u8 0), (.int .u8 0), (.int .u8 0)]), (.int .i64 5)]), 1000003⟩
theorem e_p9_ok : EntOk E02.env e_p9 := ent_of_run (mkEnv_kept _ _) (k := 100000) (by kernel_rfl)
def e_p10 : Ent := ⟨9, [(.string ⟨#[16, 16, 58, 48, 48, 58, 48, 48, 58, 48, 48, 58, 48, 48, 58, 48, 48]⟩)], 1100000, (.tuple #[(.agg #[(.int .u8 0), (.int .u8 0), (.int .u8 0), (.int .u8 0), (.int .u8 0), (.int .u8 0)]), (.int .i64 5)]), 1100003⟩
theorem e_p10_ok : EntOk E02.env e_p10 := ent_of_run (mkEnv_kept _ _) (k := 100000) (by kernel_rfl)
def e_q0 : Ent := ⟨11, [(.string ⟨#[48, 48, 58, 48, 48, 58, 48, 48, 58, 48, 48, 58, 48, 48, 58, 48, 48, 47]⟩)], 1200000, (.tuple #[(.agg #[(.int .u8 0), (.int .u8 0), (.int .u8 0), (.int .u8 0), (.int .u8 0), (.int .u8 0), (.int .u8 0), (.int .u8 0), (.int .u8 0), (.int .u8 0), (.int .u8 0), (.int .u8 0)]), (.int .i64 5)]), 1200011⟩
theorem e_q0_ok : EntOk E02.env e_q0 := ent_of_run (mkEnv_kept _ _) (k := 100000) (by kernel_rfl)
def e_q1 : Ent := ⟨11, [(.string ⟨#[48, 48, 58, 48, 48, 58, 48, 48, 58, 48, 48, 58, 48, 48, 58, 48, 48, 47, 52, 57]⟩)], 1300000, (.tuple #[(.agg #[(.int .u8 0), (.int .u8 0), (.int .u8 0), (.int .u8 0), (.int .u8 0), (.int .u8 0), (.int .u8 0), (.int .u8 0), (.int .u8 0), (.int .u8 0), (.int .u8 0), (.int .u8 0)]), (.int .i64 24)]), 1300011⟩
theorem e_q1_ok : EntOk E02.env e_q1 := ent_of_run (mkEnv_kept _ _) (k := 100000) (by kernel_rfl)
def e_q2 : Ent := ⟨11, [(.string ⟨#[48, 48, 58, 48, 48, 58, 48, 48, 58, 48, 48, 58, 48, 48, 58, 48, 48, 47, 49, 48, 48]⟩)], 1400000, (.tuple #[(.agg #[(.int .u8 0), (.int .u8 0), (.int .u8 0), (.int .u8 0), (.int .u8 0), (.int .u8 0), (.int .u8 0), (.int .u8 0), (.int .u8 0), (.int .u8 0), (.int .u8 0), (.int .u8 0)]), (.int .i64 5)]), 1400013⟩
theorem e_q2_ok : EntOk E02.env e_q2 := ent_of_run (mkEnv_kept _ _) (k := 100000) (by kernel_rfl)
def e_q3 : Ent := ⟨11, [(.string ⟨#[48, 48, 58, 48, 48, 58, 48, 48, 58, 48, 48, 58, 48, 48, 58, 48, 48, 47, 45, 49]⟩)], 1500000, (.tuple #[(.agg #[(.int .u8 0), (.int .u8 0), (.int .u8 0), (.int .u8 0), (.int .u8 0), (.int .u8 0), (.int .u8 0), (.int .u8 0), (.int .u8 0), (.int .u8 0), (.int .u8 0), (.int .u8 0)]), (.int .i64 5)]), 1500011⟩
theorem e_q3_ok : EntOk E02.env e_q3 := ent_of_run (mkEnv_kept _ _) (k := 100000) (by kernel_rfl)
def e_q4 : Ent := ⟨11, [(.string ⟨#[48, 48, 58, 48, 48, 58, 48, 48, 58, 48, 48, 58, 48, 48, 58, 48, 48, 47, 52, 56]⟩)], 1600000, (.tuple #[(.agg #[(.int .u8 0), (.int .u8 0), (.int .u8 0), (.int .u8 0), (.int .u8 0), (.int .u8 0), (.int .u8 255), (.int .u8 255), (.int .u8 255), (.int .u8 255), (.int .u8 255), (.int .u8 255)]), (.int .i64 0)]), 1600021⟩
theorem e_q4_ok : EntOk E02.env e_q4 := ent_of_run (mkEnv_kept _ _) (k := 100000) (by kernel_rfl)
def e_q5 : Ent := ⟨11, [(.string ⟨#[48, 48, 58, 48, 48, 58, 48, 48, 58, 48, 48, 58, 48, 48, 58, 48, 48, 47, 48]⟩)], 1700000, (.tuple #[(.agg #[(.int .u8 0), (.int .u8 0), (.int .u8 0), (.int .u8 0), (.int .u8 0), (.int .u8 0), (.int .u8 0), (.int .u8 0), (.int .u8 0), (.int .u8 0), (.int .u8 0), (.int .u8 0)]), (.int .i64 0)]), 1700021⟩
theorem e_q5_ok : EntOk E02.env e_q5 := ent_of_run (mkEnv_kept _ _) (k := 100000) (by kernel_rfl)
def e_q6 : Ent := ⟨11, [(.string ⟨#[48, 48, 58, 48, 48, 58, 48, 48, 58, 48, 48, 58, 48, 48, 58, 48, 48, 47, 48, 48]⟩)], 1800000, (.tuple #[(.agg #[(.int .u8 0), (.int .u8 0), (.int .u8 0), (.int .u8 0), (.int .u8 0), (.int .u8 0), (.int .u8 0), (.int .u8 0), (.int .u8 0), (.int .u8 0), (.int .u8 0), (.int .u8 0)]), (.int .i64 0)]), 1800021⟩
theorem e_q6_ok : EntOk E02.env e_q6 := ent_of_run (mkEnv_kept _ _) (k := 100000) (by kernel_rfl)
def e_q7 : Ent := ⟨11, [(.string ⟨#[48, 48, 58, 48, 48, 58, 48, 48, 58, 48, 48, 58, 48, 48, 58, 48, 48, 47, 48, 48, 58, 48, 48, 58, 48, 48, 58, 48, 48, 58, 48, 48, 58, 48, 48]⟩)], 1900000, (.tuple #[(.agg #[(.int .u8 0), (.int .u8 0), (.int .u8 0), (.int .u8 0), (.int .u8 0), (.int .u8 0), (.int .u8 0), (.int .u8 0), (.int .u8 0), (.int .u8 0), (.int .u8 0), (.int .u8 0)]), (.int .i64 0)]), 1900020⟩
theorem e_q7_ok : EntOk E02.env e_q7 := ent_of_run (mkEnv_kept _ _) (k := 100000) (by kernel_rfl)
def e_q8 : Ent := ⟨11, [(.string ⟨#[48, 48, 58, 48, 48, 58, 48, 48, 58, 48, 48, 58, 48, 48, 58, 48, 48, 47, 49, 47, 50]⟩)], 2000000, (.tuple #[(.agg #[(.int .u8 0), (.int .u8 0), (.int .u8 0), (.int .u8 0), (.int .u8 0), (.int .u8 0), (.int .u8 0), (.int .u8 0), (.int .u8 0), (.int .u8 0), (.int .u8 0), (.int .u8 0)]), (.int .i64 5)]), 2000013⟩
theorem e_q8_ok : EntOk E02.env e_q8 := ent_of_run (mkEnv_kept _ _) (k := 100000) (by kernel_rfl)
def e_q9 : Ent := ⟨11, [(.string ⟨#[47, 56]⟩)], 2100000, (.tuple #[(.agg #[(.int .u8 0), (.int .u8 0), (.int .u8 0), (.int .u8 0), (.int .u8 0), (.int .u8 0), (.int .u8 0), (.int .u8 0), (.int .u8 0), (.int .u8 0), (.int .u8 0), (.int .u8 0)]), (.int .i64 5)]), 2100005⟩
theorem e_q9_ok : EntOk E02.env e_q9 := ent_of_run (mkEnv_kept _ _) (k := 100000) (by kernel_rfl)
def e_q10 : Ent := ⟨11, [(.string ⟨#[48, 48, 58, 48, 48, 58, 48, 48, 58, 48, 48, 58, 48, 48, 58, 48, 48, 120]⟩)], 2200000, (.tuple #[(.agg #[(.int .u8 0), (.int .u8 0), (.int .u8 0), (.int .u8 0), (.int .u8 0), (.int .u8 0), (.int .u8 0), (.int .u8 0), (.int .u8 0), (.int .u8 0), (.int .u8 0), (.int .u8 0)]), (.int .i64 5)]), 2200005⟩
theorem e_q10_ok : EntOk E02.env e_q10 := ent_of_run (mkEnv_kept _ _) (k := 100000) (by kernel_rfl)
def e_q11 : Ent := ⟨11, [(.string ⟨#[102, 102, 58, 102, 102, 58, 102, 102, 58, 102, 102, 58, 102, 102, 58, 102, 102, 47, 48, 102, 58, 48, 48, 58, 48, 48, 58, 48, 48, 58, 48, 48, 58, 48, 49]⟩)], 2300000, (.tuple #[(.agg #[(.int .u8 15), (.int .u8 0), (.int .u8 0), (.int .u8 0), (.int .u8 0), (.int .u8 1), (.int .u8 15), (.int .u8 0), (.int .u8 0), (.int .u8 0), (.int .u8 0), (.int .u8 1)]), (.int .i64 0)]), 2300020⟩
theorem e_q11_ok : EntOk E02.env e_q11 := ent_of_run (mkEnv_kept _ _) (k := 100000) (by kernel_rfl)
def e_text : Ent := ⟨21, [(.agg #[.int .u8 15, .int .u8 0, .int .u8 0, .int .u8 0, .int .u8 0, .int .u8 1, .int .u8 15, .int .u8 0, .int .u8 0, .int .u8 0, .int .u8 0, .int .u8 1])], 2400000, (.string ⟨#[48, 102, 58, 48, 48, 58, 48, 48, 58, 48, 48, 58, 48, 48, 58, 48, 49, 47, 48, 102, 58, 48, 48, 58, 48, 48, 58, 48, 48, 58, 48, 48, 58, 48, 49]⟩), 2400195⟩
theorem e_text_ok : EntOk E02.env e_text := ent_of_run (mkEnv_kept _ _) (k := 100000) (by kernel_rfl)
def e_tells : Ent := ⟨13, [], 100000000, (.bool true), 100000205⟩
theorem e_tells_ok : EntOk E02.env e_tells := ent_of_run (mkEnv_kept _ _) (k := 100000) (by kernel_rfl)

def tb02 : List Ent := [e_p0, e_p1, e_p2, e_p3, e_p4, e_p5, e_p6, e_p7, e_p8, e_p9, e_p10, e_q0, e_q1, e_q2, e_q3, e_q4, e_q5, e_q6, e_q7, e_q8, e_q9, e_q10, e_q11, e_text, e_tells]
theorem tb02_ok : ∀ e, e ∈ tb02 → EntOk E02.env e := by
  simp only [tb02, List.mem_cons, List.not_mem_nil, or_false]
  rintro e (rfl | rfl | rfl | rfl | rfl | rfl | rfl | rfl | rfl | rfl | rfl | rfl | rfl | rfl | rfl | rfl | rfl | rfl | rfl | rfl | rfl | rfl | rfl | rfl | rfl)
  · exact e_p0_ok
  · exact e_p1_ok
  · exact e_p2_ok
  · exact e_p3_ok
  · exact e_p4_ok
  · exact e_p5_ok
  · exact e_p6_ok
  · exact e_p7_ok
  · exact e_p8_ok
  · exact e_p9_ok
  · exact e_p10_ok
  · exact e_q0_ok
  · exact e_q1_ok
  · exact e_q2_ok
  · exact e_q3_ok
  · exact e_q4_ok
  · exact e_q5_ok
  · exact e_q6_ok
  · exact e_q7_ok
  · exact e_q8_ok
  · exact e_q9_ok
  · exact e_q10_ok
  · exact e_q11_ok
  · exact e_text_ok
  · exact e_tells_ok
def isTrueOut : Option Out → Bool
  | some (.bool true, _) => true
  | _ => false
theorem big_of_run {f : Nat} {args : List Value} {h : AHeap} {n k : Nat} (he : isTrueOut (evCall (tabEnv E02 [9, 11, 21, 13] tb02) (codeK (tabEnv E02 [9, 11, 21, 13] tb02) k) f args h n) = true) : ∃ h' n', Big E02.env (.call f args h n (.bool true) h' n') := by
  have hk : codeK (tabEnv E02 [9, 11, 21, 13] tb02) k = evCode (tabEnv E02 [9, 11, 21, 13] tb02) k := funext fun c => funext fun σ => funext fun h => funext fun n => codeK_eq _ k c σ h n
  rw [hk] at he
  unfold isTrueOut at he
  split at he
  · rename_i q hq
    obtain ⟨h', n', log⟩ := q
    exact ⟨h', n', tabEnv_big tb02_ok (evCall_big (tabEnv_kept (mkEnv_kept _ _) tb02_ok) (evCode_big (tabEnv_kept (mkEnv_kept _ _) tb02_ok) k) _ _ _ _ _ _ _ _ hq).1⟩
  · cases he
theorem run6 : isTrueOut (evCall (tabEnv E02 [9, 11, 21, 13] tb02) (codeK (tabEnv E02 [9, 11, 21, 13] tb02) 100000) 6 [] (heap0 []) 4097) = true := by kernel_rfl
theorem known_call {W : World} : Calls Tryd.prog 6 #[] W fun e W' => e = .returned (.bool true) ∧ Below W.heap.size W W' := by
  obtain ⟨h', n', hb⟩ := big_of_run run6
  have := run_call (s := []) (w := W) mixed02 fs02_at ps02_at (fun p hp => by cases hp) Tryd.func6 (by kernel_rfl) (by kernel_rfl) (n := 4097) (by decide) (fun p hp => by cases hp) (args := []) (cargs := []) .nil hb
  refine this.mono fun e W' ⟨u, φ', he, hu, hbel⟩ => ?_
  exact ⟨by rw [he, hu.eq_of_scalar rfl], hbel⟩
end
end Go.Proofs.YtmkfjdajnamoaaaDoor.Am
