/- Calls that are known by evaluation (K). -/
import Derived.Test.YtkaibjdogeikbaaDoorS
import Derived.Test.YtkaibjdogeikbaaDoorD6
namespace Go.Proofs.YtkaibjdogeikbaaDoor.Am
noncomputable section
open Go.Proofs Go.RowKit

def E07 : EEnv := mkEnv fs07 ps07
def names07 : List (List UInt8) := [[102, 105, 110], [115, 121, 110], [114, 115, 116], [112, 115, 104], [97, 99, 107], [117, 114, 103], [101, 99, 101], [99, 119, 114]]
def seedNames : Seed := (0, ⟨0, 0, false, 0, 0⟩, .cells none (strs names07) 0)
def seeds07 (b : Nat) (es : List (Value × Value)) : List Seed := [seedNames, (1, ⟨1, 0, false, 0, 0⟩, .cells none [.map (some 4096)] 0), (4096, ⟨b, 0, false, 0, 0⟩, .map es)]
def sums07 : List (Value × Value) := [(.int .u8 6, .int .i64 16), (.int .u8 17, .int .i64 6)]
def sums07' : List (Value × Value) := [(.int .u8 17, .int .i64 6), (.int .u8 6, .int .i64 16)]

theorem gNames : Tryd.prog.globalNamed "toll/trans.names" = some 0 := by kernel_rfl
theorem gSums : Tryd.prog.globalNamed "toll/trans.sums" = some 1 := by kernel_rfl
def laid4 : List (String × DataW Unit) := [("unicode/utf8.acceptRanges", Rows.laid_unicode_utf8_acceptRanges), ("toll/trans.names", Rows.laid_toll_trans_names), ("toll/trans.sums", Rows.laid_toll_trans_sums), ("unicode/utf8.first", Rows.laid_unicode_utf8_first)]
theorem tNames : (Tryd.prog.globals[0]?).map (·.type) = some 80 := by kernel_rfl
theorem tSums : (Tryd.prog.globals[1]?).map (·.type) = some 111 := by kernel_rfl

/-- What the condition gives: the seeds. -/
theorem of_laid07 {W : World} (h : laidMetH Tryd.prog laid4 W) : ∃ b es, (es = sums07 ∨ es = sums07') ∧ ∀ p ∈ seeds07 b es, SeedOk W (seeds07 b es) p := by
  rw [MakeChecks.laidMetH_plain _ _ _ (by kernel_rfl)] at h
  obtain ⟨ps, ⟨_, _, _, _, _, _, _, _, _, _, ⟨g0, t0, cs0, f0, p0, q0, hg0, ht0, hv0, hd0, ⟨g1, t1, cs1, f1, p1, q1, hg1, ht1, hv1, hd1, _, _⟩, _⟩, _⟩, _, _⟩ := h
  obtain rfl := Option.some.inj (gNames.symm.trans hg0)
  obtain rfl := Option.some.inj (gSums.symm.trans hg1)
  obtain rfl := Option.some.inj (tNames.symm.trans ht0)
  obtain rfl := Option.some.inj (tSums.symm.trans ht1)
  have e0 : Rows.laid_toll_trans_names = (.agg (names07.map fun s => .lit (.string s)) : DataW Unit) := rfl
  rw [e0] at hd0
  have hc0 := cells_strs Tryd.underlying80 Tryd.underlying9 (by kernel_rfl) (by kernel_rfl) hd0
  obtain ⟨b, es, clock, hc1, hb, hperm⟩ := map_ints Tryd.underlying111 Tryd.underlying5 Tryd.underlying3 hd1
  have hperm' : (es.toList.map fun x => (x.key, x.val)).Perm sums07 := hperm
  refine ⟨b, es.toList.map fun x => (x.key, x.val), ?_, ?_⟩
  · exact perm_pair hperm'
  · have hblt : b < W.heap.size := by
      rcases Nat.lt_or_ge b W.heap.size with h | h
      · exact h
      · rw [Array.getElem?_eq_none h] at hb; cases hb
    intro p hp
    simp only [seeds07, List.mem_cons, List.not_mem_nil, or_false] at hp
    rcases hp with rfl | rfl | rfl
    · exact seed_cells gNames hv0 hc0 (var?_lt gNames hv0) (by decide) (fun v hv => ⟨v, rfl, by
        obtain ⟨s, _, rfl⟩ := List.mem_map.1 hv
        exact .string _⟩)
    · refine ⟨rfl, var?_lt gSums hv1, fun _ => ⟨rfl, rfl⟩, rfl, Nat.zero_le _, rfl, fun k v hk => ?_⟩
      match k, hk with
      | 0, hk =>
        simp at hk
        subst hk
        refine ⟨.map (some b), ?_, .map 4096 ⟨b, 0, false, 0, 0⟩ rfl⟩
        rw [World.var?_cell gSums hv1 0, ← Array.getElem?_toList, hc1]
        rfl
      | k + 1, hk => simp at hk
    · refine ⟨rfl, hblt, fun h => absurd h (Nat.lt_irrefl 4096), es, clock, hb, by simp, fun k x hk => ?_⟩
      rw [List.getElem?_map] at hk
      obtain ⟨e, he, rfl⟩ := Option.map_eq_some_iff.1 hk
      have hx : (e.key, e.val) ∈ sums07 := hperm'.mem_iff.1 (List.mem_map.2 ⟨e, List.mem_of_getElem? he, rfl⟩)
      refine ⟨e, by rw [← Array.getElem?_toList]; exact he, ?_, rfl, ?_⟩
      · simp only [sums07, List.mem_cons, Prod.mk.injEq, List.not_mem_nil, or_false] at hx
        rcases hx with ⟨h1, _⟩ | ⟨h1, _⟩ <;> rw [h1] <;> rfl
      · simp only [sums07, List.mem_cons, Prod.mk.injEq, List.not_mem_nil, or_false] at hx
        rcases hx with ⟨_, h1⟩ | ⟨_, h1⟩ <;> rw [h1] <;> exact .int _ _

def isTrueOut : Option Out → Bool
  | some (.bool true, _) => true
  | _ => false
theorem big_of_run {f : Nat} {args : List Value} {h : AHeap} {n k : Nat} (he : isTrueOut (evCall E07 (codeK E07 k) f args h n) = true) : ∃ h' n', Big E07.env (.call f args h n (.bool true) h' n') := by
  have hk : codeK E07 k = evCode E07 k := funext fun c => funext fun σ => funext fun h => funext fun n => codeK_eq E07 k c σ h n
  rw [hk] at he
  unfold isTrueOut at he
  split at he
  · rename_i q hq
    obtain ⟨h', n', log⟩ := q
    exact ⟨h', n', (evCall_big (mkEnv_kept _ _) (evCode_big (mkEnv_kept _ _) k) _ _ _ _ _ _ _ _ hq).1⟩
  · cases he
theorem run8a : isTrueOut (evCall E07 (codeK E07 100000) 8 [] (heap0 (seeds07 0 sums07)) 4097) = true := by kernel_rfl
theorem run8b : isTrueOut (evCall E07 (codeK E07 100000) 8 [] (heap0 (seeds07 0 sums07')) 4097) = true := by kernel_rfl

theorem known_call {W : World} (hL : laidMetH Tryd.prog laid4 W) : Calls Tryd.prog 8 #[] W fun e W' => e = .returned (.bool true) ∧ Below W.heap.size W W' := by
  obtain ⟨b, es, hes, hseed⟩ := of_laid07 hL
  have hbig : ∃ h' n', Big E07.env (.call 8 [] (heap0 (seeds07 b es)) 4097 (.bool true) h' n') := by
    rcases hes with rfl | rfl
    · exact big_of_run run8a
    · exact big_of_run run8b
  obtain ⟨h', n', hb⟩ := hbig
  have := run_call mixed07 fs07_at ps07_at hseed Tryd.func8 (by kernel_rfl) (by kernel_rfl) (n := 4097) (by decide) (fun p hp => by
    simp only [seeds07, List.mem_cons, List.not_mem_nil, or_false] at hp
    rcases hp with rfl | rfl | rfl <;> simp [seedNames]) (args := []) (cargs := []) .nil hb
  refine this.mono fun e W' ⟨u, φ', he, hu, hbel⟩ => ?_
  exact ⟨by rw [he, hu.eq_of_scalar rfl], hbel⟩
end
end Go.Proofs.YtkaibjdogeikbaaDoor.Am
