/- The statement proved (PSums). -/
import Derived.Test.YtkaibjdogeikbaaDoorPArgs
import Derived.Test.YtkaibjdogeikbaaDoorY1
import Derived.Test.YtkaibjdogeikbaaDoorRows
import Derived.LaidMore
import Derived.Lay
import Derived.ChangeVars
import Derived.ChangeMaps5
namespace Go.Proofs.YtkaibjdogeikbaaDoor
open Go Go.Proofs.YtkaibjdogeikbaaDoor.Am Go.ChangeShapes Go.WideShapes Go.RowKit
/- WHAT THE CONDITION GIVES: the names, the sums' places. Arguments: two addresses, a change. -/
namespace Sums
theorem gNames : Tryd.prog.globalNamed "toll/trans.names" = some 0 := by kernel_rfl
theorem gSums : Tryd.prog.globalNamed "toll/trans.sums" = some 1 := by kernel_rfl
def laid4 : List (String × DataW Unit) := [("unicode/utf8.acceptRanges", Rows.laid_unicode_utf8_acceptRanges), ("toll/trans.names", Rows.laid_toll_trans_names), ("toll/trans.sums", Rows.laid_toll_trans_sums), ("unicode/utf8.first", Rows.laid_unicode_utf8_first)]
theorem tNames : (Tryd.prog.globals[0]?).map (·.type) = some 80 := by kernel_rfl
theorem tSums : (Tryd.prog.globals[1]?).map (·.type) = some 111 := by kernel_rfl
def seedsOf (b : Nat) (es : List (Value × Value)) (l : Am.Loc) (bs : List UInt8) : List Seed :=
  [(0, ⟨0, 0, false, 0, 0⟩, .cells none (strsL namesL) 0), (1, ⟨1, 0, false, 0, 0⟩, .cells none [.map (some 4096)] 0), (4096, ⟨b, 0, false, 0, 0⟩, .map es), (4097, l, .cells none (u8s bs) 0)]
theorem of_laid {W : World} (h : laidMetH Tryd.prog laid4 W) : 0 < W.heap.size ∧ ∃ b es, (es = sumsA ∨ es = sumsB) ∧ ∀ v l bs, BA W v bs l → ∀ p ∈ seedsOf b es l bs, SeedOk W (seedsOf b es l bs) p := by
  rw [MakeChecks.laidMetH_plain _ _ _ (by kernel_rfl)] at h
  obtain ⟨ps, ⟨_, _, _, _, _, _, _, _, _, _, ⟨g0, t0, cs0, f0, p0, q0, hg0, ht0, hv0, hd0, ⟨g1, t1, cs1, f1, p1, q1, hg1, ht1, hv1, hd1, _, _⟩, _⟩, _⟩, _, _⟩ := h
  obtain rfl := Option.some.inj (gNames.symm.trans hg0)
  obtain rfl := Option.some.inj (gSums.symm.trans hg1)
  obtain rfl := Option.some.inj (tNames.symm.trans ht0)
  obtain rfl := Option.some.inj (tSums.symm.trans ht1)
  have e0 : Rows.laid_toll_trans_names = (.agg (namesL.map fun s => .lit (.string s)) : DataW Unit) := rfl
  rw [e0] at hd0
  have hc0 : cs0.toList = strsL namesL := cells_strs Tryd.underlying80 Tryd.underlying9 (by kernel_rfl) (by kernel_rfl) hd0
  obtain ⟨b, es, clock, hc1, hb, hperm⟩ := map_ints Tryd.underlying111 Tryd.underlying5 Tryd.underlying3 hd1
  have hperm' : (es.toList.map fun x => (x.key, x.val)).Perm sumsA := hperm
  refine ⟨var?_lt gNames hv0, b, es.toList.map fun x => (x.key, x.val), perm_pair hperm', fun v l bs hba => ?_⟩
  have hblt : b < W.heap.size := by
    rcases Nat.lt_or_ge b W.heap.size with h | h
    · exact h
    · rw [Array.getElem?_eq_none h] at hb; cases hb
  intro p hp
  simp only [seedsOf, List.mem_cons, List.not_mem_nil, or_false] at hp
  rcases hp with rfl | rfl | rfl | rfl
  · exact seed_cells gNames hv0 hc0 (var?_lt gNames hv0) (by decide) (fun v hv => ⟨v, rfl, by
      obtain ⟨s, _, rfl⟩ := List.mem_map.1 hv
      exact .string _⟩)
  · refine ⟨rfl, var?_lt gSums hv1, fun _ => ⟨rfl, rfl⟩, rfl, Nat.zero_le _, rfl, fun k v hk => ?_⟩
    match k, hk with
    | 0, hk =>
      simp at hk
      subst hk
      refine ⟨.map (some b), ?_, .map 4096 ⟨b, 0, false, 0, 0⟩ rfl⟩
      rw [World.var?_cell gSums hv1 0, ← Array.getElem?_toList, hc1]
      rfl
    | k + 1, hk => simp at hk
  · refine ⟨rfl, hblt, fun h => absurd h (Nat.lt_irrefl 4096), es, clock, hb, by simp, fun k x hk => ?_⟩
    rw [List.getElem?_map] at hk
    obtain ⟨e, he, rfl⟩ := Option.map_eq_some_iff.1 hk
    have hx : (e.key, e.val) ∈ sumsA := hperm'.mem_iff.1 (List.mem_map.2 ⟨e, List.mem_of_getElem? he, rfl⟩)
    refine ⟨e, by rw [← Array.getElem?_toList]; exact he, ?_, rfl, ?_⟩
    · simp only [sumsA, List.mem_cons, Prod.mk.injEq, List.not_mem_nil, or_false] at hx
      rcases hx with ⟨h1, _⟩ | ⟨h1, _⟩ <;> rw [h1] <;> rfl
    · simp only [sumsA, List.mem_cons, Prod.mk.injEq, List.not_mem_nil, or_false] at hx
      rcases hx with ⟨_, h1⟩ | ⟨_, h1⟩ <;> rw [h1] <;> exact .int _ _
  · exact hba.seed (by decide)
theorem heap_wf (b : Nat) (es : List (Value × Value)) (l : Am.Loc) (bs : List UInt8) : WF (heap0 (seedsOf b es l bs)) 4098 := fun i hi => by
  simp only [seedsOf, heap0, List.map_cons, List.map_nil, AHeap.get_cons]
  rw [if_neg (by omega), if_neg (by omega), if_neg (by omega), if_neg (by omega)]; rfl
theorem heap_sums {b : Nat} {es : List (Value × Value)} (he : es = sumsA ∨ es = sumsB) (l : Am.Loc) (bs : List UInt8) : HasSums (heap0 (seedsOf b es l bs)) := by
  refine ⟨rfl, ?_⟩
  rcases he with rfl | rfl
  · exact .inl rfl
  · exact .inr rfl
theorem seeds_lt {b : Nat} {es : List (Value × Value)} {l : Am.Loc} {bs : List UInt8} : ∀ p ∈ seedsOf b es l bs, p.1 < 4098 := fun p hp => by
  simp only [seedsOf, List.mem_cons, List.not_mem_nil, or_false] at hp
  rcases hp with rfl | rfl | rfl | rfl <;> simp
end Sums
section
variable {H : Type} {enc : TypeId × Value → H} {W : World} {base : Nat}
theorem list2 {α : Type} {l : List α} (h : l.length = 2) : ∃ a0 a1, l = [a0, a1] := by
  match l, h with
  | [a0, a1], _ => exact ⟨_, _, rfl⟩
theorem list3 {α : Type} {l : List α} (h : l.length = 3) : ∃ a0 a1 a2, l = [a0, a1, a2] := by
  match l, h with
  | [a0, a1, a2], _ => exact ⟨_, _, _, rfl⟩
theorem cells64 : Tryd.prog.cellsOf 64 = 1 := by kernel_rfl
theorem cells65 : Tryd.prog.cellsOf 65 = 2 := by kernel_rfl
theorem cells67 : Tryd.prog.cellsOf 67 = 3 := by kernel_rfl
theorem cells4 : Tryd.prog.cellsOf 4 = 1 := by kernel_rfl
set_option maxRecDepth 100000 in
theorem open_ends {v : Value} {d : DataW H} {p : List MemPlace} (hval : Value.okWide Tryd.prog W .any base 65 v) (h : DataW.Trod enc Tryd.prog W 0 (fun _ => true) true 65 v d p) :
    ∃ (src dst : Nat), src < 4294967296 ∧ dst < 4294967296 ∧ v = .agg #[.int .u32 (src : Int), .int .u32 (dst : Int)] := by
  obtain ⟨cs, rfl, hsz⟩ : ∃ cs, v = .agg cs ∧ cs.size = Tryd.prog.cellsOf 65 := by
    unfold Value.okWide at hval
    rw [Tryd.underlying65] at hval
    obtain ⟨cs, h1, h2, _⟩ := hval
    exact ⟨cs, h1, h2⟩
  obtain ⟨fuel, hf⟩ := h
  obtain ⟨xs, n, _, _, hl, hxl, hx⟩ := DataW.trod_array Tryd.underlying65 hf
  rw [cells65] at hl
  have hl : cs.toList.length = 2 := hl
  obtain ⟨c0, c1, hcs⟩ := list2 hl
  have ec : (Value.agg cs).cells.toList = cs.toList := rfl
  rw [ec, hcs] at hx
  simp only [cells64] at hx
  obtain ⟨y0, h0'⟩ := someOf (hx 0 (by omega)) hxl (by omega)
  obtain ⟨y1, h1'⟩ := someOf (hx 1 (by omega)) hxl (by omega)
  obtain ⟨n0, e0, _, w0⟩ := DataW.trod_int Tryd.underlying64 h0'
  obtain ⟨n1, e1, _, w1⟩ := DataW.trod_int Tryd.underlying64 h1'
  obtain ⟨k0, rfl, b0⟩ := nat_u32 w0
  obtain ⟨k1, rfl, b1⟩ := nat_u32 w1
  refine ⟨k0, k1, b0, b1, ?_⟩
  have f0 : c0 = .int .u32 (k0 : Int) := by simpa using e0
  have f1 : c1 = .int .u32 (k1 : Int) := by simpa using e1
  rw [f0, f1] at hcs
  congr 1
  exact Array.toList_inj.1 hcs
set_option maxRecDepth 100000 in
theorem open_change {v : Value} {d : DataW H} {p : List MemPlace} (hval : Value.okWide Tryd.prog W .any base 67 v) (h : DataW.Trod enc Tryd.prog W 0 (fun _ => true) true 67 v d p) :
    ∃ (kk by' : Nat) (u : Bool), kk < 65536 ∧ by' < 256 ∧ v = .agg #[.int .u16 (kk : Int), .int .u8 (by' : Int), .bool u] := by
  obtain ⟨cs, rfl, hsz⟩ := okWide_struct Tryd.underlying67 hval
  obtain ⟨fuel, hf⟩ := h
  obtain ⟨xs, n, _, _, hl, hxl, hx⟩ := DataW.trod_struct Tryd.underlying67 hf
  have hxl : xs.length = 3 := hxl
  rw [cells67] at hl
  have hl : cs.toList.length = 3 := hl
  obtain ⟨c0, c1, c2, hcs⟩ := list3 hl
  have ec : (Value.agg cs).cells.toList = cs.toList := rfl
  rw [ec, hcs] at hx
  obtain ⟨y0, h0'⟩ := fld hx hxl (i := 0) (by omega) rfl rfl rfl cells31 (c := c0) rfl
  obtain ⟨y1, h1'⟩ := fld hx hxl (i := 1) (by omega) rfl rfl rfl cells5 (c := c1) rfl
  obtain ⟨y2, h2'⟩ := fld hx hxl (i := 2) (by omega) rfl rfl rfl cells4 (c := c2) rfl
  obtain ⟨n0, e0, _, w0⟩ := DataW.trod_int Tryd.underlying31 h0'
  obtain ⟨n1, e1, _, w1⟩ := DataW.trod_int Tryd.underlying5 h1'
  obtain ⟨u, e2, _⟩ := DataW.trod_bool Tryd.underlying4 h2'
  obtain ⟨k0, rfl, b0⟩ := nat_u16 w0
  obtain ⟨k1, rfl, b1⟩ := nat_u8 w1
  refine ⟨k0, k1, u, b0, b1, ?_⟩
  simp only [List.cons.injEq, and_true] at e0 e1 e2
  subst e0 e1 e2
  congr 1
  exact Array.toList_inj.1 hcs
end
end Go.Proofs.YtkaibjdogeikbaaDoor
