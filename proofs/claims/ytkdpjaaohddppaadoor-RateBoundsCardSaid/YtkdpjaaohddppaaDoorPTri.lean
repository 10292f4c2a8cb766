/- The statement proved (PTri). -/
import Derived.Test.YtkdpjaaohddppaaDoorPArgs
import Derived.SevenTiedAt
namespace Go.Proofs.YtkdpjaaohddppaaDoor
open Go Go.Proofs.YtkdpjaaohddppaaDoor.Am Go.ChangeShapes Go.WideShapes Go.RowKit
/- Three numbers as an argument. -/
section
variable {H : Type} {enc : TypeId × Value → H} {W : World} {base : Nat}
def triV (a b c : Nat) : Value := .agg #[.int .u64 (a : Int), .int .u64 (b : Int), .int .u64 (c : Int)]
theorem nat_u64 {n : Int} (h : (Lit.int .u64 n).wf = true) : ∃ k : Nat, n = (k : Int) ∧ k < 18446744073709551616 := by
  have := bounds_u64 h
  exact ⟨n.toNat, by omega, by omega⟩
theorem cells22 : Tryd.prog.cellsOf 22 = 1 := by kernel_rfl
theorem cells45 : Tryd.prog.cellsOf 45 = 3 := by kernel_rfl
theorem list3 {α : Type} {l : List α} (h : l.length = 3) : ∃ a0 a1 a2, l = [a0, a1, a2] := by
  match l, h with
  | [a0, a1, a2], _ => exact ⟨_, _, _, rfl⟩
set_option maxRecDepth 100000 in
theorem okWide_tri {v : Value} (h : Value.okWide Tryd.prog W .any base 45 v) : ∃ cs, v = .agg cs ∧ cs.size = Tryd.prog.cellsOf 45 := by
  simp only [Value.okWide, Tryd.underlying45] at h
  obtain ⟨cs, h1, h2, _⟩ := h
  exact ⟨cs, h1, h2⟩
set_option maxRecDepth 100000 in
theorem open_tri {v : Value} {d : DataW H} {p : List MemPlace} (hval : Value.okWide Tryd.prog W .any base 45 v) (h : DataW.Trod enc Tryd.prog W 0 (fun _ => true) true 45 v d p) :
    ∃ a b c : Nat, a < 18446744073709551616 ∧ b < 18446744073709551616 ∧ c < 18446744073709551616 ∧ v = triV a b c := by
  obtain ⟨cs, rfl, hsz⟩ := okWide_tri hval
  obtain ⟨fuel, hf⟩ := h
  obtain ⟨xs, n, _, _, hl, hxl, hx⟩ := DataW.trod_array Tryd.underlying45 hf
  rw [cells45] at hl
  have ec : (Value.agg cs).cells.toList = cs.toList := rfl
  rw [ec] at hl hx
  have key : ∀ i, i < 3 → ∃ k : Nat, k < 18446744073709551616 ∧ cs.toList[i]? = some (.int .u64 (k : Int)) := fun i hi => by
    have h1 := hx i hi
    rw [cells22, Nat.mul_one, List.drop_eq_getElem_cons (by omega : i < cs.toList.length), List.take_succ_cons, List.take_zero, List.getElem?_eq_getElem (by omega : i < xs.length)] at h1
    obtain ⟨m, e, _, w⟩ := DataW.trod_int Tryd.underlying22 h1
    obtain ⟨k, rfl, hk⟩ := nat_u64 w
    refine ⟨k, hk, ?_⟩
    simp only [List.cons.injEq, and_true] at e
    rw [List.getElem?_eq_getElem (by omega : i < cs.toList.length), e]
  obtain ⟨b0, k0, h0⟩ := key 0 (by omega)
  obtain ⟨b1, k1, h1⟩ := key 1 (by omega)
  obtain ⟨b2, k2, h2⟩ := key 2 (by omega)
  obtain ⟨c0, c1, c2, hcs⟩ := list3 hl
  rw [hcs] at h0 h1 h2
  refine ⟨b0, b1, b2, k0, k1, k2, ?_⟩
  have : cs.toList = [.int .u64 (b0 : Int), .int .u64 (b1 : Int), .int .u64 (b2 : Int)] := by
    rw [hcs]
    simp only [List.getElem?_cons_zero, List.getElem?_cons_succ, Option.some.injEq] at h0 h1 h2
    subst h0 h1 h2
    rfl
  show Value.agg cs = Value.agg _
  congr 1
  exact Array.toList_inj.1 this
theorem rel_tri {φ : Phi} (a b c : Nat) : VRel φ (triV a b c) (triV a b c) := VRels.agg (.cons (.int _ _) (.cons (.int _ _) (.cons (.int _ _) .nil))) rfl
end
end Go.Proofs.YtkdpjaaohddppaaDoor
