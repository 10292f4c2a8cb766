/- The statement proved (PArgs). -/
import Derived.Test.YtmkfjdajnamoaaaDoorS
import Derived.Test.YtmkfjdajnamoaaaDoorD
import Derived.Test.YtmkfjdajnamoaaaDoorX1
import Derived.Test.YtmkfjdajnamoaaaDoorChecked
import Derived.WalkKit
import Derived.ProofKit
import Derived.OpenShut
namespace Go.Proofs.YtmkfjdajnamoaaaDoor
open Go Go.Proofs.YtmkfjdajnamoaaaDoor.Am Go.ChangeShapes Go.WideShapes Go.RowKit
/- ARGUMENTS OF THE CHAPTER: addresses. -/
section
variable {H : Type} {enc : TypeId × Value → H} {W : World} {base : Nat}
theorem nat_u8 {n : Int} (h : (Lit.int .u8 n).wf = true) : ∃ k : Nat, n = (k : Int) ∧ k < 256 := by
  have := bounds_u8 h
  exact ⟨n.toNat, by omega, by omega⟩
theorem list6 {α : Type} {l : List α} (h : l.length = 6) : ∃ a0 a1 a2 a3 a4 a5, l = [a0, a1, a2, a3, a4, a5] := by
  match l, h with
  | [a0, a1, a2, a3, a4, a5], _ => exact ⟨_, _, _, _, _, _, rfl⟩
theorem cells5 : Tryd.prog.cellsOf 5 = 1 := by kernel_rfl
theorem cells22 : Tryd.prog.cellsOf 22 = 6 := by kernel_rfl
set_option maxRecDepth 100000 in
theorem okWide_mac {v : Value} (h : Value.okWide Tryd.prog W .any base 22 v) : ∃ cs, v = .agg cs ∧ cs.size = Tryd.prog.cellsOf 22 := by
  simp only [Value.okWide, Tryd.underlying22] at h
  obtain ⟨cs, h1, h2, _⟩ := h
  exact ⟨cs, h1, h2⟩
set_option maxRecDepth 100000 in
theorem open_mac {v : Value} {d : DataW H} {p : List MemPlace} (hval : Value.okWide Tryd.prog W .any base 22 v) (h : DataW.Trod enc Tryd.prog W 0 (fun _ => true) true 22 v d p) :
    ∃ m : List UInt8, m.length = 6 ∧ v = macV m := by
  obtain ⟨cs, rfl, hsz⟩ := okWide_mac hval
  obtain ⟨fuel, hf⟩ := h
  obtain ⟨xs, n, _, _, hl, hxl, hx⟩ := DataW.trod_array Tryd.underlying22 hf
  rw [cells22] at hl
  have ec : (Value.agg cs).cells.toList = cs.toList := rfl
  rw [ec] at hl hx
  have key : ∀ i, i < 6 → ∃ b : UInt8, cs.toList[i]? = some (.int .u8 (b.toNat : Int)) := fun i hi => by
    have h1 := hx i hi
    rw [cells5, Nat.mul_one, List.drop_eq_getElem_cons (by omega : i < cs.toList.length), List.take_succ_cons, List.take_zero, List.getElem?_eq_getElem (by omega : i < xs.length)] at h1
    obtain ⟨m, e, _, w⟩ := DataW.trod_int Tryd.underlying5 h1
    obtain ⟨k, rfl, hk⟩ := nat_u8 w
    refine ⟨UInt8.ofNat k, ?_⟩
    simp only [List.cons.injEq, and_true] at e
    rw [List.getElem?_eq_getElem (by omega : i < cs.toList.length), e, UInt8.toNat_ofNat', Nat.mod_eq_of_lt hk]
  obtain ⟨b0, h0⟩ := key 0 (by omega)
  obtain ⟨b1, h1⟩ := key 1 (by omega)
  obtain ⟨b2, h2⟩ := key 2 (by omega)
  obtain ⟨b3, h3⟩ := key 3 (by omega)
  obtain ⟨b4, h4⟩ := key 4 (by omega)
  obtain ⟨b5, h5⟩ := key 5 (by omega)
  obtain ⟨c0, c1, c2, c3, c4, c5, hcs⟩ := list6 hl
  rw [hcs] at h0 h1 h2 h3 h4 h5
  refine ⟨[b0, b1, b2, b3, b4, b5], rfl, ?_⟩
  have : cs.toList = u8s [b0, b1, b2, b3, b4, b5] := by
    rw [hcs]
    simp only [List.getElem?_cons_zero, List.getElem?_cons_succ, Option.some.injEq] at h0 h1 h2 h3 h4 h5
    subst h0 h1 h2 h3 h4 h5
    rfl
  show Value.agg cs = Value.agg _
  congr 1
  exact Array.toList_inj.1 this
theorem rel_u8s {φ : Phi} : ∀ l : List UInt8, VRels φ (u8s l) (u8s l)
  | [] => .nil
  | _ :: l => .cons (.int _ _) (rel_u8s l)
theorem one_u8s : ∀ l : List UInt8, (u8s l).all Value.oneCell' = true
  | [] => rfl
  | _ :: l => one_u8s l
theorem rel_mac {φ : Phi} (m : List UInt8) : VRel φ (macV m) (macV m) := VRels.agg (rel_u8s m) (one_u8s m)
end
end Go.Proofs.YtmkfjdajnamoaaaDoor
