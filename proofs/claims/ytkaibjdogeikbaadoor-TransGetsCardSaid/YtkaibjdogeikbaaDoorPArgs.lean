/- The statement proved (PArgs). -/
import Derived.Test.YtkaibjdogeikbaaDoorS
import Derived.Test.YtkaibjdogeikbaaDoorD8
import Derived.Test.YtkaibjdogeikbaaDoorX1
import Derived.Test.YtkaibjdogeikbaaDoorChecked
import Derived.WalkKit
import Derived.ProofKit
import Derived.OpenShut
namespace Go.Proofs.YtkaibjdogeikbaaDoor
open Go Go.Proofs.YtkaibjdogeikbaaDoor.Am Go.ChangeShapes Go.WideShapes Go.RowKit
/- ARGUMENTS OF THE CHAPTER: heads, bytes. -/
section
variable {H : Type} {enc : TypeId × Value → H} {W : World} {base : Nat}
theorem nat_u16 {n : Int} (h : (Lit.int .u16 n).wf = true) : ∃ k : Nat, n = (k : Int) ∧ k < 65536 := by
  have := bounds_u16 h
  exact ⟨n.toNat, by omega, by omega⟩
theorem nat_u32 {n : Int} (h : (Lit.int .u32 n).wf = true) : ∃ k : Nat, n = (k : Int) ∧ k < 4294967296 := by
  have := bounds_u32 h
  exact ⟨n.toNat, by omega, by omega⟩
theorem nat_u8 {n : Int} (h : (Lit.int .u8 n).wf = true) : ∃ k : Nat, n = (k : Int) ∧ k < 256 := by
  have := bounds_u8 h
  exact ⟨n.toNat, by omega, by omega⟩
theorem list11 {α : Type} {l : List α} (h : l.length = 11) : ∃ a0 a1 a2 a3 a4 a5 a6 a7 a8 a9 a10, l = [a0, a1, a2, a3, a4, a5, a6, a7, a8, a9, a10] := by
  match l, h with
  | [a0, a1, a2, a3, a4, a5, a6, a7, a8, a9, a10], _ => exact ⟨_, _, _, _, _, _, _, _, _, _, _, rfl⟩
theorem list5 {α : Type} {l : List α} (h : l.length = 5) : ∃ a0 a1 a2 a3 a4, l = [a0, a1, a2, a3, a4] := by
  match l, h with
  | [a0, a1, a2, a3, a4], _ => exact ⟨_, _, _, _, _, rfl⟩
theorem someOf {α : Type} {x : Option α} {l : List α} {i n : Nat} (h : x = l[i]?) (hl : l.length = n) (hi : i < n) : ∃ y, x = some y := ⟨l[i]'(by omega), by rw [h, List.getElem?_eq_getElem]⟩
theorem fld {P : Program} {fs : Array Field} {cs : List Value} {xs : List (DataW H × List MemPlace)} {n m : Nat} (hx : ∀ (i : Nat) (f : Field), fs[i]? = some f → DataW.trod enc P W 0 (fun _ => true) true n f.type ((cs.drop f.offset).take (P.cellsOf f.type)) = xs[i]?) (hl : xs.length = m)
    {i : Nat} (hi : i < m) {f : Field} (hf : fs[i]? = some f) {t off : Nat} (ht : f.type = t) (ho : f.offset = off) (hc : P.cellsOf t = 1) {c : Value} (hcell : (cs.drop off).take 1 = [c]) : ∃ y, DataW.trod enc P W 0 (fun _ => true) true n t [c] = some y := by
  have h := hx i f hf
  rw [ht, ho, hc, hcell] at h
  exact ⟨xs[i]'(by omega), by rw [h, List.getElem?_eq_getElem]⟩
theorem cells5 : Tryd.prog.cellsOf 5 = 1 := by kernel_rfl
theorem cells31 : Tryd.prog.cellsOf 31 = 1 := by kernel_rfl
theorem cells32 : Tryd.prog.cellsOf 32 = 1 := by kernel_rfl
theorem cells33 : Tryd.prog.cellsOf 33 = 1 := by kernel_rfl
theorem cells35 : Tryd.prog.cellsOf 35 = 11 := by kernel_rfl
theorem cells37 : Tryd.prog.cellsOf 37 = 5 := by kernel_rfl
set_option maxRecDepth 100000 in
theorem open_tcp {v : Value} {d : DataW H} {p : List MemPlace} (hval : Value.okWide Tryd.prog W .any base 35 v) (h : DataW.Trod enc Tryd.prog W 0 (fun _ => true) true 35 v d p) (h0 : 0 < W.heap.size) :
    ∃ (t : TcpN) (o b : Value) (os bs : List UInt8) (lo lb : Am.Loc), t.ok ∧ v = tcpV t o b ∧ BA W o os lo ∧ BA W b bs lb := by
  obtain ⟨cs, rfl, hsz⟩ := okWide_struct Tryd.underlying35 hval
  obtain ⟨fuel, hf⟩ := h
  obtain ⟨xs, n, _, _, hl, hxl, hx⟩ := DataW.trod_struct Tryd.underlying35 hf
  have hxl : xs.length = 11 := hxl
  rw [cells35] at hl
  have hl : cs.toList.length = 11 := hl
  obtain ⟨c0, c1, c2, c3, c4, c5, c6, c7, c8, c9, c10, hcs⟩ := list11 hl
  have ec : (Value.agg cs).cells.toList = cs.toList := rfl
  rw [ec, hcs] at hx
  obtain ⟨y0, h0'⟩ := fld hx hxl (i := 0) (by omega) rfl rfl rfl cells31 (c := c0) rfl
  obtain ⟨y1, h1'⟩ := fld hx hxl (i := 1) (by omega) rfl rfl rfl cells31 (c := c1) rfl
  obtain ⟨y2, h2'⟩ := fld hx hxl (i := 2) (by omega) rfl rfl rfl cells32 (c := c2) rfl
  obtain ⟨y3, h3'⟩ := fld hx hxl (i := 3) (by omega) rfl rfl rfl cells32 (c := c3) rfl
  obtain ⟨y4, h4'⟩ := fld hx hxl (i := 4) (by omega) rfl rfl rfl cells5 (c := c4) rfl
  obtain ⟨y5, h5'⟩ := fld hx hxl (i := 5) (by omega) rfl rfl rfl cells5 (c := c5) rfl
  obtain ⟨y6, h6'⟩ := fld hx hxl (i := 6) (by omega) rfl rfl rfl cells31 (c := c6) rfl
  obtain ⟨y7, h7'⟩ := fld hx hxl (i := 7) (by omega) rfl rfl rfl cells31 (c := c7) rfl
  obtain ⟨y8, h8'⟩ := fld hx hxl (i := 8) (by omega) rfl rfl rfl cells31 (c := c8) rfl
  obtain ⟨y9, h9'⟩ := fld hx hxl (i := 9) (by omega) rfl rfl rfl cells33 (c := c9) rfl
  obtain ⟨y10, h10'⟩ := fld hx hxl (i := 10) (by omega) rfl rfl rfl cells33 (c := c10) rfl
  obtain ⟨n0, e0, _, w0⟩ := DataW.trod_int Tryd.underlying31 h0'
  obtain ⟨n1, e1, _, w1⟩ := DataW.trod_int Tryd.underlying31 h1'
  obtain ⟨n2, e2, _, w2⟩ := DataW.trod_int Tryd.underlying32 h2'
  obtain ⟨n3, e3, _, w3⟩ := DataW.trod_int Tryd.underlying32 h3'
  obtain ⟨n4, e4, _, w4⟩ := DataW.trod_int Tryd.underlying5 h4'
  obtain ⟨n5, e5, _, w5⟩ := DataW.trod_int Tryd.underlying5 h5'
  obtain ⟨n6, e6, _, w6⟩ := DataW.trod_int Tryd.underlying31 h6'
  obtain ⟨n7, e7, _, w7⟩ := DataW.trod_int Tryd.underlying31 h7'
  obtain ⟨n8, e8, _, w8⟩ := DataW.trod_int Tryd.underlying31 h8'
  obtain ⟨k0, rfl, b0⟩ := nat_u16 w0
  obtain ⟨k1, rfl, b1⟩ := nat_u16 w1
  obtain ⟨k2, rfl, b2⟩ := nat_u32 w2
  obtain ⟨k3, rfl, b3⟩ := nat_u32 w3
  obtain ⟨k4, rfl, b4⟩ := nat_u8 w4
  obtain ⟨k5, rfl, b5⟩ := nat_u8 w5
  obtain ⟨k6, rfl, b6⟩ := nat_u16 w6
  obtain ⟨k7, rfl, b7⟩ := nat_u16 w7
  obtain ⟨k8, rfl, b8⟩ := nat_u16 w8
  obtain ⟨os, lo, ho⟩ := open_ba Tryd.underlying33 Tryd.underlying5 cells5 h9' h0
  obtain ⟨bs, lb, hb⟩ := open_ba Tryd.underlying33 Tryd.underlying5 cells5 h10' h0
  refine ⟨⟨k0, k1, k2, k3, k4, k5, k6, k7, k8⟩, c9, c10, os, bs, lo, lb, ⟨b0, b1, b2, b3, b4, b5, b6, b7, b8⟩, ?_, ho, hb⟩
  simp only [List.cons.injEq, and_true] at e0 e1 e2 e3 e4 e5 e6 e7 e8
  subst e0 e1 e2 e3 e4 e5 e6 e7 e8
  rw [tcpV]
  congr 1
  exact Array.toList_inj.1 hcs
set_option maxRecDepth 100000 in
theorem open_udp {v : Value} {d : DataW H} {p : List MemPlace} (hval : Value.okWide Tryd.prog W .any base 37 v) (h : DataW.Trod enc Tryd.prog W 0 (fun _ => true) true 37 v d p) (h0 : 0 < W.heap.size) :
    ∃ (fr to ln sm : Nat) (b : Value) (bs : List UInt8) (lb : Am.Loc), fr < 65536 ∧ to < 65536 ∧ ln < 65536 ∧ sm < 65536 ∧ v = udpV fr to ln sm b ∧ BA W b bs lb := by
  obtain ⟨cs, rfl, hsz⟩ := okWide_struct Tryd.underlying37 hval
  obtain ⟨fuel, hf⟩ := h
  obtain ⟨xs, n, _, _, hl, hxl, hx⟩ := DataW.trod_struct Tryd.underlying37 hf
  have hxl : xs.length = 5 := hxl
  rw [cells37] at hl
  have hl : cs.toList.length = 5 := hl
  obtain ⟨c0, c1, c2, c3, c4, hcs⟩ := list5 hl
  have ec : (Value.agg cs).cells.toList = cs.toList := rfl
  rw [ec, hcs] at hx
  obtain ⟨y0, h0'⟩ := fld hx hxl (i := 0) (by omega) rfl rfl rfl cells31 (c := c0) rfl
  obtain ⟨y1, h1'⟩ := fld hx hxl (i := 1) (by omega) rfl rfl rfl cells31 (c := c1) rfl
  obtain ⟨y2, h2'⟩ := fld hx hxl (i := 2) (by omega) rfl rfl rfl cells31 (c := c2) rfl
  obtain ⟨y3, h3'⟩ := fld hx hxl (i := 3) (by omega) rfl rfl rfl cells31 (c := c3) rfl
  obtain ⟨y4, h4'⟩ := fld hx hxl (i := 4) (by omega) rfl rfl rfl cells33 (c := c4) rfl
  obtain ⟨n0, e0, _, w0⟩ := DataW.trod_int Tryd.underlying31 h0'
  obtain ⟨n1, e1, _, w1⟩ := DataW.trod_int Tryd.underlying31 h1'
  obtain ⟨n2, e2, _, w2⟩ := DataW.trod_int Tryd.underlying31 h2'
  obtain ⟨n3, e3, _, w3⟩ := DataW.trod_int Tryd.underlying31 h3'
  obtain ⟨k0, rfl, b0⟩ := nat_u16 w0
  obtain ⟨k1, rfl, b1⟩ := nat_u16 w1
  obtain ⟨k2, rfl, b2⟩ := nat_u16 w2
  obtain ⟨k3, rfl, b3⟩ := nat_u16 w3
  obtain ⟨bs, lb, hb⟩ := open_ba Tryd.underlying33 Tryd.underlying5 cells5 h4' h0
  refine ⟨k0, k1, k2, k3, c4, bs, lb, b0, b1, b2, b3, ?_, hb⟩
  simp only [List.cons.injEq, and_true] at e0 e1 e2 e3
  subst e0 e1 e2 e3
  rw [udpV]
  congr 1
  exact Array.toList_inj.1 hcs
end
end Go.Proofs.YtkaibjdogeikbaaDoor
