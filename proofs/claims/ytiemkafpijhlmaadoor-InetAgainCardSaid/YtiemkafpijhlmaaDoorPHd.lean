/- The statement proved (PHd). -/
import Derived.Test.YtiemkafpijhlmaaDoorPArgs
import Derived.Test.YtiemkafpijhlmaaDoorDB
import Derived.Test.YtiemkafpijhlmaaDoorX2
namespace Go.Proofs.YtiemkafpijhlmaaDoor
open Go Go.Proofs.YtiemkafpijhlmaaDoor.Am Go.ChangeShapes Go.WideShapes Go.RowKit
/- ARGUMENTS OF THE CHAPTER: heads, bytes. -/
section
variable {H : Type} {enc : TypeId × Value → H} {W : World} {base : Nat}
theorem nat_u16 {n : Int} (h : (Lit.int .u16 n).wf = true) : ∃ k : Nat, n = (k : Int) ∧ k < 65536 := by
  have := bounds_u16 h
  exact ⟨n.toNat, by omega, by omega⟩
theorem nat_u32 {n : Int} (h : (Lit.int .u32 n).wf = true) : ∃ k : Nat, n = (k : Int) ∧ k < 4294967296 := by
  have := bounds_u32 h
  exact ⟨n.toNat, by omega, by omega⟩
theorem nat_u8 {n : Int} (h : (Lit.int .u8 n).wf = true) : ∃ k : Nat, n = (k : Int) ∧ k < 256 := by
  have := bounds_u8 h
  exact ⟨n.toNat, by omega, by omega⟩
theorem list11 {α : Type} {l : List α} (h : l.length = 11) : ∃ a0 a1 a2 a3 a4 a5 a6 a7 a8 a9 a10, l = [a0, a1, a2, a3, a4, a5, a6, a7, a8, a9, a10] := by
  match l, h with
  | [a0, a1, a2, a3, a4, a5, a6, a7, a8, a9, a10], _ => exact ⟨_, _, _, _, _, _, _, _, _, _, _, rfl⟩
theorem fld {P : Program} {fs : Array Field} {cs : List Value} {xs : List (DataW H × List MemPlace)} {n m : Nat} (hx : ∀ (i : Nat) (f : Field), fs[i]? = some f → DataW.trod enc P W 0 (fun _ => true) true n f.type ((cs.drop f.offset).take (P.cellsOf f.type)) = xs[i]?) (hl : xs.length = m)
    {i : Nat} (hi : i < m) {f : Field} (hf : fs[i]? = some f) {t off : Nat} (ht : f.type = t) (ho : f.offset = off) (hc : P.cellsOf t = 1) {c : Value} (hcell : (cs.drop off).take 1 = [c]) : ∃ y, DataW.trod enc P W 0 (fun _ => true) true n t [c] = some y := by
  have h := hx i f hf
  rw [ht, ho, hc, hcell] at h
  exact ⟨xs[i]'(by omega), by rw [h, List.getElem?_eq_getElem]⟩
theorem cells3 : Tryd.prog.cellsOf 3 = 1 := by kernel_rfl
theorem cells4 : Tryd.prog.cellsOf 4 = 1 := by kernel_rfl
theorem cells5 : Tryd.prog.cellsOf 5 = 1 := by kernel_rfl
theorem cells23 : Tryd.prog.cellsOf 23 = 1 := by kernel_rfl
theorem cells44 : Tryd.prog.cellsOf 44 = 1 := by kernel_rfl
theorem cells45 : Tryd.prog.cellsOf 45 = 1 := by kernel_rfl
theorem cells47 : Tryd.prog.cellsOf 47 = 11 := by kernel_rfl
set_option maxRecDepth 100000 in
theorem open_hd {v : Value} {d : DataW H} {p : List MemPlace} (hval : Value.okWide Tryd.prog W .any base 47 v) (h : DataW.Trod enc Tryd.prog W 0 (fun _ => true) true 47 v d p) (h0 : 0 < W.heap.size) :
    ∃ (t : HdN) (o : Value) (os : List UInt8) (lo : Am.Loc), t.ok ∧ v = hdV t o ∧ BA W o os lo := by
  obtain ⟨cs, rfl, hsz⟩ := okWide_struct Tryd.underlying47 hval
  obtain ⟨fuel, hf⟩ := h
  obtain ⟨xs, n, _, _, hl, hxl, hx⟩ := DataW.trod_struct Tryd.underlying47 hf
  have hxl : xs.length = 11 := hxl
  rw [cells47] at hl
  have hl : cs.toList.length = 11 := hl
  obtain ⟨c0, c1, c2, c3, c4, c5, c6, c7, c8, c9, c10, hcs⟩ := list11 hl
  have ec : (Value.agg cs).cells.toList = cs.toList := rfl
  rw [ec, hcs] at hx
  obtain ⟨y0, h0'⟩ := fld hx hxl (i := 0) (by omega) rfl rfl rfl cells5 (c := c0) rfl
  obtain ⟨y1, h1'⟩ := fld hx hxl (i := 1) (by omega) rfl rfl rfl cells5 (c := c1) rfl
  obtain ⟨y2, h2'⟩ := fld hx hxl (i := 2) (by omega) rfl rfl rfl cells5 (c := c2) rfl
  obtain ⟨y3, h3'⟩ := fld hx hxl (i := 3) (by omega) rfl rfl rfl cells44 (c := c3) rfl
  obtain ⟨y4, h4'⟩ := fld hx hxl (i := 4) (by omega) rfl rfl rfl cells4 (c := c4) rfl
  obtain ⟨y5, h5'⟩ := fld hx hxl (i := 5) (by omega) rfl rfl rfl cells4 (c := c5) rfl
  obtain ⟨y6, h6'⟩ := fld hx hxl (i := 6) (by omega) rfl rfl rfl cells4 (c := c6) rfl
  obtain ⟨y7, h7'⟩ := fld hx hxl (i := 7) (by omega) rfl rfl rfl cells3 (c := c7) rfl
  obtain ⟨y8, h8'⟩ := fld hx hxl (i := 8) (by omega) rfl rfl rfl cells23 (c := c8) rfl
  obtain ⟨y9, h9'⟩ := fld hx hxl (i := 9) (by omega) rfl rfl rfl cells23 (c := c9) rfl
  obtain ⟨y10, h10'⟩ := fld hx hxl (i := 10) (by omega) rfl rfl rfl cells45 (c := c10) rfl
  obtain ⟨n0, e0, _, w0⟩ := DataW.trod_int Tryd.underlying5 h0'
  obtain ⟨n1, e1, _, w1⟩ := DataW.trod_int Tryd.underlying5 h1'
  obtain ⟨n2, e2, _, w2⟩ := DataW.trod_int Tryd.underlying5 h2'
  obtain ⟨n3, e3, _, w3⟩ := DataW.trod_int Tryd.underlying44 h3'
  obtain ⟨b4, e4, _⟩ := DataW.trod_bool Tryd.underlying4 h4'
  obtain ⟨b5, e5, _⟩ := DataW.trod_bool Tryd.underlying4 h5'
  obtain ⟨b6, e6, _⟩ := DataW.trod_bool Tryd.underlying4 h6'
  obtain ⟨n7, e7, _, w7⟩ := DataW.trod_int Tryd.underlying3 h7'
  obtain ⟨n8, e8, _, w8⟩ := DataW.trod_int Tryd.underlying23 h8'
  obtain ⟨n9, e9, _, w9⟩ := DataW.trod_int Tryd.underlying23 h9'
  obtain ⟨k0, rfl, g0⟩ := nat_u8 w0
  obtain ⟨k1, rfl, g1⟩ := nat_u8 w1
  obtain ⟨k2, rfl, g2⟩ := nat_u8 w2
  obtain ⟨k3, rfl, g3⟩ := nat_u16 w3
  obtain ⟨k8, rfl, g8⟩ := nat_u32 w8
  obtain ⟨k9, rfl, g9⟩ := nat_u32 w9
  have g7 := bounds_i64 w7
  obtain ⟨os, lo, ho⟩ := open_ba Tryd.underlying45 Tryd.underlying5 cells5 h10' h0
  refine ⟨⟨k0, k1, k2, k3, b4, b5, b6, n7, k8, k9⟩, c10, os, lo, ⟨g0, g1, g2, g3, g7.1, Int.lt_of_le_of_lt g7.2 (by decide), g8, g9⟩, ?_, ho⟩
  simp only [List.cons.injEq, and_true] at e0 e1 e2 e3 e4 e5 e6 e7 e8 e9
  subst e0 e1 e2 e3 e4 e5 e6 e7 e8 e9
  rw [hdV]
  congr 1
  exact Array.toList_inj.1 hcs
end
/-- The seeds of such arguments. -/
theorem look2 (lS lR : Am.Loc) (sS sR : ByteArray) (s : Seed) (l : List Seed) (hs : s.1 = 4098) : lookS (seedsC lS lR sS sR (s :: l)) 4098 = some s.2 := by
  obtain ⟨i, a, b⟩ := s
  simp only at hs
  subst hs
  rfl
theorem look3 (lS lR : Am.Loc) (sS sR : ByteArray) (s s2 : Seed) (l : List Seed) (h : s.1 = 4098) (h2 : s2.1 = 4099) : lookS (seedsC lS lR sS sR (s :: s2 :: l)) 4099 = some s2.2 := by
  obtain ⟨i, a, b⟩ := s
  obtain ⟨i2, a2, b2⟩ := s2
  simp only at h h2
  subst h h2
  rfl
theorem look4 (lS lR : Am.Loc) (sS sR : ByteArray) (s s2 s3 : Seed) (l : List Seed) (h : s.1 = 4098) (h2 : s2.1 = 4099) (h3 : s3.1 = 4100) : lookS (seedsC lS lR sS sR (s :: s2 :: s3 :: l)) 4100 = some s3.2 := by
  obtain ⟨i, a, b⟩ := s
  obtain ⟨i2, a2, b2⟩ := s2
  obtain ⟨i3, a3, b3⟩ := s3
  simp only at h h2 h3
  subst h h2 h3
  rfl
end Go.Proofs.YtiemkafpijhlmaaDoor
