/- Contracts and plain facts (L2). -/
import Derived.Test.YtbgjcoochdljfaaDoorRL1
namespace Go.Proofs.YtbgjcoochdljfaaDoorR.Am
noncomputable section
/- BYTES BEHIND A SLICE, of one's own or another's. -/
def bufB (bs : List UInt8) (m : Nat) : Blk := .cells (some 5) (u8s bs) m
/-- Bytes that a value tells. -/
inductive BS (h : AHeap) : Value → List UInt8 → Prop
  | nil : BS h (.slice none 0 0) []
  | mk {i o g k : Nat} {vs : List UInt8} (hr : h.read i g o vs.length = some (u8s vs)) : BS h (.slice (some ⟨i, o, some g⟩) vs.length k) vs
theorem BS.elems {h : AHeap} {v : Value} {vs : List UInt8} (x : BS h v vs) : aElems h 1 v = some (vs.length, u8s vs) := by
  cases x with
  | nil => rfl
  | mk hr => simp [aElems, hr]
theorem BS.mono {h h' : AHeap} (hs : HSub h h') {v : Value} {vs : List UInt8} (x : BS h v vs) : BS h' v vs := by
  cases x with
  | nil => exact .nil
  | mk hr => exact .mk (read_mono hs hr)
theorem BS.shape {h : AHeap} {v : Value} {vs : List UInt8} (x : BS h v vs) : ∃ (a : Option Addr) (k : Nat), v = .slice a vs.length k := by
  cases x with
  | nil => exact ⟨none, 0, rfl⟩
  | mk hr => exact ⟨_, _, rfl⟩
theorem bs_new {h : AHeap} {i m : Nat} {bs : List UInt8} (hg : h.get i = some (bufB bs m)) (hm : m ≤ bs.length) : BS h (.slice (some ⟨i, 0, some bs.length⟩) bs.length 2) bs :=
  .mk (by rw [AHeap.read_of hg]; simp [bufB, hm])
theorem bs_some {h : AHeap} {a : Option Addr} {n k : Nat} {vs : List UInt8} (x : BS h (.slice a n k) vs) (hne : 0 < vs.length) : n = vs.length ∧ ∃ i o g, a = some ⟨i, o, some g⟩ ∧ h.read i g o vs.length = some (u8s vs) := by
  cases x with
  | nil => simp at hne
  | mk hr => exact ⟨rfl, _, _, _, rfl, hr⟩
theorem bs_one {h : AHeap} {i o g : Nat} {vs : List UInt8} (hr : h.read i g o vs.length = some (u8s vs)) {j : Nat} {c : UInt8} (hc : vs[j]? = some c) : h.read i g (o + j) 1 = some [.int .u8 (c.toNat : Int)] :=
  read_one hr (u8s_get? hc) (List.getElem?_eq_some_iff.1 hc).1
theorem bs_sub {h : AHeap} {i o g : Nat} {vs : List UInt8} (hr : h.read i g o vs.length = some (u8s vs)) {a b : Nat} (hab : a ≤ b) (hb : b ≤ vs.length) : h.read i g (o + a) (b - a) = some (u8s ((vs.take b).drop a)) := by
  have := read_sub hr (a := a) (b := b - a) (by omega)
  rw [this, u8s_drop, u8s_take]
  congr 2
  rw [List.drop_take]
theorem bs_strOf {l : List UInt8} : bytesOf? (u8s l) = some l := bytesOf_u8s l
/-- A value that may be appended to. -/
def Own (h : AHeap) (v : Value) (bs : List UInt8) : Prop := ∃ q m, v = .slice (some ⟨q, 0, some bs.length⟩) bs.length 2 ∧ h.get q = some (bufB bs m) ∧ m ≤ bs.length
theorem Own.bs {h : AHeap} {v : Value} {bs : List UInt8} (x : Own h v bs) : BS h v bs := by
  obtain ⟨q, m, rfl, hq, hm⟩ := x
  exact bs_new hq hm
theorem append_cons {h : AHeap} {n q m len k : Nat} {bs : List UInt8} {v : Value} {a : UInt8} {vs : List UInt8} (hq : h.get q = some (bufB bs m)) (hL : bs.length = len) (hm : m ≤ len) (hv : aElems h 1 v = some (k, u8s (a :: vs))) (hk : k = vs.length + 1) (hlen : len + vs.length < 1000000) {K : Option Value → AHeap → Nat → Prop} {t : Tok K}
    (hK : K (some (.slice (some ⟨q, 0, some (len + vs.length + 1)⟩) (len + vs.length + 1) 2)) (h.put q (bufB (bs ++ a :: vs) m)) n) : Runs (aAppend h n 5 1 1 (.slice (some ⟨q, 0, some len⟩) len 2) v) n K t := by
  subst hL hk
  have h2 : 2 * (bs.length + (vs.length + 1)) ≤ 281474976710656 := by omega
  unfold bufB at hq
  simp [aAppend, hv, hq, hm, h2]
  simpa [bufB, u8s_append, Nat.add_assoc] using hK
def twoL (w : Nat) : List UInt8 := [UInt8.ofNat (w / 256), UInt8.ofNat (w % 256)]
def twosL (ws : List Nat) : List UInt8 := ws.flatMap twoL
def u16s (ws : List Nat) : List Value := ws.map fun w : Nat => .int .u16 (w : Int)
theorem two_cells {w : Nat} (hw : w < 65536) : [Value.int .u8 (IntKind.u8.wrap (shrI .u16 (w : Int) 8)), .int .u8 (IntKind.u8.wrap (w : Int))] = u8s (twoL w) := by
  have e1 : shrI .u16 (w : Int) 8 = ((w / 256 : Nat) : Int) := shrI_nat .u16 w 8
  rw [e1, wrap_u8_mod, wrap_u8_mod]
  simp only [u8s, twoL, List.map_cons, List.map_nil, UInt8.toNat_ofNat']
  congr 3 <;> omega
theorem u16s_get? {l : List Nat} {i w : Nat} (h : l[i]? = some w) : (u16s l)[i]? = some (.int .u16 (w : Int)) := by simp [u16s, h]
theorem twosL_snoc (l : List Nat) (w : Nat) : twosL (l ++ [w]) = twosL l ++ twoL w := by simp [twosL]
theorem twosL_length (l : List Nat) : (twosL l).length = 2 * l.length := by
  induction l with
  | nil => rfl
  | cons a l ih => rw [twosL, List.flatMap_cons, List.length_append, List.length_cons]; unfold twosL at ih; rw [ih]; simp [twoL]; omega
end
end Go.Proofs.YtbgjcoochdljfaaDoorR.Am
