/- Contracts and plain facts (L2). -/
import Derived.Test.YtkdpjaaohddppaaGreatDoorL1
namespace Go.Proofs.YtkdpjaaohddppaaGreatDoor.Am
noncomputable section
/- BYTES BEHIND A SLICE,of one's own or another's. -/
def bufB (bs : List UInt8) (m : Nat) : Blk := .cells (some 5) (u8s bs) m
inductive BS (h : AHeap) : Value → List UInt8 → Prop
  | nil : BS h (.slice none 0 0) []
  | mk {i o g k : Nat} {vs : List UInt8} (hr : h.read i g o vs.length = some (u8s vs)) : BS h (.slice (some ⟨i,o,some g⟩) vs.length k) vs
theorem bs_one {h : AHeap} {i o g : Nat} {vs : List UInt8} (hr : h.read i g o vs.length = some (u8s vs)) {j : Nat} {c : UInt8} (hc : vs[j]? = some c) : h.read i g (o + j) 1 = some [.int .u8 (c.toNat : Int)] :=
  read_one hr (u8s_get? hc) (List.getElem?_eq_some_iff.1 hc).1
theorem bs_strOf {l : List UInt8} : bytesOf? (u8s l) = some l := bytesOf_u8s l
theorem append_cons {h : AHeap} {n q m len k : Nat} {bs : List UInt8} {v : Value} {a : UInt8} {vs : List UInt8} (hq : h.get q = some (bufB bs m)) (hL : bs.length = len) (hm : m ≤ len) (hv : aElems h 1 v = some (k,u8s (a :: vs))) (hk : k = vs.length + 1) (hlen : len + vs.length < 1000000) {K : Option Value → AHeap → Nat → Prop} {t : Tok K}
    (hK : K (some (.slice (some ⟨q,0,some (len + vs.length + 1)⟩) (len + vs.length + 1) 2)) (h.put q (bufB (bs ++ a :: vs) m)) n) : Runs (aAppend h n 5 1 1 (.slice (some ⟨q,0,some len⟩) len 2) v) n K t := by
  subst hL hk
  have h2 : 2 * (bs.length + (vs.length + 1)) ≤ 281474976710656 := by omega
  unfold bufB at hq
  simp [aAppend,hv,hq,hm,h2]
  simpa [bufB,u8s_append,Nat.add_assoc] using hK
end
end Go.Proofs.YtkdpjaaohddppaaGreatDoor.Am
