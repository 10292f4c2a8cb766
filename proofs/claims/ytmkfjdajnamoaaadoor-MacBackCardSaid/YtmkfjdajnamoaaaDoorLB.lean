/- Contracts and plain facts (LB). -/
import Derived.Test.YtmkfjdajnamoaaaDoorG
import Derived.Test.YtmkfjdajnamoaaaDoorL1
namespace Go.Proofs.YtmkfjdajnamoaaaDoor.Am
noncomputable section
/- CONTRACTS OF GO's LIBRARY: strings.Builder, byte by byte. -/
def bldB (p q : Nat) (bs : List UInt8) : Blk := .cells (some 74) [.pointer (some ⟨p, 0, some 2⟩), .slice (some ⟨q, 0, some bs.length⟩) bs.length 2] 2
def bufB (bs : List UInt8) (m : Nat) : Blk := .cells (some 5) (u8s bs) m
theorem string_ret {h : AHeap} {n p q m : Nat} {bs : List UInt8} (hp : h.get p = some (bldB p q bs)) (hq : h.get q = some (bufB bs m)) (hm : m ≤ bs.length) (h0 : bs ≠ []) (hlen : bs.length < 1000000000) (hw : WF h n) :
    Ret EV02 41 [.pointer (some ⟨p, 0, some 2⟩)] h n (.string ⟨bs.toArray⟩) [(q, .cells none (u8s bs) m)] n := by
  have hpos : 0 < bs.length := List.length_pos_iff.2 h0
  refine rsx41 (by simp) (by simp [hq]) ?_
  simp -dsimp (discharger := omega) [B41, AHeap.read_of hp, bldB]
  have hlt := hw.lt hq
  unfold bufB at hq
  have hrd : List.take bs.length (u8s bs) = u8s bs := List.take_of_length_le (by simp)
  simp -dsimp (discharger := omega) [hq, AHeap.read_of hq, hrd]
  exact ⟨hlt, .refl _⟩
/-- A builder that holds some bytes, laid over a memory. -/
def Bld (h0 : AHeap) (n0 p : Nat) (bs : List UInt8) (h : AHeap) (n : Nat) : Prop :=
  HSub h0 h ∧ WF h n ∧ n0 ≤ p ∧ p < n ∧ (bs = [] ∧ h.get p = some (.cells (some 74) [.pointer none, .slice none 0 0] 2) ∨ ∃ q m, n0 ≤ q ∧ ¬ q = p ∧ q < n ∧ m ≤ bs.length ∧ h.get p = some (bldB p q bs) ∧ h.get q = some (bufB bs m))
theorem writeByte_call {h0 h : AHeap} {n0 n p : Nat} {bs : List UInt8} (hw0 : WF h0 n0) (hB : Bld h0 n0 p bs h n) (hlen : bs.length < 1000000) (c : UInt8) {Q : Value → AHeap → Nat → Prop} {tk : Tok Q}
    (k : ∀ h' n', n ≤ n' → n' ≤ n + 2 → Bld h0 n0 p (bs ++ [c]) h' n' → Q .nilIface h' n') : HasCallT EV02 40 [.pointer (some ⟨p, 0, some 2⟩), .int .u8 (c.toNat : Int)] h n Q tk := by
  obtain ⟨hs, hw, hp0, hpn, hB⟩ := hB
  rcases hB with ⟨rfl, hp⟩ | ⟨q, m, hq0, hqp, hqn, hm, hp, hq⟩
  · with_reducible refine inl40 ?_
    simp -dsimp (discharger := omega) [B40]
    with_reducible refine inl52 ?_
    simp -dsimp (discharger := omega) [B52, AHeap.read_of hp]
    with_reducible refine call_ret (noEscape02 _ _ _) ?_
    simp -dsimp (discharger := omega) [hp, aFill, aAppend, aElems]
    have hnp : ¬ n = p := by omega
    refine k _ _ (by omega) (by omega) ⟨(((hs.new hw0 hp0 _).new hw0 (by omega) _).new hw0 (by omega) _).new hw0 hp0 _, .of fun j hj => by simp (discharger := omega) [hw.none (i := j) (by omega)], hp0, by omega, .inr ⟨n + 1, 1, by omega, by omega, by omega, by simp, by simp [bldB], by simp (discharger := omega) [bufB, u8s]⟩⟩
  · with_reducible refine inl40 ?_
    simp -dsimp (discharger := omega) [B40]
    with_reducible refine inl52 ?_
    simp -dsimp (discharger := omega) [B52, AHeap.read_of hp, bldB]
    simp -dsimp (discharger := omega) [hp, hq, bldB, bufB, aFill, aAppend, aElems]
    have hl : (bs ++ [c]).length = bs.length + 1 := by simp
    have hu : u8s bs ++ [Value.int .u8 (c.toNat : Int)] = u8s (bs ++ [c]) := by simp [u8s]
    have hpq : ¬ p = q := fun e => hqp e.symm
    rw [hu, ← hl]
    refine k _ _ (by omega) (by omega) ⟨((hs.new hw0 (by omega) _).new hw0 hq0 _).new hw0 hp0 _, .of fun j hj => by simp (discharger := omega) [hw.none (i := j) (by omega)], hp0, by omega, .inr ⟨q, m, hq0, hqp, by omega, by omega, by simp [bldB], by simp [hpq, bufB]⟩⟩
end
end Go.Proofs.YtmkfjdajnamoaaaDoor.Am
