/- Contracts and plain facts (LU). -/
import Derived.Test.YtmkfjdajnamoaaaDoorLB
namespace Go.Proofs.YtmkfjdajnamoaaaDoor.Am
noncomputable section
/- CONTRACTS OF GO's LIBRARY: a builder that has its bytes; strings.ToUpper, strings.ToLower of ASCII. -/
theorem writeString_ret {h : AHeap} {n p q m : Nat} {bs : List UInt8} (hp : h.get p = some (bldB p q bs)) (hq : h.get q = some (bufB bs m)) (hm : m ≤ bs.length) (hpq : ¬ p = q) (s : List UInt8) (hlen : bs.length + s.length < 1000000000) :
    Ret EV02 44 [.pointer (some ⟨p, 0, some 2⟩), .string ⟨s.toArray⟩] h n (.tuple #[.int .i64 (s.length : Int), .nilIface]) [(q, bufB (bs ++ s) m), (p, bldB p q (bs ++ s))] n := by
  refine rsx44 (by simp; omega) (by simp [hp, hq]) ?_
  have hqp : ¬ q = p := fun e => hpq e.symm
  simp -dsimp (discharger := omega) [B44]
  with_reducible refine inl52 ?_
  simp -dsimp (discharger := omega) [B52, AHeap.read_of hp, bldB]
  cases s with
  | nil =>
    simp -dsimp (discharger := omega) [aAppend, aElems, hp, bldB]
    exact .ofE (.left (.inr (by simp)) (.left (.inr (by simp [hpq, hq])) (.right (.inl (by simp)) (.refl _ _))))
  | cons a s =>
    simp -dsimp (discharger := omega) [aAppend, aElems, hqp, hp, hq, bldB, bufB]
    simp only [List.length_cons] at hlen
    exact ⟨by omega, .eq (by rw [u8s_append])⟩
theorem grow_ret {h : AHeap} {n p : Nat} (hp : h.get p = some (.cells (some 74) [.pointer none, .slice none 0 0] 2)) (hw : WF h n) {k : Int} (h0 : 0 < k) (h1 : k < 1000000000) :
    Ret EV02 43 [.pointer (some ⟨p, 0, some 2⟩), .int .i64 k] h n (.tuple #[]) [(n, bufB [] 0), (p, bldB p n [])] (n + 1) := by
  have hlt := hw.lt hp
  refine rsx43 (by simp; omega) (by simp [hp]) ?_
  simp -dsimp (discharger := omega) [B43]
  with_reducible refine inl52 ?_
  simp -dsimp (discharger := omega) [B52, AHeap.read_of hp]
  with_reducible refine call_ret (noEscape02 _ _ _) ?_
  simp -dsimp (discharger := omega) [hp]
  with_reducible refine inl53 ?_
  simp -dsimp (discharger := omega) [B53]
  with_reducible refine ret_ret (makeNoZero02 (by omega) (by omega) _ _) ?_
  simp -dsimp (discharger := omega) [aCopy, aElems]
  have hne : ¬ n = p := by omega
  have hne' : ¬ p = n := by omega
  exact ⟨hne, .ofE (.left (.inr (by simp [bldB])) (.left (.inr (by simp [hne', bufB])) (.right (.inl (by simp)) (.right (.inl (by simp)) (.right (.inl (by simp)) (.refl _ _))))))⟩
/-- A builder with a buffer of its own. -/
def BldO (h0 : AHeap) (n0 p : Nat) (bs : List UInt8) (h : AHeap) (n : Nat) : Prop :=
  HSub h0 h ∧ WF h n ∧ n0 ≤ p ∧ p < n ∧ ∃ q m, n0 ≤ q ∧ ¬ q = p ∧ q < n ∧ m ≤ bs.length ∧ h.get p = some (bldB p q bs) ∧ h.get q = some (bufB bs m)
theorem bldO_grow {h0 h : AHeap} {n0 n p : Nat} (hw0 : WF h0 n0) (hs : HSub h0 h) (hw : WF h n) (hp0 : n0 ≤ p) (hpn : p < n) (hp : h.get p = some (.cells (some 74) [.pointer none, .slice none 0 0] 2)) {k : Int} (h0k : 0 < k) (h1k : k < 1000000000) {Q : Value → AHeap → Nat → Prop} {tk : Tok Q}
    (c : ∀ h', BldO h0 n0 p [] h' (n + 1) → Q (.tuple #[]) h' (n + 1)) : HasCallT EV02 43 [.pointer (some ⟨p, 0, some 2⟩), .int .i64 k] h n Q tk :=
  call_ret (grow_ret hp hw h0k h1k) (c _ ⟨(hs.new hw0 (by omega) _).new hw0 hp0 _, .of fun j hj => by simp (discharger := omega) [putsL, hw.none (i := j) (by omega)], hp0, by omega, n, 0, by omega, by omega, by omega, by simp, by simp [putsL], by simp (discharger := omega) [putsL, bufB]⟩)
theorem bldO_string {h0 h : AHeap} {n0 n p : Nat} {bs : List UInt8} (hw0 : WF h0 n0) (hB : BldO h0 n0 p bs h n) (s : List UInt8) (hlen : bs.length + s.length < 1000000000) {Q : Value → AHeap → Nat → Prop} {tk : Tok Q}
    (c : ∀ v h', BldO h0 n0 p (bs ++ s) h' n → Q v h' n) : HasCallT EV02 44 [.pointer (some ⟨p, 0, some 2⟩), .string ⟨s.toArray⟩] h n Q tk := by
  obtain ⟨hs, hw, hp0, hpn, q, m, hq0, hqp, hqn, hm, hp, hq⟩ := hB
  have hpq : ¬ p = q := fun e => hqp e.symm
  refine call_ret (writeString_ret hp hq hm hpq s hlen) (c _ _ ⟨(hs.new hw0 hq0 _).new hw0 hp0 _, .of fun j hj => by simp (discharger := omega) [putsL, hw.none (i := j) (by omega)], hp0, hpn, q, m, hq0, hqp, hqn, by simp; omega, by simp [putsL], by simp [putsL, hpq]⟩)
theorem bldO_byte {h0 h : AHeap} {n0 n p : Nat} {bs : List UInt8} (hw0 : WF h0 n0) (hB : BldO h0 n0 p bs h n) (hlen : bs.length < 1000000) (c : UInt8) {Q : Value → AHeap → Nat → Prop} {tk : Tok Q}
    (k : ∀ v h', BldO h0 n0 p (bs ++ [c]) h' (n + 1) → Q v h' (n + 1)) : HasCallT EV02 40 [.pointer (some ⟨p, 0, some 2⟩), .int .u8 (c.toNat : Int)] h n Q tk := by
  obtain ⟨hs, hw, hp0, hpn, q, m, hq0, hqp, hqn, hm, hp, hq⟩ := hB
  with_reducible refine inl40 ?_
  simp -dsimp (discharger := omega) [B40]
  with_reducible refine inl52 ?_
  simp -dsimp (discharger := omega) [B52, AHeap.read_of hp, bldB]
  simp -dsimp (discharger := omega) [hp, hq, bldB, bufB, aFill, aAppend, aElems]
  have hl : (bs ++ [c]).length = bs.length + 1 := by simp
  have hu : u8s bs ++ [Value.int .u8 (c.toNat : Int)] = u8s (bs ++ [c]) := by simp [u8s]
  have hpq : ¬ p = q := fun e => hqp e.symm
  rw [hu, ← hl]
  exact k _ _ ⟨((hs.new hw0 (by omega) _).new hw0 hq0 _).new hw0 hp0 _, .of fun j hj => by simp (discharger := omega) [hw.none (i := j) (by omega)], hp0, by omega, q, m, hq0, hqp, by omega, by omega, by simp [bldB], by simp [hpq, bufB]⟩
end
end Go.Proofs.YtmkfjdajnamoaaaDoor.Am
