/- Contracts and plain facts (LT). -/
import Derived.Test.YtbgjcoochdljfaaDoorRLA
namespace Go.Proofs.YtbgjcoochdljfaaDoorR.Am
noncomputable section
/- CONTRACTS OF GO's LIBRARY: strconv's readers of numbers. -/
def puOk (t : List UInt8) (M : Nat) (x : Nat) (e : Value) : Prop := x < 18446744073709551616 ∧ ((okU t M = true ∧ x = decV t ∧ e = .nilIface) ∨ (okU t M = false ∧ ∃ c : Int, (c = 1 ∧ x = M ∨ c = 2 ∧ x = 0) ∧ e = eIf c))
def PUV (t : List UInt8) (M : Nat) (v : Value) : Prop := ∃ (x : Nat) (e : Value), puOk t M x e ∧ v = .tuple #[.int .u64 (x : Int), e]
theorem isE {t : List UInt8} (h : t ≠ []) : t.isEmpty = false := by
  cases t with
  | nil => exact absurd rfl h
  | cons a l => rfl
set_option maxRecDepth 100000 in
theorem parseUint_ret {t : List UInt8} (ht : t.length < 100000) {b : Int} {M : Nat} (hb : b = 0 ∧ M = 18446744073709551615 ∨ b = 16 ∧ M = 65535) {h : AHeap} {n : Nat} (hw : WF h n) :
    ∃ v, PUV t M v ∧ Ret EV14 62 [.string ⟨t.toArray⟩, .int .i64 10, .int .i64 b] h n v [] (n + 1) := by
  have hM : M < 18446744073709551616 := by omega
  refine rex62 ?_
  by_cases h0 : t = []
  · subst h0
    simp -dsimp (discharger := omega) [B62]
    exact ⟨⟨0, eIf 2, ⟨by omega, .inr ⟨by rfl, 2, by simp, rfl⟩⟩, rfl⟩, .refl _⟩
  · have hpos : 0 < t.length := List.length_pos_iff.2 h0
    have hem := isE h0
    have sh64 : shlI .u64 1 64 = 0 := rfl
    have sh16 : shlI .u64 1 16 = 65536 := rfl
    have w1 : IntKind.u64.wrap (-1) = 18446744073709551615 := rfl
    have hst : HSub h (h.put n (.cells (some 5) (u8s t) t.length)) := (HSub.refl h).new hw (Nat.le_refl n) _
    have hfin : ∀ {σ' : Fr}, t.all isD = true → decV t ≤ M → PUV t M (.tuple #[.int .u64 ((decV t : Nat) : Int), .nilIface]) := fun h1 h2 => ⟨decV t, .nilIface, ⟨by omega, .inl ⟨by simp only [okU, h1, hem, decT h2]; rfl, rfl, rfl⟩⟩, rfl⟩
    rcases hb with ⟨rfl, rfl⟩ | ⟨rfl, rfl⟩
    · simp -dsimp (discharger := omega) [B62, hem, sh64, w1]
      refine loop_use (pu_loop (t := t) ht (M := 18446744073709551615) (by omega) (z := n) (h0 := h.put n (.cells (some 5) (u8s t) t.length)) (by simp) (n0 := n + 1) t.length [(1, .int .i64 10), (8, .bool false), (9, .string ⟨t.toArray⟩), (10, .int .u64 1844674407370955162), (11, .int .u64 ((18446744073709551615 : Nat) : Int)), (12, .bool false), (13, .int .u64 ((decV (t.take 0) : Nat) : Int)), (99, .slice (some ⟨n, 0, some t.length⟩) t.length 2), (100, .int .i64 (t.length : Int)), (101, .int .i64 ((0 : Nat) : Int))] _ _ ⟨rfl, rfl, 0, by omega, rfl, by simp [decV], rfl⟩) (by simp [decV]) (.refl _) ?_
      rintro e σ' h' n' ⟨rfl, rfl, ⟨rfl, h1, h2, g12, g13⟩ | ⟨rfl, ho, x, c, hx, hc, g6, g7⟩⟩
      · simp -dsimp (discharger := omega) [g12, g13]
        exact ⟨hfin (σ' := σ') h1 h2, hst⟩
      · simp -dsimp (discharger := omega) [g6, g7]
        exact ⟨⟨x, eIf c, ⟨hx, .inr ⟨ho, c, hc, rfl⟩⟩, rfl⟩, hst⟩
    · simp -dsimp (discharger := omega) [B62, hem, sh16]
      refine loop_use (pu_loop (t := t) ht (M := 65535) (by omega) (z := n) (h0 := h.put n (.cells (some 5) (u8s t) t.length)) (by simp) (n0 := n + 1) t.length [(1, .int .i64 10), (8, .bool false), (9, .string ⟨t.toArray⟩), (10, .int .u64 1844674407370955162), (11, .int .u64 ((65535 : Nat) : Int)), (12, .bool false), (13, .int .u64 ((decV (t.take 0) : Nat) : Int)), (99, .slice (some ⟨n, 0, some t.length⟩) t.length 2), (100, .int .i64 (t.length : Int)), (101, .int .i64 ((0 : Nat) : Int))] _ _ ⟨rfl, rfl, 0, by omega, rfl, by simp [decV], rfl⟩) (by simp [decV]) (.refl _) ?_
      rintro e σ' h' n' ⟨rfl, rfl, ⟨rfl, h1, h2, g12, g13⟩ | ⟨rfl, ho, x, c, hx, hc, g6, g7⟩⟩
      · simp -dsimp (discharger := omega) [g12, g13]
        exact ⟨hfin (σ' := σ') h1 h2, hst⟩
      · simp -dsimp (discharger := omega) [g6, g7]
        exact ⟨⟨x, eIf c, ⟨hx, .inr ⟨ho, c, hc, rfl⟩⟩, rfl⟩, hst⟩
end
end Go.Proofs.YtbgjcoochdljfaaDoorR.Am
