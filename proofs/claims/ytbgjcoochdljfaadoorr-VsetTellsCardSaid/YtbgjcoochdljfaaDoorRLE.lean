/- Contracts and plain facts (LE). -/
import Derived.Test.YtbgjcoochdljfaaDoorRLT
namespace Go.Proofs.YtbgjcoochdljfaaDoorR.Am
noncomputable section
/- CONTRACTS OF GO's LIBRARY: strconv's errors. -/
def gSyn : Nat := 5
def gRng : Nat := 6
def HasErr (g : Nat) (h : AHeap) : Prop := ∃ t w, h.get g = some (.cells none [.iface t w] 0)
structure HasErrs (h : AHeap) : Prop where
  syn : HasErr gSyn h
  rng : HasErr gRng h
theorem HasErrs.put {h : AHeap} (x : HasErrs h) {i : Nat} (hi : 4096 ≤ i) (b : Blk) : HasErrs (h.put i b) := by
  obtain ⟨⟨t, w, h1⟩, ⟨t2, w2, h2⟩⟩ := x
  refine ⟨⟨t, w, ?_⟩, ⟨t2, w2, ?_⟩⟩
  · rw [AHeap.get_put_ne _ _ (by unfold gSyn; omega)]; exact h1
  · rw [AHeap.get_put_ne _ _ (by unfold gRng; omega)]; exact h2
theorem HasErrs.sub {h h' : AHeap} (x : HasErrs h) (hs : HSub h h') : HasErrs h' := by
  obtain ⟨⟨t, w, h1⟩, ⟨t2, w2, h2⟩⟩ := x
  exact ⟨⟨t, w, hs _ _ h1⟩, ⟨t2, w2, hs _ _ h2⟩⟩
theorem clone_ret {s : List UInt8} (ht : s.length < 100000) {h : AHeap} {n : Nat} (hw : WF h n) : Ret EV14 88 [.string ⟨s.toArray⟩] h n (.string ⟨s.toArray⟩) [] (n + 1) := by
  refine rsx88 (by simp) (by simp) ?_
  by_cases h0 : s = []
  · subst h0
    simp -dsimp (discharger := omega) [B88]
    exact .refl _
  · have hpos : 0 < s.length := List.length_pos_iff.2 h0
    have hd : List.drop s.length (List.replicate s.length (Value.int .u8 0)) = [] := List.drop_of_length_le (by simp)
    simp -dsimp (discharger := omega) [B88, aCopy, aElems, hd]
    exact (((HSub.refl h).new hw (Nat.le_refl n) _).new hw (Nat.le_refl n) _).new hw (Nat.le_refl n) _
theorem synErr_ret {f s : List UInt8} (ht : s.length < 100000) {h : AHeap} {n : Nat} (hw : WF h n) (he : HasErrs h) (_hn : 4096 ≤ n) :
    ∃ v, (∃ p, v = .pointer (some p)) ∧ Ret EV14 77 [.string ⟨f.toArray⟩, .string ⟨s.toArray⟩] h n v [] (n + 2) := by
  obtain ⟨⟨t, w, h1⟩, _⟩ := he
  unfold gSyn at h1
  refine rex77 ?_
  simp -dsimp (discharger := omega) [B77]
  with_reducible refine ret_on [] (clone_ret ht (hw.touch [])) ?_
  simp -dsimp (discharger := omega) [h1, AHeap.read_of h1, aFill]
  exact (HSub.refl h).new hw (by omega) _
theorem rngErr_ret {f s : List UInt8} (ht : s.length < 100000) {h : AHeap} {n : Nat} (hw : WF h n) (he : HasErrs h) (_hn : 4096 ≤ n) :
    ∃ v, (∃ p, v = .pointer (some p)) ∧ Ret EV14 78 [.string ⟨f.toArray⟩, .string ⟨s.toArray⟩] h n v [] (n + 2) := by
  obtain ⟨_, ⟨t, w, h1⟩⟩ := he
  unfold gRng at h1
  refine rex78 ?_
  simp -dsimp (discharger := omega) [B78]
  with_reducible refine ret_on [] (clone_ret ht (hw.touch [])) ?_
  simp -dsimp (discharger := omega) [h1, AHeap.read_of h1, aFill]
  exact (HSub.refl h).new hw (by omega) _
theorem toError_ret {f s : List UInt8} (ht : s.length < 100000) {h : AHeap} {n : Nat} (hw : WF h n) (he : HasErrs h) (hn : 4096 ≤ n) (b bs : Int) {c : Int} (hc : c = 1 ∨ c = 2) :
    ∃ v, (∃ t w, v = .iface t w) ∧ Ret EV14 63 [.string ⟨f.toArray⟩, .string ⟨s.toArray⟩, .int .i64 b, .int .i64 bs, eIf c] h n v [] (n + 2) := by
  rcases hc with rfl | rfl
  · obtain ⟨v, ⟨p, rfl⟩, hr⟩ := rngErr_ret (f := f) ht hw he hn
    refine rex63 ?_
    simp -dsimp (discharger := omega) [B63, eIf]
    with_reducible refine call_ret hr ?_
    simp -dsimp (discharger := omega) []
    first | exact .refl _ | exact ⟨⟨_, _, rfl⟩, .refl _⟩
  · obtain ⟨v, ⟨p, rfl⟩, hr⟩ := synErr_ret (f := f) ht hw he hn
    refine rex63 ?_
    simp -dsimp (discharger := omega) [B63, eIf]
    with_reducible refine call_ret hr ?_
    simp -dsimp (discharger := omega) []
    first | exact .refl _ | exact ⟨⟨_, _, rfl⟩, .refl _⟩
/-- What ParseUint of base ten, sixteen bits, tells. -/
def PUV16 (t : List UInt8) (v : Value) : Prop := ∃ (x : Nat) (e : Value), v = .tuple #[.int .u64 (x : Int), e] ∧ x < 65536 ∧ (okU t 65535 = true ∧ x = decV t ∧ e = .nilIface ∨ okU t 65535 = false ∧ ∃ ty w, e = .iface ty w)
theorem parseUint16_ret {s : List UInt8} (ht : s.length < 100000) {h : AHeap} {n : Nat} (hw : WF h n) (he : HasErrs h) (hn : 4096 ≤ n) :
    ∃ v, PUV16 s v ∧ Ret EV14 53 [.string ⟨s.toArray⟩, .int .i64 10, .int .i64 16] h n v [] (n + 3) := by
  obtain ⟨v, ⟨x, e, ⟨hx, hc⟩, rfl⟩, hr⟩ := parseUint_ret (b := 16) (M := 65535) ht (.inr ⟨rfl, rfl⟩) (n := n) hw
  rcases hc with ⟨ho, hxv, rfl⟩ | ⟨ho, c, hc, rfl⟩
  · have hx2 : x < 65536 := by
      unfold okU at ho
      simp only [Bool.and_eq_true, decide_eq_true_eq] at ho
      omega
    refine rex53 ?_
    simp -dsimp (discharger := omega) [B53]
    with_reducible refine call_ret hr ?_
    simp -dsimp (discharger := omega) []
    exact ⟨⟨x, _, rfl, hx2, .inl ⟨ho, hxv, rfl⟩⟩, .refl _⟩
  · have hx2 : x < 65536 := by omega
    obtain ⟨v, ⟨t, w, rfl⟩, hr2⟩ := toError_ret (f := [80, 97, 114, 115, 101, 85, 105, 110, 116]) ht (n := n + 1) (hw.mono (by omega)) he (by omega) 10 16 (c := c) (by omega)
    refine rex53 ?_
    simp -dsimp (discharger := omega) [B53]
    with_reducible refine call_ret hr ?_
    have hne : eIf c = .iface 107 (.int .i64 c) := rfl
    rw [hne] at hr2
    simp -dsimp (discharger := omega) [hne]
    with_reducible refine call_ret hr2 ?_
    simp -dsimp (discharger := omega) []
    exact ⟨⟨x, _, rfl, hx2, .inr ⟨ho, _, _, rfl⟩⟩, .refl _⟩
end
end Go.Proofs.YtbgjcoochdljfaaDoorR.Am
