/- Contracts and plain facts (LZ). -/
import Derived.Test.YtmmcnholpnediaaDoorLY
namespace Go.Proofs.YtmmcnholpnediaaDoor.Am
noncomputable section
/- CONTRACTS OF GO's LIBRARY: strconv.Atoi, with its errors. -/
def gSyn : Nat := 2
def gRng : Nat := 3
def HasErr (g : Nat) (h : AHeap) : Prop := ∃ t w, h.get g = some (.cells none [.iface t w] 0)
structure HasErrs (h : AHeap) : Prop where
  syn : HasErr gSyn h
  rng : HasErr gRng h
theorem HasErrs.put {h : AHeap} (x : HasErrs h) {i : Nat} (hi : 4096 ≤ i) (b : Blk) : HasErrs (h.put i b) := by
  obtain ⟨⟨t, w, h1⟩, ⟨t2, w2, h2⟩⟩ := x
  refine ⟨⟨t, w, ?_⟩, ⟨t2, w2, ?_⟩⟩
  · rw [AHeap.get_put_ne _ _ (by unfold gSyn; omega)]; exact h1
  · rw [AHeap.get_put_ne _ _ (by unfold gRng; omega)]; exact h2
theorem HasErrs.sub {h h' : AHeap} (x : HasErrs h) (hs : HSub h h') : HasErrs h' := by
  obtain ⟨⟨t, w, h1⟩, ⟨t2, w2, h2⟩⟩ := x
  exact ⟨⟨t, w, hs _ _ h1⟩, ⟨t2, w2, hs _ _ h2⟩⟩
theorem clone_ret {s : List UInt8} (ht : s.length < 100000) {h : AHeap} {n : Nat} (hw : WF h n) : Ret EV15 96 [.string ⟨s.toArray⟩] h n (.string ⟨s.toArray⟩) [] (n + 1) := by
  refine rsx96 (by simp) (by simp) ?_
  by_cases h0 : s = []
  · subst h0
    simp -dsimp (discharger := omega) [B96]
    exact .refl _
  · have hpos : 0 < s.length := List.length_pos_iff.2 h0
    have hd : List.drop s.length (List.replicate s.length (Value.int .u8 0)) = [] := List.drop_of_length_le (by simp)
    simp -dsimp (discharger := omega) [B96, aCopy, aElems, hd]
    exact (((HSub.refl h).new hw (Nat.le_refl n) _).new hw (Nat.le_refl n) _).new hw (Nat.le_refl n) _
theorem synErr_ret {f s : List UInt8} (ht : s.length < 100000) {h : AHeap} {n : Nat} (hw : WF h n) (he : HasErrs h) (hn : 4096 ≤ n) :
    ∃ v, (∃ p, v = .pointer (some p)) ∧ Ret EV15 80 [.string ⟨f.toArray⟩, .string ⟨s.toArray⟩] h n v [] (n + 2) := by
  obtain ⟨⟨t, w, h1⟩, _⟩ := he
  unfold gSyn at h1
  refine rex80 ?_
  simp -dsimp (discharger := omega) [B80]
  with_reducible refine ret_on [] (clone_ret ht (hw.touch [])) ?_
  simp -dsimp (discharger := omega) [h1, AHeap.read_of h1, aFill]
  exact (HSub.refl h).new hw (by omega) _
theorem rngErr_ret {f s : List UInt8} (ht : s.length < 100000) {h : AHeap} {n : Nat} (hw : WF h n) (he : HasErrs h) (hn : 4096 ≤ n) :
    ∃ v, (∃ p, v = .pointer (some p)) ∧ Ret EV15 81 [.string ⟨f.toArray⟩, .string ⟨s.toArray⟩] h n v [] (n + 2) := by
  obtain ⟨_, ⟨t, w, h1⟩⟩ := he
  unfold gRng at h1
  refine rex81 ?_
  simp -dsimp (discharger := omega) [B81]
  with_reducible refine ret_on [] (clone_ret ht (hw.touch [])) ?_
  simp -dsimp (discharger := omega) [h1, AHeap.read_of h1, aFill]
  exact (HSub.refl h).new hw (by omega) _
theorem toError_ret {f s : List UInt8} (ht : s.length < 100000) {h : AHeap} {n : Nat} (hw : WF h n) (he : HasErrs h) (hn : 4096 ≤ n) (b bs : Int) {c : Int} (hc : c = 1 ∨ c = 2) :
    ∃ v, (∃ t w, v = .iface t w) ∧ Ret EV15 67 [.string ⟨f.toArray⟩, .string ⟨s.toArray⟩, .int .i64 b, .int .i64 bs, eIf c] h n v [] (n + 2) := by
  rcases hc with rfl | rfl
  · obtain ⟨v, ⟨p, rfl⟩, hr⟩ := rngErr_ret (f := f) ht hw he hn
    refine rex67 ?_
    simp -dsimp (discharger := omega) [B67, eIf]
    with_reducible refine call_ret hr ?_
    simp -dsimp (discharger := omega) []
    first | exact .refl _ | exact ⟨⟨_, _, rfl⟩, .refl _⟩
  · obtain ⟨v, ⟨p, rfl⟩, hr⟩ := synErr_ret (f := f) ht hw he hn
    refine rex67 ?_
    simp -dsimp (discharger := omega) [B67, eIf]
    with_reducible refine call_ret hr ?_
    simp -dsimp (discharger := omega) []
    first | exact .refl _ | exact ⟨⟨_, _, rfl⟩, .refl _⟩
/-- What Atoi tells. -/
def AV (s : List UInt8) (v : Value) : Prop := ∃ (x : Int) (e : Value), v = .tuple #[.int .i64 x, e] ∧ -9223372036854775808 ≤ x ∧ x < 9223372036854775808 ∧ (atoiO s = some x ∧ e = .nilIface ∨ atoiO s = none ∧ ∃ t w, e = .iface t w)
theorem atoi_ret {s : List UInt8} (ht : s.length < 100000) {h : AHeap} {n : Nat} (hw : WF h n) (he : HasErrs h) (hn : 4096 ≤ n) :
    ∃ v, AV s v ∧ Ret EV15 50 [.string ⟨s.toArray⟩] h n v [] (n + 3) := by
  obtain ⟨v, ⟨x, e, rfl, h0, h1, ⟨ha, rfl⟩ | ⟨ha, c, hc, rfl⟩⟩, hr⟩ := iatoi_ret ht hw
  · refine rex50 ?_
    simp -dsimp (discharger := omega) [B50]
    with_reducible refine call_ret hr ?_
    simp -dsimp (discharger := omega) []
    exact ⟨⟨x, _, rfl, h0, h1, .inl ⟨ha, rfl⟩⟩, .refl _⟩
  · obtain ⟨v, ⟨t, w, rfl⟩, hr2⟩ := toError_ret (f := [65, 116, 111, 105]) ht (n := n + 1) (hw.mono (by omega)) he (by omega) 0 0 hc
    refine rex50 ?_
    simp -dsimp (discharger := omega) [B50]
    with_reducible refine call_ret hr ?_
    have hne : eIf c = .iface 111 (.int .i64 c) := rfl
    rw [hne] at hr2
    simp -dsimp (discharger := omega) [hne]
    with_reducible refine call_ret hr2 ?_
    simp -dsimp (discharger := omega) []
    exact ⟨⟨x, _, rfl, h0, h1, .inr ⟨ha, _, _, rfl⟩⟩, .refl _⟩
end
end Go.Proofs.YtmmcnholpnediaaDoor.Am
