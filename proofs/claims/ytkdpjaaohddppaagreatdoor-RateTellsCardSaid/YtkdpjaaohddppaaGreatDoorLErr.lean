/- Contracts and plain facts (LErr). -/
import Derived.Test.YtkdpjaaohddppaaGreatDoorG
import Derived.Test.YtkdpjaaohddppaaGreatDoorE
import Derived.Test.YtkdpjaaohddppaaGreatDoorL1
namespace Go.Proofs.YtkdpjaaohddppaaGreatDoor.Am
noncomputable section
/- CONTRACTS OF GO's LIBRARY: strconv's errors. -/
def gSyn : Nat := 3
def gRng : Nat := 4
def HasErr (g : Nat) (h : AHeap) : Prop := ∃ t w,h.get g = some (.cells none [.iface t w] 0)
structure HasErrs (h : AHeap) : Prop where
  syn : HasErr gSyn h
  rng : HasErr gRng h
theorem clone_ret {s : List UInt8} (ht : s.length < 100000) {h : AHeap} {n : Nat} (hw : WF h n) : Ret EV61 68 [.string ⟨s.toArray⟩] h n (.string ⟨s.toArray⟩) [] (n + 1) := by
  refine rsx68 (by simp) (by simp) ?_
  by_cases h0 : s = []
  · subst h0
    simp -dsimp (discharger := omega) [B68]
    exact .refl _
  · have hpos : 0 < s.length := List.length_pos_iff.2 h0
    have hd : List.drop s.length (List.replicate s.length (Value.int .u8 0)) = [] := List.drop_of_length_le (by simp)
    simp -dsimp (discharger := omega) [B68,aCopy,aElems,hd]
    exact (((HSub.refl h).new hw (Nat.le_refl n) _).new hw (Nat.le_refl n) _).new hw (Nat.le_refl n) _
theorem synErr_ret {f s : List UInt8} (ht : s.length < 100000) {h : AHeap} {n : Nat} (hw : WF h n) (he : HasErrs h) (_hn : 4096 ≤ n) :
    ∃ v,(∃ p,v = .pointer (some p)) ∧ Ret EV61 51 [.string ⟨f.toArray⟩, .string ⟨s.toArray⟩] h n v [] (n + 2) := by
  obtain ⟨⟨t,w,h1⟩,_⟩ := he
  unfold gSyn at h1
  refine rex51 ?_
  simp -dsimp (discharger := omega) [B51]
  with_reducible refine ret_on [] (clone_ret ht (hw.touch [])) ?_
  simp -dsimp (discharger := omega) [h1,AHeap.read_of h1,aFill]
  exact (HSub.refl h).new hw (by omega) _
theorem rngErr_ret {f s : List UInt8} (ht : s.length < 100000) {h : AHeap} {n : Nat} (hw : WF h n) (he : HasErrs h) (_hn : 4096 ≤ n) :
    ∃ v,(∃ p,v = .pointer (some p)) ∧ Ret EV61 52 [.string ⟨f.toArray⟩, .string ⟨s.toArray⟩] h n v [] (n + 2) := by
  obtain ⟨_,⟨t,w,h1⟩⟩ := he
  unfold gRng at h1
  refine rex52 ?_
  simp -dsimp (discharger := omega) [B52]
  with_reducible refine ret_on [] (clone_ret ht (hw.touch [])) ?_
  simp -dsimp (discharger := omega) [h1,AHeap.read_of h1,aFill]
  exact (HSub.refl h).new hw (by omega) _
def eIf (c : Int) : Value := .iface 74 (.int .i64 c)
theorem toError_ret {f s : List UInt8} (ht : s.length < 100000) {h : AHeap} {n : Nat} (hw : WF h n) (he : HasErrs h) (hn : 4096 ≤ n) (b bs : Int) {c : Int} (hc : c = 1 ∨ c = 2) :
    ∃ v,(∃ t w,v = .iface t w) ∧ Ret EV61 34 [.string ⟨f.toArray⟩, .string ⟨s.toArray⟩, .int .i64 b, .int .i64 bs,eIf c] h n v [] (n + 2) := by
  rcases hc with rfl | rfl
  · obtain ⟨v,⟨p,rfl⟩,hr⟩ := rngErr_ret (f := f) ht hw he hn
    refine rex34 ?_
    simp -dsimp (discharger := omega) [B34,eIf]
    with_reducible refine call_ret hr ?_
    simp -dsimp (discharger := omega) []
    first | exact .refl _ | exact ⟨⟨_,_,rfl⟩, .refl _⟩
  · obtain ⟨v,⟨p,rfl⟩,hr⟩ := synErr_ret (f := f) ht hw he hn
    refine rex34 ?_
    simp -dsimp (discharger := omega) [B34,eIf]
    with_reducible refine call_ret hr ?_
    simp -dsimp (discharger := omega) []
    first | exact .refl _ | exact ⟨⟨_,_,rfl⟩, .refl _⟩
end
end Go.Proofs.YtkdpjaaohddppaaGreatDoor.Am
