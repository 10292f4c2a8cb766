/- Contracts and plain facts (LX). -/
import Derived.Test.YtkaibjdogeikbaaDoorLS
namespace Go.Proofs.YtkaibjdogeikbaaDoor.Am
noncomputable section
/- CONTRACTS OF GO's LIBRARY: slices of strings. -/
def idxI (s : List UInt8) : List (List UInt8) → Nat → Int
  | [], _ => -1
  | x :: l, j => if s = x then (j : Int) else idxI s l (j + 1)
theorem idxI_drop (s : List UInt8) (ss : List (List UInt8)) {j : Nat} {x : List UInt8} (hx : ss[j]? = some x) : idxI s (ss.drop j) j = if s = x then (j : Int) else idxI s (ss.drop (j + 1)) (j + 1) := by
  obtain ⟨hlt, rfl⟩ := List.getElem?_eq_some_iff.1 hx
  rw [List.drop_eq_getElem_cons hlt]; rfl
theorem index_loop {ss : List (List UInt8)} {h0 : AHeap} {i o g k : Nat} (hr : h0.read i g o ss.length = some (strsL ss)) (hlen : ss.length < 1000000) (s : List UInt8) (n0 : Nat) :
    ∀ (m : Nat) (σ : Fr) (h : AHeap) (n : Nat), (h = h0 ∧ n = n0 ∧ ∃ j, j + m = ss.length ∧ idxI s ss 0 = idxI s (ss.drop j) j ∧ σ = [(0, .slice (some ⟨i, o, some g⟩) ss.length k), (1, .string ⟨s.toArray⟩), (7, .int .i64 (ss.length : Int)), (8, .int .i64 (j : Int))]) →
      HasCode EV07 (.loop F36L0) σ h n fun e σ' h' n' => h' = h0 ∧ n' = n0 ∧ (e = .exit 0 ∧ idxI s ss 0 = -1 ∨ e = .ret ∧ σ'.get 4 = some (.int .i64 (idxI s ss 0))) := by
  refine wx_inv _ fun m σ h n hI => ?_
  obtain ⟨rfl, rfl, j, hj, hix, rfl⟩ := hI
  cases m with
  | zero =>
    have hjl : j = ss.length := by omega
    subst hjl
    simp -dsimp (discharger := omega) [F36L0]
    rw [hix]; simp [idxI]
  | succ m =>
    have hlt : j < ss.length := by omega
    obtain ⟨x, hx⟩ : ∃ x, ss[j]? = some x := ⟨_, List.getElem?_eq_getElem hlt⟩
    have hrd := read_one hr (strsL_get? hx) hlt
    rw [idxI_drop s ss hx] at hix
    simp -dsimp (discharger := omega) [F36L0, hrd]
    refine Test.split (fun hc => ?_) (fun hc => ?_)
    · have : s = x := by simpa using hc
      rw [if_pos this] at hix
      simp -dsimp (discharger := omega) [hix]
    · have : ¬ s = x := by simpa using hc
      rw [if_neg this] at hix
      simp -dsimp (discharger := omega) []
      exact .mk' m (by omega) [(0, .slice (some ⟨i, o, some g⟩) ss.length k), (1, .string ⟨s.toArray⟩), (7, .int .i64 (ss.length : Int)), (8, .int .i64 ((j + 1 : Nat) : Int))] _ (by simp) (.refl _) ⟨rfl, rfl, j + 1, by omega, hix, rfl⟩
theorem sindex_ret {ss : List (List UInt8)} {h : AHeap} {n i o g k : Nat} (hr : h.read i g o ss.length = some (strsL ss)) (hlen : ss.length < 1000000) (s : List UInt8) :
    Ret EV07 36 [.slice (some ⟨i, o, some g⟩) ss.length k, .string ⟨s.toArray⟩] h n (.int .i64 (idxI s ss 0)) [] n := by
  refine rsx36 (by simp) (by simp) ?_
  simp -dsimp (discharger := omega) [B36]
  refine loop_use (index_loop (k := k) hr hlen s n _ _ _ _ ⟨rfl, rfl, 0, Nat.zero_add _, rfl, rfl⟩) (by simp) (.refl _) ?_
  rintro e σ' h' n' ⟨rfl, rfl, ⟨rfl, hi⟩ | ⟨rfl, g4⟩⟩
  · simp -dsimp (discharger := omega) [HSub.refl, hi]
  · simp -dsimp (discharger := omega) [HSub.refl, g4]
end
end Go.Proofs.YtkaibjdogeikbaaDoor.Am
