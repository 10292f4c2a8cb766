/- The statement proved (PTabD). -/
import Derived.Test.YtbgjcoochdljfaaDoorRPTab
import Derived.Test.YtbgjcoochdljfaaDoorRX26
namespace Go.Proofs.YtbgjcoochdljfaaDoorR
open Go Go.Proofs.YtbgjcoochdljfaaDoorR.Am Go.ChangeShapes Go.WideShapes Go.RowKit
/- THE CALLS' LISTS AS ARGUMENTS. -/
def rowsS (i : Nat) (l : Am.Loc) (rs : List (List Int)) : Seed := (i, l, .cells none (rowsL ksD rs) 0)
theorem seedsU_ok {W : World} {lS lR : Am.Loc} {sS sR : ByteArray} (G : Given W lS lR sS sR) (hL : laidMetH Tryd.prog laidC W) {l : List Seed} (hl : ∀ p ∈ l, SeedOk W (seedsC lS lR sS sR (tabS :: l)) p) : ∀ p ∈ seedsC lS lR sS sR (tabS :: l), SeedOk W (seedsC lS lR sS sR (tabS :: l)) p := by
  obtain ⟨cs, hv, hcs⟩ := tab_of hL
  refine seedsC_ok G fun p hp => ?_
  rcases List.mem_cons.1 hp with rfl | hp
  · exact seed_cells gTabN hv hcs (var?_lt gTabN hv) (by decide) (fun v hv => ⟨v, rfl, by
      rw [tabL] at hv
      obtain ⟨s, _, rfl⟩ := List.mem_map.1 hv
      exact .int _ _⟩)
  · exact hl p hp
theorem seedsU_gm (lS lR : Am.Loc) (sS sR : ByteArray) (l : List Seed) : Gm (heap0 (seedsC lS lR sS sR (tabS :: l))) := ⟨⟨rfl, rfl⟩, seedsC_err lS lR sS sR (tabS :: l)⟩
theorem seedsU_wf (lS lR : Am.Loc) (sS sR : ByteArray) {l : List Seed} {n : Nat} (hn : 4098 ≤ n) (hl : WF (heap0 l) n) : WF (heap0 (seedsC lS lR sS sR (tabS :: l))) n := seedsC_wf lS lR sS sR hn (fun i hi => by
  have := hl i hi
  simp only [tabS, heap0, List.map_cons, AHeap.get_cons] at this ⊢
  rw [if_neg (by omega)]; exact this)
theorem seedsU_lt (lS lR : Am.Loc) (sS sR : ByteArray) {l : List Seed} {n : Nat} (hn : 4098 ≤ n) (hl : ∀ p ∈ l, p.1 < n) : ∀ p ∈ seedsC lS lR sS sR (tabS :: l), p.1 < n := seedsC_lt lS lR sS sR hn (fun p hp => by
  rcases List.mem_cons.1 hp with rfl | hp
  · show 0 < n; omega
  · exact hl p hp)
theorem rows_val {W : World} {v : Value} {rs : List (List Int)} {l : Am.Loc} (x : RArg W v ksD rs l) {s : List Seed} {i : Nat} (hi : lookS s i = some (l, .cells none (rowsL ksD rs) 0)) (hg : (heap0 s).get i = some (.cells none (rowsL ksD rs) 0)) :
    ∃ u, RowsD rs u (heap0 s) ∧ VRel (phi0 s) u v ∧ u.oneCell' = true := by
  obtain ⟨u, h1, h2, h3⟩ := x.val hi
  exact ⟨u, h1.imp (fun x => x) (fun e => ⟨i, e, hg⟩), h2, h3⟩
end Go.Proofs.YtbgjcoochdljfaaDoorR
