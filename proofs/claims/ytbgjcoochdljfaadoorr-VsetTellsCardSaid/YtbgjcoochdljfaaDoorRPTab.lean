/- The statement proved (PTab). -/
import Derived.Test.YtbgjcoochdljfaaDoorRPArgs
import Derived.Test.YtbgjcoochdljfaaDoorRX12
namespace Go.Proofs.YtbgjcoochdljfaaDoorR
open Go Go.Proofs.YtbgjcoochdljfaaDoorR.Am Go.ChangeShapes Go.WideShapes Go.RowKit
/- WHAT THE CONDITION GIVES FURTHER: the table of the lowest bits. -/
theorem gTabN : Tryd.prog.globalNamed "math/bits.deBruijn64tab" = some 0 := by kernel_rfl
theorem tTab : (Tryd.prog.globals[0]?).map (·.type) = some 86 := by kernel_rfl
def dbI : List Int := dbT.map fun (x : Nat) => (x : Int)
theorem tabL_eq : tabL = dbI.map fun z => .int .u8 z := by rw [tabL, dbI, List.map_map]; rfl
theorem tab_of {W : World} (h : laidMetH Tryd.prog laidC W) : ∃ cs : Array Value, W.var? Tryd.prog "math/bits.deBruijn64tab" = some cs ∧ cs.toList = tabL := by
  rw [MakeChecks.laidMetH_plain _ _ _ (by kernel_rfl)] at h
  have hP := h.filter (fun x => x.1 == "math/bits.deBruijn64tab")
  rw [show laidC.filter (fun x => x.1 == "math/bits.deBruijn64tab") = [("math/bits.deBruijn64tab", Rows.laid_math_bits_deBruijn64tab)] by kernel_rfl] at hP
  obtain ⟨ps, ⟨g0, t0, cs0, f0, p0, q0, hg0, ht0, hv0, hd0, _, e0⟩, _, _⟩ := hP
  obtain rfl := Option.some.inj (gTabN.symm.trans hg0)
  obtain rfl := Option.some.inj (tTab.symm.trans ht0)
  refine ⟨cs0, hv0, ?_⟩
  have e0 : Rows.laid_math_bits_deBruijn64tab = (.agg (dbI.map fun s => .lit (.int .u8 s)) : DataW Unit) := by kernel_rfl
  rw [e0] at hd0
  rw [tabL_eq]
  exact cells_nums Tryd.underlying86 Tryd.underlying5 (by kernel_rfl) (by kernel_rfl) hd0
def tabS : Seed := (0, ⟨0, 0, false, 0, 0⟩, .cells none tabL 0)
theorem seedsT_ok {W : World} {lS lR : Am.Loc} {sS sR : ByteArray} (G : Given W lS lR sS sR) (hL : laidMetH Tryd.prog laidC W) : ∀ p ∈ seedsC lS lR sS sR [tabS], SeedOk W (seedsC lS lR sS sR [tabS]) p := by
  obtain ⟨cs, hv, hcs⟩ := tab_of hL
  refine seedsC_ok G fun p hp => ?_
  obtain rfl := List.mem_singleton.1 hp
  exact seed_cells gTabN hv hcs (var?_lt gTabN hv) (by decide) (fun v hv => ⟨v, rfl, by
    rw [tabL] at hv
    obtain ⟨s, _, rfl⟩ := List.mem_map.1 hv
    exact .int _ _⟩)
theorem seedsT_gm (lS lR : Am.Loc) (sS sR : ByteArray) : Gm (heap0 (seedsC lS lR sS sR [tabS])) := ⟨⟨rfl, rfl⟩, seedsC_err lS lR sS sR [tabS]⟩
theorem seedsT_wf (lS lR : Am.Loc) (sS sR : ByteArray) : WF (heap0 (seedsC lS lR sS sR [tabS])) 4098 := seedsC_wf lS lR sS sR (by decide) (fun i hi => by
  simp only [tabS, heap0, List.map_cons, List.map_nil, AHeap.get_cons]
  rw [if_neg (by omega)]; rfl)
theorem seedsT_lt (lS lR : Am.Loc) (sS sR : ByteArray) : ∀ p ∈ seedsC lS lR sS sR [tabS], p.1 < 4098 := seedsC_lt lS lR sS sR (by decide) (fun p hp => by
  obtain rfl := List.mem_singleton.1 hp
  show 0 < 4098; omega)
end Go.Proofs.YtbgjcoochdljfaaDoorR
