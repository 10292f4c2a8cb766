/- The statement proved (PArgs). -/
import Derived.Test.YtkdpjaaohddppaaGreatDoorS
import Derived.Test.YtkdpjaaohddppaaGreatDoorD9
import Derived.Test.YtkdpjaaohddppaaGreatDoorLErr
import Derived.Test.YtkdpjaaohddppaaGreatDoorLN
import Derived.Test.YtkdpjaaohddppaaGreatDoorDV
import Derived.Test.YtkdpjaaohddppaaGreatDoorY2
import Derived.Test.YtkdpjaaohddppaaGreatDoorChecked
import Derived.WalkKit
import Derived.ProofKit
import Derived.OpenShut
namespace Go.Proofs.YtkdpjaaohddppaaGreatDoor
open Go Go.Proofs.YtkdpjaaohddppaaGreatDoor.Am Go.ChangeShapes Go.WideShapes Go.RowKit
/- WHAT THE CONDITION OF THE CHAPTER's ROWS GIVES: the table of powers,the two errors. -/
def laidC : List (String × DataW Unit) := Rows.rateTellsRow.laid
theorem gSynN : Tryz.prog.globalNamed "strconv.ErrSyntax" = some 3 := by kernel_rfl
theorem gRngN : Tryz.prog.globalNamed "strconv.ErrRange" = some 4 := by kernel_rfl
theorem gPowN : Tryz.prog.globalNamed "internal/strconv.uint64pow10" = some 8 := by kernel_rfl
theorem tSyn : (Tryz.prog.globals[3]?).map (·.type) = some 41 := by kernel_rfl
theorem tRng : (Tryz.prog.globals[4]?).map (·.type) = some 41 := by kernel_rfl
theorem tPow : (Tryz.prog.globals[8]?).map (·.type) = some 157 := by kernel_rfl
theorem starE : "*" ++ "errors.errorString" = "*errors.errorString" := by decide
theorem rowE (u : TypeId) (h : Tryz.prog.typeName? 3 u = some "*errors.errorString") : u = 141 :=
  typeName_ptr_named (nm := "errors.errorString") (by rw [starE]; kernel_rfl) (by kernel_rfl) (by decide) u (by rw [starE]; exact h)
theorem powT_eq : powT = ([1,10,100,1000,10000,100000,1000000,10000000,100000000,1000000000,10000000000,100000000000,1000000000000,10000000000000,100000000000000,1000000000000000,10000000000000000,100000000000000000,1000000000000000000,10000000000000000000] : List Int).map fun z => .int .u64 z := rfl
structure Given (W : World) (lS lR : Am.Loc) (sS sR : ByteArray) : Prop where
  syn : W.var? Tryz.prog "strconv.ErrSyntax" = some #[.iface 141 (.pointer (some ⟨lS.block, lS.off + 0, none⟩))]
  rng : W.var? Tryz.prog "strconv.ErrRange" = some #[.iface 141 (.pointer (some ⟨lR.block, lR.off + 0, none⟩))]
  oS : lS.own = false
  oR : lR.own = false
  bS : lS.block < W.heap.size
  bR : lR.block < W.heap.size
  cS : W.cell? ⟨lS.block, lS.off + 0, none⟩ = some (.string sS)
  cR : W.cell? ⟨lR.block, lR.off + 0, none⟩ = some (.string sR)
  pos : 0 < W.heap.size
  pow : ∃ cs : Array Value, W.var? Tryz.prog "internal/strconv.uint64pow10" = some cs ∧ cs.toList = powT
theorem given_of {W : World} (h : laidMetH Tryz.prog laidC W) : ∃ lS lR sS sR, Given W lS lR sS sR := by
  rw [MakeChecks.laidMetH_plain _ _ _ (by kernel_rfl)] at h
  have hS := h.filter (fun x => x.1 == "strconv.ErrSyntax")
  rw [show laidC.filter (fun x => x.1 == "strconv.ErrSyntax") = [("strconv.ErrSyntax", Rows.laid_strconv_ErrSyntax)] by kernel_rfl] at hS
  have hR := h.filter (fun x => x.1 == "strconv.ErrRange")
  rw [show laidC.filter (fun x => x.1 == "strconv.ErrRange") = [("strconv.ErrRange", Rows.laid_strconv_ErrRange)] by kernel_rfl] at hR
  have hP := h.filter (fun x => x.1 == "internal/strconv.uint64pow10")
  rw [show laidC.filter (fun x => x.1 == "internal/strconv.uint64pow10") = [("internal/strconv.uint64pow10", Rows.laid_internal_strconv_uint64pow10)] by kernel_rfl] at hP
  obtain ⟨lS, sS, a1, a2, a3, a4⟩ := sentinel_at hS gSynN tSyn Tryz.underlying41 rowE Tryz.underlying141 Tryz.underlying143 rfl rfl Tryz.underlying9 (by kernel_rfl) (by kernel_rfl)
  obtain ⟨lR, sR, b1, b2, b3, b4⟩ := sentinel_at hR gRngN tRng Tryz.underlying41 rowE Tryz.underlying141 Tryz.underlying143 rfl rfl Tryz.underlying9 (by kernel_rfl) (by kernel_rfl)
  obtain ⟨ps, ⟨g0, t0, cs0, f0, p0, q0, hg0, ht0, hv0, hd0, _, e0⟩, _, _⟩ := hP
  obtain rfl := Option.some.inj (gPowN.symm.trans hg0)
  obtain rfl := Option.some.inj (tPow.symm.trans ht0)
  refine ⟨lS, lR, sS, sR, ⟨a3, b3, a1, b1, a2, b2, a4, b4, by omega, cs0, hv0, ?_⟩⟩
  have e0 : Rows.laid_internal_strconv_uint64pow10 = (.agg (([1, 10, 100, 1000, 10000, 100000, 1000000, 10000000, 100000000, 1000000000, 10000000000, 100000000000, 1000000000000, 10000000000000, 100000000000000, 1000000000000000, 10000000000000000, 100000000000000000, 1000000000000000000, 10000000000000000000] : List Int).map fun s => .lit (.int .u64 s)) : DataW Unit) := rfl
  rw [e0] at hd0
  rw [powT_eq]
  exact cells_nums Tryz.underlying157 Tryz.underlying22 (by kernel_rfl) (by kernel_rfl) hd0
def seedsC (lS lR : Am.Loc) (sS sR : ByteArray) (l : List Seed) : List Seed :=
  (3,⟨3,0,false,0,0⟩, .cells none [.iface 141 (.pointer (some ⟨4096,0,some 1⟩))] 0) :: (4,⟨4,0,false,0,0⟩, .cells none [.iface 141 (.pointer (some ⟨4097,0,some 1⟩))] 0) ::
  (8,⟨8,0,false,0,0⟩, .cells none powT 0) :: (4096,lS, .cells none [.string sS] 0) :: (4097,lR, .cells none [.string sR] 0) :: l
theorem seedsC_ok {W : World} {lS lR : Am.Loc} {sS sR : ByteArray} (G : Given W lS lR sS sR) {l : List Seed} (hl : ∀ p ∈ l,SeedOk W (seedsC lS lR sS sR l) p) : ∀ p ∈ seedsC lS lR sS sR l,SeedOk W (seedsC lS lR sS sR l) p := by
  intro p hp
  obtain ⟨cs,hv,hcs⟩ := G.pow
  unfold seedsC at hp
  simp only [List.mem_cons] at hp
  rcases hp with rfl | rfl | rfl | rfl | rfl | hp
  · exact sent_seed gSynN G.syn (var?_lt gSynN G.syn) rfl
  · exact sent_seed gRngN G.rng (var?_lt gRngN G.rng) rfl
  · exact seed_cells gPowN hv hcs (var?_lt gPowN hv) (by decide) (fun v hv => ⟨v,rfl,by
      obtain ⟨s,_,rfl⟩ := List.mem_map.1 hv
      exact .int _ _⟩)
  · exact text_seed G.oS G.bS (by omega) G.cS
  · exact text_seed G.oR G.bR (by omega) G.cR
  · exact hl p hp
theorem seedsC_pow (lS lR : Am.Loc) (sS sR : ByteArray) (l : List Seed) : HasPow (heap0 (seedsC lS lR sS sR l)) := rfl
theorem seedsC_err (lS lR : Am.Loc) (sS sR : ByteArray) (l : List Seed) : HasErrs (heap0 (seedsC lS lR sS sR l)) := ⟨⟨141,_,rfl⟩,⟨141,_,rfl⟩⟩
theorem seedsC_wf (lS lR : Am.Loc) (sS sR : ByteArray) {l : List Seed} {n : Nat} (hn : 4098 ≤ n) (hl : WF (heap0 l) n) : WF (heap0 (seedsC lS lR sS sR l)) n := fun i hi => by
  have := hl i hi
  simp only [seedsC,heap0,List.map_cons,AHeap.get_cons] at this ⊢
  rw [if_neg (by omega),if_neg (by omega),if_neg (by omega),if_neg (by omega),if_neg (by omega)]
  exact this
theorem seedsC_lt (lS lR : Am.Loc) (sS sR : ByteArray) {l : List Seed} {n : Nat} (hn : 4098 ≤ n) (hl : ∀ p ∈ l,p.1 < n) : ∀ p ∈ seedsC lS lR sS sR l,p.1 < n := fun p hp => by
  unfold seedsC at hp
  simp only [List.mem_cons] at hp
  rcases hp with rfl | rfl | rfl | rfl | rfl | hp
  · simp only; omega
  · simp only; omega
  · simp only; omega
  · simp only; omega
  · simp only; omega
  · exact hl p hp
end Go.Proofs.YtkdpjaaohddppaaGreatDoor
