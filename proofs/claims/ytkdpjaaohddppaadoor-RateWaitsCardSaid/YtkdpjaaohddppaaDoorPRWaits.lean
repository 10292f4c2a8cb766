/- The statement proved (PRWaits). -/
import Derived.Test.YtkdpjaaohddppaaDoorPTri
import Derived.Test.YtkdpjaaohddppaaDoorX8
import Derived.Test.YtkdpjaaohddppaaDoorCards
import Derived.Test.YtkdpjaaohddppaaDoorTie
import Derived.LaidMore
import Derived.Lay
import Derived.SevenTiedAt
import Derived.Stop.Joined
import Derived.ChangeVars
import Derived.JoinedOf
import Derived.ChangeMaps5
import Derived.Carry
namespace Go.Proofs.YtkdpjaaohddppaaDoor.Waits
open Go Go.Proofs.YtkdpjaaohddppaaDoor.Am Go.ChangeMaps Go.ChangeShapes Go.WideShapes Go.ChangeAt Go.RowKit

theorem own : ownKnob Tryd.prog.godebug = none := by kernel_rfl
theorem laidOut : laidOutB Tryd.prog = true := by kernel_rfl
def laidL : List (String × DataW Unit) := Rows.rateWaitsRow.laid
theorem waits_call {W : World} (hL : laidMetH Tryd.prog laidL W) {a b c x : Nat} (ha : a < 18446744073709551616) (hb : b < 18446744073709551616) (hc : c < 18446744073709551616) (hx : x < 18446744073709551616) :
    Calls Tryd.prog 4 #[triV a b c, .int .u64 (x : Int)] W fun e W' => e = .returned (.bool true) ∧ Below W.heap.size W W' := by
  have G := given_of hL
  obtain ⟨v, h', n', hbig, rfl⟩ := waits_walk ha hb hc hx (seedsC_hI []) (seedsC_wf (l := []) (n := 4100) (by omega) (fun i _ => rfl)) (by decide)
  have := run_call (s := seedsC []) (w := W) mixed11 fs11_at ps11_at (seedsC_ok G (fun p hp => by cases hp)) Tryd.func4 (by kernel_rfl) (by kernel_rfl) (n := 4100) (by decide) (seedsC_lt (by omega) (fun p hp => by cases hp)) (args := [triV a b c, .int .u64 (x : Int)]) (cargs := [triV a b c, .int .u64 (x : Int)])
    (.cons (rel_tri _ _ _) (.cons (.int _ _) .nil)) hbig
  refine this.mono fun e W' ⟨u, φ', he, hu, hbel⟩ => ?_
  exact ⟨by rw [he, hu.eq_of_scalar rfl], hbel⟩

/-- A world that meets the condition: all that is listed, laid. -/
noncomputable def laidWorld (os : Os) : World := World.laidAll Tryd.prog os laidL
theorem laidWorld_met (os : Os) (args : Array Value) : laidMetH Tryd.prog laidL ((laidWorld os).forCall (fun _ _ => 0) ⟨#[], args, []⟩).memory := by
  rw [MakeChecks.laidMetH_plain _ _ _ (by kernel_rfl)]
  exact laidMet_laidAll _ (by kernel_rfl) (by kernel_rfl)

set_option maxRecDepth 100000 in
theorem lifted (os : Os) (started : os.Started) (H : Type) (enc : TypeId × Value → H) :
    ReturnsInHanded {} Tryd.checked os 4 .any (fun w args => (Rows.rateWaitsSpec.pre enc Tryd.prog Tryd.f4 Rows.rateWaitsRow.domain false w args ∧ laidMetH Tryd.prog laidL w) ∧ sizedMet enc Tryd.prog Tryd.f4 (OpenSpec.ofChange Rows.rateWaitsSpec) false w args)
      (Rows.rateWaitsSpec.post enc Tryd.prog Tryd.f4 false true false false) := by
  refine returnsInHanded_of_change_and (C := Tryd.checked) (X := fun w _ => laidMetH Tryd.prog laidL w) (fun _ _ _ hh h => h.of_heap hh) own started (by kernel_rfl) Tryd.func4
    (ChangeSpec.witness_shaped (enc := enc) (C := Tryd.checked) (os := os) (X := fun w _ => laidMetH Tryd.prog laidL w) false (laidWorld os) #[.agg #[.int .u64 0, .int .u64 0, .int .u64 0], .int .u64 0] 8 (World.laidAll_os _ _ _)
      (World.shaped_of_ZipB (by kernel_rfl) (by kernel_rfl)) (by kernel_rfl) (by kernel_rfl) (by kernel_rfl) (laidWorld_met os _)) ?_
  intro W base args ds gs before hval0 hW hc _ hL _
  have hval : ∀ (j : Nat) t v, Tryd.f4.params[j]? = some t → args[j]? = some v → Value.okWide Tryd.prog W .any base t v := hval0
  have hW' := hW
  obtain ⟨p, q, hA0, hV, rfl, _, _⟩ := hW
  have hA : DataW.TrodAll enc Tryd.prog W 0 (fun _ => true) true Tryd.f4.params.toList args.toList ds p := hA0
  rw [Tryd.params4] at hA hval
  obtain ⟨v0, v1, d0, d1, q0, q1, rfl, rfl, rfl, h0, h1⟩ := trodAll_two hA
  obtain ⟨a, b, c, ha, hb, hcc, rfl⟩ := open_tri (hval 0 45 v0 rfl rfl) h0
  obtain ⟨x, rfl, rfl, rfl, hwx⟩ := open_int Tryd.underlying22 (hval 1 22 v1 rfl rfl) h1
  obtain ⟨rfl, rfl⟩ := trodVars_none hV
  simp only [List.append_nil] at hW'
  have b0 := bounds_u64 hwx
  obtain ⟨x, rfl⟩ : ∃ k : Nat, x = (k : Int) := ⟨x.toNat, by omega⟩
  have hlt : ∀ y ∈ q0, y.block < W.heap.size := fun y hy => by
    have := hW'.lt y (by simpa using hy)
    simpa using this
  refine (waits_call hL ha hb hcc (by omega)).mono fun e W' ⟨he, hbl⟩ => ?_
  subst he
  refine ⟨_, rfl, _, _, _, [], q0 ++ ([] ++ []), [], hW', ?_, ?_, ?_, hbl.frame _, fun h => by cases h⟩
  · exact trodAll_mk1 (shut_bool Tryd.underlying4 true)
  · exact trodAll_mk2 (Below.trod laidOut (by kernel_rfl) (of_decide_eq_true (by kernel_rfl)) h0 hbl hlt) (shut_int Tryd.underlying22 hwx)
  · exact rfl

theorem holds : Rows.RateWaitsSaid :=
  OpenClaim.holds_of_wide 4 Tryd.f4 rfl rfl rfl rfl rfl rfl rfl ⟨rfl, rfl, rfl, rfl, rfl⟩ rfl rfl rfl rfl rfl (by kernel_rfl) Tryd.func4 (by kernel_rfl)
    (of_decide_eq_true (by kernel_rfl)) (by unfold Func.isWrapper; first | (rw [if_pos (by decide +kernel)]; kernel_rfl) | (rw [if_neg (by decide +kernel)]; exact ⟨rfl, rfl⟩))
    (fun os started H enc _ => lifted os started H enc)
theorem card_holds : Rows.RateWaitsCardSaid :=
  Claim7.holds_tied_plain_at .later [] [.data, .data, .data, .data, .called, .pinned, .pinned] true (true, "77261bde6d4e2f15073d6b2ad6bc2058676679cd47351e75c8899b35c859dcf8") false holds (fun _ h => by cases h) (by kernel_rfl) (fun _ h => by cases h) rateWaits_row_tie rfl ⟨rfl, rfl⟩ (by kernel_rfl) rfl
    (fun f fn hf hfn => by
      obtain rfl : f = 4 := Option.some.inj ((show Tryd.prog.funcNamed "toll/tolllaw11.RateWaits" = some 4 by kernel_rfl).symm.trans hf) |>.symm
      obtain rfl : fn = Tryd.f4 := (Option.some.inj (Tryd.func4.symm.trans hfn)).symm
      exact ⟨by kernel_rfl, fun j t ht => by
        rw [Tryd.params4] at ht
        have hm : t ∈ [22, 45] := by simpa [or_comm, or_assoc, or_left_comm] using Array.mem_of_getElem? ht
        have hall : ([22, 45].all fun u => !Tryd.prog.wantsStandIn u) = true := by kernel_rfl
        exact (show Tryd.prog.wantsStandIn t = false by simpa using List.all_eq_true.1 hall t hm)⟩)
    (by kernel_rfl)
#print axioms card_holds
end Go.Proofs.YtkdpjaaohddppaaDoor.Waits
