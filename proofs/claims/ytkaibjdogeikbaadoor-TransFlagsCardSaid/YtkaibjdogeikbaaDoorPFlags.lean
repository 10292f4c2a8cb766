/- The statement proved (PFlags). -/
import Derived.Test.YtkaibjdogeikbaaDoorS
import Derived.Test.YtkaibjdogeikbaaDoorD6
import Derived.Test.YtkaibjdogeikbaaDoorX07c
import Derived.Test.YtkaibjdogeikbaaDoorCards
import Derived.Test.YtkaibjdogeikbaaDoorTie
import Derived.WalkKit
import Derived.ProofKit
import Derived.OpenShut
import Derived.LaidMore
import Derived.Lay
import Derived.SevenTiedAt
import Derived.Stop.Joined
import Derived.ChangeVars
import Derived.JoinedOf
import Derived.ChangeMaps5
namespace Go.Proofs.YtkaibjdogeikbaaDoor.Flags
open Go Go.Proofs.YtkaibjdogeikbaaDoor.Am Go.ChangeMaps Go.ChangeShapes Go.WideShapes Go.ChangeAt Go.RowKit

theorem own : ownKnob Tryd.prog.godebug = none := by kernel_rfl
def laidL : List (String × DataW Unit) := Rows.transFlagsRow.laid
theorem gNames : Tryd.prog.globalNamed "toll/trans.names" = some 0 := by kernel_rfl
theorem tNames : (Tryd.prog.globals[0]?).map (·.type) = some 80 := by kernel_rfl
def seeds : List Seed := [(0, ⟨0, 0, false, 0, 0⟩, .cells none (strsL namesL) 0)]
/-- What the condition gives: the names. -/
theorem of_laid {W : World} (h : laidMetH Tryd.prog laidL W) : ∀ p ∈ seeds, SeedOk W seeds p := by
  rw [MakeChecks.laidMetH_plain _ _ _ (by kernel_rfl)] at h
  obtain ⟨ps, ⟨_, _, _, _, _, _, _, _, _, _, ⟨g0, t0, cs0, f0, p0, q0, hg0, ht0, hv0, hd0, _, _⟩, _⟩, _, _⟩ := h
  obtain rfl := Option.some.inj (gNames.symm.trans hg0)
  obtain rfl := Option.some.inj (tNames.symm.trans ht0)
  have e0 : Rows.laid_toll_trans_names = (.agg (namesL.map fun s => .lit (.string s)) : DataW Unit) := rfl
  rw [e0] at hd0
  have hc0 : cs0.toList = strsL namesL := cells_strs Tryd.underlying80 Tryd.underlying9 (by kernel_rfl) (by kernel_rfl) hd0
  intro p hp
  simp only [seeds, List.mem_cons, List.not_mem_nil, or_false] at hp
  subst hp
  exact seed_cells gNames hv0 hc0 (var?_lt gNames hv0) (by decide) (fun v hv => ⟨v, rfl, by
    obtain ⟨s, _, rfl⟩ := List.mem_map.1 hv
    exact .string _⟩)
theorem flags_call {W : World} (hL : laidMetH Tryd.prog laidL W) (f : Nat) (hf : f < 256) (s : ByteArray) (hs : s.size ≤ maxLen) : Calls Tryd.prog 3 #[.int .u8 (f : Int), .string s] W fun e W' => e = .returned (.bool true) ∧ Below W.heap.size W W' := by
  obtain ⟨l, rfl⟩ := str_of s
  have hw : WF (heap0 seeds) 4097 := fun i hi => by
    simp only [seeds, heap0, List.map_cons, List.map_nil, AHeap.get_cons]
    rw [if_neg (by omega)]; rfl
  have hnm : HasNames (heap0 seeds) := rfl
  unfold maxLen at hs
  have hl : l.length < 9223372036854775808 := by
    have h2 : l.length ≤ 2 ^ 63 - 1 := by simpa using hs
    omega
  have hwalk := flags_walk hf l hl hw hnm (by decide)
  obtain ⟨v, h', n', hb, rfl⟩ := hwalk
  have := run_call (s := seeds) (w := W) mixed07 fs07_at ps07_at (of_laid hL) Tryd.func3 (by kernel_rfl) (by kernel_rfl) (n := 4097) (by decide) (fun p hp => by
    simp only [seeds, List.mem_cons, List.not_mem_nil, or_false] at hp
    subst hp; decide) (args := [.int .u8 (f : Int), .string ⟨l.toArray⟩]) (cargs := [.int .u8 (f : Int), .string ⟨l.toArray⟩]) (.cons (.int _ _) (.cons (.string _) .nil)) hb
  refine this.mono fun e W' ⟨u, φ', he, hu, hbel⟩ => ?_
  exact ⟨by rw [he, hu.eq_of_scalar rfl], hbel⟩

/-- A world that meets the condition: the door's own run, the pinned table laid beside. -/
noncomputable def laidWorld (os : Os) : World := (World.doorLaid Tryd.prog 400 os).layVars Tryd.prog [("unicode/utf8.first", Rows.laid_unicode_utf8_first)]
theorem laidWorld_met (os : Os) (args : Array Value) : laidMetH Tryd.prog laidL ((laidWorld os).forCall (fun _ _ => 0) ⟨#[], args, []⟩).memory := by
  rw [MakeChecks.laidMetH_plain _ _ _ (by kernel_rfl)]
  exact laidMet_of_run' 8 (by kernel_rfl) (by kernel_rfl)

set_option maxRecDepth 100000 in
theorem lifted (os : Os) (started : os.Started) (H : Type) (enc : TypeId × Value → H) :
    ReturnsInHanded {} Tryd.checked os 3 .any (fun w args => (Rows.transFlagsSpec.pre enc Tryd.prog Tryd.f3 Rows.transFlagsRow.domain false w args ∧ laidMetH Tryd.prog laidL w) ∧ sizedMet enc Tryd.prog Tryd.f3 (OpenSpec.ofChange Rows.transFlagsSpec) false w args)
      (Rows.transFlagsSpec.post enc Tryd.prog Tryd.f3 false true false false) := by
  refine returnsInHanded_of_change_and (C := Tryd.checked) (X := fun w _ => laidMetH Tryd.prog laidL w) (fun _ _ _ hh h => h.of_heap hh) own started (by kernel_rfl) Tryd.func3
    (ChangeSpec.witness_shaped (enc := enc) (C := Tryd.checked) (os := os) (X := fun w _ => laidMetH Tryd.prog laidL w) false (laidWorld os) #[.int .u8 0, .string ⟨#[]⟩] 8 (World.layVars_os _ _ _)
      (World.shaped_of_ZipB (by kernel_rfl) (by kernel_rfl)) (by kernel_rfl) (by kernel_rfl) (by kernel_rfl) (laidWorld_met os _)) ?_
  intro W base args ds gs before hval0 hW hc _ hL _
  have hval : ∀ (j : Nat) t v, Tryd.f3.params[j]? = some t → args[j]? = some v → Value.okWide Tryd.prog W .any base t v := hval0
  have hW' := hW
  obtain ⟨p, q, hA0, hV, rfl, _, _⟩ := hW
  have hA : DataW.TrodAll enc Tryd.prog W 0 (fun _ => true) true Tryd.f3.params.toList args.toList ds p := hA0
  rw [Tryd.params3] at hA hval
  obtain ⟨v0, v1, d0, d1, q0, q1, rfl, rfl, rfl, h0, h1⟩ := trodAll_two hA
  obtain ⟨n, rfl, rfl, rfl, hwn⟩ := open_int Tryd.underlying5 (hval 0 5 v0 rfl rfl) h0
  obtain ⟨s, rfl, rfl, rfl, hs⟩ := open_string Tryd.underlying9 (hval 1 9 v1 rfl rfl) h1
  obtain ⟨rfl, rfl⟩ := trodVars_none hV
  have hbn := bounds_u8 hwn
  obtain ⟨f, rfl⟩ : ∃ f : Nat, n = (f : Int) := ⟨n.toNat, by omega⟩
  simp only [List.append_nil] at hW'
  refine (flags_call hL f (by omega) s hs).mono fun e W' ⟨he, hb⟩ => ?_
  subst he
  refine ⟨_, rfl, _, _, _, [], [], [], hW', ?_, ?_, ?_, hb.frame _, fun h => by cases h⟩
  · exact trodAll_mk1 (shut_bool Tryd.underlying4 true)
  · exact trodAll_mk2 (shut_int Tryd.underlying5 hwn) (shut_string Tryd.underlying9 hs)
  · exact rfl

theorem holds : Rows.TransFlagsSaid :=
  OpenClaim.holds_of_wide 3 Tryd.f3 rfl rfl rfl rfl rfl rfl rfl ⟨rfl, rfl, rfl, rfl, rfl⟩ rfl rfl rfl rfl rfl (by kernel_rfl) Tryd.func3 (by kernel_rfl)
    (of_decide_eq_true (by kernel_rfl)) (by unfold Func.isWrapper; first | (rw [if_pos (by decide +kernel)]; kernel_rfl) | (rw [if_neg (by decide +kernel)]; exact ⟨rfl, rfl⟩))
    (fun os started H enc _ => lifted os started H enc)
theorem card_holds : Rows.TransFlagsCardSaid :=
  Claim7.holds_tied_plain_at .later [] [.data, .widerDeep, .pinned] true (true, "b2e41a4932e26e9604838ab59d6275fd44281517fba61abb4e2f148747f5a8b6") false holds (fun _ h => by cases h) (by kernel_rfl) (fun _ h => by cases h) transFlags_row_tie rfl ⟨rfl, rfl⟩ (by kernel_rfl) rfl
    (fun f fn hf hfn => by
      obtain rfl : f = 3 := Option.some.inj ((show Tryd.prog.funcNamed "toll/tolllaw07.TransFlags" = some 3 by kernel_rfl).symm.trans hf) |>.symm
      obtain rfl : fn = Tryd.f3 := (Option.some.inj (Tryd.func3.symm.trans hfn)).symm
      exact ⟨by kernel_rfl, fun j t ht => by
        rw [Tryd.params3] at ht
        have hm : t ∈ [5, 9] := by simpa using Array.mem_of_getElem? ht
        have hall : ([5, 9].all fun u => !Tryd.prog.wantsStandIn u) = true := by kernel_rfl
        exact (show Tryd.prog.wantsStandIn t = false by simpa using List.all_eq_true.1 hall t hm)⟩)
    (by kernel_rfl)
#print axioms card_holds
end Go.Proofs.YtkaibjdogeikbaaDoor.Flags
