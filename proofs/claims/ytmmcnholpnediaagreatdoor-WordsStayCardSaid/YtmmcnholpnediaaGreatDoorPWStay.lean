/- The statement proved (PWStay). -/
import Derived.Test.YtmmcnholpnediaaGreatDoorPArgsStay
import Derived.Test.YtmmcnholpnediaaGreatDoorX1
import Derived.Test.YtmmcnholpnediaaGreatDoorCards
import Derived.Test.YtmmcnholpnediaaGreatDoorTie
import Derived.LaidMore
import Derived.Lay
import Derived.SevenTiedAt
import Derived.Stop.Joined
import Derived.ChangeVars
import Derived.JoinedOf
import Derived.ChangeMaps5
import Derived.Carry
namespace Go.Proofs.YtmmcnholpnediaaGreatDoor.Stay
open Go Go.Proofs.YtmmcnholpnediaaGreatDoor.Am Go.ChangeMaps Go.ChangeShapes Go.WideShapes Go.ChangeAt Go.RowKit

theorem own : ownKnob Tryz.prog.godebug = none := by kernel_rfl
theorem laidOut : laidOutB Tryz.prog = true := by kernel_rfl
def laidL : List (String × DataW Unit) := Rows.wordsStayRow.laid
theorem stay_call {W : World} (hL : laidMetH Tryz.prog laidL W) (s : ByteArray) (hs : s.size ≤ maxLen) {a : Nat} (ha : a < 256) :
    Calls Tryz.prog 6 #[.string s, .int .u8 (a : Int)] W fun e W' => e = .returned (.bool true) ∧ Below W.heap.size W W' := by
  obtain ⟨l, rfl⟩ := str_of s
  obtain ⟨lS, lR, sS, sR, G⟩ := given_of hL
  unfold maxLen at hs
  have hl : l.length < 9223372036854775808 := by
    have h2 : l.length ≤ 2 ^ 63 - 1 := by simpa using hs
    omega
  obtain ⟨v, h', n', hbig, rfl⟩ := stay_walk hl ha (seedsC_wf lS lR sS sR (l := []) (n := 4098) (by omega) (fun i _ => rfl)) (seedsC_pow lS lR sS sR []) (by decide) (by decide)
  have := run_call (s := seedsC lS lR sS sR []) (w := W) mixed65 fs65_at ps65_at (seedsC_ok G (fun p hp => by cases hp)) Tryz.func6 (by kernel_rfl) (by kernel_rfl) (n := 4098) (by decide) (seedsC_lt lS lR sS sR (by omega) (fun p hp => by cases hp)) (args := [.string ⟨l.toArray⟩, .int .u8 (a : Int)]) (cargs := [.string ⟨l.toArray⟩, .int .u8 (a : Int)])
    (.cons (.string _) (.cons (.int _ _) .nil)) hbig
  refine this.mono fun e W' ⟨u, φ', he, hu, hbel⟩ => ?_
  exact ⟨by rw [he, hu.eq_of_scalar rfl], hbel⟩

/-- A world that meets the condition: all that is listed, laid. -/
noncomputable def laidWorld (os : Os) : World := World.laidAll Tryz.prog os laidL
theorem laidWorld_met (os : Os) (args : Array Value) : laidMetH Tryz.prog laidL ((laidWorld os).forCall (fun _ _ => 0) ⟨#[], args, []⟩).memory := by
  rw [MakeChecks.laidMetH_plain _ _ _ (by kernel_rfl)]
  exact laidMet_laidAll _ (by kernel_rfl) (by kernel_rfl)

set_option maxRecDepth 100000 in
theorem lifted (os : Os) (started : os.Started) (H : Type) (enc : TypeId × Value → H) :
    ReturnsInHanded {} Tryz.checked os 6 .any (fun w args => (Rows.wordsStaySpec.pre enc Tryz.prog Tryz.f6 Rows.wordsStayRow.domain false w args ∧ laidMetH Tryz.prog laidL w) ∧ sizedMet enc Tryz.prog Tryz.f6 (OpenSpec.ofChange Rows.wordsStaySpec) false w args)
      (Rows.wordsStaySpec.post enc Tryz.prog Tryz.f6 false true false false) := by
  refine returnsInHanded_of_change_and (C := Tryz.checked) (X := fun w _ => laidMetH Tryz.prog laidL w) (fun _ _ _ hh h => h.of_heap hh) own started (by kernel_rfl) Tryz.func6
    (ChangeSpec.witness_shaped (enc := enc) (C := Tryz.checked) (os := os) (X := fun w _ => laidMetH Tryz.prog laidL w) false (laidWorld os) #[.string ⟨#[]⟩, .int .u8 0] 6 (World.laidAll_os _ _ _)
      (World.shaped_of_ZipB (by kernel_rfl) (by kernel_rfl)) (by kernel_rfl) (by kernel_rfl) (by kernel_rfl) (laidWorld_met os _)) ?_
  intro W base args ds gs before hval0 hW hc _ hL _
  have hval : ∀ (j : Nat) t v, Tryz.f6.params[j]? = some t → args[j]? = some v → Value.okWide Tryz.prog W .any base t v := hval0
  have hW' := hW
  obtain ⟨p, q, hA0, hV, rfl, _, _⟩ := hW
  have hA : DataW.TrodAll enc Tryz.prog W 0 (fun _ => true) true Tryz.f6.params.toList args.toList ds p := hA0
  rw [Tryz.params6] at hA hval
  obtain ⟨v0, v1, d0, d1, q0, q1, rfl, rfl, rfl, h0, h1⟩ := trodAll_two hA
  obtain ⟨s, rfl, rfl, rfl, hs⟩ := open_string Tryz.underlying9 (hval 0 9 v0 rfl rfl) h0
  obtain ⟨a, rfl, rfl, rfl, hwa⟩ := open_int Tryz.underlying5 (hval 1 5 v1 rfl rfl) h1
  obtain ⟨rfl, rfl⟩ := trodVars_none hV
  simp only [List.append_nil] at hW'
  have b0 := bounds_u8 hwa
  obtain ⟨a, rfl⟩ : ∃ k : Nat, a = (k : Int) := ⟨a.toNat, by omega⟩
  refine (stay_call hL s hs (by omega)).mono fun e W' ⟨he, hbl⟩ => ?_
  subst he
  refine ⟨_, rfl, _, _, _, [], [], [], hW', ?_, ?_, ?_, hbl.frame _, fun h => by cases h⟩
  · exact trodAll_mk1 (shut_bool Tryz.underlying4 true)
  · exact trodAll_mk2 (shut_string Tryz.underlying9 hs) (shut_int Tryz.underlying5 hwa)
  · exact rfl

theorem holds : Rows.WordsStaySaid :=
  OpenClaim.holds_of_wide 6 Tryz.f6 rfl rfl rfl rfl rfl rfl rfl ⟨rfl, rfl, rfl, rfl, rfl⟩ rfl rfl rfl rfl rfl (by kernel_rfl) Tryz.func6 (by kernel_rfl)
    (of_decide_eq_true (by kernel_rfl)) (by unfold Func.isWrapper; first | (rw [if_pos (by decide +kernel)]; kernel_rfl) | (rw [if_neg (by decide +kernel)]; exact ⟨rfl, rfl⟩))
    (fun os started H enc _ => lifted os started H enc)
theorem card_holds : Rows.WordsStayCardSaid :=
  Claim7.holds_tied_plain_at .later [] [.data, .data, .widerDeep, .widerDeep, .data, .data, .data, .data, .data, .data, .sentinel, .sentinel, .pinned, .pinned, .pinned] true (true, "fabda0044820aea6fb0a1c89918c5cc3207287a3f977cb5a2360c9edc152c320") true holds (fun _ h => by cases h) (by kernel_rfl) (fun _ h => by cases h) wordsStay_row_tie rfl ⟨rfl, rfl⟩ (by kernel_rfl) rfl
    (fun f fn hf hfn => by
      obtain rfl : f = 6 := Option.some.inj ((show Tryz.prog.funcNamed "toll/tolllaw15.WordsStay" = some 6 by kernel_rfl).symm.trans hf) |>.symm
      obtain rfl : fn = Tryz.f6 := (Option.some.inj (Tryz.func6.symm.trans hfn)).symm
      exact ⟨by kernel_rfl, fun j t ht => by
        rw [Tryz.params6] at ht
        have hm : t ∈ [5, 9] := by simpa [or_comm, or_assoc, or_left_comm] using Array.mem_of_getElem? ht
        have hall : ([5, 9].all fun u => !Tryz.prog.wantsStandIn u) = true := by kernel_rfl
        exact (show Tryz.prog.wantsStandIn t = false by simpa using List.all_eq_true.1 hall t hm)⟩)
    (by kernel_rfl)
#print axioms card_holds
end Go.Proofs.YtmmcnholpnediaaGreatDoor.Stay
