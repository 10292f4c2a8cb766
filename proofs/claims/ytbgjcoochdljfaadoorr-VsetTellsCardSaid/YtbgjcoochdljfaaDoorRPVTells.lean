/- The statement proved (PVTells). -/
import Derived.Test.YtbgjcoochdljfaaDoorRPTabD
import Derived.Test.YtbgjcoochdljfaaDoorRCards
import Derived.Test.YtbgjcoochdljfaaDoorRTie
import Derived.LaidMore
import Derived.Lay
import Derived.SevenTiedAt
import Derived.Stop.Joined
import Derived.ChangeVars
import Derived.JoinedOf
import Derived.ChangeMaps5
import Derived.Carry
namespace Go.Proofs.YtbgjcoochdljfaaDoorR.Tells
open Go Go.Proofs.YtbgjcoochdljfaaDoorR.Am Go.ChangeMaps Go.ChangeShapes Go.WideShapes Go.ChangeAt Go.RowKit

theorem own : ownKnob Tryd.prog.godebug = none := by kernel_rfl
theorem laidOut : laidOutB Tryd.prog = true := by kernel_rfl
def laidL : List (String × DataW Unit) := Rows.vsetTellsRow.laid
theorem tells_call {W : World} (hL : laidMetH Tryd.prog laidL W) {v0 : Value} {rs : List (List Int)} {l0 : Am.Loc} (x0 : RArg W v0 ksD rs l0) {z : Int} (hz0 : -9223372036854775808 ≤ z) (hz1 : z < 9223372036854775808) :
    Calls Tryd.prog 5 #[v0, .int .i64 z] W fun e W' => e = .returned (.bool true) ∧ Below W.heap.size W W' := by
  obtain ⟨lS, lR, sS, sR, G⟩ := given_of hL
  obtain ⟨u0, a1, a2, a3⟩ := rows_val x0 (s := seedsC lS lR sS sR (tabS :: [rowsS 4098 l0 rs])) (i := 4098) rfl rfl
  have hwf : WF (heap0 (seedsC lS lR sS sR (tabS :: [rowsS 4098 l0 rs]))) 4100 := seedsU_wf lS lR sS sR (by omega) (fun i hi => by
    simp only [rowsS, heap0, List.map_cons, List.map_nil, AHeap.get_cons]
    rw [if_neg (by omega)]; rfl)
  have hgm := seedsU_gm lS lR sS sR [rowsS 4098 l0 rs]
  obtain ⟨m, hm⟩ : ∃ m, m = 4100 + 5000000000 := ⟨_, rfl⟩
  have hb := (vtells_ret x0.2.2.1 x0.2.2.2.1 hz0 hz1 hwf a1 hgm (by decide) hm).1
  have := run_callR (s := seedsC lS lR sS sR (tabS :: [rowsS 4098 l0 rs])) (w := W) mixed14 fs14_at ps14_at (seedsU_ok G hL (fun p hp => by
    simp only [List.mem_cons, List.not_mem_nil, or_false] at hp
    subst hp
    exact x0.seed (by decide))) Tryd.func5 (by kernel_rfl) (by kernel_rfl) (n := 4100) (by decide) (seedsU_lt lS lR sS sR (by omega) (fun p hp => by
    simp only [List.mem_cons, List.not_mem_nil, or_false] at hp
    subst hp
    show 4098 < 4100; omega)) (args := [u0, .int .i64 z]) (cargs := [v0, .int .i64 z])
    (.cons a2 (.cons (.int _ _) .nil)) hb
  refine this.mono fun e W' ⟨u, φ', he, hu, hbel⟩ => ?_
  exact ⟨by rw [he, hu.eq_of_scalar rfl], hbel⟩

/-- A world that meets the condition: all that is listed, laid. -/
noncomputable def laidWorld (os : Os) : World := World.laidAll Tryd.prog os laidL
theorem laidWorld_met (os : Os) (args : Array Value) : laidMetH Tryd.prog laidL ((laidWorld os).forCall (fun _ _ => 0) ⟨#[], args, []⟩).memory := by
  rw [MakeChecks.laidMetH_plain _ _ _ (by kernel_rfl)]
  exact laidMet_laidAll _ (by kernel_rfl) (by kernel_rfl)

set_option maxRecDepth 100000 in
theorem lifted (os : Os) (started : os.Started) (H : Type) (enc : TypeId × Value → H) :
    ReturnsInHanded {} Tryd.checked os 5 .any (fun w args => (Rows.vsetTellsSpec.pre enc Tryd.prog Tryd.f5 Rows.vsetTellsRow.domain false w args ∧ laidMetH Tryd.prog laidL w) ∧ sizedMet enc Tryd.prog Tryd.f5 (OpenSpec.ofChange Rows.vsetTellsSpec) false w args)
      (Rows.vsetTellsSpec.post enc Tryd.prog Tryd.f5 false true false false) := by
  refine returnsInHanded_of_change_and (C := Tryd.checked) (X := fun w _ => laidMetH Tryd.prog laidL w) (fun _ _ _ hh h => h.of_heap hh) own started (by kernel_rfl) Tryd.func5
    (ChangeSpec.witness_shaped (enc := enc) (C := Tryd.checked) (os := os) (X := fun w _ => laidMetH Tryd.prog laidL w) false (laidWorld os) #[.slice none 0 0, .int .i64 0] 8 (World.laidAll_os _ _ _)
      (World.shaped_of_ZipB (by kernel_rfl) (by kernel_rfl)) (by kernel_rfl) (by kernel_rfl) (by kernel_rfl) (laidWorld_met os _)) ?_
  intro W base args ds gs before hval0 hW hc _ hL _
  have hval : ∀ (j : Nat) t v, Tryd.f5.params[j]? = some t → args[j]? = some v → Value.okWide Tryd.prog W .any base t v := hval0
  have hW' := hW
  obtain ⟨p, q, hA0, hV, rfl, _, _⟩ := hW
  have hA : DataW.TrodAll enc Tryd.prog W 0 (fun _ => true) true Tryd.f5.params.toList args.toList ds p := hA0
  rw [Tryd.params5] at hA hval
  obtain ⟨v0, v1, d0, d1, q0, q1, rfl, rfl, rfl, h0, h1⟩ := trodAll_two hA
  obtain ⟨lS, lR, sS, sR, G⟩ := given_of hL
  have hpos := G.pos
  obtain ⟨r0, l0, x0⟩ : ∃ rs lc, RArg W v0 ksD rs lc := by
    obtain ⟨ai, al, ac, rfl⟩ := okWide_slice Tryd.underlying22 (hval 0 22 v0 rfl rfl)
    obtain ⟨fuel, hf⟩ := h0
    exact open_rarg (v := .slice ai al ac) Tryd.underlying22 Tryd.underlying47 (ks := ksD) ⟨Tryd.underlying3, rfl, by kernel_rfl, Tryd.underlying3, rfl, by kernel_rfl, Tryd.underlying3, rfl, by kernel_rfl, trivial⟩ (by kernel_rfl) (by decide) hf hpos
  obtain ⟨a, rfl, rfl, rfl, hwa⟩ := open_int Tryd.underlying3 (hval 1 3 v1 rfl rfl) h1
  obtain ⟨rfl, rfl⟩ := trodVars_none hV
  simp only [List.append_nil] at hW'
  have b0 := bounds_i64 hwa
  have hlt : ∀ x ∈ q0, x.block < W.heap.size := fun x hx => by
    have := hW'.lt x (by simpa using hx)
    simpa using this
  refine (tells_call hL x0 (by omega) (by omega)).mono fun e W' ⟨he, hbl⟩ => ?_
  subst he
  refine ⟨_, rfl, _, _, _, [], q0 ++ [], [], hW', ?_, ?_, ?_, hbl.frame _, fun h => by cases h⟩
  · exact trodAll_mk1 (shut_bool Tryd.underlying4 true)
  · exact trodAll_mk2 (Below.trod laidOut (by kernel_rfl) (of_decide_eq_true (by kernel_rfl)) h0 hbl hlt) (shut_int Tryd.underlying3 hwa)
  · exact rfl

theorem holds : Rows.VsetTellsSaid :=
  OpenClaim.holds_of_wide 5 Tryd.f5 rfl rfl rfl rfl rfl rfl rfl ⟨rfl, rfl, rfl, rfl, rfl⟩ rfl rfl rfl rfl rfl (by kernel_rfl) Tryd.func5 (by kernel_rfl)
    (of_decide_eq_true (by kernel_rfl)) (by unfold Func.isWrapper; first | (rw [if_pos (by decide +kernel)]; kernel_rfl) | (rw [if_neg (by decide +kernel)]; exact ⟨rfl, rfl⟩))
    (fun os started H enc _ => lifted os started H enc)
theorem card_holds : Rows.VsetTellsCardSaid :=
  Claim7.holds_tied_plain_at .later [] [.data, .data, .data, .data, .sentinel, .sentinel, .pinned] true (true, "8d078e723fe6ac10475b85c5946d18486b9b1ec0620897dc1381f9f5e828f721") true holds (fun _ h => by cases h) (by kernel_rfl) (fun _ h => by cases h) vsetTells_row_tie rfl ⟨rfl, rfl⟩ (by kernel_rfl) rfl
    (fun f fn hf hfn => by
      obtain rfl : f = 5 := Option.some.inj ((show Tryd.prog.funcNamed "toll/tolllaw14.VsetTells" = some 5 by kernel_rfl).symm.trans hf) |>.symm
      obtain rfl : fn = Tryd.f5 := (Option.some.inj (Tryd.func5.symm.trans hfn)).symm
      exact ⟨by kernel_rfl, fun j t ht => by
        rw [Tryd.params5] at ht
        have hm : t ∈ [3, 22] := by simpa [or_comm, or_assoc, or_left_comm] using Array.mem_of_getElem? ht
        have hall : ([3, 22].all fun u => !Tryd.prog.wantsStandIn u) = true := by kernel_rfl
        exact (show Tryd.prog.wantsStandIn t = false by simpa using List.all_eq_true.1 hall t hm)⟩)
    (by kernel_rfl)
#print axioms card_holds
end Go.Proofs.YtbgjcoochdljfaaDoorR.Tells
