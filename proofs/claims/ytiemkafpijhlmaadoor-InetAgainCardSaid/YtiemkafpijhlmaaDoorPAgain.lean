/- The statement proved (PAgain). -/
import Derived.Test.YtiemkafpijhlmaaDoorPHd
import Derived.Test.YtiemkafpijhlmaaDoorY2
import Derived.Test.YtiemkafpijhlmaaDoorCards
import Derived.Test.YtiemkafpijhlmaaDoorTie
import Derived.LaidMore
import Derived.Lay
import Derived.SevenTiedAt
import Derived.Stop.Joined
import Derived.ChangeVars
import Derived.JoinedOf
import Derived.ChangeMaps5
import Derived.Carry
namespace Go.Proofs.YtiemkafpijhlmaaDoor.Again
open Go Go.Proofs.YtiemkafpijhlmaaDoor.Am Go.ChangeMaps Go.ChangeShapes Go.WideShapes Go.ChangeAt Go.RowKit

theorem own : ownKnob Tryd.prog.godebug = none := by kernel_rfl
theorem laidOut : laidOutB Tryd.prog = true := by kernel_rfl
def laidL : List (String × DataW Unit) := Rows.inetAgainRow.laid
theorem again_call {W : World} (hL : laidMetH Tryd.prog laidL W) {b : Value} {bs : List UInt8} {lb : Am.Loc} (hb : BA W b bs lb) :
    Calls Tryd.prog 8 #[b] W fun e W' => e = .returned (.bool true) ∧ Below W.heap.size W W' := by
  obtain ⟨lS, lR, sS, sR, G⟩ := given_of hL
  obtain ⟨b', hb1, hb2, hb3⟩ := hb.val (s := seedsC lS lR sS sR [(4098, lb, .cells none (u8s bs) 0)]) (i := 4098) rfl
  obtain ⟨v, h', n', hbig, rfl⟩ := again_walk hb1 hb.2.2.1 (seedsC_wf lS lR sS sR (l := [(4098, lb, .cells none (u8s bs) 0)]) (n := 4099) (by omega) (fun i hi => by
    simp only [heap0, List.map_cons, List.map_nil, AHeap.get_cons]
    rw [if_neg (by omega)]; rfl)) (seedsC_pow lS lR sS sR _) (seedsC_err lS lR sS sR _) (by decide)
  have := run_call (s := seedsC lS lR sS sR [(4098, lb, .cells none (u8s bs) 0)]) (w := W) mixed06 fs06_at ps06_at (seedsC_ok G (fun p hp => by
    simp only [List.mem_cons, List.not_mem_nil, or_false] at hp
    subst hp
    exact hb.seed (by decide))) Tryd.func8 (by kernel_rfl) (by kernel_rfl) (n := 4099) (by decide) (seedsC_lt lS lR sS sR (by omega) (fun p hp => by
    simp only [List.mem_cons, List.not_mem_nil, or_false] at hp
    subst hp; simp)) (args := [b']) (cargs := [b])
    (.cons hb2 .nil) hbig
  refine this.mono fun e W' ⟨u, φ', he, hu, hbel⟩ => ?_
  exact ⟨by rw [he, hu.eq_of_scalar rfl], hbel⟩

/-- A world that meets the condition: all that is listed, laid. -/
noncomputable def laidWorld (os : Os) : World := World.laidAll Tryd.prog os laidL
theorem laidWorld_met (os : Os) (args : Array Value) : laidMetH Tryd.prog laidL ((laidWorld os).forCall (fun _ _ => 0) ⟨#[], args, []⟩).memory := by
  rw [MakeChecks.laidMetH_plain _ _ _ (by kernel_rfl)]
  exact laidMet_laidAll _ (by kernel_rfl) (by kernel_rfl)

set_option maxRecDepth 100000 in
theorem lifted (os : Os) (started : os.Started) (H : Type) (enc : TypeId × Value → H) :
    ReturnsInHanded {} Tryd.checked os 8 .any (fun w args => (Rows.inetAgainSpec.pre enc Tryd.prog Tryd.f8 Rows.inetAgainRow.domain false w args ∧ laidMetH Tryd.prog laidL w) ∧ sizedMet enc Tryd.prog Tryd.f8 (OpenSpec.ofChange Rows.inetAgainSpec) false w args)
      (Rows.inetAgainSpec.post enc Tryd.prog Tryd.f8 false true false false) := by
  refine returnsInHanded_of_change_and (C := Tryd.checked) (X := fun w _ => laidMetH Tryd.prog laidL w) (fun _ _ _ hh h => h.of_heap hh) own started (by kernel_rfl) Tryd.func8
    (ChangeSpec.witness_shaped (enc := enc) (C := Tryd.checked) (os := os) (X := fun w _ => laidMetH Tryd.prog laidL w) false (laidWorld os) #[.slice none 0 0] 8 (World.laidAll_os _ _ _)
      (World.shaped_of_ZipB (by kernel_rfl) (by kernel_rfl)) (by kernel_rfl) (by kernel_rfl) (by kernel_rfl) (laidWorld_met os _)) ?_
  intro W base args ds gs before hval0 hW hc _ hL _
  have hval : ∀ (j : Nat) t v, Tryd.f8.params[j]? = some t → args[j]? = some v → Value.okWide Tryd.prog W .any base t v := hval0
  have hW' := hW
  obtain ⟨p, q, hA0, hV, rfl, _, _⟩ := hW
  have hA : DataW.TrodAll enc Tryd.prog W 0 (fun _ => true) true Tryd.f8.params.toList args.toList ds p := hA0
  rw [Tryd.params8] at hA hval
  obtain ⟨v0, d0, rfl, rfl, h0⟩ := trodAll_one hA
  obtain ⟨lS, lR, sS, sR, G⟩ := given_of hL
  have hpos := G.pos
  obtain ⟨bb, bs, lb, e1, hb⟩ : ∃ bb cs lc, v0 = bb ∧ BA W bb cs lc := by
    obtain ⟨ai, al, ac, rfl⟩ := okWide_slice Tryd.underlying45 (hval 0 45 v0 rfl rfl)
    obtain ⟨fuel, hf⟩ := h0
    obtain ⟨cs, lc, h⟩ := open_ba Tryd.underlying45 Tryd.underlying5 cells5 (v := .slice ai al ac) hf hpos
    exact ⟨_, cs, lc, rfl, h⟩
  subst e1
  obtain ⟨rfl, rfl⟩ := trodVars_none hV
  simp only [List.append_nil] at hW'
  have hlt : ∀ x ∈ p, x.block < W.heap.size := fun x hx => by
    have := hW'.lt x (by simpa using hx)
    simpa using this
  refine (again_call hL hb).mono fun e W' ⟨he, hbl⟩ => ?_
  subst he
  refine ⟨_, rfl, _, _, _, [], p, [], hW', ?_, ?_, ?_, hbl.frame _, fun h => by cases h⟩
  · exact trodAll_mk1 (shut_bool Tryd.underlying4 true)
  · exact trodAll_mk1 (Below.trod laidOut (by kernel_rfl) (of_decide_eq_true (by kernel_rfl)) h0 hbl (fun x hx => hlt x hx))
  · exact rfl

theorem holds : Rows.InetAgainSaid :=
  OpenClaim.holds_of_wide 8 Tryd.f8 rfl rfl rfl rfl rfl rfl rfl ⟨rfl, rfl, rfl, rfl, rfl⟩ rfl rfl rfl rfl rfl (by kernel_rfl) Tryd.func8 (by kernel_rfl)
    (of_decide_eq_true (by kernel_rfl)) (by unfold Func.isWrapper; first | (rw [if_pos (by decide +kernel)]; kernel_rfl) | (rw [if_neg (by decide +kernel)]; exact ⟨rfl, rfl⟩))
    (fun os started H enc _ => lifted os started H enc)
theorem card_holds : Rows.InetAgainCardSaid :=
  Claim7.holds_tied_plain_at .later [] [.data, .data, .data, .data, .sentinel, .sentinel, .pinned] true (true, "186b3e07bd315e253bcd6aff74479494cbfab25f77755d051fe9b94e85655101") true holds (fun _ h => by cases h) (by kernel_rfl) (fun _ h => by cases h) inetAgain_row_tie rfl ⟨rfl, rfl⟩ (by kernel_rfl) rfl
    (fun f fn hf hfn => by
      obtain rfl : f = 8 := Option.some.inj ((show Tryd.prog.funcNamed "toll/tolllaw06.InetAgain" = some 8 by kernel_rfl).symm.trans hf) |>.symm
      obtain rfl : fn = Tryd.f8 := (Option.some.inj (Tryd.func8.symm.trans hfn)).symm
      exact ⟨by kernel_rfl, fun j t ht => by
        rw [Tryd.params8] at ht
        have hm : t ∈ [45] := by simpa [or_comm, or_assoc, or_left_comm] using Array.mem_of_getElem? ht
        have hall : ([45].all fun u => !Tryd.prog.wantsStandIn u) = true := by kernel_rfl
        exact (show Tryd.prog.wantsStandIn t = false by simpa using List.all_eq_true.1 hall t hm)⟩)
    (by kernel_rfl)
#print axioms card_holds
end Go.Proofs.YtiemkafpijhlmaaDoor.Again
