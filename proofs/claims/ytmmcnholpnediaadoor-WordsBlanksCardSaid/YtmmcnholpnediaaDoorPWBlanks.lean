/- The statement proved (PWBlanks). -/
import Derived.Test.YtmmcnholpnediaaDoorPArgs
import Derived.Test.YtmmcnholpnediaaDoorX1
import Derived.Test.YtmmcnholpnediaaDoorDS
import Derived.Test.YtmmcnholpnediaaDoorCards
import Derived.Test.YtmmcnholpnediaaDoorTie
import Derived.LaidMore
import Derived.Lay
import Derived.SevenTiedAt
import Derived.Stop.Joined
import Derived.ChangeVars
import Derived.JoinedOf
import Derived.ChangeMaps5
import Derived.Carry
namespace Go.Proofs.YtmmcnholpnediaaDoor.Blanks
open Go Go.Proofs.YtmmcnholpnediaaDoor.Am Go.ChangeMaps Go.ChangeShapes Go.WideShapes Go.ChangeAt Go.RowKit

theorem own : ownKnob Tryd.prog.godebug = none := by kernel_rfl
theorem laidOut : laidOutB Tryd.prog = true := by kernel_rfl
def laidL : List (String × DataW Unit) := Rows.wordsBlanksRow.laid
theorem cells9 : Tryd.prog.cellsOf 9 = 1 := by kernel_rfl
def seedsL (lo : Am.Loc) (ss : List (List UInt8)) : List Seed := [(4098, lo, .cells none (strsL ss) 0)]
theorem blanks_call {W : World} (hL : laidMetH Tryd.prog laidL W) {o : Value} {ss : List (List UInt8)} {lo : Am.Loc} (ho : SArg W o ss lo) {a : Nat} (ha : a < 4294967296) :
    Calls Tryd.prog 3 #[o, .int .u32 (a : Int)] W fun e W' => e = .returned (.bool true) ∧ Below W.heap.size W W' := by
  obtain ⟨lS, lR, sS, sR, G⟩ := given_of hL
  obtain ⟨o', ho1, ho2, ho3⟩ := ho.val (s := seedsC lS lR sS sR (seedsL lo ss)) (i := 4098) rfl
  obtain ⟨v, h', n', hbig, rfl⟩ := blanks_walk ho.2.2.1 ho.2.2.2.1 ha (seedsC_wf lS lR sS sR (l := seedsL lo ss) (n := 4099) (by omega) (fun i hi => by
    simp only [seedsL, heap0, List.map_cons, List.map_nil, AHeap.get_cons]
    rw [if_neg (by omega)]; rfl)) (by decide) ho1
  have := run_call (s := seedsC lS lR sS sR (seedsL lo ss)) (w := W) mixed15 fs15_at ps15_at (seedsC_ok G (fun p hp => by
    simp only [seedsL, List.mem_cons, List.not_mem_nil, or_false] at hp
    subst hp
    exact ho.seed (by decide))) Tryd.func3 (by kernel_rfl) (by kernel_rfl) (n := 4099) (by decide) (seedsC_lt lS lR sS sR (by omega) (fun p hp => by
    simp only [seedsL, List.mem_cons, List.not_mem_nil, or_false] at hp
    subst hp; simp)) (args := [o', .int .u32 (a : Int)]) (cargs := [o, .int .u32 (a : Int)])
    (.cons ho2 (.cons (.int _ _) .nil)) hbig
  refine this.mono fun e W' ⟨u, φ', he, hu, hbel⟩ => ?_
  exact ⟨by rw [he, hu.eq_of_scalar rfl], hbel⟩

/-- A world that meets the condition: all that is listed, laid. -/
noncomputable def laidWorld (os : Os) : World := World.laidAll Tryd.prog os laidL
theorem laidWorld_met (os : Os) (args : Array Value) : laidMetH Tryd.prog laidL ((laidWorld os).forCall (fun _ _ => 0) ⟨#[], args, []⟩).memory := by
  rw [MakeChecks.laidMetH_plain _ _ _ (by kernel_rfl)]
  exact laidMet_laidAll _ (by kernel_rfl) (by kernel_rfl)

set_option maxRecDepth 100000 in
theorem lifted (os : Os) (started : os.Started) (H : Type) (enc : TypeId × Value → H) :
    ReturnsInHanded {} Tryd.checked os 3 .any (fun w args => (Rows.wordsBlanksSpec.pre enc Tryd.prog Tryd.f3 Rows.wordsBlanksRow.domain false w args ∧ laidMetH Tryd.prog laidL w) ∧ sizedMet enc Tryd.prog Tryd.f3 (OpenSpec.ofChange Rows.wordsBlanksSpec) false w args)
      (Rows.wordsBlanksSpec.post enc Tryd.prog Tryd.f3 false true false false) := by
  refine returnsInHanded_of_change_and (C := Tryd.checked) (X := fun w _ => laidMetH Tryd.prog laidL w) (fun _ _ _ hh h => h.of_heap hh) own started (by kernel_rfl) Tryd.func3
    (ChangeSpec.witness_shaped (enc := enc) (C := Tryd.checked) (os := os) (X := fun w _ => laidMetH Tryd.prog laidL w) false (laidWorld os) #[.slice none 0 0, .int .u32 0] 8 (World.laidAll_os _ _ _)
      (World.shaped_of_ZipB (by kernel_rfl) (by kernel_rfl)) (by kernel_rfl) (by kernel_rfl) (by kernel_rfl) (laidWorld_met os _)) ?_
  intro W base args ds gs before hval0 hW hc _ hL _
  have hval : ∀ (j : Nat) t v, Tryd.f3.params[j]? = some t → args[j]? = some v → Value.okWide Tryd.prog W .any base t v := hval0
  have hW' := hW
  obtain ⟨p, q, hA0, hV, rfl, _, _⟩ := hW
  have hA : DataW.TrodAll enc Tryd.prog W 0 (fun _ => true) true Tryd.f3.params.toList args.toList ds p := hA0
  rw [Tryd.params3] at hA hval
  obtain ⟨v0, v1, d0, d1, q0, q1, rfl, rfl, rfl, h0, h1⟩ := trodAll_two hA
  obtain ⟨lS, lR, sS, sR, G⟩ := given_of hL
  have hpos := G.pos
  obtain ⟨bb, ss, lb, e1, hb⟩ : ∃ bb cs lc, v0 = bb ∧ SArg W bb cs lc := by
    obtain ⟨ai, al, ac, rfl⟩ := okWide_slice Tryd.underlying22 (hval 0 22 v0 rfl rfl)
    obtain ⟨fuel, hf⟩ := h0
    obtain ⟨cs, lc, h⟩ := open_sarg Tryd.underlying22 Tryd.underlying9 cells9 (v := .slice ai al ac) hf hpos
    exact ⟨_, cs, lc, rfl, h⟩
  subst e1
  obtain ⟨a, rfl, rfl, rfl, hwa⟩ := open_int Tryd.underlying23 (hval 1 23 v1 rfl rfl) h1
  obtain ⟨rfl, rfl⟩ := trodVars_none hV
  simp only [List.append_nil] at hW'
  have b0 := bounds_u32 hwa
  obtain ⟨a, rfl⟩ : ∃ k : Nat, a = (k : Int) := ⟨a.toNat, by omega⟩
  have hlt : ∀ x ∈ q0, x.block < W.heap.size := fun x hx => by
    have := hW'.lt x (by simpa using hx)
    simpa using this
  refine (blanks_call hL hb (by omega)).mono fun e W' ⟨he, hbl⟩ => ?_
  subst he
  refine ⟨_, rfl, _, _, _, [], q0 ++ [], [], hW', ?_, ?_, ?_, hbl.frame _, fun h => by cases h⟩
  · exact trodAll_mk1 (shut_bool Tryd.underlying4 true)
  · exact trodAll_mk2 (Below.trod laidOut (by kernel_rfl) (of_decide_eq_true (by kernel_rfl)) h0 hbl hlt) (shut_int Tryd.underlying23 hwa)
  · exact rfl

theorem holds : Rows.WordsBlanksSaid :=
  OpenClaim.holds_of_wide 3 Tryd.f3 rfl rfl rfl rfl rfl rfl rfl ⟨rfl, rfl, rfl, rfl, rfl⟩ rfl rfl rfl rfl rfl (by kernel_rfl) Tryd.func3 (by kernel_rfl)
    (of_decide_eq_true (by kernel_rfl)) (by unfold Func.isWrapper; first | (rw [if_pos (by decide +kernel)]; kernel_rfl) | (rw [if_neg (by decide +kernel)]; exact ⟨rfl, rfl⟩))
    (fun os started H enc _ => lifted os started H enc)
theorem card_holds : Rows.WordsBlanksCardSaid :=
  Claim7.holds_tied_plain_at .later [] [.data, .data, .data, .data, .sentinel, .sentinel, .pinned] true (true, "78baa04986e982415de0be26cd1cd262be2c3e4d855045e7eba3ea42bbe353fc") true holds (fun _ h => by cases h) (by kernel_rfl) (fun _ h => by cases h) wordsBlanks_row_tie rfl ⟨rfl, rfl⟩ (by kernel_rfl) rfl
    (fun f fn hf hfn => by
      obtain rfl : f = 3 := Option.some.inj ((show Tryd.prog.funcNamed "toll/tolllaw15.WordsBlanks" = some 3 by kernel_rfl).symm.trans hf) |>.symm
      obtain rfl : fn = Tryd.f3 := (Option.some.inj (Tryd.func3.symm.trans hfn)).symm
      exact ⟨by kernel_rfl, fun j t ht => by
        rw [Tryd.params3] at ht
        have hm : t ∈ [22, 23] := by simpa [or_comm, or_assoc, or_left_comm] using Array.mem_of_getElem? ht
        have hall : ([22, 23].all fun u => !Tryd.prog.wantsStandIn u) = true := by kernel_rfl
        exact (show Tryd.prog.wantsStandIn t = false by simpa using List.all_eq_true.1 hall t hm)⟩)
    (by kernel_rfl)
#print axioms card_holds
end Go.Proofs.YtmmcnholpnediaaDoor.Blanks
