/- The statement proved (PRBounds). -/
import Derived.Test.YtkdpjaaohddppaaDoorPTri
import Derived.Test.YtkdpjaaohddppaaDoorDT
import Derived.Test.YtkdpjaaohddppaaDoorX13
import Derived.Test.YtkdpjaaohddppaaDoorCards
import Derived.Test.YtkdpjaaohddppaaDoorTie
import Derived.LaidMore
import Derived.Lay
import Derived.SevenTiedAt
import Derived.Stop.Joined
import Derived.ChangeVars
import Derived.JoinedOf
import Derived.ChangeMaps5
import Derived.Carry
namespace Go.Proofs.YtkdpjaaohddppaaDoor.Bounds
open Go Go.Proofs.YtkdpjaaohddppaaDoor.Am Go.ChangeMaps Go.ChangeShapes Go.WideShapes Go.ChangeAt Go.RowKit

theorem own : ownKnob Tryd.prog.godebug = none := by kernel_rfl
theorem laidOut : laidOutB Tryd.prog = true := by kernel_rfl
def laidL : List (String × DataW Unit) := Rows.rateBoundsRow.laid
theorem bounds_call {W : World} (hL : laidMetH Tryd.prog laidL W) {a b : Nat} (ha : a < 18446744073709551616) (hb : b < 18446744073709551616) {w : Value} {rs : List (List Int)} {l : Am.Loc} (hw : RArg W w ksT rs l) :
    Calls Tryd.prog 6 #[.int .u64 (a : Int), .int .u64 (b : Int), w] W fun e W' => e = .returned (.bool true) ∧ Below W.heap.size W W' := by
  have G := given_of hL
  obtain ⟨u, hu, hu2, hu3⟩ := hw.val (s := seedsC [(4096, l, .cells none (rowsL ksT rs) 0)]) (i := 4096) rfl
  obtain ⟨v, h', n', hbig, rfl⟩ := bounds_walk ha hb hw.2.2.1 hw.2.2.2.1 (i0 := 4096) (hu.imp (fun x => x) (fun x => x)) (seedsC_hI [(4096, l, .cells none (rowsL ksT rs) 0)]) (seedsC_wf (l := [(4096, l, .cells none (rowsL ksT rs) 0)]) (n := 4100) (by omega) (fun i hi => by
    simp only [heap0, List.map_cons, List.map_nil, AHeap.get_cons]
    rw [if_neg (by omega)]; rfl)) (by decide) rfl
  have := run_call (s := seedsC [(4096, l, .cells none (rowsL ksT rs) 0)]) (w := W) mixed11 fs11_at ps11_at (seedsC_ok G (fun p hp => by
    simp only [List.mem_cons, List.not_mem_nil, or_false] at hp
    rw [hp]; exact hw.seed (by decide))) Tryd.func6 (by kernel_rfl) (by kernel_rfl) (n := 4100) (by decide) (seedsC_lt (by omega) (fun p hp => by
    simp only [List.mem_cons, List.not_mem_nil, or_false] at hp
    rw [hp]; simp)) (args := [.int .u64 (a : Int), .int .u64 (b : Int), u]) (cargs := [.int .u64 (a : Int), .int .u64 (b : Int), w])
    (.cons (.int _ _) (.cons (.int _ _) (.cons hu2 .nil))) hbig
  refine this.mono fun e W' ⟨u, φ', he, hu, hbel⟩ => ?_
  exact ⟨by rw [he, hu.eq_of_scalar rfl], hbel⟩

/-- A world that meets the condition: all that is listed, laid. -/
noncomputable def laidWorld (os : Os) : World := World.laidAll Tryd.prog os laidL
theorem laidWorld_met (os : Os) (args : Array Value) : laidMetH Tryd.prog laidL ((laidWorld os).forCall (fun _ _ => 0) ⟨#[], args, []⟩).memory := by
  rw [MakeChecks.laidMetH_plain _ _ _ (by kernel_rfl)]
  exact laidMet_laidAll _ (by kernel_rfl) (by kernel_rfl)

set_option maxRecDepth 100000 in
theorem lifted (os : Os) (started : os.Started) (H : Type) (enc : TypeId × Value → H) :
    ReturnsInHanded {} Tryd.checked os 6 .any (fun w args => (Rows.rateBoundsSpec.pre enc Tryd.prog Tryd.f6 Rows.rateBoundsRow.domain false w args ∧ laidMetH Tryd.prog laidL w) ∧ sizedMet enc Tryd.prog Tryd.f6 (OpenSpec.ofChange Rows.rateBoundsSpec) false w args)
      (Rows.rateBoundsSpec.post enc Tryd.prog Tryd.f6 false true false false) := by
  refine returnsInHanded_of_change_and (C := Tryd.checked) (X := fun w _ => laidMetH Tryd.prog laidL w) (fun _ _ _ hh h => h.of_heap hh) own started (by kernel_rfl) Tryd.func6
    (ChangeSpec.witness_shaped (enc := enc) (C := Tryd.checked) (os := os) (X := fun w _ => laidMetH Tryd.prog laidL w) false (laidWorld os) #[.int .u64 0, .int .u64 0, .slice none 0 0] 8 (World.laidAll_os _ _ _)
      (World.shaped_of_ZipB (by kernel_rfl) (by kernel_rfl)) (by kernel_rfl) (by kernel_rfl) (by kernel_rfl) (laidWorld_met os _)) ?_
  intro W base args ds gs before hval0 hW hc _ hL _
  have hval : ∀ (j : Nat) t v, Tryd.f6.params[j]? = some t → args[j]? = some v → Value.okWide Tryd.prog W .any base t v := hval0
  have hW' := hW
  obtain ⟨p, q, hA0, hV, rfl, _, _⟩ := hW
  have hA : DataW.TrodAll enc Tryd.prog W 0 (fun _ => true) true Tryd.f6.params.toList args.toList ds p := hA0
  rw [Tryd.params6] at hA hval
  obtain ⟨v0, v1, v2, d0, d1, d2, q0, q1, q2, rfl, rfl, rfl, h0, h1, h2⟩ := trodAll_three hA
  obtain ⟨a, rfl, rfl, rfl, hwa⟩ := open_int Tryd.underlying22 (hval 0 22 v0 rfl rfl) h0
  obtain ⟨b, rfl, rfl, rfl, hwb⟩ := open_int Tryd.underlying22 (hval 1 22 v1 rfl rfl) h1
  have hpos : 0 < W.heap.size := by
    obtain ⟨cs, hv, _⟩ := (given_of hL).inf
    have := var?_lt gInfN hv
    omega
  obtain ⟨rs, l, hR⟩ : ∃ rs lc, RArg W v2 ksT rs lc := by
    obtain ⟨ai, al, ac, rfl⟩ := okWide_slice Tryd.underlying53 (hval 2 53 v2 rfl rfl)
    obtain ⟨fuel, hf⟩ := h2
    exact open_rarg (v := .slice ai al ac) Tryd.underlying53 Tryd.underlying56 (ks := ksT) ⟨by kernel_rfl, rfl, by kernel_rfl, Tryd.underlying22, rfl, by kernel_rfl, trivial⟩ (by kernel_rfl) (by decide) hf hpos
  obtain ⟨rfl, rfl⟩ := trodVars_none hV
  simp only [List.append_nil] at hW'
  have b0 := bounds_u64 hwa
  have b1 := bounds_u64 hwb
  obtain ⟨a, rfl⟩ : ∃ k : Nat, a = (k : Int) := ⟨a.toNat, by omega⟩
  obtain ⟨b, rfl⟩ : ∃ k : Nat, b = (k : Int) := ⟨b.toNat, by omega⟩
  have hlt : ∀ y ∈ q2, y.block < W.heap.size := fun y hy => by
    have := hW'.lt y (by simpa using hy)
    simpa using this
  refine (bounds_call hL (by omega) (by omega) hR).mono fun e W' ⟨he, hbl⟩ => ?_
  subst he
  refine ⟨_, rfl, _, _, _, [], [] ++ ([] ++ q2), [], hW', ?_, ?_, ?_, hbl.frame _, fun h => by cases h⟩
  · exact trodAll_mk1 (shut_bool Tryd.underlying4 true)
  · exact (by
      have h := trodAll_mk3 (shut_int Tryd.underlying22 hwa) (shut_int Tryd.underlying22 hwb) (Below.trod laidOut (by kernel_rfl) (of_decide_eq_true (by kernel_rfl)) h2 hbl hlt)
      first | exact h | (rw [List.append_nil] at h; exact h))
  · exact rfl

theorem holds : Rows.RateBoundsSaid :=
  OpenClaim.holds_of_wide 6 Tryd.f6 rfl rfl rfl rfl rfl rfl rfl ⟨rfl, rfl, rfl, rfl, rfl⟩ rfl rfl rfl rfl rfl (by kernel_rfl) Tryd.func6 (by kernel_rfl)
    (of_decide_eq_true (by kernel_rfl)) (by unfold Func.isWrapper; first | (rw [if_pos (by decide +kernel)]; kernel_rfl) | (rw [if_neg (by decide +kernel)]; exact ⟨rfl, rfl⟩))
    (fun os started H enc _ => lifted os started H enc)
theorem card_holds : Rows.RateBoundsCardSaid :=
  Claim7.holds_tied_plain_at .later [] [.data, .data, .data, .data, .called, .pinned, .pinned] true (true, "77261bde6d4e2f15073d6b2ad6bc2058676679cd47351e75c8899b35c859dcf8") false holds (fun _ h => by cases h) (by kernel_rfl) (fun _ h => by cases h) rateBounds_row_tie rfl ⟨rfl, rfl⟩ (by kernel_rfl) rfl
    (fun f fn hf hfn => by
      obtain rfl : f = 6 := Option.some.inj ((show Tryd.prog.funcNamed "toll/tolllaw11.RateBounds" = some 6 by kernel_rfl).symm.trans hf) |>.symm
      obtain rfl : fn = Tryd.f6 := (Option.some.inj (Tryd.func6.symm.trans hfn)).symm
      exact ⟨by kernel_rfl, fun j t ht => by
        rw [Tryd.params6] at ht
        have hm : t ∈ [22, 53] := by simpa [or_comm, or_assoc, or_left_comm] using Array.mem_of_getElem? ht
        have hall : ([22, 53].all fun u => !Tryd.prog.wantsStandIn u) = true := by kernel_rfl
        exact (show Tryd.prog.wantsStandIn t = false by simpa using List.all_eq_true.1 hall t hm)⟩)
    (by kernel_rfl)
#print axioms card_holds
end Go.Proofs.YtkdpjaaohddppaaDoor.Bounds
