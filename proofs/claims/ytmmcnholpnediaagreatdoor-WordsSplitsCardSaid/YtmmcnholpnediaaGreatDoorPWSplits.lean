/- The statement proved (PWSplits). -/
import Derived.Test.YtmmcnholpnediaaGreatDoorPArgs
import Derived.Test.YtmmcnholpnediaaGreatDoorX1
import Derived.Test.YtmmcnholpnediaaGreatDoorCards
import Derived.Test.YtmmcnholpnediaaGreatDoorTie
import Derived.LaidMore
import Derived.Lay
import Derived.SevenTiedAt
import Derived.Stop.Joined
import Derived.ChangeVars
import Derived.JoinedOf
import Derived.ChangeMaps5
import Derived.Carry
namespace Go.Proofs.YtmmcnholpnediaaGreatDoor.Splits
open Go Go.Proofs.YtmmcnholpnediaaGreatDoor.Am Go.ChangeMaps Go.ChangeShapes Go.WideShapes Go.ChangeAt Go.RowKit

theorem own : ownKnob Tryz.prog.godebug = none := by kernel_rfl
theorem laidOut : laidOutB Tryz.prog = true := by kernel_rfl
def laidL : List (String × DataW Unit) := Rows.wordsSplitsRow.laid
section
variable {H : Type} {enc : TypeId × Value → H} {W : World} {base : Nat}
theorem cells3 : Tryz.prog.cellsOf 3 = 1 := by kernel_rfl
theorem cells24 : Tryz.prog.cellsOf 24 = 2 := by kernel_rfl
set_option maxRecDepth 100000 in
theorem okWide_pair {v : Value} (h : Value.okWide Tryz.prog W .any base 24 v) : ∃ cs, v = .agg cs ∧ cs.size = Tryz.prog.cellsOf 24 := by
  simp only [Value.okWide, Tryz.underlying24] at h
  obtain ⟨cs, h1, h2, _⟩ := h
  exact ⟨cs, h1, h2⟩
set_option maxRecDepth 100000 in
theorem open_pair {v : Value} {d : DataW H} {p : List MemPlace} (hval : Value.okWide Tryz.prog W .any base 24 v) (h : DataW.Trod enc Tryz.prog W 0 (fun _ => true) true 24 v d p) :
    ∃ x y : Int, (Lit.int .i64 x).wf = true ∧ (Lit.int .i64 y).wf = true ∧ v = .agg #[.int .i64 x, .int .i64 y] := by
  obtain ⟨cs, rfl, -⟩ := okWide_pair hval
  obtain ⟨fuel, hf⟩ := h
  obtain ⟨xs, n, _, _, hl, hxl, hx⟩ := DataW.trod_array Tryz.underlying24 hf
  rw [cells24] at hl
  have ec : (Value.agg cs).cells.toList = cs.toList := rfl
  rw [ec] at hl hx
  have key : ∀ i, i < 2 → ∃ b : Int, (Lit.int .i64 b).wf = true ∧ cs.toList[i]? = some (.int .i64 b) := fun i hi => by
    have h1 := hx i hi
    rw [cells3, Nat.mul_one, List.drop_eq_getElem_cons (by omega : i < cs.toList.length), List.take_succ_cons, List.take_zero, List.getElem?_eq_getElem (by omega : i < xs.length)] at h1
    obtain ⟨m, e, _, w⟩ := DataW.trod_int Tryz.underlying3 h1
    refine ⟨m, w, ?_⟩
    simp only [List.cons.injEq, and_true] at e
    rw [List.getElem?_eq_getElem (by omega : i < cs.toList.length), e]
  obtain ⟨b0, w0, h0⟩ := key 0 (by omega)
  obtain ⟨b1, w1, h1⟩ := key 1 (by omega)
  obtain ⟨c0, c1, hcs⟩ : ∃ c0 c1, cs.toList = [c0, c1] := by
    match cs.toList, hl with
    | [a0, a1], _ => exact ⟨_, _, rfl⟩
  rw [hcs] at h0 h1
  refine ⟨b0, b1, w0, w1, ?_⟩
  congr 1
  refine Array.toList_inj.1 ?_
  rw [hcs]
  simp only [List.getElem?_cons_zero, List.getElem?_cons_succ, Option.some.injEq] at h0 h1
  rw [h0, h1]
end
theorem splits_call {W : World} (hL : laidMetH Tryz.prog laidL W) (s : ByteArray) (hs : s.size ≤ maxLen) {a : Nat} (ha : a < 4294967296) {lo hi : Int} (l0 : -9223372036854775808 ≤ lo) (l1 : lo < 9223372036854775808) (i0 : -9223372036854775808 ≤ hi) (i1 : hi < 9223372036854775808) :
    Calls Tryz.prog 3 #[.string s, .int .u32 (a : Int), .agg #[.int .i64 lo, .int .i64 hi]] W fun e W' => e = .returned (.bool true) ∧ Below W.heap.size W W' := by
  obtain ⟨l, rfl⟩ := str_of s
  obtain ⟨lS, lR, sS, sR, G⟩ := given_of hL
  unfold maxLen at hs
  have hl : l.length < 9223372036854775808 := by
    have h2 : l.length ≤ 2 ^ 63 - 1 := by simpa using hs
    omega
  obtain ⟨v, h', n', hbig, rfl⟩ := splits_walk hl ha l0 l1 i0 i1 (seedsC_wf lS lR sS sR (l := []) (n := 4098) (by omega) (fun i _ => rfl)) (seedsC_pow lS lR sS sR []) (by decide) (by decide)
  have := run_call (s := seedsC lS lR sS sR []) (w := W) mixed65 fs65_at ps65_at (seedsC_ok G (fun p hp => by cases hp)) Tryz.func3 (by kernel_rfl) (by kernel_rfl) (n := 4098) (by decide) (seedsC_lt lS lR sS sR (by omega) (fun p hp => by cases hp)) (args := [.string ⟨l.toArray⟩, .int .u32 (a : Int), .agg #[.int .i64 lo, .int .i64 hi]]) (cargs := [.string ⟨l.toArray⟩, .int .u32 (a : Int), .agg #[.int .i64 lo, .int .i64 hi]])
    (.cons (.string _) (.cons (.int _ _) (.cons (VRels.agg (.cons (.int _ _) (.cons (.int _ _) .nil)) rfl) .nil))) hbig
  refine this.mono fun e W' ⟨u, φ', he, hu, hbel⟩ => ?_
  exact ⟨by rw [he, hu.eq_of_scalar rfl], hbel⟩

/-- A world that meets the condition: all that is listed, laid. -/
noncomputable def laidWorld (os : Os) : World := World.laidAll Tryz.prog os laidL
theorem laidWorld_met (os : Os) (args : Array Value) : laidMetH Tryz.prog laidL ((laidWorld os).forCall (fun _ _ => 0) ⟨#[], args, []⟩).memory := by
  rw [MakeChecks.laidMetH_plain _ _ _ (by kernel_rfl)]
  exact laidMet_laidAll _ (by kernel_rfl) (by kernel_rfl)

set_option maxRecDepth 100000 in
theorem lifted (os : Os) (started : os.Started) (H : Type) (enc : TypeId × Value → H) :
    ReturnsInHanded {} Tryz.checked os 3 .any (fun w args => (Rows.wordsSplitsSpec.pre enc Tryz.prog Tryz.f3 Rows.wordsSplitsRow.domain false w args ∧ laidMetH Tryz.prog laidL w) ∧ sizedMet enc Tryz.prog Tryz.f3 (OpenSpec.ofChange Rows.wordsSplitsSpec) false w args)
      (Rows.wordsSplitsSpec.post enc Tryz.prog Tryz.f3 false true false false) := by
  refine returnsInHanded_of_change_and (C := Tryz.checked) (X := fun w _ => laidMetH Tryz.prog laidL w) (fun _ _ _ hh h => h.of_heap hh) own started (by kernel_rfl) Tryz.func3
    (ChangeSpec.witness_shaped (enc := enc) (C := Tryz.checked) (os := os) (X := fun w _ => laidMetH Tryz.prog laidL w) false (laidWorld os) #[.string ⟨#[]⟩, .int .u32 0, .agg #[.int .i64 0, .int .i64 0]] 6 (World.laidAll_os _ _ _)
      (World.shaped_of_ZipB (by kernel_rfl) (by kernel_rfl)) (by kernel_rfl) (by kernel_rfl) (by kernel_rfl) (laidWorld_met os _)) ?_
  intro W base args ds gs before hval0 hW hc _ hL _
  have hval : ∀ (j : Nat) t v, Tryz.f3.params[j]? = some t → args[j]? = some v → Value.okWide Tryz.prog W .any base t v := hval0
  have hW' := hW
  obtain ⟨p, q, hA0, hV, rfl, _, _⟩ := hW
  have hA : DataW.TrodAll enc Tryz.prog W 0 (fun _ => true) true Tryz.f3.params.toList args.toList ds p := hA0
  rw [Tryz.params3] at hA hval
  obtain ⟨v0, v1, v2, d0, d1, d2, q0, q1, q2, rfl, rfl, rfl, h0, h1, h2⟩ := trodAll_three hA
  obtain ⟨s, rfl, rfl, rfl, hs⟩ := open_string Tryz.underlying9 (hval 0 9 v0 rfl rfl) h0
  obtain ⟨a, rfl, rfl, rfl, hwa⟩ := open_int Tryz.underlying23 (hval 1 23 v1 rfl rfl) h1
  obtain ⟨lo, hi, hwl, hwh, rfl⟩ := open_pair (hval 2 24 v2 rfl rfl) h2
  obtain ⟨rfl, rfl⟩ := trodVars_none hV
  simp only [List.append_nil] at hW'
  have b0 := bounds_u32 hwa
  have b1 := bounds_i64 hwl
  have b2 := bounds_i64 hwh
  obtain ⟨a, rfl⟩ : ∃ k : Nat, a = (k : Int) := ⟨a.toNat, by omega⟩
  have hlt : ∀ x ∈ q2, x.block < W.heap.size := fun x hx => by
    have := hW'.lt x (by simpa using hx)
    simpa using this
  refine (splits_call hL s hs (by omega) (by omega) (by omega) (by omega) (by omega)).mono fun e W' ⟨he, hbl⟩ => ?_
  subst he
  refine ⟨_, rfl, _, _, _, [], q2, [], hW', ?_, ?_, ?_, hbl.frame _, fun h => by cases h⟩
  · exact trodAll_mk1 (shut_bool Tryz.underlying4 true)
  · exact trodAll_mk3 (shut_string Tryz.underlying9 hs) (shut_int Tryz.underlying23 hwa) (Below.trod laidOut (by kernel_rfl) (of_decide_eq_true (by kernel_rfl)) h2 hbl hlt)
  · exact rfl

theorem holds : Rows.WordsSplitsSaid :=
  OpenClaim.holds_of_wide 3 Tryz.f3 rfl rfl rfl rfl rfl rfl rfl ⟨rfl, rfl, rfl, rfl, rfl⟩ rfl rfl rfl rfl rfl (by kernel_rfl) Tryz.func3 (by kernel_rfl)
    (of_decide_eq_true (by kernel_rfl)) (by unfold Func.isWrapper; first | (rw [if_pos (by decide +kernel)]; kernel_rfl) | (rw [if_neg (by decide +kernel)]; exact ⟨rfl, rfl⟩))
    (fun os started H enc _ => lifted os started H enc)
theorem card_holds : Rows.WordsSplitsCardSaid :=
  Claim7.holds_tied_plain_at .later [] [.data, .data, .data, .data, .sentinel, .sentinel, .pinned] true (true, "fabda0044820aea6fb0a1c89918c5cc3207287a3f977cb5a2360c9edc152c320") true holds (fun _ h => by cases h) (by kernel_rfl) (fun _ h => by cases h) wordsSplits_row_tie rfl ⟨rfl, rfl⟩ (by kernel_rfl) rfl
    (fun f fn hf hfn => by
      obtain rfl : f = 3 := Option.some.inj ((show Tryz.prog.funcNamed "toll/tolllaw15.WordsSplits" = some 3 by kernel_rfl).symm.trans hf) |>.symm
      obtain rfl : fn = Tryz.f3 := (Option.some.inj (Tryz.func3.symm.trans hfn)).symm
      exact ⟨by kernel_rfl, fun j t ht => by
        rw [Tryz.params3] at ht
        have hm : t ∈ [9, 23, 24] := by simpa [or_comm, or_assoc, or_left_comm] using Array.mem_of_getElem? ht
        have hall : ([9, 23, 24].all fun u => !Tryz.prog.wantsStandIn u) = true := by kernel_rfl
        exact (show Tryz.prog.wantsStandIn t = false by simpa using List.all_eq_true.1 hall t hm)⟩)
    (by kernel_rfl)
#print axioms card_holds
end Go.Proofs.YtmmcnholpnediaaGreatDoor.Splits
