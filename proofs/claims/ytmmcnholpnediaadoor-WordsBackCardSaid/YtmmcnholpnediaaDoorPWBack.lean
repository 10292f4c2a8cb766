/- The statement proved (PWBack). -/
import Derived.Test.YtmmcnholpnediaaDoorPArgsBack
import Derived.Test.YtmmcnholpnediaaDoorX2
import Derived.Test.YtmmcnholpnediaaDoorCards
import Derived.Test.YtmmcnholpnediaaDoorTie
import Derived.LaidMore
import Derived.Lay
import Derived.SevenTiedAt
import Derived.Stop.Joined
import Derived.ChangeVars
import Derived.JoinedOf
import Derived.ChangeMaps5
import Derived.Carry
namespace Go.Proofs.YtmmcnholpnediaaDoor.Back
open Go Go.Proofs.YtmmcnholpnediaaDoor.Am Go.ChangeMaps Go.ChangeShapes Go.WideShapes Go.ChangeAt Go.RowKit

theorem own : ownKnob Tryd.prog.godebug = none := by kernel_rfl
theorem laidOut : laidOutB Tryd.prog = true := by kernel_rfl
def laidL : List (String × DataW Unit) := Rows.wordsBackRow.laid
section
variable {H : Type} {enc : TypeId × Value → H} {W : World} {base : Nat}
theorem cells33 : Tryd.prog.cellsOf 33 = 1 := by kernel_rfl
theorem cells34 : Tryd.prog.cellsOf 34 = 3 := by kernel_rfl
set_option maxRecDepth 100000 in
theorem okWide_three {v : Value} (h : Value.okWide Tryd.prog W .any base 34 v) : ∃ cs, v = .agg cs ∧ cs.size = Tryd.prog.cellsOf 34 := by
  simp only [Value.okWide, Tryd.underlying34] at h
  obtain ⟨cs, h1, h2, _⟩ := h
  exact ⟨cs, h1, h2⟩
set_option maxRecDepth 100000 in
theorem open_three {v : Value} {d : DataW H} {p : List MemPlace} (hval : Value.okWide Tryd.prog W .any base 34 v) (h : DataW.Trod enc Tryd.prog W 0 (fun _ => true) true 34 v d p) :
    ∃ x y z : Nat, x < 65536 ∧ y < 65536 ∧ z < 65536 ∧ v = .agg #[.int .u16 (x : Int), .int .u16 (y : Int), .int .u16 (z : Int)] := by
  obtain ⟨cs, rfl, -⟩ := okWide_three hval
  obtain ⟨fuel, hf⟩ := h
  obtain ⟨xs, n, _, _, hl, hxl, hx⟩ := DataW.trod_array Tryd.underlying34 hf
  rw [cells34] at hl
  have ec : (Value.agg cs).cells.toList = cs.toList := rfl
  rw [ec] at hl hx
  have key : ∀ i, i < 3 → ∃ b : Nat, b < 65536 ∧ cs.toList[i]? = some (.int .u16 (b : Int)) := fun i hi => by
    have h1 := hx i hi
    rw [cells33, Nat.mul_one, List.drop_eq_getElem_cons (by omega : i < cs.toList.length), List.take_succ_cons, List.take_zero, List.getElem?_eq_getElem (by omega : i < xs.length)] at h1
    obtain ⟨m, e, _, w⟩ := DataW.trod_int Tryd.underlying33 h1
    have hb := bounds_u16 w
    obtain ⟨b, rfl⟩ : ∃ b : Nat, m = (b : Int) := ⟨m.toNat, by omega⟩
    refine ⟨b, by omega, ?_⟩
    simp only [List.cons.injEq, and_true] at e
    rw [List.getElem?_eq_getElem (by omega : i < cs.toList.length), e]
  obtain ⟨b0, w0, h0⟩ := key 0 (by omega)
  obtain ⟨b1, w1, h1⟩ := key 1 (by omega)
  obtain ⟨b2, w2, h2⟩ := key 2 (by omega)
  obtain ⟨c0, c1, c2, hcs⟩ : ∃ c0 c1 c2, cs.toList = [c0, c1, c2] := by
    match cs.toList, hl with
    | [a0, a1, a2], _ => exact ⟨_, _, _, rfl⟩
  rw [hcs] at h0 h1 h2
  refine ⟨b0, b1, b2, w0, w1, w2, ?_⟩
  congr 1
  refine Array.toList_inj.1 ?_
  rw [hcs]
  simp only [List.getElem?_cons_zero, List.getElem?_cons_succ, Option.some.injEq] at h0 h1 h2
  rw [h0, h1, h2]
end
theorem back_call {W : World} (hL : laidMetH Tryd.prog laidL W) (s : ByteArray) (hs : s.size ≤ maxLen) {a x y z : Nat} (ha : a < 4294967296) (hx : x < 65536) (hy : y < 65536) (hz : z < 65536) :
    Calls Tryd.prog 4 #[.int .u32 (a : Int), .agg #[.int .u16 (x : Int), .int .u16 (y : Int), .int .u16 (z : Int)], .string s] W fun e W' => e = .returned (.bool true) ∧ Below W.heap.size W W' := by
  obtain ⟨l, rfl⟩ := str_of s
  obtain ⟨lS, lR, sS, sR, G⟩ := given_of hL
  unfold maxLen at hs
  have hl : l.length < 9223372036854775808 := by
    have h2 : l.length ≤ 2 ^ 63 - 1 := by simpa using hs
    omega
  obtain ⟨v, h', n', hbig, rfl⟩ := back_walk ha hx hy hz hl (seedsC_wf lS lR sS sR (l := []) (n := 4098) (by omega) (fun i _ => rfl)) (seedsC_pow lS lR sS sR []) (seedsC_err lS lR sS sR []) (by decide) (by decide)
  have := run_call (s := seedsC lS lR sS sR []) (w := W) mixed15 fs15_at ps15_at (seedsC_ok G (fun p hp => by cases hp)) Tryd.func4 (by kernel_rfl) (by kernel_rfl) (n := 4098) (by decide) (seedsC_lt lS lR sS sR (by omega) (fun p hp => by cases hp)) (args := [.int .u32 (a : Int), .agg #[.int .u16 (x : Int), .int .u16 (y : Int), .int .u16 (z : Int)], .string ⟨l.toArray⟩]) (cargs := [.int .u32 (a : Int), .agg #[.int .u16 (x : Int), .int .u16 (y : Int), .int .u16 (z : Int)], .string ⟨l.toArray⟩])
    (.cons (.int _ _) (.cons (VRels.agg (.cons (.int _ _) (.cons (.int _ _) (.cons (.int _ _) .nil))) rfl) (.cons (.string _) .nil))) hbig
  refine this.mono fun e W' ⟨u, φ', he, hu, hbel⟩ => ?_
  exact ⟨by rw [he, hu.eq_of_scalar rfl], hbel⟩

/-- A world that meets the condition: all that is listed, laid. -/
noncomputable def laidWorld (os : Os) : World := World.laidAll Tryd.prog os laidL
theorem laidWorld_met (os : Os) (args : Array Value) : laidMetH Tryd.prog laidL ((laidWorld os).forCall (fun _ _ => 0) ⟨#[], args, []⟩).memory := by
  rw [MakeChecks.laidMetH_plain _ _ _ (by kernel_rfl)]
  exact laidMet_laidAll _ (by kernel_rfl) (by kernel_rfl)

set_option maxRecDepth 100000 in
theorem lifted (os : Os) (started : os.Started) (H : Type) (enc : TypeId × Value → H) :
    ReturnsInHanded {} Tryd.checked os 4 .any (fun w args => (Rows.wordsBackSpec.pre enc Tryd.prog Tryd.f4 Rows.wordsBackRow.domain false w args ∧ laidMetH Tryd.prog laidL w) ∧ sizedMet enc Tryd.prog Tryd.f4 (OpenSpec.ofChange Rows.wordsBackSpec) false w args)
      (Rows.wordsBackSpec.post enc Tryd.prog Tryd.f4 false true false false) := by
  refine returnsInHanded_of_change_and (C := Tryd.checked) (X := fun w _ => laidMetH Tryd.prog laidL w) (fun _ _ _ hh h => h.of_heap hh) own started (by kernel_rfl) Tryd.func4
    (ChangeSpec.witness_shaped (enc := enc) (C := Tryd.checked) (os := os) (X := fun w _ => laidMetH Tryd.prog laidL w) false (laidWorld os) #[.int .u32 0, .agg #[.int .u16 0, .int .u16 0, .int .u16 0], .string ⟨#[]⟩] 8 (World.laidAll_os _ _ _)
      (World.shaped_of_ZipB (by kernel_rfl) (by kernel_rfl)) (by kernel_rfl) (by kernel_rfl) (by kernel_rfl) (laidWorld_met os _)) ?_
  intro W base args ds gs before hval0 hW hc _ hL _
  have hval : ∀ (j : Nat) t v, Tryd.f4.params[j]? = some t → args[j]? = some v → Value.okWide Tryd.prog W .any base t v := hval0
  have hW' := hW
  obtain ⟨p, q, hA0, hV, rfl, _, _⟩ := hW
  have hA : DataW.TrodAll enc Tryd.prog W 0 (fun _ => true) true Tryd.f4.params.toList args.toList ds p := hA0
  rw [Tryd.params4] at hA hval
  obtain ⟨v0, v1, v2, d0, d1, d2, q0, q1, q2, rfl, rfl, rfl, h0, h1, h2⟩ := trodAll_three hA
  obtain ⟨a, rfl, rfl, rfl, hwa⟩ := open_int Tryd.underlying32 (hval 0 32 v0 rfl rfl) h0
  obtain ⟨x, y, z, hx, hy, hz, rfl⟩ := open_three (hval 1 34 v1 rfl rfl) h1
  obtain ⟨s, rfl, rfl, rfl, hs⟩ := open_string Tryd.underlying9 (hval 2 9 v2 rfl rfl) h2
  obtain ⟨rfl, rfl⟩ := trodVars_none hV
  simp only [List.append_nil] at hW'
  have b0 := bounds_u32 hwa
  obtain ⟨a, rfl⟩ : ∃ k : Nat, a = (k : Int) := ⟨a.toNat, by omega⟩
  have hlt : ∀ x ∈ q1, x.block < W.heap.size := fun x hx => by
    have := hW'.lt x (by simpa using hx)
    simpa using this
  refine (back_call hL s hs (by omega) hx hy hz).mono fun e W' ⟨he, hbl⟩ => ?_
  subst he
  refine ⟨_, rfl, _, _, _, [], q1 ++ [], [], hW', ?_, ?_, ?_, hbl.frame _, fun h => by cases h⟩
  · exact trodAll_mk1 (shut_bool Tryd.underlying4 true)
  · exact trodAll_mk3 (shut_int Tryd.underlying32 hwa) (Below.trod laidOut (by kernel_rfl) (of_decide_eq_true (by kernel_rfl)) h1 hbl hlt) (shut_string Tryd.underlying9 hs)
  · exact rfl

theorem holds : Rows.WordsBackSaid :=
  OpenClaim.holds_of_wide 4 Tryd.f4 rfl rfl rfl rfl rfl rfl rfl ⟨rfl, rfl, rfl, rfl, rfl⟩ rfl rfl rfl rfl rfl (by kernel_rfl) Tryd.func4 (by kernel_rfl)
    (of_decide_eq_true (by kernel_rfl)) (by unfold Func.isWrapper; first | (rw [if_pos (by decide +kernel)]; kernel_rfl) | (rw [if_neg (by decide +kernel)]; exact ⟨rfl, rfl⟩))
    (fun os started H enc _ => lifted os started H enc)
theorem card_holds : Rows.WordsBackCardSaid :=
  Claim7.holds_tied_plain_at .later [] [.data, .data, .data, .data, .sentinel, .sentinel, .pinned] true (true, "78baa04986e982415de0be26cd1cd262be2c3e4d855045e7eba3ea42bbe353fc") true holds (fun _ h => by cases h) (by kernel_rfl) (fun _ h => by cases h) wordsBack_row_tie rfl ⟨rfl, rfl⟩ (by kernel_rfl) rfl
    (fun f fn hf hfn => by
      obtain rfl : f = 4 := Option.some.inj ((show Tryd.prog.funcNamed "toll/tolllaw15.WordsBack" = some 4 by kernel_rfl).symm.trans hf) |>.symm
      obtain rfl : fn = Tryd.f4 := (Option.some.inj (Tryd.func4.symm.trans hfn)).symm
      exact ⟨by kernel_rfl, fun j t ht => by
        rw [Tryd.params4] at ht
        have hm : t ∈ [9, 32, 34] := by simpa [or_comm, or_assoc, or_left_comm] using Array.mem_of_getElem? ht
        have hall : ([9, 32, 34].all fun u => !Tryd.prog.wantsStandIn u) = true := by kernel_rfl
        exact (show Tryd.prog.wantsStandIn t = false by simpa using List.all_eq_true.1 hall t hm)⟩)
    (by kernel_rfl)
#print axioms card_holds
end Go.Proofs.YtmmcnholpnediaaDoor.Back
