/- The statement proved (PGets). -/
import Derived.Test.YtkaibjdogeikbaaDoorPSums
import Derived.Test.YtkaibjdogeikbaaDoorZ1
import Derived.Test.YtkaibjdogeikbaaDoorCards
import Derived.Test.YtkaibjdogeikbaaDoorTie
import Derived.LaidMore
import Derived.Lay
import Derived.SevenTiedAt
import Derived.Stop.Joined
import Derived.ChangeVars
import Derived.JoinedOf
import Derived.ChangeMaps5
import Derived.Carry
namespace Go.Proofs.YtkaibjdogeikbaaDoor.Gets
open Go Go.Proofs.YtkaibjdogeikbaaDoor.Am Go.ChangeMaps Go.ChangeShapes Go.WideShapes Go.ChangeAt Go.RowKit Go.Proofs.YtkaibjdogeikbaaDoor.Sums

theorem own : ownKnob Tryd.prog.godebug = none := by kernel_rfl
theorem laidOut : laidOutB Tryd.prog = true := by kernel_rfl
def laidL : List (String × DataW Unit) := Rows.transGetsRow.laid
theorem gets_call {W : World} (hL : laidMetH Tryd.prog laidL W) {src dst proto : Nat} (h1 : src < 4294967296) (h2 : dst < 4294967296) (h3 : proto < 256) {v : Value} {bs : List UInt8} {l : Am.Loc} (hb : BA W v bs l) :
    Calls Tryd.prog 7 #[v, .agg #[.int .u32 (src : Int), .int .u32 (dst : Int)], .int .u8 (proto : Int)] W fun e W' => e = .returned (.bool true) ∧ Below W.heap.size W W' := by
  obtain ⟨hpos, b, es, hes, hsd⟩ := of_laid hL
  obtain ⟨v', hb1, hb2, hb3⟩ := hb.val (s := seedsOf b es l bs) (i := 4097) rfl
  have hnm : HasNames (heap0 (seedsOf b es l bs)) := rfl
  have hsm := heap_sums (b := b) hes l bs
  have hw := heap_wf b es l bs
  obtain ⟨w, h', n', hbig, rfl⟩ := gets_walk h1 h2 h3 hb1 hb.2.2.1 hw hnm hsm (by decide)
  have := run_call (s := seedsOf b es l bs) (w := W) mixed07 fs07_at ps07_at (hsd v l bs hb) Tryd.func7 (by kernel_rfl) (by kernel_rfl) (n := 4098) (by decide) seeds_lt
    (args := [v', .agg #[.int .u32 (src : Int), .int .u32 (dst : Int)], .int .u8 (proto : Int)]) (cargs := [v, .agg #[.int .u32 (src : Int), .int .u32 (dst : Int)], .int .u8 (proto : Int)])
    (.cons hb2 (.cons (.agg _ _ rfl rfl (fun i hi hj => by
      match i, hi with
      | 0, _ | 1, _ => exact .int _ _)) (.cons (.int _ _) .nil))) hbig
  refine this.mono fun e W' ⟨u, φ', he, hu, hbel⟩ => ?_
  exact ⟨by rw [he, hu.eq_of_scalar rfl], hbel⟩

/-- A world that meets the condition: the door's own run, the pinned table laid beside. -/
noncomputable def laidWorld (os : Os) : World := (World.doorLaid Tryd.prog 400 os).layVars Tryd.prog [("unicode/utf8.first", Rows.laid_unicode_utf8_first)]
theorem laidWorld_met (os : Os) (args : Array Value) : laidMetH Tryd.prog laidL ((laidWorld os).forCall (fun _ _ => 0) ⟨#[], args, []⟩).memory := by
  rw [MakeChecks.laidMetH_plain _ _ _ (by kernel_rfl)]
  exact laidMet_of_run' 8 (by kernel_rfl) (by kernel_rfl)
set_option maxRecDepth 100000 in
theorem lifted (os : Os) (started : os.Started) (H : Type) (enc : TypeId × Value → H) :
    ReturnsInHanded {} Tryd.checked os 7 .any (fun w args => (Rows.transGetsSpec.pre enc Tryd.prog Tryd.f7 Rows.transGetsRow.domain false w args ∧ laidMetH Tryd.prog laidL w) ∧ sizedMet enc Tryd.prog Tryd.f7 (OpenSpec.ofChange Rows.transGetsSpec) false w args)
      (Rows.transGetsSpec.post enc Tryd.prog Tryd.f7 false true false false) := by
  refine returnsInHanded_of_change_and (C := Tryd.checked) (X := fun w _ => laidMetH Tryd.prog laidL w) (fun _ _ _ hh h => h.of_heap hh) own started (by kernel_rfl) Tryd.func7
    (ChangeSpec.witness_shaped (enc := enc) (C := Tryd.checked) (os := os) (X := fun w _ => laidMetH Tryd.prog laidL w) false (laidWorld os) #[.slice none 0 0, .agg #[.int .u32 0, .int .u32 0], .int .u8 0] 8 (World.layVars_os _ _ _)
      (World.shaped_of_ZipB (by kernel_rfl) (by kernel_rfl)) (by kernel_rfl) (by kernel_rfl) (by kernel_rfl) (laidWorld_met os _)) ?_
  intro W base args ds gs before hval0 hW hc _ hL _
  have hval : ∀ (j : Nat) t v, Tryd.f7.params[j]? = some t → args[j]? = some v → Value.okWide Tryd.prog W .any base t v := hval0
  have hW' := hW
  obtain ⟨p, q, hA0, hV, rfl, _, _⟩ := hW
  have hA : DataW.TrodAll enc Tryd.prog W 0 (fun _ => true) true Tryd.f7.params.toList args.toList ds p := hA0
  rw [Tryd.params7] at hA hval
  obtain ⟨v0, v1, v2, d0, d1, d2, q0, q1, q2, rfl, rfl, rfl, h0, h1, h2⟩ := trodAll_three hA
  obtain ⟨hpos, _⟩ := of_laid hL
  obtain ⟨bs, l, hcb⟩ : ∃ bs l, BA W v0 bs l := by
    obtain ⟨ai, al, ac, rfl⟩ := okWide_slice Tryd.underlying33 (hval 0 33 v0 rfl rfl)
    obtain ⟨fuel, hf⟩ := h0
    exact open_ba Tryd.underlying33 Tryd.underlying5 cells5 (v := .slice ai al ac) hf hpos
  obtain ⟨src, dst, b1, b2, e1⟩ := open_ends (hval 1 65 v1 rfl rfl) h1
  obtain ⟨nn, rfl, rfl, rfl, hwn⟩ := open_int Tryd.underlying5 (hval 2 5 v2 rfl rfl) h2
  obtain ⟨proto, rfl, b3⟩ := nat_u8 hwn
  obtain ⟨rfl, rfl⟩ := trodVars_none hV
  simp only [List.append_nil] at hW'
  have hlt : ∀ x ∈ q0 ++ q1, x.block < W.heap.size := fun x hx => by
    have := hW'.lt x (by simpa using hx)
    simpa using this
  have hcall := gets_call hL b1 b2 b3 hcb
  rw [← e1] at hcall
  refine hcall.mono fun e W' ⟨he, hbl⟩ => ?_
  subst he
  refine ⟨_, rfl, _, _, _, [], q0 ++ (q1 ++ []), [], hW', ?_, ?_, ?_, hbl.frame _, fun h => by cases h⟩
  · exact trodAll_mk1 (shut_bool Tryd.underlying4 true)
  · exact trodAll_mk3 (Below.trod laidOut (by kernel_rfl) (of_decide_eq_true (by kernel_rfl)) h0 hbl (fun x hx => hlt x (List.mem_append.2 (.inl hx))))
      (Below.trod laidOut (by kernel_rfl) (of_decide_eq_true (by kernel_rfl)) h1 hbl (fun x hx => hlt x (List.mem_append.2 (.inr hx)))) (shut_int Tryd.underlying5 hwn)
  · exact rfl

theorem holds : Rows.TransGetsSaid :=
  OpenClaim.holds_of_wide 7 Tryd.f7 rfl rfl rfl rfl rfl rfl rfl ⟨rfl, rfl, rfl, rfl, rfl⟩ rfl rfl rfl rfl rfl (by kernel_rfl) Tryd.func7 (by kernel_rfl)
    (of_decide_eq_true (by kernel_rfl)) (by unfold Func.isWrapper; first | (rw [if_pos (by decide +kernel)]; kernel_rfl) | (rw [if_neg (by decide +kernel)]; exact ⟨rfl, rfl⟩))
    (fun os started H enc _ => lifted os started H enc)
theorem card_holds : Rows.TransGetsCardSaid :=
  Claim7.holds_tied_plain_at .later [] [.data, .widerDeep, .mapped, .pinned] true (true, "b2e41a4932e26e9604838ab59d6275fd44281517fba61abb4e2f148747f5a8b6") false holds (fun _ h => by cases h) (by kernel_rfl) (fun _ h => by cases h) transGets_row_tie rfl ⟨rfl, rfl⟩ (by kernel_rfl) rfl
    (fun f fn hf hfn => by
      obtain rfl : f = 7 := Option.some.inj ((show Tryd.prog.funcNamed "toll/tolllaw07.TransGets" = some 7 by kernel_rfl).symm.trans hf) |>.symm
      obtain rfl : fn = Tryd.f7 := (Option.some.inj (Tryd.func7.symm.trans hfn)).symm
      exact ⟨by kernel_rfl, fun j t ht => by
        rw [Tryd.params7] at ht
        have hm : t ∈ [33, 65, 5] := by simpa using Array.mem_of_getElem? ht
        have hall : ([33, 65, 5].all fun u => !Tryd.prog.wantsStandIn u) = true := by kernel_rfl
        exact (show Tryd.prog.wantsStandIn t = false by simpa using List.all_eq_true.1 hall t hm)⟩)
    (by kernel_rfl)
#print axioms card_holds
end Go.Proofs.YtkaibjdogeikbaaDoor.Gets
