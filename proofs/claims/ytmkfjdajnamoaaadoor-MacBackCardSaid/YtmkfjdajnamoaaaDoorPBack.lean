/- The statement proved (PBack). -/
import Derived.Test.YtmkfjdajnamoaaaDoorPArgs
import Derived.Test.YtmkfjdajnamoaaaDoorX4
import Derived.Test.YtmkfjdajnamoaaaDoorCards
import Derived.Test.YtmkfjdajnamoaaaDoorTie
import Derived.LaidMore
import Derived.Lay
import Derived.SevenTiedAt
import Derived.Stop.Joined
import Derived.ChangeVars
import Derived.JoinedOf
import Derived.ChangeMaps5
import Derived.Carry
namespace Go.Proofs.YtmkfjdajnamoaaaDoor.Back
open Go Go.Proofs.YtmkfjdajnamoaaaDoor.Am Go.ChangeMaps Go.ChangeShapes Go.WideShapes Go.ChangeAt Go.RowKit

theorem own : ownKnob Tryd.prog.godebug = none := by kernel_rfl
theorem laidOut : laidOutB Tryd.prog = true := by kernel_rfl
def laidL : List (String × DataW Unit) := Rows.macBackRow.laid
theorem back_call {W : World} {a b : List UInt8} (ha : a.length = 6) (hb : b.length = 6) (s : ByteArray) (hs : s.size ≤ maxLen) :
    Calls Tryd.prog 8 #[macV a, macV b, .string s] W fun e W' => e = .returned (.bool true) ∧ Below W.heap.size W W' := by
  obtain ⟨l, rfl⟩ := str_of s
  have hw : WF (heap0 []) 4096 := fun i _ => rfl
  unfold maxLen at hs
  have hl : l.length < 9223372036854775808 := by
    have h2 : l.length ≤ 2 ^ 63 - 1 := by simpa using hs
    omega
  obtain ⟨v, h', n', hbig, rfl⟩ := back_walk ha hb hl hw (by decide)
  have := run_call (s := []) (w := W) mixed02 fs02_at ps02_at (fun p hp => by cases hp) Tryd.func8 (by kernel_rfl) (by kernel_rfl) (n := 4096) (by decide) (fun p hp => by cases hp) (args := [macV a, macV b, .string ⟨l.toArray⟩]) (cargs := [macV a, macV b, .string ⟨l.toArray⟩])
    (.cons (rel_mac a) (.cons (rel_mac b) (.cons (.string _) .nil))) hbig
  refine this.mono fun e W' ⟨u, φ', he, hu, hbel⟩ => ?_
  exact ⟨by rw [he, hu.eq_of_scalar rfl], hbel⟩

/-- A world that meets the condition: the door's own run, the pinned table laid beside. -/
noncomputable def laidWorld (os : Os) : World := World.laidAll Tryd.prog os laidL
theorem laidWorld_met (os : Os) (args : Array Value) : laidMetH Tryd.prog laidL ((laidWorld os).forCall (fun _ _ => 0) ⟨#[], args, []⟩).memory := by
  rw [MakeChecks.laidMetH_plain _ _ _ (by kernel_rfl)]
  exact laidMet_laidAll _ (by kernel_rfl) (by kernel_rfl)
def mac0 : Value := .agg #[.int .u8 0, .int .u8 0, .int .u8 0, .int .u8 0, .int .u8 0, .int .u8 0]

set_option maxRecDepth 100000 in
theorem lifted (os : Os) (started : os.Started) (H : Type) (enc : TypeId × Value → H) :
    ReturnsInHanded {} Tryd.checked os 8 .any (fun w args => (Rows.macBackSpec.pre enc Tryd.prog Tryd.f8 Rows.macBackRow.domain false w args ∧ laidMetH Tryd.prog laidL w) ∧ sizedMet enc Tryd.prog Tryd.f8 (OpenSpec.ofChange Rows.macBackSpec) false w args)
      (Rows.macBackSpec.post enc Tryd.prog Tryd.f8 false true false false) := by
  refine returnsInHanded_of_change_and (C := Tryd.checked) (X := fun w _ => laidMetH Tryd.prog laidL w) (fun _ _ _ hh h => h.of_heap hh) own started (by kernel_rfl) Tryd.func8
    (ChangeSpec.witness_shaped (enc := enc) (C := Tryd.checked) (os := os) (X := fun w _ => laidMetH Tryd.prog laidL w) false (laidWorld os) #[mac0, mac0, .string ⟨#[]⟩] 6 (World.laidAll_os _ _ _)
      (World.shaped_of_ZipB (by kernel_rfl) (by kernel_rfl)) (by kernel_rfl) (by kernel_rfl) (by kernel_rfl) (laidWorld_met os _)) ?_
  intro W base args ds gs before hval0 hW hc _ hL _
  have hval : ∀ (j : Nat) t v, Tryd.f8.params[j]? = some t → args[j]? = some v → Value.okWide Tryd.prog W .any base t v := hval0
  have hW' := hW
  obtain ⟨p, q, hA0, hV, rfl, _, _⟩ := hW
  have hA : DataW.TrodAll enc Tryd.prog W 0 (fun _ => true) true Tryd.f8.params.toList args.toList ds p := hA0
  rw [Tryd.params8] at hA hval
  obtain ⟨v0, v1, v2, d0, d1, d2, q0, q1, q2, rfl, rfl, rfl, h0, h1, h2⟩ := trodAll_three hA
  obtain ⟨a, ha, rfl⟩ := open_mac (hval 0 22 v0 rfl rfl) h0
  obtain ⟨b, hb, rfl⟩ := open_mac (hval 1 22 v1 rfl rfl) h1
  obtain ⟨s, rfl, rfl, rfl, hs⟩ := open_string Tryd.underlying9 (hval 2 9 v2 rfl rfl) h2
  obtain ⟨rfl, rfl⟩ := trodVars_none hV
  simp only [List.append_nil] at hW'
  have hlt : ∀ x ∈ q0 ++ q1, x.block < W.heap.size := fun x hx => by
    have := hW'.lt x (by simpa using hx)
    simpa using this
  refine (back_call ha hb s hs).mono fun e W' ⟨he, hbl⟩ => ?_
  subst he
  refine ⟨_, rfl, _, _, _, [], q0 ++ (q1 ++ []), [], hW', ?_, ?_, ?_, hbl.frame _, fun h => by cases h⟩
  · exact trodAll_mk1 (shut_bool Tryd.underlying4 true)
  · exact trodAll_mk3 (Below.trod laidOut (by kernel_rfl) (of_decide_eq_true (by kernel_rfl)) h0 hbl (fun x hx => hlt x (List.mem_append.2 (.inl hx))))
      (Below.trod laidOut (by kernel_rfl) (of_decide_eq_true (by kernel_rfl)) h1 hbl (fun x hx => hlt x (List.mem_append.2 (.inr hx))))
      (shut_string Tryd.underlying9 hs)
  · exact rfl

theorem holds : Rows.MacBackSaid :=
  OpenClaim.holds_of_wide 8 Tryd.f8 rfl rfl rfl rfl rfl rfl rfl ⟨rfl, rfl, rfl, rfl, rfl⟩ rfl rfl rfl rfl rfl (by kernel_rfl) Tryd.func8 (by kernel_rfl)
    (of_decide_eq_true (by kernel_rfl)) (by unfold Func.isWrapper; first | (rw [if_pos (by decide +kernel)]; kernel_rfl) | (rw [if_neg (by decide +kernel)]; exact ⟨rfl, rfl⟩))
    (fun os started H enc _ => lifted os started H enc)
theorem card_holds : Rows.MacBackCardSaid :=
  Claim7.holds_tied_plain_at .later [] [.data, .data, .data, .data, .pinned, .pinned] true (true, "5c02a0c93f738e0472568f94dfbdec18c85cd53899c1f0aeac6d982e0c2b2b31") false holds (fun _ h => by cases h) (by kernel_rfl) (fun _ h => by cases h) macBack_row_tie rfl ⟨rfl, rfl⟩ (by kernel_rfl) rfl
    (fun f fn hf hfn => by
      obtain rfl : f = 8 := Option.some.inj ((show Tryd.prog.funcNamed "toll/tolllaw02.MacBack" = some 8 by kernel_rfl).symm.trans hf) |>.symm
      obtain rfl : fn = Tryd.f8 := (Option.some.inj (Tryd.func8.symm.trans hfn)).symm
      exact ⟨by kernel_rfl, fun j t ht => by
        rw [Tryd.params8] at ht
        have hm : t ∈ [22, 9] := by simpa using Array.mem_of_getElem? ht
        have hall : ([22, 9].all fun u => !Tryd.prog.wantsStandIn u) = true := by kernel_rfl
        exact (show Tryd.prog.wantsStandIn t = false by simpa using List.all_eq_true.1 hall t hm)⟩)
    (by kernel_rfl)
#print axioms card_holds
end Go.Proofs.YtmkfjdajnamoaaaDoor.Back
