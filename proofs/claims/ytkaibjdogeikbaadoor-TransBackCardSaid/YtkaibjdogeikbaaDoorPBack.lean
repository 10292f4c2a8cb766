/- The statement proved (PBack). -/
import Derived.Test.YtkaibjdogeikbaaDoorPArgs
import Derived.Test.YtkaibjdogeikbaaDoorX4
import Derived.Test.YtkaibjdogeikbaaDoorCards
import Derived.Test.YtkaibjdogeikbaaDoorTie
import Derived.LaidMore
import Derived.Lay
import Derived.SevenTiedAt
import Derived.Stop.Joined
import Derived.ChangeVars
import Derived.JoinedOf
import Derived.ChangeMaps5
import Derived.Carry
namespace Go.Proofs.YtkaibjdogeikbaaDoor.Back
open Go Go.Proofs.YtkaibjdogeikbaaDoor.Am Go.ChangeMaps Go.ChangeShapes Go.WideShapes Go.ChangeAt Go.RowKit

theorem own : ownKnob Tryd.prog.godebug = none := by kernel_rfl
theorem laidOut : laidOutB Tryd.prog = true := by kernel_rfl
def laidL : List (String × DataW Unit) := Rows.transBackRow.laid
theorem gNames : Tryd.prog.globalNamed "toll/trans.names" = some 0 := by kernel_rfl
theorem tNames : (Tryd.prog.globals[0]?).map (·.type) = some 80 := by kernel_rfl
/-- What the condition gives: the names. -/
theorem of_laid {W : World} (h : laidMetH Tryd.prog laidL W) (s : List Seed) : 0 < W.heap.size ∧ SeedOk W s (0, ⟨0, 0, false, 0, 0⟩, .cells none (strsL namesL) 0) := by
  rw [MakeChecks.laidMetH_plain _ _ _ (by kernel_rfl)] at h
  obtain ⟨ps, ⟨_, _, _, _, _, _, _, _, _, _, ⟨g0, t0, cs0, f0, p0, q0, hg0, ht0, hv0, hd0, _, _⟩, _⟩, _, _⟩ := h
  obtain rfl := Option.some.inj (gNames.symm.trans hg0)
  obtain rfl := Option.some.inj (tNames.symm.trans ht0)
  have e0 : Rows.laid_toll_trans_names = (.agg (namesL.map fun s => .lit (.string s)) : DataW Unit) := rfl
  rw [e0] at hd0
  have hc0 : cs0.toList = strsL namesL := cells_strs Tryd.underlying80 Tryd.underlying9 (by kernel_rfl) (by kernel_rfl) hd0
  have hlt := var?_lt gNames hv0
  exact ⟨hlt, seed_cells gNames hv0 hc0 hlt (by decide) (fun v hv => ⟨v, rfl, by
    obtain ⟨s, _, rfl⟩ := List.mem_map.1 hv
    exact .string _⟩)⟩
def seedsOf (lo lb lu lc : Am.Loc) (os bs us cs : List UInt8) : List Seed :=
  [(0, ⟨0, 0, false, 0, 0⟩, .cells none (strsL namesL) 0), (4096, lo, .cells none (u8s os) 0), (4097, lb, .cells none (u8s bs) 0), (4098, lu, .cells none (u8s us) 0), (4099, lc, .cells none (u8s cs) 0)]
theorem back_call {W : World} (hL : laidMetH Tryd.prog laidL W) {t : TcpN} (ht : t.ok) {fr to ln sm : Nat} (u1 : fr < 65536) (u2 : to < 65536) (u3 : ln < 65536) (u4 : sm < 65536) {o b ub bb : Value} {os bs us cs : List UInt8} {lo lb lu lc : Am.Loc}
    (ho : BA W o os lo) (hb : BA W b bs lb) (hu : BA W ub us lu) (hc : BA W bb cs lc) :
    Calls Tryd.prog 5 #[tcpV t o b, udpV fr to ln sm ub, bb] W fun e W' => e = .returned (.bool true) ∧ Below W.heap.size W W' := by
  obtain ⟨hpos, hs0⟩ := of_laid hL (seedsOf lo lb lu lc os bs us cs)
  obtain ⟨o', ho1, ho2, ho3⟩ := ho.val (s := seedsOf lo lb lu lc os bs us cs) (i := 4096) rfl
  obtain ⟨b', hb1, hb2, hb3⟩ := hb.val (s := seedsOf lo lb lu lc os bs us cs) (i := 4097) rfl
  obtain ⟨u', hu1, hu2, hu3⟩ := hu.val (s := seedsOf lo lb lu lc os bs us cs) (i := 4098) rfl
  obtain ⟨c', hc1, hc2, hc3⟩ := hc.val (s := seedsOf lo lb lu lc os bs us cs) (i := 4099) rfl
  have hw : WF (heap0 (seedsOf lo lb lu lc os bs us cs)) 4100 := fun i hi => by
    simp only [seedsOf, heap0, List.map_cons, List.map_nil, AHeap.get_cons]
    rw [if_neg (by omega), if_neg (by omega), if_neg (by omega), if_neg (by omega), if_neg (by omega)]; rfl
  have hnm : HasNames (heap0 (seedsOf lo lb lu lc os bs us cs)) := rfl
  obtain ⟨v, h', n', hbig, rfl⟩ := back_walk ht u1 u2 u3 u4 ho1 hb1 hu1 hc1 ho.2.2.1 hb.2.2.1 hu.2.2.1 hc.2.2.1 hw hnm (by decide)
  have := run_call (s := seedsOf lo lb lu lc os bs us cs) (w := W) mixed07 fs07_at ps07_at (fun p hp => by
    simp only [seedsOf, List.mem_cons, List.not_mem_nil, or_false] at hp
    rcases hp with rfl | rfl | rfl | rfl | rfl
    · exact hs0
    · exact ho.seed (by decide)
    · exact hb.seed (by decide)
    · exact hu.seed (by decide)
    · exact hc.seed (by decide)) Tryd.func5 (by kernel_rfl) (by kernel_rfl) (n := 4100) (by decide) (fun p hp => by
    simp only [seedsOf, List.mem_cons, List.not_mem_nil, or_false] at hp
    rcases hp with rfl | rfl | rfl | rfl | rfl <;> simp) (args := [tcpV t o' b', udpV fr to ln sm u', c']) (cargs := [tcpV t o b, udpV fr to ln sm ub, bb])
    (.cons (.agg _ _ rfl (by simp only [List.all_cons, ho3, hb3]; rfl) (fun i hi hj => by
      match i, hi with
      | 0, _ | 1, _ | 2, _ | 3, _ | 4, _ | 5, _ | 6, _ | 7, _ | 8, _ => exact .int _ _
      | 9, _ => exact ho2
      | 10, _ => exact hb2)) (.cons (.agg _ _ rfl (by simp only [List.all_cons, hu3]; rfl) (fun i hi hj => by
      match i, hi with
      | 0, _ | 1, _ | 2, _ | 3, _ => exact .int _ _
      | 4, _ => exact hu2)) (.cons hc2 .nil))) hbig
  refine this.mono fun e W' ⟨u, φ', he, hu, hbel⟩ => ?_
  exact ⟨by rw [he, hu.eq_of_scalar rfl], hbel⟩

/-- A world that meets the condition: the door's own run, the pinned table laid beside. -/
noncomputable def laidWorld (os : Os) : World := (World.doorLaid Tryd.prog 400 os).layVars Tryd.prog [("unicode/utf8.first", Rows.laid_unicode_utf8_first)]
theorem laidWorld_met (os : Os) (args : Array Value) : laidMetH Tryd.prog laidL ((laidWorld os).forCall (fun _ _ => 0) ⟨#[], args, []⟩).memory := by
  rw [MakeChecks.laidMetH_plain _ _ _ (by kernel_rfl)]
  exact laidMet_of_run' 8 (by kernel_rfl) (by kernel_rfl)
def tcp0 : Value := .agg #[.int .u16 0, .int .u16 0, .int .u32 0, .int .u32 0, .int .u8 0, .int .u8 0, .int .u16 0, .int .u16 0, .int .u16 0, .slice none 0 0, .slice none 0 0]
def udp0 : Value := .agg #[.int .u16 0, .int .u16 0, .int .u16 0, .int .u16 0, .slice none 0 0]

set_option maxRecDepth 100000 in
theorem lifted (os : Os) (started : os.Started) (H : Type) (enc : TypeId × Value → H) :
    ReturnsInHanded {} Tryd.checked os 5 .any (fun w args => (Rows.transBackSpec.pre enc Tryd.prog Tryd.f5 Rows.transBackRow.domain false w args ∧ laidMetH Tryd.prog laidL w) ∧ sizedMet enc Tryd.prog Tryd.f5 (OpenSpec.ofChange Rows.transBackSpec) false w args)
      (Rows.transBackSpec.post enc Tryd.prog Tryd.f5 false true false false) := by
  refine returnsInHanded_of_change_and (C := Tryd.checked) (X := fun w _ => laidMetH Tryd.prog laidL w) (fun _ _ _ hh h => h.of_heap hh) own started (by kernel_rfl) Tryd.func5
    (ChangeSpec.witness_shaped (enc := enc) (C := Tryd.checked) (os := os) (X := fun w _ => laidMetH Tryd.prog laidL w) false (laidWorld os) #[tcp0, udp0, .slice none 0 0] 8 (World.layVars_os _ _ _)
      (World.shaped_of_ZipB (by kernel_rfl) (by kernel_rfl)) (by kernel_rfl) (by kernel_rfl) (by kernel_rfl) (laidWorld_met os _)) ?_
  intro W base args ds gs before hval0 hW hc _ hL _
  have hval : ∀ (j : Nat) t v, Tryd.f5.params[j]? = some t → args[j]? = some v → Value.okWide Tryd.prog W .any base t v := hval0
  have hW' := hW
  obtain ⟨p, q, hA0, hV, rfl, _, _⟩ := hW
  have hA : DataW.TrodAll enc Tryd.prog W 0 (fun _ => true) true Tryd.f5.params.toList args.toList ds p := hA0
  rw [Tryd.params5] at hA hval
  obtain ⟨v0, v1, v2, d0, d1, d2, q0, q1, q2, rfl, rfl, rfl, h0, h1, h2⟩ := trodAll_three hA
  obtain ⟨hpos, _⟩ := of_laid hL []
  obtain ⟨t, o, b, os', bs, lo, lb, ht, e0, ho, hb⟩ := open_tcp (hval 0 35 v0 rfl rfl) h0 hpos
  obtain ⟨fr, to, ln, sm, ub, us, lu, u1, u2, u3, u4, e1, hu⟩ := open_udp (hval 1 37 v1 rfl rfl) h1 hpos
  obtain ⟨bb, cs, lc, e2, hcb⟩ : ∃ bb cs lc, v2 = bb ∧ BA W bb cs lc := by
    obtain ⟨ai, al, ac, rfl⟩ := okWide_slice Tryd.underlying33 (hval 2 33 v2 rfl rfl)
    obtain ⟨fuel, hf⟩ := h2
    obtain ⟨cs, lc, h⟩ := open_ba Tryd.underlying33 Tryd.underlying5 cells5 (v := .slice ai al ac) hf hpos
    exact ⟨_, cs, lc, rfl, h⟩
  subst e2
  obtain ⟨rfl, rfl⟩ := trodVars_none hV
  simp only [List.append_nil] at hW'
  have hlt : ∀ x ∈ q0 ++ (q1 ++ q2), x.block < W.heap.size := fun x hx => by
    have := hW'.lt x (by simpa using hx)
    simpa using this
  have hcall := back_call hL ht u1 u2 u3 u4 ho hb hu hcb
  rw [← e0, ← e1] at hcall
  refine hcall.mono fun e W' ⟨he, hbl⟩ => ?_
  subst he
  refine ⟨_, rfl, _, _, _, [], q0 ++ (q1 ++ q2), [], hW', ?_, ?_, ?_, hbl.frame _, fun h => by cases h⟩
  · exact trodAll_mk1 (shut_bool Tryd.underlying4 true)
  · exact trodAll_mk3 (Below.trod laidOut (by kernel_rfl) (of_decide_eq_true (by kernel_rfl)) h0 hbl (fun x hx => hlt x (List.mem_append.2 (.inl hx))))
      (Below.trod laidOut (by kernel_rfl) (of_decide_eq_true (by kernel_rfl)) h1 hbl (fun x hx => hlt x (List.mem_append.2 (.inr (List.mem_append.2 (.inl hx))))))
      (Below.trod laidOut (by kernel_rfl) (of_decide_eq_true (by kernel_rfl)) h2 hbl (fun x hx => hlt x (List.mem_append.2 (.inr (List.mem_append.2 (.inr hx))))))
  · exact rfl

theorem holds : Rows.TransBackSaid :=
  OpenClaim.holds_of_wide 5 Tryd.f5 rfl rfl rfl rfl rfl rfl rfl ⟨rfl, rfl, rfl, rfl, rfl⟩ rfl rfl rfl rfl rfl (by kernel_rfl) Tryd.func5 (by kernel_rfl)
    (of_decide_eq_true (by kernel_rfl)) (by unfold Func.isWrapper; first | (rw [if_pos (by decide +kernel)]; kernel_rfl) | (rw [if_neg (by decide +kernel)]; exact ⟨rfl, rfl⟩))
    (fun os started H enc _ => lifted os started H enc)
theorem card_holds : Rows.TransBackCardSaid :=
  Claim7.holds_tied_plain_at .later [] [.data, .widerDeep, .pinned] true (true, "b2e41a4932e26e9604838ab59d6275fd44281517fba61abb4e2f148747f5a8b6") false holds (fun _ h => by cases h) (by kernel_rfl) (fun _ h => by cases h) transBack_row_tie rfl ⟨rfl, rfl⟩ (by kernel_rfl) rfl
    (fun f fn hf hfn => by
      obtain rfl : f = 5 := Option.some.inj ((show Tryd.prog.funcNamed "toll/tolllaw07.TransBack" = some 5 by kernel_rfl).symm.trans hf) |>.symm
      obtain rfl : fn = Tryd.f5 := (Option.some.inj (Tryd.func5.symm.trans hfn)).symm
      exact ⟨by kernel_rfl, fun j t ht => by
        rw [Tryd.params5] at ht
        have hm : t ∈ [35, 37, 33] := by simpa using Array.mem_of_getElem? ht
        have hall : ([35, 37, 33].all fun u => !Tryd.prog.wantsStandIn u) = true := by kernel_rfl
        exact (show Tryd.prog.wantsStandIn t = false by simpa using List.all_eq_true.1 hall t hm)⟩)
    (by kernel_rfl)
#print axioms card_holds
end Go.Proofs.YtkaibjdogeikbaaDoor.Back
