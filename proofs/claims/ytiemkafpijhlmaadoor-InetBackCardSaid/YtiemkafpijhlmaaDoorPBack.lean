/- The statement proved (PBack). -/
import Derived.Test.YtiemkafpijhlmaaDoorPHd
import Derived.Test.YtiemkafpijhlmaaDoorY2
import Derived.Test.YtiemkafpijhlmaaDoorCards
import Derived.Test.YtiemkafpijhlmaaDoorTie
import Derived.LaidMore
import Derived.Lay
import Derived.SevenTiedAt
import Derived.Stop.Joined
import Derived.ChangeVars
import Derived.JoinedOf
import Derived.ChangeMaps5
import Derived.Carry
namespace Go.Proofs.YtiemkafpijhlmaaDoor.Back
open Go Go.Proofs.YtiemkafpijhlmaaDoor.Am Go.ChangeMaps Go.ChangeShapes Go.WideShapes Go.ChangeAt Go.RowKit

theorem own : ownKnob Tryd.prog.godebug = none := by kernel_rfl
theorem laidOut : laidOutB Tryd.prog = true := by kernel_rfl
def laidL : List (String × DataW Unit) := Rows.inetBackRow.laid
def seedsL (lo lb le : Am.Loc) (os bs be : List UInt8) : List Seed := [(4098, lo, .cells none (u8s os) 0), (4099, lb, .cells none (u8s bs) 0), (4100, le, .cells none (u8s be) 0)]
theorem back_call {W : World} (hL : laidMetH Tryd.prog laidL W) {t : HdN} (ht : t.ok) {o b e : Value} {os bs be : List UInt8} {lo lb le : Am.Loc} (ho : BA W o os lo) (hb : BA W b bs lb) (he : BA W e be le) {cut : Nat} (hcut : cut < 65536) :
    Calls Tryd.prog 7 #[hdV t o, b, e, .int .u16 (cut : Int)] W fun e W' => e = .returned (.bool true) ∧ Below W.heap.size W W' := by
  obtain ⟨lS, lR, sS, sR, G⟩ := given_of hL
  obtain ⟨o', ho1, ho2, ho3⟩ := ho.val (s := seedsC lS lR sS sR (seedsL lo lb le os bs be)) (i := 4098) rfl
  obtain ⟨b', hb1, hb2, hb3⟩ := hb.val (s := seedsC lS lR sS sR (seedsL lo lb le os bs be)) (i := 4099) rfl
  obtain ⟨e', he1, he2, he3⟩ := he.val (s := seedsC lS lR sS sR (seedsL lo lb le os bs be)) (i := 4100) rfl
  obtain ⟨v, h', n', hbig, rfl⟩ := back_walk ht ho1 hb1 he1 ho.2.2.1 hb.2.2.1 he.2.2.1 hcut (seedsC_wf lS lR sS sR (l := seedsL lo lb le os bs be) (n := 4101) (by omega) (fun i hi => by
    simp only [seedsL, heap0, List.map_cons, List.map_nil, AHeap.get_cons]
    rw [if_neg (by omega), if_neg (by omega), if_neg (by omega)]; rfl)) (seedsC_pow lS lR sS sR _) (seedsC_err lS lR sS sR _) (by decide)
  have := run_call (s := seedsC lS lR sS sR (seedsL lo lb le os bs be)) (w := W) mixed06 fs06_at ps06_at (seedsC_ok G (fun p hp => by
    simp only [seedsL, List.mem_cons, List.not_mem_nil, or_false] at hp
    rcases hp with rfl | rfl | rfl
    · exact ho.seed (by decide)
    · exact hb.seed (by decide)
    · exact he.seed (by decide))) Tryd.func7 (by kernel_rfl) (by kernel_rfl) (n := 4101) (by decide) (seedsC_lt lS lR sS sR (by omega) (fun p hp => by
    simp only [seedsL, List.mem_cons, List.not_mem_nil, or_false] at hp
    rcases hp with rfl | rfl | rfl <;> simp)) (args := [hdV t o', b', e', .int .u16 (cut : Int)]) (cargs := [hdV t o, b, e, .int .u16 (cut : Int)])
    (.cons (.agg _ _ rfl (by simp only [List.all_cons, ho3]; rfl) (fun i hi hj => by
      match i, hi with
      | 0, _ | 1, _ | 2, _ | 3, _ => exact .int _ _
      | 4, _ | 5, _ | 6, _ => exact .bool _
      | 7, _ | 8, _ | 9, _ => exact .int _ _
      | 10, _ => exact ho2)) (.cons hb2 (.cons he2 (.cons (.int _ _) .nil)))) hbig
  refine this.mono fun e W' ⟨u, φ', he, hu, hbel⟩ => ?_
  exact ⟨by rw [he, hu.eq_of_scalar rfl], hbel⟩

/-- A world that meets the condition: all that is listed, laid. -/
noncomputable def laidWorld (os : Os) : World := World.laidAll Tryd.prog os laidL
theorem laidWorld_met (os : Os) (args : Array Value) : laidMetH Tryd.prog laidL ((laidWorld os).forCall (fun _ _ => 0) ⟨#[], args, []⟩).memory := by
  rw [MakeChecks.laidMetH_plain _ _ _ (by kernel_rfl)]
  exact laidMet_laidAll _ (by kernel_rfl) (by kernel_rfl)

set_option maxRecDepth 100000 in
theorem lifted (os : Os) (started : os.Started) (H : Type) (enc : TypeId × Value → H) :
    ReturnsInHanded {} Tryd.checked os 7 .any (fun w args => (Rows.inetBackSpec.pre enc Tryd.prog Tryd.f7 Rows.inetBackRow.domain false w args ∧ laidMetH Tryd.prog laidL w) ∧ sizedMet enc Tryd.prog Tryd.f7 (OpenSpec.ofChange Rows.inetBackSpec) false w args)
      (Rows.inetBackSpec.post enc Tryd.prog Tryd.f7 false true false false) := by
  refine returnsInHanded_of_change_and (C := Tryd.checked) (X := fun w _ => laidMetH Tryd.prog laidL w) (fun _ _ _ hh h => h.of_heap hh) own started (by kernel_rfl) Tryd.func7
    (ChangeSpec.witness_shaped (enc := enc) (C := Tryd.checked) (os := os) (X := fun w _ => laidMetH Tryd.prog laidL w) false (laidWorld os) #[.agg #[.int .u8 0, .int .u8 0, .int .u8 0, .int .u16 0, .bool false, .bool false, .bool false, .int .i64 0, .int .u32 0, .int .u32 0, .slice none 0 0], .slice none 0 0, .slice none 0 0, .int .u16 0] 8 (World.laidAll_os _ _ _)
      (World.shaped_of_ZipB (by kernel_rfl) (by kernel_rfl)) (by kernel_rfl) (by kernel_rfl) (by kernel_rfl) (laidWorld_met os _)) ?_
  intro W base args ds gs before hval0 hW hc _ hL _
  have hval : ∀ (j : Nat) t v, Tryd.f7.params[j]? = some t → args[j]? = some v → Value.okWide Tryd.prog W .any base t v := hval0
  have hW' := hW
  obtain ⟨p, q, hA0, hV, rfl, _, _⟩ := hW
  have hA : DataW.TrodAll enc Tryd.prog W 0 (fun _ => true) true Tryd.f7.params.toList args.toList ds p := hA0
  rw [Tryd.params7] at hA hval
  obtain ⟨v0, v1, v2, v3, d0, d1, d2, d3, q0, q1, q2, q3, rfl, rfl, rfl, h0, h1, h2, h3⟩ := trodAll_four hA
  obtain ⟨lS, lR, sS, sR, G⟩ := given_of hL
  have hpos := G.pos
  obtain ⟨t, o, os, lo, ht, e0, ho⟩ := open_hd (hval 0 47 v0 rfl rfl) h0 hpos
  obtain ⟨bw, bsw, lw, e1, hw⟩ : ∃ bb cs lc, v1 = bb ∧ BA W bb cs lc := by
    obtain ⟨ai, al, ac, rfl⟩ := okWide_slice Tryd.underlying45 (hval 1 45 v1 rfl rfl)
    obtain ⟨fuel, hf⟩ := h1
    obtain ⟨cs, lc, h⟩ := open_ba Tryd.underlying45 Tryd.underlying5 cells5 (v := .slice ai al ac) hf hpos
    exact ⟨_, cs, lc, rfl, h⟩
  obtain ⟨bu, bsu, lu, e2, hu⟩ : ∃ bb cs lc, v2 = bb ∧ BA W bb cs lc := by
    obtain ⟨ai, al, ac, rfl⟩ := okWide_slice Tryd.underlying45 (hval 2 45 v2 rfl rfl)
    obtain ⟨fuel, hf⟩ := h2
    obtain ⟨cs, lc, h⟩ := open_ba Tryd.underlying45 Tryd.underlying5 cells5 (v := .slice ai al ac) hf hpos
    exact ⟨_, cs, lc, rfl, h⟩
  obtain ⟨z, rfl, rfl, rfl, hwz⟩ := open_int Tryd.underlying44 (hval 3 44 v3 rfl rfl) h3
  subst e0 e1 e2
  obtain ⟨rfl, rfl⟩ := trodVars_none hV
  simp only [List.append_nil] at hW'
  have hlt : ∀ x ∈ q0 ++ (q1 ++ q2), x.block < W.heap.size := fun x hx => by
    have := hW'.lt x (by simpa using hx)
    simpa using this
  obtain ⟨z, rfl, hz⟩ := nat_u16 hwz
  refine (back_call hL ht ho hw hu hz).mono fun e W' ⟨he, hbl⟩ => ?_
  subst he
  refine ⟨_, rfl, _, _, _, [], q0 ++ (q1 ++ q2), [], hW', ?_, ?_, ?_, hbl.frame _, fun h => by cases h⟩
  · exact trodAll_mk1 (shut_bool Tryd.underlying4 true)
  · exact (by
      have h := trodAll_mk4 (Below.trod laidOut (by kernel_rfl) (of_decide_eq_true (by kernel_rfl)) h0 hbl (fun x hx => hlt x (List.mem_append.2 (.inl hx)))) (Below.trod laidOut (by kernel_rfl) (of_decide_eq_true (by kernel_rfl)) h1 hbl (fun x hx => hlt x (List.mem_append.2 (.inr (List.mem_append.2 (.inl hx)))))) (Below.trod laidOut (by kernel_rfl) (of_decide_eq_true (by kernel_rfl)) h2 hbl (fun x hx => hlt x (List.mem_append.2 (.inr (List.mem_append.2 (.inr hx)))))) (shut_int Tryd.underlying44 hwz)
      rw [List.append_nil] at h
      exact h)
  · exact rfl

theorem holds : Rows.InetBackSaid :=
  OpenClaim.holds_of_wide 7 Tryd.f7 rfl rfl rfl rfl rfl rfl rfl ⟨rfl, rfl, rfl, rfl, rfl⟩ rfl rfl rfl rfl rfl (by kernel_rfl) Tryd.func7 (by kernel_rfl)
    (of_decide_eq_true (by kernel_rfl)) (by unfold Func.isWrapper; first | (rw [if_pos (by decide +kernel)]; kernel_rfl) | (rw [if_neg (by decide +kernel)]; exact ⟨rfl, rfl⟩))
    (fun os started H enc _ => lifted os started H enc)
theorem card_holds : Rows.InetBackCardSaid :=
  Claim7.holds_tied_plain_at .later [] [.data, .data, .data, .data, .sentinel, .sentinel, .pinned] true (true, "186b3e07bd315e253bcd6aff74479494cbfab25f77755d051fe9b94e85655101") true holds (fun _ h => by cases h) (by kernel_rfl) (fun _ h => by cases h) inetBack_row_tie rfl ⟨rfl, rfl⟩ (by kernel_rfl) rfl
    (fun f fn hf hfn => by
      obtain rfl : f = 7 := Option.some.inj ((show Tryd.prog.funcNamed "toll/tolllaw06.InetBack" = some 7 by kernel_rfl).symm.trans hf) |>.symm
      obtain rfl : fn = Tryd.f7 := (Option.some.inj (Tryd.func7.symm.trans hfn)).symm
      exact ⟨by kernel_rfl, fun j t ht => by
        rw [Tryd.params7] at ht
        have hm : t ∈ [44, 45, 47] := by simpa [or_comm, or_assoc, or_left_comm] using Array.mem_of_getElem? ht
        have hall : ([44, 45, 47].all fun u => !Tryd.prog.wantsStandIn u) = true := by kernel_rfl
        exact (show Tryd.prog.wantsStandIn t = false by simpa using List.all_eq_true.1 hall t hm)⟩)
    (by kernel_rfl)
#print axioms card_holds
end Go.Proofs.YtiemkafpijhlmaaDoor.Back
