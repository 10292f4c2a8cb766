/- The statement proved (PRTells). -/
import Derived.Test.YtkdpjaaohddppaaGreatDoorPSd
import Derived.Test.YtkdpjaaohddppaaGreatDoorCards
import Derived.Test.YtkdpjaaohddppaaGreatDoorTie
import Derived.LaidMore
import Derived.Lay
import Derived.SevenTiedAt
import Derived.Stop.Joined
import Derived.ChangeVars
import Derived.JoinedOf
import Derived.ChangeMaps5
import Derived.Carry
namespace Go.Proofs.YtkdpjaaohddppaaGreatDoor.Tells
open Go Go.Proofs.YtkdpjaaohddppaaGreatDoor.Am Go.ChangeMaps Go.ChangeShapes Go.WideShapes Go.ChangeAt Go.RowKit

theorem own : ownKnob Tryz.prog.godebug = none := by kernel_rfl
theorem laidOut : laidOutB Tryz.prog = true := by kernel_rfl
def laidL : List (String × DataW Unit) := Rows.rateTellsRow.laid
theorem tells_call {W : World} (hL : laidMetH Tryz.prog laidL W) {a b : Nat} (ha : a < 18446744073709551616) (hb : b < 18446744073709551616) (s : ByteArray) (hs : s.size ≤ maxLen) :
    Calls Tryz.prog 3 #[.int .u64 (a : Int), .int .u64 (b : Int), .string s] W fun e W' => e = .returned (.bool true) ∧ Below W.heap.size W W' := by
  obtain ⟨l,rfl⟩ := str_of s
  obtain ⟨lS,lR,sS,sR,G⟩ := given_of hL
  obtain ⟨lP,lF,lC,hok⟩ := seedsG_ok G (given2_of hL)
  unfold maxLen at hs
  have hl : l.length < 9223372036854775808 := by
    have h2 : l.length ≤ 2 ^ 63 - 1 := by simpa using hs
    omega
  obtain ⟨v,h',n',hbig,rfl⟩ := tells_walk (seedsG_gg lS lR sS sR lP lF lC) ha hb l hl (seedsG_wf lS lR sS sR lP lF lC) (by decide) (by decide)
  have := run_call (s := seedsG lS lR sS sR lP lF lC) (w := W) mixed61 fs61_at ps61_at hok Tryz.func3 (by kernel_rfl) (by kernel_rfl) (n := 4101) (by decide) (seedsG_lt lS lR sS sR lP lF lC) (args := [.int .u64 (a : Int), .int .u64 (b : Int), .string ⟨l.toArray⟩]) (cargs := [.int .u64 (a : Int), .int .u64 (b : Int), .string ⟨l.toArray⟩])
    (.cons (.int _ _) (.cons (.int _ _) (.cons (.string _) .nil))) hbig
  refine this.mono fun e W' ⟨u, φ',he,hu,hbel⟩ => ?_
  exact ⟨by rw [he,hu.eq_of_scalar rfl],hbel⟩

/-- A world that meets the condition: all that is listed,laid. -/
noncomputable def laidWorld (os : Os) : World := World.laidAll Tryz.prog os laidL
theorem laidWorld_met (os : Os) (args : Array Value) : laidMetH Tryz.prog laidL ((laidWorld os).forCall (fun _ _ => 0) ⟨#[],args,[]⟩).memory := by
  rw [MakeChecks.laidMetH_plain _ _ _ (by kernel_rfl)]
  exact laidMet_laidAll _ (by kernel_rfl) (by kernel_rfl)

set_option maxRecDepth 100000 in
theorem lifted (os : Os) (started : os.Started) (H : Type) (enc : TypeId × Value → H) :
    ReturnsInHanded {} Tryz.checked os 3 .any (fun w args => (Rows.rateTellsSpec.pre enc Tryz.prog Tryz.f3 Rows.rateTellsRow.domain false w args ∧ laidMetH Tryz.prog laidL w) ∧ sizedMet enc Tryz.prog Tryz.f3 (OpenSpec.ofChange Rows.rateTellsSpec) false w args)
      (Rows.rateTellsSpec.post enc Tryz.prog Tryz.f3 false true false false) := by
  refine returnsInHanded_of_change_and (C := Tryz.checked) (X := fun w _ => laidMetH Tryz.prog laidL w) (fun _ _ _ hh h => h.of_heap hh) own started (by kernel_rfl) Tryz.func3
    (ChangeSpec.witness_shaped (enc := enc) (C := Tryz.checked) (os := os) (X := fun w _ => laidMetH Tryz.prog laidL w) false (laidWorld os) #[.int .u64 0, .int .u64 0, .string ⟨#[]⟩] 8 (World.laidAll_os _ _ _)
      (World.shaped_of_ZipB (by kernel_rfl) (by kernel_rfl)) (by kernel_rfl) (by kernel_rfl) (by kernel_rfl) (laidWorld_met os _)) ?_
  intro W base args ds gs before hval0 hW hc _ hL _
  have hval : ∀ (j : Nat) t v,Tryz.f3.params[j]? = some t → args[j]? = some v → Value.okWide Tryz.prog W .any base t v := hval0
  have hW' := hW
  obtain ⟨p,q,hA0,hV,rfl,_,_⟩ := hW
  have hA : DataW.TrodAll enc Tryz.prog W 0 (fun _ => true) true Tryz.f3.params.toList args.toList ds p := hA0
  rw [Tryz.params3] at hA hval
  obtain ⟨v0,v1,v2,d0,d1,d2,q0,q1,q2,rfl,rfl,rfl,h0,h1,h2⟩ := trodAll_three hA
  obtain ⟨a,rfl,rfl,rfl,hwa⟩ := open_int Tryz.underlying22 (hval 0 22 v0 rfl rfl) h0
  obtain ⟨b,rfl,rfl,rfl,hwb⟩ := open_int Tryz.underlying22 (hval 1 22 v1 rfl rfl) h1
  obtain ⟨s,rfl,rfl,rfl,hs⟩ := open_string Tryz.underlying9 (hval 2 9 v2 rfl rfl) h2
  obtain ⟨rfl,rfl⟩ := trodVars_none hV
  simp only [List.append_nil] at hW'
  have b0 := bounds_u64 hwa
  have b1 := bounds_u64 hwb
  obtain ⟨a,rfl⟩ : ∃ k : Nat,a = (k : Int) := ⟨a.toNat,by omega⟩
  obtain ⟨b,rfl⟩ : ∃ k : Nat,b = (k : Int) := ⟨b.toNat,by omega⟩
  refine (tells_call hL (by omega) (by omega) s hs).mono fun e W' ⟨he,hbl⟩ => ?_
  subst he
  refine ⟨_,rfl,_,_,_,[],[],[],hW', ?_, ?_, ?_,hbl.frame _,fun h => by cases h⟩
  · exact trodAll_mk1 (shut_bool Tryz.underlying4 true)
  · exact trodAll_mk3 (shut_int Tryz.underlying22 hwa) (shut_int Tryz.underlying22 hwb) (shut_string Tryz.underlying9 hs)
  · exact rfl

theorem holds : Rows.RateTellsSaid :=
  OpenClaim.holds_of_wide 3 Tryz.f3 rfl rfl rfl rfl rfl rfl rfl ⟨rfl,rfl,rfl,rfl,rfl⟩ rfl rfl rfl rfl rfl (by kernel_rfl) Tryz.func3 (by kernel_rfl)
    (of_decide_eq_true (by kernel_rfl)) (by unfold Func.isWrapper; first | (rw [if_pos (by decide +kernel)]; kernel_rfl) | (rw [if_neg (by decide +kernel)]; exact ⟨rfl,rfl⟩))
    (fun os started H enc _ => lifted os started H enc)
theorem card_holds : Rows.RateTellsCardSaid :=
  Claim7.holds_tied_plain_at .later [] [.data, .data, .widerDeep, .widerDeep, .data, .data, .data, .data, .data, .data, .sentinel, .sentinel, .called, .pinned, .pinned, .pinned] true (true, "d7506b8e3e9c41a47cd3f45fb78385ea1b3e5d391edbd4a2d7e060a532af15c9") true holds (fun _ h => by cases h) (by kernel_rfl) (fun _ h => by cases h) rateTells_row_tie rfl ⟨rfl, rfl⟩ (by kernel_rfl) rfl
    (fun f fn hf hfn => by
      obtain rfl : f = 3 := Option.some.inj ((show Tryz.prog.funcNamed "toll/tolllaw11.RateTells" = some 3 by kernel_rfl).symm.trans hf) |>.symm
      obtain rfl : fn = Tryz.f3 := (Option.some.inj (Tryz.func3.symm.trans hfn)).symm
      exact ⟨by kernel_rfl, fun j t ht => by
        rw [Tryz.params3] at ht
        have hm : t ∈ [9, 22] := by simpa [or_comm, or_assoc, or_left_comm] using Array.mem_of_getElem? ht
        have hall : ([9, 22].all fun u => !Tryz.prog.wantsStandIn u) = true := by kernel_rfl
        exact (show Tryz.prog.wantsStandIn t = false by simpa using List.all_eq_true.1 hall t hm)⟩)
    (by kernel_rfl)
#print axioms card_holds
end Go.Proofs.YtkdpjaaohddppaaGreatDoor.Tells
