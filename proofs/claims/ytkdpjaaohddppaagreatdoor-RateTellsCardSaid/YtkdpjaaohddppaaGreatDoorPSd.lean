/- The statement proved (PSd). -/
import Derived.Test.YtkdpjaaohddppaaGreatDoorPTab
namespace Go.Proofs.YtkdpjaaohddppaaGreatDoor
open Go Go.Proofs.YtkdpjaaohddppaaGreatDoor.Am Go.ChangeShapes Go.WideShapes Go.RowKit
/- THE SEEDS of the chapter's rows. -/
theorem p10_pow10 {h : AHeap} (x : Pow10E h) : Pow10 h := by
  obtain ⟨own,w,h1,h2⟩ := x
  refine ⟨own,p10L,w,h1,h2,p10_len,fun i hi => ?_⟩
  obtain ⟨r,hr⟩ := p10_drop (i := i / 2) (by omega)
  obtain ⟨_,_,_,b1,b2⟩ := tab_ok (i := i / 2) (by omega)
  rcases (by omega : i = i / 2 * 2 ∨ i = i / 2 * 2 + 1) with e | e
  · refine ⟨hiT (i / 2),b1, ?_⟩
    have := congrArg (fun l => l[0]?) hr
    simp only [List.getElem?_drop,List.getElem?_cons_zero,Nat.add_zero] at this
    rw [← e] at this; exact this
  · refine ⟨loT (i / 2),b2, ?_⟩
    have := congrArg (fun l => l[1]?) hr
    simp only [List.getElem?_drop,List.getElem?_cons_succ,List.getElem?_cons_zero] at this
    rw [← e] at this; exact this
theorem chkF_get : ∀ {l : List Nat} {k i b : Nat},chkF l k = true → l[i]? = some b → 4607182418800017408 ≤ b ∧ b ≤ 4936209963552724370 ∧ (k + i ≤ 15 → b ≤ 4831355200913801216)
  | [],_,_,_,_,h => by simp at h
  | a :: l,k,0,b,h,hb => by
    simp only [chkF,Bool.and_eq_true,Bool.or_eq_true,decide_eq_true_iff] at h
    simp at hb; subst hb
    obtain ⟨⟨⟨h1,h2⟩,h3⟩,_⟩ := h
    exact ⟨h1,h2,fun _ => by omega⟩
  | a :: l,k,i + 1,b,h,hb => by
    simp only [chkF,Bool.and_eq_true] at h
    have := chkF_get h.2 (show l[i]? = some b by simpa using hb)
    exact ⟨this.1,this.2.1,fun _ => this.2.2 (by omega)⟩
theorem f10_chk : chkF f10N 0 = true := by decide +kernel
theorem f10_at {i : Nat} (hi : i < 23) : ∃ b : Nat,f10L[i]? = some (.float .f64 b) ∧ 4607182418800017408 ≤ b ∧ b ≤ 4936209963552724370 ∧ (i ≤ 15 → b ≤ 4831355200913801216) := by
  have hl : i < f10N.length := hi
  obtain ⟨b,hb⟩ : ∃ b,f10N[i]? = some b := ⟨_,List.getElem?_eq_getElem hl⟩
  obtain ⟨h1,h2,h3⟩ := chkF_get f10_chk hb
  have e : f10L = f10N.map fun b => .float .f64 b := by
    unfold f10L
    rw [List.map_eq_flatMap]
  exact ⟨b,by rw [e,List.getElem?_map,hb]; rfl,h1,h2,fun h => h3 (by omega)⟩
def extra (lP lF lC : Am.Loc) : List Seed :=
  [(1,⟨1,0,false,0,0⟩, .cells none [.float .f64 9218868437227405312] 0),(5,⟨5,0,false,0,0⟩, .cells none [.bool true] 0),
   (7,⟨7,0,false,0,0⟩, .cells none [.int .u64 52, .int .u64 11, .int .i64 (-1023)] 0),(14,⟨14,0,false,0,0⟩, .cells none p10L 0),
   (12,⟨12,0,false,0,0⟩, .cells none [.slice (some ⟨4098,0,some 9⟩) 9 0] 0),(13,⟨13,0,false,0,0⟩, .cells none [.slice (some ⟨4099,0,some 23⟩) 23 0] 0),
   (15,⟨15,0,false,0,0⟩, .cells none [.slice (some ⟨4100,0,some 122⟩) 61 0] 0),(4098,lP, .cells none pwL 0),(4099,lF, .cells none f10L 0),(4100,lC, .cells none cutCells 0)]
def seedsG (lS lR : Am.Loc) (sS sR : ByteArray) (lP lF lC : Am.Loc) : List Seed := seedsC lS lR sS sR (extra lP lF lC)
theorem seedsG_ok {W : World} {lS lR : Am.Loc} {sS sR : ByteArray} (G : Given W lS lR sS sR) (G2 : Given2 W) : ∃ lP lF lC,∀ p ∈ seedsG lS lR sS sR lP lF lC,SeedOk W (seedsG lS lR sS sR lP lF lC) p := by
  obtain ⟨⟨c1,v1,e1⟩,⟨c2,v2,e2⟩,⟨c3,v3,e3⟩,⟨c4,v4,e4⟩,⟨lP,k1,o1,b1,l1,w1,r1⟩,⟨lF,k2,o2,b2,l2,w2,r2⟩,⟨lC,k3,o3,b3,l3,w3,r3⟩⟩ := G2
  refine ⟨lP,lF,lC, ?_⟩
  unfold seedsG
  refine seedsC_ok G fun p hp => ?_
  simp only [extra,List.mem_cons,List.not_mem_nil,or_false] at hp
  rcases hp with rfl | rfl | rfl | rfl | rfl | rfl | rfl | rfl | rfl | rfl
  · exact seed_cells gInfN v1 e1 (var?_lt gInfN v1) (by decide) (fun v hv => by rw [List.mem_singleton.1 hv]; exact ⟨_,rfl, .float _ _⟩)
  · exact seed_cells gOptN v2 e2 (var?_lt gOptN v2) (by decide) (fun v hv => by rw [List.mem_singleton.1 hv]; exact ⟨_,rfl, .bool _⟩)
  · exact seed_cells gFinN v3 e3 (var?_lt gFinN v3) (by decide) (fun v hv => by
      simp only [List.mem_cons,List.not_mem_nil,or_false] at hv
      rcases hv with rfl | rfl | rfl <;> exact ⟨_,rfl, .int _ _⟩)
  · exact seed_cells gTabN v4 e4 (var?_lt gTabN v4) (by kernel_rfl) (fun v hv => ⟨v,rfl,by
      obtain ⟨x,_,hx⟩ := List.mem_flatMap.1 hv
      simp only [List.mem_cons,List.not_mem_nil,or_false] at hx
      rcases hx with rfl | rfl <;> exact .int _ _⟩)
  · exact slice_seed gPwtN w1 (var?_lt gPwtN w1) rfl l1
  · exact slice_seed gF10N w2 (var?_lt gF10N w2) rfl l2
  · exact slice_seed gCutN w3 (var?_lt gCutN w3) (by kernel_rfl) l3
  · exact cells_seed o1 b1 (by decide) (by decide) r1 (fun v hv => by
      obtain ⟨s,_,rfl⟩ := List.mem_map.1 hv
      exact .int _ _)
  · exact cells_seed o2 b2 (by decide) (by decide) r2 (fun v hv => by
      obtain ⟨x,_,hx⟩ := List.mem_flatMap.1 hv
      rw [List.mem_singleton.1 hx]; exact .float _ _)
  · exact cells_seed o3 b3 (by decide) (by kernel_rfl) r3 (fun v hv => by
      obtain ⟨x,_,hx⟩ := List.mem_flatMap.1 hv
      simp only [List.mem_cons,List.not_mem_nil,or_false] at hx
      rcases hx with rfl | rfl
      · exact .int _ _
      · exact .string _)
theorem seedsG_gg (lS lR : Am.Loc) (sS sR : ByteArray) (lP lF lC : Am.Loc) : GG (heap0 (seedsG lS lR sS sR lP lF lC)) := by
  have htab : Pow10E (heap0 (seedsG lS lR sS sR lP lF lC)) := ⟨none,0,rfl,by decide⟩
  refine ⟨⟨⟨none,0,rfl,by decide⟩,⟨none,0,rfl,by decide⟩,p10_pow10 htab, ?_, ?_, ?_⟩,seedsC_err ..,⟨seedsC_pow ..,htab⟩, ?_⟩
  · exact ⟨4099,0,none,none,0,0,f10L,rfl,by decide,rfl,by decide,by decide,fun i hi => f10_at hi⟩
  · exact ⟨4100,0,none,none,0,0,rfl,by decide,rfl,by decide⟩
  · exact ⟨4098,0,none,none,0,0,rfl,by decide,rfl,by decide⟩
  · intro i b hb
    simp only [hW61,AHeap.get_cons] at hb
    split at hb
    · rename_i h1; subst h1; rw [← hb]; rfl
    · split at hb
      · rename_i h1; subst h1; rw [← hb]; rfl
      · split at hb
        · rename_i h1; subst h1; rw [← hb]; rfl
        · split at hb
          · rename_i h1; subst h1; rw [← hb]; rfl
          · cases hb
theorem seedsG_wf (lS lR : Am.Loc) (sS sR : ByteArray) (lP lF lC : Am.Loc) : WF (heap0 (seedsG lS lR sS sR lP lF lC)) 4101 := seedsC_wf lS lR sS sR (by decide) (fun i hi => by
  simp only [extra,heap0,List.map_cons,List.map_nil,AHeap.get_cons]
  repeat rw [if_neg (by omega)]
  rfl)
theorem seedsG_lt (lS lR : Am.Loc) (sS sR : ByteArray) (lP lF lC : Am.Loc) : ∀ p ∈ seedsG lS lR sS sR lP lF lC,p.1 < 4101 := seedsC_lt lS lR sS sR (by decide) (fun p hp => by
  simp only [extra,List.mem_cons,List.not_mem_nil,or_false] at hp
  rcases hp with rfl | rfl | rfl | rfl | rfl | rfl | rfl | rfl | rfl | rfl <;> (simp only; omega))
end Go.Proofs.YtkdpjaaohddppaaGreatDoor
