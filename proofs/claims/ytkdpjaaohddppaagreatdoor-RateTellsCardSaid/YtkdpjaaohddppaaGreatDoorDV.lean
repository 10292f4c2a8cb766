/- The evaluator of the abstract machine,part DV: what it finds is a derivation. -/
import Derived.Test.YtkdpjaaohddppaaGreatDoorD9
import Derived.Test.YtkdpjaaohddppaaGreatDoorDT
namespace Go.Proofs.YtkdpjaaohddppaaGreatDoor.Am
noncomputable section
open Go.ChangeShapes Go.WideShapes Go.RowKit
/- WHAT THE CONDITION GIVES: variables that hold a slice. -/
def SliceAt (P : Program) (W : World) (n : String) (len : Nat) (cs : List Value) : Prop :=
  ∃ (l : Loc) (cap : Nat),l.own = false ∧ l.block < W.heap.size ∧ len ≤ cap ∧ W.var? P n = some #[.slice (some ⟨l.block,l.off,none⟩) len cap] ∧ ∀ k b,cs[k]? = some b → W.cell? ⟨l.block,l.off + k,none⟩ = some b
theorem flat_get {α : Type} (f : α → List Value) {k : Nat} (hk : 0 < k) : ∀ {l : List α},(∀ x ∈ l,(f x).length = k) → ∀ {i : Nat} {b : Value},(l.flatMap f)[i]? = some b → ∃ x,l[i / k]? = some x ∧ (f x)[i % k]? = some b
  | [],_,i,b,h => by simp at h
  | x :: l,hl,i,b,h => by
    have hx := hl x (.head _)
    rw [List.flatMap_cons] at h
    rcases Nat.lt_or_ge i k with hi | hi
    · rw [List.getElem?_append_left (by omega)] at h
      rw [Nat.div_eq_of_lt hi,Nat.mod_eq_of_lt hi]
      exact ⟨x,rfl,h⟩
    · rw [List.getElem?_append_right (by omega),hx] at h
      obtain ⟨y,h1,h2⟩ := flat_get f hk (fun z hz => hl z (.tail _ hz)) h
      refine ⟨y, ?_, ?_⟩
      · have : i / k = (i - k) / k + 1 := by
          rw [← Nat.add_div_right _ hk,Nat.sub_add_cancel hi]
        rw [this]; simpa using h1
      · have : i % k = (i - k) % k := by
          rw [← Nat.add_mod_right (i - k) k,Nat.sub_add_cancel hi]
        rw [this]; exact h2
theorem slice_at {P : Program} {n : String} {α : Type} {D : α → DataW Unit} {f : α → List Value} {l : List α} {W : World} {g : Nat} {t e : TypeId} {k : Nat}
    (h : laidMet P [(n, .slice (l.map D) [])] W) (hg : P.globalNamed n = some g) (ht : (P.globals[g]?).map (·.type) = some t) (hs : P.underlying t = some (.slice e)) (hc : P.cellsOf e = k) (hk : 0 < k) (hne : 0 < l.length)
    (hf : ∀ x ∈ l,(f x).length = k)
    (hd : ∀ {fuel : Nat} {cs : List Value} {q : List MemPlace} {x : α} {base : Nat} {sp : Nat → Bool} {held : Bool} {enc : TypeId × Value → Unit},x ∈ l → DataW.trod enc P W base sp held fuel e cs = some (D x,q) → cs = f x) : SliceAt P W n l.length (l.flatMap f) := by
  obtain ⟨ps,⟨g0,t0,cs0,f0,p0,q0,hg0,ht0,hv0,hd0,_,e0⟩,_,hrows⟩ := h
  obtain rfl := Option.some.inj (hg.symm.trans hg0)
  obtain rfl := Option.some.inj (ht.symm.trans ht0)
  obtain ⟨cs0⟩ := cs0
  rcases DataW.trod_slice hs hd0 with ⟨_,hx⟩ | ⟨a,len,cap,elems,rest,n,_,hcs,hx,_,hl,_,hlen,hel,_⟩
  · simp at hx
  · simp only [Prod.mk.injEq,DataW.slice.injEq] at hx
    obtain ⟨⟨hm,_⟩,_⟩ := hx
    have el : l.length = len := by
      have := congrArg List.length hm
      rw [List.length_map,List.length_map] at this
      omega
    -- each element
    have each : ∀ i x,l[i]? = some x → W.cells? 0 (a.add (i * k)) k = some (f x) := by
      intro i x hi
      have hil := (List.getElem?_eq_some_iff.1 hi).1
      have h1 := hel i (by omega)
      rw [hc] at h1
      have h2 : (l.map D)[i]? = (elems.map (·.1))[i]? := by rw [hm]
      rw [List.getElem?_map,List.getElem?_map,hi] at h2
      rw [List.getElem?_eq_getElem (by omega),Option.bind_eq_some_iff] at h1
      rw [List.getElem?_eq_getElem (by omega)] at h2
      simp only [Option.map_some,Option.some.injEq] at h2
      obtain ⟨cs',h3,h4⟩ := h1
      have : cs' = f x := hd (List.mem_of_getElem? hi) (q := (elems[i]'(by omega)).2) (by rw [h4,h2])
      rw [← this]; exact h3
    have hz : ∃ x,l[0]? = some x := ⟨_,List.getElem?_eq_getElem hne⟩
    obtain ⟨x0,hx0⟩ := hz
    have c0 := each 0 x0 hx0
    rw [Nat.zero_mul] at c0
    have ea0 : a.add 0 = a := by simp [Addr.add]
    rw [ea0] at c0
    obtain ⟨_,c1,c2⟩ := World.cells?_some c0
    have c3 := c2 0 hk
    rw [List.getElem?_eq_getElem (by omega),ea0] at c3
    have hsp : a.spot = none := by
      unfold World.cell? at c3
      split at c3
      · cases hs : a.spot with
        | none => rfl
        | some _ => simp [hs] at c3
      · cases c3
    have hb : a.block < W.heap.size := by
      unfold World.cell? at c3
      split at c3
      · rename_i hh
        exact (Array.getElem?_eq_some_iff.1 hh).1
      · cases c3
    have ha : a = ⟨a.block,a.off,none⟩ := by rw [← hsp]
    refine ⟨⟨a.block,a.off,false,0,0⟩,cap,rfl,hb,by omega, ?_, ?_⟩
    · rw [hv0]
      simp only at hcs
      rw [hcs,el,← ha]
    · intro j b hj
      obtain ⟨x,h1,h2⟩ := flat_get f hk hf hj
      obtain ⟨_,d1,d2⟩ := World.cells?_some (each _ x h1)
      have d3 := d2 (j % k) (Nat.mod_lt _ hk)
      rw [h2] at d3
      rw [← d3]
      congr 1
      rw [ha,add_none,add_none]
      have := Nat.div_add_mod j k
      rw [Nat.mul_comm] at this
      simp only
      congr 1
      omega
theorem slice_seed {P : Program} {W : World} {n : String} {g i m len cap : Nat} {l : Loc} {s : List Seed} (hg : P.globalNamed n = some g) (hv : W.var? P n = some #[.slice (some ⟨l.block,l.off,none⟩) len cap]) (hlt : g < W.heap.size) (hl : phi0 s i m = some l) (hcap : len ≤ cap) :
    SeedOk W s (g,⟨g,0,false,0,0⟩, .cells none [.slice (some ⟨i,0,some m⟩) len 0] 0) := by
  refine ⟨rfl,hlt,fun _ => ⟨rfl,rfl⟩,rfl,Nat.zero_le _,rfl,fun k v hk => ?_⟩
  cases k with
  | zero =>
    simp at hk
    subst hk
    refine ⟨.slice (some ⟨l.block,l.off,none⟩) len cap, ?_, .slice i 0 m len 0 l _ cap hl hcap (.inr rfl) (.inl rfl)⟩
    simp only [Nat.zero_add]
    rw [World.var?_cell hg hv 0]; rfl
  | succ k => simp at hk
theorem cells_seed {W : World} {l : Loc} {i : Nat} {cs : List Value} {s : List Seed} (ho : l.own = false) (hb : l.block < W.heap.size) (hi : 4096 ≤ i) (hone : cs.all Value.oneCell' = true) (hcell : ∀ k b,cs[k]? = some b → W.cell? ⟨l.block,l.off + k,none⟩ = some b) (hr : ∀ v ∈ cs,VRel (phi0 s) v v) :
    SeedOk W s (i,l, .cells none cs 0) := by
  refine ⟨ho,hb,fun h => by simp only at h; omega,rfl,Nat.zero_le _,hone,fun k v hk => ?_⟩
  exact ⟨_,hcell k _ hk,hr v (List.mem_of_getElem? hk)⟩
end
end Go.Proofs.YtkdpjaaohddppaaGreatDoor.Am
