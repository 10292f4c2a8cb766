/- The evaluator of the abstract machine,part D9: what it finds is a derivation. -/
import Derived.Test.YtkdpjaaohddppaaGreatDoorD
import Derived.LaidLaws
import Derived.LaidSub
import Derived.ChangeSlices
namespace Go.Proofs.YtkdpjaaohddppaaGreatDoor.Am
noncomputable section
open Go.ChangeShapes Go.WideShapes Go.RowKit

/- WHAT THE CONDITION GIVES: tables of numbers,sentinels. -/
section
variable {H : Type} {enc : TypeId × Value → H} {P : Program} {w : World} {base : Nat} {sp : Nat → Bool} {held : Bool}
theorem cells_nums {t e n fuel : Nat} {k : IntKind} {cs : List Value} {l : List Int} {p : List MemPlace} (ht : P.underlying t = some (.array n e)) (he : P.underlying e = some (.int k)) (hc : P.cellsOf e = 1) (hct : P.cellsOf t = n)
    (h : DataW.trod enc P w base sp held fuel t cs = some (.agg (l.map fun s => .lit (.int k s)),p)) : cs = l.map fun z => .int k z := by
  obtain ⟨xs,m,rfl,hx,hlen,hn,hel⟩ := DataW.trod_array ht h
  rw [hct] at hlen
  simp only [hc,Nat.mul_one] at hel
  simp only [Prod.mk.injEq,DataW.agg.injEq] at hx
  have hl : l.length = n := by
    have := congrArg List.length hx.1
    simp at this
    omega
  refine List.ext_getElem (by simp [hlen,hl]) (fun i h1 h2 => ?_)
  have hi : i < n := by omega
  have h3 := hel i hi
  rw [List.getElem?_eq_getElem (by omega)] at h3
  obtain ⟨s,e1,e2,_⟩ := DataW.trod_int he h3
  have h4 : (l.map fun s => (DataW.lit (.int k s) : DataW H))[i]'(by simp; omega) = (xs.map (·.1))[i]'(by simp; omega) := by simp only [hx.1]
  simp only [List.getElem_map,e2,DataW.lit.injEq,Lit.int.injEq,true_and] at h4
  have h5 : (cs.drop i).take 1 = [cs[i]] := by
    rw [List.drop_eq_getElem_cons h1]; rfl
  rw [h5] at e1
  simp only [List.cons.injEq,and_true] at e1
  rw [e1]
  simp only [List.getElem_map,h4]
end
theorem sentinel_at {P : Program} {n nm : String} {text : List UInt8} {W : World} {g : Nat} {ti tp te ts : TypeId} {ms : Array (String × TypeId)} {f : Field}
    (h : laidMet P [(n, .iface nm (.ptr (.agg [.lit (.string text)])))] W)
    (hg : P.globalNamed n = some g) (ht : (P.globals[g]?).map (·.type) = some ti) (hi : P.underlying ti = some (.interface ms)) (hrow : ∀ u,P.typeName? 3 u = some nm → u = tp)
    (hp : P.underlying tp = some (.pointer te)) (he : P.underlying te = some (.struct #[f])) (hft : f.type = ts) (hfo : f.offset = 0) (hs : P.underlying ts = some .string) (hc : P.cellsOf te = 1) (hcs : P.cellsOf ts = 1) :
    ∃ (l : Loc) (s : ByteArray),l.own = false ∧ l.block < W.heap.size ∧ W.var? P n = some #[.iface tp (.pointer (some ⟨l.block,l.off + 0,none⟩))] ∧ W.cell? ⟨l.block,l.off + 0,none⟩ = some (.string s) := by
  obtain ⟨ps,⟨g0,t0,cs0,f0,p0,q0,hg0,ht0,hv0,hd0,_,e0⟩,_,hrows⟩ := h
  obtain rfl := Option.some.inj (hg.symm.trans hg0)
  obtain rfl := Option.some.inj (ht.symm.trans ht0)
  subst e0
  obtain ⟨cs⟩ := cs0
  have ok0 : ∀ u v,cs = [.iface u v] → Value.okWide P W .any 0 u v := fun u v e => by
    subst e
    exact (hrows g 0 (by simp [MemPlace.row])).2 u v (by simpa using World.var?_cell hg0 hv0 0)
  obtain ⟨a,s,rfl,hca,_,_,_⟩ := errorString_of_trod hi hrow hp he hft hfo hs hc hcs hd0 ok0
  have hsp : a.spot = none := by
    unfold World.cell? at hca
    split at hca
    · cases hs : a.spot with
      | none => rfl
      | some _ => simp [hs] at hca
    · cases hca
  have hb : a.block < W.heap.size := by
    unfold World.cell? at hca
    split at hca
    · rename_i hh
      exact (Array.getElem?_eq_some_iff.1 hh).1
    · cases hca
  have ha : a = ⟨a.block,a.off + 0,none⟩ := by rw [← hsp]; rfl
  exact ⟨⟨a.block,a.off,false,0,0⟩,s,rfl,hb,by rw [hv0]; rw [← ha],by rw [← ha]; exact hca⟩
theorem sent_seed {P : Program} {W : World} {n : String} {g i tp : Nat} {l : Loc} {s : List Seed} (hg : P.globalNamed n = some g) (hv : W.var? P n = some #[.iface tp (.pointer (some ⟨l.block,l.off + 0,none⟩))]) (hlt : g < W.heap.size) (hl : phi0 s i 1 = some l) :
    SeedOk W s (g,⟨g,0,false,0,0⟩, .cells none [.iface tp (.pointer (some ⟨i,0,some 1⟩))] 0) := by
  refine ⟨rfl,hlt,fun _ => ⟨rfl,rfl⟩,rfl,Nat.zero_le _,rfl,fun k v hk => ?_⟩
  cases k with
  | zero =>
    simp only [List.getElem?_cons_zero,Option.some.injEq] at hk
    subst hk
    refine ⟨.iface tp (.pointer (some ⟨l.block,l.off + 0,none⟩)), ?_, .iface _ _ _ (.ptr i 0 1 l hl)⟩
    simp only [Nat.zero_add]
    rw [World.var?_cell hg hv 0]; rfl
  | succ k => simp at hk
theorem text_seed {W : World} {i : Nat} {l : Loc} {x : ByteArray} {s : List Seed} (ho : l.own = false) (hb : l.block < W.heap.size) (hi : 4096 ≤ i) (hc : W.cell? ⟨l.block,l.off + 0,none⟩ = some (.string x)) : SeedOk W s (i,l, .cells none [.string x] 0) := by
  refine ⟨ho,hb,fun h => absurd h (by simp only; omega),rfl,Nat.zero_le _,rfl,fun k v hk => ?_⟩
  cases k with
  | zero =>
    simp only [List.getElem?_cons_zero,Option.some.injEq] at hk
    subst hk
    exact ⟨_,hc, .string _⟩
  | succ k => simp at hk
end
end Go.Proofs.YtkdpjaaohddppaaGreatDoor.Am
