/- The evaluator of the abstract machine, part D6: what it finds is a derivation. -/
import Derived.Test.YtkaibjdogeikbaaDoorD5
import Derived.OpenShut
import Derived.MakeChecks
import Derived.ChangeKeys
import Derived.WideKeyArgs2
import Derived.WideKeyElems2
import Derived.FnData
namespace Go.Proofs.YtkaibjdogeikbaaDoor.Am
noncomputable section
open Go.ChangeShapes Go.WideShapes Go.WideElems Go.WideMaps Go.RowKit

section
variable {H : Type} {enc : TypeId × Value → H} {P : Program} {w : World} {base : Nat} {sp : Nat → Bool} {held : Bool}

/-- What a laid array of strings reads as. -/
theorem cells_strs {t e n fuel : Nat} {cs : List Value} {l : List (List UInt8)} {p : List MemPlace} (ht : P.underlying t = some (.array n e)) (he : P.underlying e = some .string) (hc : P.cellsOf e = 1) (hct : P.cellsOf t = n)
    (h : DataW.trod enc P w base sp held fuel t cs = some (.agg (l.map fun s => .lit (.string s)), p)) : cs = strs l := by
  obtain ⟨xs, m, rfl, hx, hlen, hn, hel⟩ := DataW.trod_array ht h
  rw [hct] at hlen
  simp only [hc, Nat.mul_one] at hel
  simp only [Prod.mk.injEq, DataW.agg.injEq] at hx
  have hl : l.length = n := by
    have := congrArg List.length hx.1
    simp at this
    omega
  refine List.ext_getElem (by simp [strs, hlen, hl]) (fun i h1 h2 => ?_)
  have hi : i < n := by omega
  have h3 := hel i hi
  rw [List.getElem?_eq_getElem (by omega)] at h3
  obtain ⟨s, e1, e2, _⟩ := DataW.trod_string he h3
  have h4 : (l.map fun s => (DataW.lit (.string s) : DataW H))[i]'(by simp; omega) = (xs.map (·.1))[i]'(by simp; omega) := by simp only [hx.1]
  simp only [List.getElem_map, e2, DataW.lit.injEq, Lit.string.injEq] at h4
  have h5 : (cs.drop i).take 1 = [cs[i]] := by
    rw [List.drop_eq_getElem_cons h1]; rfl
  rw [h5] at e1
  simp only [List.cons.injEq, and_true] at e1
  rw [e1]
  simp only [strs, List.getElem_map, h4]

theorem mapKey_int {k : TypeId} {q : IntKind} (hk : P.underlying k = some (.int q)) {v : Value} {l : Lit} (h : keyOf P k v = some l) : ∃ a, v = .int q a ∧ l = .int q a := by
  rw [keyOf_int hk] at h
  unfold mapKey at h
  rw [hk] at h
  split at h <;> simp_all

def backInt {H : Type} : Lit × DataW H → Value × Value
  | (.int k a, .lit (.int k' b)) => (.int k a, .int k' b)
  | _ => (undef, undef)
/-- What a laid map of integers reads as, in whatever order. -/
theorem map_ints {t k e fuel : Nat} {kk ke : IntKind} {cs : List Value} {d : List (Lit × DataW H)} {p : List MemPlace} (ht : P.underlying t = some (.map k e)) (hk : P.underlying k = some (.int kk)) (he : P.underlying e = some (.int ke))
    (h : DataW.trod enc P w base sp held fuel t cs = some (.map d, p)) : ∃ b es clock, cs = [.map (some b)] ∧ w.heap[b]? = some (.map es clock) ∧ (es.toList.map fun x => (x.key, x.val)).Perm (d.map backInt) := by
  rcases open_map ht h with ⟨_, hx⟩ | ⟨b, es, clock, m, rfl, hcs, hb, _, F, hx⟩
  · simp at hx
  refine ⟨b, es, clock, hcs, hb, ?_⟩
  simp only [Prod.mk.injEq, DataW.map.injEq] at hx
  rw [hx.1]
  have hmap : (es.toList.map fun x => (x.key, x.val)) = (es.toList.map (rg P k (elemAt enc P w base sp held m e))).map backInt := by
    rw [List.map_map]
    refine List.map_congr_left fun x hx' => ?_
    obtain ⟨y, hy⟩ := F.reads x hx'
    obtain ⟨a, h1, h2⟩ := mapKey_int hk (rd_key hy)
    obtain ⟨z, h3, h4⟩ := rd_val hy
    obtain ⟨c, h5, h6, _⟩ := elemAt_int he h3
    obtain ⟨y1, y2⟩ := y
    simp only at h2 h4
    subst h2 h4 h6
    simp only [Function.comp, rg_of hy, backInt, h1, h5]
  rw [hmap]
  exact (sorted_perm _).symm.map _

theorem perm_pair {α : Type} {l : List α} {a b : α} (h : l.Perm [a, b]) : l = [a, b] ∨ l = [b, a] := by
  match l, h.length_eq with
  | [x, y], _ =>
    have hx : x ∈ [a, b] := h.mem_iff.1 (.head _)
    rcases List.mem_cons.1 hx with rfl | hx
    · have := List.perm_singleton.1 ((List.perm_cons x).1 h)
      exact .inl (by rw [this])
    · simp at hx
      subst hx
      have := List.perm_singleton.1 ((List.perm_cons x).1 (h.trans (List.Perm.swap x a [])))
      exact .inr (by rw [this])

/-- A seed that is a listed variable's cells, all plain. -/
theorem seed_cells {g : Nat} {nm : String} {cs : Array Value} {l : List Value} {s : List Seed} (hg : P.globalNamed nm = some g) (hv : w.var? P nm = some cs) (hl : cs.toList = l) (hlt : g < w.heap.size) (hone : l.all Value.oneCell' = true) (hr : ∀ v, v ∈ l → ∃ u, u = v ∧ VRel (phi0 s) v u) :
    SeedOk w s (g, ⟨g, 0, false, 0, 0⟩, .cells none l 0) := by
  refine ⟨rfl, hlt, fun _ => ⟨rfl, rfl⟩, rfl, Nat.zero_le _, hone, fun k v hk => ?_⟩
  obtain ⟨u, rfl, hr⟩ := hr v (List.mem_of_getElem? hk)
  refine ⟨u, ?_, hr⟩
  simp only [Nat.zero_add]
  rw [World.var?_cell hg hv k, ← Array.getElem?_toList, hl]; exact hk
theorem var?_lt {g : Nat} {nm : String} {cs : Array Value} (hg : P.globalNamed nm = some g) (hv : w.var? P nm = some cs) : g < w.heap.size := by
  simp only [World.var?, hg, Option.bind_some] at hv
  split at hv
  · rename_i hh
    rcases Nat.lt_or_ge g w.heap.size with h | h
    · exact h
    · rw [Array.getElem?_eq_none h] at hh; cases hh
  · cases hv
end
end
end Go.Proofs.YtkaibjdogeikbaaDoor.Am
