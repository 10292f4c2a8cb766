/- The evaluator of the abstract machine, part DS: what it finds is a derivation. -/
import Derived.Test.YtmmcnholpnediaaDoorD
import Derived.Test.YtmmcnholpnediaaDoorL
import Derived.SliceStrings
namespace Go.Proofs.YtmmcnholpnediaaDoor.Am
noncomputable section
open Go.ChangeShapes Go.WideShapes Go.RowKit
/- ARGUMENTS THAT ARE LISTS OF STRINGS: what a slice of the caller's holds, and where. -/
def SArg (W : World) (v : Value) (ss : List (List UInt8)) (l : Loc) : Prop :=
  l.own = false ∧ l.block < W.heap.size ∧ ss.length < 9223372036854775808 ∧ (∀ x ∈ ss, x.length < 9223372036854775808) ∧
  (∀ k b, ss[k]? = some b → W.cell? ⟨l.block, l.off + k, none⟩ = some (.string ⟨b.toArray⟩)) ∧
  (v = .slice none 0 0 ∧ ss = [] ∨ ∃ a cap, v = .slice (some a) ss.length cap ∧ ss.length ≤ cap ∧ (cap = 0 ∨ a = ⟨l.block, l.off, none⟩))
theorem bytes_back (b : ByteArray) : (⟨b.data.toList.toArray⟩ : ByteArray) = b := by cases b; simp
theorem open_sarg {H : Type} {enc : TypeId × Value → H} {P : Program} {t e : TypeId} {W : World} {fuel : Nat} {v : Value} {x : DataW H × List MemPlace} (ht : P.underlying t = some (.slice e)) (he : P.underlying e = some .string) (hc : P.cellsOf e = 1)
    (h : DataW.trod enc P W 0 (fun _ => true) true fuel t [v] = some x) (h0 : 0 < W.heap.size) : ∃ ss l, SArg W v ss l := by
  rcases open_strings ht he hc h with ⟨hcs, _⟩ | ⟨a, len, cap, zs, hcs, _, hl, hm, hz, _, hcell, hsz⟩
  · refine ⟨[], ⟨0, 0, false, 0, 0⟩, rfl, h0, by simp, by simp, by simp, .inl ⟨?_, rfl⟩⟩
    simpa using hcs
  · have hv : v = .slice (some a) len cap := by simpa using hcs
    simp only [if_true] at hz
    have hlen : ((zs.take len).map (·.data.toList)).length = len := by simp; omega
    by_cases hcap : cap = 0
    · have hl0 : len = 0 := by omega
      refine ⟨[], ⟨0, 0, false, 0, 0⟩, rfl, h0, by simp, by simp, by simp, .inr ⟨a, cap, by rw [hv, hl0]; rfl, by simp, .inl hcap⟩⟩
    · have c0 := hcell 0 (by omega)
      have ea : a.add 0 = a := rfl
      rw [ea] at c0
      have hsp : a.spot = none := by
        unfold World.cell? at c0
        split at c0
        · cases hs : a.spot with
          | none => rfl
          | some _ => simp [hs] at c0
        · cases c0
      have hb : a.block < W.heap.size := by
        unfold World.cell? at c0
        split at c0
        · rename_i hh
          exact (Array.getElem?_eq_some_iff.1 hh).1
        · cases c0
      have he : a = ⟨a.block, a.off, none⟩ := by rw [← hsp]
      unfold maxLen at hm hsz
      refine ⟨(zs.take len).map (·.data.toList), ⟨a.block, a.off, false, 0, 0⟩, rfl, hb, by rw [hlen]; omega, fun x hx => ?_, fun k b hk => ?_, .inr ⟨a, cap, by rw [hlen, hv], by omega, .inr he⟩⟩
      · obtain ⟨z, hz, rfl⟩ := List.mem_map.1 hx
        have := hsz z (List.mem_of_mem_take hz)
        have e2 : z.data.toList.length = z.size := by cases z; simp; rfl
        rw [e2]; omega
      have hkl : k < len := by
        have := (List.getElem?_eq_some_iff.1 hk).1
        omega
      have ck := hcell k (by omega)
      have ead : a.add k = ⟨a.block, a.off + k, none⟩ := by
        unfold Addr.add
        split
        · rename_i h; rw [h]; exact he
        · rfl
      rw [ead] at ck
      rw [ck]
      have hzk : zs.getD k ByteArray.empty = zs[k]'(by omega) := by simp [List.getD_eq_getElem?_getD, List.getElem?_eq_getElem (show k < zs.length by omega)]
      simp only [List.getElem?_map, List.getElem?_take, if_pos hkl, List.getElem?_eq_getElem (show k < zs.length by omega), Option.map_some, Option.some.injEq] at hk
      rw [hzk, ← hk, bytes_back]
/-- The seed of such strings. -/
theorem SArg.seed {W : World} {v : Value} {ss : List (List UInt8)} {l : Loc} (x : SArg W v ss l) {s : List Seed} {i : Nat} (hi : 4096 ≤ i) : SeedOk W s (i, l, .cells none (strsL ss) 0) := by
  obtain ⟨h1, h2, _, _, h3, _⟩ := x
  refine ⟨h1, h2, fun h => by simp only at h; omega, rfl, Nat.zero_le _, ?_, fun k v hk => ?_⟩
  · simp [strsL, Value.oneCell']
  · simp only [strsL, List.getElem?_map, Option.map_eq_some_iff] at hk
    obtain ⟨b, hb, rfl⟩ := hk
    exact ⟨_, h3 k b hb, .string _⟩
/-- The value that stands for such strings. -/
theorem SArg.val {W : World} {v : Value} {ss : List (List UInt8)} {l : Loc} (x : SArg W v ss l) {s : List Seed} {i : Nat} (hi : lookS s i = some (l, .cells none (strsL ss) 0)) :
    ∃ u, Sl (heap0 s) 1 u ss.length (strsL ss) ∧ VRel (phi0 s) u v ∧ u.oneCell' = true := by
  obtain ⟨_, _, _, _, _, ⟨rfl, rfl⟩ | ⟨a, cap, rfl, hl, ha⟩⟩ := x
  · exact ⟨_, .nil, .sliceNil, rfl⟩
  · refine ⟨.slice (some ⟨i, 0, some ss.length⟩) ss.length 0, .mk ?_, .slice i 0 _ _ _ l a cap ?_ hl ?_ (.inl rfl), rfl⟩
    · have : (heap0 s).get i = some (.cells none (strsL ss) 0) := by rw [heap0_get, hi]; rfl
      rw [AHeap.read_of this]; simp [Blk.read, strsL]; exact List.take_of_length_le (by simp)
    · simp [phi0, hi, Blk.gen, strsL]
    · rcases ha with h | h
      · exact .inl h
      · exact .inr (by rw [h]; rfl)
end
end Go.Proofs.YtmmcnholpnediaaDoor.Am
