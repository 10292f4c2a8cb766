/- The abstract memory and its operations, part A2: what a run of the model does is bounded by what an abstract machine does. -/
import Derived.Test.YtkaibjdogeikbaaDoorA1
namespace Go.Proofs.YtkaibjdogeikbaaDoor.Am
noncomputable section
open Go.RowKit (Below)

theorem cell?_congr {w w' : World} {b : Nat} (h : w'.heap[b]? = w.heap[b]?) (o : Nat) (s : Option Nat) : w'.cell? ⟨b, o, s⟩ = w.cell? ⟨b, o, s⟩ := by
  simp only [World.cell?, h]
theorem frozen?_congr {w w' : World} {b : Nat} (h : w'.heap[b]? = w.heap[b]?) (o : Nat) (s : Option Nat) : w'.frozen? ⟨b, o, s⟩ = w.frozen? ⟨b, o, s⟩ := by
  simp only [World.frozen?, h]

/-- A block's relation hangs on the machine's blocks at its places alone. -/
theorem BlkRel.congr {φ ψ : Phi} {w w' : World} {i : Nat} {b : Blk} (h : BlkRel φ w i b) (hle : Phi.Le φ ψ) (hi : ∀ g l, ψ i g = some l → φ i g = some l)
    (hw : ∀ g l, φ i g = some l → w'.heap[l.block]? = w.heap[l.block]?) : BlkRel ψ w' i b := by
  cases b with
  | cells own cs min =>
    obtain ⟨⟨l, hl⟩, hm, hone, h⟩ := h
    refine ⟨⟨l, hle _ _ _ hl⟩, hm, hone, fun g l hg hmin => ?_⟩
    have hg' := hi g l hg
    obtain ⟨h1, h2, h3⟩ := h g l hg' hmin
    refine ⟨h1, fun t ho => ⟨(h2 t ho).1, (h2 t ho).2.1, fun o ho' => ?_⟩, fun k v hk hv => ?_⟩
    · rw [frozen?_congr (hw g l hg')]; exact (h2 t ho).2.2 o ho'
    · obtain ⟨u, hu, hr⟩ := h3 k v hk hv
      exact ⟨u, by rw [cell?_congr (hw g l hg')]; exact hu, hr.mono hle⟩
  | map es =>
    obtain ⟨l, hl, ho, ces, clock, hc, hs, he⟩ := h
    refine ⟨l, hle _ _ _ hl, ho, ces, clock, by rw [hw 0 l hl]; exact hc, hs, fun k x hx => ?_⟩
    obtain ⟨e, h1, h2, h3, h4⟩ := he k x hx
    exact ⟨e, h1, h2, h3, h4.mono hle⟩

/-- The memory and the streams alone. -/
structure SameMem (w w' : World) : Prop where
  heap : w'.heap = w.heap
  os : w'.os = w.os
  tape : w'.tape = w.tape
  output : w'.output = w.output

theorem SameMem.refl (w : World) : SameMem w w := ⟨rfl, rfl, rfl, rfl⟩
theorem SameMem.trans {a b c : World} (h : SameMem a b) (k : SameMem b c) : SameMem a c := ⟨k.heap.trans h.heap, k.os.trans h.os, k.tape.trans h.tape, k.output.trans h.output⟩
theorem SameMem.drew (w : World) (n : Nat) : SameMem w { w with drawn := n } := ⟨rfl, rfl, rfl, rfl⟩

theorem Below.same {B : Nat} {a w w' : World} (h : Below B a w) (s : SameMem w w') : Below B a w' :=
  ⟨s.os.trans h.os, s.tape.trans h.tape, s.output.trans h.output, by rw [s.heap]; exact h.size, fun k hk => by rw [s.heap]; exact h.block k hk⟩

section
variable {G : Nat} {w0 : World} {φ : Phi} {T : TH} {w : World}

theorem Sat.same (h : Sat G w0 φ T w) {w' : World} (s : SameMem w w') : Sat G w0 φ T w' where
  below := Below.same h.below s
  glob := h.glob
  old := h.old
  new := fun i g l hl ho => by rw [s.heap]; exact h.new i g l hl ho
  apart := h.apart
  uni := h.uni
  fits := h.fits
  blk := fun i b hb => (h.blk i b hb).congr (.refl _) (fun _ _ x => x) fun _ _ _ => by rw [s.heap]

/-- A new place. -/
def Phi.ins (φ : Phi) (i g : Nat) (l : Loc) : Phi := fun j k => if j = i ∧ k = g then some l else φ j k
theorem Phi.ins_same (φ : Phi) (i g : Nat) (l : Loc) : φ.ins i g l i g = some l := by simp [Phi.ins]
theorem Phi.ins_le {φ : Phi} {i g : Nat} {l : Loc} (h : φ i g = none) : Phi.Le φ (φ.ins i g l) := by
  intro j k m hm
  unfold Phi.ins
  split
  · rename_i e; obtain ⟨rfl, rfl⟩ := e; rw [h] at hm; cases hm
  · exact hm
theorem Phi.ins_cases {φ : Phi} {i g j k : Nat} {l m : Loc} (h : φ.ins i g l j k = some m) : (j = i ∧ k = g ∧ m = l) ∨ (φ j k = some m ∧ ¬(j = i ∧ k = g)) := by
  unfold Phi.ins at h
  split at h
  · rename_i e; left; exact ⟨e.1, e.2, by simpa using h.symm⟩
  · rename_i e; right; exact ⟨h, e⟩

def TH.put (T : TH) (i : Nat) (b : Blk) : TH := fun j => if i = j then some b else T j
theorem TH.put_same (T : TH) (i : Nat) (b : Blk) : T.put i b i = some b := by simp [TH.put]
theorem TH.put_ne (T : TH) {i j : Nat} (b : Blk) (h : i ≠ j) : T.put i b j = T j := by simp [TH.put, h]

/-- Which blocks of the machine's an old place may lie in. -/
theorem Sat.inside (h : Sat G w0 φ T w) {i g : Nat} {l : Loc} (hl : φ i g = some l) : l.block < w.heap.size := by
  cases ho : l.own with
  | false => have := h.old i g l hl ho; have := h.below.size; omega
  | true =>
    obtain ⟨_, _, c, fz, hc, _⟩ := h.new i g l hl ho
    exact (Array.getElem?_eq_some_iff.1 hc).1

/-- A new block of the machine's, at which the abstract block i gets the generation g: a block made anew, or one that has grown elsewhere. -/
theorem Sat.alloc (h : Sat G w0 φ T w) {i g : Nat} {c : Array Value} {e : TypeId} {fz : Nat × Nat} {cs : List Value} {min : Nat} (hG : G ≤ i)
    (hone : ∀ k m, φ i k = some m → m.own = true) (hnone : φ i g = none) (hg : g = cs.length) (hmin : min ≤ g)
    (hfz : ∀ o, o < c.size → ¬(fz.1 ≤ o ∧ o < fz.2)) (hlen : cs.length ≤ c.size) (hcell : cs.all Value.oneCell' = true)
    (hr : ∀ (k : Nat) (v : Value), cs[k]? = some v → ∃ u : Value, c[k]? = some u ∧ VRel φ v u)
    (hold : ∀ k m, φ i k = some m → min ≤ k → k ≤ g ∧ m.ty = e ∧ Unfrozen w m ∧ ∀ (j : Nat) (v : Value), j < k → cs[j]? = some v → ∃ u : Value, w.cell? ⟨m.block, m.off + j, none⟩ = some u ∧ VRel φ v u) :
    Sat G w0 (φ.ins i g ⟨w.heap.size, 0, true, c.size, e⟩) (T.put i (.cells (some e) cs min)) (w.alloc (.cells c e fz)) := by
  have hle : Phi.Le φ (φ.ins i g ⟨w.heap.size, 0, true, c.size, e⟩) := Phi.ins_le hnone
  have hold? : ∀ b, b < w.heap.size → (w.alloc (.cells c e fz)).heap[b]? = w.heap[b]? := fun b hb => Below.heap_alloc _ _ _ hb
  have hnew? : (w.alloc (.cells c e fz)).heap[w.heap.size]? = some (.cells c e fz) := by
    show (w.heap.push _)[w.heap.size]? = _
    simp
  refine ⟨h.below.alloc h.below.size _, ?_, ?_, ?_, ?_, ?_, ?_, ?_⟩
  · intro j k m hm hj
    rcases Phi.ins_cases hm with ⟨rfl, rfl, rfl⟩ | ⟨hm, _⟩
    · omega
    · exact h.glob j k m hm hj
  · intro j k m hm ho
    rcases Phi.ins_cases hm with ⟨rfl, rfl, rfl⟩ | ⟨hm, _⟩
    · cases ho
    · exact h.old j k m hm ho
  · intro j k m hm ho
    rcases Phi.ins_cases hm with ⟨rfl, rfl, rfl⟩ | ⟨hm', _⟩
    · exact ⟨h.below.size, rfl, c, fz, hnew?, rfl⟩
    · obtain ⟨h1, h2, c', fz', h3, h4⟩ := h.new j k m hm' ho
      exact ⟨h1, h2, c', fz', by rw [hold? _ (h.inside hm')]; exact h3, h4⟩
  · intro j k m j' k' m' hm hm' ho hb
    rcases Phi.ins_cases hm with ⟨e1, e2, e3⟩ | ⟨h1, _⟩ <;> rcases Phi.ins_cases hm' with ⟨f1, f2, f3⟩ | ⟨h2, _⟩
    · rw [e1, f1]
    · have := h.inside h2; rw [e3] at hb; simp at hb; omega
    · have := h.inside h1; rw [f3] at hb; simp at hb; omega
    · exact h.apart j k m j' k' m' h1 h2 ho hb
  · intro j k m k' m' hm hm'
    rcases Phi.ins_cases hm with ⟨e1, e2, e3⟩ | ⟨h1, _⟩ <;> rcases Phi.ins_cases hm' with ⟨f1, f2, f3⟩ | ⟨h2, _⟩
    · rw [e3, f3]
    · rw [e3]; rw [e1] at h2; exact (hone _ _ h2).symm
    · rw [f3]; rw [f1] at h1; exact hone _ _ h1
    · exact h.uni j k m k' m' h1 h2
  · intro j k m hm ho
    rcases Phi.ins_cases hm with ⟨rfl, rfl, rfl⟩ | ⟨hm, _⟩
    · simpa [hg] using hlen
    · exact h.fits j k m hm ho
  · intro j b hb
    by_cases hj : i = j
    · subst hj
      rw [TH.put_same] at hb
      obtain rfl := Option.some.inj hb
      refine ⟨⟨_, by rw [← hg]; exact Phi.ins_same _ _ _ _⟩, by omega, hcell, fun k m hm hk => ?_⟩
      rcases Phi.ins_cases hm with ⟨_, rfl, rfl⟩ | ⟨hm', _⟩
      · refine ⟨by omega, fun t ht => ⟨rfl, Option.some.inj ht, fun o ho => ?_⟩, fun j v hj hv => ?_⟩
        · have hf := hfz o ho
          simp only [World.frozen?, hnew?]
          simp only [Bool.and_eq_false_iff, decide_eq_false_iff_not]
          omega
        · obtain ⟨u, hu, hr'⟩ := hr j v hv
          exact ⟨u, by simp only [World.cell?, hnew?]; simpa using hu, hr'.mono hle⟩
      · obtain ⟨h1, hty, h2, h3⟩ := hold k m hm' hk
        refine ⟨by omega, fun t ht => ⟨hone k m hm', hty.trans (Option.some.inj ht), fun o ho => ?_⟩, fun j v hj hv => ?_⟩
        · rw [frozen?_congr (hold? _ (h.inside hm'))]; exact h2 o ho
        · obtain ⟨u, hu, hr'⟩ := h3 j v hj hv
          exact ⟨u, by rw [cell?_congr (hold? _ (h.inside hm'))]; exact hu, hr'.mono hle⟩
    · rw [TH.put_ne _ _ hj] at hb
      refine (h.blk j b hb).congr hle (fun k m hm => ?_) (fun k m hm => hold? _ (h.inside hm))
      rcases Phi.ins_cases hm with ⟨rfl, _, _⟩ | ⟨hm, _⟩
      · exact absurd rfl hj
      · exact hm

/-- A row of the machine's gets other cells. -/
def setRow (w : World) (b : Nat) (c : Array Value) : World :=
  { w with heap := w.heap.modify b fun
      | .cells _ e fz => .cells c e fz
      | o => o }
theorem setRow_ne (w : World) {b b' : Nat} (c : Array Value) (h : b' ≠ b) : (setRow w b c).heap[b']? = w.heap[b']? := by
  simp only [setRow, Array.getElem?_modify]; rw [if_neg (by omega)]
theorem setRow_same {w : World} {b : Nat} {c0 : Array Value} {e : TypeId} {fz : Nat × Nat} (c : Array Value) (h : w.heap[b]? = some (.cells c0 e fz)) :
    (setRow w b c).heap[b]? = some (.cells c e fz) := by
  simp [setRow, Array.getElem?_modify, h]
theorem Below.setRow {B : Nat} {a w : World} (h : Below B a w) {b : Nat} (hb : B ≤ b) (c : Array Value) : Below B a (setRow w b c) :=
  h.trans ⟨rfl, rfl, rfl, by simp [Go.Proofs.YtkaibjdogeikbaaDoor.Am.setRow], fun k hk => setRow_ne _ _ (by omega)⟩

/-- A row that an abstract block owns is written: T' tells what the block reads as behind it; the places of generations that are read no longer may turn. -/
theorem Sat.write (h : Sat G w0 φ T w) {i g : Nat} {l : Loc} {c0 c : Array Value} {e : TypeId} {fz : Nat × Nat} {cs : List Value} {min g' : Nat} (hl : φ i g = some l)
    (ho : l.own = true) (hrow : w.heap[l.block]? = some (.cells c0 e fz)) (hsize : c.size = c0.size) (hg : g' = cs.length) (hmin : min ≤ g') (hfit : g' ≤ l.size)
    (hnone : g' = g ∨ φ i g' = none) (hcell : cs.all Value.oneCell' = true)
    (hold : ∀ k m, (φ.ins i g' l) i k = some m → min ≤ k → k ≤ g' ∧ m.ty = l.ty ∧ Unfrozen w m ∧
      ∀ (j : Nat) (v : Value), j < k → cs[j]? = some v → ∃ u : Value, (setRow w l.block c).cell? ⟨m.block, m.off + j, none⟩ = some u ∧ VRel φ v u) :
    Sat G w0 (φ.ins i g' l) (T.put i (.cells (some l.ty) cs min)) (setRow w l.block c) := by
  have hins : Phi.Le φ (φ.ins i g' l) := by
    rcases hnone with rfl | hnone
    · intro j k m hm
      unfold Phi.ins
      split
      · rename_i e'; obtain ⟨rfl, rfl⟩ := e'; rw [← hm, hl]
      · exact hm
    · exact Phi.ins_le hnone
  have hback : ∀ j k m, (φ.ins i g' l) j k = some m → ∃ k', φ j k' = some m := fun j k m hm => by
    rcases Phi.ins_cases hm with ⟨rfl, rfl, rfl⟩ | ⟨hm, _⟩
    · exact ⟨g, hl⟩
    · exact ⟨k, hm⟩
  obtain ⟨hB, hoff, c1, fz1, hrow1, hs1⟩ := h.new i g l hl ho
  rw [hrow] at hrow1
  obtain ⟨rfl, rfl, rfl⟩ := by simpa using hrow1
  have hfzn : ∀ b o, (setRow w l.block c).frozen? ⟨b, o, none⟩ = w.frozen? ⟨b, o, none⟩ := fun b o => by
    by_cases hb : b = l.block
    · subst hb; simp only [World.frozen?, setRow_same c hrow, hrow]
    · exact frozen?_congr (setRow_ne _ _ hb) _ _
  refine ⟨Below.setRow h.below hB c, ?_, ?_, ?_, ?_, ?_, ?_, ?_⟩
  · intro j k m hm hj; obtain ⟨k', hm⟩ := hback j k m hm; exact h.glob j k' m hm hj
  · intro j k m hm ho; obtain ⟨k', hm⟩ := hback j k m hm; exact h.old j k' m hm ho
  · intro j k m hm ho
    obtain ⟨k', hm⟩ := hback j k m hm
    obtain ⟨h1, h2, c', fz', h3, h4⟩ := h.new j k' m hm ho
    by_cases hb : m.block = l.block
    · rw [hb] at h3 ⊢
      rw [hrow] at h3
      obtain ⟨h5, h6, h7⟩ := by simpa using h3
      exact ⟨by rw [← hb]; exact h1, h2, c, _, by rw [setRow_same c hrow, h6], by rw [hsize, h5, h4]⟩
    · exact ⟨h1, h2, c', fz', by rw [setRow_ne _ _ hb]; exact h3, h4⟩
  · intro j k m j' k' m' hm hm' ho hb
    obtain ⟨a, hm⟩ := hback j k m hm
    obtain ⟨b, hm'⟩ := hback j' k' m' hm'
    exact h.apart j a m j' b m' hm hm' ho hb
  · intro j k m k' m' hm hm'
    obtain ⟨a, hm⟩ := hback j k m hm
    obtain ⟨b, hm'⟩ := hback j k' m' hm'
    exact h.uni j a m b m' hm hm'
  · intro j k m hm ho
    rcases Phi.ins_cases hm with ⟨rfl, rfl, rfl⟩ | ⟨hm, _⟩
    · exact hfit
    · exact h.fits j k m hm ho
  · intro j b hb
    by_cases hj : i = j
    · subst hj
      rw [TH.put_same] at hb
      obtain rfl := Option.some.inj hb
      refine ⟨⟨_, by rw [← hg]; exact Phi.ins_same _ _ _ _⟩, by omega, hcell, fun k m hm hk => ?_⟩
      obtain ⟨h1, hty, h2, h3⟩ := hold k m hm hk
      obtain ⟨k', hm'⟩ := hback _ k m hm
      refine ⟨by omega, fun t ht => ⟨(h.uni i k' m g l hm' hl).trans ho, hty.trans (Option.some.inj ht), fun o ho => by rw [hfzn]; exact h2 o ho⟩, fun j v hj hv => ?_⟩
      obtain ⟨u, hu, hr'⟩ := h3 j v hj hv
      exact ⟨u, hu, hr'.mono hins⟩
    · rw [TH.put_ne _ _ hj] at hb
      refine (h.blk j b hb).congr hins (fun k m hm => ?_) (fun k m hm => ?_)
      · rcases Phi.ins_cases hm with ⟨rfl, _, _⟩ | ⟨hm, _⟩
        · exact absurd rfl hj
        · exact hm
      · refine setRow_ne _ _ fun hb => hj ?_
        exact h.apart i g l j k m hl hm ho hb.symm

end
end
end Go.Proofs.YtkaibjdogeikbaaDoor.Am
