/- Contracts and plain facts (L6). -/
import Derived.Test.YtmmcnholpnediaaDoorL5
import Derived.Test.YtmmcnholpnediaaDoorL1
namespace Go.Proofs.YtmmcnholpnediaaDoor.Am
noncomputable section
/- FIELDS OF A LINE, by their places: plain facts. -/
def spanC (sp : List (Nat × Nat)) : List Value := sp.flatMap fun p => [.int .i64 (p.1 : Int), .int .i64 (p.2 : Int)]
@[simp] theorem spanC_length (sp : List (Nat × Nat)) : (spanC sp).length = 2 * sp.length := by
  induction sp with
  | nil => rfl
  | cons p sp ih => rw [spanC, List.flatMap_cons, List.length_append]; unfold spanC at ih; rw [ih]; simp; omega
theorem spanC_snoc (sp : List (Nat × Nat)) (p : Nat × Nat) : spanC (sp ++ [p]) = spanC sp ++ [.int .i64 (p.1 : Int), .int .i64 (p.2 : Int)] := by simp [spanC]
theorem spanC_at (sp : List (Nat × Nat)) {j : Nat} {p : Nat × Nat} (h : sp[j]? = some p) : ((spanC sp).drop (2 * j)).take 2 = [.int .i64 (p.1 : Int), .int .i64 (p.2 : Int)] := by
  induction sp generalizing j with
  | nil => simp at h
  | cons q sp ih =>
    cases j with
    | zero => simp at h; subst h; simp [spanC]
    | succ j =>
      simp only [List.getElem?_cons_succ] at h
      have := ih h
      rw [show 2 * (j + 1) = 2 * j + 1 + 1 by omega]
      simpa [spanC] using this
def cutSp (s : List UInt8) (p : Nat × Nat) : List UInt8 := (s.take p.2).drop p.1
/-- Where the walk over a line stands: the spans so far; z: where a word began, or below 0. -/
structure FI (s : List UInt8) (j : Nat) (sp : List (Nat × Nat)) (z : Int) : Prop where
  hj : j ≤ s.length
  hsp : sp.length ≤ j
  hb : ∀ p ∈ sp, p.1 ≤ p.2 ∧ p.2 ≤ s.length
  z0 : -1000000 < z
  z1 : z < 1000000
  hcur : (z < 0 ∧ sp.map (cutSp s) ++ wordsGo [] (s.drop j) = wordsL s) ∨ (0 ≤ z ∧ z.toNat < j ∧ sp.map (cutSp s) ++ wordsGo ((s.take j).drop z.toNat) (s.drop j) = wordsL s)
theorem FI.init (s : List UInt8) : FI s 0 [] (-1) := ⟨Nat.zero_le _, Nat.le_refl _, (fun p hp => by cases hp), by omega, by omega, .inl ⟨by omega, rfl⟩⟩
theorem drop_cons {s : List UInt8} {j : Nat} {c : UInt8} (h : s[j]? = some c) : s.drop j = c :: s.drop (j + 1) := by
  obtain ⟨hlt, rfl⟩ := List.getElem?_eq_some_iff.1 h
  exact List.drop_eq_getElem_cons hlt
theorem take_succ' {s : List UInt8} {j : Nat} {c : UInt8} (h : s[j]? = some c) : s.take (j + 1) = s.take j ++ [c] := take_snoc h
section
variable {s : List UInt8} {j : Nat} {sp : List (Nat × Nat)} {z : Int} {c : UInt8}
theorem FI.blankEnd (x : FI s j sp z) (hl : s.length < 100000) (hc : s[j]? = some c) (h35 : ¬ c = 35) (hw : wsp c = true) (hz : 0 ≤ z) : FI s (j + 1) (sp ++ [(z.toNat, j)]) (-z - 1) := by
  have hjl := (List.getElem?_eq_some_iff.1 hc).1
  rcases x.hcur with ⟨h1, _⟩ | ⟨_, h2, h3⟩
  · omega
  have := x.z0; have := x.z1
  refine ⟨by omega, by have := x.hsp; simp; omega, fun p hp => ?_, by omega, by omega, .inl ⟨by omega, ?_⟩⟩
  · rcases List.mem_append.1 hp with hp | hp
    · exact x.hb p hp
    · simp at hp; subst hp; exact ⟨by simp only; omega, by simp only; omega⟩
  · rw [← h3, drop_cons hc, wordsGo_cons h35, if_pos hw]
    have hne : ¬ (s.take j).drop z.toNat = [] := fun e => by
      have := congrArg List.length e
      rw [List.length_drop, List.length_take] at this
      simp at this; omega
    rw [word1_some hne]
    simp [cutSp]
theorem FI.blank (x : FI s j sp z) (hc : s[j]? = some c) (h35 : ¬ c = 35) (hw : wsp c = true) (hz : z < 0) : FI s (j + 1) sp z := by
  have hjl := (List.getElem?_eq_some_iff.1 hc).1
  rcases x.hcur with ⟨h1, h2⟩ | ⟨h1, _, _⟩
  · refine ⟨by omega, by have := x.hsp; omega, x.hb, x.z0, x.z1, .inl ⟨h1, ?_⟩⟩
    rw [← h2, drop_cons hc, wordsGo_cons h35, if_pos hw, word1_nil]; rfl
  · omega
theorem FI.more (x : FI s j sp z) (hc : s[j]? = some c) (h35 : ¬ c = 35) (hw : wsp c = false) (hz : 0 ≤ z) : FI s (j + 1) sp z := by
  have hjl := (List.getElem?_eq_some_iff.1 hc).1
  rcases x.hcur with ⟨h1, _⟩ | ⟨h1, h2, h3⟩
  · omega
  · refine ⟨by omega, by have := x.hsp; omega, x.hb, x.z0, x.z1, .inr ⟨h1, by omega, ?_⟩⟩
    rw [← h3, drop_cons hc, wordsGo_cons h35, hw]
    simp only [Bool.false_eq_true, if_false]
    rw [take_succ' hc, List.drop_append_of_le_length (by rw [List.length_take]; omega)]
theorem FI.begin (x : FI s j sp z) (hl : s.length < 100000) (hc : s[j]? = some c) (h35 : ¬ c = 35) (hw : wsp c = false) (hz : z < 0) : FI s (j + 1) sp (j : Int) := by
  have hjl := (List.getElem?_eq_some_iff.1 hc).1
  rcases x.hcur with ⟨h1, h2⟩ | ⟨h1, _, _⟩
  · refine ⟨by omega, by have := x.hsp; omega, x.hb, by omega, by omega, .inr ⟨by omega, by omega, ?_⟩⟩
    rw [← h2, drop_cons hc, wordsGo_cons h35, hw]
    simp only [Bool.false_eq_true, if_false, Int.toNat_natCast]
    rw [take_succ' hc, List.drop_append_of_le_length (by rw [List.length_take]; omega)]
    rw [List.drop_of_length_le (by rw [List.length_take]; omega)]
  · omega
theorem FI.done0 (x : FI s s.length sp z) (hz : z < 0) : sp.map (cutSp s) = wordsL s := by
  rcases x.hcur with ⟨h1, h2⟩ | ⟨h1, _, _⟩
  · rw [List.drop_length] at h2
    simpa [wordsGo, word1] using h2
  · omega
theorem FI.done1 (x : FI s s.length sp z) (hz : 0 ≤ z) : (sp ++ [(z.toNat, s.length)]).map (cutSp s) = wordsL s ∧ ∀ p ∈ sp ++ [(z.toNat, s.length)], p.1 ≤ p.2 ∧ p.2 ≤ s.length := by
  rcases x.hcur with ⟨h1, _⟩ | ⟨h1, h2, h3⟩
  · omega
  · have hne : ¬ (s.take s.length).drop z.toNat = [] := fun e => by
      have := congrArg List.length e
      rw [List.length_drop, List.length_take] at this
      simp at this; omega
    refine ⟨?_, fun p hp => ?_⟩
    · rw [List.drop_length] at h3
      rw [← h3]
      simp only [wordsGo, word1_some hne]
      simp [cutSp]
    · rcases List.mem_append.1 hp with hp | hp
      · exact x.hb p hp
      · simp at hp; subst hp; exact ⟨by simp only; omega, Nat.le_refl _⟩
end
theorem notI_pos {z : Int} (h0 : 0 ≤ z) (h1 : z < 1000000) : notI .i64 z = -z - 1 := by
  obtain ⟨a, rfl⟩ : ∃ a : Nat, z = (a : Int) := ⟨z.toNat, by omega⟩
  have key : (BitVec.ofInt 64 (-1) ^^^ BitVec.ofInt 64 (a : Int)).toNat = 18446744073709551615 - a := by
    have e1 : BitVec.ofInt 64 (-1) = BitVec.allOnes 64 := by decide
    have e2 : BitVec.ofInt 64 (a : Int) = BitVec.ofNat 64 a := by simp
    rw [e1, e2, BitVec.allOnes_xor, BitVec.toNat_not, BitVec.toNat_ofNat, Nat.mod_eq_of_lt (by omega)]
  show IntKind.i64.wrap ((BitVec.ofInt 64 (-1) ^^^ BitVec.ofInt 64 (a : Int)).toNat : Int) = _
  rw [key]
  have e : ((18446744073709551615 - a : Nat) : Int) = (-(a : Int) - 1) + 18446744073709551616 := by omega
  rw [e]
  have hwr : ∀ y : Int, -1000001 < y → y < 0 → IntKind.i64.wrap (y + 18446744073709551616) = y := fun y h0 h1 => by
    unfold IntKind.wrap
    have hs : IntKind.i64.signed = true := rfl
    have hb : (2 : Int) ^ IntKind.i64.bits = 18446744073709551616 := rfl
    have hb1 : (2 : Int) ^ (IntKind.i64.bits - 1) = 9223372036854775808 := rfl
    simp only [hs, hb, hb1]
    have hm : (y + 18446744073709551616) % 18446744073709551616 = y + 18446744073709551616 := by omega
    rw [hm]
    have hge : decide (y + 18446744073709551616 ≥ 9223372036854775808) = true := by simp; omega
    rw [hge]
    simp
  exact hwr _ (by omega) (by omega)
theorem decode_plain {l : List UInt8} {j : Nat} {c : UInt8} (h : l[j]? = some c) (hc : c.toNat < 128) : Utf8.decode ⟨l.toArray⟩ j = (c.toNat, 1) := by
  obtain ⟨hlt, rfl⟩ := List.getElem?_eq_some_iff.1 h
  have e : (ByteArray.mk l.toArray).get! (j + 0) = l[j] := by
    simp only [Nat.add_zero, ByteArray.get!]
    simp [hlt]
  unfold Utf8.decode
  simp only [e]
  rw [if_pos (by omega)]
end
end Go.Proofs.YtmmcnholpnediaaDoor.Am
