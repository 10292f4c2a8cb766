/- Contracts of the program's functions (X4). -/
import Derived.Test.YtkdpjaaohddppaaDoorX3
namespace Go.Proofs.YtkdpjaaohddppaaDoor.Am
noncomputable section
/- CONTRACTS: buckets. -/
def bkt (r b l : Nat) (a : Int) : Value := .agg #[.float .f64 r, .float .f64 b, .float .f64 l, .int .i64 a]
theorem key_pos {x : Nat} (h : x ≤ fI) : fKey x = (x : Int) ∧ fNan x = false := by
  obtain ⟨h1, h2⟩ := fRung_pos h
  unfold fKey fNan
  rw [h1, h2]
  exact ⟨rfl, decide_eq_false (by omega)⟩
theorem clean_id {x : Nat} (h : x ≤ fI) : fClean x = x := by
  obtain ⟨h1, h2⟩ := key_pos h
  unfold fClean
  rw [h1, h2]
  by_cases h0 : 0 < x
  · rw [decide_eq_true (by omega)]; rfl
  · rw [decide_eq_false (by omega)]; simp; omega
theorem min_pos {x y : Nat} (hx : x ≤ fI) (hy : y ≤ fI) : aMinF .f64 x [.float .f64 y] = some (.float .f64 (min x y)) := by
  obtain ⟨k1, n1⟩ := key_pos hx
  obtain ⟨k2, n2⟩ := key_pos hy
  have ho : FloatKind.f64.format.order x y = some (compare (x : Int) (y : Int)) := by
    have := order_key x y
    rw [n1, n2, k1, k2] at this
    exact this
  have h2 : aMinF2 .f64 x y = some (min x y) := by
    unfold aMinF2
    rw [ho, cmpI]
    by_cases h1 : (x : Int) < (y : Int)
    · rw [if_pos h1, Nat.min_eq_left (by omega)]
    · rw [if_neg h1]
      by_cases h3 : (x : Int) = (y : Int)
      · rw [if_pos h3]
        have e : x = y := by omega
        subst e
        simp
      · rw [if_neg h3, Nat.min_eq_right (by omega)]
  simp [aMinF, h2]
set_option maxHeartbeats 1000000 in
theorem after_ret {r b l : Nat} (hr : r ≤ fI) (hb : b ≤ fI) (hl : l ≤ fI) (a : Int) {d : Nat} (hd : d < 18446744073709551616) {h : AHeap} {n : Nat} (hw : WF h n) : Ret EV11 35 [bkt r b l a, .int .u64 (d : Int)] h n (.float .f64 (afterN r b l d)) [] (n + 1) := by
  refine rsx35 (by simp) (by simp) ?_
  unfold afterN
  by_cases h0 : d = 0
  · rw [if_pos h0, h0]
    simp -dsimp (discharger := omega) [B35, bkt]
    exact .new (.refl _) hw (Nat.le_refl _) _
  · rw [if_neg h0]
    obtain ⟨p0, p1⟩ := ofN_rng (d := d) (by omega) hd
    have hm : aFloatOp .mul .f64 r (ofN d) = some (.float .f64 (mulP r (ofN d))) := by
      have := mul_pos hr p0 p1
      unfold aFloatOp
      show (Ieee.double.mul r (ofN d)).map _ = _
      rw [this]; rfl
    have ha : aFloatOp .add .f64 l (mulP r (ofN d)) = some (.float .f64 (addP l (mulP r (ofN d)))) := by
      have := add_pos hl (mulP_le r (ofN d))
      unfold aFloatOp
      show (Ieee.double.add l (mulP r (ofN d))).map _ = _
      rw [this]; rfl
    have hn := near_nat d
    simp -dsimp (discharger := omega) [B35, bkt, hn, hm, ha]
    have hle : addP l (mulP r (ofN d)) ≤ fI := by
      unfold addP
      split
      · exact Nat.le_refl _
      · exact rungOf_le _ _
    have hc := clean_id hle
    generalize addP l (mulP r (ofN d)) = z at *
    have C := fun H m => clean_ret z H m
    rw [hc] at C
    with_reducible refine ret_ret (C _ _) ?_
    have hmn := min_pos hb hle
    simp -dsimp (discharger := omega) [hmn]
    exact .new (.refl _) hw (Nat.le_refl _) _
end
end Go.Proofs.YtkdpjaaohddppaaDoor.Am
