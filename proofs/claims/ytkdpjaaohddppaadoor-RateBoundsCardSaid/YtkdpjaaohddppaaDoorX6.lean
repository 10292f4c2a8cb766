/- Contracts of the program's functions (X6). -/
import Derived.Test.YtkdpjaaohddppaaDoorX5
import Derived.Test.YtkdpjaaohddppaaDoorLRb
namespace Go.Proofs.YtkdpjaaohddppaaDoor.Am
noncomputable section
/- CONTRACTS: New, to, Has. -/
set_option maxHeartbeats 1000000 in
theorem new_ret {r b : Nat} (hr : r < 18446744073709551616) (hb : b < 18446744073709551616) (a : Int) {h : AHeap} {n : Nat} (hw : WF h n) :
    Ret EV11 7 [.float .f64 r, .float .f64 b, .int .i64 a] h n (bkt (fClean r) (fClean b) (fClean b) a) [] (n + 2) := by
  refine rsx7 (by simp) (by simp) ?_
  have hm : min (fClean b) (fClean b) = fClean b := Nat.min_self _
  simp -dsimp (discharger := omega) [B7, aFill]
  have C := fun H N h1 h2 => @bclean_ret r b b hr hb hb a (n + 1) H h1 N h2
  rw [hm] at C
  unfold bktP at C
  with_reducible refine call_ret (C _ _ ?_ ?_) ?_
  · simp [bktB, bktC]
  · omega
  simp -dsimp (discharger := omega) [bktB, bktC, bkt]
  repeat refine HSub.new ?_ hw (by omega) _
  exact .refl _
/-- A bucket at a tick. -/
def toL (r b l : Nat) (a now : Int) : Nat := if a < now then afterN (fClean r) (fClean b) (min (fClean l) (fClean b)) (now - a).toNat else min (fClean l) (fClean b)
def toA (a now : Int) : Int := if a < now then now else a
theorem sub_u64 {a now : Int} (h1 : -9223372036854775808 ≤ a) (h2 : now ≤ 9223372036854775807) (h : a < now) : IntKind.wrap .u64 (IntKind.wrap .u64 now - IntKind.wrap .u64 a) = ((now - a).toNat : Int) := by
  simp [IntKind.wrap, IntKind.bits, IntKind.signed]
  omega
set_option maxHeartbeats 1000000 in
theorem to_ret {r b l : Nat} (hr : r < 18446744073709551616) (hb : b < 18446744073709551616) (hl : l < 18446744073709551616) {a now : Int} (a1 : -9223372036854775808 ≤ a) (a2 : a ≤ 9223372036854775807) (b1 : -9223372036854775808 ≤ now) (b2 : now ≤ 9223372036854775807) {p : Nat} {h : AHeap} (hp : h.get p = some (bktB r b l a)) {n : Nat} (hw : WF h n) :
    Ret EV11 32 [bktP p, .int .i64 now] h n (.tuple #[]) [(p, bktB (fClean r) (fClean b) (toL r b l a now) (toA a now))] (n + 1) := by
  have hpn := hw.lt hp
  refine rsx32 (by simp) (by simp [hp]) ?_
  have C := fun H N h1 h2 => @bclean_ret r b l hr hb hl a p H h1 N h2
  have c0 := (clean_le hr).1
  have c1 := (clean_le hb).1
  have c2 := (clean_le hl).1
  unfold toL toA
  simp -dsimp (discharger := omega) [B32]
  with_reducible refine call_ret (C _ _ ?_ ?_) ?_
  · exact hp
  · exact hpn
  have hw1 := hw.put (i := p) (bktB (fClean r) (fClean b) (min (fClean l) (fClean b)) a) hpn (Nat.le_refl n)
  by_cases hc : a < now
  · rw [if_pos hc, if_pos hc]
    have hd := sub_u64 a1 b2 hc
    have A := fun H m (x : WF H m) => @after_ret (fClean r) (fClean b) (min (fClean l) (fClean b)) c0 c1 (by omega) a (now - a).toNat (by omega) H m x
    generalize fClean r = r' at *
    generalize fClean b = b' at *
    generalize min (fClean l) b' = l' at *
    simp -dsimp (discharger := omega) [bktP, bktB, bktC]
    rw [hd]
    unfold bkt at A
    with_reducible refine ret_ret (A _ _ ?_) ?_
    · exact hw1
    simp -dsimp (discharger := omega) []
    exact ⟨by omega, over3 rfl⟩
  · rw [if_neg hc, if_neg hc]
    simp -dsimp (discharger := omega) [bktP, bktB, bktC]
    exact .refl _
theorem flt_pos {x y : Nat} (hx : x ≤ fI) (hy : y ≤ fI) : fLt x y = decide (x < y) := by
  obtain ⟨k1, n1⟩ := key_pos hx
  obtain ⟨k2, n2⟩ := key_pos hy
  unfold fLt
  rw [n1, n2, k1, k2]
  simp
theorem feq_pos {x y : Nat} (hx : x ≤ fI) (hy : y ≤ fI) : fEq x y = decide (x = y) := by
  obtain ⟨k1, n1⟩ := key_pos hx
  obtain ⟨k2, n2⟩ := key_pos hy
  unfold fEq
  rw [n1, n2, k1, k2]
  simp
  omega
theorem fl_leq (a b : Nat) : aFloatOp .leq .f64 a b = some (.bool (fLt a b || fEq a b)) := by
  have h1 := ord_lt a b
  have h2 := ord_eq a b
  unfold fLt fEq
  rw [← h1, ← h2]; rfl
theorem toL_le {r b l : Nat} (_hr : r < 18446744073709551616) (hb : b < 18446744073709551616) (a now : Int) : toL r b l a now ≤ fClean b ∧ toL r b l a now ≤ fI := by
  have c1 := (clean_le hb).1
  have : toL r b l a now ≤ fClean b := by
    unfold toL
    split
    · unfold afterN; split
      · omega
      · exact Nat.min_le_left _ _
    · omega
  exact ⟨this, by omega⟩
set_option maxHeartbeats 1000000 in
theorem has_ret {r b l : Nat} (hr : r < 18446744073709551616) (hb : b < 18446744073709551616) (hl : l < 18446744073709551616) {a now : Int} (a1 : -9223372036854775808 ≤ a) (a2 : a ≤ 9223372036854775807) (b1 : -9223372036854775808 ≤ now) (b2 : now ≤ 9223372036854775807) {p : Nat} {h : AHeap} (hp : h.get p = some (bktB r b l a)) {n : Nat} (hw : WF h n) :
    Ret EV11 14 [bktP p, .int .i64 now] h n (.float .f64 (toL r b l a now)) [(p, bktB (fClean r) (fClean b) (toL r b l a now) (toA a now))] (n + 1) := by
  have hpn := hw.lt hp
  refine rsx14 (by simp) (by simp [hp]) ?_
  have T := to_ret hr hb hl a1 a2 b1 b2 hp hw
  generalize toL r b l a now = L at *
  generalize toA a now = A at *
  unfold bktP at T
  simp -dsimp (discharger := omega) [B14, bktP]
  with_reducible refine call_ret T ?_
  simp -dsimp (discharger := omega) [bktB, bktC]
  exact .refl _
theorem inf_ret {x : Nat} (hx : x ≤ fI) (h : AHeap) (n : Nat) : Ret EV11 27 [.float .f64 x, .int .i64 1] h n (.bool (decide (x = fI))) [] n := by
  refine rsx27 (by simp) (by simp) ?_
  have e : fLt 9218868437227405311 x = decide (x = fI) := by
    rw [flt_pos (by decide) hx]
    have : fI = 9218868437227405312 := rfl
    rw [this] at hx ⊢
    exact decide_eq_decide.2 (by omega)
  simp -dsimp (discharger := omega) [B27, fl_gtr, e]
  exact .refl _
/-- What is left. -/
def takeL (L n : Nat) : Nat := if L < n then L else if L = fI then L else rungOf (fU L - fU n) 0
theorem takeL_le {L n : Nat} (hL : L ≤ fI) : takeL L n ≤ L := by
  unfold takeL
  split
  · exact Nat.le_refl _
  · split
    · exact Nat.le_refl _
    · exact sub_le hL
theorem sub_fl {L n : Nat} (hL : L < fI) (hn : n ≤ L) : aFloatOp .sub .f64 L n = some (.float .f64 (rungOf (fU L - fU n) 0)) := by
  have := sub_pos_fin hL (Nat.lt_of_le_of_lt hn hL) hn
  unfold aFloatOp
  show (Ieee.double.sub L n).map _ = _
  rw [this]; rfl
set_option maxHeartbeats 1000000 in
theorem take_ret {r b l x : Nat} (hr : r < 18446744073709551616) (hb : b < 18446744073709551616) (hl : l < 18446744073709551616) (hx : x < 18446744073709551616) {a now : Int} (a1 : -9223372036854775808 ≤ a) (a2 : a ≤ 9223372036854775807) (b1 : -9223372036854775808 ≤ now) (b2 : now ≤ 9223372036854775807) {p : Nat} {h : AHeap} (hp : h.get p = some (bktB r b l a)) {n : Nat} (hw : WF h n) :
    Ret EV11 10 [bktP p, .int .i64 now, .float .f64 x] h n (.bool (decide (fClean x ≤ toL r b l a now))) [(p, bktB (fClean r) (fClean b) (takeL (toL r b l a now) (fClean x)) (toA a now))] (n + 1) := by
  have hpn := hw.lt hp
  refine rsx10 (by simp) (by simp [hp]) ?_
  have T := has_ret hr hb hl a1 a2 b1 b2 hp hw
  have hL := (toL_le (l := l) hr hb a now).2
  have hn := (clean_le hx).1
  have C := fun H m => clean_ret x H m
  generalize toL r b l a now = L at *
  generalize toA a now = A at *
  generalize fClean x = y at *
  unfold bktP at T
  simp -dsimp (discharger := omega) [B10, bktP]
  with_reducible refine call_ret (C _ _) ?_
  simp -dsimp (discharger := omega) []
  with_reducible refine call_ret T ?_
  unfold takeL
  by_cases h1 : L < y
  · rw [if_pos h1, decide_eq_false (by omega)]
    have e : fLt L y = true := by rw [flt_pos hL hn]; exact decide_eq_true h1
    simp -dsimp (discharger := omega) [fl_gtr, e]
    exact .refl _
  · rw [if_neg h1, decide_eq_true (by omega)]
    have e : fLt L y = false := by rw [flt_pos hL hn]; exact decide_eq_false h1
    have I := fun H m => inf_ret hL H m
    simp -dsimp (discharger := omega) [fl_gtr, e, bktB, bktC]
    with_reducible refine call_ret (I _ _) ?_
    by_cases h2 : L = fI
    · rw [if_pos h2, decide_eq_true h2]
      simp -dsimp (discharger := omega) []
      exact .refl _
    · rw [if_neg h2, decide_eq_false h2]
      have hs := sub_fl (Nat.lt_of_le_of_ne hL h2) (show y ≤ L by omega)
      have hq := clean_id (rungOf_le (fU L - fU y) 0)
      have C2 := fun H m => clean_ret (rungOf (fU L - fU y) 0) H m
      rw [hq] at C2
      simp -dsimp (discharger := omega) [hs]
      with_reducible refine call_ret (C2 _ _) ?_
      simp -dsimp (discharger := omega) []
      exact .over rfl
end
end Go.Proofs.YtkdpjaaohddppaaDoor.Am
