/- Contracts of the program's functions (X1). -/
import Derived.Test.YtmkfjdajnamoaaaDoorG
import Derived.Test.YtmkfjdajnamoaaaDoorL1
import Derived.Test.YtmkfjdajnamoaaaDoorW
namespace Go.Proofs.YtmkfjdajnamoaaaDoor.Am
noncomputable section
/- CONTRACTS of package mac: numbers. -/
abbrev macV (m : List UInt8) : Value := .agg (u8s m).toArray
/-- The six bytes of a number. -/
def macB (x : Nat) : List UInt8 := (List.range 6).map fun i => UInt8.ofNat (x / 2 ^ (40 - 8 * i))
@[simp] theorem macB_length (x : Nat) : (macB x).length = 6 := by simp [macB]
theorem numL_lt48 {m : List UInt8} (hm : m.length = 6) : numL m < 281474976710656 := by
  have := numL_lt m 6 (by omega)
  rw [← hm, List.take_length, hm] at this
  exact this
def NumInv (m : List UInt8) (h0 : AHeap) (n0 : Nat) (r : Nat) (σ : Fr) (h : AHeap) (n : Nat) : Prop :=
  h = h0 ∧ n = n0 ∧ ∃ i, i + r = 6 ∧ σ = [(3, .int .u64 ((numL (m.take i) : Nat) : Int)), (6, .agg (u8s m).toArray), (7, .int .i64 (i : Int))]
def NumPost (m : List UInt8) (h0 : AHeap) (n0 : Nat) (e : Ex) (σ' : Fr) (h' : AHeap) (n' : Nat) : Prop :=
  h' = h0 ∧ n' = n0 ∧ e = .exit 0 ∧ σ'.get 3 = some (.int .u64 ((numL m : Nat) : Int))
theorem num_loop {m : List UInt8} (hm : m.length = 6) {h0 : AHeap} (n0 : Nat) :
    ∀ (r : Nat) (σ : Fr) (h : AHeap) (n : Nat), NumInv m h0 n0 r σ h n → HasCode EV02 (.loop F16L0) σ h n (NumPost m h0 n0) := by
  refine wx_inv _ fun r σ h n hI => ?_
  obtain ⟨rfl, rfl, i, hi, rfl⟩ := hI
  cases r with
  | zero =>
    obtain rfl : i = 6 := by omega
    simp -dsimp (discharger := omega) [F16L0]
    exact ⟨rfl, rfl, rfl, by rw [← hm]; simp⟩
  | succ r =>
    have hlt : i < m.length := by omega
    have hg := u8s_get? (List.getElem?_eq_getElem hlt)
    have hx := m[i].toNat_lt
    have hn := numL_lt m i (by omega)
    have hn2 : 256 ^ i ≤ 256 ^ 5 := Nat.pow_le_pow_right (by omega) (by omega)
    have hst := step64 (a := numL (m.take i)) (x := m[i].toNat) (by omega) hx
    rw [← numL_take hlt] at hst
    simp -dsimp (discharger := omega) [F16L0, hg, hst]
    exact .mk' r (by omega) [(3, .int .u64 ((numL (m.take (i + 1)) : Nat) : Int)), (6, .agg (u8s m).toArray), (7, .int .i64 ((i + 1 : Nat) : Int))] _ (by simp) (.refl _) ⟨rfl, rfl, i + 1, by omega, rfl⟩
theorem number_ret {m : List UInt8} (hm : m.length = 6) {h : AHeap} {n : Nat} (hw : WF h n) : Ret EV02 16 [macV m] h n (.int .u64 ((numL m : Nat) : Int)) [] (n + 1) := by
  refine rsx16 (by simp) (by simp) ?_
  have hl : (u8s m).length = 6 := by simp [hm]
  have ht : (u8s m).take 6 = u8s m := List.take_of_length_le (by omega)
  simp -dsimp (discharger := omega) [B16, macV, AHeap.read, hl, ht]
  refine loop_use (num_loop hm (h0 := h) (n + 1) 6 [(3, .int .u64 ((numL (m.take 0) : Nat) : Int)), (6, .agg (u8s m).toArray), (7, .int .i64 ((0 : Nat) : Int))] h (n + 1) ⟨rfl, rfl, 0, rfl, rfl⟩) (by simp [numL]) (.ofE (.right (.inr (hw n (by omega))) (.refl _ _))) ?_
  rintro e σ' h' n' ⟨rfl, rfl, rfl, e3⟩
  simp -dsimp (discharger := omega) [e3]
  exact .refl _
def ofC (x i : Nat) : List UInt8 := (macB x).take i ++ List.replicate (6 - i) 0
theorem ofC_length {x i : Nat} (hi : i ≤ 6) : (ofC x i).length = 6 := by simp [ofC]; omega
theorem ofC_set {x i : Nat} (hi : i < 6) : (ofC x i).set i (UInt8.ofNat (x / 2 ^ (40 - 8 * i))) = ofC x (i + 1) := by
  rcases (by omega : i = 0 ∨ i = 1 ∨ i = 2 ∨ i = 3 ∨ i = 4 ∨ i = 5) with rfl | rfl | rfl | rfl | rfl | rfl <;> rfl
theorem u8s_set (l : List UInt8) (i : Nat) (b : UInt8) : (u8s l).set i (.int .u8 (b.toNat : Int)) = u8s (l.set i b) := by simp [u8s, List.map_set]
def ofBlk (x i : Nat) : Blk := .cells (some 23) (u8s (ofC x i)) 6
def zeroBlk : Blk := .cells (some 23) (u8s [0, 0, 0, 0, 0, 0]) 6
def OfInv (x p q : Nat) (h0 : AHeap) (n0 : Nat) (r : Nat) (σ : Fr) (h : AHeap) (n : Nat) : Prop :=
  n = n0 ∧ HSub h0 h ∧ h.get q = some zeroBlk ∧ ∃ i, i + r = 6 ∧ h.get p = some (ofBlk x i) ∧ σ = [(0, .int .u64 (x : Int)), (2, .pointer (some ⟨q, 0, some 6⟩)), (3, .pointer (some ⟨p, 0, some 6⟩)), (5, .int .i64 (i : Int))]
def OfPost (x p q : Nat) (h0 : AHeap) (n0 : Nat) (e : Ex) (σ' : Fr) (h' : AHeap) (n' : Nat) : Prop :=
  n' = n0 ∧ e = .exit 0 ∧ HSub h0 h' ∧ h'.get p = some (ofBlk x 6) ∧ h'.get q = some zeroBlk ∧ σ'.get 2 = some (.pointer (some ⟨q, 0, some 6⟩)) ∧ σ'.get 3 = some (.pointer (some ⟨p, 0, some 6⟩))
theorem of_loop {x p q : Nat} {h0 : AHeap} (h0p : h0.get p = none) (hpq : ¬ p = q) (_hx : x < 18446744073709551616) (n0 : Nat) :
    ∀ (r : Nat) (σ : Fr) (h : AHeap) (n : Nat), OfInv x p q h0 n0 r σ h n → HasCode EV02 (.loop F22L0) σ h n (OfPost x p q h0 n0) := by
  refine wx_inv _ fun r σ h n hI => ?_
  obtain ⟨rfl, hs, hq, i, hi, hp, rfl⟩ := hI
  cases r with
  | zero =>
    obtain rfl : i = 6 := by omega
    simp -dsimp (discharger := omega) [F22L0]
    exact ⟨rfl, rfl, hs, hp, hq, by simp, by simp⟩
  | succ r =>
    have hlt : i < 6 := by omega
    have hsh : shrI .u64 (x : Int) (40 - 8 * (i : Int)) = ((x / 2 ^ (40 - 8 * i) : Nat) : Int) := by
      have := shrI_nat .u64 x (40 - 8 * i)
      rw [show Min.min (40 - 8 * i) IntKind.u64.bits = 40 - 8 * i by show Min.min (40 - 8 * i) 64 = _; omega] at this
      rw [← this]; congr 1; omega
    have hcv : IntKind.u8.wrap ((x : Int) / 2 ^ (40 - 8 * i)) = ((UInt8.ofNat (x / 2 ^ (40 - 8 * i))).toNat : Int) := by
      have := wrap_u8_mod (x / 2 ^ (40 - 8 * i))
      simp only [Int.natCast_ediv, Int.natCast_pow] at this
      exact this
    have hl : (u8s (ofC x i)).length = 6 := by rw [u8s_length, ofC_length (by omega)]
    have hset : List.take i (u8s (ofC x i)) ++ Value.int .u8 ((UInt8.ofNat (x / 2 ^ (40 - 8 * i))).toNat : Int) :: List.drop (i + 1) (u8s (ofC x i)) = u8s (ofC x (i + 1)) := by
      rw [← ofC_set hlt, ← u8s_set, List.set_eq_take_append_cons_drop, if_pos (by omega)]
    simp -dsimp (discharger := omega) [F22L0, hsh, hcv, hp, ofBlk, ofC_length, -UInt8.toNat_ofNat']
    rw [hset]
    exact Again.mk' r (by omega) [(0, .int .u64 (x : Int)), (2, .pointer (some ⟨q, 0, some 6⟩)), (3, .pointer (some ⟨p, 0, some 6⟩)), (5, .int .i64 ((i + 1 : Nat) : Int))] _ (by simp) (.refl _) ⟨rfl, .ofE (.right (.inr h0p) fun i b _ hb => hs i b hb), by rw [AHeap.get_put_ne _ _ hpq]; exact hq, i + 1, by omega, AHeap.get_put_same _ _ _, rfl⟩
theorem of_ret {x : Nat} (hx : x < 18446744073709551616) {h : AHeap} {n : Nat} (hw : WF h n) : Ret EV02 22 [.int .u64 (x : Int)] h n (macV (macB x)) [] (n + 2) := by
  refine rsx22 (by simp) (by simp) ?_
  simp -dsimp (discharger := omega) [B22]
  refine loop_use (of_loop (x := x) (p := n + 1) (q := n) (h0 := h) (hw _ (by omega)) (by omega) hx (n + 1 + 1) 6 [(0, .int .u64 (x : Int)), (2, .pointer (some ⟨n, 0, some 6⟩)), (3, .pointer (some ⟨n + 1, 0, some 6⟩)), (5, .int .i64 ((0 : Nat) : Int))] _ _ ⟨rfl, ?_, ?_, 0, rfl, ?_, rfl⟩) (by simp) (.refl _) ?_
  · exact ((HSub.refl h).new hw (by omega) _).new hw (by omega) _
  · simp [zeroBlk, u8s]
  · simp [ofBlk, u8s, ofC]
  rintro e σ' h' n' ⟨rfl, rfl, hs, hp, hq, e2, e3⟩
  have hl : (u8s (ofC x 6)).length = 6 := by rw [u8s_length, ofC_length (by omega)]
  have ht : (u8s (ofC x 6)).take 6 = u8s (ofC x 6) := List.take_of_length_le (by omega)
  have hz : (u8s [0, 0, 0, 0, 0, 0]).length = 6 := rfl
  have hb : ofC x 6 = macB x := by simp [ofC, List.take_of_length_le]
  simp -dsimp (discharger := omega) [e2, e3, hp, hq, ofBlk, zeroBlk, AHeap.read, hl, ht, hz]
  exact ⟨by rw [hb], hs.new hw (by omega) _⟩
end
end Go.Proofs.YtmkfjdajnamoaaaDoor.Am
namespace Go.Proofs.YtmkfjdajnamoaaaDoor.Am
noncomputable section
/- CONTRACTS of package mac: masks. -/
def maskN (j : Nat) : Nat := 281474976710656 - 2 ^ (48 - j)
theorem mask_eq : ∀ j : Fin 49, andNotI .u64 281474976710655 (shrI .u64 281474976710655 (j.1 : Int)) = ((maskN j.1 : Nat) : Int) := by decide +kernel
def bitsI (k : Int) : Nat := (Max.max 0 (Min.min k 48)).toNat
theorem bitsI_le (k : Int) : bitsI k ≤ 48 := by unfold bitsI; omega
theorem maskN_lt (j : Nat) : maskN j < 281474976710656 := by
  have : 0 < 2 ^ (48 - j) := Nat.pos_of_ne_zero (by simp)
  unfold maskN; omega
theorem u8s6 {l : List UInt8} (h : l.length = 6) : (u8s l).length = 6 := by simp [h]
theorem bits_ret {k : Int} {h : AHeap} {n : Nat} (hw : WF h n) : Ret EV02 14 [.int .i64 k] h n (macV (macB (maskN (bitsI k)))) [] (n + 3) := by
  refine rsx14 (by simp) (by simp) ?_
  have hm := mask_eq ⟨bitsI k, by have := bitsI_le k; omega⟩
  have hk : (if 0 < if 48 < k then 48 else k then if 48 < k then 48 else k else 0) = ((bitsI k : Nat) : Int) := by
    unfold bitsI
    split <;> split <;> omega
  have hlt := maskN_lt (bitsI k)
  simp -dsimp (discharger := omega) [B14, hk, hm]
  with_reducible refine call_ret (of_ret (by omega) (hw.put _ (by omega) (by omega))) ?_
  have lm := u8s6 (macB_length (maskN (bitsI k)))
  simp -dsimp (discharger := omega) [macV, lm]
  refine ⟨by rw [List.take_of_length_le (by omega)], ?_⟩
  exact ((HSub.refl h).new hw (Nat.le_refl n) _).new hw (Nat.le_refl n) _
theorem masked_ret {a b : List UInt8} (ha : a.length = 6) (hb : b.length = 6) {h : AHeap} {n : Nat} (hw : WF h n) : Ret EV02 17 [macV a, macV b] h n (macV (macB (numL a &&& numL b))) [] (n + 7) := by
  refine rsx17 (by simp) (by simp) ?_
  have la := u8s6 ha
  have lb := u8s6 hb
  have ta : (u8s a).take 6 = u8s a := List.take_of_length_le (by omega)
  have tb : (u8s b).take 6 = u8s b := List.take_of_length_le (by omega)
  have na := numL_lt48 ha
  have nb := numL_lt48 hb
  have nab : numL a &&& numL b ≤ numL a := Nat.and_le_left
  have hand := and64 (x := numL a) (y := numL b) (by omega) (by omega)
  simp -dsimp (discharger := omega) [B17, macV, la, lb, ta]
  with_reducible refine ret_ret (number_ret ha ?_) ?_
  · exact .of fun j hj => by simp (discharger := omega) [hw.none (i := j) (by omega)]
  simp -dsimp (discharger := omega) [lb, tb]
  with_reducible refine ret_ret (number_ret hb ?_) ?_
  · exact .of fun j hj => by simp (discharger := omega) [hw.none (i := j) (by omega)]
  simp -dsimp (discharger := omega) [hand]
  with_reducible refine ret_ret (of_ret (by omega) ?_) ?_
  · exact .of fun j hj => by simp (discharger := omega) [hw.none (i := j) (by omega)]
  have lm := u8s6 (macB_length (numL a &&& numL b))
  simp -dsimp (discharger := omega) [macV, lm]
  refine ⟨by rw [List.take_of_length_le (by omega)], ?_⟩
  exact (((((HSub.refl h).new hw (by omega) _).new hw (by omega) _).new hw (by omega) _)).new hw (by omega) _
theorem leq : ∀ (ls : List Leaf) (a b : List UInt8), (∀ l, l ∈ ls → l = .int) → a.length = ls.length → b.length = ls.length → leavesEq ls (u8s a) (u8s b) = some (a == b)
  | [], [], [], _, _, _ => rfl
  | l :: ls, x :: a, y :: b, h, ha, hb => by
    have hl := h l (by simp)
    subst hl
    have ih := leq ls a b (fun l hl => h l (by simp [hl])) (by simpa using ha) (by simpa using hb)
    rw [u8s_cons, u8s_cons]
    have e : (((x.toNat : Nat) : Int) == ((y.toNat : Nat) : Int)) = (x == y) := by
      rw [natEq]
      by_cases hxy : x = y
      · subst hxy; simp
      · have : x.toNat ≠ y.toNat := fun z => hxy (UInt8.toNat_inj.1 z)
        rw [beq_eq_false_iff_ne.2 this, beq_eq_false_iff_ne.2 hxy]
    simp only [leavesEq, leafEq, ih, if_true, e, List.cons_beq_cons]
theorem leq6 {a b : List UInt8} (ha : a.length = 6) (hb : b.length = 6) : leavesEq [.int, .int, .int, .int, .int, .int] (u8s a) (u8s b) = some (a == b) := leq _ a b (by simp) ha hb
theorem isGroup_cons {a : UInt8} {l : List UInt8} (ha : l.length = 5) {h : AHeap} {n : Nat} (hw : WF h n) : Ret EV02 20 [macV (a :: l)] h n (.bool (a.toNat % 2 == 1)) [] (n + 1) := by
  refine rsx20 (by simp) (by simp) ?_
  simp -dsimp (discharger := omega) [B20, macV, u8s_cons, ha]
  refine ⟨?_, (HSub.refl h).new hw (Nat.le_refl n) _⟩
  have hx := a.toNat_lt
  rw [show (1 : Int) = ((1 : Nat) : Int) from rfl, andN (k := .u8) rfl hx (by decide), natEq, Nat.and_one_is_mod]
theorem isGroup_ret {m : List UInt8} (hm : m.length = 6) {h : AHeap} {n : Nat} (hw : WF h n) : Ret EV02 20 [macV m] h n (.bool ((m.headD 0).toNat % 2 == 1)) [] (n + 1) := by
  cases m with
  | nil => simp at hm
  | cons a l => exact isGroup_cons (by simpa using hm) hw
theorem all_ret {h : AHeap} {n : Nat} (hw : WF h n) : Ret EV02 22 [.int .u64 281474976710655] h n (.agg (u8s [255, 255, 255, 255, 255, 255]).toArray) [] (n + 2) := of_ret (x := 281474976710655) (by decide) hw
theorem bits44_ret {h : AHeap} {n : Nat} (hw : WF h n) : Ret EV02 14 [.int .i64 44] h n (macV (macB (maskN 44))) [] (n + 3) := bits_ret hw
theorem mask44 : numL (macB (maskN 44)) = maskN 44 := by decide +kernel
def kindI (m : List UInt8) : Nat := if m = [0, 0, 0, 0, 0, 0] then 1 else if m = [255, 255, 255, 255, 255, 255] then 2 else if macB (numL m &&& maskN 44) = [1, 128, 194, 0, 0, 0] then 3 else if (m.headD 0).toNat % 2 = 1 then 4 else 5
theorem kind_ret {m : List UInt8} (hm : m.length = 6) {h : AHeap} {n : Nat} (hw : WF h n) : Ret EV02 18 [macV m] h n (.int .i64 ((kindI m : Nat) : Int)) [] (n + 20) := by
  refine rsx18 (by simp) (by simp) ?_
  have lm := u8s6 hm
  have tm : (u8s m).take 6 = u8s m := List.take_of_length_le (by omega)
  have e0 : leavesEq [.int, .int, .int, .int, .int, .int] (u8s m) [.int .u8 0, .int .u8 0, .int .u8 0, .int .u8 0, .int .u8 0, .int .u8 0] = some (m == [0, 0, 0, 0, 0, 0]) := leq6 (b := [0, 0, 0, 0, 0, 0]) hm rfl
  have e1 : leavesEq [.int, .int, .int, .int, .int, .int] (u8s m) (u8s [255, 255, 255, 255, 255, 255]) = some (m == [255, 255, 255, 255, 255, 255]) := leq6 (b := [255, 255, 255, 255, 255, 255]) hm rfl
  have e2 : leavesEq [.int, .int, .int, .int, .int, .int] (u8s (macB (numL m &&& maskN 44))) [.int .u8 1, .int .u8 128, .int .u8 194, .int .u8 0, .int .u8 0, .int .u8 0] = some (macB (numL m &&& maskN 44) == [1, 128, 194, 0, 0, 0]) := leq6 (b := [1, 128, 194, 0, 0, 0]) (macB_length _) rfl
  have hw1 : WF (h.put n (.cells (some 23) (u8s m) 6)) (n + 1) := hw.put _ (by omega) (by omega)
  have hs1 : HSub h (h.put n (.cells (some 23) (u8s m) 6)) := (HSub.refl h).new hw (Nat.le_refl n) _
  simp -dsimp (discharger := omega) [B18, macV, lm, tm, e0, aFill]
  unfold kindI
  refine Test.split (fun hc => ?_) (fun hc => ?_)
  · rw [if_pos (by simpa using hc)]
    simp -dsimp (discharger := omega) []
    exact hs1
  rw [if_neg (by simpa using hc)]
  simp -dsimp (discharger := omega) [lm, tm]
  with_reducible refine ret_ret (all_ret ?_) ?_
  · exact .of fun j hj => by simp (discharger := omega) [hw.none (i := j) (by omega)]
  simp -dsimp (discharger := omega) [e1]
  refine Test.split (fun hc => ?_) (fun hc => ?_)
  · rw [if_pos (by simpa using hc)]
    simp -dsimp (discharger := omega) []
    exact hs1
  rw [if_neg (by simpa using hc)]
  simp -dsimp (discharger := omega) [lm, tm]
  with_reducible refine ret_ret (bits44_ret ?_) ?_
  · exact .of fun j hj => by simp (discharger := omega) [hw.none (i := j) (by omega)]
  simp -dsimp (discharger := omega) []
  have r44' := masked_ret (a := m) (b := macB (maskN 44)) hm (macB_length _) (h := h.put n (.cells (some 23) (u8s m) 6)) (n := n + 1 + 2 + 3) (hw1.mono (by omega))
  rw [mask44] at r44'
  with_reducible refine ret_ret r44' ?_
  simp -dsimp (discharger := omega) [e2, aFill]
  refine Test.split (fun hc => ?_) (fun hc => ?_)
  · rw [if_pos (by simpa using hc)]
    simp -dsimp (discharger := omega) []
    exact hs1
  rw [if_neg (by simpa using hc)]
  simp -dsimp (discharger := omega) [lm, tm]
  with_reducible refine call_ret (isGroup_ret hm ?_) ?_
  · exact .of fun j hj => by simp (discharger := omega) [hw.none (i := j) (by omega)]
  simp -dsimp (discharger := omega) []
  refine Test.split (fun hc => ?_) (fun hc => ?_)
  · rw [if_pos (by simpa using hc)]
    simp -dsimp (discharger := omega) []
    exact hs1
  rw [if_neg (by simpa using hc)]
  simp -dsimp (discharger := omega) []
  exact hs1
def matchB (a b m : List UInt8) : Bool := macB (numL m &&& numL b) == macB (numL a &&& numL b)
theorem matches_ret {a b m : List UInt8} (ha : a.length = 6) (hb : b.length = 6) (hm : m.length = 6) {h : AHeap} {n : Nat} (hw : WF h n) : Ret EV02 15 [.agg (u8s a ++ u8s b).toArray, macV m] h n (.bool (matchB a b m)) [] (n + 16) := by
  refine rsx15 (by simp) (by simp) ?_
  have la := u8s6 ha
  have lb := u8s6 hb
  have lm := u8s6 hm
  have tm : (u8s m).take 6 = u8s m := List.take_of_length_le (by omega)
  have ta : (u8s a ++ u8s b).take 6 = u8s a := List.take_left' (by omega)
  have tb : (u8s b).take 6 = u8s b := List.take_of_length_le (by omega)
  have da : (u8s a ++ u8s b).drop 6 = u8s b := List.drop_left' (by omega)
  have e := leq6 (a := macB (numL m &&& numL b)) (b := macB (numL a &&& numL b)) (by simp) (by simp)
  simp -dsimp (discharger := omega) [B15, macV, la, lb, lm, tm, tb, da]
  with_reducible refine ret_ret (masked_ret hm hb ?_) ?_
  · exact .of fun j hj => by simp (discharger := omega) [hw.none (i := j) (by omega)]
  simp -dsimp (discharger := omega) [la, lb, ta, tb, da]
  with_reducible refine ret_ret (masked_ret ha hb ?_) ?_
  · exact .of fun j hj => by simp (discharger := omega) [hw.none (i := j) (by omega)]
  simp -dsimp (discharger := omega) [e]
  exact ⟨rfl, ((HSub.refl h).new hw (by omega) _).new hw (by omega) _⟩
theorem groupK_ret {k : Nat} (hk : k = 1 ∨ k = 2 ∨ k = 3 ∨ k = 4 ∨ k = 5) {h : AHeap} {n : Nat} : Ret EV02 19 [.int .i64 (k : Int)] h n (.bool (k == 2 || k == 3 || k == 4)) [] n := by
  refine rsx19 (by simp) (by simp) ?_
  rcases hk with rfl | rfl | rfl | rfl | rfl
  all_goals simp -dsimp (discharger := omega) [B19]
  all_goals exact .refl _
end
end Go.Proofs.YtmkfjdajnamoaaaDoor.Am
namespace Go.Proofs.YtmkfjdajnamoaaaDoor.Am
noncomputable section
/- PLAIN LAWS: addresses as numbers. -/
theorem six {m : List UInt8} (hm : m.length = 6) : ∃ a b c d e f, m = [a, b, c, d, e, f] := by
  match m, hm with
  | [a, b, c, d, e, f], _ => exact ⟨a, b, c, d, e, f, rfl⟩
theorem numL6 (a b c d e f : UInt8) : numL [a, b, c, d, e, f] = 256 * (256 * (256 * (256 * (256 * a.toNat + b.toNat) + c.toNat) + d.toNat) + e.toNat) + f.toNat := by
  show 256 * (256 * (256 * (256 * (256 * (256 * 0 + a.toNat) + b.toNat) + c.toNat) + d.toNat) + e.toNat) + f.toNat = _
  omega
theorem macB6 (x : Nat) : macB x = [UInt8.ofNat (x / 1099511627776), UInt8.ofNat (x / 4294967296), UInt8.ofNat (x / 16777216), UInt8.ofNat (x / 65536), UInt8.ofNat (x / 256), UInt8.ofNat x] := by
  show [UInt8.ofNat (x / 1099511627776), UInt8.ofNat (x / 4294967296), UInt8.ofNat (x / 16777216), UInt8.ofNat (x / 65536), UInt8.ofNat (x / 256), UInt8.ofNat (x / 1)] = _
  rw [Nat.div_one]
theorem u8_of {x : Nat} {a : UInt8} (h : x % 256 = a.toNat) : UInt8.ofNat x = a := by
  apply UInt8.toNat_inj.1
  rw [UInt8.toNat_ofNat']; exact h
theorem macB_numL {m : List UInt8} (hm : m.length = 6) : macB (numL m) = m := by
  obtain ⟨a, b, c, d, e, f, rfl⟩ := six hm
  have := a.toNat_lt; have := b.toNat_lt; have := c.toNat_lt; have := d.toNat_lt; have := e.toNat_lt; have := f.toNat_lt
  rw [numL6, macB6]
  congr 1
  · exact u8_of (by omega)
  congr 1
  · exact u8_of (by omega)
  congr 1
  · exact u8_of (by omega)
  congr 1
  · exact u8_of (by omega)
  congr 1
  · exact u8_of (by omega)
  congr 1
  exact u8_of (by omega)
theorem numL_macB (x : Nat) : numL (macB x) = x % 281474976710656 := by
  rw [macB6, numL6]
  simp only [UInt8.toNat_ofNat']
  omega
theorem numL_inj {a b : List UInt8} (ha : a.length = 6) (hb : b.length = 6) : a = b ↔ numL a = numL b :=
  ⟨fun h => by rw [h], fun h => by rw [← macB_numL ha, ← macB_numL hb, h]⟩
theorem macB_inj {x y : Nat} (hx : x < 281474976710656) (hy : y < 281474976710656) : macB x = macB y ↔ x = y :=
  ⟨fun h => by have := numL_macB x; rw [h, numL_macB, Nat.mod_eq_of_lt hx, Nat.mod_eq_of_lt hy] at this; exact this.symm, fun h => by rw [h]⟩
theorem and_mask {x j : Nat} (hx : x < 281474976710656) (hj : j ≤ 48) : x &&& maskN j = 2 ^ (48 - j) * (x / 2 ^ (48 - j)) := by
  have e : maskN j = 2 ^ (48 - j) * (2 ^ j - 1) := by
    unfold maskN
    rw [Nat.mul_sub, ← Nat.pow_add, show 48 - j + j = 48 by omega]
    omega
  have hp : 0 < 2 ^ (48 - j) := Nat.pos_of_ne_zero (by simp)
  have h1 : (x &&& maskN j) / 2 ^ (48 - j) = x / 2 ^ (48 - j) := by
    rw [Nat.and_div_two_pow, e, Nat.mul_div_cancel_left _ hp, Nat.and_two_pow_sub_one_eq_mod, Nat.mod_eq_of_lt]
    rw [Nat.div_lt_iff_lt_mul hp, ← Nat.pow_add, show j + (48 - j) = 48 by omega]
    exact hx
  have h2 : (x &&& maskN j) % 2 ^ (48 - j) = 0 := by
    rw [Nat.and_mod_two_pow, e, Nat.mul_mod_right, Nat.and_zero]
  have h3 := Nat.div_add_mod (x &&& maskN j) (2 ^ (48 - j))
  rw [h1, h2] at h3
  omega
theorem head_num {m : List UInt8} (hm : m.length = 6) : (m.headD 0).toNat = numL m / 1099511627776 := by
  obtain ⟨a, b, c, d, e, f, rfl⟩ := six hm
  have := a.toNat_lt; have := b.toNat_lt; have := c.toNat_lt; have := d.toNat_lt; have := e.toNat_lt; have := f.toNat_lt
  rw [numL6]
  show a.toNat = _
  omega
/-- The kind by the number. -/
def kindN (x : Nat) : Nat := if x = 0 then 1 else if x = 281474976710655 then 2 else if x / 16 = 103282638848 then 3 else if (x / 1099511627776) % 2 = 1 then 4 else 5
theorem kind_num {m : List UInt8} (hm : m.length = 6) : kindI m = kindN (numL m) := by
  have hlt := numL_lt48 hm
  have e0 : (m = [0, 0, 0, 0, 0, 0]) = (numL m = 0) := propext (numL_inj (b := [0, 0, 0, 0, 0, 0]) hm rfl)
  have e1 : (m = [255, 255, 255, 255, 255, 255]) = (numL m = 281474976710655) := propext (numL_inj (b := [255, 255, 255, 255, 255, 255]) hm rfl)
  have e2 : (macB (numL m &&& maskN 44) = [1, 128, 194, 0, 0, 0]) = (numL m / 16 = 103282638848) := by
    have : ([1, 128, 194, 0, 0, 0] : List UInt8) = macB 1652522221568 := by decide +kernel
    rw [this, and_mask hlt (by decide), macB_inj (by omega) (by decide)]
    apply propext; omega
  unfold kindI kindN
  simp only [e0, e1, e2, head_num hm]
theorem kindN_rng (x : Nat) : kindN x = 1 ∨ kindN x = 2 ∨ kindN x = 3 ∨ kindN x = 4 ∨ kindN x = 5 := by
  unfold kindN; repeat' split
  all_goals simp
def groupK (k : Nat) : Bool := k == 2 || k == 3 || k == 4
theorem kind_group {x : Nat} (_hx : x < 281474976710656) : groupK (kindN x) = ((x / 1099511627776) % 2 == 1) := by
  unfold kindN
  repeat' split
  all_goals simp [groupK]
  all_goals omega
theorem kind_zero (x : Nat) : (kindN x == 1) = (x == 0) := by
  unfold kindN
  repeat' split
  all_goals simp [*]
theorem kind_all {x : Nat} : (kindN x == 2) = (x == 281474976710655) := by
  unfold kindN
  repeat' split
  all_goals simp [*]
theorem kind_res {x : Nat} : (kindN x == 3) = (x / 16 == 103282638848) := by
  unfold kindN
  repeat' split
  all_goals simp [*]
end
end Go.Proofs.YtmkfjdajnamoaaaDoor.Am
namespace Go.Proofs.YtmkfjdajnamoaaaDoor.Am
noncomputable section
/- PLAIN LAWS: masks. -/
theorem match_eq {a b m : List UInt8} (ha : a.length = 6) (hm : m.length = 6) : matchB a b m = (numL m &&& numL b == numL a &&& numL b) := by
  have h1 := numL_lt48 ha
  have h2 := numL_lt48 hm
  have l1 : numL m &&& numL b < 281474976710656 := Nat.lt_of_le_of_lt Nat.and_le_left h2
  have l2 : numL a &&& numL b < 281474976710656 := Nat.lt_of_le_of_lt Nat.and_le_left h1
  unfold matchB
  rw [Bool.eq_iff_iff, beq_iff_eq, beq_iff_eq, macB_inj l1 l2]
theorem numL_mask (j : Nat) : numL (macB (maskN j)) = maskN j := by
  rw [numL_macB, Nat.mod_eq_of_lt (maskN_lt j)]
theorem mask_mono : ∀ k : Fin 49, maskN k.1 &&& maskN (bitsI ((k.1 : Int) + 1)) = maskN k.1 := by decide +kernel
theorem mask_bits : ∀ k : Fin 49, bitsI (k.1 : Int) = k.1 := by decide +kernel
theorem mask_down : ∀ k : Fin 48, maskN (k.1 + 1) &&& (maskN (k.1 + 1) - 1) = maskN k.1 := by decide +kernel
theorem mask_pos : ∀ k : Fin 48, 0 < maskN (k.1 + 1) := by decide +kernel
/-- What a narrower mask lets match, a wider one does. -/
theorem wide_match {a b : List UInt8} (ha : a.length = 6) (hb : b.length = 6) {k : Nat} (hk : k ≤ 48) (hc : matchB a (macB (maskN (bitsI ((k : Int) + 1)))) b = true) : matchB a (macB (maskN k)) b = true := by
  rw [match_eq ha hb, numL_mask, beq_iff_eq] at hc ⊢
  have hmm := mask_mono ⟨k, by omega⟩
  rw [← hmm, Nat.and_comm (maskN k), ← Nat.and_assoc, ← Nat.and_assoc, hc]
theorem zero_match {a b : List UInt8} (ha : a.length = 6) (hb : b.length = 6) : matchB a [0, 0, 0, 0, 0, 0] b = true := by
  rw [match_eq ha hb, beq_iff_eq]
  show _ &&& 0 = _ &&& 0
  simp
theorem all_match {a b : List UInt8} (ha : a.length = 6) (hb : b.length = 6) : matchB a (macB (maskN 48)) b = (a == b) := by
  rw [match_eq ha hb, numL_mask, and_mask (numL_lt48 ha) (by decide), and_mask (numL_lt48 hb) (by decide)]
  rw [Bool.eq_iff_iff, beq_iff_eq, beq_iff_eq, numL_inj ha hb]
  omega
theorem differ_match {a b c : List UInt8} (ha : a.length = 6) (hb : b.length = 6) : matchB a c b = ((numL a ^^^ numL b) &&& numL c == 0) := by
  rw [match_eq ha hb, Bool.eq_iff_iff, beq_iff_eq, beq_iff_eq, Nat.and_xor_distrib_right]
  constructor
  · intro e; rw [e, Nat.xor_self]
  · intro e
    have h2 : numL b &&& numL c = numL a &&& numL c ^^^ (numL a &&& numL c ^^^ numL b &&& numL c) := by
      rw [← Nat.xor_assoc, Nat.xor_self, Nat.zero_xor]
    rw [h2, e, Nat.xor_zero]
theorem twice {a c : List UInt8} (ha : a.length = 6) (j : Nat) : macB (numL (macB (numL a &&& numL c)) &&& numL (macB (maskN j))) = macB (numL (macB (numL a &&& numL (macB (maskN j)))) &&& numL c) := by
  have h1 := numL_lt48 ha
  have l1 : numL a &&& numL c < 281474976710656 := Nat.lt_of_le_of_lt Nat.and_le_left h1
  have l2 : numL a &&& maskN j < 281474976710656 := Nat.lt_of_le_of_lt Nat.and_le_left h1
  rw [numL_mask, numL_macB, numL_macB, Nat.mod_eq_of_lt l1, Nat.mod_eq_of_lt l2, Nat.and_assoc, Nat.and_comm (numL c), ← Nat.and_assoc]
end
end Go.Proofs.YtmkfjdajnamoaaaDoor.Am
namespace Go.Proofs.YtmkfjdajnamoaaaDoor.Am
noncomputable section
/- THE WALK of MacMasks. -/
def OnesInv (k : Nat) (p9 p10 p11 v12 v15 : Value) (h0 : AHeap) (n0 : Nat) (r : Nat) (σ : Fr) (h : AHeap) (n : Nat) : Prop :=
  h = h0 ∧ n = n0 ∧ r ≤ k ∧ σ = [(9, p9), (10, p10), (11, p11), (12, v12), (15, v15), (16, .int .i64 ((k - r : Nat) : Int)), (17, .int .u64 ((maskN r : Nat) : Int))]
def OnesPost (k : Nat) (p9 p10 p11 v12 v15 : Value) (h0 : AHeap) (n0 : Nat) (e : Ex) (σ' : Fr) (h' : AHeap) (n' : Nat) : Prop :=
  h' = h0 ∧ n' = n0 ∧ e = .exit 0 ∧ σ'.get 9 = some p9 ∧ σ'.get 10 = some p10 ∧ σ'.get 11 = some p11 ∧ σ'.get 12 = some v12 ∧ σ'.get 15 = some v15 ∧ σ'.get 16 = some (.int .i64 (k : Int))
theorem ones_loop {k : Nat} (hk : k ≤ 48) {p9 p10 p11 v12 v15 : Value} {h0 : AHeap} (n0 : Nat) :
    ∀ (r : Nat) (σ : Fr) (h : AHeap) (n : Nat), OnesInv k p9 p10 p11 v12 v15 h0 n0 r σ h n → HasCode EV02 (.loop F4L0) σ h n (OnesPost k p9 p10 p11 v12 v15 h0 n0) := by
  refine wx_inv _ fun r σ h n hI => ?_
  obtain ⟨rfl, rfl, hr, rfl⟩ := hI
  cases r with
  | zero =>
    have : maskN 0 = 0 := rfl
    simp -dsimp (discharger := omega) [F4L0, this]
    exact ⟨rfl, rfl, rfl, by simp, by simp, by simp, by simp, by simp, by simp⟩
  | succ r =>
    have hd := mask_down ⟨r, by omega⟩
    have hp := mask_pos ⟨r, by omega⟩
    have hl := maskN_lt (r + 1)
    simp only at hd hp
    have ha : andI .u64 ((maskN (r + 1) : Nat) : Int) (((maskN (r + 1) : Nat) : Int) - 1) = ((maskN r : Nat) : Int) := by
      have := and64 (x := maskN (r + 1)) (y := maskN (r + 1) - 1) (by omega) (by omega)
      rw [hd] at this
      rw [← this]; congr 1; omega
    have hs : ((k - (r + 1) : Nat) : Int) + 1 = ((k - r : Nat) : Int) := by omega
    simp -dsimp (discharger := omega) [F4L0, ha, hs]
    exact .mk' r (by omega) [(9, p9), (10, p10), (11, p11), (12, v12), (15, v15), (16, .int .i64 ((k - r : Nat) : Int)), (17, .int .u64 ((maskN r : Nat) : Int))] _ (by simp) (.refl _) ⟨rfl, rfl, by omega, rfl⟩
def patC (a b : List UInt8) : List Value := u8s a ++ u8s b
theorem patC_length {a b : List UInt8} (ha : a.length = 6) (hb : b.length = 6) : (patC a b).length = 12 := by simp [patC, ha, hb]
theorem patM {a b m : List UInt8} (ha : a.length = 6) (hb : b.length = 6) (hm : m.length = 6) {h : AHeap} {n : Nat} (hw : WF h n) : Ret EV02 15 [.agg (patC a b).toArray, macV m] h n (.bool (matchB a b m)) [] (n + 16) := matches_ret ha hb hm hw
theorem bits48 {h : AHeap} {n : Nat} (hw : WF h n) : Ret EV02 14 [.int .i64 48] h n (macV (macB (maskN 48))) [] (n + 3) := bits_ret hw
/-- What region 2 asks. -/
theorem masks_r2 {a b : List UInt8} (ha : a.length = 6) (hb : b.length = 6) {k : Nat} (hk : k ≤ 48) {p9 p10 p13 p14 : Nat} {p11 v12 : Value} {σ : Fr} {G : AHeap} {N : Nat} (hG : WF G N)
    (g9 : σ.get 9 = some (.pointer (some ⟨p9, 0, some 6⟩))) (g10 : σ.get 10 = some (.pointer (some ⟨p10, 0, some 6⟩))) (g11 : σ.get 11 = some p11) (g12 : σ.get 12 = some v12) (g13 : σ.get 13 = some (.pointer (some ⟨p13, 0, some 12⟩))) (g14 : σ.get 14 = some (.pointer (some ⟨p14, 0, some 12⟩)))
    (e9 : G.get p9 = some (.cells (some 23) (u8s a) 6)) (e10 : G.get p10 = some (.cells (some 23) (u8s b) 6)) (e13 : G.get p13 = some (.cells (some 30) (patC a (macB (maskN k))) 12)) (e14 : G.get p14 = some (.cells (some 30) (patC a (macB (maskN (bitsI ((k : Int) + 1))))) 12))
    {Q : Ex → Fr → AHeap → Nat → Prop} {tk : Tok Q} (q : ∀ σ' n', N ≤ n' → n' ≤ N + 100 → σ'.get 9 = some (.pointer (some ⟨p9, 0, some 6⟩)) → σ'.get 10 = some (.pointer (some ⟨p10, 0, some 6⟩)) → σ'.get 11 = some p11 → σ'.get 12 = some v12 → σ'.get 59 = some (.bool false) → Q .normal σ' G n') : wx EV02 R4_2 σ G N Q tk := by
  have la := u8s6 ha
  have lb := u8s6 hb
  have ta : (u8s a).take 6 = u8s a := List.take_of_length_le (by omega)
  have tb : (u8s b).take 6 = u8s b := List.take_of_length_le (by omega)
  have r9 := AHeap.read_of e9 6 0 6
  have r10 := AHeap.read_of e10 6 0 6
  have r13 := AHeap.read_of e13 12 0 12
  have r14 := AHeap.read_of e14 12 0 12
  have l13 := patC_length ha (macB_length (maskN k))
  have l14 := patC_length ha (macB_length (maskN (bitsI ((k : Int) + 1))))
  have t13 : (patC a (macB (maskN k))).take 12 = _ := List.take_of_length_le (by omega)
  have t14 : (patC a (macB (maskN (bitsI ((k : Int) + 1))))).take 12 = _ := List.take_of_length_le (by omega)
  have lk48 := u8s6 (macB_length (maskN 48))
  have c1 := wide_match ha hb hk
  have c2 := zero_match ha hb
  have c3 := all_match ha hb
  have d12 : List.drop 12 (u8s a ++ [Value.int .u8 0, .int .u8 0, .int .u8 0, .int .u8 0, .int .u8 0, .int .u8 0]) = [] := List.drop_of_length_le (by simp [la])
  have e0 : u8s a ++ [Value.int .u8 0, .int .u8 0, .int .u8 0, .int .u8 0, .int .u8 0, .int .u8 0] = patC a [0, 0, 0, 0, 0, 0] := rfl
  have e48 : u8s a ++ u8s (macB (maskN 48)) = patC a (macB (maskN 48)) := rfl
  have lq := leq6 ha hb
  have z6 : ([0, 0, 0, 0, 0, 0] : List UInt8).length = 6 := rfl
  simp -dsimp (discharger := omega) [g10, g14, r10, r14, lb, tb, l14, t14]
  with_reducible refine ret_ret (patM ha (macB_length _) hb hG) ?_
  generalize matchB a (macB (maskN (bitsI ((k : Int) + 1)))) b = x at c1
  cases x
  · simp -dsimp (discharger := omega) [g9, g10, r9, r10, la, lb, ta, tb, aFill, e0]
    with_reducible refine ret_ret (patM ha z6 hb (hG.mono (by omega))) ?_
    rw [c2]
    simp -dsimp (discharger := omega) [g9, r9, la, ta]
    with_reducible refine ret_ret (bits48 ?_) ?_
    · exact hG.mono (by omega)
    simp -dsimp (discharger := omega) [g10, r10, la, lb, tb, aFill, d12, e48, lk48]
    with_reducible refine ret_ret (patM ha (macB_length _) hb ?_) ?_
    · exact hG.mono (by omega)
    rw [c3]
    simp -dsimp (discharger := omega) [g9, g10, r9, r10, la, lb, ta, tb, lq]
    exact q _ _ (by omega) (by omega) (by simp [g9]) (by simp [g10]) (by simp [g11]) (by simp [g12]) (by simp)
  · simp -dsimp (discharger := omega) [g10, g13, r10, r13, lb, tb, l13, t13]
    with_reducible refine ret_ret (patM ha (macB_length _) hb (hG.mono (by omega))) ?_
    rw [c1 rfl]
    simp -dsimp (discharger := omega) [g9, g10, r9, r10, la, lb, ta, tb, aFill, e0]
    with_reducible refine ret_ret (patM ha z6 hb (hG.mono (by omega))) ?_
    rw [c2]
    simp -dsimp (discharger := omega) [g9, r9, la, ta]
    with_reducible refine ret_ret (bits48 ?_) ?_
    · exact hG.mono (by omega)
    simp -dsimp (discharger := omega) [g10, r10, la, lb, tb, aFill, d12, e48, lk48]
    with_reducible refine ret_ret (patM ha (macB_length _) hb ?_) ?_
    · exact hG.mono (by omega)
    rw [c3]
    simp -dsimp (discharger := omega) [g9, g10, r9, r10, la, lb, ta, tb, lq]
    exact q _ _ (by omega) (by omega) (by simp [g9]) (by simp [g10]) (by simp [g11]) (by simp [g12]) (by simp)
theorem masks_walk {a b c : List UInt8} (ha : a.length = 6) (hb : b.length = 6) (hc : c.length = 6) {q : Nat} (_hq : q < 256) {h : AHeap} {n : Nat} (hw : WF h n) (hn : n ≤ 5000) :
    HasCallT EV02 4 [macV a, macV b, macV c, .int .u8 (q : Int)] h n (fun v _ _ => v = .bool true) () := by
  refine inl4 ?_
  have la := u8s6 ha
  have lb := u8s6 hb
  have lc := u8s6 hc
  have ta : (u8s a).take 6 = u8s a := List.take_of_length_le (by omega)
  have tb : (u8s b).take 6 = u8s b := List.take_of_length_le (by omega)
  have tc : (u8s c).take 6 = u8s c := List.take_of_length_le (by omega)
  have hk : q % 49 ≤ 48 := by omega
  have ht : Int.tmod (q : Int) 49 = ((q % 49 : Nat) : Int) := tmod_nat q 49
  generalize q % 49 = k at hk ht
  simp -dsimp (discharger := omega) [B4, macV, la, lb, lc, ta, tb, tc, ht, -wR4_1]
  refine ⟨by omega, by omega, by omega, by omega, ?_⟩
  refine wx_gen (fun σ G => σ.get 9 = some (.pointer (some ⟨n + 3, 0, some 6⟩)) ∧ σ.get 10 = some (.pointer (some ⟨n + 4, 0, some 6⟩)) ∧ σ.get 11 = some (.pointer (some ⟨n + 5, 0, some 6⟩)) ∧ σ.get 12 = some (.int .i64 (k : Int)) ∧ G.get (n + 3) = some (.cells (some 23) (u8s a) 6) ∧ G.get (n + 4) = some (.cells (some 23) (u8s b) 6) ∧ G.get (n + 5) = some (.cells (some 23) (u8s c) 6) ∧ WF G (n + 6)) ⟨by simp, by simp, by simp, by simp, by simp (discharger := omega), by simp (discharger := omega), by simp (discharger := omega), ?_⟩ ?_
  · exact .of fun j hj => by simp (discharger := omega) [hw.none (i := j) (by omega)]
  rintro σ G ⟨g9, g10, g11, g12, e3, e4, e5, hG⟩
  clear hw
  have r3 := AHeap.read_of e3 6 0 6
  have r4 := AHeap.read_of e4 6 0 6
  have r5 := AHeap.read_of e5 6 0 6
  generalize hN : n + 1 + 1 + 1 + 1 + 1 + 1 = N
  have hN' : n + 6 = N := by omega
  rw [hN'] at hG
  simp -dsimp (discharger := omega) [g9, g12, r3, la, ta]
  have lk := u8s6 (macB_length (maskN k))
  have lk1 := u8s6 (macB_length (maskN (bitsI ((k : Int) + 1))))
  have hbk := mask_bits ⟨k, by omega⟩
  simp only at hbk
  have b1 : Ret EV02 14 [.int .i64 (k : Int)] (touch [] G) N (macV (macB (maskN k))) [] (N + 3) := by
    have := bits_ret (k := (k : Int)) (hG.touch [])
    rwa [hbk] at this
  have d12 : List.drop 12 (u8s a ++ [Value.int .u8 0, .int .u8 0, .int .u8 0, .int .u8 0, .int .u8 0, .int .u8 0]) = [] := List.drop_of_length_le (by simp [la])
  with_reducible refine ret_on [] b1 ?_
  simp -dsimp (discharger := omega) [g9, g12, r3, la, ta, lk, aFill]
  with_reducible refine ret_on [] (bits_ret ((hG.touch []).mono (by omega))) ?_
  simp -dsimp (discharger := omega) [la, lk, lk1, aFill, d12, -wR4_2]
  refine ⟨by omega, by omega, by omega, ?_⟩
  refine masks_r2 ha hb hk (p9 := n + 3) (p10 := n + 4) (p13 := N + 6) (p14 := N + 7) ?_ (by simp [g9]) (by simp [g10]) (by simp [g11]; rfl) (by simp [g12]; rfl) (by simp) (by simp) (by simp (discharger := omega) [e3]) (by simp (discharger := omega) [e4]) (by simp (discharger := omega) [patC]) (by simp (discharger := omega) [patC]) ?_
  · exact .of fun j hj => by simp (discharger := omega) [hG.none (i := j) (by omega)]
  intro σ2 n2 hn1 hn2 g9 g10 g11 g12 g59
  simp -dsimp (discharger := omega) [g59, -wR4_3]
  refine wx_gen (fun σ G => σ.get 9 = some (.pointer (some ⟨n + 3, 0, some 6⟩)) ∧ σ.get 10 = some (.pointer (some ⟨n + 4, 0, some 6⟩)) ∧ σ.get 11 = some (.pointer (some ⟨n + 5, 0, some 6⟩)) ∧ σ.get 12 = some (.int .i64 (k : Int)) ∧ G.get (n + 3) = some (.cells (some 23) (u8s a) 6) ∧ G.get (n + 4) = some (.cells (some 23) (u8s b) 6) ∧ G.get (n + 5) = some (.cells (some 23) (u8s c) 6) ∧ WF G n2) ⟨by simp [g9], by simp [g10], by simp [g11], by simp [g12], by simp (discharger := omega) [e3], by simp (discharger := omega) [e4], by simp (discharger := omega) [e5], ?_⟩ ?_
  · exact .of fun j hj => by simp (discharger := omega) [hG.none (i := j) (by omega)]
  clear r3 r4 r5 e3 e4 e5 hG b1 g59
  rintro σ G ⟨g9, g10, g11, g12, e3, e4, e5, hG⟩
  have r3 := AHeap.read_of e3 6 0 6
  have r4 := AHeap.read_of e4 6 0 6
  have r5 := AHeap.read_of e5 6 0 6
  have na := numL_lt48 ha
  have nb := numL_lt48 hb
  have nc := numL_lt48 hc
  have hx := xor64 (x := numL a) (y := numL b) (by omega) (by omega)
  have hxl : numL a ^^^ numL b < 281474976710656 := Nat.xor_lt_two_pow (n := 48) na nb
  have hx2 := and64 (x := numL a ^^^ numL b) (y := numL c) (by omega) (by omega)
  have nr : ∀ {m : List UInt8} {l : Nat}, m.length = 6 → n2 ≤ l → Ret EV02 16 [macV m] G l (.int .u64 ((numL m : Nat) : Int)) [] (l + 1) := fun hm hl => number_ret hm (hG.mono hl)
  simp -dsimp (discharger := omega) [g9, r3, la, ta]
  with_reducible refine ret_ret (nr ha ?_) ?_
  · omega
  simp -dsimp (discharger := omega) [g10, r4, lb, tb]
  with_reducible refine ret_ret (nr hb ?_) ?_
  · omega
  simp -dsimp (discharger := omega) [g11, r5, lc, tc, hx]
  with_reducible refine ret_ret (nr hc ?_) ?_
  · omega
  have bk : ∀ {l : Nat}, n2 ≤ l → Ret EV02 14 [.int .i64 (k : Int)] G l (macV (macB (maskN k))) [] (l + 3) := fun hl => by
    have := bits_ret (k := (k : Int)) (hG.mono hl)
    rwa [hbk] at this
  simp -dsimp (discharger := omega) [g12, hx2]
  with_reducible refine call_ret (bk ?_) ?_
  · omega
  simp -dsimp (discharger := omega) []
  with_reducible refine call_ret (nr (macB_length _) ?_) ?_
  · omega
  rw [numL_mask]
  simp -dsimp (discharger := omega) []
  refine loop_use (ones_loop hk (p9 := .pointer (some ⟨n + 3, 0, some 6⟩)) (p10 := .pointer (some ⟨n + 4, 0, some 6⟩)) (p11 := .pointer (some ⟨n + 5, 0, some 6⟩)) (v12 := .int .i64 (k : Int)) (v15 := .int .u64 (((numL a ^^^ numL b) &&& numL c : Nat) : Int)) (h0 := G) (n2 + 1 + 1 + 1 + 3 + 1) k [(9, _), (10, _), (11, _), (12, _), (15, _), (16, .int .i64 ((k - k : Nat) : Int)), (17, .int .u64 ((maskN k : Nat) : Int))] G _ ⟨rfl, rfl, Nat.le_refl _, rfl⟩) (by simp [g9, g10, g11, g12]) (.refl _) ?_
  clear g9 g10 g11 g12
  rintro e σ' h' n' ⟨rfl, rfl, rfl, g9, g10, g11, g12, g15, g16⟩
  have f0 := differ_match ha hb (c := c)
  have tw := twice (c := c) ha k
  have d12 : List.drop 12 (u8s a ++ [Value.int .u8 0, .int .u8 0, .int .u8 0, .int .u8 0, .int .u8 0, .int .u8 0]) = [] := List.drop_of_length_le (by simp [la])
  have ec : u8s a ++ u8s c = patC a c := rfl
  have k0 := nat0 ((numL a ^^^ numL b) &&& numL c)
  simp -dsimp (discharger := omega) [g9, g10, g11, r3, r4, r5, la, lb, lc, ta, tb, tc, aFill, d12, ec]
  have wf : ∀ {l : Nat}, n2 ≤ l → WF h' l := fun hl => hG.mono hl
  clear hG nr
  have mk : ∀ {x y : List UInt8} {l : Nat}, x.length = 6 → y.length = 6 → n2 ≤ l → Ret EV02 17 [macV x, macV y] h' l (macV (macB (numL x &&& numL y))) [] (l + 7) := fun hx hy hl => masked_ret hx hy (wf hl)
  have lq := leq6 (a := macB (numL (macB (numL a &&& numL c)) &&& numL (macB (maskN k)))) (b := macB (numL (macB (numL a &&& numL (macB (maskN k)))) &&& numL c)) (by simp) (by simp)
  rw [tw, beq_self_eq_true] at lq
  with_reducible refine ret_ret (patM ha hc hb ?_) ?_
  · exact wf (by omega)
  rw [f0]
  simp -dsimp (discharger := omega) [g15]
  rw [k0]
  simp -dsimp (discharger := omega) [g9, g11, g12, g16, r3, r5, la, lc, ta, tc]
  with_reducible refine ret_ret (mk ha hc ?_) ?_
  · omega
  simp -dsimp (discharger := omega) [g12]
  with_reducible refine ret_ret (bk ?_) ?_
  · omega
  simp -dsimp (discharger := omega) []
  with_reducible refine ret_ret (mk (macB_length _) (macB_length _) ?_) ?_
  · omega
  simp -dsimp (discharger := omega) [g9, g12, r3, la, ta]
  with_reducible refine ret_ret (bk ?_) ?_
  · omega
  simp -dsimp (discharger := omega) []
  with_reducible refine ret_ret (mk ha (macB_length _) ?_) ?_
  · omega
  simp -dsimp (discharger := omega) [g11, r5, lc, tc]
  with_reducible refine ret_ret (mk (macB_length _) hc ?_) ?_
  · omega
  rw [tw]
  simp -dsimp (discharger := omega) [lq]
  with_reducible refine ret_ret (tells_ret (by omega) ?_) ?_
  · exact wf (by omega)
  simp -dsimp (discharger := omega) []

end
end Go.Proofs.YtmkfjdajnamoaaaDoor.Am
