/- Contracts of the program's functions (X1). -/
import Derived.Test.YtmkfjdajnamoaaaDoorG
import Derived.Test.YtmkfjdajnamoaaaDoorL1
import Derived.Test.YtmkfjdajnamoaaaDoorLB
namespace Go.Proofs.YtmkfjdajnamoaaaDoor.Am
noncomputable section
/- CONTRACTS of package mac: numbers. -/
abbrev macV (m : List UInt8) : Value := .agg (u8s m).toArray
/-- The six bytes of a number. -/
def macB (x : Nat) : List UInt8 := (List.range 6).map fun i => UInt8.ofNat (x / 2 ^ (40 - 8 * i))
@[simp] theorem macB_length (x : Nat) : (macB x).length = 6 := by simp [macB]
theorem numL_lt48 {m : List UInt8} (hm : m.length = 6) : numL m < 281474976710656 := by
  have := numL_lt m 6 (by omega)
  rw [← hm, List.take_length, hm] at this
  exact this
def NumInv (m : List UInt8) (h0 : AHeap) (n0 : Nat) (r : Nat) (σ : Fr) (h : AHeap) (n : Nat) : Prop :=
  h = h0 ∧ n = n0 ∧ ∃ i, i + r = 6 ∧ σ = [(3, .int .u64 ((numL (m.take i) : Nat) : Int)), (6, .agg (u8s m).toArray), (7, .int .i64 (i : Int))]
def NumPost (m : List UInt8) (h0 : AHeap) (n0 : Nat) (e : Ex) (σ' : Fr) (h' : AHeap) (n' : Nat) : Prop :=
  h' = h0 ∧ n' = n0 ∧ e = .exit 0 ∧ σ'.get 3 = some (.int .u64 ((numL m : Nat) : Int))
theorem num_loop {m : List UInt8} (hm : m.length = 6) {h0 : AHeap} (n0 : Nat) :
    ∀ (r : Nat) (σ : Fr) (h : AHeap) (n : Nat), NumInv m h0 n0 r σ h n → HasCode EV02 (.loop F16L0) σ h n (NumPost m h0 n0) := by
  refine wx_inv _ fun r σ h n hI => ?_
  obtain ⟨rfl, rfl, i, hi, rfl⟩ := hI
  cases r with
  | zero =>
    obtain rfl : i = 6 := by omega
    simp -dsimp (discharger := omega) [F16L0]
    exact ⟨rfl, rfl, rfl, by rw [← hm]; simp⟩
  | succ r =>
    have hlt : i < m.length := by omega
    have hg := u8s_get? (List.getElem?_eq_getElem hlt)
    have hx := m[i].toNat_lt
    have hn := numL_lt m i (by omega)
    have hn2 : 256 ^ i ≤ 256 ^ 5 := Nat.pow_le_pow_right (by omega) (by omega)
    have hst := step64 (a := numL (m.take i)) (x := m[i].toNat) (by omega) hx
    rw [← numL_take hlt] at hst
    simp -dsimp (discharger := omega) [F16L0, hg, hst]
    exact .mk' r (by omega) [(3, .int .u64 ((numL (m.take (i + 1)) : Nat) : Int)), (6, .agg (u8s m).toArray), (7, .int .i64 ((i + 1 : Nat) : Int))] _ (by simp) (.refl _) ⟨rfl, rfl, i + 1, by omega, rfl⟩
theorem number_ret {m : List UInt8} (hm : m.length = 6) {h : AHeap} {n : Nat} (hw : WF h n) : Ret EV02 16 [macV m] h n (.int .u64 ((numL m : Nat) : Int)) [] (n + 1) := by
  refine rsx16 (by simp) (by simp) ?_
  have hl : (u8s m).length = 6 := by simp [hm]
  have ht : (u8s m).take 6 = u8s m := List.take_of_length_le (by omega)
  simp -dsimp (discharger := omega) [B16, macV, AHeap.read, hl, ht]
  refine loop_use (num_loop hm (h0 := h) (n + 1) 6 [(3, .int .u64 ((numL (m.take 0) : Nat) : Int)), (6, .agg (u8s m).toArray), (7, .int .i64 ((0 : Nat) : Int))] h (n + 1) ⟨rfl, rfl, 0, rfl, rfl⟩) (by simp [numL]) (.ofE (.right (.inr (hw n (by omega))) (.refl _ _))) ?_
  rintro e σ' h' n' ⟨rfl, rfl, rfl, e3⟩
  simp -dsimp (discharger := omega) [e3]
  exact .refl _
def ofC (x i : Nat) : List UInt8 := (macB x).take i ++ List.replicate (6 - i) 0
theorem ofC_length {x i : Nat} (hi : i ≤ 6) : (ofC x i).length = 6 := by simp [ofC]; omega
theorem ofC_set {x i : Nat} (hi : i < 6) : (ofC x i).set i (UInt8.ofNat (x / 2 ^ (40 - 8 * i))) = ofC x (i + 1) := by
  rcases (by omega : i = 0 ∨ i = 1 ∨ i = 2 ∨ i = 3 ∨ i = 4 ∨ i = 5) with rfl | rfl | rfl | rfl | rfl | rfl <;> rfl
theorem u8s_set (l : List UInt8) (i : Nat) (b : UInt8) : (u8s l).set i (.int .u8 (b.toNat : Int)) = u8s (l.set i b) := by simp [u8s, List.map_set]
def ofBlk (x i : Nat) : Blk := .cells (some 23) (u8s (ofC x i)) 6
def zeroBlk : Blk := .cells (some 23) (u8s [0, 0, 0, 0, 0, 0]) 6
def OfInv (x p q : Nat) (h0 : AHeap) (n0 : Nat) (r : Nat) (σ : Fr) (h : AHeap) (n : Nat) : Prop :=
  n = n0 ∧ HSub h0 h ∧ h.get q = some zeroBlk ∧ ∃ i, i + r = 6 ∧ h.get p = some (ofBlk x i) ∧ σ = [(0, .int .u64 (x : Int)), (2, .pointer (some ⟨q, 0, some 6⟩)), (3, .pointer (some ⟨p, 0, some 6⟩)), (5, .int .i64 (i : Int))]
def OfPost (x p q : Nat) (h0 : AHeap) (n0 : Nat) (e : Ex) (σ' : Fr) (h' : AHeap) (n' : Nat) : Prop :=
  n' = n0 ∧ e = .exit 0 ∧ HSub h0 h' ∧ h'.get p = some (ofBlk x 6) ∧ h'.get q = some zeroBlk ∧ σ'.get 2 = some (.pointer (some ⟨q, 0, some 6⟩)) ∧ σ'.get 3 = some (.pointer (some ⟨p, 0, some 6⟩))
theorem of_loop {x p q : Nat} {h0 : AHeap} (h0p : h0.get p = none) (hpq : ¬ p = q) (_hx : x < 18446744073709551616) (n0 : Nat) :
    ∀ (r : Nat) (σ : Fr) (h : AHeap) (n : Nat), OfInv x p q h0 n0 r σ h n → HasCode EV02 (.loop F22L0) σ h n (OfPost x p q h0 n0) := by
  refine wx_inv _ fun r σ h n hI => ?_
  obtain ⟨rfl, hs, hq, i, hi, hp, rfl⟩ := hI
  cases r with
  | zero =>
    obtain rfl : i = 6 := by omega
    simp -dsimp (discharger := omega) [F22L0]
    exact ⟨rfl, rfl, hs, hp, hq, by simp, by simp⟩
  | succ r =>
    have hlt : i < 6 := by omega
    have hsh : shrI .u64 (x : Int) (40 - 8 * (i : Int)) = ((x / 2 ^ (40 - 8 * i) : Nat) : Int) := by
      have := shrI_nat .u64 x (40 - 8 * i)
      rw [show Min.min (40 - 8 * i) IntKind.u64.bits = 40 - 8 * i by show Min.min (40 - 8 * i) 64 = _; omega] at this
      rw [← this]; congr 1; omega
    have hcv : IntKind.u8.wrap ((x : Int) / 2 ^ (40 - 8 * i)) = ((UInt8.ofNat (x / 2 ^ (40 - 8 * i))).toNat : Int) := by
      have := wrap_u8_mod (x / 2 ^ (40 - 8 * i))
      simp only [Int.natCast_ediv, Int.natCast_pow] at this
      exact this
    have hl : (u8s (ofC x i)).length = 6 := by rw [u8s_length, ofC_length (by omega)]
    have hset : List.take i (u8s (ofC x i)) ++ Value.int .u8 ((UInt8.ofNat (x / 2 ^ (40 - 8 * i))).toNat : Int) :: List.drop (i + 1) (u8s (ofC x i)) = u8s (ofC x (i + 1)) := by
      rw [← ofC_set hlt, ← u8s_set, List.set_eq_take_append_cons_drop, if_pos (by omega)]
    simp -dsimp (discharger := omega) [F22L0, hsh, hcv, hp, ofBlk, ofC_length, -UInt8.toNat_ofNat']
    rw [hset]
    exact Again.mk' r (by omega) [(0, .int .u64 (x : Int)), (2, .pointer (some ⟨q, 0, some 6⟩)), (3, .pointer (some ⟨p, 0, some 6⟩)), (5, .int .i64 ((i + 1 : Nat) : Int))] _ (by simp) (.refl _) ⟨rfl, .ofE (.right (.inr h0p) fun i b _ hb => hs i b hb), by rw [AHeap.get_put_ne _ _ hpq]; exact hq, i + 1, by omega, AHeap.get_put_same _ _ _, rfl⟩
theorem of_ret {x : Nat} (hx : x < 18446744073709551616) {h : AHeap} {n : Nat} (hw : WF h n) : Ret EV02 22 [.int .u64 (x : Int)] h n (macV (macB x)) [] (n + 2) := by
  refine rsx22 (by simp) (by simp) ?_
  simp -dsimp (discharger := omega) [B22]
  refine loop_use (of_loop (x := x) (p := n + 1) (q := n) (h0 := h) (hw _ (by omega)) (by omega) hx (n + 1 + 1) 6 [(0, .int .u64 (x : Int)), (2, .pointer (some ⟨n, 0, some 6⟩)), (3, .pointer (some ⟨n + 1, 0, some 6⟩)), (5, .int .i64 ((0 : Nat) : Int))] _ _ ⟨rfl, ?_, ?_, 0, rfl, ?_, rfl⟩) (by simp) (.refl _) ?_
  · exact ((HSub.refl h).new hw (by omega) _).new hw (by omega) _
  · simp [zeroBlk, u8s]
  · simp [ofBlk, u8s, ofC]
  rintro e σ' h' n' ⟨rfl, rfl, hs, hp, hq, e2, e3⟩
  have hl : (u8s (ofC x 6)).length = 6 := by rw [u8s_length, ofC_length (by omega)]
  have ht : (u8s (ofC x 6)).take 6 = u8s (ofC x 6) := List.take_of_length_le (by omega)
  have hz : (u8s [0, 0, 0, 0, 0, 0]).length = 6 := rfl
  have hb : ofC x 6 = macB x := by simp [ofC, List.take_of_length_le]
  simp -dsimp (discharger := omega) [e2, e3, hp, hq, ofBlk, zeroBlk, AHeap.read, hl, ht, hz]
  exact ⟨by rw [hb], hs.new hw (by omega) _⟩
end
end Go.Proofs.YtmkfjdajnamoaaaDoor.Am
namespace Go.Proofs.YtmkfjdajnamoaaaDoor.Am
noncomputable section
/- CONTRACTS of package mac: masks. -/
def maskN (j : Nat) : Nat := 281474976710656 - 2 ^ (48 - j)
theorem mask_eq : ∀ j : Fin 49, andNotI .u64 281474976710655 (shrI .u64 281474976710655 (j.1 : Int)) = ((maskN j.1 : Nat) : Int) := by decide +kernel
def bitsI (k : Int) : Nat := (Max.max 0 (Min.min k 48)).toNat
theorem bitsI_le (k : Int) : bitsI k ≤ 48 := by unfold bitsI; omega
theorem maskN_lt (j : Nat) : maskN j < 281474976710656 := by
  have : 0 < 2 ^ (48 - j) := Nat.pos_of_ne_zero (by simp)
  unfold maskN; omega
theorem u8s6 {l : List UInt8} (h : l.length = 6) : (u8s l).length = 6 := by simp [h]
theorem bits_ret {k : Int} {h : AHeap} {n : Nat} (hw : WF h n) : Ret EV02 14 [.int .i64 k] h n (macV (macB (maskN (bitsI k)))) [] (n + 3) := by
  refine rsx14 (by simp) (by simp) ?_
  have hm := mask_eq ⟨bitsI k, by have := bitsI_le k; omega⟩
  have hk : (if 0 < if 48 < k then 48 else k then if 48 < k then 48 else k else 0) = ((bitsI k : Nat) : Int) := by
    unfold bitsI
    split <;> split <;> omega
  have hlt := maskN_lt (bitsI k)
  simp -dsimp (discharger := omega) [B14, hk, hm]
  with_reducible refine call_ret (of_ret (by omega) (hw.put _ (by omega) (by omega))) ?_
  have lm := u8s6 (macB_length (maskN (bitsI k)))
  simp -dsimp (discharger := omega) [macV, lm]
  refine ⟨by rw [List.take_of_length_le (by omega)], ?_⟩
  exact ((HSub.refl h).new hw (Nat.le_refl n) _).new hw (Nat.le_refl n) _
theorem masked_ret {a b : List UInt8} (ha : a.length = 6) (hb : b.length = 6) {h : AHeap} {n : Nat} (hw : WF h n) : Ret EV02 17 [macV a, macV b] h n (macV (macB (numL a &&& numL b))) [] (n + 7) := by
  refine rsx17 (by simp) (by simp) ?_
  have la := u8s6 ha
  have lb := u8s6 hb
  have ta : (u8s a).take 6 = u8s a := List.take_of_length_le (by omega)
  have tb : (u8s b).take 6 = u8s b := List.take_of_length_le (by omega)
  have na := numL_lt48 ha
  have nb := numL_lt48 hb
  have nab : numL a &&& numL b ≤ numL a := Nat.and_le_left
  have hand := and64 (x := numL a) (y := numL b) (by omega) (by omega)
  simp -dsimp (discharger := omega) [B17, macV, la, lb, ta]
  with_reducible refine ret_ret (number_ret ha ?_) ?_
  · exact .of fun j hj => by simp (discharger := omega) [hw.none (i := j) (by omega)]
  simp -dsimp (discharger := omega) [lb, tb]
  with_reducible refine ret_ret (number_ret hb ?_) ?_
  · exact .of fun j hj => by simp (discharger := omega) [hw.none (i := j) (by omega)]
  simp -dsimp (discharger := omega) [hand]
  with_reducible refine ret_ret (of_ret (by omega) ?_) ?_
  · exact .of fun j hj => by simp (discharger := omega) [hw.none (i := j) (by omega)]
  have lm := u8s6 (macB_length (numL a &&& numL b))
  simp -dsimp (discharger := omega) [macV, lm]
  refine ⟨by rw [List.take_of_length_le (by omega)], ?_⟩
  exact (((((HSub.refl h).new hw (by omega) _).new hw (by omega) _).new hw (by omega) _)).new hw (by omega) _
theorem leq : ∀ (ls : List Leaf) (a b : List UInt8), (∀ l, l ∈ ls → l = .int) → a.length = ls.length → b.length = ls.length → leavesEq ls (u8s a) (u8s b) = some (a == b)
  | [], [], [], _, _, _ => rfl
  | l :: ls, x :: a, y :: b, h, ha, hb => by
    have hl := h l (by simp)
    subst hl
    have ih := leq ls a b (fun l hl => h l (by simp [hl])) (by simpa using ha) (by simpa using hb)
    rw [u8s_cons, u8s_cons]
    have e : (((x.toNat : Nat) : Int) == ((y.toNat : Nat) : Int)) = (x == y) := by
      rw [natEq]
      by_cases hxy : x = y
      · subst hxy; simp
      · have : x.toNat ≠ y.toNat := fun z => hxy (UInt8.toNat_inj.1 z)
        rw [beq_eq_false_iff_ne.2 this, beq_eq_false_iff_ne.2 hxy]
    simp only [leavesEq, leafEq, ih, if_true, e, List.cons_beq_cons]
theorem leq6 {a b : List UInt8} (ha : a.length = 6) (hb : b.length = 6) : leavesEq [.int, .int, .int, .int, .int, .int] (u8s a) (u8s b) = some (a == b) := leq _ a b (by simp) ha hb
theorem isGroup_cons {a : UInt8} {l : List UInt8} (ha : l.length = 5) {h : AHeap} {n : Nat} (hw : WF h n) : Ret EV02 20 [macV (a :: l)] h n (.bool (a.toNat % 2 == 1)) [] (n + 1) := by
  refine rsx20 (by simp) (by simp) ?_
  simp -dsimp (discharger := omega) [B20, macV, u8s_cons, ha]
  refine ⟨?_, (HSub.refl h).new hw (Nat.le_refl n) _⟩
  have hx := a.toNat_lt
  rw [show (1 : Int) = ((1 : Nat) : Int) from rfl, andN (k := .u8) rfl hx (by decide), natEq, Nat.and_one_is_mod]
theorem isGroup_ret {m : List UInt8} (hm : m.length = 6) {h : AHeap} {n : Nat} (hw : WF h n) : Ret EV02 20 [macV m] h n (.bool ((m.headD 0).toNat % 2 == 1)) [] (n + 1) := by
  cases m with
  | nil => simp at hm
  | cons a l => exact isGroup_cons (by simpa using hm) hw
theorem all_ret {h : AHeap} {n : Nat} (hw : WF h n) : Ret EV02 22 [.int .u64 281474976710655] h n (.agg (u8s [255, 255, 255, 255, 255, 255]).toArray) [] (n + 2) := of_ret (x := 281474976710655) (by decide) hw
theorem bits44_ret {h : AHeap} {n : Nat} (hw : WF h n) : Ret EV02 14 [.int .i64 44] h n (macV (macB (maskN 44))) [] (n + 3) := bits_ret hw
theorem mask44 : numL (macB (maskN 44)) = maskN 44 := by decide +kernel
def kindI (m : List UInt8) : Nat := if m = [0, 0, 0, 0, 0, 0] then 1 else if m = [255, 255, 255, 255, 255, 255] then 2 else if macB (numL m &&& maskN 44) = [1, 128, 194, 0, 0, 0] then 3 else if (m.headD 0).toNat % 2 = 1 then 4 else 5
theorem kind_ret {m : List UInt8} (hm : m.length = 6) {h : AHeap} {n : Nat} (hw : WF h n) : Ret EV02 18 [macV m] h n (.int .i64 ((kindI m : Nat) : Int)) [] (n + 20) := by
  refine rsx18 (by simp) (by simp) ?_
  have lm := u8s6 hm
  have tm : (u8s m).take 6 = u8s m := List.take_of_length_le (by omega)
  have e0 : leavesEq [.int, .int, .int, .int, .int, .int] (u8s m) [.int .u8 0, .int .u8 0, .int .u8 0, .int .u8 0, .int .u8 0, .int .u8 0] = some (m == [0, 0, 0, 0, 0, 0]) := leq6 (b := [0, 0, 0, 0, 0, 0]) hm rfl
  have e1 : leavesEq [.int, .int, .int, .int, .int, .int] (u8s m) (u8s [255, 255, 255, 255, 255, 255]) = some (m == [255, 255, 255, 255, 255, 255]) := leq6 (b := [255, 255, 255, 255, 255, 255]) hm rfl
  have e2 : leavesEq [.int, .int, .int, .int, .int, .int] (u8s (macB (numL m &&& maskN 44))) [.int .u8 1, .int .u8 128, .int .u8 194, .int .u8 0, .int .u8 0, .int .u8 0] = some (macB (numL m &&& maskN 44) == [1, 128, 194, 0, 0, 0]) := leq6 (b := [1, 128, 194, 0, 0, 0]) (macB_length _) rfl
  have hw1 : WF (h.put n (.cells (some 23) (u8s m) 6)) (n + 1) := hw.put _ (by omega) (by omega)
  have hs1 : HSub h (h.put n (.cells (some 23) (u8s m) 6)) := (HSub.refl h).new hw (Nat.le_refl n) _
  simp -dsimp (discharger := omega) [B18, macV, lm, tm, e0, aFill]
  unfold kindI
  refine Test.split (fun hc => ?_) (fun hc => ?_)
  · rw [if_pos (by simpa using hc)]
    simp -dsimp (discharger := omega) []
    exact hs1
  rw [if_neg (by simpa using hc)]
  simp -dsimp (discharger := omega) [lm, tm]
  with_reducible refine ret_ret (all_ret ?_) ?_
  · exact .of fun j hj => by simp (discharger := omega) [hw.none (i := j) (by omega)]
  simp -dsimp (discharger := omega) [e1]
  refine Test.split (fun hc => ?_) (fun hc => ?_)
  · rw [if_pos (by simpa using hc)]
    simp -dsimp (discharger := omega) []
    exact hs1
  rw [if_neg (by simpa using hc)]
  simp -dsimp (discharger := omega) [lm, tm]
  with_reducible refine ret_ret (bits44_ret ?_) ?_
  · exact .of fun j hj => by simp (discharger := omega) [hw.none (i := j) (by omega)]
  simp -dsimp (discharger := omega) []
  have r44' := masked_ret (a := m) (b := macB (maskN 44)) hm (macB_length _) (h := h.put n (.cells (some 23) (u8s m) 6)) (n := n + 1 + 2 + 3) (hw1.mono (by omega))
  rw [mask44] at r44'
  with_reducible refine ret_ret r44' ?_
  simp -dsimp (discharger := omega) [e2, aFill]
  refine Test.split (fun hc => ?_) (fun hc => ?_)
  · rw [if_pos (by simpa using hc)]
    simp -dsimp (discharger := omega) []
    exact hs1
  rw [if_neg (by simpa using hc)]
  simp -dsimp (discharger := omega) [lm, tm]
  with_reducible refine call_ret (isGroup_ret hm ?_) ?_
  · exact .of fun j hj => by simp (discharger := omega) [hw.none (i := j) (by omega)]
  simp -dsimp (discharger := omega) []
  refine Test.split (fun hc => ?_) (fun hc => ?_)
  · rw [if_pos (by simpa using hc)]
    simp -dsimp (discharger := omega) []
    exact hs1
  rw [if_neg (by simpa using hc)]
  simp -dsimp (discharger := omega) []
  exact hs1
def matchB (a b m : List UInt8) : Bool := macB (numL m &&& numL b) == macB (numL a &&& numL b)
theorem matches_ret {a b m : List UInt8} (ha : a.length = 6) (hb : b.length = 6) (hm : m.length = 6) {h : AHeap} {n : Nat} (hw : WF h n) : Ret EV02 15 [.agg (u8s a ++ u8s b).toArray, macV m] h n (.bool (matchB a b m)) [] (n + 16) := by
  refine rsx15 (by simp) (by simp) ?_
  have la := u8s6 ha
  have lb := u8s6 hb
  have lm := u8s6 hm
  have tm : (u8s m).take 6 = u8s m := List.take_of_length_le (by omega)
  have ta : (u8s a ++ u8s b).take 6 = u8s a := List.take_left' (by omega)
  have tb : (u8s b).take 6 = u8s b := List.take_of_length_le (by omega)
  have da : (u8s a ++ u8s b).drop 6 = u8s b := List.drop_left' (by omega)
  have e := leq6 (a := macB (numL m &&& numL b)) (b := macB (numL a &&& numL b)) (by simp) (by simp)
  simp -dsimp (discharger := omega) [B15, macV, la, lb, lm, tm, tb, da]
  with_reducible refine ret_ret (masked_ret hm hb ?_) ?_
  · exact .of fun j hj => by simp (discharger := omega) [hw.none (i := j) (by omega)]
  simp -dsimp (discharger := omega) [la, lb, ta, tb, da]
  with_reducible refine ret_ret (masked_ret ha hb ?_) ?_
  · exact .of fun j hj => by simp (discharger := omega) [hw.none (i := j) (by omega)]
  simp -dsimp (discharger := omega) [e]
  exact ⟨rfl, ((HSub.refl h).new hw (by omega) _).new hw (by omega) _⟩
theorem groupK_ret {k : Nat} (hk : k = 1 ∨ k = 2 ∨ k = 3 ∨ k = 4 ∨ k = 5) {h : AHeap} {n : Nat} : Ret EV02 19 [.int .i64 (k : Int)] h n (.bool (k == 2 || k == 3 || k == 4)) [] n := by
  refine rsx19 (by simp) (by simp) ?_
  rcases hk with rfl | rfl | rfl | rfl | rfl
  all_goals simp -dsimp (discharger := omega) [B19]
  all_goals exact .refl _
end
end Go.Proofs.YtmkfjdajnamoaaaDoor.Am
namespace Go.Proofs.YtmkfjdajnamoaaaDoor.Am
noncomputable section
/- PLAIN LAWS: addresses as numbers. -/
theorem six {m : List UInt8} (hm : m.length = 6) : ∃ a b c d e f, m = [a, b, c, d, e, f] := by
  match m, hm with
  | [a, b, c, d, e, f], _ => exact ⟨a, b, c, d, e, f, rfl⟩
theorem numL6 (a b c d e f : UInt8) : numL [a, b, c, d, e, f] = 256 * (256 * (256 * (256 * (256 * a.toNat + b.toNat) + c.toNat) + d.toNat) + e.toNat) + f.toNat := by
  show 256 * (256 * (256 * (256 * (256 * (256 * 0 + a.toNat) + b.toNat) + c.toNat) + d.toNat) + e.toNat) + f.toNat = _
  omega
theorem macB6 (x : Nat) : macB x = [UInt8.ofNat (x / 1099511627776), UInt8.ofNat (x / 4294967296), UInt8.ofNat (x / 16777216), UInt8.ofNat (x / 65536), UInt8.ofNat (x / 256), UInt8.ofNat x] := by
  show [UInt8.ofNat (x / 1099511627776), UInt8.ofNat (x / 4294967296), UInt8.ofNat (x / 16777216), UInt8.ofNat (x / 65536), UInt8.ofNat (x / 256), UInt8.ofNat (x / 1)] = _
  rw [Nat.div_one]
theorem u8_of {x : Nat} {a : UInt8} (h : x % 256 = a.toNat) : UInt8.ofNat x = a := by
  apply UInt8.toNat_inj.1
  rw [UInt8.toNat_ofNat']; exact h
theorem macB_numL {m : List UInt8} (hm : m.length = 6) : macB (numL m) = m := by
  obtain ⟨a, b, c, d, e, f, rfl⟩ := six hm
  have := a.toNat_lt; have := b.toNat_lt; have := c.toNat_lt; have := d.toNat_lt; have := e.toNat_lt; have := f.toNat_lt
  rw [numL6, macB6]
  congr 1
  · exact u8_of (by omega)
  congr 1
  · exact u8_of (by omega)
  congr 1
  · exact u8_of (by omega)
  congr 1
  · exact u8_of (by omega)
  congr 1
  · exact u8_of (by omega)
  congr 1
  exact u8_of (by omega)
theorem numL_macB (x : Nat) : numL (macB x) = x % 281474976710656 := by
  rw [macB6, numL6]
  simp only [UInt8.toNat_ofNat']
  omega
theorem numL_inj {a b : List UInt8} (ha : a.length = 6) (hb : b.length = 6) : a = b ↔ numL a = numL b :=
  ⟨fun h => by rw [h], fun h => by rw [← macB_numL ha, ← macB_numL hb, h]⟩
theorem macB_inj {x y : Nat} (hx : x < 281474976710656) (hy : y < 281474976710656) : macB x = macB y ↔ x = y :=
  ⟨fun h => by have := numL_macB x; rw [h, numL_macB, Nat.mod_eq_of_lt hx, Nat.mod_eq_of_lt hy] at this; exact this.symm, fun h => by rw [h]⟩
theorem and_mask {x j : Nat} (hx : x < 281474976710656) (hj : j ≤ 48) : x &&& maskN j = 2 ^ (48 - j) * (x / 2 ^ (48 - j)) := by
  have e : maskN j = 2 ^ (48 - j) * (2 ^ j - 1) := by
    unfold maskN
    rw [Nat.mul_sub, ← Nat.pow_add, show 48 - j + j = 48 by omega]
    omega
  have hp : 0 < 2 ^ (48 - j) := Nat.pos_of_ne_zero (by simp)
  have h1 : (x &&& maskN j) / 2 ^ (48 - j) = x / 2 ^ (48 - j) := by
    rw [Nat.and_div_two_pow, e, Nat.mul_div_cancel_left _ hp, Nat.and_two_pow_sub_one_eq_mod, Nat.mod_eq_of_lt]
    rw [Nat.div_lt_iff_lt_mul hp, ← Nat.pow_add, show j + (48 - j) = 48 by omega]
    exact hx
  have h2 : (x &&& maskN j) % 2 ^ (48 - j) = 0 := by
    rw [Nat.and_mod_two_pow, e, Nat.mul_mod_right, Nat.and_zero]
  have h3 := Nat.div_add_mod (x &&& maskN j) (2 ^ (48 - j))
  rw [h1, h2] at h3
  omega
theorem head_num {m : List UInt8} (hm : m.length = 6) : (m.headD 0).toNat = numL m / 1099511627776 := by
  obtain ⟨a, b, c, d, e, f, rfl⟩ := six hm
  have := a.toNat_lt; have := b.toNat_lt; have := c.toNat_lt; have := d.toNat_lt; have := e.toNat_lt; have := f.toNat_lt
  rw [numL6]
  show a.toNat = _
  omega
/-- The kind by the number. -/
def kindN (x : Nat) : Nat := if x = 0 then 1 else if x = 281474976710655 then 2 else if x / 16 = 103282638848 then 3 else if (x / 1099511627776) % 2 = 1 then 4 else 5
theorem kind_num {m : List UInt8} (hm : m.length = 6) : kindI m = kindN (numL m) := by
  have hlt := numL_lt48 hm
  have e0 : (m = [0, 0, 0, 0, 0, 0]) = (numL m = 0) := propext (numL_inj (b := [0, 0, 0, 0, 0, 0]) hm rfl)
  have e1 : (m = [255, 255, 255, 255, 255, 255]) = (numL m = 281474976710655) := propext (numL_inj (b := [255, 255, 255, 255, 255, 255]) hm rfl)
  have e2 : (macB (numL m &&& maskN 44) = [1, 128, 194, 0, 0, 0]) = (numL m / 16 = 103282638848) := by
    have : ([1, 128, 194, 0, 0, 0] : List UInt8) = macB 1652522221568 := by decide +kernel
    rw [this, and_mask hlt (by decide), macB_inj (by omega) (by decide)]
    apply propext; omega
  unfold kindI kindN
  simp only [e0, e1, e2, head_num hm]
theorem kindN_rng (x : Nat) : kindN x = 1 ∨ kindN x = 2 ∨ kindN x = 3 ∨ kindN x = 4 ∨ kindN x = 5 := by
  unfold kindN; repeat' split
  all_goals simp
def groupK (k : Nat) : Bool := k == 2 || k == 3 || k == 4
theorem kind_group {x : Nat} (_hx : x < 281474976710656) : groupK (kindN x) = ((x / 1099511627776) % 2 == 1) := by
  unfold kindN
  repeat' split
  all_goals simp [groupK]
  all_goals omega
theorem kind_zero (x : Nat) : (kindN x == 1) = (x == 0) := by
  unfold kindN
  repeat' split
  all_goals simp [*]
theorem kind_all {x : Nat} : (kindN x == 2) = (x == 281474976710655) := by
  unfold kindN
  repeat' split
  all_goals simp [*]
theorem kind_res {x : Nat} : (kindN x == 3) = (x / 16 == 103282638848) := by
  unfold kindN
  repeat' split
  all_goals simp [*]
end
end Go.Proofs.YtmkfjdajnamoaaaDoor.Am
namespace Go.Proofs.YtmkfjdajnamoaaaDoor.Am
noncomputable section
/- CONTRACTS: texts of addresses. -/
def hexL : List UInt8 := [48, 49, 50, 51, 52, 53, 54, 55, 56, 57, 97, 98, 99, 100, 101, 102]
def hexD (x : Nat) : UInt8 := hexL.getD x 0
theorem hex_get {x : Nat} (hx : x < 16) : ([48, 49, 50, 51, 52, 53, 54, 55, 56, 57, 97, 98, 99, 100, 101, 102] : List UInt8)[x]? = some (hexD x) := by
  have : x < hexL.length := hx
  show hexL[x]? = some (hexL.getD x 0)
  rw [List.getD_eq_getElem?_getD, List.getElem?_eq_getElem this]; rfl
def hex2 (c : UInt8) : List UInt8 := [hexD (c.toNat / 16), hexD (c.toNat % 16)]
def textM (m : List UInt8) : List UInt8 := (m.flatMap fun c => 58 :: hex2 c).drop 1
theorem textM_zero (m : List UInt8) : textM (m.take 0) = [] := rfl
theorem textM_one {m : List UInt8} (h : 0 < m.length) : textM (m.take 1) = hex2 m[0] := by
  cases m with
  | nil => simp at h
  | cons a l => simp [textM, hex2]
theorem textM_succ {m : List UInt8} {i : Nat} (h0 : 0 < i) (hi : i < m.length) : textM (m.take (i + 1)) = textM (m.take i) ++ 58 :: hex2 m[i] := by
  rw [List.take_succ_eq_append_getElem hi, textM, textM, List.flatMap_append]
  have : 0 < (m.take i).length := by simp; omega
  rw [List.drop_append_of_le_length]
  · simp
  · cases hm : m.take i with
    | nil => rw [hm] at this; simp at this
    | cons a l => simp
theorem textM_len (m : List UInt8) : (textM m).length ≤ 3 * m.length := by
  have : (m.flatMap fun c => 58 :: hex2 c).length = 3 * m.length := by
    induction m with
    | nil => rfl
    | cons a l ih => rw [List.flatMap_cons, List.length_append, ih]; simp [hex2]; omega
  simp [textM, this]
def TextInv (m : List UInt8) (h0 : AHeap) (n0 p : Nat) (r : Nat) (σ : Fr) (h : AHeap) (n : Nat) : Prop :=
  ∃ i, i + r = 6 ∧ n ≤ n0 + 2 + 6 * i ∧ Bld h0 n0 p (textM (m.take i)) h n ∧ σ = [(3, .pointer (some ⟨p, 0, some 2⟩)), (6, .agg (u8s m).toArray), (7, .int .i64 (i : Int))]
def TextPost (m : List UInt8) (h0 : AHeap) (n0 p : Nat) (e : Ex) (σ' : Fr) (h' : AHeap) (n' : Nat) : Prop :=
  e = .exit 0 ∧ n' ≤ n0 + 38 ∧ Bld h0 n0 p (textM m) h' n' ∧ σ'.get 3 = some (.pointer (some ⟨p, 0, some 2⟩))
theorem text_loop {m : List UInt8} (hm : m.length = 6) {h0 : AHeap} {n0 : Nat} (hw0 : WF h0 n0) {p : Nat} :
    ∀ (r : Nat) (σ : Fr) (h : AHeap) (n : Nat), TextInv m h0 n0 p r σ h n → HasCode EV02 (.loop F23L0) σ h n (TextPost m h0 n0 p) := by
  refine wx_inv _ fun r σ h n hI => ?_
  obtain ⟨i, hi, hn, hB, rfl⟩ := hI
  cases r with
  | zero =>
    obtain rfl : i = 6 := by omega
    simp -dsimp (discharger := omega) [F23L0]
    rw [← hm, List.take_length] at hB
    exact ⟨rfl, by omega, hB, by simp⟩
  | succ r =>
    have hlt : i < m.length := by omega
    have hg := u8s_get? (List.getElem?_eq_getElem hlt)
    have hx := m[i].toNat_lt
    have hl := textM_len (m.take i)
    rw [List.length_take] at hl
    have hsh : shrI .u8 (m[i].toNat : Int) 4 = ((m[i].toNat / 16 : Nat) : Int) := shrI_nat .u8 m[i].toNat 4
    have han : andI .u8 (m[i].toNat : Int) 15 = ((m[i].toNat % 16 : Nat) : Int) := by
      have := andN (k := .u8) rfl (x := m[i].toNat) (y := 15) hx (by decide)
      rw [show (15 : Nat) = 2 ^ 4 - 1 from rfl, Nat.and_two_pow_sub_one_eq_mod] at this
      exact this
    have h1 : ([48, 49, 50, 51, 52, 53, 54, 55, 56, 57, 97, 98, 99, 100, 101, 102] : List UInt8)[((m[i].toNat : Int) / 16).toNat]? = some (hexD (m[i].toNat / 16)) := hex_get (x := m[i].toNat / 16) (by omega)
    have h2' : ([48, 49, 50, 51, 52, 53, 54, 55, 56, 57, 97, 98, 99, 100, 101, 102] : List UInt8)[((m[i].toNat : Int) % 16).toNat]? = some (hexD (m[i].toNat % 16)) := hex_get (x := m[i].toNat % 16) (by omega)
    have hend : ∀ {σ : Fr} {h3 : AHeap} {n3 : Nat} {tk : Tok (TextInv m h0 n0 p)}, n3 ≤ n0 + 2 + 6 * (i + 1) → Bld h0 n0 p (textM (m.take (i + 1))) h3 n3 → FSubL [(3, .pointer (some ⟨p, 0, some 2⟩)), (6, .agg (u8s m).toArray), (7, .int .i64 ((i + 1 : Nat) : Int))] σ → Again (TextInv m h0 n0 p) (r + 1) σ h3 n3 tk := fun hn hB hs =>
      .mk' r (by omega) _ _ hs (.refl _) ⟨i + 1, by omega, hn, hB, rfl⟩
    simp -dsimp (discharger := omega) [F23L0, hg]
    refine Test.split (fun hc => ?_) (fun hc => ?_)
    · have hi0 : 0 < i := by simpa using hc
      simp -dsimp (discharger := omega) []
      refine writeByte_call hw0 hB (by omega) 58 fun g1 n1 hn1 hn2 hB => ?_
      simp -dsimp (discharger := omega) [hsh, h1]
      refine writeByte_call hw0 hB (by first | omega | (simp only [List.length_append, List.length_singleton]; omega)) _ fun g2 n2 hn3 hn4 hB => ?_
      simp -dsimp (discharger := omega) [han, h2']
      refine writeByte_call hw0 hB (by first | omega | (simp only [List.length_append, List.length_singleton]; omega)) _ fun g3 n3 hn5 hn6 hB => ?_
      simp -dsimp (discharger := omega) []
      refine hend (by omega) ?_ (by simp)
      rw [textM_succ hi0 hlt]
      simpa [hex2] using hB
    · have hi0 : i = 0 := by simpa using hc
      subst hi0
      simp -dsimp (discharger := omega) [hsh, h1]
      refine writeByte_call hw0 hB (by first | omega | (simp only [List.length_append, List.length_singleton]; omega)) _ fun g2 n2 hn3 hn4 hB => ?_
      simp -dsimp (discharger := omega) [han, h2']
      refine writeByte_call hw0 hB (by first | omega | (simp only [List.length_append, List.length_singleton]; omega)) _ fun g3 n3 hn5 hn6 hB => ?_
      simp -dsimp (discharger := omega) []
      refine hend (by omega) ?_ (by simp)
      rw [textM_one hlt]
      simpa [hex2, textM] using hB
theorem text_ret {m : List UInt8} (hm : m.length = 6) {h : AHeap} {n : Nat} (hw : WF h n) : Ret EV02 23 [macV m] h n (.string ⟨(textM m).toArray⟩) [] (n + 38) := by
  refine rsx23 (by simp) (by simp) ?_
  have lm := u8s6 hm
  have tm : (u8s m).take 6 = u8s m := List.take_of_length_le (by omega)
  simp -dsimp (discharger := omega) [B23, lm, tm]
  refine loop_use (text_loop hm hw (p := n + 1) 6 [(3, .pointer (some ⟨n + 1, 0, some 2⟩)), (6, .agg (u8s m).toArray), (7, .int .i64 ((0 : Nat) : Int))] _ (n + 1 + 1) ⟨0, rfl, by omega, ⟨((HSub.refl h).new hw (Nat.le_refl n) _).new hw (by omega) _, .of fun j hj => by simp (discharger := omega) [hw.none (i := j) (by omega)], by omega, by omega, .inl ⟨textM_zero m, AHeap.get_put_same _ _ _⟩⟩, rfl⟩) (by simp) (.refl _) ?_
  rintro e σ' h' n' ⟨rfl, hn', ⟨hs, hw', hp0, hpn, hB⟩, e3⟩
  have hne : textM m ≠ [] := by
    cases m with
    | nil => simp at hm
    | cons a l => simp [textM, hex2]
  have hlen := textM_len m
  rcases hB with ⟨h0, _⟩ | ⟨q, k, hq0, hqp, hqn, hk, hp, hq⟩
  · exact absurd h0 hne
  simp -dsimp (discharger := omega) [e3]
  with_reducible refine call_ret (string_ret hp hq hk hne (by omega) hw') ?_
  simp -dsimp (discharger := omega) []
  exact ⟨hs.new hw hq0 _, hn'⟩
end
end Go.Proofs.YtmkfjdajnamoaaaDoor.Am
namespace Go.Proofs.YtmkfjdajnamoaaaDoor.Am
noncomputable section
/- PLAIN LAWS: masks. -/
theorem match_eq {a b m : List UInt8} (ha : a.length = 6) (hm : m.length = 6) : matchB a b m = (numL m &&& numL b == numL a &&& numL b) := by
  have h1 := numL_lt48 ha
  have h2 := numL_lt48 hm
  have l1 : numL m &&& numL b < 281474976710656 := Nat.lt_of_le_of_lt Nat.and_le_left h2
  have l2 : numL a &&& numL b < 281474976710656 := Nat.lt_of_le_of_lt Nat.and_le_left h1
  unfold matchB
  rw [Bool.eq_iff_iff, beq_iff_eq, beq_iff_eq, macB_inj l1 l2]
theorem numL_mask (j : Nat) : numL (macB (maskN j)) = maskN j := by
  rw [numL_macB, Nat.mod_eq_of_lt (maskN_lt j)]
theorem mask_mono : ∀ k : Fin 49, maskN k.1 &&& maskN (bitsI ((k.1 : Int) + 1)) = maskN k.1 := by decide +kernel
theorem mask_bits : ∀ k : Fin 49, bitsI (k.1 : Int) = k.1 := by decide +kernel
theorem mask_down : ∀ k : Fin 48, maskN (k.1 + 1) &&& (maskN (k.1 + 1) - 1) = maskN k.1 := by decide +kernel
theorem mask_pos : ∀ k : Fin 48, 0 < maskN (k.1 + 1) := by decide +kernel
/-- What a narrower mask lets match, a wider one does. -/
theorem wide_match {a b : List UInt8} (ha : a.length = 6) (hb : b.length = 6) {k : Nat} (hk : k ≤ 48) (hc : matchB a (macB (maskN (bitsI ((k : Int) + 1)))) b = true) : matchB a (macB (maskN k)) b = true := by
  rw [match_eq ha hb, numL_mask, beq_iff_eq] at hc ⊢
  have hmm := mask_mono ⟨k, by omega⟩
  rw [← hmm, Nat.and_comm (maskN k), ← Nat.and_assoc, ← Nat.and_assoc, hc]
theorem zero_match {a b : List UInt8} (ha : a.length = 6) (hb : b.length = 6) : matchB a [0, 0, 0, 0, 0, 0] b = true := by
  rw [match_eq ha hb, beq_iff_eq]
  show _ &&& 0 = _ &&& 0
  simp
theorem all_match {a b : List UInt8} (ha : a.length = 6) (hb : b.length = 6) : matchB a (macB (maskN 48)) b = (a == b) := by
  rw [match_eq ha hb, numL_mask, and_mask (numL_lt48 ha) (by decide), and_mask (numL_lt48 hb) (by decide)]
  rw [Bool.eq_iff_iff, beq_iff_eq, beq_iff_eq, numL_inj ha hb]
  omega
theorem differ_match {a b c : List UInt8} (ha : a.length = 6) (hb : b.length = 6) : matchB a c b = ((numL a ^^^ numL b) &&& numL c == 0) := by
  rw [match_eq ha hb, Bool.eq_iff_iff, beq_iff_eq, beq_iff_eq, Nat.and_xor_distrib_right]
  constructor
  · intro e; rw [e, Nat.xor_self]
  · intro e
    have h2 : numL b &&& numL c = numL a &&& numL c ^^^ (numL a &&& numL c ^^^ numL b &&& numL c) := by
      rw [← Nat.xor_assoc, Nat.xor_self, Nat.zero_xor]
    rw [h2, e, Nat.xor_zero]
theorem twice {a c : List UInt8} (ha : a.length = 6) (j : Nat) : macB (numL (macB (numL a &&& numL c)) &&& numL (macB (maskN j))) = macB (numL (macB (numL a &&& numL (macB (maskN j)))) &&& numL c) := by
  have h1 := numL_lt48 ha
  have l1 : numL a &&& numL c < 281474976710656 := Nat.lt_of_le_of_lt Nat.and_le_left h1
  have l2 : numL a &&& maskN j < 281474976710656 := Nat.lt_of_le_of_lt Nat.and_le_left h1
  rw [numL_mask, numL_macB, numL_macB, Nat.mod_eq_of_lt l1, Nat.mod_eq_of_lt l2, Nat.and_assoc, Nat.and_comm (numL c), ← Nat.and_assoc]
def patC (a b : List UInt8) : List Value := u8s a ++ u8s b
theorem patC_length {a b : List UInt8} (ha : a.length = 6) (hb : b.length = 6) : (patC a b).length = 12 := by simp [patC, ha, hb]
end
end Go.Proofs.YtmkfjdajnamoaaaDoor.Am
namespace Go.Proofs.YtmkfjdajnamoaaaDoor.Am
noncomputable section
/- CONTRACTS of the document: texts, numbers. -/
theorem digits_ret {c : UInt8} {h : AHeap} {n : Nat} (hw : WF h n) : Ret EV02 42 [.int .u8 (c.toNat : Int)] h n (.string ⟨(hex2 c).toArray⟩) [] (n + 1) := by
  refine rsx42 (by simp) (by simp) ?_
  have hx := c.toNat_lt
  have h1 : ([48, 49, 50, 51, 52, 53, 54, 55, 56, 57, 97, 98, 99, 100, 101, 102] : List UInt8)[((c.toNat : Int) / 16).toNat]? = some (hexD (c.toNat / 16)) := hex_get (x := c.toNat / 16) (by omega)
  have h2 : ([48, 49, 50, 51, 52, 53, 54, 55, 56, 57, 97, 98, 99, 100, 101, 102] : List UInt8)[((c.toNat : Int) % 16).toNat]? = some (hexD (c.toNat % 16)) := hex_get (x := c.toNat % 16) (by omega)
  have q1 : Int.tdiv (c.toNat : Int) 16 = (c.toNat : Int) / 16 := rfl
  have q2 : Int.tmod (c.toNat : Int) 16 = (c.toNat : Int) % 16 := rfl
  have hb : ∀ a b : UInt8, bytesOf? [Value.int .u8 (a.toNat : Int), .int .u8 (b.toNat : Int)] = some [a, b] := fun a b => bytesOf_u8s [a, b]
  simp -dsimp (discharger := omega) [B42, q1, q2, h1, h2, aFill, hb, hex2]
  exact (HSub.refl h).new hw (Nat.le_refl n) _
def RTextInv (m : List UInt8) (h0 : AHeap) (n0 p : Nat) (r : Nat) (σ : Fr) (h : AHeap) (n : Nat) : Prop :=
  h = h0 ∧ ∃ i, i + r = 6 ∧ n0 ≤ n ∧ n ≤ n0 + i ∧ σ = [(1, .pointer (some ⟨p, 0, some 6⟩)), (3, .string ⟨(textM (m.take i)).toArray⟩), (4, .int .i64 (i : Int))]
def RTextPost (m : List UInt8) (h0 : AHeap) (n0 : Nat) (e : Ex) (σ' : Fr) (h' : AHeap) (n' : Nat) : Prop :=
  h' = h0 ∧ e = .exit 0 ∧ n' ≤ n0 + 6 ∧ σ'.get 3 = some (.string ⟨(textM m).toArray⟩)
theorem rtext_loop {m : List UInt8} (hm : m.length = 6) {h0 : AHeap} {n0 p ty : Nat} (hw0 : WF h0 n0) (hp : h0.get p = some (.cells (some ty) (u8s m) 6)) :
    ∀ (r : Nat) (σ : Fr) (h : AHeap) (n : Nat), RTextInv m h0 n0 p r σ h n → HasCode EV02 (.loop F24L0) σ h n (RTextPost m h0 n0) := by
  refine wx_inv _ fun r σ h n hI => ?_
  obtain ⟨rfl, i, hi, hn0, hn, rfl⟩ := hI
  cases r with
  | zero =>
    obtain rfl : i = 6 := by omega
    simp -dsimp (discharger := omega) [F24L0]
    exact ⟨rfl, rfl, hn, by rw [List.take_of_length_le (by omega)]; rfl⟩
  | succ r =>
    have hlt : i < m.length := by omega
    have hrd : h.read p 6 (0 + i) 1 = some [.int .u8 (m[i].toNat : Int)] := read_one (m := 6) (by rw [AHeap.read_of hp]; simp [Blk.read, u8s6 hm, List.take_of_length_le]) (u8s_get? (List.getElem?_eq_getElem hlt)) (by omega)
    rw [Nat.zero_add] at hrd
    have hl := textM_len (m.take i)
    rw [List.length_take] at hl
    simp -dsimp (discharger := omega) [F24L0]
    refine Test.split (fun hc => ?_) (fun hc => ?_)
    · have hi0 : 0 < i := by simpa using hc
      simp -dsimp (discharger := omega) [hrd]
      with_reducible refine call_ret (digits_ret (hw0.mono hn0)) ?_
      have hx2 : (hex2 m[i]).length = 2 := rfl
      simp -dsimp (discharger := omega) [hx2]
      refine .mk' r (by omega) [(1, .pointer (some ⟨p, 0, some 6⟩)), (3, .string ⟨(textM (m.take (i + 1))).toArray⟩), (4, .int .i64 ((i + 1 : Nat) : Int))] _ ?_ (.refl _) ⟨rfl, i + 1, by omega, by omega, by omega, rfl⟩
      rw [textM_succ hi0 hlt]
      simp
    · have hi0 : i = 0 := by simpa using hc
      subst hi0
      simp -dsimp (discharger := omega) [hrd]
      with_reducible refine call_ret (digits_ret (hw0.mono hn0)) ?_
      have hx2 : (hex2 m[0]).length = 2 := rfl
      simp -dsimp (discharger := omega) [hx2]
      refine ⟨by simp [textM], ?_⟩
      refine Again.mk' r (by omega) [(1, .pointer (some ⟨p, 0, some 6⟩)), (3, .string ⟨(textM (m.take (0 + 1))).toArray⟩), (4, .int .i64 ((0 + 1 : Nat) : Int))] _ ?_ (.refl _) ⟨rfl, 0 + 1, by omega, by omega, by omega, rfl⟩
      rw [textM_one hlt]
      simp [textM]
theorem rtext_ret {m : List UInt8} (hm : m.length = 6) {h : AHeap} {n : Nat} (hw : WF h n) : Ret EV02 24 [macV m] h n (.string ⟨(textM m).toArray⟩) [] (n + 7) := by
  refine rsx24 (by simp) (by simp) ?_
  have lm := u8s6 hm
  simp -dsimp (discharger := omega) [B24, lm]
  refine loop_use (rtext_loop hm (h0 := h.put n (.cells (some 22) (u8s m) 6)) (n0 := n + 1) (p := n) (hw.put _ (by omega) (by omega)) (AHeap.get_put_same _ _ _) 6 [(1, .pointer (some ⟨n, 0, some 6⟩)), (3, .string ⟨(textM (m.take 0)).toArray⟩), (4, .int .i64 ((0 : Nat) : Int))] _ (n + 1) ⟨rfl, 0, rfl, by omega, by omega, rfl⟩) (by simp [textM]) (.refl _) ?_
  rintro e σ' h' n' ⟨rfl, rfl, hn', e3⟩
  simp -dsimp (discharger := omega) [e3]
  exact ⟨(HSub.refl h).new hw (Nat.le_refl n) _, by omega⟩
def RNumInv (m : List UInt8) (h0 : AHeap) (n0 p : Nat) (r : Nat) (σ : Fr) (h : AHeap) (n : Nat) : Prop :=
  h = h0 ∧ n = n0 ∧ ∃ i, i + r = 6 ∧ σ = [(1, .pointer (some ⟨p, 0, some 6⟩)), (3, .int .u64 ((numL (m.take i) : Nat) : Int)), (4, .int .i64 (i : Int))]
def RNumPost (m : List UInt8) (h0 : AHeap) (n0 : Nat) (e : Ex) (σ' : Fr) (h' : AHeap) (n' : Nat) : Prop :=
  h' = h0 ∧ e = .exit 0 ∧ n' = n0 ∧ σ'.get 3 = some (.int .u64 ((numL m : Nat) : Int))
theorem rnum_loop {m : List UInt8} (hm : m.length = 6) {h0 : AHeap} {n0 p ty : Nat} (hp : h0.get p = some (.cells (some ty) (u8s m) 6)) :
    ∀ (r : Nat) (σ : Fr) (h : AHeap) (n : Nat), RNumInv m h0 n0 p r σ h n → HasCode EV02 (.loop F25L0) σ h n (RNumPost m h0 n0) := by
  refine wx_inv _ fun r σ h n hI => ?_
  obtain ⟨rfl, rfl, i, hi, rfl⟩ := hI
  cases r with
  | zero =>
    obtain rfl : i = 6 := by omega
    simp -dsimp (discharger := omega) [F25L0]
    exact ⟨rfl, rfl, rfl, by rw [List.take_of_length_le (by omega)]; rfl⟩
  | succ r =>
    have hlt : i < m.length := by omega
    have hrd : h.read p 6 (0 + i) 1 = some [.int .u8 (m[i].toNat : Int)] := read_one (m := 6) (by rw [AHeap.read_of hp]; simp [Blk.read, u8s6 hm, List.take_of_length_le]) (u8s_get? (List.getElem?_eq_getElem hlt)) (by omega)
    rw [Nat.zero_add] at hrd
    have hx := m[i].toNat_lt
    have hn := numL_lt m i (by omega)
    have hn2 : 256 ^ i ≤ 256 ^ 5 := Nat.pow_le_pow_right (by omega) (by omega)
    have hst := numL_take hlt
    simp -dsimp (discharger := omega) [F25L0, hrd]
    exact .mk' r (by omega) [(1, .pointer (some ⟨p, 0, some 6⟩)), (3, .int .u64 ((numL (m.take (i + 1)) : Nat) : Int)), (4, .int .i64 ((i + 1 : Nat) : Int))] _ (by simp [hst]) (.refl _) ⟨rfl, rfl, i + 1, by omega, rfl⟩
theorem rnum_ret {m : List UInt8} (hm : m.length = 6) {h : AHeap} {n : Nat} (hw : WF h n) : Ret EV02 25 [macV m] h n (.int .u64 ((numL m : Nat) : Int)) [] (n + 1) := by
  refine rsx25 (by simp) (by simp) ?_
  have lm := u8s6 hm
  simp -dsimp (discharger := omega) [B25, lm]
  refine loop_use (rnum_loop hm (h0 := h.put n (.cells (some 22) (u8s m) 6)) (n0 := n + 1) (p := n) (AHeap.get_put_same _ _ _) 6 [(1, .pointer (some ⟨n, 0, some 6⟩)), (3, .int .u64 ((numL (m.take 0) : Nat) : Int)), (4, .int .i64 ((0 : Nat) : Int))] _ (n + 1) ⟨rfl, rfl, 0, rfl, rfl⟩) (by simp [numL]) (.refl _) ?_
  rintro e σ' h' n' ⟨rfl, rfl, rfl, e3⟩
  simp -dsimp (discharger := omega) [e3]
  exact (HSub.refl h).new hw (Nat.le_refl n) _
end
end Go.Proofs.YtmkfjdajnamoaaaDoor.Am
