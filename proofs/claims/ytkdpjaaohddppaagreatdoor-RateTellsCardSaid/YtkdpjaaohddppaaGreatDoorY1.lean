/- Contracts of the program's functions (Y1). -/
import Derived.Test.YtkdpjaaohddppaaGreatDoorX3
import Derived.Test.YtkdpjaaohddppaaGreatDoorLErr
import Derived.Test.YtkdpjaaohddppaaGreatDoorLC
import Derived.Test.YtkdpjaaohddppaaGreatDoorXTr
import Derived.Test.YtkdpjaaohddppaaGreatDoorD7b
import Derived.Test.YtkdpjaaohddppaaGreatDoorLPi
import Derived.Test.YtkdpjaaohddppaaGreatDoorK
namespace Go.Proofs.YtkdpjaaohddppaaGreatDoor.Am
noncomputable section
/- CONTRACTS: the order of rates,texts. -/
theorem nan_ret (a : Nat) (h : AHeap) (n : Nat) : Ret EV61 23 [.float .f64 a] h n (.bool (fNan a)) [] n := by
  refine rsx23 (by simp) (by simp) ?_
  have := fEq_self a
  simp -dsimp (discharger := omega) [B23,fl_neq,this]
  exact .refl _
theorem less_ret (a b : Nat) (h : AHeap) (n : Nat) : Ret EV61 8 [.float .f64 a, .float .f64 b] h n (.bool (fLess a b)) [] n := by
  refine rsx8 (by simp) (by simp) ?_
  have hn := nan_ret a h n
  have hm := nan_ret b h n
  rw [less_law]
  cases ha : fNan a with
  | true =>
    rw [ha] at hn
    simp -dsimp (discharger := omega) [B8]
    with_reducible refine call_ret hn ?_
    simp -dsimp (discharger := omega) []
    with_reducible refine call_ret hn ?_
    simp -dsimp (discharger := omega) []
    exact .refl _
  | false =>
    rw [ha] at hn
    cases hb : fNan b with
    | true =>
      rw [hb] at hm
      simp -dsimp (discharger := omega) [B8]
      with_reducible refine call_ret hn ?_
      simp -dsimp (discharger := omega) []
      with_reducible refine call_ret hm ?_
      simp -dsimp (discharger := omega) []
      with_reducible refine call_ret hn ?_
      simp -dsimp (discharger := omega) []
      with_reducible refine call_ret hm ?_
      simp -dsimp (discharger := omega) []
      exact .refl _
    | false =>
      rw [hb] at hm
      simp -dsimp (discharger := omega) [B8]
      with_reducible refine call_ret hn ?_
      simp -dsimp (discharger := omega) []
      with_reducible refine call_ret hm ?_
      simp -dsimp (discharger := omega) [fl_lss]
      refine ⟨?_, .refl _⟩
      unfold fLt
      rw [ha,hb]; simp
theorem same_ret (a b : Nat) (h : AHeap) (n : Nat) : Ret EV61 10 [.float .f64 a, .float .f64 b] h n (.bool (!fLess a b && !fLess b a)) [] n := by
  refine rsx10 (by simp) (by simp) ?_
  have h1 := less_ret a b h n
  have h2 := less_ret b a h n
  simp -dsimp (discharger := omega) [B10]
  with_reducible refine call_ret h1 ?_
  cases fLess a b with
  | true =>
    simp -dsimp (discharger := omega) []
    exact .refl _
  | false =>
    simp -dsimp (discharger := omega) []
    with_reducible refine call_ret h2 ?_
    simp -dsimp (discharger := omega) []
    exact .refl _
theorem clean_ret (a : Nat) (h : AHeap) (n : Nat) : Ret EV61 12 [.float .f64 a] h n (.float .f64 (fClean a)) [] n := by
  refine rsx12 (by simp) (by simp) ?_
  have e : fLt 0 a = (!fNan a && decide (0 < fKey a)) := by
    unfold fLt
    rw [fNan_zero,fKey_zero,Bool.false_or]
  have ec : fClean a = if fLt 0 a then a else 0 := by rw [e]; rfl
  rw [ec]
  cases hh : fLt 0 a with
  | true =>
    simp -dsimp (discharger := omega) [B12,fl_gtr,hh]
    exact .refl _
  | false =>
    simp -dsimp (discharger := omega) [B12,fl_gtr,hh]
    exact .refl _
theorem clean_le {a : Nat} (ha : a < 18446744073709551616) : fClean a ≤ fI ∧ fNan (fClean a) = false ∧ fKey (fClean a) = (fClean a : Int) ∧ fClean (fClean a) = fClean a ∧ fLt 0 (fClean a) = fLt 0 a := by
  have e0 : ∀ x,fLt 0 x = (!fNan x && decide (0 < fKey x)) := fun x => by
    unfold fLt
    rw [fNan_zero,fKey_zero,Bool.false_or]
  have hc : ∀ x,fClean x = if fLt 0 x then x else 0 := fun x => by rw [e0]; rfl
  have h0 : fLt 0 0 = false := by decide
  cases hh : fLt 0 a with
  | false =>
    have e : fClean a = 0 := by rw [hc,hh]; rfl
    rw [e]
    exact ⟨by decide,by decide,by decide,by decide,h0⟩
  | true =>
    have e : fClean a = a := by rw [hc,hh]; rfl
    rw [e]
    rw [e0] at hh
    simp only [Bool.and_eq_true,Bool.not_eq_true',decide_eq_true_eq] at hh
    obtain ⟨h1,h2⟩ := hh
    have h3 := of_decide_eq_false h1
    have hn : fNeg a = false := by
      cases hb : fNeg a with
      | false => rfl
      | true => unfold fKey at h2; rw [hb] at h2; simp at h2; omega
    have hr : fRung a = a := by
      unfold fNeg at hn
      simp only [beq_eq_false_iff_ne] at hn
      unfold fRung
      have hS : fS = 9223372036854775808 := rfl
      rw [hS] at hn ⊢
      omega
    rw [hr] at h3
    refine ⟨by omega,h1, ?_,e, ?_⟩
    · unfold fKey; rw [hn,hr]; rfl
    · rw [e0,h1,decide_eq_true h2]; rfl
theorem key_pos {x : Nat} (h : x ≤ fI) : fKey x = (x : Int) ∧ fNan x = false := by
  obtain ⟨h1,h2⟩ := fRung_pos h
  unfold fKey fNan
  rw [h1,h2]
  exact ⟨rfl,decide_eq_false (by omega)⟩
theorem from61_ret (x : Nat) (h : AHeap) (n : Nat) : Ret EV61 5 [.int .u64 (x : Int)] h n (.float .f64 x) [] n := orc_ret (fs := fs61) (ps := ps61) (l := []) (by simp [primOrc,ps61,lookF,Prim.ev,putsL]) (Nat.le_refl _) (by simp) (by simp)
theorem inf61_ret (h : AHeap) (n : Nat) : Ret EV61 17 [.int .i64 1] h n (.float .f64 9218868437227405312) [] n := by
  refine rsx17 (by simp) (by simp) ?_
  simp -dsimp (discharger := omega) [B17]
  with_reducible refine call_ret (from61_ret 9218868437227405312 _ _) ?_
  simp -dsimp (discharger := omega) [HSub.refl]
def rkN (x : Nat) : Int := if fNan x then 3 else if fLt 9218868437227405311 x then 2 else if fLt x 18442240474082181119 then 0 else 1
theorem rank_ret (x : Nat) (h : AHeap) (n : Nat) : Ret EV61 22 [.float .f64 x] h n (.int .i64 (rkN x)) [] n := by
  refine rsx22 (by simp) (by simp) ?_
  have hn := fEq_self x
  unfold rkN
  cases h1 : fNan x with
  | true =>
    rw [h1] at hn
    simp -dsimp (discharger := omega) [B22,fl_neq,hn,HSub.refl]
  | false =>
    rw [h1] at hn
    cases h2 : fLt 9218868437227405311 x with
    | true => simp -dsimp (discharger := omega) [B22,fl_neq,fl_gtr,hn,h2,HSub.refl]
    | false =>
      cases h3 : fLt x 18442240474082181119 with
      | true => simp -dsimp (discharger := omega) [B22,fl_neq,fl_gtr,fl_lss,hn,h2,h3,HSub.refl]
      | false => simp -dsimp (discharger := omega) [B22,fl_neq,fl_gtr,fl_lss,hn,h2,h3,HSub.refl]
end
end Go.Proofs.YtkdpjaaohddppaaGreatDoor.Am
namespace Go.Proofs.YtkdpjaaohddppaaGreatDoor.Am
noncomputable section
/- CONTRACTS: the document's order,both texts. -/
theorem fl_leq (a b : Nat) : aFloatOp .leq .f64 a b = some (.bool (fLt a b || fEq a b)) := by
  have h1 := ord_lt a b
  have h2 := ord_eq a b
  unfold fLt fEq
  rw [← h1,← h2]; rfl
theorem rk_key (x : Nat) : rkN x = if fNan x then 3 else if fKey x = (fI : Int) then 2 else if fKey x = -(fI : Int) then 0 else 1 := by
  have n1 : fNan 9218868437227405311 = false := by decide
  have n2 : fNan 18442240474082181119 = false := by decide
  have k1 : fKey 9218868437227405311 = 9218868437227405311 := by decide
  have k2 : fKey 18442240474082181119 = -9218868437227405311 := by decide
  have hI : fI = 9218868437227405312 := rfl
  unfold rkN
  cases hn : fNan x with
  | true => rfl
  | false =>
    have hr := fKey_rng hn
    unfold fLt
    rw [n1,n2,k1,k2,hn]
    simp only [Bool.or_self,Bool.not_false,Bool.true_and,decide_eq_true_iff,Bool.false_eq_true,if_false]
    rw [hI] at hr ⊢
    by_cases e1 : fKey x = ((9218868437227405312 : Nat) : Int)
    · rw [if_pos (show 9218868437227405311 < fKey x by omega),if_pos e1]
    · rw [if_neg (show ¬ 9218868437227405311 < fKey x by omega),if_neg e1]
      by_cases e2 : fKey x = -((9218868437227405312 : Nat) : Int)
      · rw [if_pos (show fKey x < -9218868437227405311 by omega),if_pos e2]
      · rw [if_neg (show ¬ fKey x < -9218868437227405311 by omega),if_neg e2]
theorem rk_less (a b : Nat) : (if rkN a = rkN b then (decide (rkN a = 1) && fLt a b) else decide (rkN a < rkN b)) = fLess a b := by
  rw [rk_key,rk_key]
  have hI : fI = 9218868437227405312 := rfl
  have hS : fS = 9223372036854775808 := rfl
  unfold fLess fK fLt
  rw [hI,hS]
  cases ha : fNan a with
  | true =>
    cases hb : fNan b with
    | true => simp
    | false =>
      have hr := fKey_rng hb
      rw [hI] at hr
      simp only [if_true,Bool.false_eq_true,if_false,Bool.true_or,Bool.not_true,Bool.false_and,Bool.and_false]
      rw [decide_eq_false (show ¬ ((9223372036854775808 : Nat) : Int) < fKey b by omega)]
      split
      · rfl
      · split
        · rfl
        · split <;> rfl
  | false =>
    have hra := fKey_rng ha
    rw [hI] at hra
    cases hb : fNan b with
    | true =>
      simp only [if_true,Bool.false_eq_true,if_false,Bool.or_true,Bool.not_true,Bool.false_and,Bool.and_false]
      rw [decide_eq_true (show fKey a < ((9223372036854775808 : Nat) : Int) by omega)]
      obtain ⟨r,hr⟩ : ∃ r : Int,r = if fKey a = ((9218868437227405312 : Nat) : Int) then 2 else if fKey a = -((9218868437227405312 : Nat) : Int) then 0 else 1 := ⟨_,rfl⟩
      have hr3 : r < 3 := by rw [hr]; split; omega; split <;> omega
      rw [← hr,if_neg (by omega),decide_eq_true hr3]
    | false =>
      have hrb := fKey_rng hb
      rw [hI] at hrb
      simp only [Bool.false_eq_true,if_false,Bool.or_false,Bool.not_false,Bool.true_and]
      by_cases a1 : fKey a = ((9218868437227405312 : Nat) : Int)
      · rw [if_pos a1]
        by_cases b1 : fKey b = ((9218868437227405312 : Nat) : Int)
        · rw [if_pos b1,if_pos rfl,decide_eq_false (show ¬ fKey a < fKey b by omega)]; rfl
        · rw [if_neg b1,decide_eq_false (show ¬ fKey a < fKey b by omega)]
          split <;> rfl
      · rw [if_neg a1]
        by_cases b1 : fKey b = ((9218868437227405312 : Nat) : Int)
        · rw [if_pos b1,decide_eq_true (show fKey a < fKey b by omega)]
          split <;> rfl
        · rw [if_neg b1]
          by_cases a2 : fKey a = -((9218868437227405312 : Nat) : Int)
          · rw [if_pos a2]
            by_cases b2 : fKey b = -((9218868437227405312 : Nat) : Int)
            · rw [if_pos b2,if_pos rfl,decide_eq_false (show ¬ fKey a < fKey b by omega)]; rfl
            · rw [if_neg b2,decide_eq_true (show fKey a < fKey b by omega)]; rfl
          · rw [if_neg a2]
            by_cases b2 : fKey b = -((9218868437227405312 : Nat) : Int)
            · rw [if_pos b2,decide_eq_false (show ¬ fKey a < fKey b by omega)]; rfl
            · rw [if_neg b2,if_pos rfl]; rfl
theorem rless_ret (a b : Nat) (h : AHeap) (n : Nat) : Ret EV61 9 [.float .f64 a, .float .f64 b] h n (.bool (fLess a b)) [] n := by
  refine rsx9 (by simp) (by simp) ?_
  have ra := rank_ret a h n
  have rb := rank_ret b h n
  rw [← rk_less]
  generalize rkN a = u at *
  generalize rkN b = v at *
  simp -dsimp (discharger := omega) [B9]
  refine call_ret ra ?_
  simp -dsimp (discharger := omega) []
  refine call_ret rb ?_
  by_cases e : u = v
  · rw [if_pos e]
    subst e
    simp -dsimp (discharger := omega) []
    refine call_ret ra ?_
    by_cases h1 : u = 1
    · simp -dsimp (discharger := omega) [h1,fl_lss,HSub.refl]
    · simp -dsimp (discharger := omega) [h1,HSub.refl]
  · rw [if_neg e]
    simp -dsimp (discharger := omega) []
    refine call_ret ra ?_
    simp -dsimp (discharger := omega) []
    refine call_ret rb ?_
    simp -dsimp (discharger := omega) [HSub.refl]
theorem rk_clean (x : Nat) : (if rkN x = 3 ∨ rkN x = 0 ∨ (fLt x 0 || fEq x 0) = true then 0 else x) = fClean x := by
  have hI : fI = 9218868437227405312 := rfl
  rw [rk_key]
  unfold fClean fLt fEq
  rw [fNan_zero,fKey_zero,hI]
  cases hn : fNan x with
  | true => simp
  | false =>
    have hr := fKey_rng hn
    rw [hI] at hr
    simp only [Bool.false_eq_true,if_false,Bool.or_false,Bool.not_false,Bool.true_and,Bool.or_eq_true,decide_eq_true_iff]
    by_cases h0 : 0 < fKey x
    · rw [if_pos h0,if_neg]
      rintro (h | h | h | h)
      · split at h
        · omega
        · split at h <;> omega
      · split at h
        · omega
        · split at h <;> omega
      · omega
      · omega
    · rw [if_neg h0,if_pos]
      right; right; omega
theorem rclean_ret (a : Nat) (h : AHeap) (n : Nat) : Ret EV61 13 [.float .f64 a] h n (.float .f64 (fClean a)) [] n := by
  refine rsx13 (by simp) (by simp) ?_
  have ra := rank_ret a h n
  rw [← rk_clean]
  generalize rkN a = u at *
  simp -dsimp (discharger := omega) [B13]
  refine call_ret ra ?_
  by_cases h3 : u = 3
  · subst h3
    simp -dsimp (discharger := omega) [HSub.refl]
  · simp -dsimp (discharger := omega) []
    refine call_ret ra ?_
    by_cases h0 : u = 0
    · subst h0
      simp -dsimp (discharger := omega) [HSub.refl]
    · cases hc : (fLt a 0 || fEq a 0) with
      | true => simp -dsimp (discharger := omega) [h0,fl_leq,hc,HSub.refl]
      | false => simp -dsimp (discharger := omega) [h0,fl_leq,hc,HSub.refl]
end
end Go.Proofs.YtkdpjaaohddppaaGreatDoor.Am
namespace Go.Proofs.YtkdpjaaohddppaaGreatDoor.Am
noncomputable section
/- CONTRACTS: FormatFloat,Text. -/
theorem ff_ret {b : Nat} (hb : b < 9218868437227405312) {h : AHeap} {n : Nat} (hw : WF h n) (hf : Ft h) (hn : 14 < n) :
    Ret EV61 36 [.float .f64 b, .int .u8 102, .int .i64 (-1), .int .i64 64] h n (.string ⟨(fltT b).toArray⟩) [] (n + 3001) := by
  refine rsx36 (by simp) (by simp) ?_
  have hsub : ∀ B,HSub h (h.put n B) := fun B => HSub.new (.refl _) hw (Nat.le_refl _) B
  have r := ftoa_ret hb (q := n) (h := h.put n (bufB [] 0)) (n := n + 1) (.of fun j hj => by simp (discharger := omega) [hw.none (i := j) (by omega)]) (by simp) (hf.sub (hsub _)) (by omega)
  have hs2 : ∀ B C,HSub h ((h.put n B).put n C) := fun B C => HSub.new (hsub B) hw (Nat.le_refl _) C
  have hst := bs_strOf (l := fltT b)
  generalize fltT b = T at *
  have eb : (Blk.cells (some 5) [] 0) = bufB [] 0 := rfl
  simp -dsimp (discharger := omega) [B36]
  rw [eb]
  refine call_ret r ?_
  simp -dsimp (discharger := omega) [dV,bufB,hst]
  exact hs2 _ _
theorem sff_ret {b : Nat} (hb : b < 9218868437227405312) {h : AHeap} {n : Nat} (hw : WF h n) (hf : Ft h) (hn : 14 < n) :
    Ret EV61 25 [.float .f64 b, .int .u8 102, .int .i64 (-1), .int .i64 64] h n (.string ⟨(fltT b).toArray⟩) [] (n + 3001) := by
  refine rsx25 (by simp) (by simp) ?_
  have r := ff_ret hb hw hf hn
  generalize fltT b = T at *
  simp -dsimp (discharger := omega) [B25]
  refine call_ret r ?_
  simp -dsimp (discharger := omega) [HSub.refl]
theorem big_pos {x : Nat} (hx : x ≤ fI) : fLt 9218868437227405311 x = decide (x = 9218868437227405312) := by
  have hI : fI = 9218868437227405312 := rfl
  rw [fLt_pos (by rw [hI]; omega) hx]
  rw [hI] at hx
  exact decide_eq_decide.2 (by omega)
theorem isinf1_ret {x : Nat} (hx : x ≤ fI) (h : AHeap) (n : Nat) : Ret EV61 21 [.float .f64 x, .int .i64 1] h n (.bool (decide (x = 9218868437227405312))) [] n := by
  refine rsx21 (by simp) (by simp) ?_
  have hb := big_pos hx
  simp -dsimp (discharger := omega) [B21,fl_gtr,hb,HSub.refl]
theorem tobits24_ret (m : Nat) (h : AHeap) (n : Nat) : Ret EV61 24 [.float .f64 m] h n (.int .u64 (m : Int)) [] n := orc_ret (fs := fs61) (ps := ps61) (l := []) (by simp [primOrc,ps61,lookF,Prim.ev,putsL]) (Nat.le_refl _) (by simp) (by simp)
theorem andNot63 {x : Nat} (hx : x < 9223372036854775808) : andNotI .u64 (x : Int) 9223372036854775808 = (x : Int) := by
  have e0 : (BitVec.ofInt 64 (x : Int)).toNat = x := ofInt_nat (w := 64) (by show x < 2 ^ 64; omega)
  have e1 : (BitVec.ofInt 64 ((9223372036854775808 : Nat) : Int)).toNat = 2 ^ 63 := ofInt_nat (w := 64) (by decide)
  have e2 : (BitVec.ofInt 64 (x : Int) &&& ~~~(BitVec.ofInt 64 ((9223372036854775808 : Nat) : Int))).toNat = x := by
    apply Nat.eq_of_testBit_eq
    intro i
    rw [BitVec.testBit_toNat,BitVec.getLsbD_and,BitVec.getLsbD_not,← BitVec.testBit_toNat,← BitVec.testBit_toNat,e0,e1,Nat.testBit_two_pow]
    rcases Nat.lt_or_ge i 63 with h | h
    · have : ¬ 63 = i := by omega
      simp [this]; omega
    · have hb : x.testBit i = false := Nat.testBit_lt_two_pow (Nat.lt_of_lt_of_le (show x < 2 ^ 63 from hx) (Nat.pow_le_pow_right (by decide) h))
      simp [hb]
  unfold andNotI
  show IntKind.u64.wrap (((BitVec.ofInt 64 (x : Int) &&& ~~~(BitVec.ofInt 64 ((9223372036854775808 : Nat) : Int))).toNat : Nat) : Int) = _
  rw [e2]
  exact wrap_u64 (by omega) (by omega)
theorem abs_ret {x : Nat} (hx : x ≤ fI) (h : AHeap) (n : Nat) : Ret EV61 35 [.float .f64 x] h n (.float .f64 x) [] n := by
  have hI : fI = 9218868437227405312 := rfl
  rw [hI] at hx
  refine rsx35 (by simp) (by simp) ?_
  have e := andNot63 (x := x) (by omega)
  simp -dsimp (discharger := omega) [B35]
  refine call_ret (tobits24_ret x _ _) ?_
  simp -dsimp (discharger := omega) [e]
  refine call_ret (from61_ret x _ _) ?_
  simp -dsimp (discharger := omega) [HSub.refl]
theorem isinf0_ret {x : Nat} (hx : x ≤ fI) (h : AHeap) (n : Nat) : Ret EV61 21 [.float .f64 x, .int .i64 0] h n (.bool (decide (x = 9218868437227405312))) [] n := by
  refine rsx21 (by simp) (by simp) ?_
  have hb := big_pos hx
  simp -dsimp (discharger := omega) [B21]
  refine call_ret (abs_ret hx _ _) ?_
  simp -dsimp (discharger := omega) [fl_gtr,hb,HSub.refl]
def textV (a : Nat) : List UInt8 := if fClean a = 9218868437227405312 then [105,110,102] else fltT (fClean a)
theorem text_ret {a : Nat} (ha : a < 18446744073709551616) {h : AHeap} {n : Nat} (hw : WF h n) (hf : Ft h) (hn : 14 < n) : Ret EV61 14 [.float .f64 a] h n (.string ⟨(textV a).toArray⟩) [] (n + 3001) := by
  refine rsx14 (by simp) (by simp) ?_
  have hI : fI = 9218868437227405312 := rfl
  have hc := (clean_le ha).1
  have rc := clean_ret a h n
  unfold textV
  generalize fClean a = c at *
  have ri := isinf1_ret hc h n
  simp -dsimp (discharger := omega) [B14]
  refine call_ret rc ?_
  simp -dsimp (discharger := omega) []
  refine call_ret ri ?_
  by_cases hi : c = 9218868437227405312
  · rw [if_pos hi]
    simp -dsimp (discharger := omega) [hi,HSub.refl]
  · rw [if_neg hi]
    have rf := sff_ret (b := c) (by rw [hI] at hc; omega) hw hf hn
    generalize fltT c = T at *
    simp -dsimp (discharger := omega) [hi]
    refine call_ret rf ?_
    simp -dsimp (discharger := omega) [HSub.refl]
theorem rtext_ret {a : Nat} (ha : a < 18446744073709551616) {h : AHeap} {n : Nat} (hw : WF h n) (hf : Ft h) (hn : 14 < n) : Ret EV61 15 [.float .f64 a] h n (.string ⟨(textV a).toArray⟩) [] (n + 3001) := by
  refine rsx15 (by simp) (by simp) ?_
  have hI : fI = 9218868437227405312 := rfl
  have hc := (clean_le ha).1
  have hcn := (clean_le ha).2.1
  have rc := rclean_ret a h n
  unfold textV
  generalize fClean a = c at *
  have rk := rank_ret c h n
  have hk : rkN c = 2 ↔ c = 9218868437227405312 := by
    rw [rk_key,hcn]
    have := (key_pos hc).1
    rw [hI] at *
    simp only [Bool.false_eq_true,if_false]
    split
    · omega
    · split <;> omega
  generalize rkN c = u at *
  simp -dsimp (discharger := omega) [B15]
  refine call_ret rc ?_
  simp -dsimp (discharger := omega) []
  refine call_ret rk ?_
  by_cases hi : c = 9218868437227405312
  · rw [if_pos hi]
    have hu := hk.2 hi
    simp -dsimp (discharger := omega) [hu,HSub.refl]
  · rw [if_neg hi]
    have hu : ¬ u = 2 := fun e => hi (hk.1 e)
    have rf := sff_ret (b := c) (by rw [hI] at hc; omega) hw hf hn
    generalize fltT c = T at *
    simp -dsimp (discharger := omega) []
    refine call_ret rf ?_
    simp -dsimp (discharger := omega) [HSub.refl]
theorem alike61_ret (d : Nat) (h : AHeap) (n : Nat) : Ret EV61 11 [.float .f64 d, .float .f64 d] h n (.bool true) [] n := by
  refine rsx11 (by simp) (by simp) ?_
  simp -dsimp (discharger := omega) [B11]
  with_reducible refine call_ret (tobits24_ret d _ _) ?_
  simp -dsimp (discharger := omega) []
  with_reducible refine call_ret (tobits24_ret d _ _) ?_
  simp -dsimp (discharger := omega) [HSub.refl]
end
end Go.Proofs.YtkdpjaaohddppaaGreatDoor.Am
namespace Go.Proofs.YtkdpjaaohddppaaGreatDoor.Am
noncomputable section
/- CONTRACTS: ParseFloat; both readers of rates. -/
theorem pfp_ret {k : Nat} {s : List UInt8} (ht : FTx s k) {h : AHeap} {n : Nat} (hg : Gb h) (hw : WF h n) : ∃ v,PrV s v ∧ Ret EV61 50 [.string ⟨s.toArray⟩, .int .i64 64] h n v [] (n + 3) := by
  obtain ⟨v,⟨bits,err,rfl,hc⟩,r⟩ := atof64_ret ht hg hw
  refine ⟨_,⟨bits,err,rfl,hc⟩, ?_⟩
  refine rsx50 (by simp) (by simp) ?_
  simp -dsimp (discharger := omega) [B50]
  refine call_ret r ?_
  rcases hc with ⟨rfl,_⟩ | ⟨rfl,_⟩
  · simp -dsimp (discharger := omega) [HSub.refl]
  · simp -dsimp (discharger := omega) [HSub.refl]
theorem ipf_ret {k : Nat} {s : List UInt8} (ht : FTx s k) {h : AHeap} {n : Nat} (hg : Gb h) (hw : WF h n) : ∃ v,PfV v ∧ Ret EV61 33 [.string ⟨s.toArray⟩, .int .i64 64] h n v [] (n + 3) := by
  obtain ⟨v,⟨bits,err,rfl,hc⟩,r⟩ := pfp_ret ht hg hw
  refine ⟨_,⟨bits,err,rfl,hc⟩, ?_⟩
  refine rsx33 (by simp) (by simp) ?_
  simp -dsimp (discharger := omega) [B33]
  refine call_ret r ?_
  rcases hc with ⟨rfl,_⟩ | ⟨rfl,_⟩
  · simp -dsimp (discharger := omega) [HSub.refl]
  · simp -dsimp (discharger := omega) [HSub.refl]
def SfV (v : Value) : Prop := ∃ (bits : Nat) (err : Value),v = .tuple #[.float .f64 bits,err] ∧ (err = .nilIface ∧ bits < 9218868437227405312 ∨ (∃ t w,err = .iface t w) ∧ bits = 9218868437227405312)
theorem spf_ret {k : Nat} {s : List UInt8} (ht : FTx s k) {h : AHeap} {n : Nat} (hg : Gb h) (he : HasErrs h) (hn : 4096 ≤ n) (hw : WF h n) : ∃ v,SfV v ∧ Ret EV61 20 [.string ⟨s.toArray⟩, .int .i64 64] h n v [] (n + 6) := by
  obtain ⟨v,⟨bits,err,rfl,hc⟩,r⟩ := ipf_ret ht hg hw
  have hle := ht.le
  rcases hc with ⟨rfl,hb⟩ | ⟨rfl,rfl⟩
  · refine ⟨_,⟨bits,_,rfl, .inl ⟨rfl,hb⟩⟩, ?_⟩
    refine rsx20 (by simp) (by simp) ?_
    simp -dsimp (discharger := omega) [B20]
    refine call_ret r ?_
    simp -dsimp (discharger := omega) [HSub.refl]
  · obtain ⟨v,⟨t,w,rfl⟩,r2⟩ := toError_ret (f := [80,97,114,115,101,70,108,111,97,116]) (s := s) (by omega) (n := n + 3) (hw.mono (by omega)) he (by omega) 0 64 (c := 1) (.inl rfl)
    refine ⟨_,⟨9218868437227405312,_,rfl, .inr ⟨⟨t,w,rfl⟩,rfl⟩⟩, ?_⟩
    refine rsx20 (by simp) (by simp) ?_
    simp only [eIf] at r2
    simp -dsimp (discharger := omega) [B20]
    refine call_ret r ?_
    simp -dsimp (discharger := omega) []
    refine call_ret r2 ?_
    simp -dsimp (discharger := omega) [HSub.refl]
end
end Go.Proofs.YtkdpjaaohddppaaGreatDoor.Am
namespace Go.Proofs.YtkdpjaaohddppaaGreatDoor.Am
noncomputable section
/- CONTRACTS: a row of digits; reading a rate. -/
theorem Ret.any {E : Env} {f : Nat} {args : List Value} {hb : AHeap} {N N' : Nat} {v : Value} (x : Ret E f args hb N v [] N') {h : AHeap} {n : Nat} (hn : n ≤ N) (hs : HSub hb h) (hw : WF h n) : Ret E f args h n v [] N' :=
  ⟨EntOkH.any (e := ⟨f,args,N,v,N'⟩) ⟨_,x.1, .refl _⟩ hn hs (fun i b hi => hw.lt hi),by simp,by simp⟩
def rowB (s : List UInt8) : Bool := !s.isEmpty && decide (s.length ≤ 400) && s.all isD
theorem row_ret {s : List UInt8} (hl : s.length < 100000) {h : AHeap} {n : Nat} (hw : WF h n) : Ret EV61 19 [.string ⟨s.toArray⟩] h n (.bool (rowB s)) [] (n + 2) := by
  refine rsx19 (by simp) (by simp) ?_
  unfold rowB
  by_cases h0 : s = []
  · subst h0
    simp -dsimp (discharger := omega) [B19,HSub.refl]
  have hie : s.isEmpty = false := by simpa using h0
  by_cases h4 : s.length ≤ 400
  · obtain ⟨tv,⟨t,ht,rfl⟩,hT⟩ := trimD_ret h0 (by omega) hw
    rw [hie,decide_eq_true h4]
    cases had : s.all isD with
    | true =>
      rw [had] at ht
      have hte : t = [] := by simpa using ht
      subst hte
      simp -dsimp (discharger := omega) [B19,hie]
      with_reducible refine call_ret hT ?_
      simp -dsimp (discharger := omega) [HSub.refl]
    | false =>
      rw [had] at ht
      have hte : ¬ t = [] := fun e => by subst e; cases ht
      simp -dsimp (discharger := omega) [B19,hie]
      with_reducible refine call_ret hT ?_
      simp -dsimp (discharger := omega) [hte,HSub.refl]
  · rw [hie,decide_eq_false h4]
    simp -dsimp (discharger := omega) [B19,hie,HSub.refl]
def infS : List UInt8 := [105,110,102]
def okT (s : List UInt8) : Bool := rowB (cutA s 46) && (!cutB s 46 || rowB (cutZ s 46))
def parseV (s : List UInt8) (bits : Nat) : Value := if s = infS then .tuple #[.float .f64 9218868437227405312, .int .i64 0] else if okT s = true then (if bits = 9218868437227405312 then .tuple #[.float .f64 0, .int .i64 24] else .tuple #[.float .f64 bits, .int .i64 0]) else .tuple #[.float .f64 0, .int .i64 5]
structure Pf (hG : AHeap) (N N' : Nat) (s : List UInt8) (bits : Nat) (err : Value) : Prop where
  run : okT s = true → ∀ (h : AHeap) (n : Nat),HSub hG h → WF h n → n ≤ N → Ret EV61 20 [.string ⟨s.toArray⟩, .int .i64 64] h n (.tuple #[.float .f64 bits,err]) [] N'
  val : err = .nilIface ∧ bits < 9218868437227405312 ∨ (∃ t w,err = .iface t w) ∧ bits = 9218868437227405312
theorem rparse_ret {hG : AHeap} {N N' : Nat} {s : List UInt8} {bits : Nat} {err : Value} (p : Pf hG N N' s bits err) (hl : s.length ≤ 900) {h : AHeap} {n : Nat} (hs : HSub hG h) (hw : WF h n) (hn : n + 10 ≤ N) (hN : N ≤ N') : Ret EV61 6 [.string ⟨s.toArray⟩] h n (parseV s bits) [] N' := by
  refine rsx6 (by simp) (by simp) ?_
  unfold parseV
  by_cases hi : s = infS
  · rw [if_pos hi]
    subst hi
    simp -dsimp (discharger := omega) [B6,infS]
    refine call_ret (inf61_ret _ _) ?_
    simp -dsimp (discharger := omega) [HSub.refl]
    omega
  rw [if_neg hi]
  have hi' : (s == [105,110,102]) = false := by
    have : ¬ s = [105,110,102] := hi
    simpa using this
  have rc := cut_ret s 46 (by omega) h n
  have lA : (cutA s 46).length ≤ 900 := by
    unfold cutA; split
    · exact hl
    · rw [List.length_take]; omega
  have lZ : (cutZ s 46).length ≤ 900 := by
    unfold cutZ; split
    · simp
    · rw [List.length_drop]; omega
  have ra := row_ret (s := cutA s 46) (by omega) hw
  have rz := row_ret (s := cutZ s 46) (by omega) (hw.mono (by omega : n ≤ n + 2))
  have hrun := p.run
  have hval := p.val
  unfold okT at hrun ⊢
  generalize cutA s 46 = A at *
  generalize cutZ s 46 = Z at *
  generalize cutB s 46 = B at *
  simp -dsimp (discharger := omega) [B6,hi']
  refine call_ret rc ?_
  simp -dsimp (discharger := omega) []
  refine call_ret ra ?_
  cases hA : rowB A with
  | false =>
    simp -dsimp (discharger := omega) [HSub.refl]
    omega
  | true =>
    rw [hA] at hrun
    have fin : ∀ (n2 : Nat),WF h n2 → n2 ≤ N → Ret EV61 20 [.string ⟨s.toArray⟩, .int .i64 64] h n2 (.tuple #[.float .f64 bits,err]) [] N' → True := fun _ _ _ _ => trivial
    cases hB : B with
    | false =>
      rw [hB] at hrun
      have rp := hrun (by rfl) h (n + 2) hs (hw.mono (by omega)) (by omega)
      simp -dsimp (discharger := omega) []
      refine call_ret rp ?_
      rcases hval with ⟨rfl,hb⟩ | ⟨⟨t,w,rfl⟩,rfl⟩
      · have hne : ¬ bits = 9218868437227405312 := by omega
        have ri := isinf0_ret (x := bits) (by have hI : fI = 9218868437227405312 := rfl; rw [hI]; omega) h N'
        rw [decide_eq_false hne] at ri
        simp -dsimp (discharger := omega) []
        refine call_ret ri ?_
        simp -dsimp (discharger := omega) [hne,HSub.refl]
      · simp -dsimp (discharger := omega) [HSub.refl]
    | true =>
      rw [hB] at hrun
      simp -dsimp (discharger := omega) []
      refine call_ret rz ?_
      cases hZ : rowB Z with
      | false =>
        simp -dsimp (discharger := omega) [HSub.refl]
        omega
      | true =>
        rw [hZ] at hrun
        have rp := hrun (by rfl) h (n + 2 + 2) hs (hw.mono (by omega)) (by omega)
        simp -dsimp (discharger := omega) []
        refine call_ret rp ?_
        rcases hval with ⟨rfl,hb⟩ | ⟨⟨t,w,rfl⟩,rfl⟩
        · have hne : ¬ bits = 9218868437227405312 := by omega
          have ri := isinf0_ret (x := bits) (by have hI : fI = 9218868437227405312 := rfl; rw [hI]; omega) h N'
          rw [decide_eq_false hne] at ri
          simp -dsimp (discharger := omega) []
          refine call_ret ri ?_
          simp -dsimp (discharger := omega) [hne,HSub.refl]
        · simp -dsimp (discharger := omega) [HSub.refl]
end
end Go.Proofs.YtkdpjaaohddppaaGreatDoor.Am
namespace Go.Proofs.YtkdpjaaohddppaaGreatDoor.Am
noncomputable section
/- CONTRACT: the document's reader of a rate. -/
theorem idx_spec (c : UInt8) : ∀ l : List UInt8,(Lib.indexByte l c = -1 ∧ c ∉ l) ∨ ∃ k : Nat,Lib.indexByte l c = (k : Int) ∧ k < l.length ∧ l[k]? = some c ∧ c ∉ l.take k
  | [] => .inl ⟨rfl,by simp⟩
  | x :: l => by
    simp only [Lib.indexByte]
    by_cases hx : x = c
    · right
      refine ⟨0, ?_,by simp,by simp [hx],by simp⟩
      rw [if_pos (beq_iff_eq.2 hx)]; rfl
    · rw [if_neg (by simpa using hx)]
      rcases idx_spec c l with ⟨e,h⟩ | ⟨k,e,h1,h2,h3⟩
      · left
        rw [e]
        exact ⟨by simp,by simp [h,Ne.symm hx]⟩
      · right
        rw [e]
        refine ⟨k + 1, ?_,by simp; omega,by simpa using h2, ?_⟩
        · rw [if_neg (by simp)]; omega
        · rw [List.take_succ_cons,List.mem_cons]
          rintro (h4 | h4)
          · exact hx h4.symm
          · exact h3 h4
theorem cut_spec (s : List UInt8) (c : UInt8) : (cutB s c = true ∧ s = cutA s c ++ c :: cutZ s c ∨ cutB s c = false ∧ s = cutA s c ∧ cutZ s c = []) ∧ c ∉ cutA s c := by
  unfold cutA cutZ cutB
  rcases idx_spec c s with ⟨e,h⟩ | ⟨k,e,h1,h2,h3⟩
  · rw [e]
    refine ⟨.inr ⟨by simp,by simp,by simp⟩,by simpa using h⟩
  · rw [e]
    have hk : ¬ ((k : Int) = -1) := by omega
    have hk2 : ((k : Int)).toNat = k := by omega
    simp only [if_neg hk,hk2]
    refine ⟨.inl ⟨by simp, ?_⟩,h3⟩
    obtain ⟨hl,hv⟩ := List.getElem?_eq_some_iff.1 h2
    have := List.drop_eq_getElem_cons hl
    rw [hv] at this
    rw [← this,List.take_append_drop]
def ScInv (s A Z : List UInt8) (B : Bool) (p : Nat) (h0 : AHeap) (n0 m : Nat) (σ : Fr) (h : AHeap) (n : Nat) : Prop :=
  n = n0 ∧ ∃ i a b t : Nat,i + m = s.length ∧ h = h0.put p (.cells (some 3) [.int .i64 (a : Int), .int .i64 (b : Int)] 2) ∧
    (t = 0 ∧ i ≤ A.length ∧ (A.take i).all isD = true ∧ a = i ∧ b = 0 ∨ t = 1 ∧ B = true ∧ A.length < i ∧ A.all isD = true ∧ (Z.take (i - A.length - 1)).all isD = true ∧ a = A.length ∧ b = i - A.length - 1) ∧
    σ = [(0, .string ⟨s.toArray⟩),(4, .slice (some ⟨p,0,some 2⟩) 2 2),(5, .int .i64 (t : Int)),(6, .int .i64 (i : Int))]
def ScPost (s A Z : List UInt8) (B : Bool) (p : Nat) (h0 : AHeap) (n0 : Nat) (e : Ex) (σ' : Fr) (h' : AHeap) (n' : Nat) : Prop :=
  n' = n0 ∧ (e = .ret ∧ (A.all isD && Z.all isD) = false ∧ (∃ a b : Nat,h' = h0.put p (.cells (some 3) [.int .i64 (a : Int), .int .i64 (b : Int)] 2)) ∧ σ'.get 2 = some (.float .f64 0) ∧ σ'.get 3 = some (.int .i64 5) ∨
    e = .exit 0 ∧ (A.all isD && Z.all isD) = true ∧ h' = h0.put p (.cells (some 3) [.int .i64 (A.length : Int), .int .i64 (Z.length : Int)] 2) ∧ σ'.get 0 = some (.string ⟨s.toArray⟩) ∧ σ'.get 4 = some (.slice (some ⟨p,0,some 2⟩) 2 2) ∧ σ'.get 5 = some (.int .i64 (if B = true then 1 else 0)))
theorem isD_lo {c : UInt8} (h : isD c = true) : ¬ ((c.toNat : Int) < 48) ∧ ¬ (57 < (c.toNat : Int)) := by
  have := digN_le h; omega
theorem isD_no {c : UInt8} (h : isD c = false) : (c.toNat : Int) < 48 ∨ 57 < (c.toNat : Int) := by
  refine Decidable.byContradiction fun hc => ?_
  have : isD c = true := by
    unfold isD
    rw [Bool.and_eq_true,decide_eq_true_iff,decide_eq_true_iff]
    exact ⟨by show 48 ≤ c.toNat; omega,by show c.toNat ≤ 57; omega⟩
  rw [this] at h; cases h
set_option maxHeartbeats 1000000 in
theorem sc_loop {s A Z : List UInt8} {B : Bool} (hl : s.length ≤ 900) (hs : B = true ∧ s = A ++ 46 :: Z ∨ B = false ∧ s = A ∧ Z = []) (hA : 46 ∉ A) {p : Nat} {h0 : AHeap} {n0 : Nat} :
    ∀ (m : Nat) (σ : Fr) (h : AHeap) (n : Nat),ScInv s A Z B p h0 n0 m σ h n → HasCode EV61 (.loop F7L0) σ h n (ScPost s A Z B p h0 n0) := by
  refine wx_inv _ fun m σ h n hI => ?_
  obtain ⟨rfl,i,a,b,t,him,rfl,hc,rfl⟩ := hI
  have hlen : B = true → s.length = A.length + 1 + Z.length := fun hb => by
    rcases hs with ⟨_,e⟩ | ⟨e,_⟩
    · rw [e,List.length_append,List.length_cons]; omega
    · rw [e] at hb; cases hb
  have hlen0 : B = false → s.length = A.length ∧ Z = [] := fun hb => by
    rcases hs with ⟨e,_⟩ | ⟨_,e,ez⟩
    · rw [e] at hb; cases hb
    · rw [e]; exact ⟨rfl,ez⟩
  cases m with
  | zero =>
    have fin : ∀ {σ' : Fr},FSubL [(0, .string ⟨s.toArray⟩),(4, .slice (some ⟨p,0,some 2⟩) 2 2),(5, .int .i64 (t : Int))] σ' → ScPost s A Z B p h0 n (.exit 0) σ' (h0.put p (.cells (some 3) [.int .i64 (a : Int), .int .i64 (b : Int)] 2)) n := by
      intro σ' hσ
      refine ⟨rfl, .inr ⟨rfl, ?_⟩⟩
      have g0 := FSub.ofL hσ 0 (.string ⟨s.toArray⟩) (by simp)
      have g4 := FSub.ofL hσ 4 (.slice (some ⟨p,0,some 2⟩) 2 2) (by simp)
      have g5 := FSub.ofL hσ 5 (.int .i64 (t : Int)) (by simp)
      rcases hc with ⟨rfl,h1,h2,rfl,rfl⟩ | ⟨rfl,hb,h1,h2,h3,rfl,rfl⟩
      · have hb : B = false := by
          cases hb : B with
          | false => rfl
          | true => have := hlen hb; omega
        obtain ⟨e1,rfl⟩ := hlen0 hb
        rw [List.take_of_length_le (by omega)] at h2
        refine ⟨by rw [h2]; rfl, ?_,g0,g4,by rw [g5,hb]; rfl⟩
        rw [show a = A.length by omega]; rfl
      · have := hlen hb
        rw [List.take_of_length_le (by omega)] at h3
        refine ⟨by rw [h2,h3]; rfl, ?_,g0,g4,by rw [g5,hb]; rfl⟩
        rw [show i - A.length - 1 = Z.length by omega]
    have hi : i = s.length := by omega
    subst hi
    simp -dsimp (discharger := omega) [F7L0]
    exact fin (by simp)
  | succ m =>
    have hlt : i < s.length := by omega
    obtain ⟨c,hcc⟩ : ∃ c,s[i]? = some c := ⟨_,List.getElem?_eq_getElem hlt⟩
    obtain ⟨hlt2,hcv⟩ := List.getElem?_eq_some_iff.1 hcc
    have again : ∀ {σ' : Fr} {H : AHeap} {a' b' t' : Nat} {tk : Tok (ScInv s A Z B p h0 n)},HSub (h0.put p (.cells (some 3) [.int .i64 (a' : Int), .int .i64 (b' : Int)] 2)) H → (t' = 0 ∧ i + 1 ≤ A.length ∧ (A.take (i + 1)).all isD = true ∧ a' = i + 1 ∧ b' = 0 ∨ t' = 1 ∧ B = true ∧ A.length < i + 1 ∧ A.all isD = true ∧ (Z.take (i + 1 - A.length - 1)).all isD = true ∧ a' = A.length ∧ b' = i + 1 - A.length - 1) →
        FSubL [(0, .string ⟨s.toArray⟩),(4, .slice (some ⟨p,0,some 2⟩) 2 2),(5, .int .i64 (t' : Int)),(6, .int .i64 ((i + 1 : Nat) : Int))] σ' → Again (ScInv s A Z B p h0 n) (m + 1) σ' H n tk := fun hh e hσ =>
      .mk' m (by omega) _ _ hσ hh ⟨rfl,i + 1,_,_,_,by omega,rfl,e,rfl⟩
    have bad : ∀ {σ' : Fr},isD c = false → (t = 0 → i < A.length) → FSubL [(2, .float .f64 0),(3, .int .i64 5)] σ' → ScPost s A Z B p h0 n .ret σ' (h0.put p (.cells (some 3) [.int .i64 (a : Int), .int .i64 (b : Int)] 2)) n := by
      intro σ' hd h0t hσ
      refine ⟨rfl, .inl ⟨rfl, ?_,⟨a,b,rfl⟩,FSub.ofL hσ 2 (.float .f64 0) (by simp),FSub.ofL hσ 3 (.int .i64 5) (by simp)⟩⟩
      have hmem : c ∈ A ∨ c ∈ Z := by
        rcases hc with ⟨rfl,_⟩ | ⟨rfl,hb,h1,_⟩
        · left
          have hi := h0t rfl
          have : A[i]? = some c := by
            rcases hs with ⟨_,e⟩ | ⟨_,e,_⟩
            · rw [e,List.getElem?_append_left hi] at hcc; exact hcc
            · rw [e] at hcc; exact hcc
          exact List.mem_of_getElem? this
        · right
          rcases hs with ⟨_,e⟩ | ⟨e,_⟩
          · rw [e,List.getElem?_append_right (by omega),show i - A.length = (i - A.length - 1) + 1 by omega,List.getElem?_cons_succ] at hcc
            exact List.mem_of_getElem? hcc
          · rw [e] at hb; cases hb
      rw [Bool.and_eq_false_iff]
      rcases hmem with hm | hm
      · left
        refine Bool.eq_false_iff.2 fun h => ?_
        rw [List.all_eq_true.1 h c hm] at hd; cases hd
      · right
        refine Bool.eq_false_iff.2 fun h => ?_
        rw [List.all_eq_true.1 h c hm] at hd; cases hd
    rcases hc with ⟨rfl,h1,h2,rfl,rfl⟩ | ⟨rfl,hb,h1,h2,h3,rfl,rfl⟩
    · by_cases hi : a < A.length
      · have hAc : A[a]? = some c := by
          rcases hs with ⟨_,e⟩ | ⟨_,e,_⟩
          · rw [e,List.getElem?_append_left hi] at hcc; exact hcc
          · rw [e] at hcc; exact hcc
        have h46 : ¬ ((c.toNat : Int) = 46) := fun e => hA (by
          have : c = 46 := UInt8.toNat_inj.1 (by show c.toNat = 46; omega)
          rw [← this]; exact List.mem_of_getElem? hAc)
        cases hd : isD c with
        | true =>
          obtain ⟨d1,d2⟩ := isD_lo hd
          have h5 : (A.take (a + 1)).all isD = true := by rw [take_snoc hAc,List.all_append,h2]; simp [hd]
          simp -dsimp (discharger := omega) [F7L0,hcv,d1,d2]
          exact again (a' := a + 1) (b' := 0) (t' := 0) (.over (by simp)) (.inl ⟨rfl,by omega,h5,rfl,rfl⟩) (by simp)
        | false =>
          rcases isD_no hd with d1 | d1
          · simp -dsimp (discharger := omega) [F7L0,hcv,d1]
            exact bad hd (fun _ => hi) (by simp)
          · have d2 : ¬ ((c.toNat : Int) < 48) := by omega
            simp -dsimp (discharger := omega) [F7L0,hcv,d1,d2]
            exact bad hd (fun _ => hi) (by simp)
      · have ha : a = A.length := by omega
        have hb : B = true := by
          cases hb : B with
          | true => rfl
          | false => have := (hlen0 hb).1; omega
        have hc46 : c = 46 := by
          rcases hs with ⟨_,e⟩ | ⟨e,_⟩
          · rw [e,List.getElem?_append_right (by omega),show a - A.length = 0 by omega] at hcc
            simpa using hcc.symm
          · rw [e] at hb; cases hb
        have h46 : ((c.toNat : Int) = 46) := by rw [hc46]; rfl
        rw [List.take_of_length_le (by omega)] at h2
        simp -dsimp (discharger := omega) [F7L0,hcv,h46]
        exact again (a' := a) (b' := 0) (t' := 1) (.refl _) (.inr ⟨rfl,hb,by omega,h2,by rw [show a + 1 - A.length - 1 = 0 by omega]; rfl,ha,by omega⟩) (by simp)
    · have hZc : Z[i - A.length - 1]? = some c := by
        rcases hs with ⟨_,e⟩ | ⟨e,_⟩
        · rw [e,List.getElem?_append_right (by omega),show i - A.length = (i - A.length - 1) + 1 by omega,List.getElem?_cons_succ] at hcc
          exact hcc
        · rw [e] at hb; cases hb
      obtain ⟨j,hj⟩ : ∃ j,j = i - A.length - 1 := ⟨_,rfl⟩
      rw [← hj] at hZc h3 bad
      rw [← hj]
      have hj1 : i + 1 - A.length - 1 = j + 1 := by omega
      rw [hj1] at again
      cases hd : isD c with
      | true =>
        obtain ⟨d1,d2⟩ := isD_lo hd
        have h5 : (Z.take (j + 1)).all isD = true := by rw [take_snoc hZc,List.all_append,h3]; simp [hd]
        simp -dsimp (discharger := omega) [F7L0,hcv,d1,d2]
        exact again (a' := A.length) (b' := j + 1) (t' := 1) (.over (by simp)) (.inr ⟨rfl,hb,by omega,h2,h5,rfl,rfl⟩) (by simp)
      | false =>
        rcases isD_no hd with d1 | d1
        · by_cases h46 : (c.toNat : Int) = 46
          · simp -dsimp (discharger := omega) [F7L0,hcv,h46]
            exact bad hd (fun h => by cases h) (by simp)
          · simp -dsimp (discharger := omega) [F7L0,hcv,d1]
            exact bad hd (fun h => by cases h) (by simp)
        · have d2 : ¬ ((c.toNat : Int) < 48) := by omega
          simp -dsimp (discharger := omega) [F7L0,hcv,d1,d2]
          exact bad hd (fun h => by cases h) (by simp)
end
end Go.Proofs.YtkdpjaaohddppaaGreatDoor.Am
namespace Go.Proofs.YtkdpjaaohddppaaGreatDoor.Am
noncomputable section
/- CONTRACT: the document's Parse. -/
def PcInv (s : List UInt8) (la lb t p : Nat) (h0 : AHeap) (n0 m : Nat) (σ : Fr) (h : AHeap) (n : Nat) : Prop :=
  n = n0 ∧ h = h0 ∧ ∃ i : Nat,i + m = t + 1 ∧ (1 ≤ i → 1 ≤ la ∧ la ≤ 400) ∧ (2 ≤ i → 1 ≤ lb ∧ lb ≤ 400) ∧
    σ = [(0, .string ⟨s.toArray⟩),(4, .slice (some ⟨p,0,some 2⟩) 2 2),(5, .int .i64 (t : Int)),(7, .int .i64 (i : Int))]
def okP (la lb t : Nat) : Bool := decide (1 ≤ la) && decide (la ≤ 400) && (decide (t = 0) || decide (1 ≤ lb) && decide (lb ≤ 400))
def PcPost (s : List UInt8) (la lb t : Nat) (h0 : AHeap) (n0 : Nat) (e : Ex) (σ' : Fr) (h' : AHeap) (n' : Nat) : Prop :=
  n' = n0 ∧ h' = h0 ∧ (e = .ret ∧ okP la lb t = false ∧ σ'.get 2 = some (.float .f64 0) ∧ σ'.get 3 = some (.int .i64 5) ∨ e = .exit 2 ∧ okP la lb t = true ∧ σ'.get 0 = some (.string ⟨s.toArray⟩))
theorem pc_loop {s : List UInt8} {la lb t p : Nat} (ht : t ≤ 1) {h0 : AHeap} (hg : h0.get p = some (.cells (some 3) [.int .i64 (la : Int), .int .i64 (lb : Int)] 2)) {n0 : Nat} :
    ∀ (m : Nat) (σ : Fr) (h : AHeap) (n : Nat),PcInv s la lb t p h0 n0 m σ h n → HasCode EV61 (.loop F7L1) σ h n (PcPost s la lb t h0 n0) := by
  refine wx_inv _ fun m σ h n hI => ?_
  obtain ⟨rfl,rfl,i,him,h1,h2,rfl⟩ := hI
  have bad : ∀ {σ' : Fr},okP la lb t = false → FSubL [(2, .float .f64 0),(3, .int .i64 5)] σ' → PcPost s la lb t h n .ret σ' h n := fun hb hσ => ⟨rfl,rfl, .inl ⟨rfl,hb,FSub.ofL hσ 2 (.float .f64 0) (by simp),FSub.ofL hσ 3 (.int .i64 5) (by simp)⟩⟩
  have again : ∀ {σ' : Fr} {tk : Tok (PcInv s la lb t p h n)},0 < m → (1 ≤ i + 1 → 1 ≤ la ∧ la ≤ 400) → (2 ≤ i + 1 → 1 ≤ lb ∧ lb ≤ 400) →
      FSubL [(0, .string ⟨s.toArray⟩),(4, .slice (some ⟨p,0,some 2⟩) 2 2),(5, .int .i64 (t : Int)),(7, .int .i64 ((i + 1 : Nat) : Int))] σ' → Again (PcInv s la lb t p h n) m σ' h n tk := fun hm e1 e2 hσ =>
    .mk' (m - 1) (by omega) _ _ hσ (.refl _) ⟨rfl,rfl,i + 1,by omega,e1,e2,rfl⟩
  cases m with
  | zero =>
    have fin : ∀ {σ' : Fr},FSubL [(0, .string ⟨s.toArray⟩)] σ' → PcPost s la lb t h n (.exit 2) σ' h n := fun hσ => ⟨rfl,rfl, .inr ⟨rfl,by
      unfold okP
      obtain ⟨a1,a2⟩ := h1 (by omega)
      rw [decide_eq_true a1,decide_eq_true a2]
      by_cases h0t : t = 0
      · rw [decide_eq_true h0t]; rfl
      · obtain ⟨b1,b2⟩ := h2 (by omega)
        rw [decide_eq_true b1,decide_eq_true b2]; simp,FSub.ofL hσ 0 (.string ⟨s.toArray⟩) (by simp)⟩⟩
    have hi : i = t + 1 := by omega
    subst hi
    simp -dsimp (discharger := omega) [F7L1]
    exact fin (by simp)
  | succ m =>
    have hit : i ≤ t := by omega
    rcases (by omega : i = 0 ∨ i = 1) with rfl | rfl
    · by_cases c1 : la < 1
      · have hb : okP la lb t = false := by unfold okP; rw [decide_eq_false (show ¬ 1 ≤ la by omega)]; rfl
        simp -dsimp (discharger := omega) [F7L1,AHeap.read_of hg]
        exact bad hb (by simp)
      · by_cases c2 : 400 < la
        · have hb : okP la lb t = false := by unfold okP; rw [decide_eq_false (show ¬ la ≤ 400 by omega)]; simp
          simp -dsimp (discharger := omega) [F7L1,AHeap.read_of hg]
          exact bad hb (by simp)
        · simp -dsimp (discharger := omega) [F7L1,AHeap.read_of hg]
          exact again (by omega) (fun _ => by omega) (fun h => by omega) (by simp)
    · have ht1 : t = 1 := by omega
      subst ht1
      by_cases c1 : lb < 1
      · have hb : okP la lb 1 = false := by unfold okP; rw [decide_eq_false (show ¬ 1 ≤ lb by omega)]; simp
        simp -dsimp (discharger := omega) [F7L1,AHeap.read_of hg]
        exact bad hb (by simp)
      · by_cases c2 : 400 < lb
        · have hb : okP la lb 1 = false := by unfold okP; rw [decide_eq_false (show ¬ lb ≤ 400 by omega)]; simp
          simp -dsimp (discharger := omega) [F7L1,AHeap.read_of hg]
          exact bad hb (by simp)
        · simp -dsimp (discharger := omega) [F7L1,AHeap.read_of hg]
          exact again (by omega) (fun _ => h1 (by omega)) (fun _ => by omega) (by simp)
theorem refparse_ret {hG : AHeap} {N N' : Nat} {s : List UInt8} {bits : Nat} {err : Value} (p : Pf hG N N' s bits err) (hl : s.length ≤ 900) {h : AHeap} {n : Nat} (hs : HSub hG h) (hw : WF h n) (hn : n + 10 ≤ N) (hN : N ≤ N') : Ret EV61 7 [.string ⟨s.toArray⟩] h n (parseV s bits) [] N' := by
  refine rsx7 (by simp) (by simp) ?_
  unfold parseV
  by_cases hi : s = infS
  · rw [if_pos hi]
    subst hi
    simp -dsimp (discharger := omega) [B7,infS]
    refine call_ret (inf61_ret _ _) ?_
    simp -dsimp (discharger := omega) [HSub.refl]
    omega
  rw [if_neg hi]
  have hi' : (s == [105,110,102]) = false := by
    have : ¬ s = [105,110,102] := hi
    simpa using this
  obtain ⟨hcs,hnA⟩ := cut_spec s 46
  have hrun := p.run
  have hval := p.val
  unfold okT at hrun ⊢
  generalize cutA s 46 = A at *
  generalize cutZ s 46 = Z at *
  generalize cutB s 46 = B at *
  have hB0 : B = false → Z = [] := fun hb => by
    rcases hcs with ⟨e,_⟩ | ⟨_,_,e⟩
    · rw [e] at hb; cases hb
    · exact e
  have hnew : ∀ b,HSub h (h.put n b) := fun b => HSub.new (.refl _) hw (Nat.le_refl _) b
  obtain ⟨t,ht⟩ : ∃ t : Nat,t = if B = true then 1 else 0 := ⟨_,rfl⟩
  have ht1 : t ≤ 1 := by rw [ht]; split <;> omega
  have hti : (if B = true then (1 : Int) else 0) = (t : Int) := by rw [ht]; split <;> rfl
  have hok : (rowB A && (!B || rowB Z)) = (A.all isD && Z.all isD && okP A.length Z.length t) := by
    have hr : ∀ l : List UInt8,rowB l = (l.all isD && (decide (1 ≤ l.length) && decide (l.length ≤ 400))) := fun l => by
      unfold rowB
      cases l with
      | nil => rfl
      | cons a l => simp [Bool.and_comm]
    rw [hr,hr,ht]
    unfold okP
    cases hB : B with
    | false =>
      rw [hB0 hB]
      simp
    | true =>
      simp only [if_true,Bool.not_true,Bool.false_or]
      cases A.all isD <;> cases Z.all isD <;> simp
  rw [hok] at hrun ⊢
  obtain ⟨O,hO⟩ : ∃ O,O = (A.all isD && Z.all isD && okP A.length Z.length t) := ⟨_,rfl⟩
  rw [← hO] at hrun ⊢
  simp -dsimp (discharger := omega) [B7,hi',aFill,repeatCells]
  refine loop_use (sc_loop (s := s) (A := A) (Z := Z) (B := B) hl hcs hnA (p := n) (h0 := h) (n0 := n + 1) s.length _ _ _ ⟨rfl,0,0,0,0,by omega,rfl, .inl ⟨rfl,by omega,by simp,rfl,rfl⟩,rfl⟩) (by simp) (.refl _) ?_
  rintro e σ' h' n' ⟨rfl,⟨rfl,hbad,⟨a,b,rfl⟩,g2,g3⟩ | ⟨rfl,hgood,rfl,g0,g4,g5⟩⟩
  · have hOf : O = false := by rw [hO,hbad]; rfl
    rw [hOf]
    simp -dsimp (discharger := omega) [g2,g3]
    exact ⟨hnew _,by omega⟩
  · rw [hti] at g5
    simp -dsimp (discharger := omega) []
    refine loop_use (pc_loop (s := s) (la := A.length) (lb := Z.length) (t := t) (p := n) ht1 (h0 := h.put n (.cells (some 3) [.int .i64 (A.length : Int), .int .i64 (Z.length : Int)] 2)) (by simp) (n0 := n + 1) (t + 1) _ _ _ ⟨rfl,rfl,0,by omega,fun h => by omega,fun h => by omega,rfl⟩) (by simp [g0,g4,g5]) (.refl _) ?_
    rintro e σ2 h2 n2 ⟨rfl,rfl,⟨rfl,hbad,u2,u3⟩ | ⟨rfl,hgo,u0⟩⟩
    · have hOf : O = false := by rw [hO,hgood,hbad]; rfl
      rw [hOf]
      simp -dsimp (discharger := omega) [u2,u3]
      exact ⟨hnew _,by omega⟩
    · have hOt : O = true := by rw [hO,hgood,hgo]; rfl
      rw [hOt] at hrun ⊢
      have rp := hrun (by rfl) (h.put n (.cells (some 3) [.int .i64 (A.length : Int), .int .i64 (Z.length : Int)] 2)) (n + 1) (fun i b hb => hnew _ i b (hs i b hb)) (.of fun j hj => by simp (discharger := omega) [hw.none (i := j) (by omega)]) (by omega)
      have rk := rank_ret bits (h.put n (.cells (some 3) [.int .i64 (A.length : Int), .int .i64 (Z.length : Int)] 2)) N'
      have hI : fI = 9218868437227405312 := rfl
      have hbl : bits ≤ fI := by rw [hI]; rcases hval with ⟨_,h⟩ | ⟨_,h⟩ <;> omega
      have hk : rkN bits = if bits = 9218868437227405312 then 2 else 1 := by
        obtain ⟨k1,k2⟩ := key_pos hbl
        rw [rk_key,k1,k2,hI]
        simp only [Bool.false_eq_true,if_false]
        by_cases hb : bits = 9218868437227405312
        · rw [if_pos (by omega),if_pos hb]
        · rw [if_neg (by omega),if_neg (by omega),if_neg hb]
      rw [hk] at rk
      simp -dsimp (discharger := omega) [u0]
      refine call_ret rp ?_
      simp -dsimp (discharger := omega) []
      refine call_ret rk ?_
      by_cases hb : bits = 9218868437227405312
      · rw [if_pos hb]
        simp -dsimp (discharger := omega) [hb]
        exact hnew _
      · rw [if_neg hb]
        simp -dsimp (discharger := omega) [hb]
        exact hnew _
end
end Go.Proofs.YtkdpjaaohddppaaGreatDoor.Am
namespace Go.Proofs.YtkdpjaaohddppaaGreatDoor.Am
noncomputable section
/- READING a text twice. -/
theorem okT_ftx {s : List UInt8} (h : okT s = true) (hl : s.length ≤ 900) : ∃ k,FTx s k := by
  obtain ⟨hcs,hnA⟩ := cut_spec s 46
  unfold okT at h
  generalize cutA s 46 = A at *
  generalize cutZ s 46 = Z at *
  generalize cutB s 46 = B at *
  simp only [Bool.and_eq_true,Bool.or_eq_true,Bool.not_eq_true'] at h
  obtain ⟨h1,h2⟩ := h
  simp only [rowB,Bool.and_eq_true,Bool.not_eq_true',decide_eq_true_iff] at h1
  obtain ⟨⟨a1,a2⟩,a3⟩ := h1
  have hApos : 1 ≤ A.length := by
    cases A with
    | nil => cases a1
    | cons a l => simp
  refine ⟨A.length,hApos, ?_,hl, ?_⟩
  · rcases hcs with ⟨_,e⟩ | ⟨_,e,_⟩
    · rw [e,List.length_append]; omega
    · rw [e]; exact hApos
  · intro i c hc
    rcases hcs with ⟨hb,e⟩ | ⟨_,e,_⟩
    · rw [e] at hc
      rcases Nat.lt_trichotomy i A.length with hi | hi | hi
      · rw [List.getElem?_append_left hi] at hc
        exact .inl ⟨by omega,List.all_eq_true.1 a3 c (List.mem_of_getElem? hc)⟩
      · rw [List.getElem?_append_right (by omega),show i - A.length = 0 by omega] at hc
        exact .inr ⟨by simpa using hc.symm,hi⟩
      · rw [List.getElem?_append_right (by omega),show i - A.length = (i - A.length - 1) + 1 by omega,List.getElem?_cons_succ] at hc
        rcases h2 with h2 | h2
        · rw [hb] at h2; cases h2
        · simp only [rowB,Bool.and_eq_true,Bool.not_eq_true',decide_eq_true_iff] at h2
          exact .inl ⟨by omega,List.all_eq_true.1 h2.2 c (List.mem_of_getElem? hc)⟩
    · rw [e] at hc
      have hi := (List.getElem?_eq_some_iff.1 hc).1
      exact .inl ⟨by omega,List.all_eq_true.1 a3 c (List.mem_of_getElem? hc)⟩
structure GG (h : AHeap) : Prop where
  gb : Gb h
  er : HasErrs h
  ft : Ft h
  wk : HSub hW61 h
theorem pf_one {hG : AHeap} (g : GG hG) {s : List UInt8} (hok : okT s = true) (hl : s.length ≤ 900) {M : Nat} (hw : WF hG M) (hM : 4096 ≤ M) : ∃ bits,bits < 9218868437227405313 ∧ ∃ err,Pf hG M (M + 6) s bits err := by
  obtain ⟨k,ht⟩ := okT_ftx hok hl
  obtain ⟨v,⟨bits,err,rfl,hv⟩,r⟩ := spf_ret ht g.gb g.er hM hw
  refine ⟨bits,by rcases hv with ⟨_,h⟩ | ⟨_,h⟩ <;> omega,err,fun _ h n hs hwn hn => r.any hn hs hwn,hv⟩
theorem pf_two {hG : AHeap} (g : GG hG) {s : List UInt8} (hl : s.length ≤ 900) {n0 : Nat} (hw : WF hG n0) (hn : 4096 ≤ n0) :
    ∃ (M1 M2 bits : Nat) (e1 e2 : Value),n0 + 100 ≤ M1 ∧ M1 + 100 ≤ M2 ∧ M2 ≤ n0 + 921886843722740531500 ∧ Pf hG M1 (M1 + 6) s bits e1 ∧ Pf hG M2 (M2 + 6) s bits e2 := by
  by_cases hok : okT s = true
  · have hx : ∀ k,∃ bits,bits < 9218868437227405313 ∧ ∃ err,Pf hG (n0 + 100 + 100 * k) (n0 + 100 + 100 * k + 6) s bits err := fun k => pf_one g hok hl (hw.mono (by omega)) (by omega)
    obtain ⟨j,k,hjk,hk,he⟩ := pigeon 9218868437227405313 (fun k => Classical.choose (hx k)) (fun k _ => (Classical.choose_spec (hx k)).1)
    obtain ⟨e1,p1⟩ := (Classical.choose_spec (hx j)).2
    obtain ⟨e2,p2⟩ := (Classical.choose_spec (hx k)).2
    have he' : Classical.choose (hx j) = Classical.choose (hx k) := he
    rw [← he'] at p2
    exact ⟨_,_,_,e1,e2,by omega,by omega,by omega,p1,p2⟩
  · exact ⟨n0 + 100,n0 + 200,0, .nilIface, .nilIface,by omega,by omega,by omega,⟨fun h => absurd h hok, .inl ⟨rfl,by omega⟩⟩,⟨fun h => absurd h hok, .inl ⟨rfl,by omega⟩⟩⟩
end
end Go.Proofs.YtkdpjaaohddppaaGreatDoor.Am
