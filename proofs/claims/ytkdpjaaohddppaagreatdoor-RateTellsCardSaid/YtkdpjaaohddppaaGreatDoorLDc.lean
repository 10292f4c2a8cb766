/- Contracts and plain facts (LDc). -/
import Derived.Test.YtkdpjaaohddppaaGreatDoorL3
namespace Go.Proofs.YtkdpjaaohddppaaGreatDoor.Am
noncomputable section
/- DECIMALS doubled so many times: how many new digits there are. -/
theorem decF_acc : ∀ (s : List UInt8) (a : Nat),s.foldl (fun a c => 10 * a + (c.toNat - 48)) a = a * 10 ^ s.length + decV s
  | [],a => by simp [decV]
  | c :: s,a => by
    have h1 := decF_acc s (10 * a + (c.toNat - 48))
    have h2 := decF_acc s (10 * 0 + (c.toNat - 48))
    unfold decV at h1 h2 ⊢
    rw [List.foldl_cons,List.foldl_cons,h1,h2,List.length_cons,Nat.pow_succ]
    generalize 10 ^ s.length = P
    generalize s.foldl (fun a c => 10 * a + (c.toNat - 48)) 0 = V
    generalize c.toNat - 48 = d
    rw [Nat.add_mul,Nat.add_mul,Nat.mul_zero,Nat.zero_mul,Nat.zero_add,Nat.mul_assoc 10 a P,Nat.mul_comm 10 (a * P),← Nat.mul_assoc a P 10,Nat.add_assoc]
theorem decV_cons (c : UInt8) (s : List UInt8) : decV (c :: s) = (c.toNat - 48) * 10 ^ s.length + decV s := by
  have := decF_acc s (10 * 0 + (c.toNat - 48))
  rw [Nat.mul_zero,Nat.zero_add] at this
  unfold decV at this ⊢
  rw [List.foldl_cons,Nat.mul_zero,Nat.zero_add]; exact this
theorem digN_le {c : UInt8} (h : isD c = true) : 48 ≤ c.toNat ∧ c.toNat ≤ 57 := by
  unfold isD at h
  rw [Bool.and_eq_true,decide_eq_true_iff,decide_eq_true_iff] at h
  exact h
theorem ten_pos (k : Nat) : 0 < 10 ^ k := Nat.pos_of_ne_zero (by simp)
def plt : List UInt8 → List UInt8 → Bool
  | _,[] => false
  | [],_ :: _ => true
  | x :: b,y :: s => if x = y then plt b s else decide (x < y)
theorem dec_last : ∀ {s : List UInt8},s.getLast? = some 53 → 0 < decV s
  | [],h => by simp at h
  | [c],h => by
    simp at h; subst h; decide
  | c :: d :: s,h => by
    have := dec_last (s := d :: s) (by simpa using h)
    rw [decV_cons]; omega
theorem eq_lt {d P Q B S : Nat} (h : B * Q < S * P) : (d * P + B) * (Q * 10) < (d * Q + S) * (P * 10) := by
  have e1 : (d * P + B) * (Q * 10) = d * P * Q * 10 + B * Q * 10 := by rw [Nat.add_mul,← Nat.mul_assoc,← Nat.mul_assoc]
  have e2 : (d * Q + S) * (P * 10) = d * Q * P * 10 + S * P * 10 := by rw [Nat.add_mul,← Nat.mul_assoc,← Nat.mul_assoc]
  have e3 : d * P * Q = d * Q * P := by rw [Nat.mul_assoc,Nat.mul_comm P Q,← Nat.mul_assoc]
  rw [e1,e2,e3]; omega
theorem eq_le {d P Q B S : Nat} (h : S * P ≤ B * Q) : (d * Q + S) * (P * 10) ≤ (d * P + B) * (Q * 10) := by
  have e1 : (d * P + B) * (Q * 10) = d * P * Q * 10 + B * Q * 10 := by rw [Nat.add_mul,← Nat.mul_assoc,← Nat.mul_assoc]
  have e2 : (d * Q + S) * (P * 10) = d * Q * P * 10 + S * P * 10 := by rw [Nat.add_mul,← Nat.mul_assoc,← Nat.mul_assoc]
  have e3 : d * P * Q = d * Q * P := by rw [Nat.mul_assoc,Nat.mul_comm P Q,← Nat.mul_assoc]
  rw [e1,e2,e3]; omega
theorem lt_lt {x y P Q B S : Nat} (hB : B < P) (hxy : x < y) (hQ : 0 < Q) : (x * P + B) * (Q * 10) < (y * Q + S) * (P * 10) := by
  have h1 : x * P + B < y * P := by
    have := Nat.mul_le_mul_right P (show x + 1 ≤ y from hxy)
    rw [Nat.add_mul,Nat.one_mul] at this
    omega
  have h2 : (x * P + B) * (Q * 10) < y * P * (Q * 10) := Nat.mul_lt_mul_of_pos_right h1 (by omega)
  have h3 : y * P * (Q * 10) = y * Q * (P * 10) := by
    rw [Nat.mul_assoc,Nat.mul_assoc,← Nat.mul_assoc P,← Nat.mul_assoc Q,Nat.mul_comm P Q]
  have h4 : y * Q * (P * 10) ≤ (y * Q + S) * (P * 10) := Nat.mul_le_mul_right _ (Nat.le_add_right _ _)
  omega
theorem plt_spec : ∀ {b s : List UInt8},b.all isD = true → s.all isD = true → (s = [] ∨ s.getLast? = some 53) →
    (plt b s = true → decV b * 10 ^ s.length < decV s * 10 ^ b.length) ∧ (plt b s = false → decV s * 10 ^ b.length ≤ decV b * 10 ^ s.length)
  | b,[],_,_,_ => ⟨fun h => by cases b <;> simp [plt] at h,fun _ => by simp [decV]⟩
  | [],y :: s,_,_,hl => by
    refine ⟨fun _ => ?_,fun h => by simp [plt] at h⟩
    have := dec_last (hl.resolve_left (by simp))
    simp only [List.length_nil,Nat.pow_zero,Nat.mul_one]
    rw [show decV [] = 0 from rfl,Nat.zero_mul]; exact this
  | x :: b,y :: s,hb,hs,hl => by
    simp only [List.all_cons,Bool.and_eq_true] at hb hs
    have hl' : s = [] ∨ s.getLast? = some 53 := by
      cases s with
      | nil => exact .inl rfl
      | cons z s => exact .inr (by simpa using hl.resolve_left (by simp))
    have ih := plt_spec (b := b) (s := s) hb.2 hs.2 hl'
    have bx := digN_le hb.1
    have bY := digN_le hs.1
    have lb := decV_lt b hb.2
    have ls := decV_lt s hs.2
    have pQ := ten_pos s.length
    have pP := ten_pos b.length
    rw [decV_cons,decV_cons,List.length_cons,List.length_cons,Nat.pow_succ,Nat.pow_succ]
    rw [plt]
    by_cases e : x = y
    · subst e
      rw [if_pos rfl]
      exact ⟨fun h => eq_lt (ih.1 h),fun h => eq_le (ih.2 h)⟩
    · rw [if_neg e]
      have hne : x.toNat ≠ y.toNat := fun h => e (UInt8.toNat_inj.1 h)
      refine ⟨fun h => ?_,fun h => ?_⟩
      · have hlt : x.toNat < y.toNat := by simpa [UInt8.lt_iff_toNat_lt] using h
        exact lt_lt lb (by omega) pQ
      · have hge : ¬ x.toNat < y.toNat := by simpa [UInt8.lt_iff_toNat_lt] using h
        exact Nat.le_of_lt (lt_lt ls (by omega) pP)
theorem carry_step (d S K j : Nat) : ((d * 10 ^ j + S) * K) / 10 ^ (j + 1) = (d * K + S * K / 10 ^ j) / 10 := by
  rw [Nat.pow_succ,← Nat.div_div_eq_div_mul,Nat.add_mul,Nat.mul_comm d,Nat.mul_assoc,Nat.mul_add_div (ten_pos j)]
theorem carry_lt {S K j : Nat} (h : S < 10 ^ j) (hK : 0 < K) : S * K / 10 ^ j < K := by
  rw [Nat.div_lt_iff_lt_mul (ten_pos j),Nat.mul_comm K]
  exact Nat.mul_lt_mul_of_pos_right h hK
structure CheatOk (k delta : Nat) (s : List UInt8) : Prop where
  dig : s.all isD = true
  val : decV s = 5 ^ k
  len : delta + s.length = k + 1
  one : 1 ≤ delta
  lo : 10 ^ (delta - 1) ≤ 2 ^ k
  hi : 2 ^ k < 10 ^ delta
  last : s.getLast? = some 53
def newD (b : List UInt8) (delta : Nat) (s : List UInt8) : Nat := if plt b s then delta - 1 else delta
theorem newD_carry {k delta : Nat} {b s : List UInt8} (c : CheatOk k delta s) (hb : b.all isD = true) (hb1 : 10 ^ (b.length - 1) ≤ decV b) (hm : 1 ≤ b.length) :
    (newD b delta s = 0 ∧ decV b * 2 ^ k / 10 ^ b.length = 0) ∨ (1 ≤ newD b delta s ∧ 10 ^ (newD b delta s - 1) ≤ decV b * 2 ^ k / 10 ^ b.length ∧ decV b * 2 ^ k / 10 ^ b.length < 10 ^ newD b delta s) := by
  obtain ⟨h1,h2⟩ := plt_spec hb c.dig (.inr c.last)
  have hB := decV_lt b hb
  have hk : k = (delta - 1) + s.length := by have := c.len; have := c.one; omega
  have e10 : 5 ^ k * 2 ^ k = 10 ^ (delta - 1) * 10 ^ s.length := by rw [← Nat.mul_pow,← Nat.pow_add,← hk]
  have p2 : 0 < 2 ^ k := Nat.two_pow_pos k
  have pm := ten_pos b.length
  have pL := ten_pos s.length
  rw [c.val] at h1 h2
  unfold newD
  cases hp : plt b s with
  | true =>
    have h := h1 hp
    have hC : decV b * 2 ^ k / 10 ^ b.length < 10 ^ (delta - 1) := by
      rw [Nat.div_lt_iff_lt_mul pm]
      have h3 : decV b * 10 ^ s.length * 2 ^ k < 5 ^ k * 10 ^ b.length * 2 ^ k := Nat.mul_lt_mul_of_pos_right h p2
      have e1 : decV b * 10 ^ s.length * 2 ^ k = decV b * 2 ^ k * 10 ^ s.length := Nat.mul_right_comm _ _ _
      have e2 : 5 ^ k * 10 ^ b.length * 2 ^ k = 10 ^ (delta - 1) * 10 ^ b.length * 10 ^ s.length := by rw [Nat.mul_right_comm,e10,Nat.mul_right_comm]
      rw [e1,e2] at h3
      exact Nat.lt_of_mul_lt_mul_right h3
    rw [if_pos rfl]
    by_cases hd : delta = 1
    · subst hd
      exact .inl ⟨rfl,by simpa using hC⟩
    · refine .inr ⟨by have := c.one; omega, ?_,hC⟩
      rw [Nat.le_div_iff_mul_le pm]
      have e3 : 10 ^ (delta - 1 - 1) * 10 ^ b.length = 10 ^ (b.length - 1) * 10 ^ (delta - 1) := by
        rw [← Nat.pow_add,← Nat.pow_add]; congr 1; have := c.one; omega
      rw [e3]
      exact Nat.mul_le_mul hb1 c.lo
  | false =>
    have h := h2 hp
    rw [if_neg (by decide)]
    refine .inr ⟨c.one, ?_,Nat.lt_trans (carry_lt hB p2) c.hi⟩
    rw [Nat.le_div_iff_mul_le pm]
    have h3 : 5 ^ k * 10 ^ b.length * 2 ^ k ≤ decV b * 10 ^ s.length * 2 ^ k := Nat.mul_le_mul_right _ h
    have e1 : decV b * 10 ^ s.length * 2 ^ k = decV b * 2 ^ k * 10 ^ s.length := Nat.mul_right_comm _ _ _
    have e2 : 5 ^ k * 10 ^ b.length * 2 ^ k = 10 ^ (delta - 1) * 10 ^ b.length * 10 ^ s.length := by rw [Nat.mul_right_comm,e10,Nat.mul_right_comm]
    rw [e1,e2] at h3
    exact Nat.le_of_mul_le_mul_right h3 pL
theorem first_ge {c : UInt8} {s : List UInt8} (hc : isD c = true) (h0 : ¬ c = 48) : 10 ^ s.length ≤ decV (c :: s) := by
  have h1 := digN_le hc
  have hne : c.toNat ≠ 48 := fun h => h0 (UInt8.toNat_inj.1 (by rw [h]; rfl))
  rw [decV_cons]
  have := Nat.mul_le_mul_right (10 ^ s.length) (show 1 ≤ c.toNat - 48 by omega)
  omega
end
end Go.Proofs.YtkdpjaaohddppaaGreatDoor.Am
