/- Contracts and plain facts (LRb). -/
import Derived.Test.YtkdpjaaohddppaaDoorLFb
namespace Go.Proofs.YtkdpjaaohddppaaDoor.Am
noncomputable section
/- BUCKETS: what is taken, and what may be taken. -/
theorem rung_scale (V k : Nat) : rungOf (V * 2 ^ k) k = rungOf V 0 := by
  unfold rungOf
  by_cases hV : V = 0
  · rw [if_pos hV, hV, Nat.zero_mul, if_pos rfl]
  · have h0 : ¬ V * 2 ^ k = 0 := Nat.mul_ne_zero hV (by have := pow_pos' k; omega)
    rw [if_neg hV, if_neg h0]
    have he : expo (V * 2 ^ k) k = expo V 0 + k := by
      unfold expo; rw [log2_shift hV]; omega
    rw [he, rnd_scale]
    congr 3
    omega
theorem fU_exact {m k : Nat} (h : m < 2 ^ 53) (hf : rungOf (m * 2 ^ k) 0 < fI) : fU (rungOf (m * 2 ^ k) 0) = m * 2 ^ k := by
  by_cases hm : m = 0
  · rw [hm, Nat.zero_mul, rungOf_zero, fU_zero]
  · have hV : ¬ m * 2 ^ k = 0 := Nat.mul_ne_zero hm (by have := pow_pos' k; omega)
    have hB1 : fB = 2 ^ 52 := fB_pow
    have h53 : 2 ^ 53 = 2 * 2 ^ 52 := by decide
    unfold rungOf at hf ⊢
    rw [if_neg hV, Nat.sub_zero] at hf ⊢
    have hmin : ∀ {a : Nat}, min a fI < fI → min a fI = a := fun {a} h => by omega
    rw [hmin hf]
    have hlog := log2_shift hm k
    have hml : m.log2 < 53 := (Nat.log2_lt hm).2 h
    have hek : expo (m * 2 ^ k) 0 ≤ k := by unfold expo; omega
    have hr : rndE (m * 2 ^ k) (expo (m * 2 ^ k) 0) = m * 2 ^ (k - expo (m * 2 ^ k) 0) := by
      have := rnd_scale (m * 2 ^ (k - expo (m * 2 ^ k) 0)) 0 (expo (m * 2 ^ k) 0)
      rw [Nat.zero_add, rnd_zero, Nat.mul_assoc, ← Nat.pow_add] at this
      rwa [show k - expo (m * 2 ^ k) 0 + expo (m * 2 ^ k) 0 = k by omega] at this
    have hlow : expo (m * 2 ^ k) 0 = 0 ∨ fB ≤ m * 2 ^ (k - expo (m * 2 ^ k) 0) := by
      by_cases he : expo (m * 2 ^ k) 0 = 0
      · exact .inl he
      · refine .inr ?_
        have hx : expo (m * 2 ^ k) 0 + 52 = (m * 2 ^ k).log2 := by unfold expo at he ⊢; omega
        have := Nat.log2_self_le hV
        rw [← hx] at this
        refine Nat.le_of_mul_le_mul_right ?_ (pow_pos' (expo (m * 2 ^ k) 0))
        rw [Nat.mul_assoc, ← Nat.pow_add, show k - expo (m * 2 ^ k) 0 + expo (m * 2 ^ k) 0 = k by omega, hB1, ← Nat.pow_add, Nat.add_comm 52]
        exact this
    have hup : m * 2 ^ (k - expo (m * 2 ^ k) 0) < 2 * fB := by
      have := Nat.lt_log2_self (n := m * 2 ^ k)
      refine Nat.lt_of_mul_lt_mul_right (a := 2 ^ expo (m * 2 ^ k) 0) ?_
      rw [Nat.mul_assoc, ← Nat.pow_add, show k - expo (m * 2 ^ k) 0 + expo (m * 2 ^ k) 0 = k by omega, hB1, ← h53, ← Nat.pow_add]
      refine Nat.lt_of_lt_of_le this (Nat.pow_le_pow_right (by omega) ?_)
      unfold expo; omega
    rw [hr, fU_key rfl]
    · rw [Nat.mul_assoc, ← Nat.pow_add, show k - expo (m * 2 ^ k) 0 + expo (m * 2 ^ k) 0 = k by omega]
    · rcases hlow with he | hl
      · rw [he] at hup ⊢
        omega
      · omega
theorem fU_ofN {d : Nat} (h : d < 2 ^ 53) : fU (ofN d) = d * 2 ^ 1074 := by
  unfold ofN
  refine fU_exact (m := d) (k := 1074) h ?_
  refine Nat.lt_of_le_of_lt (rungOf_mono (W := 2 ^ 64 * 2 ^ 1074) (Nat.mul_le_mul_right _ ?_)) ofN_top
  exact Nat.le_of_lt (Nat.lt_of_lt_of_le h (Nat.pow_le_pow_right (by omega) (by omega)))
theorem mulP_ofN {r d : Nat} (hr : r < fI) (h0 : 0 < d) (h : d < 2 ^ 53) : mulP r (ofN d) = rungOf (fU r * d) 0 := by
  have h64 : d < 2 ^ 64 := Nat.lt_of_lt_of_le h (Nat.pow_le_pow_right (by omega) (by omega))
  obtain ⟨p0, p1⟩ := ofN_rng h0 h64
  unfold mulP
  rw [if_neg (by omega), fU_ofN h, ← Nat.mul_assoc, rung_scale (fU r * d) 1074]
/-- A refill. -/
theorem acc_refill {r b l d e T k : Nat} (hr : e = 0 ∨ r < fI) (hb : b < fI) (hl : l ≤ b) (he : e < 2 ^ 53) (h : Near k (fU l + T) (fU b + fU r * d)) : Near (k + 2) (fU (afterN r b l e) + T) (fU b + fU r * (d + e)) := by
  unfold afterN
  have hle : fU b + fU r * d ≤ fU b + fU r * (d + e) := Nat.add_le_add_left (Nat.mul_le_mul_left _ (Nat.le_add_right _ _)) _
  by_cases h0 : e = 0
  · rw [if_pos h0]
    exact (h.trans (.of_le hle 2))
  · replace hr : r < fI := by omega
    rw [if_neg h0, mulP_ofN hr (by omega) he]
    have n1 := near_up (fU r * e)
    have n2 : Near 2 (fU (min b (addP l (rungOf (fU r * e) 0)))) (fU l + fU r * e) := by
      generalize hg : rungOf (fU r * e) 0 = g at *
      by_cases hgi : g = fI
      · have h1 : fU (min b (addP l g)) ≤ fU g := fU_le (by omega)
        have : Near 1 (fU g) (fU l + fU r * e) := n1.trans (.of_le (Nat.le_add_left _ _) 0)
        exact ((Near.of_le h1 1).trans this)
      · have h1 : fU (min b (addP l g)) ≤ fU (addP l g) := fU_le (Nat.min_le_right _ _)
        have hadd : addP l g = rungOf (fU l + fU g) 0 := by unfold addP; rw [if_neg (by omega)]
        rw [hadd] at h1 ⊢
        have h2 := near_up (fU l + fU g)
        have h3 : Near 1 (fU l + fU g) (fU l + fU r * e) := (Near.of_le (Nat.le_refl (fU l)) 1).add n1
        have a1 := (Near.of_le h1 0).trans h2
        have a2 := a1.trans h3
        exact a2
    have n3 : Near 2 (fU (min b (addP l (rungOf (fU r * e) 0))) + T) (fU l + fU r * e + T) := n2.add (.of_le (Nat.le_refl T) 2)
    have n4 : Near k (fU l + fU r * e + T) (fU b + fU r * (d + e)) := by
      have := h.add (.of_le (Nat.le_refl (fU r * e)) k)
      rw [Nat.mul_add, ← Nat.add_assoc]
      rwa [Nat.add_right_comm] at this
    exact (n3.trans n4).mono (by omega)
/-- Something is taken. -/
theorem acc_take {l n T k X : Nat} (hn : n ≤ l) (h : Near k (fU l + T) X) : Near (k + 1) (fU (rungOf (fU l - fU n) 0) + (T + fU n)) X := by
  have n1 := (near_up (fU l - fU n)).add (.of_le (Nat.le_refl (T + fU n)) 1)
  have hle := fU_le hn
  have e : fU l - fU n + (T + fU n) = fU l + T := by omega
  rw [e] at n1
  exact (n1.trans h).mono (by omega)
theorem acc_sum {t n T k : Nat} (hn : n < fI) (h : Near k (fU t) T) : Near (k + 1) (fU (addP t n)) (T + fU n) := by
  unfold addP
  by_cases ht : t = fI
  · rw [if_pos (.inl ht)]
    rw [ht] at h
    exact (h.mono (Nat.le_succ k)).trans (.of_le (Nat.le_add_right T _) 0)
  · rw [if_neg (by omega)]
    exact ((near_up (fU t + fU n)).trans (h.add (.of_le (Nat.le_refl _) k))).mono (by omega)
/-- What may be taken. -/
def mostN (r b d : Nat) : Nat := if d = 0 then b else addP b (mulP r (ofN d))
theorem most_near {r b d : Nat} (hr : d = 0 ∨ r < fI) (hb : b < fI) (hd : d < 2 ^ 53) (hm : mostN r b d < fI) : Near 2 (fU b + fU r * d) (fU (mostN r b d)) := by
  unfold mostN at hm ⊢
  by_cases h0 : d = 0
  · rw [if_pos h0, h0]
    exact .of_le (by simp) 2
  · replace hr : r < fI := by omega
    rw [if_neg h0] at hm ⊢
    rw [mulP_ofN hr (by omega) hd] at hm ⊢
    unfold addP at hm ⊢
    by_cases hg : rungOf (fU r * d) 0 = fI
    · rw [if_pos (.inr hg)] at hm; omega
    · rw [if_neg (by omega)] at hm ⊢
      have n1 := near_dn (V := fU r * d) (Nat.lt_of_le_of_ne (rungOf_le _ _) hg)
      have n2 := near_dn hm
      exact ((Near.of_le (Nat.le_refl (fU b)) 1).add n1).trans n2
/-- 1 + 1e-9. -/
def fC : Nat := 4607182418804521008
theorem fC_val : 2 ^ 1074 * 1073741825 ≤ fU fC * 1073741824 := by decide +kernel
theorem fC_fin : fC < fI := by decide
theorem most_fin {t m c w a b : Nat} (n3 : t * a ≤ m * b) (hc : w * b ≤ c * a) (ha : 0 < a := by decide) : t * w ≤ m * c := by
  refine Nat.le_of_mul_le_mul_right ?_ ha
  calc t * w * a = t * a * w := Nat.mul_right_comm _ _ _
    _ ≤ m * b * w := Nat.mul_le_mul_right _ n3
    _ = m * (w * b) := by rw [Nat.mul_assoc, Nat.mul_comm b]
    _ ≤ m * (c * a) := Nat.mul_le_mul_left _ hc
    _ = m * c * a := (Nat.mul_assoc _ _ _).symm
/-- What the accounts say of a bucket: r its rate, b its burst, l its level at d, T what was taken, t the sum as a float, k steps. -/
structure Acc (r b l d t k : Nat) : Prop where
  lev : l ≤ b
  top : t ≤ fI
  own : b < fI → (d = 0 ∨ r < fI) → ∃ T, Near k (fU t) T ∧ Near (3 * k) (fU l + T) (fU b + fU r * d)
theorem Acc.start (r b : Nat) : Acc r b b 0 0 0 := ⟨Nat.le_refl _, by decide, fun _ _ => ⟨0, .of_le (by rw [fU_zero]; exact Nat.le_refl _) 0, .of_le (by simp) 0⟩⟩
theorem after_le {r b l e : Nat} (hl : l ≤ b) : afterN r b l e ≤ b := by
  unfold afterN
  split
  · exact hl
  · exact Nat.min_le_left _ _
theorem sub_le {l n : Nat} (hl : l ≤ fI) : rungOf (fU l - fU n) 0 ≤ l := by
  have := rungOf_mono (V := fU l - fU n) (W := fU l) (D := 0) (Nat.sub_le _ _)
  rwa [rungOf_fU hl] at this
theorem addP_le {x y : Nat} : addP x y ≤ fI := by
  unfold addP
  split
  · exact Nat.le_refl _
  · exact rungOf_le _ _
/-- A step in which nothing is taken. -/
theorem Acc.none {r b l d t k e : Nat} (h : Acc r b l d t k) (he : e < 2 ^ 53) : Acc r b (afterN r b l e) (d + e) t (k + 1) := by
  refine ⟨after_le h.lev, h.top, fun hb hr => ?_⟩
  obtain ⟨T, h1, h2⟩ := h.own hb (by omega)
  exact ⟨T, h1.mono (by omega), (acc_refill (by omega) hb h.lev he h2).mono (by omega)⟩
/-- A step in which something is taken. -/
theorem Acc.take {r b l d t k e n : Nat} (h : Acc r b l d t k) (hbI : b ≤ fI) (he : e < 2 ^ 53) (hn : n ≤ afterN r b l e) : Acc r b (if afterN r b l e = fI then fI else rungOf (fU (afterN r b l e) - fU n) 0) (d + e) (addP t n) (k + 1) := by
  have hle : afterN r b l e ≤ b := after_le h.lev
  refine ⟨?_, addP_le, fun hb hr => ?_⟩
  · split
    · omega
    · exact Nat.le_trans (sub_le (by omega)) hle
  · obtain ⟨T, h1, h2⟩ := h.own hb (by omega)
    rw [if_neg (by omega)]
    exact ⟨T + fU n, acc_sum (by omega) h1, (acc_take hn (acc_refill (by omega) hb h.lev he h2)).mono (by omega)⟩
theorem Acc.most {r b l d t k : Nat} (h : Acc r b l d t k) (hbI : b ≤ fI) (hrI : r ≤ fI) (hd : d < 2 ^ 53) (hk : k ≤ 60) : t ≤ mulP (mostN r b d) fC := by
  have hC := fC_fin
  have full : mostN r b d = fI → t ≤ mulP (mostN r b d) fC := fun hm => by
    unfold mulP; rw [if_pos (.inl hm)]; exact h.top
  by_cases hm : mostN r b d = fI
  · exact full hm
  · have hmI : mostN r b d ≤ fI := by
      unfold mostN; split
      · exact hbI
      · exact addP_le
    have hb : b < fI := by
      refine Nat.lt_of_le_of_ne hbI fun hb => hm ?_
      unfold mostN addP; split
      · exact hb
      · rw [if_pos (.inl hb)]
    have hr : d = 0 ∨ r < fI := by
      by_cases h0 : d = 0
      · exact .inl h0
      · refine .inr (Nat.lt_of_le_of_ne hrI fun hr => hm ?_)
        have hmul : mulP r (ofN d) = fI := by unfold mulP; rw [if_pos (.inl hr)]
        unfold mostN addP
        rw [if_neg h0, hmul, if_pos (.inr rfl)]
    obtain ⟨T, h1, h2⟩ := h.own hb hr
    have n1 : Near (3 * k) T (fU b + fU r * d) := (Near.of_le (Nat.le_add_left T (fU l)) 0).trans h2 |>.mono (by omega)
    have n2 := (h1.trans n1).trans (most_near hr hb hd (by omega))
    have n3 := near_end n2 (by omega)
    unfold mulP
    rw [if_neg (by omega)]
    have e : t = rungOf (fU t * 2 ^ 1074) 1074 := ((rung_scale (fU t) 1074).trans (rungOf_fU h.top)).symm
    rw [e]
    refine rungOf_mono ?_
    exact most_fin n3 fC_val
end
end Go.Proofs.YtkdpjaaohddppaaDoor.Am
