/- Contracts and plain facts (LVp). -/
import Derived.Test.YtbgjcoochdljfaaDoorRLVs
namespace Go.Proofs.YtbgjcoochdljfaaDoorR.Am
noncomputable section
/- HOW MANY BITS. -/
def cnt (N : Nat) : Nat → Nat
  | 0 => 0
  | k + 1 => cnt N k + (if N.testBit k then 1 else 0)
theorem cnt_congr {N M : Nat} : ∀ {k : Nat}, (∀ i, i < k → N.testBit i = M.testBit i) → cnt N k = cnt M k
  | 0, _ => rfl
  | k + 1, h => by rw [cnt, cnt, cnt_congr fun i hi => h i (by omega), h k (by omega)]
theorem cnt_add (N a : Nat) : ∀ b, cnt N (a + b) = cnt N a + cnt (N >>> a) b
  | 0 => rfl
  | b + 1 => by rw [← Nat.add_assoc, cnt, cnt, cnt_add N a b, Nat.testBit_shiftRight, Nat.add_assoc]
theorem cnt_le (N : Nat) : ∀ k, cnt N k ≤ k
  | 0 => Nat.le_refl _
  | k + 1 => by have := cnt_le N k; rw [cnt]; split <;> omega
theorem cnt_word (N k : Nat) : cnt N (64 * (k + 1)) = cnt N (64 * k) + cnt (word N k) 64 := by
  rw [Nat.mul_add, Nat.mul_one, cnt_add]
  congr 1
  refine cnt_congr fun i hi => ?_
  rw [word_bit, Nat.testBit_shiftRight, decide_eq_true hi, Bool.true_and]
theorem cnt_byte {d y k : Nat} (hd : d < 256) : cnt (d + 256 * y) (8 + k) = cnt d 8 + cnt y k := by
  rw [cnt_add]
  congr 1
  · refine cnt_congr fun i hi => ?_
    have := Nat.testBit_mod_two_pow (d + 256 * y) 8 i
    rw [show (d + 256 * y) % 2 ^ 8 = d by omega, decide_eq_true hi, Bool.true_and] at this
    exact this.symm
  · rw [Nat.shiftRight_eq_div_pow, show (d + 256 * y) / 2 ^ 8 = y by omega]
/- Bytes side by side. -/
theorem and_byte {a b c e : Nat} (ha : a < 256) (hc : c < 256) : (a + 256 * b) &&& (c + 256 * e) = (a &&& c) + 256 * (b &&& e) := by
  have hac : a &&& c < 2 ^ 8 := Nat.and_lt_two_pow _ hc
  have h1 : ∀ x y i : Nat, x < 256 → (x + 256 * y).testBit i = if i < 8 then x.testBit i else y.testBit (i - 8) := fun x y i hx => by
    have := Nat.testBit_two_pow_mul_add y (show x < 2 ^ 8 from hx) i
    rw [← this]; congr 1; omega
  refine Nat.eq_of_testBit_eq fun i => ?_
  rw [Nat.testBit_and, h1 _ _ _ ha, h1 _ _ _ hc, h1 _ _ _ hac]
  split <;> rw [Nat.testBit_and]
/-- A byte in each place. -/
def bmask (c : Nat) : Nat → Nat
  | 0 => 0
  | k + 1 => c + 256 * bmask c k
def sw1 (k x : Nat) : Nat := (x / 2 &&& bmask 85 k) + (x &&& bmask 85 k)
def sw2 (k x : Nat) : Nat := (x / 4 &&& bmask 51 k) + (x &&& bmask 51 k)
def sw3 (k x : Nat) : Nat := (x / 16 + x) &&& bmask 15 k
def b1 (d : Nat) : Nat := (d / 2 &&& 85) + (d &&& 85)
def b2 (d : Nat) : Nat := (d / 4 &&& 51) + (d &&& 51)
def b3 (d : Nat) : Nat := (d / 16 + d) &&& 15
theorem b1_tab : ∀ d : Fin 256, ∀ q : Fin 2, ((d.1 / 2 + 128 * q.1) &&& 85) = (d.1 / 2 &&& 85) := by decide +kernel
theorem b2_tab : ∀ d : Fin 256, ∀ q : Fin 4, ((d.1 / 4 + 64 * q.1) &&& 51) = (d.1 / 4 &&& 51) := by decide +kernel
theorem b_le : ∀ d : Fin 256, b1 d.1 < 256 ∧ b2 (b1 d.1) ≤ 68 ∧ b2 (b1 d.1) % 16 ≤ 4 ∧ b2 (b1 d.1) / 16 ≤ 4 ∧ b3 (b2 (b1 d.1)) = cnt d.1 8 := by decide +kernel
theorem b3_tab : ∀ d : Fin 69, ∀ q : Fin 5, ((d.1 / 16 + d.1 + 16 * q.1) &&& 15) = ((d.1 / 16 + d.1) &&& 15) := by decide +kernel
theorem sw1_byte {d y k : Nat} (hd : d < 256) : sw1 (k + 1) (d + 256 * y) = b1 d + 256 * sw1 k y := by
  have e : (d + 256 * y) / 2 = (d / 2 + 128 * (y % 2)) + 256 * (y / 2) := by omega
  have h := b1_tab ⟨d, hd⟩ ⟨y % 2, by omega⟩
  simp only at h
  unfold sw1 b1
  rw [bmask, e, and_byte (by omega) (by decide), and_byte hd (by decide), h]
  omega
theorem sw2_byte {d y k : Nat} (hd : d < 256) : sw2 (k + 1) (d + 256 * y) = b2 d + 256 * sw2 k y := by
  have e : (d + 256 * y) / 4 = (d / 4 + 64 * (y % 4)) + 256 * (y / 4) := by omega
  have h := b2_tab ⟨d, hd⟩ ⟨y % 4, by omega⟩
  simp only at h
  unfold sw2 b2
  rw [bmask, e, and_byte (by omega) (by decide), and_byte hd (by decide), h]
  omega
theorem sw3_byte {d y k : Nat} (hd : d ≤ 68) (hy : y % 16 ≤ 4) : sw3 (k + 1) (d + 256 * y) = b3 d + 256 * sw3 k y := by
  have e : (d + 256 * y) / 16 + (d + 256 * y) = (d / 16 + d + 16 * (y % 16)) + 256 * (y / 16 + y) := by omega
  have h := b3_tab ⟨d, by omega⟩ ⟨y % 16, by omega⟩
  simp only at h
  unfold sw3 b3
  rw [bmask, e, and_byte (by omega) (by decide), h]
theorem sw12_mod : ∀ {k y : Nat}, sw2 k (sw1 k y) % 16 ≤ 4
  | 0, y => by simp [sw1, sw2, bmask]
  | k + 1, y => by
    have e : y = y % 256 + 256 * (y / 256) := by omega
    have := b_le ⟨y % 256, by omega⟩
    simp only at this
    rw [e, sw1_byte (by omega), sw2_byte (by omega)]
    omega
theorem sw_byte {d y k : Nat} (hd : d < 256) : sw3 (k + 1) (sw2 (k + 1) (sw1 (k + 1) (d + 256 * y))) = cnt d 8 + 256 * sw3 k (sw2 k (sw1 k y)) := by
  have := b_le ⟨d, hd⟩
  simp only at this
  obtain ⟨h1, h2, h3, h4, h5⟩ := this
  rw [sw1_byte hd, sw2_byte h1, sw3_byte h2 sw12_mod, h5]
theorem dv1 {c Y : Nat} (h : c ≤ 8) : (c + 256 * Y) / 256 = Y := by omega
theorem dv2 {a b Y : Nat} (h0 : a ≤ 16) (h1 : b ≤ 16) : (a + 256 * (b + 256 * Y)) / 65536 = Y := by omega
theorem dv3 {a b c d Y : Nat} (h0 : a ≤ 32) (h1 : b ≤ 32) (h2 : c ≤ 32) (h3 : d ≤ 32) : (a + 256 * (b + 256 * (c + 256 * (d + 256 * Y)))) / 4294967296 = Y := by omega
theorem md8 {a Y : Nat} (h : a ≤ 64) : (a + 256 * Y) % 128 = a := by omega
theorem top8 {c0 c1 c2 c3 c4 c5 c6 c7 : Nat} (h0 : c0 ≤ 64) (h1 : c1 ≤ 64) (h2 : c2 ≤ 64) (h3 : c3 ≤ 64) (h4 : c4 ≤ 64) (h5 : c5 ≤ 64) (h6 : c6 ≤ 64) (h7 : c7 ≤ 64) :
    c0 + 256 * (c1 + 256 * (c2 + 256 * (c3 + 256 * (c4 + 256 * (c5 + 256 * (c6 + 256 * c7)))))) < 9223372036854775808 := by omega
theorem lin4 (c0 c1 c2 c3 c4 c5 c6 c7 : Nat) : c0 + 256 * (c1 + 256 * (c2 + 256 * (c3 + 256 * (c4 + 256 * (c5 + 256 * (c6 + 256 * c7)))))) + (c1 + 256 * (c2 + 256 * (c3 + 256 * (c4 + 256 * (c5 + 256 * (c6 + 256 * c7)))))) =
    (c0 + c1) + 256 * ((c1 + c2) + 256 * ((c2 + c3) + 256 * ((c3 + c4) + 256 * ((c4 + c5) + 256 * ((c5 + c6) + 256 * ((c6 + c7) + 256 * c7)))))) := by omega
theorem lin5 (d0 d1 d2 d3 d4 d5 d6 d7 : Nat) : d0 + 256 * (d1 + 256 * (d2 + 256 * (d3 + 256 * (d4 + 256 * (d5 + 256 * (d6 + 256 * d7)))))) + (d2 + 256 * (d3 + 256 * (d4 + 256 * (d5 + 256 * (d6 + 256 * d7))))) =
    (d0 + d2) + 256 * ((d1 + d3) + 256 * ((d2 + d4) + 256 * ((d3 + d5) + 256 * ((d4 + d6) + 256 * ((d5 + d7) + 256 * (d6 + 256 * d7)))))) := by omega
theorem lin6 (d0 d1 d2 d3 d4 d5 d6 d7 : Nat) : d0 + 256 * (d1 + 256 * (d2 + 256 * (d3 + 256 * (d4 + 256 * (d5 + 256 * (d6 + 256 * d7)))))) + (d4 + 256 * (d5 + 256 * (d6 + 256 * d7))) =
    (d0 + d4) + 256 * ((d1 + d5) + 256 * ((d2 + d6) + 256 * ((d3 + d7) + 256 * (d4 + 256 * (d5 + 256 * (d6 + 256 * d7)))))) := by omega
theorem lin8 (c0 c1 c2 c3 c4 c5 c6 c7 : Nat) : c0 + c1 + (c2 + c3) + (c4 + c5 + (c6 + c7)) = c0 + c1 + c2 + c3 + c4 + c5 + c6 + c7 := by omega
theorem sum8 {c0 c1 c2 c3 c4 c5 c6 c7 x4 x5 x6 x3 : Nat} (h0 : c0 ≤ 8) (h1 : c1 ≤ 8) (h2 : c2 ≤ 8) (h3 : c3 ≤ 8) (h4 : c4 ≤ 8) (h5 : c5 ≤ 8) (h6 : c6 ≤ 8) (h7 : c7 ≤ 8)
    (e3 : x3 = c0 + 256 * (c1 + 256 * (c2 + 256 * (c3 + 256 * (c4 + 256 * (c5 + 256 * (c6 + 256 * c7))))))) (e4 : x4 = x3 + x3 / 256) (e5 : x5 = x4 + x4 / 65536) (e6 : x6 = x5 + x5 / 4294967296) :
    x6 % 128 = c0 + c1 + c2 + c3 + c4 + c5 + c6 + c7 ∧ x6 < 9223372036854775808 ∧ x4 ≤ x6 ∧ x5 ≤ x6 := by
  have l5 : x4 ≤ x5 := by rw [e5]; exact Nat.le_add_right _ _
  have l6 : x5 ≤ x6 := by rw [e6]; exact Nat.le_add_right _ _
  rw [e3, dv1 h0, lin4] at e4
  have g0 : c0 + c1 ≤ 16 := Nat.add_le_add h0 h1
  have g1 : c1 + c2 ≤ 16 := Nat.add_le_add h1 h2
  have g2 : c2 + c3 ≤ 16 := Nat.add_le_add h2 h3
  have g3 : c3 + c4 ≤ 16 := Nat.add_le_add h3 h4
  have g4 : c4 + c5 ≤ 16 := Nat.add_le_add h4 h5
  have g5 : c5 + c6 ≤ 16 := Nat.add_le_add h5 h6
  have g6 : c6 + c7 ≤ 16 := Nat.add_le_add h6 h7
  rw [e4, dv2 g0 g1, lin5] at e5
  have k0 := Nat.add_le_add g0 g2
  have k1 := Nat.add_le_add g1 g3
  have k2 := Nat.add_le_add g2 g4
  have k3 := Nat.add_le_add g3 g5
  have k4 := Nat.add_le_add g4 g6
  have k5 := Nat.add_le_add g5 h7
  rw [e5, dv3 k0 k1 k2 k3, lin6] at e6
  refine ⟨?_, ?_, Nat.le_trans l5 l6, l6⟩
  · rw [e6, md8 (Nat.add_le_add k0 k4)]; exact lin8 ..
  · rw [e6]; exact top8 (Nat.add_le_add k0 k4) (Nat.le_trans (Nat.add_le_add k1 k5) (by decide)) (Nat.le_trans (Nat.add_le_add k2 g6) (by decide)) (Nat.le_trans (Nat.add_le_add k3 h7) (by decide)) (Nat.le_trans k4 (by decide)) (Nat.le_trans k5 (by decide)) (Nat.le_trans g6 (by decide)) (Nat.le_trans h7 (by decide))
theorem sw_all (x : Nat) (hx : x < 18446744073709551616) : ∃ c0 c1 c2 c3 c4 c5 c6 c7 : Nat, c0 ≤ 8 ∧ c1 ≤ 8 ∧ c2 ≤ 8 ∧ c3 ≤ 8 ∧ c4 ≤ 8 ∧ c5 ≤ 8 ∧ c6 ≤ 8 ∧ c7 ≤ 8 ∧
    sw3 8 (sw2 8 (sw1 8 x)) = c0 + 256 * (c1 + 256 * (c2 + 256 * (c3 + 256 * (c4 + 256 * (c5 + 256 * (c6 + 256 * c7)))))) ∧ cnt x 64 = c0 + c1 + c2 + c3 + c4 + c5 + c6 + c7 := by
  obtain ⟨y1, e1⟩ : ∃ y, y = x / 256 := ⟨_, rfl⟩
  obtain ⟨y2, e2⟩ : ∃ y, y = y1 / 256 := ⟨_, rfl⟩
  obtain ⟨y3, e3⟩ : ∃ y, y = y2 / 256 := ⟨_, rfl⟩
  obtain ⟨y4, e4⟩ : ∃ y, y = y3 / 256 := ⟨_, rfl⟩
  obtain ⟨y5, e5⟩ : ∃ y, y = y4 / 256 := ⟨_, rfl⟩
  obtain ⟨y6, e6⟩ : ∃ y, y = y5 / 256 := ⟨_, rfl⟩
  obtain ⟨y7, e7⟩ : ∃ y, y = y6 / 256 := ⟨_, rfl⟩
  have hs : x = x % 256 + 256 * (y1 % 256 + 256 * (y2 % 256 + 256 * (y3 % 256 + 256 * (y4 % 256 + 256 * (y5 % 256 + 256 * (y6 % 256 + 256 * (y7 + 256 * 0))))))) := by omega
  have h7 : y7 < 256 := by omega
  refine ⟨cnt (x % 256) 8, cnt (y1 % 256) 8, cnt (y2 % 256) 8, cnt (y3 % 256) 8, cnt (y4 % 256) 8, cnt (y5 % 256) 8, cnt (y6 % 256) 8, cnt y7 8, cnt_le _ _, cnt_le _ _, cnt_le _ _, cnt_le _ _, cnt_le _ _, cnt_le _ _, cnt_le _ _, cnt_le _ _, ?_, ?_⟩
  · conv => lhs; rw [hs]
    rw [sw_byte (by omega), sw_byte (by omega), sw_byte (by omega), sw_byte (by omega), sw_byte (by omega), sw_byte (by omega), sw_byte (by omega), sw_byte h7]
    simp [sw1, sw2, sw3, bmask]
  · conv => lhs; rw [hs]
    rw [show 64 = 8 + (8 + (8 + (8 + (8 + (8 + (8 + (8 + 0))))))) by rfl, cnt_byte (by omega), cnt_byte (by omega), cnt_byte (by omega), cnt_byte (by omega), cnt_byte (by omega), cnt_byte (by omega), cnt_byte (by omega), cnt_byte h7]
    simp [cnt]; omega
theorem bm85 : bmask 85 8 = 6148914691236517205 := by rfl
theorem bm51 : bmask 51 8 = 3689348814741910323 := by rfl
theorem bm15 : bmask 15 8 = 1085102592571150095 := by rfl
end
end Go.Proofs.YtbgjcoochdljfaaDoorR.Am
