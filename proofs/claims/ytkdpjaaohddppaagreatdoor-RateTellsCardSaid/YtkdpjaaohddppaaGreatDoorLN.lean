/- Contracts and plain facts (LN). -/
import Derived.Test.YtkdpjaaohddppaaGreatDoorG
import Derived.Test.YtkdpjaaohddppaaGreatDoorE
import Derived.Test.YtkdpjaaohddppaaGreatDoorL1
import Derived.Test.YtkdpjaaohddppaaGreatDoorL3
namespace Go.Proofs.YtkdpjaaohddppaaGreatDoor.Am
noncomputable section
/- CONTRACTS OF GO's LIBRARY: decimal texts of numbers. -/
def len64 (x : Nat) : Nat := if x = 0 then 0 else x.log2 + 1
theorem len64_of {x k : Nat} (h0 : 2 ^ k ≤ x) (h1 : x < 2 ^ (k + 1)) : len64 x = k + 1 := by
  have hp : 0 < 2 ^ k := Nat.pos_of_ne_zero (by simp)
  rw [len64,if_neg (by omega),(Nat.log2_eq_iff (by omega)).2 ⟨h0,h1⟩]
theorem len64_bounds {x : Nat} (h : x ≠ 0) : ∃ k,len64 x = k + 1 ∧ 2 ^ k ≤ x ∧ x < 2 ^ (k + 1) := by
  have := (Nat.log2_eq_iff h).1 rfl
  exact ⟨x.log2,by rw [len64,if_neg h],this⟩
theorem len64_shift {x k : Nat} (h : 2 ^ k ≤ x) : len64 x = k + len64 (x / 2 ^ k) := by
  have hp : 0 < 2 ^ k := Nat.pos_of_ne_zero (by simp)
  have h0 : x / 2 ^ k ≠ 0 := by
    have : 1 ≤ x / 2 ^ k := (Nat.le_div_iff_mul_le hp).2 (by omega)
    omega
  obtain ⟨j,h1,h2,h3⟩ := len64_bounds h0
  rw [h1]
  have : len64 x = (k + j) + 1 := by
    apply len64_of
    · have := (Nat.le_div_iff_mul_le hp).1 h2
      rw [Nat.pow_add,Nat.mul_comm]; exact this
    · have := (Nat.div_lt_iff_lt_mul hp).1 h3
      rw [show k + j + 1 = k + (j + 1) by omega,Nat.pow_add,Nat.mul_comm]; exact this
  omega
def len8T : List UInt8 := ([0,1,2,2] ++ List.replicate 4 3 ++ List.replicate 8 4 ++ List.replicate 16 5 ++ List.replicate 32 6 ++ List.replicate 64 7 ++ List.replicate 128 8)
theorem len8_tab : ∀ b : Fin 256,len8T[b.1]? = some (UInt8.ofNat (len64 b.1)) := by decide +kernel
theorem len8_eq : ([0,1,2,2,3,3,3,3,4,4,4,4,4,4,4,4,5,5,5,5,5,5,5,5,5,5,5,5,5,5,5,5,6,6,6,6,6,6,6,6,6,6,6,6,6,6,6,6,6,6,6,6,6,6,6,6,6,6,6,6,6,6,6,6,7,7,7,7,7,7,7,7,7,7,7,7,7,7,7,7,7,7,7,7,7,7,7,7,7,7,7,7,7,7,7,7,7,7,7,7,7,7,7,7,7,7,7,7,7,7,7,7,7,7,7,7,7,7,7,7,7,7,7,7,7,7,7,7,8,8,8,8,8,8,8,8,8,8,8,8,8,8,8,8,8,8,8,8,8,8,8,8,8,8,8,8,8,8,8,8,8,8,8,8,8,8,8,8,8,8,8,8,8,8,8,8,8,8,8,8,8,8,8,8,8,8,8,8,8,8,8,8,8,8,8,8,8,8,8,8,8,8,8,8,8,8,8,8,8,8,8,8,8,8,8,8,8,8,8,8,8,8,8,8,8,8,8,8,8,8,8,8,8,8,8,8,8,8,8,8,8,8,8,8,8,8,8,8,8,8,8,8,8,8,8,8] : List UInt8) = len8T := by decide +kernel
theorem len64_le {x k : Nat} (h : x < 2 ^ k) : len64 x ≤ k := by
  by_cases h0 : x = 0
  · subst h0; simp [len64]
  obtain ⟨j,h1,h2,h3⟩ := len64_bounds h0
  have : 2 ^ j < 2 ^ k := by omega
  have := (Nat.pow_lt_pow_iff_right (by omega : 1 < 2)).1 this
  omega
theorem len8_ret {b : Nat} (hb : b < 256) : len8T[b]? = some (UInt8.ofNat (len64 b)) ∧ ((UInt8.ofNat (len64 b)).toNat = len64 b) := by
  refine ⟨len8_tab ⟨b,hb⟩, ?_⟩
  have := len64_le (x := b) (k := 8) hb
  rw [UInt8.toNat_ofNat',Nat.mod_eq_of_lt (by omega)]
set_option maxRecDepth 100000 in
theorem len64_eq {x : Nat} (hx : x < 18446744073709551616) {h : AHeap} {n : Nat} : Ret EV61 76 [.int .u64 (x : Int)] h n (.int .i64 ((len64 x : Nat) : Int)) [] n := by
  refine rsx76 (by simp) (by simp) ?_
  have s32 : ∀ y : Int,0 ≤ y → shrI .u64 y 32 = y / 4294967296 := fun y hy => shrI_pos .u64 hy 32 (by decide)
  have s16 : ∀ y : Int,0 ≤ y → shrI .u64 y 16 = y / 65536 := fun y hy => shrI_pos .u64 hy 16 (by decide)
  have s8 : ∀ y : Int,0 ≤ y → shrI .u64 y 8 = y / 256 := fun y hy => shrI_pos .u64 hy 8 (by decide)
  have tab : ∀ b : Nat,b < 256 → ([0,1,2,2,3,3,3,3,4,4,4,4,4,4,4,4,5,5,5,5,5,5,5,5,5,5,5,5,5,5,5,5,6,6,6,6,6,6,6,6,6,6,6,6,6,6,6,6,6,6,6,6,6,6,6,6,6,6,6,6,6,6,6,6,7,7,7,7,7,7,7,7,7,7,7,7,7,7,7,7,7,7,7,7,7,7,7,7,7,7,7,7,7,7,7,7,7,7,7,7,7,7,7,7,7,7,7,7,7,7,7,7,7,7,7,7,7,7,7,7,7,7,7,7,7,7,7,7,8,8,8,8,8,8,8,8,8,8,8,8,8,8,8,8,8,8,8,8,8,8,8,8,8,8,8,8,8,8,8,8,8,8,8,8,8,8,8,8,8,8,8,8,8,8,8,8,8,8,8,8,8,8,8,8,8,8,8,8,8,8,8,8,8,8,8,8,8,8,8,8,8,8,8,8,8,8,8,8,8,8,8,8,8,8,8,8,8,8,8,8,8,8,8,8,8,8,8,8,8,8,8,8,8,8,8,8,8,8,8,8,8,8,8,8,8,8,8,8,8,8,8,8,8,8,8,8] : List UInt8)[b]? = some (UInt8.ofNat (len64 b)) := fun b hb => by rw [len8_eq]; exact (len8_ret hb).1
  have tab2 : ∀ b : Nat,b < 256 → (UInt8.ofNat (len64 b)).toNat = len64 b := fun b hb => (len8_ret hb).2
  have fin : ∀ b : Nat,b < 256 → len64 b ≤ 8 := fun b hb => len64_le (k := 8) hb
  generalize hT : ([0,1,2,2,3,3,3,3,4,4,4,4,4,4,4,4,5,5,5,5,5,5,5,5,5,5,5,5,5,5,5,5,6,6,6,6,6,6,6,6,6,6,6,6,6,6,6,6,6,6,6,6,6,6,6,6,6,6,6,6,6,6,6,6,7,7,7,7,7,7,7,7,7,7,7,7,7,7,7,7,7,7,7,7,7,7,7,7,7,7,7,7,7,7,7,7,7,7,7,7,7,7,7,7,7,7,7,7,7,7,7,7,7,7,7,7,7,7,7,7,7,7,7,7,7,7,7,7,8,8,8,8,8,8,8,8,8,8,8,8,8,8,8,8,8,8,8,8,8,8,8,8,8,8,8,8,8,8,8,8,8,8,8,8,8,8,8,8,8,8,8,8,8,8,8,8,8,8,8,8,8,8,8,8,8,8,8,8,8,8,8,8,8,8,8,8,8,8,8,8,8,8,8,8,8,8,8,8,8,8,8,8,8,8,8,8,8,8,8,8,8,8,8,8,8,8,8,8,8,8,8,8,8,8,8,8,8,8,8,8,8,8,8,8,8,8,8,8,8,8,8,8,8,8,8,8] : List UInt8) = T at tab
  have hTl : T.length = 256 := by rw [← hT]; rfl
  by_cases c1 : 4294967296 ≤ x
  · rw [len64_shift (x := x) (k := 32) c1,show 2 ^ 32 = 4294967296 from rfl]
    by_cases c2 : 65536 ≤ x / 4294967296
    · rw [len64_shift (x := x / 4294967296) (k := 16) c2,show 2 ^ 16 = 65536 from rfl]
      by_cases c3 : 256 ≤ x / 4294967296 / 65536
      · rw [len64_shift (x := x / 4294967296 / 65536) (k := 8) c3,show 2 ^ 8 = 256 from rfl]
        have hy : x / 4294967296 / 65536 / 256 < 256 := by omega
        have g := tab (x / 4294967296 / 65536 / 256) hy
        have g : T[((x : Int) / 4294967296 / 65536 / 256).toNat]? = some (UInt8.ofNat (len64 (x / 4294967296 / 65536 / 256))) := g
        have g2 := tab2 (x / 4294967296 / 65536 / 256) hy
        have g3 := fin (x / 4294967296 / 65536 / 256) hy
        generalize len64 (x / 4294967296 / 65536 / 256) = L at *
        simp -dsimp (discharger := omega) [B76,hT,s32,s16,s8,g,g2, -getElem?_pos]
        first | exact .refl _ | exact ⟨by omega, .refl _⟩
      · have hy : x / 4294967296 / 65536 < 256 := by omega
        have g := tab (x / 4294967296 / 65536) hy
        have g : T[((x : Int) / 4294967296 / 65536).toNat]? = some (UInt8.ofNat (len64 (x / 4294967296 / 65536))) := g
        have g2 := tab2 (x / 4294967296 / 65536) hy
        have g3 := fin (x / 4294967296 / 65536) hy
        generalize len64 (x / 4294967296 / 65536) = L at *
        simp -dsimp (discharger := omega) [B76,hT,s32,s16,g,g2, -getElem?_pos]
        first | exact .refl _ | exact ⟨by omega, .refl _⟩
    · by_cases c3 : 256 ≤ x / 4294967296
      · rw [len64_shift (x := x / 4294967296) (k := 8) c3,show 2 ^ 8 = 256 from rfl]
        have hy : x / 4294967296 / 256 < 256 := by omega
        have g := tab (x / 4294967296 / 256) hy
        have g : T[((x : Int) / 4294967296 / 256).toNat]? = some (UInt8.ofNat (len64 (x / 4294967296 / 256))) := g
        have g2 := tab2 (x / 4294967296 / 256) hy
        have g3 := fin (x / 4294967296 / 256) hy
        generalize len64 (x / 4294967296 / 256) = L at *
        simp -dsimp (discharger := omega) [B76,hT,s32,s8,g,g2, -getElem?_pos]
        first | exact .refl _ | exact ⟨by omega, .refl _⟩
      · have hy : x / 4294967296 < 256 := by omega
        have g := tab (x / 4294967296) hy
        have g : T[((x : Int) / 4294967296).toNat]? = some (UInt8.ofNat (len64 (x / 4294967296))) := g
        have g2 := tab2 (x / 4294967296) hy
        have g3 := fin (x / 4294967296) hy
        generalize len64 (x / 4294967296) = L at *
        simp -dsimp (discharger := omega) [B76,hT,s32,g,g2, -getElem?_pos]
        first | exact .refl _ | exact ⟨by omega, .refl _⟩
  · by_cases c2 : 65536 ≤ x
    · rw [len64_shift (x := x) (k := 16) c2,show 2 ^ 16 = 65536 from rfl]
      by_cases c3 : 256 ≤ x / 65536
      · rw [len64_shift (x := x / 65536) (k := 8) c3,show 2 ^ 8 = 256 from rfl]
        have hy : x / 65536 / 256 < 256 := by omega
        have g := tab (x / 65536 / 256) hy
        have g : T[((x : Int) / 65536 / 256).toNat]? = some (UInt8.ofNat (len64 (x / 65536 / 256))) := g
        have g2 := tab2 (x / 65536 / 256) hy
        have g3 := fin (x / 65536 / 256) hy
        generalize len64 (x / 65536 / 256) = L at *
        simp -dsimp (discharger := omega) [B76,hT,s16,s8,g,g2, -getElem?_pos]
        first | exact .refl _ | exact ⟨by omega, .refl _⟩
      · have hy : x / 65536 < 256 := by omega
        have g := tab (x / 65536) hy
        have g : T[((x : Int) / 65536).toNat]? = some (UInt8.ofNat (len64 (x / 65536))) := g
        have g2 := tab2 (x / 65536) hy
        have g3 := fin (x / 65536) hy
        generalize len64 (x / 65536) = L at *
        simp -dsimp (discharger := omega) [B76,hT,s16,g,g2, -getElem?_pos]
        first | exact .refl _ | exact ⟨by omega, .refl _⟩
    · by_cases c3 : 256 ≤ x
      · rw [len64_shift (x := x) (k := 8) c3,show 2 ^ 8 = 256 from rfl]
        have hy : x / 256 < 256 := by omega
        have g := tab (x / 256) hy
        have g : T[((x : Int) / 256).toNat]? = some (UInt8.ofNat (len64 (x / 256))) := g
        have g2 := tab2 (x / 256) hy
        have g3 := fin (x / 256) hy
        generalize len64 (x / 256) = L at *
        simp -dsimp (discharger := omega) [B76,hT,s8,g,g2, -getElem?_pos]
        first | exact .refl _ | exact ⟨by omega, .refl _⟩
      · have hy : x < 256 := by omega
        have g := tab (x) hy
        have g : T[x]? = some (UInt8.ofNat (len64 (x))) := g
        have g2 := tab2 (x) hy
        have g3 := fin (x) hy
        generalize len64 x = L at *
        simp -dsimp (discharger := omega) [B76,hT,g,g2, -getElem?_pos]
        first | exact .refl _ | exact ⟨by omega, .refl _⟩
def powT : List Value := (List.range 20).map fun k => .int .u64 ((10 ^ k : Nat) : Int)
def HasPow (h : AHeap) : Prop := h.get 8 = some (.cells none powT 0)
theorem HasPow.sub {h h' : AHeap} (x : HasPow h) (hs : HSub h h') : HasPow h' := hs _ _ x
theorem pow_get {k : Nat} (hk : k < 20) : powT[k]? = some (.int .u64 ((10 ^ k : Nat) : Int)) := by
  simp [powT,hk]
theorem nd_tab : ∀ L : Fin 65,L.1 = 0 ∨ (2 ^ L.1 ≤ 10 ^ (L.1 * 78913 / 262144 + 1) ∧ (L.1 * 78913 / 262144 = 0 ∨ 10 ^ (L.1 * 78913 / 262144 - 1) ≤ 2 ^ (L.1 - 1)) ∧ L.1 * 78913 / 262144 < 20) := by decide +kernel
theorem nd_law {x : Nat} (h0 : x ≠ 0) (hx : x < 18446744073709551616) : len64 x * 78913 / 262144 < 20 ∧ ndig x = len64 x * 78913 / 262144 + if 10 ^ (len64 x * 78913 / 262144) ≤ x then 1 else 0 := by
  obtain ⟨j,h1,h2,h3⟩ := len64_bounds h0
  have hle : len64 x ≤ 64 := len64_le (k := 64) hx
  rcases nd_tab ⟨len64 x,by omega⟩ with e | ⟨a,b,c⟩
  · simp only at e; omega
  simp only at a b c
  refine ⟨c, ?_⟩
  generalize len64 x * 78913 / 262144 = k at *
  rw [h1] at a b
  rw [Nat.add_sub_cancel] at b
  split
  · rename_i hk
    exact ndig_of (.inr hk) (by omega)
  · rename_i hk
    rcases b with b | b
    · subst b; simp at hk; omega
    · obtain ⟨i,rfl⟩ : ∃ i,k = i + 1 := by
        cases k with
        | zero => simp at hk; omega
        | succ i => exact ⟨i,rfl⟩
      rw [Nat.add_sub_cancel] at b
      exact ndig_of (.inr (by omega)) (by omega)
theorem bool2_ret (b : Bool) {h : AHeap} {n : Nat} : Ret EV61 117 [.bool b] h n (.int .i64 (if b then 1 else 0)) [] n := by
  refine rsx117 (by simp) (by simp) ?_
  cases b with
  | true => simp -dsimp (discharger := omega) [B117,HSub.refl]
  | false => simp -dsimp (discharger := omega) [B117,HSub.refl]
theorem log10_ret {L : Nat} (hL : L ≤ 64) {h : AHeap} {n : Nat} : Ret EV61 80 [.int .i64 (L : Int)] h n (.int .i64 ((L * 78913 / 262144 : Nat) : Int)) [] n := by
  refine rsx80 (by simp) (by simp) ?_
  have s18 : ∀ y : Int,0 ≤ y → shrI .i64 y 18 = y / 262144 := fun y hy => shrI_pos .i64 hy 18 (by decide)
  simp -dsimp (discharger := omega) [B80,s18]
  exact .refl _
theorem numDigits_ret {x : Nat} (h0 : x ≠ 0) (hx : x < 18446744073709551616) {h : AHeap} (hp : HasPow h) {n : Nat} : Ret EV61 79 [.int .u64 (x : Int)] h n (.int .i64 ((ndig x : Nat) : Int)) [] n := by
  obtain ⟨hk,hn⟩ := nd_law h0 hx
  have hle : len64 x ≤ 64 := len64_le (k := 64) hx
  refine rsx79 (by simp) (by simp) ?_
  simp -dsimp (discharger := omega) [B79]
  with_reducible refine call_ret (len64_eq hx) ?_
  simp -dsimp (discharger := omega) []
  with_reducible refine call_ret (log10_ret hle) ?_
  generalize len64 x * 78913 / 262144 = k at *
  have hg := pow_get hk
  have hlen : powT.length = 20 := rfl
  unfold HasPow at hp
  generalize 10 ^ k = P at *
  have hg1 := take1 hg
  simp -dsimp (discharger := omega) [hp,AHeap.read_of hp,hlen,hg1]
  with_reducible refine call_ret (bool2_ret _) ?_
  rw [hn]
  by_cases hc : P ≤ x
  · simp -dsimp (discharger := omega) [hc]
    exact .refl _
  · simp -dsimp (discharger := omega) [hc]
    exact .refl _
/- The digits,laid from behind. -/
def digN (j u : Nat) : UInt8 := UInt8.ofNat (48 + u / 10 ^ j % 10)
def dJ (y : Int) : UInt8 := UInt8.ofNat (48 + y.toNat)
theorem smalls_tab : ∀ x : Fin 100,([48,48,48,49,48,50,48,51,48,52,48,53,48,54,48,55,48,56,48,57,49,48,49,49,49,50,49,51,49,52,49,53,49,54,49,55,49,56,49,57,50,48,50,49,50,50,50,51,50,52,50,53,50,54,50,55,50,56,50,57,51,48,51,49,51,50,51,51,51,52,51,53,51,54,51,55,51,56,51,57,52,48,52,49,52,50,52,51,52,52,52,53,52,54,52,55,52,56,52,57,53,48,53,49,53,50,53,51,53,52,53,53,53,54,53,55,53,56,53,57,54,48,54,49,54,50,54,51,54,52,54,53,54,54,54,55,54,56,54,57,55,48,55,49,55,50,55,51,55,52,55,53,55,54,55,55,55,56,55,57,56,48,56,49,56,50,56,51,56,52,56,53,56,54,56,55,56,56,56,57,57,48,57,49,57,50,57,51,57,52,57,53,57,54,57,55,57,56,57,57] : List UInt8)[x.1 * 2 + 1]? = some (UInt8.ofNat (48 + x.1 % 10)) ∧ ([48,48,48,49,48,50,48,51,48,52,48,53,48,54,48,55,48,56,48,57,49,48,49,49,49,50,49,51,49,52,49,53,49,54,49,55,49,56,49,57,50,48,50,49,50,50,50,51,50,52,50,53,50,54,50,55,50,56,50,57,51,48,51,49,51,50,51,51,51,52,51,53,51,54,51,55,51,56,51,57,52,48,52,49,52,50,52,51,52,52,52,53,52,54,52,55,52,56,52,57,53,48,53,49,53,50,53,51,53,52,53,53,53,54,53,55,53,56,53,57,54,48,54,49,54,50,54,51,54,52,54,53,54,54,54,55,54,56,54,57,55,48,55,49,55,50,55,51,55,52,55,53,55,54,55,55,55,56,55,57,56,48,56,49,56,50,56,51,56,52,56,53,56,54,56,55,56,56,56,57,57,48,57,49,57,50,57,51,57,52,57,53,57,54,57,55,57,56,57,57] : List UInt8)[x.1 * 2]? = some (UInt8.ofNat (48 + x.1 / 10)) := by decide +kernel
theorem digN_add (K j u : Nat) : digN (K + j) u = UInt8.ofNat (48 + u / 10 ^ K / 10 ^ j % 10) := by
  rw [digN,Nat.div_div_eq_div_mul,Nat.pow_add]
theorem set_two {l : List UInt8} {o N nd u0 i0 i1 : Nat} (hN : nd ≤ N) (h2 : 2 ≤ nd) (hl : o + N ≤ l.length) (hd : ∀ j,j < N - nd → l[o + N - 1 - j]? = some (digN j u0)) {a b : UInt8} (ha : a = digN (N - nd) u0) (hb : b = digN (N - nd + 1) u0) (e0 : i0 = o + (nd - 1)) (e1 : i1 = o + (nd - 2)) :
    ∀ j,j < N - (nd - 2) → ((l.set i0 a).set i1 b)[o + N - 1 - j]? = some (digN j u0) := by
  intro j hj
  rw [List.getElem?_set,List.getElem?_set,List.length_set]
  by_cases h1 : j = N - nd + 1
  · subst h1
    rw [if_pos (by omega),if_pos (by omega),hb]
  · rw [if_neg (by omega)]
    by_cases h0 : j = N - nd
    · subst h0
      rw [if_pos (by omega),if_pos (by omega),ha]
    · rw [if_neg (by omega)]
      exact hd j (by omega)
theorem dgs_get : ∀ (k u j : Nat),j < k → (dgs k u)[k - 1 - j]? = some (digN j u)
  | k + 1,u,0,h => by
    simp only [dgs]
    rw [List.getElem?_append_right (by simp)]
    simp [digN]
  | k + 1,u,j + 1,h => by
    simp only [dgs]
    rw [List.getElem?_append_left (by simp; omega)]
    have := dgs_get k (u / 10) j (by omega)
    rw [show k + 1 - 1 - (j + 1) = k - 1 - j by omega,this,digN,digN,Nat.div_div_eq_div_mul,Nat.pow_succ,Nat.mul_comm 10]
theorem dgs_at {l : List UInt8} {o N u0 : Nat} (_hl : o + N ≤ l.length) (hd : ∀ j,j < N → l[o + N - 1 - j]? = some (digN j u0)) : (l.drop o).take N = dgs N u0 := by
  apply List.ext_getElem?
  intro i
  rcases Nat.lt_or_ge i N with h | h
  · have h1 := dgs_get N u0 (N - 1 - i) (by omega)
    have h2 := hd (N - 1 - i) (by omega)
    rw [show N - 1 - (N - 1 - i) = i by omega] at h1
    rw [show o + N - 1 - (N - 1 - i) = o + i by omega] at h2
    rw [List.getElem?_take,if_pos h,List.getElem?_drop,h1,h2]
  · rw [List.getElem?_eq_none (by simp; omega),List.getElem?_eq_none (by simp; omega)]
set_option maxRecDepth 100000 in
theorem fmt_r0 {σ : Fr} {G : AHeap} {n : Nat} {Q : Ex → Fr → AHeap → Nat → Prop} {tk : Tok Q} {ty z o N k nd : Nat} {l : List UInt8} {y : Int} (hz : G.get z = some (.cells (some ty) (u8s l) 32)) (hzn : z < n) (hl : l.length = 32) (ho : o + N ≤ 32) (hnd : nd ≤ N) (h2 : 2 ≤ nd)
    (g0 : σ.get 0 = some (.slice (some ⟨z,o,some 32⟩) N k)) (g4 : σ.get 4 = some (.int .i64 (nd : Int))) (gy : σ.get 9 = some (.int .u32 (y * 2))) (y0 : 0 ≤ y) (y1 : y < 100)
    (hQ : ∀ σ' G',(∀ j,j < 17 → σ'.get j = σ.get j) → (∀ i,¬ i = z → G'.get i = G.get i) → G'.get z = some (.cells (some ty) (u8s ((l.set (o + (nd - 1)) (dJ (y % 10))).set (o + (nd - 2)) (dJ (y / 10)))) 32) → Q .normal σ' G' n) : wx EV61 R116_0 σ G n Q tk := by
  have tab := smalls_tab
  generalize hS : ([48,48,48,49,48,50,48,51,48,52,48,53,48,54,48,55,48,56,48,57,49,48,49,49,49,50,49,51,49,52,49,53,49,54,49,55,49,56,49,57,50,48,50,49,50,50,50,51,50,52,50,53,50,54,50,55,50,56,50,57,51,48,51,49,51,50,51,51,51,52,51,53,51,54,51,55,51,56,51,57,52,48,52,49,52,50,52,51,52,52,52,53,52,54,52,55,52,56,52,57,53,48,53,49,53,50,53,51,53,52,53,53,53,54,53,55,53,56,53,57,54,48,54,49,54,50,54,51,54,52,54,53,54,54,54,55,54,56,54,57,55,48,55,49,55,50,55,51,55,52,55,53,55,54,55,55,55,56,55,57,56,48,56,49,56,50,56,51,56,52,56,53,56,54,56,55,56,56,56,57,57,48,57,49,57,50,57,51,57,52,57,53,57,54,57,55,57,56,57,57] : List UInt8) = S at tab
  have hSl : S.length = 200 := by rw [← hS]; rfl
  have gA : S[(y * 2 + 1).toNat]? = some (dJ (y % 10)) := by
    have := (tab ⟨y.toNat,by omega⟩).1
    simp only at this
    rw [show (y * 2 + 1).toNat = y.toNat * 2 + 1 by omega,this,dJ,show (y % 10).toNat = y.toNat % 10 by omega]
  have gB : S[(y * 2).toNat]? = some (dJ (y / 10)) := by
    have := (tab ⟨y.toNat,by omega⟩).2
    simp only at this
    rw [show (y * 2).toNat = y.toNat * 2 by omega,this,dJ,show (y / 10).toNat = y.toNat / 10 by omega]
  have e0 : (nd : Int) - 1 = ((nd - 1 : Nat) : Int) := by omega
  have e1 : (nd : Int) - 2 = ((nd - 2 : Nat) : Int) := by omega
  have c0 := cset (l := l) (i := o + (nd - 1)) (by omega) (dJ (y % 10))
  have c1 := cset (l := l.set (o + (nd - 1)) (dJ (y % 10))) (i := o + (nd - 2)) (by rw [List.length_set]; omega) (dJ (y / 10))
  simp -dsimp (discharger := omega) [hS,hSl,gA,gB,g0,g4,gy,hz,hl,e0,e1,c0,c1, -getElem?_pos]
  refine ⟨hzn,hQ _ _ (fun j hj => by simp (discharger := omega) []) (fun i hi => ?_) (by simp)⟩
  rw [AHeap.get_put_ne _ _ (fun e => hi e.symm),AHeap.get_put_ne _ _ (fun e => hi e.symm)]
set_option maxRecDepth 100000 in
theorem fmt_r1 {σ : Fr} {G : AHeap} {n : Nat} {Q : Ex → Fr → AHeap → Nat → Prop} {tk : Tok Q} {ty z o N k nd : Nat} {l : List UInt8} {y : Int} (hz : G.get z = some (.cells (some ty) (u8s l) 32)) (hzn : z < n) (hl : l.length = 32) (ho : o + N ≤ 32) (hnd : nd ≤ N) (h4 : 4 ≤ nd)
    (g0 : σ.get 0 = some (.slice (some ⟨z,o,some 32⟩) N k)) (g4 : σ.get 4 = some (.int .i64 (nd : Int))) (gy : σ.get 8 = some (.int .u32 (y * 2))) (y0 : 0 ≤ y) (y1 : y < 100)
    (hQ : ∀ σ' G',(∀ j,j < 17 → σ'.get j = σ.get j) → (∀ i,¬ i = z → G'.get i = G.get i) → G'.get z = some (.cells (some ty) (u8s ((l.set (o + (nd - 3)) (dJ (y % 10))).set (o + (nd - 4)) (dJ (y / 10)))) 32) → Q .normal σ' G' n) : wx EV61 R116_1 σ G n Q tk := by
  have tab := smalls_tab
  generalize hS : ([48,48,48,49,48,50,48,51,48,52,48,53,48,54,48,55,48,56,48,57,49,48,49,49,49,50,49,51,49,52,49,53,49,54,49,55,49,56,49,57,50,48,50,49,50,50,50,51,50,52,50,53,50,54,50,55,50,56,50,57,51,48,51,49,51,50,51,51,51,52,51,53,51,54,51,55,51,56,51,57,52,48,52,49,52,50,52,51,52,52,52,53,52,54,52,55,52,56,52,57,53,48,53,49,53,50,53,51,53,52,53,53,53,54,53,55,53,56,53,57,54,48,54,49,54,50,54,51,54,52,54,53,54,54,54,55,54,56,54,57,55,48,55,49,55,50,55,51,55,52,55,53,55,54,55,55,55,56,55,57,56,48,56,49,56,50,56,51,56,52,56,53,56,54,56,55,56,56,56,57,57,48,57,49,57,50,57,51,57,52,57,53,57,54,57,55,57,56,57,57] : List UInt8) = S at tab
  have hSl : S.length = 200 := by rw [← hS]; rfl
  have gA : S[(y * 2 + 1).toNat]? = some (dJ (y % 10)) := by
    have := (tab ⟨y.toNat,by omega⟩).1
    simp only at this
    rw [show (y * 2 + 1).toNat = y.toNat * 2 + 1 by omega,this,dJ,show (y % 10).toNat = y.toNat % 10 by omega]
  have gB : S[(y * 2).toNat]? = some (dJ (y / 10)) := by
    have := (tab ⟨y.toNat,by omega⟩).2
    simp only at this
    rw [show (y * 2).toNat = y.toNat * 2 by omega,this,dJ,show (y / 10).toNat = y.toNat / 10 by omega]
  have e0 : (nd : Int) - 3 = ((nd - 3 : Nat) : Int) := by omega
  have e1 : (nd : Int) - 4 = ((nd - 4 : Nat) : Int) := by omega
  have c0 := cset (l := l) (i := o + (nd - 3)) (by omega) (dJ (y % 10))
  have c1 := cset (l := l.set (o + (nd - 3)) (dJ (y % 10))) (i := o + (nd - 4)) (by rw [List.length_set]; omega) (dJ (y / 10))
  simp -dsimp (discharger := omega) [hS,hSl,gA,gB,g0,g4,gy,hz,hl,e0,e1,c0,c1, -getElem?_pos]
  refine ⟨hzn,hQ _ _ (fun j hj => by simp (discharger := omega) []) (fun i hi => ?_) (by simp)⟩
  rw [AHeap.get_put_ne _ _ (fun e => hi e.symm),AHeap.get_put_ne _ _ (fun e => hi e.symm)]
set_option maxRecDepth 100000 in
theorem fmt_r2 {σ : Fr} {G : AHeap} {n : Nat} {Q : Ex → Fr → AHeap → Nat → Prop} {tk : Tok Q} {ty z o N k nd : Nat} {l : List UInt8} {y : Int} (hz : G.get z = some (.cells (some ty) (u8s l) 32)) (hzn : z < n) (hl : l.length = 32) (ho : o + N ≤ 32) (hnd : nd ≤ N) (h6 : 6 ≤ nd)
    (g0 : σ.get 0 = some (.slice (some ⟨z,o,some 32⟩) N k)) (g4 : σ.get 4 = some (.int .i64 (nd : Int))) (gy : σ.get 11 = some (.int .u32 (y * 2))) (y0 : 0 ≤ y) (y1 : y < 100)
    (hQ : ∀ σ' G',(∀ j,j < 17 → σ'.get j = σ.get j) → (∀ i,¬ i = z → G'.get i = G.get i) → G'.get z = some (.cells (some ty) (u8s ((l.set (o + (nd - 5)) (dJ (y % 10))).set (o + (nd - 6)) (dJ (y / 10)))) 32) → Q .normal σ' G' n) : wx EV61 R116_2 σ G n Q tk := by
  have tab := smalls_tab
  generalize hS : ([48,48,48,49,48,50,48,51,48,52,48,53,48,54,48,55,48,56,48,57,49,48,49,49,49,50,49,51,49,52,49,53,49,54,49,55,49,56,49,57,50,48,50,49,50,50,50,51,50,52,50,53,50,54,50,55,50,56,50,57,51,48,51,49,51,50,51,51,51,52,51,53,51,54,51,55,51,56,51,57,52,48,52,49,52,50,52,51,52,52,52,53,52,54,52,55,52,56,52,57,53,48,53,49,53,50,53,51,53,52,53,53,53,54,53,55,53,56,53,57,54,48,54,49,54,50,54,51,54,52,54,53,54,54,54,55,54,56,54,57,55,48,55,49,55,50,55,51,55,52,55,53,55,54,55,55,55,56,55,57,56,48,56,49,56,50,56,51,56,52,56,53,56,54,56,55,56,56,56,57,57,48,57,49,57,50,57,51,57,52,57,53,57,54,57,55,57,56,57,57] : List UInt8) = S at tab
  have hSl : S.length = 200 := by rw [← hS]; rfl
  have gA : S[(y * 2 + 1).toNat]? = some (dJ (y % 10)) := by
    have := (tab ⟨y.toNat,by omega⟩).1
    simp only at this
    rw [show (y * 2 + 1).toNat = y.toNat * 2 + 1 by omega,this,dJ,show (y % 10).toNat = y.toNat % 10 by omega]
  have gB : S[(y * 2).toNat]? = some (dJ (y / 10)) := by
    have := (tab ⟨y.toNat,by omega⟩).2
    simp only at this
    rw [show (y * 2).toNat = y.toNat * 2 by omega,this,dJ,show (y / 10).toNat = y.toNat / 10 by omega]
  have e0 : (nd : Int) - 5 = ((nd - 5 : Nat) : Int) := by omega
  have e1 : (nd : Int) - 6 = ((nd - 6 : Nat) : Int) := by omega
  have c0 := cset (l := l) (i := o + (nd - 5)) (by omega) (dJ (y % 10))
  have c1 := cset (l := l.set (o + (nd - 5)) (dJ (y % 10))) (i := o + (nd - 6)) (by rw [List.length_set]; omega) (dJ (y / 10))
  simp -dsimp (discharger := omega) [hS,hSl,gA,gB,g0,g4,gy,hz,hl,e0,e1,c0,c1, -getElem?_pos]
  refine ⟨hzn,hQ _ _ (fun j hj => by simp (discharger := omega) []) (fun i hi => ?_) (by simp)⟩
  rw [AHeap.get_put_ne _ _ (fun e => hi e.symm),AHeap.get_put_ne _ _ (fun e => hi e.symm)]
set_option maxRecDepth 100000 in
theorem fmt_r3 {σ : Fr} {G : AHeap} {n : Nat} {Q : Ex → Fr → AHeap → Nat → Prop} {tk : Tok Q} {ty z o N k nd : Nat} {l : List UInt8} {y : Int} (hz : G.get z = some (.cells (some ty) (u8s l) 32)) (hzn : z < n) (hl : l.length = 32) (ho : o + N ≤ 32) (hnd : nd ≤ N) (h8 : 8 ≤ nd)
    (g0 : σ.get 0 = some (.slice (some ⟨z,o,some 32⟩) N k)) (g4 : σ.get 4 = some (.int .i64 (nd : Int))) (gy : σ.get 10 = some (.int .u32 (y * 2))) (y0 : 0 ≤ y) (y1 : y < 100)
    (hQ : ∀ σ' G',(∀ j,j < 17 → σ'.get j = σ.get j) → (∀ i,¬ i = z → G'.get i = G.get i) → G'.get z = some (.cells (some ty) (u8s ((l.set (o + (nd - 7)) (dJ (y % 10))).set (o + (nd - 8)) (dJ (y / 10)))) 32) → Q .normal σ' G' n) : wx EV61 R116_3 σ G n Q tk := by
  have tab := smalls_tab
  generalize hS : ([48,48,48,49,48,50,48,51,48,52,48,53,48,54,48,55,48,56,48,57,49,48,49,49,49,50,49,51,49,52,49,53,49,54,49,55,49,56,49,57,50,48,50,49,50,50,50,51,50,52,50,53,50,54,50,55,50,56,50,57,51,48,51,49,51,50,51,51,51,52,51,53,51,54,51,55,51,56,51,57,52,48,52,49,52,50,52,51,52,52,52,53,52,54,52,55,52,56,52,57,53,48,53,49,53,50,53,51,53,52,53,53,53,54,53,55,53,56,53,57,54,48,54,49,54,50,54,51,54,52,54,53,54,54,54,55,54,56,54,57,55,48,55,49,55,50,55,51,55,52,55,53,55,54,55,55,55,56,55,57,56,48,56,49,56,50,56,51,56,52,56,53,56,54,56,55,56,56,56,57,57,48,57,49,57,50,57,51,57,52,57,53,57,54,57,55,57,56,57,57] : List UInt8) = S at tab
  have hSl : S.length = 200 := by rw [← hS]; rfl
  have gA : S[(y * 2 + 1).toNat]? = some (dJ (y % 10)) := by
    have := (tab ⟨y.toNat,by omega⟩).1
    simp only at this
    rw [show (y * 2 + 1).toNat = y.toNat * 2 + 1 by omega,this,dJ,show (y % 10).toNat = y.toNat % 10 by omega]
  have gB : S[(y * 2).toNat]? = some (dJ (y / 10)) := by
    have := (tab ⟨y.toNat,by omega⟩).2
    simp only at this
    rw [show (y * 2).toNat = y.toNat * 2 by omega,this,dJ,show (y / 10).toNat = y.toNat / 10 by omega]
  have e0 : (nd : Int) - 7 = ((nd - 7 : Nat) : Int) := by omega
  have e1 : (nd : Int) - 8 = ((nd - 8 : Nat) : Int) := by omega
  have c0 := cset (l := l) (i := o + (nd - 7)) (by omega) (dJ (y % 10))
  have c1 := cset (l := l.set (o + (nd - 7)) (dJ (y % 10))) (i := o + (nd - 8)) (by rw [List.length_set]; omega) (dJ (y / 10))
  simp -dsimp (discharger := omega) [hS,hSl,gA,gB,g0,g4,gy,hz,hl,e0,e1,c0,c1, -getElem?_pos]
  refine ⟨hzn,hQ _ _ (fun j hj => by simp (discharger := omega) []) (fun i hi => ?_) (by simp)⟩
  rw [AHeap.get_put_ne _ _ (fun e => hi e.symm),AHeap.get_put_ne _ _ (fun e => hi e.symm)]
set_option maxRecDepth 100000 in
theorem fmt_r4 {σ : Fr} {G : AHeap} {n : Nat} {Q : Ex → Fr → AHeap → Nat → Prop} {tk : Tok Q} {ty z o N k nd : Nat} {l : List UInt8} {y : Int} (hz : G.get z = some (.cells (some ty) (u8s l) 32)) (hzn : z < n) (hl : l.length = 32) (ho : o + N ≤ 32) (hnd : nd ≤ N) (h2 : 2 ≤ nd)
    (g0 : σ.get 0 = some (.slice (some ⟨z,o,some 32⟩) N k)) (g4 : σ.get 4 = some (.int .i64 (nd : Int))) (gy : σ.get 15 = some (.int .u32 (y * 2))) (y0 : 0 ≤ y) (y1 : y < 100)
    (hQ : ∀ σ' G',(∀ j,j < 17 → σ'.get j = σ.get j) → (∀ i,¬ i = z → G'.get i = G.get i) → G'.get z = some (.cells (some ty) (u8s ((l.set (o + (nd - 1)) (dJ (y % 10))).set (o + (nd - 2)) (dJ (y / 10)))) 32) → Q .normal σ' G' n) : wx EV61 R116_4 σ G n Q tk := by
  have tab := smalls_tab
  generalize hS : ([48,48,48,49,48,50,48,51,48,52,48,53,48,54,48,55,48,56,48,57,49,48,49,49,49,50,49,51,49,52,49,53,49,54,49,55,49,56,49,57,50,48,50,49,50,50,50,51,50,52,50,53,50,54,50,55,50,56,50,57,51,48,51,49,51,50,51,51,51,52,51,53,51,54,51,55,51,56,51,57,52,48,52,49,52,50,52,51,52,52,52,53,52,54,52,55,52,56,52,57,53,48,53,49,53,50,53,51,53,52,53,53,53,54,53,55,53,56,53,57,54,48,54,49,54,50,54,51,54,52,54,53,54,54,54,55,54,56,54,57,55,48,55,49,55,50,55,51,55,52,55,53,55,54,55,55,55,56,55,57,56,48,56,49,56,50,56,51,56,52,56,53,56,54,56,55,56,56,56,57,57,48,57,49,57,50,57,51,57,52,57,53,57,54,57,55,57,56,57,57] : List UInt8) = S at tab
  have hSl : S.length = 200 := by rw [← hS]; rfl
  have gA : S[(y * 2 + 1).toNat]? = some (dJ (y % 10)) := by
    have := (tab ⟨y.toNat,by omega⟩).1
    simp only at this
    rw [show (y * 2 + 1).toNat = y.toNat * 2 + 1 by omega,this,dJ,show (y % 10).toNat = y.toNat % 10 by omega]
  have gB : S[(y * 2).toNat]? = some (dJ (y / 10)) := by
    have := (tab ⟨y.toNat,by omega⟩).2
    simp only at this
    rw [show (y * 2).toNat = y.toNat * 2 by omega,this,dJ,show (y / 10).toNat = y.toNat / 10 by omega]
  have e0 : (nd : Int) - 1 = ((nd - 1 : Nat) : Int) := by omega
  have e1 : (nd : Int) - 2 = ((nd - 2 : Nat) : Int) := by omega
  have c0 := cset (l := l) (i := o + (nd - 1)) (by omega) (dJ (y % 10))
  have c1 := cset (l := l.set (o + (nd - 1)) (dJ (y % 10))) (i := o + (nd - 2)) (by rw [List.length_set]; omega) (dJ (y / 10))
  simp -dsimp (discharger := omega) [hS,hSl,gA,gB,g0,g4,gy,hz,hl,e0,e1,c0,c1, -getElem?_pos]
  refine ⟨hzn,hQ _ _ (fun j hj => by simp (discharger := omega) []) (fun i hi => ?_) (by simp)⟩
  rw [AHeap.get_put_ne _ _ (fun e => hi e.symm),AHeap.get_put_ne _ _ (fun e => hi e.symm)]
set_option maxRecDepth 100000 in
theorem fmt_r5 {σ : Fr} {G : AHeap} {n : Nat} {Q : Ex → Fr → AHeap → Nat → Prop} {tk : Tok Q} {ty z o N k nd : Nat} {l : List UInt8} {y : Int} (hz : G.get z = some (.cells (some ty) (u8s l) 32)) (hzn : z < n) (hl : l.length = 32) (ho : o + N ≤ 32) (hnd : nd ≤ N) (h4 : 4 ≤ nd)
    (g0 : σ.get 0 = some (.slice (some ⟨z,o,some 32⟩) N k)) (g4 : σ.get 4 = some (.int .i64 (nd : Int))) (gy : σ.get 14 = some (.int .u32 (y * 2))) (y0 : 0 ≤ y) (y1 : y < 100)
    (hQ : ∀ σ' G',(∀ j,j < 17 → σ'.get j = σ.get j) → (∀ i,¬ i = z → G'.get i = G.get i) → G'.get z = some (.cells (some ty) (u8s ((l.set (o + (nd - 3)) (dJ (y % 10))).set (o + (nd - 4)) (dJ (y / 10)))) 32) → Q .normal σ' G' n) : wx EV61 R116_5 σ G n Q tk := by
  have tab := smalls_tab
  generalize hS : ([48,48,48,49,48,50,48,51,48,52,48,53,48,54,48,55,48,56,48,57,49,48,49,49,49,50,49,51,49,52,49,53,49,54,49,55,49,56,49,57,50,48,50,49,50,50,50,51,50,52,50,53,50,54,50,55,50,56,50,57,51,48,51,49,51,50,51,51,51,52,51,53,51,54,51,55,51,56,51,57,52,48,52,49,52,50,52,51,52,52,52,53,52,54,52,55,52,56,52,57,53,48,53,49,53,50,53,51,53,52,53,53,53,54,53,55,53,56,53,57,54,48,54,49,54,50,54,51,54,52,54,53,54,54,54,55,54,56,54,57,55,48,55,49,55,50,55,51,55,52,55,53,55,54,55,55,55,56,55,57,56,48,56,49,56,50,56,51,56,52,56,53,56,54,56,55,56,56,56,57,57,48,57,49,57,50,57,51,57,52,57,53,57,54,57,55,57,56,57,57] : List UInt8) = S at tab
  have hSl : S.length = 200 := by rw [← hS]; rfl
  have gA : S[(y * 2 + 1).toNat]? = some (dJ (y % 10)) := by
    have := (tab ⟨y.toNat,by omega⟩).1
    simp only at this
    rw [show (y * 2 + 1).toNat = y.toNat * 2 + 1 by omega,this,dJ,show (y % 10).toNat = y.toNat % 10 by omega]
  have gB : S[(y * 2).toNat]? = some (dJ (y / 10)) := by
    have := (tab ⟨y.toNat,by omega⟩).2
    simp only at this
    rw [show (y * 2).toNat = y.toNat * 2 by omega,this,dJ,show (y / 10).toNat = y.toNat / 10 by omega]
  have e0 : (nd : Int) - 3 = ((nd - 3 : Nat) : Int) := by omega
  have e1 : (nd : Int) - 4 = ((nd - 4 : Nat) : Int) := by omega
  have c0 := cset (l := l) (i := o + (nd - 3)) (by omega) (dJ (y % 10))
  have c1 := cset (l := l.set (o + (nd - 3)) (dJ (y % 10))) (i := o + (nd - 4)) (by rw [List.length_set]; omega) (dJ (y / 10))
  simp -dsimp (discharger := omega) [hS,hSl,gA,gB,g0,g4,gy,hz,hl,e0,e1,c0,c1, -getElem?_pos]
  refine ⟨hzn,hQ _ _ (fun j hj => by simp (discharger := omega) []) (fun i hi => ?_) (by simp)⟩
  rw [AHeap.get_put_ne _ _ (fun e => hi e.symm),AHeap.get_put_ne _ _ (fun e => hi e.symm)]
set_option maxRecDepth 100000 in
theorem fmt_r6 {σ : Fr} {G : AHeap} {n : Nat} {Q : Ex → Fr → AHeap → Nat → Prop} {tk : Tok Q} {ty z o N k nd : Nat} {l : List UInt8} {y : Int} (hz : G.get z = some (.cells (some ty) (u8s l) 32)) (hzn : z < n) (hl : l.length = 32) (ho : o + N ≤ 32) (hnd : nd ≤ N) (h2 : 2 ≤ nd)
    (g0 : σ.get 0 = some (.slice (some ⟨z,o,some 32⟩) N k)) (g4 : σ.get 4 = some (.int .i64 (nd : Int))) (gy : σ.get 16 = some (.int .u32 (y * 2))) (y0 : 0 ≤ y) (y1 : y < 100)
    (hQ : ∀ σ' G',(∀ j,j < 17 → σ'.get j = σ.get j) → (∀ i,¬ i = z → G'.get i = G.get i) → G'.get z = some (.cells (some ty) (u8s ((l.set (o + (nd - 1)) (dJ (y % 10))).set (o + (nd - 2)) (dJ (y / 10)))) 32) → Q .normal σ' G' n) : wx EV61 R116_6 σ G n Q tk := by
  have tab := smalls_tab
  generalize hS : ([48,48,48,49,48,50,48,51,48,52,48,53,48,54,48,55,48,56,48,57,49,48,49,49,49,50,49,51,49,52,49,53,49,54,49,55,49,56,49,57,50,48,50,49,50,50,50,51,50,52,50,53,50,54,50,55,50,56,50,57,51,48,51,49,51,50,51,51,51,52,51,53,51,54,51,55,51,56,51,57,52,48,52,49,52,50,52,51,52,52,52,53,52,54,52,55,52,56,52,57,53,48,53,49,53,50,53,51,53,52,53,53,53,54,53,55,53,56,53,57,54,48,54,49,54,50,54,51,54,52,54,53,54,54,54,55,54,56,54,57,55,48,55,49,55,50,55,51,55,52,55,53,55,54,55,55,55,56,55,57,56,48,56,49,56,50,56,51,56,52,56,53,56,54,56,55,56,56,56,57,57,48,57,49,57,50,57,51,57,52,57,53,57,54,57,55,57,56,57,57] : List UInt8) = S at tab
  have hSl : S.length = 200 := by rw [← hS]; rfl
  have gA : S[(y * 2 + 1).toNat]? = some (dJ (y % 10)) := by
    have := (tab ⟨y.toNat,by omega⟩).1
    simp only at this
    rw [show (y * 2 + 1).toNat = y.toNat * 2 + 1 by omega,this,dJ,show (y % 10).toNat = y.toNat % 10 by omega]
  have gB : S[(y * 2).toNat]? = some (dJ (y / 10)) := by
    have := (tab ⟨y.toNat,by omega⟩).2
    simp only at this
    rw [show (y * 2).toNat = y.toNat * 2 by omega,this,dJ,show (y / 10).toNat = y.toNat / 10 by omega]
  have e0 : (nd : Int) - 1 = ((nd - 1 : Nat) : Int) := by omega
  have e1 : (nd : Int) - 2 = ((nd - 2 : Nat) : Int) := by omega
  have c0 := cset (l := l) (i := o + (nd - 1)) (by omega) (dJ (y % 10))
  have c1 := cset (l := l.set (o + (nd - 1)) (dJ (y % 10))) (i := o + (nd - 2)) (by rw [List.length_set]; omega) (dJ (y / 10))
  simp -dsimp (discharger := omega) [hS,hSl,gA,gB,g0,g4,gy,hz,hl,e0,e1,c0,c1, -getElem?_pos]
  refine ⟨hzn,hQ _ _ (fun j hj => by simp (discharger := omega) []) (fun i hi => ?_) (by simp)⟩
  rw [AHeap.get_put_ne _ _ (fun e => hi e.symm),AHeap.get_put_ne _ _ (fun e => hi e.symm)]
def FH (ty z : Nat) (h0 : AHeap) (l : List UInt8) (h : AHeap) : Prop := (∀ i,¬ i = z → h.get i = h0.get i) ∧ h.get z = some (.cells (some ty) (u8s l) 32)
def FInv (ty z o N k u0 : Nat) (h0 : AHeap) (n0 : Nat) (r : Nat) (σ : Fr) (h : AHeap) (n : Nat) : Prop :=
  n = n0 ∧ ∃ (l : List UInt8) (nd u : Nat),nd = r ∧ nd ≤ N ∧ l.length = 32 ∧ FH ty z h0 l h ∧ u = u0 / 10 ^ (N - nd) ∧ u < 10 ^ nd ∧ (∀ j,j < N - nd → l[o + N - 1 - j]? = some (digN j u0)) ∧
    σ = [(0, .slice (some ⟨z,o,some 32⟩) N k),(1, .int .u64 (u : Int)),(4, .int .i64 (nd : Int))]
def FPost (ty z o N k u0 : Nat) (h0 : AHeap) (n0 : Nat) (e : Ex) (σ' : Fr) (h' : AHeap) (n' : Nat) : Prop :=
  e = .exit 0 ∧ n' = n0 ∧ ∃ (l : List UInt8) (nd u : Nat),nd < 8 ∧ nd ≤ N ∧ l.length = 32 ∧ FH ty z h0 l h' ∧ u = u0 / 10 ^ (N - nd) ∧ u < 10 ^ nd ∧ (∀ j,j < N - nd → l[o + N - 1 - j]? = some (digN j u0)) ∧
    σ'.get 0 = some (.slice (some ⟨z,o,some 32⟩) N k) ∧ σ'.get 1 = some (.int .u64 (u : Int)) ∧ σ'.get 4 = some (.int .i64 (nd : Int))
theorem div_step {u u0 N nd c : Nat} (hu : u = u0 / 10 ^ (N - nd)) (h : nd ≤ N) (hc : c ≤ nd) : u / 10 ^ c = u0 / 10 ^ (N - (nd - c)) := by
  rw [hu,Nat.div_div_eq_div_mul,← Nat.pow_add,show N - nd + c = N - (nd - c) by omega]
theorem lt_step {u nd c : Nat} (h : u < 10 ^ nd) (hc : c ≤ nd) : u / 10 ^ c < 10 ^ (nd - c) := by
  have hp : 0 < 10 ^ c := Nat.pos_of_ne_zero (by simp)
  rw [Nat.div_lt_iff_lt_mul hp,← Nat.pow_add,show nd - c + c = nd by omega]; exact h
theorem dig_eq {u u0 N nd : Nat} (hu : u = u0 / 10 ^ (N - nd)) (c : Nat) {y : Int} (hy : y.toNat = u / 10 ^ c % 10) : dJ y = digN (N - nd + c) u0 := by
  rw [digN_add,← hu,dJ,hy]
set_option maxRecDepth 100000 in
theorem fmt_loop {ty z o N k u0 : Nat} (hoN : o + N ≤ 32) (hu0 : u0 < 18446744073709551616) {h0 : AHeap} {n0 : Nat} (hz : z < n0) :
    ∀ (r : Nat) (σ : Fr) (h : AHeap) (n : Nat),FInv ty z o N k u0 h0 n0 r σ h n → HasCode EV61 (.loop F116L0) σ h n (FPost ty z o N k u0 h0 n0) := by
  refine wx_inv _ fun r σ h n hI => ?_
  obtain ⟨rfl,l,nd,u,rfl,hnd,hl,⟨hoth,hcl⟩,hu,hlt,hd,rfl⟩ := hI
  by_cases h8 : nd < 8
  · simp -dsimp (discharger := omega) [F116L0]
    exact ⟨rfl,rfl,l,nd,u,h8,hnd,hl,⟨hoth,hcl⟩,hu,hlt,hd,by simp,by simp,by simp⟩
  · have hu64 : u ≤ u0 := by rw [hu]; exact Nat.div_le_self _ _
    simp -dsimp (discharger := omega) [F116L0, -wR116_0, -wR116_1, -wR116_2, -wR116_3, -wR116_4, -wR116_5, -wR116_6,tmodP,tdivP]
    refine fmt_r0 (k := k) (o := o) (N := N) (l := l) (nd := nd) (y := ((u : Int) % 100)) hcl hz hl hoN hnd (by omega) (by simp) (by simp) (by simp) (by omega) (by omega) ?_
    intro σ1 G1 f1 o1 c1
    have hd1 := set_two (nd := nd - 0) (i0 := o + (nd - 1)) (i1 := o + (nd - 2)) (a := dJ (((u : Int) % 100) % 10)) (b := dJ (((u : Int) % 100) / 10)) (by omega) (by omega) (by rw [hl]; exact hoN) hd (by rw [dig_eq hu 0 (by show _ = u / 1 % 10; omega)] <;> congr 1 <;> omega) (by rw [dig_eq hu 1 (by show _ = u / 10 % 10; omega)] <;> congr 1 <;> omega) (by omega) (by omega)
    have hl1 : ((l.set (o + (nd - 1)) (dJ (((u : Int) % 100) % 10))).set (o + (nd - 2)) (dJ (((u : Int) % 100) / 10))).length = 32 := by simp [hl]
    generalize ((l.set (o + (nd - 1)) (dJ (((u : Int) % 100) % 10))).set (o + (nd - 2)) (dJ (((u : Int) % 100) / 10))) = l1 at *
    have k1_0 := (f1 0 (by omega)).trans (by simp; rfl)
    have k1_4 := (f1 4 (by omega)).trans (by simp; rfl)
    have k1_1 := (f1 1 (by omega)).trans (by simp; rfl)
    have k1_8 := (f1 8 (by omega)).trans (by simp; rfl)
    have k1_11 := (f1 11 (by omega)).trans (by simp; rfl)
    have k1_10 := (f1 10 (by omega)).trans (by simp; rfl)
    simp -dsimp (discharger := omega) [-wR116_0, -wR116_1, -wR116_2, -wR116_3, -wR116_4, -wR116_5, -wR116_6]
    refine fmt_r1 (k := k) (o := o) (N := N) (l := l1) (nd := nd) (y := ((u : Int) % 10000 / 100)) c1 hz hl1 hoN hnd (by omega) (k1_0) (k1_4) (k1_8) (by omega) (by omega) ?_
    intro σ2 G2 f2 o2 c2
    have hd2 := set_two (nd := nd - 2) (i0 := o + (nd - 3)) (i1 := o + (nd - 4)) (a := dJ (((u : Int) % 10000 / 100) % 10)) (b := dJ (((u : Int) % 10000 / 100) / 10)) (by omega) (by omega) (by rw [hl1]; exact hoN) hd1 (by rw [dig_eq hu 2 (by show _ = u / 100 % 10; omega)] <;> congr 1 <;> omega) (by rw [dig_eq hu 3 (by show _ = u / 1000 % 10; omega)] <;> congr 1 <;> omega) (by omega) (by omega)
    have hl2 : ((l1.set (o + (nd - 3)) (dJ (((u : Int) % 10000 / 100) % 10))).set (o + (nd - 4)) (dJ (((u : Int) % 10000 / 100) / 10))).length = 32 := by simp [hl1]
    generalize ((l1.set (o + (nd - 3)) (dJ (((u : Int) % 10000 / 100) % 10))).set (o + (nd - 4)) (dJ (((u : Int) % 10000 / 100) / 10))) = l2 at *
    have k2_0 := (f2 0 (by omega)).trans k1_0
    have k2_4 := (f2 4 (by omega)).trans k1_4
    have k2_1 := (f2 1 (by omega)).trans k1_1
    have k2_11 := (f2 11 (by omega)).trans k1_11
    have k2_10 := (f2 10 (by omega)).trans k1_10
    simp -dsimp (discharger := omega) [-wR116_0, -wR116_1, -wR116_2, -wR116_3, -wR116_4, -wR116_5, -wR116_6]
    refine fmt_r2 (k := k) (o := o) (N := N) (l := l2) (nd := nd) (y := ((u : Int) % 100000000 / 10000 % 100)) c2 hz hl2 hoN hnd (by omega) (k2_0) (k2_4) (k2_11) (by omega) (by omega) ?_
    intro σ3 G3 f3 o3 c3
    have hd3 := set_two (nd := nd - 4) (i0 := o + (nd - 5)) (i1 := o + (nd - 6)) (a := dJ (((u : Int) % 100000000 / 10000 % 100) % 10)) (b := dJ (((u : Int) % 100000000 / 10000 % 100) / 10)) (by omega) (by omega) (by rw [hl2]; exact hoN) hd2 (by rw [dig_eq hu 4 (by show _ = u / 10000 % 10; omega)] <;> congr 1 <;> omega) (by rw [dig_eq hu 5 (by show _ = u / 100000 % 10; omega)] <;> congr 1 <;> omega) (by omega) (by omega)
    have hl3 : ((l2.set (o + (nd - 5)) (dJ (((u : Int) % 100000000 / 10000 % 100) % 10))).set (o + (nd - 6)) (dJ (((u : Int) % 100000000 / 10000 % 100) / 10))).length = 32 := by simp [hl2]
    generalize ((l2.set (o + (nd - 5)) (dJ (((u : Int) % 100000000 / 10000 % 100) % 10))).set (o + (nd - 6)) (dJ (((u : Int) % 100000000 / 10000 % 100) / 10))) = l3 at *
    have k3_0 := (f3 0 (by omega)).trans k2_0
    have k3_4 := (f3 4 (by omega)).trans k2_4
    have k3_1 := (f3 1 (by omega)).trans k2_1
    have k3_10 := (f3 10 (by omega)).trans k2_10
    simp -dsimp (discharger := omega) [-wR116_0, -wR116_1, -wR116_2, -wR116_3, -wR116_4, -wR116_5, -wR116_6]
    refine fmt_r3 (k := k) (o := o) (N := N) (l := l3) (nd := nd) (y := ((u : Int) % 100000000 / 10000 / 100)) c3 hz hl3 hoN hnd (by omega) (k3_0) (k3_4) (k3_10) (by omega) (by omega) ?_
    intro σ4 G4 f4 o4 c4
    have hd4 := set_two (nd := nd - 6) (i0 := o + (nd - 7)) (i1 := o + (nd - 8)) (a := dJ (((u : Int) % 100000000 / 10000 / 100) % 10)) (b := dJ (((u : Int) % 100000000 / 10000 / 100) / 10)) (by omega) (by omega) (by rw [hl3]; exact hoN) hd3 (by rw [dig_eq hu 6 (by show _ = u / 1000000 % 10; omega)] <;> congr 1 <;> omega) (by rw [dig_eq hu 7 (by show _ = u / 10000000 % 10; omega)] <;> congr 1 <;> omega) (by omega) (by omega)
    have hl4 : ((l3.set (o + (nd - 7)) (dJ (((u : Int) % 100000000 / 10000 / 100) % 10))).set (o + (nd - 8)) (dJ (((u : Int) % 100000000 / 10000 / 100) / 10))).length = 32 := by simp [hl3]
    generalize ((l3.set (o + (nd - 7)) (dJ (((u : Int) % 100000000 / 10000 / 100) % 10))).set (o + (nd - 8)) (dJ (((u : Int) % 100000000 / 10000 / 100) / 10))) = l4 at *
    have k4_0 := (f4 0 (by omega)).trans k3_0
    have k4_4 := (f4 4 (by omega)).trans k3_4
    have k4_1 := (f4 1 (by omega)).trans k3_1
    simp -dsimp (discharger := omega) [k4_4]
    refine .mk' (nd - 8) (by omega) [(0, .slice (some ⟨z,o,some 32⟩) N k),(1, .int .u64 ((u / 100000000 : Nat) : Int)),(4, .int .i64 ((nd - 8 : Nat) : Int))] G4 (by simp (discharger := omega) [k4_0,k4_1]; omega) (.refl _) ⟨rfl,l4,nd - 8,u / 100000000,rfl,by omega,hl4,⟨fun i hi => by rw [o4 i hi,o3 i hi,o2 i hi,o1 i hi,hoth i hi],c4⟩,div_step (c := 8) hu hnd (by omega),lt_step (c := 8) hlt (by omega),fun j hj => hd4 j (by omega),rfl⟩
theorem set_one {l : List UInt8} {o N nd u0 : Nat} (hN : nd ≤ N) (h2 : nd = 1) (hl : o + N ≤ l.length) (hd : ∀ j,j < N - nd → l[o + N - 1 - j]? = some (digN j u0)) {a : UInt8} (ha : a = digN (N - nd) u0) :
    ∀ j,j < N → (l.set o a)[o + N - 1 - j]? = some (digN j u0) := by
  intro j hj
  rw [List.getElem?_set]
  by_cases h0 : j = N - nd
  · subst h0
    rw [if_pos (by omega),if_pos (by omega),ha]
  · rw [if_neg (by omega)]
    exact hd j (by omega)
theorem dJ_val {y : Int} (h0 : 0 ≤ y) (h1 : y < 10) : ((dJ y).toNat : Int) = 48 + y := by
  rw [dJ,UInt8.toNat_ofNat',Nat.mod_eq_of_lt (by omega)]; omega
set_option maxRecDepth 100000 in
theorem fmt_call {ty z o N k u0 : Nat} (hoN : o + N ≤ 32) (hu0N : u0 < 10 ^ N) (hu0 : u0 < 18446744073709551616) {l0 : List UInt8} (hl0 : l0.length = 32) {h : AHeap} {n : Nat} (hz0 : h.get z = some (.cells (some ty) (u8s l0) 32)) (hz : z < n) {Q : Value → AHeap → Nat → Prop} {tk : Tok Q}
    (kk : ∀ (l' : List UInt8) (h' : AHeap),l'.length = 32 → (l'.drop o).take N = dgs N u0 → FH ty z h l' h' → Q (.tuple #[]) h' n) : HasCallT EV61 116 [.slice (some ⟨z,o,some 32⟩) N k, .int .u64 (u0 : Int)] h n Q tk := by
  with_reducible refine inl116 ?_
  simp -dsimp (discharger := omega) [B116, -wR116_0, -wR116_1, -wR116_2, -wR116_3, -wR116_4, -wR116_5, -wR116_6]
  refine loop_use (fmt_loop (ty := ty) (z := z) (o := o) (N := N) (k := k) (u0 := u0) hoN hu0 (h0 := h) (n0 := n) hz N [(0, .slice (some ⟨z,o,some 32⟩) N k),(1, .int .u64 (u0 : Int)),(4, .int .i64 (N : Int))] h n ⟨rfl,l0,N,u0,rfl,Nat.le_refl _,hl0,⟨fun _ _ => rfl,hz0⟩,by simp,hu0N,fun j hj => by omega,rfl⟩) (by simp) (.refl _) ?_
  rintro e σ h1 n1 ⟨rfl,rfl,l0,nd,u,h8,hnd,hl0,⟨oo0,c0⟩,hu,hlt,hd0,k0_0,k0_1,k0_4⟩
  have hu7 : u < 10000000 := Nat.lt_of_lt_of_le hlt (Nat.pow_le_pow_right (n := 10) (by omega) (by omega : nd ≤ 7))
  by_cases b4 : 4 ≤ nd
  · simp -dsimp (discharger := omega) [-wR116_0, -wR116_1, -wR116_2, -wR116_3, -wR116_4, -wR116_5, -wR116_6,k0_1,k0_4,tmodP,tdivP]
    refine fmt_r4 (k := k) (o := o) (N := N) (l := l0) (nd := nd) (y := ((u : Int) % 100)) c0 hz hl0 hoN (by omega) (by omega) (by simp (discharger := omega) [k0_0] <;> omega) (by simp (discharger := omega) [k0_4] <;> omega) (by simp (discharger := omega) [] <;> omega) (by omega) (by omega) ?_
    intro σ1 G1 f1 o1 c1
    have hd1 := set_two (nd := nd) (i0 := o + (nd - 1)) (i1 := o + (nd - 2)) (a := dJ (((u : Int) % 100) % 10)) (b := dJ (((u : Int) % 100) / 10)) (by omega) (by omega) (by rw [hl0]; exact hoN) hd0 (by rw [dig_eq hu 0 (by show _ = u / 1 % 10; omega)] <;> congr 1 <;> omega) (by rw [dig_eq hu 1 (by show _ = u / 10 % 10; omega)] <;> congr 1 <;> omega) (by omega) (by omega)
    have hl1 : ((l0.set (o + (nd - 1)) (dJ (((u : Int) % 100) % 10))).set (o + (nd - 2)) (dJ (((u : Int) % 100) / 10))).length = 32 := by simp [hl0]
    generalize ((l0.set (o + (nd - 1)) (dJ (((u : Int) % 100) % 10))).set (o + (nd - 2)) (dJ (((u : Int) % 100) / 10))) = l1 at *
    have k1_0 := (f1 0 (by omega)).trans (by simp (discharger := omega) [k0_0]; rfl)
    have k1_4 := (f1 4 (by omega)).trans (by simp (discharger := omega) [k0_4]; rfl)
    have k1_12 := (f1 12 (by omega)).trans (by simp (discharger := omega) []; rfl)
    have k1_14 := (f1 14 (by omega)).trans (by simp (discharger := omega) []; rfl)
    have oo1 : ∀ i,¬ i = z → G1.get i = h.get i := fun i hi => (o1 i hi).trans (oo0 i hi)
    simp -dsimp (discharger := omega) [-wR116_0, -wR116_1, -wR116_2, -wR116_3, -wR116_4, -wR116_5, -wR116_6]
    refine fmt_r5 (k := k) (o := o) (N := N) (l := l1) (nd := nd) (y := ((u : Int) % 10000 / 100)) c1 hz hl1 hoN (by omega) (by omega) k1_0 k1_4 k1_14 (by omega) (by omega) ?_
    intro σ2 G2 f2 o2 c2
    have hd2 := set_two (nd := nd - 2) (i0 := o + (nd - 3)) (i1 := o + (nd - 4)) (a := dJ (((u : Int) % 10000 / 100) % 10)) (b := dJ (((u : Int) % 10000 / 100) / 10)) (by omega) (by omega) (by rw [hl1]; exact hoN) hd1 (by rw [dig_eq hu 2 (by show _ = u / 100 % 10; omega)] <;> congr 1 <;> omega) (by rw [dig_eq hu 3 (by show _ = u / 1000 % 10; omega)] <;> congr 1 <;> omega) (by omega) (by omega)
    have hl2 : ((l1.set (o + (nd - 3)) (dJ (((u : Int) % 10000 / 100) % 10))).set (o + (nd - 4)) (dJ (((u : Int) % 10000 / 100) / 10))).length = 32 := by simp [hl1]
    generalize ((l1.set (o + (nd - 3)) (dJ (((u : Int) % 10000 / 100) % 10))).set (o + (nd - 4)) (dJ (((u : Int) % 10000 / 100) / 10))) = l2 at *
    have k2_0 := (f2 0 (by omega)).trans k1_0
    have k2_4 := (f2 4 (by omega)).trans k1_4
    have k2_12 := (f2 12 (by omega)).trans k1_12
    have k2_14 := (f2 14 (by omega)).trans k1_14
    have oo2 : ∀ i,¬ i = z → G2.get i = h.get i := fun i hi => (o2 i hi).trans (oo1 i hi)
    have huA : u / 10000 = u0 / 10 ^ (N - (nd - 4)) := div_step (c := 4) hu (by omega) (by omega)
    have hltA : u / 10000 < 10 ^ (nd - 4) := lt_step (c := 4) hlt (by omega)
    by_cases b2 : 2 ≤ (nd - 4)
    · simp -dsimp (discharger := omega) [-wR116_0, -wR116_1, -wR116_2, -wR116_3, -wR116_4, -wR116_5, -wR116_6,k2_4,k2_12,tmodP,tdivP]
      refine fmt_r6 (k := k) (o := o) (N := N) (l := l2) (nd := (nd - 4)) (y := (((u : Int) / 10000) % 100)) c2 hz hl2 hoN (by omega) (by omega) (by simp (discharger := omega) [k2_0] <;> omega) (by simp (discharger := omega) [] <;> omega) (by simp (discharger := omega) [] <;> omega) (by omega) (by omega) ?_
      intro σ3 G3 f3 o3 c3
      have hd3 := set_two (nd := (nd - 4)) (i0 := o + ((nd - 4) - 1)) (i1 := o + ((nd - 4) - 2)) (a := dJ ((((u : Int) / 10000) % 100) % 10)) (b := dJ ((((u : Int) / 10000) % 100) / 10)) (by omega) (by omega) (by rw [hl2]; exact hoN) hd2 (by rw [dig_eq huA 0 (by show _ = (u / 10000) / 1 % 10; omega)] <;> congr 1 <;> omega) (by rw [dig_eq huA 1 (by show _ = (u / 10000) / 10 % 10; omega)] <;> congr 1 <;> omega) (by omega) (by omega)
      have hl3 : ((l2.set (o + ((nd - 4) - 1)) (dJ ((((u : Int) / 10000) % 100) % 10))).set (o + ((nd - 4) - 2)) (dJ ((((u : Int) / 10000) % 100) / 10))).length = 32 := by simp [hl2]
      generalize ((l2.set (o + ((nd - 4) - 1)) (dJ ((((u : Int) / 10000) % 100) % 10))).set (o + ((nd - 4) - 2)) (dJ ((((u : Int) / 10000) % 100) / 10))) = l3 at *
      have k3_0 := (f3 0 (by omega)).trans (by simp (discharger := omega) [k2_0]; rfl)
      have k3_4 := (f3 4 (by omega)).trans (by simp (discharger := omega) []; rfl)
      have k3_12 := (f3 12 (by omega)).trans (by simp (discharger := omega) []; rfl)
      have oo3 : ∀ i,¬ i = z → G3.get i = h.get i := fun i hi => (o3 i hi).trans (oo2 i hi)
      have huB : (u / 10000) / 100 = u0 / 10 ^ (N - ((nd - 4) - 2)) := div_step (c := 2) huA (by omega) (by omega)
      have hltB : (u / 10000) / 100 < 10 ^ ((nd - 4) - 2) := lt_step (c := 2) hltA (by omega)
      by_cases b1 : ((nd - 4) - 2) = 1
      · have cs := cset (l := l3) (i := o) (by omega) (dJ (((u : Int) / 10000) / 100))
        have hlu : ((u / 10000) / 100) < 10 := by have := hltB; rw [b1] at this; omega
        have ev := (dJ_val (y := (((u : Int) / 10000) / 100)) (by omega) (by omega)).symm
        simp -dsimp (discharger := omega) [k3_0,k3_4,k3_12,c3,ev,cs,hl3]
        exact kk (l3.set o (dJ (((u : Int) / 10000) / 100))) _ (by simp [hl3]) (dgs_at (by simp [hl3]; omega) (set_one (nd := ((nd - 4) - 2)) (by omega) b1 (by omega) hd3 (by rw [dig_eq huB 0 (by show _ = ((u / 10000) / 100) / 1 % 10; omega)] <;> congr 1 <;> omega))) ⟨fun i hi => by rw [AHeap.get_put_ne _ _ (fun e => hi e.symm)]; exact oo3 i hi,by simp⟩
      · simp -dsimp (discharger := omega) [k3_4]
        exact kk l3 _ hl3 (dgs_at (by omega) (fun j hj => hd3 j (by omega))) ⟨oo3,c3⟩
    · skip
      by_cases b1 : (nd - 4) = 1
      · have cs := cset (l := l2) (i := o) (by omega) (dJ ((u : Int) / 10000))
        have hlu : (u / 10000) < 10 := by have := hltA; rw [b1] at this; omega
        have ev := (dJ_val (y := ((u : Int) / 10000)) (by omega) (by omega)).symm
        simp -dsimp (discharger := omega) [k2_0,k2_4,k2_12,c2,ev,cs,hl2]
        exact kk (l2.set o (dJ ((u : Int) / 10000))) _ (by simp [hl2]) (dgs_at (by simp [hl2]; omega) (set_one (nd := (nd - 4)) (by omega) b1 (by omega) hd2 (by rw [dig_eq huA 0 (by show _ = (u / 10000) / 1 % 10; omega)] <;> congr 1 <;> omega))) ⟨fun i hi => by rw [AHeap.get_put_ne _ _ (fun e => hi e.symm)]; exact oo2 i hi,by simp⟩
      · simp -dsimp (discharger := omega) [k2_4]
        exact kk l2 _ hl2 (dgs_at (by omega) (fun j hj => hd2 j (by omega))) ⟨oo2,c2⟩
  · skip
    by_cases b2 : 2 ≤ nd
    · simp -dsimp (discharger := omega) [-wR116_0, -wR116_1, -wR116_2, -wR116_3, -wR116_4, -wR116_5, -wR116_6,k0_1,k0_4,tmodP,tdivP]
      refine fmt_r6 (k := k) (o := o) (N := N) (l := l0) (nd := nd) (y := ((u : Int) % 100)) c0 hz hl0 hoN (by omega) (by omega) (by simp (discharger := omega) [k0_0] <;> omega) (by simp (discharger := omega) [k0_4] <;> omega) (by simp (discharger := omega) [] <;> omega) (by omega) (by omega) ?_
      intro σ1 G1 f1 o1 c1
      have hd1 := set_two (nd := nd) (i0 := o + (nd - 1)) (i1 := o + (nd - 2)) (a := dJ (((u : Int) % 100) % 10)) (b := dJ (((u : Int) % 100) / 10)) (by omega) (by omega) (by rw [hl0]; exact hoN) hd0 (by rw [dig_eq hu 0 (by show _ = u / 1 % 10; omega)] <;> congr 1 <;> omega) (by rw [dig_eq hu 1 (by show _ = u / 10 % 10; omega)] <;> congr 1 <;> omega) (by omega) (by omega)
      have hl1 : ((l0.set (o + (nd - 1)) (dJ (((u : Int) % 100) % 10))).set (o + (nd - 2)) (dJ (((u : Int) % 100) / 10))).length = 32 := by simp [hl0]
      generalize ((l0.set (o + (nd - 1)) (dJ (((u : Int) % 100) % 10))).set (o + (nd - 2)) (dJ (((u : Int) % 100) / 10))) = l1 at *
      have k1_0 := (f1 0 (by omega)).trans (by simp (discharger := omega) [k0_0]; rfl)
      have k1_4 := (f1 4 (by omega)).trans (by simp (discharger := omega) [k0_4]; rfl)
      have k1_12 := (f1 12 (by omega)).trans (by simp (discharger := omega) []; rfl)
      have oo1 : ∀ i,¬ i = z → G1.get i = h.get i := fun i hi => (o1 i hi).trans (oo0 i hi)
      have huB : u / 100 = u0 / 10 ^ (N - (nd - 2)) := div_step (c := 2) hu (by omega) (by omega)
      have hltB : u / 100 < 10 ^ (nd - 2) := lt_step (c := 2) hlt (by omega)
      by_cases b1 : (nd - 2) = 1
      · have cs := cset (l := l1) (i := o) (by omega) (dJ ((u : Int) / 100))
        have hlu : (u / 100) < 10 := by have := hltB; rw [b1] at this; omega
        have ev := (dJ_val (y := ((u : Int) / 100)) (by omega) (by omega)).symm
        simp -dsimp (discharger := omega) [k1_0,k1_4,k1_12,c1,ev,cs,hl1]
        exact kk (l1.set o (dJ ((u : Int) / 100))) _ (by simp [hl1]) (dgs_at (by simp [hl1]; omega) (set_one (nd := (nd - 2)) (by omega) b1 (by omega) hd1 (by rw [dig_eq huB 0 (by show _ = (u / 100) / 1 % 10; omega)] <;> congr 1 <;> omega))) ⟨fun i hi => by rw [AHeap.get_put_ne _ _ (fun e => hi e.symm)]; exact oo1 i hi,by simp⟩
      · simp -dsimp (discharger := omega) [k1_4]
        exact kk l1 _ hl1 (dgs_at (by omega) (fun j hj => hd1 j (by omega))) ⟨oo1,c1⟩
    · skip
      by_cases b1 : nd = 1
      · have cs := cset (l := l0) (i := o) (by omega) (dJ (u : Int))
        have hlu : u < 10 := by have := hlt; rw [b1] at this; omega
        have ev := (dJ_val (y := (u : Int)) (by omega) (by omega)).symm
        simp -dsimp (discharger := omega) [k0_0,k0_1,k0_4,c0,ev,cs,hl0]
        exact kk (l0.set o (dJ (u : Int))) _ (by simp [hl0]) (dgs_at (by simp [hl0]; omega) (set_one (nd := nd) (by omega) b1 (by omega) hd0 (by rw [dig_eq hu 0 (by show _ = u / 1 % 10; omega)] <;> congr 1 <;> omega))) ⟨fun i hi => by rw [AHeap.get_put_ne _ _ (fun e => hi e.symm)]; exact oo0 i hi,by simp⟩
      · simp -dsimp (discharger := omega) [k0_1,k0_4]
        exact kk l0 _ hl0 (dgs_at (by omega) (fun j hj => hd0 j (by omega))) ⟨oo0,c0⟩
end
end Go.Proofs.YtkdpjaaohddppaaGreatDoor.Am
