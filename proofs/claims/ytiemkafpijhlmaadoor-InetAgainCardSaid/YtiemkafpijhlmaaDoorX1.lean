/- Contracts of the program's functions (X1). -/
import Derived.Test.YtiemkafpijhlmaaDoorLZ
import Derived.Test.YtiemkafpijhlmaaDoorLC
import Derived.Test.YtiemkafpijhlmaaDoorLJ
import Derived.Test.YtiemkafpijhlmaaDoorL4
import Derived.Test.YtiemkafpijhlmaaDoorG
import Derived.Test.YtiemkafpijhlmaaDoorL2
namespace Go.Proofs.YtiemkafpijhlmaaDoor.Am
noncomputable section
/- CONTRACTS: numbers of texts. -/
theorem canon_all {s : List UInt8} (h : canon s = true) : s.all isD = true ∧ s ≠ [] := by
  simp only [canon, Bool.and_eq_true] at h
  refine ⟨h.1.1, fun e => ?_⟩
  rw [e] at h; simp at h
theorem canon_atoi {s : List UInt8} (h : canon s = true) (hv : decV s < 9223372036854775808) : atoiO s = some ((decV s : Nat) : Int) := by
  obtain ⟨hd, hne⟩ := canon_all h
  cases s with
  | nil => exact absurd rfl hne
  | cons c t =>
    have hc : isD c = true := by simp only [List.all_cons, Bool.and_eq_true] at hd; exact hd.1
    have h43 : ¬ c = 43 := fun e => by rw [e] at hc; cases hc
    have h45 : ¬ c = 45 := fun e => by rw [e] at hc; cases hc
    have hun : unS (c :: t) = c :: t := by simp [unS, h43, h45]
    have hneg : ¬ (c :: t : List UInt8).head? = some 45 := by simp [h45]
    unfold atoiO
    rw [hun, okU_of hd hne (by omega), if_pos rfl, if_neg hneg, if_pos hv]
theorem numI_none {s : List UInt8} (h : atoiO s = none) : numI s = -1 := by
  unfold numI
  rw [if_neg]
  rintro ⟨h1, h2⟩
  rw [canon_atoi h1 h2] at h; cases h
theorem numI_neg {s : List UInt8} {x : Int} (h : atoiO s = some x) (hx : x < 0) : numI s = -1 := by
  unfold numI
  rw [if_neg]
  rintro ⟨h1, h2⟩
  rw [canon_atoi h1 h2] at h; cases h; omega
theorem numI_ne {s : List UInt8} {x : Int} (h : atoiO s = some x) (hx : itoaL x ≠ s) : numI s = -1 := by
  unfold numI
  rw [if_neg]
  rintro ⟨h1, h2⟩
  rw [canon_atoi h1 h2] at h; cases h
  rw [itoaL_nat, canon_dec h1] at hx
  exact hx rfl
theorem numI_eq {s : List UInt8} {x : Int} (h0 : 0 ≤ x) (h1 : x < 9223372036854775808) (hx : itoaL x = s) : numI s = x := by
  obtain ⟨u, rfl⟩ : ∃ u : Nat, x = (u : Int) := ⟨x.toNat, by omega⟩
  rw [itoaL_nat] at hx
  subst hx
  unfold numI
  rw [if_pos ⟨decs_canon u, by rw [decs_val]; omega⟩, decs_val]
theorem number_ret {s : List UInt8} (ht : s.length < 100000) {h : AHeap} {n : Nat} (hw : WF h n) (hp : HasPow h) (he : HasErrs h) (hn : 4096 ≤ n) :
    Ret EV06 34 [.string ⟨s.toArray⟩] h n (.int .i64 (numI s)) [] (n + 5) := by
  obtain ⟨v, ⟨x, e, rfl, h0, h1, hx⟩, hr⟩ := atoi_ret ht hw he hn
  refine rsx34 (by simp) (by simp) ?_
  simp -dsimp (discharger := omega) [B34]
  with_reducible refine call_ret hr ?_
  rcases hx with ⟨ha, rfl⟩ | ⟨ha, t, w, rfl⟩
  · by_cases hneg : x < 0
    · rw [numI_neg ha hneg]
      simp -dsimp (discharger := omega) []
      exact .refl _
    · simp -dsimp (discharger := omega) []
      with_reducible refine call_ret (itoaI_ret h0 h1 hp (hw.mono (by omega)) (by omega)) ?_
      simp -dsimp (discharger := omega) []
      by_cases hs : itoaL x = s
      · rw [numI_eq (by omega) h1 hs]
        simp -dsimp (discharger := omega) [hs]
        exact .refl _
      · rw [numI_ne ha hs]
        have hb : (itoaL x == s) = false := by simpa using hs
        simp -dsimp (discharger := omega) [hb]
        exact .refl _
  · rw [numI_none ha]
    simp -dsimp (discharger := omega) []
    exact .refl _
end
end Go.Proofs.YtiemkafpijhlmaaDoor.Am
namespace Go.Proofs.YtiemkafpijhlmaaDoor.Am
noncomputable section
/- CONTRACTS: sums. -/
/-- The words' sum. -/
def sumT : List UInt8 → Nat
  | [] => 0
  | [a] => 256 * a.toNat
  | a :: b :: l => 256 * a.toNat + b.toNat + sumT l
theorem sumT_snoc (x : UInt8) : ∀ l : List UInt8, sumT (l ++ [x]) = sumT l + if l.length % 2 = 0 then 256 * x.toNat else x.toNat
  | [] => by simp [sumT]
  | [a] => by simp [sumT]
  | a :: b :: l => by
    have ih := sumT_snoc x l
    simp only [List.cons_append, sumT, ih, List.length_cons]
    by_cases h : l.length % 2 = 0
    · rw [if_pos h, if_pos (by omega)]; omega
    · rw [if_neg h, if_neg (by omega)]; omega
theorem sumT_le : ∀ l : List UInt8, sumT l ≤ 65536 * l.length
  | [] => by simp [sumT]
  | [a] => by have := a.toNat_lt; simp only [sumT, List.length_cons, List.length_nil]; omega
  | a :: b :: l => by
    have h1 := a.toNat_lt
    have h2 := b.toNat_lt
    have := sumT_le l
    simp only [sumT, List.length_cons]; omega
/-- A sum folded to 16 bits. -/
def fold (s : Nat) : Nat := if s = 0 then 0 else 1 + (s - 1) % 65535
theorem fold_le (s : Nat) : fold s ≤ 65535 := by unfold fold; split <;> omega
theorem fold_id {s : Nat} (h : s ≤ 65535) : fold s = s := by unfold fold; split <;> omega
theorem fold_step {s : Nat} (h : 65535 < s) : fold (s % 65536 + s / 65536) = fold s := by unfold fold; split <;> split <;> omega
theorem fold_add {s w : Nat} (hw : w ≤ 65535) : fold (s + w) = if 65535 < fold s + w then fold s + w - 65535 else fold s + w := by
  unfold fold; repeat' split
  all_goals omega
def sumN (bs : List UInt8) : Nat := 65535 - fold (sumT bs)
def SumInv (bs : List UInt8) (u : Value) (h0 : AHeap) (n0 : Nat) (r : Nat) (σ : Fr) (h : AHeap) (n : Nat) : Prop :=
  h = h0 ∧ n = n0 ∧ ∃ i, i + r = bs.length ∧ σ = [(3, .int .u64 ((sumT (bs.take i) : Nat) : Int)), (6, u), (7, .int .i64 (bs.length : Int)), (8, .int .i64 (i : Int))]
def SumPost (bs : List UInt8) (h0 : AHeap) (n0 : Nat) (e : Ex) (σ' : Fr) (h' : AHeap) (n' : Nat) : Prop :=
  h' = h0 ∧ n' = n0 ∧ e = .exit 0 ∧ σ'.get 3 = some (.int .u64 ((sumT bs : Nat) : Int))
theorem sum_loop {bs : List UInt8} (hl : bs.length < 100000) {u : Value} {h0 : AHeap} (hu : BS h0 u bs) (n0 : Nat) :
    ∀ (r : Nat) (σ : Fr) (h : AHeap) (n : Nat), SumInv bs u h0 n0 r σ h n → HasCode EV06 (.loop F23L0) σ h n (SumPost bs h0 n0) := by
  refine wx_inv _ fun r σ h n hI => ?_
  obtain ⟨rfl, rfl, i, hi, rfl⟩ := hI
  cases r with
  | zero =>
    obtain rfl : i = bs.length := by omega
    simp -dsimp (discharger := omega) [F23L0]
    exact ⟨rfl, rfl, rfl, by simp⟩
  | succ r =>
    have hlt : i < bs.length := by omega
    cases hu with
    | nil => simp at hlt
    | @mk q o g k _ hr =>
      have hx := List.getElem?_eq_getElem hlt
      generalize bs[i] = c at hx
      have hrd := bs_one hr hx
      have hc := c.toNat_lt
      have hn := sumT_le (bs.take i)
      rw [List.length_take] at hn
      have hsn : sumT (bs.take (i + 1)) = sumT (bs.take i) + if i % 2 = 0 then 256 * c.toNat else c.toNat := by
        rw [take_snoc hx, sumT_snoc, List.length_take, Nat.min_eq_left (by omega)]
      have t2 : Int.tmod (i : Int) 2 = ((i % 2 : Nat) : Int) := rfl
      have hsh : shlI .u64 (c.toNat : Int) 8 = (c.toNat : Int) * 256 := by
        have := shl8_64 (a := c.toNat) (by omega)
        rw [this]; simp
      have hend : ∀ {σ : Fr} {tk : Tok (SumInv bs (.slice (some ⟨q, o, some g⟩) bs.length k) h n)}, FSubL [(3, .int .u64 ((sumT (bs.take (i + 1)) : Nat) : Int)), (6, .slice (some ⟨q, o, some g⟩) bs.length k), (7, .int .i64 (bs.length : Int)), (8, .int .i64 ((i + 1 : Nat) : Int))] σ → Again (SumInv bs (.slice (some ⟨q, o, some g⟩) bs.length k) h n) (r + 1) σ h n tk := fun hs =>
        .mk' r (by omega) _ _ hs (.refl _) ⟨rfl, rfl, i + 1, by omega, rfl⟩
      by_cases h2 : i % 2 = 0
      · have b2 : (i : Int) % 2 = 0 := by omega
        rw [if_pos h2] at hsn
        simp -dsimp (discharger := omega) [F23L0, hrd, t2, b2, hsh]
        exact hend (by simp [hsn]; omega)
      · have b2 : ¬ (i : Int) % 2 = 0 := by omega
        rw [if_neg h2] at hsn
        simp -dsimp (discharger := omega) [F23L0, hrd, t2, b2]
        exact hend (by simp [hsn])
def FoldInv (S : Nat) (h0 : AHeap) (n0 : Nat) (r : Nat) (σ : Fr) (h : AHeap) (n : Nat) : Prop :=
  h = h0 ∧ n = n0 ∧ ∃ s : Nat, s = r ∧ s < 18446744073709551616 ∧ fold s = fold S ∧ σ = [(3, .int .u64 (s : Int))]
def FoldPost (S : Nat) (h0 : AHeap) (n0 : Nat) (e : Ex) (σ' : Fr) (h' : AHeap) (n' : Nat) : Prop :=
  h' = h0 ∧ n' = n0 ∧ e = .exit 2 ∧ σ'.get 3 = some (.int .u64 ((fold S : Nat) : Int))
theorem fold_loop {S : Nat} {h0 : AHeap} (n0 : Nat) :
    ∀ (r : Nat) (σ : Fr) (h : AHeap) (n : Nat), FoldInv S h0 n0 r σ h n → HasCode EV06 (.loop F23L1) σ h n (FoldPost S h0 n0) := by
  refine wx_inv _ fun r σ h n hI => ?_
  obtain ⟨rfl, rfl, s, rfl, hlt, hf, rfl⟩ := hI
  by_cases hs : 65535 < s
  · have ha : andI .u64 (s : Int) 65535 = ((s % 65536 : Nat) : Int) := by
      have := and64 (x := s) (y := 65535) hlt (by decide)
      rw [show (65535 : Nat) = 2 ^ 16 - 1 from rfl, Nat.and_two_pow_sub_one_eq_mod] at this
      exact this
    have hh : shrI .u64 (s : Int) 16 = ((s / 65536 : Nat) : Int) := shrI_nat .u64 s 16
    have hsum : ((s % 65536 : Nat) : Int) + ((s / 65536 : Nat) : Int) = ((s % 65536 + s / 65536 : Nat) : Int) := by omega
    simp -dsimp (discharger := omega) [F23L1, ha, hh]
    exact .mk' (s % 65536 + s / 65536) (by omega) [(3, .int .u64 ((s % 65536 + s / 65536 : Nat) : Int))] _ (by simp) (.refl _) ⟨rfl, rfl, _, rfl, by omega, by rw [fold_step hs]; exact hf, rfl⟩
  · simp -dsimp (discharger := omega) [F23L1]
    have hid := fold_id (s := s) (by omega)
    exact ⟨rfl, rfl, rfl, by simp [← hf, hid]⟩
theorem not_u16 {x : Nat} (hx : x < 65536) : notI .u16 (x : Int) = ((65535 - x : Nat) : Int) := by
  have e2 : notI .u16 (x : Int) = IntKind.u16.wrap ((BitVec.ofInt 16 65535 ^^^ BitVec.ofInt 16 (x : Int)).toNat : Int) := rfl
  have e : (BitVec.ofInt 16 65535 ^^^ BitVec.ofInt 16 (x : Int)).toNat = 65535 - x := by
    have : BitVec.ofInt 16 65535 = BitVec.allOnes 16 := by decide
    rw [this, BitVec.ofInt_natCast, BitVec.allOnes_xor, BitVec.toNat_not, BitVec.toNat_ofNat, Nat.mod_eq_of_lt hx]
  rw [e2, e]
  simp (discharger := omega) []
theorem sum_ret {bs : List UInt8} (hl : bs.length < 100000) {u : Value} {h : AHeap} (hu : BS h u bs) {n : Nat} : Ret EV06 23 [u] h n (.int .u16 ((sumN bs : Nat) : Int)) [] n := by
  obtain ⟨a, k, rfl⟩ := hu.shape
  refine rsx23 (by simp) (by simp) ?_
  simp -dsimp (discharger := omega) [B23]
  refine loop_use (sum_loop hl hu n bs.length [(3, .int .u64 ((sumT (bs.take 0) : Nat) : Int)), (6, .slice a bs.length k), (7, .int .i64 (bs.length : Int)), (8, .int .i64 ((0 : Nat) : Int))] h n ⟨rfl, rfl, 0, by omega, rfl⟩) (by simp [sumT]) (.refl _) ?_
  rintro e σ' h' n' ⟨rfl, rfl, rfl, e3⟩
  simp -dsimp (discharger := omega) []
  have hS := sumT_le bs
  refine loop_use (fold_loop (S := sumT bs) (h0 := h') n' (sumT bs) [(3, .int .u64 ((sumT bs : Nat) : Int))] h' n' ⟨rfl, rfl, _, rfl, by omega, rfl, rfl⟩) (by simp [e3]) (.refl _) ?_
  rintro e σ2 h2 n2 ⟨rfl, rfl, rfl, f3⟩
  have hfl := fold_le (sumT bs)
  have hnot := not_u16 (x := fold (sumT bs)) (by omega)
  simp -dsimp (discharger := omega) [f3, hnot]
  exact ⟨by rw [sumN], .refl _⟩
/- The document's. -/
def RSumInv (bs : List UInt8) (u : Value) (h0 : AHeap) (n0 : Nat) (r : Nat) (σ : Fr) (h : AHeap) (n : Nat) : Prop :=
  h = h0 ∧ n = n0 ∧ ∃ i : Nat, (bs.length + 1) / 2 = i + r ∧ σ = [(0, u), (3, .int .i64 ((fold (sumT (bs.take (2 * i))) : Nat) : Int)), (4, .int .i64 ((2 * i : Nat) : Int))]
def RSumPost (bs : List UInt8) (h0 : AHeap) (n0 : Nat) (e : Ex) (σ' : Fr) (h' : AHeap) (n' : Nat) : Prop :=
  h' = h0 ∧ n' = n0 ∧ e = .exit 0 ∧ σ'.get 3 = some (.int .i64 ((fold (sumT bs) : Nat) : Int))
theorem rsum_loop {bs : List UInt8} (hl : bs.length < 100000) {u : Value} {h0 : AHeap} (hu : BS h0 u bs) (n0 : Nat) :
    ∀ (r : Nat) (σ : Fr) (h : AHeap) (n : Nat), RSumInv bs u h0 n0 r σ h n → HasCode EV06 (.loop F24L0) σ h n (RSumPost bs h0 n0) := by
  refine wx_inv _ fun r σ h n hI => ?_
  obtain ⟨rfl, rfl, i, hi, rfl⟩ := hI
  obtain ⟨a0, k0, rfl⟩ := hu.shape
  cases r with
  | zero =>
    have hle : bs.length ≤ 2 * i := by omega
    have ht : bs.take (2 * i) = bs := List.take_of_length_le hle
    simp -dsimp (discharger := omega) [F24L0]
    exact ⟨rfl, rfl, rfl, by simp [ht]⟩
  | succ r =>
    have hlt : 2 * i < bs.length := by omega
    obtain ⟨_, q, o, g, rfl, hr⟩ := bs_some hu (by omega)
    have hx := List.getElem?_eq_getElem hlt
    generalize bs[2 * i] = c at hx
    have hrd := bs_one hr hx
    have hc := c.toNat_lt
    have hf := fold_le (sumT (bs.take (2 * i)))
    have s1 : sumT (bs.take (2 * i + 1)) = sumT (bs.take (2 * i)) + 256 * c.toNat := by
      rw [take_snoc hx, sumT_snoc, List.length_take, Nat.min_eq_left (by omega), if_pos (by omega)]
    have e1 : (2 * (i : Int)).toNat = 2 * i := by omega
    have hend : ∀ {σ : Fr} {tk : Tok (RSumInv bs (.slice (some ⟨q, o, some g⟩) bs.length k0) h n)}, FSubL [(0, .slice (some ⟨q, o, some g⟩) bs.length k0), (3, .int .i64 ((fold (sumT (bs.take (2 * (i + 1)))) : Nat) : Int)), (4, .int .i64 ((2 * (i + 1) : Nat) : Int))] σ → Again (RSumInv bs (.slice (some ⟨q, o, some g⟩) bs.length k0) h n) (r + 1) σ h n tk := fun hs =>
      .mk' r (by omega) _ _ hs (.refl _) ⟨rfl, rfl, i + 1, by omega, rfl⟩
    by_cases hl2 : 2 * i + 1 < bs.length
    · have hy := List.getElem?_eq_getElem hl2
      generalize bs[2 * i + 1] = d at hy
      have hrd2 := bs_one hr hy
      have hd := d.toNat_lt
      have e2 : (2 * (i : Int) + 1).toNat = 2 * i + 1 := by omega
      have s2 : sumT (bs.take (2 * (i + 1))) = sumT (bs.take (2 * i)) + (256 * c.toNat + d.toNat) := by
        rw [show 2 * (i + 1) = 2 * i + 1 + 1 by omega, take_snoc hy, sumT_snoc, List.length_take, Nat.min_eq_left (by omega), if_neg (by omega), s1]; omega
      have hfa := fold_add (s := sumT (bs.take (2 * i))) (w := 256 * c.toNat + d.toNat) (by omega)
      rw [← s2] at hfa
      generalize fold (sumT (bs.take (2 * i))) = F at *
      by_cases hb : 65535 < F + (256 * c.toNat + d.toNat)
      · rw [if_pos hb] at hfa
        simp -dsimp (discharger := omega) [F24L0, hrd, hrd2, e1, e2]
        exact hend (by simp [hfa]; omega)
      · rw [if_neg hb] at hfa
        simp -dsimp (discharger := omega) [F24L0, hrd, hrd2, e1, e2]
        exact hend (by simp [hfa]; try omega)
    · have s2 : sumT (bs.take (2 * (i + 1))) = sumT (bs.take (2 * i)) + 256 * c.toNat := by
        rw [← s1, List.take_of_length_le (by omega), List.take_of_length_le (by omega)]
      have hfa := fold_add (s := sumT (bs.take (2 * i))) (w := 256 * c.toNat) (by omega)
      rw [← s2] at hfa
      generalize fold (sumT (bs.take (2 * i))) = F at *
      by_cases hb : 65535 < F + 256 * c.toNat
      · rw [if_pos hb] at hfa
        simp -dsimp (discharger := omega) [F24L0, hrd, e1]
        exact hend (by simp [hfa]; omega)
      · rw [if_neg hb] at hfa
        simp -dsimp (discharger := omega) [F24L0, hrd, e1]
        exact hend (by simp [hfa]; try omega)
theorem rsum_ret {bs : List UInt8} (hl : bs.length < 100000) {u : Value} {h : AHeap} (hu : BS h u bs) {n : Nat} : Ret EV06 24 [u] h n (.int .u16 ((sumN bs : Nat) : Int)) [] n := by
  obtain ⟨a, k, rfl⟩ := hu.shape
  refine rsx24 (by simp) (by simp) ?_
  simp -dsimp (discharger := omega) [B24]
  refine loop_use (rsum_loop hl hu n ((bs.length + 1) / 2) [(0, .slice a bs.length k), (3, .int .i64 ((fold (sumT (bs.take (2 * 0))) : Nat) : Int)), (4, .int .i64 ((2 * 0 : Nat) : Int))] h n ⟨rfl, rfl, 0, by omega, rfl⟩) (by simp [sumT, fold]) (.refl _) ?_
  rintro e σ' h' n' ⟨rfl, rfl, rfl, e3⟩
  have hfl := fold_le (sumT bs)
  simp -dsimp (discharger := omega) [e3]
  exact ⟨by rw [sumN]; omega, .refl _⟩
end
end Go.Proofs.YtiemkafpijhlmaaDoor.Am
namespace Go.Proofs.YtiemkafpijhlmaaDoor.Am
noncomputable section
/- CONTRACTS: options. -/
def opts (l : List UInt8) : Bool :=
  match l with
  | [] => true
  | c :: r => if c = 0 then true else if c = 1 then opts r else
    match r with
    | [] => false
    | d :: r' => if d.toNat < 2 ∨ r'.length + 2 < d.toNat then false else opts ((c :: d :: r').drop (d.toNat - 2 + 2))
termination_by l.length
decreasing_by
  · simp
  · simp; omega
theorem opts_nil : opts [] = true := by rw [opts.eq_def]
theorem opts_zero (r : List UInt8) : opts (0 :: r) = true := by rw [opts.eq_def]; rfl
theorem opts_one (r : List UInt8) : opts (1 :: r) = opts r := by
  conv => lhs; rw [opts.eq_def]
  rfl
theorem opts_end {c : UInt8} (h0 : ¬ c = 0) (h1 : ¬ c = 1) : opts [c] = false := by
  rw [opts.eq_def]; simp only [if_neg h0, if_neg h1]
theorem opts_bad {c d : UInt8} {r : List UInt8} (h0 : ¬ c = 0) (h1 : ¬ c = 1) (hd : d.toNat < 2 ∨ r.length + 2 < d.toNat) : opts (c :: d :: r) = false := by
  rw [opts.eq_def]; simp only [if_neg h0, if_neg h1, if_pos hd]
theorem opts_go {c d : UInt8} {r : List UInt8} (h0 : ¬ c = 0) (h1 : ¬ c = 1) (hd : ¬ (d.toNat < 2 ∨ r.length + 2 < d.toNat)) : opts (c :: d :: r) = opts ((c :: d :: r).drop d.toNat) := by
  conv => lhs; rw [opts.eq_def]
  simp only [if_neg h0, if_neg h1, if_neg hd]
  rw [show d.toNat - 2 + 2 = d.toNat by omega]
def optB (l : List UInt8) : Bool := decide (l.length ≤ 40) && decide (l.length % 4 = 0) && opts l
theorem u8z (c : UInt8) (k : UInt8) : (((c.toNat : Nat) : Int) = ((k.toNat : Nat) : Int)) ↔ c = k := by
  constructor
  · intro e; exact UInt8.toNat_inj.1 (by omega)
  · intro e; rw [e]
def OptInv (bs : List UInt8) (z : Nat) (g : Nat) (h0 : AHeap) (n0 : Nat) (r : Nat) (σ : Fr) (h : AHeap) (n : Nat) : Prop :=
  h = h0 ∧ n = n0 ∧ ∃ (t : List UInt8) (o k : Nat), t.length = r ∧ r ≤ 40 ∧ opts t = opts bs ∧ h.read z g o t.length = some (u8s t) ∧ σ = [(0, .slice (some ⟨z, o, some g⟩) t.length k)]
def OptPost (bs : List UInt8) (h0 : AHeap) (n0 : Nat) (e : Ex) (σ' : Fr) (h' : AHeap) (n' : Nat) : Prop :=
  h' = h0 ∧ n' = n0 ∧ (e = .exit 0 ∧ opts bs = true ∨ e = .ret ∧ opts bs = false ∧ σ'.get 2 = some (.bool false))
theorem opt_loop {bs : List UInt8} {z g : Nat} {h0 : AHeap} (n0 : Nat) :
    ∀ (r : Nat) (σ : Fr) (h : AHeap) (n : Nat), OptInv bs z g h0 n0 r σ h n → HasCode EV06 (.loop F42L0) σ h n (OptPost bs h0 n0) := by
  refine wx_inv _ fun r σ h n hI => ?_
  obtain ⟨rfl, rfl, t, o, k, hlen, hr40, ho, hrd, rfl⟩ := hI
  cases t with
  | nil =>
    rw [opts_nil] at ho
    simp -dsimp (discharger := omega) [F42L0]
    exact ⟨rfl, rfl, .inl ⟨rfl, ho.symm⟩⟩
  | cons c t =>
    have hrd0 := hrd
    simp only [List.length_cons] at hlen hrd
    have r0 := bs_one (vs := c :: t) hrd0 (j := 0) (c := c) rfl
    rw [Nat.add_zero] at r0
    have hc := c.toNat_lt
    have cz := u8z c 0
    have c1 := u8z c 1
    have hnext : ∀ {σ : Fr} {w k' : Nat} {tk : Tok (OptInv bs z g h n)}, 0 < w → w ≤ t.length + 1 → opts ((c :: t).drop w) = opts bs → FSubL [(0, .slice (some ⟨z, o + w, some g⟩) ((c :: t).drop w).length k')] σ → Again (OptInv bs z g h n) r σ h n tk := fun h0 h1 h2 hs =>
      .mk' ((c :: t).drop _).length (by simp; omega) _ _ hs (.refl _) ⟨rfl, rfl, _, _, _, rfl, by simp; omega, h2, by
        have := bs_sub hrd0 (a := _) (b := t.length + 1) h1 (by simp)
        rw [List.take_of_length_le (by simp)] at this
        rwa [List.length_drop], rfl⟩
    by_cases e0 : c = 0
    · subst e0
      rw [opts_zero] at ho
      simp -dsimp (discharger := omega) [F42L0, r0]
      exact ⟨rfl, rfl, .inl ⟨rfl, ho.symm⟩⟩
    · have n0 : ¬ ((c.toNat : Nat) : Int) = 0 := fun e => e0 (cz.1 e)
      by_cases e1 : c = 1
      · subst e1
        rw [opts_one] at ho
        simp -dsimp (discharger := omega) [F42L0, r0]
        exact hnext (w := 1) (k' := if k % 2 = 1 then k - 2 else if k = 2 then k else 0) (by omega) (by omega) ho (by simp)
      · have n1 : ¬ ((c.toNat : Nat) : Int) = 1 := fun e => e1 (c1.1 e)
        cases t with
        | nil =>
          rw [opts_end e0 e1] at ho
          simp -dsimp (discharger := omega) [F42L0, r0, n0, n1]
          exact ⟨rfl, rfl, .inr ⟨rfl, ho.symm, by simp⟩⟩
        | cons d t =>
          have r1 := bs_one (vs := c :: d :: t) hrd0 (j := 1) (c := d) rfl
          have hd := d.toNat_lt
          simp only [List.length_cons] at hlen hrd
          by_cases h2 : d.toNat < 2
          · rw [opts_bad e0 e1 (.inl h2)] at ho
            simp -dsimp (discharger := omega) [F42L0, r0, n0, n1, r1]
            exact ⟨rfl, rfl, .inr ⟨rfl, ho.symm, by simp⟩⟩
          · by_cases h3 : t.length + 2 < d.toNat
            · rw [opts_bad e0 e1 (.inr h3)] at ho
              simp -dsimp (discharger := omega) [F42L0, r0, n0, n1, r1]
              exact ⟨rfl, rfl, .inr ⟨rfl, ho.symm, by simp⟩⟩
            · rw [opts_go e0 e1 (by omega)] at ho
              simp -dsimp (discharger := omega) [F42L0, r0, n0, n1, r1]
              exact hnext (w := d.toNat) (k' := if k % 2 = 1 then k - 2 * d.toNat else if k = 2 then k else 0) (by omega) (by simp only [List.length_cons]; omega) ho (by simp)
theorem opt_loop0 {a : Option Addr} {k : Nat} {h0 : AHeap} (n0 : Nat) :
    ∀ (r : Nat) (σ : Fr) (h : AHeap) (n : Nat), (h = h0 ∧ n = n0 ∧ σ = [(0, .slice a 0 k)]) → HasCode EV06 (.loop F42L0) σ h n (OptPost [] h0 n0) := by
  refine wx_inv (I := fun _ σ h n => h = h0 ∧ n = n0 ∧ σ = [(0, .slice a 0 k)]) fun r σ h n hI => ?_
  obtain ⟨rfl, rfl, rfl⟩ := hI
  simp -dsimp (discharger := omega) [F42L0]
  exact ⟨rfl, rfl, .inl ⟨rfl, opts_nil⟩⟩
theorem options_ret {bs : List UInt8} (hl : bs.length < 100000) {u : Value} {h : AHeap} (hu : BS h u bs) {n : Nat} : Ret EV06 42 [u] h n (.bool (optB bs)) [] n := by
  have hu0 := hu
  obtain ⟨a, k, rfl⟩ := hu.shape
  refine rsx42 (by simp) (by simp) ?_
  have t4 : Int.tmod (bs.length : Int) 4 = ((bs.length % 4 : Nat) : Int) := rfl
  by_cases h40 : bs.length ≤ 40
  · by_cases h4 : bs.length % 4 = 0
    · have b4 : (bs.length : Int) % 4 = 0 := by omega
      have eo : optB bs = opts bs := by simp [optB, h40, h4]
      rw [eo]
      simp -dsimp (discharger := omega) [B42, t4, b4]
      rcases Nat.eq_zero_or_pos bs.length with h0 | h0
      · have : bs = [] := List.eq_nil_of_length_eq_zero h0
        subst this
        refine loop_use (opt_loop0 (a := a) (k := k) (h0 := h) n 0 [(0, .slice a 0 k)] h n ⟨rfl, rfl, rfl⟩) (by simp) (.refl _) ?_
        rintro e σ' h' n' ⟨rfl, rfl, ⟨rfl, e⟩ | ⟨rfl, e, e2⟩⟩
        · rw [e]
          simp -dsimp (discharger := omega) []
          exact .refl _
        · rw [e]
          simp -dsimp (discharger := omega) [e2]
          exact .refl _
      · obtain ⟨_, q, o, g, rfl, hr⟩ := bs_some hu0 h0
        refine loop_use (opt_loop (bs := bs) (z := q) (g := g) (h0 := h) n bs.length [(0, .slice (some ⟨q, o, some g⟩) bs.length k)] h n ⟨rfl, rfl, bs, o, k, rfl, h40, rfl, hr, rfl⟩) (by simp) (.refl _) ?_
        rintro e σ' h' n' ⟨rfl, rfl, ⟨rfl, e⟩ | ⟨rfl, e, e2⟩⟩
        · rw [e]
          simp -dsimp (discharger := omega) []
          exact .refl _
        · rw [e]
          simp -dsimp (discharger := omega) [e2]
          exact .refl _
    · have b4 : ¬ (bs.length : Int) % 4 = 0 := by omega
      have eo : optB bs = false := by simp [optB, h40, h4]
      rw [eo]
      simp -dsimp (discharger := omega) [B42, t4]
      exact .refl _
  · have eo : optB bs = false := by simp [optB, h40]
    rw [eo]
    simp -dsimp (discharger := omega) [B42]
    exact .refl _
/- The document's. -/
def ROptInv (bs : List UInt8) (u : Value) (h0 : AHeap) (n0 : Nat) (r : Nat) (σ : Fr) (h : AHeap) (n : Nat) : Prop :=
  h = h0 ∧ n = n0 ∧ ∃ i : Nat, i + r = bs.length ∧ opts (bs.drop i) = opts bs ∧ σ = [(0, u), (3, .int .i64 (i : Int))]
def ROptPost (bs : List UInt8) (h0 : AHeap) (n0 : Nat) (e : Ex) (σ' : Fr) (h' : AHeap) (n' : Nat) : Prop :=
  h' = h0 ∧ n' = n0 ∧ (e = .exit 0 ∧ opts bs = true ∨ e = .ret ∧ σ'.get 2 = some (.bool (opts bs)))
theorem ropt_loop {bs : List UInt8} (hl : bs.length ≤ 40) {u : Value} {h0 : AHeap} (hu : BS h0 u bs) (n0 : Nat) :
    ∀ (r : Nat) (σ : Fr) (h : AHeap) (n : Nat), ROptInv bs u h0 n0 r σ h n → HasCode EV06 (.loop F45L0) σ h n (ROptPost bs h0 n0) := by
  refine wx_inv _ fun r σ h n hI => ?_
  obtain ⟨rfl, rfl, i, hi, ho, rfl⟩ := hI
  obtain ⟨a0, k0, rfl⟩ := hu.shape
  cases r with
  | zero =>
    obtain rfl : i = bs.length := by omega
    rw [List.drop_length, opts_nil] at ho
    simp -dsimp (discharger := omega) [F45L0]
    exact ⟨rfl, rfl, .inl ⟨rfl, ho.symm⟩⟩
  | succ r =>
    have hlt : i < bs.length := by omega
    obtain ⟨_, q, o, g, rfl, hr⟩ := bs_some hu (by omega)
    have hx := List.getElem?_eq_getElem hlt
    have hdrop : bs.drop i = bs[i] :: bs.drop (i + 1) := List.drop_eq_getElem_cons hlt
    generalize bs[i] = c at hx hdrop
    have r0 := bs_one hr hx
    have hc := c.toNat_lt
    have cz := u8z c 0
    have c1 := u8z c 1
    rw [hdrop] at ho
    have hnext : ∀ {σ : Fr} {j : Nat} {tk : Tok (ROptInv bs (.slice (some ⟨q, o, some g⟩) bs.length k0) h n)}, i < j → j ≤ bs.length → opts (bs.drop j) = opts bs → FSubL [(0, .slice (some ⟨q, o, some g⟩) bs.length k0), (3, .int .i64 (j : Int))] σ → Again (ROptInv bs (.slice (some ⟨q, o, some g⟩) bs.length k0) h n) (r + 1) σ h n tk := fun {σ j tk} h0 h1 h2 hs =>
      .mk' (bs.length - j) (by omega) _ _ hs (.refl _) ⟨rfl, rfl, j, by omega, h2, rfl⟩
    by_cases e0 : c = 0
    · subst e0
      rw [opts_zero] at ho
      simp -dsimp (discharger := omega) [F45L0, r0]
      exact ⟨rfl, rfl, .inr ⟨rfl, by simp [← ho]⟩⟩
    · have n0 : ¬ ((c.toNat : Nat) : Int) = 0 := fun e => e0 (cz.1 e)
      by_cases e1 : c = 1
      · subst e1
        rw [opts_one] at ho
        simp -dsimp (discharger := omega) [F45L0, r0]
        exact hnext (j := i + 1) (by omega) (by omega) ho (by simp)
      · have n1 : ¬ ((c.toNat : Nat) : Int) = 1 := fun e => e1 (c1.1 e)
        by_cases hl2 : i + 1 < bs.length
        · have hy := List.getElem?_eq_getElem hl2
          have hdrop2 : bs.drop (i + 1) = bs[i + 1] :: bs.drop (i + 2) := List.drop_eq_getElem_cons hl2
          generalize bs[i + 1] = d at hy hdrop2
          have r1 := bs_one hr hy
          have hd := d.toNat_lt
          have e2 : ((i : Int) + 1).toNat = i + 1 := by omega
          have hlen : (bs.drop (i + 2)).length + 2 = bs.length - i := by rw [List.length_drop]; omega
          rw [hdrop2] at ho
          by_cases h2 : d.toNat < 2
          · rw [opts_bad e0 e1 (.inl h2)] at ho
            simp -dsimp (discharger := omega) [F45L0, r0, n0, n1, r1, e2]
            exact ⟨rfl, rfl, .inr ⟨rfl, by simp [← ho]⟩⟩
          · by_cases h3 : bs.length - i < d.toNat
            · rw [opts_bad e0 e1 (.inr (by omega))] at ho
              simp -dsimp (discharger := omega) [F45L0, r0, n0, n1, r1, e2]
              exact ⟨rfl, rfl, .inr ⟨rfl, by simp [← ho]⟩⟩
            · rw [opts_go e0 e1 (by omega), ← hdrop2, ← hdrop, List.drop_drop] at ho
              simp -dsimp (discharger := omega) [F45L0, r0, n0, n1, r1, e2]
              exact hnext (j := i + d.toNat) (by omega) (by omega) ho (by simp)
        · have hnil : bs.drop (i + 1) = [] := List.drop_of_length_le (by omega)
          rw [hnil, opts_end e0 e1] at ho
          simp -dsimp (discharger := omega) [F45L0, r0, n0, n1]
          exact ⟨rfl, rfl, .inr ⟨rfl, by simp [← ho]⟩⟩
theorem roptions_ret {bs : List UInt8} (hl : bs.length < 100000) {u : Value} {h : AHeap} (hu : BS h u bs) {n : Nat} : Ret EV06 45 [u] h n (.bool (optB bs)) [] n := by
  have hu0 := hu
  obtain ⟨a, k, rfl⟩ := hu.shape
  refine rsx45 (by simp) (by simp) ?_
  have t4 : Int.tmod (bs.length : Int) 4 = ((bs.length % 4 : Nat) : Int) := rfl
  by_cases h40 : bs.length ≤ 40
  · by_cases h4 : bs.length % 4 = 0
    · have b4 : (bs.length : Int) % 4 = 0 := by omega
      have eo : optB bs = opts bs := by simp [optB, h40, h4]
      rw [eo]
      simp -dsimp (discharger := omega) [B45, t4, b4]
      refine loop_use (ropt_loop h40 hu0 n bs.length [(0, .slice a bs.length k), (3, .int .i64 ((0 : Nat) : Int))] h n ⟨rfl, rfl, 0, by omega, rfl, rfl⟩) (by simp) (.refl _) ?_
      rintro e σ' h' n' ⟨rfl, rfl, ⟨rfl, e⟩ | ⟨rfl, e2⟩⟩
      · rw [e]
        simp -dsimp (discharger := omega) []
        exact .refl _
      · simp -dsimp (discharger := omega) [e2]
        exact .refl _
    · have b4 : ¬ (bs.length : Int) % 4 = 0 := by omega
      have eo : optB bs = false := by simp [optB, h40, h4]
      rw [eo]
      simp -dsimp (discharger := omega) [B45, t4, b4]
      exact .refl _
  · have eo : optB bs = false := by simp [optB, h40]
    rw [eo]
    simp -dsimp (discharger := omega) [B45]
    exact .refl _
end
end Go.Proofs.YtiemkafpijhlmaaDoor.Am
namespace Go.Proofs.YtiemkafpijhlmaaDoor.Am
noncomputable section
/- CONTRACTS: masks, texts of addresses. -/
theorem not_u32 {x : Nat} (hx : x < 4294967296) : notI .u32 (x : Int) = ((4294967295 - x : Nat) : Int) := by
  have e2 : notI .u32 (x : Int) = IntKind.u32.wrap ((BitVec.ofInt 32 4294967295 ^^^ BitVec.ofInt 32 (x : Int)).toNat : Int) := rfl
  have e : (BitVec.ofInt 32 4294967295 ^^^ BitVec.ofInt 32 (x : Int)).toNat = 4294967295 - x := by
    have : BitVec.ofInt 32 4294967295 = BitVec.allOnes 32 := by decide
    rw [this, BitVec.ofInt_natCast, BitVec.allOnes_xor, BitVec.toNat_not, BitVec.toNat_ofNat, Nat.mod_eq_of_lt hx]
  rw [e2, e]
  simp (discharger := omega) []
theorem shl1 {k : Nat} (hk : k ≤ 62) : shlI .u64 1 (k : Int) = ((2 ^ k : Nat) : Int) := by
  have hp : 2 ^ k ≤ 2 ^ 62 := Nat.pow_le_pow_right (by omega) hk
  have e : shlI .u64 1 (k : Int) = IntKind.u64.wrap (1 * 2 ^ (Min.min k 64)) := rfl
  have e2 : (1 * 2 ^ k : Int) = ((2 ^ k : Nat) : Int) := by simp
  rw [e, Nat.min_eq_left (by omega), e2]
  exact wrapU rfl (Int.natCast_nonneg _) (by
    have h2 : 2 ^ k < 2 ^ 64 := by omega
    exact_mod_cast h2)
def clampN (b : Int) : Nat := if b < 0 then 0 else if b < 32 then b.toNat else 32
theorem clampN_le (b : Int) : clampN b ≤ 32 := by unfold clampN; repeat' split
                                                  all_goals omega
theorem mask_ret (b : Int) (hb0 : -9223372036854775808 ≤ b) (hb1 : b < 9223372036854775808) {h : AHeap} {n : Nat} : Ret EV06 36 [.int .i64 b] h n (.int .u32 ((mask32 (clampN b) : Nat) : Int)) [] n := by
  refine rsx36 (by simp) (by simp) ?_
  have key : ∀ k : Nat, k ≤ 32 → notI .u32 (IntKind.u32.wrap (IntKind.u64.wrap (shlI .u64 1 ((32 - k : Nat) : Int) - 1))) = ((mask32 k : Nat) : Int) := fun k hk => by
    have hp : 2 ^ (32 - k) ≤ 2 ^ 32 := Nat.pow_le_pow_right (by omega) (by omega)
    have hp1 : 0 < 2 ^ (32 - k) := Nat.pos_of_ne_zero (by simp)
    rw [shl1 (by omega)]
    have e : ((2 ^ (32 - k) : Nat) : Int) - 1 = ((2 ^ (32 - k) - 1 : Nat) : Int) := by omega
    rw [e, wrap_u64 (by omega) (by omega), wrap_u32 (by omega) (by omega), not_u32 (by omega), mask32]
    omega
  unfold clampN
  by_cases c1 : b < 0
  · have := key 0 (by omega)
    simp -dsimp (discharger := omega) [B36, c1]
    simp only [Nat.sub_zero] at this
    have t2 : notI .u32 (IntKind.u32.wrap (IntKind.u64.wrap (shlI .u64 1 32 - 1))) = ((mask32 0 : Nat) : Int) := this
    rw [t2]
    exact ⟨rfl, .refl _⟩
  · by_cases c2 : b < 32
    · have := key b.toNat (by omega)
      have e1 : ((32 - b.toNat : Nat) : Int) = 32 - b := by omega
      rw [e1] at this
      simp -dsimp (discharger := omega) [B36, c1, c2]
      have e3 : (if 0 < b then b else 0) = b := by split <;> omega
      rw [e3, this]
      exact ⟨rfl, .refl _⟩
    · have t2 : notI .u32 (IntKind.u32.wrap (IntKind.u64.wrap (shlI .u64 1 0 - 1))) = ((mask32 32 : Nat) : Int) := key 32 (by omega)
      simp -dsimp (discharger := omega) [B36, c1, c2]
      have e4 : (if 32 < b then 32 else b) = 32 := by split <;> omega
      rw [e4]
      exact ⟨t2, .refl _⟩
theorem and32_255 {y : Int} (h0 : 0 ≤ y) (h1 : y < 4294967296) : andI .u32 y 255 = y % 256 := by
  obtain ⟨m, rfl⟩ : ∃ m : Nat, y = (m : Int) := ⟨y.toNat, by omega⟩
  have := andN (k := .u32) rfl (x := m) (y := 255) (by show m < 4294967296; omega) (by decide)
  rw [show (255 : Nat) = 2 ^ 8 - 1 from rfl, Nat.and_two_pow_sub_one_eq_mod] at this
  exact this
theorem text_ret {a : Nat} (ha : a < 4294967296) {h : AHeap} {n : Nat} (hw : WF h n) (hp : HasPow h) (hn : 4096 ≤ n) : Ret EV06 13 [.int .u32 (a : Int)] h n (.string ⟨(ipT a).toArray⟩) [] (n + 30) := by
  refine rsx13 (by simp) (by simp) ?_
  have s24 : shrI .u32 (a : Int) 24 = (a : Int) / 16777216 := shrI_pos .u32 (by omega) 24 (by decide)
  have s16 : shrI .u32 (a : Int) 16 = (a : Int) / 65536 := shrI_pos .u32 (by omega) 16 (by decide)
  have s8 : shrI .u32 (a : Int) 8 = (a : Int) / 256 := shrI_pos .u32 (by omega) 8 (by decide)
  have s0 : shrI .u32 (a : Int) 0 = (a : Int) / 1 := shrI_pos .u32 (by omega) 0 (by decide)
  have t24 : itoaL ((a : Int) / 16777216 % 256) = decs (a / 16777216) := by
    have e : (a : Int) / 16777216 % 256 = ((a / 16777216 : Nat) : Int) := by omega
    rw [e, itoaL_nat]
  have t16 : itoaL ((a : Int) / 65536 % 256) = decs (a / 65536 % 256) := itoaL_nat (a / 65536 % 256)
  have t8 : itoaL ((a : Int) / 256 % 256) = decs (a / 256 % 256) := itoaL_nat (a / 256 % 256)
  have t0 : itoaL ((a : Int) % 256) = decs (a % 256) := itoaL_nat (a % 256)
  have hl : ∀ u : Nat, u < 256 → (decs u).length ≤ 20 := fun u hu => decs_le20 (by omega)
  have wf : ∀ {H : AHeap} {k m : Nat}, WF H k → k ≤ m → WF H m := fun w h => w.mono h
  simp -dsimp (discharger := omega) [B13]
  with_reducible refine wx_round ?_
  simp -dsimp (discharger := omega) [F13L0, s24, and32_255]
  with_reducible refine call_ret (itoaI_ret (by omega) (by omega) hp hw hn) ?_
  rw [t24]
  simp -dsimp (discharger := omega) [aFill, aAppend, aElems]
  with_reducible refine wx_round ?_
  simp -dsimp (discharger := omega) [F13L0, s16, and32_255]
  with_reducible refine call_ret (itoaI_ret (by omega) (by omega) (by (repeat (refine HasPow.put ?_ (by omega) _)); exact hp) (.of fun j hj => by simp (discharger := omega) [hw.none (i := j) (by omega)]) (by omega)) ?_
  rw [t16]
  simp -dsimp (discharger := omega) [aFill, aAppend, aElems]
  with_reducible refine wx_round ?_
  simp -dsimp (discharger := omega) [F13L0, s8, and32_255]
  with_reducible refine call_ret (itoaI_ret (by omega) (by omega) (by (repeat (refine HasPow.put ?_ (by omega) _)); exact hp) (.of fun j hj => by simp (discharger := omega) [hw.none (i := j) (by omega)]) (by omega)) ?_
  rw [t8]
  simp -dsimp (discharger := omega) [aFill, aAppend, aElems]
  with_reducible refine wx_round ?_
  simp -dsimp (discharger := omega) [F13L0, s0, Int.ediv_one, and32_255]
  with_reducible refine call_ret (itoaI_ret (by omega) (by omega) (by (repeat (refine HasPow.put ?_ (by omega) _)); exact hp) (.of fun j hj => by simp (discharger := omega) [hw.none (i := j) (by omega)]) (by omega)) ?_
  rw [t0]
  simp -dsimp (discharger := omega) [aFill, aAppend, aElems]
  with_reducible refine wx_round ?_
  simp -dsimp (discharger := omega) [F13L0]
  have l1 := hl (a / 16777216) (by omega)
  have l2 := hl (a / 65536 % 256) (by omega)
  have l3 := hl (a / 256 % 256) (by omega)
  have l4 := hl (a % 256) (by omega)
  refine call_ret (join_ret (ss := [decs (a / 16777216), decs (a / 65536 % 256), decs (a / 256 % 256), decs (a % 256)]) (i := n + 1 + 1) (o := 0) (g := 4) (k := 2) (by simp [strsL]) (.of fun j hj => by simp (discharger := omega) [hw.none (i := j) (by omega)]) [46] (by simp) (by simp) (by rw [ipT_join]; simp only [ipT, List.length_append, List.length_cons]; omega)) ?_
  rw [ipT_join]
  simp -dsimp (discharger := omega) []
  repeat (refine HSub.new ?_ hw (by omega) _)
  exact .refl _
end
end Go.Proofs.YtiemkafpijhlmaaDoor.Am
namespace Go.Proofs.YtiemkafpijhlmaaDoor.Am
noncomputable section
/- CONTRACTS: addresses of texts. -/
theorem step32 {a x : Nat} (ha : a < 2 ^ 24) (hx : x < 256) : orI .u32 (shlI .u32 (a : Int) 8) (x : Int) = ((256 * a + x : Nat) : Int) := by
  have e : shlI .u32 (a : Int) 8 = ((a * 256 : Nat) : Int) := by
    have : shlI .u32 (a : Int) 8 = IntKind.u32.wrap ((a : Int) * 256) := rfl
    rw [this]
    simp (discharger := omega) []
  rw [e, orN (k := .u32) rfl (by show a * 256 < 4294967296; omega) (by show x < 4294967296; omega)]
  have := Nat.two_pow_add_eq_or_of_lt (i := 8) hx a
  rw [show a * 256 = 2 ^ 8 * a by omega, ← this]
theorem octV_num {p : List UInt8} : octV p = if numI p < 0 ∨ 255 < numI p then none else some (numI p).toNat := by
  by_cases h1 : canon p = true ∧ decV p < 9223372036854775808
  · have e : numI p = ((decV p : Nat) : Int) := by unfold numI; rw [if_pos h1]
    rw [e]
    unfold octV
    by_cases h2 : decV p ≤ 255
    · rw [if_pos ⟨h1.1, h2⟩, if_neg (by omega)]; simp
    · rw [if_neg (fun h => h2 h.2), if_pos (by omega)]
  · have e : numI p = -1 := by unfold numI; rw [if_neg h1]
    rw [e, if_pos (by omega)]
    unfold octV
    rw [if_neg]
    rintro ⟨h2, h3⟩
    exact h1 ⟨h2, by omega⟩
theorem lens_mem1 : ∀ {l : List (List UInt8)} {x : List UInt8}, x ∈ l → x.length + 1 ≤ lens l
  | a :: l, x, h => by
    rcases List.mem_cons.1 h with rfl | h
    · simp only [lens]; omega
    · have := lens_mem1 h; simp only [lens]; omega
theorem octs_drop {ps : List (List UInt8)} {i : Nat} {x : List UInt8} (h : ps[i]? = some x) (a : Nat) : octs (ps.drop i) a = match octV x with
    | none => none
    | some v => octs (ps.drop (i + 1)) (256 * a + v) := by
  obtain ⟨hlt, rfl⟩ := List.getElem?_eq_some_iff.1 h
  rw [List.drop_eq_getElem_cons hlt]; rfl
def IPInv (ps : List (List UInt8)) (sl : Value) (h0 : AHeap) (n0 : Nat) (r : Nat) (σ : Fr) (h : AHeap) (n : Nat) : Prop :=
  h = h0 ∧ ∃ i a, i + r = 4 ∧ n0 ≤ n ∧ n ≤ n0 + 5 * i ∧ octs (ps.drop i) a = octs ps 0 ∧ a < 256 ^ i ∧ σ = [(5, .int .u32 (a : Int)), (14, sl), (15, .int .i64 4), (16, .int .i64 (i : Int))]
def IPPost (ps : List (List UInt8)) (h0 : AHeap) (n0 : Nat) (e : Ex) (σ' : Fr) (h' : AHeap) (n' : Nat) : Prop :=
  h' = h0 ∧ n' ≤ n0 + 20 ∧ (e = .exit 0 ∧ (∃ a, octs ps 0 = some a ∧ σ'.get 5 = some (.int .u32 (a : Int))) ∨ e = .ret ∧ octs ps 0 = none ∧ σ'.get 2 = some (.int .u32 0) ∧ σ'.get 3 = some (.int .i64 5))
theorem ip_loop {ps : List (List UInt8)} (hps : ps.length = 4) (hlen : ∀ x, x ∈ ps → x.length < 100000) {z o g k : Nat} {h0 : AHeap} (hr : h0.read z g o 4 = some (strsL ps)) {n0 : Nat} (hw : WF h0 n0) (hp : HasPow h0) (he : HasErrs h0) (hn0 : 4096 ≤ n0) :
    ∀ (r : Nat) (σ : Fr) (h : AHeap) (n : Nat), IPInv ps (.slice (some ⟨z, o, some g⟩) 4 k) h0 n0 r σ h n → HasCode EV06 (.loop F9L0) σ h n (IPPost ps h0 n0) := by
  refine wx_inv _ fun r σ h n hI => ?_
  obtain ⟨rfl, i, a, hi, hn1, hn2, ho, ha, rfl⟩ := hI
  cases r with
  | zero =>
    obtain rfl : i = 4 := by omega
    rw [List.drop_of_length_le (by omega)] at ho
    simp -dsimp (discharger := omega) [F9L0]
    exact ⟨rfl, by omega, .inl ⟨rfl, a, ho.symm, by simp⟩⟩
  | succ r =>
    have hlt : i < ps.length := by omega
    have hx := List.getElem?_eq_getElem hlt
    have hxl := hlen _ (List.getElem_mem hlt)
    generalize ps[i] = x at hx hxl
    have hrd := read_one hr (strsL_get? hx) (by omega)
    rw [octs_drop hx, octV_num] at ho
    have hpw : 256 ^ i ≤ 256 ^ 3 := Nat.pow_le_pow_right (by omega) (by omega)
    have hb : -1 ≤ numI x ∧ numI x < 9223372036854775808 := by
      unfold numI; split <;> omega
    simp -dsimp (discharger := omega) [F9L0, hrd]
    with_reducible refine call_ret (number_ret hxl (hw.mono hn1) hp he (by omega)) ?_
    generalize numI x = v at *
    by_cases h1 : v < 0
    · rw [if_pos (.inl h1)] at ho
      simp -dsimp (discharger := omega) []
      exact ⟨rfl, by omega, .inr ⟨rfl, ho.symm, by simp, by simp⟩⟩
    · by_cases h2 : 255 < v
      · rw [if_pos (.inr h2)] at ho
        simp -dsimp (discharger := omega) []
        exact ⟨rfl, by omega, .inr ⟨rfl, ho.symm, by simp, by simp⟩⟩
      · rw [if_neg (by omega)] at ho
        simp only at ho
        obtain ⟨u, rfl⟩ : ∃ u : Nat, v = (u : Int) := ⟨v.toNat, by omega⟩
        have hst := step32 (a := a) (x := u) (by omega) (by omega)
        rw [Int.toNat_natCast] at ho
        simp -dsimp (discharger := omega) [hst]
        exact .mk' r (by omega) [(5, .int .u32 ((256 * a + u : Nat) : Int)), (14, .slice (some ⟨z, o, some g⟩) 4 k), (15, .int .i64 4), (16, .int .i64 ((i + 1 : Nat) : Int))] h (by simp) (.refl _) ⟨rfl, i + 1, _, by omega, by omega, by omega, ho, by rw [Nat.pow_succ]; omega, rfl⟩
theorem parse_ret {s : List UInt8} (hs : s.length < 100000) {h : AHeap} {n : Nat} (hw : WF h n) (hp : HasPow h) (he : HasErrs h) (hn : 4096 ≤ n) : Ret EV06 9 [.string ⟨s.toArray⟩] h n (.tuple #[.int .u32 ((ipN s : Nat) : Int), .int .i64 ((ipE s : Nat) : Int)]) [] (n + 21) := by
  refine rsx9 (by simp) (by simp) ?_
  simp -dsimp (discharger := omega) [B9]
  with_reducible refine call_ret (split_ret s 46 (by omega) _ _) ?_
  have hlens := splitL_lens 46 s
  have hge := lens_ge (splitL 46 s)
  have hmem : ∀ x, x ∈ splitL 46 s → x.length < 100000 := fun x hx => by have := lens_mem1 hx; omega
  unfold ipN ipE ipO
  generalize splitL 46 s = ps at *
  have hs1 : HSub h (h.put n (.cells (some 9) (strsL ps) ps.length)) := (HSub.refl h).new hw (Nat.le_refl n) _
  by_cases h4 : ps.length = 4
  · rw [if_pos h4]
    have hN : (strsL ps).length = 4 := by simp [h4]
    simp -dsimp (discharger := omega) [h4]
    refine loop_use (ip_loop (ps := ps) h4 hmem (z := n) (o := 0) (g := 4) (k := 2) (h0 := h.put n (.cells (some 9) (strsL ps) 4)) (by simp [hN, List.take_of_length_le]) (n0 := n + 1) (hw.put _ (by omega) (by omega)) (hp.put hn _) (he.put hn _) (by omega) 4 [(5, .int .u32 ((0 : Nat) : Int)), (14, .slice (some ⟨n, 0, some 4⟩) 4 2), (15, .int .i64 4), (16, .int .i64 ((0 : Nat) : Int))] _ _ ⟨rfl, 0, 0, rfl, Nat.le_refl _, Nat.le_refl _, rfl, by decide, rfl⟩) (by simp) (.refl _) ?_
    rw [h4] at hs1
    rintro e σ' h' n' ⟨rfl, hn', ⟨rfl, a, ho, g5⟩ | ⟨rfl, ho, g2, g3⟩⟩
    · rw [ho]
      simp -dsimp (discharger := omega) [g5]
      exact ⟨hs1, by omega⟩
    · rw [ho]
      simp -dsimp (discharger := omega) [g2, g3]
      exact ⟨hs1, by omega⟩
  · rw [if_neg h4]
    simp -dsimp (discharger := omega) [h4]
    exact hs1
/-- Has: whether an address lies in a prefix. -/
def hasB (base : Nat) (bits : Int) (ip : Nat) : Bool := maskd base (clampN bits) == maskd ip (clampN bits)
theorem hasB_eq {a b : Nat} (ha : a < 4294967296) (hb : b < 4294967296) (bits : Int) : ((b ^^^ a) &&& mask32 (clampN bits) == 0) = hasB a bits b := by
  have h := xor_mask32 hb ha (clampN_le bits)
  have hp : 0 < 2 ^ (32 - clampN bits) := Nat.pos_of_ne_zero (by simp)
  rw [Bool.eq_iff_iff, beq_iff_eq, hasB, beq_iff_eq, h]
  unfold maskd
  constructor
  · intro e; rw [e]
  · intro e; exact (Nat.eq_of_mul_eq_mul_right hp e).symm
theorem mask32_lt (c : Nat) : mask32 c < 4294967296 := by
  have hp : 0 < 2 ^ (32 - c) := Nat.pos_of_ne_zero (by simp)
  unfold mask32; omega
theorem and32N {x y : Nat} (hx : x < 4294967296) (hy : y < 4294967296) : andI .u32 (x : Int) (y : Int) = ((x &&& y : Nat) : Int) := andN rfl hx hy
theorem xor32N {x y : Nat} (hx : x < 4294967296) (hy : y < 4294967296) : xorI .u32 (x : Int) (y : Int) = ((x ^^^ y : Nat) : Int) := xorN rfl hx hy
theorem has_ret {a ip : Nat} (ha : a < 4294967296) (hi : ip < 4294967296) (bits : Int) (hb0 : -9223372036854775808 ≤ bits) (hb1 : bits < 9223372036854775808) {h : AHeap} {n : Nat} (hw : WF h n) :
    Ret EV06 17 [.agg #[.int .u32 (a : Int), .int .i64 bits], .int .u32 (ip : Int)] h n (.bool (hasB a bits ip)) [] (n + 1) := by
  refine rsx17 (by simp) (by simp) ?_
  have hx : ip ^^^ a < 4294967296 := Nat.xor_lt_two_pow (n := 32) hi ha
  simp -dsimp (discharger := omega) [B17]
  with_reducible refine ret_on [] (mask_ret bits hb0 hb1) ?_
  have hm := mask32_lt (clampN bits)
  have e := hasB_eq ha hi bits
  have e0 : ((((ip ^^^ a) &&& mask32 (clampN bits) : Nat) : Int) == 0) = hasB a bits ip := by rw [nat0, e]
  simp -dsimp (discharger := omega) [xor32N hi ha, and32N hx hm, e0]
  exact (HSub.refl h).new hw (Nat.le_refl n) _
theorem ipT_len {a : Nat} (ha : a < 4294967296) : (ipT a).length ≤ 83 := by
  have l1 := decs_le20 (u := a / 16777216) (by omega)
  have l2 := decs_le20 (u := a / 65536 % 256) (by omega)
  have l3 := decs_le20 (u := a / 256 % 256) (by omega)
  have l4 := decs_le20 (u := a % 256) (by omega)
  simp only [ipT, List.length_append, List.length_cons]; omega
/-- A prefix's text. -/
def pfT (a : Nat) (bits : Int) : List UInt8 := ipT (maskd a (clampN bits)) ++ if clampN bits < 32 then 47 :: decs (clampN bits) else []
theorem maskd_lt {a : Nat} (ha : a < 4294967296) (c : Nat) : maskd a c < 4294967296 := Nat.lt_of_le_of_lt (Nat.div_mul_le_self _ _) ha
theorem clamp_val (b : Int) : (if 0 < (if b < 32 then b else 32) then (if b < 32 then b else 32) else 0) = ((clampN b : Nat) : Int) := by
  unfold clampN; repeat' split
  all_goals omega
theorem ptext_ret {a : Nat} (ha : a < 4294967296) (bits : Int) (hb0 : -9223372036854775808 ≤ bits) (hb1 : bits < 9223372036854775808) {h : AHeap} {n : Nat} (hw : WF h n) (hp : HasPow h) (hn : 4096 ≤ n) :
    Ret EV06 15 [.agg #[.int .u32 (a : Int), .int .i64 bits]] h n (.string ⟨(pfT a bits).toArray⟩) [] (n + 32) := by
  refine rsx15 (by simp) (by simp) ?_
  have hc := clampN_le bits
  have hm := mask32_lt (clampN bits)
  have hmd := maskd_lt ha (clampN bits)
  have hmc : ∀ {H : AHeap} {k : Nat}, Ret EV06 36 [.int .i64 ((clampN bits : Nat) : Int)] H k (.int .u32 ((mask32 (clampN bits) : Nat) : Int)) [] k := fun {H k} => by
    have := mask_ret ((clampN bits : Nat) : Int) (by omega) (by omega) (h := H) (n := k)
    have hcc : clampN ((clampN bits : Nat) : Int) = clampN bits := by
      generalize clampN bits = c at *
      unfold clampN; repeat' split
      all_goals omega
    rwa [hcc] at this
  have had := and32N ha hm
  rw [and_mask32 ha hc] at had
  have h1 : HSub h (h.put n (.cells (some 25) [.int .u32 (a : Int), .int .i64 bits] 2)) := (HSub.refl h).new hw (Nat.le_refl n) _
  unfold pfT
  by_cases c3 : 0 < bits ∧ bits < 32
  · obtain ⟨k, rfl⟩ : ∃ k : Nat, bits = (k : Int) := ⟨bits.toNat, by omega⟩
    have e : clampN (k : Int) = k := by unfold clampN; repeat' split
                                        all_goals omega
    simp only [e] at hc hm hmd hmc had ⊢
    simp -dsimp (discharger := omega) [B15]
    with_reducible refine ret_on [] hmc ?_
    simp -dsimp (discharger := omega) [had]
    with_reducible refine ret_ret (text_ret hmd (hw.put _ (by omega) (by omega)) (hp.put hn _) (by omega)) ?_
    simp -dsimp (discharger := omega) []
    with_reducible refine call_ret (itoaN_ret (u := k) (by omega) (by (repeat (refine HasPow.put ?_ (by omega) _)); exact hp) (.of fun j hj => by simp (discharger := omega) [hw.none (i := j) (by omega)]) (by omega)) ?_
    have : k < 32 := by omega
    simp -dsimp (discharger := omega) [this]
    have l1 := ipT_len hmd
    have l2 := decs_le20 (u := k) (by omega)
    rw [e]
    exact ⟨by omega, by omega, rfl, h1⟩
  · by_cases c1 : bits < 1
    · have e : clampN bits = 0 := by unfold clampN; repeat' split
                                     all_goals omega
      simp only [e] at hc hm hmd hmc had ⊢
      have hmc : ∀ {H : AHeap} {k : Nat}, Ret EV06 36 [.int .i64 0] H k (.int .u32 ((mask32 0 : Nat) : Int)) [] k := hmc
      have hi0 : ∀ {H : AHeap} {m : Nat}, HasPow H → WF H m → 4096 ≤ m → Ret EV06 38 [.int .i64 0] H m (.string ⟨(decs 0).toArray⟩) [] (m + 1) := fun x y z => itoaN_ret (u := 0) (by omega) x y z
      simp -dsimp (discharger := omega) [B15]
      with_reducible refine ret_on [] hmc ?_
      simp -dsimp (discharger := omega) [had]
      with_reducible refine ret_ret (text_ret hmd (hw.put _ (by omega) (by omega)) (hp.put hn _) (by omega)) ?_
      simp -dsimp (discharger := omega) []
      with_reducible refine call_ret (hi0 (by (repeat (refine HasPow.put ?_ (by omega) _)); exact hp) (.of fun j hj => by simp (discharger := omega) [hw.none (i := j) (by omega)]) (by omega)) ?_
      simp -dsimp (discharger := omega) []
      have l1 := ipT_len hmd
      have l2 := decs_le20 (u := 0) (by omega)
      rw [e]
      exact ⟨by omega, by omega, rfl, h1⟩
    · have e : clampN bits = 32 := by unfold clampN; repeat' split
                                      all_goals omega
      simp only [e] at hc hm hmd hmc had ⊢
      have hmc : ∀ {H : AHeap} {k : Nat}, Ret EV06 36 [.int .i64 32] H k (.int .u32 ((mask32 32 : Nat) : Int)) [] k := hmc
      have e4 : (if 32 < bits then 32 else bits) = 32 := by split <;> omega
      simp -dsimp (discharger := omega) [B15, e4]
      with_reducible refine ret_on [] hmc ?_
      simp -dsimp (discharger := omega) [had]
      with_reducible refine ret_ret (text_ret hmd (hw.put _ (by omega) (by omega)) (hp.put hn _) (by omega)) ?_
      simp -dsimp (discharger := omega) []
      rw [e]
      exact ⟨rfl, h1⟩
/- ParsePrefix. -/
def pfE (s : List UInt8) : Nat := if ipE (cutA s 47) = 0 then (if cutB s 47 = true then (if numI (cutZ s 47) < 0 ∨ 2 < (cutZ s 47).length then 5 else if 32 < numI (cutZ s 47) then 24 else 0) else 0) else 5
def pfBits (s : List UInt8) : Nat := if pfE s = 0 then (if cutB s 47 = true then (numI (cutZ s 47)).toNat else 32) else 0
def pfIp (s : List UInt8) : Nat := if pfE s = 0 then maskd (ipN (cutA s 47)) (pfBits s) else 0
theorem cutZ_false {s : List UInt8} {c : UInt8} (h : cutB s c = false) : cutZ s c = [] := by
  unfold cutB at h
  unfold cutZ
  split at h
  · rename_i e; rw [if_pos e]
  · cases h
theorem cutA_le (s : List UInt8) (c : UInt8) : (cutA s c).length ≤ s.length := by
  unfold cutA; split <;> simp <;> omega
theorem cutZ_le (s : List UInt8) (c : UInt8) : (cutZ s c).length ≤ s.length := by
  unfold cutZ; split <;> simp
theorem ipN_lt (s : List UInt8) : ipN s < 4294967296 := by
  unfold ipN
  cases h : ipO s with
  | none => simp
  | some v => exact ipO_lt h
theorem numI_rng (s : List UInt8) : -1 ≤ numI s ∧ numI s < 9223372036854775808 := by
  unfold numI; split <;> omega
theorem clampN_nat {k : Nat} (h : k ≤ 32) : clampN (k : Int) = k := by
  unfold clampN; repeat' split
  all_goals omega
theorem parsePrefix_ret {s : List UInt8} (hs : s.length < 100000) {h : AHeap} {n : Nat} (hw : WF h n) (hp : HasPow h) (he : HasErrs h) (hn : 4096 ≤ n) :
    Ret EV06 11 [.string ⟨s.toArray⟩] h n (.tuple #[.agg #[.int .u32 ((pfIp s : Nat) : Int), .int .i64 ((pfBits s : Nat) : Int)], .int .i64 ((pfE s : Nat) : Int)]) [] (n + 30) := by
  refine rsx11 (by simp) (by simp) ?_
  have hs1 : ∀ B : Blk, HSub h (h.put n B) := fun B => (HSub.refl h).new hw (Nat.le_refl n) _
  have la := cutA_le s 47
  have lz := cutZ_le s 47
  have hip := ipN_lt (cutA s 47)
  simp -dsimp (discharger := omega) [B11]
  with_reducible refine call_ret (cut_ret s 47 (by omega) _ _) ?_
  simp -dsimp (discharger := omega) []
  with_reducible refine call_ret (parse_ret (by omega) (hw.put _ (by omega) (by omega)) (hp.put hn _) (he.put hn _) (by omega)) ?_
  by_cases hE : ipE (cutA s 47) = 0
  · cases hB : cutB s 47 with
    | false =>
      have hz := cutZ_false hB
      have x1 : pfE s = 0 := by unfold pfE; rw [if_pos hE, hB]; rfl
      have x2 : pfBits s = 32 := by unfold pfBits; rw [x1, hB]; rfl
      have x3 : pfIp s = maskd (ipN (cutA s 47)) 32 := by unfold pfIp; rw [x1, x2]; rfl
      rw [x1, x2, x3, hE, hz]
      have had := and32N hip (mask32_lt 32)
      rw [and_mask32 hip (by omega)] at had
      simp -dsimp (discharger := omega) []
      with_reducible refine call_ret (mask_ret 32 (by omega) (by omega)) ?_
      rw [show clampN 32 = 32 from rfl]
      simp -dsimp (discharger := omega) [had, aFill]
      exact (hs1 _).new hw (Nat.le_refl n) _
    | true =>
      have hv := numI_rng (cutZ s 47)
      rw [hE]
      simp -dsimp (discharger := omega) []
      with_reducible refine call_ret (number_ret (by omega) (hw.put _ (by omega) (by omega)) (hp.put hn _) (he.put hn _) (by omega)) ?_
      by_cases v1 : numI (cutZ s 47) < 0
      · have x1 : pfE s = 5 := by unfold pfE; rw [if_pos hE, hB, if_pos rfl, if_pos (.inl v1)]
        have x2 : pfBits s = 0 := by unfold pfBits; rw [x1]; rfl
        have x3 : pfIp s = 0 := by unfold pfIp; rw [x1]; rfl
        rw [x1, x2, x3]
        simp -dsimp (discharger := omega) [aFill]
        exact (hs1 _).new hw (Nat.le_refl n) _
      · by_cases v2 : 2 < (cutZ s 47).length
        · have x1 : pfE s = 5 := by unfold pfE; rw [if_pos hE, hB, if_pos rfl, if_pos (.inr v2)]
          have x2 : pfBits s = 0 := by unfold pfBits; rw [x1]; rfl
          have x3 : pfIp s = 0 := by unfold pfIp; rw [x1]; rfl
          rw [x1, x2, x3]
          simp -dsimp (discharger := omega) [aFill]
          exact (hs1 _).new hw (Nat.le_refl n) _
        · by_cases v3 : 32 < numI (cutZ s 47)
          · have x1 : pfE s = 24 := by unfold pfE; rw [if_pos hE, hB, if_pos rfl, if_neg (by omega), if_pos v3]
            have x2 : pfBits s = 0 := by unfold pfBits; rw [x1]; rfl
            have x3 : pfIp s = 0 := by unfold pfIp; rw [x1]; rfl
            rw [x1, x2, x3]
            simp -dsimp (discharger := omega) [aFill]
            exact (hs1 _).new hw (Nat.le_refl n) _
          · have x1 : pfE s = 0 := by unfold pfE; rw [if_pos hE, hB, if_pos rfl, if_neg (by omega), if_neg v3]
            have x2 : pfBits s = (numI (cutZ s 47)).toNat := by unfold pfBits; rw [x1, hB]; rfl
            have x3 : pfIp s = maskd (ipN (cutA s 47)) (numI (cutZ s 47)).toNat := by unfold pfIp; rw [x1, x2]; rfl
            rw [x1, x2, x3]
            obtain ⟨k, hk⟩ : ∃ k : Nat, numI (cutZ s 47) = (k : Int) := ⟨(numI (cutZ s 47)).toNat, by omega⟩
            rw [hk, Int.toNat_natCast]
            rw [hk] at v3
            have had := and32N hip (mask32_lt k)
            rw [and_mask32 hip (by omega)] at had
            simp -dsimp (discharger := omega) []
            with_reducible refine call_ret (mask_ret (k : Int) (by omega) (by omega)) ?_
            rw [clampN_nat (by omega)]
            simp -dsimp (discharger := omega) [had, aFill]
            exact (hs1 _).new hw (Nat.le_refl n) _
  · have x1 : pfE s = 5 := by unfold pfE; rw [if_neg hE]
    have x2 : pfBits s = 0 := by unfold pfBits; rw [x1]; rfl
    have x3 : pfIp s = 0 := by unfold pfIp; rw [x1]; rfl
    rw [x1, x2, x3]
    cases hB : cutB s 47 with
    | false =>
      simp -dsimp (discharger := omega) [aFill]
      exact (hs1 _).new hw (Nat.le_refl n) _
    | true =>
      simp -dsimp (discharger := omega) []
      with_reducible refine call_ret (number_ret (by omega) (hw.put _ (by omega) (by omega)) (hp.put hn _) (he.put hn _) (by omega)) ?_
      simp -dsimp (discharger := omega) [aFill]
      exact (hs1 _).new hw (Nat.le_refl n) _
end
end Go.Proofs.YtiemkafpijhlmaaDoor.Am
