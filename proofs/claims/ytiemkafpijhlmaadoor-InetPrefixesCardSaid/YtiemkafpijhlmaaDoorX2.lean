/- Contracts of the program's functions (X2). -/
import Derived.Test.YtiemkafpijhlmaaDoorX1
namespace Go.Proofs.YtiemkafpijhlmaaDoor.Am
noncomputable section
/- CONTRACTS of the document: addresses and prefixes of texts. -/
theorem rparse_ret {s : List UInt8} (hs : s.length < 100000) {h : AHeap} {n : Nat} : Ret EV06 10 [.string ⟨s.toArray⟩] h n (.tuple #[.int .u32 ((ipN s : Nat) : Int), .int .i64 ((ipE s : Nat) : Int)]) [] n := by
  refine rsx10 (by simp) (by simp) ?_
  unfold ipN ipE
  simp -dsimp (discharger := omega) [B10]
  refine loop_use (d1_loop hs (h0 := h) (n0 := n) 4 [(0, .string ⟨s.toArray⟩), (4, .int .i64 ((0 : Nat) : Int)), (5, .int .i64 ((0 : Nat) : Int)), (6, .int .i64 ((0 : Nat) : Int))] h n ⟨rfl, rfl, 0, 0, 0, rfl, by omega, by decide, .inl ⟨rfl, rfl, rfl⟩, rfl⟩) (by simp) (.refl _) ?_
  rintro e σ' h' n' ⟨rfl, rfl, ⟨rfl, hO, g2, g3⟩ | ⟨rfl, at', a, hat, ha, hO, g0, g4, g5⟩⟩
  · rw [hO]
    simp -dsimp (discharger := omega) [g2, g3]
    exact .refl _
  · by_cases e : at' = s.length
    · rw [if_pos e] at hO
      rw [hO]
      simp -dsimp (discharger := omega) [g0, g4, g5]
      exact .refl _
    · rw [if_neg e] at hO
      rw [hO]
      simp -dsimp (discharger := omega) [g0, g4]
      exact .refl _
theorem idx_at {c : UInt8} : ∀ {s : List UInt8} {i : Nat}, (∀ x, x ∈ s.take i → ¬ x = c) → s[i]? = some c → Lib.indexByte s c = (i : Int)
  | [], i, _, h => by simp at h
  | x :: s, 0, _, h => by
    simp at h; subst h
    simp [Lib.indexByte]
  | x :: s, i + 1, hn, h => by
    have hx : (x == c) = false := beq_eq_false_iff_ne.2 (hn x (by simp))
    have ih := idx_at (s := s) (i := i) (c := c) (fun y hy => hn y (by simp [hy])) (by simpa using h)
    simp only [Lib.indexByte, hx, ih]
    rw [if_neg (by simp), if_neg (by simp)]
    rfl
theorem idx_no {c : UInt8} : ∀ {s : List UInt8}, (∀ x, x ∈ s → ¬ x = c) → Lib.indexByte s c = -1
  | [], _ => rfl
  | x :: s, hn => by
    have hx : (x == c) = false := beq_eq_false_iff_ne.2 (hn x (by simp))
    have ih := idx_no (s := s) (c := c) (fun y hy => hn y (by simp [hy]))
    simp only [Lib.indexByte, hx, ih]
    rfl
def SlInv (s : List UInt8) (h0 : AHeap) (n0 : Nat) (r : Nat) (σ : Fr) (h : AHeap) (n : Nat) : Prop :=
  h = h0 ∧ n = n0 ∧ ∃ i, i + r = s.length ∧ (∀ x, x ∈ s.take i → ¬ x = 47) ∧ σ = [(0, .string ⟨s.toArray⟩), (5, .int .i64 (i : Int))]
def SlPost (s : List UInt8) (h0 : AHeap) (n0 : Nat) (e : Ex) (σ' : Fr) (h' : AHeap) (n' : Nat) : Prop :=
  h' = h0 ∧ n' = n0 ∧ e = .exit 0 ∧ ∃ i, i ≤ s.length ∧ cutA s 47 = s.take i ∧ (i = s.length ∧ cutB s 47 = false ∨ i < s.length ∧ cutB s 47 = true ∧ cutZ s 47 = s.drop (i + 1)) ∧ σ'.get 0 = some (.string ⟨s.toArray⟩) ∧ σ'.get 5 = some (.int .i64 (i : Int))
theorem sl_loop {s : List UInt8} (hs : s.length < 100000) {h0 : AHeap} {n0 : Nat} :
    ∀ (r : Nat) (σ : Fr) (h : AHeap) (n : Nat), SlInv s h0 n0 r σ h n → HasCode EV06 (.loop F12L0) σ h n (SlPost s h0 n0) := by
  refine wx_inv _ fun r σ h n hI => ?_
  obtain ⟨rfl, rfl, i, hi, hno, rfl⟩ := hI
  cases r with
  | zero =>
    obtain rfl : i = s.length := by omega
    rw [List.take_length] at hno
    have hx := idx_no hno
    simp -dsimp (discharger := omega) [F12L0]
    exact ⟨rfl, rfl, rfl, s.length, Nat.le_refl _, by rw [cutA, if_pos hx, List.take_length], .inl ⟨rfl, by rw [cutB, if_pos hx]⟩, by simp, by simp⟩
  | succ r =>
    have hlt : i < s.length := by omega
    have hx := List.getElem?_eq_getElem hlt
    generalize s[i] = c at hx
    by_cases c47 : c = 47
    · subst c47
      have e47 : ((47 : UInt8).toNat : Int) = 47 := rfl
      have hix := idx_at hno hx
      have hne : ¬ Lib.indexByte s 47 = -1 := by omega
      simp -dsimp (discharger := omega) [F12L0, hx, e47, -getElem?_pos]
      exact ⟨rfl, rfl, rfl, i, by omega, by rw [cutA, if_neg hne, hix]; rfl, .inr ⟨hlt, by rw [cutB, if_neg hne], by rw [cutZ, if_neg hne, hix]; rfl⟩, by simp, by simp⟩
    · have n47 : ¬ (c.toNat : Int) = 47 := fun e => c47 (UInt8.toNat_inj.1 (by show c.toNat = 47; omega))
      simp -dsimp (discharger := omega) [F12L0, hx, n47, -getElem?_pos]
      exact .mk' r (by omega) [(0, .string ⟨s.toArray⟩), (5, .int .i64 ((i + 1 : Nat) : Int))] h (by simp) (.refl _) ⟨rfl, rfl, i + 1, by omega, fun x hx' => by
        rw [take_snoc hx] at hx'
        rcases List.mem_append.1 hx' with h | h
        · exact hno x h
        · rw [List.mem_singleton.1 h]; exact c47, rfl⟩
def RdInv (s : List UInt8) (a : Int) (h0 : AHeap) (n0 : Nat) (r : Nat) (σ : Fr) (h : AHeap) (n : Nat) : Prop :=
  h = h0 ∧ n = n0 ∧ ∃ i, i + r = s.length ∧ (s.take i).all isD = true ∧ σ = [(6, .int .u32 a), (8, .string ⟨s.toArray⟩), (9, .int .i64 ((decV (s.take i) : Nat) : Int)), (10, .int .i64 (i : Int))]
def RdPost (s : List UInt8) (a : Int) (h0 : AHeap) (n0 : Nat) (e : Ex) (σ' : Fr) (h' : AHeap) (n' : Nat) : Prop :=
  h' = h0 ∧ n' = n0 ∧ (e = .exit 2 ∧ s.all isD = true ∧ σ'.get 6 = some (.int .u32 a) ∧ σ'.get 9 = some (.int .i64 ((decV s : Nat) : Int)) ∨ e = .ret ∧ s.all isD = false ∧ σ'.get 2 = some (.int .u32 0) ∧ σ'.get 3 = some (.int .i64 0) ∧ σ'.get 4 = some (.int .i64 5))
theorem rd_loop {s : List UInt8} (hs : s.length ≤ 2) {a : Int} {h0 : AHeap} {n0 : Nat} :
    ∀ (r : Nat) (σ : Fr) (h : AHeap) (n : Nat), RdInv s a h0 n0 r σ h n → HasCode EV06 (.loop F12L1) σ h n (RdPost s a h0 n0) := by
  refine wx_inv _ fun r σ h n hI => ?_
  obtain ⟨rfl, rfl, i, hi, hd, rfl⟩ := hI
  cases r with
  | zero =>
    obtain rfl : i = s.length := by omega
    rw [List.take_length] at hd
    simp -dsimp (discharger := omega) [F12L1]
    exact ⟨rfl, rfl, .inl ⟨rfl, hd, by simp, by simp⟩⟩
  | succ r =>
    have hlt : i < s.length := by omega
    have hx := List.getElem?_eq_getElem hlt
    generalize s[i] = c at hx
    have hc := c.toNat_lt
    have hsn : decV (s.take (i + 1)) = 10 * decV (s.take i) + (c.toNat - 48) := by rw [take_snoc hx, decV_snoc]
    have hda : (s.take (i + 1)).all isD = isD c := by rw [take_snoc hx, List.all_append, hd]; simp
    have hV := decV_lt _ hd
    have hp : 10 ^ (s.take i).length ≤ 10 ^ 2 := Nat.pow_le_pow_right (by omega) (by rw [List.length_take]; omega)
    have hbad : isD c = false → s.all isD = false := fun hdc => by
      rw [Bool.eq_false_iff]
      intro h
      have := List.all_eq_true.1 h c (List.mem_of_getElem? hx)
      rw [hdc] at this; cases this
    generalize decV (s.take i) = V at *
    by_cases d0 : 48 ≤ c.toNat
    · by_cases d1 : c.toNat ≤ 57
      · have hdc : isD c = true := by simp [isD, d0, d1]
        simp -dsimp (discharger := omega) [F12L1, hx, -getElem?_pos]
        exact .mk' r (by omega) [(6, .int .u32 a), (8, .string ⟨s.toArray⟩), (9, .int .i64 ((decV (s.take (i + 1)) : Nat) : Int)), (10, .int .i64 ((i + 1 : Nat) : Int))] h (by simp [hsn]; omega) (.refl _) ⟨rfl, rfl, i + 1, by omega, by rw [hda, hdc], rfl⟩
      · have hdc : isD c = false := by simp [isD]; omega
        simp -dsimp (discharger := omega) [F12L1, hx, -getElem?_pos]
        exact ⟨rfl, rfl, .inr ⟨rfl, hbad hdc, by simp, by simp, by simp⟩⟩
    · have hdc : isD c = false := by simp [isD]; omega
      simp -dsimp (discharger := omega) [F12L1, hx, -getElem?_pos]
      exact ⟨rfl, rfl, .inr ⟨rfl, hbad hdc, by simp, by simp, by simp⟩⟩
theorem numI_bad {s : List UInt8} (h : canon s = false) : numI s = -1 := by
  unfold numI; rw [h, if_neg (by simp)]
theorem ipE_cases (s : List UInt8) : ipE s = 0 ∨ ipE s = 5 := by
  unfold ipE; split
  · exact .inl rfl
  · exact .inr rfl
theorem rparsePrefix_ret {s : List UInt8} (hs : s.length < 100000) {h : AHeap} {n : Nat} :
    Ret EV06 12 [.string ⟨s.toArray⟩] h n (.tuple #[.int .u32 ((pfIp s : Nat) : Int), .int .i64 ((pfBits s : Nat) : Int), .int .i64 ((pfE s : Nat) : Int)]) [] n := by
  refine rsx12 (by simp) (by simp) ?_
  simp -dsimp (discharger := omega) [B12]
  refine loop_use (sl_loop hs (h0 := h) (n0 := n) s.length [(0, .string ⟨s.toArray⟩), (5, .int .i64 ((0 : Nat) : Int))] h n ⟨rfl, rfl, 0, by omega, fun x hx => by simp at hx, rfl⟩) (by simp) (.refl _) ?_
  rintro e σ' h' n' ⟨rfl, rfl, rfl, i, hi, hA, hB, g0, g5⟩
  have hip := ipN_lt (cutA s 47)
  have hl : (s.take i).length = i := by rw [List.length_take]; omega
  simp -dsimp (discharger := omega) [g0, g5]
  with_reducible refine call_ret (rparse_ret (s := s.take i) (by omega)) ?_
  rw [← hA]
  have hbad : ∀ {c : Nat}, pfE s = c → c ≠ 0 → pfBits s = 0 ∧ pfIp s = 0 := fun h h0 => ⟨by unfold pfBits; rw [h, if_neg h0], by unfold pfIp; rw [h, if_neg h0]⟩
  rcases ipE_cases (cutA s 47) with hE | hE
  · rw [hE]
    rcases hB with ⟨rfl, hB⟩ | ⟨hlt, hB, hZ⟩
    · have x1 : pfE s = 0 := by unfold pfE; rw [if_pos hE, hB]; rfl
      have x2 : pfBits s = 32 := by unfold pfBits; rw [x1, hB]; rfl
      have x3 : pfIp s = ipN (cutA s 47) := by unfold pfIp; rw [x1, x2, maskd32]; rfl
      rw [x1, x2, x3]
      simp -dsimp (discharger := omega) [g0, g5]
      exact .refl _
    · have e1 : ((i : Int) + 1).toNat = i + 1 := by omega
      have hzl : (s.drop (i + 1)).length = s.length - (i + 1) := List.length_drop
      rw [← hZ] at hzl
      by_cases z0 : (cutZ s 47).length = 0
      · have hz : cutZ s 47 = [] := List.eq_nil_of_length_eq_zero z0
        have x1 : pfE s = 5 := by unfold pfE; rw [if_pos hE, hB, if_pos rfl, hz]; rfl
        obtain ⟨x2, x3⟩ := hbad x1 (by omega)
        rw [x1, x2, x3]
        simp -dsimp (discharger := omega) [g0, g5, e1, ← hZ]
        exact .refl _
      · by_cases z2 : 2 < (cutZ s 47).length
        · have x1 : pfE s = 5 := by unfold pfE; rw [if_pos hE, hB, if_pos rfl, if_pos (.inr z2)]
          obtain ⟨x2, x3⟩ := hbad x1 (by omega)
          rw [x1, x2, x3]
          simp -dsimp (discharger := omega) [g0, g5, e1, ← hZ]
          exact .refl _
        · by_cases l2 : (cutZ s 47).length = 2
          · have hx := List.getElem?_eq_getElem (show 0 < (cutZ s 47).length by omega)
            have hh : (cutZ s 47).head? = (cutZ s 47)[0]? := by rw [List.head?_eq_getElem?]
            generalize (cutZ s 47)[0] = c at hx
            rw [hx] at hh
            by_cases c48 : c = 48
            · subst c48
              have hcn : canon (cutZ s 47) = false := by unfold canon; rw [hh, l2]; simp
              have x1 : pfE s = 5 := by unfold pfE; rw [if_pos hE, hB, if_pos rfl, numI_bad hcn]; rfl
              obtain ⟨x2, x3⟩ := hbad x1 (by omega)
              rw [x1, x2, x3]
              have e48 : ((48 : UInt8).toNat : Int) = 48 := rfl
              simp -dsimp (discharger := omega) [g0, g5, e1, ← hZ, hx, e48, -getElem?_pos]
              exact .refl _
            · have n48 : ¬ (c.toNat : Int) = 48 := fun e => c48 (UInt8.toNat_inj.1 (by show c.toNat = 48; omega))
              have hcan : (cutZ s 47).length = 1 ∨ ¬ (cutZ s 47).head? = some 48 := .inr (by rw [hh]; simpa using c48)
              simp -dsimp (discharger := omega) [g0, g5, e1, ← hZ, hx, n48, -getElem?_pos]
              refine loop_use (rd_loop (s := cutZ s 47) (by omega) (a := ((ipN (cutA s 47) : Nat) : Int)) (h0 := h') (n0 := n') (cutZ s 47).length [(6, .int .u32 ((ipN (cutA s 47) : Nat) : Int)), (8, .string ⟨(cutZ s 47).toArray⟩), (9, .int .i64 ((decV ((cutZ s 47).take 0) : Nat) : Int)), (10, .int .i64 ((0 : Nat) : Int))] h' n' ⟨rfl, rfl, 0, by omega, rfl, rfl⟩) (by simp [decV]) (.refl _) ?_
              rintro e σ2 h2 n2 ⟨rfl, rfl, ⟨rfl, hd, g6, g9⟩ | ⟨rfl, hd, g2, g3, g4⟩⟩
              · have hcn : canon (cutZ s 47) = true := by unfold canon; rw [hd, isE (fun e => z0 (by rw [e]; rfl))]; simpa using hcan
                have hV := decV_lt _ hd
                have hp : 10 ^ (cutZ s 47).length ≤ 10 ^ 2 := Nat.pow_le_pow_right (by omega) (by omega)
                have hN : numI (cutZ s 47) = ((decV (cutZ s 47) : Nat) : Int) := by unfold numI; rw [if_pos ⟨hcn, by omega⟩]
                by_cases v32 : 32 < decV (cutZ s 47)
                · have x1 : pfE s = 24 := by unfold pfE; rw [if_pos hE, hB, if_pos rfl, if_neg (by omega), if_pos (by omega)]
                  obtain ⟨x2, x3⟩ := hbad x1 (by omega)
                  rw [x1, x2, x3]
                  simp -dsimp (discharger := omega) [g6, g9]
                  exact .refl _
                · have x1 : pfE s = 0 := by unfold pfE; rw [if_pos hE, hB, if_pos rfl, if_neg (by omega), if_neg (by omega)]
                  have x2 : pfBits s = decV (cutZ s 47) := by unfold pfBits; rw [x1, hB, hN]; rfl
                  have x3 : pfIp s = maskd (ipN (cutA s 47)) (decV (cutZ s 47)) := by unfold pfIp; rw [x1, x2]; rfl
                  rw [x1, x2, x3]
                  have hm := masked_ret hip ((decV (cutZ s 47) : Nat) : Int) (h := h2) (n := n2)
                  rw [clampN_nat (by omega)] at hm
                  simp -dsimp (discharger := omega) [g6, g9]
                  with_reducible refine call_ret hm ?_
                  simp -dsimp (discharger := omega) [g9]
                  exact .refl _
              · have hcn : canon (cutZ s 47) = false := by unfold canon; rw [hd]; rfl
                have x1 : pfE s = 5 := by unfold pfE; rw [if_pos hE, hB, if_pos rfl, numI_bad hcn]; rfl
                obtain ⟨x2, x3⟩ := hbad x1 (by omega)
                rw [x1, x2, x3]
                simp -dsimp (discharger := omega) [g2, g3, g4]
                exact .refl _
          · have hcan : (cutZ s 47).length = 1 ∨ ¬ (cutZ s 47).head? = some 48 := .inl (by omega)
            simp -dsimp (discharger := omega) [g0, g5, e1, ← hZ]
            refine loop_use (rd_loop (s := cutZ s 47) (by omega) (a := ((ipN (cutA s 47) : Nat) : Int)) (h0 := h') (n0 := n') (cutZ s 47).length [(6, .int .u32 ((ipN (cutA s 47) : Nat) : Int)), (8, .string ⟨(cutZ s 47).toArray⟩), (9, .int .i64 ((decV ((cutZ s 47).take 0) : Nat) : Int)), (10, .int .i64 ((0 : Nat) : Int))] h' n' ⟨rfl, rfl, 0, by omega, rfl, rfl⟩) (by simp [decV]) (.refl _) ?_
            rintro e σ2 h2 n2 ⟨rfl, rfl, ⟨rfl, hd, g6, g9⟩ | ⟨rfl, hd, g2, g3, g4⟩⟩
            · have hcn : canon (cutZ s 47) = true := by unfold canon; rw [hd, isE (fun e => z0 (by rw [e]; rfl))]; simpa using hcan
              have hV := decV_lt _ hd
              have hp : 10 ^ (cutZ s 47).length ≤ 10 ^ 2 := Nat.pow_le_pow_right (by omega) (by omega)
              have hN : numI (cutZ s 47) = ((decV (cutZ s 47) : Nat) : Int) := by unfold numI; rw [if_pos ⟨hcn, by omega⟩]
              by_cases v32 : 32 < decV (cutZ s 47)
              · have x1 : pfE s = 24 := by unfold pfE; rw [if_pos hE, hB, if_pos rfl, if_neg (by omega), if_pos (by omega)]
                obtain ⟨x2, x3⟩ := hbad x1 (by omega)
                rw [x1, x2, x3]
                simp -dsimp (discharger := omega) [g6, g9]
                exact .refl _
              · have x1 : pfE s = 0 := by unfold pfE; rw [if_pos hE, hB, if_pos rfl, if_neg (by omega), if_neg (by omega)]
                have x2 : pfBits s = decV (cutZ s 47) := by unfold pfBits; rw [x1, hB, hN]; rfl
                have x3 : pfIp s = maskd (ipN (cutA s 47)) (decV (cutZ s 47)) := by unfold pfIp; rw [x1, x2]; rfl
                rw [x1, x2, x3]
                have hm := masked_ret hip ((decV (cutZ s 47) : Nat) : Int) (h := h2) (n := n2)
                rw [clampN_nat (by omega)] at hm
                simp -dsimp (discharger := omega) [g6, g9]
                with_reducible refine call_ret hm ?_
                simp -dsimp (discharger := omega) [g9]
                exact .refl _
            · have hcn : canon (cutZ s 47) = false := by unfold canon; rw [hd]; rfl
              have x1 : pfE s = 5 := by unfold pfE; rw [if_pos hE, hB, if_pos rfl, numI_bad hcn]; rfl
              obtain ⟨x2, x3⟩ := hbad x1 (by omega)
              rw [x1, x2, x3]
              simp -dsimp (discharger := omega) [g2, g3, g4]
              exact .refl _
  · rw [hE]
    have x1 : pfE s = 5 := by unfold pfE; rw [if_neg (by omega)]
    obtain ⟨x2, x3⟩ := hbad x1 (by omega)
    rw [x1, x2, x3]
    simp -dsimp (discharger := omega) []
    exact .refl _
end
end Go.Proofs.YtiemkafpijhlmaaDoor.Am
namespace Go.Proofs.YtiemkafpijhlmaaDoor.Am
noncomputable section
/- THE LAWS' WALKS: what the chapter's rows tell; texts. -/
def tellS : List UInt8 := [49, 48, 46, 49, 46, 50, 46, 51, 47, 56]
theorem tell_pf : pfE tellS = 0 ∧ pfBits tellS = 8 ∧ pfIp tellS = 167772160 := by decide +kernel
theorem tell_tx : pfT 167772160 8 = [49, 48, 46, 48, 46, 48, 46, 48, 47, 56] := by
  have e : clampN 8 = 8 := rfl
  unfold pfT
  rw [e]
  have m : maskd 167772160 8 = 167772160 := by decide
  rw [m]
  have d10 : decs 10 = [49, 48] := by rw [← decL_decs (by omega)]; rfl
  have d0 : decs 0 = [48] := by rw [← decL_decs (by omega)]; rfl
  have d8 : decs 8 = [56] := by rw [← decL_decs (by omega)]; rfl
  have e2 : ipT 167772160 = decs 10 ++ 46 :: (decs 0 ++ 46 :: (decs 0 ++ 46 :: decs 0)) := rfl
  rw [e2, d10, d0, d8]
  rfl
def tellB : List UInt8 := [0, 1, 242, 3, 244, 245, 246, 247]
theorem tell_sum : sumN tellB = 8717 := by decide
theorem tells_ret {h : AHeap} {n : Nat} (hw : WF h n) (hp : HasPow h) (he : HasErrs h) (hn : 4096 ≤ n) : Ret EV06 19 [] h n (.bool true) [] (n + 100) := by
  obtain ⟨e1, e2, e3⟩ := tell_pf
  have h1 := parsePrefix_ret (s := tellS) (by decide) hw hp he hn
  rw [e1, e2, e3] at h1
  have h1 : Ret EV06 11 [.string ⟨#[49, 48, 46, 49, 46, 50, 46, 51, 47, 56]⟩] h n (.tuple #[.agg #[.int .u32 167772160, .int .i64 8], .int .i64 0]) [] (n + 30) := h1
  refine rsx19 (by simp) (by simp) ?_
  simp -dsimp (discharger := omega) [B19]
  with_reducible refine call_ret h1 ?_
  simp -dsimp (discharger := omega) [aFill]
  have h2 : ∀ {H : AHeap} {k m : Nat}, H.get k = some (bufB tellB 8) → Ret EV06 23 [.slice (some ⟨k, 0, some 8⟩) 8 2] H m (.int .u16 8717) [] m := fun {H k m} hk => by
    have := sum_ret (bs := tellB) (by decide) (bs_new hk (by decide)) (n := m)
    rw [tell_sum] at this
    exact this
  have hT : ∀ {H : AHeap} {k : Nat}, WF H k → HasPow H → 4096 ≤ k → Ret EV06 15 [.agg #[.int .u32 167772160, .int .i64 8]] H k (.string ⟨#[49, 48, 46, 48, 46, 48, 46, 48, 47, 56]⟩) [] (k + 32) := fun a b c => by
    have := ptext_ret (a := 167772160) (by omega) 8 (by omega) (by omega) a b c
    rw [tell_tx] at this
    exact this
  with_reducible refine call_ret (h2 (by simp [bufB, u8s, tellB])) ?_
  simp -dsimp (discharger := omega) []
  with_reducible refine call_ret (hT (.of fun j hj => by simp (discharger := omega) [hw.none (i := j) (by omega)]) (by (repeat (refine HasPow.put ?_ (by omega) _)); exact hp) (by omega)) ?_
  simp -dsimp (discharger := omega) []
  repeat (refine HSub.new ?_ hw (by omega) _)
  exact .refl _
theorem texts_walk {a b : Nat} (ha : a < 4294967296) (hb : b < 4294967296) (bits : Int) (hb0 : -9223372036854775808 ≤ bits) (hb1 : bits < 9223372036854775808) (s : List UInt8) (hs : s.length < 9223372036854775808) {h : AHeap} {n : Nat} (hw : WF h n) (hp : HasPow h) (he : HasErrs h) (hn : 4096 ≤ n) :
    HasCall EV06 3 [.int .u32 (a : Int), .int .u32 (b : Int), .int .i64 bits, .string ⟨s.toArray⟩] h n fun v _ _ => v = .bool true := by
  have goal : HasCallT EV06 3 [.int .u32 (a : Int), .int .u32 (b : Int), .int .i64 bits, .string ⟨s.toArray⟩] h n (fun v _ _ => v = .bool true) ⟨⟩ := by
    with_reducible refine inl3 ?_
    by_cases h30 : s.length < 30
    · simp -dsimp (discharger := omega) [B3, aFill]
      with_reducible refine call_ret (parse_ret (by omega) (.of fun j hj => by simp (discharger := omega) [hw.none (i := j) (by omega)]) (by (repeat (refine HasPow.put ?_ (by omega) _)); exact hp) (by (repeat (refine HasErrs.put ?_ (by omega) _)); exact he) (by omega)) ?_
      simp -dsimp (discharger := omega) []
      with_reducible refine call_ret (rparse_ret (by omega)) ?_
      simp -dsimp (discharger := omega) []
      with_reducible refine call_ret (parsePrefix_ret (by omega) (.of fun j hj => by simp (discharger := omega) [hw.none (i := j) (by omega)]) (by (repeat (refine HasPow.put ?_ (by omega) _)); exact hp) (by (repeat (refine HasErrs.put ?_ (by omega) _)); exact he) (by omega)) ?_
      simp -dsimp (discharger := omega) []
      with_reducible refine call_ret (rparsePrefix_ret (by omega)) ?_
      simp -dsimp (discharger := omega) []
      with_reducible refine call_ret (text_ret ha (.of fun j hj => by simp (discharger := omega) [hw.none (i := j) (by omega)]) (by (repeat (refine HasPow.put ?_ (by omega) _)); exact hp) (by omega)) ?_
      simp -dsimp (discharger := omega) []
      with_reducible refine call_ret (rtext_ret ha (.of fun j hj => by simp (discharger := omega) [hw.none (i := j) (by omega)])) ?_
      simp -dsimp (discharger := omega) []
      with_reducible refine call_ret (ptext_ret ha bits hb0 hb1 (.of fun j hj => by simp (discharger := omega) [hw.none (i := j) (by omega)]) (by (repeat (refine HasPow.put ?_ (by omega) _)); exact hp) (by omega)) ?_
      simp -dsimp (discharger := omega) []
      with_reducible refine call_ret (rptext_ret ha bits (.of fun j hj => by simp (discharger := omega) [hw.none (i := j) (by omega)])) ?_
      simp -dsimp (discharger := omega) []
      with_reducible refine call_ret (has_ret ha hb bits hb0 hb1 (.of fun j hj => by simp (discharger := omega) [hw.none (i := j) (by omega)])) ?_
      simp -dsimp (discharger := omega) []
      with_reducible refine call_ret (rhas_ret ha hb bits) ?_
      simp -dsimp (discharger := omega) []
      with_reducible refine call_ret (tells_ret (.of fun j hj => by simp (discharger := omega) [hw.none (i := j) (by omega)]) (by (repeat (refine HasPow.put ?_ (by omega) _)); exact hp) (by (repeat (refine HasErrs.put ?_ (by omega) _)); exact he) (by omega)) ?_
      simp -dsimp (discharger := omega) []
    · have e30 : (if (30 : Int) < (s.length : Int) then (30 : Int) else (s.length : Int)) = 30 := by split <;> omega
      simp -dsimp (discharger := omega) [B3, aFill, e30]
      have ht : (s.take 30).length ≤ 30 := by rw [List.length_take]; omega
      generalize s.take 30 = t at *
      with_reducible refine call_ret (parse_ret (by omega) (.of fun j hj => by simp (discharger := omega) [hw.none (i := j) (by omega)]) (by (repeat (refine HasPow.put ?_ (by omega) _)); exact hp) (by (repeat (refine HasErrs.put ?_ (by omega) _)); exact he) (by omega)) ?_
      simp -dsimp (discharger := omega) []
      with_reducible refine call_ret (rparse_ret (by omega)) ?_
      simp -dsimp (discharger := omega) []
      with_reducible refine call_ret (parsePrefix_ret (by omega) (.of fun j hj => by simp (discharger := omega) [hw.none (i := j) (by omega)]) (by (repeat (refine HasPow.put ?_ (by omega) _)); exact hp) (by (repeat (refine HasErrs.put ?_ (by omega) _)); exact he) (by omega)) ?_
      simp -dsimp (discharger := omega) []
      with_reducible refine call_ret (rparsePrefix_ret (by omega)) ?_
      simp -dsimp (discharger := omega) []
      with_reducible refine call_ret (text_ret ha (.of fun j hj => by simp (discharger := omega) [hw.none (i := j) (by omega)]) (by (repeat (refine HasPow.put ?_ (by omega) _)); exact hp) (by omega)) ?_
      simp -dsimp (discharger := omega) []
      with_reducible refine call_ret (rtext_ret ha (.of fun j hj => by simp (discharger := omega) [hw.none (i := j) (by omega)])) ?_
      simp -dsimp (discharger := omega) []
      with_reducible refine call_ret (ptext_ret ha bits hb0 hb1 (.of fun j hj => by simp (discharger := omega) [hw.none (i := j) (by omega)]) (by (repeat (refine HasPow.put ?_ (by omega) _)); exact hp) (by omega)) ?_
      simp -dsimp (discharger := omega) []
      with_reducible refine call_ret (rptext_ret ha bits (.of fun j hj => by simp (discharger := omega) [hw.none (i := j) (by omega)])) ?_
      simp -dsimp (discharger := omega) []
      with_reducible refine call_ret (has_ret ha hb bits hb0 hb1 (.of fun j hj => by simp (discharger := omega) [hw.none (i := j) (by omega)])) ?_
      simp -dsimp (discharger := omega) []
      with_reducible refine call_ret (rhas_ret ha hb bits) ?_
      simp -dsimp (discharger := omega) []
      with_reducible refine call_ret (tells_ret (.of fun j hj => by simp (discharger := omega) [hw.none (i := j) (by omega)]) (by (repeat (refine HasPow.put ?_ (by omega) _)); exact hp) (by (repeat (refine HasErrs.put ?_ (by omega) _)); exact he) (by omega)) ?_
      simp -dsimp (discharger := omega) []
  exact goal
end
end Go.Proofs.YtiemkafpijhlmaaDoor.Am
namespace Go.Proofs.YtiemkafpijhlmaaDoor.Am
noncomputable section
/- PLAIN LAW: addresses and prefixes there and back. -/
theorem split_app {c : UInt8} : ∀ {q : List UInt8} (r : List UInt8), c ∉ q → splitL c (q ++ c :: r) = q :: splitL c r
  | [], r, _ => by simp [splitL]
  | x :: q, r, h => by
    have hx : ¬ x = c := fun e => h (by simp [e])
    have ih := split_app (c := c) (q := q) r (fun e => h (by simp [e]))
    simp only [List.cons_append, splitL, if_neg hx, ih]
theorem split_one {c : UInt8} : ∀ {q : List UInt8}, c ∉ q → splitL c q = [q]
  | [], _ => rfl
  | x :: q, h => by
    have hx : ¬ x = c := fun e => h (by simp [e])
    have ih := split_one (q := q) (c := c) (fun e => h (by simp [e]))
    simp only [splitL, if_neg hx, ih]
theorem octV_decs {u : Nat} (h : u ≤ 255) : octV (decs u) = some u := by
  unfold octV
  rw [decs_val, if_pos ⟨decs_canon u, h⟩]
theorem decs_no (u : Nat) {c : UInt8} (hc : isD c = false) : c ∉ decs u := dig_not (decs_isD u) hc
theorem ipO_text {a : Nat} (ha : a < 4294967296) : ipO (ipT a) = some a := by
  have h46 : ∀ u, (46 : UInt8) ∉ decs u := fun u => decs_no u isD_46
  have e : splitL 46 (ipT a) = [decs (a / 16777216), decs (a / 65536 % 256), decs (a / 256 % 256), decs (a % 256)] := by
    unfold ipT
    rw [split_app _ (h46 _), split_app _ (h46 _), split_app _ (h46 _), split_one (h46 _)]
  unfold ipO
  rw [e, if_pos (by rfl)]
  simp only [octs]
  rw [octV_decs (by omega), octV_decs (by omega), octV_decs (by omega), octV_decs (by omega)]
  simp only
  congr 1
  omega
theorem ipN_text {a : Nat} (ha : a < 4294967296) : ipN (ipT a) = a := by rw [ipN, ipO_text ha]; rfl
theorem ipE_text {a : Nat} (ha : a < 4294967296) : ipE (ipT a) = 0 := by rw [ipE, ipO_text ha]; rfl
theorem ipT_no47 (a : Nat) : (47 : UInt8) ∉ ipT a := by
  have h : ∀ u, (47 : UInt8) ∉ decs u := fun u => decs_no u isD_47
  have h2 : ¬ (47 : UInt8) = 46 := by decide
  unfold ipT
  simp only [List.mem_append, List.mem_cons, not_or]
  exact ⟨h _, h2, h _, h2, h _, h2, h _⟩
theorem cut_app {q : List UInt8} (r : List UInt8) (h : (47 : UInt8) ∉ q) : cutA (q ++ 47 :: r) 47 = q ∧ cutB (q ++ 47 :: r) 47 = true ∧ cutZ (q ++ 47 :: r) 47 = r := by
  have hi : Lib.indexByte (q ++ 47 :: r) 47 = (q.length : Int) := idx_at (i := q.length) (fun x hx => by
    rw [List.take_left] at hx
    exact fun e => h (e ▸ hx)) (by simp)
  have hne : ¬ Lib.indexByte (q ++ 47 :: r) 47 = -1 := by omega
  refine ⟨?_, by rw [cutB, if_neg hne], ?_⟩
  · rw [cutA, if_neg hne, hi]; simp
  · rw [cutZ, if_neg hne, hi]; simp
theorem cut_none {q : List UInt8} (h : (47 : UInt8) ∉ q) : cutA q 47 = q ∧ cutB q 47 = false := by
  have hi : Lib.indexByte q 47 = -1 := idx_no fun x hx e => h (e ▸ hx)
  exact ⟨by rw [cutA, if_pos hi], by rw [cutB, if_pos hi]⟩
theorem numI_decs {u : Nat} (h : u < 9223372036854775808) : numI (decs u) = (u : Int) := by
  unfold numI
  rw [decs_val, if_pos ⟨decs_canon u, h⟩]
theorem maskd_twice (a k : Nat) : maskd (maskd a k) k = maskd a k := by
  have hp : 0 < 2 ^ (32 - k) := Nat.pos_of_ne_zero (by simp)
  unfold maskd
  rw [Nat.mul_div_cancel _ hp]
theorem pf_back {a k : Nat} (ha : a < 4294967296) (hk : k ≤ 32) : pfE (pfT a (k : Int)) = 0 ∧ pfBits (pfT a (k : Int)) = k ∧ pfIp (pfT a (k : Int)) = maskd a k := by
  have hm := maskd_lt ha k
  have hn := ipT_no47 (maskd a k)
  unfold pfT
  rw [clampN_nat hk]
  by_cases h32 : k < 32
  · rw [if_pos h32]
    obtain ⟨hA, hB, hZ⟩ := cut_app (decs k) hn
    have hl : (decs k).length ≤ 2 := by
      rw [← decL_decs (by omega)]; unfold decL; split <;> simp
    have x1 : pfE (ipT (maskd a k) ++ 47 :: decs k) = 0 := by
      unfold pfE
      rw [hA, hB, hZ, if_pos (ipE_text hm), if_pos rfl, numI_decs (by omega), if_neg (by omega), if_neg (by omega)]
    have x2 : pfBits (ipT (maskd a k) ++ 47 :: decs k) = k := by
      unfold pfBits
      rw [x1, hB, hZ, numI_decs (by omega), if_pos rfl, if_pos rfl]; simp
    refine ⟨x1, x2, ?_⟩
    unfold pfIp
    rw [x1, x2, hA, ipN_text hm, if_pos rfl, maskd_twice]
  · obtain rfl : k = 32 := by omega
    rw [if_neg h32, List.append_nil]
    obtain ⟨hA, hB⟩ := cut_none hn
    have x1 : pfE (ipT (maskd a 32)) = 0 := by
      unfold pfE
      rw [hA, hB, if_pos (ipE_text hm)]; rfl
    have x2 : pfBits (ipT (maskd a 32)) = 32 := by
      unfold pfBits
      rw [x1, hB]; rfl
    refine ⟨x1, x2, ?_⟩
    unfold pfIp
    rw [x1, x2, hA, ipN_text hm, if_pos rfl, maskd_twice]
theorem ipT_back {s : List UInt8} {v : Nat} (h : ipO s = some v) : ipT v = s := by
  unfold ipO at h
  split at h
  · rename_i hl
    rcases split_pre (c := 46) s with ⟨_, e⟩ | ⟨p1, r1, hs1, n1, e1⟩
    · rw [e] at hl; simp at hl
    rw [e1] at hl h
    rcases split_pre (c := 46) r1 with ⟨_, e⟩ | ⟨p2, r2, hs2, n2, e2⟩
    · rw [e] at hl; simp at hl
    rw [e2] at hl h
    rcases split_pre (c := 46) r2 with ⟨_, e⟩ | ⟨p3, r3, hs3, n3, e3⟩
    · rw [e] at hl; simp at hl
    rw [e3] at hl h
    rcases split_pre (c := 46) r3 with ⟨_, e⟩ | ⟨p4, r4, hs4, n4, e4⟩
    · rw [e] at h
      simp only [octs] at h
      have key : ∀ {p : List UInt8} {x : Nat}, octV p = some x → decs x = p ∧ x ≤ 255 := fun {p x} hp => by
        unfold octV at hp
        split at hp
        · rename_i hc
          cases hp
          exact ⟨canon_dec hc.1, hc.2⟩
        · cases hp
      cases o1 : octV p1 with
      | none => rw [o1] at h; cases h
      | some x1 =>
        rw [o1] at h
        cases o2 : octV p2 with
        | none => rw [o2] at h; cases h
        | some x2 =>
          rw [o2] at h
          cases o3 : octV p3 with
          | none => rw [o3] at h; cases h
          | some x3 =>
            rw [o3] at h
            cases o4 : octV r3 with
            | none => rw [o4] at h; cases h
            | some x4 =>
              rw [o4] at h
              simp only [Option.some.injEq] at h
              obtain ⟨d1, b1⟩ := key o1
              obtain ⟨d2, b2⟩ := key o2
              obtain ⟨d3, b3⟩ := key o3
              obtain ⟨d4, b4⟩ := key o4
              have w1 : v / 16777216 = x1 := by omega
              have w2 : v / 65536 % 256 = x2 := by omega
              have w3 : v / 256 % 256 = x3 := by omega
              have w4 : v % 256 = x4 := by omega
              rw [ipT, w1, w2, w3, w4, d1, d2, d3, d4, hs1, hs2, hs3]
    · rw [e4] at hl
      have := List.length_pos_iff.2 (splitL_ne 46 r4)
      simp only [List.length_cons] at hl; omega
  · cases h
theorem ip_same {s : List UInt8} (h : ipE s = 0) : ipT (ipN s) = s := by
  unfold ipE at h
  split at h
  · rename_i hs
    obtain ⟨v, hv⟩ := Option.isSome_iff_exists.1 hs
    rw [ipN, hv]; exact ipT_back hv
  · cases h
theorem ip_none {s : List UInt8} (h : ¬ ipE s = 0) : ipN s = 0 := by
  unfold ipE at h
  split at h
  · exact absurd rfl h
  · rename_i hs
    cases ho : ipO s with
    | none => rw [ipN, ho]; rfl
    | some v => rw [ho] at hs; exact absurd rfl hs
theorem pf_none {s : List UInt8} (h : ¬ pfE s = 0) : pfIp s = 0 ∧ pfBits s = 0 := ⟨by unfold pfIp; rw [if_neg h], by unfold pfBits; rw [if_neg h]⟩
theorem pfBits_le (s : List UInt8) : pfBits s ≤ 32 := by
  unfold pfBits
  split
  · rename_i h
    split
    · rename_i hb
      unfold pfE at h
      by_cases hE : ipE (cutA s 47) = 0
      · rw [if_pos hE, if_pos hb] at h
        split at h
        · cases h
        · split at h
          · cases h
          · omega
      · rw [if_neg hE] at h; cases h
    · omega
  · omega
theorem pfIp_lt (s : List UInt8) : pfIp s < 4294967296 := by
  unfold pfIp
  split
  · exact maskd_lt (ipN_lt _) _
  · omega
theorem pf_again (s : List UInt8) : maskd (pfIp s) (pfBits s) = pfIp s := by
  unfold pfIp
  split
  · exact maskd_twice _ _
  · simp [maskd]
/-- What differs behind a prefix's bits alone. -/
theorem has_differ {a b k : Nat} (ha : a < 4294967296) (hb : b < 4294967296) (hk : k ≤ 32) : (hasB a (k : Int) b = true) ↔ (a ^^^ b) / 2 ^ (32 - k) = 0 := by
  have hp : 0 < 2 ^ (32 - k) := Nat.pos_of_ne_zero (by simp)
  unfold hasB
  rw [clampN_nat hk, beq_iff_eq, maskd, maskd, Nat.xor_div_two_pow]
  constructor
  · intro e
    rw [Nat.eq_of_mul_eq_mul_right hp e, Nat.xor_self]
  · intro e
    have h2 : b / 2 ^ (32 - k) = a / 2 ^ (32 - k) ^^^ (a / 2 ^ (32 - k) ^^^ b / 2 ^ (32 - k)) := by rw [← Nat.xor_assoc, Nat.xor_self, Nat.zero_xor]
    rw [h2, e, Nat.xor_zero]
theorem has_close {a b k : Nat} (hk : k ≤ 32) (h : hasB a ((k : Int) + 1) b = true) : hasB a (k : Int) b = true := by
  by_cases h32 : k = 32
  · subst h32
    exact h
  · have e : clampN ((k : Int) + 1) = k + 1 := clampN_nat (k := k + 1) (by omega)
    have hp : 0 < 2 ^ (32 - (k + 1)) := Nat.pos_of_ne_zero (by simp)
    unfold hasB at h ⊢
    rw [e, beq_iff_eq, maskd, maskd] at h
    rw [clampN_nat hk, beq_iff_eq, maskd, maskd]
    have h2 := Nat.eq_of_mul_eq_mul_right hp h
    have e2 : ∀ x : Nat, x / 2 ^ (32 - k) = x / 2 ^ (32 - (k + 1)) / 2 := fun x => by
      rw [Nat.div_div_eq_div_mul, ← Nat.pow_succ, show (32 - (k + 1)).succ = 32 - k by omega]
    rw [e2, e2, h2]
end
end Go.Proofs.YtiemkafpijhlmaaDoor.Am
namespace Go.Proofs.YtiemkafpijhlmaaDoor.Am
noncomputable section
/- THE LAW's WALK: addresses and prefixes. -/
theorem pfT_len {a k : Nat} (ha : a < 4294967296) (hk : k ≤ 32) : (pfT a (k : Int)).length < 100000 := by
  have hmd := maskd_lt ha k
  have l1 := ipT_len hmd
  have l2 := decs_le20 (u := k) (by omega)
  unfold pfT
  rw [clampN_nat hk]
  split
  · rw [List.length_append, List.length_cons]; omega
  · rw [List.append_nil]; omega
set_option maxHeartbeats 20000000 in
theorem prefixes_walk {a b x : Nat} (ha : a < 4294967296) (hb : b < 4294967296) (hx : x < 256) (s : List UInt8) (hs : s.length < 9223372036854775808) {h : AHeap} {n : Nat} (hw : WF h n) (hp : HasPow h) (he : HasErrs h) (hn : 4096 ≤ n) :
    HasCall EV06 4 [.int .u32 (a : Int), .int .u32 (b : Int), .int .u8 (x : Int), .string ⟨s.toArray⟩] h n fun v _ _ => v = .bool true := by
  have goal : HasCallT EV06 4 [.int .u32 (a : Int), .int .u32 (b : Int), .int .u8 (x : Int), .string ⟨s.toArray⟩] h n (fun v _ _ => v = .bool true) ⟨⟩ := by
    have hk : x % 33 ≤ 32 := by omega
    have ek : (x : Int) % 33 = ((x % 33 : Nat) : Int) := by omega
    have hmd := maskd_lt ha (x % 33)
    with_reducible refine inl4 ?_
    simp -dsimp (discharger := omega) [B4, tmodP, aFill, ek, -Int.natCast_emod]
    clear ek
    generalize x % 33 = k at *
    obtain ⟨y1, y2, y3⟩ := pf_back ha hk
    have lT : (pfT a (k : Int)).length < 100000 := by
      have l1 := ipT_len hmd
      have l2 := decs_le20 (u := k) (by omega)
      unfold pfT
      rw [clampN_nat hk]
      split
      · rw [List.length_append, List.length_cons]; omega
      · rw [List.append_nil]; omega
    have lI : (ipT a).length < 100000 := by have := ipT_len ha; omega
    with_reducible refine call_ret (ptext_ret ha (k : Int) (by omega) (by omega) (.of fun j hj => by simp (discharger := omega) [hw.none (i := j) (by omega)]) (by (repeat (refine HasPow.put ?_ (by omega) _)); exact hp) (by omega)) ?_
    simp -dsimp (discharger := omega) []
    with_reducible refine call_ret (parsePrefix_ret lT (.of fun j hj => by simp (discharger := omega) [hw.none (i := j) (by omega)]) (by (repeat (refine HasPow.put ?_ (by omega) _)); exact hp) (by (repeat (refine HasErrs.put ?_ (by omega) _)); exact he) (by omega)) ?_
    rw [y1, y2, y3]
    simp -dsimp (discharger := omega) []
    with_reducible refine call_ret (text_ret ha (.of fun j hj => by simp (discharger := omega) [hw.none (i := j) (by omega)]) (by (repeat (refine HasPow.put ?_ (by omega) _)); exact hp) (by omega)) ?_
    simp -dsimp (discharger := omega) []
    with_reducible refine call_ret (parse_ret lI (.of fun j hj => by simp (discharger := omega) [hw.none (i := j) (by omega)]) (by (repeat (refine HasPow.put ?_ (by omega) _)); exact hp) (by (repeat (refine HasErrs.put ?_ (by omega) _)); exact he) (by omega)) ?_
    rw [ipE_text ha, ipN_text ha]
    have hQ : hasB (maskd a k) (k : Int) a = true := by
      unfold hasB; rw [clampN_nat hk, maskd_twice]; simp
    have hP : hasB a (k : Int) (maskd a k) = true := by
      unfold hasB; rw [clampN_nat hk, maskd_twice]; simp
    have hT2 : pfT (maskd a k) (k : Int) = pfT a (k : Int) := by
      unfold pfT; rw [clampN_nat hk, maskd_twice]
    simp -dsimp (discharger := omega) []
    with_reducible refine ret_ret (has_ret hmd ha (k : Int) (by omega) (by omega) (.of fun j hj => by simp (discharger := omega) [hw.none (i := j) (by omega)])) ?_
    rw [hQ]
    simp -dsimp (discharger := omega) []
    with_reducible refine ret_ret (has_ret ha hmd (k : Int) (by omega) (by omega) (.of fun j hj => by simp (discharger := omega) [hw.none (i := j) (by omega)])) ?_
    rw [hP]
    simp -dsimp (discharger := omega) []
    with_reducible refine ret_ret (ptext_ret hmd (k : Int) (by omega) (by omega) (.of fun j hj => by simp (discharger := omega) [hw.none (i := j) (by omega)]) (by (repeat (refine HasPow.put ?_ (by omega) _)); exact hp) (by omega)) ?_
    simp -dsimp (discharger := omega) []
    with_reducible refine ret_ret (ptext_ret ha (k : Int) (by omega) (by omega) (.of fun j hj => by simp (discharger := omega) [hw.none (i := j) (by omega)]) (by (repeat (refine HasPow.put ?_ (by omega) _)); exact hp) (by omega)) ?_
    rw [hT2]
    simp -dsimp (discharger := omega) []
    have hdf := has_differ ha hb hk
    have hxl : a ^^^ b < 4294967296 := Nat.xor_lt_two_pow (n := 32) ha hb
    have hsh : (shrI .u32 (xorI .u32 (a : Int) (b : Int)) (32 - (k : Int)) == 0) = hasB a (k : Int) b := by
      have e1 : (32 - (k : Int)) = ((32 - k : Nat) : Int) := by omega
      rw [xor32N ha hb, e1, shrI_pos .u32 (by omega) _ (by show 32 - k ≤ 32; omega)]
      have e2 : (((a ^^^ b : Nat) : Int) / ((2 ^ (32 - k) : Nat) : Int)) = (((a ^^^ b) / 2 ^ (32 - k) : Nat) : Int) := rfl
      rw [e2, nat0, Bool.eq_iff_iff, beq_iff_eq, hdf]
    have heq : k = 32 → ((a : Int) == (b : Int)) = hasB a (k : Int) b := fun e => by
      subst e
      rw [natEq, Bool.eq_iff_iff, beq_iff_eq, hdf]
      simp only [Nat.sub_self, Nat.pow_zero, Nat.div_one]
      constructor
      · intro e; rw [e, Nat.xor_self]
      · intro e
        have h2 : b = a ^^^ (a ^^^ b) := by rw [← Nat.xor_assoc, Nat.xor_self, Nat.zero_xor]
        rw [h2, e, Nat.xor_zero]
    have hz0 : k = 0 → hasB a (k : Int) b = true := fun e => by
      subst e
      rw [hdf]
      exact Nat.div_eq_of_lt hxl
    cases hH : hasB a (k : Int) b with
    | true =>
      rw [hH] at hsh heq
      by_cases k32 : k < 32
      · simp -dsimp (discharger := omega) [hsh, aFill]
        with_reducible refine call_ret (has_ret ha hb (k : Int) (by omega) (by omega) (.of fun j hj => by simp (discharger := omega) [hw.none (i := j) (by omega)])) ?_
        rw [hH]
        simp -dsimp (discharger := omega) []
        with_reducible refine call_ret (has_ret ha hb ((k : Int) + 1) (by omega) (by omega) (.of fun j hj => by simp (discharger := omega) [hw.none (i := j) (by omega)])) ?_
        cases hC : hasB a ((k : Int) + 1) b with
        | false =>
          by_cases h30 : s.length < 30
          · simp -dsimp (discharger := omega) []
            with_reducible refine call_ret (parse_ret (s := s) (by omega) (.of fun j hj => by simp (discharger := omega) [hw.none (i := j) (by omega)]) (by (repeat (refine HasPow.put ?_ (by omega) _)); exact hp) (by (repeat (refine HasErrs.put ?_ (by omega) _)); exact he) (by omega)) ?_
            simp -dsimp (discharger := omega) []
            with_reducible refine call_ret (parsePrefix_ret (s := s) (by omega) (.of fun j hj => by simp (discharger := omega) [hw.none (i := j) (by omega)]) (by (repeat (refine HasPow.put ?_ (by omega) _)); exact hp) (by (repeat (refine HasErrs.put ?_ (by omega) _)); exact he) (by omega)) ?_
            have hb1 := pfBits_le s
            have hi1 := pfIp_lt s
            have hn1 := ipN_lt s
            have hbk := pf_back hi1 hb1
            rw [pf_again] at hbk
            obtain ⟨z1, z2, z3⟩ := hbk
            have lT2 : (pfT (pfIp s) ((pfBits s : Nat) : Int)).length < 100000 := pfT_len hi1 hb1
            by_cases g0 : ipE s = 0
            · have hsame := ip_same g0
              rw [g0]
              by_cases f0 : pfE s = 0
              · rw [f0]
                simp -dsimp (discharger := omega) []
                with_reducible refine call_ret (text_ret hn1 (.of fun j hj => by simp (discharger := omega) [hw.none (i := j) (by omega)]) (by (repeat (refine HasPow.put ?_ (by omega) _)); exact hp) (by omega)) ?_
                rw [hsame]
                simp -dsimp (discharger := omega) []
                with_reducible refine call_ret (ptext_ret hi1 ((pfBits s : Nat) : Int) (by omega) (by omega) (.of fun j hj => by simp (discharger := omega) [hw.none (i := j) (by omega)]) (by (repeat (refine HasPow.put ?_ (by omega) _)); exact hp) (by omega)) ?_
                simp -dsimp (discharger := omega) []
                with_reducible refine call_ret (parsePrefix_ret lT2 (.of fun j hj => by simp (discharger := omega) [hw.none (i := j) (by omega)]) (by (repeat (refine HasPow.put ?_ (by omega) _)); exact hp) (by (repeat (refine HasErrs.put ?_ (by omega) _)); exact he) (by omega)) ?_
                rw [z1, z2, z3]
                simp -dsimp (discharger := omega) [leavesEq, leafEq]
                with_reducible refine call_ret (tells_ret (.of fun j hj => by simp (discharger := omega) [hw.none (i := j) (by omega)]) (by (repeat (refine HasPow.put ?_ (by omega) _)); exact hp) (by (repeat (refine HasErrs.put ?_ (by omega) _)); exact he) (by omega)) ?_
                simp -dsimp (discharger := omega) []
              · obtain ⟨u1, u2⟩ := pf_none f0
                rw [u1, u2] at z1 z2 z3 lT2 ⊢
                simp -dsimp (discharger := omega) []
                with_reducible refine call_ret (text_ret hn1 (.of fun j hj => by simp (discharger := omega) [hw.none (i := j) (by omega)]) (by (repeat (refine HasPow.put ?_ (by omega) _)); exact hp) (by omega)) ?_
                rw [hsame]
                simp -dsimp (discharger := omega) [leavesEq, leafEq, aFill]
                with_reducible refine call_ret (ptext_ret (a := 0) (by omega) 0 (by omega) (by omega) (.of fun j hj => by simp (discharger := omega) [hw.none (i := j) (by omega)]) (by (repeat (refine HasPow.put ?_ (by omega) _)); exact hp) (by omega)) ?_
                simp -dsimp (discharger := omega) []
                with_reducible refine call_ret (parsePrefix_ret lT2 (.of fun j hj => by simp (discharger := omega) [hw.none (i := j) (by omega)]) (by (repeat (refine HasPow.put ?_ (by omega) _)); exact hp) (by (repeat (refine HasErrs.put ?_ (by omega) _)); exact he) (by omega)) ?_
                rw [z1, z2, z3]
                simp -dsimp (discharger := omega) []
                with_reducible refine call_ret (tells_ret (.of fun j hj => by simp (discharger := omega) [hw.none (i := j) (by omega)]) (by (repeat (refine HasPow.put ?_ (by omega) _)); exact hp) (by (repeat (refine HasErrs.put ?_ (by omega) _)); exact he) (by omega)) ?_
                simp -dsimp (discharger := omega) []
            · have hn0 := ip_none g0
              rw [hn0]
              by_cases f0 : pfE s = 0
              · rw [f0]
                simp -dsimp (discharger := omega) []
                with_reducible refine call_ret (ptext_ret hi1 ((pfBits s : Nat) : Int) (by omega) (by omega) (.of fun j hj => by simp (discharger := omega) [hw.none (i := j) (by omega)]) (by (repeat (refine HasPow.put ?_ (by omega) _)); exact hp) (by omega)) ?_
                simp -dsimp (discharger := omega) []
                with_reducible refine call_ret (parsePrefix_ret lT2 (.of fun j hj => by simp (discharger := omega) [hw.none (i := j) (by omega)]) (by (repeat (refine HasPow.put ?_ (by omega) _)); exact hp) (by (repeat (refine HasErrs.put ?_ (by omega) _)); exact he) (by omega)) ?_
                rw [z1, z2, z3]
                simp -dsimp (discharger := omega) [leavesEq, leafEq]
                with_reducible refine call_ret (tells_ret (.of fun j hj => by simp (discharger := omega) [hw.none (i := j) (by omega)]) (by (repeat (refine HasPow.put ?_ (by omega) _)); exact hp) (by (repeat (refine HasErrs.put ?_ (by omega) _)); exact he) (by omega)) ?_
                simp -dsimp (discharger := omega) []
              · obtain ⟨u1, u2⟩ := pf_none f0
                rw [u1, u2] at z1 z2 z3 lT2 ⊢
                simp -dsimp (discharger := omega) [leavesEq, leafEq, aFill]
                with_reducible refine call_ret (ptext_ret (a := 0) (by omega) 0 (by omega) (by omega) (.of fun j hj => by simp (discharger := omega) [hw.none (i := j) (by omega)]) (by (repeat (refine HasPow.put ?_ (by omega) _)); exact hp) (by omega)) ?_
                simp -dsimp (discharger := omega) []
                with_reducible refine call_ret (parsePrefix_ret lT2 (.of fun j hj => by simp (discharger := omega) [hw.none (i := j) (by omega)]) (by (repeat (refine HasPow.put ?_ (by omega) _)); exact hp) (by (repeat (refine HasErrs.put ?_ (by omega) _)); exact he) (by omega)) ?_
                rw [z1, z2, z3]
                simp -dsimp (discharger := omega) []
                with_reducible refine call_ret (tells_ret (.of fun j hj => by simp (discharger := omega) [hw.none (i := j) (by omega)]) (by (repeat (refine HasPow.put ?_ (by omega) _)); exact hp) (by (repeat (refine HasErrs.put ?_ (by omega) _)); exact he) (by omega)) ?_
                simp -dsimp (discharger := omega) []
          · have e30 : (if (30 : Int) < (s.length : Int) then (30 : Int) else (s.length : Int)) = 30 := by split <;> omega
            simp -dsimp (discharger := omega) [e30]
            have ht : (s.take 30).length ≤ 30 := by rw [List.length_take]; omega
            generalize s.take 30 = t at *
            with_reducible refine call_ret (parse_ret (s := t) (by omega) (.of fun j hj => by simp (discharger := omega) [hw.none (i := j) (by omega)]) (by (repeat (refine HasPow.put ?_ (by omega) _)); exact hp) (by (repeat (refine HasErrs.put ?_ (by omega) _)); exact he) (by omega)) ?_
            simp -dsimp (discharger := omega) []
            with_reducible refine call_ret (parsePrefix_ret (s := t) (by omega) (.of fun j hj => by simp (discharger := omega) [hw.none (i := j) (by omega)]) (by (repeat (refine HasPow.put ?_ (by omega) _)); exact hp) (by (repeat (refine HasErrs.put ?_ (by omega) _)); exact he) (by omega)) ?_
            have hb1 := pfBits_le t
            have hi1 := pfIp_lt t
            have hn1 := ipN_lt t
            have hbk := pf_back hi1 hb1
            rw [pf_again] at hbk
            obtain ⟨z1, z2, z3⟩ := hbk
            have lT2 : (pfT (pfIp t) ((pfBits t : Nat) : Int)).length < 100000 := pfT_len hi1 hb1
            by_cases g0 : ipE t = 0
            · have hsame := ip_same g0
              rw [g0]
              by_cases f0 : pfE t = 0
              · rw [f0]
                simp -dsimp (discharger := omega) []
                with_reducible refine call_ret (text_ret hn1 (.of fun j hj => by simp (discharger := omega) [hw.none (i := j) (by omega)]) (by (repeat (refine HasPow.put ?_ (by omega) _)); exact hp) (by omega)) ?_
                rw [hsame]
                simp -dsimp (discharger := omega) []
                with_reducible refine call_ret (ptext_ret hi1 ((pfBits t : Nat) : Int) (by omega) (by omega) (.of fun j hj => by simp (discharger := omega) [hw.none (i := j) (by omega)]) (by (repeat (refine HasPow.put ?_ (by omega) _)); exact hp) (by omega)) ?_
                simp -dsimp (discharger := omega) []
                with_reducible refine call_ret (parsePrefix_ret lT2 (.of fun j hj => by simp (discharger := omega) [hw.none (i := j) (by omega)]) (by (repeat (refine HasPow.put ?_ (by omega) _)); exact hp) (by (repeat (refine HasErrs.put ?_ (by omega) _)); exact he) (by omega)) ?_
                rw [z1, z2, z3]
                simp -dsimp (discharger := omega) [leavesEq, leafEq]
                with_reducible refine call_ret (tells_ret (.of fun j hj => by simp (discharger := omega) [hw.none (i := j) (by omega)]) (by (repeat (refine HasPow.put ?_ (by omega) _)); exact hp) (by (repeat (refine HasErrs.put ?_ (by omega) _)); exact he) (by omega)) ?_
                simp -dsimp (discharger := omega) []
              · obtain ⟨u1, u2⟩ := pf_none f0
                rw [u1, u2] at z1 z2 z3 lT2 ⊢
                simp -dsimp (discharger := omega) []
                with_reducible refine call_ret (text_ret hn1 (.of fun j hj => by simp (discharger := omega) [hw.none (i := j) (by omega)]) (by (repeat (refine HasPow.put ?_ (by omega) _)); exact hp) (by omega)) ?_
                rw [hsame]
                simp -dsimp (discharger := omega) [leavesEq, leafEq, aFill]
                with_reducible refine call_ret (ptext_ret (a := 0) (by omega) 0 (by omega) (by omega) (.of fun j hj => by simp (discharger := omega) [hw.none (i := j) (by omega)]) (by (repeat (refine HasPow.put ?_ (by omega) _)); exact hp) (by omega)) ?_
                simp -dsimp (discharger := omega) []
                with_reducible refine call_ret (parsePrefix_ret lT2 (.of fun j hj => by simp (discharger := omega) [hw.none (i := j) (by omega)]) (by (repeat (refine HasPow.put ?_ (by omega) _)); exact hp) (by (repeat (refine HasErrs.put ?_ (by omega) _)); exact he) (by omega)) ?_
                rw [z1, z2, z3]
                simp -dsimp (discharger := omega) []
                with_reducible refine call_ret (tells_ret (.of fun j hj => by simp (discharger := omega) [hw.none (i := j) (by omega)]) (by (repeat (refine HasPow.put ?_ (by omega) _)); exact hp) (by (repeat (refine HasErrs.put ?_ (by omega) _)); exact he) (by omega)) ?_
                simp -dsimp (discharger := omega) []
            · have hn0 := ip_none g0
              rw [hn0]
              by_cases f0 : pfE t = 0
              · rw [f0]
                simp -dsimp (discharger := omega) []
                with_reducible refine call_ret (ptext_ret hi1 ((pfBits t : Nat) : Int) (by omega) (by omega) (.of fun j hj => by simp (discharger := omega) [hw.none (i := j) (by omega)]) (by (repeat (refine HasPow.put ?_ (by omega) _)); exact hp) (by omega)) ?_
                simp -dsimp (discharger := omega) []
                with_reducible refine call_ret (parsePrefix_ret lT2 (.of fun j hj => by simp (discharger := omega) [hw.none (i := j) (by omega)]) (by (repeat (refine HasPow.put ?_ (by omega) _)); exact hp) (by (repeat (refine HasErrs.put ?_ (by omega) _)); exact he) (by omega)) ?_
                rw [z1, z2, z3]
                simp -dsimp (discharger := omega) [leavesEq, leafEq]
                with_reducible refine call_ret (tells_ret (.of fun j hj => by simp (discharger := omega) [hw.none (i := j) (by omega)]) (by (repeat (refine HasPow.put ?_ (by omega) _)); exact hp) (by (repeat (refine HasErrs.put ?_ (by omega) _)); exact he) (by omega)) ?_
                simp -dsimp (discharger := omega) []
              · obtain ⟨u1, u2⟩ := pf_none f0
                rw [u1, u2] at z1 z2 z3 lT2 ⊢
                simp -dsimp (discharger := omega) [leavesEq, leafEq, aFill]
                with_reducible refine call_ret (ptext_ret (a := 0) (by omega) 0 (by omega) (by omega) (.of fun j hj => by simp (discharger := omega) [hw.none (i := j) (by omega)]) (by (repeat (refine HasPow.put ?_ (by omega) _)); exact hp) (by omega)) ?_
                simp -dsimp (discharger := omega) []
                with_reducible refine call_ret (parsePrefix_ret lT2 (.of fun j hj => by simp (discharger := omega) [hw.none (i := j) (by omega)]) (by (repeat (refine HasPow.put ?_ (by omega) _)); exact hp) (by (repeat (refine HasErrs.put ?_ (by omega) _)); exact he) (by omega)) ?_
                rw [z1, z2, z3]
                simp -dsimp (discharger := omega) []
                with_reducible refine call_ret (tells_ret (.of fun j hj => by simp (discharger := omega) [hw.none (i := j) (by omega)]) (by (repeat (refine HasPow.put ?_ (by omega) _)); exact hp) (by (repeat (refine HasErrs.put ?_ (by omega) _)); exact he) (by omega)) ?_
                simp -dsimp (discharger := omega) []
        | true =>
          simp -dsimp (discharger := omega) []
          with_reducible refine call_ret (has_ret ha hb (k : Int) (by omega) (by omega) (.of fun j hj => by simp (discharger := omega) [hw.none (i := j) (by omega)])) ?_
          rw [hH]
          by_cases h30 : s.length < 30
          · simp -dsimp (discharger := omega) []
            with_reducible refine call_ret (parse_ret (s := s) (by omega) (.of fun j hj => by simp (discharger := omega) [hw.none (i := j) (by omega)]) (by (repeat (refine HasPow.put ?_ (by omega) _)); exact hp) (by (repeat (refine HasErrs.put ?_ (by omega) _)); exact he) (by omega)) ?_
            simp -dsimp (discharger := omega) []
            with_reducible refine call_ret (parsePrefix_ret (s := s) (by omega) (.of fun j hj => by simp (discharger := omega) [hw.none (i := j) (by omega)]) (by (repeat (refine HasPow.put ?_ (by omega) _)); exact hp) (by (repeat (refine HasErrs.put ?_ (by omega) _)); exact he) (by omega)) ?_
            have hb1 := pfBits_le s
            have hi1 := pfIp_lt s
            have hn1 := ipN_lt s
            have hbk := pf_back hi1 hb1
            rw [pf_again] at hbk
            obtain ⟨z1, z2, z3⟩ := hbk
            have lT2 : (pfT (pfIp s) ((pfBits s : Nat) : Int)).length < 100000 := pfT_len hi1 hb1
            by_cases g0 : ipE s = 0
            · have hsame := ip_same g0
              rw [g0]
              by_cases f0 : pfE s = 0
              · rw [f0]
                simp -dsimp (discharger := omega) []
                with_reducible refine call_ret (text_ret hn1 (.of fun j hj => by simp (discharger := omega) [hw.none (i := j) (by omega)]) (by (repeat (refine HasPow.put ?_ (by omega) _)); exact hp) (by omega)) ?_
                rw [hsame]
                simp -dsimp (discharger := omega) []
                with_reducible refine call_ret (ptext_ret hi1 ((pfBits s : Nat) : Int) (by omega) (by omega) (.of fun j hj => by simp (discharger := omega) [hw.none (i := j) (by omega)]) (by (repeat (refine HasPow.put ?_ (by omega) _)); exact hp) (by omega)) ?_
                simp -dsimp (discharger := omega) []
                with_reducible refine call_ret (parsePrefix_ret lT2 (.of fun j hj => by simp (discharger := omega) [hw.none (i := j) (by omega)]) (by (repeat (refine HasPow.put ?_ (by omega) _)); exact hp) (by (repeat (refine HasErrs.put ?_ (by omega) _)); exact he) (by omega)) ?_
                rw [z1, z2, z3]
                simp -dsimp (discharger := omega) [leavesEq, leafEq]
                with_reducible refine call_ret (tells_ret (.of fun j hj => by simp (discharger := omega) [hw.none (i := j) (by omega)]) (by (repeat (refine HasPow.put ?_ (by omega) _)); exact hp) (by (repeat (refine HasErrs.put ?_ (by omega) _)); exact he) (by omega)) ?_
                simp -dsimp (discharger := omega) []
              · obtain ⟨u1, u2⟩ := pf_none f0
                rw [u1, u2] at z1 z2 z3 lT2 ⊢
                simp -dsimp (discharger := omega) []
                with_reducible refine call_ret (text_ret hn1 (.of fun j hj => by simp (discharger := omega) [hw.none (i := j) (by omega)]) (by (repeat (refine HasPow.put ?_ (by omega) _)); exact hp) (by omega)) ?_
                rw [hsame]
                simp -dsimp (discharger := omega) [leavesEq, leafEq, aFill]
                with_reducible refine call_ret (ptext_ret (a := 0) (by omega) 0 (by omega) (by omega) (.of fun j hj => by simp (discharger := omega) [hw.none (i := j) (by omega)]) (by (repeat (refine HasPow.put ?_ (by omega) _)); exact hp) (by omega)) ?_
                simp -dsimp (discharger := omega) []
                with_reducible refine call_ret (parsePrefix_ret lT2 (.of fun j hj => by simp (discharger := omega) [hw.none (i := j) (by omega)]) (by (repeat (refine HasPow.put ?_ (by omega) _)); exact hp) (by (repeat (refine HasErrs.put ?_ (by omega) _)); exact he) (by omega)) ?_
                rw [z1, z2, z3]
                simp -dsimp (discharger := omega) []
                with_reducible refine call_ret (tells_ret (.of fun j hj => by simp (discharger := omega) [hw.none (i := j) (by omega)]) (by (repeat (refine HasPow.put ?_ (by omega) _)); exact hp) (by (repeat (refine HasErrs.put ?_ (by omega) _)); exact he) (by omega)) ?_
                simp -dsimp (discharger := omega) []
            · have hn0 := ip_none g0
              rw [hn0]
              by_cases f0 : pfE s = 0
              · rw [f0]
                simp -dsimp (discharger := omega) []
                with_reducible refine call_ret (ptext_ret hi1 ((pfBits s : Nat) : Int) (by omega) (by omega) (.of fun j hj => by simp (discharger := omega) [hw.none (i := j) (by omega)]) (by (repeat (refine HasPow.put ?_ (by omega) _)); exact hp) (by omega)) ?_
                simp -dsimp (discharger := omega) []
                with_reducible refine call_ret (parsePrefix_ret lT2 (.of fun j hj => by simp (discharger := omega) [hw.none (i := j) (by omega)]) (by (repeat (refine HasPow.put ?_ (by omega) _)); exact hp) (by (repeat (refine HasErrs.put ?_ (by omega) _)); exact he) (by omega)) ?_
                rw [z1, z2, z3]
                simp -dsimp (discharger := omega) [leavesEq, leafEq]
                with_reducible refine call_ret (tells_ret (.of fun j hj => by simp (discharger := omega) [hw.none (i := j) (by omega)]) (by (repeat (refine HasPow.put ?_ (by omega) _)); exact hp) (by (repeat (refine HasErrs.put ?_ (by omega) _)); exact he) (by omega)) ?_
                simp -dsimp (discharger := omega) []
              · obtain ⟨u1, u2⟩ := pf_none f0
                rw [u1, u2] at z1 z2 z3 lT2 ⊢
                simp -dsimp (discharger := omega) [leavesEq, leafEq, aFill]
                with_reducible refine call_ret (ptext_ret (a := 0) (by omega) 0 (by omega) (by omega) (.of fun j hj => by simp (discharger := omega) [hw.none (i := j) (by omega)]) (by (repeat (refine HasPow.put ?_ (by omega) _)); exact hp) (by omega)) ?_
                simp -dsimp (discharger := omega) []
                with_reducible refine call_ret (parsePrefix_ret lT2 (.of fun j hj => by simp (discharger := omega) [hw.none (i := j) (by omega)]) (by (repeat (refine HasPow.put ?_ (by omega) _)); exact hp) (by (repeat (refine HasErrs.put ?_ (by omega) _)); exact he) (by omega)) ?_
                rw [z1, z2, z3]
                simp -dsimp (discharger := omega) []
                with_reducible refine call_ret (tells_ret (.of fun j hj => by simp (discharger := omega) [hw.none (i := j) (by omega)]) (by (repeat (refine HasPow.put ?_ (by omega) _)); exact hp) (by (repeat (refine HasErrs.put ?_ (by omega) _)); exact he) (by omega)) ?_
                simp -dsimp (discharger := omega) []
          · have e30 : (if (30 : Int) < (s.length : Int) then (30 : Int) else (s.length : Int)) = 30 := by split <;> omega
            simp -dsimp (discharger := omega) [e30]
            have ht : (s.take 30).length ≤ 30 := by rw [List.length_take]; omega
            generalize s.take 30 = t at *
            with_reducible refine call_ret (parse_ret (s := t) (by omega) (.of fun j hj => by simp (discharger := omega) [hw.none (i := j) (by omega)]) (by (repeat (refine HasPow.put ?_ (by omega) _)); exact hp) (by (repeat (refine HasErrs.put ?_ (by omega) _)); exact he) (by omega)) ?_
            simp -dsimp (discharger := omega) []
            with_reducible refine call_ret (parsePrefix_ret (s := t) (by omega) (.of fun j hj => by simp (discharger := omega) [hw.none (i := j) (by omega)]) (by (repeat (refine HasPow.put ?_ (by omega) _)); exact hp) (by (repeat (refine HasErrs.put ?_ (by omega) _)); exact he) (by omega)) ?_
            have hb1 := pfBits_le t
            have hi1 := pfIp_lt t
            have hn1 := ipN_lt t
            have hbk := pf_back hi1 hb1
            rw [pf_again] at hbk
            obtain ⟨z1, z2, z3⟩ := hbk
            have lT2 : (pfT (pfIp t) ((pfBits t : Nat) : Int)).length < 100000 := pfT_len hi1 hb1
            by_cases g0 : ipE t = 0
            · have hsame := ip_same g0
              rw [g0]
              by_cases f0 : pfE t = 0
              · rw [f0]
                simp -dsimp (discharger := omega) []
                with_reducible refine call_ret (text_ret hn1 (.of fun j hj => by simp (discharger := omega) [hw.none (i := j) (by omega)]) (by (repeat (refine HasPow.put ?_ (by omega) _)); exact hp) (by omega)) ?_
                rw [hsame]
                simp -dsimp (discharger := omega) []
                with_reducible refine call_ret (ptext_ret hi1 ((pfBits t : Nat) : Int) (by omega) (by omega) (.of fun j hj => by simp (discharger := omega) [hw.none (i := j) (by omega)]) (by (repeat (refine HasPow.put ?_ (by omega) _)); exact hp) (by omega)) ?_
                simp -dsimp (discharger := omega) []
                with_reducible refine call_ret (parsePrefix_ret lT2 (.of fun j hj => by simp (discharger := omega) [hw.none (i := j) (by omega)]) (by (repeat (refine HasPow.put ?_ (by omega) _)); exact hp) (by (repeat (refine HasErrs.put ?_ (by omega) _)); exact he) (by omega)) ?_
                rw [z1, z2, z3]
                simp -dsimp (discharger := omega) [leavesEq, leafEq]
                with_reducible refine call_ret (tells_ret (.of fun j hj => by simp (discharger := omega) [hw.none (i := j) (by omega)]) (by (repeat (refine HasPow.put ?_ (by omega) _)); exact hp) (by (repeat (refine HasErrs.put ?_ (by omega) _)); exact he) (by omega)) ?_
                simp -dsimp (discharger := omega) []
              · obtain ⟨u1, u2⟩ := pf_none f0
                rw [u1, u2] at z1 z2 z3 lT2 ⊢
                simp -dsimp (discharger := omega) []
                with_reducible refine call_ret (text_ret hn1 (.of fun j hj => by simp (discharger := omega) [hw.none (i := j) (by omega)]) (by (repeat (refine HasPow.put ?_ (by omega) _)); exact hp) (by omega)) ?_
                rw [hsame]
                simp -dsimp (discharger := omega) [leavesEq, leafEq, aFill]
                with_reducible refine call_ret (ptext_ret (a := 0) (by omega) 0 (by omega) (by omega) (.of fun j hj => by simp (discharger := omega) [hw.none (i := j) (by omega)]) (by (repeat (refine HasPow.put ?_ (by omega) _)); exact hp) (by omega)) ?_
                simp -dsimp (discharger := omega) []
                with_reducible refine call_ret (parsePrefix_ret lT2 (.of fun j hj => by simp (discharger := omega) [hw.none (i := j) (by omega)]) (by (repeat (refine HasPow.put ?_ (by omega) _)); exact hp) (by (repeat (refine HasErrs.put ?_ (by omega) _)); exact he) (by omega)) ?_
                rw [z1, z2, z3]
                simp -dsimp (discharger := omega) []
                with_reducible refine call_ret (tells_ret (.of fun j hj => by simp (discharger := omega) [hw.none (i := j) (by omega)]) (by (repeat (refine HasPow.put ?_ (by omega) _)); exact hp) (by (repeat (refine HasErrs.put ?_ (by omega) _)); exact he) (by omega)) ?_
                simp -dsimp (discharger := omega) []
            · have hn0 := ip_none g0
              rw [hn0]
              by_cases f0 : pfE t = 0
              · rw [f0]
                simp -dsimp (discharger := omega) []
                with_reducible refine call_ret (ptext_ret hi1 ((pfBits t : Nat) : Int) (by omega) (by omega) (.of fun j hj => by simp (discharger := omega) [hw.none (i := j) (by omega)]) (by (repeat (refine HasPow.put ?_ (by omega) _)); exact hp) (by omega)) ?_
                simp -dsimp (discharger := omega) []
                with_reducible refine call_ret (parsePrefix_ret lT2 (.of fun j hj => by simp (discharger := omega) [hw.none (i := j) (by omega)]) (by (repeat (refine HasPow.put ?_ (by omega) _)); exact hp) (by (repeat (refine HasErrs.put ?_ (by omega) _)); exact he) (by omega)) ?_
                rw [z1, z2, z3]
                simp -dsimp (discharger := omega) [leavesEq, leafEq]
                with_reducible refine call_ret (tells_ret (.of fun j hj => by simp (discharger := omega) [hw.none (i := j) (by omega)]) (by (repeat (refine HasPow.put ?_ (by omega) _)); exact hp) (by (repeat (refine HasErrs.put ?_ (by omega) _)); exact he) (by omega)) ?_
                simp -dsimp (discharger := omega) []
              · obtain ⟨u1, u2⟩ := pf_none f0
                rw [u1, u2] at z1 z2 z3 lT2 ⊢
                simp -dsimp (discharger := omega) [leavesEq, leafEq, aFill]
                with_reducible refine call_ret (ptext_ret (a := 0) (by omega) 0 (by omega) (by omega) (.of fun j hj => by simp (discharger := omega) [hw.none (i := j) (by omega)]) (by (repeat (refine HasPow.put ?_ (by omega) _)); exact hp) (by omega)) ?_
                simp -dsimp (discharger := omega) []
                with_reducible refine call_ret (parsePrefix_ret lT2 (.of fun j hj => by simp (discharger := omega) [hw.none (i := j) (by omega)]) (by (repeat (refine HasPow.put ?_ (by omega) _)); exact hp) (by (repeat (refine HasErrs.put ?_ (by omega) _)); exact he) (by omega)) ?_
                rw [z1, z2, z3]
                simp -dsimp (discharger := omega) []
                with_reducible refine call_ret (tells_ret (.of fun j hj => by simp (discharger := omega) [hw.none (i := j) (by omega)]) (by (repeat (refine HasPow.put ?_ (by omega) _)); exact hp) (by (repeat (refine HasErrs.put ?_ (by omega) _)); exact he) (by omega)) ?_
                simp -dsimp (discharger := omega) []
      · have heq := heq (by omega)
        simp -dsimp (discharger := omega) [heq, aFill]
        with_reducible refine call_ret (has_ret ha hb (k : Int) (by omega) (by omega) (.of fun j hj => by simp (discharger := omega) [hw.none (i := j) (by omega)])) ?_
        rw [hH]
        simp -dsimp (discharger := omega) []
        with_reducible refine call_ret (has_ret ha hb ((k : Int) + 1) (by omega) (by omega) (.of fun j hj => by simp (discharger := omega) [hw.none (i := j) (by omega)])) ?_
        cases hC : hasB a ((k : Int) + 1) b with
        | false =>
          by_cases h30 : s.length < 30
          · simp -dsimp (discharger := omega) []
            with_reducible refine call_ret (parse_ret (s := s) (by omega) (.of fun j hj => by simp (discharger := omega) [hw.none (i := j) (by omega)]) (by (repeat (refine HasPow.put ?_ (by omega) _)); exact hp) (by (repeat (refine HasErrs.put ?_ (by omega) _)); exact he) (by omega)) ?_
            simp -dsimp (discharger := omega) []
            with_reducible refine call_ret (parsePrefix_ret (s := s) (by omega) (.of fun j hj => by simp (discharger := omega) [hw.none (i := j) (by omega)]) (by (repeat (refine HasPow.put ?_ (by omega) _)); exact hp) (by (repeat (refine HasErrs.put ?_ (by omega) _)); exact he) (by omega)) ?_
            have hb1 := pfBits_le s
            have hi1 := pfIp_lt s
            have hn1 := ipN_lt s
            have hbk := pf_back hi1 hb1
            rw [pf_again] at hbk
            obtain ⟨z1, z2, z3⟩ := hbk
            have lT2 : (pfT (pfIp s) ((pfBits s : Nat) : Int)).length < 100000 := pfT_len hi1 hb1
            by_cases g0 : ipE s = 0
            · have hsame := ip_same g0
              rw [g0]
              by_cases f0 : pfE s = 0
              · rw [f0]
                simp -dsimp (discharger := omega) []
                with_reducible refine call_ret (text_ret hn1 (.of fun j hj => by simp (discharger := omega) [hw.none (i := j) (by omega)]) (by (repeat (refine HasPow.put ?_ (by omega) _)); exact hp) (by omega)) ?_
                rw [hsame]
                simp -dsimp (discharger := omega) []
                with_reducible refine call_ret (ptext_ret hi1 ((pfBits s : Nat) : Int) (by omega) (by omega) (.of fun j hj => by simp (discharger := omega) [hw.none (i := j) (by omega)]) (by (repeat (refine HasPow.put ?_ (by omega) _)); exact hp) (by omega)) ?_
                simp -dsimp (discharger := omega) []
                with_reducible refine call_ret (parsePrefix_ret lT2 (.of fun j hj => by simp (discharger := omega) [hw.none (i := j) (by omega)]) (by (repeat (refine HasPow.put ?_ (by omega) _)); exact hp) (by (repeat (refine HasErrs.put ?_ (by omega) _)); exact he) (by omega)) ?_
                rw [z1, z2, z3]
                simp -dsimp (discharger := omega) [leavesEq, leafEq]
                with_reducible refine call_ret (tells_ret (.of fun j hj => by simp (discharger := omega) [hw.none (i := j) (by omega)]) (by (repeat (refine HasPow.put ?_ (by omega) _)); exact hp) (by (repeat (refine HasErrs.put ?_ (by omega) _)); exact he) (by omega)) ?_
                simp -dsimp (discharger := omega) []
              · obtain ⟨u1, u2⟩ := pf_none f0
                rw [u1, u2] at z1 z2 z3 lT2 ⊢
                simp -dsimp (discharger := omega) []
                with_reducible refine call_ret (text_ret hn1 (.of fun j hj => by simp (discharger := omega) [hw.none (i := j) (by omega)]) (by (repeat (refine HasPow.put ?_ (by omega) _)); exact hp) (by omega)) ?_
                rw [hsame]
                simp -dsimp (discharger := omega) [leavesEq, leafEq, aFill]
                with_reducible refine call_ret (ptext_ret (a := 0) (by omega) 0 (by omega) (by omega) (.of fun j hj => by simp (discharger := omega) [hw.none (i := j) (by omega)]) (by (repeat (refine HasPow.put ?_ (by omega) _)); exact hp) (by omega)) ?_
                simp -dsimp (discharger := omega) []
                with_reducible refine call_ret (parsePrefix_ret lT2 (.of fun j hj => by simp (discharger := omega) [hw.none (i := j) (by omega)]) (by (repeat (refine HasPow.put ?_ (by omega) _)); exact hp) (by (repeat (refine HasErrs.put ?_ (by omega) _)); exact he) (by omega)) ?_
                rw [z1, z2, z3]
                simp -dsimp (discharger := omega) []
                with_reducible refine call_ret (tells_ret (.of fun j hj => by simp (discharger := omega) [hw.none (i := j) (by omega)]) (by (repeat (refine HasPow.put ?_ (by omega) _)); exact hp) (by (repeat (refine HasErrs.put ?_ (by omega) _)); exact he) (by omega)) ?_
                simp -dsimp (discharger := omega) []
            · have hn0 := ip_none g0
              rw [hn0]
              by_cases f0 : pfE s = 0
              · rw [f0]
                simp -dsimp (discharger := omega) []
                with_reducible refine call_ret (ptext_ret hi1 ((pfBits s : Nat) : Int) (by omega) (by omega) (.of fun j hj => by simp (discharger := omega) [hw.none (i := j) (by omega)]) (by (repeat (refine HasPow.put ?_ (by omega) _)); exact hp) (by omega)) ?_
                simp -dsimp (discharger := omega) []
                with_reducible refine call_ret (parsePrefix_ret lT2 (.of fun j hj => by simp (discharger := omega) [hw.none (i := j) (by omega)]) (by (repeat (refine HasPow.put ?_ (by omega) _)); exact hp) (by (repeat (refine HasErrs.put ?_ (by omega) _)); exact he) (by omega)) ?_
                rw [z1, z2, z3]
                simp -dsimp (discharger := omega) [leavesEq, leafEq]
                with_reducible refine call_ret (tells_ret (.of fun j hj => by simp (discharger := omega) [hw.none (i := j) (by omega)]) (by (repeat (refine HasPow.put ?_ (by omega) _)); exact hp) (by (repeat (refine HasErrs.put ?_ (by omega) _)); exact he) (by omega)) ?_
                simp -dsimp (discharger := omega) []
              · obtain ⟨u1, u2⟩ := pf_none f0
                rw [u1, u2] at z1 z2 z3 lT2 ⊢
                simp -dsimp (discharger := omega) [leavesEq, leafEq, aFill]
                with_reducible refine call_ret (ptext_ret (a := 0) (by omega) 0 (by omega) (by omega) (.of fun j hj => by simp (discharger := omega) [hw.none (i := j) (by omega)]) (by (repeat (refine HasPow.put ?_ (by omega) _)); exact hp) (by omega)) ?_
                simp -dsimp (discharger := omega) []
                with_reducible refine call_ret (parsePrefix_ret lT2 (.of fun j hj => by simp (discharger := omega) [hw.none (i := j) (by omega)]) (by (repeat (refine HasPow.put ?_ (by omega) _)); exact hp) (by (repeat (refine HasErrs.put ?_ (by omega) _)); exact he) (by omega)) ?_
                rw [z1, z2, z3]
                simp -dsimp (discharger := omega) []
                with_reducible refine call_ret (tells_ret (.of fun j hj => by simp (discharger := omega) [hw.none (i := j) (by omega)]) (by (repeat (refine HasPow.put ?_ (by omega) _)); exact hp) (by (repeat (refine HasErrs.put ?_ (by omega) _)); exact he) (by omega)) ?_
                simp -dsimp (discharger := omega) []
          · have e30 : (if (30 : Int) < (s.length : Int) then (30 : Int) else (s.length : Int)) = 30 := by split <;> omega
            simp -dsimp (discharger := omega) [e30]
            have ht : (s.take 30).length ≤ 30 := by rw [List.length_take]; omega
            generalize s.take 30 = t at *
            with_reducible refine call_ret (parse_ret (s := t) (by omega) (.of fun j hj => by simp (discharger := omega) [hw.none (i := j) (by omega)]) (by (repeat (refine HasPow.put ?_ (by omega) _)); exact hp) (by (repeat (refine HasErrs.put ?_ (by omega) _)); exact he) (by omega)) ?_
            simp -dsimp (discharger := omega) []
            with_reducible refine call_ret (parsePrefix_ret (s := t) (by omega) (.of fun j hj => by simp (discharger := omega) [hw.none (i := j) (by omega)]) (by (repeat (refine HasPow.put ?_ (by omega) _)); exact hp) (by (repeat (refine HasErrs.put ?_ (by omega) _)); exact he) (by omega)) ?_
            have hb1 := pfBits_le t
            have hi1 := pfIp_lt t
            have hn1 := ipN_lt t
            have hbk := pf_back hi1 hb1
            rw [pf_again] at hbk
            obtain ⟨z1, z2, z3⟩ := hbk
            have lT2 : (pfT (pfIp t) ((pfBits t : Nat) : Int)).length < 100000 := pfT_len hi1 hb1
            by_cases g0 : ipE t = 0
            · have hsame := ip_same g0
              rw [g0]
              by_cases f0 : pfE t = 0
              · rw [f0]
                simp -dsimp (discharger := omega) []
                with_reducible refine call_ret (text_ret hn1 (.of fun j hj => by simp (discharger := omega) [hw.none (i := j) (by omega)]) (by (repeat (refine HasPow.put ?_ (by omega) _)); exact hp) (by omega)) ?_
                rw [hsame]
                simp -dsimp (discharger := omega) []
                with_reducible refine call_ret (ptext_ret hi1 ((pfBits t : Nat) : Int) (by omega) (by omega) (.of fun j hj => by simp (discharger := omega) [hw.none (i := j) (by omega)]) (by (repeat (refine HasPow.put ?_ (by omega) _)); exact hp) (by omega)) ?_
                simp -dsimp (discharger := omega) []
                with_reducible refine call_ret (parsePrefix_ret lT2 (.of fun j hj => by simp (discharger := omega) [hw.none (i := j) (by omega)]) (by (repeat (refine HasPow.put ?_ (by omega) _)); exact hp) (by (repeat (refine HasErrs.put ?_ (by omega) _)); exact he) (by omega)) ?_
                rw [z1, z2, z3]
                simp -dsimp (discharger := omega) [leavesEq, leafEq]
                with_reducible refine call_ret (tells_ret (.of fun j hj => by simp (discharger := omega) [hw.none (i := j) (by omega)]) (by (repeat (refine HasPow.put ?_ (by omega) _)); exact hp) (by (repeat (refine HasErrs.put ?_ (by omega) _)); exact he) (by omega)) ?_
                simp -dsimp (discharger := omega) []
              · obtain ⟨u1, u2⟩ := pf_none f0
                rw [u1, u2] at z1 z2 z3 lT2 ⊢
                simp -dsimp (discharger := omega) []
                with_reducible refine call_ret (text_ret hn1 (.of fun j hj => by simp (discharger := omega) [hw.none (i := j) (by omega)]) (by (repeat (refine HasPow.put ?_ (by omega) _)); exact hp) (by omega)) ?_
                rw [hsame]
                simp -dsimp (discharger := omega) [leavesEq, leafEq, aFill]
                with_reducible refine call_ret (ptext_ret (a := 0) (by omega) 0 (by omega) (by omega) (.of fun j hj => by simp (discharger := omega) [hw.none (i := j) (by omega)]) (by (repeat (refine HasPow.put ?_ (by omega) _)); exact hp) (by omega)) ?_
                simp -dsimp (discharger := omega) []
                with_reducible refine call_ret (parsePrefix_ret lT2 (.of fun j hj => by simp (discharger := omega) [hw.none (i := j) (by omega)]) (by (repeat (refine HasPow.put ?_ (by omega) _)); exact hp) (by (repeat (refine HasErrs.put ?_ (by omega) _)); exact he) (by omega)) ?_
                rw [z1, z2, z3]
                simp -dsimp (discharger := omega) []
                with_reducible refine call_ret (tells_ret (.of fun j hj => by simp (discharger := omega) [hw.none (i := j) (by omega)]) (by (repeat (refine HasPow.put ?_ (by omega) _)); exact hp) (by (repeat (refine HasErrs.put ?_ (by omega) _)); exact he) (by omega)) ?_
                simp -dsimp (discharger := omega) []
            · have hn0 := ip_none g0
              rw [hn0]
              by_cases f0 : pfE t = 0
              · rw [f0]
                simp -dsimp (discharger := omega) []
                with_reducible refine call_ret (ptext_ret hi1 ((pfBits t : Nat) : Int) (by omega) (by omega) (.of fun j hj => by simp (discharger := omega) [hw.none (i := j) (by omega)]) (by (repeat (refine HasPow.put ?_ (by omega) _)); exact hp) (by omega)) ?_
                simp -dsimp (discharger := omega) []
                with_reducible refine call_ret (parsePrefix_ret lT2 (.of fun j hj => by simp (discharger := omega) [hw.none (i := j) (by omega)]) (by (repeat (refine HasPow.put ?_ (by omega) _)); exact hp) (by (repeat (refine HasErrs.put ?_ (by omega) _)); exact he) (by omega)) ?_
                rw [z1, z2, z3]
                simp -dsimp (discharger := omega) [leavesEq, leafEq]
                with_reducible refine call_ret (tells_ret (.of fun j hj => by simp (discharger := omega) [hw.none (i := j) (by omega)]) (by (repeat (refine HasPow.put ?_ (by omega) _)); exact hp) (by (repeat (refine HasErrs.put ?_ (by omega) _)); exact he) (by omega)) ?_
                simp -dsimp (discharger := omega) []
              · obtain ⟨u1, u2⟩ := pf_none f0
                rw [u1, u2] at z1 z2 z3 lT2 ⊢
                simp -dsimp (discharger := omega) [leavesEq, leafEq, aFill]
                with_reducible refine call_ret (ptext_ret (a := 0) (by omega) 0 (by omega) (by omega) (.of fun j hj => by simp (discharger := omega) [hw.none (i := j) (by omega)]) (by (repeat (refine HasPow.put ?_ (by omega) _)); exact hp) (by omega)) ?_
                simp -dsimp (discharger := omega) []
                with_reducible refine call_ret (parsePrefix_ret lT2 (.of fun j hj => by simp (discharger := omega) [hw.none (i := j) (by omega)]) (by (repeat (refine HasPow.put ?_ (by omega) _)); exact hp) (by (repeat (refine HasErrs.put ?_ (by omega) _)); exact he) (by omega)) ?_
                rw [z1, z2, z3]
                simp -dsimp (discharger := omega) []
                with_reducible refine call_ret (tells_ret (.of fun j hj => by simp (discharger := omega) [hw.none (i := j) (by omega)]) (by (repeat (refine HasPow.put ?_ (by omega) _)); exact hp) (by (repeat (refine HasErrs.put ?_ (by omega) _)); exact he) (by omega)) ?_
                simp -dsimp (discharger := omega) []
        | true =>
          simp -dsimp (discharger := omega) []
          with_reducible refine call_ret (has_ret ha hb (k : Int) (by omega) (by omega) (.of fun j hj => by simp (discharger := omega) [hw.none (i := j) (by omega)])) ?_
          rw [hH]
          by_cases h30 : s.length < 30
          · simp -dsimp (discharger := omega) []
            with_reducible refine call_ret (parse_ret (s := s) (by omega) (.of fun j hj => by simp (discharger := omega) [hw.none (i := j) (by omega)]) (by (repeat (refine HasPow.put ?_ (by omega) _)); exact hp) (by (repeat (refine HasErrs.put ?_ (by omega) _)); exact he) (by omega)) ?_
            simp -dsimp (discharger := omega) []
            with_reducible refine call_ret (parsePrefix_ret (s := s) (by omega) (.of fun j hj => by simp (discharger := omega) [hw.none (i := j) (by omega)]) (by (repeat (refine HasPow.put ?_ (by omega) _)); exact hp) (by (repeat (refine HasErrs.put ?_ (by omega) _)); exact he) (by omega)) ?_
            have hb1 := pfBits_le s
            have hi1 := pfIp_lt s
            have hn1 := ipN_lt s
            have hbk := pf_back hi1 hb1
            rw [pf_again] at hbk
            obtain ⟨z1, z2, z3⟩ := hbk
            have lT2 : (pfT (pfIp s) ((pfBits s : Nat) : Int)).length < 100000 := pfT_len hi1 hb1
            by_cases g0 : ipE s = 0
            · have hsame := ip_same g0
              rw [g0]
              by_cases f0 : pfE s = 0
              · rw [f0]
                simp -dsimp (discharger := omega) []
                with_reducible refine call_ret (text_ret hn1 (.of fun j hj => by simp (discharger := omega) [hw.none (i := j) (by omega)]) (by (repeat (refine HasPow.put ?_ (by omega) _)); exact hp) (by omega)) ?_
                rw [hsame]
                simp -dsimp (discharger := omega) []
                with_reducible refine call_ret (ptext_ret hi1 ((pfBits s : Nat) : Int) (by omega) (by omega) (.of fun j hj => by simp (discharger := omega) [hw.none (i := j) (by omega)]) (by (repeat (refine HasPow.put ?_ (by omega) _)); exact hp) (by omega)) ?_
                simp -dsimp (discharger := omega) []
                with_reducible refine call_ret (parsePrefix_ret lT2 (.of fun j hj => by simp (discharger := omega) [hw.none (i := j) (by omega)]) (by (repeat (refine HasPow.put ?_ (by omega) _)); exact hp) (by (repeat (refine HasErrs.put ?_ (by omega) _)); exact he) (by omega)) ?_
                rw [z1, z2, z3]
                simp -dsimp (discharger := omega) [leavesEq, leafEq]
                with_reducible refine call_ret (tells_ret (.of fun j hj => by simp (discharger := omega) [hw.none (i := j) (by omega)]) (by (repeat (refine HasPow.put ?_ (by omega) _)); exact hp) (by (repeat (refine HasErrs.put ?_ (by omega) _)); exact he) (by omega)) ?_
                simp -dsimp (discharger := omega) []
              · obtain ⟨u1, u2⟩ := pf_none f0
                rw [u1, u2] at z1 z2 z3 lT2 ⊢
                simp -dsimp (discharger := omega) []
                with_reducible refine call_ret (text_ret hn1 (.of fun j hj => by simp (discharger := omega) [hw.none (i := j) (by omega)]) (by (repeat (refine HasPow.put ?_ (by omega) _)); exact hp) (by omega)) ?_
                rw [hsame]
                simp -dsimp (discharger := omega) [leavesEq, leafEq, aFill]
                with_reducible refine call_ret (ptext_ret (a := 0) (by omega) 0 (by omega) (by omega) (.of fun j hj => by simp (discharger := omega) [hw.none (i := j) (by omega)]) (by (repeat (refine HasPow.put ?_ (by omega) _)); exact hp) (by omega)) ?_
                simp -dsimp (discharger := omega) []
                with_reducible refine call_ret (parsePrefix_ret lT2 (.of fun j hj => by simp (discharger := omega) [hw.none (i := j) (by omega)]) (by (repeat (refine HasPow.put ?_ (by omega) _)); exact hp) (by (repeat (refine HasErrs.put ?_ (by omega) _)); exact he) (by omega)) ?_
                rw [z1, z2, z3]
                simp -dsimp (discharger := omega) []
                with_reducible refine call_ret (tells_ret (.of fun j hj => by simp (discharger := omega) [hw.none (i := j) (by omega)]) (by (repeat (refine HasPow.put ?_ (by omega) _)); exact hp) (by (repeat (refine HasErrs.put ?_ (by omega) _)); exact he) (by omega)) ?_
                simp -dsimp (discharger := omega) []
            · have hn0 := ip_none g0
              rw [hn0]
              by_cases f0 : pfE s = 0
              · rw [f0]
                simp -dsimp (discharger := omega) []
                with_reducible refine call_ret (ptext_ret hi1 ((pfBits s : Nat) : Int) (by omega) (by omega) (.of fun j hj => by simp (discharger := omega) [hw.none (i := j) (by omega)]) (by (repeat (refine HasPow.put ?_ (by omega) _)); exact hp) (by omega)) ?_
                simp -dsimp (discharger := omega) []
                with_reducible refine call_ret (parsePrefix_ret lT2 (.of fun j hj => by simp (discharger := omega) [hw.none (i := j) (by omega)]) (by (repeat (refine HasPow.put ?_ (by omega) _)); exact hp) (by (repeat (refine HasErrs.put ?_ (by omega) _)); exact he) (by omega)) ?_
                rw [z1, z2, z3]
                simp -dsimp (discharger := omega) [leavesEq, leafEq]
                with_reducible refine call_ret (tells_ret (.of fun j hj => by simp (discharger := omega) [hw.none (i := j) (by omega)]) (by (repeat (refine HasPow.put ?_ (by omega) _)); exact hp) (by (repeat (refine HasErrs.put ?_ (by omega) _)); exact he) (by omega)) ?_
                simp -dsimp (discharger := omega) []
              · obtain ⟨u1, u2⟩ := pf_none f0
                rw [u1, u2] at z1 z2 z3 lT2 ⊢
                simp -dsimp (discharger := omega) [leavesEq, leafEq, aFill]
                with_reducible refine call_ret (ptext_ret (a := 0) (by omega) 0 (by omega) (by omega) (.of fun j hj => by simp (discharger := omega) [hw.none (i := j) (by omega)]) (by (repeat (refine HasPow.put ?_ (by omega) _)); exact hp) (by omega)) ?_
                simp -dsimp (discharger := omega) []
                with_reducible refine call_ret (parsePrefix_ret lT2 (.of fun j hj => by simp (discharger := omega) [hw.none (i := j) (by omega)]) (by (repeat (refine HasPow.put ?_ (by omega) _)); exact hp) (by (repeat (refine HasErrs.put ?_ (by omega) _)); exact he) (by omega)) ?_
                rw [z1, z2, z3]
                simp -dsimp (discharger := omega) []
                with_reducible refine call_ret (tells_ret (.of fun j hj => by simp (discharger := omega) [hw.none (i := j) (by omega)]) (by (repeat (refine HasPow.put ?_ (by omega) _)); exact hp) (by (repeat (refine HasErrs.put ?_ (by omega) _)); exact he) (by omega)) ?_
                simp -dsimp (discharger := omega) []
          · have e30 : (if (30 : Int) < (s.length : Int) then (30 : Int) else (s.length : Int)) = 30 := by split <;> omega
            simp -dsimp (discharger := omega) [e30]
            have ht : (s.take 30).length ≤ 30 := by rw [List.length_take]; omega
            generalize s.take 30 = t at *
            with_reducible refine call_ret (parse_ret (s := t) (by omega) (.of fun j hj => by simp (discharger := omega) [hw.none (i := j) (by omega)]) (by (repeat (refine HasPow.put ?_ (by omega) _)); exact hp) (by (repeat (refine HasErrs.put ?_ (by omega) _)); exact he) (by omega)) ?_
            simp -dsimp (discharger := omega) []
            with_reducible refine call_ret (parsePrefix_ret (s := t) (by omega) (.of fun j hj => by simp (discharger := omega) [hw.none (i := j) (by omega)]) (by (repeat (refine HasPow.put ?_ (by omega) _)); exact hp) (by (repeat (refine HasErrs.put ?_ (by omega) _)); exact he) (by omega)) ?_
            have hb1 := pfBits_le t
            have hi1 := pfIp_lt t
            have hn1 := ipN_lt t
            have hbk := pf_back hi1 hb1
            rw [pf_again] at hbk
            obtain ⟨z1, z2, z3⟩ := hbk
            have lT2 : (pfT (pfIp t) ((pfBits t : Nat) : Int)).length < 100000 := pfT_len hi1 hb1
            by_cases g0 : ipE t = 0
            · have hsame := ip_same g0
              rw [g0]
              by_cases f0 : pfE t = 0
              · rw [f0]
                simp -dsimp (discharger := omega) []
                with_reducible refine call_ret (text_ret hn1 (.of fun j hj => by simp (discharger := omega) [hw.none (i := j) (by omega)]) (by (repeat (refine HasPow.put ?_ (by omega) _)); exact hp) (by omega)) ?_
                rw [hsame]
                simp -dsimp (discharger := omega) []
                with_reducible refine call_ret (ptext_ret hi1 ((pfBits t : Nat) : Int) (by omega) (by omega) (.of fun j hj => by simp (discharger := omega) [hw.none (i := j) (by omega)]) (by (repeat (refine HasPow.put ?_ (by omega) _)); exact hp) (by omega)) ?_
                simp -dsimp (discharger := omega) []
                with_reducible refine call_ret (parsePrefix_ret lT2 (.of fun j hj => by simp (discharger := omega) [hw.none (i := j) (by omega)]) (by (repeat (refine HasPow.put ?_ (by omega) _)); exact hp) (by (repeat (refine HasErrs.put ?_ (by omega) _)); exact he) (by omega)) ?_
                rw [z1, z2, z3]
                simp -dsimp (discharger := omega) [leavesEq, leafEq]
                with_reducible refine call_ret (tells_ret (.of fun j hj => by simp (discharger := omega) [hw.none (i := j) (by omega)]) (by (repeat (refine HasPow.put ?_ (by omega) _)); exact hp) (by (repeat (refine HasErrs.put ?_ (by omega) _)); exact he) (by omega)) ?_
                simp -dsimp (discharger := omega) []
              · obtain ⟨u1, u2⟩ := pf_none f0
                rw [u1, u2] at z1 z2 z3 lT2 ⊢
                simp -dsimp (discharger := omega) []
                with_reducible refine call_ret (text_ret hn1 (.of fun j hj => by simp (discharger := omega) [hw.none (i := j) (by omega)]) (by (repeat (refine HasPow.put ?_ (by omega) _)); exact hp) (by omega)) ?_
                rw [hsame]
                simp -dsimp (discharger := omega) [leavesEq, leafEq, aFill]
                with_reducible refine call_ret (ptext_ret (a := 0) (by omega) 0 (by omega) (by omega) (.of fun j hj => by simp (discharger := omega) [hw.none (i := j) (by omega)]) (by (repeat (refine HasPow.put ?_ (by omega) _)); exact hp) (by omega)) ?_
                simp -dsimp (discharger := omega) []
                with_reducible refine call_ret (parsePrefix_ret lT2 (.of fun j hj => by simp (discharger := omega) [hw.none (i := j) (by omega)]) (by (repeat (refine HasPow.put ?_ (by omega) _)); exact hp) (by (repeat (refine HasErrs.put ?_ (by omega) _)); exact he) (by omega)) ?_
                rw [z1, z2, z3]
                simp -dsimp (discharger := omega) []
                with_reducible refine call_ret (tells_ret (.of fun j hj => by simp (discharger := omega) [hw.none (i := j) (by omega)]) (by (repeat (refine HasPow.put ?_ (by omega) _)); exact hp) (by (repeat (refine HasErrs.put ?_ (by omega) _)); exact he) (by omega)) ?_
                simp -dsimp (discharger := omega) []
            · have hn0 := ip_none g0
              rw [hn0]
              by_cases f0 : pfE t = 0
              · rw [f0]
                simp -dsimp (discharger := omega) []
                with_reducible refine call_ret (ptext_ret hi1 ((pfBits t : Nat) : Int) (by omega) (by omega) (.of fun j hj => by simp (discharger := omega) [hw.none (i := j) (by omega)]) (by (repeat (refine HasPow.put ?_ (by omega) _)); exact hp) (by omega)) ?_
                simp -dsimp (discharger := omega) []
                with_reducible refine call_ret (parsePrefix_ret lT2 (.of fun j hj => by simp (discharger := omega) [hw.none (i := j) (by omega)]) (by (repeat (refine HasPow.put ?_ (by omega) _)); exact hp) (by (repeat (refine HasErrs.put ?_ (by omega) _)); exact he) (by omega)) ?_
                rw [z1, z2, z3]
                simp -dsimp (discharger := omega) [leavesEq, leafEq]
                with_reducible refine call_ret (tells_ret (.of fun j hj => by simp (discharger := omega) [hw.none (i := j) (by omega)]) (by (repeat (refine HasPow.put ?_ (by omega) _)); exact hp) (by (repeat (refine HasErrs.put ?_ (by omega) _)); exact he) (by omega)) ?_
                simp -dsimp (discharger := omega) []
              · obtain ⟨u1, u2⟩ := pf_none f0
                rw [u1, u2] at z1 z2 z3 lT2 ⊢
                simp -dsimp (discharger := omega) [leavesEq, leafEq, aFill]
                with_reducible refine call_ret (ptext_ret (a := 0) (by omega) 0 (by omega) (by omega) (.of fun j hj => by simp (discharger := omega) [hw.none (i := j) (by omega)]) (by (repeat (refine HasPow.put ?_ (by omega) _)); exact hp) (by omega)) ?_
                simp -dsimp (discharger := omega) []
                with_reducible refine call_ret (parsePrefix_ret lT2 (.of fun j hj => by simp (discharger := omega) [hw.none (i := j) (by omega)]) (by (repeat (refine HasPow.put ?_ (by omega) _)); exact hp) (by (repeat (refine HasErrs.put ?_ (by omega) _)); exact he) (by omega)) ?_
                rw [z1, z2, z3]
                simp -dsimp (discharger := omega) []
                with_reducible refine call_ret (tells_ret (.of fun j hj => by simp (discharger := omega) [hw.none (i := j) (by omega)]) (by (repeat (refine HasPow.put ?_ (by omega) _)); exact hp) (by (repeat (refine HasErrs.put ?_ (by omega) _)); exact he) (by omega)) ?_
                simp -dsimp (discharger := omega) []
    | false =>
      rw [hH] at hsh heq
      have k0 : ¬ k = 0 := fun e => by rw [hz0 e] at hH; cases hH
      by_cases k32 : k < 32
      · simp -dsimp (discharger := omega) [hsh, aFill]
        have hC : hasB a ((k : Int) + 1) b = false := by
          rw [Bool.eq_false_iff]
          intro e
          rw [has_close hk e] at hH; cases hH
        with_reducible refine call_ret (has_ret ha hb (k : Int) (by omega) (by omega) (.of fun j hj => by simp (discharger := omega) [hw.none (i := j) (by omega)])) ?_
        rw [hH]
        simp -dsimp (discharger := omega) []
        with_reducible refine call_ret (has_ret ha hb ((k : Int) + 1) (by omega) (by omega) (.of fun j hj => by simp (discharger := omega) [hw.none (i := j) (by omega)])) ?_
        rw [hC]
        by_cases h30 : s.length < 30
        · simp -dsimp (discharger := omega) []
          with_reducible refine call_ret (parse_ret (s := s) (by omega) (.of fun j hj => by simp (discharger := omega) [hw.none (i := j) (by omega)]) (by (repeat (refine HasPow.put ?_ (by omega) _)); exact hp) (by (repeat (refine HasErrs.put ?_ (by omega) _)); exact he) (by omega)) ?_
          simp -dsimp (discharger := omega) []
          with_reducible refine call_ret (parsePrefix_ret (s := s) (by omega) (.of fun j hj => by simp (discharger := omega) [hw.none (i := j) (by omega)]) (by (repeat (refine HasPow.put ?_ (by omega) _)); exact hp) (by (repeat (refine HasErrs.put ?_ (by omega) _)); exact he) (by omega)) ?_
          have hb1 := pfBits_le s
          have hi1 := pfIp_lt s
          have hn1 := ipN_lt s
          have hbk := pf_back hi1 hb1
          rw [pf_again] at hbk
          obtain ⟨z1, z2, z3⟩ := hbk
          have lT2 : (pfT (pfIp s) ((pfBits s : Nat) : Int)).length < 100000 := pfT_len hi1 hb1
          by_cases g0 : ipE s = 0
          · have hsame := ip_same g0
            rw [g0]
            by_cases f0 : pfE s = 0
            · rw [f0]
              simp -dsimp (discharger := omega) []
              with_reducible refine call_ret (text_ret hn1 (.of fun j hj => by simp (discharger := omega) [hw.none (i := j) (by omega)]) (by (repeat (refine HasPow.put ?_ (by omega) _)); exact hp) (by omega)) ?_
              rw [hsame]
              simp -dsimp (discharger := omega) []
              with_reducible refine call_ret (ptext_ret hi1 ((pfBits s : Nat) : Int) (by omega) (by omega) (.of fun j hj => by simp (discharger := omega) [hw.none (i := j) (by omega)]) (by (repeat (refine HasPow.put ?_ (by omega) _)); exact hp) (by omega)) ?_
              simp -dsimp (discharger := omega) []
              with_reducible refine call_ret (parsePrefix_ret lT2 (.of fun j hj => by simp (discharger := omega) [hw.none (i := j) (by omega)]) (by (repeat (refine HasPow.put ?_ (by omega) _)); exact hp) (by (repeat (refine HasErrs.put ?_ (by omega) _)); exact he) (by omega)) ?_
              rw [z1, z2, z3]
              simp -dsimp (discharger := omega) [leavesEq, leafEq]
              with_reducible refine call_ret (tells_ret (.of fun j hj => by simp (discharger := omega) [hw.none (i := j) (by omega)]) (by (repeat (refine HasPow.put ?_ (by omega) _)); exact hp) (by (repeat (refine HasErrs.put ?_ (by omega) _)); exact he) (by omega)) ?_
              simp -dsimp (discharger := omega) []
            · obtain ⟨u1, u2⟩ := pf_none f0
              rw [u1, u2] at z1 z2 z3 lT2 ⊢
              simp -dsimp (discharger := omega) []
              with_reducible refine call_ret (text_ret hn1 (.of fun j hj => by simp (discharger := omega) [hw.none (i := j) (by omega)]) (by (repeat (refine HasPow.put ?_ (by omega) _)); exact hp) (by omega)) ?_
              rw [hsame]
              simp -dsimp (discharger := omega) [leavesEq, leafEq, aFill]
              with_reducible refine call_ret (ptext_ret (a := 0) (by omega) 0 (by omega) (by omega) (.of fun j hj => by simp (discharger := omega) [hw.none (i := j) (by omega)]) (by (repeat (refine HasPow.put ?_ (by omega) _)); exact hp) (by omega)) ?_
              simp -dsimp (discharger := omega) []
              with_reducible refine call_ret (parsePrefix_ret lT2 (.of fun j hj => by simp (discharger := omega) [hw.none (i := j) (by omega)]) (by (repeat (refine HasPow.put ?_ (by omega) _)); exact hp) (by (repeat (refine HasErrs.put ?_ (by omega) _)); exact he) (by omega)) ?_
              rw [z1, z2, z3]
              simp -dsimp (discharger := omega) []
              with_reducible refine call_ret (tells_ret (.of fun j hj => by simp (discharger := omega) [hw.none (i := j) (by omega)]) (by (repeat (refine HasPow.put ?_ (by omega) _)); exact hp) (by (repeat (refine HasErrs.put ?_ (by omega) _)); exact he) (by omega)) ?_
              simp -dsimp (discharger := omega) []
          · have hn0 := ip_none g0
            rw [hn0]
            by_cases f0 : pfE s = 0
            · rw [f0]
              simp -dsimp (discharger := omega) []
              with_reducible refine call_ret (ptext_ret hi1 ((pfBits s : Nat) : Int) (by omega) (by omega) (.of fun j hj => by simp (discharger := omega) [hw.none (i := j) (by omega)]) (by (repeat (refine HasPow.put ?_ (by omega) _)); exact hp) (by omega)) ?_
              simp -dsimp (discharger := omega) []
              with_reducible refine call_ret (parsePrefix_ret lT2 (.of fun j hj => by simp (discharger := omega) [hw.none (i := j) (by omega)]) (by (repeat (refine HasPow.put ?_ (by omega) _)); exact hp) (by (repeat (refine HasErrs.put ?_ (by omega) _)); exact he) (by omega)) ?_
              rw [z1, z2, z3]
              simp -dsimp (discharger := omega) [leavesEq, leafEq]
              with_reducible refine call_ret (tells_ret (.of fun j hj => by simp (discharger := omega) [hw.none (i := j) (by omega)]) (by (repeat (refine HasPow.put ?_ (by omega) _)); exact hp) (by (repeat (refine HasErrs.put ?_ (by omega) _)); exact he) (by omega)) ?_
              simp -dsimp (discharger := omega) []
            · obtain ⟨u1, u2⟩ := pf_none f0
              rw [u1, u2] at z1 z2 z3 lT2 ⊢
              simp -dsimp (discharger := omega) [leavesEq, leafEq, aFill]
              with_reducible refine call_ret (ptext_ret (a := 0) (by omega) 0 (by omega) (by omega) (.of fun j hj => by simp (discharger := omega) [hw.none (i := j) (by omega)]) (by (repeat (refine HasPow.put ?_ (by omega) _)); exact hp) (by omega)) ?_
              simp -dsimp (discharger := omega) []
              with_reducible refine call_ret (parsePrefix_ret lT2 (.of fun j hj => by simp (discharger := omega) [hw.none (i := j) (by omega)]) (by (repeat (refine HasPow.put ?_ (by omega) _)); exact hp) (by (repeat (refine HasErrs.put ?_ (by omega) _)); exact he) (by omega)) ?_
              rw [z1, z2, z3]
              simp -dsimp (discharger := omega) []
              with_reducible refine call_ret (tells_ret (.of fun j hj => by simp (discharger := omega) [hw.none (i := j) (by omega)]) (by (repeat (refine HasPow.put ?_ (by omega) _)); exact hp) (by (repeat (refine HasErrs.put ?_ (by omega) _)); exact he) (by omega)) ?_
              simp -dsimp (discharger := omega) []
        · have e30 : (if (30 : Int) < (s.length : Int) then (30 : Int) else (s.length : Int)) = 30 := by split <;> omega
          simp -dsimp (discharger := omega) [e30]
          have ht : (s.take 30).length ≤ 30 := by rw [List.length_take]; omega
          generalize s.take 30 = t at *
          with_reducible refine call_ret (parse_ret (s := t) (by omega) (.of fun j hj => by simp (discharger := omega) [hw.none (i := j) (by omega)]) (by (repeat (refine HasPow.put ?_ (by omega) _)); exact hp) (by (repeat (refine HasErrs.put ?_ (by omega) _)); exact he) (by omega)) ?_
          simp -dsimp (discharger := omega) []
          with_reducible refine call_ret (parsePrefix_ret (s := t) (by omega) (.of fun j hj => by simp (discharger := omega) [hw.none (i := j) (by omega)]) (by (repeat (refine HasPow.put ?_ (by omega) _)); exact hp) (by (repeat (refine HasErrs.put ?_ (by omega) _)); exact he) (by omega)) ?_
          have hb1 := pfBits_le t
          have hi1 := pfIp_lt t
          have hn1 := ipN_lt t
          have hbk := pf_back hi1 hb1
          rw [pf_again] at hbk
          obtain ⟨z1, z2, z3⟩ := hbk
          have lT2 : (pfT (pfIp t) ((pfBits t : Nat) : Int)).length < 100000 := pfT_len hi1 hb1
          by_cases g0 : ipE t = 0
          · have hsame := ip_same g0
            rw [g0]
            by_cases f0 : pfE t = 0
            · rw [f0]
              simp -dsimp (discharger := omega) []
              with_reducible refine call_ret (text_ret hn1 (.of fun j hj => by simp (discharger := omega) [hw.none (i := j) (by omega)]) (by (repeat (refine HasPow.put ?_ (by omega) _)); exact hp) (by omega)) ?_
              rw [hsame]
              simp -dsimp (discharger := omega) []
              with_reducible refine call_ret (ptext_ret hi1 ((pfBits t : Nat) : Int) (by omega) (by omega) (.of fun j hj => by simp (discharger := omega) [hw.none (i := j) (by omega)]) (by (repeat (refine HasPow.put ?_ (by omega) _)); exact hp) (by omega)) ?_
              simp -dsimp (discharger := omega) []
              with_reducible refine call_ret (parsePrefix_ret lT2 (.of fun j hj => by simp (discharger := omega) [hw.none (i := j) (by omega)]) (by (repeat (refine HasPow.put ?_ (by omega) _)); exact hp) (by (repeat (refine HasErrs.put ?_ (by omega) _)); exact he) (by omega)) ?_
              rw [z1, z2, z3]
              simp -dsimp (discharger := omega) [leavesEq, leafEq]
              with_reducible refine call_ret (tells_ret (.of fun j hj => by simp (discharger := omega) [hw.none (i := j) (by omega)]) (by (repeat (refine HasPow.put ?_ (by omega) _)); exact hp) (by (repeat (refine HasErrs.put ?_ (by omega) _)); exact he) (by omega)) ?_
              simp -dsimp (discharger := omega) []
            · obtain ⟨u1, u2⟩ := pf_none f0
              rw [u1, u2] at z1 z2 z3 lT2 ⊢
              simp -dsimp (discharger := omega) []
              with_reducible refine call_ret (text_ret hn1 (.of fun j hj => by simp (discharger := omega) [hw.none (i := j) (by omega)]) (by (repeat (refine HasPow.put ?_ (by omega) _)); exact hp) (by omega)) ?_
              rw [hsame]
              simp -dsimp (discharger := omega) [leavesEq, leafEq, aFill]
              with_reducible refine call_ret (ptext_ret (a := 0) (by omega) 0 (by omega) (by omega) (.of fun j hj => by simp (discharger := omega) [hw.none (i := j) (by omega)]) (by (repeat (refine HasPow.put ?_ (by omega) _)); exact hp) (by omega)) ?_
              simp -dsimp (discharger := omega) []
              with_reducible refine call_ret (parsePrefix_ret lT2 (.of fun j hj => by simp (discharger := omega) [hw.none (i := j) (by omega)]) (by (repeat (refine HasPow.put ?_ (by omega) _)); exact hp) (by (repeat (refine HasErrs.put ?_ (by omega) _)); exact he) (by omega)) ?_
              rw [z1, z2, z3]
              simp -dsimp (discharger := omega) []
              with_reducible refine call_ret (tells_ret (.of fun j hj => by simp (discharger := omega) [hw.none (i := j) (by omega)]) (by (repeat (refine HasPow.put ?_ (by omega) _)); exact hp) (by (repeat (refine HasErrs.put ?_ (by omega) _)); exact he) (by omega)) ?_
              simp -dsimp (discharger := omega) []
          · have hn0 := ip_none g0
            rw [hn0]
            by_cases f0 : pfE t = 0
            · rw [f0]
              simp -dsimp (discharger := omega) []
              with_reducible refine call_ret (ptext_ret hi1 ((pfBits t : Nat) : Int) (by omega) (by omega) (.of fun j hj => by simp (discharger := omega) [hw.none (i := j) (by omega)]) (by (repeat (refine HasPow.put ?_ (by omega) _)); exact hp) (by omega)) ?_
              simp -dsimp (discharger := omega) []
              with_reducible refine call_ret (parsePrefix_ret lT2 (.of fun j hj => by simp (discharger := omega) [hw.none (i := j) (by omega)]) (by (repeat (refine HasPow.put ?_ (by omega) _)); exact hp) (by (repeat (refine HasErrs.put ?_ (by omega) _)); exact he) (by omega)) ?_
              rw [z1, z2, z3]
              simp -dsimp (discharger := omega) [leavesEq, leafEq]
              with_reducible refine call_ret (tells_ret (.of fun j hj => by simp (discharger := omega) [hw.none (i := j) (by omega)]) (by (repeat (refine HasPow.put ?_ (by omega) _)); exact hp) (by (repeat (refine HasErrs.put ?_ (by omega) _)); exact he) (by omega)) ?_
              simp -dsimp (discharger := omega) []
            · obtain ⟨u1, u2⟩ := pf_none f0
              rw [u1, u2] at z1 z2 z3 lT2 ⊢
              simp -dsimp (discharger := omega) [leavesEq, leafEq, aFill]
              with_reducible refine call_ret (ptext_ret (a := 0) (by omega) 0 (by omega) (by omega) (.of fun j hj => by simp (discharger := omega) [hw.none (i := j) (by omega)]) (by (repeat (refine HasPow.put ?_ (by omega) _)); exact hp) (by omega)) ?_
              simp -dsimp (discharger := omega) []
              with_reducible refine call_ret (parsePrefix_ret lT2 (.of fun j hj => by simp (discharger := omega) [hw.none (i := j) (by omega)]) (by (repeat (refine HasPow.put ?_ (by omega) _)); exact hp) (by (repeat (refine HasErrs.put ?_ (by omega) _)); exact he) (by omega)) ?_
              rw [z1, z2, z3]
              simp -dsimp (discharger := omega) []
              with_reducible refine call_ret (tells_ret (.of fun j hj => by simp (discharger := omega) [hw.none (i := j) (by omega)]) (by (repeat (refine HasPow.put ?_ (by omega) _)); exact hp) (by (repeat (refine HasErrs.put ?_ (by omega) _)); exact he) (by omega)) ?_
              simp -dsimp (discharger := omega) []
      · have heq := heq (by omega)
        simp -dsimp (discharger := omega) [heq, aFill]
        have hC : hasB a ((k : Int) + 1) b = false := by
          rw [Bool.eq_false_iff]
          intro e
          rw [has_close hk e] at hH; cases hH
        with_reducible refine call_ret (has_ret ha hb (k : Int) (by omega) (by omega) (.of fun j hj => by simp (discharger := omega) [hw.none (i := j) (by omega)])) ?_
        rw [hH]
        simp -dsimp (discharger := omega) []
        with_reducible refine call_ret (has_ret ha hb ((k : Int) + 1) (by omega) (by omega) (.of fun j hj => by simp (discharger := omega) [hw.none (i := j) (by omega)])) ?_
        rw [hC]
        by_cases h30 : s.length < 30
        · simp -dsimp (discharger := omega) []
          with_reducible refine call_ret (parse_ret (s := s) (by omega) (.of fun j hj => by simp (discharger := omega) [hw.none (i := j) (by omega)]) (by (repeat (refine HasPow.put ?_ (by omega) _)); exact hp) (by (repeat (refine HasErrs.put ?_ (by omega) _)); exact he) (by omega)) ?_
          simp -dsimp (discharger := omega) []
          with_reducible refine call_ret (parsePrefix_ret (s := s) (by omega) (.of fun j hj => by simp (discharger := omega) [hw.none (i := j) (by omega)]) (by (repeat (refine HasPow.put ?_ (by omega) _)); exact hp) (by (repeat (refine HasErrs.put ?_ (by omega) _)); exact he) (by omega)) ?_
          have hb1 := pfBits_le s
          have hi1 := pfIp_lt s
          have hn1 := ipN_lt s
          have hbk := pf_back hi1 hb1
          rw [pf_again] at hbk
          obtain ⟨z1, z2, z3⟩ := hbk
          have lT2 : (pfT (pfIp s) ((pfBits s : Nat) : Int)).length < 100000 := pfT_len hi1 hb1
          by_cases g0 : ipE s = 0
          · have hsame := ip_same g0
            rw [g0]
            by_cases f0 : pfE s = 0
            · rw [f0]
              simp -dsimp (discharger := omega) []
              with_reducible refine call_ret (text_ret hn1 (.of fun j hj => by simp (discharger := omega) [hw.none (i := j) (by omega)]) (by (repeat (refine HasPow.put ?_ (by omega) _)); exact hp) (by omega)) ?_
              rw [hsame]
              simp -dsimp (discharger := omega) []
              with_reducible refine call_ret (ptext_ret hi1 ((pfBits s : Nat) : Int) (by omega) (by omega) (.of fun j hj => by simp (discharger := omega) [hw.none (i := j) (by omega)]) (by (repeat (refine HasPow.put ?_ (by omega) _)); exact hp) (by omega)) ?_
              simp -dsimp (discharger := omega) []
              with_reducible refine call_ret (parsePrefix_ret lT2 (.of fun j hj => by simp (discharger := omega) [hw.none (i := j) (by omega)]) (by (repeat (refine HasPow.put ?_ (by omega) _)); exact hp) (by (repeat (refine HasErrs.put ?_ (by omega) _)); exact he) (by omega)) ?_
              rw [z1, z2, z3]
              simp -dsimp (discharger := omega) [leavesEq, leafEq]
              with_reducible refine call_ret (tells_ret (.of fun j hj => by simp (discharger := omega) [hw.none (i := j) (by omega)]) (by (repeat (refine HasPow.put ?_ (by omega) _)); exact hp) (by (repeat (refine HasErrs.put ?_ (by omega) _)); exact he) (by omega)) ?_
              simp -dsimp (discharger := omega) []
            · obtain ⟨u1, u2⟩ := pf_none f0
              rw [u1, u2] at z1 z2 z3 lT2 ⊢
              simp -dsimp (discharger := omega) []
              with_reducible refine call_ret (text_ret hn1 (.of fun j hj => by simp (discharger := omega) [hw.none (i := j) (by omega)]) (by (repeat (refine HasPow.put ?_ (by omega) _)); exact hp) (by omega)) ?_
              rw [hsame]
              simp -dsimp (discharger := omega) [leavesEq, leafEq, aFill]
              with_reducible refine call_ret (ptext_ret (a := 0) (by omega) 0 (by omega) (by omega) (.of fun j hj => by simp (discharger := omega) [hw.none (i := j) (by omega)]) (by (repeat (refine HasPow.put ?_ (by omega) _)); exact hp) (by omega)) ?_
              simp -dsimp (discharger := omega) []
              with_reducible refine call_ret (parsePrefix_ret lT2 (.of fun j hj => by simp (discharger := omega) [hw.none (i := j) (by omega)]) (by (repeat (refine HasPow.put ?_ (by omega) _)); exact hp) (by (repeat (refine HasErrs.put ?_ (by omega) _)); exact he) (by omega)) ?_
              rw [z1, z2, z3]
              simp -dsimp (discharger := omega) []
              with_reducible refine call_ret (tells_ret (.of fun j hj => by simp (discharger := omega) [hw.none (i := j) (by omega)]) (by (repeat (refine HasPow.put ?_ (by omega) _)); exact hp) (by (repeat (refine HasErrs.put ?_ (by omega) _)); exact he) (by omega)) ?_
              simp -dsimp (discharger := omega) []
          · have hn0 := ip_none g0
            rw [hn0]
            by_cases f0 : pfE s = 0
            · rw [f0]
              simp -dsimp (discharger := omega) []
              with_reducible refine call_ret (ptext_ret hi1 ((pfBits s : Nat) : Int) (by omega) (by omega) (.of fun j hj => by simp (discharger := omega) [hw.none (i := j) (by omega)]) (by (repeat (refine HasPow.put ?_ (by omega) _)); exact hp) (by omega)) ?_
              simp -dsimp (discharger := omega) []
              with_reducible refine call_ret (parsePrefix_ret lT2 (.of fun j hj => by simp (discharger := omega) [hw.none (i := j) (by omega)]) (by (repeat (refine HasPow.put ?_ (by omega) _)); exact hp) (by (repeat (refine HasErrs.put ?_ (by omega) _)); exact he) (by omega)) ?_
              rw [z1, z2, z3]
              simp -dsimp (discharger := omega) [leavesEq, leafEq]
              with_reducible refine call_ret (tells_ret (.of fun j hj => by simp (discharger := omega) [hw.none (i := j) (by omega)]) (by (repeat (refine HasPow.put ?_ (by omega) _)); exact hp) (by (repeat (refine HasErrs.put ?_ (by omega) _)); exact he) (by omega)) ?_
              simp -dsimp (discharger := omega) []
            · obtain ⟨u1, u2⟩ := pf_none f0
              rw [u1, u2] at z1 z2 z3 lT2 ⊢
              simp -dsimp (discharger := omega) [leavesEq, leafEq, aFill]
              with_reducible refine call_ret (ptext_ret (a := 0) (by omega) 0 (by omega) (by omega) (.of fun j hj => by simp (discharger := omega) [hw.none (i := j) (by omega)]) (by (repeat (refine HasPow.put ?_ (by omega) _)); exact hp) (by omega)) ?_
              simp -dsimp (discharger := omega) []
              with_reducible refine call_ret (parsePrefix_ret lT2 (.of fun j hj => by simp (discharger := omega) [hw.none (i := j) (by omega)]) (by (repeat (refine HasPow.put ?_ (by omega) _)); exact hp) (by (repeat (refine HasErrs.put ?_ (by omega) _)); exact he) (by omega)) ?_
              rw [z1, z2, z3]
              simp -dsimp (discharger := omega) []
              with_reducible refine call_ret (tells_ret (.of fun j hj => by simp (discharger := omega) [hw.none (i := j) (by omega)]) (by (repeat (refine HasPow.put ?_ (by omega) _)); exact hp) (by (repeat (refine HasErrs.put ?_ (by omega) _)); exact he) (by omega)) ?_
              simp -dsimp (discharger := omega) []
        · have e30 : (if (30 : Int) < (s.length : Int) then (30 : Int) else (s.length : Int)) = 30 := by split <;> omega
          simp -dsimp (discharger := omega) [e30]
          have ht : (s.take 30).length ≤ 30 := by rw [List.length_take]; omega
          generalize s.take 30 = t at *
          with_reducible refine call_ret (parse_ret (s := t) (by omega) (.of fun j hj => by simp (discharger := omega) [hw.none (i := j) (by omega)]) (by (repeat (refine HasPow.put ?_ (by omega) _)); exact hp) (by (repeat (refine HasErrs.put ?_ (by omega) _)); exact he) (by omega)) ?_
          simp -dsimp (discharger := omega) []
          with_reducible refine call_ret (parsePrefix_ret (s := t) (by omega) (.of fun j hj => by simp (discharger := omega) [hw.none (i := j) (by omega)]) (by (repeat (refine HasPow.put ?_ (by omega) _)); exact hp) (by (repeat (refine HasErrs.put ?_ (by omega) _)); exact he) (by omega)) ?_
          have hb1 := pfBits_le t
          have hi1 := pfIp_lt t
          have hn1 := ipN_lt t
          have hbk := pf_back hi1 hb1
          rw [pf_again] at hbk
          obtain ⟨z1, z2, z3⟩ := hbk
          have lT2 : (pfT (pfIp t) ((pfBits t : Nat) : Int)).length < 100000 := pfT_len hi1 hb1
          by_cases g0 : ipE t = 0
          · have hsame := ip_same g0
            rw [g0]
            by_cases f0 : pfE t = 0
            · rw [f0]
              simp -dsimp (discharger := omega) []
              with_reducible refine call_ret (text_ret hn1 (.of fun j hj => by simp (discharger := omega) [hw.none (i := j) (by omega)]) (by (repeat (refine HasPow.put ?_ (by omega) _)); exact hp) (by omega)) ?_
              rw [hsame]
              simp -dsimp (discharger := omega) []
              with_reducible refine call_ret (ptext_ret hi1 ((pfBits t : Nat) : Int) (by omega) (by omega) (.of fun j hj => by simp (discharger := omega) [hw.none (i := j) (by omega)]) (by (repeat (refine HasPow.put ?_ (by omega) _)); exact hp) (by omega)) ?_
              simp -dsimp (discharger := omega) []
              with_reducible refine call_ret (parsePrefix_ret lT2 (.of fun j hj => by simp (discharger := omega) [hw.none (i := j) (by omega)]) (by (repeat (refine HasPow.put ?_ (by omega) _)); exact hp) (by (repeat (refine HasErrs.put ?_ (by omega) _)); exact he) (by omega)) ?_
              rw [z1, z2, z3]
              simp -dsimp (discharger := omega) [leavesEq, leafEq]
              with_reducible refine call_ret (tells_ret (.of fun j hj => by simp (discharger := omega) [hw.none (i := j) (by omega)]) (by (repeat (refine HasPow.put ?_ (by omega) _)); exact hp) (by (repeat (refine HasErrs.put ?_ (by omega) _)); exact he) (by omega)) ?_
              simp -dsimp (discharger := omega) []
            · obtain ⟨u1, u2⟩ := pf_none f0
              rw [u1, u2] at z1 z2 z3 lT2 ⊢
              simp -dsimp (discharger := omega) []
              with_reducible refine call_ret (text_ret hn1 (.of fun j hj => by simp (discharger := omega) [hw.none (i := j) (by omega)]) (by (repeat (refine HasPow.put ?_ (by omega) _)); exact hp) (by omega)) ?_
              rw [hsame]
              simp -dsimp (discharger := omega) [leavesEq, leafEq, aFill]
              with_reducible refine call_ret (ptext_ret (a := 0) (by omega) 0 (by omega) (by omega) (.of fun j hj => by simp (discharger := omega) [hw.none (i := j) (by omega)]) (by (repeat (refine HasPow.put ?_ (by omega) _)); exact hp) (by omega)) ?_
              simp -dsimp (discharger := omega) []
              with_reducible refine call_ret (parsePrefix_ret lT2 (.of fun j hj => by simp (discharger := omega) [hw.none (i := j) (by omega)]) (by (repeat (refine HasPow.put ?_ (by omega) _)); exact hp) (by (repeat (refine HasErrs.put ?_ (by omega) _)); exact he) (by omega)) ?_
              rw [z1, z2, z3]
              simp -dsimp (discharger := omega) []
              with_reducible refine call_ret (tells_ret (.of fun j hj => by simp (discharger := omega) [hw.none (i := j) (by omega)]) (by (repeat (refine HasPow.put ?_ (by omega) _)); exact hp) (by (repeat (refine HasErrs.put ?_ (by omega) _)); exact he) (by omega)) ?_
              simp -dsimp (discharger := omega) []
          · have hn0 := ip_none g0
            rw [hn0]
            by_cases f0 : pfE t = 0
            · rw [f0]
              simp -dsimp (discharger := omega) []
              with_reducible refine call_ret (ptext_ret hi1 ((pfBits t : Nat) : Int) (by omega) (by omega) (.of fun j hj => by simp (discharger := omega) [hw.none (i := j) (by omega)]) (by (repeat (refine HasPow.put ?_ (by omega) _)); exact hp) (by omega)) ?_
              simp -dsimp (discharger := omega) []
              with_reducible refine call_ret (parsePrefix_ret lT2 (.of fun j hj => by simp (discharger := omega) [hw.none (i := j) (by omega)]) (by (repeat (refine HasPow.put ?_ (by omega) _)); exact hp) (by (repeat (refine HasErrs.put ?_ (by omega) _)); exact he) (by omega)) ?_
              rw [z1, z2, z3]
              simp -dsimp (discharger := omega) [leavesEq, leafEq]
              with_reducible refine call_ret (tells_ret (.of fun j hj => by simp (discharger := omega) [hw.none (i := j) (by omega)]) (by (repeat (refine HasPow.put ?_ (by omega) _)); exact hp) (by (repeat (refine HasErrs.put ?_ (by omega) _)); exact he) (by omega)) ?_
              simp -dsimp (discharger := omega) []
            · obtain ⟨u1, u2⟩ := pf_none f0
              rw [u1, u2] at z1 z2 z3 lT2 ⊢
              simp -dsimp (discharger := omega) [leavesEq, leafEq, aFill]
              with_reducible refine call_ret (ptext_ret (a := 0) (by omega) 0 (by omega) (by omega) (.of fun j hj => by simp (discharger := omega) [hw.none (i := j) (by omega)]) (by (repeat (refine HasPow.put ?_ (by omega) _)); exact hp) (by omega)) ?_
              simp -dsimp (discharger := omega) []
              with_reducible refine call_ret (parsePrefix_ret lT2 (.of fun j hj => by simp (discharger := omega) [hw.none (i := j) (by omega)]) (by (repeat (refine HasPow.put ?_ (by omega) _)); exact hp) (by (repeat (refine HasErrs.put ?_ (by omega) _)); exact he) (by omega)) ?_
              rw [z1, z2, z3]
              simp -dsimp (discharger := omega) []
              with_reducible refine call_ret (tells_ret (.of fun j hj => by simp (discharger := omega) [hw.none (i := j) (by omega)]) (by (repeat (refine HasPow.put ?_ (by omega) _)); exact hp) (by (repeat (refine HasErrs.put ?_ (by omega) _)); exact he) (by omega)) ?_
              simp -dsimp (discharger := omega) []
  exact goal
end
end Go.Proofs.YtiemkafpijhlmaaDoor.Am
