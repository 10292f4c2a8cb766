/- Contracts of the program's functions (X2). -/
import Derived.Test.YtiemkafpijhlmaaDoorX1
namespace Go.Proofs.YtiemkafpijhlmaaDoor.Am
noncomputable section
/- CONTRACTS of the document: addresses and prefixes of texts. -/
theorem rparse_ret {s : List UInt8} (hs : s.length < 100000) {h : AHeap} {n : Nat} : Ret EV06 10 [.string ⟨s.toArray⟩] h n (.tuple #[.int .u32 ((ipN s : Nat) : Int), .int .i64 ((ipE s : Nat) : Int)]) [] n := by
  refine rsx10 (by simp) (by simp) ?_
  unfold ipN ipE
  simp -dsimp (discharger := omega) [B10]
  refine loop_use (d1_loop hs (h0 := h) (n0 := n) 4 [(0, .string ⟨s.toArray⟩), (4, .int .i64 ((0 : Nat) : Int)), (5, .int .i64 ((0 : Nat) : Int)), (6, .int .i64 ((0 : Nat) : Int))] h n ⟨rfl, rfl, 0, 0, 0, rfl, by omega, by decide, .inl ⟨rfl, rfl, rfl⟩, rfl⟩) (by simp) (.refl _) ?_
  rintro e σ' h' n' ⟨rfl, rfl, ⟨rfl, hO, g2, g3⟩ | ⟨rfl, at', a, hat, ha, hO, g0, g4, g5⟩⟩
  · rw [hO]
    simp -dsimp (discharger := omega) [g2, g3]
    exact .refl _
  · by_cases e : at' = s.length
    · rw [if_pos e] at hO
      rw [hO]
      simp -dsimp (discharger := omega) [g0, g4, g5]
      exact .refl _
    · rw [if_neg e] at hO
      rw [hO]
      simp -dsimp (discharger := omega) [g0, g4]
      exact .refl _
theorem idx_at {c : UInt8} : ∀ {s : List UInt8} {i : Nat}, (∀ x, x ∈ s.take i → ¬ x = c) → s[i]? = some c → Lib.indexByte s c = (i : Int)
  | [], i, _, h => by simp at h
  | x :: s, 0, _, h => by
    simp at h; subst h
    simp [Lib.indexByte]
  | x :: s, i + 1, hn, h => by
    have hx : (x == c) = false := beq_eq_false_iff_ne.2 (hn x (by simp))
    have ih := idx_at (s := s) (i := i) (c := c) (fun y hy => hn y (by simp [hy])) (by simpa using h)
    simp only [Lib.indexByte, hx, ih]
    rw [if_neg (by simp), if_neg (by simp)]
    rfl
theorem idx_no {c : UInt8} : ∀ {s : List UInt8}, (∀ x, x ∈ s → ¬ x = c) → Lib.indexByte s c = -1
  | [], _ => rfl
  | x :: s, hn => by
    have hx : (x == c) = false := beq_eq_false_iff_ne.2 (hn x (by simp))
    have ih := idx_no (s := s) (c := c) (fun y hy => hn y (by simp [hy]))
    simp only [Lib.indexByte, hx, ih]
    rfl
def SlInv (s : List UInt8) (h0 : AHeap) (n0 : Nat) (r : Nat) (σ : Fr) (h : AHeap) (n : Nat) : Prop :=
  h = h0 ∧ n = n0 ∧ ∃ i, i + r = s.length ∧ (∀ x, x ∈ s.take i → ¬ x = 47) ∧ σ = [(0, .string ⟨s.toArray⟩), (5, .int .i64 (i : Int))]
def SlPost (s : List UInt8) (h0 : AHeap) (n0 : Nat) (e : Ex) (σ' : Fr) (h' : AHeap) (n' : Nat) : Prop :=
  h' = h0 ∧ n' = n0 ∧ e = .exit 0 ∧ ∃ i, i ≤ s.length ∧ cutA s 47 = s.take i ∧ (i = s.length ∧ cutB s 47 = false ∨ i < s.length ∧ cutB s 47 = true ∧ cutZ s 47 = s.drop (i + 1)) ∧ σ'.get 0 = some (.string ⟨s.toArray⟩) ∧ σ'.get 5 = some (.int .i64 (i : Int))
theorem sl_loop {s : List UInt8} (hs : s.length < 100000) {h0 : AHeap} {n0 : Nat} :
    ∀ (r : Nat) (σ : Fr) (h : AHeap) (n : Nat), SlInv s h0 n0 r σ h n → HasCode EV06 (.loop F12L0) σ h n (SlPost s h0 n0) := by
  refine wx_inv _ fun r σ h n hI => ?_
  obtain ⟨rfl, rfl, i, hi, hno, rfl⟩ := hI
  cases r with
  | zero =>
    obtain rfl : i = s.length := by omega
    rw [List.take_length] at hno
    have hx := idx_no hno
    simp -dsimp (discharger := omega) [F12L0]
    exact ⟨rfl, rfl, rfl, s.length, Nat.le_refl _, by rw [cutA, if_pos hx, List.take_length], .inl ⟨rfl, by rw [cutB, if_pos hx]⟩, by simp, by simp⟩
  | succ r =>
    have hlt : i < s.length := by omega
    have hx := List.getElem?_eq_getElem hlt
    generalize s[i] = c at hx
    by_cases c47 : c = 47
    · subst c47
      have e47 : ((47 : UInt8).toNat : Int) = 47 := rfl
      have hix := idx_at hno hx
      have hne : ¬ Lib.indexByte s 47 = -1 := by omega
      simp -dsimp (discharger := omega) [F12L0, hx, e47, -getElem?_pos]
      exact ⟨rfl, rfl, rfl, i, by omega, by rw [cutA, if_neg hne, hix]; rfl, .inr ⟨hlt, by rw [cutB, if_neg hne], by rw [cutZ, if_neg hne, hix]; rfl⟩, by simp, by simp⟩
    · have n47 : ¬ (c.toNat : Int) = 47 := fun e => c47 (UInt8.toNat_inj.1 (by show c.toNat = 47; omega))
      simp -dsimp (discharger := omega) [F12L0, hx, n47, -getElem?_pos]
      exact .mk' r (by omega) [(0, .string ⟨s.toArray⟩), (5, .int .i64 ((i + 1 : Nat) : Int))] h (by simp) (.refl _) ⟨rfl, rfl, i + 1, by omega, fun x hx' => by
        rw [take_snoc hx] at hx'
        rcases List.mem_append.1 hx' with h | h
        · exact hno x h
        · rw [List.mem_singleton.1 h]; exact c47, rfl⟩
def RdInv (s : List UInt8) (a : Int) (h0 : AHeap) (n0 : Nat) (r : Nat) (σ : Fr) (h : AHeap) (n : Nat) : Prop :=
  h = h0 ∧ n = n0 ∧ ∃ i, i + r = s.length ∧ (s.take i).all isD = true ∧ σ = [(6, .int .u32 a), (8, .string ⟨s.toArray⟩), (9, .int .i64 ((decV (s.take i) : Nat) : Int)), (10, .int .i64 (i : Int))]
def RdPost (s : List UInt8) (a : Int) (h0 : AHeap) (n0 : Nat) (e : Ex) (σ' : Fr) (h' : AHeap) (n' : Nat) : Prop :=
  h' = h0 ∧ n' = n0 ∧ (e = .exit 2 ∧ s.all isD = true ∧ σ'.get 6 = some (.int .u32 a) ∧ σ'.get 9 = some (.int .i64 ((decV s : Nat) : Int)) ∨ e = .ret ∧ s.all isD = false ∧ σ'.get 2 = some (.int .u32 0) ∧ σ'.get 3 = some (.int .i64 0) ∧ σ'.get 4 = some (.int .i64 5))
theorem rd_loop {s : List UInt8} (hs : s.length ≤ 2) {a : Int} {h0 : AHeap} {n0 : Nat} :
    ∀ (r : Nat) (σ : Fr) (h : AHeap) (n : Nat), RdInv s a h0 n0 r σ h n → HasCode EV06 (.loop F12L1) σ h n (RdPost s a h0 n0) := by
  refine wx_inv _ fun r σ h n hI => ?_
  obtain ⟨rfl, rfl, i, hi, hd, rfl⟩ := hI
  cases r with
  | zero =>
    obtain rfl : i = s.length := by omega
    rw [List.take_length] at hd
    simp -dsimp (discharger := omega) [F12L1]
    exact ⟨rfl, rfl, .inl ⟨rfl, hd, by simp, by simp⟩⟩
  | succ r =>
    have hlt : i < s.length := by omega
    have hx := List.getElem?_eq_getElem hlt
    generalize s[i] = c at hx
    have hc := c.toNat_lt
    have hsn : decV (s.take (i + 1)) = 10 * decV (s.take i) + (c.toNat - 48) := by rw [take_snoc hx, decV_snoc]
    have hda : (s.take (i + 1)).all isD = isD c := by rw [take_snoc hx, List.all_append, hd]; simp
    have hV := decV_lt _ hd
    have hp : 10 ^ (s.take i).length ≤ 10 ^ 2 := Nat.pow_le_pow_right (by omega) (by rw [List.length_take]; omega)
    have hbad : isD c = false → s.all isD = false := fun hdc => by
      rw [Bool.eq_false_iff]
      intro h
      have := List.all_eq_true.1 h c (List.mem_of_getElem? hx)
      rw [hdc] at this; cases this
    generalize decV (s.take i) = V at *
    by_cases d0 : 48 ≤ c.toNat
    · by_cases d1 : c.toNat ≤ 57
      · have hdc : isD c = true := by simp [isD, d0, d1]
        simp -dsimp (discharger := omega) [F12L1, hx, -getElem?_pos]
        exact .mk' r (by omega) [(6, .int .u32 a), (8, .string ⟨s.toArray⟩), (9, .int .i64 ((decV (s.take (i + 1)) : Nat) : Int)), (10, .int .i64 ((i + 1 : Nat) : Int))] h (by simp [hsn]; omega) (.refl _) ⟨rfl, rfl, i + 1, by omega, by rw [hda, hdc], rfl⟩
      · have hdc : isD c = false := by simp [isD]; omega
        simp -dsimp (discharger := omega) [F12L1, hx, -getElem?_pos]
        exact ⟨rfl, rfl, .inr ⟨rfl, hbad hdc, by simp, by simp, by simp⟩⟩
    · have hdc : isD c = false := by simp [isD]; omega
      simp -dsimp (discharger := omega) [F12L1, hx, -getElem?_pos]
      exact ⟨rfl, rfl, .inr ⟨rfl, hbad hdc, by simp, by simp, by simp⟩⟩
theorem numI_bad {s : List UInt8} (h : canon s = false) : numI s = -1 := by
  unfold numI; rw [h, if_neg (by simp)]
theorem ipE_cases (s : List UInt8) : ipE s = 0 ∨ ipE s = 5 := by
  unfold ipE; split
  · exact .inl rfl
  · exact .inr rfl
theorem rparsePrefix_ret {s : List UInt8} (hs : s.length < 100000) {h : AHeap} {n : Nat} :
    Ret EV06 12 [.string ⟨s.toArray⟩] h n (.tuple #[.int .u32 ((pfIp s : Nat) : Int), .int .i64 ((pfBits s : Nat) : Int), .int .i64 ((pfE s : Nat) : Int)]) [] n := by
  refine rsx12 (by simp) (by simp) ?_
  simp -dsimp (discharger := omega) [B12]
  refine loop_use (sl_loop hs (h0 := h) (n0 := n) s.length [(0, .string ⟨s.toArray⟩), (5, .int .i64 ((0 : Nat) : Int))] h n ⟨rfl, rfl, 0, by omega, fun x hx => by simp at hx, rfl⟩) (by simp) (.refl _) ?_
  rintro e σ' h' n' ⟨rfl, rfl, rfl, i, hi, hA, hB, g0, g5⟩
  have hip := ipN_lt (cutA s 47)
  have hl : (s.take i).length = i := by rw [List.length_take]; omega
  simp -dsimp (discharger := omega) [g0, g5]
  with_reducible refine call_ret (rparse_ret (s := s.take i) (by omega)) ?_
  rw [← hA]
  have hbad : ∀ {c : Nat}, pfE s = c → c ≠ 0 → pfBits s = 0 ∧ pfIp s = 0 := fun h h0 => ⟨by unfold pfBits; rw [h, if_neg h0], by unfold pfIp; rw [h, if_neg h0]⟩
  rcases ipE_cases (cutA s 47) with hE | hE
  · rw [hE]
    rcases hB with ⟨rfl, hB⟩ | ⟨hlt, hB, hZ⟩
    · have x1 : pfE s = 0 := by unfold pfE; rw [if_pos hE, hB]; rfl
      have x2 : pfBits s = 32 := by unfold pfBits; rw [x1, hB]; rfl
      have x3 : pfIp s = ipN (cutA s 47) := by unfold pfIp; rw [x1, x2, maskd32]; rfl
      rw [x1, x2, x3]
      simp -dsimp (discharger := omega) [g0, g5]
      exact .refl _
    · have e1 : ((i : Int) + 1).toNat = i + 1 := by omega
      have hzl : (s.drop (i + 1)).length = s.length - (i + 1) := List.length_drop
      rw [← hZ] at hzl
      by_cases z0 : (cutZ s 47).length = 0
      · have hz : cutZ s 47 = [] := List.eq_nil_of_length_eq_zero z0
        have x1 : pfE s = 5 := by unfold pfE; rw [if_pos hE, hB, if_pos rfl, hz]; rfl
        obtain ⟨x2, x3⟩ := hbad x1 (by omega)
        rw [x1, x2, x3]
        simp -dsimp (discharger := omega) [g0, g5, e1, ← hZ]
        exact .refl _
      · by_cases z2 : 2 < (cutZ s 47).length
        · have x1 : pfE s = 5 := by unfold pfE; rw [if_pos hE, hB, if_pos rfl, if_pos (.inr z2)]
          obtain ⟨x2, x3⟩ := hbad x1 (by omega)
          rw [x1, x2, x3]
          simp -dsimp (discharger := omega) [g0, g5, e1, ← hZ]
          exact .refl _
        · by_cases l2 : (cutZ s 47).length = 2
          · have hx := List.getElem?_eq_getElem (show 0 < (cutZ s 47).length by omega)
            have hh : (cutZ s 47).head? = (cutZ s 47)[0]? := by rw [List.head?_eq_getElem?]
            generalize (cutZ s 47)[0] = c at hx
            rw [hx] at hh
            by_cases c48 : c = 48
            · subst c48
              have hcn : canon (cutZ s 47) = false := by unfold canon; rw [hh, l2]; simp
              have x1 : pfE s = 5 := by unfold pfE; rw [if_pos hE, hB, if_pos rfl, numI_bad hcn]; rfl
              obtain ⟨x2, x3⟩ := hbad x1 (by omega)
              rw [x1, x2, x3]
              have e48 : ((48 : UInt8).toNat : Int) = 48 := rfl
              simp -dsimp (discharger := omega) [g0, g5, e1, ← hZ, hx, e48, -getElem?_pos]
              exact .refl _
            · have n48 : ¬ (c.toNat : Int) = 48 := fun e => c48 (UInt8.toNat_inj.1 (by show c.toNat = 48; omega))
              have hcan : (cutZ s 47).length = 1 ∨ ¬ (cutZ s 47).head? = some 48 := .inr (by rw [hh]; simpa using c48)
              simp -dsimp (discharger := omega) [g0, g5, e1, ← hZ, hx, n48, -getElem?_pos]
              refine loop_use (rd_loop (s := cutZ s 47) (by omega) (a := ((ipN (cutA s 47) : Nat) : Int)) (h0 := h') (n0 := n') (cutZ s 47).length [(6, .int .u32 ((ipN (cutA s 47) : Nat) : Int)), (8, .string ⟨(cutZ s 47).toArray⟩), (9, .int .i64 ((decV ((cutZ s 47).take 0) : Nat) : Int)), (10, .int .i64 ((0 : Nat) : Int))] h' n' ⟨rfl, rfl, 0, by omega, rfl, rfl⟩) (by simp [decV]) (.refl _) ?_
              rintro e σ2 h2 n2 ⟨rfl, rfl, ⟨rfl, hd, g6, g9⟩ | ⟨rfl, hd, g2, g3, g4⟩⟩
              · have hcn : canon (cutZ s 47) = true := by unfold canon; rw [hd, isE (fun e => z0 (by rw [e]; rfl))]; simpa using hcan
                have hV := decV_lt _ hd
                have hp : 10 ^ (cutZ s 47).length ≤ 10 ^ 2 := Nat.pow_le_pow_right (by omega) (by omega)
                have hN : numI (cutZ s 47) = ((decV (cutZ s 47) : Nat) : Int) := by unfold numI; rw [if_pos ⟨hcn, by omega⟩]
                by_cases v32 : 32 < decV (cutZ s 47)
                · have x1 : pfE s = 24 := by unfold pfE; rw [if_pos hE, hB, if_pos rfl, if_neg (by omega), if_pos (by omega)]
                  obtain ⟨x2, x3⟩ := hbad x1 (by omega)
                  rw [x1, x2, x3]
                  simp -dsimp (discharger := omega) [g6, g9]
                  exact .refl _
                · have x1 : pfE s = 0 := by unfold pfE; rw [if_pos hE, hB, if_pos rfl, if_neg (by omega), if_neg (by omega)]
                  have x2 : pfBits s = decV (cutZ s 47) := by unfold pfBits; rw [x1, hB, hN]; rfl
                  have x3 : pfIp s = maskd (ipN (cutA s 47)) (decV (cutZ s 47)) := by unfold pfIp; rw [x1, x2]; rfl
                  rw [x1, x2, x3]
                  have hm := masked_ret hip ((decV (cutZ s 47) : Nat) : Int) (h := h2) (n := n2)
                  rw [clampN_nat (by omega)] at hm
                  simp -dsimp (discharger := omega) [g6, g9]
                  with_reducible refine call_ret hm ?_
                  simp -dsimp (discharger := omega) [g9]
                  exact .refl _
              · have hcn : canon (cutZ s 47) = false := by unfold canon; rw [hd]; rfl
                have x1 : pfE s = 5 := by unfold pfE; rw [if_pos hE, hB, if_pos rfl, numI_bad hcn]; rfl
                obtain ⟨x2, x3⟩ := hbad x1 (by omega)
                rw [x1, x2, x3]
                simp -dsimp (discharger := omega) [g2, g3, g4]
                exact .refl _
          · have hcan : (cutZ s 47).length = 1 ∨ ¬ (cutZ s 47).head? = some 48 := .inl (by omega)
            simp -dsimp (discharger := omega) [g0, g5, e1, ← hZ]
            refine loop_use (rd_loop (s := cutZ s 47) (by omega) (a := ((ipN (cutA s 47) : Nat) : Int)) (h0 := h') (n0 := n') (cutZ s 47).length [(6, .int .u32 ((ipN (cutA s 47) : Nat) : Int)), (8, .string ⟨(cutZ s 47).toArray⟩), (9, .int .i64 ((decV ((cutZ s 47).take 0) : Nat) : Int)), (10, .int .i64 ((0 : Nat) : Int))] h' n' ⟨rfl, rfl, 0, by omega, rfl, rfl⟩) (by simp [decV]) (.refl _) ?_
            rintro e σ2 h2 n2 ⟨rfl, rfl, ⟨rfl, hd, g6, g9⟩ | ⟨rfl, hd, g2, g3, g4⟩⟩
            · have hcn : canon (cutZ s 47) = true := by unfold canon; rw [hd, isE (fun e => z0 (by rw [e]; rfl))]; simpa using hcan
              have hV := decV_lt _ hd
              have hp : 10 ^ (cutZ s 47).length ≤ 10 ^ 2 := Nat.pow_le_pow_right (by omega) (by omega)
              have hN : numI (cutZ s 47) = ((decV (cutZ s 47) : Nat) : Int) := by unfold numI; rw [if_pos ⟨hcn, by omega⟩]
              by_cases v32 : 32 < decV (cutZ s 47)
              · have x1 : pfE s = 24 := by unfold pfE; rw [if_pos hE, hB, if_pos rfl, if_neg (by omega), if_pos (by omega)]
                obtain ⟨x2, x3⟩ := hbad x1 (by omega)
                rw [x1, x2, x3]
                simp -dsimp (discharger := omega) [g6, g9]
                exact .refl _
              · have x1 : pfE s = 0 := by unfold pfE; rw [if_pos hE, hB, if_pos rfl, if_neg (by omega), if_neg (by omega)]
                have x2 : pfBits s = decV (cutZ s 47) := by unfold pfBits; rw [x1, hB, hN]; rfl
                have x3 : pfIp s = maskd (ipN (cutA s 47)) (decV (cutZ s 47)) := by unfold pfIp; rw [x1, x2]; rfl
                rw [x1, x2, x3]
                have hm := masked_ret hip ((decV (cutZ s 47) : Nat) : Int) (h := h2) (n := n2)
                rw [clampN_nat (by omega)] at hm
                simp -dsimp (discharger := omega) [g6, g9]
                with_reducible refine call_ret hm ?_
                simp -dsimp (discharger := omega) [g9]
                exact .refl _
            · have hcn : canon (cutZ s 47) = false := by unfold canon; rw [hd]; rfl
              have x1 : pfE s = 5 := by unfold pfE; rw [if_pos hE, hB, if_pos rfl, numI_bad hcn]; rfl
              obtain ⟨x2, x3⟩ := hbad x1 (by omega)
              rw [x1, x2, x3]
              simp -dsimp (discharger := omega) [g2, g3, g4]
              exact .refl _
  · rw [hE]
    have x1 : pfE s = 5 := by unfold pfE; rw [if_neg (by omega)]
    obtain ⟨x2, x3⟩ := hbad x1 (by omega)
    rw [x1, x2, x3]
    simp -dsimp (discharger := omega) []
    exact .refl _
end
end Go.Proofs.YtiemkafpijhlmaaDoor.Am
namespace Go.Proofs.YtiemkafpijhlmaaDoor.Am
noncomputable section
/- THE LAWS' WALKS: what the chapter's rows tell; texts. -/
def tellS : List UInt8 := [49, 48, 46, 49, 46, 50, 46, 51, 47, 56]
theorem tell_pf : pfE tellS = 0 ∧ pfBits tellS = 8 ∧ pfIp tellS = 167772160 := by decide +kernel
theorem tell_tx : pfT 167772160 8 = [49, 48, 46, 48, 46, 48, 46, 48, 47, 56] := by
  have e : clampN 8 = 8 := rfl
  unfold pfT
  rw [e]
  have m : maskd 167772160 8 = 167772160 := by decide
  rw [m]
  have d10 : decs 10 = [49, 48] := by rw [← decL_decs (by omega)]; rfl
  have d0 : decs 0 = [48] := by rw [← decL_decs (by omega)]; rfl
  have d8 : decs 8 = [56] := by rw [← decL_decs (by omega)]; rfl
  have e2 : ipT 167772160 = decs 10 ++ 46 :: (decs 0 ++ 46 :: (decs 0 ++ 46 :: decs 0)) := rfl
  rw [e2, d10, d0, d8]
  rfl
def tellB : List UInt8 := [0, 1, 242, 3, 244, 245, 246, 247]
theorem tell_sum : sumN tellB = 8717 := by decide
theorem tells_ret {h : AHeap} {n : Nat} (hw : WF h n) (hp : HasPow h) (he : HasErrs h) (hn : 4096 ≤ n) : Ret EV06 19 [] h n (.bool true) [] (n + 100) := by
  obtain ⟨e1, e2, e3⟩ := tell_pf
  have h1 := parsePrefix_ret (s := tellS) (by decide) hw hp he hn
  rw [e1, e2, e3] at h1
  have h1 : Ret EV06 11 [.string ⟨#[49, 48, 46, 49, 46, 50, 46, 51, 47, 56]⟩] h n (.tuple #[.agg #[.int .u32 167772160, .int .i64 8], .int .i64 0]) [] (n + 30) := h1
  refine rsx19 (by simp) (by simp) ?_
  simp -dsimp (discharger := omega) [B19]
  with_reducible refine call_ret h1 ?_
  simp -dsimp (discharger := omega) [aFill]
  have h2 : ∀ {H : AHeap} {k m : Nat}, H.get k = some (bufB tellB 8) → Ret EV06 23 [.slice (some ⟨k, 0, some 8⟩) 8 2] H m (.int .u16 8717) [] m := fun {H k m} hk => by
    have := sum_ret (bs := tellB) (by decide) (bs_new hk (by decide)) (n := m)
    rw [tell_sum] at this
    exact this
  have hT : ∀ {H : AHeap} {k : Nat}, WF H k → HasPow H → 4096 ≤ k → Ret EV06 15 [.agg #[.int .u32 167772160, .int .i64 8]] H k (.string ⟨#[49, 48, 46, 48, 46, 48, 46, 48, 47, 56]⟩) [] (k + 32) := fun a b c => by
    have := ptext_ret (a := 167772160) (by omega) 8 (by omega) (by omega) a b c
    rw [tell_tx] at this
    exact this
  with_reducible refine call_ret (h2 (by simp [bufB, u8s, tellB])) ?_
  simp -dsimp (discharger := omega) []
  with_reducible refine call_ret (hT (.of fun j hj => by simp (discharger := omega) [hw.none (i := j) (by omega)]) (by (repeat (refine HasPow.put ?_ (by omega) _)); exact hp) (by omega)) ?_
  simp -dsimp (discharger := omega) []
  repeat (refine HSub.new ?_ hw (by omega) _)
  exact .refl _
theorem texts_walk {a b : Nat} (ha : a < 4294967296) (hb : b < 4294967296) (bits : Int) (hb0 : -9223372036854775808 ≤ bits) (hb1 : bits < 9223372036854775808) (s : List UInt8) (hs : s.length < 9223372036854775808) {h : AHeap} {n : Nat} (hw : WF h n) (hp : HasPow h) (he : HasErrs h) (hn : 4096 ≤ n) :
    HasCall EV06 3 [.int .u32 (a : Int), .int .u32 (b : Int), .int .i64 bits, .string ⟨s.toArray⟩] h n fun v _ _ => v = .bool true := by
  have goal : HasCallT EV06 3 [.int .u32 (a : Int), .int .u32 (b : Int), .int .i64 bits, .string ⟨s.toArray⟩] h n (fun v _ _ => v = .bool true) ⟨⟩ := by
    with_reducible refine inl3 ?_
    by_cases h30 : s.length < 30
    · simp -dsimp (discharger := omega) [B3, aFill]
      with_reducible refine call_ret (parse_ret (by omega) (.of fun j hj => by simp (discharger := omega) [hw.none (i := j) (by omega)]) (by (repeat (refine HasPow.put ?_ (by omega) _)); exact hp) (by (repeat (refine HasErrs.put ?_ (by omega) _)); exact he) (by omega)) ?_
      simp -dsimp (discharger := omega) []
      with_reducible refine call_ret (rparse_ret (by omega)) ?_
      simp -dsimp (discharger := omega) []
      with_reducible refine call_ret (parsePrefix_ret (by omega) (.of fun j hj => by simp (discharger := omega) [hw.none (i := j) (by omega)]) (by (repeat (refine HasPow.put ?_ (by omega) _)); exact hp) (by (repeat (refine HasErrs.put ?_ (by omega) _)); exact he) (by omega)) ?_
      simp -dsimp (discharger := omega) []
      with_reducible refine call_ret (rparsePrefix_ret (by omega)) ?_
      simp -dsimp (discharger := omega) []
      with_reducible refine call_ret (text_ret ha (.of fun j hj => by simp (discharger := omega) [hw.none (i := j) (by omega)]) (by (repeat (refine HasPow.put ?_ (by omega) _)); exact hp) (by omega)) ?_
      simp -dsimp (discharger := omega) []
      with_reducible refine call_ret (rtext_ret ha (.of fun j hj => by simp (discharger := omega) [hw.none (i := j) (by omega)])) ?_
      simp -dsimp (discharger := omega) []
      with_reducible refine call_ret (ptext_ret ha bits hb0 hb1 (.of fun j hj => by simp (discharger := omega) [hw.none (i := j) (by omega)]) (by (repeat (refine HasPow.put ?_ (by omega) _)); exact hp) (by omega)) ?_
      simp -dsimp (discharger := omega) []
      with_reducible refine call_ret (rptext_ret ha bits (.of fun j hj => by simp (discharger := omega) [hw.none (i := j) (by omega)])) ?_
      simp -dsimp (discharger := omega) []
      with_reducible refine call_ret (has_ret ha hb bits hb0 hb1 (.of fun j hj => by simp (discharger := omega) [hw.none (i := j) (by omega)])) ?_
      simp -dsimp (discharger := omega) []
      with_reducible refine call_ret (rhas_ret ha hb bits) ?_
      simp -dsimp (discharger := omega) []
      with_reducible refine call_ret (tells_ret (.of fun j hj => by simp (discharger := omega) [hw.none (i := j) (by omega)]) (by (repeat (refine HasPow.put ?_ (by omega) _)); exact hp) (by (repeat (refine HasErrs.put ?_ (by omega) _)); exact he) (by omega)) ?_
      simp -dsimp (discharger := omega) []
    · have e30 : (if (30 : Int) < (s.length : Int) then (30 : Int) else (s.length : Int)) = 30 := by split <;> omega
      simp -dsimp (discharger := omega) [B3, aFill, e30]
      have ht : (s.take 30).length ≤ 30 := by rw [List.length_take]; omega
      generalize s.take 30 = t at *
      with_reducible refine call_ret (parse_ret (by omega) (.of fun j hj => by simp (discharger := omega) [hw.none (i := j) (by omega)]) (by (repeat (refine HasPow.put ?_ (by omega) _)); exact hp) (by (repeat (refine HasErrs.put ?_ (by omega) _)); exact he) (by omega)) ?_
      simp -dsimp (discharger := omega) []
      with_reducible refine call_ret (rparse_ret (by omega)) ?_
      simp -dsimp (discharger := omega) []
      with_reducible refine call_ret (parsePrefix_ret (by omega) (.of fun j hj => by simp (discharger := omega) [hw.none (i := j) (by omega)]) (by (repeat (refine HasPow.put ?_ (by omega) _)); exact hp) (by (repeat (refine HasErrs.put ?_ (by omega) _)); exact he) (by omega)) ?_
      simp -dsimp (discharger := omega) []
      with_reducible refine call_ret (rparsePrefix_ret (by omega)) ?_
      simp -dsimp (discharger := omega) []
      with_reducible refine call_ret (text_ret ha (.of fun j hj => by simp (discharger := omega) [hw.none (i := j) (by omega)]) (by (repeat (refine HasPow.put ?_ (by omega) _)); exact hp) (by omega)) ?_
      simp -dsimp (discharger := omega) []
      with_reducible refine call_ret (rtext_ret ha (.of fun j hj => by simp (discharger := omega) [hw.none (i := j) (by omega)])) ?_
      simp -dsimp (discharger := omega) []
      with_reducible refine call_ret (ptext_ret ha bits hb0 hb1 (.of fun j hj => by simp (discharger := omega) [hw.none (i := j) (by omega)]) (by (repeat (refine HasPow.put ?_ (by omega) _)); exact hp) (by omega)) ?_
      simp -dsimp (discharger := omega) []
      with_reducible refine call_ret (rptext_ret ha bits (.of fun j hj => by simp (discharger := omega) [hw.none (i := j) (by omega)])) ?_
      simp -dsimp (discharger := omega) []
      with_reducible refine call_ret (has_ret ha hb bits hb0 hb1 (.of fun j hj => by simp (discharger := omega) [hw.none (i := j) (by omega)])) ?_
      simp -dsimp (discharger := omega) []
      with_reducible refine call_ret (rhas_ret ha hb bits) ?_
      simp -dsimp (discharger := omega) []
      with_reducible refine call_ret (tells_ret (.of fun j hj => by simp (discharger := omega) [hw.none (i := j) (by omega)]) (by (repeat (refine HasPow.put ?_ (by omega) _)); exact hp) (by (repeat (refine HasErrs.put ?_ (by omega) _)); exact he) (by omega)) ?_
      simp -dsimp (discharger := omega) []
  exact goal
end
end Go.Proofs.YtiemkafpijhlmaaDoor.Am
