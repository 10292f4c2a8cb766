/- Contracts of the document's functions (Z1). -/
import Derived.Test.YtkaibjdogeikbaaDoorY1
import Derived.Test.YtkaibjdogeikbaaDoorW
namespace Go.Proofs.YtkaibjdogeikbaaDoor.Am
noncomputable section
/- CONTRACTS: the document's two, four, words. -/
theorem num2 {L : List UInt8} {T : Nat} (h : T + 2 ≤ L.length) : num L T 2 = 256 * (L[T]'(by omega)).toNat + (L[T + 1]'(by omega)).toNat := by
  unfold num numL
  rw [List.drop_eq_getElem_cons (show T < L.length by omega), List.drop_eq_getElem_cons (show T + 1 < L.length by omega)]
  simp only [List.take_succ_cons, List.take_zero, List.foldl_cons, List.foldl_nil]
  omega
theorem num1 {L : List UInt8} {T : Nat} (h : T + 1 ≤ L.length) : num L T 1 = (L[T]'(by omega)).toNat := by
  unfold num numL
  rw [List.drop_eq_getElem_cons (show T < L.length by omega)]
  simp only [List.take_succ_cons, List.take_zero, List.foldl_cons, List.foldl_nil]
  omega
theorem num4 {L : List UInt8} {T : Nat} (h : T + 4 ≤ L.length) : num L T 4 = 65536 * num L T 2 + num L (T + 2) 2 := by
  unfold num numL
  rw [List.drop_eq_getElem_cons (show T < L.length by omega), List.drop_eq_getElem_cons (show T + 1 < L.length by omega), List.drop_eq_getElem_cons (show T + 1 + 1 < L.length by omega), List.drop_eq_getElem_cons (show T + 1 + 1 + 1 < L.length by omega)]
  simp only [List.take_succ_cons, List.take_zero, List.foldl_cons, List.foldl_nil]
  omega
theorem two_ret {h : AHeap} {n T i o g k : Nat} {v : Int} (hv : v = (T : Int)) {L : List UInt8} (hr : h.read i g o L.length = some (u8s L)) (hT : T + 2 ≤ L.length) (hl : L.length < 1000000) :
    Ret EV07 58 [.slice (some ⟨i, o, some g⟩) L.length k, .int .i64 v] h n (.int .i64 ((num L T 2 : Nat) : Int)) [] n := by
  subst hv
  have r0 := read_one hr (u8s_get? (List.getElem?_eq_getElem (show T < L.length by omega))) (by omega)
  have r1 := read_one hr (u8s_get? (List.getElem?_eq_getElem (show T + 1 < L.length by omega))) (by omega)
  have b0 := (L[T]'(by omega)).toNat_lt
  have b1 := (L[T + 1]'(by omega)).toNat_lt
  rw [num2 hT]
  generalize (L[T]'(by omega)).toNat = x at r0 b0 ⊢
  generalize (L[T + 1]'(by omega)).toNat = y at r1 b1 ⊢
  refine rsx58 (by simp) (by simp) ?_
  simp -dsimp (discharger := omega) [B58, r0, r1, HSub.refl]
theorem four_ret {h : AHeap} {n T i o g k : Nat} {v : Int} (hv : v = (T : Int)) {L : List UInt8} (hr : h.read i g o L.length = some (u8s L)) (hT : T + 4 ≤ L.length) (hl : L.length < 1000000) :
    Ret EV07 59 [.slice (some ⟨i, o, some g⟩) L.length k, .int .i64 v] h n (.int .u32 ((num L T 4 : Nat) : Int)) [] n := by
  subst hv
  have c0 := two_ret (n := n) (k := k) (v := (T : Int)) rfl hr (show T + 2 ≤ L.length by omega) hl
  have c1 := two_ret (n := n) (k := k) (T := T + 2) (v := (T : Int) + 2) (by omega) hr (show T + 2 + 2 ≤ L.length by omega) hl
  have b0 : num L T 2 < 65536 := num_lt L T 2
  have b1 : num L (T + 2) 2 < 65536 := num_lt L (T + 2) 2
  rw [num4 hT]
  generalize num L T 2 = x at c0 b0 ⊢
  generalize num L (T + 2) 2 = y at c1 b1 ⊢
  refine rsx59 (by simp) (by simp) ?_
  simp -dsimp (discharger := omega) [B59]
  with_reducible refine call_ret c0 ?_
  simp -dsimp (discharger := omega) []
  with_reducible refine call_ret c1 ?_
  simp -dsimp (discharger := omega) [HSub.refl]
theorem wordSum_append : ∀ (a b : List UInt8) (h : Bool), wordSum (a ++ b) h = wordSum a h + wordSum b (flips a h)
  | [], b, h => by simp [wordSum, flips]
  | x :: a, b, true => by
    have := wordSum_append a b false
    have e : flips (x :: a) true = flips a false := by
      unfold flips; simp only [List.length_cons]
      rcases Nat.mod_two_eq_zero_or_one a.length with e | e
      · rw [if_neg (by omega), if_pos e]; rfl
      · rw [if_pos (by omega), if_neg (by omega)]; rfl
    rw [List.cons_append, wordSum, wordSum, this, e]; omega
  | x :: a, b, false => by
    have := wordSum_append a b true
    have e : flips (x :: a) false = flips a true := by
      unfold flips; simp only [List.length_cons]
      rcases Nat.mod_two_eq_zero_or_one a.length with e | e
      · rw [if_neg (by omega), if_pos e]; rfl
      · rw [if_pos (by omega), if_neg (by omega)]; rfl
    rw [List.cons_append, wordSum, wordSum, this, e]; omega
theorem wordSum_take {L : List UInt8} {i : Nat} (hi : i < L.length) : wordSum (L.take (i + 1)) true = wordSum (L.take i) true + (if i % 2 = 0 then 256 * L[i].toNat else L[i].toNat) := by
  rw [List.take_succ_eq_append_getElem hi, wordSum_append]
  have hl : (L.take i).length = i := by simp; omega
  unfold flips
  rw [hl]
  split <;> simp [wordSum]
theorem foldW_add {p x : Nat} (hx : x ≤ 65280) : foldW (p + x) = if 65535 < foldW p + x then foldW p + x - 65535 else foldW p + x := by
  unfold foldW
  split <;> split <;> split <;> omega
def WordsInv (L : List UInt8) (u : Value) (h0 : AHeap) (n0 : Nat) (m : Nat) (σ : Fr) (h : AHeap) (n : Nat) : Prop :=
  h = h0 ∧ n = n0 ∧ ∃ i, i + m = L.length ∧ σ = [(0, u), (3, .int .i64 ((foldW (wordSum (L.take i) true) : Nat) : Int)), (4, .int .i64 (i : Int))]
def WordsPost (L : List UInt8) (h0 : AHeap) (n0 : Nat) (e : Ex) (σ' : Fr) (h' : AHeap) (n' : Nat) : Prop :=
  h' = h0 ∧ n' = n0 ∧ e = .exit 0 ∧ σ'.get 3 = some (.int .i64 ((foldW (wordSum L true) : Nat) : Int))
theorem words_loop {L : List UInt8} (hl : L.length < 1000000) {i o g k : Nat} {h0 : AHeap} (hr : h0.read i g o L.length = some (u8s L)) (n0 : Nat) :
    ∀ (m : Nat) (σ : Fr) (h : AHeap) (n : Nat), WordsInv L (.slice (some ⟨i, o, some g⟩) L.length k) h0 n0 m σ h n → HasCode EV07 (.loop F60L0) σ h n (WordsPost L h0 n0) := by
  refine wx_inv _ fun m σ h n hI => ?_
  obtain ⟨rfl, rfl, j, hj, rfl⟩ := hI
  cases m with
  | zero =>
    obtain rfl : j = L.length := by omega
    simp -dsimp (discharger := omega) [F60L0]
    exact ⟨rfl, rfl, rfl, by simp⟩
  | succ m =>
    have hlt : j < L.length := by omega
    have hrd := read_one hr (u8s_get? (List.getElem?_eq_getElem hlt)) hlt
    have hx := L[j].toNat_lt
    have hw := wordSum_take hlt
    have htm : ((j : Int)).tmod 2 = ((j % 2 : Nat) : Int) := rfl
    have hf := foldW_le (wordSum (L.take j) true)
    have hI : foldW (wordSum (L.take (j + 1)) true) = foldW (wordSum (L.take (j + 1)) true) → WordsInv L (.slice (some ⟨i, o, some g⟩) L.length k) h n m [(0, .slice (some ⟨i, o, some g⟩) L.length k), (3, .int .i64 ((foldW (wordSum (L.take (j + 1)) true) : Nat) : Int)), (4, .int .i64 ((j + 1 : Nat) : Int))] h n := fun _ => ⟨rfl, rfl, j + 1, by omega, rfl⟩
    by_cases he : j % 2 = 0
    · rw [if_pos he] at hw
      have hn := foldW_add (p := wordSum (L.take j) true) (x := 256 * L[j].toNat) (by omega)
      rw [← hw] at hn
      generalize foldW (wordSum (L.take (j + 1)) true) = f2 at hn hI
      generalize foldW (wordSum (L.take j) true) = f1 at hf hn
      generalize L[j].toNat = x at hrd hx hn
      split at hn
      all_goals
        simp -dsimp (discharger := omega) [F60L0, hrd, htm]
        exact .mk' m (by omega) [(0, _), (3, .int .i64 ((f2 : Nat) : Int)), (4, .int .i64 ((j + 1 : Nat) : Int))] _ (by simp (discharger := omega) [hn] <;> omega) (.refl _) (hI rfl)
    · rw [if_neg he] at hw
      have hn := foldW_add (p := wordSum (L.take j) true) (x := L[j].toNat) (by omega)
      rw [← hw] at hn
      generalize foldW (wordSum (L.take (j + 1)) true) = f2 at hn hI
      generalize foldW (wordSum (L.take j) true) = f1 at hf hn
      generalize L[j].toNat = x at hrd hx hn
      split at hn
      all_goals
        simp -dsimp (discharger := omega) [F60L0, hrd, htm]
        exact .mk' m (by omega) [(0, _), (3, .int .i64 ((f2 : Nat) : Int)), (4, .int .i64 ((j + 1 : Nat) : Int))] _ (by simp (discharger := omega) [hn] <;> omega) (.refl _) (hI rfl)
theorem words_ret {L : List UInt8} (hl : L.length < 1000000) {i o g k : Nat} {h : AHeap} (hr : h.read i g o L.length = some (u8s L)) (n : Nat) :
    Ret EV07 60 [.slice (some ⟨i, o, some g⟩) L.length k] h n (.int .i64 ((foldW (wordSum L true) : Nat) : Int)) [] n := by
  refine rsx60 (by simp) (by simp) ?_
  simp -dsimp (discharger := omega) [B60]
  refine loop_use (words_loop (k := k) hl hr n L.length _ _ _ ⟨rfl, rfl, 0, by omega, rfl⟩) (by simp [wordSum, foldW]) (.refl _) ?_
  rintro e σ' h' n' ⟨rfl, rfl, rfl, g3⟩
  simp -dsimp (discharger := omega) [g3, HSub.refl]
end
end Go.Proofs.YtkaibjdogeikbaaDoor.Am
namespace Go.Proofs.YtkaibjdogeikbaaDoor.Am
noncomputable section
/- CONTRACT: the document's all. -/
theorem lay_newv {v : Int} {w : Nat} (hv : v = (w : Int)) (hw : w < 65536) {h : AHeap} {n : Nat} (hwf : WF h n) : Ret EV07 46 [.slice none 0 0, .int .i64 v] h n (.slice (some ⟨n + 1, 0, some 2⟩) 2 2) [(n + 1, bufB (twoL w) 2)] (n + 2) := by
  subst hv
  exact lay_new hw hwf
theorem all_ret {src dst proto : Nat} (h1 : src < 4294967296) (h2 : dst < 4294967296) (h3 : proto < 256) {h : AHeap} {n : Nat} {b : Value} {bs : List UInt8} (hb : BS h b bs) (hw : WF h n) (hlen : bs.length < 65536) :
    Ret EV07 61 [.int .u32 (src : Int), .int .u32 (dst : Int), .int .i64 (proto : Int), b] h n (.slice (some ⟨n + 1, 0, some (aheadL src dst proto bs.length ++ bs).length⟩) (aheadL src dst proto bs.length ++ bs).length 2) [(n + 1, bufB (aheadL src dst proto bs.length ++ bs) 2)] (n + 12) := by
  refine rsx61 (by simp) (by simp) ?_
  obtain ⟨i2, k2, rfl⟩ := hb.shape
  have hsd : Int.tdiv (src : Int) 65536 = ((src / 65536 : Nat) : Int) := tdiv_nat _ 65536
  have had : Int.tdiv (dst : Int) 65536 = ((dst / 65536 : Nat) : Int) := tdiv_nat _ 65536
  have hsm : Int.tmod (src : Int) 65536 = ((src % 65536 : Nat) : Int) := tmod_nat _ 65536
  have ham : Int.tmod (dst : Int) 65536 = ((dst % 65536 : Nat) : Int) := tmod_nat _ 65536
  have hcl : [Value.int .u8 0, .int .u8 (proto : Int)] = u8s [0, UInt8.ofNat proto] := by
    simp [u8s]
    omega
  simp -dsimp (discharger := omega) [B61, hsd]
  with_reducible refine call_ret (lay_newv (w := src / 65536) (by omega) (by omega) hw) ?_
  simp -dsimp (discharger := omega) [hsm]
  with_reducible refine call_ret (lay_v (w := src % 65536) (by omega) (by omega) (q := n + 1) (m := 2) (L := twoL (src / 65536)) (by simp) (.of fun j hj => by simp (discharger := omega) [hw.none (i := j) (by omega)]) (by simp) (by simp) (by simp)) ?_
  simp -dsimp (discharger := omega) [had]
  with_reducible refine call_ret (lay_v (w := dst / 65536) (by omega) (by omega) (q := n + 1) (m := 2) (L := twoL (src / 65536) ++ twoL (src % 65536)) (by simp) (.of fun j hj => by simp (discharger := omega) [hw.none (i := j) (by omega)]) (by simp) (by simp) (by simp)) ?_
  simp -dsimp (discharger := omega) [ham]
  with_reducible refine call_ret (lay_v (w := dst % 65536) (by omega) (by omega) (q := n + 1) (m := 2) (L := twoL (src / 65536) ++ twoL (src % 65536) ++ twoL (dst / 65536)) (by simp) (.of fun j hj => by simp (discharger := omega) [hw.none (i := j) (by omega)]) (by simp) (by simp) (by simp)) ?_
  have hF : foursL [src, dst] = twoL (src / 65536) ++ (twoL (src % 65536) ++ (twoL (dst / 65536) ++ twoL (dst % 65536))) := by simp [foursL, fourL, twosL]
  have l8 : (foursL [src, dst]).length = 8 := by simp [foursL_length]
  simp -dsimp (discharger := omega) [aFill, ← hF]
  refine append_cons (q := n + 1) (m := 2) (k := 2) (bs := foursL [src, dst]) (a := 0) (vs := [UInt8.ofNat proto]) (by simp (discharger := omega) []) (by simp [l8]) (by simp) (by simp [aElems, take_u8s2, hcl]) (by simp) (by simp) ?_
  simp -dsimp (discharger := omega) []
  have l10 : (foursL [src, dst] ++ [0, UInt8.ofNat proto]).length = 10 := by simp [l8]
  with_reducible refine call_ret (lay_v (w := bs.length) (by omega) (by omega) (q := n + 1) (m := 2) (L := foursL [src, dst] ++ [0, UInt8.ofNat proto]) (by simp [l8]) (.of fun j hj => by simp (discharger := omega) [hw.none (i := j) (by omega)]) (by simp) (by simp) (by simp)) ?_
  have hA : foursL [src, dst] ++ [0, UInt8.ofNat proto] ++ twoL bs.length = aheadL src dst proto bs.length := by simp [aheadL, twosL]
  have l12 := aheadL_len src dst proto bs.length
  rw [hA]
  generalize aheadL src dst proto bs.length = A at l12 ⊢
  simp -dsimp (discharger := omega) []
  refine append_own (q := n + 1) (m := 2) (bs := A) (vs := bs) (len := 12) (by simp) l12 (by omega) (BS.elems (BS.mono ?_ hb)) (by omega) (fun h1 hs1 hc1 => ?_)
  · exact .ofE (by
      repeat (refine .right (.inr (hw.none (by omega))) ?_)
      exact .refl _ _)
  simp -dsimp (discharger := omega) [l12]
  refine .trans (.put_both (n + 1) _ ?_) hs1
  exact .ofE (by
      repeat (refine .right (.inr (hw.none (by omega))) ?_)
      exact .refl _ _)
end
end Go.Proofs.YtkaibjdogeikbaaDoor.Am
namespace Go.Proofs.YtkaibjdogeikbaaDoor.Am
noncomputable section
/- CONTRACT: the document's Right. -/
theorem words_all {src dst proto : Nat} {bs : List UInt8} : foldW (wordSum (aheadL src dst proto bs.length ++ bs) true) = 65535 - sumN src dst proto bs := by
  have l12 := aheadL_len src dst proto bs.length
  have hf := foldW_le (wordSum (aheadL src dst proto bs.length) true + wordSum bs true)
  rw [wordSum_append]
  unfold flips sumN
  rw [l12, if_pos (by omega)]
  omega
theorem words_eq65535 {src dst proto : Nat} {bs : List UInt8} : (((65535 - sumN src dst proto bs : Nat) : Int) == 65535) = (sumN src dst proto bs == 0) := by
  have hs := sumN_le src dst proto bs
  generalize sumN src dst proto bs = x at hs ⊢
  by_cases h : x = 0
  · subst h; rfl
  · have e1 : (x == 0) = false := by simpa using h
    rw [e1, beq_eq_false_iff_ne]; omega
theorem refRight_ret {src dst proto : Nat} (h1 : src < 4294967296) (h2 : dst < 4294967296) (h3 : proto < 256) {h : AHeap} {n : Nat} {b : Value} {bs : List UInt8} (hb : BS h b bs) (hw : WF h n) (hlen : bs.length < 65536) :
    Ret EV07 35 [.int .u32 (src : Int), .int .u32 (dst : Int), .int .i64 (proto : Int), b] h n (.bool (rightB src dst proto bs)) [] (n + 12) := by
  have hall := all_ret h1 h2 h3 hb hw hlen
  have hl12 := aheadL_len src dst proto bs.length
  have hwr : ∀ H : AHeap, Ret EV07 60 [.slice (some ⟨n + 1, 0, some (aheadL src dst proto bs.length ++ bs).length⟩) (aheadL src dst proto bs.length ++ bs).length 2] (H.put (n + 1) (bufB (aheadL src dst proto bs.length ++ bs) 2)) (n + 12) (.int .i64 ((65535 - sumN src dst proto bs : Nat) : Int)) [] (n + 12) := fun H => by
    have := words_ret (L := aheadL src dst proto bs.length ++ bs) (by simp; omega) (i := n + 1) (o := 0) (g := (aheadL src dst proto bs.length ++ bs).length) (k := 2) (h := H.put (n + 1) (bufB (aheadL src dst proto bs.length ++ bs) 2)) (by simp [bufB]; exact ⟨by omega, List.take_of_length_le (by simp)⟩) (n + 12)
    rwa [words_all] at this
  have hend := words_eq65535 (src := src) (dst := dst) (proto := proto) (bs := bs)
  have hsub : ∀ B, HSub h (h.put (n + 1) B) := fun B => (HSub.refl h).new hw (by omega) B
  generalize aheadL src dst proto bs.length ++ bs = A at hall hwr
  by_cases hp : proto = 17 ∧ 8 ≤ bs.length
  · obtain ⟨rfl, h8⟩ := hp
    obtain ⟨bi, bk, rfl⟩ := hb.shape
    obtain ⟨i, o, g, rfl, hr⟩ := hb.some (by omega)
    have ht := two_ret (n := n) (k := bk) (T := 6) (v := 6) rfl hr (by omega) (by omega)
    have g6 : bs.getD 6 0 = bs[6] := by simp [List.getD_eq_getElem?_getD, List.getElem?_eq_getElem (show 6 < bs.length by omega)]
    have g7 : bs.getD 7 0 = bs[7] := by simp [List.getD_eq_getElem?_getD, List.getElem?_eq_getElem (show 7 < bs.length by omega)]
    rw [num2 (by omega)] at ht
    rw [rightB, g6, g7]
    generalize bs[6] = b6 at ht ⊢
    have h67 : 6 + 1 = 7 := rfl
    simp only [h67] at ht
    generalize bs[7] = b7 at ht ⊢
    refine rsx35 (by simp) (by simp) ?_
    simp -dsimp (discharger := omega) [B35]
    with_reducible refine call_ret ht ?_
    by_cases z : b6 = 0 ∧ b7 = 0
    · obtain ⟨rfl, rfl⟩ := z
      simp -dsimp (discharger := omega) [h8]
      exact HSub.refl h
    · have nz : ((256 * b6.toNat + b7.toNat : Nat) : Int) ≠ 0 := fun e => z ⟨UInt8.toNat_inj.1 (by simp; omega), UInt8.toNat_inj.1 (by simp; omega)⟩
      have nb : (((256 * b6.toNat + b7.toNat : Nat) : Int) == 0) = false := by simpa using nz
      have mb : (b6 == 0 && b7 == 0) = false := by
        by_cases q : b6 = 0
        · have : b7 ≠ 0 := fun e => z ⟨q, e⟩
          simp [this]
        · simp [q]
      generalize 256 * b6.toNat + b7.toNat = y at nb ⊢
      simp -dsimp (discharger := omega) [nb]
      with_reducible refine call_ret hall ?_
      simp -dsimp (discharger := omega) []
      with_reducible refine call_ret (hwr _) ?_
      simp -dsimp (discharger := omega) [hend]
      exact ⟨fun a b => absurd ⟨a, b⟩ z, hsub _⟩
  · have e : rightB src dst proto bs = (sumN src dst proto bs == 0) := by
      rw [rightB]
      by_cases h17 : proto = 17
      · have : ¬ 8 ≤ bs.length := fun h => hp ⟨h17, h⟩
        simp [this]
      · simp [h17]
    rw [e]
    obtain ⟨bi, bk, rfl⟩ := hb.shape
    refine rsx35 (by simp) (by simp) ?_
    by_cases h17 : proto = 17
    · subst h17
      have h8 : ¬ 8 ≤ bs.length := fun h => hp ⟨rfl, h⟩
      simp -dsimp (discharger := omega) [B35]
      with_reducible refine call_ret hall ?_
      simp -dsimp (discharger := omega) []
      with_reducible refine call_ret (hwr _) ?_
      simp -dsimp (discharger := omega) [hend]
      exact hsub _
    · have n17 : ((proto : Int) == 17) = false := by simp; omega
      simp -dsimp (discharger := omega) [B35, n17]
      with_reducible refine call_ret hall ?_
      simp -dsimp (discharger := omega) []
      with_reducible refine call_ret (hwr _) ?_
      simp -dsimp (discharger := omega) [hend]
      exact hsub _
end
end Go.Proofs.YtkaibjdogeikbaaDoor.Am
namespace Go.Proofs.YtkaibjdogeikbaaDoor.Am
noncomputable section
/- CONTRACT: the document's Seal. -/
theorem refSeal_ok {src dst proto a : Nat} (h1 : src < 4294967296) (h2 : dst < 4294967296) (hpa : proto = 6 ∧ a = 16 ∨ proto = 17 ∧ a = 6) {h : AHeap} {n : Nat} {b : Value} {bs : List UInt8} (hb : BS h b bs) (hw : WF h n) (hlen : bs.length < 65536) (hal : a + 2 ≤ bs.length) :
    Ret EV07 34 [.int .u32 (src : Int), .int .u32 (dst : Int), .int .i64 (proto : Int), b] h n (.tuple #[.slice (some ⟨n, 0, some bs.length⟩) bs.length 2, .int .i64 0]) [(n, bufB (sealL src dst proto a bs) bs.length)] (n + 13) := by
  obtain ⟨bi, bk, rfl⟩ := hb.shape
  obtain ⟨i, o, g, rfl, hr⟩ := hb.some (by omega)
  have hne : ¬ bs = [] := fun e => by rw [e] at hal; simp at hal
  have p1 := u8s_put (l := bs) (i := a) (by omega) 0
  have p2 := u8s_put (l := bs.set a 0) (i := a + 1) (by simp; omega) 0
  have hz : (((0 : UInt8).toNat : Nat) : Int) = 0 := rfl
  rw [hz] at p1 p2
  refine rsx34 (by simp) (by simp) ?_
  rcases hpa with ⟨rfl, rfl⟩ | ⟨rfl, rfl⟩
  · simp -dsimp (discharger := omega) [B34, aAppend, aElems, hr]
    refine call_gen (fun G => G.get n = some (bufB (unsum 16 bs) bs.length) ∧ HSub h G ∧ WF G (n + 1))
      ⟨by simp [bufB, unsum, p1, p2], ((((HSub.refl h).new hw (Nat.le_refl n) _).new hw (Nat.le_refl n) _).new hw (Nat.le_refl n) _), WF.put (n := n + 1) (WF.put (n := n + 1) (hw.put (m := n + 1) _ (by omega) (by omega)) _ (by omega) (by omega)) _ (by omega) (by omega)⟩ ?_
    rintro G ⟨g1, g2, g3⟩
    have ul := unsum_len 16 bs
    have hxl := sumN_le src dst 6 (unsum 16 bs)
    have hbs : BS G (.slice (some ⟨n, 0, some (unsum 16 bs).length⟩) (unsum 16 bs).length 2) (unsum 16 bs) := .mk (by unfold bufB at g1; rw [AHeap.read_of g1]; simp [ul]; exact List.take_of_length_le (by simp [ul]))
    have hall := all_ret (proto := 6) h1 h2 (by decide) hbs g3 (by omega)
    have hl12 := aheadL_len src dst 6 (unsum 16 bs).length
    have hwr : Ret EV07 60 [.slice (some ⟨n + 1 + 1, 0, some (aheadL src dst 6 (unsum 16 bs).length ++ unsum 16 bs).length⟩) (aheadL src dst 6 (unsum 16 bs).length ++ unsum 16 bs).length 2] (G.put (n + 1 + 1) (bufB (aheadL src dst 6 (unsum 16 bs).length ++ unsum 16 bs) 2)) (n + 1 + 12) (.int .i64 ((65535 - sumN src dst 6 (unsum 16 bs) : Nat) : Int)) [] (n + 1 + 12) := by
      have := words_ret (L := aheadL src dst 6 (unsum 16 bs).length ++ unsum 16 bs) (by simp; omega) (i := n + 1 + 1) (o := 0) (g := (aheadL src dst 6 (unsum 16 bs).length ++ unsum 16 bs).length) (k := 2) (h := G.put (n + 1 + 1) (bufB (aheadL src dst 6 (unsum 16 bs).length ++ unsum 16 bs) 2)) (by simp [bufB]; exact ⟨by omega, List.take_of_length_le (by simp)⟩) (n + 1 + 12)
      rwa [words_all] at this
    generalize aheadL src dst 6 (unsum 16 bs).length ++ unsum 16 bs = W at hall hwr
    rw [ul] at hall
    with_reducible refine call_ret hall ?_
    simp -dsimp (discharger := omega) []
    with_reducible refine call_ret hwr ?_
    rw [sealL]
    have hsn : sealN src dst 6 16 bs = if 6 = 17 ∧ sumN src dst 6 (unsum 16 bs) = 0 then 65535 else sumN src dst 6 (unsum 16 bs) := rfl
    have ul2 : (u8s (unsum 16 bs)).length = bs.length := by simp [ul]
    have e1 : (G.put (n + 1 + 1) (bufB W 2)).get n = some (bufB (unsum 16 bs) bs.length) := by rw [AHeap.get_put_ne _ _ (by omega)]; exact g1
    have qh : HSub h (G.put (n + 1 + 1) (bufB W 2)) := g2.new hw (by omega) _
    have hsub1 : (65535 : Int) - ((65535 - sumN src dst 6 (unsum 16 bs) : Nat) : Int) = ((sumN src dst 6 (unsum 16 bs) : Nat) : Int) := by omega
    generalize G.put (n + 1 + 1) (bufB W 2) = H at e1 qh ⊢
    generalize sumN src dst 6 (unsum 16 bs) = x at hxl hsn hsub1 ⊢
    generalize unsum 16 bs = U at e1 ul ul2 ⊢
    unfold bufB at e1
    rw [if_neg (fun e => by omega)] at hsn
    rw [hsn]
    have v1 : ((x : Nat) : Int) / 256 = ((UInt8.ofNat (x / 256)).toNat : Int) := by simp <;> omega
    have v2 : ((x : Nat) : Int) % 256 = ((UInt8.ofNat (x % 256)).toNat : Int) := by simp
    have q1 := u8s_put (l := U) (i := 16) (by omega) (UInt8.ofNat (x / 256))
    have q2 := u8s_put (l := U.set 16 (UInt8.ofNat (x / 256))) (i := 17) (by simp; omega) (UInt8.ofNat (x % 256))
    rw [← v1] at q1
    rw [← v2] at q2
    have td : Int.tdiv ((x : Nat) : Int) 256 = ((x / 256 : Nat) : Int) := rfl
    have tm : Int.tmod ((x : Nat) : Int) 256 = ((x % 256 : Nat) : Int) := rfl
    simp -dsimp (discharger := omega) [e1, ul2, hsub1, td, tm]
    refine .trans (.put_both n _ qh) (.over ?_)
    rw [q1, q2]
    rfl
  · simp -dsimp (discharger := omega) [B34, aAppend, aElems, hr]
    refine call_gen (fun G => G.get n = some (bufB (unsum 6 bs) bs.length) ∧ HSub h G ∧ WF G (n + 1))
      ⟨by simp [bufB, unsum, p1, p2], ((((HSub.refl h).new hw (Nat.le_refl n) _).new hw (Nat.le_refl n) _).new hw (Nat.le_refl n) _), WF.put (n := n + 1) (WF.put (n := n + 1) (hw.put (m := n + 1) _ (by omega) (by omega)) _ (by omega) (by omega)) _ (by omega) (by omega)⟩ ?_
    rintro G ⟨g1, g2, g3⟩
    have ul := unsum_len 6 bs
    have hxl := sumN_le src dst 17 (unsum 6 bs)
    have hbs : BS G (.slice (some ⟨n, 0, some (unsum 6 bs).length⟩) (unsum 6 bs).length 2) (unsum 6 bs) := .mk (by unfold bufB at g1; rw [AHeap.read_of g1]; simp [ul]; exact List.take_of_length_le (by simp [ul]))
    have hall := all_ret (proto := 17) h1 h2 (by decide) hbs g3 (by omega)
    have hl12 := aheadL_len src dst 17 (unsum 6 bs).length
    have hwr : Ret EV07 60 [.slice (some ⟨n + 1 + 1, 0, some (aheadL src dst 17 (unsum 6 bs).length ++ unsum 6 bs).length⟩) (aheadL src dst 17 (unsum 6 bs).length ++ unsum 6 bs).length 2] (G.put (n + 1 + 1) (bufB (aheadL src dst 17 (unsum 6 bs).length ++ unsum 6 bs) 2)) (n + 1 + 12) (.int .i64 ((65535 - sumN src dst 17 (unsum 6 bs) : Nat) : Int)) [] (n + 1 + 12) := by
      have := words_ret (L := aheadL src dst 17 (unsum 6 bs).length ++ unsum 6 bs) (by simp; omega) (i := n + 1 + 1) (o := 0) (g := (aheadL src dst 17 (unsum 6 bs).length ++ unsum 6 bs).length) (k := 2) (h := G.put (n + 1 + 1) (bufB (aheadL src dst 17 (unsum 6 bs).length ++ unsum 6 bs) 2)) (by simp [bufB]; exact ⟨by omega, List.take_of_length_le (by simp)⟩) (n + 1 + 12)
      rwa [words_all] at this
    generalize aheadL src dst 17 (unsum 6 bs).length ++ unsum 6 bs = W at hall hwr
    rw [ul] at hall
    with_reducible refine call_ret hall ?_
    simp -dsimp (discharger := omega) []
    with_reducible refine call_ret hwr ?_
    rw [sealL]
    have hsn : sealN src dst 17 6 bs = if 17 = 17 ∧ sumN src dst 17 (unsum 6 bs) = 0 then 65535 else sumN src dst 17 (unsum 6 bs) := rfl
    have ul2 : (u8s (unsum 6 bs)).length = bs.length := by simp [ul]
    have e1 : (G.put (n + 1 + 1) (bufB W 2)).get n = some (bufB (unsum 6 bs) bs.length) := by rw [AHeap.get_put_ne _ _ (by omega)]; exact g1
    have qh : HSub h (G.put (n + 1 + 1) (bufB W 2)) := g2.new hw (by omega) _
    have hsub1 : (65535 : Int) - ((65535 - sumN src dst 17 (unsum 6 bs) : Nat) : Int) = ((sumN src dst 17 (unsum 6 bs) : Nat) : Int) := by omega
    generalize G.put (n + 1 + 1) (bufB W 2) = H at e1 qh ⊢
    generalize sumN src dst 17 (unsum 6 bs) = x at hxl hsn hsub1 ⊢
    generalize unsum 6 bs = U at e1 ul ul2 ⊢
    unfold bufB at e1
    by_cases hx : x = 0
    · subst hx
      rw [if_pos ⟨rfl, rfl⟩] at hsn
      rw [hsn]
      have v1 : ((65535 : Nat) : Int) / 256 = ((UInt8.ofNat (65535 / 256)).toNat : Int) := by simp <;> omega
      have v2 : ((65535 : Nat) : Int) % 256 = ((UInt8.ofNat (65535 % 256)).toNat : Int) := by simp
      have q1 := u8s_put (l := U) (i := 6) (by omega) (UInt8.ofNat (65535 / 256))
      have q2 := u8s_put (l := U.set 6 (UInt8.ofNat (65535 / 256))) (i := 7) (by simp; omega) (UInt8.ofNat (65535 % 256))
      rw [← v1] at q1
      rw [← v2] at q2
      have td : Int.tdiv ((65535 : Nat) : Int) 256 = ((65535 / 256 : Nat) : Int) := rfl
      have tm : Int.tmod ((65535 : Nat) : Int) 256 = ((65535 % 256 : Nat) : Int) := rfl
      simp -dsimp (discharger := omega) [e1, ul2]
      refine .trans (.put_both n _ qh) (.over ?_)
      have z1 := u8s_put (l := U) (i := 6) (by omega) 255
      have z2 := u8s_put (l := U.set 6 255) (i := 7) (by simp; omega) 255
      have z0 : (((255 : UInt8).toNat : Nat) : Int) = 255 := rfl
      rw [z0] at z1 z2
      rw [z1, z2]
      rfl
    · rw [if_neg (fun e => hx e.2)] at hsn
      rw [hsn]
      have nx : ((x : Int) == 0) = false := by rw [nat0]; simpa using hx
      have v1 : ((x : Nat) : Int) / 256 = ((UInt8.ofNat (x / 256)).toNat : Int) := by simp <;> omega
      have v2 : ((x : Nat) : Int) % 256 = ((UInt8.ofNat (x % 256)).toNat : Int) := by simp
      have q1 := u8s_put (l := U) (i := 6) (by omega) (UInt8.ofNat (x / 256))
      have q2 := u8s_put (l := U.set 6 (UInt8.ofNat (x / 256))) (i := 7) (by simp; omega) (UInt8.ofNat (x % 256))
      rw [← v1] at q1
      rw [← v2] at q2
      have td : Int.tdiv ((x : Nat) : Int) 256 = ((x / 256 : Nat) : Int) := rfl
      have tm : Int.tmod ((x : Nat) : Int) 256 = ((x % 256 : Nat) : Int) := rfl
      simp -dsimp (discharger := omega) [e1, ul2, hsub1, td, tm, nx]
      refine .trans (.put_both n _ qh) (.over ?_)
      rw [q1, q2]
      rfl
end
end Go.Proofs.YtkaibjdogeikbaaDoor.Am
namespace Go.Proofs.YtkaibjdogeikbaaDoor.Am
noncomputable section
/- CONTRACTS of Seal, of any protocol: the program's, the document's. -/
def sealA (proto : Nat) : Nat := if proto = 17 then 6 else 16
def sealE (proto : Nat) (bs : List UInt8) : Int := if proto ≠ 6 ∧ proto ≠ 17 then 1 else if bs.length < sealA proto + 2 then 4 else 0
def sealX (src dst proto : Nat) (bs : List UInt8) : List UInt8 := if sealE proto bs = 0 then sealL src dst proto (sealA proto) bs else []
theorem seal_none {src dst proto : Nat} {h : AHeap} {n : Nat} {b : Value} {bs : List UInt8} (hb : BS h b bs) (hs : HasSums h) (h6 : proto ≠ 6) (h17 : proto ≠ 17) :
    Ret EV07 29 [.int .u32 (src : Int), .int .u32 (dst : Int), .int .u8 (proto : Int), b] h n (.tuple #[.slice none 0 0, .int .i64 1]) [] n := by
  have hlk := sums_none hs h6 h17 true
  simp only [if_true] at hlk
  refine rsx29 (by simp) (by simp) ?_
  simp -dsimp (discharger := omega) [B29, hs.1, AHeap.read_of hs.1, hlk, keyKind]
  exact .refl _
theorem refSeal_short {src dst proto a : Nat} {h : AHeap} {n : Nat} {b : Value} {bs : List UInt8} (hb : BS h b bs) (hpa : proto = 6 ∧ a = 16 ∨ proto = 17 ∧ a = 6) (hlen : bs.length < 65536) (hal : bs.length < a + 2) :
    Ret EV07 34 [.int .u32 (src : Int), .int .u32 (dst : Int), .int .i64 (proto : Int), b] h n (.tuple #[.slice none 0 0, .int .i64 4]) [] n := by
  obtain ⟨bi, bk, rfl⟩ := hb.shape
  refine rsx34 (by simp) (by simp) ?_
  rcases hpa with ⟨rfl, rfl⟩ | ⟨rfl, rfl⟩
  · simp -dsimp (discharger := omega) [B34]
    exact .refl _
  · simp -dsimp (discharger := omega) [B34]
    exact .refl _
theorem refSeal_none {src dst proto : Nat} {h : AHeap} {n : Nat} {b : Value} {bs : List UInt8} (hb : BS h b bs) (h6 : proto ≠ 6) (h17 : proto ≠ 17) :
    Ret EV07 34 [.int .u32 (src : Int), .int .u32 (dst : Int), .int .i64 (proto : Int), b] h n (.tuple #[.slice none 0 0, .int .i64 1]) [] n := by
  obtain ⟨bi, bk, rfl⟩ := hb.shape
  have n6 : ((proto : Int) != 6) = true := by simp; omega
  have n17 : ((proto : Int) != 17) = true := by simp; omega
  refine rsx34 (by simp) (by simp) ?_
  simp -dsimp (discharger := omega) [B34, n6, n17]
  exact .refl _
theorem bs_own {h : AHeap} {i m len : Nat} {bs : List UInt8} (hl : bs.length = len) (hm : m ≤ len) : BS (h.put i (bufB bs m)) (.slice (some ⟨i, 0, some len⟩) len 2) bs := by
  subst hl; exact .new hm
theorem seal_call {src dst proto : Nat} (h1 : src < 4294967296) (h2 : dst < 4294967296) (h3 : proto < 256) {h : AHeap} {n : Nat} {b : Value} {bs : List UInt8} (hb : BS h b bs) (hw : WF h n) (hs : HasSums h) (hlen : bs.length < 65536)
    {Q : Value → AHeap → Nat → Prop} {tk : Tok Q} (k : ∀ v h', HSub h h' → WF h' (n + 31) → BS h' v (sealX src dst proto bs) → Q (.tuple #[v, .int .i64 (sealE proto bs)]) h' (n + 31)) : HasCallT EV07 29 [.int .u32 (src : Int), .int .u32 (dst : Int), .int .u8 (proto : Int), b] h n Q tk := by
  by_cases hp : proto = 6 ∨ proto = 17
  · have hpa : proto = 6 ∧ sealA proto = 16 ∨ proto = 17 ∧ sealA proto = 6 := by
      rcases hp with rfl | rfl
      · exact .inl ⟨rfl, rfl⟩
      · exact .inr ⟨rfl, rfl⟩
    have hlk : aLookup h true (.int .i64 0) (.map (some 4096)) (.int .u8 (proto : Int)) = some (.tuple #[.int .i64 (sealA proto : Int), .bool true]) := by
      rcases hp with rfl | rfl
      · exact sums_6 hs true
      · exact sums_17 hs true
    by_cases hl : bs.length < sealA proto + 2
    · have e : sealE proto bs = 4 := by unfold sealE; rw [if_neg (by omega), if_pos hl]
      have ex : sealX src dst proto bs = [] := by unfold sealX; rw [e]; rfl
      rw [e, ex] at k
      exact call_ret ((seal_short hb hs hlen hlk (by omega) hl).mono (by omega)) (k _ _ (.refl h) (hw.mono (by omega)) .nil)
    · have e : sealE proto bs = 0 := by unfold sealE; rw [if_neg (by omega), if_neg hl]
      have ex : sealX src dst proto bs = sealL src dst proto (sealA proto) bs := by unfold sealX; rw [e]; rfl
      rw [e, ex] at k
      exact call_ret (seal_ok h1 h2 h3 hb hw hs hlen hlk (by omega) (by omega)) (k _ _ ((HSub.refl h).new hw (Nat.le_refl n) _) (hw.put _ (by omega) (by omega)) (bs_own (sealL_len _ _ _ _ _) (Nat.le_refl _)))
  · have e : sealE proto bs = 1 := by unfold sealE; rw [if_pos (by omega)]
    have ex : sealX src dst proto bs = [] := by unfold sealX; rw [e]; rfl
    rw [e, ex] at k
    exact call_ret ((seal_none hb hs (by omega) (by omega)).mono (by omega)) (k _ _ (.refl h) (hw.mono (by omega)) .nil)
theorem refSeal_call {src dst proto : Nat} (h1 : src < 4294967296) (h2 : dst < 4294967296) {h : AHeap} {n : Nat} {b : Value} {bs : List UInt8} (hb : BS h b bs) (hw : WF h n) (hlen : bs.length < 65536)
    {Q : Value → AHeap → Nat → Prop} {tk : Tok Q} (k : ∀ v h', HSub h h' → WF h' (n + 13) → BS h' v (sealX src dst proto bs) → Q (.tuple #[v, .int .i64 (sealE proto bs)]) h' (n + 13)) : HasCallT EV07 34 [.int .u32 (src : Int), .int .u32 (dst : Int), .int .i64 (proto : Int), b] h n Q tk := by
  by_cases hp : proto = 6 ∨ proto = 17
  · have hpa : proto = 6 ∧ sealA proto = 16 ∨ proto = 17 ∧ sealA proto = 6 := by
      rcases hp with rfl | rfl
      · exact .inl ⟨rfl, rfl⟩
      · exact .inr ⟨rfl, rfl⟩
    by_cases hl : bs.length < sealA proto + 2
    · have e : sealE proto bs = 4 := by unfold sealE; rw [if_neg (by omega), if_pos hl]
      have ex : sealX src dst proto bs = [] := by unfold sealX; rw [e]; rfl
      rw [e, ex] at k
      exact call_ret ((refSeal_short hb hpa hlen hl).mono (by omega)) (k _ _ (.refl h) (hw.mono (by omega)) .nil)
    · have e : sealE proto bs = 0 := by unfold sealE; rw [if_neg (by omega), if_neg hl]
      have ex : sealX src dst proto bs = sealL src dst proto (sealA proto) bs := by unfold sealX; rw [e]; rfl
      rw [e, ex] at k
      exact call_ret (refSeal_ok h1 h2 hpa hb hw hlen (by omega)) (k _ _ ((HSub.refl h).new hw (Nat.le_refl n) _) (hw.put _ (by omega) (by omega)) (bs_own (sealL_len _ _ _ _ _) (Nat.le_refl _)))
  · have e : sealE proto bs = 1 := by unfold sealE; rw [if_pos (by omega)]
    have ex : sealX src dst proto bs = [] := by unfold sealX; rw [e]; rfl
    rw [e, ex] at k
    exact call_ret ((refSeal_none hb (by omega) (by omega)).mono (by omega)) (k _ _ (.refl h) (hw.mono (by omega)) .nil)
end
end Go.Proofs.YtkaibjdogeikbaaDoor.Am
namespace Go.Proofs.YtkaibjdogeikbaaDoor.Am
noncomputable section
/- CONTRACT: the document's GetUdp, GetTcp. -/
theorem bs_mid {h : AHeap} {i o g : Nat} {vs : List UInt8} (hr : h.read i g o vs.length = some (u8s vs)) (a m k' : Nat) (hm : a + m ≤ vs.length) : BS h (.slice (some ⟨i, o + a, some g⟩) m k') ((vs.drop a).take m) := by
  have e : ((vs.drop a).take m).length = m := by simp; omega
  have := read_sub hr (a := a) (b := m) hm
  rw [u8s_drop, u8s_take] at this
  have h2 : BS h (.slice (some ⟨i, o + a, some g⟩) ((vs.drop a).take m).length k') ((vs.drop a).take m) := .mk (by rw [e]; exact this)
  rwa [e] at h2
theorem refGetUdp_call {h : AHeap} {n : Nat} {b : Value} {L : List UInt8} (hb : BS h b L) (hw : WF h n) (hL : L.length < 100000)
    {Q : Value → AHeap → Nat → Prop} {tk : Tok Q} (k : ∀ b' h', HSub h h' → WF h' (n + 1) → BS h' b' (gotU L).bs → Q (.tuple #[rudpV (gotU L).fr (gotU L).to (gotU L).ln (gotU L).sm b', .int .i64 ((gotU L).e : Int)]) h' (n + 1)) : HasCallT EV07 32 [b] h n Q tk := by
  obtain ⟨bi, bk, rfl⟩ := hb.shape
  have hs1 : ∀ X, HSub h (h.put n X) := fun X => (HSub.refl h).new hw (Nat.le_refl n) X
  have hs2 : ∀ X Y, HSub h ((h.put n X).put n Y) := fun X Y => ((HSub.refl h).new hw (Nat.le_refl n) X).new hw (Nat.le_refl n) Y
  have w1 : ∀ X, WF (h.put n X) (n + 1) := fun X => hw.put (m := n + 1) X (by omega) (by omega)
  have w2 : ∀ X Y, WF ((h.put n X).put n Y) (n + 1) := fun X Y => WF.put (n := n + 1) (hw.put (m := n + 1) X (by omega) (by omega)) Y (by omega) (by omega)
  rcases Nat.lt_or_ge L.length 8 with hlen | hlen
  · have eg : gotU L = ⟨0, 0, 0, 0, [], 4⟩ := by rw [gotU, if_pos hlen]
    rw [eg] at k
    with_reducible refine inl32 ?_
    simp -dsimp (discharger := omega) [B32, aFill]
    exact k (.slice none 0 0) _ (hs2 _ _) (w2 _ _) .nil
  · obtain ⟨i, o, g, rfl, hr⟩ := hb.some (by omega)
    have hr1 : ∀ X, (h.put n X).read i g o L.length = some (u8s L) := fun X => read_mono (hs1 X) hr
    have t4 : ∀ X, Ret EV07 58 _ _ _ _ _ _ := fun X => two_ret (n := n + 1) (k := bk) (T := 4) (v := 4) rfl (hr1 X) (by omega) (by omega)
    have hm : num L 4 2 < 65536 := num_lt L 4 2
    rcases Nat.lt_or_ge (num L 4 2) 8 with h5 | h5
    · have eg : gotU L = ⟨0, 0, 0, 0, [], 5⟩ := by rw [gotU, if_neg (by omega), if_pos h5]
      rw [eg] at k
      with_reducible refine inl32 ?_
      simp -dsimp (discharger := omega) [B32]
      with_reducible refine call_ret (t4 _) ?_
      simp -dsimp (discharger := omega) [aFill]
      exact k (.slice none 0 0) _ (hs2 _ _) (w2 _ _) .nil
    · rcases Nat.lt_or_ge L.length (num L 4 2) with h6 | h6
      · have eg : gotU L = ⟨0, 0, 0, 0, [], 4⟩ := by rw [gotU, if_neg (by omega), if_neg (by omega), if_pos h6]
        rw [eg] at k
        with_reducible refine inl32 ?_
        simp -dsimp (discharger := omega) [B32]
        with_reducible refine call_ret (t4 _) ?_
        simp -dsimp (discharger := omega) [aFill]
        exact k (.slice none 0 0) _ (hs2 _ _) (w2 _ _) .nil
      · have eg : gotU L = ⟨num L 0 2, num L 2 2, num L 4 2, num L 6 2, (L.drop 8).take (num L 4 2 - 8), 0⟩ := by
          rw [gotU, if_neg (by omega), if_neg (by omega), if_neg (by omega)]
        rw [eg] at k
        have t0 : ∀ X, Ret EV07 58 _ _ _ _ _ _ := fun X => two_ret (n := n + 1) (k := bk) (T := 0) (v := 0) rfl (hr1 X) (by omega) (by omega)
        have t2 : ∀ X, Ret EV07 58 _ _ _ _ _ _ := fun X => two_ret (n := n + 1) (k := bk) (T := 2) (v := 2) rfl (hr1 X) (by omega) (by omega)
        have t6 : ∀ X, Ret EV07 58 _ _ _ _ _ _ := fun X => two_ret (n := n + 1) (k := bk) (T := 6) (v := 6) rfl (hr1 X) (by omega) (by omega)
        generalize num L 4 2 = m at hm h5 h6 t4 k
        with_reducible refine inl32 ?_
        simp -dsimp (discharger := omega) [B32]
        with_reducible refine call_ret (t4 _) ?_
        simp -dsimp (discharger := omega) []
        refine ret_ret (t0 _) ?_
        simp -dsimp (discharger := omega) []
        refine ret_ret (t2 _) ?_
        simp -dsimp (discharger := omega) []
        refine ret_ret (t6 _) ?_
        simp -dsimp (discharger := omega) [aFill]
        exact k _ _ (hs2 _ _) (w2 _ _) ((bs_mid hr 8 (m - 8) _ (by omega)).mono (hs2 _ _))
theorem refGetTcp_call {h : AHeap} {n : Nat} {b : Value} {L : List UInt8} (hb : BS h b L) (hw : WF h n) (hL : L.length < 100000)
    {Q : Value → AHeap → Nat → Prop} {tk : Tok Q} (k : ∀ o b' h' n', n + 1 ≤ n' → n' ≤ n + 2 → HSub h h' → WF h' n' → BS h' o (gotT L).os → BS h' b' (gotT L).bs → Q (.tuple #[rtcpV (gotT L).t o b', .int .i64 ((gotT L).e : Int)]) h' n') : HasCallT EV07 31 [b] h n Q tk := by
  obtain ⟨bi, bk, rfl⟩ := hb.shape
  have hs1 : ∀ X, HSub h (h.put n X) := fun X => (HSub.refl h).new hw (Nat.le_refl n) X
  have hs2 : ∀ X Y, HSub h ((h.put n X).put n Y) := fun X Y => ((HSub.refl h).new hw (Nat.le_refl n) X).new hw (Nat.le_refl n) Y
  have w1 : ∀ X, WF (h.put n X) (n + 1) := fun X => hw.put (m := n + 1) X (by omega) (by omega)
  have w2 : ∀ X Y, WF ((h.put n X).put n Y) (n + 1) := fun X Y => WF.put (n := n + 1) (hw.put (m := n + 1) X (by omega) (by omega)) Y (by omega) (by omega)
  rcases Nat.lt_or_ge L.length 20 with hlen | hlen
  · have eg : gotT L = ⟨tcpZ, [], [], 4⟩ := by rw [gotT, if_pos hlen]
    rw [eg] at k
    with_reducible refine inl31 ?_
    simp -dsimp (discharger := omega) [B31, aFill]
    exact k (.slice none 0 0) (.slice none 0 0) _ _ (by omega) (by omega) (hs2 _ _) (w2 _ _) .nil .nil
  · obtain ⟨i, o, g, rfl, hr⟩ := hb.some (by omega)
    have hr1 : ∀ X, (h.put n X).read i g o L.length = some (u8s L) := fun X => read_mono (hs1 X) hr
    have r12 := fun X => read_one (hr1 X) (u8s_get? (List.getElem?_eq_getElem (show 12 < L.length by omega))) (by omega)
    have r13 := fun X => read_one (hr1 X) (u8s_get? (List.getElem?_eq_getElem (show 13 < L.length by omega))) (by omega)
    have e12 : num L 12 1 = (L[12]'(by omega)).toNat := num1 (by omega)
    have e13 : num L 13 1 = (L[13]'(by omega)).toNat := num1 (by omega)
    rw [← e12] at r12
    rw [← e13] at r13
    have hc : num L 12 1 < 256 := num_lt L 12 1
    have hd : num L 13 1 < 256 := num_lt L 13 1
    have tq : Int.tdiv ((num L 12 1 : Nat) : Int) 16 = ((num L 12 1 / 16 : Nat) : Int) := rfl
    have tr : Int.tmod ((num L 12 1 : Nat) : Int) 16 = ((num L 12 1 % 16 : Nat) : Int) := rfl
    rcases Nat.lt_or_ge (num L 12 1 / 16) 5 with h5 | h5
    · have eg : gotT L = ⟨tcpZ, [], [], 5⟩ := by rw [gotT, if_neg (by omega), if_pos h5]
      rw [eg] at k
      with_reducible refine inl31 ?_
      simp -dsimp (discharger := omega) [B31, aFill, r12, tq]
      exact k (.slice none 0 0) (.slice none 0 0) _ _ (by omega) (by omega) (hs2 _ _) (w2 _ _) .nil .nil
    · rcases Nat.lt_or_ge L.length (4 * (num L 12 1 / 16)) with h6 | h6
      · have eg : gotT L = ⟨tcpZ, [], [], 4⟩ := by rw [gotT, if_neg (by omega), if_neg (by omega), if_pos h6]
        rw [eg] at k
        with_reducible refine inl31 ?_
        simp -dsimp (discharger := omega) [B31, aFill, r12, tq]
        exact k (.slice none 0 0) (.slice none 0 0) _ _ (by omega) (by omega) (hs2 _ _) (w2 _ _) .nil .nil
      · have eg : gotT L = ⟨⟨num L 0 2, num L 2 2, num L 4 4, num L 8 4, num L 12 1 % 16, num L 13 1, num L 14 2, num L 16 2, num L 18 2⟩, (L.drop 20).take (4 * (num L 12 1 / 16) - 20), L.drop (4 * (num L 12 1 / 16)), 0⟩ := by
          rw [gotT, if_neg (by omega), if_neg (by omega), if_neg (by omega)]
        rw [eg] at k
        have hrt : ∀ X, (touch [i] (h.put n X)).read i g o L.length = some (u8s L) := fun X => by rw [touch_read (by simp)]; exact hr1 X
        have t0 : ∀ X, Ret EV07 58 _ _ _ _ _ _ := fun X => two_ret (n := n + 1) (k := bk) (T := 0) (v := 0) rfl (hrt X) (by omega) (by omega)
        have t2 : ∀ X, Ret EV07 58 _ _ _ _ _ _ := fun X => two_ret (n := n + 1) (k := bk) (T := 2) (v := 2) rfl (hrt X) (by omega) (by omega)
        have t4 : ∀ X, Ret EV07 59 _ _ _ _ _ _ := fun X => four_ret (n := n + 1) (k := bk) (T := 4) (v := 4) rfl (hrt X) (by omega) (by omega)
        have t8 : ∀ X, Ret EV07 59 _ _ _ _ _ _ := fun X => four_ret (n := n + 1) (k := bk) (T := 8) (v := 8) rfl (hrt X) (by omega) (by omega)
        have t14 : ∀ X, Ret EV07 58 _ _ _ _ _ _ := fun X => two_ret (n := n + 1) (k := bk) (T := 14) (v := 14) rfl (hrt X) (by omega) (by omega)
        have t16 : ∀ X, Ret EV07 58 _ _ _ _ _ _ := fun X => two_ret (n := n + 1) (k := bk) (T := 16) (v := 16) rfl (hrt X) (by omega) (by omega)
        have t18 : ∀ X, Ret EV07 58 _ _ _ _ _ _ := fun X => two_ret (n := n + 1) (k := bk) (T := 18) (v := 18) rfl (hrt X) (by omega) (by omega)
        generalize num L 12 1 = c at hc tq tr r12 h5 h6 k
        generalize num L 13 1 = d at hd r13 k
        with_reducible refine inl31 ?_
        simp -dsimp (discharger := omega) [B31, r12, tq]
        refine ret_on [i] (t0 _) ?_
        simp -dsimp (discharger := omega) []
        refine ret_on [i] (t2 _) ?_
        simp -dsimp (discharger := omega) []
        refine ret_on [i] (t4 _) ?_
        simp -dsimp (discharger := omega) []
        refine ret_on [i] (t8 _) ?_
        simp -dsimp (discharger := omega) [r12, r13, tr]
        refine ret_on [i] (t14 _) ?_
        simp -dsimp (discharger := omega) []
        refine ret_on [i] (t16 _) ?_
        simp -dsimp (discharger := omega) []
        refine ret_on [i] (t18 _) ?_
        simp -dsimp (discharger := omega) [aFill]
        have hi := read_lt hw hr
        have hN : ((c : Int) / 16 * 4).toNat = 4 * (c / 16) := by omega
        have hH : ∀ X1 X2 X3 X4 X5 X6, HSub h ((((((h.put n X1).put (n + 1) X2).put (n + 1) X3).put (n + 1) X4).put (n + 1) X5).put n X6) := fun X1 X2 X3 X4 X5 X6 =>
          ((((((HSub.refl h).new hw (by omega) X1).new hw (by omega) X2).new hw (by omega) X3).new hw (by omega) X4).new hw (by omega) X5).new hw (by omega) X6
        have hW : ∀ X1 X2 X3 X4 X5 X6, WF ((((((h.put n X1).put (n + 1) X2).put (n + 1) X3).put (n + 1) X4).put (n + 1) X5).put n X6) (n + 2) := fun X1 X2 X3 X4 X5 X6 =>
          WF.put (n := n + 2) (WF.put (n := n + 2) (WF.put (n := n + 2) (WF.put (n := n + 2) (WF.put (n := n + 2) (hw.put (m := n + 2) X1 (by omega) (by omega)) X2 (by omega) (by omega)) X3 (by omega) (by omega)) X4 (by omega) (by omega)) X5 (by omega) (by omega)) X6 (by omega) (by omega)
        rw [hN]
        refine ⟨by omega, ?_⟩
        exact k _ _ _ _ (by omega) (by omega) (hH _ _ _ _ _ _) (hW _ _ _ _ _ _) ((bs_mid hr 20 (4 * (c / 16) - 20) _ (by omega)).mono (hH _ _ _ _ _ _)) ((bs_from hr (4 * (c / 16)) _ (by omega)).mono (hH _ _ _ _ _ _))
end
end Go.Proofs.YtkaibjdogeikbaaDoor.Am
namespace Go.Proofs.YtkaibjdogeikbaaDoor.Am
noncomputable section
/- CONTRACTS of Ports, of any protocol. -/
def portsFr (proto : Nat) (L : List UInt8) : Nat := if proto = 6 then (gotT L).t.fr else if proto = 17 then (gotU L).fr else 0
def portsTo (proto : Nat) (L : List UInt8) : Nat := if proto = 6 then (gotT L).t.to else if proto = 17 then (gotU L).to else 0
def portsIs (proto : Nat) (L : List UInt8) : Bool := if proto = 6 then (((gotT L).e : Int) == 0) else if proto = 17 then (((gotU L).e : Int) == 0) else false
theorem ports_call {proto : Nat} {h : AHeap} {n : Nat} {b : Value} {L : List UInt8} (hb : BS h b L) (hw : WF h n) (hL : L.length < 100000)
    {Q : Value → AHeap → Nat → Prop} {tk : Tok Q} (k : ∀ h' n', n ≤ n' → n' ≤ n + 16 → HSub h h' → WF h' n' → Q (.tuple #[.int .u16 (portsFr proto L : Int), .int .u16 (portsTo proto L : Int), .bool (portsIs proto L)]) h' n') : HasCallT EV07 28 [.int .u8 (proto : Int), b] h n Q tk := by
  by_cases h6 : proto = 6
  · subst h6
    exact ports6_call hb hw hL fun h' q w => k h' _ (by omega) (by omega) q w
  · by_cases h17 : proto = 17
    · subst h17
      exact ports17_call hb hw hL fun h' q w => k h' _ (by omega) (by omega) q w
    · have e1 : portsFr proto L = 0 := by unfold portsFr; rw [if_neg h6, if_neg h17]
      have e2 : portsTo proto L = 0 := by unfold portsTo; rw [if_neg h6, if_neg h17]
      have e3 : portsIs proto L = false := by unfold portsIs; rw [if_neg h6, if_neg h17]
      rw [e1, e2, e3] at k
      have n6 : ((proto : Int) == 6) = false := by simp; omega
      have n17 : ((proto : Int) == 17) = false := by simp; omega
      obtain ⟨bi, bk, rfl⟩ := hb.shape
      with_reducible refine inl28 ?_
      simp -dsimp (discharger := omega) [B28, n6, n17]
      exact k _ _ (by omega) (by omega) (.refl h) hw
theorem refPorts_call {proto : Nat} {h : AHeap} {n : Nat} {b : Value} {L : List UInt8} (hb : BS h b L) (hw : WF h n) (hL : L.length < 100000)
    {Q : Value → AHeap → Nat → Prop} {tk : Tok Q} (k : ∀ h' n', n ≤ n' → n' ≤ n + 16 → HSub h h' → WF h' n' → Q (.tuple #[.int .i64 (portsFr proto L : Int), .int .i64 (portsTo proto L : Int), .bool (portsIs proto L)]) h' n') : HasCallT EV07 33 [.int .i64 (proto : Int), b] h n Q tk := by
  obtain ⟨bi, bk, rfl⟩ := hb.shape
  by_cases h6 : proto = 6
  · subst h6
    with_reducible refine inl33 ?_
    simp -dsimp (discharger := omega) [B33]
    refine refGetTcp_call hb hw hL ?_
    intro o b' h' n' hn1 hn2 q w ho hb'
    obtain ⟨i1, k1, rfl⟩ := ho.shape
    obtain ⟨i2, k2, rfl⟩ := hb'.shape
    simp -dsimp (discharger := omega) [rtcpV]
    exact k _ _ (by omega) (by omega) ((q.new hw (by omega) _).new hw (by omega) _) (WF.put (n := n' + 1) (w.put (m := n' + 1) _ (by omega) (by omega)) _ (by omega) (by omega))
  · have n6 : ((proto : Int) == 6) = false := by simp; omega
    by_cases h17 : proto = 17
    · subst h17
      with_reducible refine inl33 ?_
      simp -dsimp (discharger := omega) [B33]
      refine refGetUdp_call hb hw hL ?_
      intro b' h' q w hb'
      obtain ⟨i2, k2, rfl⟩ := hb'.shape
      simp -dsimp (discharger := omega) [rudpV]
      exact k _ _ (by omega) (by omega) ((q.new hw (by omega) _).new hw (by omega) _) (WF.put (n := n + 2) (w.put (m := n + 2) _ (by omega) (by omega)) _ (by omega) (by omega))
    · have e1 : portsFr proto L = 0 := by unfold portsFr; rw [if_neg h6, if_neg h17]
      have e2 : portsTo proto L = 0 := by unfold portsTo; rw [if_neg h6, if_neg h17]
      have e3 : portsIs proto L = false := by unfold portsIs; rw [if_neg h6, if_neg h17]
      rw [e1, e2, e3] at k
      have n17 : ((proto : Int) == 17) = false := by simp; omega
      with_reducible refine inl33 ?_
      simp -dsimp (discharger := omega) [B33, n6, n17]
      exact k _ _ (by omega) (by omega) (.refl h) hw
end
end Go.Proofs.YtkaibjdogeikbaaDoor.Am
namespace Go.Proofs.YtkaibjdogeikbaaDoor.Am
noncomputable section
/- THE LAW TransGets. -/
def RS7 : ACode := .region [⟨(some 32), (.mov (.t 0)), none, []⟩,
    ⟨(some 33), (.mov (.t 0)), none, []⟩,
    ⟨(some 34), (.lenSlice (.t 33)), none, []⟩,
    ⟨(some 35), (.min [(.t 34), (.c (.int .i64 200))]), none, []⟩,
    ⟨(some 36), (.slice 1 (.t 32) none (some (.t 35)) none), none, []⟩,
    ⟨(some 0), (.mov (.t 36)), none, []⟩] none
theorem gets_cut {h0 H : AHeap} {n : Nat} {bb : Value} {cs : List UInt8} (hw : WF H n) (hs : HSub h0 H) (hb : BS h0 bb cs) (lu : cs.length < 9223372036854775808)
    {σ : Fr} (g0 : σ.get 0 = some bb) {Q : Ex → Fr → AHeap → Nat → Prop} {tk : Tok Q}
    (hQ : ∀ b' σ', BS h0 b' (cs.take 200) → σ'.get 0 = some b' → σ'.get 2 = σ.get 2 → σ'.get 7 = σ.get 7 → σ'.get 8 = σ.get 8 → Q .normal σ' H n) :
    wx EV07 RS7 σ H n Q tk := by
  have h2 : (if (200 : Int) < (cs.length : Int) then (200 : Int) else (cs.length : Int)).toNat = Min.min 200 cs.length := by split <;> omega
  rcases hb with _ | @⟨i2, o2, gg2, k2, _, r2⟩
  · simp -dsimp (discharger := omega) [RS7, g0]
    exact hQ _ _ .nil (by simp) (by simp) (by simp) (by simp)
  · have l2 := read_lt hw (read_mono hs r2)
    simp -dsimp (discharger := omega) [RS7, g0, h2]
    exact hQ _ _ (BS.cut r2 200 (if k2 % 2 = 1 then k2 else if k2 = 2 then k2 else 0)) (by simp) (by simp) (by simp) (by simp)
def rtcpC (t : TcpN) (o b : Value) : List Value := [.int .i64 (t.fr : Int), .int .i64 (t.to : Int), .int .i64 (t.odd : Int), .int .i64 (t.flags : Int), .int .i64 (t.window : Int), .int .i64 (t.sum : Int), .int .i64 (t.urgent : Int), .int .u32 (t.seq : Int), .int .u32 (t.ack : Int), o, b]
def rudpC (fr to ln sm : Nat) (b : Value) : List Value := [.int .i64 (fr : Int), .int .i64 (to : Int), .int .i64 (ln : Int), .int .i64 (sm : Int), b]
theorem bclone_call {h : AHeap} {n : Nat} {b : Value} {bs : List UInt8} (hb : BS h b bs) (hw : WF h n) (hL : bs.length < 1000000)
    {Q : Value → AHeap → Nat → Prop} {tk : Tok Q} (k : ∀ v h', HSub h h' → WF h' (n + 1) → BS h' v bs → Q v h' (n + 1)) : HasCallT EV07 25 [b] h n Q tk := by
  cases hb with
  | nil => exact call_ret ((bclone_nil h n).mono (by omega)) (k _ _ (.refl h) (hw.mono (by omega)) .nil)
  | mk hr => exact call_ret (bclone_ret hr hw (by omega)) (k _ _ ((HSub.refl h).new hw (Nat.le_refl n) _) (hw.put _ (by omega) (by omega)) (.new (Nat.zero_le _)))
theorem ports_lt (proto : Nat) (L : List UInt8) : portsFr proto L < 65536 ∧ portsTo proto L < 65536 := by
  have a := gotT_ok L
  have b := gotU_lt L
  unfold portsFr portsTo
  split
  · exact ⟨a.h1, a.h2⟩
  · split
    · exact ⟨b.1, b.2.1⟩
    · decide
theorem gets_walk {src dst proto : Nat} (h1 : src < 4294967296) (h2 : dst < 4294967296) (h3 : proto < 256) {h : AHeap} {n : Nat} {bb : Value} {cs : List UInt8} (hc : BS h bb cs) (lc : cs.length < 9223372036854775808) (hw : WF h n) (hnm : HasNames h) (hsm : HasSums h) (hn : n ≤ 5000) :
    HasCallT EV07 7 [bb, .agg #[.int .u32 (src : Int), .int .u32 (dst : Int)], .int .u8 (proto : Int)] h n (fun v h' n' => v = .bool true) () := by
  refine inl7 ?_
  unfold B7
  rw [← RS7.eq_1]
  simp -dsimp (discharger := omega) [-wR7_1]
  have hs1 : ∀ X, HSub h (h.put n X) := fun X => (HSub.refl h).new hw (Nat.le_refl n) X
  refine gets_cut (hw.put (m := n + 1) _ (by omega) (by omega)) (hs1 _) hc lc (by simp) ?_
  intro b1 σ1 hc1 g0 g2 g7 g8
  simp at g2 g7 g8
  obtain ⟨b1i, b1k, rfl⟩ := hc1.shape
  have lc1 : (cs.take 200).length ≤ 200 := by simp; omega
  generalize cs.take 200 = cs1 at hc1 lc1 g0 ⊢
  simp -dsimp (discharger := omega) [g0, -wR7_1]
  refine bclone_call (hc1.mono (hs1 _)) (hw.put (m := n + 1) _ (by omega) (by omega)) (by omega) ?_
  intro own h2' q2 w2 ho2
  have hs2 : HSub h h2' := (hs1 _).trans q2
  have hc2 := hc1.mono hs2
  obtain ⟨oi, ok, rfl⟩ := ho2.shape
  simp -dsimp (discharger := omega) [-wR7_1]
  refine getTcp_call ho2 w2 (by omega) ?_
  intro o3 b3 h3' q3 w3 ho3 hb3
  have tok := gotT_ok cs1
  have hag := gotU_lt cs1
  generalize hT : gotT cs1 = T at ho3 hb3 tok ⊢
  obtain ⟨tt, tos, tbs, te⟩ := T
  simp only at ho3 hb3 tok ⊢
  obtain ⟨o3i, o3k, rfl⟩ := ho3.shape
  obtain ⟨b3i, b3k, rfl⟩ := hb3.shape
  simp -dsimp (discharger := omega) [g0, tcpV, -wR7_1]
  refine call_gen (fun G => G.get (n + 17) = some (.cells (some 35) (tcpC tt (.slice o3i tos.length o3k) (.slice b3i tbs.length b3k)) 11) ∧ HSub h3' G ∧ WF G (n + 18))
    ⟨AHeap.get_put_same _ _ _, ((HSub.refl h3').new w3 (Nat.le_refl _) _).new w3 (Nat.le_refl _) _, WF.put (n := n + 18) (w3.put (m := n + 18) _ (by omega) (by omega)) _ (by omega) (by omega)⟩ ?_
  rintro h4' ⟨e4, q4, w4⟩
  have ho4 := ho3.mono q4
  have hb4 := hb3.mono q4
  have hs4 : HSub h h4' := hs2.trans (q3.trans q4)
  have own4 := ho2.mono (q3.trans q4)
  refine refGetTcp_call (hc1.mono hs4) w4 (by omega) ?_
  intro o5 b5 h5' n5 hn51 hn52 q5 w5 ho5 hb5
  rw [hT] at ho5 hb5 ⊢
  simp only at ho5 hb5 ⊢
  obtain ⟨o5i, o5k, rfl⟩ := ho5.shape
  obtain ⟨b5i, b5k, rfl⟩ := hb5.shape
  simp -dsimp (discharger := omega) [rtcpV, -wR7_1]
  refine call_gen (fun G => G.get n5 = some (.cells (some 43) (rtcpC tt (.slice o5i tos.length o5k) (.slice b5i tbs.length b5k)) 11) ∧ HSub h5' G ∧ WF G (n5 + 1))
    ⟨AHeap.get_put_same _ _ _, ((HSub.refl h5').new w5 (Nat.le_refl _) _).new w5 (Nat.le_refl _) _, WF.put (n := n5 + 1) (w5.put (m := n5 + 1) _ (by omega) (by omega)) _ (by omega) (by omega)⟩ ?_
  rintro h6' ⟨e6, q6, w6⟩
  have q56 := q5.trans q6
  have ho6 := ho4.mono q56
  have hb6 := hb4.mono q56
  have e4 := q56 _ _ e4
  have hs6 : HSub h h6' := hs4.trans q56
  have own6 := own4.mono q56
  have ro6 := ho5.mono q6
  have rb6 := hb5.mono q6
  refine getUdp_call own6 w6 (by omega) ?_
  intro b7 h7' q7 w7 hb7
  generalize hU : gotU cs1 = U at hb7 hag ⊢
  obtain ⟨ufr, uto, uln, usm, ubs, ue⟩ := U
  simp only at hb7 hag ⊢
  obtain ⟨b7i, b7k, rfl⟩ := hb7.shape
  simp -dsimp (discharger := omega) [g0, udpV, -wR7_1]
  refine call_gen (fun G => G.get (n5 + 10) = some (.cells (some 37) (udpC ufr uto uln usm (.slice b7i ubs.length b7k)) 5) ∧ HSub h7' G ∧ WF G (n5 + 11))
    ⟨AHeap.get_put_same _ _ _, ((HSub.refl h7').new w7 (Nat.le_refl _) _).new w7 (Nat.le_refl _) _, WF.put (n := n5 + 11) (w7.put (m := n5 + 11) _ (by omega) (by omega)) _ (by omega) (by omega)⟩ ?_
  rintro h8' ⟨e8, q8, w8⟩
  have q78 := q7.trans q8
  have ho8 := ho6.mono q78
  have hb8 := hb6.mono q78
  have ro8 := ro6.mono q78
  have rb8 := rb6.mono q78
  have e4 := q78 _ _ e4
  have e6 := q78 _ _ e6
  have hs8 : HSub h h8' := hs6.trans q78
  have own8 := own6.mono q78
  have ub8 := hb7.mono q8
  refine refGetUdp_call (hc1.mono hs8) w8 (by omega) ?_
  intro b9 h9' q9 w9 hb9
  rw [hU] at hb9 ⊢
  simp only at hb9 ⊢
  obtain ⟨b9i, b9k, rfl⟩ := hb9.shape
  simp -dsimp (discharger := omega) [g2, rudpV, -wR7_1]
  refine call_gen (fun G => G.get (n5 + 12) = some (.cells (some 47) (rudpC ufr uto uln usm (.slice b9i ubs.length b9k)) 5) ∧ HSub h9' G ∧ WF G (n5 + 13))
    ⟨AHeap.get_put_same _ _ _, ((HSub.refl h9').new w9 (Nat.le_refl _) _).new w9 (Nat.le_refl _) _, WF.put (n := n5 + 13) (w9.put (m := n5 + 13) _ (by omega) (by omega)) _ (by omega) (by omega)⟩ ?_
  rintro h10' ⟨e10, q10, w10⟩
  have q910 := q9.trans q10
  have ho10 := ho8.mono q910
  have hb10 := hb8.mono q910
  have ro10 := ro8.mono q910
  have rb10 := rb8.mono q910
  have e4 := q910 _ _ e4
  have e6 := q910 _ _ e6
  have e8 := q910 _ _ e8
  have hs10 : HSub h h10' := hs8.trans q910
  have own10 := own8.mono q910
  have ub10 := ub8.mono q910
  have rub10 := hb9.mono q10
  refine ports_call own10 w10 (by omega) ?_
  intro h11' n11 hn111 hn112 q11 w11
  simp -dsimp (discharger := omega) [g0, g2, -wR7_1]
  refine refPorts_call (hc1.mono (hs10.trans q11)) w11 (by omega) ?_
  intro h12' n12 hn121 hn122 q12 w12
  simp -dsimp (discharger := omega) [g2, g7, g8, -wR7_1]
  have q1012 := q11.trans q12
  have hs12 : HSub h h12' := hs10.trans q1012
  have own12 := own10.mono q1012
  refine seal_call h1 h2 h3 own12 w12 (hsm.mono hs12) (by omega) ?_
  intro v13 h13' q13 w13 hv13
  simp -dsimp (discharger := omega) [g0, g2, g7, g8, -wR7_1]
  refine refSeal_call h1 h2 (hc1.mono (hs12.trans q13)) w13 (by omega) ?_
  intro v14 h14' q14 w14 hv14
  have q1014 := q1012.trans (q13.trans q14)
  have e4 := q1014 _ _ e4
  have e6 := q1014 _ _ e6
  have e8 := q1014 _ _ e8
  have e10 := q1014 _ _ e10
  have ho14 := ho10.mono q1014
  have hb14 := hb10.mono q1014
  have ro14 := ro10.mono q1014
  have rb14 := rb10.mono q1014
  have ub14 := ub10.mono q1014
  have rub14 := rub10.mono q1014
  have own14 := own10.mono q1014
  have hs14 : HSub h h14' := hs10.trans q1014
  have hc14 := hc1.mono hs14
  have hnm14 : HasNames h14' := hn_mono hs14 hnm
  have hsm14 : HasSums h14' := hsm.mono hs14
  have hv13 := hv13.mono q14
  simp -dsimp (discharger := omega) [-wR7_1]
  have hpl := ports_lt proto cs1
  have hbn : n12 + 31 + 13 ≤ n + 200 := by omega
  refine wx_gen (fun σ G => σ.get 0 = some (.slice b1i cs1.length b1k) ∧ σ.get 2 = some (.int .u8 (proto : Int)) ∧ σ.get 7 = some (.int .u32 (src : Int)) ∧ σ.get 8 = some (.int .u32 (dst : Int)) ∧ σ.get 9 = some (.slice oi cs1.length ok) ∧ σ.get 10 = some (.pointer (some ⟨n + 17, 0, some 11⟩)) ∧ σ.get 11 = some (.int .i64 (te : Int)) ∧ σ.get 12 = some (.pointer (some ⟨n5, 0, some 11⟩)) ∧ σ.get 13 = some (.int .i64 (te : Int)) ∧ σ.get 14 = some (.pointer (some ⟨n5 + 10, 0, some 5⟩)) ∧ σ.get 15 = some (.int .i64 (ue : Int)) ∧ σ.get 16 = some (.pointer (some ⟨n5 + 12, 0, some 5⟩)) ∧ σ.get 17 = some (.int .i64 (ue : Int)) ∧ σ.get 18 = some (.int .u16 (portsFr proto cs1 : Int)) ∧ σ.get 19 = some (.int .u16 (portsTo proto cs1 : Int)) ∧ σ.get 20 = some (.bool (portsIs proto cs1)) ∧ σ.get 21 = some (.int .i64 (portsFr proto cs1 : Int)) ∧ σ.get 22 = some (.int .i64 (portsTo proto cs1 : Int)) ∧ σ.get 23 = some (.bool (portsIs proto cs1)) ∧ σ.get 24 = some (v13) ∧ σ.get 25 = some (.int .i64 (sealE proto cs1)) ∧ σ.get 26 = some (v14) ∧ σ.get 27 = some (.int .i64 (sealE proto cs1)) ∧ G = h14') ⟨by simp [g0], by simp [g2], by simp [g7], by simp [g8], by simp [], by simp [], by simp [], by simp [], by simp [], by simp [], by simp [], by simp [], by simp [], by simp [], by simp [], by simp [], by simp [], by simp [], by simp [], by simp [], by simp [], by simp [], by simp [], rfl⟩ ?_
  rintro σ H ⟨k0, k2, k7, k8, k9, k10, k11, k12, k13, k14, k15, k16, k17, k18, k19, k20, k21, k22, k23, k24, k25, k26, k27, rfl⟩
  obtain ⟨i13, j13, rfl⟩ := hv13.shape
  obtain ⟨i14, j14, rfl⟩ := hv14.shape
  have l4 : (tcpC tt (.slice o3i tos.length o3k) (.slice b3i tbs.length b3k)).length = 11 := rfl
  have t4 : List.take 11 (tcpC tt (.slice o3i tos.length o3k) (.slice b3i tbs.length b3k)) = tcpC tt (.slice o3i tos.length o3k) (.slice b3i tbs.length b3k) := rfl
  have l6 : (rtcpC tt (.slice o5i tos.length o5k) (.slice b5i tbs.length b5k)).length = 11 := rfl
  have t6 : List.take 11 (rtcpC tt (.slice o5i tos.length o5k) (.slice b5i tbs.length b5k)) = rtcpC tt (.slice o5i tos.length o5k) (.slice b5i tbs.length b5k) := rfl
  have l8 : (udpC ufr uto uln usm (.slice b7i ubs.length b7k)).length = 5 := rfl
  have t8 : List.take 5 (udpC ufr uto uln usm (.slice b7i ubs.length b7k)) = udpC ufr uto uln usm (.slice b7i ubs.length b7k) := rfl
  have l10 : (rudpC ufr uto uln usm (.slice b9i ubs.length b9k)).length = 5 := rfl
  have t10 : List.take 5 (rudpC ufr uto uln usm (.slice b9i ubs.length b9k)) = rudpC ufr uto uln usm (.slice b9i ubs.length b9k) := rfl
  obtain ⟨a1, a2, a3, a4⟩ := hag
  generalize hN : n12 + 31 + 13 = N at w14 hbn ⊢
  have wN : ∀ m, N ≤ m → WF H m := fun m hm => w14.mono hm
  simp -dsimp (discharger := omega) [k10, AHeap.read_of e4, l4, t4]
  refine ret_ret (ofTcp_ret tok ho14 hb14 (wN _ (by omega))) ?_
  simp -dsimp (discharger := omega) [k12, AHeap.read_of e6, l6, t6]
  refine ret_ret (same_ret (t := tt) ho14 hb14 ro14 rb14 (wN _ (by omega))) ?_
  simp -dsimp (discharger := omega) [k11, k13, k14, AHeap.read_of e8, l8, t8]
  refine ret_ret (ofUdp_ret a1 a2 a3 a4 ub14 (wN _ (by omega))) ?_
  simp -dsimp (discharger := omega) [k16, AHeap.read_of e10, l10, t10]
  refine ret_ret (like_ret (fr := ufr) (to := uto) (ln := uln) (sm := usm) ub14 rub14 (wN _ (by omega))) ?_
  simp -dsimp (discharger := omega) [k15, k17, k18, k19, k20, k21, k22, k23, k24, k26]
  refine ret_ret (equal_ret hv13 hv14 _) ?_
  simp -dsimp (discharger := omega) [k2, k7, k8, k9, k25, k27]
  refine ret_ret (right_ret h1 h2 h3 own14 (wN _ (by omega)) hsm14 (by omega)) ?_
  simp -dsimp (discharger := omega) [k0, k2, k7, k8]
  refine ret_ret (refRight_ret h1 h2 h3 hc14 (wN _ (by omega)) (by omega)) ?_
  simp -dsimp (discharger := omega) [k0, k9]
  refine ret_ret (equal_ret own14 hc14 _) ?_
  simp -dsimp (discharger := omega) []
  refine ret_ret (wakes_ret (by omega) (wN _ (by omega)) hnm14) ?_
  simp -dsimp (discharger := omega) []
end
end Go.Proofs.YtkaibjdogeikbaaDoor.Am
