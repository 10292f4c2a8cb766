/- Contracts of the program's functions (X2). -/
import Derived.Test.YtmkfjdajnamoaaaDoorX1
import Derived.Test.YtmkfjdajnamoaaaDoorLC
import Derived.Test.YtmkfjdajnamoaaaDoorLI
namespace Go.Proofs.YtmkfjdajnamoaaaDoor.Am
noncomputable section
/- CONTRACTS: digits. -/
def hexU : List UInt8 := [48, 49, 50, 51, 52, 53, 54, 55, 56, 57, 65, 66, 67, 68, 69, 70]
def docP (c : UInt8) (k : Nat) : Bool := hexL.getD k 0 == c || hexU.getD k 0 == c
def docD (c : UInt8) : Nat := ((List.range 16).find? (docP c)).getD 16
def lowc (c : UInt8) : UInt8 := if 65 ≤ c.toNat ∧ c.toNat ≤ 70 then c + 32 else c
theorem digs : ∀ c : Fin 256, Lib.indexByte hexL (lowc (UInt8.ofNat c.1)) = if docD (UInt8.ofNat c.1) = 16 then -1 else (docD (UInt8.ofNat c.1) : Int) := by decide +kernel
theorem dig_eq (c : UInt8) : Lib.indexByte hexL (lowc c) = if docD c = 16 then -1 else (docD c : Int) := by
  have := digs ⟨c.toNat, c.toNat_lt⟩
  simpa only [UInt8.ofNat_toNat] using this
theorem docD_le (c : UInt8) : docD c ≤ 16 := by
  unfold docD
  cases h : (List.range 16).find? (docP c) with
  | none => simp
  | some k => have := (List.find?_range_eq_some.1 h).2.1; simp at this ⊢; omega
theorem docD_colon : docD 58 = 16 := by decide +kernel
theorem docD_slash : docD 47 = 16 := by decide +kernel
def digI (c : UInt8) : Int := if docD c = 16 then -1 else (docD c : Int)
theorem digit_ret (c : UInt8) (h : AHeap) (n : Nat) : Ret EV02 35 [.int .u8 (c.toNat : Int)] h n (.int .i64 (digI c)) [] n := by
  refine rsx35 (by simp) (by simp) ?_
  have hx := c.toNat_lt
  have e := dig_eq c
  have hh : hexL = [48, 49, 50, 51, 52, 53, 54, 55, 56, 57, 97, 98, 99, 100, 101, 102] := rfl
  rw [hh] at e
  unfold digI
  by_cases h1 : 65 ≤ c.toNat
  · by_cases h2 : c.toNat ≤ 70
    · have el : lowc c = c + 32 := by rw [lowc, if_pos ⟨h1, h2⟩]
      have ea : (c.toNat : Int) + 32 = ((c + 32).toNat : Int) := by
        rw [UInt8.toNat_add]
        show _ = (((c.toNat + 32) % 256 : Nat) : Int)
        omega
      rw [el] at e
      simp -dsimp (discharger := omega) [B35, -UInt8.toNat_add, ea]
      with_reducible refine call_ret (indexByte_ret _ _ _ _) ?_
      rw [e]
      simp -dsimp (discharger := omega) []
      exact .refl _
    · have el : lowc c = c := by rw [lowc, if_neg (by omega)]
      rw [el] at e
      simp -dsimp (discharger := omega) [B35]
      with_reducible refine call_ret (indexByte_ret _ _ _ _) ?_
      rw [e]
      simp -dsimp (discharger := omega) []
      exact .refl _
  · have el : lowc c = c := by rw [lowc, if_neg (by omega)]
    rw [el] at e
    simp -dsimp (discharger := omega) [B35]
    with_reducible refine call_ret (indexByte_ret _ _ _ _) ?_
    rw [e]
    simp -dsimp (discharger := omega) []
    exact .refl _
theorem docD_some {c : UInt8} {k : Nat} (hk : k < 16) (hf : ∀ j, j < k → docP c j = false) (ht : docP c k = true) : docD c = k := by
  have : (List.range 16).find? (docP c) = some k := List.find?_range_eq_some.2 ⟨ht, by simp; omega, fun j hj => by simp [hf j hj]⟩
  rw [docD, this]; rfl
theorem docD_none {c : UInt8} (hf : ∀ j, j < 16 → docP c j = false) : docD c = 16 := by
  have : (List.range 16).find? (docP c) = none := List.find?_range_eq_none.2 (fun j hj => by simp [hf j hj])
  rw [docD, this]; rfl
def RDigInv (c : UInt8) (h0 : AHeap) (n0 : Nat) (r : Nat) (σ : Fr) (h : AHeap) (n : Nat) : Prop :=
  h = h0 ∧ n = n0 ∧ ∃ i, i + r = 16 ∧ (∀ j, j < i → docP c j = false) ∧ σ = [(0, .int .u8 (c.toNat : Int)), (3, .int .i64 (i : Int))]
def RDigPost (c : UInt8) (h0 : AHeap) (n0 : Nat) (e : Ex) (σ' : Fr) (h' : AHeap) (n' : Nat) : Prop :=
  h' = h0 ∧ n' = n0 ∧ (e = .exit 0 ∧ docD c = 16 ∨ e = .ret ∧ σ'.get 2 = some (.int .i64 ((docD c : Nat) : Int)))
theorem rdig_loop {c : UInt8} {h0 : AHeap} {n0 : Nat} :
    ∀ (r : Nat) (σ : Fr) (h : AHeap) (n : Nat), RDigInv c h0 n0 r σ h n → HasCode EV02 (.loop F36L0) σ h n (RDigPost c h0 n0) := by
  refine wx_inv _ fun r σ h n hI => ?_
  obtain ⟨rfl, rfl, i, hi, hf, rfl⟩ := hI
  cases r with
  | zero =>
    obtain rfl : i = 16 := by omega
    simp -dsimp (discharger := omega) [F36L0]
    exact ⟨rfl, rfl, .inl ⟨rfl, docD_none hf⟩⟩
  | succ r =>
    have hlt : i < 16 := by omega
    have g1 : ([48, 49, 50, 51, 52, 53, 54, 55, 56, 57, 97, 98, 99, 100, 101, 102] : List UInt8)[i]? = some (hexL.getD i 0) := by
      have : i < hexL.length := hlt
      show hexL[i]? = _
      rw [List.getD_eq_getElem?_getD, List.getElem?_eq_getElem this]; rfl
    have g2 : ([48, 49, 50, 51, 52, 53, 54, 55, 56, 57, 65, 66, 67, 68, 69, 70] : List UInt8)[i]? = some (hexU.getD i 0) := by
      have : i < hexU.length := hlt
      show hexU[i]? = _
      rw [List.getD_eq_getElem?_getD, List.getElem?_eq_getElem this]; rfl
    have hp : docP c i = (hexL.getD i 0 == c || hexU.getD i 0 == c) := rfl
    have u8b : ∀ a b : UInt8, (((a.toNat : Nat) : Int) == ((b.toNat : Nat) : Int)) = (a == b) := fun a b => by
      rw [natEq]
      by_cases hxy : a = b
      · subst hxy; simp
      · have : a.toNat ≠ b.toNat := fun z => hxy (UInt8.toNat_inj.1 z)
        rw [beq_eq_false_iff_ne.2 this, beq_eq_false_iff_ne.2 hxy]
    have b1 := u8b (hexL.getD i 0) c
    have b2 := u8b (hexU.getD i 0) c
    generalize hexL.getD i 0 = x at *
    generalize hexU.getD i 0 = y at *
    have hend : ∀ {σ : Fr} {tk : Tok (RDigInv c h n)}, docP c i = false → FSubL [(0, .int .u8 (c.toNat : Int)), (3, .int .i64 ((i + 1 : Nat) : Int))] σ → Again (RDigInv c h n) (r + 1) σ h n tk := fun e hs =>
      .mk' r (by omega) _ _ hs (.refl _) ⟨rfl, rfl, i + 1, by omega, fun j hj => by
        rcases Nat.lt_or_ge j i with h | h
        · exact hf j h
        · obtain rfl : j = i := by omega
          exact e, rfl⟩
    cases hx : (x == c) with
    | true =>
      rw [hx] at b1 hp
      have ed := docD_some hlt hf (by rw [hp]; rfl)
      simp -dsimp (discharger := omega) [F36L0, g1, b1, -getElem?_pos]
      exact ⟨rfl, rfl, .inr ⟨rfl, by simp [ed]⟩⟩
    | false =>
      rw [hx] at b1 hp
      cases hy : (y == c) with
      | true =>
        rw [hy] at b2 hp
        have ed := docD_some hlt hf (by rw [hp]; rfl)
        simp -dsimp (discharger := omega) [F36L0, g1, g2, b1, b2, -getElem?_pos]
        exact ⟨rfl, rfl, .inr ⟨rfl, by simp [ed]⟩⟩
      | false =>
        rw [hy] at b2 hp
        simp -dsimp (discharger := omega) [F36L0, g1, g2, b1, b2, -getElem?_pos]
        exact hend (by rw [hp]; rfl) (by simp)
theorem rdigit_ret (c : UInt8) (h : AHeap) (n : Nat) : Ret EV02 36 [.int .u8 (c.toNat : Int)] h n (.int .i64 ((docD c : Nat) : Int)) [] n := by
  refine rsx36 (by simp) (by simp) ?_
  simp -dsimp (discharger := omega) [B36]
  refine loop_use (rdig_loop (c := c) (h0 := h) (n0 := n) 16 [(0, .int .u8 (c.toNat : Int)), (3, .int .i64 ((0 : Nat) : Int))] _ _ ⟨rfl, rfl, 0, rfl, fun j hj => absurd hj (by omega), rfl⟩) (by simp) (.refl _) ?_
  rintro e σ' h' n' ⟨rfl, rfl, ⟨rfl, ed⟩ | ⟨rfl, e2⟩⟩
  · simp -dsimp (discharger := omega) [ed]
    exact .refl _
  · simp -dsimp (discharger := omega) [e2]
    exact .refl _
end
end Go.Proofs.YtmkfjdajnamoaaaDoor.Am
namespace Go.Proofs.YtmkfjdajnamoaaaDoor.Am
noncomputable section
/- CONTRACTS of the document: of a number; kinds. -/
def rofC (x j : Nat) : List UInt8 := List.replicate (6 - j) 0 ++ (macB x).drop (6 - j)
theorem rofC_length {x j : Nat} (_hj : j ≤ 6) : (rofC x j).length = 6 := by simp [rofC]; try omega
theorem rofC_set {x j : Nat} (hj : j < 6) : (rofC x j).set (5 - j) (UInt8.ofNat (x / 2 ^ (8 * j))) = rofC x (j + 1) := by
  rcases (by omega : j = 0 ∨ j = 1 ∨ j = 2 ∨ j = 3 ∨ j = 4 ∨ j = 5) with rfl | rfl | rfl | rfl | rfl | rfl <;> rfl
def rofBlk (x j : Nat) : Blk := .cells (some 22) (u8s (rofC x j)) 6
def zeroRef : Blk := .cells (some 22) (u8s [0, 0, 0, 0, 0, 0]) 6
def ROfInv (x p q : Nat) (h0 : AHeap) (n0 : Nat) (r : Nat) (σ : Fr) (h : AHeap) (n : Nat) : Prop :=
  n = n0 ∧ HSub h0 h ∧ h.get q = some zeroRef ∧ ∃ j, j + r = 6 ∧ h.get p = some (rofBlk x j) ∧ σ = [(0, .int .u64 ((x / 2 ^ (8 * j) : Nat) : Int)), (2, .pointer (some ⟨q, 0, some 6⟩)), (3, .pointer (some ⟨p, 0, some 6⟩)), (4, .int .i64 (5 - (j : Int)))]
def ROfPost (x p q : Nat) (h0 : AHeap) (n0 : Nat) (e : Ex) (σ' : Fr) (h' : AHeap) (n' : Nat) : Prop :=
  n' = n0 ∧ e = .exit 0 ∧ HSub h0 h' ∧ h'.get p = some (rofBlk x 6) ∧ h'.get q = some zeroRef ∧ σ'.get 2 = some (.pointer (some ⟨q, 0, some 6⟩)) ∧ σ'.get 3 = some (.pointer (some ⟨p, 0, some 6⟩))
theorem rof_loop {x p q : Nat} {h0 : AHeap} (h0p : h0.get p = none) (hpq : ¬ p = q) (hx : x < 18446744073709551616) (n0 : Nat) :
    ∀ (r : Nat) (σ : Fr) (h : AHeap) (n : Nat), ROfInv x p q h0 n0 r σ h n → HasCode EV02 (.loop F26L0) σ h n (ROfPost x p q h0 n0) := by
  refine wx_inv _ fun r σ h n hI => ?_
  obtain ⟨rfl, hs, hq, j, hj, hp, rfl⟩ := hI
  cases r with
  | zero =>
    obtain rfl : j = 6 := by omega
    simp -dsimp (discharger := omega) [F26L0]
    exact ⟨rfl, rfl, hs, hp, hq, by simp, by simp⟩
  | succ r =>
    have hlt : j < 6 := by omega
    have hyl : x / 2 ^ (8 * j) ≤ x := Nat.div_le_self _ _
    have hy2 : x / 2 ^ (8 * j) / 256 = x / 2 ^ (8 * (j + 1)) := by
      rw [Nat.div_div_eq_div_mul, show 8 * (j + 1) = 8 * j + 8 by omega, Nat.pow_add]
    have hix : (5 - (j : Int)).toNat = 5 - j := by omega
    have hset : List.take (5 - j) (u8s (rofC x j)) ++ Value.int .u8 ((UInt8.ofNat (x / 2 ^ (8 * j))).toNat : Int) :: List.drop (5 - j + 1) (u8s (rofC x j)) = u8s (rofC x (j + 1)) := by
      rw [← rofC_set hlt, ← u8s_set, List.set_eq_take_append_cons_drop, if_pos (by rw [u8s_length, rofC_length (by omega)]; omega)]
    have hcv : IntKind.u8.wrap ((x / 2 ^ (8 * j) % 256 : Nat) : Int) = ((UInt8.ofNat (x / 2 ^ (8 * j))).toNat : Int) := by
      rw [wrap_u8_mod, Nat.mod_mod]; rfl
    generalize x / 2 ^ (8 * j) = y at *
    have e1 : Int.tmod (y : Int) 256 = ((y % 256 : Nat) : Int) := rfl
    have e2 : Int.tdiv (y : Int) 256 = ((y / 256 : Nat) : Int) := rfl
    have hl : (u8s (rofC x j)).length = 6 := by rw [u8s_length, rofC_length (by omega)]
    rw [hy2] at e2
    have hle : x / 2 ^ (8 * (j + 1)) ≤ x := Nat.div_le_self _ _
    generalize hz : x / 2 ^ (8 * (j + 1)) = z at *
    generalize hw : y % 256 = w at *
    simp -dsimp (discharger := omega) [F26L0, e1, e2, hcv, hp, rofBlk, rofC_length, hix, -UInt8.toNat_ofNat']
    rw [hset]
    exact .mk' r (by omega) [(0, .int .u64 ((x / 2 ^ (8 * (j + 1)) : Nat) : Int)), (2, .pointer (some ⟨q, 0, some 6⟩)), (3, .pointer (some ⟨p, 0, some 6⟩)), (4, .int .i64 (5 - ((j + 1 : Nat) : Int)))] _ (by rw [hz]; simp; omega) (.refl _) ⟨rfl, .ofE (.right (.inr h0p) fun i b _ hb => hs i b hb), by rw [AHeap.get_put_ne _ _ hpq]; exact hq, j + 1, by omega, AHeap.get_put_same _ _ _, rfl⟩
theorem rof_ret {x : Nat} (hx : x < 18446744073709551616) {h : AHeap} {n : Nat} (hw : WF h n) : Ret EV02 26 [.int .u64 (x : Int)] h n (macV (macB x)) [] (n + 2) := by
  refine rsx26 (by simp) (by simp) ?_
  simp -dsimp (discharger := omega) [B26]
  refine loop_use (rof_loop (x := x) (p := n + 1) (q := n) (h0 := h) (hw _ (by omega)) (by omega) hx (n + 1 + 1) 6 [(0, .int .u64 ((x / 2 ^ (8 * 0) : Nat) : Int)), (2, .pointer (some ⟨n, 0, some 6⟩)), (3, .pointer (some ⟨n + 1, 0, some 6⟩)), (4, .int .i64 (5 - ((0 : Nat) : Int)))] _ _ ⟨rfl, ?_, ?_, 0, rfl, ?_, rfl⟩) (by simp) (.refl _) ?_
  · exact ((HSub.refl h).new hw (by omega) _).new hw (by omega) _
  · simp [zeroRef, u8s]
  · simp [rofBlk, u8s, rofC, List.replicate]
  rintro e σ' h' n' ⟨rfl, rfl, hs, hp, hq, e2, e3⟩
  have hl : (u8s (rofC x 6)).length = 6 := by rw [u8s_length, rofC_length (by omega)]
  have ht : (u8s (rofC x 6)).take 6 = u8s (rofC x 6) := List.take_of_length_le (by omega)
  have hz : (u8s [0, 0, 0, 0, 0, 0]).length = 6 := rfl
  have hb : rofC x 6 = macB x := by simp [rofC]
  simp -dsimp (discharger := omega) [e2, e3, hp, hq, rofBlk, zeroRef, AHeap.read, hl, ht, hz]
  exact ⟨by rw [hb], hs.new hw (by omega) _⟩
end
end Go.Proofs.YtmkfjdajnamoaaaDoor.Am
namespace Go.Proofs.YtmkfjdajnamoaaaDoor.Am
noncomputable section
/- CONTRACTS: addresses of texts. -/
def two : List UInt8 → Option UInt8
  | [a, b] => if docD a = 16 ∨ docD b = 16 then none else some (UInt8.ofNat (16 * docD a + docD b))
  | _ => none
def twos : List (List UInt8) → Option (List UInt8)
  | [] => some []
  | p :: ps => match two p with
    | none => none
    | some b => match twos ps with
      | none => none
      | some bs => some (b :: bs)
theorem twos_snoc (l : List (List UInt8)) (x : List UInt8) : twos (l ++ [x]) = match twos l with
    | none => none
    | some bs => match two x with
      | none => none
      | some b => some (bs ++ [b]) := by
  induction l with
  | nil => cases h : two x <;> simp [twos, h]
  | cons p l ih =>
    simp only [List.cons_append, twos, ih]
    cases two p with
    | none => rfl
    | some b => cases twos l with
      | none => rfl
      | some bs => cases two x <;> rfl
theorem twos_none {l : List (List UInt8)} {r : List (List UInt8)} (h : twos l = none) : twos (l ++ r) = none := by
  induction l with
  | nil => cases h
  | cons p l ih =>
    simp only [List.cons_append, twos] at h ⊢
    cases hp : two p with
    | none => rfl
    | some b =>
      rw [hp] at h
      cases hl : twos l with
      | none => rw [ih hl]
      | some bs => rw [hl] at h; cases h
theorem twos_len : ∀ {l : List (List UInt8)} {bs : List UInt8}, twos l = some bs → bs.length = l.length
  | [], bs, h => by cases h; rfl
  | p :: l, bs, h => by
    simp only [twos] at h
    cases hp : two p with
    | none => rw [hp] at h; cases h
    | some b =>
      rw [hp] at h
      cases hl : twos l with
      | none => rw [hl] at h; cases h
      | some cs => rw [hl] at h; cases h; simp [twos_len hl]
def parseO (s : List UInt8) : Option (List UInt8) := if (splitL 58 s).length = 6 then twos (splitL 58 s) else none
def zero6 : List UInt8 := [0, 0, 0, 0, 0, 0]
def parseM (s : List UInt8) : List UInt8 := (parseO s).getD zero6
def parseE (s : List UInt8) : Nat := if (parseO s).isSome then 0 else 5
theorem nib : ∀ x y : Fin 16, IntKind.u8.wrap (orI .i64 (shlI .i64 (x.1 : Int) 4) (y.1 : Int)) = ((UInt8.ofNat (16 * x.1 + y.1)).toNat : Int) := by decide +kernel
def PInv (ps : List (List UInt8)) (p q : Nat) (sl : Value) (h0 : AHeap) (n0 : Nat) (r : Nat) (σ : Fr) (h : AHeap) (n : Nat) : Prop :=
  n = n0 ∧ HSub h0 h ∧ h.get q = some zeroBlk ∧ ∃ i bs, i + r = 6 ∧ twos (ps.take i) = some bs ∧ h.get p = some (.cells (some 23) (u8s (bs ++ List.replicate (6 - i) 0)) 6) ∧ σ = [(2, .pointer (some ⟨q, 0, some 6⟩)), (4, .pointer (some ⟨p, 0, some 6⟩)), (14, sl), (15, .int .i64 6), (16, .int .i64 (i : Int))]
def PPost (ps : List (List UInt8)) (p q : Nat) (h0 : AHeap) (n0 : Nat) (e : Ex) (σ' : Fr) (h' : AHeap) (n' : Nat) : Prop :=
  n' = n0 ∧ HSub h0 h' ∧ h'.get q = some zeroBlk ∧ σ'.get 2 = some (.pointer (some ⟨q, 0, some 6⟩)) ∧
  (e = .exit 0 ∧ σ'.get 4 = some (.pointer (some ⟨p, 0, some 6⟩)) ∧ (∃ bs, twos ps = some bs ∧ h'.get p = some (.cells (some 23) (u8s bs) 6)) ∨ e = .ret ∧ twos ps = none ∧ σ'.get 3 = some (.int .i64 5))
theorem parse_loop {ps : List (List UInt8)} (hps : ps.length = 6) (hlen : ∀ x, x ∈ ps → x.length < 1000000) {p q z o g k : Nat} {h0 : AHeap} (hr : h0.read z g o 6 = some (strsL ps)) (h0p : h0.get p = none) (h0q : h0.get q = none) (hpq : ¬ p = q) {n0 : Nat} (hpn : p < n0) (hqn : q < n0) :
    ∀ (r : Nat) (σ : Fr) (h : AHeap) (n : Nat), PInv ps p q (.slice (some ⟨z, o, some g⟩) 6 k) h0 n0 r σ h n → HasCode EV02 (.loop F9L0) σ h n (PPost ps p q h0 n0) := by
  refine wx_inv _ fun r σ h n hI => ?_
  obtain ⟨rfl, hs, hq, i, bs, hi, hb, hp, rfl⟩ := hI
  cases r with
  | zero =>
    obtain rfl : i = 6 := by omega
    rw [List.take_of_length_le (by omega)] at hb
    simp -dsimp (discharger := omega) [F9L0]
    exact ⟨rfl, hs, hq, by simp, .inl ⟨rfl, by simp, bs, hb, by simpa using hp⟩⟩
  | succ r =>
    have hlt : i < ps.length := by omega
    have hx := List.getElem?_eq_getElem hlt
    have hxl := hlen _ (List.getElem_mem hlt)
    generalize ps[i] = x at hx hxl
    have hrd := read_one (read_mono hs hr) (strsL_get? hx) (by omega)
    have hsn : twos (ps.take (i + 1)) = match two x with
        | none => none
        | some b => some (bs ++ [b]) := by rw [take_snoc hx, twos_snoc, hb]
    have hpre : twos (ps.take (i + 1)) = none → twos ps = none := fun e => by
      have := twos_none (r := ps.drop (i + 1)) e
      rwa [List.take_append_drop] at this
    have hqx : h.get q = some (.cells (some 23) [.int .u8 0, .int .u8 0, .int .u8 0, .int .u8 0, .int .u8 0, .int .u8 0] 6) := hq
    have hsq : ∀ {B : Blk}, HSub h0 (h.put q B) := .ofE (.right (.inr h0q) fun i b _ hb => hs i b hb)
    have hbl := twos_len hb
    rw [List.length_take] at hbl
    have hne : x.length = 2 ∨ ¬ x.length = 2 := by omega
    rcases hne with h2 | h2
    · obtain ⟨a, b, rfl⟩ : ∃ a b, x = [a, b] := by
        match x, h2 with
        | [a, b], _ => exact ⟨a, b, rfl⟩
      have dA := docD_le a
      have dB := docD_le b
      simp -dsimp (discharger := omega) [F9L0, hrd]
      with_reducible refine call_ret (digit_ret a _ _) ?_
      by_cases ea : docD a = 16
      · have g1 : digI a = -1 := by rw [digI, if_pos ea]
        have t : two [a, b] = none := by rw [two, if_pos (.inl ea)]
        rw [t] at hsn
        rw [g1]
        simp -dsimp (discharger := omega) [aFill, hqx]
        exact ⟨rfl, hsq, by simp [zeroBlk, u8s], by simp, .inr ⟨rfl, hpre hsn, by simp⟩⟩
      · have g1 : digI a = ((docD a : Nat) : Int) := by rw [digI, if_neg ea]
        rw [g1]
        simp -dsimp (discharger := omega) []
        with_reducible refine call_ret (digit_ret b _ _) ?_
        by_cases eb : docD b = 16
        · have g2 : digI b = -1 := by rw [digI, if_pos eb]
          have t : two [a, b] = none := by rw [two, if_pos (.inr eb)]
          rw [t] at hsn
          rw [g2]
          simp -dsimp (discharger := omega) [aFill, hqx]
          exact ⟨rfl, hsq, by simp [zeroBlk, u8s], by simp, .inr ⟨rfl, hpre hsn, by simp⟩⟩
        · have g2 : digI b = ((docD b : Nat) : Int) := by rw [digI, if_neg eb]
          have t : two [a, b] = some (UInt8.ofNat (16 * docD a + docD b)) := by rw [two, if_neg (by omega)]
          rw [t] at hsn
          have nb := nib ⟨docD a, by omega⟩ ⟨docD b, by omega⟩
          rw [g2]
          simp only at nb
          generalize UInt8.ofNat (16 * docD a + docD b) = y at nb hsn
          simp -dsimp (discharger := omega) []
          with_reducible refine ret_ret (digit_ret a _ _) ?_
          rw [g1]
          simp -dsimp (discharger := omega) []
          with_reducible refine ret_ret (digit_ret b _ _) ?_
          rw [g2]
          have hL : (bs ++ List.replicate (6 - i) 0).length = 6 := by simp; omega
          have hu := u8s6 hL
          simp -dsimp (discharger := omega) [nb, hp, hu, -List.length_append]
          refine ⟨hpn, ?_⟩
          have hbi : bs.length = i := by omega
          have hset : List.take i (u8s (bs ++ List.replicate (6 - i) 0)) ++ Value.int .u8 (y.toNat : Int) :: List.drop (i + 1) (u8s (bs ++ List.replicate (6 - i) 0)) = u8s ((bs ++ [y]) ++ List.replicate (6 - (i + 1)) 0) := by
            have : (bs ++ List.replicate (6 - i) 0).set i y = (bs ++ [y]) ++ List.replicate (6 - (i + 1)) 0 := by
              rw [show 6 - i = (6 - (i + 1)) + 1 by omega, List.replicate_succ, List.set_append, if_neg (by omega), hbi, Nat.sub_self, List.set_cons_zero, List.append_assoc]; rfl
            rw [← this, ← u8s_set, List.set_eq_take_append_cons_drop, if_pos (by omega)]
          rw [hset]
          exact Again.mk' r (by omega) [(2, .pointer (some ⟨q, 0, some 6⟩)), (4, .pointer (some ⟨p, 0, some 6⟩)), (14, .slice (some ⟨z, o, some g⟩) 6 k), (15, .int .i64 6), (16, .int .i64 ((i + 1 : Nat) : Int))] _ (by simp) (.refl _) ⟨rfl, .ofE (.right (.inr h0p) fun i b _ hb => hs i b hb), by rw [AHeap.get_put_ne _ _ hpq]; exact hq, i + 1, bs ++ [y], by omega, hsn, AHeap.get_put_same _ _ _, rfl⟩
    · have t : two x = none := by
        match x, h2 with
        | [], _ => rfl
        | [_], _ => rfl
        | [_, _], h => exact absurd rfl h
        | _ :: _ :: _ :: _, _ => rfl
      rw [t] at hsn
      have h2' : ¬ ((x.length : Int) = 2) := by omega
      simp -dsimp (discharger := omega) [F9L0, hrd, aFill, hqx]
      exact ⟨rfl, hsq, by simp [zeroBlk, u8s], by simp, .inr ⟨rfl, hpre hsn, by simp⟩⟩
theorem lens_mem : ∀ {l : List (List UInt8)} {x : List UInt8}, x ∈ l → x.length ≤ lens l
  | a :: l, x, h => by
    rcases List.mem_cons.1 h with rfl | h
    · simp only [lens]; omega
    · have := lens_mem h; simp only [lens]; omega
theorem parse_ret {s : List UInt8} (hs : s.length < 100000) {h : AHeap} {n : Nat} (hw : WF h n) : Ret EV02 9 [.string ⟨s.toArray⟩] h n (.tuple #[macV (parseM s), .int .i64 ((parseE s : Nat) : Int)]) [] (n + 3) := by
  refine rsx9 (by simp) (by simp) ?_
  simp -dsimp (discharger := omega) [B9]
  with_reducible refine call_ret (split_ret s 58 (by omega) _ _) ?_
  have hlens := splitL_lens 58 s
  have hge := lens_ge (splitL 58 s)
  have hmem : ∀ x, x ∈ splitL 58 s → x.length < 1000000 := fun x hx => by have := lens_mem hx; omega
  unfold parseM parseE parseO
  generalize splitL 58 s = ps at *
  by_cases h6 : ps.length = 6
  · rw [if_pos h6]
    have hN : (strsL ps).length = 6 := by simp [h6]
    simp -dsimp (discharger := omega) [h6]
    have hn1 := hw (n + 1) (by omega)
    have hn0 := hw n (by omega)
    have hs0 : HSub h (h.put (n + 1 + 1) (.cells (some 9) (strsL ps) 6)) := (HSub.refl h).new hw (by omega) _
    refine loop_use (parse_loop (ps := ps) h6 hmem (p := n + 1) (q := n) (z := n + 1 + 1) (o := 0) (g := 6) (k := 2) (h0 := h.put (n + 1 + 1) (.cells (some 9) (strsL ps) 6)) (by simp [hN, List.take_of_length_le]) (by simp (discharger := omega) [hn1]) (by simp (discharger := omega) [hn0]) (by omega) (n0 := n + 1 + 1 + 1) (by omega) (by omega) 6 [(2, .pointer (some ⟨n, 0, some 6⟩)), (4, .pointer (some ⟨n + 1, 0, some 6⟩)), (14, .slice (some ⟨n + 1 + 1, 0, some 6⟩) 6 2), (15, .int .i64 6), (16, .int .i64 ((0 : Nat) : Int))] _ _ ⟨rfl, ?_, ?_, 0, [], rfl, rfl, ?_, rfl⟩) (by simp) (.refl _) ?_
    · exact .ofE (.left (.inr (by simp)) (.right (.inl (by simp)) (.right (.inr hn1) (.right (.inr hn0) (.refl _ _)))))
    · simp (discharger := omega) [zeroBlk, u8s]
    · simp (discharger := omega) [u8s, List.replicate]
    rintro e σ' h' n' ⟨rfl, hs', hq, e2, ⟨rfl, e4, bs, hb, hp⟩ | ⟨rfl, hb, e3⟩⟩
    · have hl := twos_len hb
      have hbl := u8s6 (hl.trans h6)
      have ht : (u8s bs).take 6 = u8s bs := List.take_of_length_le (by omega)
      have hz : (u8s [0, 0, 0, 0, 0, 0]).length = 6 := rfl
      rw [hb]
      simp -dsimp (discharger := omega) [e2, e4, hp, hq, zeroBlk, AHeap.read, hbl, ht, hz]
      exact (hs0.trans hs').new hw (by omega) _
    · have hz : (u8s [0, 0, 0, 0, 0, 0]).length = 6 := rfl
      have hz6 : (u8s [0, 0, 0, 0, 0, 0]).take 6 = u8s zero6 := rfl
      rw [hb]
      simp -dsimp (discharger := omega) [e2, e3, hq, zeroBlk, AHeap.read, hz, hz6]
      exact hs0.trans hs'
  · rw [if_neg h6]
    have hz : ¬ ((ps.length : Nat) : Int) = 6 := by omega
    simp -dsimp (discharger := omega) []
    exact ⟨rfl, ((((HSub.refl h).new hw (by omega) _).new hw (by omega) _).new hw (by omega) _).new hw (by omega) _⟩
end
end Go.Proofs.YtmkfjdajnamoaaaDoor.Am
namespace Go.Proofs.YtmkfjdajnamoaaaDoor.Am
noncomputable section
/- CONTRACTS of the document: kinds. -/
def RKindInv (m : List UInt8) (h0 : AHeap) (n0 p : Nat) (r : Nat) (σ : Fr) (h : AHeap) (n : Nat) : Prop :=
  h = h0 ∧ n = n0 ∧ ∃ i, i + r = 6 ∧ σ = [(1, .pointer (some ⟨p, 0, some 6⟩)), (3, .int .i64 (((m.take i).count 0 : Nat) : Int)), (4, .int .i64 (((m.take i).count 255 : Nat) : Int)), (5, .int .i64 (i : Int))]
def RKindPost (m : List UInt8) (h0 : AHeap) (n0 p : Nat) (e : Ex) (σ' : Fr) (h' : AHeap) (n' : Nat) : Prop :=
  h' = h0 ∧ e = .exit 0 ∧ n' = n0 ∧ σ'.get 1 = some (.pointer (some ⟨p, 0, some 6⟩)) ∧ σ'.get 3 = some (.int .i64 ((m.count 0 : Nat) : Int)) ∧ σ'.get 4 = some (.int .i64 ((m.count 255 : Nat) : Int))
theorem count_succ {m : List UInt8} {i : Nat} (hi : i < m.length) (c : UInt8) : (m.take (i + 1)).count c = (m.take i).count c + if m[i].toNat = c.toNat then 1 else 0 := by
  rw [List.take_succ_eq_append_getElem hi, List.count_append]
  congr 1
  by_cases h : m[i] = c
  · rw [if_pos (by rw [h]), h]; simp
  · rw [if_neg (fun e => h (UInt8.toNat_inj.1 e))]; simp [h]
theorem rkind_loop {m : List UInt8} (hm : m.length = 6) {h0 : AHeap} {n0 p ty : Nat} (hp : h0.get p = some (.cells (some ty) (u8s m) 6)) :
    ∀ (r : Nat) (σ : Fr) (h : AHeap) (n : Nat), RKindInv m h0 n0 p r σ h n → HasCode EV02 (.loop F27L0) σ h n (RKindPost m h0 n0 p) := by
  refine wx_inv _ fun r σ h n hI => ?_
  obtain ⟨rfl, rfl, i, hi, rfl⟩ := hI
  cases r with
  | zero =>
    obtain rfl : i = 6 := by omega
    have : m.take 6 = m := List.take_of_length_le (by omega)
    simp -dsimp (discharger := omega) [F27L0]
    exact ⟨rfl, rfl, rfl, by simp, by simp [this], by simp [this]⟩
  | succ r =>
    have hlt : i < m.length := by omega
    have hrd : h.read p 6 (0 + i) 1 = some [.int .u8 (m[i].toNat : Int)] := read_one (m := 6) (by rw [AHeap.read_of hp]; simp [Blk.read, u8s6 hm, List.take_of_length_le]) (u8s_get? (List.getElem?_eq_getElem hlt)) (by omega)
    rw [Nat.zero_add] at hrd
    have c1 := count_succ hlt 0
    have c2 := count_succ hlt 255
    rw [show (0 : UInt8).toNat = 0 from rfl] at c1
    rw [show (255 : UInt8).toNat = 255 from rfl] at c2
    have l1 : (m.take i).count 0 ≤ (m.take i).length := List.count_le_length
    have l2 : (m.take i).count 255 ≤ (m.take i).length := List.count_le_length
    rw [List.length_take] at l1 l2
    have hend : ∀ {σ : Fr} {tk : Tok (RKindInv m h n p)}, FSubL [(1, .pointer (some ⟨p, 0, some 6⟩)), (3, .int .i64 (((m.take (i + 1)).count 0 : Nat) : Int)), (4, .int .i64 (((m.take (i + 1)).count 255 : Nat) : Int)), (5, .int .i64 ((i + 1 : Nat) : Int))] σ → Again (RKindInv m h n p) (r + 1) σ h n tk := fun hs =>
      .mk' r (by omega) _ _ hs (.refl _) ⟨rfl, rfl, i + 1, by omega, rfl⟩
    generalize m[i].toNat = x at *
    simp -dsimp (discharger := omega) [F27L0, hrd]
    refine Test.split (fun hc => ?_) (fun hc => ?_)
    · have hx : x = 0 := by simpa using hc
      rw [if_pos hx] at c1
      rw [if_neg (by omega)] at c2
      subst hx
      simp -dsimp (discharger := omega) [hrd]
      exact hend (by simp [c1, c2])
    · have hx : ¬ x = 0 := by simpa using hc
      rw [if_neg hx] at c1
      simp -dsimp (discharger := omega) [hrd]
      refine Test.split (fun hc => ?_) (fun hc => ?_)
      · have hx : x = 255 := by have := of_decide_eq_true (decide_eq_true (by simpa using hc : (x : Int) = 255)); omega
        rw [if_pos hx] at c2
        simp -dsimp (discharger := omega) []
        exact hend (by simp [c1, c2])
      · have hx : ¬ x = 255 := by have : ¬ (x : Int) = 255 := by simpa using hc
                                  omega
        rw [if_neg hx] at c2
        simp -dsimp (discharger := omega) []
        exact hend (by simp [c1, c2])
theorem natBeqT {x y : Nat} (h : (((x : Nat) : Int) == ((y : Nat) : Int)) = true) : x = y := by
  rw [natEq] at h; exact beq_iff_eq.1 h
theorem natBeqF {x y : Nat} (h : (((x : Nat) : Int) == ((y : Nat) : Int)) = !true) : ¬ x = y := by
  rw [natEq] at h; exact fun e => by rw [beq_iff_eq.2 e] at h; cases h
theorem natBeq1 {x y : Nat} (h : x = y) : (((x : Nat) : Int) == ((y : Nat) : Int)) = true := by rw [natEq]; exact beq_iff_eq.2 h
theorem natBeq0 {x y : Nat} (h : ¬ x = y) : (((x : Nat) : Int) == ((y : Nat) : Int)) = false := by rw [natEq]; exact beq_eq_false_iff_ne.2 h
theorem six_all {m : List UInt8} (hm : m.length = 6) (c : UInt8) : m.count c = 6 ↔ m = [c, c, c, c, c, c] := by
  rw [← hm, List.count_eq_length]
  obtain ⟨a, b, d, e, f, g, rfl⟩ := six hm
  simp only [List.mem_cons, List.not_mem_nil, or_false, List.cons.injEq, and_true]
  constructor
  · intro h
    exact ⟨(h a (by simp)).symm, (h b (by simp)).symm, (h d (by simp)).symm, (h e (by simp)).symm, (h f (by simp)).symm, (h g (by simp)).symm⟩
  · rintro ⟨rfl, rfl, rfl, rfl, rfl, rfl⟩
    simp
theorem rkind_ret {m : List UInt8} (hm : m.length = 6) {h : AHeap} {n : Nat} (hw : WF h n) : Ret EV02 27 [macV m] h n (.int .i64 ((kindN (numL m) : Nat) : Int)) [] (n + 1) := by
  refine rsx27 (by simp) (by simp) ?_
  have lm := u8s6 hm
  simp -dsimp (discharger := omega) [B27, lm]
  refine loop_use (rkind_loop hm (h0 := h.put n (.cells (some 22) (u8s m) 6)) (n0 := n + 1) (p := n) (AHeap.get_put_same _ _ _) 6 [(1, .pointer (some ⟨n, 0, some 6⟩)), (3, .int .i64 (((m.take 0).count 0 : Nat) : Int)), (4, .int .i64 (((m.take 0).count 255 : Nat) : Int)), (5, .int .i64 ((0 : Nat) : Int))] _ (n + 1) ⟨rfl, rfl, 0, rfl, rfl⟩) (by simp) (.refl _) ?_
  rintro e σ' h' n' ⟨rfl, rfl, rfl, e1, e3, e4⟩
  have hs1 : HSub h (h.put n (.cells (some 22) (u8s m) 6)) := (HSub.refl h).new hw (Nat.le_refl n) _
  have z0 : (m.count 0 = 6) = (numL m = 0) := propext ((six_all hm 0).trans (numL_inj (b := [0, 0, 0, 0, 0, 0]) hm rfl))
  have z1 : (m.count 255 = 6) = (numL m = 281474976710655) := propext ((six_all hm 255).trans (numL_inj (b := [255, 255, 255, 255, 255, 255]) hm rfl))
  have eg : (h.put n (.cells (some 22) (u8s m) 6)).get n = some (.cells (some 22) (u8s m) 6) := AHeap.get_put_same _ _ _
  generalize h.put n (.cells (some 22) (u8s m) 6) = G at *
  obtain ⟨a, b, c, d, e, f, rfl⟩ := six hm
  have rd : ∀ k : Nat, k < 6 → G.read n 6 k 1 = (u8s [a, b, c, d, e, f])[k]?.map fun v => [v] := fun k hk => by
    rw [AHeap.read_of eg]
    rcases (by omega : k = 0 ∨ k = 1 ∨ k = 2 ∨ k = 3 ∨ k = 4 ∨ k = 5) with rfl | rfl | rfl | rfl | rfl | rfl <;> rfl
  have r0 : G.read n 6 0 1 = some [.int .u8 (a.toNat : Int)] := rd 0 (by omega)
  have r1 : G.read n 6 1 1 = some [.int .u8 (b.toNat : Int)] := rd 1 (by omega)
  have r2 : G.read n 6 2 1 = some [.int .u8 (c.toNat : Int)] := rd 2 (by omega)
  have r3 : G.read n 6 3 1 = some [.int .u8 (d.toNat : Int)] := rd 3 (by omega)
  have r4 : G.read n 6 4 1 = some [.int .u8 (e.toNat : Int)] := rd 4 (by omega)
  have r5 : G.read n 6 5 1 = some [.int .u8 (f.toNat : Int)] := rd 5 (by omega)
  have ba := a.toNat_lt
  have bb := b.toNat_lt
  have bc := c.toNat_lt
  have bd := d.toNat_lt
  have be := e.toNat_lt
  have bf := f.toNat_lt
  have hN := numL6 a b c d e f
  have tm2 : Int.tmod (a.toNat : Int) 2 = ((a.toNat % 2 : Nat) : Int) := rfl
  generalize numL [a, b, c, d, e, f] = N at *
  unfold kindN
  simp -dsimp (discharger := omega) [e3]
  refine Test.split (fun hc => ?_) (fun hc => ?_)
  · have hx : List.count 0 [a, b, c, d, e, f] = 6 := natBeqT (y := 6) hc
    rw [z0] at hx
    rw [if_pos hx]
    simp -dsimp (discharger := omega) []
    exact hs1
  have hx : ¬ List.count 0 [a, b, c, d, e, f] = 6 := natBeqF (y := 6) hc
  rw [z0] at hx
  rw [if_neg hx]
  simp -dsimp (discharger := omega) [e4]
  refine Test.split (fun hc => ?_) (fun hc => ?_)
  · have hx : List.count 255 [a, b, c, d, e, f] = 6 := natBeqT (y := 6) hc
    rw [z1] at hx
    rw [if_pos hx]
    simp -dsimp (discharger := omega) []
    exact hs1
  have hx1 : ¬ List.count 255 [a, b, c, d, e, f] = 6 := natBeqF (y := 6) hc
  rw [z1] at hx1
  rw [if_neg hx1]
  clear z0 z1 hc e3 e4 rd
  by_cases p0 : a.toNat = 1
  · have q0 : (((a.toNat : Nat) : Int) == 1) = true := natBeq1 p0
    by_cases p1 : b.toNat = 128
    · have q1 : (((b.toNat : Nat) : Int) == 128) = true := natBeq1 p1
      by_cases p2 : c.toNat = 194
      · have q2 : (((c.toNat : Nat) : Int) == 194) = true := natBeq1 p2
        by_cases p3 : d.toNat = 0
        · have q3 : (((d.toNat : Nat) : Int) == 0) = true := natBeq1 p3
          by_cases p4 : e.toNat = 0
          · have q4 : (((e.toNat : Nat) : Int) == 0) = true := natBeq1 p4
            by_cases p5 : f.toNat < 16
            · have hx : N / 16 = 103282638848 := by omega
              rw [if_pos hx]
              simp -dsimp (discharger := omega) [e1, r0, r1, r2, r3, r4, r5, q0, q1, q2, q3, q4]
              exact hs1
            · have hx : ¬ N / 16 = 103282638848 := by omega
              rw [if_neg hx]
              simp -dsimp (discharger := omega) [e1, r0, r1, r2, r3, r4, r5, tm2, q0, q1, q2, q3, q4]
              exact hs1
          · have q4 : (((e.toNat : Nat) : Int) == 0) = false := natBeq0 p4
            have hx : ¬ N / 16 = 103282638848 := by omega
            rw [if_neg hx]
            simp -dsimp (discharger := omega) [e1, r0, r1, r2, r3, r4, tm2, q0, q1, q2, q3, q4]
            exact hs1
        · have q3 : (((d.toNat : Nat) : Int) == 0) = false := natBeq0 p3
          have hx : ¬ N / 16 = 103282638848 := by omega
          rw [if_neg hx]
          simp -dsimp (discharger := omega) [e1, r0, r1, r2, r3, tm2, q0, q1, q2, q3]
          exact hs1
      · have q2 : (((c.toNat : Nat) : Int) == 194) = false := natBeq0 p2
        have hx : ¬ N / 16 = 103282638848 := by omega
        rw [if_neg hx]
        simp -dsimp (discharger := omega) [e1, r0, r1, r2, tm2, q0, q1, q2]
        exact hs1
    · have q1 : (((b.toNat : Nat) : Int) == 128) = false := natBeq0 p1
      have hx : ¬ N / 16 = 103282638848 := by omega
      rw [if_neg hx]
      simp -dsimp (discharger := omega) [e1, r0, r1, tm2, q0, q1]
      exact hs1
  · have q0 : (((a.toNat : Nat) : Int) == 1) = false := natBeq0 p0
    have hx : ¬ N / 16 = 103282638848 := by omega
    rw [if_neg hx]
    simp -dsimp (discharger := omega) [e1, r0, tm2, q0]
    refine Test.split (fun hc => ?_) (fun hc => ?_)
    · have hy : a.toNat % 2 = 1 := natBeqT (y := 1) hc
      rw [if_pos (by omega)]
      simp -dsimp (discharger := omega) []
      exact hs1
    · have hy : ¬ a.toNat % 2 = 1 := natBeqF (y := 1) hc
      rw [if_neg (by omega)]
      simp -dsimp (discharger := omega) []
      exact hs1
end
end Go.Proofs.YtmkfjdajnamoaaaDoor.Am
namespace Go.Proofs.YtmkfjdajnamoaaaDoor.Am
noncomputable section
/- CONTRACTS of the document: masks. -/
def stB (j : Nat) : Nat → List UInt8
  | 0 => [0, 0, 0, 0, 0, 0]
  | i + 1 => (stB j i).set (i / 8) ((stB j i).getD (i / 8) 0 * 2 + if i < j then 1 else 0)
theorem stB_length (j : Nat) : ∀ i, (stB j i).length = 6
  | 0 => rfl
  | i + 1 => by simp [stB, stB_length j i]
theorem stB_end : ∀ j : Fin 49, stB j.1 48 = macB (maskN j.1) := by decide +kernel
theorem bitsI_lt {k : Int} {i : Nat} (hi : i < 48) : ((i : Int) < k) ↔ i < bitsI k := by
  unfold bitsI; omega
def bitB (k : Int) (i : Nat) : Blk := .cells (some 22) (u8s (stB (bitsI k) i)) 6
def BitInv (k : Int) (p q : Nat) (h0 : AHeap) (n0 : Nat) (r : Nat) (σ : Fr) (h : AHeap) (n : Nat) : Prop :=
  n = n0 ∧ HSub h0 h ∧ h.get q = some zeroRef ∧ ∃ i, i + r = 48 ∧ h.get p = some (bitB k i) ∧ σ = [(0, .int .i64 k), (2, .pointer (some ⟨q, 0, some 6⟩)), (3, .pointer (some ⟨p, 0, some 6⟩)), (4, .int .i64 (i : Int))]
def BitPost (k : Int) (p q : Nat) (h0 : AHeap) (n0 : Nat) (e : Ex) (σ' : Fr) (h' : AHeap) (n' : Nat) : Prop :=
  n' = n0 ∧ e = .exit 0 ∧ HSub h0 h' ∧ h'.get p = some (bitB k 48) ∧ h'.get q = some zeroRef ∧ σ'.get 2 = some (.pointer (some ⟨q, 0, some 6⟩)) ∧ σ'.get 3 = some (.pointer (some ⟨p, 0, some 6⟩))
theorem bit_loop {k : Int} {p q : Nat} {h0 : AHeap} (h0p : h0.get p = none) (hpq : ¬ p = q) (n0 : Nat) :
    ∀ (r : Nat) (σ : Fr) (h : AHeap) (n : Nat), BitInv k p q h0 n0 r σ h n → HasCode EV02 (.loop F28L0) σ h n (BitPost k p q h0 n0) := by
  refine wx_inv _ fun r σ h n hI => ?_
  obtain ⟨rfl, hs, hq, i, hi, hp, rfl⟩ := hI
  cases r with
  | zero =>
    obtain rfl : i = 48 := by omega
    simp -dsimp (discharger := omega) [F28L0]
    exact ⟨rfl, rfl, hs, hp, hq, by simp, by simp⟩
  | succ r =>
    have hlt : i < 48 := by omega
    have h8 : i / 8 < 6 := by omega
    have e2 : Int.tdiv (i : Int) 8 = ((i / 8 : Nat) : Int) := rfl
    have hL := stB_length (bitsI k) i
    have hiff := bitsI_lt (k := k) hlt
    have hnext : stB (bitsI k) (i + 1) = (stB (bitsI k) i).set (i / 8) ((stB (bitsI k) i).getD (i / 8) 0 * 2 + if i < bitsI k then 1 else 0) := rfl
    have hbb : bitB k (i + 1) = .cells (some 22) (u8s (stB (bitsI k) (i + 1))) 6 := rfl
    rw [hnext] at hbb
    have hp' : h.get p = some (.cells (some 22) (u8s (stB (bitsI k) i)) 6) := hp
    generalize stB (bitsI k) i = L at *
    have hg : L[i / 8]? = some (L.getD (i / 8) 0) := by
      rw [List.getD_eq_getElem?_getD, List.getElem?_eq_getElem (by omega)]; rfl
    generalize L.getD (i / 8) 0 = b at *
    have hrd : h.read p 6 (0 + i / 8) 1 = some [.int .u8 (b.toNat : Int)] := read_one (m := 6) (by rw [AHeap.read_of hp']; simp [Blk.read, hL, List.take_of_length_le]) (u8s_get? hg) (by omega)
    rw [Nat.zero_add] at hrd
    have t1 : List.take 1 (List.drop (i / 8) (u8s L)) = [.int .u8 (b.toNat : Int)] := take1 (u8s_get? hg)
    have hb := b.toNat_lt
    have hm : IntKind.u8.wrap ((b.toNat : Int) * 2) = ((b * 2).toNat : Int) := by
      have := wrap_u8_mod (b.toNat * 2)
      rw [show ((b * 2).toNat) = b.toNat * 2 % 256 from by simp [UInt8.toNat_mul], ← this]; rfl
    have ha : IntKind.u8.wrap (((b * 2).toNat : Int) + 1) = ((b * 2 + 1).toNat : Int) := by
      have := wrap_u8_mod ((b * 2).toNat + 1)
      rw [show ((b * 2 + 1).toNat) = ((b * 2).toNat + 1) % 256 from by simp [UInt8.toNat_add], ← this]; rfl
    have hu : (u8s L).length = 6 := by simp [hL]
    have hset : ∀ c : UInt8, List.take (i / 8) (u8s L) ++ Value.int .u8 (c.toNat : Int) :: List.drop (i / 8 + 1) (u8s L) = u8s (L.set (i / 8) c) := fun c => by
      rw [← u8s_set, List.set_eq_take_append_cons_drop, if_pos (by omega)]
    have hi8 : ((i : Int) / 8).toNat = i / 8 := rfl
    generalize b * 2 = b2 at *
    have hset2 : ∀ c : UInt8, List.take (i / 8) (u8s (L.set (i / 8) b2)) ++ Value.int .u8 (c.toNat : Int) :: List.drop (i / 8 + 1) (u8s (L.set (i / 8) b2)) = u8s (L.set (i / 8) c) := fun c => by
      have e : u8s (L.set (i / 8) c) = (u8s (L.set (i / 8) b2)).set (i / 8) (.int .u8 (c.toNat : Int)) := by rw [u8s_set, List.set_set]
      rw [e, List.set_eq_take_append_cons_drop (l := u8s (L.set (i / 8) b2)), if_pos (by simp; omega)]
    have t2 : List.take 1 (List.drop (i / 8) (u8s (L.set (i / 8) b2))) = [.int .u8 (b2.toNat : Int)] := take1 (u8s_get? (by rw [List.getElem?_set_self (by omega)]))
    have hu2 : (u8s (L.set (i / 8) b2)).length = 6 := by simp [hL]
    have hend : ∀ {σ : Fr} {H : AHeap} {tk : Tok (BitInv k p q h0 n)}, HSub h0 H → H.get q = some zeroRef → H.get p = some (bitB k (i + 1)) → FSubL [(0, .int .i64 k), (2, .pointer (some ⟨q, 0, some 6⟩)), (3, .pointer (some ⟨p, 0, some 6⟩)), (4, .int .i64 ((i + 1 : Nat) : Int))] σ → Again (BitInv k p q h0 n) (r + 1) σ H n tk := fun a1 a2 a3 hs =>
      .mk' r (by omega) _ _ hs (.refl _) ⟨rfl, a1, a2, i + 1, by omega, a3, rfl⟩
    simp -dsimp (discharger := omega) [F28L0, e2, hrd, hm, hp', hu, hi8]
    rw [hset b2]
    refine Test.split (fun hc => ?_) (fun hc => ?_)
    · have hlt : i < bitsI k := hiff.1 (by simpa using hc)
      rw [if_pos hlt] at hbb
      simp -dsimp (discharger := omega) [e2, hi8, AHeap.read, t2, hu2, ha, -UInt8.toNat_add]
      rw [hset2]
      refine hend (.ofE (.right (.inr h0p) (.right (.inr h0p) fun i b _ hb => hs i b hb))) ?_ ?_ (by simp)
      · simp [hpq, hq]
      · simp [hbb]
    · have hlt : ¬ i < bitsI k := fun e => by have := hiff.2 e; simp [this] at hc
      rw [if_neg hlt, UInt8.add_zero] at hbb
      simp -dsimp (discharger := omega) []
      refine hend (.ofE (.right (.inr h0p) fun i b _ hb => hs i b hb)) ?_ ?_ (by simp)
      · simp [hpq, hq]
      · simp [hbb]
theorem rbits_ret {k : Int} {h : AHeap} {n : Nat} (hw : WF h n) : Ret EV02 28 [.int .i64 k] h n (macV (macB (maskN (bitsI k)))) [] (n + 2) := by
  refine rsx28 (by simp) (by simp) ?_
  simp -dsimp (discharger := omega) [B28]
  refine loop_use (bit_loop (k := k) (p := n + 1) (q := n) (h0 := h) (hw _ (by omega)) (by omega) (n + 1 + 1) 48 [(0, .int .i64 k), (2, .pointer (some ⟨n, 0, some 6⟩)), (3, .pointer (some ⟨n + 1, 0, some 6⟩)), (4, .int .i64 ((0 : Nat) : Int))] _ _ ⟨rfl, ?_, ?_, 0, rfl, ?_, rfl⟩) (by simp) (.refl _) ?_
  · exact ((HSub.refl h).new hw (by omega) _).new hw (by omega) _
  · simp [zeroRef, u8s]
  · simp [bitB, u8s, stB]
  rintro e σ' h' n' ⟨rfl, rfl, hs, hp, hq, e2, e3⟩
  have hb : stB (bitsI k) 48 = macB (maskN (bitsI k)) := stB_end ⟨bitsI k, by have := bitsI_le k; omega⟩
  have hl := u8s6 (macB_length (maskN (bitsI k)))
  have ht : (u8s (macB (maskN (bitsI k)))).take 6 = u8s (macB (maskN (bitsI k))) := List.take_of_length_le (by omega)
  have hz : (u8s [0, 0, 0, 0, 0, 0]).length = 6 := rfl
  simp -dsimp (discharger := omega) [e2, e3, hp, hq, bitB, zeroRef, AHeap.read, hb, hl, ht, hz]
  exact hs.new hw (by omega) _
end
end Go.Proofs.YtmkfjdajnamoaaaDoor.Am
namespace Go.Proofs.YtmkfjdajnamoaaaDoor.Am
noncomputable section
/- CONTRACTS of the document: under a mask. -/
def zipA (m c : List UInt8) : List UInt8 := List.zipWith (· &&& ·) m c
theorem and256 {a b c d : Nat} (hb : b < 256) (hd : d < 256) : (256 * a + b) &&& (256 * c + d) = 256 * (a &&& c) + (b &&& d) := by
  have h1 : ((256 * a + b) &&& (256 * c + d)) / 2 ^ 8 = a &&& c := by
    rw [Nat.and_div_two_pow]; congr 1 <;> omega
  have h2 : ((256 * a + b) &&& (256 * c + d)) % 2 ^ 8 = b &&& d := by
    rw [Nat.and_mod_two_pow]; congr 1 <;> omega
  have h3 := Nat.div_add_mod ((256 * a + b) &&& (256 * c + d)) (2 ^ 8)
  rw [h1, h2] at h3
  omega
theorem zipA_length {m c : List UInt8} (hm : m.length = 6) (hc : c.length = 6) : (zipA m c).length = 6 := by simp [zipA, hm, hc]
theorem zipA_get {m c : List UInt8} {i : Nat} (h1 : i < m.length) (h2 : i < c.length) : (zipA m c)[i]? = some (m[i] &&& c[i]) := by
  simp [zipA, List.getElem?_zipWith, h1, h2]
theorem numL_zip {m c : List UInt8} (hm : m.length = 6) (hc : c.length = 6) : numL (zipA m c) = numL m &&& numL c := by
  have key : ∀ i, i ≤ 6 → numL ((zipA m c).take i) = numL (m.take i) &&& numL (c.take i) := fun i => by
    induction i with
    | zero => intro _; simp [numL]
    | succ i ih =>
      intro hi
      have hz : i < (zipA m c).length := by rw [zipA_length hm hc]; omega
      have h1 : i < m.length := by omega
      have h2 : i < c.length := by omega
      have hg : (zipA m c)[i] = m[i] &&& c[i] := by
        have := zipA_get h1 h2
        rw [List.getElem?_eq_getElem hz] at this
        exact Option.some.inj this
      rw [numL_take hz, numL_take h1, numL_take h2, ih (by omega), hg, UInt8.toNat_and, and256 m[i].toNat_lt c[i].toNat_lt]
  have := key 6 (by omega)
  rwa [List.take_of_length_le (by rw [zipA_length hm hc]; omega), List.take_of_length_le (by omega), List.take_of_length_le (by omega)] at this
theorem zip_mac {m c : List UInt8} (hm : m.length = 6) (hc : c.length = 6) : zipA m c = macB (numL m &&& numL c) := by
  rw [← numL_zip hm hc, macB_numL (zipA_length hm hc)]
theorem andU8 (a b : UInt8) : andI .u8 (a.toNat : Int) (b.toNat : Int) = ((a &&& b).toNat : Int) := by
  rw [andN (k := .u8) rfl a.toNat_lt b.toNat_lt, UInt8.toNat_and]
def mkC (m c : List UInt8) (i : Nat) : List UInt8 := (zipA m c).take i ++ m.drop i
theorem mkC_length {m c : List UInt8} (hm : m.length = 6) (hc : c.length = 6) {i : Nat} (hi : i ≤ 6) : (mkC m c i).length = 6 := by
  simp [mkC, zipA_length hm hc, hm]; omega
theorem mkC_get {m c : List UInt8} (hm : m.length = 6) (hc : c.length = 6) {i : Nat} (hi : i < 6) : (mkC m c i)[i]? = some (m[i]'(by omega)) := by
  have : ((zipA m c).take i).length = i := by simp [zipA_length hm hc]; omega
  rw [mkC, List.getElem?_append_right (by omega), this, Nat.sub_self, List.getElem?_drop, Nat.add_zero, List.getElem?_eq_getElem (by omega)]
theorem mkC_set {m c : List UInt8} (hm : m.length = 6) (hc : c.length = 6) {i : Nat} (hi : i < 6) : (mkC m c i).set i (m[i]'(by omega) &&& c[i]'(by omega)) = mkC m c (i + 1) := by
  have hl : ((zipA m c).take i).length = i := by simp [zipA_length hm hc]; omega
  have hz : i < (zipA m c).length := by rw [zipA_length hm hc]; omega
  have hg : (zipA m c)[i] = m[i]'(by omega) &&& c[i]'(by omega) := by
    have := zipA_get (m := m) (c := c) (i := i) (by omega) (by omega)
    rw [List.getElem?_eq_getElem hz] at this
    exact Option.some.inj this
  rw [mkC, mkC, List.set_append, if_neg (by omega), hl, Nat.sub_self, List.take_succ_eq_append_getElem hz, hg, List.drop_eq_getElem_cons (by omega : i < m.length), List.set_cons_zero, List.append_assoc]
  rfl
def RMaskInv (m c : List UInt8) (p2 p3 p4 : Nat) (h0 : AHeap) (n0 : Nat) (r : Nat) (σ : Fr) (h : AHeap) (n : Nat) : Prop :=
  n = n0 ∧ HSub h0 h ∧ h.get p3 = some (.cells (some 22) (u8s c) 6) ∧ h.get p4 = some zeroRef ∧ ∃ i, i + r = 6 ∧ h.get p2 = some (.cells (some 22) (u8s (mkC m c i)) 6) ∧ σ = [(2, .pointer (some ⟨p2, 0, some 6⟩)), (3, .pointer (some ⟨p3, 0, some 6⟩)), (4, .pointer (some ⟨p4, 0, some 6⟩)), (5, .int .i64 (i : Int))]
def RMaskPost (m c : List UInt8) (p2 p4 : Nat) (h0 : AHeap) (n0 : Nat) (e : Ex) (σ' : Fr) (h' : AHeap) (n' : Nat) : Prop :=
  n' = n0 ∧ e = .exit 0 ∧ HSub h0 h' ∧ h'.get p2 = some (.cells (some 22) (u8s (zipA m c)) 6) ∧ h'.get p4 = some zeroRef ∧ σ'.get 2 = some (.pointer (some ⟨p2, 0, some 6⟩)) ∧ σ'.get 4 = some (.pointer (some ⟨p4, 0, some 6⟩))
theorem rmask_loop {m c : List UInt8} (hm : m.length = 6) (hc : c.length = 6) {p2 p3 p4 : Nat} {h0 : AHeap} (h0p : h0.get p2 = none) (h23 : ¬ p2 = p3) (h24 : ¬ p2 = p4) (n0 : Nat) (hn0 : p2 < n0) :
    ∀ (r : Nat) (σ : Fr) (h : AHeap) (n : Nat), RMaskInv m c p2 p3 p4 h0 n0 r σ h n → HasCode EV02 (.loop F29L0) σ h n (RMaskPost m c p2 p4 h0 n0) := by
  refine wx_inv _ fun r σ h n hI => ?_
  obtain ⟨rfl, hs, h3, h4, i, hi, h2, rfl⟩ := hI
  cases r with
  | zero =>
    obtain rfl : i = 6 := by omega
    have e : mkC m c 6 = zipA m c := by rw [mkC, List.take_of_length_le (by rw [zipA_length hm hc]; omega), List.drop_of_length_le (by omega), List.append_nil]
    rw [e] at h2
    simp -dsimp (discharger := omega) [F29L0]
    exact ⟨rfl, rfl, hs, h2, h4, by simp, by simp⟩
  | succ r =>
    have hlt : i < 6 := by omega
    have hL := mkC_length hm hc (i := i) (by omega)
    have hg2 := mkC_get hm hc hlt
    have hset0 := mkC_set hm hc hlt
    have hg3 : c[i]? = some (c[i]'(by omega)) := List.getElem?_eq_getElem (by omega)
    have hnx : ∀ x : UInt8, x = m[i]'(by omega) &&& c[i]'(by omega) → (mkC m c i).set i x = mkC m c (i + 1) := fun x e => by rw [e]; exact hset0
    clear hset0
    generalize hxx : m[i]'(by omega) = x at *
    generalize hyy : c[i]'(by omega) = y at *
    have r2 : h.read p2 6 (0 + i) 1 = some [.int .u8 (x.toNat : Int)] := read_one (m := 6) (by rw [AHeap.read_of h2]; simp [Blk.read, hL, List.take_of_length_le]) (u8s_get? hg2) (by omega)
    have r3 : h.read p3 6 (0 + i) 1 = some [.int .u8 (y.toNat : Int)] := read_one (m := 6) (by rw [AHeap.read_of h3]; simp [Blk.read, hc, List.take_of_length_le]) (u8s_get? hg3) (by omega)
    rw [Nat.zero_add] at r2 r3
    have ha := andU8 x y
    have hset : List.take i (u8s (mkC m c i)) ++ Value.int .u8 ((x &&& y).toNat : Int) :: List.drop (i + 1) (u8s (mkC m c i)) = u8s (mkC m c (i + 1)) := by
      rw [← hnx _ rfl, ← u8s_set, List.set_eq_take_append_cons_drop, if_pos (by simp [hL]; omega)]
    have hu : (u8s (mkC m c i)).length = 6 := by simp [hL]
    simp -dsimp (discharger := omega) [F29L0, r2, r3, ha, h2, hu, -UInt8.toNat_and]
    rw [hset]
    refine ⟨hn0, ?_⟩
    exact Again.mk' r (by omega) [(2, .pointer (some ⟨p2, 0, some 6⟩)), (3, .pointer (some ⟨p3, 0, some 6⟩)), (4, .pointer (some ⟨p4, 0, some 6⟩)), (5, .int .i64 ((i + 1 : Nat) : Int))] _ (by simp) (.refl _) ⟨rfl, .ofE (.right (.inr h0p) fun i b _ hb => hs i b hb), by rw [AHeap.get_put_ne _ _ h23]; exact h3, by rw [AHeap.get_put_ne _ _ h24]; exact h4, i + 1, by omega, AHeap.get_put_same _ _ _, rfl⟩
theorem rmasked_ret {m c : List UInt8} (hm : m.length = 6) (hc : c.length = 6) {h : AHeap} {n : Nat} (hw : WF h n) : Ret EV02 29 [macV m, macV c] h n (macV (macB (numL m &&& numL c))) [] (n + 3) := by
  refine rsx29 (by simp) (by simp) ?_
  have lm := u8s6 hm
  have lc := u8s6 hc
  simp -dsimp (discharger := omega) [B29, lm, lc]
  refine loop_use (rmask_loop hm hc (p2 := n) (p3 := n + 1) (p4 := n + 2) (h0 := h) (hw _ (by omega)) (by omega) (by omega) (n + 1 + 1 + 1) (by omega) 6 [(2, .pointer (some ⟨n, 0, some 6⟩)), (3, .pointer (some ⟨n + 1, 0, some 6⟩)), (4, .pointer (some ⟨n + 2, 0, some 6⟩)), (5, .int .i64 ((0 : Nat) : Int))] _ _ ⟨rfl, ?_, ?_, ?_, 0, rfl, ?_, rfl⟩) (by simp) (.refl _) ?_
  · exact (((HSub.refl h).new hw (by omega) _).new hw (by omega) _).new hw (by omega) _
  · simp (discharger := omega)
  · simp [zeroRef, u8s]
  · simp (discharger := omega) [mkC]
  rintro e σ' h' n' ⟨rfl, rfl, hs, hp, hq, e2, e3⟩
  have hl := u8s6 (zipA_length hm hc)
  have ht : (u8s (zipA m c)).take 6 = u8s (zipA m c) := List.take_of_length_le (by omega)
  have hz : (u8s [0, 0, 0, 0, 0, 0]).length = 6 := rfl
  rw [← zip_mac hm hc]
  simp -dsimp (discharger := omega) [e2, e3, hp, hq, zeroRef, AHeap.read, hl, ht, hz]
  exact hs.new hw (by omega) _
def RMatInv (a b m : List UInt8) (p2 p3 : Nat) (h0 : AHeap) (n0 : Nat) (r : Nat) (σ : Fr) (h : AHeap) (n : Nat) : Prop :=
  h = h0 ∧ n = n0 ∧ ∃ i, i + r = 6 ∧ (zipA m b).take i = (zipA a b).take i ∧ σ = [(2, .pointer (some ⟨p2, 0, some 12⟩)), (3, .pointer (some ⟨p3, 0, some 6⟩)), (5, .int .i64 (i : Int))]
def RMatPost (a b m : List UInt8) (h0 : AHeap) (n0 : Nat) (e : Ex) (σ' : Fr) (h' : AHeap) (n' : Nat) : Prop :=
  h' = h0 ∧ n' = n0 ∧ (e = .exit 0 ∧ zipA m b = zipA a b ∨ e = .ret ∧ ¬ zipA m b = zipA a b ∧ σ'.get 4 = some (.bool false))
theorem rmat_loop {a b m : List UInt8} (ha : a.length = 6) (hb : b.length = 6) (hm : m.length = 6) {p2 p3 ty ty' : Nat} {h0 : AHeap} (h2 : h0.get p2 = some (.cells (some ty) (u8s a ++ u8s b) 12)) (h3 : h0.get p3 = some (.cells (some ty') (u8s m) 6)) (n0 : Nat) :
    ∀ (r : Nat) (σ : Fr) (h : AHeap) (n : Nat), RMatInv a b m p2 p3 h0 n0 r σ h n → HasCode EV02 (.loop F31L0) σ h n (RMatPost a b m h0 n0) := by
  refine wx_inv _ fun r σ h n hI => ?_
  obtain ⟨rfl, rfl, i, hi, heq, rfl⟩ := hI
  have l1 := zipA_length hm hb
  have l2 := zipA_length ha hb
  cases r with
  | zero =>
    obtain rfl : i = 6 := by omega
    rw [List.take_of_length_le (by omega), List.take_of_length_le (by omega)] at heq
    simp -dsimp (discharger := omega) [F31L0]
    exact ⟨rfl, rfl, .inl ⟨rfl, heq⟩⟩
  | succ r =>
    have hlt : i < 6 := by omega
    have ga : a[i]? = some (a[i]'(by omega)) := List.getElem?_eq_getElem (by omega)
    have gb : b[i]? = some (b[i]'(by omega)) := List.getElem?_eq_getElem (by omega)
    have gm : m[i]? = some (m[i]'(by omega)) := List.getElem?_eq_getElem (by omega)
    have z1 : (zipA m b)[i]? = some (m[i]'(by omega) &&& b[i]'(by omega)) := zipA_get (by omega) (by omega)
    have z2 : (zipA a b)[i]? = some (a[i]'(by omega) &&& b[i]'(by omega)) := zipA_get (by omega) (by omega)
    generalize hxx : a[i]'(by omega) = x at *
    generalize hyy : b[i]'(by omega) = y at *
    generalize hzz : m[i]'(by omega) = z at *
    have la := u8s6 ha
    have lb := u8s6 hb
    have lm := u8s6 hm
    have R2 : h.read p2 12 0 12 = some (u8s a ++ u8s b) := by rw [AHeap.read_of h2]; simp [Blk.read, ha, hb]; exact List.take_of_length_le (by simp [ha, hb])
    have ra : h.read p2 12 i 1 = some [.int .u8 (x.toNat : Int)] := by
      have := read_one R2 (a := i) (v := .int .u8 (x.toNat : Int)) (by rw [List.getElem?_append_left (by omega)]; exact u8s_get? ga) (by omega)
      rwa [Nat.zero_add] at this
    have rb : h.read p2 12 (6 + i) 1 = some [.int .u8 (y.toNat : Int)] := by
      have := read_one R2 (a := 6 + i) (v := .int .u8 (y.toNat : Int)) (by rw [List.getElem?_append_right (by omega), la, Nat.add_sub_cancel_left]; exact u8s_get? gb) (by omega)
      rwa [Nat.zero_add] at this
    have rm : h.read p3 6 i 1 = some [.int .u8 (z.toNat : Int)] := by
      have := read_one (m := 6) (o := 0) (g := 6) (vs := u8s m) (by rw [AHeap.read_of h3]; simp [Blk.read, lm, List.take_of_length_le]) (u8s_get? gm) (by omega)
      rwa [Nat.zero_add] at this
    have a1 := andU8 z y
    have a2 := andU8 x y
    simp -dsimp (discharger := omega) [F31L0, ra, rb, rm, a1, a2, -UInt8.toNat_and]
    generalize z &&& y = u at *
    generalize x &&& y = w at *
    refine Test.split (fun hc => ?_) (fun hc => ?_)
    · have hne : ¬ u = w := fun e => by rw [e] at hc; simp at hc
      simp -dsimp (discharger := omega) []
      refine ⟨rfl, rfl, .inr ⟨rfl, fun e => ?_, by simp⟩⟩
      rw [e, z2] at z1
      exact hne (Option.some.inj z1).symm
    · have heq2 : u = w := by
        have : (((u.toNat : Nat) : Int) == ((w.toNat : Nat) : Int)) = true := by
          cases e : (((u.toNat : Nat) : Int) == ((w.toNat : Nat) : Int)) with
          | true => rfl
          | false => simp [bne, e] at hc
        exact UInt8.toNat_inj.1 (natBeqT this)
      subst heq2
      simp -dsimp (discharger := omega) []
      exact .mk' r (by omega) [(2, .pointer (some ⟨p2, 0, some 12⟩)), (3, .pointer (some ⟨p3, 0, some 6⟩)), (5, .int .i64 ((i + 1 : Nat) : Int))] _ (by simp) (.refl _) ⟨rfl, rfl, i + 1, by omega, by rw [take_snoc z1, take_snoc z2, heq], rfl⟩
theorem rmatch_ret {a b m : List UInt8} (ha : a.length = 6) (hb : b.length = 6) (hm : m.length = 6) {h : AHeap} {n : Nat} (hw : WF h n) : Ret EV02 31 [.agg (u8s a ++ u8s b).toArray, macV m] h n (.bool (matchB a b m)) [] (n + 2) := by
  refine rsx31 (by simp) (by simp) ?_
  have la := u8s6 ha
  have lb := u8s6 hb
  have lm := u8s6 hm
  simp -dsimp (discharger := omega) [B31, lm, la, lb]
  have hs : HSub h ((h.put n (.cells (some 34) (u8s a ++ u8s b) 12)).put (n + 1) (.cells (some 22) (u8s m) 6)) := ((HSub.refl h).new hw (by omega) _).new hw (by omega) _
  refine loop_use (rmat_loop ha hb hm (ty := 34) (ty' := 22) (p2 := n) (p3 := n + 1) (h0 := (h.put n (.cells (some 34) (u8s a ++ u8s b) 12)).put (n + 1) (.cells (some 22) (u8s m) 6)) (by simp (discharger := omega)) (AHeap.get_put_same _ _ _) (n + 1 + 1) 6 [(2, .pointer (some ⟨n, 0, some 12⟩)), (3, .pointer (some ⟨n + 1, 0, some 6⟩)), (5, .int .i64 ((0 : Nat) : Int))] _ _ ⟨rfl, rfl, 0, rfl, rfl, rfl⟩) (by simp) (.refl _) ?_
  rintro e σ' h' n' ⟨rfl, rfl, ⟨rfl, heq⟩ | ⟨rfl, hne, e4⟩⟩
  · have hmt : matchB a b m = true := by rw [matchB, ← zip_mac hm hb, ← zip_mac ha hb, heq]; simp
    rw [hmt]
    simp -dsimp (discharger := omega) []
    exact hs
  · have hmt : matchB a b m = false := by rw [matchB, ← zip_mac hm hb, ← zip_mac ha hb]; simpa using hne
    rw [hmt]
    simp -dsimp (discharger := omega) [e4]
    exact hs
end
end Go.Proofs.YtmkfjdajnamoaaaDoor.Am
namespace Go.Proofs.YtmkfjdajnamoaaaDoor.Am
noncomputable section
/- CONTRACTS: texts of patterns. -/
def isM (b : List UInt8) (n : Nat) : Bool := b == macB (maskN n)
def tailP (b : List UInt8) : List UInt8 := match (List.range 49).find? (isM b) with
  | none => 47 :: textM b
  | some n => if n = 48 then [] else 47 :: decL n
def textP (a b : List UInt8) : List UInt8 := textM (macB (numL a &&& numL b)) ++ tailP b
theorem tail_some {b : List UInt8} {n : Nat} (hn : n < 48) (hf : ∀ j, j < n → isM b j = false) (ht : isM b n = true) : tailP b = 47 :: decL n := by
  have : (List.range 49).find? (isM b) = some n := List.find?_range_eq_some.2 ⟨ht, by simp; omega, fun j hj => by simp [hf j hj]⟩
  rw [tailP, this]
  show (if n = 48 then _ else _) = _
  rw [if_neg (by omega)]
theorem tail_all {b : List UInt8} (hf : ∀ j, j < 48 → isM b j = false) (ht : isM b 48 = true) : tailP b = [] := by
  have : (List.range 49).find? (isM b) = some 48 := List.find?_range_eq_some.2 ⟨ht, by simp, fun j hj => by simp [hf j hj]⟩
  rw [tailP, this]; rfl
theorem tail_none {b : List UInt8} (hf : ∀ j, j < 48 → isM b j = false) (ht : isM b 48 = false) : tailP b = 47 :: textM b := by
  have : (List.range 49).find? (isM b) = none := List.find?_range_eq_none.2 (fun j hj => by
    rcases Nat.lt_or_ge j 48 with h | h
    · simp [hf j h]
    · obtain rfl : j = 48 := by omega
      simp [ht])
  rw [tailP, this]
theorem dec_len (n : Nat) : (decL n).length ≤ 2 := by unfold decL; split <;> simp
theorem bitsN_ret {i : Nat} (hi : i ≤ 48) {h : AHeap} {n : Nat} (hw : WF h n) : Ret EV02 14 [.int .i64 (i : Int)] h n (macV (macB (maskN i))) [] (n + 3) := by
  have := bits_ret (k := (i : Int)) hw
  rwa [mask_bits ⟨i, by omega⟩] at this
theorem rbitsN_ret {i : Nat} (hi : i ≤ 48) {h : AHeap} {n : Nat} (hw : WF h n) : Ret EV02 28 [.int .i64 (i : Int)] h n (macV (macB (maskN i))) [] (n + 2) := by
  have := rbits_ret (k := (i : Int)) hw
  rwa [mask_bits ⟨i, by omega⟩] at this
def PatInv (b : List UInt8) (p : Nat) (s : List UInt8) (h0 : AHeap) (n0 : Nat) (r : Nat) (σ : Fr) (h : AHeap) (n : Nat) : Prop :=
  h = h0 ∧ ∃ i, i + r = 48 ∧ n0 ≤ n ∧ n ≤ n0 + 3 * i ∧ (∀ j, j < i → isM b j = false) ∧ σ = [(1, .pointer (some ⟨p, 0, some 12⟩)), (3, .string ⟨s.toArray⟩), (11, .int .i64 (i : Int))]
def PatPost (b : List UInt8) (p : Nat) (s : List UInt8) (h0 : AHeap) (n0 : Nat) (e : Ex) (σ' : Fr) (h' : AHeap) (n' : Nat) : Prop :=
  h' = h0 ∧ n0 ≤ n' ∧ n' ≤ n0 + 147 ∧ (e = .exit 0 ∧ (∀ j, j < 48 → isM b j = false) ∧ σ'.get 1 = some (.pointer (some ⟨p, 0, some 12⟩)) ∧ σ'.get 3 = some (.string ⟨s.toArray⟩) ∨ e = .ret ∧ σ'.get 2 = some (.string ⟨(s ++ tailP b).toArray⟩))
theorem pat_loop {a b : List UInt8} (ha : a.length = 6) (hb : b.length = 6) {p ty : Nat} {s : List UInt8} (hs : s.length < 1000) {h0 : AHeap} {n0 : Nat} (hw0 : WF h0 n0) (hp : h0.get p = some (.cells (some ty) (patC a b) 12)) :
    ∀ (r : Nat) (σ : Fr) (h : AHeap) (n : Nat), PatInv b p s h0 n0 r σ h n → HasCode EV02 (.loop F21L0) σ h n (PatPost b p s h0 n0) := by
  refine wx_inv _ fun r σ h n hI => ?_
  obtain ⟨rfl, i, hi, hn0, hn, hf, rfl⟩ := hI
  cases r with
  | zero =>
    obtain rfl : i = 48 := by omega
    simp -dsimp (discharger := omega) [F21L0]
    exact ⟨rfl, hn0, by omega, .inl ⟨rfl, hf, by simp, by simp⟩⟩
  | succ r =>
    have hlt : i < 48 := by omega
    have la := u8s6 ha
    have lb := u8s6 hb
    have lk := patC_length ha hb
    have d6 : (patC a b).drop 6 = u8s b := List.drop_left' la
    have t6 : (u8s b).take 6 = u8s b := List.take_of_length_le (by omega)
    have rb := AHeap.read_of hp 12 6 6
    have lq := leq6 (a := b) (b := macB (maskN i)) hb (by simp)
    have hd := dec_len i
    have hit := itoa_ret (i := i) (h := h) (n := n + 3) (by omega)
    simp -dsimp (discharger := omega) [F21L0, rb, lk, d6, t6]
    with_reducible refine ret_ret (bitsN_ret (by omega) (hw0.mono hn0)) ?_
    simp -dsimp (discharger := omega) [lq]
    refine Test.split (fun hc => ?_) (fun hc => ?_)
    · have ht : isM b i = true := hc
      have et := tail_some hlt hf ht
      simp -dsimp (discharger := omega) []
      with_reducible refine call_ret hit ?_
      simp -dsimp (discharger := omega) []
      exact ⟨rfl, by omega, by omega, .inr ⟨rfl, by simp [et]⟩⟩
    · have ht : isM b i = false := by simpa [isM] using hc
      simp -dsimp (discharger := omega) []
      exact .mk' r (by omega) [(1, .pointer (some ⟨p, 0, some 12⟩)), (3, .string ⟨s.toArray⟩), (11, .int .i64 ((i + 1 : Nat) : Int))] _ (by simp) (.refl _) ⟨rfl, i + 1, by omega, by omega, by omega, fun j hj => by
        rcases Nat.lt_or_ge j i with h | h
        · exact hf j h
        · obtain rfl : j = i := by omega
          exact ht, rfl⟩
theorem patText_ret {a b : List UInt8} (ha : a.length = 6) (hb : b.length = 6) {h : AHeap} {n : Nat} (hw : WF h n) : Ret EV02 21 [.agg (patC a b).toArray] h n (.string ⟨(textP a b).toArray⟩) [] (n + 300) := by
  refine rsx21 (by simp) (by simp) ?_
  have la := u8s6 ha
  have lb := u8s6 hb
  have lk := patC_length ha hb
  have d6 : (patC a b).drop 6 = u8s b := List.drop_left' la
  have t6 : (u8s b).take 6 = u8s b := List.take_of_length_le (by omega)
  have t0 : (patC a b).take 6 = u8s a := List.take_left' la
  have lq := leq6 (a := b) (b := macB (maskN 48)) hb (by simp)
  have hl := textM_len (macB (numL a &&& numL b))
  have hl2 := textM_len b
  rw [macB_length] at hl
  rw [hb] at hl2
  have hs : HSub h (h.put n (.cells (some 30) (patC a b) 12)) := (HSub.refl h).new hw (Nat.le_refl n) _
  have hG : WF (h.put n (.cells (some 30) (patC a b) 12)) (n + 1) := hw.put _ (by omega) (by omega)
  have eg : (h.put n (.cells (some 30) (patC a b) 12)).get n = some (.cells (some 30) (patC a b) 12) := AHeap.get_put_same _ _ _
  have rb := AHeap.read_of eg 12 6 6
  have ra := AHeap.read_of eg 12 0 6
  simp -dsimp (discharger := omega) [B21, lk]
  generalize h.put n (.cells (some 30) (patC a b) 12) = G at *
  simp -dsimp (discharger := omega) [d6, t6, t0]
  with_reducible refine call_ret (masked_ret ha hb hG) ?_
  simp -dsimp (discharger := omega) []
  with_reducible refine call_ret (text_ret (macB_length _) (hG.mono (by omega))) ?_
  simp -dsimp (discharger := omega) []
  refine loop_use (pat_loop ha hb (ty := 30) (by omega) (s := textM (macB (numL a &&& numL b))) (h0 := G) (n0 := n + 1 + 7 + 38) (hG.mono (by omega)) eg 48 [(1, .pointer (some ⟨n, 0, some 12⟩)), (3, _), (11, .int .i64 ((0 : Nat) : Int))] _ _ ⟨rfl, 0, rfl, by omega, by omega, fun j hj => absurd hj (by omega), rfl⟩) (by simp) (.refl _) ?_
  rintro e σ' h' n' ⟨rfl, hn1, hn2, ⟨rfl, hf, e1, e3⟩ | ⟨rfl, e2⟩⟩
  · simp -dsimp (discharger := omega) [e1, rb, lk, d6, t6]
    with_reducible refine ret_ret (bitsN_ret (i := 48) (by omega) (hG.mono (by omega))) ?_
    simp -dsimp (discharger := omega) [lq]
    refine Test.split (fun hc => ?_) (fun hc => ?_)
    · have et := tail_all hf hc
      simp -dsimp (discharger := omega) [e3]
      exact ⟨by simp [textP, et], hs, by omega⟩
    · have et := tail_none hf (by simpa [isM] using hc)
      simp -dsimp (discharger := omega) [e1, e3, rb, lk, d6, t6]
      with_reducible refine call_ret (text_ret hb (hG.mono (by omega))) ?_
      simp -dsimp (discharger := omega) []
      exact ⟨by simp [textP, et], hs, by omega⟩
  · simp -dsimp (discharger := omega) [e2]
    exact ⟨rfl, hs, by omega⟩
def RPatInv (b : List UInt8) (p : Nat) (s : List UInt8) (h0 : AHeap) (n0 : Nat) (r : Nat) (σ : Fr) (h : AHeap) (n : Nat) : Prop :=
  h = h0 ∧ ∃ i, i + r = 48 ∧ n0 ≤ n ∧ n ≤ n0 + 2 * i ∧ (∀ j, j < i → isM b j = false) ∧ σ = [(1, .pointer (some ⟨p, 0, some 12⟩)), (3, .string ⟨s.toArray⟩), (4, .int .i64 (i : Int))]
def RPatPost (b : List UInt8) (p : Nat) (s : List UInt8) (h0 : AHeap) (n0 : Nat) (e : Ex) (σ' : Fr) (h' : AHeap) (n' : Nat) : Prop :=
  h' = h0 ∧ n0 ≤ n' ∧ n' ≤ n0 + 100 ∧ e = .exit 0 ∧ ∃ i, i ≤ 48 ∧ (∀ j, j < i → isM b j = false) ∧ (i < 48 → isM b i = true) ∧ σ'.get 1 = some (.pointer (some ⟨p, 0, some 12⟩)) ∧ σ'.get 3 = some (.string ⟨s.toArray⟩) ∧ σ'.get 4 = some (.int .i64 (i : Int))
theorem rpat_loop {a b : List UInt8} (ha : a.length = 6) (hb : b.length = 6) {p ty : Nat} {s : List UInt8} {h0 : AHeap} {n0 : Nat} (hw0 : WF h0 n0) (hp : h0.get p = some (.cells (some ty) (patC a b) 12)) :
    ∀ (r : Nat) (σ : Fr) (h : AHeap) (n : Nat), RPatInv b p s h0 n0 r σ h n → HasCode EV02 (.loop F30L0) σ h n (RPatPost b p s h0 n0) := by
  refine wx_inv _ fun r σ h n hI => ?_
  obtain ⟨rfl, i, hi, hn0, hn, hf, rfl⟩ := hI
  cases r with
  | zero =>
    obtain rfl : i = 48 := by omega
    simp -dsimp (discharger := omega) [F30L0]
    exact ⟨rfl, hn0, by omega, rfl, 48, by omega, hf, fun h => absurd h (by omega), by simp, by simp, by simp⟩
  | succ r =>
    have hlt : i < 48 := by omega
    have la := u8s6 ha
    have lb := u8s6 hb
    have lk := patC_length ha hb
    have d6 : (patC a b).drop 6 = u8s b := List.drop_left' la
    have t6 : (u8s b).take 6 = u8s b := List.take_of_length_le (by omega)
    have rb := AHeap.read_of hp 12 6 6
    have lq := leq6 (a := b) (b := macB (maskN i)) hb (by simp)
    simp -dsimp (discharger := omega) [F30L0, rb, lk, d6, t6]
    with_reducible refine ret_ret (rbitsN_ret (by omega) (hw0.mono hn0)) ?_
    cases ht : isM b i with
    | true =>
      have e : (b == macB (maskN i)) = true := ht
      rw [e] at lq
      simp -dsimp (discharger := omega) [lq]
      exact ⟨rfl, by omega, by omega, rfl, i, by omega, hf, fun _ => ht, by simp, by simp, by simp⟩
    | false =>
      have e : (b == macB (maskN i)) = false := ht
      rw [e] at lq
      simp -dsimp (discharger := omega) [lq]
      exact .mk' r (by omega) [(1, .pointer (some ⟨p, 0, some 12⟩)), (3, .string ⟨s.toArray⟩), (4, .int .i64 ((i + 1 : Nat) : Int))] _ (by simp) (.refl _) ⟨rfl, i + 1, by omega, by omega, by omega, fun j hj => by
        rcases Nat.lt_or_ge j i with h | h
        · exact hf j h
        · obtain rfl : j = i := by omega
          exact ht, rfl⟩
theorem rpatText_ret {a b : List UInt8} (ha : a.length = 6) (hb : b.length = 6) {h : AHeap} {n : Nat} (hw : WF h n) : Ret EV02 30 [.agg (patC a b).toArray] h n (.string ⟨(textP a b).toArray⟩) [] (n + 300) := by
  refine rsx30 (by simp) (by simp) ?_
  have la := u8s6 ha
  have lb := u8s6 hb
  have lk := patC_length ha hb
  have d6 : (patC a b).drop 6 = u8s b := List.drop_left' la
  have t6 : (u8s b).take 6 = u8s b := List.take_of_length_le (by omega)
  have t0 : (patC a b).take 6 = u8s a := List.take_left' la
  have hl := textM_len (macB (numL a &&& numL b))
  have hl2 := textM_len b
  rw [macB_length] at hl
  rw [hb] at hl2
  have hs : HSub h (h.put n (.cells (some 34) (patC a b) 12)) := (HSub.refl h).new hw (Nat.le_refl n) _
  have hG : WF (h.put n (.cells (some 34) (patC a b) 12)) (n + 1) := hw.put _ (by omega) (by omega)
  have eg : (h.put n (.cells (some 34) (patC a b) 12)).get n = some (.cells (some 34) (patC a b) 12) := AHeap.get_put_same _ _ _
  have rb := AHeap.read_of eg 12 6 6
  have ra := AHeap.read_of eg 12 0 6
  simp -dsimp (discharger := omega) [B30, lk]
  generalize h.put n (.cells (some 34) (patC a b) 12) = G at *
  simp -dsimp (discharger := omega) [d6, t6, t0]
  with_reducible refine call_ret (rmasked_ret ha hb hG) ?_
  simp -dsimp (discharger := omega) []
  with_reducible refine call_ret (rtext_ret (macB_length _) (hG.mono (by omega))) ?_
  simp -dsimp (discharger := omega) []
  refine loop_use (rpat_loop ha hb (ty := 34) (s := textM (macB (numL a &&& numL b))) (h0 := G) (n0 := n + 1 + 3 + 7) (hG.mono (by omega)) eg 48 [(1, .pointer (some ⟨n, 0, some 12⟩)), (3, _), (4, .int .i64 ((0 : Nat) : Int))] _ _ ⟨rfl, 0, rfl, by omega, by omega, fun j hj => absurd hj (by omega), rfl⟩) (by simp) (.refl _) ?_
  rintro e σ' h' n' ⟨rfl, hn1, hn2, rfl, i, hi, hf, ht, e1, e3, e4⟩
  have lq := leq6 (a := b) (b := macB (maskN i)) hb (by simp)
  simp -dsimp (discharger := omega) [e1, e4, rb, lk, d6, t6]
  with_reducible refine ret_ret (rbitsN_ret (by omega) (hG.mono (by omega))) ?_
  cases hti : isM b i with
  | false =>
    have e : (b == macB (maskN i)) = false := hti
    rw [e] at lq
    obtain rfl : i = 48 := by
      rcases Nat.lt_or_ge i 48 with h | h
      · rw [ht h] at hti; cases hti
      · omega
    have et := tail_none hf hti
    simp -dsimp (discharger := omega) [e1, e3, rb, lk, d6, t6, lq]
    with_reducible refine call_ret (rtext_ret hb (hG.mono (by omega))) ?_
    simp -dsimp (discharger := omega) []
    exact ⟨by simp [textP, et], hs, by omega⟩
  | true =>
    have e : (b == macB (maskN i)) = true := hti
    rw [e] at lq
    simp -dsimp (discharger := omega) [e4, lq]
    refine Test.split (fun hc => ?_) (fun hc => ?_)
    · obtain rfl : i = 48 := natBeqT (y := 48) hc
      have et := tail_all hf hti
      simp -dsimp (discharger := omega) [e3]
      exact ⟨by simp [textP, et], hs, by omega⟩
    · have hne : ¬ i = 48 := natBeqF (y := 48) hc
      have et := tail_some (by omega) hf hti
      have hN : WF h' (n' + 2) := hG.mono (by omega)
      have hsn : ∀ B : Blk, HSub h (h'.put (n' + 2) B) := fun B => .put_new B (hw _ (by omega)) hs
      by_cases h10 : i < 10
      · have eb : bytesOf? [Value.int .u8 (48 + (i : Int))] = some [UInt8.ofNat (48 + i)] := by
          have := bytesOf_u8s [UInt8.ofNat (48 + i)]
          rw [u8s_cons, u8s_nil, UInt8.toNat_ofNat', Nat.mod_eq_of_lt (by omega)] at this
          rw [← this]; congr 1
        have ed : decL i = [UInt8.ofNat (48 + i)] := by rw [decL, if_pos h10]
        simp -dsimp (discharger := omega) [e3, e4, aFill, eb]
        exact ⟨by simp [textP, et, ed], hsn _, by omega⟩
      · have eb : bytesOf? [Value.int .u8 (48 + (i : Int) / 10), .int .u8 (48 + (i : Int) % 10)] = some [UInt8.ofNat (48 + i / 10), UInt8.ofNat (48 + i % 10)] := by
          have := bytesOf_u8s [UInt8.ofNat (48 + i / 10), UInt8.ofNat (48 + i % 10)]
          rw [u8s_cons, u8s_cons, u8s_nil, UInt8.toNat_ofNat', UInt8.toNat_ofNat', Nat.mod_eq_of_lt (by omega), Nat.mod_eq_of_lt (by omega)] at this
          rw [← this]; congr 1
        have ed : decL i = [UInt8.ofNat (48 + i / 10), UInt8.ofNat (48 + i % 10)] := by rw [decL, if_neg h10]
        generalize UInt8.ofNat (48 + i / 10) = u1 at eb ed
        generalize UInt8.ofNat (48 + i % 10) = u2 at eb ed
        have q1 : Int.tdiv (i : Int) 10 = (i : Int) / 10 := rfl
        have q2 : Int.tmod (i : Int) 10 = (i : Int) % 10 := rfl
        simp -dsimp (discharger := omega) [e3, e4, aFill, eb, q1, q2]
        exact ⟨by simp [textP, et, ed], hsn _, by omega⟩
end
end Go.Proofs.YtmkfjdajnamoaaaDoor.Am
