/- Contracts of the program's functions (Y1). -/
import Derived.Test.YtkaibjdogeikbaaDoorX3
import Derived.Test.YtkaibjdogeikbaaDoorX4
namespace Go.Proofs.YtkaibjdogeikbaaDoor.Am
noncomputable section
/- SUMS OF WORDS, IN PLAIN LEAN; what the machine's operations on them are. -/
def wordSum : List UInt8 → Bool → Nat
  | [], _ => 0
  | b :: l, true => 256 * b.toNat + wordSum l false
  | b :: l, false => b.toNat + wordSum l true
theorem wordSum_le : ∀ (l : List UInt8) (h : Bool), wordSum l h ≤ 65280 * l.length
  | [], _ => Nat.le_refl _
  | b :: l, true => by have := wordSum_le l false; have := b.toNat_lt; simp only [wordSum, List.length_cons]; omega
  | b :: l, false => by have := wordSum_le l true; have := b.toNat_lt; simp only [wordSum, List.length_cons]; omega
def flips (l : List UInt8) (h : Bool) : Bool := if l.length % 2 = 0 then h else !h
theorem wordSum_drop {l : List UInt8} {i : Nat} (hi : i < l.length) (h : Bool) : wordSum (l.drop i) h = (if h then 256 * l[i].toNat else l[i].toNat) + wordSum (l.drop (i + 1)) (!h) := by
  rw [List.drop_eq_getElem_cons hi]
  cases h <;> simp [wordSum]
/-- The end of a sum: carried round till it is a word. -/
def foldW (n : Nat) : Nat := if n = 0 then 0 else (n - 1) % 65535 + 1
theorem foldW_small {n : Nat} (h : n ≤ 65535) : foldW n = n := by
  unfold foldW; split <;> omega
theorem foldW_step {n : Nat} (h : 65535 < n) : foldW (n / 65536 + n % 65536) = foldW n := by
  unfold foldW
  split <;> split <;> omega
theorem foldW_le (n : Nat) : foldW n ≤ 65535 := by unfold foldW; split <;> omega
theorem and_u64 {x : Nat} (hx : x < 18446744073709551616) : andI .u64 (x : Int) 65535 = ((x % 65536 : Nat) : Int) := by
  have e : (BitVec.ofInt 64 (x : Int) &&& BitVec.ofInt 64 65535).toNat = x % 65536 := by
    rw [BitVec.toNat_and, BitVec.ofInt_natCast, BitVec.toNat_ofNat, Nat.mod_eq_of_lt hx]
    have : (BitVec.ofInt 64 65535).toNat = 2 ^ 16 - 1 := by decide
    rw [this, Nat.and_two_pow_sub_one_eq_mod]
  have e2 : andI .u64 (x : Int) 65535 = IntKind.u64.wrap ((BitVec.ofInt 64 (x : Int) &&& BitVec.ofInt 64 65535).toNat : Int) := rfl
  rw [e2, e]
  simp (discharger := omega) []
theorem not_u16 {x : Nat} (hx : x < 65536) : notI .u16 (x : Int) = ((65535 - x : Nat) : Int) := by
  have e2 : notI .u16 (x : Int) = IntKind.u16.wrap ((BitVec.ofInt 16 65535 ^^^ BitVec.ofInt 16 (x : Int)).toNat : Int) := rfl
  have e : (BitVec.ofInt 16 65535 ^^^ BitVec.ofInt 16 (x : Int)).toNat = 65535 - x := by
    have : BitVec.ofInt 16 65535 = BitVec.allOnes 16 := by decide
    rw [this, BitVec.ofInt_natCast, BitVec.allOnes_xor, BitVec.toNat_not, BitVec.toNat_ofNat, Nat.mod_eq_of_lt hx]
  rw [e2, e]
  simp (discharger := omega) []
/- CONTRACT of cut.Sum: the loops. -/
def InInv (L : List UInt8) (u sl : Value) (j total : Nat) (hend : Bool) (h0 : AHeap) (n0 : Nat) (m : Nat) (σ : Fr) (h : AHeap) (n : Nat) : Prop :=
  h = h0 ∧ n = n0 ∧ ∃ i acc hi, i + m = L.length ∧ acc + wordSum (L.drop i) hi = total ∧ flips (L.drop i) hi = hend ∧
    σ = [(3, .int .u64 ((acc : Nat) : Int)), (4, .bool hi), (9, sl), (10, .int .i64 2), (11, .int .i64 (j : Int)), (15, u), (16, .int .i64 (L.length : Int)), (17, .int .i64 (i : Int))]
def InPost (sl : Value) (j total : Nat) (hend : Bool) (h0 : AHeap) (n0 : Nat) (e : Ex) (σ' : Fr) (h' : AHeap) (n' : Nat) : Prop :=
  h' = h0 ∧ n' = n0 ∧ e = .exit 2 ∧ σ'.get 3 = some (.int .u64 ((total : Nat) : Int)) ∧ σ'.get 4 = some (.bool hend) ∧ σ'.get 9 = some sl ∧ σ'.get 10 = some (.int .i64 2) ∧ σ'.get 11 = some (.int .i64 (j : Int))
theorem flips_drop {l : List UInt8} {i : Nat} (hi : i < l.length) (h : Bool) : flips (l.drop i) h = flips (l.drop (i + 1)) (!h) := by
  unfold flips
  simp only [List.length_drop]
  by_cases e : (l.length - i) % 2 = 0
  · rw [if_pos e, if_neg (by omega)]; simp
  · rw [if_neg e, if_pos (by omega)]
theorem in_loop {L : List UInt8} {u sl : Value} {j total : Nat} {hend : Bool} (ht : total < 1000000000000) {h0 : AHeap} (hu : BS h0 u L) (hl : L.length < 1000000) (n0 : Nat) :
    ∀ (m : Nat) (σ : Fr) (h : AHeap) (n : Nat), InInv L u sl j total hend h0 n0 m σ h n → HasCode EV07 (.loop F73L0) σ h n (InPost sl j total hend h0 n0) := by
  refine wx_inv _ fun m σ h n hI => ?_
  obtain ⟨rfl, rfl, i, acc, hi, him, hac, hfl, rfl⟩ := hI
  cases m with
  | zero =>
    obtain rfl : i = L.length := by omega
    rw [List.drop_length] at hac hfl
    simp [wordSum] at hac
    simp [flips] at hfl
    subst hac hfl
    simp -dsimp (discharger := omega) [F73L0]
    exact ⟨rfl, rfl, rfl, by simp⟩
  | succ m =>
    have hlt : i < L.length := by omega
    cases hu with
    | nil => simp at hlt
    | @mk q o g k _ hr =>
      have hrd := read_one hr (u8s_get? (List.getElem?_eq_getElem hlt)) hlt
      have hx := L[i].toNat_lt
      rw [wordSum_drop hlt] at hac
      rw [flips_drop hlt] at hfl
      have hsh : shlI .u64 (L[i].toNat : Int) 8 = ((256 * L[i].toNat : Nat) : Int) := by
        have : shlI .u64 (L[i].toNat : Int) 8 = IntKind.u64.wrap ((L[i].toNat : Int) * 256) := rfl
        rw [this]; simp (discharger := omega) []; omega
      cases hi with
      | true =>
        simp only [if_true, Bool.not_true] at hac hfl
        simp -dsimp (discharger := omega) [F73L0, hrd, hsh]
        exact .mk' m (by omega) [(3, .int .u64 ((acc + 256 * L[i].toNat : Nat) : Int)), (4, .bool false), (9, sl), (10, .int .i64 2), (11, .int .i64 (j : Int)), (15, _), (16, .int .i64 (L.length : Int)), (17, .int .i64 ((i + 1 : Nat) : Int))] _ (by simp) (.refl _) ⟨rfl, rfl, i + 1, _, false, by omega, by omega, hfl, rfl⟩
      | false =>
        simp only [Bool.not_false] at hac hfl
        simp -dsimp (discharger := omega) [F73L0, hrd]
        exact .mk' m (by omega) [(3, .int .u64 ((acc + L[i].toNat : Nat) : Int)), (4, .bool true), (9, sl), (10, .int .i64 2), (11, .int .i64 (j : Int)), (15, _), (16, .int .i64 (L.length : Int)), (17, .int .i64 ((i + 1 : Nat) : Int))] _ (by simp) (.refl _) ⟨rfl, rfl, i + 1, _, true, by omega, by simp at hac; omega, hfl, rfl⟩
end
end Go.Proofs.YtkaibjdogeikbaaDoor.Am
namespace Go.Proofs.YtkaibjdogeikbaaDoor.Am
noncomputable section
/- CONTRACT of cut.Sum, of two parts. -/
def SumInv (A B : List UInt8) (sl : Value) (h0 : AHeap) (n0 : Nat) (m : Nat) (σ : Fr) (h : AHeap) (n : Nat) : Prop :=
  h = h0 ∧ n = n0 ∧ ∃ j acc hi, j + m = 2 ∧ (j = 0 ∧ acc = 0 ∧ hi = true ∨ j = 1 ∧ acc = wordSum A true ∧ hi = true ∨ j = 2 ∧ acc = wordSum A true + wordSum B true) ∧
    σ = [(3, .int .u64 ((acc : Nat) : Int)), (4, .bool hi), (9, sl), (10, .int .i64 2), (11, .int .i64 (j : Int))]
def SumPost (A B : List UInt8) (h0 : AHeap) (n0 : Nat) (e : Ex) (σ' : Fr) (h' : AHeap) (n' : Nat) : Prop :=
  h' = h0 ∧ n' = n0 ∧ e = .exit 0 ∧ σ'.get 3 = some (.int .u64 ((wordSum A true + wordSum B true : Nat) : Int))
theorem sum_loop {A B : List UInt8} (hA : A.length % 2 = 0) (lA : A.length < 1000000) (lB : B.length < 1000000) {s k : Nat} {v1 v2 : Value} {h0 : AHeap} (hr : h0.read s 2 0 2 = some [v1, v2]) (h1 : BS h0 v1 A) (h2 : BS h0 v2 B) (n0 : Nat) :
    ∀ (m : Nat) (σ : Fr) (h : AHeap) (n : Nat), SumInv A B (.slice (some ⟨s, 0, some 2⟩) 2 k) h0 n0 m σ h n → HasCode EV07 (.loop F73L1) σ h n (SumPost A B h0 n0) := by
  have wA := wordSum_le A true
  have wB := wordSum_le B true
  have r0 : h0.read s 2 0 1 = some [v1] := read_one (a := 0) (v := v1) hr rfl (by omega)
  have r1 : h0.read s 2 1 1 = some [v2] := by have := read_one (a := 1) (v := v2) hr rfl (by omega); simpa using this
  obtain ⟨i1, k1, e1⟩ := h1.shape
  obtain ⟨i2, k2, e2⟩ := h2.shape
  refine wx_inv _ fun m σ h n hI => ?_
  obtain ⟨rfl, rfl, j, acc, hi, hjm, hst, rfl⟩ := hI
  rcases hst with ⟨rfl, rfl, rfl⟩ | ⟨rfl, rfl, rfl⟩ | ⟨rfl, rfl⟩
  · obtain rfl : m = 2 := by omega
    subst e1
    simp -dsimp (discharger := omega) [F73L1, r0]
    refine loop_use (in_loop (j := 0) (total := wordSum A true) (hend := true) (sl := .slice (some ⟨s, 0, some 2⟩) 2 k) (by omega) h1 lA n A.length _ _ _ ⟨rfl, rfl, 0, 0, true, by omega, by simp, by simp [flips, hA], rfl⟩) (by simp) (.refl _) ?_
    rintro e σ' h' n' ⟨rfl, rfl, rfl, g3, g4, g9, g10, g11⟩
    simp -dsimp (discharger := omega) [g11]
    exact .mk' 1 (by omega) [(3, .int .u64 ((wordSum A true : Nat) : Int)), (4, .bool true), (9, _), (10, .int .i64 2), (11, .int .i64 1)] _ (by simp [g3, g4, g9, g10]) (.refl _) ⟨rfl, rfl, 1, _, true, by omega, .inr (.inl ⟨rfl, rfl, rfl⟩), rfl⟩
  · obtain rfl : m = 1 := by omega
    subst e2
    simp -dsimp (discharger := omega) [F73L1, r1]
    refine loop_use (in_loop (j := 1) (total := wordSum A true + wordSum B true) (hend := flips B true) (sl := .slice (some ⟨s, 0, some 2⟩) 2 k) (by omega) h2 lB n B.length _ _ _ ⟨rfl, rfl, 0, wordSum A true, true, by omega, by simp, by simp, rfl⟩) (by simp) (.refl _) ?_
    rintro e σ' h' n' ⟨rfl, rfl, rfl, g3, g4, g9, g10, g11⟩
    simp -dsimp (discharger := omega) [g11]
    exact .mk' 0 (by omega) [(3, .int .u64 ((wordSum A true + wordSum B true : Nat) : Int)), (4, .bool (flips B true)), (9, _), (10, .int .i64 2), (11, .int .i64 2)] _ (by simp [g3, g4, g9, g10]) (.refl _) ⟨rfl, rfl, 2, _, _, by omega, .inr (.inr ⟨rfl, rfl⟩), rfl⟩
  · obtain rfl : m = 0 := by omega
    simp -dsimp (discharger := omega) [F73L1]
    exact ⟨rfl, rfl, rfl, by simp⟩
def FoldInv (total : Nat) (h0 : AHeap) (n0 : Nat) (m : Nat) (σ : Fr) (h : AHeap) (n : Nat) : Prop :=
  h = h0 ∧ n = n0 ∧ ∃ acc, acc ≤ m ∧ acc < 1000000000000 ∧ foldW acc = foldW total ∧ σ = [(3, .int .u64 ((acc : Nat) : Int))]
def FoldPost (total : Nat) (h0 : AHeap) (n0 : Nat) (e : Ex) (σ' : Fr) (h' : AHeap) (n' : Nat) : Prop :=
  h' = h0 ∧ n' = n0 ∧ e = .exit 4 ∧ σ'.get 3 = some (.int .u64 ((foldW total : Nat) : Int))
theorem fold_loop {total : Nat} {h0 : AHeap} (n0 : Nat) :
    ∀ (m : Nat) (σ : Fr) (h : AHeap) (n : Nat), FoldInv total h0 n0 m σ h n → HasCode EV07 (.loop F73L2) σ h n (FoldPost total h0 n0) := by
  refine wx_inv _ fun m σ h n hI => ?_
  obtain ⟨rfl, rfl, acc, ham, hlt, hf, rfl⟩ := hI
  have hsh : shrI .u64 (acc : Int) 16 = ((acc / 65536 : Nat) : Int) := shrI_nat .u64 acc 16
  have han := and_u64 (x := acc) (by omega)
  rcases Nat.lt_or_ge 65535 acc with h1 | h1
  · cases m with
    | zero => omega
    | succ m =>
      simp -dsimp (discharger := omega) [F73L2, hsh, han]
      exact .mk' m (by omega) [(3, .int .u64 ((acc / 65536 + acc % 65536 : Nat) : Int))] _ (by simp (discharger := omega) []) (.refl _) ⟨rfl, rfl, _, by omega, by omega, by rw [foldW_step h1, hf], rfl⟩
  · have : foldW total = acc := by rw [← hf, foldW_small h1]
    simp -dsimp (discharger := omega) [F73L2]
    exact ⟨rfl, rfl, rfl, by simp [this]⟩
theorem sum_ret {A B : List UInt8} (hA : A.length % 2 = 0) (lA : A.length < 1000000) (lB : B.length < 1000000) {s k : Nat} {v1 v2 : Value} {h : AHeap} (hr : h.read s 2 0 2 = some [v1, v2]) (h1 : BS h v1 A) (h2 : BS h v2 B) (n : Nat) :
    Ret EV07 73 [.slice (some ⟨s, 0, some 2⟩) 2 k] h n (.int .u16 ((65535 - foldW (wordSum A true + wordSum B true) : Nat) : Int)) [] n := by
  have wA := wordSum_le A true
  have wB := wordSum_le B true
  refine rsx73 (by simp) (by simp) ?_
  simp -dsimp (discharger := omega) [B73]
  refine loop_use (sum_loop (k := k) hA lA lB hr h1 h2 n 2 _ _ _ ⟨rfl, rfl, 0, 0, true, rfl, .inl ⟨rfl, rfl, rfl⟩, rfl⟩) (by simp) (.refl _) ?_
  rintro e σ' h' n' ⟨rfl, rfl, rfl, g3⟩
  simp -dsimp (discharger := omega) []
  refine loop_use (fold_loop (total := wordSum A true + wordSum B true) _ (wordSum A true + wordSum B true) _ _ _ ⟨rfl, rfl, _, Nat.le_refl _, by omega, rfl, rfl⟩) (by simp [g3]) (.refl _) ?_
  rintro e σ2 h2' n2 ⟨rfl, rfl, rfl, k3⟩
  have hf := foldW_le (wordSum A true + wordSum B true)
  have hn := not_u16 (x := foldW (wordSum A true + wordSum B true)) (by omega)
  generalize foldW (wordSum A true + wordSum B true) = f at k3 hf hn ⊢
  simp -dsimp (discharger := omega) [k3, hn, HSub.refl]
end
end Go.Proofs.YtkaibjdogeikbaaDoor.Am
namespace Go.Proofs.YtkaibjdogeikbaaDoor.Am
noncomputable section
/- CONTRACT of trans.sum. -/
def aheadL (src dst proto len : Nat) : List UInt8 := foursL [src, dst] ++ [0, UInt8.ofNat proto] ++ twosL [len]
def sumN (src dst proto : Nat) (bs : List UInt8) : Nat := 65535 - foldW (wordSum (aheadL src dst proto bs.length) true + wordSum bs true)
theorem aheadL_len (src dst proto len : Nat) : (aheadL src dst proto len).length = 12 := by simp [aheadL, foursL_length, twosL_length]
theorem sum57_ret {src dst proto : Nat} (h1 : src < 4294967296) (h2 : dst < 4294967296) (h3 : proto < 256) {h : AHeap} {n : Nat} {b : Value} {bs : List UInt8} (hb : BS h b bs) (hw : WF h n) (hlen : bs.length < 65536) :
    Ret EV07 57 [.int .u32 (src : Int), .int .u32 (dst : Int), .int .u8 (proto : Int), b] h n (.int .u16 ((sumN src dst proto bs : Nat) : Int)) [] (n + 30) := by
  obtain ⟨bi, bk, rfl⟩ := hb.shape
  have hpr : (proto : Int) = ((UInt8.ofNat proto).toNat : Int) := by simp; omega
  have hcl : [Value.int .u8 0, .int .u8 (proto : Int)] = u8s [0, UInt8.ofNat proto] := by rw [hpr]; rfl
  refine rsx57 (by simp) (by simp) ?_
  simp -dsimp (discharger := omega) [B57]
  with_reducible refine call_ret (lay_ret _ _) ?_
  simp -dsimp (discharger := omega) [aFill]
  with_reducible refine call_ret (four_new (w := src) (ws := [dst]) (by simp; omega) (.of fun j hj => by simp (discharger := omega) [hw.none (i := j) (by omega)]) (by simp (discharger := omega)) (by simp [u32s]) (by omega) (by simp)) ?_
  simp -dsimp (discharger := omega) [aFill]
  refine call_gen (fun G => G.get n = some (padB (n + 1 + 1 + 2) (foursL [src, dst])) ∧ G.get (n + 1 + 1 + 2) = some (bufB (foursL [src, dst]) 2) ∧ G.read (n + 1 + 1 + 1 + 6) 2 0 2 = some (u8s [0, UInt8.ofNat proto]) ∧ HSub h G ∧ WF G (n + 10))
    ⟨by simp (discharger := omega) [], by simp (discharger := omega) [], by simp (discharger := omega) [hcl, take_u8s2], ?_, ?_⟩ ?_
  · exact ((((((HSub.refl h).new hw (by omega) _).new hw (by omega) _).new hw (by omega) _).new hw (by omega) _).new hw (by omega) _)
  · exact .of fun j hj => by simp (discharger := omega) [hw.none (i := j) (by omega)]
  rintro G ⟨g1, g2, g3, g4, g5⟩
  have l8 : (foursL [src, dst]).length = 8 := by simp [foursL_length]
  with_reducible refine call_ret (padByte_ret (vs := [0, UInt8.ofNat proto]) g1 g2 (by omega) (by omega) (by simp [aElems, g3]) (by simp [l8])) ?_
  have l10 : (foursL [src, dst] ++ [0, UInt8.ofNat proto]).length = 10 := by simp [l8]
  generalize hY : foursL [src, dst] ++ [0, UInt8.ofNat proto] = Y at l10 ⊢
  simp -dsimp (discharger := omega) [aFill]
  refine call_gen (fun G' => G'.get n = some (padB (n + 1 + 1 + 2) Y) ∧ G'.get (n + 1 + 1 + 2) = some (bufB Y 2) ∧ G'.read (n + 1 + 1 + 1 + 6 + 1) 1 0 1 = some (u16s [bs.length]) ∧ HSub h G' ∧ WF G' (n + 11))
    ⟨by simp (discharger := omega) [], by simp (discharger := omega) [], by simp (discharger := omega) [u16s], ?_, ?_⟩ ?_
  · exact ((g4.new hw (by omega) _).new hw (by omega) _).new hw (by omega) _
  · exact .of fun j hj => by simp (discharger := omega) [g5.none (i := j) (by omega)]
  rintro G2 ⟨k1, k2, k3, k4, k5⟩
  with_reducible refine call_ret (two_own (ws := [bs.length]) (by simp; omega) k5 k1 k2 (by omega) (by omega) k3 (by omega) (by omega) (by simp [l10])) ?_
  simp -dsimp (discharger := omega) []
  have hah : Y ++ twosL [bs.length] = aheadL src dst proto bs.length := by rw [aheadL, hY]
  rw [hah]
  have l12 := aheadL_len src dst proto bs.length
  rw [sumN]
  generalize aheadL src dst proto bs.length = A at l12 ⊢
  with_reducible refine call_ret (done_ret (p := n) (q := n + 1 + 1 + 2) (m := 2) (bs := A) (by simp) (by simp (discharger := omega) []) (by omega) (.of fun j hj => by simp (discharger := omega) [k5.none (i := j) (by omega)]) (by omega)) ?_
  simp -dsimp (discharger := omega) [aFill]
  refine call_gen (fun G => G.read (n + 11 + 1 + 1) 2 0 2 = some [.slice (some ⟨n + 11 + 1, 0, some A.length⟩) A.length 2, .slice bi bs.length bk] ∧ G.get (n + 11 + 1) = some (bufB A 0) ∧ HSub h G)
    ⟨by simp (discharger := omega) [], by simp (discharger := omega) [], ?_⟩ ?_
  · exact (((k4.new hw (by omega) _).new hw (by omega) _).new hw (by omega) _).new hw (by omega) _
  rintro G3 ⟨m1, m2, m3⟩
  have hA : BS G3 (.slice (some ⟨n + 11 + 1, 0, some A.length⟩) A.length 2) A := .mk (by unfold bufB at m2; rw [AHeap.read_of m2]; simp)
  with_reducible refine call_ret (sum_ret (A := A) (B := bs) (by omega) (by omega) (by omega) m1 hA (hb.mono m3) _) ?_
  simp -dsimp (discharger := omega) []
  exact m3
end
end Go.Proofs.YtkaibjdogeikbaaDoor.Am
namespace Go.Proofs.YtkaibjdogeikbaaDoor.Am
noncomputable section
/- CONTRACTS of trans.Right, trans.Seal: the table of the sums' places. -/
def sumsA : List (Value × Value) := [(.int .u8 6, .int .i64 16), (.int .u8 17, .int .i64 6)]
def sumsB : List (Value × Value) := [(.int .u8 17, .int .i64 6), (.int .u8 6, .int .i64 16)]
def HasSums (h : AHeap) : Prop := h.get 1 = some (.cells none [.map (some 4096)] 0) ∧ (h.get 4096 = some (.map sumsA) ∨ h.get 4096 = some (.map sumsB))
theorem HasSums.mono {h h' : AHeap} (x : HSub h h') (s : HasSums h) : HasSums h' := ⟨x _ _ s.1, s.2.imp (fun y => x _ _ y) (fun y => x _ _ y)⟩
theorem sums_6 {h : AHeap} (s : HasSums h) (c : Bool) : aLookup h c (.int .i64 0) (.map (some 4096)) (.int .u8 6) = some (if c then .tuple #[.int .i64 16, .bool true] else .int .i64 16) := by
  rcases s.2 with e | e <;> cases c <;> simp [aLookup, e, sumsA, sumsB, findEntry, sameKey]
theorem sums_17 {h : AHeap} (s : HasSums h) (c : Bool) : aLookup h c (.int .i64 0) (.map (some 4096)) (.int .u8 17) = some (if c then .tuple #[.int .i64 6, .bool true] else .int .i64 6) := by
  rcases s.2 with e | e <;> cases c <;> simp [aLookup, e, sumsA, sumsB, findEntry, sameKey]
theorem sums_none {h : AHeap} (s : HasSums h) {p : Nat} (h6 : p ≠ 6) (h17 : p ≠ 17) (c : Bool) : aLookup h c (.int .i64 0) (.map (some 4096)) (.int .u8 (p : Int)) = some (if c then .tuple #[.int .i64 0, .bool false] else .int .i64 0) := by
  have e1 : ¬ (p : Int) = 6 := by omega
  have e2 : ¬ (p : Int) = 17 := by omega
  have e3 : ¬ (6 : Int) = p := by omega
  have e4 : ¬ (17 : Int) = p := by omega
  rcases s.2 with e | e <;> cases c <;> simp [aLookup, e, sumsA, sumsB, findEntry, sameKey, e1, e2]
end
end Go.Proofs.YtkaibjdogeikbaaDoor.Am
namespace Go.Proofs.YtkaibjdogeikbaaDoor.Am
noncomputable section
/- CONTRACT of trans.Right. -/
def rightB (src dst proto : Nat) (bs : List UInt8) : Bool := (proto == 17 && decide (8 ≤ bs.length) && bs.getD 6 0 == 0 && bs.getD 7 0 == 0) || sumN src dst proto bs == 0
theorem nat0 (x : Nat) : (((x : Nat) : Int) == 0) = (x == 0) := by
  cases x with
  | zero => rfl
  | succ x => rfl
theorem right_ret {src dst proto : Nat} (h1 : src < 4294967296) (h2 : dst < 4294967296) (h3 : proto < 256) {h : AHeap} {n : Nat} {b : Value} {bs : List UInt8} (hb : BS h b bs) (hw : WF h n) (hs : HasSums h) (hlen : bs.length < 65536) :
    Ret EV07 30 [.int .u32 (src : Int), .int .u32 (dst : Int), .int .u8 (proto : Int), b] h n (.bool (rightB src dst proto bs)) [] (n + 30) := by
  have hlk := sums_17 hs false
  simp only [Bool.false_eq_true, if_false] at hlk
  have hsum := sum57_ret h1 h2 h3 hb hw hlen
  by_cases hp : proto = 17 ∧ 8 ≤ bs.length
  · obtain ⟨rfl, h8⟩ := hp
    obtain ⟨bi, bk, rfl⟩ := hb.shape
    obtain ⟨i, o, g, rfl, hr⟩ := hb.some (by omega)
    have e6 := u8s_get? (List.getElem?_eq_getElem (show 6 < bs.length by omega))
    have e7 := u8s_get? (List.getElem?_eq_getElem (show 7 < bs.length by omega))
    have r6 := read_one hr e6 (by omega)
    have r7 := read_one hr e7 (by omega)
    have g6 : bs.getD 6 0 = bs[6] := by simp [List.getD_eq_getElem?_getD, List.getElem?_eq_getElem (show 6 < bs.length by omega)]
    have g7 : bs.getD 7 0 = bs[7] := by simp [List.getD_eq_getElem?_getD, List.getElem?_eq_getElem (show 7 < bs.length by omega)]
    refine rsx30 (by simp) (by simp) ?_
    rw [rightB, g6, g7]
    generalize bs[6] = b6 at r6 ⊢
    generalize bs[7] = b7 at r7 ⊢
    by_cases z6 : b6 = 0
    · subst z6
      by_cases z7 : b7 = 0
      · subst z7
        simp -dsimp (discharger := omega) [B30, hs.1, AHeap.read_of hs.1, hlk, keyKind, r6, r7, h8]
        exact HSub.refl h
      · have n7 : ((b7.toNat : Int) == 0) = false := by
          simp; exact fun e => z7 (UInt8.toNat_inj.1 e)
        simp -dsimp (discharger := omega) [B30, hs.1, AHeap.read_of hs.1, hlk, keyKind, r6, r7, n7]
        with_reducible refine call_ret hsum ?_
        simp -dsimp (discharger := omega) [z7, nat0, HSub.refl]
    · have n6 : ((b6.toNat : Int) == 0) = false := by
        simp; exact fun e => z6 (UInt8.toNat_inj.1 e)
      simp -dsimp (discharger := omega) [B30, hs.1, AHeap.read_of hs.1, hlk, keyKind, r6, n6]
      with_reducible refine call_ret hsum ?_
      simp -dsimp (discharger := omega) [z6, nat0, HSub.refl]
  · have e : rightB src dst proto bs = (sumN src dst proto bs == 0) := by
      rw [rightB]
      by_cases h17 : proto = 17
      · have : ¬ 8 ≤ bs.length := fun h => hp ⟨h17, h⟩
        simp [this]
      · simp [h17]
    rw [e]
    obtain ⟨bi, bk, rfl⟩ := hb.shape
    refine rsx30 (by simp) (by simp) ?_
    by_cases h17 : proto = 17
    · subst h17
      have h8 : ¬ 8 ≤ bs.length := fun h => hp ⟨rfl, h⟩
      simp -dsimp (discharger := omega) [B30, hs.1, AHeap.read_of hs.1, hlk, keyKind]
      with_reducible refine call_ret hsum ?_
      simp -dsimp (discharger := omega) [nat0, HSub.refl]
    · have n17 : ((proto : Int) == 17) = false := by simp; omega
      simp -dsimp (discharger := omega) [B30, hs.1, AHeap.read_of hs.1, hlk, keyKind, n17]
      with_reducible refine call_ret hsum ?_
      simp -dsimp (discharger := omega) [nat0, HSub.refl]
end
end Go.Proofs.YtkaibjdogeikbaaDoor.Am
namespace Go.Proofs.YtkaibjdogeikbaaDoor.Am
noncomputable section
/- CONTRACT of trans.Seal. -/
theorem u8s_put {l : List UInt8} {i : Nat} (hi : i < l.length) (b : UInt8) : List.take i (u8s l) ++ Value.int .u8 (b.toNat : Int) :: List.drop (i + 1) (u8s l) = u8s (l.set i b) := by
  rw [List.set_eq_take_append_cons_drop, if_pos hi, u8s_append, u8s_cons, u8s_take, u8s_drop]
/-- The bytes with no sum. -/
def unsum (a : Nat) (bs : List UInt8) : List UInt8 := (bs.set a 0).set (a + 1) 0
/-- The sum that is laid. -/
def sealN (src dst proto a : Nat) (bs : List UInt8) : Nat := if proto = 17 ∧ sumN src dst proto (unsum a bs) = 0 then 65535 else sumN src dst proto (unsum a bs)
def sealL (src dst proto a : Nat) (bs : List UInt8) : List UInt8 := ((unsum a bs).set a (UInt8.ofNat (sealN src dst proto a bs / 256))).set (a + 1) (UInt8.ofNat (sealN src dst proto a bs % 256))
theorem sumN_le (src dst proto : Nat) (bs : List UInt8) : sumN src dst proto bs ≤ 65535 := by unfold sumN; omega
theorem byte_vals {y : Nat} (hy : y < 65536) : IntKind.u8.wrap (shrI .u16 (y : Int) 8) = ((UInt8.ofNat (y / 256)).toNat : Int) ∧ IntKind.u8.wrap (y : Int) = ((UInt8.ofNat (y % 256)).toNat : Int) := by
  have h := two_cells hy
  simp only [u8s, twoL, List.map_cons, List.map_nil, List.cons.injEq, Value.int.injEq, true_and, and_true] at h
  exact h
theorem unsum_len (a : Nat) (bs : List UInt8) : (unsum a bs).length = bs.length := by simp [unsum]
theorem seal_ok {src dst proto a : Nat} (h1 : src < 4294967296) (h2 : dst < 4294967296) (h3 : proto < 256) {h : AHeap} {n : Nat} {b : Value} {bs : List UInt8} (hb : BS h b bs) (hw : WF h n) (hs : HasSums h) (hlen : bs.length < 65536)
    (hlk : aLookup h true (.int .i64 0) (.map (some 4096)) (.int .u8 (proto : Int)) = some (.tuple #[.int .i64 (a : Int), .bool true])) (ha : a ≤ 16) (hal : a + 2 ≤ bs.length) :
    Ret EV07 29 [.int .u32 (src : Int), .int .u32 (dst : Int), .int .u8 (proto : Int), b] h n (.tuple #[.slice (some ⟨n, 0, some bs.length⟩) bs.length 2, .int .i64 0]) [(n, bufB (sealL src dst proto a bs) bs.length)] (n + 31) := by
  obtain ⟨bi, bk, rfl⟩ := hb.shape
  obtain ⟨i, o, g, rfl, hr⟩ := hb.some (by omega)
  refine rsx29 (by simp) (by simp) ?_
  simp -dsimp (discharger := omega) [B29, hs.1, AHeap.read_of hs.1, hlk, keyKind]
  with_reducible refine call_ret (clone_ret hr hw (by omega)) ?_
  have p1 := u8s_put (l := bs) (i := a) (by omega) 0
  have p2 := u8s_put (l := bs.set a 0) (i := a + 1) (by simp; omega) 0
  have hz : (((0 : UInt8).toNat : Nat) : Int) = 0 := rfl
  rw [hz] at p1 p2
  simp -dsimp (discharger := omega) [bufB, p1, p2]
  refine call_gen (fun G => G.get n = some (bufB (unsum a bs) bs.length) ∧ HSub h G ∧ WF G (n + 1))
    ⟨by simp [bufB, unsum], ((((HSub.refl h).new hw (Nat.le_refl n) _).new hw (Nat.le_refl n) _).new hw (Nat.le_refl n) _), WF.put (n := n + 1) (WF.put (n := n + 1) (hw.put (m := n + 1) _ (by omega) (by omega)) _ (by omega) (by omega)) _ (by omega) (by omega)⟩ ?_
  rintro G ⟨g1, g2, g3⟩
  have ul := unsum_len a bs
  have hxl := sumN_le src dst proto (unsum a bs)
  have hbs : BS G (.slice (some ⟨n, 0, some (unsum a bs).length⟩) (unsum a bs).length 2) (unsum a bs) := .mk (by unfold bufB at g1; rw [AHeap.read_of g1]; simp [ul]; exact List.take_of_length_le (by simp [ul]))
  have hsum := sum57_ret h1 h2 h3 hbs g3 (by omega)
  rw [ul] at hsum
  with_reducible refine call_ret hsum ?_
  rw [sealL]
  unfold bufB at g1
  have hsn : sealN src dst proto a bs = if proto = 17 ∧ sumN src dst proto (unsum a bs) = 0 then 65535 else sumN src dst proto (unsum a bs) := rfl
  have ul2 : (u8s (unsum a bs)).length = bs.length := by simp [ul]
  generalize sumN src dst proto (unsum a bs) = x at hxl hsn ⊢
  generalize unsum a bs = U at g1 ul ul2 ⊢
  by_cases hc : proto = 17 ∧ x = 0
  · obtain ⟨hp, rfl⟩ := hc
    subst hp
    rw [if_pos ⟨rfl, rfl⟩] at hsn
    rw [hsn]
    have hy := byte_vals (y := 65535) (by omega)
    have q1 := u8s_put (l := U) (i := a) (by omega) (UInt8.ofNat (65535 / 256))
    have q2 := u8s_put (l := U.set a (UInt8.ofNat (65535 / 256))) (i := a + 1) (by simp; omega) (UInt8.ofNat (65535 % 256))
    rw [← hy.1] at q1
    rw [← hy.2] at q2
    simp -dsimp (discharger := omega) [g1, ul2]
    refine .trans (.put_both n _ g2) (.over ?_)
    rw [show (65535 : Int) = ((65535 : Nat) : Int) from rfl, q1, q2]
    rfl
  · rw [if_neg hc] at hsn
    rw [hsn]
    have hy := byte_vals (y := x) (by omega)
    have q1 := u8s_put (l := U) (i := a) (by omega) (UInt8.ofNat (x / 256))
    have q2 := u8s_put (l := U.set a (UInt8.ofNat (x / 256))) (i := a + 1) (by simp; omega) (UInt8.ofNat (x % 256))
    rw [← hy.1] at q1
    rw [← hy.2] at q2
    by_cases hp : proto = 17
    · have hx : ¬ x = 0 := fun e => hc ⟨hp, e⟩
      subst hp
      have nx : ((x : Int) == 0) = false := by rw [nat0]; simpa using hx
      simp -dsimp (discharger := omega) [g1, ul2, nx]
      refine .trans (.put_both n _ g2) (.over ?_)
      rw [q1, q2]
      rfl
    · have np : ((proto : Int) == 17) = false := by simp; omega
      simp -dsimp (discharger := omega) [g1, ul2, np]
      refine .trans (.put_both n _ g2) (.over ?_)
      rw [q1, q2]
      rfl
end
end Go.Proofs.YtkaibjdogeikbaaDoor.Am
namespace Go.Proofs.YtkaibjdogeikbaaDoor.Am
noncomputable section
/- SEALS, IN PLAIN LEAN. -/
def totalN (src dst proto : Nat) (bs : List UInt8) : Nat := wordSum (aheadL src dst proto bs.length) true + wordSum bs true
theorem ahead_sum {src dst proto len : Nat} (h1 : src < 4294967296) (h2 : dst < 4294967296) (h3 : proto < 256) (h4 : len < 65536) :
    wordSum (aheadL src dst proto len) true = src / 65536 + src % 65536 + (dst / 65536 + dst % 65536) + proto + len := by
  simp [aheadL, foursL, fourL, twosL, twoL, wordSum]
  omega
theorem sum_zero {src dst proto : Nat} {bs : List UInt8} : sumN src dst proto bs = 0 ↔ 0 < totalN src dst proto bs ∧ totalN src dst proto bs % 65535 = 0 := by
  unfold sumN
  have e : wordSum (aheadL src dst proto bs.length) true + wordSum bs true = totalN src dst proto bs := rfl
  rw [e]
  unfold foldW
  split <;> omega
def wt (i : Nat) (h : Bool) : Nat := if (i % 2 == 0) == h then 256 else 1
theorem wt_succ (i : Nat) (h : Bool) : wt (i + 1) h = wt i (!h) := by
  unfold wt
  have : ((i + 1) % 2 == 0) = !(i % 2 == 0) := by
    rcases Nat.mod_two_eq_zero_or_one i with e | e
    · rw [show (i + 1) % 2 = 1 by omega, e]; rfl
    · rw [show (i + 1) % 2 = 0 by omega, e]; rfl
  rw [this]
  cases (i % 2 == 0) <;> cases h <;> rfl
theorem wordSum_set : ∀ (l : List UInt8) (i : Nat) (h : Bool) (v : UInt8) (hi : i < l.length), wordSum (l.set i v) h + wt i h * l[i].toNat = wordSum l h + wt i h * v.toNat
  | b :: l, 0, true, v, _ => by simp [wordSum, wt]; omega
  | b :: l, 0, false, v, _ => by simp [wordSum, wt]; omega
  | b :: l, i + 1, true, v, hi => by
    have := wordSum_set l i false v (by simpa using hi)
    rw [wt_succ]
    simp only [List.set_cons_succ, wordSum, List.getElem_cons_succ, Bool.not_true] at this ⊢
    omega
  | b :: l, i + 1, false, v, hi => by
    have := wordSum_set l i true v (by simpa using hi)
    rw [wt_succ]
    simp only [List.set_cons_succ, wordSum, List.getElem_cons_succ, Bool.not_false] at this ⊢
    omega
theorem wt_even {a : Nat} (ha : a % 2 = 0) : wt a true = 256 ∧ wt (a + 1) true = 1 := by
  unfold wt
  rw [ha, show (a + 1) % 2 = 1 by omega]
  exact ⟨rfl, rfl⟩
theorem wt_or (k : Nat) : wt k true = 256 ∨ wt k true = 1 := by unfold wt; split <;> simp
/-- Laid into two empty bytes at an even place, a number is added to the sum. -/
theorem wordSum_lay {U : List UInt8} {a y : Nat} (ha : a % 2 = 0) (hl : a + 2 ≤ U.length) (z1 : U[a] = 0) (z2 : U[a + 1] = 0) (hy : y < 65536) :
    wordSum ((U.set a (UInt8.ofNat (y / 256))).set (a + 1) (UInt8.ofNat (y % 256))) true = wordSum U true + y := by
  have e1 := wordSum_set U a true (UInt8.ofNat (y / 256)) (by omega)
  have e2 := wordSum_set (U.set a (UInt8.ofNat (y / 256))) (a + 1) true (UInt8.ofNat (y % 256)) (by simp; omega)
  have g : (U.set a (UInt8.ofNat (y / 256)))[a + 1]'(by simp; omega) = 0 := by
    rw [List.getElem_set_ne (by omega)]; exact z2
  rw [(wt_even ha).1, z1] at e1
  rw [(wt_even ha).2, g] at e2
  simp at e1 e2
  omega
theorem unsum_at {bs : List UInt8} {a : Nat} (hl : a + 2 ≤ bs.length) : (unsum a bs)[a]'(by rw [unsum_len]; omega) = 0 ∧ (unsum a bs)[a + 1]'(by rw [unsum_len]; omega) = 0 := by
  unfold unsum
  constructor
  · rw [List.getElem_set_ne (by omega), List.getElem_set_self]
  · rw [List.getElem_set_self]
theorem sealN_le {src dst proto a : Nat} {bs : List UInt8} : sealN src dst proto a bs ≤ 65535 := by
  have := sumN_le src dst proto (unsum a bs)
  unfold sealN; split <;> omega
theorem sealL_len (src dst proto a : Nat) (bs : List UInt8) : (sealL src dst proto a bs).length = bs.length := by simp [sealL, unsum_len]
theorem seal_total {src dst proto a : Nat} {bs : List UInt8} (ha : a % 2 = 0) (hl : a + 2 ≤ bs.length) : totalN src dst proto (sealL src dst proto a bs) = totalN src dst proto (unsum a bs) + sealN src dst proto a bs := by
  have hz := unsum_at (bs := bs) (a := a) hl
  have hn := sealN_le (src := src) (dst := dst) (proto := proto) (a := a) (bs := bs)
  have hul := unsum_len a bs
  have e := wordSum_lay (U := unsum a bs) (a := a) (y := sealN src dst proto a bs) ha (by omega) hz.1 hz.2 (by omega)
  unfold totalN
  rw [sealL_len, hul]
  unfold sealL
  rw [e]
  omega
/-- What is sealed is right. -/
theorem seal_mod {src dst proto a : Nat} {bs : List UInt8} (h1 : src < 4294967296) (h2 : dst < 4294967296) (h3 : proto < 256) (hp : 0 < proto) (h4 : bs.length < 65536) (ha : a % 2 = 0) (hl : a + 2 ≤ bs.length) :
    0 < totalN src dst proto (sealL src dst proto a bs) ∧ totalN src dst proto (sealL src dst proto a bs) % 65535 = 0 := by
  rw [seal_total ha hl]
  have hpos : 0 < totalN src dst proto (unsum a bs) := by
    unfold totalN; rw [ahead_sum h1 h2 h3 (by rw [unsum_len]; exact h4)]; omega
  have hs : sumN src dst proto (unsum a bs) = 65535 - foldW (totalN src dst proto (unsum a bs)) := rfl
  generalize totalN src dst proto (unsum a bs) = t at hpos hs ⊢
  unfold sealN
  rw [hs]
  unfold foldW
  split <;> split <;> omega
theorem seal_right {src dst proto a : Nat} {bs : List UInt8} (h1 : src < 4294967296) (h2 : dst < 4294967296) (h3 : proto < 256) (hp : 0 < proto) (h4 : bs.length < 65536) (ha : a % 2 = 0) (hl : a + 2 ≤ bs.length) :
    sumN src dst proto (sealL src dst proto a bs) = 0 := sum_zero.2 (seal_mod h1 h2 h3 hp h4 ha hl)
theorem seal_swap {src dst proto a : Nat} {bs : List UInt8} (h1 : src < 4294967296) (h2 : dst < 4294967296) (h3 : proto < 256) (hp : 0 < proto) (h4 : bs.length < 65536) (ha : a % 2 = 0) (hl : a + 2 ≤ bs.length) :
    sumN dst src proto (sealL src dst proto a bs) = 0 := by
  have h := seal_mod h1 h2 h3 hp h4 ha hl
  have e : totalN dst src proto (sealL src dst proto a bs) = totalN src dst proto (sealL src dst proto a bs) := by
    have hll : (sealL src dst proto a bs).length < 65536 := by rw [sealL_len]; exact h4
    unfold totalN; rw [ahead_sum h1 h2 h3 hll, ahead_sum h2 h1 h3 hll]; omega
  rw [sum_zero, e]; exact h
/-- With another byte it is not right. -/
theorem seal_other {src dst proto a k : Nat} {bs : List UInt8} {v : UInt8} (h1 : src < 4294967296) (h2 : dst < 4294967296) (h3 : proto < 256) (hp : 0 < proto) (h4 : bs.length < 65536) (ha : a % 2 = 0) (hl : a + 2 ≤ bs.length)
    (hk : k < (sealL src dst proto a bs).length) (hv : v ≠ (sealL src dst proto a bs)[k]) : sumN src dst proto ((sealL src dst proto a bs).set k v) ≠ 0 := by
  have h := seal_mod h1 h2 h3 hp h4 ha hl
  generalize sealL src dst proto a bs = S at h hk hv ⊢
  intro h0
  have h5 := sum_zero.1 h0
  unfold totalN at h h5
  rw [List.length_set] at h5
  have e := wordSum_set S k true v hk
  have hx := S[k].toNat_lt
  have hy := v.toNat_lt
  have hne : v.toNat ≠ S[k].toNat := fun e => hv (UInt8.toNat_inj.1 e)
  rcases wt_or k with w | w <;> rw [w] at e <;> omega
theorem xor_bit (a j : Nat) : (a ^^^ 2 ^ j = a + 2 ^ j) ∨ (a = (a ^^^ 2 ^ j) + 2 ^ j) := by
  have e1 : (a ^^^ 2 ^ j) % 2 ^ j = a % 2 ^ j := by rw [Nat.xor_mod_two_pow]; simp
  have e2 : (a ^^^ 2 ^ j) / 2 ^ j = (a / 2 ^ j) ^^^ 1 := by rw [Nat.xor_div_two_pow, Nat.div_self (Nat.two_pow_pos j)]
  have d1 := Nat.div_add_mod a (2 ^ j)
  have d2 := Nat.div_add_mod (a ^^^ 2 ^ j) (2 ^ j)
  rw [e1, e2] at d2
  generalize a / 2 ^ j = m at d1 d2
  have f1 : (m ^^^ 1) / 2 = m / 2 := by simp [Nat.xor_div_two]
  have f2 : (m ^^^ 1) % 2 = (m % 2) ^^^ 1 := by
    have := @Nat.xor_mod_two_pow m 1 1
    simpa using this
  rcases Nat.mod_two_eq_zero_or_one m with hm | hm
  · rw [hm] at f2
    have : m ^^^ 1 = m + 1 := by
      have f3 : (m ^^^ 1) % 2 = 1 := f2
      omega
    rw [this, Nat.mul_add] at d2
    left; omega
  · rw [hm] at f2
    have : m = (m ^^^ 1) + 1 := by
      have f3 : (m ^^^ 1) % 2 = 0 := f2
      omega
    have e3 : 2 ^ j * m = 2 ^ j * ((m ^^^ 1) + 1) := congrArg (2 ^ j * ·) this
    rw [Nat.mul_add] at e3
    right; omega
theorem pow_mod : ∀ j : Fin 32, 2 ^ j.1 % 65535 ≠ 0 ∧ 2 ^ j.1 % 65535 < 65535 := by decide
/-- For another address of one side it is not right. -/
theorem seal_from {src dst proto a j : Nat} {bs : List UInt8} (h1 : src < 4294967296) (h2 : dst < 4294967296) (h3 : proto < 256) (hp : 0 < proto) (h4 : bs.length < 65536) (ha : a % 2 = 0) (hl : a + 2 ≤ bs.length) (hj : j < 32) :
    sumN (src ^^^ 2 ^ j) dst proto (sealL src dst proto a bs) ≠ 0 := by
  have h := seal_mod h1 h2 h3 hp h4 ha hl
  have hx : src ^^^ 2 ^ j < 4294967296 := by
    have hj2 : 2 ^ j < 2 ^ 32 := Nat.pow_lt_pow_right (by omega) hj
    exact Nat.xor_lt_two_pow (n := 32) h1 hj2
  intro h0
  have h5 := sum_zero.1 h0
  have hll : (sealL src dst proto a bs).length < 65536 := by rw [sealL_len]; exact h4
  unfold totalN at h h5
  rw [ahead_sum h1 h2 h3 hll] at h
  rw [ahead_sum hx h2 h3 hll] at h5
  have hb := xor_bit src j
  have hm := pow_mod ⟨j, hj⟩
  simp only at hm
  generalize src ^^^ 2 ^ j = s2 at hx h5 hb
  generalize 2 ^ j = w at hb hm
  omega
end
end Go.Proofs.YtkaibjdogeikbaaDoor.Am
namespace Go.Proofs.YtkaibjdogeikbaaDoor.Am
noncomputable section
/- THE LAW TransSeals: parts. -/
def RS6 : ACode := .region [⟨(some 16), (.mov (.t 0)), none, []⟩,
    ⟨(some 17), (.mov (.t 0)), none, []⟩,
    ⟨(some 18), (.lenSlice (.t 17)), none, []⟩,
    ⟨(some 19), (.min [(.t 18), (.c (.int .i64 200))]), none, []⟩,
    ⟨(some 20), (.slice 1 (.t 16) none (some (.t 19)) none), none, []⟩,
    ⟨(some 0), (.mov (.t 20)), none, []⟩] none
theorem seals_cut {h0 H : AHeap} {n : Nat} {bb : Value} {cs : List UInt8} (hw : WF H n) (hs : HSub h0 H) (hb : BS h0 bb cs) (lu : cs.length < 9223372036854775808)
    {σ : Fr} (g0 : σ.get 0 = some bb) {Q : Ex → Fr → AHeap → Nat → Prop} {tk : Tok Q}
    (hQ : ∀ b' σ', BS h0 b' (cs.take 200) → σ'.get 0 = some b' → σ'.get 4 = σ.get 4 → σ'.get 5 = σ.get 5 → Q .normal σ' H n) :
    wx EV07 RS6 σ H n Q tk := by
  have h2 : (if (200 : Int) < (cs.length : Int) then (200 : Int) else (cs.length : Int)).toNat = Min.min 200 cs.length := by split <;> omega
  rcases hb with _ | @⟨i2, o2, gg2, k2, _, r2⟩
  · simp -dsimp (discharger := omega) [RS6, g0]
    exact hQ _ _ .nil (by simp) (by simp) (by simp)
  · have l2 := read_lt hw (read_mono hs r2)
    simp -dsimp (discharger := omega) [RS6, g0, h2]
    exact hQ _ _ (BS.cut r2 200 (if k2 % 2 = 1 then k2 else if k2 = 2 then k2 else 0)) (by simp) (by simp) (by simp)
theorem bs_from {h : AHeap} {i o g : Nat} {vs : List UInt8} (hr : h.read i g o vs.length = some (u8s vs)) (m : Nat) (k' : Nat) (hm : m ≤ vs.length) : BS h (.slice (some ⟨i, o + m, some g⟩) (vs.length - m) k') (vs.drop m) := by
  have e : (vs.drop m).length = vs.length - m := List.length_drop
  rw [← e]
  refine .mk ?_
  have := read_sub hr (a := m) (b := (vs.drop m).length) (by omega)
  rw [this, u8s_drop]
  congr 1
  exact List.take_of_length_le (by simp)
theorem seal_short {src dst proto a : Nat} {h : AHeap} {n : Nat} {b : Value} {bs : List UInt8} (hb : BS h b bs) (hs : HasSums h) (hlen : bs.length < 65536)
    (hlk : aLookup h true (.int .i64 0) (.map (some 4096)) (.int .u8 (proto : Int)) = some (.tuple #[.int .i64 (a : Int), .bool true])) (ha : a ≤ 16) (hal : bs.length < a + 2) :
    Ret EV07 29 [.int .u32 (src : Int), .int .u32 (dst : Int), .int .u8 (proto : Int), b] h n (.tuple #[.slice none 0 0, .int .i64 4]) [] n := by
  obtain ⟨bi, bk, rfl⟩ := hb.shape
  refine rsx29 (by simp) (by simp) ?_
  simp -dsimp (discharger := omega) [B29, hs.1, AHeap.read_of hs.1, hlk, keyKind]
  exact .refl _
theorem seal_again {src dst proto a : Nat} {bs : List UInt8} (hl : a + 2 ≤ bs.length) : sealL src dst proto a (sealL src dst proto a bs) = sealL src dst proto a bs := by
  have e : unsum a (sealL src dst proto a bs) = unsum a bs := by
    unfold sealL unsum
    apply List.ext_getElem (by simp)
    intro i h1 h2
    simp only [List.getElem_set]
    split
    · rfl
    · split
      · rfl
      · rfl
  have e2 : sealN src dst proto a (sealL src dst proto a bs) = sealN src dst proto a bs := by unfold sealN; rw [e]
  have e3 : ∀ X, sealL src dst proto a X = ((unsum a X).set a (UInt8.ofNat (sealN src dst proto a X / 256))).set (a + 1) (UInt8.ofNat (sealN src dst proto a X % 256)) := fun _ => rfl
  refine (e3 _).trans ?_
  rw [e, e2]
  rfl
theorem seal_ahead {src dst proto a : Nat} {bs : List UInt8} : (sealL src dst proto a bs).take a = bs.take a := by
  apply List.ext_getElem? 
  intro i
  simp only [List.getElem?_take]
  split
  · simp only [sealL, unsum, List.getElem?_set]
    rw [if_neg (by omega), if_neg (by omega), if_neg (by omega), if_neg (by omega)]
  · rfl
theorem seal_behind {src dst proto a : Nat} {bs : List UInt8} : (sealL src dst proto a bs).drop (a + 2) = bs.drop (a + 2) := by
  apply List.ext_getElem? 
  intro i
  simp only [List.getElem?_drop, sealL, unsum, List.getElem?_set]
  rw [if_neg (by omega), if_neg (by omega), if_neg (by omega), if_neg (by omega)]
theorem seal_at {src dst proto a : Nat} {bs : List UInt8} (hl : a + 2 ≤ bs.length) : (sealL src dst proto a bs)[a]? = some (UInt8.ofNat (sealN src dst proto a bs / 256)) ∧ (sealL src dst proto a bs)[a + 1]? = some (UInt8.ofNat (sealN src dst proto a bs % 256)) := by
  constructor
  · unfold sealL
    rw [List.getElem?_set_ne (by omega), List.getElem?_set_self (by rw [unsum_len]; omega)]
  · unfold sealL
    rw [List.getElem?_set_self (by simp [unsum_len]; omega)]
theorem xor_u32 {x y : Nat} (hx : x < 4294967296) (hy : y < 4294967296) : xorI .u32 (x : Int) (y : Int) = ((x ^^^ y : Nat) : Int) := by
  have hlt : x ^^^ y < 2 ^ 32 := Nat.xor_lt_two_pow hx hy
  have e : (BitVec.ofInt 32 (x : Int) ^^^ BitVec.ofInt 32 (y : Int)).toNat = x ^^^ y := by
    rw [BitVec.toNat_xor, BitVec.ofInt_natCast, BitVec.ofInt_natCast, BitVec.toNat_ofNat, BitVec.toNat_ofNat, Nat.mod_eq_of_lt hx, Nat.mod_eq_of_lt hy]
  have e2 : xorI .u32 (x : Int) (y : Int) = IntKind.u32.wrap ((BitVec.ofInt 32 (x : Int) ^^^ BitVec.ofInt 32 (y : Int)).toNat : Int) := rfl
  rw [e2, e]
  simp (discharger := omega) []
theorem xor_u8 {x y : Nat} (hx : x < 256) (hy : y < 256) : xorI .u8 (x : Int) (y : Int) = ((x ^^^ y : Nat) : Int) := by
  have hlt : x ^^^ y < 2 ^ 8 := Nat.xor_lt_two_pow hx hy
  have e : (BitVec.ofInt 8 (x : Int) ^^^ BitVec.ofInt 8 (y : Int)).toNat = x ^^^ y := by
    rw [BitVec.toNat_xor, BitVec.ofInt_natCast, BitVec.ofInt_natCast, BitVec.toNat_ofNat, BitVec.toNat_ofNat, Nat.mod_eq_of_lt hx, Nat.mod_eq_of_lt hy]
  have e2 : xorI .u8 (x : Int) (y : Int) = IntKind.u8.wrap ((BitVec.ofInt 8 (x : Int) ^^^ BitVec.ofInt 8 (y : Int)).toNat : Int) := rfl
  rw [e2, e]
  simp (discharger := omega) []
theorem shl_one {j : Nat} (hj : j < 32) : shlI .u32 1 (j : Int) = ((2 ^ j : Nat) : Int) := by
  have h := Nat.pow_lt_pow_right (a := 2) (by omega) hj
  have e : shlI .u32 1 (j : Int) = IntKind.u32.wrap (1 * 2 ^ (Min.min (j : Int).toNat 32)) := rfl
  rw [e, Int.toNat_natCast, Nat.min_eq_left (by omega), Int.one_mul]
  have e2 : (2 : Int) ^ j = ((2 ^ j : Nat) : Int) := by simp
  rw [e2]
  have h3 : 2 ^ j < 4294967296 := h
  generalize 2 ^ j = w at h3 ⊢
  simp (discharger := omega) []
theorem xor_ne {x y : Nat} (hy : 0 < y) : x ^^^ y ≠ x := fun h => by
  have : x ^^^ (x ^^^ y) = x ^^^ x := by rw [h]
  rw [← Nat.xor_assoc, Nat.xor_self, Nat.zero_xor] at this
  omega
end
end Go.Proofs.YtkaibjdogeikbaaDoor.Am
