/- Contracts and plain facts (LJ). -/
import Derived.Test.YtbgjcoochdljfaaDoorRLP
import Derived.Test.YtbgjcoochdljfaaDoorRL2
namespace Go.Proofs.YtbgjcoochdljfaaDoorR.Am
noncomputable section
/- strings.Builder: a block of two cells; its bytes lie in a block of their own. -/
def bldB (p q : Nat) (bs : List UInt8) : Blk := .cells (some 79) [.pointer (some ⟨p, 0, some 2⟩), .slice (some ⟨q, 0, some bs.length⟩) bs.length 2] 2
theorem writeString_ret {h : AHeap} {n p q m : Nat} {bs : List UInt8} (hp : h.get p = some (bldB p q bs)) (hq : h.get q = some (bufB bs m)) (hm : m ≤ bs.length) (hpq : ¬ p = q) (s : List UInt8) (hlen : bs.length + s.length < 1000000000) :
    Ret EV14 45 [.pointer (some ⟨p, 0, some 2⟩), .string ⟨s.toArray⟩] h n (.tuple #[.int .i64 (s.length : Int), .nilIface]) [(q, bufB (bs ++ s) m), (p, bldB p q (bs ++ s))] n := by
  refine rsx45 (by simp; omega) (by simp [hp, hq]) ?_
  have hqp : ¬ q = p := fun e => hpq e.symm
  simp -dsimp (discharger := omega) [B45]
  with_reducible refine inl55 ?_
  simp -dsimp (discharger := omega) [B55, AHeap.read_of hp, bldB]
  cases s with
  | nil =>
    simp -dsimp (discharger := omega) [aAppend, aElems, hp, bldB]
    exact .ofE (.left (.inr (by simp)) (.left (.inr (by simp [hpq, hq])) (.right (.inl (by simp)) (.refl _ _))))
  | cons a s =>
    simp -dsimp (discharger := omega) [aAppend, aElems, hqp, hp, hq, bldB, bufB]
    simp only [List.length_cons] at hlen
    exact ⟨by omega, .eq (by rw [u8s_append])⟩
theorem grow_ret {h : AHeap} {n p : Nat} (hp : h.get p = some (.cells (some 79) [.pointer none, .slice none 0 0] 2)) (hw : WF h n) {k : Int} (h0 : 0 < k) (h1 : k < 1000000000) :
    Ret EV14 44 [.pointer (some ⟨p, 0, some 2⟩), .int .i64 k] h n (.tuple #[]) [(n, bufB [] 0), (p, bldB p n [])] (n + 1) := by
  have hlt := hw.lt hp
  refine rsx44 (by simp; omega) (by simp [hp]) ?_
  simp -dsimp (discharger := omega) [B44]
  with_reducible refine inl55 ?_
  simp -dsimp (discharger := omega) [B55, AHeap.read_of hp]
  with_reducible refine call_ret (noEscape14 _ _ _) ?_
  simp -dsimp (discharger := omega) [hp]
  with_reducible refine inl56 ?_
  simp -dsimp (discharger := omega) [B56]
  with_reducible refine ret_ret (makeNoZero14 (by omega) (by omega) _ _) ?_
  simp -dsimp (discharger := omega) [aCopy, aElems]
  have hne : ¬ n = p := by omega
  have hne' : ¬ p = n := by omega
  exact ⟨hne, .ofE (.left (.inr (by simp [bldB])) (.left (.inr (by simp [hne', bufB])) (.right (.inl (by simp)) (.right (.inl (by simp)) (.right (.inl (by simp)) (.refl _ _))))))⟩
theorem string_ret {h : AHeap} {n p q m : Nat} {bs : List UInt8} (hp : h.get p = some (bldB p q bs)) (hq : h.get q = some (bufB bs m)) (hm : m ≤ bs.length) (h0 : bs ≠ []) (hlen : bs.length < 1000000000) (hw : WF h n) :
    Ret EV14 46 [.pointer (some ⟨p, 0, some 2⟩)] h n (.string ⟨bs.toArray⟩) [(q, .cells none (u8s bs) m)] n := by
  have hpos : 0 < bs.length := List.length_pos_iff.2 h0
  refine rsx46 (by simp) (by simp [hq]) ?_
  simp -dsimp (discharger := omega) [B46, AHeap.read_of hp, bldB]
  have hlt := hw.lt hq
  unfold bufB at hq
  have hrd : List.take bs.length (u8s bs) = u8s bs := List.take_of_length_le (by simp)
  simp -dsimp (discharger := omega) [hq, AHeap.read_of hq, hrd]
  exact ⟨hlt, .refl _⟩
/-- strings.Join: how long all is. -/
theorem join_loop0 {ss : List (List UInt8)} {h0 : AHeap} {i o g k : Nat} (hr : h0.read i g o ss.length = some (strsL ss)) (hlen : ss.length < 1000000) (base : Nat) (hsum : base + sumLen ss < 1000000000) (n0 : Nat) (sep : ByteArray) (sl : Value) :
    ∀ (m : Nat) (σ : Fr) (h : AHeap) (n : Nat), (h = h0 ∧ n = n0 ∧ ∃ j, j + m = ss.length ∧ σ = [(0, sl), (1, .string sep), (5, .int .i64 ((base + sumLen (ss.take j) : Nat) : Int)), (39, .slice (some ⟨i, o, some g⟩) ss.length k), (40, .int .i64 (ss.length : Int)), (41, .int .i64 (j : Int))]) →
      HasCode EV14 (.loop F28L0) σ h n fun e σ' h' n' => e = .exit 1 ∧ h' = h0 ∧ n' = n0 ∧ σ'.get 0 = some sl ∧ σ'.get 1 = some (.string sep) ∧ σ'.get 5 = some (.int .i64 ((base + sumLen ss : Nat) : Int)) := by
  refine wx_inv _ fun m σ h n hI => ?_
  obtain ⟨rfl, rfl, j, hj, rfl⟩ := hI
  cases m with
  | zero =>
    have hjl : j = ss.length := by omega
    subst hjl
    simp -dsimp (discharger := omega) [F28L0]
  | succ m =>
    have hlt : j < ss.length := by omega
    obtain ⟨s, hs⟩ : ∃ s, ss[j]? = some s := ⟨_, List.getElem?_eq_getElem hlt⟩
    have hrd := read_one hr (strsL_get? hs) hlt
    have htk := take_snoc hs
    have hle := sumLen_take_le ss (j + 1)
    rw [htk, sumLen_snoc] at hle
    simp -dsimp (discharger := omega) [F28L0, hrd]
    refine .mk' m (by omega) [(0, sl), (1, .string sep), (5, .int .i64 ((base + sumLen (ss.take (j + 1)) : Nat) : Int)), (39, .slice (some ⟨i, o, some g⟩) ss.length k), (40, .int .i64 (ss.length : Int)), (41, .int .i64 ((j + 1 : Nat) : Int))] _ ?_ (.refl _) ⟨rfl, rfl, j + 1, by omega, rfl⟩
    rw [htk, sumLen_snoc]
    simp
    omega
/-- strings.Join: the loop that writes. -/
theorem join_loop1 {ss : List (List UInt8)} {h0 : AHeap} {i o g k : Nat} (hr : h0.read i g (o + 1) ss.length = some (strsL ss)) (hlen : ss.length < 1000000) (sep pre : List UInt8) (hsum : (pre ++ joinT sep ss).length < 1000000000) (n0 : Nat) (hw : WF h0 n0) :
    ∀ (m : Nat) (σ : Fr) (h : AHeap) (n : Nat), (n = n0 + 2 ∧ ∃ j, j + m = ss.length ∧ h = (h0.put (n0 + 1) (bufB (pre ++ joinT sep (ss.take j)) 0)).put n0 (bldB n0 (n0 + 1) (pre ++ joinT sep (ss.take j))) ∧
        σ = [(1, .string ⟨sep.toArray⟩), (8, .pointer (some ⟨n0, 0, some 2⟩)), (63, .slice (some ⟨i, o + 1, some g⟩) ss.length k), (64, .int .i64 (ss.length : Int)), (65, .int .i64 (j : Int))]) →
      HasCode EV14 (.loop F28L1) σ h n fun e σ' h' n' => e = .exit 3 ∧ h' = (h0.put (n0 + 1) (bufB (pre ++ joinT sep ss) 0)).put n0 (bldB n0 (n0 + 1) (pre ++ joinT sep ss)) ∧ n' = n0 + 2 ∧ σ'.get 8 = some (.pointer (some ⟨n0, 0, some 2⟩)) := by
  refine wx_inv _ fun m σ h n hI => ?_
  obtain ⟨rfl, j, hj, rfl, rfl⟩ := hI
  cases m with
  | zero =>
    have hjl : j = ss.length := by omega
    subst hjl
    simp -dsimp (discharger := omega) [F28L1]
  | succ m =>
    have hlt : j < ss.length := by omega
    obtain ⟨s, hs⟩ : ∃ s, ss[j]? = some s := ⟨_, List.getElem?_eq_getElem hlt⟩
    have hrd := read_one hr (strsL_get? hs) hlt
    have hil := read_lt hw hr
    have htk := take_snoc hs
    have hbound : (pre ++ joinT sep (ss.take (j + 1))).length ≤ (pre ++ joinT sep ss).length := by
      simp only [List.length_append, joinT_len]
      have := sumLen_take_le ss (j + 1)
      have h2 : (ss.take (j + 1)).length ≤ ss.length := by simp; omega
      have h3 := Nat.mul_le_mul_left sep.length h2
      omega
    rw [htk, joinT_snoc] at hbound
    simp only [List.length_append] at hbound hsum
    have q1 : ¬ n0 = n0 + 1 := by omega
    simp -dsimp (discharger := omega) [F28L1, hrd]
    with_reducible refine call_ret (writeString_ret (p := n0) (q := n0 + 1) (m := 0) (bs := pre ++ joinT sep (ss.take j)) (by simp) (by simp) (by simp) (by simp) sep (by simp; omega)) ?_
    simp -dsimp (discharger := omega) []
    with_reducible refine call_ret (writeString_ret (p := n0) (q := n0 + 1) (m := 0) (bs := pre ++ joinT sep (ss.take j) ++ sep) (by simp) (by simp) (by simp) (by simp) s (by simp; omega)) ?_
    simp -dsimp (discharger := omega) []
    refine .mk' m (by omega) [(1, .string ⟨sep.toArray⟩), (8, .pointer (some ⟨n0, 0, some 2⟩)), (63, .slice (some ⟨i, o + 1, some g⟩) ss.length k), (64, .int .i64 (ss.length : Int)), (65, .int .i64 ((j + 1 : Nat) : Int))] _ (by simp) ?_ ⟨rfl, j + 1, by omega, rfl, rfl⟩
    rw [htk, joinT_snoc]
    refine .ofE (.left (.inr (by simp)) (.left (.inr (by simp)) ?_))
    repeat (refine .right (.inl (by simp)) ?_)
    exact .refl _ _
/-- strings.Join. -/
theorem join_ret {ss : List (List UInt8)} {h : AHeap} {n i o g k : Nat} (hr : h.read i g o ss.length = some (strsL ss)) (hw : WF h n) (sep : List UInt8) (hsep : sep ≠ []) (hlen : ss.length < 1000000) (hsum : (joinL sep ss).length < 1000000000) :
    Ret EV14 28 [.slice (some ⟨i, o, some g⟩) ss.length k, .string ⟨sep.toArray⟩] h n (.string ⟨(joinL sep ss).toArray⟩) [] (n + 2) := by
  refine rsx28 (by simp) (by simp) ?_
  match ss, hr, hlen, hsum with
  | [], hr, hlen, hsum =>
    simp -dsimp (discharger := omega) [B28, joinL, HSub.refl]
  | [a], hr, hlen, hsum =>
    have hrd := read_one hr (strsL_get? (i := 0) rfl) (by simp)
    simp at hrd
    simp -dsimp (discharger := omega) [B28, joinL, HSub.refl, hrd]
  | a :: b :: ss, hr, hlen, hsum =>
    have hrd := read_one hr (strsL_get? (i := 0) rfl) (by simp)
    simp at hrd
    have hpos : 0 < sep.length := List.length_pos_iff.2 hsep
    rw [joinL_cons, List.length_append, joinT_len] at hsum
    simp only [List.length_cons] at hlen hsum
    have hprod : sep.length * (ss.length + 1) < 1000000000 := by omega
    have hq1 := tdiv_big (a := sep.length) (b := ss.length + 1) (by omega) (by omega) hprod
    have hq2 := tdiv_le (b := ss.length + 1) (by omega)
    have hprodI : ((sep.length * (ss.length + 1) : Nat) : Int) = (sep.length : Int) * ((ss.length : Int) + 1) := by simp
    have hpr := Int.mul_nonneg (Int.natCast_nonneg sep.length) (by omega : 0 ≤ (ss.length : Int) + 1)
    simp only [Int.natCast_add, Int.natCast_one] at hq1 hq2
    simp -dsimp (discharger := omega) [B28]
    have hsum2 : sep.length * (ss.length + 1) + sumLen (a :: b :: ss) < 1000000000 := by
      simp only [sumLen, List.map_cons, List.sum_cons] at hsum ⊢; omega
    refine loop_use (join_loop0 (k := k) hr (by simp; omega) (sep.length * (ss.length + 1)) hsum2 n ⟨sep.toArray⟩ (.slice (some ⟨i, o, some g⟩) (ss.length + 1 + 1) k) _ _ _ _ ⟨rfl, rfl, 0, Nat.zero_add _, rfl⟩) (by simp [sumLen]) (.refl _) ?_
    rintro e σ' h' n' ⟨rfl, rfl, rfl, g0, g1, g5⟩
    have hil := read_lt hw hr
    simp -dsimp (discharger := omega) [g5]
    have hkpos : 0 < (sep.length : Int) * ((ss.length : Int) + 1) + (sumLen (a :: b :: ss) : Int) := by
      have : 0 < sep.length * (ss.length + 1) := Nat.mul_pos hpos (by omega)
      omega
    with_reducible refine call_ret (grow_ret (p := n') (by simp) (hw.put _ (by omega) (by omega)) hkpos (by omega)) ?_
    simp -dsimp (discharger := omega) [g0, hrd]
    with_reducible refine call_ret (writeString_ret (p := n') (q := n' + 1) (m := 0) (bs := []) (by simp) (by simp) (by simp) (by simp) a (by simp; omega)) ?_
    simp -dsimp (discharger := omega) [g0]
    have hr1 : h'.read i g (o + 1) (b :: ss).length = some (strsL (b :: ss)) := by
      rw [read_sub hr (a := 1) (b := (b :: ss).length) (by simp; omega)]; simp [strsL]; exact List.take_of_length_le (by simp)
    refine loop_use (join_loop1 (k := _) hr1 (by simp; omega) sep a (by simp only [List.length_append, joinT_len, List.length_cons]; omega) n' hw _ _ _ _ ⟨rfl, 0, Nat.zero_add _, rfl, rfl⟩) (by simp [g1]; rfl) ?_ ?_
    · simp only [List.take_zero, joinT, List.flatMap_nil, List.append_nil]
      refine .ofE (.left (.inr (by simp)) (.left (.inr (by simp)) ?_))
      repeat (refine .right (.inl (by simp)) ?_)
      exact .refl _ _
    · rintro e σ'' h'' n'' ⟨rfl, rfl, rfl, g8⟩
      have hne : a ++ joinT sep (b :: ss) ≠ [] := by
        intro e
        have := congrArg List.length e
        simp only [List.length_append, joinT_len, List.length_cons, List.length_nil] at this
        have : 0 < sep.length * (ss.length + 1) := Nat.mul_pos hpos (by omega)
        omega
      simp -dsimp (discharger := omega) [g8]
      with_reducible refine call_ret (string_ret (p := n') (q := n' + 1) (m := 0) (bs := a ++ joinT sep (b :: ss)) (by simp) (by simp) (by simp) hne (by simp only [List.length_append, joinT_len, List.length_cons]; omega) ((hw.put (i := n' + 1) (m := n' + 2) _ (by omega) (by omega)).put (i := n') (m := n' + 2) _ (by omega) (by omega))) ?_
      simp -dsimp (discharger := omega) [joinL_cons]
      refine .ofE ?_
      repeat (refine .right (.inr (hw _ (by omega))) ?_)
      exact .refl _ _
end
end Go.Proofs.YtbgjcoochdljfaaDoorR.Am
