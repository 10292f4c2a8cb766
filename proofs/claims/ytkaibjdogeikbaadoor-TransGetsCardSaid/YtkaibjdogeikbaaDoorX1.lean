/- Contracts of the program's functions (X1). -/
import Derived.Test.YtkaibjdogeikbaaDoorLS
import Derived.Test.YtkaibjdogeikbaaDoorLX
import Derived.Test.YtkaibjdogeikbaaDoorL
namespace Go.Proofs.YtkaibjdogeikbaaDoor.Am
noncomputable section
/- CONTRACTS of package cut: Pad. -/
def padB (q : Nat) (bs : List UInt8) : Blk := .cells (some 121) [.slice (some ⟨q, 0, some bs.length⟩) bs.length 2, .bool true] 2
def padNil : Blk := .cells (some 121) [.slice none 0 0, .bool true] 2
theorem lay_ret (h : AHeap) (n : Nat) : Ret EV07 41 [] h n (.pointer (some ⟨n, 0, some 2⟩)) [(n, padNil)] (n + 1) := by
  refine rsx41 (by simp) (by simp) ?_
  simp -dsimp (discharger := omega) [B41, aFill, padNil, HSub.refl]
theorem padByte_ret {h : AHeap} {n p q m : Nat} {bs : List UInt8} (hp : h.get p = some (padB q bs)) (hq : h.get q = some (bufB bs m)) (hm : m ≤ bs.length) (hpq : ¬ p = q) {v : Value} {vs : List UInt8} (hv : aElems h 1 v = some (vs.length, u8s vs)) (hlen : bs.length + vs.length < 1000000000) :
    Ret EV07 44 [.pointer (some ⟨p, 0, some 2⟩), v] h n (.pointer (some ⟨p, 0, some 2⟩)) [(q, bufB (bs ++ vs) m), (p, padB q (bs ++ vs))] n := by
  refine rsx44 (by simp; omega) (by simp [hp, hq]) ?_
  have hqp : ¬ q = p := fun e => hpq e.symm
  unfold padB at hp
  simp -dsimp (discharger := omega) [B44]
  with_reducible refine inl67 ?_
  simp -dsimp (discharger := omega) [B67, AHeap.read_of hp]
  cases vs with
  | nil =>
    simp -dsimp (discharger := omega) [aAppend, hv, hp, padB]
    exact .ofE (.left (.inr (by simp)) (.left (.inr (by simp [hpq, hq])) (.right (.inl (by simp)) (.refl _ _))))
  | cons a vs =>
    simp only [List.length_cons] at hlen
    simp -dsimp (discharger := omega) [aAppend, hv, hqp, hp, hq, bufB, padB]
    exact .eq (by rw [u8s_append])
theorem padByte_new {h : AHeap} {n p : Nat} (hp : h.get p = some padNil) (hw : WF h n) {v : Value} {vs : List UInt8} (hv : aElems h 1 v = some (vs.length, u8s vs)) (hne : vs ≠ []) (hlen : vs.length < 1000000000) :
    Ret EV07 44 [.pointer (some ⟨p, 0, some 2⟩), v] h n (.pointer (some ⟨p, 0, some 2⟩)) [(n, bufB vs vs.length), (p, padB n vs)] (n + 1) := by
  have hlt := hw.lt hp
  have hpos : 0 < vs.length := List.length_pos_iff.2 hne
  refine rsx44 (by simp; omega) (by simp [hp]) ?_
  unfold padNil at hp
  simp -dsimp (discharger := omega) [B44]
  with_reducible refine inl67 ?_
  simp -dsimp (discharger := omega) [B67, AHeap.read_of hp]
  simp -dsimp (discharger := omega) [aAppend, hv, hp, bufB, padB]
  exact .refl _
/-- Numbers of two bytes. -/
def twoL (w : Nat) : List UInt8 := [UInt8.ofNat (w / 256), UInt8.ofNat (w % 256)]
def twosL (ws : List Nat) : List UInt8 := ws.flatMap twoL
def u16s (ws : List Nat) : List Value := ws.map fun w : Nat => .int .u16 (w : Int)
def u32s (ws : List Nat) : List Value := ws.map fun w : Nat => .int .u32 (w : Int)
theorem two_cells {w : Nat} (hw : w < 65536) : [Value.int .u8 (IntKind.u8.wrap (shrI .u16 (w : Int) 8)), .int .u8 (IntKind.u8.wrap (w : Int))] = u8s (twoL w) := by
  have h1 : shrI .u16 (w : Int) 8 = ((w / 256 : Nat) : Int) := shrI_nat .u16 w 8
  rw [h1, wrap_u8_mod, wrap_u8_mod]
  simp [u8s, twoL]
@[simp] theorem u16s_length (ws : List Nat) : (u16s ws).length = ws.length := by simp [u16s]
@[simp] theorem u32s_length (ws : List Nat) : (u32s ws).length = ws.length := by simp [u32s]
theorem u16s_get? {l : List Nat} {i w : Nat} (h : l[i]? = some w) : (u16s l)[i]? = some (.int .u16 (w : Int)) := by simp [u16s, h]
theorem u32s_get? {l : List Nat} {i w : Nat} (h : l[i]? = some w) : (u32s l)[i]? = some (.int .u32 (w : Int)) := by simp [u32s, h]
theorem twosL_snoc (l : List Nat) (w : Nat) : twosL (l ++ [w]) = twosL l ++ twoL w := by simp [twosL]
@[simp] theorem twoL_length (w : Nat) : (twoL w).length = 2 := rfl
@[simp] theorem take_two (w : Nat) : List.take 2 (u8s (twoL w)) = u8s (twoL w) := rfl
theorem twosL_length (l : List Nat) : (twosL l).length = 2 * l.length := by
  induction l with
  | nil => rfl
  | cons a l ih => simp only [twosL, List.flatMap_cons, List.length_append, List.length_cons, twoL_length] at ih ⊢; omega
def TwoInv (ws : List Nat) (h0 : AHeap) (n1 p q m : Nat) (bs : List UInt8) (sl : Value) (j0 : Nat) (r : Nat) (σ : Fr) (h : AHeap) (n : Nat) : Prop :=
  ∃ j, j0 ≤ j ∧ j + r = ws.length ∧ n = n1 + (j - j0) ∧ h = (h0.put q (bufB (bs ++ twosL ((ws.take j).drop j0)) m)).put p (padB q (bs ++ twosL ((ws.take j).drop j0))) ∧
    σ = [(0, .pointer (some ⟨p, 0, some 2⟩)), (7, sl), (8, .int .i64 (ws.length : Int)), (9, .int .i64 (j : Int))]
def TwoPost (ws : List Nat) (h0 : AHeap) (n1 p q m : Nat) (bs : List UInt8) (j0 : Nat) (e : Ex) (σ' : Fr) (h' : AHeap) (n' : Nat) : Prop :=
  e = .exit 0 ∧ n' = n1 + (ws.length - j0) ∧ h' = (h0.put q (bufB (bs ++ twosL (ws.drop j0)) m)).put p (padB q (bs ++ twosL (ws.drop j0))) ∧ σ'.get 0 = some (.pointer (some ⟨p, 0, some 2⟩))
theorem two_loop {ws : List Nat} (hws : ∀ w, w ∈ ws → w < 65536) {h0 : AHeap} {n1 p q m : Nat} {bs : List UInt8} (hw : WF h0 n1) (hp : p < n1) (hq : q < n1) (hpq : ¬ p = q) (hm : m ≤ bs.length) {i o g k : Nat} (hr : h0.read i g o ws.length = some (u16s ws)) (hip : ¬ i = p) (hiq : ¬ i = q) (hlen : bs.length + 2 * ws.length < 1000000) (j0 : Nat) :
    ∀ (r : Nat) (σ : Fr) (h : AHeap) (n : Nat), TwoInv ws h0 n1 p q m bs (.slice (some ⟨i, o, some g⟩) ws.length k) j0 r σ h n → HasCode EV07 (.loop F42L0) σ h n (TwoPost ws h0 n1 p q m bs j0) := by
  refine wx_inv _ fun r σ h n hI => ?_
  obtain ⟨j, hj0, hj, rfl, rfl, rfl⟩ := hI
  have hqp : ¬ q = p := fun e => hpq e.symm
  have hpi : ¬ p = i := fun e => hip e.symm
  have hqi : ¬ q = i := fun e => hiq e.symm
  cases r with
  | zero =>
    have hjl : j = ws.length := by omega
    subst hjl
    simp -dsimp (discharger := omega) [F42L0]
    exact ⟨rfl, rfl, by simp, by simp⟩
  | succ r =>
    have hlt : j < ws.length := by omega
    obtain ⟨w, hwj⟩ : ∃ w, ws[j]? = some w := ⟨_, List.getElem?_eq_getElem hlt⟩
    have hrd := read_one hr (u16s_get? hwj) hlt
    have hww : w < 65536 := hws w (List.mem_of_getElem? hwj)
    have htk : (ws.take (j + 1)).drop j0 = (ws.take j).drop j0 ++ [w] := by
      rw [take_snoc hwj, List.drop_append_of_le_length (by simp; omega)]
    have hbl : (twosL ((ws.take j).drop j0)).length ≤ 2 * ws.length := by rw [twosL_length]; simp; omega
    have hbl2 : (twosL ((ws.take j).drop j0)).length + 2 ≤ 2 * ws.length := by rw [twosL_length]; simp; omega
    simp -dsimp (discharger := omega) [F42L0, hrd, hpi, hqi, aFill]
    rw [show ([Value.int IntKind.u8 (IntKind.u8.wrap (shrI IntKind.u16 (w : Int) 8)), Value.int IntKind.u8 (IntKind.u8.wrap (w : Int))] : List Value) = u8s (twoL w) from two_cells hww]
    have hnp : ¬ n1 + (j - j0) = p := by omega
    have hnq : ¬ n1 + (j - j0) = q := by omega
    with_reducible refine call_ret (padByte_ret (p := p) (q := q) (m := m) (bs := bs ++ twosL ((ws.take j).drop j0)) (vs := twoL w) (by simp [hnp]) (by simp [hnq, hpq]) (by simp; omega) hpq (by simp [aElems]) (by simp; omega)) ?_
    simp -dsimp (discharger := omega) []
    refine .mk' r (by omega) [(0, .pointer (some ⟨p, 0, some 2⟩)), (7, .slice (some ⟨i, o, some g⟩) ws.length k), (8, .int .i64 (ws.length : Int)), (9, .int .i64 ((j + 1 : Nat) : Int))] _ (by simp) ?_ ⟨j + 1, by omega, by omega, by omega, rfl, rfl⟩
    rw [htk, twosL_snoc]
    refine .ofE (.left (.inr (by simp)) (.left (.inr (by simp [hpq])) ?_))
    refine .right (.inl (by simp)) (.right (.inl (by simp)) (.right (.inr (hw _ (by omega))) (.right (.inl (by simp)) (.right (.inl (by simp)) (.refl _ _)))))
theorem two_own {ws : List Nat} (hws : ∀ w, w ∈ ws → w < 65536) {h : AHeap} {n p q m : Nat} {bs : List UInt8} (hw : WF h n) (hp : h.get p = some (padB q bs)) (hq : h.get q = some (bufB bs m)) (hpq : ¬ p = q) (hm : m ≤ bs.length) {i o g k : Nat} (hr : h.read i g o ws.length = some (u16s ws)) (hip : ¬ i = p) (hiq : ¬ i = q) (hlen : bs.length + 2 * ws.length < 1000000) :
    Ret EV07 42 [.pointer (some ⟨p, 0, some 2⟩), .slice (some ⟨i, o, some g⟩) ws.length k] h n (.pointer (some ⟨p, 0, some 2⟩)) [(q, bufB (bs ++ twosL ws) m), (p, padB q (bs ++ twosL ws))] (n + ws.length) := by
  have h1 := hw.lt hp
  have h2 := hw.lt hq
  refine rsx42 (by simp; omega) (by simp [hp, hq]) ?_
  simp -dsimp (discharger := omega) [B42]
  refine loop_use (two_loop (k := k) hws hw h1 h2 hpq hm hr hip hiq hlen 0 _ _ _ _ ⟨0, Nat.le_refl _, Nat.zero_add _, rfl, rfl, rfl⟩) (by simp) ?_ ?_
  · refine .ofE (.left (.inr (by simp [hp, twosL])) (.left (.inr (by simp [hq, twosL])) (.refl _ _)))
  · rintro e σ' h' n' ⟨rfl, rfl, rfl, g0⟩
    simp -dsimp (discharger := omega) [g0]
    exact .refl _
theorem two_new {w : Nat} {ws : List Nat} (hws : ∀ x, x ∈ w :: ws → x < 65536) {h : AHeap} {n p : Nat} (hw : WF h n) (hp : h.get p = some padNil) {i o g k : Nat} (hr : h.read i g o (w :: ws).length = some (u16s (w :: ws))) (hip : ¬ i = p) (hlen : 2 * (w :: ws).length < 100000) :
    Ret EV07 42 [.pointer (some ⟨p, 0, some 2⟩), .slice (some ⟨i, o, some g⟩) (w :: ws).length k] h n (.pointer (some ⟨p, 0, some 2⟩)) [(n + 1, bufB (twosL (w :: ws)) 2), (p, padB (n + 1) (twosL (w :: ws)))] (n + 1 + (w :: ws).length) := by
  have h1 := hw.lt hp
  have h2 := read_lt hw hr
  have hpi : ¬ p = i := fun e => hip e.symm
  have hww : w < 65536 := hws w (.head _)
  have hrd := read_one hr (u16s_get? (i := 0) rfl) (by simp)
  simp at hrd
  simp only [List.length_cons] at hlen
  refine rsx42 (by simp; omega) (by simp [hp]) ?_
  simp -dsimp (discharger := omega) [B42]
  refine wx_round ?_
  simp -dsimp (discharger := omega) [F42L0, hrd, aFill]
  rw [show ([Value.int IntKind.u8 (IntKind.u8.wrap (shrI IntKind.u16 (w : Int) 8)), Value.int IntKind.u8 (IntKind.u8.wrap (w : Int))] : List Value) = u8s (twoL w) from two_cells hww]
  have hnp : ¬ n = p := by omega
  with_reducible refine call_ret (padByte_new (p := p) (vs := twoL w) (by simp [hnp, hp]) (hw.put _ (by omega) (by omega)) (by simp [aElems]) (by simp [twoL]) (by simp)) ?_
  simp -dsimp (discharger := omega) []
  refine loop_use (two_loop (k := k) hws (hw.mono (Nat.le_add_right n 2)) (p := p) (q := n + 1) (m := 2) (bs := twoL w) (by omega) (by omega) (by omega) (by simp) hr hip (by omega) (by simp; omega) 1 ws.length _ _ _ ⟨1, Nat.le_refl _, by simp; omega, rfl, rfl, rfl⟩) (by simp) ?_ ?_
  · refine .ofE (.left (.inr (by simp [twosL])) (.left (.inr (by simp [twosL, show ¬ p = n + 1 from by omega])) ?_))
    refine .right (.inl (by simp)) (.right (.inl (by simp)) (.right (.inr (hw _ (by omega))) (.refl _ _)))
  · rintro e σ' h' n' ⟨rfl, rfl, rfl, g0⟩
    simp -dsimp (discharger := omega) [g0]
    exact ⟨.eq (by simp [twosL]), by omega⟩
/-- Numbers of four bytes. -/
def fourL (w : Nat) : List UInt8 := twosL [w / 65536, w % 65536]
def foursL (ws : List Nat) : List UInt8 := ws.flatMap fourL
theorem four_cells {w : Nat} (hw : w < 4294967296) : [Value.int .u16 (IntKind.u16.wrap (shrI .u32 (w : Int) 16)), .int .u16 (IntKind.u16.wrap (w : Int))] = u16s [w / 65536, w % 65536] := by
  have h1 : shrI .u32 (w : Int) 16 = ((w / 65536 : Nat) : Int) := shrI_nat .u32 w 16
  rw [h1, wrap_u16_mod, wrap_u16_mod]
  simp [u16s]
  omega
theorem foursL_snoc (l : List Nat) (w : Nat) : foursL (l ++ [w]) = foursL l ++ fourL w := by simp [foursL]
@[simp] theorem fourL_length (w : Nat) : (fourL w).length = 4 := rfl
theorem foursL_length (l : List Nat) : (foursL l).length = 4 * l.length := by
  induction l with
  | nil => rfl
  | cons a l ih => simp only [foursL, List.flatMap_cons, List.length_append, List.length_cons, fourL_length] at ih ⊢; omega
def FourInv (ws : List Nat) (h0 : AHeap) (n1 p q m : Nat) (bs : List UInt8) (sl : Value) (j0 : Nat) (r : Nat) (σ : Fr) (h : AHeap) (n : Nat) : Prop :=
  ∃ j, j0 ≤ j ∧ j + r = ws.length ∧ n = n1 + 3 * (j - j0) ∧ h = (h0.put q (bufB (bs ++ foursL ((ws.take j).drop j0)) m)).put p (padB q (bs ++ foursL ((ws.take j).drop j0))) ∧
    σ = [(0, .pointer (some ⟨p, 0, some 2⟩)), (7, sl), (8, .int .i64 (ws.length : Int)), (9, .int .i64 (j : Int))]
def FourPost (ws : List Nat) (h0 : AHeap) (n1 p q m : Nat) (bs : List UInt8) (j0 : Nat) (e : Ex) (σ' : Fr) (h' : AHeap) (n' : Nat) : Prop :=
  e = .exit 0 ∧ n' = n1 + 3 * (ws.length - j0) ∧ h' = (h0.put q (bufB (bs ++ foursL (ws.drop j0)) m)).put p (padB q (bs ++ foursL (ws.drop j0))) ∧ σ'.get 0 = some (.pointer (some ⟨p, 0, some 2⟩))
theorem four_loop {ws : List Nat} (hws : ∀ w, w ∈ ws → w < 4294967296) {h0 : AHeap} {n1 p q m : Nat} {bs : List UInt8} (hw : WF h0 n1) (hp : p < n1) (hq : q < n1) (hpq : ¬ p = q) (hm : m ≤ bs.length) {i o g k : Nat} (hr : h0.read i g o ws.length = some (u32s ws)) (hip : ¬ i = p) (hiq : ¬ i = q) (hlen : bs.length + 4 * ws.length < 100000) (j0 : Nat) :
    ∀ (r : Nat) (σ : Fr) (h : AHeap) (n : Nat), FourInv ws h0 n1 p q m bs (.slice (some ⟨i, o, some g⟩) ws.length k) j0 r σ h n → HasCode EV07 (.loop F43L0) σ h n (FourPost ws h0 n1 p q m bs j0) := by
  refine wx_inv _ fun r σ h n hI => ?_
  obtain ⟨j, hj0, hj, rfl, rfl, rfl⟩ := hI
  have hqp : ¬ q = p := fun e => hpq e.symm
  have hpi : ¬ p = i := fun e => hip e.symm
  have hqi : ¬ q = i := fun e => hiq e.symm
  cases r with
  | zero =>
    have hjl : j = ws.length := by omega
    subst hjl
    simp -dsimp (discharger := omega) [F43L0]
    exact ⟨rfl, rfl, by simp, by simp⟩
  | succ r =>
    have hlt : j < ws.length := by omega
    obtain ⟨w, hwj⟩ : ∃ w, ws[j]? = some w := ⟨_, List.getElem?_eq_getElem hlt⟩
    have hrd := read_one hr (u32s_get? hwj) hlt
    have hww : w < 4294967296 := hws w (List.mem_of_getElem? hwj)
    have htk : (ws.take (j + 1)).drop j0 = (ws.take j).drop j0 ++ [w] := by
      rw [take_snoc hwj, List.drop_append_of_le_length (by simp; omega)]
    have hbl2 : (foursL ((ws.take j).drop j0)).length + 4 ≤ 4 * ws.length := by rw [foursL_length]; simp; omega
    simp -dsimp (discharger := omega) [F43L0, hrd, hpi, hqi, aFill]
    rw [show ([Value.int IntKind.u16 (IntKind.u16.wrap (shrI IntKind.u32 (w : Int) 16)), Value.int IntKind.u16 (IntKind.u16.wrap (w : Int))] : List Value) = u16s [w / 65536, w % 65536] from four_cells hww]
    have hnp : ¬ n1 + 3 * (j - j0) = p := by omega
    have hnq : ¬ n1 + 3 * (j - j0) = q := by omega
    with_reducible refine call_ret (two_own (ws := [w / 65536, w % 65536]) (by simp; omega) (p := p) (q := q) (m := m) (bs := bs ++ foursL ((ws.take j).drop j0)) (((hw.put (m := n1 + 3 * (j - j0) + 1) _ (by omega) (by omega)).put (m := n1 + 3 * (j - j0) + 1) _ (by omega) (by omega)).put (m := n1 + 3 * (j - j0) + 1) _ (by omega) (by omega)) (by simp [hnp]) (by simp [hnq, hpq]) hpq (by simp; omega) (by simp [u16s]) hnp hnq (by simp; omega)) ?_
    simp -dsimp (discharger := omega) []
    refine .mk' r (by omega) [(0, .pointer (some ⟨p, 0, some 2⟩)), (7, .slice (some ⟨i, o, some g⟩) ws.length k), (8, .int .i64 (ws.length : Int)), (9, .int .i64 ((j + 1 : Nat) : Int))] _ (by simp) ?_ ⟨j + 1, by omega, by omega, by omega, rfl, rfl⟩
    rw [htk, foursL_snoc]
    refine .ofE (.left (.inr (by simp [fourL])) (.left (.inr (by simp [hpq, fourL])) ?_))
    refine .right (.inl (by simp)) (.right (.inl (by simp)) (.right (.inr (hw _ (by omega))) (.right (.inl (by simp)) (.right (.inl (by simp)) (.refl _ _)))))
theorem four_own {ws : List Nat} (hws : ∀ w, w ∈ ws → w < 4294967296) {h : AHeap} {n p q m : Nat} {bs : List UInt8} (hw : WF h n) (hp : h.get p = some (padB q bs)) (hq : h.get q = some (bufB bs m)) (hpq : ¬ p = q) (hm : m ≤ bs.length) {i o g k : Nat} (hr : h.read i g o ws.length = some (u32s ws)) (hip : ¬ i = p) (hiq : ¬ i = q) (hlen : bs.length + 4 * ws.length < 100000) :
    Ret EV07 43 [.pointer (some ⟨p, 0, some 2⟩), .slice (some ⟨i, o, some g⟩) ws.length k] h n (.pointer (some ⟨p, 0, some 2⟩)) [(q, bufB (bs ++ foursL ws) m), (p, padB q (bs ++ foursL ws))] (n + 3 * ws.length) := by
  have h1 := hw.lt hp
  have h2 := hw.lt hq
  refine rsx43 (by simp; omega) (by simp [hp, hq]) ?_
  simp -dsimp (discharger := omega) [B43]
  refine loop_use (four_loop (k := k) hws hw h1 h2 hpq hm hr hip hiq hlen 0 _ _ _ _ ⟨0, Nat.le_refl _, Nat.zero_add _, rfl, rfl, rfl⟩) (by simp) ?_ ?_
  · refine .ofE (.left (.inr (by simp [hp, foursL])) (.left (.inr (by simp [hq, foursL])) (.refl _ _)))
  · rintro e σ' h' n' ⟨rfl, rfl, rfl, g0⟩
    simp -dsimp (discharger := omega) [g0]
    exact .refl _
theorem four_new {w : Nat} {ws : List Nat} (hws : ∀ x, x ∈ w :: ws → x < 4294967296) {h : AHeap} {n p : Nat} (hw : WF h n) (hp : h.get p = some padNil) {i o g k : Nat} (hr : h.read i g o (w :: ws).length = some (u32s (w :: ws))) (hip : ¬ i = p) (hlen : 4 * (w :: ws).length < 10000) :
    Ret EV07 43 [.pointer (some ⟨p, 0, some 2⟩), .slice (some ⟨i, o, some g⟩) (w :: ws).length k] h n (.pointer (some ⟨p, 0, some 2⟩)) [(n + 2, bufB (foursL (w :: ws)) 2), (p, padB (n + 2) (foursL (w :: ws)))] (n + 1 + 3 * (w :: ws).length) := by
  have h1 := hw.lt hp
  have h2 := read_lt hw hr
  have hpi : ¬ p = i := fun e => hip e.symm
  have hww : w < 4294967296 := hws w (.head _)
  have hrd := read_one hr (u32s_get? (i := 0) rfl) (by simp)
  simp at hrd
  simp only [List.length_cons] at hlen
  refine rsx43 (by simp; omega) (by simp [hp]; exact .inr (by omega)) ?_
  simp -dsimp (discharger := omega) [B43]
  refine wx_round ?_
  simp -dsimp (discharger := omega) [F43L0, hrd, aFill]
  rw [show ([Value.int IntKind.u16 (IntKind.u16.wrap (shrI IntKind.u32 (w : Int) 16)), Value.int IntKind.u16 (IntKind.u16.wrap (w : Int))] : List Value) = u16s [w / 65536, w % 65536] from four_cells hww]
  have hnp : ¬ n = p := by omega
  with_reducible refine call_ret (two_new (w := w / 65536) (ws := [w % 65536]) (by simp; omega) (p := p) (hw.put (m := n + 1) _ (by omega) (by omega)) (by simp [hnp, hp]) (by simp [u16s]) hnp (by simp)) ?_
  simp -dsimp (discharger := omega) []
  refine loop_use (four_loop (k := k) hws (hw.mono (Nat.le_add_right n 4)) (p := p) (q := n + 2) (m := 2) (bs := fourL w) (by omega) (by omega) (by omega) (by simp) hr hip (by omega) (by simp; omega) 1 ws.length _ _ _ ⟨1, Nat.le_refl _, by simp; omega, rfl, rfl, rfl⟩) (by simp) ?_ ?_
  · refine .ofE (.left (.inr (by simp [foursL, fourL])) (.left (.inr (by simp [foursL, fourL, show ¬ p = n + 2 from by omega])) ?_))
    refine .right (.inl (by simp)) (.right (.inl (by simp)) (.right (.inr (hw _ (by omega))) (.refl _ _)))
  · rintro e σ' h' n' ⟨rfl, rfl, rfl, g0⟩
    simp -dsimp (discharger := omega) [g0]
    exact ⟨.eq (by simp [foursL]), by omega⟩
end
end Go.Proofs.YtkaibjdogeikbaaDoor.Am
namespace Go.Proofs.YtkaibjdogeikbaaDoor.Am
noncomputable section
/- CONTRACTS: Clone, Equal, Pad.Done. -/
theorem clone_nil (h : AHeap) (n : Nat) : Ret EV07 56 [.slice none 0 0] h n (.slice none 0 0) [] n := by
  refine rsx56 (by simp) (by simp) ?_
  simp -dsimp (discharger := omega) [B56, HSub.refl]
theorem clone_ret {h : AHeap} {n i o g k : Nat} {vs : List UInt8} (hr : h.read i g o vs.length = some (u8s vs)) (hw : WF h n) (hb : vs.length < 1000000000) :
    Ret EV07 56 [.slice (some ⟨i, o, some g⟩) vs.length k] h n (.slice (some ⟨n, 0, some vs.length⟩) vs.length 2) [(n, bufB vs 0)] (n + 1) := by
  have hi := read_lt hw hr
  refine rsx56 (by simp) (by simp) ?_
  simp -dsimp (discharger := omega) [B56]
  cases vs with
  | nil =>
    simp -dsimp (discharger := omega) [aFill, aAppend, aElems]
    simp at hr
    simp -dsimp (discharger := omega) [hr]
    exact .refl _
  | cons a vs =>
    simp only [List.length_cons] at hb hr
    simp -dsimp (discharger := omega) [aFill, aAppend, aElems, hr, bufB]
    refine .ofE (.left (.inr (by simp)) (.right (.inl (by simp)) (.right (.inl (by simp)) (.refl _ _))))
theorem bclone_nil (h : AHeap) (n : Nat) : Ret EV07 25 [.slice none 0 0] h n (.slice none 0 0) [] n := by
  refine rsx25 (by simp) (by simp) ?_
  simp -dsimp (discharger := omega) [B25, HSub.refl]
theorem bclone_ret {h : AHeap} {n i o g k : Nat} {vs : List UInt8} (hr : h.read i g o vs.length = some (u8s vs)) (hw : WF h n) (hb : vs.length < 1000000000) :
    Ret EV07 25 [.slice (some ⟨i, o, some g⟩) vs.length k] h n (.slice (some ⟨n, 0, some vs.length⟩) vs.length 2) [(n, bufB vs 0)] (n + 1) := by
  have hi := read_lt hw hr
  refine rsx25 (by simp) (by simp) ?_
  simp -dsimp (discharger := omega) [B25]
  cases vs with
  | nil =>
    simp -dsimp (discharger := omega) [aFill, aAppend, aElems]
    simp at hr
    simp -dsimp (discharger := omega) [hr]
    exact .refl _
  | cons a vs =>
    simp only [List.length_cons] at hb hr
    simp -dsimp (discharger := omega) [aFill, aAppend, aElems, hr, bufB]
    refine .ofE (.left (.inr (by simp)) (.right (.inl (by simp)) (.right (.inl (by simp)) (.refl _ _))))
/-- Bytes that a value tells. -/
inductive BS (h : AHeap) : Value → List UInt8 → Prop
  | nil : BS h (.slice none 0 0) []
  | mk {i o g k : Nat} {vs : List UInt8} (hr : h.read i g o vs.length = some (u8s vs)) : BS h (.slice (some ⟨i, o, some g⟩) vs.length k) vs
theorem BS.elems {h : AHeap} {v : Value} {vs : List UInt8} (x : BS h v vs) : aElems h 1 v = some (vs.length, u8s vs) := by
  cases x with
  | nil => rfl
  | mk hr => simp [aElems, hr]
theorem BS.mono {h h' : AHeap} (hs : HSub h h') {v : Value} {vs : List UInt8} (x : BS h v vs) : BS h' v vs := by
  cases x with
  | nil => exact .nil
  | mk hr => exact .mk (read_mono hs hr)
theorem equal_ret {h : AHeap} {v w : Value} {a b : List UInt8} (hv : BS h v a) (hw : BS h w b) (n : Nat) : Ret EV07 21 [v, w] h n (.bool (a == b)) [] n := by
  refine rsx21 (by simp) (by simp) ?_
  cases hv with
  | nil => cases hw with
    | nil => simp -dsimp (discharger := omega) [B21, HSub.refl]
    | mk hr => simp -dsimp (discharger := omega) [B21, HSub.refl, hr]
  | mk hr => cases hw with
    | nil => simp -dsimp (discharger := omega) [B21, HSub.refl, hr]
    | mk hr2 => simp -dsimp (discharger := omega) [B21, HSub.refl, hr, hr2]
theorem done_ret {h : AHeap} {n p q m : Nat} {bs : List UInt8} (hp : h.get p = some (padB q bs)) (hq : h.get q = some (bufB bs m)) (hm : m ≤ bs.length) (hw : WF h n) (hb : bs.length < 1000000000) :
    Ret EV07 45 [.pointer (some ⟨p, 0, some 2⟩)] h n (.slice (some ⟨n, 0, some bs.length⟩) bs.length 2) [(n, bufB bs 0)] (n + 1) := by
  refine rsx45 (by simp) (by simp) ?_
  unfold padB at hp
  have hr : h.read q bs.length 0 bs.length = some (u8s bs) := by
    unfold bufB at hq; rw [AHeap.read_of hq]; simp [hm]
  simp -dsimp (discharger := omega) [B45]
  with_reducible refine inl67 ?_
  simp -dsimp (discharger := omega) [B67, AHeap.read_of hp]
  with_reducible refine call_ret (clone_ret hr hw hb) ?_
  simp -dsimp (discharger := omega) [HSub.refl]
end
end Go.Proofs.YtkaibjdogeikbaaDoor.Am
namespace Go.Proofs.YtkaibjdogeikbaaDoor.Am
noncomputable section
/- CONTRACTS: Tcp.Bytes, Udp.Bytes. -/
structure TcpN where
  fr : Nat
  to : Nat
  seq : Nat
  ack : Nat
  odd : Nat
  flags : Nat
  window : Nat
  sum : Nat
  urgent : Nat
structure TcpN.ok (t : TcpN) : Prop where
  h1 : t.fr < 65536
  h2 : t.to < 65536
  h3 : t.seq < 4294967296
  h4 : t.ack < 4294967296
  h5 : t.odd < 256
  h6 : t.flags < 256
  h7 : t.window < 65536
  h8 : t.sum < 65536
  h9 : t.urgent < 65536
def tcpV (t : TcpN) (o b : Value) : Value := .agg #[.int .u16 (t.fr : Int), .int .u16 (t.to : Int), .int .u32 (t.seq : Int), .int .u32 (t.ack : Int), .int .u8 (t.odd : Int), .int .u8 (t.flags : Int), .int .u16 (t.window : Int), .int .u16 (t.sum : Int), .int .u16 (t.urgent : Int), o, b]
theorem tcpBytes_bad {t : TcpN} (ht : t.ok) {h : AHeap} {n : Nat} {o b : Value} {os bs : List UInt8} (ho : BS h o os) (hb : BS h b bs) (hw : WF h n) (hbad : t.odd > 15 ∨ os.length > 40 ∨ os.length % 4 ≠ 0) (hlen : os.length < 1000000) :
    Ret EV07 14 [tcpV t o b] h n (.tuple #[.slice none 0 0, .int .i64 1]) [] (n + 1) := by
  refine rsx14 (by simp) (by simp) ?_
  have hsub : ∀ B, HSub h (h.put n B) := fun B => .put_new _ (hw n (Nat.le_refl _)) (.refl _)
  obtain ⟨i, k, rfl⟩ : ∃ (a : Option Addr) (k : Nat), o = .slice a os.length k := by
    cases ho with
    | nil => exact ⟨none, 0, rfl⟩
    | mk hr => exact ⟨_, _, rfl⟩
  have hmod : Int.tmod (os.length : Int) 4 = ((os.length % 4 : Nat) : Int) := tmod_nat _ 4
  by_cases h1 : 15 < t.odd
  · simp -dsimp (discharger := omega) [B14, tcpV]
    exact hsub _
  · by_cases h2 : 40 < os.length
    · simp -dsimp (discharger := omega) [B14, tcpV]
      exact hsub _
    · have h3 : os.length % 4 ≠ 0 := by omega
      simp -dsimp (discharger := omega) [B14, tcpV, hmod]
      exact hsub _
theorem take_u8s2 (a b : UInt8) : List.take 2 (u8s [a, b]) = u8s [a, b] := rfl
def wordsL (os : List UInt8) (odd : Nat) : UInt8 := UInt8.ofNat ((5 + os.length / 4) * 16 + odd)
def tcpL (t : TcpN) (os bs : List UInt8) : List UInt8 := twosL [t.fr, t.to] ++ foursL [t.seq, t.ack] ++ [wordsL os t.odd, UInt8.ofNat t.flags] ++ twosL [t.window, t.sum, t.urgent] ++ os ++ bs
theorem words_eq : ∀ q : Fin 11, ∀ o : Fin 16, orI .u8 (shlI .u8 ((5 + q.1 : Nat) : Int) 4) (o.1 : Int) = (((5 + q.1) * 16 + o.1 : Nat) : Int) := by decide +kernel
theorem tcpBytes_ok {t : TcpN} (ht : t.ok) {h : AHeap} {n : Nat} {o b : Value} {os bs : List UInt8} (ho : BS h o os) (hb : BS h b bs) (hw : WF h n) (h1 : t.odd ≤ 15) (h2 : os.length ≤ 40) (h3 : os.length % 4 = 0) (hlen : bs.length < 1000) :
    Ret EV07 14 [tcpV t o b] h n (.tuple #[.slice (some ⟨n + 18, 0, some (tcpL t os bs).length⟩) (tcpL t os bs).length 2, .int .i64 0]) [(n + 18, bufB (tcpL t os bs) 0)] (n + 19) := by
  refine rsx14 (by simp) (by simp) ?_
  obtain ⟨i, k, rfl⟩ : ∃ (a : Option Addr) (k : Nat), o = .slice a os.length k := by
    cases ho with
    | nil => exact ⟨none, 0, rfl⟩
    | mk hr => exact ⟨_, _, rfl⟩
  have hmod : Int.tmod (os.length : Int) 4 = ((os.length % 4 : Nat) : Int) := tmod_nat _ 4
  have hdiv : Int.tdiv (os.length : Int) 4 = ((os.length / 4 : Nat) : Int) := tdiv_nat _ 4
  obtain ⟨t1, t2, t3, t4, t5, t6, t7, t8, t9⟩ := ht
  have hwd : orI .u8 (shlI .u8 (5 + (os.length : Int) / 4) 4) (t.odd : Int) = ((wordsL os t.odd).toNat : Int) := by
    have e := words_eq ⟨os.length / 4, by omega⟩ ⟨t.odd, by omega⟩
    have e2 : ((5 + os.length / 4 : Nat) : Int) = 5 + (os.length : Int) / 4 := by omega
    simp only [e2] at e
    rw [e]
    simp [wordsL]
    omega
  have hfl : (t.flags : Int) = ((UInt8.ofNat t.flags).toNat : Int) := by simp; omega
  have hcl : [Value.int .u8 (orI .u8 (shlI .u8 (5 + (os.length : Int) / 4) 4) (t.odd : Int)), .int .u8 (t.flags : Int)] = u8s [wordsL os t.odd, UInt8.ofNat t.flags] := by rw [hwd, hfl]; rfl
  simp -dsimp (discharger := omega) [B14, tcpV, hmod, hdiv, h3]
  with_reducible refine ret_on [] (lay_ret _ _) ?_
  simp -dsimp (discharger := omega) [aFill]
  with_reducible refine ret_on [n + 1, n + 1 + 1] (two_new (w := t.fr) (ws := [t.to]) (by simp; omega) (.of fun j hj => by simp (discharger := omega) [hw.none (i := j) (by omega)]) (by simp) (by simp [u16s]) (by simp) (by simp)) ?_
  simp -dsimp (discharger := omega) [aFill]
  refine ⟨by omega, by omega, ?_⟩
  with_reducible refine ret_on [n + 1, n + 1 + 1 + 1 + 1, n + 1 + 1 + 1 + 1 + 2] (four_own (ws := [t.seq, t.ack]) (by simp; omega) (p := n + 1) (q := n + 1 + 1 + 1 + 1) (m := 2) (bs := twosL [t.fr, t.to]) (.of fun j hj => by simp (discharger := omega) [hw.none (i := j) (by omega)]) (by simp) (by simp) (by simp) (by simp [twosL_length]) (by simp [u32s]) (by simp) (by simp) (by simp [twosL_length])) ?_
  simp -dsimp (discharger := omega) [aFill]
  refine ⟨by omega, by omega, ?_⟩
  with_reducible refine ret_on [n + 1, n + 1 + 1 + 1 + 1, n + 1 + 1 + 1 + 1 + 2 + 1 + 6] (padByte_ret (p := n + 1) (q := n + 1 + 1 + 1 + 1) (m := 2) (bs := twosL [t.fr, t.to] ++ foursL [t.seq, t.ack]) (vs := [wordsL os t.odd, UInt8.ofNat t.flags]) (by simp) (by simp) (by simp [twosL_length]; omega) (by simp) (by simp [aElems, hcl, take_u8s2]) (by simp [twosL_length, foursL_length])) ?_
  simp -dsimp (discharger := omega) [aFill]
  refine ⟨by omega, by omega, ?_⟩
  with_reducible refine ret_on [n + 1, n + 1 + 1 + 1 + 1, n + 1 + 1 + 1 + 1 + 2 + 1 + 6 + 1] (two_own (ws := [t.window, t.sum, t.urgent]) (by simp; omega) (p := n + 1) (q := n + 1 + 1 + 1 + 1) (m := 2) (bs := twosL [t.fr, t.to] ++ (foursL [t.seq, t.ack] ++ [wordsL os t.odd, UInt8.ofNat t.flags])) (.of fun j hj => by simp (discharger := omega) [hw.none (i := j) (by omega)]) (by simp (discharger := omega)) (by simp (discharger := omega)) (by simp) (by simp [twosL_length]; omega) (by simp [u16s]) (by omega) (by omega) (by simp [twosL_length, foursL_length])) ?_
  simp -dsimp (discharger := omega) []
  have hLl : (twosL [t.fr, t.to] ++ (foursL [t.seq, t.ack] ++ wordsL os t.odd :: UInt8.ofNat t.flags :: twosL [t.window, t.sum, t.urgent])).length = 20 := by simp [twosL_length, foursL_length]
  have hLt : tcpL t os bs = (twosL [t.fr, t.to] ++ (foursL [t.seq, t.ack] ++ wordsL os t.odd :: UInt8.ofNat t.flags :: twosL [t.window, t.sum, t.urgent])) ++ os ++ bs := by simp [tcpL]
  rw [hLt]
  generalize twosL [t.fr, t.to] ++ (foursL [t.seq, t.ack] ++ wordsL os t.odd :: UInt8.ofNat t.flags :: twosL [t.window, t.sum, t.urgent]) = L at hLl ⊢
  with_reducible refine ret_ret (padByte_ret (p := n + 1) (q := n + 1 + 1 + 1 + 1) (m := 2) (bs := L) (vs := os) ?_ ?_ (by omega) (by simp) ?_ (by omega)) ?_
  · simp
  · simp
  · exact BS.elems (BS.mono (.ofE (by
      repeat (refine .right (.inr (hw.none (by omega))) ?_)
      exact .refl _ _)) ho)
  simp -dsimp (discharger := omega) []
  refine ⟨by omega, ?_⟩
  with_reducible refine ret_ret (padByte_ret (p := n + 1) (q := n + 1 + 1 + 1 + 1) (m := 2) (bs := L ++ os) (vs := bs) ?_ ?_ (by simp; omega) (by simp) ?_ (by simp; omega)) ?_
  · simp
  · simp
  · exact BS.elems (BS.mono (.ofE (by
      repeat (refine .right (.inr (hw.none (by omega))) ?_)
      exact .refl _ _)) hb)
  simp -dsimp (discharger := omega) []
  with_reducible refine ret_ret (done_ret (p := n + 1) (q := n + 1 + 1 + 1 + 1) (m := 2) (bs := L ++ (os ++ bs)) ?_ ?_ (by simp; omega) ?_ (by simp; omega)) ?_
  · simp
  · simp
  · exact .of fun j hj => by simp (discharger := omega) [hw.none (i := j) (by omega)]
  simp -dsimp (discharger := omega) []
  refine .ofE (.left (.inr (by simp)) ?_)
  refine .right (.inl (by simp)) ?_
  repeat (refine .right (.inr (hw.none (by omega))) ?_)
  exact .refl _ _
def udpL (fr to ln sm : Nat) (bs : List UInt8) : List UInt8 := twosL [fr, to, ln, sm] ++ bs
def udpV (fr to ln sm : Nat) (b : Value) : Value := .agg #[.int .u16 (fr : Int), .int .u16 (to : Int), .int .u16 (ln : Int), .int .u16 (sm : Int), b]
end
end Go.Proofs.YtkaibjdogeikbaaDoor.Am
namespace Go.Proofs.YtkaibjdogeikbaaDoor.Am
noncomputable section
/- CONTRACTS: Udp.Bytes. -/
theorem udpBytes_bad {fr to ln sm : Nat} {h : AHeap} {n : Nat} {b : Value} {bs : List UInt8} (hb : BS h b bs) (hw : WF h n) (h3 : ln < 65536) (hbad : ln ≠ 8 + bs.length) (hlen : bs.length < 1000000) :
    Ret EV07 17 [udpV fr to ln sm b] h n (.tuple #[.slice none 0 0, .int .i64 1]) [] (n + 1) := by
  refine rsx17 (by simp) (by simp) ?_
  obtain ⟨i, k, rfl⟩ : ∃ (a : Option Addr) (k : Nat), b = .slice a bs.length k := by
    cases hb with
    | nil => exact ⟨none, 0, rfl⟩
    | mk hr => exact ⟨_, _, rfl⟩
  simp -dsimp (discharger := omega) [B17, udpV]
  exact .put_new _ (hw n (Nat.le_refl _)) (.refl _)
theorem udpBytes_ok {fr to ln sm : Nat} {h : AHeap} {n : Nat} {b : Value} {bs : List UInt8} (hb : BS h b bs) (hw : WF h n) (h1 : fr < 65536) (h2 : to < 65536) (h3 : ln < 65536) (h4 : sm < 65536) (hok : ln = 8 + bs.length) (hlen : bs.length < 1000) :
    Ret EV07 17 [udpV fr to ln sm b] h n (.tuple #[.slice (some ⟨n + 8, 0, some (udpL fr to ln sm bs).length⟩) (udpL fr to ln sm bs).length 2, .int .i64 0]) [(n + 8, bufB (udpL fr to ln sm bs) 0)] (n + 9) := by
  refine rsx17 (by simp) (by simp) ?_
  obtain ⟨i, k, rfl⟩ : ∃ (a : Option Addr) (k : Nat), b = .slice a bs.length k := by
    cases hb with
    | nil => exact ⟨none, 0, rfl⟩
    | mk hr => exact ⟨_, _, rfl⟩
  simp -dsimp (discharger := omega) [B17, udpV]
  with_reducible refine ret_on [] (lay_ret _ _) ?_
  simp -dsimp (discharger := omega) [aFill]
  with_reducible refine ret_on [n + 1, n + 1 + 1] (two_new (w := fr) (ws := [to, ln, sm]) (by simp; omega) (.of fun j hj => by simp (discharger := omega) [hw.none (i := j) (by omega)]) (by simp) (by simp [u16s]) (by simp) (by simp)) ?_
  simp -dsimp (discharger := omega) []
  have hLl : (twosL [fr, to, ln, sm]).length = 8 := rfl
  unfold udpL
  generalize twosL [fr, to, ln, sm] = L at hLl ⊢
  refine ⟨by omega, ?_⟩
  with_reducible refine ret_ret (padByte_ret (p := n + 1) (q := n + 1 + 1 + 1 + 1) (m := 2) (bs := L) (vs := bs) ?_ ?_ (by omega) (by simp) ?_ (by omega)) ?_
  · simp
  · simp
  · exact BS.elems (BS.mono (.ofE (by
      repeat (refine .right (.inr (hw.none (by omega))) ?_)
      exact .refl _ _)) hb)
  simp -dsimp (discharger := omega) []
  with_reducible refine ret_ret (done_ret (p := n + 1) (q := n + 1 + 1 + 1 + 1) (m := 2) (bs := L ++ bs) ?_ ?_ (by simp; omega) ?_ (by simp; omega)) ?_
  · simp
  · simp
  · exact .of fun j hj => by simp (discharger := omega) [hw.none (i := j) (by omega)]
  simp -dsimp (discharger := omega) []
  refine .ofE (.left (.inr (by simp)) ?_)
  refine .right (.inl (by simp)) ?_
  repeat (refine .right (.inr (hw.none (by omega))) ?_)
  exact .refl _ _
end
end Go.Proofs.YtkaibjdogeikbaaDoor.Am
namespace Go.Proofs.YtkaibjdogeikbaaDoor.Am
noncomputable section
/- CONTRACTS: the document's bytes of heads. -/
def rtcpV (t : TcpN) (o b : Value) : Value := .agg #[.int .i64 (t.fr : Int), .int .i64 (t.to : Int), .int .i64 (t.odd : Int), .int .i64 (t.flags : Int), .int .i64 (t.window : Int), .int .i64 (t.sum : Int), .int .i64 (t.urgent : Int), .int .u32 (t.seq : Int), .int .u32 (t.ack : Int), o, b]
def rudpV (fr to ln sm : Nat) (b : Value) : Value := .agg #[.int .i64 (fr : Int), .int .i64 (to : Int), .int .i64 (ln : Int), .int .i64 (sm : Int), b]
theorem BS.shape {h : AHeap} {v : Value} {vs : List UInt8} (x : BS h v vs) : ∃ (a : Option Addr) (k : Nat), v = .slice a vs.length k := by
  cases x with
  | nil => exact ⟨none, 0, rfl⟩
  | mk hr => exact ⟨_, _, rfl⟩
theorem ofTcp_ret {t : TcpN} (ht : t.ok) {h : AHeap} {n : Nat} {o b : Value} {os bs : List UInt8} (ho : BS h o os) (hb : BS h b bs) (hw : WF h n) : Ret EV07 16 [tcpV t o b] h n (rtcpV t o b) [] (n + 2) := by
  obtain ⟨t1, t2, t3, t4, t5, t6, t7, t8, t9⟩ := ht
  obtain ⟨i, k, rfl⟩ := ho.shape
  obtain ⟨i2, k2, rfl⟩ := hb.shape
  refine rsx16 (by simp) (by simp) ?_
  simp -dsimp (discharger := omega) [B16, tcpV, aFill]
  refine ⟨rfl, ?_⟩
  refine .ofE ?_
  repeat (refine .right (.inr (hw.none (by omega))) ?_)
  exact .refl _ _
theorem two_cells2 {w : Nat} (hw : w < 65536) : [Value.int .u8 ((w : Int) / 256), .int .u8 ((w : Int) % 256)] = u8s (twoL w) := by
  simp [u8s, twoL]
  omega
theorem lay_new {w : Nat} (hw : w < 65536) {h : AHeap} {n : Nat} (hwf : WF h n) : Ret EV07 46 [.slice none 0 0, .int .i64 (w : Int)] h n (.slice (some ⟨n + 1, 0, some 2⟩) 2 2) [(n + 1, bufB (twoL w) 2)] (n + 2) := by
  refine rsx46 (by simp) (by simp) ?_
  have hd : Int.tdiv (w : Int) 256 = ((w / 256 : Nat) : Int) := tdiv_nat w 256
  have hm : Int.tmod (w : Int) 256 = ((w % 256 : Nat) : Int) := tmod_nat w 256
  simp -dsimp (discharger := omega) [B46, aFill, aAppend, aElems, hd, hm]
  refine .ofE (.left (.inr (by simp [bufB, two_cells2 hw])) ?_)
  refine .right (.inl (by simp)) (.right (.inr (hwf.none (by omega))) (.refl _ _))
theorem lay_own {w : Nat} (hw : w < 65536) {h : AHeap} {n q m : Nat} {L : List UInt8} {len : Nat} (hL : L.length = len) (hwf : WF h n) (hq : h.get q = some (bufB L m)) (hm : m ≤ len) (hlen : len < 1000000) : Ret EV07 46 [.slice (some ⟨q, 0, some len⟩) len 2, .int .i64 (w : Int)] h n (.slice (some ⟨q, 0, some (len + 2)⟩) (len + 2) 2) [(q, bufB (L ++ twoL w) m)] (n + 1) := by
  subst hL
  have hlt := hwf.lt hq
  refine rsx46 (by simp) (by simp [hq]) ?_
  have hd : Int.tdiv (w : Int) 256 = ((w / 256 : Nat) : Int) := tdiv_nat w 256
  have hm2 : Int.tmod (w : Int) 256 = ((w % 256 : Nat) : Int) := tmod_nat w 256
  unfold bufB at hq
  simp -dsimp (discharger := omega) [B46, aFill, aAppend, aElems, hd, hm2, hq]
  refine .ofE (.left (.inr (by simp [bufB, u8s_append, two_cells2 hw])) ?_)
  refine .right (.inl (by simp)) (.right (.inr (hwf.none (by omega))) (.refl _ _))
/-- An append to a block of one's own. -/
theorem append_own {h : AHeap} {n q m len : Nat} {bs : List UInt8} {v : Value} {vs : List UInt8} (hq : h.get q = some (bufB bs m)) (hL : bs.length = len) (hm : m ≤ len) (hv : aElems h 1 v = some (vs.length, u8s vs)) (hlen : len + vs.length < 1000000) {K : Option Value → AHeap → Nat → Prop} {t : Tok K}
    (hk : ∀ h', HSub (h.put q (bufB (bs ++ vs) m)) h' → (∀ j b, h'.get j = some b → (h.put q (bufB (bs ++ vs) m)).get j = some b) → K (some (.slice (some ⟨q, 0, some (len + vs.length)⟩) (len + vs.length) 2)) h' n) : Runs (aAppend h n 5 1 1 (.slice (some ⟨q, 0, some len⟩) len 2) v) n K t := by
  subst hL
  cases vs with
  | nil =>
    simp [aAppend, hv]
    have e : ∀ j, (h.put q (bufB (bs ++ []) m)).get j = h.get j := fun j => by
      rw [AHeap.get_put]; split
      · rename_i e; subst e; rw [hq]; simp
      · rfl
    have := hk h (fun j b hb => by rw [e] at hb; exact hb) (fun j b hb => by rw [e]; exact hb)
    simpa using this
  | cons a vs =>
    have h2 : 2 * (bs.length + (vs.length + 1)) ≤ 281474976710656 := by simp at hlen; omega
    unfold bufB at hq
    simp [aAppend, hv, hq, hm, h2]
    have := hk _ (.refl _) (fun _ _ x => x)
    simpa [bufB, u8s_append] using this
end
end Go.Proofs.YtkaibjdogeikbaaDoor.Am
namespace Go.Proofs.YtkaibjdogeikbaaDoor.Am
noncomputable section
/- CONTRACTS of package trans: Text, Parse. -/
/-- The globals that the chapter's functions read: the names. -/
def HasNames (h : AHeap) : Prop := h.get 0 = some (.cells none (strsL namesL) 0)
def namesUp (f : Nat) : Nat → List (List UInt8)
  | 0 => []
  | j + 1 => namesUp f j ++ (if f.testBit j then [namesL.getD j []] else [])
theorem namesUp_all : ∀ f : Fin 256, namesUp f.1 8 = textNames f.1 := by decide +kernel
theorem namesUp_len (f : Nat) : ∀ j, (namesUp f j).length ≤ j
  | 0 => Nat.le_refl _
  | j + 1 => by have := namesUp_len f j; simp only [namesUp]; split <;> simp <;> omega
theorem bit_eq : ∀ f : Fin 256, ∀ j : Fin 8, (andI .u8 (shrI .u8 (f.1 : Int) (j.1 : Int)) 1 == 1) = f.1.testBit j.1 := by decide +kernel
theorem text_short : ∀ f : Fin 256, (joinL [44] (textNames f.1)).length < 100 := by decide +kernel
theorem text_loop {f : Nat} (hf : f < 256) {h0 : AHeap} {n0 : Nat} (hw : WF h0 n0) :
    ∀ (m : Nat) (σ : Fr) (h : AHeap) (n : Nat), (∃ j v, j + m = 8 ∧ n0 ≤ n ∧ n ≤ n0 + 2 * j ∧ WF h n ∧ HSub h0 h ∧
        (namesUp f j = [] ∧ v = .slice none 0 0 ∨ ∃ q mn, n0 ≤ q ∧ v = .slice (some ⟨q, 0, some (namesUp f j).length⟩) (namesUp f j).length 2 ∧ h.get q = some (.cells (some 9) (strsL (namesUp f j)) mn) ∧ mn ≤ (namesUp f j).length) ∧
        σ = [(0, .int .u8 (f : Int)), (3, v), (6, .agg (strsL namesL).toArray), (7, .int .i64 (j : Int))]) →
      HasCode EV07 (.loop F9L0) σ h n fun e σ' h' n' => e = .exit 0 ∧ n0 ≤ n' ∧ n' ≤ n0 + 16 ∧ WF h' n' ∧ HSub h0 h' ∧ ∃ v, σ'.get 3 = some v ∧
        (namesUp f 8 = [] ∧ v = .slice none 0 0 ∨ ∃ q mn, v = .slice (some ⟨q, 0, some (namesUp f 8).length⟩) (namesUp f 8).length 2 ∧ h'.get q = some (.cells (some 9) (strsL (namesUp f 8)) mn) ∧ mn ≤ (namesUp f 8).length) := by
  refine wx_inv _ fun m σ h n hI => ?_
  obtain ⟨j, v, hj, hn1, hn2, hw', hs, hv, rfl⟩ := hI
  cases m with
  | zero =>
    obtain rfl : j = 8 := by omega
    simp -dsimp (discharger := omega) [F9L0]
    refine ⟨hn1, by omega, hw', hs, ?_⟩
    rcases hv with hv | ⟨q, mn, _, h1, h2, h3⟩
    · exact .inl hv
    · exact .inr ⟨q, h1, mn, h2, h3⟩
  | succ m =>
    have hbit : (andI .u8 (shrI .u8 (f : Int) (j : Int)) 1 == 1) = f.testBit j := bit_eq ⟨f, hf⟩ ⟨j, by omega⟩
    have hidx : (strsL namesL)[j]? = some (.string ⟨(namesL.getD j []).toArray⟩) := by
      have hlt : j < namesL.length := by simp [namesL]; omega
      exact strsL_get? (by simp [List.getElem?_eq_getElem hlt])
    simp -dsimp (discharger := omega) [F9L0, hidx, hbit]
    have hup := namesUp_len f j
    have fin : ∀ (h2 : AHeap) (n2 : Nat) (v2 : Value) (σ2 : Fr), n ≤ n2 → n2 ≤ n + 2 → WF h2 n2 → HSub h0 h2 →
        (namesUp f (j + 1) = [] ∧ v2 = .slice none 0 0 ∨ ∃ q mn, n0 ≤ q ∧ v2 = .slice (some ⟨q, 0, some (namesUp f (j + 1)).length⟩) (namesUp f (j + 1)).length 2 ∧ h2.get q = some (.cells (some 9) (strsL (namesUp f (j + 1))) mn) ∧ mn ≤ (namesUp f (j + 1)).length) →
        σ2.get 0 = some (.int .u8 (f : Int)) → σ2.get 3 = some v2 → σ2.get 6 = some (.agg (strsL namesL).toArray) → σ2.get 7 = some (.int .i64 ((j + 1 : Nat) : Int)) →
        Again (fun m σ h n => ∃ j v, j + m = 8 ∧ n0 ≤ n ∧ n ≤ n0 + 2 * j ∧ WF h n ∧ HSub h0 h ∧
        (namesUp f j = [] ∧ v = .slice none 0 0 ∨ ∃ q mn, n0 ≤ q ∧ v = .slice (some ⟨q, 0, some (namesUp f j).length⟩) (namesUp f j).length 2 ∧ h.get q = some (.cells (some 9) (strsL (namesUp f j)) mn) ∧ mn ≤ (namesUp f j).length) ∧
        σ = [(0, .int .u8 (f : Int)), (3, v), (6, .agg (strsL namesL).toArray), (7, .int .i64 (j : Int))]) (m + 1) σ2 h2 n2 () := by
      intro h2 n2 v2 σ2 a1 a2 a3 a4 a5 b0 b3 b6 b7
      exact .mk' m (by omega) [(0, .int .u8 (f : Int)), (3, v2), (6, .agg (strsL namesL).toArray), (7, .int .i64 ((j + 1 : Nat) : Int))] h2 (by simp only [FSubL]; exact ⟨b0, b3, b6, b7, trivial⟩) (.refl _) ⟨j + 1, v2, by omega, by omega, by omega, a3, a4, a5, rfl⟩
    cases hb : f.testBit j with
    | true =>
      rcases hv with ⟨hv1, rfl⟩ | ⟨q, mn, hq0, rfl, hq, hmn⟩
      · have hup1 : namesUp f (j + 1) = [namesL.getD j []] := by simp [namesUp, hb, hv1]
        simp -dsimp (discharger := omega) [aFill, aAppend, aElems]
        refine fin _ (n + 2) (.slice (some ⟨n + 1, 0, some 1⟩) 1 2) _ (by omega) (by omega) ((hw'.put (m := n + 1) _ (by omega) (by omega)).put _ (by omega) (by omega)) ((hs.new hw (by omega) _).new hw (by omega) _) (.inr ⟨n + 1, 1, by omega, by rw [hup1]; rfl, ?_, by rw [hup1]; simp⟩) (by simp) (by simp) (by simp) (by simp)
        rw [hup1]; simp [strsL]
      · have hqn := hw'.lt hq
        have hup1 : namesUp f (j + 1) = namesUp f j ++ [namesL.getD j []] := by simp [namesUp, hb]
        simp -dsimp (discharger := omega) [aFill, aAppend, aElems, hq]
        refine fin _ (n + 1) (.slice (some ⟨q, 0, some (namesUp f (j + 1)).length⟩) (namesUp f (j + 1)).length 2) _ (by omega) (by omega) ((hw'.put (m := n + 1) _ (by omega) (by omega)).put _ (by omega) (by omega)) ((hs.new hw (by omega) _).new hw (by omega) _) (.inr ⟨q, mn, hq0, rfl, ?_, by rw [hup1]; simp; omega⟩) (by simp) (by simp [hup1]) (by simp) (by simp)
        rw [hup1, strsL_append]; simp [strsL]
    | false =>
      simp -dsimp (discharger := omega) []
      exact fin h n v _ (Nat.le_refl _) (by omega) hw' hs (by simpa [namesUp, hb] using hv) (by simp) (by simp) (by simp) (by simp)
theorem text_ret {f : Nat} (hf : f < 256) {h : AHeap} {n : Nat} (hw : WF h n) (hn : HasNames h) : Ret EV07 9 [.int .u8 (f : Int)] h n (.string ⟨(textL f).toArray⟩) [] (n + 18) := by
  refine rsx9 (by simp) (by simp) ?_
  unfold HasNames at hn
  have hl8 : namesL.length = 8 := rfl
  have ht8 : List.take 8 (strsL namesL) = strsL namesL := rfl
  have hall : namesUp f 8 = textNames f := namesUp_all ⟨f, hf⟩
  simp -dsimp (discharger := omega) [B9, hn, AHeap.read_of hn, hl8, ht8]
  refine loop_use (text_loop hf hw 8 _ _ _ ⟨0, .slice none 0 0, rfl, Nat.le_refl _, Nat.le_refl _, hw, .refl _, .inl ⟨rfl, rfl⟩, rfl⟩) (by simp) (.refl _) ?_
  rintro e σ' h' n' ⟨rfl, hn1, hn2, hw', hs, v, g3, hv⟩
  rw [hall] at hv
  rcases hv with ⟨hv1, rfl⟩ | ⟨q, mn, rfl, hq, hmn⟩
  · simp -dsimp (discharger := omega) [g3]
    exact ⟨by simp [textL, hv1], hs, by omega⟩
  · by_cases hnil : textNames f = []
    · simp -dsimp (discharger := omega) [g3, hnil]
      exact ⟨by simp [textL, hnil], hs, by omega⟩
    · have hpos : 0 < (textNames f).length := List.length_pos_iff.2 hnil
      have hlen : (textNames f).length ≤ 8 := by rw [← hall]; exact namesUp_len f 8
      have hjl := text_short ⟨f, hf⟩
      simp only at hjl
      simp -dsimp (discharger := omega) [g3]
      with_reducible refine call_ret (join_ret (ss := textNames f) (by rw [AHeap.read_of hq]; simp [hmn]) hw' [44] (by simp) (by omega) (by omega)) ?_
      simp -dsimp (discharger := omega) []
      exact ⟨by simp [textL, hnil], hs, by omega⟩
end
end Go.Proofs.YtkaibjdogeikbaaDoor.Am
namespace Go.Proofs.YtkaibjdogeikbaaDoor.Am
noncomputable section
/- CONTRACT of trans.Parse. -/
theorem idxI_L (s : List UInt8) : ∀ (ss : List (List UInt8)) (j : Nat), idxI s ss j = match idxL s ss j with | none => -1 | some k => (k : Int)
  | [], _ => rfl
  | x :: l, j => by
    simp only [idxI, idxL]
    split
    · rfl
    · exact idxI_L s l (j + 1)
theorem or_eq : ∀ f : Fin 256, ∀ k : Fin 8, orI .u8 (f.1 : Int) (shlI .u8 1 (k.1 : Int)) = ((f.1 ||| 2 ^ k.1 : Nat) : Int) := by decide +kernel
theorem names_read {h : AHeap} (hn : HasNames h) : h.read 0 8 0 namesL.length = some (strsL namesL) := by
  rw [AHeap.read_of hn]; rfl
def ParseInv (parts : List (List UInt8)) (h0 : AHeap) (n0 : Nat) (sl : Value) (m : Nat) (σ : Fr) (h : AHeap) (n : Nat) : Prop :=
  h = h0 ∧ n = n0 ∧ ∃ j f a, j + m = parts.length ∧ f < 256 ∧ parseGo parts 0 false = parseGo (parts.drop j) f a ∧ σ = [(4, .int .u8 (f : Int)), (5, .bool a), (12, sl), (13, .int .i64 (parts.length : Int)), (14, .int .i64 (j : Int))]
def ParsePost (parts : List (List UInt8)) (h0 : AHeap) (n0 : Nat) (e : Ex) (σ' : Fr) (h' : AHeap) (n' : Nat) : Prop :=
  h' = h0 ∧ n' = n0 ∧ (e = .exit 0 ∧ (∃ (f : Nat) (a : Bool), f < 256 ∧ parseGo parts 0 false = (if a then (0, 9) else (f, 0)) ∧ σ'.get 4 = some (.int .u8 (f : Int)) ∧ σ'.get 5 = some (.bool a)) ∨
        e = .ret ∧ parseGo parts 0 false = (0, 23) ∧ σ'.get 2 = some (.int .u8 0) ∧ σ'.get 3 = some (.int .i64 23))
theorem sindex_names {h : AHeap} (hn : HasNames h) (n : Nat) (s : List UInt8) : Ret EV07 36 [.slice (some ⟨0, 0, some 8⟩) 8 17, .string ⟨s.toArray⟩] h n (.int .i64 (idxI s namesL 0)) [] n := sindex_ret (ss := namesL) (k := 17) (names_read hn) (by decide) s
theorem parse_loop {parts : List (List UInt8)} {h0 : AHeap} {i o g k : Nat} (hr : h0.read i g o parts.length = some (strsL parts)) (hlen : parts.length < 1000000) (hn : HasNames h0) (n0 : Nat) :
    ∀ (m : Nat) (σ : Fr) (h : AHeap) (n : Nat), ParseInv parts h0 n0 (.slice (some ⟨i, o, some g⟩) parts.length k) m σ h n →
      HasCode EV07 (.loop F10L0) σ h n (ParsePost parts h0 n0) := by
  refine wx_inv _ fun m σ h n hI => ?_
  obtain ⟨rfl, rfl, j, f, a, hj, hf, hp, rfl⟩ := hI
  cases m with
  | zero =>
    have hjl : j = parts.length := by omega
    subst hjl
    simp -dsimp (discharger := omega) [F10L0]
    exact ⟨rfl, rfl, .inl ⟨rfl, f, a, hf, by rw [hp]; simp [parseGo], by simp, by simp⟩⟩
  | succ m =>
    have hlt : j < parts.length := by omega
    obtain ⟨x, hx⟩ : ∃ x, parts[j]? = some x := ⟨_, List.getElem?_eq_getElem hlt⟩
    have hrd := read_one hr (strsL_get? hx) hlt
    have hn' := hn
    unfold HasNames at hn'
    have hl8 : namesL.length = 8 := rfl
    have hd : parts.drop j = x :: parts.drop (j + 1) := by
      obtain ⟨hlt, rfl⟩ := List.getElem?_eq_some_iff.1 hx
      exact List.drop_eq_getElem_cons hlt
    rw [hd] at hp
    simp only [parseGo] at hp
    simp -dsimp (discharger := omega) [F10L0, hrd, hn', hl8]
    with_reducible refine call_ret (sindex_names hn _ x) ?_
    rw [idxI_L]
    cases hix : idxL x namesL 0 with
    | none =>
      rw [hix] at hp
      simp -dsimp (discharger := omega) []
      exact ⟨rfl, rfl, .inr ⟨rfl, hp, by simp, by simp⟩⟩
    | some q =>
      rw [hix] at hp
      have hq := (idxL_names hix).1
      have hbit : (andI .u8 (shrI .u8 (f : Int) (q : Int)) 1 == 1) = f.testBit q := bit_eq ⟨f, hf⟩ ⟨q, hq⟩
      have hor : orI .u8 (f : Int) (shlI .u8 1 (q : Int)) = ((f ||| 2 ^ q : Nat) : Int) := or_eq ⟨f, hf⟩ ⟨q, hq⟩
      have hlt2 : f ||| 2 ^ q < 256 := or_lt ⟨f, hf⟩ ⟨q, hq⟩
      cases a with
      | true =>
        simp -dsimp (discharger := omega) [hor]
        exact .mk' m (by omega) [(4, .int .u8 ((f ||| 2 ^ q : Nat) : Int)), (5, .bool true), (12, .slice (some ⟨i, o, some g⟩) parts.length k), (13, .int .i64 (parts.length : Int)), (14, .int .i64 ((j + 1 : Nat) : Int))] _ (by simp) (.refl _) ⟨rfl, rfl, j + 1, _, _, by omega, hlt2, hp, rfl⟩
      | false =>
        simp -dsimp (discharger := omega) [hbit, hor]
        exact .mk' m (by omega) [(4, .int .u8 ((f ||| 2 ^ q : Nat) : Int)), (5, .bool (f.testBit q)), (12, .slice (some ⟨i, o, some g⟩) parts.length k), (13, .int .i64 (parts.length : Int)), (14, .int .i64 ((j + 1 : Nat) : Int))] _ (by simp) (.refl _) ⟨rfl, rfl, j + 1, _, _, by omega, hlt2, by simpa using hp, rfl⟩
theorem parse_ret {s : List UInt8} (hlen : s.length < 100000) {h : AHeap} {n : Nat} (hw : WF h n) (hn : HasNames h) : Ret EV07 10 [.string ⟨s.toArray⟩] h n (.tuple #[.int .u8 ((parseL s).1 : Int), .int .i64 ((parseL s).2 : Int)]) [] (n + 1) := by
  refine rsx10 (by simp) (by simp) ?_
  simp -dsimp (discharger := omega) [B10]
  refine Test.split (fun hc => ?_) (fun hc => ?_)
  · have : s = [45] := by simpa using hc
    subst this
    simp -dsimp (discharger := omega) [HSub.refl, parseL]
  · have hne : ¬ s = [45] := by simpa using hc
    have hp : parseL s = parseGo (splitL 44 s) 0 false := by simp [parseL, hne]
    have h0n : 0 < n := hw.lt hn
    simp -dsimp (discharger := omega) []
    with_reducible refine call_ret (split_ret s 44 (by omega) _ _) ?_
    simp -dsimp (discharger := omega) []
    have hsl := split_len 44 s
    have hrd : (h.put n (.cells (some 9) (strsL (splitL 44 s)) (splitL 44 s).length)).read n (splitL 44 s).length 0 (splitL 44 s).length = some (strsL (splitL 44 s)) := by simp
    have hn2 : HasNames (h.put n (.cells (some 9) (strsL (splitL 44 s)) (splitL 44 s).length)) := by
      unfold HasNames; rw [AHeap.get_put_ne _ _ (by omega)]; exact hn
    refine loop_use (parse_loop (k := 2) hrd (by omega) hn2 (n + 1) _ _ _ _ ⟨rfl, rfl, 0, 0, false, Nat.zero_add _, by omega, rfl, rfl⟩) (by simp) (.refl _) ?_
    have hsub : HSub h (h.put n (.cells (some 9) (strsL (splitL 44 s)) (splitL 44 s).length)) := .put_new _ (hw n (Nat.le_refl _)) (.refl _)
    rintro e σ' h' n' ⟨rfl, rfl, ⟨rfl, f, a, hf, hpg, g4, g5⟩ | ⟨rfl, hpg, g2, g3⟩⟩
    · cases a with
      | true =>
        simp -dsimp (discharger := omega) [g5]
        exact ⟨by rw [hp, hpg]; simp, hsub⟩
      | false =>
        simp -dsimp (discharger := omega) [g4, g5]
        exact ⟨by rw [hp, hpg]; simp, hsub⟩
    · simp -dsimp (discharger := omega) [g2, g3]
      exact ⟨by rw [hp, hpg]; simp, hsub⟩
end
end Go.Proofs.YtkaibjdogeikbaaDoor.Am
