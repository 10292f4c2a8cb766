/- Contracts of the program's functions (X2). -/
import Derived.Test.YtiemkafpijhlmaaDoorY3
namespace Go.Proofs.YtiemkafpijhlmaaDoor.Am
noncomputable section
/- CONTRACTS: words, and what a head tells. -/
def WdInv (ws : List Nat) (h0 : AHeap) (n1 q : Nat) (sl : Value) (r : Nat) (σ : Fr) (h : AHeap) (n : Nat) : Prop :=
  ∃ j, 1 ≤ j ∧ j + r = ws.length ∧ n = n1 + (j - 1) ∧ h = h0.put q (bufB (twosL (ws.take j)) 2) ∧
    σ = [(3, .slice (some ⟨q, 0, some (2 * j)⟩) (2 * j) 2), (6, sl), (7, .int .i64 (ws.length : Int)), (8, .int .i64 (j : Int))]
def WdPost (ws : List Nat) (h0 : AHeap) (n1 q : Nat) (e : Ex) (σ' : Fr) (h' : AHeap) (n' : Nat) : Prop :=
  e = .exit 0 ∧ n' = n1 + (ws.length - 1) ∧ h' = h0.put q (bufB (twosL ws) 2) ∧ σ'.get 3 = some (.slice (some ⟨q, 0, some (2 * ws.length)⟩) (2 * ws.length) 2)
theorem wd_loop {ws : List Nat} (hws : ∀ w, w ∈ ws → w < 65536) {h0 : AHeap} {n1 q : Nat} (hw : WF h0 n1) (hq : q < n1) {i o g k : Nat} (hr : h0.read i g o ws.length = some (u16s ws)) (hiq : ¬ i = q) (hlen : ws.length < 1000) :
    ∀ (r : Nat) (σ : Fr) (h : AHeap) (n : Nat), WdInv ws h0 n1 q (.slice (some ⟨i, o, some g⟩) ws.length k) r σ h n → HasCode EV06 (.loop F44L0) σ h n (WdPost ws h0 n1 q) := by
  refine wx_inv _ fun r σ h n hI => ?_
  obtain ⟨j, hj0, hj, rfl, rfl, rfl⟩ := hI
  have hqi : ¬ q = i := fun e => hiq e.symm
  cases r with
  | zero =>
    have hjl : j = ws.length := by omega
    subst hjl
    simp -dsimp (discharger := omega) [F44L0]
    exact ⟨rfl, rfl, by simp, by simp⟩
  | succ r =>
    have hlt : j < ws.length := by omega
    obtain ⟨w, hwj⟩ : ∃ w, ws[j]? = some w := ⟨_, List.getElem?_eq_getElem hlt⟩
    have hrd := read_one hr (u16s_get? hwj) hlt
    have hww : w < 65536 := hws w (List.mem_of_getElem? hwj)
    have htk : ws.take (j + 1) = ws.take j ++ [w] := take_snoc hwj
    have hbl : (twosL (ws.take j)).length = 2 * j := by rw [twosL_length, List.length_take]; omega
    have hnq : ¬ q = n1 + (j - 1) := by omega
    have hbl2 : 2 * j + 2 = 2 * (j + 1) := by omega
    have hu : u8s (twosL (ws.take j)) ++ u8s (twoL w) = u8s (twosL (ws.take (j + 1))) := by rw [htk, twosL_snoc, u8s_append]
    have hul : (u8s (twosL (ws.take (j + 1)))).length = 2 * (j + 1) := by rw [u8s_length, twosL_length, List.length_take]; omega
    have htl : (twoL w).length = 2 := rfl
    have htw : List.take 2 (u8s (twoL w)) = u8s (twoL w) := rfl
    have hul1 : (u8s (twosL (ws.take j))).length = 2 * j := by rw [u8s_length, hbl]
    simp -dsimp (discharger := omega) [F44L0, hrd, hqi, aFill, bufB]
    simp only [two_cells hww]
    simp -dsimp (discharger := omega) [aAppend, aElems, htw, htl, hul1, hu, hul]
    refine .mk' r (by omega) [(3, .slice (some ⟨q, 0, some (2 * (j + 1))⟩) (2 * (j + 1)) 2), (6, .slice (some ⟨i, o, some g⟩) ws.length k), (7, .int .i64 (ws.length : Int)), (8, .int .i64 ((j + 1 : Nat) : Int))] _ (by simp [hbl2]) ?_ ⟨j + 1, by omega, by omega, by omega, rfl, rfl⟩
    refine .ofE (.left (.inr (by simp [bufB])) (.right (.inl (by simp)) (.right (.inr (hw _ (by omega))) (.right (.inl (by simp)) (.refl _ _)))))
theorem words_ret {w : Nat} {ws : List Nat} (hws : ∀ x, x ∈ w :: ws → x < 65536) {h : AHeap} {n : Nat} (hw : WF h n) {i o g k : Nat} (hr : h.read i g o (w :: ws).length = some (u16s (w :: ws))) (hlen : (w :: ws).length < 1000) :
    Ret EV06 44 [.slice (some ⟨i, o, some g⟩) (w :: ws).length k] h n (.slice (some ⟨n + 1, 0, some (2 * (w :: ws).length)⟩) (2 * (w :: ws).length) 2) [(n + 1, bufB (twosL (w :: ws)) 2)] (n + 1 + (w :: ws).length) := by
  have h2 := read_lt hw hr
  have hww : w < 65536 := hws w (.head _)
  have hrd := read_one hr (u16s_get? (i := 0) rfl) (by simp)
  simp at hrd
  refine rsx44 (by simp) (by simp) ?_
  simp -dsimp (discharger := omega) [B44]
  refine wx_round ?_
  have htl : (twoL w).length = 2 := rfl
  have htw : List.take 2 (u8s (twoL w)) = u8s (twoL w) := rfl
  simp -dsimp (discharger := omega) [F44L0, hrd, aFill]
  simp only [two_cells hww]
  simp -dsimp (discharger := omega) [aAppend, aElems, htw, htl]
  refine loop_use (wd_loop (k := k) hws (h0 := h) (n1 := n + 2) (q := n + 1) (hw.mono (Nat.le_add_right n 2)) (by omega) hr (by omega) hlen ws.length [(3, .slice (some ⟨n + 1, 0, some (2 * 1)⟩) (2 * 1) 2), (6, .slice (some ⟨i, o, some g⟩) (w :: ws).length k), (7, .int .i64 ((w :: ws).length : Int)), (8, .int .i64 ((1 : Nat) : Int))] _ _ ⟨1, Nat.le_refl _, by simp; omega, rfl, rfl, rfl⟩) (by simp) ?_ ?_
  · refine .ofE (.left (.inr (by simp [twosL, bufB])) (.right (.inl (by simp)) (.right (.inr (hw _ (by omega))) (.refl _ _))))
  · rintro e σ' h' n' ⟨rfl, rfl, rfl, g0⟩
    simp -dsimp (discharger := omega) [g0]
    exact ⟨.refl _, by omega⟩
/- What a head tells. -/
structure HdN where
  tos : Nat
  ttl : Nat
  proto : Nat
  id : Nat
  evil : Bool
  df : Bool
  more : Bool
  off : Int
  src : Nat
  dst : Nat
structure HdN.ok (t : HdN) : Prop where
  h1 : t.tos < 256
  h2 : t.ttl < 256
  h3 : t.proto < 256
  h4 : t.id < 65536
  h5 : -9223372036854775808 ≤ t.off
  h6 : t.off < 9223372036854775808
  h7 : t.src < 4294967296
  h8 : t.dst < 4294967296

abbrev hdV (t : HdN) (o : Value) : Value := .agg #[.int .u8 (t.tos : Int), .int .u8 (t.ttl : Int), .int .u8 (t.proto : Int), .int .u16 (t.id : Int), .bool t.evil, .bool t.df, .bool t.more, .int .i64 t.off, .int .u32 (t.src : Int), .int .u32 (t.dst : Int), o]
theorem of_ret (t : HdN) {a : Option Addr} {l k : Nat} {h : AHeap} {n : Nat} (hw : WF h n) : Ret EV06 22 [hdV t (.slice a l k)] h n (hdV t (.slice a l k)) [] (n + 2) := by
  refine rsx22 (by simp) (by simp) ?_
  simp -dsimp (discharger := omega) [B22, hdV, aFill]
  repeat (refine HSub.new ?_ hw (by omega) _)
  exact .refl _
theorem first_ret (t : HdN) {a : Option Addr} {l k : Nat} {h : AHeap} {n : Nat} (hw : WF h n) : Ret EV06 25 [hdV t (.slice a l k)] h n (.bool (decide (t.off = 0) && t.more)) [] (n + 1) := by
  refine rsx25 (by simp) (by simp) ?_
  by_cases h0 : t.off = 0
  · simp -dsimp (discharger := omega) [B25, hdV, h0]
    exact HSub.new (.refl _) hw (by omega) _
  · simp -dsimp (discharger := omega) [B25, hdV, h0]
    exact HSub.new (.refl _) hw (by omega) _
theorem later_ret (t : HdN) {a : Option Addr} {l k : Nat} {h : AHeap} {n : Nat} (hw : WF h n) : Ret EV06 26 [hdV t (.slice a l k)] h n (.bool (decide (0 < t.off))) [] (n + 1) := by
  refine rsx26 (by simp) (by simp) ?_
  simp -dsimp (discharger := omega) [B26, hdV]
  exact HSub.new (.refl _) hw (by omega) _
/-- May a body so long be a fragment's? -/
def fitsB (t : HdN) (m : Nat) : Bool := decide (8 * t.off + m ≤ 65535) && (!t.more || decide (m % 8 = 0))
theorem fits_ret {t : HdN} (h0 : 0 ≤ t.off) (h1 : t.off < 65536) {m : Nat} (hm : m < 1000000) {a b : Option Addr} {l k k2 : Nat} {h : AHeap} {n : Nat} (hw : WF h n) : Ret EV06 43 [hdV t (.slice a l k), .slice b m k2] h n (.bool (fitsB t m)) [] (n + 1) := by
  refine rsx43 (by simp) (by simp) ?_
  have hmod : Int.tmod (m : Int) 8 = ((m % 8 : Nat) : Int) := tmod_nat _ 8
  have e8 : ((m : Int) % 8 = 0) ↔ m % 8 = 0 := by omega
  unfold fitsB
  by_cases c1 : 8 * t.off + (m : Int) ≤ 65535
  · cases hmo : t.more
    · simp -dsimp (discharger := omega) [B43, hdV, hmo]
      exact HSub.new (.refl _) hw (by omega) _
    · simp -dsimp (discharger := omega) [B43, hdV, hmo, hmod]
      exact ⟨by rw [Bool.eq_iff_iff]; simp only [beq_iff_eq, decide_eq_true_eq]; omega, HSub.new (.refl _) hw (by omega) _⟩
  · simp -dsimp (discharger := omega) [B43, hdV]
    exact HSub.new (.refl _) hw (by omega) _
theorem rfits_ret {t : HdN} (h0 : 0 ≤ t.off) (h1 : t.off < 65536) {m : Nat} (hm : m < 1000000) {a : Option Addr} {l k : Nat} {h : AHeap} {n : Nat} (hw : WF h n) : Ret EV06 46 [hdV t (.slice a l k), .int .i64 (m : Int)] h n (.bool (fitsB t m)) [] (n + 1) := by
  refine rsx46 (by simp) (by simp) ?_
  have hmod : Int.tmod (m : Int) 8 = ((m % 8 : Nat) : Int) := tmod_nat _ 8
  have e8 : ((m : Int) % 8 = 0) ↔ m % 8 = 0 := by omega
  unfold fitsB
  by_cases c1 : 8 * t.off + (m : Int) ≤ 65535
  · cases hmo : t.more
    · simp -dsimp (discharger := omega) [B46, hdV, hmo]
      exact HSub.new (.refl _) hw (by omega) _
    · by_cases c2 : m % 8 = 0
      · have c3 : (m : Int) % 8 = 0 := by omega
        simp -dsimp (discharger := omega) [B46, hdV, hmo, hmod, c2]
        exact HSub.new (.refl _) hw (by omega) _
      · have c3 : ¬ (m : Int) % 8 = 0 := by omega
        simp -dsimp (discharger := omega) [B46, hdV, hmo, hmod, c2]
        exact HSub.new (.refl _) hw (by omega) _
  · simp -dsimp (discharger := omega) [B46, hdV]
    exact HSub.new (.refl _) hw (by omega) _
theorem sumN_lt (bs : List UInt8) : sumN bs < 65536 := by
  have := fold_le (sumT bs)
  unfold sumN; omega
end
end Go.Proofs.YtiemkafpijhlmaaDoor.Am
namespace Go.Proofs.YtiemkafpijhlmaaDoor.Am
noncomputable section
/- CONTRACTS: a head laid that may not be. -/
/-- What is wrong with a head. -/
def putBad (t : HdN) (os : List UInt8) (m : Nat) : Bool := decide (t.off < 0) || decide (8192 ≤ t.off) || !optB os || !fitsB t m
theorem put_bad {t : HdN} {os bs : List UInt8} {o b : Value} {h : AHeap} {n : Nat} (ht : t.ok) (ho : BS h o os) (hb : BS h b bs) (hw : WF h n) (hol : os.length < 100000) (hbl : bs.length < 100000) (hbad : putBad t os bs.length = true) :
    Ret EV06 20 [hdV t o, b] h n (.tuple #[.slice none 0 0, .int .i64 1]) [] (n + 2) := by
  obtain ⟨a, k, rfl⟩ := ho.shape
  obtain ⟨a2, k2, rfl⟩ := hb.shape
  have hs1 : HSub h (h.put n (.cells (some 47) [.int .u8 (t.tos : Int), .int .u8 (t.ttl : Int), .int .u8 (t.proto : Int), .int .u16 (t.id : Int), .bool t.evil, .bool t.df, .bool t.more, .int .i64 t.off, .int .u32 (t.src : Int), .int .u32 (t.dst : Int), .slice a os.length k] 11)) := HSub.new (.refl _) hw (by omega) _
  refine rsx20 (by simp) (by simp) ?_
  obtain ⟨t1, t2, t3, t4, t5, t6, t7, t8⟩ := ht
  unfold putBad at hbad
  by_cases c1 : t.off < 0
  · simp -dsimp (discharger := omega) [B20, hdV]
    exact hs1
  · by_cases c2 : 8192 ≤ t.off
    · simp -dsimp (discharger := omega) [B20, hdV]
      exact hs1
    · have d1 : decide (t.off < 0) = false := by simpa using c1
      have d2 : decide (8192 ≤ t.off) = false := by simpa using c2
      rw [d1, d2] at hbad
      simp -dsimp (discharger := omega) [B20, hdV]
      with_reducible refine call_ret (options_ret (bs := os) (by omega) (BS.mono hs1 ho)) ?_
      cases c3 : optB os
      · simp -dsimp (discharger := omega) []
        exact hs1
      · rw [c3] at hbad
        have c4 : fitsB t bs.length = false := by simpa using hbad
        simp -dsimp (discharger := omega) []
        with_reducible refine call_ret (fits_ret (t := t) (m := bs.length) (by omega) (by omega) (by omega) (.of fun j hj => by simp (discharger := omega) [hw.none (i := j) (by omega)])) ?_
        simp -dsimp (discharger := omega) [c4]
        exact hs1
end
end Go.Proofs.YtiemkafpijhlmaaDoor.Am
namespace Go.Proofs.YtiemkafpijhlmaaDoor.Am
noncomputable section
/- CONTRACTS: a head's flags. -/
def bitsN (t : HdN) : Nat := t.off.toNat + (if t.evil then 32768 else 0) + (if t.df then 16384 else 0) + (if t.more then 8192 else 0)
theorem or13 {x a c : Nat} (hx : x < 8192) : (8192 * a + x) ||| (8192 * c) = 8192 * (a ||| c) + x := by
  have e1 := Nat.two_pow_add_eq_or_of_lt (i := 13) (b := x) (by simpa using hx) a
  have e2 := Nat.two_pow_add_eq_or_of_lt (i := 13) (b := x) (by simpa using hx) (a ||| c)
  have e3 : 2 ^ 13 * (a ||| c) = 2 ^ 13 * a ||| 2 ^ 13 * c := by
    have := Nat.shiftLeft_or_distrib (a := a) (b := c) (i := 13)
    simpa [Nat.shiftLeft_eq, Nat.mul_comm] using this
  have p : (2 : Nat) ^ 13 = 8192 := rfl
  rw [p] at e1 e2 e3
  rw [e1, e2, e3, Nat.or_assoc, Nat.or_comm x, ← Nat.or_assoc]
theorem or_u16 {x y : Nat} (hx : x < 65536) (hy : y < 65536) : orI .u16 (x : Int) (y : Int) = ((x ||| y : Nat) : Int) := by
  have e2 : orI .u16 (x : Int) (y : Int) = IntKind.u16.wrap ((BitVec.ofInt 16 (x : Int) ||| BitVec.ofInt 16 (y : Int)).toNat : Int) := rfl
  have hlt : x ||| y < 65536 := Nat.or_lt_two_pow (n := 16) hx hy
  have e : (BitVec.ofInt 16 (x : Int) ||| BitVec.ofInt 16 (y : Int)).toNat = x ||| y := by
    rw [BitVec.ofInt_natCast, BitVec.ofInt_natCast, BitVec.toNat_or, BitVec.toNat_ofNat, BitVec.toNat_ofNat, Nat.mod_eq_of_lt hx, Nat.mod_eq_of_lt hy]
  rw [e2, e, wrap_u16_mod, Nat.mod_eq_of_lt hlt]
theorem or_bit {x a c : Nat} (hx : x < 8192) (ha : a < 8) (hc : c < 8) : orI .u16 ((8192 * a + x : Nat) : Int) ((8192 * c : Nat) : Int) = ((8192 * (a ||| c) + x : Nat) : Int) := by
  rw [or_u16 (by omega) (by omega), or13 hx]
theorem fl_o1 {x : Nat} (hxl : x < 8192) : orI .u16 (x : Int) 32768 = (32768 + (x : Int)) := by
  have := or_bit hxl (a := 0) (c := 4) (by omega) (by omega)
  simpa using this
theorem fl_o2 {x : Nat} (hxl : x < 8192) : orI .u16 (x : Int) 16384 = (16384 + (x : Int)) := by
  have := or_bit hxl (a := 0) (c := 2) (by omega) (by omega)
  simpa using this
theorem fl_o3 {x : Nat} (hxl : x < 8192) : orI .u16 (x : Int) 8192 = (8192 + (x : Int)) := by
  have := or_bit hxl (a := 0) (c := 1) (by omega) (by omega)
  simpa using this
theorem fl_o12 {x : Nat} (hxl : x < 8192) : orI .u16 (32768 + (x : Int)) 16384 = (49152 + (x : Int)) := by
  have := or_bit hxl (a := 4) (c := 2) (by omega) (by omega)
  simpa using this
theorem fl_o13 {x : Nat} (hxl : x < 8192) : orI .u16 (32768 + (x : Int)) 8192 = (40960 + (x : Int)) := by
  have := or_bit hxl (a := 4) (c := 1) (by omega) (by omega)
  simpa using this
theorem fl_o23 {x : Nat} (hxl : x < 8192) : orI .u16 (16384 + (x : Int)) 8192 = (24576 + (x : Int)) := by
  have := or_bit hxl (a := 2) (c := 1) (by omega) (by omega)
  simpa using this
theorem fl_o123 {x : Nat} (hxl : x < 8192) : orI .u16 (49152 + (x : Int)) 8192 = (57344 + (x : Int)) := by
  have := or_bit hxl (a := 6) (c := 1) (by omega) (by omega)
  simpa using this
def flV (t : HdN) : Value := .agg #[.bool t.evil, .int .u16 32768, .bool t.df, .int .u16 16384, .bool t.more, .int .u16 8192]
def FlPost (t : HdN) (v1 v2 v6 : Value) (h0 : AHeap) (n0 : Nat) (e : Ex) (σ' : Fr) (h' : AHeap) (n' : Nat) : Prop :=
  e = .exit 1 ∧ n' = n0 + 3 ∧ HSub h0 h' ∧ WF h' (n0 + 3) ∧ σ'.get 1 = some v1 ∧ σ'.get 2 = some v2 ∧ σ'.get 6 = some v6 ∧ σ'.get 7 = some (.int .u16 ((bitsN t : Nat) : Int))
set_option maxRecDepth 20000 in
theorem fl_loop {t : HdN} (h0 : 0 ≤ t.off) (h1 : t.off < 8192) {v1 v2 v6 : Value} {h : AHeap} {n : Nat} (hw : WF h n) :
    HasCodeT EV06 (.loop F20L0) [(1, v1), (2, v2), (6, v6), (7, .int .u16 t.off), (54, flV t), (55, .int .i64 0)] h n (FlPost t v1 v2 v6 h n) ⟨⟩ := by
  have hoff : ∃ x : Nat, t.off = (x : Int) ∧ x < 8192 ∧ t.off.toNat = x := ⟨t.off.toNat, by omega, by omega, rfl⟩
  obtain ⟨x, hx, hxl, hx2⟩ := hoff
  have o1 := fl_o1 hxl
  have o2 := fl_o2 hxl
  have o3 := fl_o3 hxl
  have o12 := fl_o12 hxl
  have o13 := fl_o13 hxl
  have o23 := fl_o23 hxl
  have o123 := fl_o123 hxl
  have hb : bitsN t = x + (if t.evil then 32768 else 0) + (if t.df then 16384 else 0) + (if t.more then 8192 else 0) := by rw [bitsN, hx2]
  unfold flV FlPost
  rw [hx]
  refine wx_round ?_
  cases he : t.evil <;> cases hd : t.df <;> cases hm : t.more
  all_goals
    simp -dsimp (discharger := omega) [F20L0]
    try simp only [o1]
    refine wx_round ?_
    simp -dsimp (discharger := omega) []
    try simp only [o2, o12]
    refine wx_round ?_
    simp -dsimp (discharger := omega) []
    try simp only [o3, o13, o23, o123]
    refine wx_round ?_
    simp -dsimp (discharger := omega) []
    refine ⟨?_, ?_, ?_⟩
    · repeat (refine HSub.new ?_ hw (by omega) _)
      exact .refl _
    · exact .of fun j hj => by simp (discharger := omega) [hw.none (i := j) (by omega)]
    · rw [hb]; simp [he, hd, hm]; try omega
end
end Go.Proofs.YtiemkafpijhlmaaDoor.Am
namespace Go.Proofs.YtiemkafpijhlmaaDoor.Am
noncomputable section
/- CONTRACTS: a head laid. -/
/-- A head's bytes ahead of its sum, and behind. -/
def preH (t : HdN) (os : List UInt8) (m : Nat) : List UInt8 := [UInt8.ofNat (64 + (20 + os.length) / 4), UInt8.ofNat t.tos] ++ twosL [20 + os.length + m, t.id, bitsN t] ++ [UInt8.ofNat t.ttl, UInt8.ofNat t.proto]
def postH (t : HdN) (os : List UInt8) : List UInt8 := twosL [t.src / 65536, t.src % 65536, t.dst / 65536, t.dst % 65536] ++ os
def headL (t : HdN) (os : List UInt8) (m : Nat) : List UInt8 := preH t os m ++ twoL (sumN (preH t os m ++ twoL 0 ++ postH t os)) ++ postH t os
def putL (t : HdN) (os bs : List UInt8) : List UInt8 := headL t os bs.length ++ bs
theorem preH_len (t : HdN) (os : List UInt8) (m : Nat) : (preH t os m).length = 10 := rfl
theorem postH_len (t : HdN) (os : List UInt8) : (postH t os).length = 8 + os.length := by simp [postH, twosL_length]
theorem headL_len (t : HdN) (os : List UInt8) (m : Nat) : (headL t os m).length = 20 + os.length := by
  have htl : ∀ w, (twoL w).length = 2 := fun _ => rfl
  simp only [headL, List.length_append, preH_len, postH_len, htl]; omega
theorem bitsN_lt (t : HdN) (h : t.off < 8192) : bitsN t < 65536 := by
  unfold bitsN; repeat' split
  all_goals omega
theorem append_bs {h : AHeap} {n q m len : Nat} {bs vs : List UInt8} {v : Value} (hq : h.get q = some (bufB bs m)) (hL : bs.length = len) (hm : m ≤ len) (hv : aElems h 1 v = some (vs.length, u8s vs)) (hlen : bs.length + vs.length < 1000000) {K : Option Value → AHeap → Nat → Prop} {t : Tok K}
    (hK : ∀ H : AHeap, H.get q = some (bufB (bs ++ vs) m) → (∀ i, ¬ i = q → H.get i = h.get i) → K (some (.slice (some ⟨q, 0, some (len + vs.length)⟩) (len + vs.length) 2)) H n) : Runs (aAppend h n 5 1 1 (.slice (some ⟨q, 0, some len⟩) len 2) v) n K t := by
  cases vs with
  | nil =>
    have := hK h (by simpa using hq) (fun _ _ => rfl)
    simp at this
    simp [aAppend, hv]
    exact this
  | cons a vs =>
    refine append_cons hq hL hm hv rfl (by simp at hlen; omega) ?_
    have := hK (h.put q (bufB (bs ++ a :: vs) m)) (by simp) (fun i hi => by rw [AHeap.get_put_ne _ _ (fun e => hi e.symm)])
    simpa [Nat.add_assoc] using this
theorem lenq : ∀ q : Fin 16, orI .i64 64 (q.1 : Int) = ((64 + q.1 : Nat) : Int) := by decide +kernel
set_option maxHeartbeats 4000000 in
theorem put_ok {t : HdN} {os bs : List UInt8} {o b : Value} {h : AHeap} {n : Nat} (ht : t.ok) (ho : BS h o os) (hb : BS h b bs) (hw : WF h n) (hol : os.length < 100000) (hbl : bs.length ≤ 400) (hbad : putBad t os bs.length = false) :
    Ret EV06 20 [hdV t o, b] h n (.tuple #[.slice (some ⟨n + 5, 0, some (putL t os bs).length⟩) (putL t os bs).length 2, .int .i64 0]) [(n + 5, bufB (putL t os bs) (20 + os.length))] (n + 30) := by
  obtain ⟨a, k, rfl⟩ := ho.shape
  obtain ⟨a2, k2, rfl⟩ := hb.shape
  have hs1 : HSub h (h.put n (.cells (some 47) [.int .u8 (t.tos : Int), .int .u8 (t.ttl : Int), .int .u8 (t.proto : Int), .int .u16 (t.id : Int), .bool t.evil, .bool t.df, .bool t.more, .int .i64 t.off, .int .u32 (t.src : Int), .int .u32 (t.dst : Int), .slice a os.length k] 11)) := HSub.new (.refl _) hw (by omega) _
  have hw1 : WF (h.put n (.cells (some 47) [.int .u8 (t.tos : Int), .int .u8 (t.ttl : Int), .int .u8 (t.proto : Int), .int .u16 (t.id : Int), .bool t.evil, .bool t.df, .bool t.more, .int .i64 t.off, .int .u32 (t.src : Int), .int .u32 (t.dst : Int), .slice a os.length k] 11)) (n + 1) := .of fun j hj => by simp (discharger := omega) [hw.none (i := j) (by omega)]
  refine rsx20 (by simp) (by simp) ?_
  obtain ⟨t1, t2, t3, t4, t5, t6, t7, t8⟩ := ht
  have hbad := hbad
  simp only [putBad, Bool.or_eq_false_iff, decide_eq_false_iff_not, Bool.not_eq_false'] at hbad
  obtain ⟨⟨⟨c1, c2⟩, c3⟩, c4⟩ := hbad
  have c5 : os.length ≤ 40 := by
    unfold optB at c3
    simp only [Bool.and_eq_true, decide_eq_true_eq] at c3
    exact c3.1.1
  simp -dsimp (discharger := omega) [B20, -wR20_0, -wR20_1]
  with_reducible refine call_ret (options_ret (bs := os) (by omega) (BS.mono hs1 ho)) ?_
  simp -dsimp (discharger := omega) [c3, -wR20_0, -wR20_1]
  with_reducible refine call_ret (fits_ret (t := t) (m := bs.length) (by omega) (by omega) (by omega) hw1) ?_
  simp -dsimp (discharger := omega) [c4, aFill, -wR20_0, -wR20_1]
  generalize hH : h.put n (.cells (some 47) [.int .u8 (t.tos : Int), .int .u8 (t.ttl : Int), .int .u8 (t.proto : Int), .int .u16 (t.id : Int), .bool t.evil, .bool t.df, .bool t.more, .int .i64 t.off, .int .u32 (t.src : Int), .int .u32 (t.dst : Int), .slice a os.length k] 11) = H1 at *
  have hbox : H1.get n = some (.cells (some 47) [.int .u8 (t.tos : Int), .int .u8 (t.ttl : Int), .int .u8 (t.proto : Int), .int .u16 (t.id : Int), .bool t.evil, .bool t.df, .bool t.more, .int .i64 t.off, .int .u32 (t.src : Int), .int .u32 (t.dst : Int), .slice a os.length k] 11) := by rw [← hH, AHeap.get_put_same]
  refine loop_use (fl_loop (t := t) (v1 := .slice a2 bs.length k2) (v2 := .pointer (some ⟨n, 0, some 11⟩)) (v6 := .int .i64 (20 + (os.length : Int))) (by omega) (by omega) (hw1.mono (Nat.le_add_right (n + 1) 1))) (by simp [flV]) (.refl _) ?_
  rintro e σ' h' n' ⟨rfl, rfl, hs2, hw2, g1, g2, g6, g7⟩
  have hbx := hs2 _ _ hbox
  have hs3 := hs1.trans hs2
  have hB1 := BS.mono hs3 hb
  have hO1 := BS.mono hs3 ho
  have hfin : HSub h h' := hs3
  generalize h' = H at *
  have en : n + 1 + 1 + 3 = n + 5 := by omega
  rw [en] at hw2 ⊢
  have hor := lenq ⟨(20 + os.length) / 4, by omega⟩
  simp only at hor
  have by8 : ∀ {x : Nat}, x < 256 → ((UInt8.ofNat x).toNat : Int) = (x : Int) := fun {x} hx => by rw [UInt8.toNat_ofNat', Nat.mod_eq_of_lt (by omega)]
  obtain ⟨d0, hd0, e0⟩ : ∃ c : UInt8, UInt8.ofNat (64 + (20 + os.length) / 4) = c ∧ orI .i64 64 ((20 + (os.length : Int)) / 4) = (c.toNat : Int) := ⟨_, rfl, by
    rw [by8 (by omega), ← hor, show (20 + (os.length : Int)) / 4 = (((20 + os.length) / 4 : Nat) : Int) by omega]⟩
  obtain ⟨d1, hd1, e1⟩ : ∃ c : UInt8, UInt8.ofNat t.tos = c ∧ (t.tos : Int) = (c.toNat : Int) := ⟨_, rfl, (by8 t1).symm⟩
  obtain ⟨d2, hd2, e2⟩ : ∃ c : UInt8, UInt8.ofNat t.ttl = c ∧ (t.ttl : Int) = (c.toNat : Int) := ⟨_, rfl, (by8 t2).symm⟩
  obtain ⟨d3, hd3, e3⟩ : ∃ c : UInt8, UInt8.ofNat t.proto = c ∧ (t.proto : Int) = (c.toNat : Int) := ⟨_, rfl, (by8 t3).symm⟩
  have l0 := d0.toNat_lt
  have hbN := bitsN_lt t (by omega)
  have hcl : ∀ a b : UInt8, [Value.int .u8 (a.toNat : Int), .int .u8 (b.toNat : Int)] = u8s [a, b] := fun _ _ => rfl
  simp -dsimp (discharger := omega) [g1, g2, g6, g7, AHeap.read_of hbx, tdivP, e0, e1, hcl, aFill, -wR20_1]
  refine ⟨by omega, ?_⟩
  with_reducible refine ret_on [n + 5 + 1] (words_ret (w := 20 + os.length + bs.length) (ws := [t.id, bitsN t]) (by simp; omega) (.of fun j hj => by simp (discharger := omega) [hw2.none (i := j) (by omega)]) (by simp [u16s]) (by simp)) ?_
  simp -dsimp (discharger := omega) [-wR20_1]
  refine ⟨by omega, ?_⟩
  have hcat : ∀ a b : List UInt8, u8s a ++ u8s b = u8s (a ++ b) := fun a b => (u8s_append a b).symm
  have ht2 : ∀ a b : UInt8, List.take 2 (u8s [a, b]) = u8s [a, b] := fun _ _ => rfl
  have w1 : IntKind.u16.wrap (shrI .u32 (t.src : Int) 16) = ((t.src / 65536 : Nat) : Int) := by
    rw [show shrI .u32 (t.src : Int) 16 = ((t.src / 65536 : Nat) : Int) from shrI_nat .u32 _ 16, wrap_u16_mod, Nat.mod_eq_of_lt (by omega)]
  have w2 : IntKind.u16.wrap (t.src : Int) = ((t.src % 65536 : Nat) : Int) := wrap_u16_mod _
  have w3 : IntKind.u16.wrap (shrI .u32 (t.dst : Int) 16) = ((t.dst / 65536 : Nat) : Int) := by
    rw [show shrI .u32 (t.dst : Int) 16 = ((t.dst / 65536 : Nat) : Int) from shrI_nat .u32 _ 16, wrap_u16_mod, Nat.mod_eq_of_lt (by omega)]
  have w4 : IntKind.u16.wrap (t.dst : Int) = ((t.dst % 65536 : Nat) : Int) := wrap_u16_mod _
  have hX : (twosL [20 + os.length + bs.length, t.id, bitsN t]).length = 6 := rfl
  have hXt : List.take 6 (u8s (twosL [20 + os.length + bs.length, t.id, bitsN t])) = u8s (twosL [20 + os.length + bs.length, t.id, bitsN t]) := rfl
  simp -dsimp (discharger := omega) [aAppend, aElems, bufB, hX, hXt, hcat, g2, -wR20_1]
  have hl8 : (d0 :: d1 :: twosL [20 + os.length + bs.length, t.id, bitsN t]).length = 8 := rfl
  simp -dsimp (discharger := omega) [g2, AHeap.read_of hbx, e2, e3, hcl, aFill, -wR20_1]
  with_reducible refine append_bs (bs := d0 :: d1 :: twosL [20 + os.length + bs.length, t.id, bitsN t]) (vs := [d2, d3]) (m := 2) (by simp (discharger := omega) [bufB]) hl8 (by omega) (by simp (discharger := omega) [aElems, ht2]) (by simp; omega) ?_
  intro H2 q2 o2
  have hbx2 : H2.get n = some (.cells (some 47) [.int .u8 (t.tos : Int), .int .u8 (t.ttl : Int), .int .u8 (t.proto : Int), .int .u16 (t.id : Int), .bool t.evil, .bool t.df, .bool t.more, .int .i64 t.off, .int .u32 (t.src : Int), .int .u32 (t.dst : Int), .slice a os.length k] 11) := by rw [o2 n (by omega)]; simp (discharger := omega) [hbx]
  have hs4 : HSub H H2 := fun i b hi => by
    have := hw2.lt hi
    rw [o2 i (by omega)]; simp (discharger := omega) [hi]
  have hw4 : WF H2 (n + 13) := .of fun j hj => by rw [o2 j (by omega)]; simp (discharger := omega) [hw2.none (i := j) (by omega)]
  clear o2
  have hl10 : (d0 :: d1 :: (twosL [20 + os.length + bs.length, t.id, bitsN t] ++ [d2, d3])).length = 10 := rfl
  have er : n + 5 + 1 + 1 + 1 + 3 + 1 = n + 12 := by omega
  rw [er]
  simp -dsimp (discharger := omega) [g2, AHeap.read_of hbx2, w1, w2, w3, w4, aFill, -wR20_1]
  with_reducible refine call_ret (words_ret (w := 0) (ws := [t.src / 65536, t.src % 65536, t.dst / 65536, t.dst % 65536]) (by simp; omega) (.of fun j hj => by simp (discharger := omega) [hw4.none (i := j) (by omega)]) (by simp [u16s]) (by simp)) ?_
  have hY : (twosL [0, t.src / 65536, t.src % 65536, t.dst / 65536, t.dst % 65536]).length = 10 := rfl
  have hYt : List.take 10 (u8s (twosL [0, t.src / 65536, t.src % 65536, t.dst / 65536, t.dst % 65536])) = u8s (twosL [0, t.src / 65536, t.src % 65536, t.dst / 65536, t.dst % 65536]) := rfl
  simp -dsimp (discharger := omega) [-wR20_1]
  with_reducible refine append_bs (bs := d0 :: d1 :: (twosL [20 + os.length + bs.length, t.id, bitsN t] ++ [d2, d3])) (vs := twosL [0, t.src / 65536, t.src % 65536, t.dst / 65536, t.dst % 65536]) (m := 2) (by simp (discharger := omega) [q2]) hl10 (by omega) (by simp (discharger := omega) [aElems, bufB, hY, hYt]) (by simp; omega) ?_
  intro H3 q3 o3
  have hbx3 : H3.get n = some (.cells (some 47) [.int .u8 (t.tos : Int), .int .u8 (t.ttl : Int), .int .u8 (t.proto : Int), .int .u16 (t.id : Int), .bool t.evil, .bool t.df, .bool t.more, .int .i64 t.off, .int .u32 (t.src : Int), .int .u32 (t.dst : Int), .slice a os.length k] 11) := by rw [o3 n (by omega)]; simp (discharger := omega) [hbx2]
  have hs5 : HSub H H3 := fun i b hi => by
    have := hw2.lt hi
    rw [o3 i (by omega)]; simp (discharger := omega) [hs4 i b hi]
  have hw5 : WF H3 (n + 19) := .of fun j hj => by rw [o3 j (by omega)]; simp (discharger := omega) [hw4.none (i := j) (by omega)]
  clear o3
  have er2 : n + 12 + 1 + 1 + 5 = n + 19 := by omega
  rw [er2]
  have hl20 : (d0 :: d1 :: (twosL [20 + os.length + bs.length, t.id, bitsN t] ++ [d2, d3]) ++ twosL [0, t.src / 65536, t.src % 65536, t.dst / 65536, t.dst % 65536]).length = 20 := rfl
  simp -dsimp (discharger := omega) [hY, g2, AHeap.read_of hbx3, -wR20_1]
  with_reducible refine append_bs (vs := os) (m := 2) q3 hl20 (by omega) (BS.elems (BS.mono hs5 hO1)) (by rw [hl20]; omega) ?_
  intro H4 q4 o4
  have hs6 : HSub H H4 := fun i b hi => by
    have := hw2.lt hi
    rw [o4 i (by omega)]; exact hs5 i b hi
  have hw6 : WF H4 (n + 19) := .of fun j hj => by rw [o4 j (by omega)]; exact hw5.none (i := j) (by omega)
  clear o4
  rw [List.append_assoc] at q4
  simp -dsimp (discharger := omega) [-wR20_1]
  have hP : d0 :: d1 :: (twosL [20 + os.length + bs.length, t.id, bitsN t] ++ [d2, d3]) = preH t os bs.length := by rw [preH, hd0, hd1, hd2, hd3]; rfl
  have hR : twosL [0, t.src / 65536, t.src % 65536, t.dst / 65536, t.dst % 65536] ++ os = twoL 0 ++ postH t os := by simp [twosL, postH]
  rw [hP, hR, ← List.append_assoc] at q4
  have hlP := preH_len t os bs.length
  have hlR := postH_len t os
  have hput : putL t os bs = preH t os bs.length ++ twoL (sumN (preH t os bs.length ++ twoL 0 ++ postH t os)) ++ postH t os ++ bs := rfl
  rw [hput]
  have hSl := sumN_lt (preH t os bs.length ++ twoL 0 ++ postH t os)
  have htl0 : (twoL 0).length = 2 := rfl
  have hlZ : (preH t os bs.length ++ twoL 0 ++ postH t os).length = 20 + os.length := by simp only [List.length_append, hlP, hlR, htl0]; omega
  clear hP hR hd0 hd1 hd2 hd3 hput
  generalize preH t os bs.length = P at *
  generalize postH t os = R at *
  generalize hS : sumN (P ++ twoL 0 ++ R) = S at *
  have hsum : ∀ {m : Nat}, Ret EV06 23 [.slice (some ⟨n + 5, 0, some (20 + os.length)⟩) (20 + os.length) 2] (touch [n + 5] H4) m (.int .u16 (S : Int)) [] m := fun {m} => by
    have h1 := bs_new (h := touch [n + 5] H4) (i := n + 5) (bs := P ++ twoL 0 ++ R) (m := 2) (by simpa using q4) (by omega)
    rw [hlZ] at h1
    have := sum_ret (bs := P ++ twoL 0 ++ R) (by omega) h1 (n := m)
    rw [hS] at this; exact this
  have hu1 : ∀ {H : AHeap} {i : Nat}, H.get i = some (.cells (some 44) [.int .u16 (S : Int)] 1) → H.read i 1 0 1 = some (u16s [S]) := fun {H i} e => by
    rw [AHeap.read_of e]; rfl
  simp -dsimp (discharger := omega) []
  with_reducible refine ret_on [n + 5] hsum ?_
  simp -dsimp (discharger := omega) [aFill]
  with_reducible refine ret_on [n + 19] (words_ret (w := S) (ws := []) (by simp; omega) (.of fun j hj => by simp (discharger := omega) [hw6.none (i := j) (by omega)]) (by simp [u16s]) (by simp)) ?_
  simp -dsimp (discharger := omega) []
  have hZl : (u8s (P ++ twoL 0 ++ R)).length = 20 + os.length := by rw [u8s_length, hlZ]
  have htS : (twoL S).length = 2 := rfl
  have hsp : (u8s (P ++ twoL 0 ++ R)).take 10 ++ (u8s (twosL [S]) ++ (u8s (P ++ twoL 0 ++ R)).drop 12) = u8s (P ++ twoL S ++ R) := by
    rw [u8s_take, u8s_drop, List.append_assoc, List.take_left' hlP, show 12 = 10 + 2 from rfl, ← List.drop_drop, List.drop_left' hlP, List.drop_left' htl0, ← u8s_append, ← u8s_append, List.append_assoc]
    rfl
  have hS2 : List.take 2 (u8s (twosL [S])) = u8s (twosL [S]) := rfl
  have hS3 : (twosL [S]).length = 2 := rfl
  unfold bufB at q4
  have hm2 : min 2 (20 + os.length - 10) = 2 := by omega
  generalize u8s (P ++ twoL 0 ++ R) = Z at *
  simp -dsimp (discharger := omega) [aCopy, aElems, bufB, q4, hZl, hS2, hS3, hm2, hsp, g1]
  have hlF : (P ++ twoL S ++ R).length = 20 + os.length := by simp only [List.length_append, hlP, hlR, htS]; omega
  with_reducible refine append_bs (bs := P ++ twoL S ++ R) (vs := bs) (m := 20 + os.length) (by simp (discharger := omega) [bufB]) hlF (by omega) (BS.elems (BS.mono ?_ hB1)) (by rw [hlF]; omega) ?_
  · repeat (refine HSub.new ?_ hw2 (by omega) _)
    exact hs6
  intro H5 q5 o5
  simp -dsimp (discharger := omega) []
  refine ⟨by omega, fun i b hi => ?_⟩
  rw [AHeap.get_put] at hi
  by_cases e : n + 5 = i
  · subst e
    rw [if_pos rfl] at hi
    rw [q5, ← hi]; simp only [List.append_assoc]
  · rw [if_neg e] at hi
    have hlt := hw.lt hi
    rw [o5 i (fun e2 => e e2.symm)]
    simp (discharger := omega) [hs6 i b (hfin i b hi)]
end
end Go.Proofs.YtiemkafpijhlmaaDoor.Am
