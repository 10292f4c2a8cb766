/- Contracts of the program's functions (X3). -/
import Derived.Test.YtiemkafpijhlmaaDoorX2
namespace Go.Proofs.YtiemkafpijhlmaaDoor.Am
noncomputable section
/- CONTRACTS: words, addresses, numbers read; clones. -/
theorem step16 {a x : Nat} (ha : a < 256) (hx : x < 256) : orI .u16 (shlI .u16 (a : Int) 8) (x : Int) = ((256 * a + x : Nat) : Int) := by
  have e : shlI .u16 (a : Int) 8 = ((a * 256 : Nat) : Int) := by
    have : shlI .u16 (a : Int) 8 = IntKind.u16.wrap ((a : Int) * 256) := rfl
    rw [this]
    simp (discharger := omega) []
  rw [e, orN (k := .u16) rfl (by show a * 256 < 65536; omega) (by show x < 65536; omega)]
  have := Nat.two_pow_add_eq_or_of_lt (i := 8) hx a
  rw [show a * 256 = 2 ^ 8 * a by omega, ← this]
theorem step3216 {a x : Nat} (ha : a < 65536) (hx : x < 65536) : orI .u32 (shlI .u32 (a : Int) 16) (x : Int) = ((65536 * a + x : Nat) : Int) := by
  have e : shlI .u32 (a : Int) 16 = ((a * 65536 : Nat) : Int) := by
    have : shlI .u32 (a : Int) 16 = IntKind.u32.wrap ((a : Int) * 65536) := rfl
    rw [this]
    simp (discharger := omega) []
  rw [e, orN (k := .u32) rfl (by show a * 65536 < 4294967296; omega) (by show x < 4294967296; omega)]
  have := Nat.two_pow_add_eq_or_of_lt (i := 16) hx a
  rw [show a * 65536 = 2 ^ 16 * a by omega, ← this]
theorem bs_at {h : AHeap} {i o g k m : Nat} {vs : List UInt8} (hl : vs.length = m) (hr : h.read i g o m = some (u8s vs)) : BS h (.slice (some ⟨i, o, some g⟩) m k) vs := by subst hl; exact .mk hr
theorem append_fre {h : AHeap} {n : Nat} {vs : List UInt8} {v : Value} (hv : aElems h 1 v = some (vs.length, u8s vs)) (hw : WF h n) (hlen : vs.length < 1000000000) {K : Option Value → AHeap → Nat → Prop} {t : Tok K}
    (hK : ∀ (w : Value) (H : AHeap) (m : Nat), BS H w vs → HSub h H → WF H m → n ≤ m → m ≤ n + 1 → K (some w) H m) : Runs (aAppend h n 5 1 1 (.slice none 0 0) v) n K t := by
  cases vs with
  | nil =>
    have := hK _ h n .nil (.refl _) hw (Nat.le_refl _) (by omega)
    simp [aAppend, hv]
    exact this
  | cons a vs =>
    have := hK (.slice (some ⟨n, 0, some (a :: vs).length⟩) (a :: vs).length 2) (h.put n (bufB (a :: vs) (a :: vs).length)) (n + 1) (bs_new (by simp) (Nat.le_refl _)) (.new (.refl _) hw (Nat.le_refl _) _) (.of fun j hj => by simp (discharger := omega) [hw.none (i := j) (by omega)]) (by omega) (by omega)
    simp only [List.length_cons] at hlen
    have h2 : 2 * (vs.length + 1) ≤ 281474976710656 := by omega
    simp [aAppend, hv, h2]
    simpa [bufB] using this
def w2 (a b : UInt8) : Nat := 256 * a.toNat + b.toNat
theorem w2_lt (a b : UInt8) : w2 a b < 65536 := by
  have := a.toNat_lt
  have := b.toNat_lt
  unfold w2; omega
theorem word_ret {a c : UInt8} {i o g m k : Nat} {h : AHeap} (h1 : h.read i g o 1 = some [.int .u8 (a.toNat : Int)]) (h2 : h.read i g (o + 1) 1 = some [.int .u8 (c.toNat : Int)]) (hm : 2 ≤ m) {n : Nat} :
    Ret EV06 47 [.slice (some ⟨i, o, some g⟩) m k] h n (.int .u16 ((w2 a c : Nat) : Int)) [] n := by
  refine rsx47 (by simp) (by simp) ?_
  have ha := a.toNat_lt
  have hc := c.toNat_lt
  have hor := step16 (a := a.toNat) (x := c.toNat) (by omega) (by omega)
  simp -dsimp (discharger := omega) [B47, h1, h2, hor, w2]
  exact .refl _
theorem address_ret {a b c d : UInt8} {i o g m k : Nat} {h : AHeap} (h1 : h.read i g o 1 = some [.int .u8 (a.toNat : Int)]) (h2 : h.read i g (o + 1) 1 = some [.int .u8 (b.toNat : Int)]) (h3 : h.read i g (o + 2) 1 = some [.int .u8 (c.toNat : Int)]) (h4 : h.read i g (o + 2 + 1) 1 = some [.int .u8 (d.toNat : Int)]) (hm : 4 ≤ m) (hmg : o + m ≤ g) {n : Nat} :
    Ret EV06 50 [.slice (some ⟨i, o, some g⟩) m k] h n (.int .u32 ((65536 * w2 a b + w2 c d : Nat) : Int)) [] n := by
  refine rsx50 (by simp) (by simp) ?_
  have hx := w2_lt a b
  have hy := w2_lt c d
  have hor := step3216 hx hy
  simp -dsimp (discharger := omega) [B50]
  with_reducible refine ret_ret (word_ret h1 h2 (by omega)) ?_
  simp -dsimp (discharger := omega) []
  with_reducible refine ret_ret (word_ret h3 h4 (by omega)) ?_
  simp -dsimp (discharger := omega) [hor]
  exact .refl _
theorem number2_ret {a b : UInt8} {i o g k : Nat} {h : AHeap} (h1 : h.read i g o 1 = some [.int .u8 (a.toNat : Int)]) (h2 : h.read i g (o + 1) 1 = some [.int .u8 (b.toNat : Int)]) {n : Nat} :
    Ret EV06 52 [.slice (some ⟨i, o, some g⟩) 2 k] h n (.int .i64 ((w2 a b : Nat) : Int)) [] n := by
  refine rsx52 (by simp) (by simp) ?_
  have ha := a.toNat_lt
  have hb := b.toNat_lt
  simp -dsimp (discharger := omega) [B52]
  refine wx_round ?_
  simp -dsimp (discharger := omega) [F52L0, h1]
  refine wx_round ?_
  simp -dsimp (discharger := omega) [h2]
  refine wx_round ?_
  simp -dsimp (discharger := omega) [w2]
  exact .refl _
theorem number4_ret {a b c d : UInt8} {i o g k : Nat} {h : AHeap} (h1 : h.read i g o 1 = some [.int .u8 (a.toNat : Int)]) (h2 : h.read i g (o + 1) 1 = some [.int .u8 (b.toNat : Int)]) (h3 : h.read i g (o + 2) 1 = some [.int .u8 (c.toNat : Int)]) (h4 : h.read i g (o + 3) 1 = some [.int .u8 (d.toNat : Int)]) {n : Nat} :
    Ret EV06 52 [.slice (some ⟨i, o, some g⟩) 4 k] h n (.int .i64 ((65536 * w2 a b + w2 c d : Nat) : Int)) [] n := by
  refine rsx52 (by simp) (by simp) ?_
  have ha := a.toNat_lt
  have hb := b.toNat_lt
  have hc := c.toNat_lt
  have hd := d.toNat_lt
  simp -dsimp (discharger := omega) [B52]
  refine wx_round ?_
  simp -dsimp (discharger := omega) [F52L0, h1]
  refine wx_round ?_
  simp -dsimp (discharger := omega) [h2]
  refine wx_round ?_
  simp -dsimp (discharger := omega) [h3]
  refine wx_round ?_
  simp -dsimp (discharger := omega) [h4]
  refine wx_round ?_
  simp -dsimp (discharger := omega) [w2]
  exact ⟨by omega, .refl _⟩
theorem bclone_nil (h : AHeap) (n : Nat) : Ret EV06 51 [.slice none 0 0] h n (.slice none 0 0) [] n := by
  refine rsx51 (by simp) (by simp) ?_
  simp -dsimp (discharger := omega) [B51, HSub.refl]
theorem bclone_ret {h : AHeap} {n i o g k m : Nat} {vs : List UInt8} (hl : vs.length = m) (hr : h.read i g o m = some (u8s vs)) (hw : WF h n) (hb : m < 1000000000) :
    Ret EV06 51 [.slice (some ⟨i, o, some g⟩) m k] h n (.slice (some ⟨n, 0, some m⟩) m 2) [(n, bufB vs 0)] (n + 1) := by
  subst hl
  have hi := read_lt hw hr
  refine rsx51 (by simp) (by simp) ?_
  simp -dsimp (discharger := omega) [B51]
  cases vs with
  | nil =>
    simp -dsimp (discharger := omega) [aFill, aAppend, aElems]
    simp at hr
    simp -dsimp (discharger := omega) [hr]
    exact .refl _
  | cons a vs =>
    simp only [List.length_cons] at hb hr
    simp -dsimp (discharger := omega) [aFill, aAppend, aElems, hr, bufB]
    refine .ofE (.left (.inr (by simp)) (.right (.inl (by simp)) (.right (.inl (by simp)) (.refl _ _))))
end
end Go.Proofs.YtiemkafpijhlmaaDoor.Am
namespace Go.Proofs.YtiemkafpijhlmaaDoor.Am
noncomputable section
/- CONTRACTS: the begin of a head. -/
def atB (bs : List UInt8) (i : Nat) : UInt8 := bs.getD i 0
def wN (bs : List UInt8) (i : Nat) : Nat := w2 (atB bs i) (atB bs (i + 1))
def hlN (bs : List UInt8) : Nat := 4 * ((atB bs 0).toNat % 16)
def begE (bs : List UInt8) : Nat := if bs.length < 20 then 4 else if ¬ (atB bs 0).toNat / 16 = 4 ∨ hlN bs < 20 then 5 else if bs.length < hlN bs then 4 else if wN bs 2 < hlN bs then 5 else 0
theorem wN_lt (bs : List UInt8) (i : Nat) : wN bs i < 65536 := w2_lt _ _
theorem hlN_le (bs : List UInt8) : hlN bs ≤ 60 := by unfold hlN; omega
theorem atB_get {bs : List UInt8} {i : Nat} (h : i < bs.length) : bs[i]? = some (atB bs i) := by
  rw [atB, List.getD_eq_getElem?_getD, List.getElem?_eq_getElem h]; rfl
theorem at_read {h : AHeap} {i o g : Nat} {bs : List UInt8} (hr : h.read i g o bs.length = some (u8s bs)) {j : Nat} (hj : j < bs.length) : h.read i g (o + j) 1 = some [.int .u8 ((atB bs j).toNat : Int)] := bs_one hr (atB_get hj)
theorem read_bd {h : AHeap} {i g o m : Nat} {vs : List Value} (x : h.read i g o m = some vs) : o + m ≤ g := by
  unfold AHeap.read at x
  split at x
  · split at x
    · rename_i h; exact h.2.2
    · cases x
  · cases x
theorem begin_short {bs : List UInt8} {v : Value} {h : AHeap} (hb : BS h v bs) (hl : bs.length < 20) {n : Nat} : Ret EV06 48 [v] h n (.tuple #[.int .i64 0, .int .i64 4]) [] n := by
  obtain ⟨a, k, rfl⟩ := hb.shape
  refine rsx48 (by simp) (by simp) ?_
  simp -dsimp (discharger := omega) [B48]
  exact .refl _
theorem begin_ret {bs : List UInt8} {i o g k : Nat} {h : AHeap} (hr : h.read i g o bs.length = some (u8s bs)) (hl : 20 ≤ bs.length) (hl2 : bs.length < 1000000) {n : Nat} :
    Ret EV06 48 [.slice (some ⟨i, o, some g⟩) bs.length k] h n (.tuple #[.int .i64 (if begE bs = 0 then (hlN bs : Int) else 0), .int .i64 (begE bs : Int)]) [] n := by
  refine rsx48 (by simp) (by simp) ?_
  have r0 := at_read hr (j := 0) (by omega)
  have r2 := at_read hr (j := 2) (by omega)
  have r3 := at_read hr (j := 3) (by omega)
  have hog := read_bd hr
  simp only [Nat.add_zero] at r0
  have hb : begE bs = if ¬ (atB bs 0).toNat / 16 = 4 ∨ hlN bs < 20 then 5 else if bs.length < hlN bs then 4 else if wN bs 2 < hlN bs then 5 else 0 := by
    unfold begE; rw [if_neg (by omega)]
  have hw : ∀ {m kk : Nat}, Ret EV06 47 [.slice (some ⟨i, o + 2, some g⟩) (bs.length - 2) kk] h m (.int .u16 ((wN bs 2 : Nat) : Int)) [] m := fun {m kk} => word_ret r2 r3 (by omega)
  rw [hb]
  unfold hlN
  have ha := (atB bs 0).toNat_lt
  generalize hA : (atB bs 0).toNat = A at *
  have hand : andI .u8 (A : Int) 15 = ((A % 16 : Nat) : Int) := by
    have := andN (k := .u8) rfl (x := A) (y := 15) ha (by decide)
    rw [show (15 : Nat) = 2 ^ 4 - 1 from rfl, Nat.and_two_pow_sub_one_eq_mod] at this
    exact this
  have hshr : shrI .u8 (A : Int) 4 = ((A / 16 : Nat) : Int) := shrI_nat .u8 A 4
  have hwl := wN_lt bs 2
  by_cases c1 : A / 16 = 4
  · by_cases c2 : 4 * (A % 16) < 20
    · simp -dsimp (discharger := omega) [B48, r0, hand, hshr, c1]
      exact .refl _
    · by_cases c3 : bs.length < 4 * (A % 16)
      · simp -dsimp (discharger := omega) [B48, r0, hand, hshr, c1]
        exact .refl _
      · simp -dsimp (discharger := omega) [B48, r0, hand, hshr, c1]
        with_reducible refine call_ret hw ?_
        by_cases c4 : wN bs 2 < 4 * (A % 16)
        · simp -dsimp (discharger := omega) []
          exact .refl _
        · simp -dsimp (discharger := omega) []
          exact .refl _
  · simp -dsimp (discharger := omega) [B48, r0, hand, hshr, c1]
    exact .refl _
end
end Go.Proofs.YtiemkafpijhlmaaDoor.Am
namespace Go.Proofs.YtiemkafpijhlmaaDoor.Am
noncomputable section
/- CONTRACTS: a head cut. -/
def hdOf (bs : List UInt8) : HdN := ⟨(atB bs 1).toNat, (atB bs 8).toNat, (atB bs 9).toNat, wN bs 4, decide (32768 ≤ wN bs 6), decide (wN bs 6 / 16384 % 2 = 1), decide (wN bs 6 / 8192 % 2 = 1), ((wN bs 6 % 8192 : Nat) : Int), 65536 * wN bs 12 + wN bs 14, 65536 * wN bs 16 + wN bs 18⟩
def hd0 : HdN := ⟨0, 0, 0, 0, false, false, false, 0, 0, 0⟩
def optsOf (bs : List UInt8) : List UInt8 := (bs.take (hlN bs)).drop 20
def bodyOf (bs : List UInt8) : List UInt8 := (bs.take (min (wN bs 2) bs.length)).drop (hlN bs)
def cutE (bs : List UInt8) : Nat := if begE bs = 0 then (if sumN (bs.take (hlN bs)) = 0 then (if optB (optsOf bs) = true then 0 else 5) else 21) else begE bs
theorem beg_short {bs : List UInt8} (h : bs.length < 20) : begE bs = 4 := by unfold begE; rw [if_pos h]
theorem beg_ok {bs : List UInt8} (h : begE bs = 0) : 20 ≤ bs.length ∧ 20 ≤ hlN bs ∧ hlN bs ≤ bs.length ∧ hlN bs ≤ wN bs 2 ∧ (atB bs 0).toNat / 16 = 4 := by
  unfold begE at h
  split at h
  · cases h
  split at h
  · cases h
  split at h
  · cases h
  split at h
  · cases h
  rename_i h1 h2 h3 h4
  omega
theorem cut_bad {bs : List UInt8} {v : Value} {h : AHeap} (hb : BS h v bs) (hl : bs.length < 100000) (hbad : ¬ cutE bs = 0) {n : Nat} (hw : WF h n) : Ret EV06 28 [v] h n (.tuple #[hdV hd0 (.slice none 0 0), .slice none 0 0, .int .i64 (cutE bs : Int)]) [] (n + 1) := by
  have hsub : ∀ B, HSub h (h.put n B) := fun B => .put_new _ (hw n (Nat.le_refl _)) (.refl _)
  refine rsx28 (by simp) (by simp) ?_
  by_cases h20 : bs.length < 20
  · have e : cutE bs = 4 := by unfold cutE; rw [if_neg (by rw [beg_short h20]; decide), beg_short h20]
    rw [e]
    simp -dsimp (discharger := omega) [B28]
    with_reducible refine call_ret (begin_short (BS.mono (hsub _) hb) h20) ?_
    simp -dsimp (discharger := omega) [aFill, hd0]
    repeat (refine HSub.new ?_ hw (by omega) _)
    exact .refl _
  · cases hb with
    | nil => simp at h20
    | @mk i o g k _ hr =>
      have hi := read_lt hw hr
      have hr2 := read_mono (hsub (.cells (some 47) [.int .u8 0, .int .u8 0, .int .u8 0, .int .u16 0, .bool false, .bool false, .bool false, .int .i64 0, .int .u32 0, .int .u32 0, .slice none 0 0] 11)) hr
      by_cases hB : begE bs = 0
      · obtain ⟨b1, b2, b3, b4, b5⟩ := beg_ok hB
        have rsm := bs_sub hr2 (Nat.zero_le (hlN bs)) b3
        have rop := bs_sub hr2 b2 b3
        simp only [Nat.add_zero, Nat.sub_zero, List.drop_zero] at rsm
        have lsm : (bs.take (hlN bs)).length = hlN bs := by rw [List.length_take]; omega
        have lop : (optsOf bs).length = hlN bs - 20 := by rw [optsOf, List.length_drop, lsm]
        have h60 := hlN_le bs
        simp -dsimp (discharger := omega) [B28]
        with_reducible refine call_ret (begin_ret hr2 (by omega) (by omega)) ?_
        have hS := sumN_lt (bs.take (hlN bs))
        by_cases hs : sumN (bs.take (hlN bs)) = 0
        · have hO : optB (optsOf bs) = false := by
            cases hO : optB (optsOf bs) with
            | false => rfl
            | true => exact absurd (by unfold cutE; rw [if_pos hB, if_pos hs, if_pos hO]) hbad
          have e : cutE bs = 5 := by unfold cutE; rw [if_pos hB, if_pos hs, if_neg (by rw [hO]; decide)]
          rw [e]
          simp -dsimp (discharger := omega) [hB]
          with_reducible refine call_ret (sum_ret (bs := bs.take (hlN bs)) (by omega) (bs_at lsm rsm)) ?_
          simp -dsimp (discharger := omega) [hs]
          with_reducible refine call_ret (options_ret (bs := optsOf bs) (by omega) (bs_at lop rop)) ?_
          simp -dsimp (discharger := omega) [hO, aFill, hd0]
          repeat (refine HSub.new ?_ hw (by omega) _)
          exact .refl _
        · have e : cutE bs = 21 := by unfold cutE; rw [if_pos hB, if_neg hs]
          rw [e]
          simp -dsimp (discharger := omega) [hB]
          with_reducible refine call_ret (sum_ret (bs := bs.take (hlN bs)) (by omega) (bs_at lsm rsm)) ?_
          simp -dsimp (discharger := omega) [aFill, hd0]
          repeat (refine HSub.new ?_ hw (by omega) _)
          exact .refl _
      · have e : cutE bs = begE bs := by unfold cutE; rw [if_neg hB]
        have bE : begE bs ≤ 5 := by unfold begE; repeat' split
                                    all_goals omega
        rw [e]
        simp -dsimp (discharger := omega) [B28]
        with_reducible refine call_ret (begin_ret hr2 (by omega) (by omega)) ?_
        simp -dsimp (discharger := omega) [hB, aFill, hd0]
        repeat (refine HSub.new ?_ hw (by omega) _)
        exact .refl _
end
end Go.Proofs.YtiemkafpijhlmaaDoor.Am
namespace Go.Proofs.YtiemkafpijhlmaaDoor.Am
noncomputable section
/- CONTRACTS: a head cut; nothing is wrong. -/
theorem and_bit {w i : Nat} (hw : w < 65536) (hi : i < 16) : andI .u16 (w : Int) ((2 ^ i : Nat) : Int) = (((if w / 2 ^ i % 2 = 1 then 2 ^ i else 0) : Nat) : Int) := by
  have hp : 2 ^ i < 2 ^ 16 := Nat.pow_lt_pow_right (by omega) hi
  rw [andN (k := .u16) rfl hw hp]
  congr 1
  have hb := Nat.testBit_eq_decide_div_mod_eq (x := w) (i := i)
  apply Nat.eq_of_testBit_eq
  intro j
  rw [Nat.testBit_and, Nat.testBit_two_pow]
  by_cases c : w / 2 ^ i % 2 = 1
  · rw [if_pos c, Nat.testBit_two_pow]
    rw [decide_eq_true c] at hb
    by_cases e : i = j
    · subst e; rw [hb, Bool.true_and]
    · rw [decide_eq_false e, Bool.and_false]
  · rw [if_neg c, Nat.zero_testBit]
    rw [decide_eq_false c] at hb
    by_cases e : i = j
    · subst e; rw [hb, Bool.false_and]
    · rw [decide_eq_false e, Bool.and_false]
theorem flag_ret {w i : Nat} (hw : w < 65536) (hi : i < 16) {x : Int} (hx : x = ((2 ^ i : Nat) : Int)) {h : AHeap} {p : Nat} (hp : h.get p = some (Blk.cells (some 44) [.int .u16 (w : Int)] 1)) {n : Nat} (hn : p < n) : Ret EV06 49 [.int .u16 x, .pointer (some ⟨p, 0, some 1⟩)] h n (.bool (decide (w / 2 ^ i % 2 = 1))) [] n := by
  refine rsx49 (by simp) (by simp) ?_
  have hpos : 0 < 2 ^ i := Nat.pos_of_ne_zero (by simp)
  rw [hx]
  have ha := and_bit hw hi
  by_cases c : w / 2 ^ i % 2 = 1
  · rw [if_pos c] at ha
    generalize 2 ^ i = P at *
    have h0 : ¬ P = 0 := by omega
    simp -dsimp (discharger := omega) [B49, AHeap.read_of hp, ha, c]
    exact .refl _
  · rw [if_neg c] at ha
    generalize 2 ^ i = P at *
    simp -dsimp (discharger := omega) [B49, AHeap.read_of hp, ha, c]
    exact .refl _
set_option maxHeartbeats 4000000 in
theorem cut_ok {bs : List UInt8} {v : Value} {h : AHeap} (hb : BS h v bs) (hl : bs.length < 100000) (hok : cutE bs = 0) {n : Nat} (hw : WF h n) :
    Ret EV06 28 [v] h n (.tuple #[hdV (hdOf bs) (.slice (some ⟨n + 2, 0, some (optsOf bs).length⟩) (optsOf bs).length 2), .slice (some ⟨n + 3, 0, some (bodyOf bs).length⟩) (bodyOf bs).length 2, .int .i64 0]) [(n + 2, bufB (optsOf bs) 0), (n + 3, bufB (bodyOf bs) 0)] (n + 4) := by
  have hB : begE bs = 0 := by
    by_cases hB : begE bs = 0
    · exact hB
    · exfalso; unfold cutE at hok; rw [if_neg hB] at hok; exact hB hok
  have hs : sumN (bs.take (hlN bs)) = 0 := by
    by_cases hs : sumN (bs.take (hlN bs)) = 0
    · exact hs
    · exfalso; unfold cutE at hok; rw [if_pos hB, if_neg hs] at hok; cases hok
  have hO : optB (optsOf bs) = true := by
    cases hO : optB (optsOf bs) with
    | true => rfl
    | false => exfalso; unfold cutE at hok; rw [if_pos hB, if_pos hs, if_neg (by rw [hO]; decide)] at hok; cases hok
  obtain ⟨b1, b2, b3, b4, b5⟩ := beg_ok hB
  have h60 := hlN_le bs
  cases hb with
  | nil => simp at b1
  | @mk i o g k _ hr =>
    refine rsx28 (by simp) (by simp) ?_
    have hi := read_lt hw hr
    have hsub : HSub h (h.put n (.cells (some 47) [.int .u8 0, .int .u8 0, .int .u8 0, .int .u16 0, .bool false, .bool false, .bool false, .int .i64 0, .int .u32 0, .int .u32 0, .slice none 0 0] 11)) := HSub.new (.refl _) hw (by omega) _
    have hr2 := read_mono hsub hr
    have rsm := bs_sub hr2 (Nat.zero_le (hlN bs)) b3
    have rop := bs_sub hr2 b2 b3
    simp only [Nat.add_zero, Nat.sub_zero, List.drop_zero] at rsm
    have lsm : (bs.take (hlN bs)).length = hlN bs := by rw [List.length_take]; omega
    have lop : (optsOf bs).length = hlN bs - 20 := by rw [optsOf, List.length_drop, lsm]
    have hbd := read_bd hr
    have hwd : ∀ {H : AHeap} {j m kk nn : Nat}, H.read i g o bs.length = some (u8s bs) → j + 1 < bs.length → 2 ≤ m → Ret EV06 47 [.slice (some ⟨i, o + j, some g⟩) m kk] H nn (.int .u16 ((wN bs j : Nat) : Int)) [] nn := fun {H j m kk nn} hr hj hm => word_ret (at_read hr (by omega)) (by rw [Nat.add_assoc]; exact at_read hr hj) hm
    have had : ∀ {H : AHeap} {j m kk nn : Nat}, H.read i g o bs.length = some (u8s bs) → j + 3 < bs.length → 4 ≤ m → o + j + m ≤ g → Ret EV06 50 [.slice (some ⟨i, o + j, some g⟩) m kk] H nn (.int .u32 ((65536 * wN bs j + wN bs (j + 2) : Nat) : Int)) [] nn := fun {H j m kk nn} hr hj hm hmg => address_ret (at_read hr (by omega)) (by rw [Nat.add_assoc]; exact at_read hr (by omega)) (by rw [Nat.add_assoc]; exact at_read hr (by omega)) (by rw [Nat.add_assoc, Nat.add_assoc]; exact at_read hr (by omega)) hm hmg
    simp -dsimp (discharger := omega) [B28, -wR28_0, -wR28_1]
    with_reducible refine call_ret (begin_ret hr2 (by omega) (by omega)) ?_
    simp -dsimp (discharger := omega) [hB, -wR28_0, -wR28_1]
    with_reducible refine call_ret (sum_ret (bs := bs.take (hlN bs)) (by omega) (bs_at lsm rsm)) ?_
    simp -dsimp (discharger := omega) [hs, -wR28_0, -wR28_1]
    with_reducible refine call_ret (options_ret (bs := optsOf bs) (by omega) (bs_at lop rop)) ?_
    simp -dsimp (discharger := omega) [hO, -wR28_0, -wR28_1]
    with_reducible refine call_ret (hwd hr2 (by omega) (by omega)) ?_
    simp -dsimp (discharger := omega) [-wR28_0, -wR28_1]
    have hr4 : ∀ {A B C : Blk}, (((h.put n A).put (n + 1) B).put (n + 1) C).read i g o bs.length = some (u8s bs) := fun {A B C} => by
      refine read_mono ?_ hr
      repeat (refine HSub.new ?_ hw (by omega) _)
      exact .refl _
    generalize hH : ((h.put n (Blk.cells (some 47) [.int .u8 0, .int .u8 0, .int .u8 0, .int .u16 0, .bool false, .bool false, .bool false, .int .i64 0, .int .u32 0, .int .u32 0, .slice none 0 0] 11)).put (n + 1) (Blk.cells (some 44) [.int .u16 0] 1)).put (n + 1) (Blk.cells (some 44) [.int .u16 ((wN bs 6 : Nat) : Int)] 1) = H at *
    have gx : H.get n = some (Blk.cells (some 47) [.int .u8 0, .int .u8 0, .int .u8 0, .int .u16 0, .bool false, .bool false, .bool false, .int .i64 0, .int .u32 0, .int .u32 0, .slice none 0 0] 11) := by rw [← hH]; simp
    have gw : H.get (n + 1) = some (Blk.cells (some 44) [.int .u16 ((wN bs 6 : Nat) : Int)] 1) := by rw [← hH, AHeap.get_put_same]
    have hrH : H.read i g o bs.length = some (u8s bs) := by rw [← hH]; exact hr4
    have hsH : HSub h H := by
      rw [← hH]
      repeat (refine HSub.new ?_ hw (by omega) _)
      exact .refl _
    have hwH : WF H (n + 2) := by rw [← hH]; exact .of fun j hj => by simp (discharger := omega) [hw.none (i := j) (by omega)]
    clear hH hr4
    have a1 := at_read hrH (j := 1) (by omega)
    have a8 := at_read hrH (j := 8) (by omega)
    have a9 := at_read hrH (j := 9) (by omega)
    simp -dsimp (discharger := omega) [a1, a8, a9, -wR28_1]
    have hwl := wN_lt bs 6
    have f15 : ∀ {nn : Nat}, n + 1 < nn → Ret EV06 49 [.int .u16 32768, .pointer (some ⟨n + 1, 0, some 1⟩)] H nn (.bool (decide (wN bs 6 / 2 ^ 15 % 2 = 1))) [] nn := fun {nn} hn => flag_ret (i := 15) hwl (by omega) rfl gw hn
    have f14 : ∀ {nn : Nat}, n + 1 < nn → Ret EV06 49 [.int .u16 16384, .pointer (some ⟨n + 1, 0, some 1⟩)] H nn (.bool (decide (wN bs 6 / 2 ^ 14 % 2 = 1))) [] nn := fun {nn} hn => flag_ret (i := 14) hwl (by omega) rfl gw hn
    have f13 : ∀ {nn : Nat}, n + 1 < nn → Ret EV06 49 [.int .u16 8192, .pointer (some ⟨n + 1, 0, some 1⟩)] H nn (.bool (decide (wN bs 6 / 2 ^ 13 % 2 = 1))) [] nn := fun {nn} hn => flag_ret (i := 13) hwl (by omega) rfl gw hn
    have e15 : decide (wN bs 6 / 2 ^ 15 % 2 = 1) = (hdOf bs).evil := by
      rw [Bool.eq_iff_iff]; simp only [decide_eq_true_eq, hdOf]; omega
    have e14 : decide (wN bs 6 / 2 ^ 14 % 2 = 1) = (hdOf bs).df := rfl
    have e13 : decide (wN bs 6 / 2 ^ 13 % 2 = 1) = (hdOf bs).more := rfl
    rw [e15] at f15
    rw [e14] at f14
    rw [e13] at f13
    have hmask : andI .u16 ((wN bs 6 : Nat) : Int) 8191 = ((wN bs 6 % 8192 : Nat) : Int) := by
      have := andN (k := .u16) rfl (x := wN bs 6) (y := 8191) hwl (by decide)
      rw [show (8191 : Nat) = 2 ^ 13 - 1 from rfl, Nat.and_two_pow_sub_one_eq_mod] at this
      exact this
    with_reducible refine ret_ret (hwd hrH (by omega) (by omega)) ?_
    simp -dsimp (discharger := omega) [-wR28_1]
    with_reducible refine ret_ret (f15 (by omega)) ?_
    simp -dsimp (discharger := omega) [-wR28_1]
    with_reducible refine ret_ret (f14 (by omega)) ?_
    simp -dsimp (discharger := omega) [-wR28_1]
    with_reducible refine ret_ret (f13 (by omega)) ?_
    simp -dsimp (discharger := omega) [AHeap.read_of gw, hmask, -wR28_1]
    with_reducible refine ret_ret (had hrH (by omega) (by omega) (by omega)) ?_
    simp -dsimp (discharger := omega) [-wR28_1]
    with_reducible refine ret_ret (had hrH (by omega) (by omega) (by omega)) ?_
    simp -dsimp (discharger := omega) [aFill, gx, -wR28_1]
    have hoff : ((wN bs 6 : Nat) : Int) % 8192 = (hdOf bs).off := by show _ = ((wN bs 6 % 8192 : Nat) : Int); omega
    have hsr : (65536 : Int) * ((wN bs 12 : Nat) : Int) + ((wN bs 14 : Nat) : Int) = (((hdOf bs).src : Nat) : Int) := by show _ = ((65536 * wN bs 12 + wN bs 14 : Nat) : Int); omega
    have hds : (65536 : Int) * ((wN bs 16 : Nat) : Int) + ((wN bs 18 : Nat) : Int) = (((hdOf bs).dst : Nat) : Int) := by show _ = ((65536 * wN bs 16 + wN bs 18 : Nat) : Int); omega
    have ht1 : (atB bs 1).toNat = (hdOf bs).tos := rfl
    have ht2 : (atB bs 8).toNat = (hdOf bs).ttl := rfl
    have ht3 : (atB bs 9).toNat = (hdOf bs).proto := rfl
    have ht4 : wN bs 4 = (hdOf bs).id := rfl
    rw [hoff, hsr, hds, ht1, ht2, ht3, ht4]
    clear hoff hsr hds ht1 ht2 ht3 ht4 e15 f15 f14 f13
    obtain ⟨M, hM1, hM2, hM3, eM, hbody⟩ : ∃ M, M ≤ bs.length ∧ hlN bs ≤ M ∧ M < 65536 ∧ (if bs.length < wN bs 2 then (bs.length : Int) else ((wN bs 2 : Nat) : Int)) = (M : Int) ∧ bodyOf bs = (bs.take M).drop (hlN bs) := by
      have := wN_lt bs 2
      by_cases c : bs.length < wN bs 2
      · exact ⟨bs.length, by omega, by omega, by omega, by rw [if_pos (by omega)], by rw [bodyOf, Nat.min_eq_right (by omega)]⟩
      · exact ⟨wN bs 2, by omega, by omega, by omega, by rw [if_neg (by omega)], by rw [bodyOf, Nat.min_eq_left (by omega)]⟩
    have lbody : (bodyOf bs).length = M - hlN bs := by rw [hbody, List.length_drop, List.length_take]; omega
    generalize hdOf bs = t at *
    have ropH := bs_sub hrH b2 b3
    have rbdH := bs_sub hrH hM2 hM1
    rw [← hbody] at rbdH
    have rop3 : ∀ {B : Blk}, (H.put n B).read i g (o + 20) (hlN bs - 20) = some (u8s (optsOf bs)) := fun {B} => by rw [AHeap.read_put, if_neg (by omega)]; exact ropH
    refine ⟨by omega, ?_⟩
    with_reducible refine call_ret (bclone_ret lop rop3 (.of fun j hj => by simp (discharger := omega) [hwH.none (i := j) (by omega)]) (by omega)) ?_
    simp -dsimp (discharger := omega) []
    have rr4 : ∀ {A B C : Blk} {oo mm : Nat} {l : List Value}, H.read i g oo mm = some l → (((H.put n A).put (n + 1 + 1) B).put n C).read i g oo mm = some l := fun {A B C oo mm l} e => by
      rw [AHeap.read_put, if_neg (by omega), AHeap.read_put, if_neg (by omega), AHeap.read_put, if_neg (by omega)]; exact e
    with_reducible refine ret_ret (hwd (rr4 hrH) (by omega) (by omega)) ?_
    have hw2l := wN_lt bs 2
    simp -dsimp (discharger := omega) [eM]
    with_reducible refine ret_ret (bclone_ret lbody (rr4 rbdH) (.of fun j hj => by simp (discharger := omega) [hwH.none (i := j) (by omega)]) (by omega)) ?_
    simp -dsimp (discharger := omega) []
    refine ⟨by omega, by omega, ⟨lop.symm, lbody.symm⟩, fun q B hq => ?_⟩
    rw [AHeap.get_put, AHeap.get_put] at hq
    by_cases e3 : n + 3 = q
    · subst e3
      rw [if_pos rfl] at hq
      rw [AHeap.get_put_ne _ _ (by omega), AHeap.get_put_same]; exact hq
    · rw [if_neg e3] at hq
      by_cases e2 : n + 2 = q
      · subst e2
        rw [if_pos rfl] at hq
        rw [AHeap.get_put_ne _ _ (by omega), AHeap.get_put_ne _ _ (by omega), AHeap.get_put_ne _ _ (by omega), AHeap.get_put_same]; exact hq
      · rw [if_neg e2] at hq
        have hlt := hw.lt hq
        rw [AHeap.get_put_ne _ _ (by omega), AHeap.get_put_ne _ _ (by omega), AHeap.get_put_ne _ _ (by omega), AHeap.get_put_ne _ _ (by omega), AHeap.get_put_ne _ _ (by omega)]
        exact hsH q B hq
end
end Go.Proofs.YtiemkafpijhlmaaDoor.Am
