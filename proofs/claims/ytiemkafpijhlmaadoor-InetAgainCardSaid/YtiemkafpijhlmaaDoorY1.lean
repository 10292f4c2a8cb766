/- Contracts of the program's functions (Y1). -/
import Derived.Test.YtiemkafpijhlmaaDoorX2
import Derived.Test.YtiemkafpijhlmaaDoorX4
namespace Go.Proofs.YtiemkafpijhlmaaDoor.Am
noncomputable section
/- PLAIN LAWS: what is laid is cut again. -/
theorem sumT_two (a b : UInt8) (l : List UInt8) : sumT (a :: b :: l) = w2 a b + sumT l := by simp [sumT, w2]
theorem sumT_app : ∀ {p : List UInt8} (l : List UInt8), p.length % 2 = 0 → sumT (p ++ l) = sumT p + sumT l
  | [], l, _ => by simp [sumT]
  | [a], l, h => by simp at h
  | a :: b :: p, l, h => by
    have ih := sumT_app (p := p) l (by simp only [List.length_cons] at h; omega)
    simp only [List.cons_append, sumT, ih]; omega
theorem w2_two {w : Nat} (hw : w < 65536) : w2 (UInt8.ofNat (w / 256)) (UInt8.ofNat (w % 256)) = w := by
  unfold w2
  rw [UInt8.toNat_ofNat', UInt8.toNat_ofNat', Nat.mod_eq_of_lt (by omega), Nat.mod_eq_of_lt (by omega)]; omega
theorem sumT_twoL {w : Nat} (hw : w < 65536) (l : List UInt8) : sumT (twoL w ++ l) = w + sumT l := by
  show sumT (UInt8.ofNat (w / 256) :: UInt8.ofNat (w % 256) :: l) = _
  rw [sumT_two, w2_two hw]
theorem fold_pos {s : Nat} (h : 0 < s) : 0 < fold s := by unfold fold; rw [if_neg (by omega)]; omega
/-- The sum of what is summed is 0. -/
theorem sum_zero {P R : List UInt8} (hP : P.length % 2 = 0) : sumN (P ++ twoL (sumN (P ++ twoL 0 ++ R)) ++ R) = 0 := by
  have e0 : sumT (P ++ twoL 0 ++ R) = sumT P + sumT R := by
    rw [List.append_assoc, sumT_app _ hP, sumT_twoL (by omega)]; omega
  have hl := sumN_lt (P ++ twoL 0 ++ R)
  have e1 : sumT (P ++ twoL (sumN (P ++ twoL 0 ++ R)) ++ R) = sumT P + sumT R + sumN (P ++ twoL 0 ++ R) := by
    rw [List.append_assoc, sumT_app _ hP, sumT_twoL hl]; omega
  have hf := fold_le (sumT P + sumT R)
  have hs : sumN (P ++ twoL 0 ++ R) = 65535 - fold (sumT P + sumT R) := by rw [sumN, e0]
  rw [sumN, e1, hs, fold_add (by omega), if_neg (by omega)]; omega
theorem atB_app {p : List UInt8} (l : List UInt8) {i : Nat} (h : i < p.length) : atB (p ++ l) i = atB p i := by
  unfold atB
  rw [List.getD_eq_getElem?_getD, List.getD_eq_getElem?_getD, List.getElem?_append_left h]
theorem wN_app {p : List UInt8} (l : List UInt8) {i : Nat} (h : i + 1 < p.length) : wN (p ++ l) i = wN p i := by
  unfold wN
  rw [atB_app l (by omega), atB_app l h]
/-- A head that may be laid. -/
structure MayBe (t : HdN) (os : List UInt8) (m : Nat) : Prop where
  ok : t.ok
  bad : putBad t os m = false
  all : 20 + os.length + m < 65536
theorem MayBe.out {t : HdN} {os : List UInt8} {m : Nat} (x : MayBe t os m) : 0 ≤ t.off ∧ t.off < 8192 ∧ optB os = true ∧ fitsB t m = true ∧ os.length ≤ 40 ∧ os.length % 4 = 0 := by
  have h := x.bad
  simp only [putBad, Bool.or_eq_false_iff, decide_eq_false_iff_not, Bool.not_eq_false'] at h
  obtain ⟨⟨⟨c1, c2⟩, c3⟩, c4⟩ := h
  have c5 := c3
  unfold optB at c5
  simp only [Bool.and_eq_true, decide_eq_true_eq] at c5
  exact ⟨by omega, by omega, c3, c4, c5.1.1, c5.1.2⟩
def headW (t : HdN) (os : List UInt8) (m : Nat) : Nat := sumN (preH t os m ++ twoL 0 ++ postH t os)
theorem head_list (t : HdN) (os : List UInt8) (m : Nat) : headL t os m = UInt8.ofNat (64 + (20 + os.length) / 4) :: UInt8.ofNat t.tos :: UInt8.ofNat ((20 + os.length + m) / 256) :: UInt8.ofNat ((20 + os.length + m) % 256) :: UInt8.ofNat (t.id / 256) :: UInt8.ofNat (t.id % 256) :: UInt8.ofNat (bitsN t / 256) :: UInt8.ofNat (bitsN t % 256) :: UInt8.ofNat t.ttl :: UInt8.ofNat t.proto :: UInt8.ofNat (headW t os m / 256) :: UInt8.ofNat (headW t os m % 256) :: UInt8.ofNat (t.src / 65536 / 256) :: UInt8.ofNat (t.src / 65536 % 256) :: UInt8.ofNat (t.src % 65536 / 256) :: UInt8.ofNat (t.src % 65536 % 256) :: UInt8.ofNat (t.dst / 65536 / 256) :: UInt8.ofNat (t.dst / 65536 % 256) :: UInt8.ofNat (t.dst % 65536 / 256) :: UInt8.ofNat (t.dst % 65536 % 256) :: os := rfl
theorem by8n {x : Nat} (h : x < 256) : (UInt8.ofNat x).toNat = x := by rw [UInt8.toNat_ofNat', Nat.mod_eq_of_lt h]
set_option maxRecDepth 20000 in
theorem bits_off {t : HdN} (h0 : 0 ≤ t.off) (h1 : t.off < 8192) : ((bitsN t % 8192 : Nat) : Int) = t.off ∧ decide (32768 ≤ bitsN t) = t.evil ∧ decide (bitsN t / 16384 % 2 = 1) = t.df ∧ decide (bitsN t / 8192 % 2 = 1) = t.more := by
  obtain ⟨x, hx, hxl⟩ : ∃ x : Nat, t.off = (x : Int) ∧ x < 8192 := ⟨t.off.toNat, by omega, by omega⟩
  unfold bitsN
  rw [hx]
  simp only [Int.toNat_natCast]
  cases t.evil <;> cases t.df <;> cases t.more <;> simp <;> omega
theorem head_w {t : HdN} {os : List UInt8} {m : Nat} (x : MayBe t os m) (l : List UInt8) : hlN (headL t os m ++ l) = 20 + os.length ∧ wN (headL t os m ++ l) 2 = 20 + os.length + m ∧ hdOf (headL t os m ++ l) = t ∧ (atB (headL t os m ++ l) 0).toNat / 16 = 4 := by
  obtain ⟨h0, h1, h2, h3, h4, h5⟩ := x.out
  have hk := x.ok
  have ha := x.all
  have hbn := bitsN_lt t h1
  obtain ⟨b1, b2, b3, b4⟩ := bits_off h0 h1
  have e0 : (UInt8.ofNat (64 + (20 + os.length) / 4)).toNat = 64 + (20 + os.length) / 4 := by8n (by omega)
  rw [head_list]
  refine ⟨?_, w2_two ha, ?_, ?_⟩
  · show 4 * ((UInt8.ofNat (64 + (20 + os.length) / 4)).toNat % 16) = _
    rw [e0]; omega
  · show (⟨(UInt8.ofNat t.tos).toNat, (UInt8.ofNat t.ttl).toNat, (UInt8.ofNat t.proto).toNat, w2 (UInt8.ofNat (t.id / 256)) (UInt8.ofNat (t.id % 256)), decide (32768 ≤ w2 (UInt8.ofNat (bitsN t / 256)) (UInt8.ofNat (bitsN t % 256))), decide (w2 (UInt8.ofNat (bitsN t / 256)) (UInt8.ofNat (bitsN t % 256)) / 16384 % 2 = 1), decide (w2 (UInt8.ofNat (bitsN t / 256)) (UInt8.ofNat (bitsN t % 256)) / 8192 % 2 = 1), ((w2 (UInt8.ofNat (bitsN t / 256)) (UInt8.ofNat (bitsN t % 256)) % 8192 : Nat) : Int), 65536 * w2 (UInt8.ofNat (t.src / 65536 / 256)) (UInt8.ofNat (t.src / 65536 % 256)) + w2 (UInt8.ofNat (t.src % 65536 / 256)) (UInt8.ofNat (t.src % 65536 % 256)), 65536 * w2 (UInt8.ofNat (t.dst / 65536 / 256)) (UInt8.ofNat (t.dst / 65536 % 256)) + w2 (UInt8.ofNat (t.dst % 65536 / 256)) (UInt8.ofNat (t.dst % 65536 % 256))⟩ : HdN) = t
    have k7 := hk.h7
    have k8 := hk.h8
    rw [w2_two hbn, w2_two hk.h4, w2_two (by omega), w2_two (by omega), w2_two (by omega), w2_two (by omega), b1, b2, b3, b4, by8n hk.h1, by8n hk.h2, by8n hk.h3, show 65536 * (t.src / 65536) + t.src % 65536 = t.src by omega, show 65536 * (t.dst / 65536) + t.dst % 65536 = t.dst by omega]
  · show (UInt8.ofNat (64 + (20 + os.length) / 4)).toNat / 16 = 4
    rw [e0]; omega
theorem head_cut {t : HdN} {os : List UInt8} {m : Nat} (x : MayBe t os m) (l : List UInt8) : cutE (headL t os m ++ l) = 0 ∧ optsOf (headL t os m ++ l) = os ∧ bodyOf (headL t os m ++ l) = l.take m := by
  obtain ⟨w1, w2', w3, w4⟩ := head_w x l
  obtain ⟨h0, h1, h2, h3, h4, h5⟩ := x.out
  have hl := headL_len t os m
  have hB : begE (headL t os m ++ l) = 0 := by
    unfold begE
    rw [List.length_append, w1, w2', hl, if_neg (by omega), if_neg (by omega), if_neg (by omega), if_neg (by omega)]
  have ht : (headL t os m ++ l).take (20 + os.length) = headL t os m := List.take_left' hl
  have ho : optsOf (headL t os m ++ l) = os := by rw [optsOf, w1, ht, head_list]; rfl
  have hS : sumN (headL t os m) = 0 := sum_zero (P := preH t os m) (R := postH t os) (by rw [preH_len])
  refine ⟨?_, ho, ?_⟩
  · unfold cutE
    rw [if_pos hB, w1, ht, if_pos hS, ho, if_pos h2]
  · rw [bodyOf, w1, w2', List.length_append, hl, List.take_append, hl, List.drop_append, List.take_of_length_le (by rw [hl]; omega), List.drop_of_length_le (by rw [hl]; omega), hl, List.nil_append, Nat.sub_self, List.drop_zero]
    by_cases c : m ≤ l.length
    · rw [show min (20 + os.length + m) (20 + os.length + l.length) - (20 + os.length) = m by omega]
    · rw [show min (20 + os.length + m) (20 + os.length + l.length) - (20 + os.length) = l.length by omega, List.take_length, List.take_of_length_le (by omega)]
theorem head_short {t : HdN} {os : List UInt8} {m : Nat} (x : MayBe t os m) {k : Nat} (hk : k < 20 + os.length) : cutE ((headL t os m).take k) = 4 := by
  have hl := headL_len t os m
  have hlen : ((headL t os m).take k).length = k := by rw [List.length_take]; omega
  have hB : begE ((headL t os m).take k) = 4 := by
    by_cases c : k < 20
    · unfold begE; rw [hlen, if_pos c]
    · obtain ⟨w1, w2', w3, w4⟩ := head_w x []
      rw [List.append_nil] at w1 w2' w3 w4
      have e0 : atB ((headL t os m).take k) 0 = atB (headL t os m) 0 := by
        have := atB_app (p := (headL t os m).take k) ((headL t os m).drop k) (i := 0) (by omega)
        rw [List.take_append_drop] at this; exact this.symm
      have e1 : hlN ((headL t os m).take k) = hlN (headL t os m) := by unfold hlN; rw [e0]
      unfold begE
      rw [hlen, if_neg c, e0, e1, w1, if_neg (by omega), if_pos hk]
  unfold cutE
  rw [if_neg (by rw [hB]; decide), hB]
theorem get_whole {t : HdN} {os bs be : List UInt8} (x : MayBe t os bs.length) : getE (putL t os bs ++ be) = 0 ∧ hdOf (putL t os bs ++ be) = t ∧ optsOf (putL t os bs ++ be) = os ∧ bodyOf (putL t os bs ++ be) = bs := by
  have e : putL t os bs ++ be = headL t os bs.length ++ (bs ++ be) := by rw [putL, List.append_assoc]
  rw [e]
  obtain ⟨w1, w2', w3, w4⟩ := head_w x (bs ++ be)
  obtain ⟨c1, c2, c3⟩ := head_cut x (bs ++ be)
  rw [List.take_left] at c3
  have hl := headL_len t os bs.length
  obtain ⟨_, _, _, h3, _, _⟩ := x.out
  refine ⟨?_, w3, c2, c3⟩
  unfold getE
  rw [if_pos c1, w2', w3, c3, List.length_append, hl, List.length_append, if_neg (by omega), if_pos h3]
theorem get_part {t : HdN} {os bs : List UInt8} (x : MayBe t os bs.length) {k : Nat} (hk : k < 20 + os.length + bs.length) : getE ((putL t os bs).take k) = 4 := by
  have hl := headL_len t os bs.length
  by_cases c : k < 20 + os.length
  · have e : (putL t os bs).take k = (headL t os bs.length).take k := by rw [putL, List.take_append_of_le_length (by omega)]
    rw [e, getE, head_short x c]; rfl
  · have e : (putL t os bs).take k = headL t os bs.length ++ bs.take (k - (20 + os.length)) := by
      rw [putL, List.take_append, List.take_of_length_le (by omega), hl]
    rw [e]
    obtain ⟨w1, w2', w3, w4⟩ := head_w x (bs.take (k - (20 + os.length)))
    obtain ⟨c1, c2, c3⟩ := head_cut x (bs.take (k - (20 + os.length)))
    unfold getE
    rw [if_pos c1, w2', List.length_append, hl, List.length_take, if_pos (by omega)]
theorem cut_part {t : HdN} {os bs : List UInt8} (x : MayBe t os bs.length) {k : Nat} (h1 : 20 + os.length ≤ k) (hk : k < 20 + os.length + bs.length) : cutE ((putL t os bs).take k) = 0 ∧ hdOf ((putL t os bs).take k) = t ∧ optsOf ((putL t os bs).take k) = os ∧ bodyOf ((putL t os bs).take k) = bs.take (k - (20 + os.length)) := by
  have hl := headL_len t os bs.length
  have e : (putL t os bs).take k = headL t os bs.length ++ bs.take (k - (20 + os.length)) := by
    rw [putL, List.take_append, List.take_of_length_le (by omega), hl]
  rw [e]
  obtain ⟨w1, w2', w3, w4⟩ := head_w x (bs.take (k - (20 + os.length)))
  obtain ⟨c1, c2, c3⟩ := head_cut x (bs.take (k - (20 + os.length)))
  refine ⟨c1, w3, c2, ?_⟩
  rw [c3, List.take_take]
  congr 1; omega
theorem cut_short {t : HdN} {os bs : List UInt8} (x : MayBe t os bs.length) {k : Nat} (hk : k < 20 + os.length) : cutE ((putL t os bs).take k) = 4 := by
  have hl := headL_len t os bs.length
  rw [show (putL t os bs).take k = (headL t os bs.length).take k by rw [putL, List.take_append_of_le_length (by omega)]]
  exact head_short x hk
end
end Go.Proofs.YtiemkafpijhlmaaDoor.Am
namespace Go.Proofs.YtiemkafpijhlmaaDoor.Am
noncomputable section
/- CONTRACTS: heads that are the same; what is got, cut and read, right or wrong. -/
set_option maxRecDepth 20000 in
set_option maxHeartbeats 4000000 in
theorem same_ret {t : HdN} {v1 v2 : Value} {os : List UInt8} {h : AHeap} {n : Nat} (h1 : BS h v1 os) (h2 : BS h v2 os) (hw : WF h n) : Ret EV06 30 [hdV t v1, hdV t v2] h n (.bool true) [] (n + 2) := by
  have hb0 : bytesOf? [] = some [] := rfl
  cases h1 with
  | nil => cases h2 with
    | nil =>
      refine rsx30 (by simp) (by simp) ?_
      simp -dsimp (discharger := omega) [B30]
      repeat (refine HSub.new ?_ hw (by omega) _)
      exact .refl _
    | @mk i o w k _ hr =>
      refine rsx30 (by simp) (by simp) ?_
      try simp only [List.length_nil] at hr
      have ihr := read_lt hw hr
      simp -dsimp (discharger := omega) [B30, hb0, hr]
      repeat (refine HSub.new ?_ hw (by omega) _)
      exact .refl _
  | @mk i o w k _ hr => cases h2 with
    | nil =>
      refine rsx30 (by simp) (by simp) ?_
      try simp only [List.length_nil] at hr
      have ihr := read_lt hw hr
      simp -dsimp (discharger := omega) [B30, hb0, hr]
      repeat (refine HSub.new ?_ hw (by omega) _)
      exact .refl _
    | @mk i2 o2 w2 k2 _ hr2 =>
      refine rsx30 (by simp) (by simp) ?_
      try simp only [List.length_nil] at hr hr2
      have ihr := read_lt hw hr
      have ihr2 := read_lt hw hr2
      simp -dsimp (discharger := omega) [B30, hr, hr2]
      repeat (refine HSub.new ?_ hw (by omega) _)
      exact .refl _
def getT (bs : List UInt8) : HdN := if getE bs = 0 then hdOf bs else hd0
def getO (bs : List UInt8) : List UInt8 := if getE bs = 0 then optsOf bs else []
def getY (bs : List UInt8) : List UInt8 := if getE bs = 0 then bodyOf bs else []
theorem get_call {bs : List UInt8} {v : Value} {h : AHeap} (hb : BS h v bs) (hl : bs.length < 100000) {n : Nat} (hw : WF h n) {K : Value → AHeap → Nat → Prop} {tk : Tok K}
    (hK : ∀ (a a2 : Option Addr) (k k2 : Nat) (H : AHeap) (m : Nat), (∀ X : AHeap, (∀ i b, n ≤ i → H.get i = some b → X.get i = some b) → BS X (.slice a (getO bs).length k) (getO bs)) → (∀ X : AHeap, (∀ i b, n ≤ i → H.get i = some b → X.get i = some b) → BS X (.slice a2 (getY bs).length k2) (getY bs)) → HSub h H → WF H m → n ≤ m → m ≤ n + 10 → K (.tuple #[hdV (getT bs) (.slice a (getO bs).length k), .slice a2 (getY bs).length k2, .int .i64 (getE bs : Int)]) H m) : HasCallT EV06 27 [v] h n K tk := by
  by_cases c : getE bs = 0
  · have e1 : getT bs = hdOf bs := by rw [getT, if_pos c]
    have e2 : getO bs = optsOf bs := by rw [getO, if_pos c]
    have e3 : getY bs = bodyOf bs := by rw [getY, if_pos c]
    rw [e1, e2, e3, c] at hK
    refine call_ret ((get_ret hb hl hw).2 c) (hK _ _ _ _ _ _ (fun X hX => bs_new (m := 0) (hX _ _ (by omega) (by simp (discharger := omega))) (Nat.zero_le _)) (fun X hX => bs_new (m := 0) (hX _ _ (by omega) (by simp)) (Nat.zero_le _)) ?_ ?_ (by omega) (by omega))
    · simp only [putsL]
      repeat (refine HSub.new ?_ hw (by omega) _)
      exact .refl _
    · exact .of fun j hj => by simp (discharger := omega) [hw.none (i := j) (by omega)]
  · have e1 : getT bs = hd0 := by rw [getT, if_neg c]
    have e2 : getO bs = [] := by rw [getO, if_neg c]
    have e3 : getY bs = [] := by rw [getY, if_neg c]
    rw [e1, e2, e3] at hK
    exact call_ret ((get_ret hb hl hw).1 c) (hK _ _ _ _ _ _ (fun _ _ => .nil) (fun _ _ => .nil) (.refl _) (hw.mono (by omega)) (by omega) (by omega))
def cutT (bs : List UInt8) : HdN := if cutE bs = 0 then hdOf bs else hd0
def cutO (bs : List UInt8) : List UInt8 := if cutE bs = 0 then optsOf bs else []
def cutY (bs : List UInt8) : List UInt8 := if cutE bs = 0 then bodyOf bs else []
theorem cut_call {bs : List UInt8} {v : Value} {h : AHeap} (hb : BS h v bs) (hl : bs.length < 100000) {n : Nat} (hw : WF h n) {K : Value → AHeap → Nat → Prop} {tk : Tok K}
    (hK : ∀ (a a2 : Option Addr) (k k2 : Nat) (H : AHeap) (m : Nat), (∀ X : AHeap, (∀ i b, n ≤ i → H.get i = some b → X.get i = some b) → BS X (.slice a (cutO bs).length k) (cutO bs)) → (∀ X : AHeap, (∀ i b, n ≤ i → H.get i = some b → X.get i = some b) → BS X (.slice a2 (cutY bs).length k2) (cutY bs)) → HSub h H → WF H m → n ≤ m → m ≤ n + 10 → K (.tuple #[hdV (cutT bs) (.slice a (cutO bs).length k), .slice a2 (cutY bs).length k2, .int .i64 (cutE bs : Int)]) H m) : HasCallT EV06 28 [v] h n K tk := by
  by_cases c : cutE bs = 0
  · have e1 : cutT bs = hdOf bs := by rw [cutT, if_pos c]
    have e2 : cutO bs = optsOf bs := by rw [cutO, if_pos c]
    have e3 : cutY bs = bodyOf bs := by rw [cutY, if_pos c]
    rw [e1, e2, e3, c] at hK
    refine call_ret (cut_ok hb hl c hw) (hK _ _ _ _ _ _ (fun X hX => bs_new (m := 0) (hX _ _ (by omega) (by simp (discharger := omega))) (Nat.zero_le _)) (fun X hX => bs_new (m := 0) (hX _ _ (by omega) (by simp)) (Nat.zero_le _)) ?_ ?_ (by omega) (by omega))
    · simp only [putsL]
      repeat (refine HSub.new ?_ hw (by omega) _)
      exact .refl _
    · exact .of fun j hj => by simp (discharger := omega) [hw.none (i := j) (by omega)]
  · have e1 : cutT bs = hd0 := by rw [cutT, if_neg c]
    have e2 : cutO bs = [] := by rw [cutO, if_neg c]
    have e3 : cutY bs = [] := by rw [cutY, if_neg c]
    rw [e1, e2, e3] at hK
    exact call_ret (cut_bad hb hl c hw) (hK _ _ _ _ _ _ (fun _ _ => .nil) (fun _ _ => .nil) (.refl _) (hw.mono (by omega)) (by omega) (by omega))
theorem read_call {bs : List UInt8} {v : Value} {h : AHeap} (hb : BS h v bs) (hl : bs.length < 100000) (w : Bool) {n : Nat} (hw : WF h n) {K : Value → AHeap → Nat → Prop} {tk : Tok K}
    (hK : ∀ (a a2 : Option Addr) (k k2 : Nat), BS h (.slice a (if w then getO bs else cutO bs).length k) (if w then getO bs else cutO bs) → BS h (.slice a2 (if w then getY bs else cutY bs).length k2) (if w then getY bs else cutY bs) → K (.tuple #[hdV (if w then getT bs else cutT bs) (.slice a (if w then getO bs else cutO bs).length k), .slice a2 (if w then getY bs else cutY bs).length k2, .int .i64 ((if w then getE bs else cutE bs : Nat) : Int)]) h (n + 10)) : HasCallT EV06 29 [v, .bool w] h n K tk := by
  have eT : (if w then getT bs else cutT bs) = if readE w bs = 0 then hdOf bs else hd0 := by cases w <;> rfl
  have eO : (if w then getO bs else cutO bs) = if readE w bs = 0 then optsOf bs else [] := by cases w <;> rfl
  have eB : (if w then getY bs else cutY bs) = if readE w bs = 0 then bodyOf bs else [] := by cases w <;> rfl
  have eE : (if w then getE bs else cutE bs) = readE w bs := by cases w <;> rfl
  rw [eT, eO, eB, eE] at hK
  by_cases h20 : bs.length < 20
  · obtain ⟨e, hR⟩ := read_short hb h20 w hw
    rw [e] at hK
    rw [if_neg (by decide), if_neg (by decide), if_neg (by decide)] at hK
    exact call_ret hR (hK _ _ _ _ .nil .nil)
  · cases hb with
    | nil => simp at h20
    | @mk i o g k _ hr =>
      obtain ⟨hbad, hok⟩ := read_ret (k := k) hr (by omega) hl w hw
      by_cases c : readE w bs = 0
      · have hc : cutE bs = 0 := by
          cases w with
          | false => exact c
          | true =>
            have c : getE bs = 0 := c
            unfold getE at c
            by_cases hc : cutE bs = 0
            · exact hc
            · rw [if_neg hc] at c; exact absurd c hc
        obtain ⟨b1, b2, b3, b4, b5⟩ := beg_ok (cut_beg hc)
        have rop := bs_sub hr b2 b3
        have lsm : (bs.take (hlN bs)).length = hlN bs := by rw [List.length_take]; omega
        have lop : (optsOf bs).length = hlN bs - 20 := by rw [optsOf, List.length_drop, lsm]
        have rbd := bs_sub hr (a := hlN bs) (b := min (wN bs 2) bs.length) (by omega) (by omega)
        have lbd : (bodyOf bs).length = min (wN bs 2) bs.length - hlN bs := by rw [bodyOf, List.length_drop, List.length_take]; omega
        rw [c] at hK
        rw [if_pos rfl, if_pos rfl, if_pos rfl] at hK
        refine call_ret (hok c) (hK _ _ _ _ (bs_at rfl ?_) (bs_at rfl ?_))
        · rw [lop]; exact rop
        · rw [lbd]; exact rbd
      · rw [if_neg c, if_neg c, if_neg c] at hK
        exact call_ret (hbad c) (hK _ _ _ _ .nil .nil)
theorem read_callT {bs : List UInt8} {v : Value} {h : AHeap} (hb : BS h v bs) (hl : bs.length < 100000) {n : Nat} (hw : WF h n) {K : Value → AHeap → Nat → Prop} {tk : Tok K}
    (hK : ∀ (a a2 : Option Addr) (k k2 : Nat), BS h (.slice a (getO bs).length k) (getO bs) → BS h (.slice a2 (getY bs).length k2) (getY bs) → K (.tuple #[hdV (getT bs) (.slice a (getO bs).length k), .slice a2 (getY bs).length k2, .int .i64 ((getE bs : Nat) : Int)]) h (n + 10)) : HasCallT EV06 29 [v, .bool true] h n K tk := read_call hb hl true hw hK
theorem read_callF {bs : List UInt8} {v : Value} {h : AHeap} (hb : BS h v bs) (hl : bs.length < 100000) {n : Nat} (hw : WF h n) {K : Value → AHeap → Nat → Prop} {tk : Tok K}
    (hK : ∀ (a a2 : Option Addr) (k k2 : Nat), BS h (.slice a (cutO bs).length k) (cutO bs) → BS h (.slice a2 (cutY bs).length k2) (cutY bs) → K (.tuple #[hdV (cutT bs) (.slice a (cutO bs).length k), .slice a2 (cutY bs).length k2, .int .i64 ((cutE bs : Nat) : Int)]) h (n + 10)) : HasCallT EV06 29 [v, .bool false] h n K tk := read_call hb hl false hw hK
end
end Go.Proofs.YtiemkafpijhlmaaDoor.Am
