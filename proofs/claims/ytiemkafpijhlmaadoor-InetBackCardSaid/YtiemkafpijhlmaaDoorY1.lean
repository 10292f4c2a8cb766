/- Contracts of the program's functions (Y1). -/
import Derived.Test.YtiemkafpijhlmaaDoorX2
import Derived.Test.YtiemkafpijhlmaaDoorX4
namespace Go.Proofs.YtiemkafpijhlmaaDoor.Am
noncomputable section
/- PLAIN LAWS: what is laid is cut again. -/
theorem sumT_two (a b : UInt8) (l : List UInt8) : sumT (a :: b :: l) = w2 a b + sumT l := by simp [sumT, w2]
theorem sumT_app : ∀ {p : List UInt8} (l : List UInt8), p.length % 2 = 0 → sumT (p ++ l) = sumT p + sumT l
  | [], l, _ => by simp [sumT]
  | [a], l, h => by simp at h
  | a :: b :: p, l, h => by
    have ih := sumT_app (p := p) l (by simp only [List.length_cons] at h; omega)
    simp only [List.cons_append, sumT, ih]; omega
theorem w2_two {w : Nat} (hw : w < 65536) : w2 (UInt8.ofNat (w / 256)) (UInt8.ofNat (w % 256)) = w := by
  unfold w2
  rw [UInt8.toNat_ofNat', UInt8.toNat_ofNat', Nat.mod_eq_of_lt (by omega), Nat.mod_eq_of_lt (by omega)]; omega
theorem sumT_twoL {w : Nat} (hw : w < 65536) (l : List UInt8) : sumT (twoL w ++ l) = w + sumT l := by
  show sumT (UInt8.ofNat (w / 256) :: UInt8.ofNat (w % 256) :: l) = _
  rw [sumT_two, w2_two hw]
theorem fold_pos {s : Nat} (h : 0 < s) : 0 < fold s := by unfold fold; rw [if_neg (by omega)]; omega
/-- The sum of what is summed is 0. -/
theorem sum_zero {P R : List UInt8} (hP : P.length % 2 = 0) : sumN (P ++ twoL (sumN (P ++ twoL 0 ++ R)) ++ R) = 0 := by
  have e0 : sumT (P ++ twoL 0 ++ R) = sumT P + sumT R := by
    rw [List.append_assoc, sumT_app _ hP, sumT_twoL (by omega)]; omega
  have hl := sumN_lt (P ++ twoL 0 ++ R)
  have e1 : sumT (P ++ twoL (sumN (P ++ twoL 0 ++ R)) ++ R) = sumT P + sumT R + sumN (P ++ twoL 0 ++ R) := by
    rw [List.append_assoc, sumT_app _ hP, sumT_twoL hl]; omega
  have hf := fold_le (sumT P + sumT R)
  have hs : sumN (P ++ twoL 0 ++ R) = 65535 - fold (sumT P + sumT R) := by rw [sumN, e0]
  rw [sumN, e1, hs, fold_add (by omega), if_neg (by omega)]; omega
theorem atB_app {p : List UInt8} (l : List UInt8) {i : Nat} (h : i < p.length) : atB (p ++ l) i = atB p i := by
  unfold atB
  rw [List.getD_eq_getElem?_getD, List.getD_eq_getElem?_getD, List.getElem?_append_left h]
theorem wN_app {p : List UInt8} (l : List UInt8) {i : Nat} (h : i + 1 < p.length) : wN (p ++ l) i = wN p i := by
  unfold wN
  rw [atB_app l (by omega), atB_app l h]
/-- A head that may be laid. -/
structure MayBe (t : HdN) (os : List UInt8) (m : Nat) : Prop where
  ok : t.ok
  bad : putBad t os m = false
  all : 20 + os.length + m < 65536
theorem MayBe.out {t : HdN} {os : List UInt8} {m : Nat} (x : MayBe t os m) : 0 ≤ t.off ∧ t.off < 8192 ∧ optB os = true ∧ fitsB t m = true ∧ os.length ≤ 40 ∧ os.length % 4 = 0 := by
  have h := x.bad
  simp only [putBad, Bool.or_eq_false_iff, decide_eq_false_iff_not, Bool.not_eq_false'] at h
  obtain ⟨⟨⟨c1, c2⟩, c3⟩, c4⟩ := h
  have c5 := c3
  unfold optB at c5
  simp only [Bool.and_eq_true, decide_eq_true_eq] at c5
  exact ⟨by omega, by omega, c3, c4, c5.1.1, c5.1.2⟩
def headW (t : HdN) (os : List UInt8) (m : Nat) : Nat := sumN (preH t os m ++ twoL 0 ++ postH t os)
theorem head_list (t : HdN) (os : List UInt8) (m : Nat) : headL t os m = UInt8.ofNat (64 + (20 + os.length) / 4) :: UInt8.ofNat t.tos :: UInt8.ofNat ((20 + os.length + m) / 256) :: UInt8.ofNat ((20 + os.length + m) % 256) :: UInt8.ofNat (t.id / 256) :: UInt8.ofNat (t.id % 256) :: UInt8.ofNat (bitsN t / 256) :: UInt8.ofNat (bitsN t % 256) :: UInt8.ofNat t.ttl :: UInt8.ofNat t.proto :: UInt8.ofNat (headW t os m / 256) :: UInt8.ofNat (headW t os m % 256) :: UInt8.ofNat (t.src / 65536 / 256) :: UInt8.ofNat (t.src / 65536 % 256) :: UInt8.ofNat (t.src % 65536 / 256) :: UInt8.ofNat (t.src % 65536 % 256) :: UInt8.ofNat (t.dst / 65536 / 256) :: UInt8.ofNat (t.dst / 65536 % 256) :: UInt8.ofNat (t.dst % 65536 / 256) :: UInt8.ofNat (t.dst % 65536 % 256) :: os := rfl
theorem by8n {x : Nat} (h : x < 256) : (UInt8.ofNat x).toNat = x := by rw [UInt8.toNat_ofNat', Nat.mod_eq_of_lt h]
set_option maxRecDepth 20000 in
theorem bits_off {t : HdN} (h0 : 0 ≤ t.off) (h1 : t.off < 8192) : ((bitsN t % 8192 : Nat) : Int) = t.off ∧ decide (32768 ≤ bitsN t) = t.evil ∧ decide (bitsN t / 16384 % 2 = 1) = t.df ∧ decide (bitsN t / 8192 % 2 = 1) = t.more := by
  obtain ⟨x, hx, hxl⟩ : ∃ x : Nat, t.off = (x : Int) ∧ x < 8192 := ⟨t.off.toNat, by omega, by omega⟩
  unfold bitsN
  rw [hx]
  simp only [Int.toNat_natCast]
  cases t.evil <;> cases t.df <;> cases t.more <;> simp <;> omega
theorem head_w {t : HdN} {os : List UInt8} {m : Nat} (x : MayBe t os m) (l : List UInt8) : hlN (headL t os m ++ l) = 20 + os.length ∧ wN (headL t os m ++ l) 2 = 20 + os.length + m ∧ hdOf (headL t os m ++ l) = t ∧ (atB (headL t os m ++ l) 0).toNat / 16 = 4 := by
  obtain ⟨h0, h1, h2, h3, h4, h5⟩ := x.out
  have hk := x.ok
  have ha := x.all
  have hbn := bitsN_lt t h1
  obtain ⟨b1, b2, b3, b4⟩ := bits_off h0 h1
  have e0 : (UInt8.ofNat (64 + (20 + os.length) / 4)).toNat = 64 + (20 + os.length) / 4 := by8n (by omega)
  rw [head_list]
  refine ⟨?_, w2_two ha, ?_, ?_⟩
  · show 4 * ((UInt8.ofNat (64 + (20 + os.length) / 4)).toNat % 16) = _
    rw [e0]; omega
  · show (⟨(UInt8.ofNat t.tos).toNat, (UInt8.ofNat t.ttl).toNat, (UInt8.ofNat t.proto).toNat, w2 (UInt8.ofNat (t.id / 256)) (UInt8.ofNat (t.id % 256)), decide (32768 ≤ w2 (UInt8.ofNat (bitsN t / 256)) (UInt8.ofNat (bitsN t % 256))), decide (w2 (UInt8.ofNat (bitsN t / 256)) (UInt8.ofNat (bitsN t % 256)) / 16384 % 2 = 1), decide (w2 (UInt8.ofNat (bitsN t / 256)) (UInt8.ofNat (bitsN t % 256)) / 8192 % 2 = 1), ((w2 (UInt8.ofNat (bitsN t / 256)) (UInt8.ofNat (bitsN t % 256)) % 8192 : Nat) : Int), 65536 * w2 (UInt8.ofNat (t.src / 65536 / 256)) (UInt8.ofNat (t.src / 65536 % 256)) + w2 (UInt8.ofNat (t.src % 65536 / 256)) (UInt8.ofNat (t.src % 65536 % 256)), 65536 * w2 (UInt8.ofNat (t.dst / 65536 / 256)) (UInt8.ofNat (t.dst / 65536 % 256)) + w2 (UInt8.ofNat (t.dst % 65536 / 256)) (UInt8.ofNat (t.dst % 65536 % 256))⟩ : HdN) = t
    have k7 := hk.h7
    have k8 := hk.h8
    rw [w2_two hbn, w2_two hk.h4, w2_two (by omega), w2_two (by omega), w2_two (by omega), w2_two (by omega), b1, b2, b3, b4, by8n hk.h1, by8n hk.h2, by8n hk.h3, show 65536 * (t.src / 65536) + t.src % 65536 = t.src by omega, show 65536 * (t.dst / 65536) + t.dst % 65536 = t.dst by omega]
  · show (UInt8.ofNat (64 + (20 + os.length) / 4)).toNat / 16 = 4
    rw [e0]; omega
theorem head_cut {t : HdN} {os : List UInt8} {m : Nat} (x : MayBe t os m) (l : List UInt8) : cutE (headL t os m ++ l) = 0 ∧ optsOf (headL t os m ++ l) = os ∧ bodyOf (headL t os m ++ l) = l.take m := by
  obtain ⟨w1, w2', w3, w4⟩ := head_w x l
  obtain ⟨h0, h1, h2, h3, h4, h5⟩ := x.out
  have hl := headL_len t os m
  have hB : begE (headL t os m ++ l) = 0 := by
    unfold begE
    rw [List.length_append, w1, w2', hl, if_neg (by omega), if_neg (by omega), if_neg (by omega), if_neg (by omega)]
  have ht : (headL t os m ++ l).take (20 + os.length) = headL t os m := List.take_left' hl
  have ho : optsOf (headL t os m ++ l) = os := by rw [optsOf, w1, ht, head_list]; rfl
  have hS : sumN (headL t os m) = 0 := sum_zero (P := preH t os m) (R := postH t os) (by rw [preH_len])
  refine ⟨?_, ho, ?_⟩
  · unfold cutE
    rw [if_pos hB, w1, ht, if_pos hS, ho, if_pos h2]
  · rw [bodyOf, w1, w2', List.length_append, hl, List.take_append, hl, List.drop_append, List.take_of_length_le (by rw [hl]; omega), List.drop_of_length_le (by rw [hl]; omega), hl, List.nil_append, Nat.sub_self, List.drop_zero]
    by_cases c : m ≤ l.length
    · rw [show min (20 + os.length + m) (20 + os.length + l.length) - (20 + os.length) = m by omega]
    · rw [show min (20 + os.length + m) (20 + os.length + l.length) - (20 + os.length) = l.length by omega, List.take_length, List.take_of_length_le (by omega)]
theorem head_short {t : HdN} {os : List UInt8} {m : Nat} (x : MayBe t os m) {k : Nat} (hk : k < 20 + os.length) : cutE ((headL t os m).take k) = 4 := by
  have hl := headL_len t os m
  have hlen : ((headL t os m).take k).length = k := by rw [List.length_take]; omega
  have hB : begE ((headL t os m).take k) = 4 := by
    by_cases c : k < 20
    · unfold begE; rw [hlen, if_pos c]
    · obtain ⟨w1, w2', w3, w4⟩ := head_w x []
      rw [List.append_nil] at w1 w2' w3 w4
      have e0 : atB ((headL t os m).take k) 0 = atB (headL t os m) 0 := by
        have := atB_app (p := (headL t os m).take k) ((headL t os m).drop k) (i := 0) (by omega)
        rw [List.take_append_drop] at this; exact this.symm
      have e1 : hlN ((headL t os m).take k) = hlN (headL t os m) := by unfold hlN; rw [e0]
      unfold begE
      rw [hlen, if_neg c, e0, e1, w1, if_neg (by omega), if_pos hk]
  unfold cutE
  rw [if_neg (by rw [hB]; decide), hB]
theorem get_whole {t : HdN} {os bs be : List UInt8} (x : MayBe t os bs.length) : getE (putL t os bs ++ be) = 0 ∧ hdOf (putL t os bs ++ be) = t ∧ optsOf (putL t os bs ++ be) = os ∧ bodyOf (putL t os bs ++ be) = bs := by
  have e : putL t os bs ++ be = headL t os bs.length ++ (bs ++ be) := by rw [putL, List.append_assoc]
  rw [e]
  obtain ⟨w1, w2', w3, w4⟩ := head_w x (bs ++ be)
  obtain ⟨c1, c2, c3⟩ := head_cut x (bs ++ be)
  rw [List.take_left] at c3
  have hl := headL_len t os bs.length
  obtain ⟨_, _, _, h3, _, _⟩ := x.out
  refine ⟨?_, w3, c2, c3⟩
  unfold getE
  rw [if_pos c1, w2', w3, c3, List.length_append, hl, List.length_append, if_neg (by omega), if_pos h3]
theorem get_part {t : HdN} {os bs : List UInt8} (x : MayBe t os bs.length) {k : Nat} (hk : k < 20 + os.length + bs.length) : getE ((putL t os bs).take k) = 4 := by
  have hl := headL_len t os bs.length
  by_cases c : k < 20 + os.length
  · have e : (putL t os bs).take k = (headL t os bs.length).take k := by rw [putL, List.take_append_of_le_length (by omega)]
    rw [e, getE, head_short x c]; rfl
  · have e : (putL t os bs).take k = headL t os bs.length ++ bs.take (k - (20 + os.length)) := by
      rw [putL, List.take_append, List.take_of_length_le (by omega), hl]
    rw [e]
    obtain ⟨w1, w2', w3, w4⟩ := head_w x (bs.take (k - (20 + os.length)))
    obtain ⟨c1, c2, c3⟩ := head_cut x (bs.take (k - (20 + os.length)))
    unfold getE
    rw [if_pos c1, w2', List.length_append, hl, List.length_take, if_pos (by omega)]
theorem cut_part {t : HdN} {os bs : List UInt8} (x : MayBe t os bs.length) {k : Nat} (h1 : 20 + os.length ≤ k) (hk : k < 20 + os.length + bs.length) : cutE ((putL t os bs).take k) = 0 ∧ hdOf ((putL t os bs).take k) = t ∧ optsOf ((putL t os bs).take k) = os ∧ bodyOf ((putL t os bs).take k) = bs.take (k - (20 + os.length)) := by
  have hl := headL_len t os bs.length
  have e : (putL t os bs).take k = headL t os bs.length ++ bs.take (k - (20 + os.length)) := by
    rw [putL, List.take_append, List.take_of_length_le (by omega), hl]
  rw [e]
  obtain ⟨w1, w2', w3, w4⟩ := head_w x (bs.take (k - (20 + os.length)))
  obtain ⟨c1, c2, c3⟩ := head_cut x (bs.take (k - (20 + os.length)))
  refine ⟨c1, w3, c2, ?_⟩
  rw [c3, List.take_take]
  congr 1; omega
theorem cut_short {t : HdN} {os bs : List UInt8} (x : MayBe t os bs.length) {k : Nat} (hk : k < 20 + os.length) : cutE ((putL t os bs).take k) = 4 := by
  have hl := headL_len t os bs.length
  rw [show (putL t os bs).take k = (headL t os bs.length).take k by rw [putL, List.take_append_of_le_length (by omega)]]
  exact head_short x hk
end
end Go.Proofs.YtiemkafpijhlmaaDoor.Am
namespace Go.Proofs.YtiemkafpijhlmaaDoor.Am
noncomputable section
/- CONTRACTS: heads that are the same; what is got, cut and read, right or wrong. -/
set_option maxRecDepth 20000 in
set_option maxHeartbeats 4000000 in
theorem same_ret {t : HdN} {v1 v2 : Value} {os : List UInt8} {h : AHeap} {n : Nat} (h1 : BS h v1 os) (h2 : BS h v2 os) (hw : WF h n) : Ret EV06 30 [hdV t v1, hdV t v2] h n (.bool true) [] (n + 2) := by
  have hb0 : bytesOf? [] = some [] := rfl
  cases h1 with
  | nil => cases h2 with
    | nil =>
      refine rsx30 (by simp) (by simp) ?_
      simp -dsimp (discharger := omega) [B30]
      repeat (refine HSub.new ?_ hw (by omega) _)
      exact .refl _
    | @mk i o w k _ hr =>
      refine rsx30 (by simp) (by simp) ?_
      try simp only [List.length_nil] at hr
      have ihr := read_lt hw hr
      simp -dsimp (discharger := omega) [B30, hb0, hr]
      repeat (refine HSub.new ?_ hw (by omega) _)
      exact .refl _
  | @mk i o w k _ hr => cases h2 with
    | nil =>
      refine rsx30 (by simp) (by simp) ?_
      try simp only [List.length_nil] at hr
      have ihr := read_lt hw hr
      simp -dsimp (discharger := omega) [B30, hb0, hr]
      repeat (refine HSub.new ?_ hw (by omega) _)
      exact .refl _
    | @mk i2 o2 w2 k2 _ hr2 =>
      refine rsx30 (by simp) (by simp) ?_
      try simp only [List.length_nil] at hr hr2
      have ihr := read_lt hw hr
      have ihr2 := read_lt hw hr2
      simp -dsimp (discharger := omega) [B30, hr, hr2]
      repeat (refine HSub.new ?_ hw (by omega) _)
      exact .refl _
def getT (bs : List UInt8) : HdN := if getE bs = 0 then hdOf bs else hd0
def getO (bs : List UInt8) : List UInt8 := if getE bs = 0 then optsOf bs else []
def getY (bs : List UInt8) : List UInt8 := if getE bs = 0 then bodyOf bs else []
theorem get_call {bs : List UInt8} {v : Value} {h : AHeap} (hb : BS h v bs) (hl : bs.length < 100000) {n : Nat} (hw : WF h n) {K : Value → AHeap → Nat → Prop} {tk : Tok K}
    (hK : ∀ (a a2 : Option Addr) (k k2 : Nat) (H : AHeap) (m : Nat), (∀ X : AHeap, (∀ i b, n ≤ i → H.get i = some b → X.get i = some b) → BS X (.slice a (getO bs).length k) (getO bs)) → (∀ X : AHeap, (∀ i b, n ≤ i → H.get i = some b → X.get i = some b) → BS X (.slice a2 (getY bs).length k2) (getY bs)) → HSub h H → WF H m → n ≤ m → m ≤ n + 10 → K (.tuple #[hdV (getT bs) (.slice a (getO bs).length k), .slice a2 (getY bs).length k2, .int .i64 (getE bs : Int)]) H m) : HasCallT EV06 27 [v] h n K tk := by
  by_cases c : getE bs = 0
  · have e1 : getT bs = hdOf bs := by rw [getT, if_pos c]
    have e2 : getO bs = optsOf bs := by rw [getO, if_pos c]
    have e3 : getY bs = bodyOf bs := by rw [getY, if_pos c]
    rw [e1, e2, e3, c] at hK
    refine call_ret ((get_ret hb hl hw).2 c) (hK _ _ _ _ _ _ (fun X hX => bs_new (m := 0) (hX _ _ (by omega) (by simp (discharger := omega))) (Nat.zero_le _)) (fun X hX => bs_new (m := 0) (hX _ _ (by omega) (by simp)) (Nat.zero_le _)) ?_ ?_ (by omega) (by omega))
    · simp only [putsL]
      repeat (refine HSub.new ?_ hw (by omega) _)
      exact .refl _
    · exact .of fun j hj => by simp (discharger := omega) [hw.none (i := j) (by omega)]
  · have e1 : getT bs = hd0 := by rw [getT, if_neg c]
    have e2 : getO bs = [] := by rw [getO, if_neg c]
    have e3 : getY bs = [] := by rw [getY, if_neg c]
    rw [e1, e2, e3] at hK
    exact call_ret ((get_ret hb hl hw).1 c) (hK _ _ _ _ _ _ (fun _ _ => .nil) (fun _ _ => .nil) (.refl _) (hw.mono (by omega)) (by omega) (by omega))
def cutT (bs : List UInt8) : HdN := if cutE bs = 0 then hdOf bs else hd0
def cutO (bs : List UInt8) : List UInt8 := if cutE bs = 0 then optsOf bs else []
def cutY (bs : List UInt8) : List UInt8 := if cutE bs = 0 then bodyOf bs else []
theorem cut_call {bs : List UInt8} {v : Value} {h : AHeap} (hb : BS h v bs) (hl : bs.length < 100000) {n : Nat} (hw : WF h n) {K : Value → AHeap → Nat → Prop} {tk : Tok K}
    (hK : ∀ (a a2 : Option Addr) (k k2 : Nat) (H : AHeap) (m : Nat), (∀ X : AHeap, (∀ i b, n ≤ i → H.get i = some b → X.get i = some b) → BS X (.slice a (cutO bs).length k) (cutO bs)) → (∀ X : AHeap, (∀ i b, n ≤ i → H.get i = some b → X.get i = some b) → BS X (.slice a2 (cutY bs).length k2) (cutY bs)) → HSub h H → WF H m → n ≤ m → m ≤ n + 10 → K (.tuple #[hdV (cutT bs) (.slice a (cutO bs).length k), .slice a2 (cutY bs).length k2, .int .i64 (cutE bs : Int)]) H m) : HasCallT EV06 28 [v] h n K tk := by
  by_cases c : cutE bs = 0
  · have e1 : cutT bs = hdOf bs := by rw [cutT, if_pos c]
    have e2 : cutO bs = optsOf bs := by rw [cutO, if_pos c]
    have e3 : cutY bs = bodyOf bs := by rw [cutY, if_pos c]
    rw [e1, e2, e3, c] at hK
    refine call_ret (cut_ok hb hl c hw) (hK _ _ _ _ _ _ (fun X hX => bs_new (m := 0) (hX _ _ (by omega) (by simp (discharger := omega))) (Nat.zero_le _)) (fun X hX => bs_new (m := 0) (hX _ _ (by omega) (by simp)) (Nat.zero_le _)) ?_ ?_ (by omega) (by omega))
    · simp only [putsL]
      repeat (refine HSub.new ?_ hw (by omega) _)
      exact .refl _
    · exact .of fun j hj => by simp (discharger := omega) [hw.none (i := j) (by omega)]
  · have e1 : cutT bs = hd0 := by rw [cutT, if_neg c]
    have e2 : cutO bs = [] := by rw [cutO, if_neg c]
    have e3 : cutY bs = [] := by rw [cutY, if_neg c]
    rw [e1, e2, e3] at hK
    exact call_ret (cut_bad hb hl c hw) (hK _ _ _ _ _ _ (fun _ _ => .nil) (fun _ _ => .nil) (.refl _) (hw.mono (by omega)) (by omega) (by omega))
theorem read_call {bs : List UInt8} {v : Value} {h : AHeap} (hb : BS h v bs) (hl : bs.length < 100000) (w : Bool) {n : Nat} (hw : WF h n) {K : Value → AHeap → Nat → Prop} {tk : Tok K}
    (hK : ∀ (a a2 : Option Addr) (k k2 : Nat), BS h (.slice a (if w then getO bs else cutO bs).length k) (if w then getO bs else cutO bs) → BS h (.slice a2 (if w then getY bs else cutY bs).length k2) (if w then getY bs else cutY bs) → K (.tuple #[hdV (if w then getT bs else cutT bs) (.slice a (if w then getO bs else cutO bs).length k), .slice a2 (if w then getY bs else cutY bs).length k2, .int .i64 ((if w then getE bs else cutE bs : Nat) : Int)]) h (n + 10)) : HasCallT EV06 29 [v, .bool w] h n K tk := by
  have eT : (if w then getT bs else cutT bs) = if readE w bs = 0 then hdOf bs else hd0 := by cases w <;> rfl
  have eO : (if w then getO bs else cutO bs) = if readE w bs = 0 then optsOf bs else [] := by cases w <;> rfl
  have eB : (if w then getY bs else cutY bs) = if readE w bs = 0 then bodyOf bs else [] := by cases w <;> rfl
  have eE : (if w then getE bs else cutE bs) = readE w bs := by cases w <;> rfl
  rw [eT, eO, eB, eE] at hK
  by_cases h20 : bs.length < 20
  · obtain ⟨e, hR⟩ := read_short hb h20 w hw
    rw [e] at hK
    rw [if_neg (by decide), if_neg (by decide), if_neg (by decide)] at hK
    exact call_ret hR (hK _ _ _ _ .nil .nil)
  · cases hb with
    | nil => simp at h20
    | @mk i o g k _ hr =>
      obtain ⟨hbad, hok⟩ := read_ret (k := k) hr (by omega) hl w hw
      by_cases c : readE w bs = 0
      · have hc : cutE bs = 0 := by
          cases w with
          | false => exact c
          | true =>
            have c : getE bs = 0 := c
            unfold getE at c
            by_cases hc : cutE bs = 0
            · exact hc
            · rw [if_neg hc] at c; exact absurd c hc
        obtain ⟨b1, b2, b3, b4, b5⟩ := beg_ok (cut_beg hc)
        have rop := bs_sub hr b2 b3
        have lsm : (bs.take (hlN bs)).length = hlN bs := by rw [List.length_take]; omega
        have lop : (optsOf bs).length = hlN bs - 20 := by rw [optsOf, List.length_drop, lsm]
        have rbd := bs_sub hr (a := hlN bs) (b := min (wN bs 2) bs.length) (by omega) (by omega)
        have lbd : (bodyOf bs).length = min (wN bs 2) bs.length - hlN bs := by rw [bodyOf, List.length_drop, List.length_take]; omega
        rw [c] at hK
        rw [if_pos rfl, if_pos rfl, if_pos rfl] at hK
        refine call_ret (hok c) (hK _ _ _ _ (bs_at rfl ?_) (bs_at rfl ?_))
        · rw [lop]; exact rop
        · rw [lbd]; exact rbd
      · rw [if_neg c, if_neg c, if_neg c] at hK
        exact call_ret (hbad c) (hK _ _ _ _ .nil .nil)
theorem read_callT {bs : List UInt8} {v : Value} {h : AHeap} (hb : BS h v bs) (hl : bs.length < 100000) {n : Nat} (hw : WF h n) {K : Value → AHeap → Nat → Prop} {tk : Tok K}
    (hK : ∀ (a a2 : Option Addr) (k k2 : Nat), BS h (.slice a (getO bs).length k) (getO bs) → BS h (.slice a2 (getY bs).length k2) (getY bs) → K (.tuple #[hdV (getT bs) (.slice a (getO bs).length k), .slice a2 (getY bs).length k2, .int .i64 ((getE bs : Nat) : Int)]) h (n + 10)) : HasCallT EV06 29 [v, .bool true] h n K tk := read_call hb hl true hw hK
theorem read_callF {bs : List UInt8} {v : Value} {h : AHeap} (hb : BS h v bs) (hl : bs.length < 100000) {n : Nat} (hw : WF h n) {K : Value → AHeap → Nat → Prop} {tk : Tok K}
    (hK : ∀ (a a2 : Option Addr) (k k2 : Nat), BS h (.slice a (cutO bs).length k) (cutO bs) → BS h (.slice a2 (cutY bs).length k2) (cutY bs) → K (.tuple #[hdV (cutT bs) (.slice a (cutO bs).length k), .slice a2 (cutY bs).length k2, .int .i64 ((cutE bs : Nat) : Int)]) h (n + 10)) : HasCallT EV06 29 [v, .bool false] h n K tk := read_call hb hl false hw hK
end
end Go.Proofs.YtiemkafpijhlmaaDoor.Am
namespace Go.Proofs.YtiemkafpijhlmaaDoor.Am
noncomputable section
/- CONTRACTS: made heads. -/
def madeN (os : List UInt8) : Nat := min os.length 40 / 4 * 4
def madeO (os : List UInt8) : List UInt8 := if madeN os = 0 then [] else UInt8.ofNat ((atB os 0).toNat ||| 2) :: 4 :: List.replicate (madeN os - 2) 1
def madeT (t : HdN) : HdN := ⟨t.tos, t.ttl, t.proto, t.id, t.evil, t.df, t.more, ((IntKind.u64.wrap t.off).toNat % 8000 : Nat), t.src, t.dst⟩
def madeB (t : HdN) (bs : List UInt8) : List UInt8 := if t.more then (bs.take 300).take ((bs.take 300).length / 8 * 8) else bs.take 300
theorem madeO_len (os : List UInt8) : (madeO os).length = madeN os := by
  unfold madeO
  have : madeN os % 4 = 0 := by unfold madeN; omega
  split
  · simp [*]
  · simp only [List.length_cons, List.length_replicate]; omega
theorem opts_ones : ∀ k, opts (List.replicate k 1) = true
  | 0 => opts_nil
  | k + 1 => by rw [List.replicate_succ, opts_one, opts_ones k]
theorem made_may {t : HdN} (ht : t.ok) (os bs : List UInt8) : MayBe (madeT t) (madeO os) (madeB t bs).length := by
  have hN : madeN os % 4 = 0 ∧ madeN os ≤ 40 := by unfold madeN; omega
  have hl := madeO_len os
  have hbl : (madeB t bs).length ≤ 300 ∧ (t.more = true → (madeB t bs).length % 8 = 0) := by
    unfold madeB
    cases t.more
    · simp; omega
    · simp; omega
  have hoff : (madeT t).off = ((IntKind.u64.wrap t.off).toNat % 8000 : Nat) := rfl
  have hO : optB (madeO os) = true := by
    unfold optB
    rw [hl, decide_eq_true (by omega), decide_eq_true (by omega), Bool.true_and, Bool.true_and]
    unfold madeO
    split
    · exact opts_nil
    · have ho := (atB os 0).toNat_lt
      have hx : (atB os 0).toNat ||| 2 < 256 := Nat.or_lt_two_pow (n := 8) ho (by omega)
      have ht2 : ((atB os 0).toNat ||| 2).testBit 1 = true := by rw [Nat.testBit_or]; simp; right; decide
      have hb : ∀ k : Nat, (k < 2) → ¬ (atB os 0).toNat ||| 2 = k := fun k hk e => by
        rw [e] at ht2
        have : k = 0 ∨ k = 1 := by omega
        rcases this with rfl | rfl <;> revert ht2 <;> decide
      have h0 : ¬ UInt8.ofNat ((atB os 0).toNat ||| 2) = 0 := fun e => by
        have := congrArg UInt8.toNat e
        rw [by8n hx] at this
        exact hb 0 (by omega) this
      have h1 : ¬ UInt8.ofNat ((atB os 0).toNat ||| 2) = 1 := fun e => by
        have := congrArg UInt8.toNat e
        rw [by8n hx] at this
        exact hb 1 (by omega) this
      rw [opts_go h0 h1 (by rw [List.length_replicate]; show ¬ (4 < 2 ∨ _ < 4); omega)]
      show opts (List.drop 4 (_ :: _ :: List.replicate (madeN os - 2) 1)) = true
      rw [List.drop_succ_cons, List.drop_succ_cons, List.drop_replicate]
      exact opts_ones _
  have hF : fitsB (madeT t) (madeB t bs).length = true := by
    unfold fitsB
    rw [hoff, decide_eq_true (by omega), Bool.true_and]
    show (!t.more || _) = true
    cases hm : t.more
    · rfl
    · rw [decide_eq_true (hbl.2 hm)]; rfl
  refine ⟨⟨ht.h1, ht.h2, ht.h3, ht.h4, by rw [hoff]; omega, by rw [hoff]; omega, ht.h7, ht.h8⟩, ?_, by omega⟩
  unfold putBad
  rw [hO, hF, hoff, decide_eq_false (by omega), decide_eq_false (by omega)]; rfl
def MdInv (N : Nat) (v1 v2 v4 : Value) (h0 : AHeap) (n1 q : Nat) (r : Nat) (σ : Fr) (h : AHeap) (n : Nat) : Prop :=
  ∃ j, 1 ≤ j ∧ j + r = N ∧ n = n1 + (j - 1) ∧ h = h0.put q (bufB (List.replicate j 1) 1) ∧
    σ = [(1, v1), (2, v2), (4, v4), (6, .int .i64 (N : Int)), (7, .slice (some ⟨q, 0, some j⟩) j 2), (19, .int .i64 (N : Int)), (20, .int .i64 (j : Int))]
def MdPost (N : Nat) (v1 v2 v4 : Value) (h0 : AHeap) (n1 q : Nat) (e : Ex) (σ' : Fr) (h' : AHeap) (n' : Nat) : Prop :=
  e = .exit 0 ∧ n' = n1 + (N - 1) ∧ h' = h0.put q (bufB (List.replicate N 1) 1) ∧ σ'.get 1 = some v1 ∧ σ'.get 2 = some v2 ∧ σ'.get 4 = some v4 ∧ σ'.get 6 = some (.int .i64 (N : Int)) ∧ σ'.get 7 = some (.slice (some ⟨q, 0, some N⟩) N 2)
theorem md_loop {N : Nat} (hN : N ≤ 40) {v1 v2 v4 : Value} {h0 : AHeap} {n1 q : Nat} (hw : WF h0 n1) (hq : q < n1) :
    ∀ (r : Nat) (σ : Fr) (h : AHeap) (n : Nat), MdInv N v1 v2 v4 h0 n1 q r σ h n → HasCode EV06 (.loop F31L0) σ h n (MdPost N v1 v2 v4 h0 n1 q) := by
  refine wx_inv _ fun r σ h n hI => ?_
  obtain ⟨j, hj0, hj, rfl, rfl, rfl⟩ := hI
  cases r with
  | zero =>
    have hjl : j = N := by omega
    subst hjl
    simp -dsimp (discharger := omega) [F31L0]
    exact ⟨rfl, rfl, rfl, by simp⟩
  | succ r =>
    have hu : u8s (List.replicate j 1) ++ [Value.int .u8 1] = u8s (List.replicate (j + 1) 1) := by
      rw [List.replicate_succ', u8s_append]; rfl
    have hul1 : (u8s (List.replicate j 1)).length = j := by simp
    have hul : (u8s (List.replicate (j + 1) 1)).length = j + 1 := by simp
    have hnq : ¬ q = n1 + (j - 1) := by omega
    simp -dsimp (discharger := omega) [F31L0, aFill, bufB, aAppend, aElems, hul1, hu, hul]
    refine .mk' r (by omega) [(1, v1), (2, v2), (4, v4), (6, .int .i64 (N : Int)), (7, .slice (some ⟨q, 0, some (j + 1)⟩) (j + 1) 2), (19, .int .i64 (N : Int)), (20, .int .i64 ((j + 1 : Nat) : Int))] _ (by simp) ?_ ⟨j + 1, by omega, by omega, by omega, rfl, rfl⟩
    refine .ofE (.left (.inr (by simp [bufB])) (.right (.inl (by simp)) (.right (.inr (hw _ (by omega))) (.right (.inl (by simp)) (.refl _ _)))))
end
end Go.Proofs.YtiemkafpijhlmaaDoor.Am
namespace Go.Proofs.YtiemkafpijhlmaaDoor.Am
noncomputable section
/- CONTRACTS: made heads; the call. -/
set_option maxHeartbeats 8000000 in
theorem made_call {t : HdN} {o b : Value} {os bs : List UInt8} {h : AHeap} {n : Nat} {h0 : AHeap} (ho : BS h o os) (hb : BS h0 b bs) (hol : os.length < 9223372036854775808) (hbl : bs.length < 9223372036854775808) (hw : WF h n) {K : Value → AHeap → Nat → Prop} {tk : Tok K}
    (hK : ∀ (a a2 : Option Addr) (k k2 : Nat) (H : AHeap) (m : Nat), (∀ X : AHeap, (∀ i b, n ≤ i → H.get i = some b → X.get i = some b) → BS X (.slice a (madeO os).length k) (madeO os)) → BS h0 (.slice a2 (madeB t bs).length k2) (madeB t bs) → HSub h H → WF H m → n ≤ m → m ≤ n + 100 → K (.tuple #[hdV (madeT t) (.slice a (madeO os).length k), .slice a2 (madeB t bs).length k2]) H m) : HasCallT EV06 31 [hdV t o, b] h n K tk := by
  obtain ⟨a1, k1, rfl⟩ := ho.shape
  obtain ⟨m, hm1, hm2, e40, hmN⟩ : ∃ m, m ≤ os.length ∧ m ≤ 40 ∧ (if (40 : Int) < (os.length : Int) then (40 : Int) else (os.length : Int)) = (m : Int) ∧ madeN os = m / 4 * 4 := by
    by_cases c : 40 < os.length
    · exact ⟨40, by omega, by omega, by rw [if_pos (by omega)]; rfl, by rw [madeN, Nat.min_eq_right (by omega)]⟩
    · exact ⟨os.length, by omega, by omega, by rw [if_neg (by omega)], by rw [madeN, Nat.min_eq_left (by omega)]⟩
  obtain ⟨c, hc1, hc2, e300, hbk⟩ : ∃ m, m ≤ bs.length ∧ m ≤ 300 ∧ (if (300 : Int) < (bs.length : Int) then (300 : Int) else (bs.length : Int)) = (m : Int) ∧ bs.take 300 = bs.take m := by
    by_cases c : 300 < bs.length
    · exact ⟨300, by omega, by omega, by rw [if_pos (by omega)]; rfl, rfl⟩
    · exact ⟨bs.length, by omega, by omega, by rw [if_neg (by omega)], by rw [List.take_of_length_le (by omega), List.take_length]⟩
  have eN : ((m : Nat) : Int) / 4 * 4 = (madeN os : Int) := by rw [hmN]; omega
  have hlc : (bs.take c).length = c := by rw [List.length_take]; omega
  have hmO := madeO_len os
  obtain ⟨u, hu, hul⟩ : ∃ u : Nat, IntKind.u64.wrap t.off = (u : Int) ∧ u < 18446744073709551616 := by
    have : IntKind.u64.wrap t.off = t.off % 18446744073709551616 := rfl
    refine ⟨(t.off % 18446744073709551616).toNat, by rw [this]; omega, by omega⟩
  have hmT : madeT t = ⟨t.tos, t.ttl, t.proto, t.id, t.evil, t.df, t.more, (u : Int) % 8000, t.src, t.dst⟩ := by rw [madeT, hu]; rfl
  have hN4 : madeN os % 4 = 0 ∧ madeN os ≤ 40 ∧ madeN os ≤ os.length := by rw [hmN]; omega
  rw [hmT] at hK
  generalize hNN : madeN os = N at *
  obtain ⟨c8, hc8, e8⟩ : ∃ c8, c8 ≤ c ∧ ((c : Nat) : Int) / 8 * 8 = (c8 : Int) ∧ c8 = c / 8 * 8 := ⟨c / 8 * 8, by omega, by omega, rfl⟩
  obtain ⟨e8, hc8e⟩ := e8
  have hmB : madeB t bs = if t.more then bs.take c8 else bs.take c := by
    rw [madeB, hbk, hlc, List.take_take, ← hc8e, Nat.min_eq_left hc8]
  have hlc8 : (bs.take c8).length = c8 := by rw [List.length_take]; omega
  with_reducible refine inl31 ?_
  by_cases hN0 : N = 0
  · subst hN0
    cases hb with
    | nil =>
      cases hm : t.more
      · simp -dsimp (discharger := omega) [B31, tdivP]
        refine wx_round ?_
        simp -dsimp (discharger := omega) [F31L0, tmodP, hu, hm]
        have hmo : madeO os = [] := by rw [madeO, hNN, if_pos rfl]
        rw [hmo] at hK
        have hmb : madeB t [] = [] := by simp [madeB]
        rw [hmb, hm] at hK
        exact hK none none 0 0 _ _ (fun _ _ => .nil) .nil (by (repeat (refine HSub.new ?_ hw (by omega) _)); exact .refl _) (.of fun j hj => by simp (discharger := omega) [hw.none (i := j) (by omega)]) (by omega) (by omega)
      · simp -dsimp (discharger := omega) [B31, tdivP]
        refine wx_round ?_
        simp -dsimp (discharger := omega) [F31L0, tdivP, tmodP, hu, hm]
        have hmo : madeO os = [] := by rw [madeO, hNN, if_pos rfl]
        rw [hmo] at hK
        have hmb : madeB t [] = [] := by simp [madeB]
        rw [hmb, hm] at hK
        exact hK none none 0 0 _ _ (fun _ _ => .nil) .nil (by (repeat (refine HSub.new ?_ hw (by omega) _)); exact .refl _) (.of fun j hj => by simp (discharger := omega) [hw.none (i := j) (by omega)]) (by omega) (by omega)
    | @mk ib ob wb kb _ hrB =>
      cases hm : t.more
      · simp -dsimp (discharger := omega) [B31, e300, tdivP]
        refine wx_round ?_
        simp -dsimp (discharger := omega) [F31L0, tmodP, hu, hm]
        have hmo : madeO os = [] := by rw [madeO, hNN, if_pos rfl]
        rw [hmo] at hK
        rw [hm] at hmB
        rw [if_neg (by decide)] at hmB
        rw [hmB, hm, hlc] at hK
        have rdB := bs_sub hrB (Nat.zero_le c) (by omega)
        simp only [Nat.add_zero, Nat.sub_zero, List.drop_zero] at rdB
        exact hK none _ 0 _ _ _ (fun _ _ => .nil) (bs_at hlc rdB) (by (repeat (refine HSub.new ?_ hw (by omega) _)); exact .refl _) (.of fun j hj => by simp (discharger := omega) [hw.none (i := j) (by omega)]) (by omega) (by omega)
      · simp -dsimp (discharger := omega) [B31, e300, tdivP]
        refine wx_round ?_
        simp -dsimp (discharger := omega) [F31L0, tdivP, tmodP, hu, hm, e8]
        have hmo : madeO os = [] := by rw [madeO, hNN, if_pos rfl]
        rw [hmo] at hK
        rw [hm] at hmB
        rw [if_pos rfl] at hmB
        rw [hmB, hm, hlc8] at hK
        have rdB := bs_sub hrB (Nat.zero_le c8) (by omega)
        simp only [Nat.add_zero, Nat.sub_zero, List.drop_zero] at rdB
        exact hK none _ 0 _ _ _ (fun _ _ => .nil) (bs_at hlc8 rdB) (by (repeat (refine HSub.new ?_ hw (by omega) _)); exact .refl _) (.of fun j hj => by simp (discharger := omega) [hw.none (i := j) (by omega)]) (by omega) (by omega)
  · obtain ⟨_, io, oo, wo, rfl, hrO⟩ := bs_some ho (by omega)
    have hio := read_lt hw hrO
    have rdA0 := at_read hrO (j := 0) (by omega)
    simp only [Nat.add_zero] at rdA0
    have ha0 := (atB os 0).toNat_lt
    have hx2 : (atB os 0).toNat ||| 2 < 256 := Nat.or_lt_two_pow (n := 8) ha0 (by omega)
    have hor : orI .u8 ((atB os 0).toNat : Int) 2 = ((UInt8.ofNat ((atB os 0).toNat ||| 2)).toNat : Int) := by
      have := orN (k := .u8) rfl (x := (atB os 0).toNat) (y := 2) ha0 (by decide)
      rw [by8n hx2]; exact this
    have hrep : u8s (List.replicate N 1) = .int .u8 1 :: .int .u8 1 :: u8s (List.replicate (N - 2) 1) := by
      obtain ⟨q, rfl⟩ : ∃ q, N = q + 2 := ⟨N - 2, by omega⟩
      rfl
    have hmo : madeO os = UInt8.ofNat ((atB os 0).toNat ||| 2) :: 4 :: List.replicate (N - 2) 1 := by rw [madeO, hNN, if_neg hN0]
    have hlo : (UInt8.ofNat ((atB os 0).toNat ||| 2) :: 4 :: List.replicate (N - 2) (1 : UInt8)).length = N := by rw [← hmo]; exact hmO
    rw [hmO, hmo] at hK
    generalize UInt8.ofNat ((atB os 0).toNat ||| 2) = d at *
    have hB1 : ∀ X : AHeap, X.get (n + 3) = some (.cells (some 5) (.int .u8 (d.toNat : Int) :: .int .u8 4 :: u8s (List.replicate (N - 2) 1)) N) → BS X (.slice (some ⟨n + 3, 0, some N⟩) N 2) (d :: 4 :: List.replicate (N - 2) 1) := fun X e => by
      have e : X.get (n + 3) = some (.cells (some 5) (u8s (d :: 4 :: List.replicate (N - 2) 1)) N) := e
      refine bs_at hlo ?_
      rw [AHeap.read_of e]
      have hul : (u8s (d :: 4 :: List.replicate (N - 2) (1 : UInt8))).length = N := by rw [u8s_length, hlo]
      generalize u8s (d :: 4 :: List.replicate (N - 2) (1 : UInt8)) = Z at *
      simp [hul]
      exact List.take_of_length_le (by omega)
    cases hb with
    | nil =>
      cases hm : t.more
      · simp -dsimp (discharger := omega) [B31, e40, eN, tdivP]
        refine wx_round ?_
        simp -dsimp (discharger := omega) [F31L0, aFill, aAppend, aElems]
        have hW0 : WF ((h.put n (.cells (some 47) [.int .u8 (t.tos : Int), .int .u8 (t.ttl : Int), .int .u8 (t.proto : Int), .int .u16 (t.id : Int), .bool t.evil, .bool t.df, .bool t.more, .int .i64 t.off, .int .u32 (t.src : Int), .int .u32 (t.dst : Int), .slice (some ⟨io, oo, some wo⟩) os.length k1] 11)).put (n + 1) (.cells (some 47) [.int .u8 0, .int .u8 0, .int .u8 0, .int .u16 0, .bool false, .bool false, .bool false, .int .i64 0, .int .u32 0, .int .u32 0, .slice none 0 0] 11)) (n + 2) := .of fun j hj => by simp (discharger := omega) [hw.none (i := j) (by omega)]
        have hS0 : HSub h ((h.put n (.cells (some 47) [.int .u8 (t.tos : Int), .int .u8 (t.ttl : Int), .int .u8 (t.proto : Int), .int .u16 (t.id : Int), .bool t.evil, .bool t.df, .bool t.more, .int .i64 t.off, .int .u32 (t.src : Int), .int .u32 (t.dst : Int), .slice (some ⟨io, oo, some wo⟩) os.length k1] 11)).put (n + 1) (.cells (some 47) [.int .u8 0, .int .u8 0, .int .u8 0, .int .u16 0, .bool false, .bool false, .bool false, .int .i64 0, .int .u32 0, .int .u32 0, .slice none 0 0] 11)) := by (repeat (refine HSub.new ?_ hw (by omega) _)); exact .refl _
        have hx0 : (((h.put n (.cells (some 47) [.int .u8 (t.tos : Int), .int .u8 (t.ttl : Int), .int .u8 (t.proto : Int), .int .u16 (t.id : Int), .bool t.evil, .bool t.df, .bool t.more, .int .i64 t.off, .int .u32 (t.src : Int), .int .u32 (t.dst : Int), .slice (some ⟨io, oo, some wo⟩) os.length k1] 11)).put (n + 1) (.cells (some 47) [.int .u8 0, .int .u8 0, .int .u8 0, .int .u16 0, .bool false, .bool false, .bool false, .int .i64 0, .int .u32 0, .int .u32 0, .slice none 0 0] 11))).get n = some (.cells (some 47) [.int .u8 (t.tos : Int), .int .u8 (t.ttl : Int), .int .u8 (t.proto : Int), .int .u16 (t.id : Int), .bool t.evil, .bool t.df, .bool t.more, .int .i64 t.off, .int .u32 (t.src : Int), .int .u32 (t.dst : Int), .slice (some ⟨io, oo, some wo⟩) os.length k1] 11) := by simp
        have hz0 : (((h.put n (.cells (some 47) [.int .u8 (t.tos : Int), .int .u8 (t.ttl : Int), .int .u8 (t.proto : Int), .int .u16 (t.id : Int), .bool t.evil, .bool t.df, .bool t.more, .int .i64 t.off, .int .u32 (t.src : Int), .int .u32 (t.dst : Int), .slice (some ⟨io, oo, some wo⟩) os.length k1] 11)).put (n + 1) (.cells (some 47) [.int .u8 0, .int .u8 0, .int .u8 0, .int .u16 0, .bool false, .bool false, .bool false, .int .i64 0, .int .u32 0, .int .u32 0, .slice none 0 0] 11))).get (n + 1) = some (.cells (some 47) [.int .u8 0, .int .u8 0, .int .u8 0, .int .u16 0, .bool false, .bool false, .bool false, .int .i64 0, .int .u32 0, .int .u32 0, .slice none 0 0] 11) := by simp
        generalize ((h.put n (.cells (some 47) [.int .u8 (t.tos : Int), .int .u8 (t.ttl : Int), .int .u8 (t.proto : Int), .int .u16 (t.id : Int), .bool t.evil, .bool t.df, .bool t.more, .int .i64 t.off, .int .u32 (t.src : Int), .int .u32 (t.dst : Int), .slice (some ⟨io, oo, some wo⟩) os.length k1] 11)).put (n + 1) (.cells (some 47) [.int .u8 0, .int .u8 0, .int .u8 0, .int .u16 0, .bool false, .bool false, .bool false, .int .i64 0, .int .u32 0, .int .u32 0, .slice none 0 0] 11)) = H0 at *
        refine loop_use (md_loop (N := N) (by omega) (v1 := .slice none 0 0) (v2 := .pointer (some ⟨n, 0, some 11⟩)) (v4 := .pointer (some ⟨n + 1, 0, some 11⟩)) (h0 := H0) (n1 := n + 4) (q := n + 3) (hW0.mono (by omega)) (by omega) (N - 1) _ _ _ ⟨1, Nat.le_refl _, by omega, rfl, rfl, rfl⟩) (by simp) (.ofE (.left (.inr (by simp [bufB]; rfl)) (.right (.inl (by simp)) (.right (.inr (hW0 _ (by omega))) (.refl _ _))))) ?_
        rintro e σ' h' n' ⟨rfl, rfl, rfl, g1, g2, g4, g6, g7⟩
        simp -dsimp (discharger := omega) [g1, g2, g4, g6, g7, hx0, hz0, AHeap.read_of hx0, read_mono hS0 rdA0, hor, bufB, hrep, tmodP, hu, hm]
        have hmb : madeB t [] = [] := by simp [madeB]
        rw [hmb, hm] at hK
        exact hK _ none _ 0 _ _ (fun X hX => hB1 X (hX _ _ (by omega) (by simp (discharger := omega)))) .nil (by (repeat (refine HSub.new ?_ hw (by omega) _)); exact hS0) (.of fun j hj => by simp (discharger := omega) [hW0.none (i := j) (by omega)]) (by omega) (by omega)
      · simp -dsimp (discharger := omega) [B31, e40, eN, tdivP]
        refine wx_round ?_
        simp -dsimp (discharger := omega) [F31L0, aFill, aAppend, aElems]
        have hW0 : WF ((h.put n (.cells (some 47) [.int .u8 (t.tos : Int), .int .u8 (t.ttl : Int), .int .u8 (t.proto : Int), .int .u16 (t.id : Int), .bool t.evil, .bool t.df, .bool t.more, .int .i64 t.off, .int .u32 (t.src : Int), .int .u32 (t.dst : Int), .slice (some ⟨io, oo, some wo⟩) os.length k1] 11)).put (n + 1) (.cells (some 47) [.int .u8 0, .int .u8 0, .int .u8 0, .int .u16 0, .bool false, .bool false, .bool false, .int .i64 0, .int .u32 0, .int .u32 0, .slice none 0 0] 11)) (n + 2) := .of fun j hj => by simp (discharger := omega) [hw.none (i := j) (by omega)]
        have hS0 : HSub h ((h.put n (.cells (some 47) [.int .u8 (t.tos : Int), .int .u8 (t.ttl : Int), .int .u8 (t.proto : Int), .int .u16 (t.id : Int), .bool t.evil, .bool t.df, .bool t.more, .int .i64 t.off, .int .u32 (t.src : Int), .int .u32 (t.dst : Int), .slice (some ⟨io, oo, some wo⟩) os.length k1] 11)).put (n + 1) (.cells (some 47) [.int .u8 0, .int .u8 0, .int .u8 0, .int .u16 0, .bool false, .bool false, .bool false, .int .i64 0, .int .u32 0, .int .u32 0, .slice none 0 0] 11)) := by (repeat (refine HSub.new ?_ hw (by omega) _)); exact .refl _
        have hx0 : (((h.put n (.cells (some 47) [.int .u8 (t.tos : Int), .int .u8 (t.ttl : Int), .int .u8 (t.proto : Int), .int .u16 (t.id : Int), .bool t.evil, .bool t.df, .bool t.more, .int .i64 t.off, .int .u32 (t.src : Int), .int .u32 (t.dst : Int), .slice (some ⟨io, oo, some wo⟩) os.length k1] 11)).put (n + 1) (.cells (some 47) [.int .u8 0, .int .u8 0, .int .u8 0, .int .u16 0, .bool false, .bool false, .bool false, .int .i64 0, .int .u32 0, .int .u32 0, .slice none 0 0] 11))).get n = some (.cells (some 47) [.int .u8 (t.tos : Int), .int .u8 (t.ttl : Int), .int .u8 (t.proto : Int), .int .u16 (t.id : Int), .bool t.evil, .bool t.df, .bool t.more, .int .i64 t.off, .int .u32 (t.src : Int), .int .u32 (t.dst : Int), .slice (some ⟨io, oo, some wo⟩) os.length k1] 11) := by simp
        have hz0 : (((h.put n (.cells (some 47) [.int .u8 (t.tos : Int), .int .u8 (t.ttl : Int), .int .u8 (t.proto : Int), .int .u16 (t.id : Int), .bool t.evil, .bool t.df, .bool t.more, .int .i64 t.off, .int .u32 (t.src : Int), .int .u32 (t.dst : Int), .slice (some ⟨io, oo, some wo⟩) os.length k1] 11)).put (n + 1) (.cells (some 47) [.int .u8 0, .int .u8 0, .int .u8 0, .int .u16 0, .bool false, .bool false, .bool false, .int .i64 0, .int .u32 0, .int .u32 0, .slice none 0 0] 11))).get (n + 1) = some (.cells (some 47) [.int .u8 0, .int .u8 0, .int .u8 0, .int .u16 0, .bool false, .bool false, .bool false, .int .i64 0, .int .u32 0, .int .u32 0, .slice none 0 0] 11) := by simp
        generalize ((h.put n (.cells (some 47) [.int .u8 (t.tos : Int), .int .u8 (t.ttl : Int), .int .u8 (t.proto : Int), .int .u16 (t.id : Int), .bool t.evil, .bool t.df, .bool t.more, .int .i64 t.off, .int .u32 (t.src : Int), .int .u32 (t.dst : Int), .slice (some ⟨io, oo, some wo⟩) os.length k1] 11)).put (n + 1) (.cells (some 47) [.int .u8 0, .int .u8 0, .int .u8 0, .int .u16 0, .bool false, .bool false, .bool false, .int .i64 0, .int .u32 0, .int .u32 0, .slice none 0 0] 11)) = H0 at *
        refine loop_use (md_loop (N := N) (by omega) (v1 := .slice none 0 0) (v2 := .pointer (some ⟨n, 0, some 11⟩)) (v4 := .pointer (some ⟨n + 1, 0, some 11⟩)) (h0 := H0) (n1 := n + 4) (q := n + 3) (hW0.mono (by omega)) (by omega) (N - 1) _ _ _ ⟨1, Nat.le_refl _, by omega, rfl, rfl, rfl⟩) (by simp) (.ofE (.left (.inr (by simp [bufB]; rfl)) (.right (.inl (by simp)) (.right (.inr (hW0 _ (by omega))) (.refl _ _))))) ?_
        rintro e σ' h' n' ⟨rfl, rfl, rfl, g1, g2, g4, g6, g7⟩
        simp -dsimp (discharger := omega) [g1, g2, g4, g6, g7, hx0, hz0, AHeap.read_of hx0, read_mono hS0 rdA0, hor, bufB, hrep, tdivP, tmodP, hu, hm]
        have hmb : madeB t [] = [] := by simp [madeB]
        rw [hmb, hm] at hK
        exact hK _ none _ 0 _ _ (fun X hX => hB1 X (hX _ _ (by omega) (by simp (discharger := omega)))) .nil (by (repeat (refine HSub.new ?_ hw (by omega) _)); exact hS0) (.of fun j hj => by simp (discharger := omega) [hW0.none (i := j) (by omega)]) (by omega) (by omega)
    | @mk ib ob wb kb _ hrB =>
      cases hm : t.more
      · simp -dsimp (discharger := omega) [B31, e40, e300, eN, tdivP]
        refine wx_round ?_
        simp -dsimp (discharger := omega) [F31L0, aFill, aAppend, aElems]
        have hW0 : WF ((h.put n (.cells (some 47) [.int .u8 (t.tos : Int), .int .u8 (t.ttl : Int), .int .u8 (t.proto : Int), .int .u16 (t.id : Int), .bool t.evil, .bool t.df, .bool t.more, .int .i64 t.off, .int .u32 (t.src : Int), .int .u32 (t.dst : Int), .slice (some ⟨io, oo, some wo⟩) os.length k1] 11)).put (n + 1) (.cells (some 47) [.int .u8 0, .int .u8 0, .int .u8 0, .int .u16 0, .bool false, .bool false, .bool false, .int .i64 0, .int .u32 0, .int .u32 0, .slice none 0 0] 11)) (n + 2) := .of fun j hj => by simp (discharger := omega) [hw.none (i := j) (by omega)]
        have hS0 : HSub h ((h.put n (.cells (some 47) [.int .u8 (t.tos : Int), .int .u8 (t.ttl : Int), .int .u8 (t.proto : Int), .int .u16 (t.id : Int), .bool t.evil, .bool t.df, .bool t.more, .int .i64 t.off, .int .u32 (t.src : Int), .int .u32 (t.dst : Int), .slice (some ⟨io, oo, some wo⟩) os.length k1] 11)).put (n + 1) (.cells (some 47) [.int .u8 0, .int .u8 0, .int .u8 0, .int .u16 0, .bool false, .bool false, .bool false, .int .i64 0, .int .u32 0, .int .u32 0, .slice none 0 0] 11)) := by (repeat (refine HSub.new ?_ hw (by omega) _)); exact .refl _
        have hx0 : (((h.put n (.cells (some 47) [.int .u8 (t.tos : Int), .int .u8 (t.ttl : Int), .int .u8 (t.proto : Int), .int .u16 (t.id : Int), .bool t.evil, .bool t.df, .bool t.more, .int .i64 t.off, .int .u32 (t.src : Int), .int .u32 (t.dst : Int), .slice (some ⟨io, oo, some wo⟩) os.length k1] 11)).put (n + 1) (.cells (some 47) [.int .u8 0, .int .u8 0, .int .u8 0, .int .u16 0, .bool false, .bool false, .bool false, .int .i64 0, .int .u32 0, .int .u32 0, .slice none 0 0] 11))).get n = some (.cells (some 47) [.int .u8 (t.tos : Int), .int .u8 (t.ttl : Int), .int .u8 (t.proto : Int), .int .u16 (t.id : Int), .bool t.evil, .bool t.df, .bool t.more, .int .i64 t.off, .int .u32 (t.src : Int), .int .u32 (t.dst : Int), .slice (some ⟨io, oo, some wo⟩) os.length k1] 11) := by simp
        have hz0 : (((h.put n (.cells (some 47) [.int .u8 (t.tos : Int), .int .u8 (t.ttl : Int), .int .u8 (t.proto : Int), .int .u16 (t.id : Int), .bool t.evil, .bool t.df, .bool t.more, .int .i64 t.off, .int .u32 (t.src : Int), .int .u32 (t.dst : Int), .slice (some ⟨io, oo, some wo⟩) os.length k1] 11)).put (n + 1) (.cells (some 47) [.int .u8 0, .int .u8 0, .int .u8 0, .int .u16 0, .bool false, .bool false, .bool false, .int .i64 0, .int .u32 0, .int .u32 0, .slice none 0 0] 11))).get (n + 1) = some (.cells (some 47) [.int .u8 0, .int .u8 0, .int .u8 0, .int .u16 0, .bool false, .bool false, .bool false, .int .i64 0, .int .u32 0, .int .u32 0, .slice none 0 0] 11) := by simp
        generalize ((h.put n (.cells (some 47) [.int .u8 (t.tos : Int), .int .u8 (t.ttl : Int), .int .u8 (t.proto : Int), .int .u16 (t.id : Int), .bool t.evil, .bool t.df, .bool t.more, .int .i64 t.off, .int .u32 (t.src : Int), .int .u32 (t.dst : Int), .slice (some ⟨io, oo, some wo⟩) os.length k1] 11)).put (n + 1) (.cells (some 47) [.int .u8 0, .int .u8 0, .int .u8 0, .int .u16 0, .bool false, .bool false, .bool false, .int .i64 0, .int .u32 0, .int .u32 0, .slice none 0 0] 11)) = H0 at *
        refine loop_use (md_loop (N := N) (by omega) (v1 := .slice (some ⟨ib, ob, some wb⟩) c (if kb % 2 = 1 then kb else if kb = 2 then kb else 0)) (v2 := .pointer (some ⟨n, 0, some 11⟩)) (v4 := .pointer (some ⟨n + 1, 0, some 11⟩)) (h0 := H0) (n1 := n + 4) (q := n + 3) (hW0.mono (by omega)) (by omega) (N - 1) _ _ _ ⟨1, Nat.le_refl _, by omega, rfl, rfl, rfl⟩) (by simp) (.ofE (.left (.inr (by simp [bufB]; rfl)) (.right (.inl (by simp)) (.right (.inr (hW0 _ (by omega))) (.refl _ _))))) ?_
        rintro e σ' h' n' ⟨rfl, rfl, rfl, g1, g2, g4, g6, g7⟩
        simp -dsimp (discharger := omega) [g1, g2, g4, g6, g7, hx0, hz0, AHeap.read_of hx0, read_mono hS0 rdA0, hor, bufB, hrep, tmodP, hu, hm]
        rw [hm] at hmB
        rw [if_neg (by decide)] at hmB
        rw [hmB, hm, hlc] at hK
        have rdB := bs_sub hrB (Nat.zero_le c) (by omega)
        simp only [Nat.add_zero, Nat.sub_zero, List.drop_zero] at rdB
        exact hK _ _ _ _ _ _ (fun X hX => hB1 X (hX _ _ (by omega) (by simp (discharger := omega)))) (bs_at hlc rdB) (by (repeat (refine HSub.new ?_ hw (by omega) _)); exact hS0) (.of fun j hj => by simp (discharger := omega) [hW0.none (i := j) (by omega)]) (by omega) (by omega)
      · simp -dsimp (discharger := omega) [B31, e40, e300, eN, tdivP]
        refine wx_round ?_
        simp -dsimp (discharger := omega) [F31L0, aFill, aAppend, aElems]
        have hW0 : WF ((h.put n (.cells (some 47) [.int .u8 (t.tos : Int), .int .u8 (t.ttl : Int), .int .u8 (t.proto : Int), .int .u16 (t.id : Int), .bool t.evil, .bool t.df, .bool t.more, .int .i64 t.off, .int .u32 (t.src : Int), .int .u32 (t.dst : Int), .slice (some ⟨io, oo, some wo⟩) os.length k1] 11)).put (n + 1) (.cells (some 47) [.int .u8 0, .int .u8 0, .int .u8 0, .int .u16 0, .bool false, .bool false, .bool false, .int .i64 0, .int .u32 0, .int .u32 0, .slice none 0 0] 11)) (n + 2) := .of fun j hj => by simp (discharger := omega) [hw.none (i := j) (by omega)]
        have hS0 : HSub h ((h.put n (.cells (some 47) [.int .u8 (t.tos : Int), .int .u8 (t.ttl : Int), .int .u8 (t.proto : Int), .int .u16 (t.id : Int), .bool t.evil, .bool t.df, .bool t.more, .int .i64 t.off, .int .u32 (t.src : Int), .int .u32 (t.dst : Int), .slice (some ⟨io, oo, some wo⟩) os.length k1] 11)).put (n + 1) (.cells (some 47) [.int .u8 0, .int .u8 0, .int .u8 0, .int .u16 0, .bool false, .bool false, .bool false, .int .i64 0, .int .u32 0, .int .u32 0, .slice none 0 0] 11)) := by (repeat (refine HSub.new ?_ hw (by omega) _)); exact .refl _
        have hx0 : (((h.put n (.cells (some 47) [.int .u8 (t.tos : Int), .int .u8 (t.ttl : Int), .int .u8 (t.proto : Int), .int .u16 (t.id : Int), .bool t.evil, .bool t.df, .bool t.more, .int .i64 t.off, .int .u32 (t.src : Int), .int .u32 (t.dst : Int), .slice (some ⟨io, oo, some wo⟩) os.length k1] 11)).put (n + 1) (.cells (some 47) [.int .u8 0, .int .u8 0, .int .u8 0, .int .u16 0, .bool false, .bool false, .bool false, .int .i64 0, .int .u32 0, .int .u32 0, .slice none 0 0] 11))).get n = some (.cells (some 47) [.int .u8 (t.tos : Int), .int .u8 (t.ttl : Int), .int .u8 (t.proto : Int), .int .u16 (t.id : Int), .bool t.evil, .bool t.df, .bool t.more, .int .i64 t.off, .int .u32 (t.src : Int), .int .u32 (t.dst : Int), .slice (some ⟨io, oo, some wo⟩) os.length k1] 11) := by simp
        have hz0 : (((h.put n (.cells (some 47) [.int .u8 (t.tos : Int), .int .u8 (t.ttl : Int), .int .u8 (t.proto : Int), .int .u16 (t.id : Int), .bool t.evil, .bool t.df, .bool t.more, .int .i64 t.off, .int .u32 (t.src : Int), .int .u32 (t.dst : Int), .slice (some ⟨io, oo, some wo⟩) os.length k1] 11)).put (n + 1) (.cells (some 47) [.int .u8 0, .int .u8 0, .int .u8 0, .int .u16 0, .bool false, .bool false, .bool false, .int .i64 0, .int .u32 0, .int .u32 0, .slice none 0 0] 11))).get (n + 1) = some (.cells (some 47) [.int .u8 0, .int .u8 0, .int .u8 0, .int .u16 0, .bool false, .bool false, .bool false, .int .i64 0, .int .u32 0, .int .u32 0, .slice none 0 0] 11) := by simp
        generalize ((h.put n (.cells (some 47) [.int .u8 (t.tos : Int), .int .u8 (t.ttl : Int), .int .u8 (t.proto : Int), .int .u16 (t.id : Int), .bool t.evil, .bool t.df, .bool t.more, .int .i64 t.off, .int .u32 (t.src : Int), .int .u32 (t.dst : Int), .slice (some ⟨io, oo, some wo⟩) os.length k1] 11)).put (n + 1) (.cells (some 47) [.int .u8 0, .int .u8 0, .int .u8 0, .int .u16 0, .bool false, .bool false, .bool false, .int .i64 0, .int .u32 0, .int .u32 0, .slice none 0 0] 11)) = H0 at *
        refine loop_use (md_loop (N := N) (by omega) (v1 := .slice (some ⟨ib, ob, some wb⟩) c (if kb % 2 = 1 then kb else if kb = 2 then kb else 0)) (v2 := .pointer (some ⟨n, 0, some 11⟩)) (v4 := .pointer (some ⟨n + 1, 0, some 11⟩)) (h0 := H0) (n1 := n + 4) (q := n + 3) (hW0.mono (by omega)) (by omega) (N - 1) _ _ _ ⟨1, Nat.le_refl _, by omega, rfl, rfl, rfl⟩) (by simp) (.ofE (.left (.inr (by simp [bufB]; rfl)) (.right (.inl (by simp)) (.right (.inr (hW0 _ (by omega))) (.refl _ _))))) ?_
        rintro e σ' h' n' ⟨rfl, rfl, rfl, g1, g2, g4, g6, g7⟩
        simp -dsimp (discharger := omega) [g1, g2, g4, g6, g7, hx0, hz0, AHeap.read_of hx0, read_mono hS0 rdA0, hor, bufB, hrep, tdivP, tmodP, hu, e8, hm]
        rw [hm] at hmB
        rw [if_pos rfl] at hmB
        rw [hmB, hm, hlc8] at hK
        have rdB := bs_sub hrB (Nat.zero_le c8) (by omega)
        simp only [Nat.add_zero, Nat.sub_zero, List.drop_zero] at rdB
        exact hK _ _ _ _ _ _ (fun X hX => hB1 X (hX _ _ (by omega) (by simp (discharger := omega)))) (bs_at hlc8 rdB) (by (repeat (refine HSub.new ?_ hw (by omega) _)); exact hS0) (.of fun j hj => by simp (discharger := omega) [hW0.none (i := j) (by omega)]) (by omega) (by omega)
end
end Go.Proofs.YtiemkafpijhlmaaDoor.Am
namespace Go.Proofs.YtiemkafpijhlmaaDoor.Am
noncomputable section
/- THE LAW's WALK: there and back; its regions. -/
set_option maxHeartbeats 8000000 in
theorem r7_1 {t : HdN} {σ : Fr} {H : AHeap} {n p4 p11 l4 l11 k4 k11 : Nat} {a4 a11 : Option Addr} {v1 v12 : Value} {os bs : List UInt8}
    (x4 : H.get p4 = some (.cells (some 47) [.int .u8 (t.tos : Int), .int .u8 (t.ttl : Int), .int .u8 (t.proto : Int), .int .u16 (t.id : Int), .bool t.evil, .bool t.df, .bool t.more, .int .i64 t.off, .int .u32 (t.src : Int), .int .u32 (t.dst : Int), .slice a4 l4 k4] 11)) (x11 : H.get p11 = some (.cells (some 47) [.int .u8 (t.tos : Int), .int .u8 (t.ttl : Int), .int .u8 (t.proto : Int), .int .u16 (t.id : Int), .bool t.evil, .bool t.df, .bool t.more, .int .i64 t.off, .int .u32 (t.src : Int), .int .u32 (t.dst : Int), .slice a11 l11 k11] 11)) (n4 : p4 < n) (n11 : p11 < n) (o4 : BS H (.slice a4 l4 k4) os) (o11 : BS H (.slice a11 l11 k11) os) (h1 : BS H v1 bs) (h12 : BS H v12 bs)
    (g4 : σ.get 4 = some (.pointer (some ⟨p4, 0, some 11⟩))) (g11 : σ.get 11 = some (.pointer (some ⟨p11, 0, some 11⟩))) (g1 : σ.get 1 = some v1) (g12 : σ.get 12 = some v12) (g13 : σ.get 13 = some (.int .i64 0)) (hw : WF H n)
    {C : ACode} {Q : Ex → Fr → AHeap → Nat → Prop} (K : ∀ (σ' : Fr) (m : Nat), σ'.get 87 = some (.bool false) → (∀ i, i < 22 → σ'.get i = σ.get i) → n ≤ m → m ≤ n + 20 → wx EV06 C σ' H m Q ⟨⟩) : wx EV06 R7_1 σ H n (kThen EV06 C Q ⟨⟩) ⟨⟩ := by
  have hb0 : bytesOf? [] = some [] := rfl
  have r4 := AHeap.read_of (g := 11) (o := 0) (m := 11) x4
  have r11 := AHeap.read_of (g := 11) (o := 0) (m := 11) x11
  have f4 : ∀ {m : Nat}, n ≤ m → Ret EV06 22 [hdV t (.slice a4 l4 k4)] H m (hdV t (.slice a4 l4 k4)) [] (m + 2) := fun {m} hm => of_ret t (hw.mono hm)
  have f11 : ∀ {m : Nat}, n ≤ m → Ret EV06 22 [hdV t (.slice a11 l11 k11)] H m (hdV t (.slice a11 l11 k11)) [] (m + 2) := fun {m} hm => of_ret t (hw.mono hm)
  have s1 : ∀ {m : Nat}, n ≤ m → Ret EV06 30 [hdV t (.slice a11 l11 k11), hdV t (.slice a4 l4 k4)] H m (.bool true) [] (m + 2) := fun {m} hm => same_ret o11 o4 (hw.mono hm)
  cases h12 with
  | nil =>
    cases h1 with
    | nil =>
      simp -dsimp (discharger := omega) [g11, g13, r11]
      with_reducible refine ret_ret (f11 (Nat.le_refl _)) ?_
      simp -dsimp (discharger := omega) [g4, r4]
      with_reducible refine ret_ret (f4 (by omega)) ?_
      simp -dsimp (discharger := omega) []
      with_reducible refine ret_ret (s1 (by omega)) ?_
      simp -dsimp (discharger := omega) [g1, g12]
      exact K _ _ (by simp) (fun i hi => by simp (discharger := omega) []) (by omega) (by omega)
    | @mk i1 q1 w1 c1 _ hr1 =>
      try simp only [List.length_nil] at hr1
      simp -dsimp (discharger := omega) [g11, g13, r11]
      with_reducible refine ret_ret (f11 (Nat.le_refl _)) ?_
      simp -dsimp (discharger := omega) [g4, r4]
      with_reducible refine ret_ret (f4 (by omega)) ?_
      simp -dsimp (discharger := omega) []
      with_reducible refine ret_ret (s1 (by omega)) ?_
      simp -dsimp (discharger := omega) [g1, g12, hb0, hr1]
      exact K _ _ (by simp) (fun i hi => by simp (discharger := omega) []) (by omega) (by omega)
  | @mk i12 q12 w12 c12 _ hr12 =>
    cases h1 with
    | nil =>
      try simp only [List.length_nil] at hr12
      simp -dsimp (discharger := omega) [g11, g13, r11]
      with_reducible refine ret_ret (f11 (Nat.le_refl _)) ?_
      simp -dsimp (discharger := omega) [g4, r4]
      with_reducible refine ret_ret (f4 (by omega)) ?_
      simp -dsimp (discharger := omega) []
      with_reducible refine ret_ret (s1 (by omega)) ?_
      simp -dsimp (discharger := omega) [g1, g12, hb0, hr12]
      exact K _ _ (by simp) (fun i hi => by simp (discharger := omega) []) (by omega) (by omega)
    | @mk i1 q1 w1 c1 _ hr1 =>
      try simp only [List.length_nil] at hr12
      try simp only [List.length_nil] at hr1
      simp -dsimp (discharger := omega) [g11, g13, r11]
      with_reducible refine ret_ret (f11 (Nat.le_refl _)) ?_
      simp -dsimp (discharger := omega) [g4, r4]
      with_reducible refine ret_ret (f4 (by omega)) ?_
      simp -dsimp (discharger := omega) []
      with_reducible refine ret_ret (s1 (by omega)) ?_
      simp -dsimp (discharger := omega) [g1, g12, hr12, hr1]
      exact K _ _ (by simp) (fun i hi => by simp (discharger := omega) []) (by omega) (by omega)
set_option maxHeartbeats 8000000 in
theorem r7_2 {t : HdN} {σ : Fr} {H : AHeap} {n p4 p18 l4 l18 k4 k18 k N : Nat} {a4 a18 : Option Addr} {v1 v19 : Value} {os bs : List UInt8}
    (x4 : H.get p4 = some (.cells (some 47) [.int .u8 (t.tos : Int), .int .u8 (t.ttl : Int), .int .u8 (t.proto : Int), .int .u16 (t.id : Int), .bool t.evil, .bool t.df, .bool t.more, .int .i64 t.off, .int .u32 (t.src : Int), .int .u32 (t.dst : Int), .slice a4 l4 k4] 11)) (x18 : H.get p18 = some (.cells (some 47) [.int .u8 (t.tos : Int), .int .u8 (t.ttl : Int), .int .u8 (t.proto : Int), .int .u16 (t.id : Int), .bool t.evil, .bool t.df, .bool t.more, .int .i64 t.off, .int .u32 (t.src : Int), .int .u32 (t.dst : Int), .slice a18 l18 k18] 11)) (n4 : p4 < n) (n18 : p18 < n) (o4 : BS H (.slice a4 l4 k4) os) (o18 : BS H (.slice a18 l18 k18) os) (h1 : BS H v1 bs) (h19 : BS H v19 (bs.take (k - N))) (hk1 : N ≤ k) (hk2 : k - N ≤ bs.length) (hkl : k < 100000) (hbl : bs.length < 100000)
    (g4 : σ.get 4 = some (.pointer (some ⟨p4, 0, some 11⟩))) (g18 : σ.get 18 = some (.pointer (some ⟨p18, 0, some 11⟩))) (g1 : σ.get 1 = some v1) (g19 : σ.get 19 = some v19) (g20 : σ.get 20 = some (.int .i64 0)) (g14 : σ.get 14 = some (.int .i64 (k : Int))) (g21 : σ.get 21 = some (.int .i64 (N : Int)))
    (hw : WF H n) (hp : HasPow H) (he : HasErrs H) (hn : 4096 ≤ n) {Q : Ex → Fr → AHeap → Nat → Prop} (K : ∀ (σ' : Fr) (m : Nat), σ'.get 8 = some (.bool true) → Q .normal σ' H m) : wx EV06 R7_2 σ H n Q ⟨⟩ := by
  have hb0 : bytesOf? [] = some [] := rfl
  have r4 := AHeap.read_of (g := 11) (o := 0) (m := 11) x4
  have r18 := AHeap.read_of (g := 11) (o := 0) (m := 11) x18
  have f4 : ∀ {m : Nat}, n ≤ m → Ret EV06 22 [hdV t (.slice a4 l4 k4)] H m (hdV t (.slice a4 l4 k4)) [] (m + 2) := fun {m} hm => of_ret t (hw.mono hm)
  have f18 : ∀ {m : Nat}, n ≤ m → Ret EV06 22 [hdV t (.slice a18 l18 k18)] H m (hdV t (.slice a18 l18 k18)) [] (m + 2) := fun {m} hm => of_ret t (hw.mono hm)
  have s1 : ∀ {m : Nat}, n ≤ m → Ret EV06 30 [hdV t (.slice a18 l18 k18), hdV t (.slice a4 l4 k4)] H m (.bool true) [] (m + 2) := fun {m} hm => same_ret o18 o4 (hw.mono hm)
  have hT : ∀ {m : Nat}, n ≤ m → Ret EV06 19 [] H m (.bool true) [] (m + 100) := fun {m} hm => tells_ret (hw.mono hm) hp he (by omega)
  have ekn : (k : Int) - (N : Int) = ((k - N : Nat) : Int) := by omega
  generalize hM : k - N = M at *
  have hlt : (bs.take M).length = M := by rw [List.length_take]; omega
  cases h1 with
  | nil =>
    have hM0 : M = 0 := by simpa using hk2
    subst hM0
    simp only [List.take_nil] at h19
    have hkN : (k : Int) - (N : Int) = 0 := by omega
    cases h19 with
    | nil =>
      simp -dsimp (discharger := omega) [g18, g20, r18]
      with_reducible refine ret_ret (f18 (Nat.le_refl _)) ?_
      simp -dsimp (discharger := omega) [g4, r4]
      with_reducible refine ret_ret (f4 (by omega)) ?_
      simp -dsimp (discharger := omega) []
      with_reducible refine ret_ret (s1 (by omega)) ?_
      simp -dsimp (discharger := omega) [g1, g14, g19, g21, hkN]
      with_reducible refine ret_ret (hT (by omega)) ?_
      simp -dsimp (discharger := omega) []
      exact K _ _ (by simp)
    | @mk i19 q19 w19 c19 _ hr19 =>
      simp only [List.length_nil] at hr19
      simp -dsimp (discharger := omega) [g18, g20, r18]
      with_reducible refine ret_ret (f18 (Nat.le_refl _)) ?_
      simp -dsimp (discharger := omega) [g4, r4]
      with_reducible refine ret_ret (f4 (by omega)) ?_
      simp -dsimp (discharger := omega) []
      with_reducible refine ret_ret (s1 (by omega)) ?_
      simp -dsimp (discharger := omega) [g1, g14, g19, g21, hb0, hr19, hkN]
      with_reducible refine ret_ret (hT (by omega)) ?_
      simp -dsimp (discharger := omega) []
      exact K _ _ (by simp)
  | @mk i1 q1 w1 c1 _ hr1 =>
    have hr2 := bs_sub hr1 (Nat.zero_le M) hk2
    simp only [Nat.add_zero, Nat.sub_zero, List.drop_zero] at hr2
    generalize hBT : bs.take M = bt at *
    cases h19 with
    | nil =>
      simp only [List.length_nil] at hlt
      subst hlt
      simp -dsimp (discharger := omega) [g18, g20, r18]
      with_reducible refine ret_ret (f18 (Nat.le_refl _)) ?_
      simp -dsimp (discharger := omega) [g4, r4]
      with_reducible refine ret_ret (f4 (by omega)) ?_
      simp -dsimp (discharger := omega) []
      with_reducible refine ret_ret (s1 (by omega)) ?_
      simp -dsimp (discharger := omega) [g1, g14, g19, g21, hb0, ekn, hr2]
      with_reducible refine ret_ret (hT (by omega)) ?_
      simp -dsimp (discharger := omega) []
      exact K _ _ (by simp)
    | @mk i19 q19 w19 c19 _ hr19 =>
      rw [hlt] at hr19
      simp -dsimp (discharger := omega) [g18, g20, r18]
      with_reducible refine ret_ret (f18 (Nat.le_refl _)) ?_
      simp -dsimp (discharger := omega) [g4, r4]
      with_reducible refine ret_ret (f4 (by omega)) ?_
      simp -dsimp (discharger := omega) []
      with_reducible refine ret_ret (s1 (by omega)) ?_
      simp -dsimp (discharger := omega) [g1, g14, g19, g21, ekn, hr2, hlt, hr19]
      with_reducible refine ret_ret (hT (by omega)) ?_
      simp -dsimp (discharger := omega) []
      exact K _ _ (by simp)
end
end Go.Proofs.YtiemkafpijhlmaaDoor.Am
