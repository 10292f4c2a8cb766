/- Contracts of the program's functions (X4). -/
import Derived.Test.YtiemkafpijhlmaaDoorX3
namespace Go.Proofs.YtiemkafpijhlmaaDoor.Am
noncomputable section
/- CONTRACTS: a head got. -/
def getE (bs : List UInt8) : Nat := if cutE bs = 0 then (if bs.length < wN bs 2 then 4 else if fitsB (hdOf bs) (bodyOf bs).length = true then 0 else 5) else cutE bs
theorem cut_beg {bs : List UInt8} (h : cutE bs = 0) : begE bs = 0 := by
  by_cases hB : begE bs = 0
  · exact hB
  · exfalso; unfold cutE at h; rw [if_neg hB] at h; exact hB h
theorem cutE_le (bs : List UInt8) : cutE bs ≤ 21 := by
  unfold cutE begE; repeat' split
  all_goals omega
theorem hdOf_off (bs : List UInt8) : 0 ≤ (hdOf bs).off ∧ (hdOf bs).off < 8192 := by
  show 0 ≤ ((wN bs 6 % 8192 : Nat) : Int) ∧ ((wN bs 6 % 8192 : Nat) : Int) < 8192
  omega
theorem bodyOf_le (bs : List UInt8) : (bodyOf bs).length ≤ bs.length := by
  rw [bodyOf, List.length_drop, List.length_take]; omega
set_option maxHeartbeats 4000000 in
theorem get_ret {bs : List UInt8} {v : Value} {h : AHeap} (hb : BS h v bs) (hl : bs.length < 100000) {n : Nat} (hw : WF h n) :
    (¬ getE bs = 0 → Ret EV06 27 [v] h n (.tuple #[hdV hd0 (.slice none 0 0), .slice none 0 0, .int .i64 (getE bs : Int)]) [] (n + 10)) ∧
    (getE bs = 0 → Ret EV06 27 [v] h n (.tuple #[hdV (hdOf bs) (.slice (some ⟨n + 3, 0, some (optsOf bs).length⟩) (optsOf bs).length 2), .slice (some ⟨n + 4, 0, some (bodyOf bs).length⟩) (bodyOf bs).length 2, .int .i64 0]) [(n + 3, bufB (optsOf bs) 0), (n + 4, bufB (bodyOf bs) 0)] (n + 10)) := by
  have hsub : HSub h (h.put n (.cells (some 47) [.int .u8 0, .int .u8 0, .int .u8 0, .int .u16 0, .bool false, .bool false, .bool false, .int .i64 0, .int .u32 0, .int .u32 0, .slice none 0 0] 11)) := HSub.new (.refl _) hw (by omega) _
  have hw1 : WF (h.put n (.cells (some 47) [.int .u8 0, .int .u8 0, .int .u8 0, .int .u16 0, .bool false, .bool false, .bool false, .int .i64 0, .int .u32 0, .int .u32 0, .slice none 0 0] 11)) (n + 1) := .of fun j hj => by simp (discharger := omega) [hw.none (i := j) (by omega)]
  have hb1 := BS.mono hsub hb
  by_cases hc : cutE bs = 0
  · have hk := cut_ok hb1 hl hc hw1
    have hB := cut_beg hc
    obtain ⟨b1, b2, b3, b4, b5⟩ := beg_ok hB
    have hbl := bodyOf_le bs
    have hoff := hdOf_off bs
    have hw2l := wN_lt bs 2
    cases hb with
    | nil => simp at b1
    | @mk i o g k _ hr =>
      have hi := read_lt hw hr
      have hwd : ∀ {H : AHeap} {m kk nn : Nat}, H.read i g o bs.length = some (u8s bs) → 2 ≤ m → Ret EV06 47 [.slice (some ⟨i, o + 2, some g⟩) m kk] H nn (.int .u16 ((wN bs 2 : Nat) : Int)) [] nn := fun {H m kk nn} hr hm => word_ret (at_read hr (by omega)) (by rw [Nat.add_assoc]; exact at_read hr (by omega)) hm
      have hrr : ∀ {A B C D : Blk}, ((((h.put n A).put (n + 1 + 2) B).put (n + 1 + 3) C).put n D).read i g o bs.length = some (u8s bs) := fun {A B C D} => by
        rw [AHeap.read_put, if_neg (by omega), AHeap.read_put, if_neg (by omega), AHeap.read_put, if_neg (by omega), AHeap.read_put, if_neg (by omega)]; exact hr
      have hW : ∀ {A B C D : Blk} {m : Nat}, n + 5 ≤ m → WF ((((h.put n A).put (n + 1 + 2) B).put (n + 1 + 3) C).put n D) m := fun {A B C D m} hm => .of fun j hj => by simp (discharger := omega) [hw.none (i := j) (by omega)]
      by_cases c1 : bs.length < wN bs 2
      · have e : getE bs = 4 := by unfold getE; rw [if_pos hc, if_pos c1]
        rw [e]
        refine ⟨fun _ => ?_, fun h => by cases h⟩
        refine rsx27 (by simp) (by simp) ?_
        simp -dsimp (discharger := omega) [B27]
        with_reducible refine call_ret hk ?_
        simp -dsimp (discharger := omega) []
        with_reducible refine call_ret (hwd hrr (by omega)) ?_
        simp -dsimp (discharger := omega) [aFill, hd0]
        repeat (refine HSub.new ?_ hw (by omega) _)
        exact .refl _
      · cases c2 : fitsB (hdOf bs) (bodyOf bs).length
        · have e : getE bs = 5 := by unfold getE; rw [if_pos hc, if_neg c1, if_neg (by rw [c2]; decide)]
          rw [e]
          refine ⟨fun _ => ?_, fun h => by cases h⟩
          refine rsx27 (by simp) (by simp) ?_
          simp -dsimp (discharger := omega) [B27]
          with_reducible refine call_ret hk ?_
          simp -dsimp (discharger := omega) []
          with_reducible refine call_ret (hwd hrr (by omega)) ?_
          simp -dsimp (discharger := omega) []
          with_reducible refine call_ret (fits_ret (t := hdOf bs) (m := (bodyOf bs).length) (by omega) (by omega) (by omega) (hW (by omega))) ?_
          simp -dsimp (discharger := omega) [c2, aFill, hd0]
          repeat (refine HSub.new ?_ hw (by omega) _)
          exact .refl _
        · have e : getE bs = 0 := by unfold getE; rw [if_pos hc, if_neg c1, if_pos c2]
          rw [e]
          refine ⟨fun h => absurd rfl h, fun _ => ?_⟩
          refine rsx27 (by simp) (by simp) ?_
          simp -dsimp (discharger := omega) [B27]
          with_reducible refine call_ret hk ?_
          simp -dsimp (discharger := omega) []
          with_reducible refine call_ret (hwd hrr (by omega)) ?_
          simp -dsimp (discharger := omega) []
          with_reducible refine call_ret (fits_ret (t := hdOf bs) (m := (bodyOf bs).length) (by omega) (by omega) (by omega) (hW (by omega))) ?_
          simp -dsimp (discharger := omega) [c2]
          refine fun q B hq => ?_
          rw [AHeap.get_put, AHeap.get_put] at hq
          by_cases e3 : n + 4 = q
          · subst e3
            rw [if_pos rfl] at hq
            simp (discharger := omega) [hq]
          · rw [if_neg e3] at hq
            by_cases e2 : n + 3 = q
            · subst e2
              rw [if_pos rfl] at hq
              simp (discharger := omega) [hq]
            · rw [if_neg e2] at hq
              have hlt := hw.lt hq
              simp (discharger := omega) [hq]
  · have e : getE bs = cutE bs := by unfold getE; rw [if_neg hc]
    have := cutE_le bs
    rw [e]
    refine ⟨fun _ => ?_, fun h => absurd h hc⟩
    obtain ⟨a, k, rfl⟩ := hb.shape
    refine rsx27 (by simp) (by simp) ?_
    simp -dsimp (discharger := omega) [B27]
    with_reducible refine call_ret (cut_bad hb1 hl hc hw1) ?_
    simp -dsimp (discharger := omega) [aFill, hd0]
    repeat (refine HSub.new ?_ hw (by omega) _)
    exact .refl _
end
end Go.Proofs.YtiemkafpijhlmaaDoor.Am
namespace Go.Proofs.YtiemkafpijhlmaaDoor.Am
noncomputable section
/- CONTRACTS of the document: a head read. -/
theorem touch_read1 {h : AHeap} {i g o m : Nat} : (touch [i] h).read i g o m = h.read i g o m := by
  unfold AHeap.read
  simp
def readE (w : Bool) (bs : List UInt8) : Nat := if w then getE bs else cutE bs
set_option maxHeartbeats 4000000 in
theorem read_short {bs : List UInt8} {v : Value} {h : AHeap} (hb : BS h v bs) (h20 : bs.length < 20) (w : Bool) {n : Nat} (hw : WF h n) :
    readE w bs = 4 ∧ Ret EV06 29 [v, .bool w] h n (.tuple #[hdV hd0 (.slice none 0 0), .slice none 0 0, .int .i64 4]) [] (n + 10) := by
  have e : cutE bs = 4 := by unfold cutE; rw [if_neg (by rw [beg_short h20]; decide), beg_short h20]
  refine ⟨by unfold readE getE; rw [e]; cases w <;> rfl, ?_⟩
  obtain ⟨a, k, rfl⟩ := hb.shape
  refine rsx29 (by simp) (by simp) ?_
  simp -dsimp (discharger := omega) [B29, aFill, hd0]
  repeat (refine HSub.new ?_ hw (by omega) _)
  exact .refl _
set_option maxHeartbeats 8000000 in
theorem read_ret {bs : List UInt8} {i o g k : Nat} {h : AHeap} (hr : h.read i g o bs.length = some (u8s bs)) (h20 : 20 ≤ bs.length) (hl : bs.length < 100000) (w : Bool) {n : Nat} (hw : WF h n) :
    (¬ readE w bs = 0 → Ret EV06 29 [.slice (some ⟨i, o, some g⟩) bs.length k, .bool w] h n (.tuple #[hdV hd0 (.slice none 0 0), .slice none 0 0, .int .i64 (readE w bs : Int)]) [] (n + 10)) ∧
    (readE w bs = 0 → Ret EV06 29 [.slice (some ⟨i, o, some g⟩) bs.length k, .bool w] h n (.tuple #[hdV (hdOf bs) (.slice (some ⟨i, o + 20, some g⟩) (optsOf bs).length (if k % 2 = 1 then k - 40 else if k = 2 then k else 0)), .slice (some ⟨i, o + hlN bs, some g⟩) (bodyOf bs).length (if k % 2 = 1 then k - 2 * hlN bs else if k = 2 then k else 0), .int .i64 0]) [] (n + 10)) := by
  have hi := read_lt hw hr
  have hog := read_bd hr
  have h60 := hlN_le bs
  have hw2l := wN_lt bs 2
  have hrP : ∀ {A : Blk} {oo mm : Nat} {l : List Value}, h.read i g oo mm = some l → (h.put n A).read i g oo mm = some l := fun {A oo mm l} e => by
    rw [AHeap.read_put, if_neg (by omega)]; exact e
  have r0 := at_read hr (j := 0) (by omega)
  simp only [Nat.add_zero] at r0
  have hn2 : ∀ {H : AHeap} {j kk nn : Nat}, H.read i g o bs.length = some (u8s bs) → j + 1 < bs.length → Ret EV06 52 [.slice (some ⟨i, o + j, some g⟩) 2 kk] H nn (.int .i64 ((wN bs j : Nat) : Int)) [] nn := fun {H j kk nn} hr hj => number2_ret (at_read hr (by omega)) (by rw [Nat.add_assoc]; exact at_read hr (by omega))
  have hn4 : ∀ {H : AHeap} {j kk nn : Nat}, H.read i g o bs.length = some (u8s bs) → j + 3 < bs.length → Ret EV06 52 [.slice (some ⟨i, o + j, some g⟩) 4 kk] H nn (.int .i64 ((65536 * wN bs j + wN bs (j + 2) : Nat) : Int)) [] nn := fun {H j kk nn} hr hj => number4_ret (at_read hr (by omega)) (by rw [Nat.add_assoc]; exact at_read hr (by omega)) (by rw [Nat.add_assoc]; exact at_read hr (by omega)) (by rw [Nat.add_assoc]; exact at_read hr (by omega))
  have hA := (atB bs 0).toNat_lt
  have hhl : hlN bs = 4 * ((atB bs 0).toNat % 16) := rfl
  by_cases c1 : (atB bs 0).toNat / 16 = 4
  · by_cases c2 : hlN bs < 20
    · have e : begE bs = 5 := by unfold begE; rw [if_neg (by omega), if_pos (.inr c2)]
      have e2 : cutE bs = 5 := by unfold cutE; rw [if_neg (by omega), e]
      have e3 : readE w bs = 5 := by unfold readE getE; rw [e2]; cases w <;> rfl
      rw [e3]
      refine ⟨fun _ => ?_, fun h => by cases h⟩
      refine rsx29 (by simp) (by simp) ?_
      simp -dsimp (discharger := omega) [B29, r0, tmodP, tdivP, aFill, hd0]
      repeat (refine HSub.new ?_ hw (by omega) _)
      exact .refl _
    · by_cases c3 : bs.length < hlN bs
      · have e : begE bs = 4 := by unfold begE; rw [if_neg (by omega), if_neg (by omega), if_pos c3]
        have e2 : cutE bs = 4 := by unfold cutE; rw [if_neg (by omega), e]
        have e3 : readE w bs = 4 := by unfold readE getE; rw [e2]; cases w <;> rfl
        rw [e3]
        refine ⟨fun _ => ?_, fun h => by cases h⟩
        refine rsx29 (by simp) (by simp) ?_
        simp -dsimp (discharger := omega) [B29, r0, tmodP, tdivP, aFill, hd0]
        repeat (refine HSub.new ?_ hw (by omega) _)
        exact .refl _
      · by_cases c4 : wN bs 2 < hlN bs
        · have e : begE bs = 5 := by unfold begE; rw [if_neg (by omega), if_neg (by omega), if_neg c3, if_pos c4]
          have e2 : cutE bs = 5 := by unfold cutE; rw [if_neg (by omega), e]
          have e3 : readE w bs = 5 := by unfold readE getE; rw [e2]; cases w <;> rfl
          rw [e3]
          refine ⟨fun _ => ?_, fun h => by cases h⟩
          refine rsx29 (by simp) (by simp) ?_
          simp -dsimp (discharger := omega) [B29, r0, tmodP, tdivP]
          with_reducible refine call_ret (hn2 (hrP hr) (by omega)) ?_
          simp -dsimp (discharger := omega) [aFill, hd0]
          repeat (refine HSub.new ?_ hw (by omega) _)
          exact .refl _
        · have hB : begE bs = 0 := by unfold begE; rw [if_neg (by omega), if_neg (by omega), if_neg c3, if_neg c4]
          have rsm := bs_sub hr (Nat.zero_le (hlN bs)) (by omega)
          have rop := bs_sub hr (a := 20) (b := hlN bs) (by omega) (by omega)
          simp only [Nat.add_zero, Nat.sub_zero, List.drop_zero] at rsm
          have lsm : (bs.take (hlN bs)).length = hlN bs := by rw [List.length_take]; omega
          have lop : (optsOf bs).length = hlN bs - 20 := by rw [optsOf, List.length_drop, lsm]
          have hehl : 4 * (((atB bs 0).toNat : Int) % 16) = (hlN bs : Int) := by rw [hhl]; omega
          have hS := sumN_lt (bs.take (hlN bs))
          by_cases hs : sumN (bs.take (hlN bs)) = 0
          · cases hO : optB (optsOf bs)
            · have e2 : cutE bs = 5 := by unfold cutE; rw [if_pos hB, if_pos hs, if_neg (by rw [hO]; decide)]
              have e3 : readE w bs = 5 := by unfold readE getE; rw [e2]; cases w <;> rfl
              rw [e3]
              refine ⟨fun _ => ?_, fun h => by cases h⟩
              refine rsx29 (by simp) (by simp) ?_
              simp -dsimp (discharger := omega) [B29, r0, tmodP, tdivP, hehl]
              with_reducible refine call_ret (hn2 (hrP hr) (by omega)) ?_
              simp -dsimp (discharger := omega) []
              with_reducible refine call_ret (rsum_ret (bs := bs.take (hlN bs)) (by omega) (bs_at lsm (hrP rsm))) ?_
              simp -dsimp (discharger := omega) [hs]
              with_reducible refine call_ret (roptions_ret (bs := optsOf bs) (by omega) (bs_at lop (hrP rop))) ?_
              simp -dsimp (discharger := omega) [hO, aFill, hd0]
              repeat (refine HSub.new ?_ hw (by omega) _)
              exact .refl _
            · have hc : cutE bs = 0 := by unfold cutE; rw [if_pos hB, if_pos hs, if_pos hO]
              have hoff := hdOf_off bs
              have hbl := bodyOf_le bs
              have a1 := at_read hr (j := 1) (by omega)
              have a8 := at_read hr (j := 8) (by omega)
              have a9 := at_read hr (j := 9) (by omega)
              have hw6 := wN_lt bs 6
              have hw4 := wN_lt bs 4
              have hw12 := wN_lt bs 12
              have hw14 := wN_lt bs 14
              have hw16 := wN_lt bs 16
              have hw18 := wN_lt bs 18
              have e1 : decide ((32768 : Int) ≤ ((wN bs 6 : Nat) : Int)) = (hdOf bs).evil := by
                show _ = decide (32768 ≤ wN bs 6)
                rw [Bool.eq_iff_iff]; simp only [decide_eq_true_eq]; omega
              have eoff : ((wN bs 6 : Nat) : Int) % 8192 = (hdOf bs).off := by show _ = ((wN bs 6 % 8192 : Nat) : Int); omega
              have esr : (65536 : Int) * ((wN bs 12 : Nat) : Int) + ((wN bs 14 : Nat) : Int) = (((hdOf bs).src : Nat) : Int) := by show _ = ((65536 * wN bs 12 + wN bs 14 : Nat) : Int); omega
              have eds : (65536 : Int) * ((wN bs 16 : Nat) : Int) + ((wN bs 18 : Nat) : Int) = (((hdOf bs).dst : Nat) : Int) := by show _ = ((65536 * wN bs 16 + wN bs 18 : Nat) : Int); omega
              have et1 : (atB bs 1).toNat = (hdOf bs).tos := rfl
              have et2 : (atB bs 8).toNat = (hdOf bs).ttl := rfl
              have et3 : (atB bs 9).toNat = (hdOf bs).proto := rfl
              have et4 : wN bs 4 = (hdOf bs).id := rfl
              have e2 : ((((wN bs 6 : Nat) : Int) / 16384 % 2) == 1) = (hdOf bs).df := by
                show _ = decide (wN bs 6 / 16384 % 2 = 1)
                rw [Bool.eq_iff_iff]; simp only [beq_iff_eq, decide_eq_true_eq]; omega
              have e3 : ((((wN bs 6 : Nat) : Int) / 8192 % 2) == 1) = (hdOf bs).more := by
                show _ = decide (wN bs 6 / 8192 % 2 = 1)
                rw [Bool.eq_iff_iff]; simp only [beq_iff_eq, decide_eq_true_eq]; omega
              have hrQ : ∀ {A B : Blk} {oo mm : Nat} {l : List Value}, h.read i g oo mm = some l → ((h.put n A).put (n + 1) B).read i g oo mm = some l := fun {A B oo mm l} e => by
                rw [AHeap.read_put, if_neg (by omega), AHeap.read_put, if_neg (by omega)]; exact e
              have hrR : ∀ {A B C : Blk} {oo mm : Nat} {l : List Value}, h.read i g oo mm = some l → (((h.put n A).put (n + 1) B).put (n + 1) C).read i g oo mm = some l := fun {A B C oo mm l} e => by
                rw [AHeap.read_put, if_neg (by omega), AHeap.read_put, if_neg (by omega), AHeap.read_put, if_neg (by omega)]; exact e
              have hE : readE w bs = if w = true then (if bs.length < wN bs 2 then 4 else if fitsB (hdOf bs) (bodyOf bs).length = true then 0 else 5) else 0 := by
                unfold readE getE; rw [if_pos hc, hc]
              obtain ⟨M, hM1, hM2, hM3, hbody, hM4⟩ : ∃ M, M ≤ bs.length ∧ hlN bs ≤ M ∧ M < 65536 + 65536 ∧ bodyOf bs = (bs.take M).drop (hlN bs) ∧ M = min (wN bs 2) bs.length := by
                by_cases c : bs.length < wN bs 2
                · exact ⟨bs.length, by omega, by omega, by omega, by rw [bodyOf, Nat.min_eq_right (by omega)], by omega⟩
                · exact ⟨wN bs 2, by omega, by omega, by omega, by rw [bodyOf, Nat.min_eq_left (by omega)], by omega⟩
              have lbody : (bodyOf bs).length = M - hlN bs := by rw [hbody, List.length_drop, List.length_take]; omega
              suffices key : Ret EV06 29 [.slice (some ⟨i, o, some g⟩) bs.length k, .bool w] h n (if readE w bs = 0 then (.tuple #[hdV (hdOf bs) (.slice (some ⟨i, o + 20, some g⟩) (optsOf bs).length (if k % 2 = 1 then k - 40 else if k = 2 then k else 0)), .slice (some ⟨i, o + hlN bs, some g⟩) (bodyOf bs).length (if k % 2 = 1 then k - 2 * hlN bs else if k = 2 then k else 0), .int .i64 0]) else (.tuple #[hdV hd0 (.slice none 0 0), .slice none 0 0, .int .i64 (readE w bs : Int)])) [] (n + 10) by
                exact ⟨fun hne => by rw [if_neg hne] at key; exact key, fun he => by rw [if_pos he] at key; exact key⟩
              refine rsx29 (by simp) (by simp) ?_
              rw [hE, lop, lbody]
              have hW : ∀ {m : Nat} {H : AHeap}, (∀ j, n + 2 ≤ j → H.get j = h.get j) → n + 2 ≤ m → WF H m := fun {m H} hg hm => .of fun j hj => by rw [hg j (by omega)]; exact hw.none (by omega)
              simp -dsimp (discharger := omega) [B29, -wR29_0, -wR29_1, r0, tmodP, tdivP, hehl]
              with_reducible refine call_ret (hn2 (hrP hr) (by omega)) ?_
              simp -dsimp (discharger := omega) [-wR29_0, -wR29_1]
              with_reducible refine call_ret (rsum_ret (bs := bs.take (hlN bs)) (by omega) (bs_at lsm (hrP rsm))) ?_
              simp -dsimp (discharger := omega) [hs, -wR29_0, -wR29_1]
              with_reducible refine call_ret (roptions_ret (bs := optsOf bs) (by omega) (bs_at lop (hrP rop))) ?_
              simp -dsimp (discharger := omega) [hO, -wR29_0, -wR29_1]
              with_reducible refine call_ret (hn2 (hrP hr) (by omega)) ?_
              simp -dsimp (discharger := omega) [hrP a1, hrP a8, hrP a9, -wR29_1]
              with_reducible refine ret_on [i] (hn2 (by rw [touch_read1]; exact hrP hr) (by omega)) ?_
              simp -dsimp (discharger := omega) [tmodP, tdivP, e1, e2, e3, aFill, -wR29_1]
              refine ⟨by omega, ?_⟩
              with_reducible refine call_ret (hn4 (by simp (discharger := omega) [hr]) (by omega)) ?_
              simp -dsimp (discharger := omega) [-wR29_1]
              with_reducible refine call_ret (hn4 (by simp (discharger := omega) [hr]) (by omega)) ?_
              simp -dsimp (discharger := omega) [-wR29_1]
              rw [eoff, esr, eds, et1, et2, et3, et4]
              rw [lbody] at hbl
              clear eoff esr eds et1 et2 et3 et4 e1 e2 e3
              generalize hdOf bs = t at *
              by_cases c5 : bs.length < wN bs 2
              · have eM : M = bs.length := by omega
                cases w
                · simp -dsimp (discharger := omega) []
                  refine ⟨by omega, by omega, ?_⟩
                  repeat (refine HSub.new ?_ hw (by omega) _)
                  exact .refl _
                · simp -dsimp (discharger := omega) [c5, aFill, hd0]
                  repeat (refine HSub.new ?_ hw (by omega) _)
                  exact .refl _
              · have eM : M = wN bs 2 := by omega
                cases w
                · simp -dsimp (discharger := omega) []
                  refine ⟨by omega, ?_⟩
                  repeat (refine HSub.new ?_ hw (by omega) _)
                  exact .refl _
                · rw [eM]
                  simp -dsimp (discharger := omega) []
                  with_reducible refine call_ret (rfits_ret (t := t) (m := wN bs 2 - hlN bs) (by omega) (by omega) (by omega) (hW (fun j hj => by simp (discharger := omega)) (by omega))) ?_
                  cases c6 : fitsB t (wN bs 2 - hlN bs)
                  · simp -dsimp (discharger := omega) [aFill, hd0]
                    repeat (refine HSub.new ?_ hw (by omega) _)
                    exact .refl _
                  · simp -dsimp (discharger := omega) []
                    repeat (refine HSub.new ?_ hw (by omega) _)
                    exact .refl _
          · have e2 : cutE bs = 21 := by unfold cutE; rw [if_pos hB, if_neg hs]
            have e3 : readE w bs = 21 := by unfold readE getE; rw [e2]; cases w <;> rfl
            rw [e3]
            refine ⟨fun _ => ?_, fun h => by cases h⟩
            refine rsx29 (by simp) (by simp) ?_
            simp -dsimp (discharger := omega) [B29, r0, tmodP, tdivP, hehl]
            with_reducible refine call_ret (hn2 (hrP hr) (by omega)) ?_
            simp -dsimp (discharger := omega) []
            with_reducible refine call_ret (rsum_ret (bs := bs.take (hlN bs)) (by omega) (bs_at lsm (hrP rsm))) ?_
            simp -dsimp (discharger := omega) [aFill, hd0]
            repeat (refine HSub.new ?_ hw (by omega) _)
            exact .refl _
  · have e : begE bs = 5 := by unfold begE; rw [if_neg (by omega), if_pos (.inl c1)]
    have e2 : cutE bs = 5 := by unfold cutE; rw [if_neg (by omega), e]
    have e3 : readE w bs = 5 := by unfold readE getE; rw [e2]; cases w <;> rfl
    rw [e3]
    refine ⟨fun _ => ?_, fun h => by cases h⟩
    refine rsx29 (by simp) (by simp) ?_
    simp -dsimp (discharger := omega) [B29, r0, tmodP, tdivP, aFill, hd0]
    repeat (refine HSub.new ?_ hw (by omega) _)
    exact .refl _
end
end Go.Proofs.YtiemkafpijhlmaaDoor.Am
