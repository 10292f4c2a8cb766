/- Contracts of the program's functions (Y2). -/
import Derived.Test.YtiemkafpijhlmaaDoorY1
import Derived.Test.YtiemkafpijhlmaaDoorY3
namespace Go.Proofs.YtiemkafpijhlmaaDoor.Am
noncomputable section
/- PLAIN LAW: what is got of bytes is laid as those bytes again. -/
theorem ofHi (a b : UInt8) : UInt8.ofNat (w2 a b / 256) = a := by
  have ha := a.toNat_lt; have hb := b.toNat_lt
  apply UInt8.toNat_inj.1
  rw [UInt8.toNat_ofNat', w2]; omega
theorem ofLo (a b : UInt8) : UInt8.ofNat (w2 a b % 256) = b := by
  have ha := a.toNat_lt; have hb := b.toNat_lt
  apply UInt8.toNat_inj.1
  rw [UInt8.toNat_ofNat', w2]; omega
theorem bits_again {w : Nat} (hw : w < 65536) (t : HdN) (h1 : t.off = ((w % 8192 : Nat) : Int)) (h2 : t.evil = decide (32768 ≤ w)) (h3 : t.df = decide (w / 16384 % 2 = 1)) (h4 : t.more = decide (w / 8192 % 2 = 1)) : bitsN t = w := by
  unfold bitsN
  rw [h1, h2, h3, h4]
  simp only [decide_eq_true_eq, Int.toNat_natCast]
  split <;> split <;> split <;> omega
theorem sum_again {A x : Nat} (hx : x ≤ 65535) (h : fold (A + x) = 65535) : x = 65535 - fold A ∨ 65535 - fold A = 0 ∧ x = 65535 := by
  have hf := fold_le A
  rw [fold_add hx] at h
  split at h <;> omega
structure AgainLaw (bs c : List UInt8) : Prop where
  len : c.length = wN bs 2
  le : wN bs 2 ≤ bs.length
  big : 20 ≤ c.length
  l1 : c.take 10 = bs.take 10
  l2 : c.drop 12 = (bs.take (wN bs 2)).drop 12
  l3 : (atB c 10 = atB bs 10 ∧ atB c 11 = atB bs 11) ∨ (atB c 10 = 0 ∧ atB c 11 = 0 ∧ atB bs 10 = 255 ∧ atB bs 11 = 255)
theorem get_ok {bs : List UInt8} (h : getE bs = 0) : cutE bs = 0 ∧ wN bs 2 ≤ bs.length ∧ fitsB (hdOf bs) (bodyOf bs).length = true := by
  unfold getE at h
  split at h
  · rename_i h1
    split at h
    · cases h
    · rename_i h2
      split at h
      · rename_i h3; exact ⟨h1, by omega, h3⟩
      · cases h
  · rename_i h1; exact absurd h h1
theorem cut_ok_out {bs : List UInt8} (h : cutE bs = 0) : sumN (bs.take (hlN bs)) = 0 ∧ optB (optsOf bs) = true := by
  have hb := cut_beg h
  unfold cutE at h
  rw [if_pos hb] at h
  split at h
  · rename_i h1
    split at h
    · rename_i h2; exact ⟨h1, h2⟩
    · cases h
  · cases h
theorem again_may {bs : List UInt8} (hl : bs.length ≤ 400) (h : getE bs = 0) : MayBe (hdOf bs) (optsOf bs) (bodyOf bs).length := by
  obtain ⟨g1, g2, g3⟩ := get_ok h
  obtain ⟨c1, c2⟩ := cut_ok_out g1
  obtain ⟨b1, b2, b3, b4, b5⟩ := beg_ok (cut_beg g1)
  have ho := hdOf_off bs
  have hb := bodyOf_le bs
  refine ⟨?_, ?_, ?_⟩
  · constructor
    all_goals (unfold hdOf)
    · exact UInt8.toNat_lt _
    · exact UInt8.toNat_lt _
    · exact UInt8.toNat_lt _
    · exact wN_lt _ _
    · show -9223372036854775808 ≤ ((wN bs 6 % 8192 : Nat) : Int); omega
    · show ((wN bs 6 % 8192 : Nat) : Int) < 9223372036854775808; omega
    · show 65536 * wN bs 12 + wN bs 14 < _
      have := wN_lt bs 12; have := wN_lt bs 14; omega
    · show 65536 * wN bs 16 + wN bs 18 < _
      have := wN_lt bs 16; have := wN_lt bs 18; omega
  · unfold putBad
    rw [c2, g3]
    simp; omega
  · have : (optsOf bs).length ≤ 60 := by
      have := hlN_le bs
      rw [optsOf, List.length_drop, List.length_take]; omega
    omega
theorem uncons {k : Nat} {l : List UInt8} (h : k + 1 ≤ l.length) : ∃ a t, l = a :: t ∧ k ≤ t.length := by
  cases l with
  | nil => simp at h
  | cons a t => exact ⟨a, t, rfl, by simpa using h⟩
theorem again_law {bs : List UInt8} (hl : bs.length ≤ 400) (h : getE bs = 0) : AgainLaw bs (putL (hdOf bs) (optsOf bs) (bodyOf bs)) := by
  obtain ⟨g1, g2, g3⟩ := get_ok h
  obtain ⟨c1, c2⟩ := cut_ok_out g1
  obtain ⟨n1, n2, n3, n4, n5⟩ := beg_ok (cut_beg g1)
  obtain ⟨b0, t0, e0', q0⟩ := uncons (k := 19) n1
  obtain ⟨b1, t1, e1', q1⟩ := uncons (k := 18) q0
  obtain ⟨b2, t2, e2', q2⟩ := uncons (k := 17) q1
  obtain ⟨b3, t3, e3', q3⟩ := uncons (k := 16) q2
  obtain ⟨b4, t4, e4', q4⟩ := uncons (k := 15) q3
  obtain ⟨b5, t5, e5', q5⟩ := uncons (k := 14) q4
  obtain ⟨b6, t6, e6', q6⟩ := uncons (k := 13) q5
  obtain ⟨b7, t7, e7', q7⟩ := uncons (k := 12) q6
  obtain ⟨b8, t8, e8', q8⟩ := uncons (k := 11) q7
  obtain ⟨b9, t9, e9', q9⟩ := uncons (k := 10) q8
  obtain ⟨b10, t10, e10', q10⟩ := uncons (k := 9) q9
  obtain ⟨b11, t11, e11', q11⟩ := uncons (k := 8) q10
  obtain ⟨b12, t12, e12', q12⟩ := uncons (k := 7) q11
  obtain ⟨b13, t13, e13', q13⟩ := uncons (k := 6) q12
  obtain ⟨b14, t14, e14', q14⟩ := uncons (k := 5) q13
  obtain ⟨b15, t15, e15', q15⟩ := uncons (k := 4) q14
  obtain ⟨b16, t16, e16', q16⟩ := uncons (k := 3) q15
  obtain ⟨b17, t17, e17', q17⟩ := uncons (k := 2) q16
  obtain ⟨b18, t18, e18', q18⟩ := uncons (k := 1) q17
  obtain ⟨b19, r, e19', q19⟩ := uncons (k := 0) q18
  have e : bs = b0 :: b1 :: b2 :: b3 :: b4 :: b5 :: b6 :: b7 :: b8 :: b9 :: b10 :: b11 :: b12 :: b13 :: b14 :: b15 :: b16 :: b17 :: b18 :: b19 :: r := by rw [e0', e1', e2', e3', e4', e5', e6', e7', e8', e9', e10', e11', e12', e13', e14', e15', e16', e17', e18', e19']
  clear e19' e18' e17' e16' e15' e14' e13' e12' e11' e10' e9' e8' e7' e6' e5' e4' e3' e2' e1' e0'
  have hN : hlN bs = 4 * (b0.toNat % 16) := by rw [e]; rfl
  have hW : wN bs 2 = w2 b2 b3 := by rw [e]; rfl
  have h0 : b0.toNat / 16 = 4 := by rw [e] at n5; exact n5
  have hlen : bs.length = r.length + 20 := by rw [e]; rfl
  obtain ⟨k, hk⟩ : ∃ k, hlN bs = k + 20 := ⟨hlN bs - 20, by omega⟩
  obtain ⟨m, hm⟩ : ∃ m, wN bs 2 = (k + m) + 20 := ⟨wN bs 2 - k - 20, by omega⟩
  have hO : optsOf bs = r.take k := by rw [optsOf, hk, e]; rfl
  have hB : bodyOf bs = (r.take (k + m)).drop k := by rw [bodyOf, Nat.min_eq_left g2, hm, hk, e]; rfl
  have lO : (r.take k).length = k := by rw [List.length_take]; omega
  have lB : ((r.take (k + m)).drop k).length = m := by rw [List.length_drop, List.length_take]; omega
  have hT : bs.take (wN bs 2) = b0 :: b1 :: b2 :: b3 :: b4 :: b5 :: b6 :: b7 :: b8 :: b9 :: b10 :: b11 :: b12 :: b13 :: b14 :: b15 :: b16 :: b17 :: b18 :: b19 :: r.take (k + m) := by rw [hm, e]; rfl
  have hJ : r.take k ++ (r.take (k + m)).drop k = r.take (k + m) := by
    have := List.take_append_drop k (r.take (k + m))
    rw [List.take_take, Nat.min_eq_left (by omega)] at this; exact this
  have c1 : sumN (b0 :: b1 :: b2 :: b3 :: b4 :: b5 :: b6 :: b7 :: b8 :: b9 :: b10 :: b11 :: b12 :: b13 :: b14 :: b15 :: b16 :: b17 :: b18 :: b19 :: r.take k) = 0 := by rw [hk, e] at c1; exact c1
  rw [hO, hB]
  obtain ⟨t, ht⟩ : ∃ t, t = hdOf bs := ⟨_, rfl⟩
  have e1 : t.tos = b1.toNat := by rw [ht, e]; rfl
  have e2 : t.ttl = b8.toNat := by rw [ht, e]; rfl
  have e3 : t.proto = b9.toNat := by rw [ht, e]; rfl
  have e4 : t.id = w2 b4 b5 := by rw [ht, e]; rfl
  have e5 : bitsN t = w2 b6 b7 := bits_again (w2_lt _ _) t (by rw [ht, e]; rfl) (by rw [ht, e]; rfl) (by rw [ht, e]; rfl) (by rw [ht, e]; rfl)
  have e6 : t.src = 65536 * w2 b12 b13 + w2 b14 b15 := by rw [ht, e]; rfl
  have e7 : t.dst = 65536 * w2 b16 b17 + w2 b18 b19 := by rw [ht, e]; rfl
  have a10 : atB bs 10 = b10 := by rw [e]; rfl
  have a11 : atB bs 11 = b11 := by rw [e]; rfl
  have a12 : bs.take 10 = [b0, b1, b2, b3, b4, b5, b6, b7, b8, b9] := by rw [e]; rfl
  have v1 := w2_lt b12 b13
  have v2 := w2_lt b14 b15
  have v3 := w2_lt b16 b17
  have v4 := w2_lt b18 b19
  have f1 : t.src / 65536 = w2 b12 b13 := by omega
  have f2 : t.src % 65536 = w2 b14 b15 := by omega
  have f3 : t.dst / 65536 = w2 b16 b17 := by omega
  have f4 : t.dst % 65536 = w2 b18 b19 := by omega
  have f5 : 20 + (r.take k).length + ((r.take (k + m)).drop k).length = w2 b2 b3 := by rw [lO, lB]; omega
  have f6 : UInt8.ofNat (64 + (20 + (r.take k).length) / 4) = b0 := by
    have hb := b0.toNat_lt
    apply UInt8.toNat_inj.1
    rw [UInt8.toNat_ofNat', lO]; omega
  rw [← ht]
  have hpre : preH t (r.take k) ((r.take (k + m)).drop k).length = [b0, b1, b2, b3, b4, b5, b6, b7, b8, b9] := by
    unfold preH
    rw [f5, f6, e1, e2, e3, e4, e5]
    simp [twosL, twoL, ofHi, ofLo]
  have hpost : postH t (r.take k) = b12 :: b13 :: b14 :: b15 :: b16 :: b17 :: b18 :: b19 :: r.take k := by
    unfold postH
    rw [f1, f2, f3, f4]
    simp [twosL, twoL, ofHi, ofLo]
  obtain ⟨s, hs⟩ : ∃ s, s = sumN ([b0, b1, b2, b3, b4, b5, b6, b7, b8, b9] ++ twoL 0 ++ (b12 :: b13 :: b14 :: b15 :: b16 :: b17 :: b18 :: b19 :: r.take k)) := ⟨_, rfl⟩
  have hC : putL t (r.take k) ((r.take (k + m)).drop k) = b0 :: b1 :: b2 :: b3 :: b4 :: b5 :: b6 :: b7 :: b8 :: b9 :: UInt8.ofNat (s / 256) :: UInt8.ofNat (s % 256) :: b12 :: b13 :: b14 :: b15 :: b16 :: b17 :: b18 :: b19 :: r.take (k + m) := by
    rw [putL, headL, hpre, hpost, ← hs]
    simp only [twoL, List.cons_append, List.nil_append, hJ]
  have hsum : w2 b10 b11 = s ∨ s = 0 ∧ w2 b10 b11 = 65535 := by
    obtain ⟨A, hA⟩ : ∃ A, A = sumT ([b0, b1, b2, b3, b4, b5, b6, b7, b8, b9] ++ twoL 0 ++ (b12 :: b13 :: b14 :: b15 :: b16 :: b17 :: b18 :: b19 :: r.take k)) := ⟨_, rfl⟩
    have hx : sumT (b0 :: b1 :: b2 :: b3 :: b4 :: b5 :: b6 :: b7 :: b8 :: b9 :: b10 :: b11 :: b12 :: b13 :: b14 :: b15 :: b16 :: b17 :: b18 :: b19 :: r.take k) = A + w2 b10 b11 := by
      rw [hA]
      simp only [twoL, List.cons_append, List.nil_append, sumT, w2, Nat.zero_div, Nat.zero_mod]
      simp only [show (UInt8.ofNat 0).toNat = 0 from rfl]
      omega
    have hfl := fold_le (A + w2 b10 b11)
    have hz : fold (A + w2 b10 b11) = 65535 := by
      rw [sumN, hx] at c1; omega
    have := sum_again (by have := w2_lt b10 b11; omega) hz
    rw [hs, sumN, ← hA]; exact this
  have hb10 := b10.toNat_lt
  have hb11 := b11.toNat_lt
  refine ⟨?_, g2, ?_, ?_, ?_, ?_⟩
  · rw [hC, hm]; simp only [List.length_cons, List.length_take]; omega
  · rw [hC]; simp only [List.length_cons]; omega
  · rw [hC, a12]; rfl
  · rw [hC, hT]; rfl
  · rw [hC, a10, a11]
    show (UInt8.ofNat (s / 256) = b10 ∧ UInt8.ofNat (s % 256) = b11) ∨ (UInt8.ofNat (s / 256) = 0 ∧ UInt8.ofNat (s % 256) = 0 ∧ b10 = 255 ∧ b11 = 255)
    rcases hsum with e | ⟨e, e'⟩
    · left; rw [← e, ofHi, ofLo]; exact ⟨rfl, rfl⟩
    · right
      unfold w2 at e'
      rw [e]
      refine ⟨rfl, rfl, UInt8.toNat_inj.1 ?_, UInt8.toNat_inj.1 ?_⟩
      · show b10.toNat = 255; omega
      · show b11.toNat = 255; omega
end
end Go.Proofs.YtiemkafpijhlmaaDoor.Am
namespace Go.Proofs.YtiemkafpijhlmaaDoor.Am
noncomputable section
/- CONTRACT: bytes that differ in the sum alone. -/
set_option maxRecDepth 20000 in
set_option maxHeartbeats 8000000 in
theorem differ_ret {xs ys : List UInt8} {i o g k i2 o2 g2 k2 : Nat} {h : AHeap} {n : Nat} (hr : h.read i g o xs.length = some (u8s xs)) (hr2 : h.read i2 g2 o2 ys.length = some (u8s ys)) (hl : 20 ≤ xs.length) (hl2 : ys.length = xs.length) (hl3 : xs.length < 100000)
    (e1 : xs.take 10 = ys.take 10) (e2 : xs.drop 12 = ys.drop 12) (e3 : (atB xs 10 = atB ys 10 ∧ atB xs 11 = atB ys 11) ∨ (atB xs 10 = 0 ∧ atB xs 11 = 0 ∧ atB ys 10 = 255 ∧ atB ys 11 = 255)) :
    Ret EV06 32 [.slice (some ⟨i, o, some g⟩) xs.length k, .slice (some ⟨i2, o2, some g2⟩) xs.length k2] h n (.bool true) [] n := by
  have a1 := bs_sub hr (Nat.zero_le 10) (by omega)
  have a2 := bs_sub hr (show 12 ≤ xs.length by omega) (Nat.le_refl _)
  have a3 := bs_sub hr (show 10 ≤ 12 by omega) (show 12 ≤ xs.length by omega)
  have a4 := at_read hr (show 10 < xs.length by omega)
  have a5 := at_read hr (show 11 < xs.length by omega)
  have c1 := bs_sub hr2 (Nat.zero_le 10) (by omega)
  have c2 := bs_sub hr2 (show 12 ≤ ys.length by omega) (Nat.le_refl _)
  have c3 := bs_sub hr2 (show 10 ≤ 12 by omega) (show 12 ≤ ys.length by omega)
  have c4 := at_read hr2 (show 10 < ys.length by omega)
  have c5 := at_read hr2 (show 11 < ys.length by omega)
  simp only [Nat.add_zero, Nat.sub_zero, List.drop_zero, List.take_length, Nat.reduceSub] at a1 a2 a3 c1 c2 c3
  rw [hl2] at c2
  have p : ∀ zs : List UInt8, 12 ≤ zs.length → (zs.take 12).drop 10 = [atB zs 10, atB zs 11] := fun zs hz => by
    match zs, hz with
    | _ :: _ :: _ :: _ :: _ :: _ :: _ :: _ :: _ :: _ :: _ :: _ :: r, _ => rfl
  rw [p xs (by omega)] at a3
  rw [p ys (by omega)] at c3
  have l10 : (List.take 10 xs).length = 10 := by rw [List.length_take]; omega
  have m10 : (List.take 10 ys).length = 10 := by rw [List.length_take]; omega
  refine rsx32 (by simp) (by simp) ?_
  rcases e3 with ⟨e3, e4⟩ | ⟨e3, e4, e5, e6⟩
  · simp -dsimp (discharger := omega) [B32, a1, a2, a3, c1, c2, c3, e1, e2, e3, e4]
    exact .refl _
  · simp -dsimp (discharger := omega) [B32, a1, a2, a3, a4, a5, c1, c2, c3, c4, c5, e1, e2, e3, e4, e5, e6]
    exact .refl _
end
end Go.Proofs.YtiemkafpijhlmaaDoor.Am
namespace Go.Proofs.YtiemkafpijhlmaaDoor.Am
noncomputable section
/- THE LAW's WALK: laid again. -/
def fst8 : ACode := match B8 with | .seq a _ => a | c => c
def snd8 : ACode := match B8 with | .seq _ (.seq b _) => b | c => c
def rest8 : ACode := match B8 with | .seq _ (.seq _ c) => c | c => c
theorem b8_eq : B8 = .seq fst8 (.seq snd8 rest8) := rfl
set_option maxHeartbeats 8000000 in
theorem again_rest {h : AHeap} {n : Nat} {v : Value} {bs : List UInt8} (hb : BS h v bs) (hbl : bs.length ≤ 400) (hw : WF h n) (hp : HasPow h) (he : HasErrs h) (hn : 4096 ≤ n) {σ : Fr} (g0 : σ.get 0 = some v) :
    wx EV06 rest8 σ h n (Done [.tmp 2] fun v _ _ => v = .bool true) ⟨⟩ := by
  obtain ⟨r1, r2⟩ := get_ret hb (by omega) hw
  by_cases hc : getE bs = 0
  · have may := again_may hbl hc
    have law := again_law hbl hc
    have hO := again_may hbl hc
    have lO : (optsOf bs).length ≤ 40 := may.out.2.2.2.2.1
    have lB : (bodyOf bs).length ≤ 400 := Nat.le_trans (bodyOf_le bs) hbl
    have r2 := r2 hc
    clear r1 hO
    cases hb with
    | nil => exact absurd law.le (by have := law.len; have := law.big; simp; omega)
    | @mk i o g kk _ hr =>
    simp -dsimp (discharger := omega) [rest8, B8, g0]
    with_reducible refine call_ret r2 ?_
    simp -dsimp (discharger := omega) []
    generalize hdOf bs = t at *
    generalize optsOf bs = os at *
    generalize bodyOf bs = bd at *
    obtain ⟨H2, hH2⟩ : ∃ X : AHeap, X = (((h.put (n + 3) (bufB os 0)).put (n + 4) (bufB bd 0)).put (n + 10) (.cells (some 47) [.int .u8 0, .int .u8 0, .int .u8 0, .int .u16 0, .bool false, .bool false, .bool false, .int .i64 0, .int .u32 0, .int .u32 0, .slice none 0 0] 11)).put (n + 10) (.cells (some 47) [.int .u8 (t.tos : Int), .int .u8 (t.ttl : Int), .int .u8 (t.proto : Int), .int .u16 (t.id : Int), .bool t.evil, .bool t.df, .bool t.more, .int .i64 t.off, .int .u32 (t.src : Int), .int .u32 (t.dst : Int), .slice (some ⟨n + 3, 0, some os.length⟩) os.length 2] 11) := ⟨_, rfl⟩
    rw [← hH2]
    have hs2 : HSub h H2 := by
      rw [hH2]
      repeat (refine HSub.new ?_ hw (by omega) _)
      exact .refl _
    have hw2 : WF H2 (n + 11) := by rw [hH2]; exact .of fun j hj => by simp (discharger := omega) [hw.none (i := j) (by omega)]
    have x0 : H2.get (n + 10) = some (.cells (some 47) [.int .u8 (t.tos : Int), .int .u8 (t.ttl : Int), .int .u8 (t.proto : Int), .int .u16 (t.id : Int), .bool t.evil, .bool t.df, .bool t.more, .int .i64 t.off, .int .u32 (t.src : Int), .int .u32 (t.dst : Int), .slice (some ⟨n + 3, 0, some os.length⟩) os.length 2] 11) := by rw [hH2, AHeap.get_put_same]
    have x1 : H2.get (n + 3) = some (bufB os 0) := by rw [hH2]; simp (discharger := omega)
    have x2 : H2.get (n + 4) = some (bufB bd 0) := by rw [hH2]; simp (discharger := omega)
    clear hH2
    with_reducible refine call_ret (put_ok may.ok (bs_new x1 (Nat.zero_le _)) (bs_new x2 (Nat.zero_le _)) hw2 (by omega) lB may.bad) ?_
    generalize hC : putL t os bd = C at *
    obtain ⟨c1, c2, c3, c4, c5, c6⟩ := law
    obtain ⟨H3, hH3⟩ : ∃ X : AHeap, X = putsL H2 [(n + 11 + 5, bufB C (20 + os.length))] := ⟨_, rfl⟩
    rw [← hH3]
    have hs3 : HSub H2 H3 := by rw [hH3]; exact .new (.refl _) hw2 (by omega) _
    have hw3 : WF H3 (n + 11 + 30) := by rw [hH3]; exact .of fun j hj => by simp (discharger := omega) [hw2.none (i := j) (by omega)]
    have hq3 : H3.get (n + 11 + 5) = some (bufB C (20 + os.length)) := by rw [hH3]; exact AHeap.get_put_same _ _ _
    clear hH3
    have hCl : 20 + os.length ≤ C.length := by rw [← hC, putL, List.length_append, headL_len]; omega
    have rC : H3.read (n + 11 + 5) C.length 0 C.length = some (u8s C) := by
      rw [AHeap.read_of (show H3.get (n + 11 + 5) = some (.cells (some 5) (u8s C) (20 + os.length)) from hq3)]
      simp [hCl]
    have rB := bs_sub (read_mono (hs2.trans hs3) hr) (Nat.zero_le C.length) (by omega)
    simp only [Nat.add_zero, Nat.sub_zero, List.drop_zero] at rB
    have lT : (bs.take C.length).length = C.length := by rw [List.length_take]; omega
    simp -dsimp (discharger := omega) [g0]
    with_reducible refine call_ret (differ_ret (ys := bs.take C.length) rC (by rw [lT]; exact rB) c3 lT (by omega) (by rw [List.take_take, Nat.min_eq_left (by omega)]; exact c4) (by rw [c1]; exact c5) ?_) ?_
    · have e : ∀ j, j < C.length → atB (bs.take C.length) j = atB bs j := fun j hj => by
        have := atB_app (p := bs.take C.length) (bs.drop C.length) (i := j) (by omega)
        rw [List.take_append_drop] at this; exact this.symm
      rw [e 10 (by omega), e 11 (by omega)]; exact c6
    simp -dsimp (discharger := omega) []
    with_reducible refine call_ret (tells_ret hw3 (hp.sub (hs2.trans hs3)) (he.sub (hs2.trans hs3)) (by omega)) ?_
    simp -dsimp (discharger := omega) []
  · have r1 := r1 hc
    have hne : ((getE bs : Int) != 0) = true := by
      simp; omega
    have hne2 : ¬ (getE bs : Int) = 0 := by omega
    clear r2
    simp -dsimp (discharger := omega) [rest8, B8, g0]
    with_reducible refine call_ret r1 ?_
    simp -dsimp (discharger := omega) [hne, hd0]
    obtain ⟨H2, hH2⟩ : ∃ X : AHeap, X = (h.put (n + 10) (.cells (some 47) [.int .u8 0, .int .u8 0, .int .u8 0, .int .u16 0, .bool false, .bool false, .bool false, .int .i64 0, .int .u32 0, .int .u32 0, .slice none 0 0] 11)).put (n + 10) (.cells (some 47) [.int .u8 0, .int .u8 0, .int .u8 0, .int .u16 0, .bool false, .bool false, .bool false, .int .i64 0, .int .u32 0, .int .u32 0, .slice none 0 0] 11) := ⟨_, rfl⟩
    rw [← hH2]
    have hs2 : HSub h H2 := by
      rw [hH2]
      repeat (refine HSub.new ?_ hw (by omega) _)
      exact .refl _
    have hw2 : WF H2 (n + 10 + 1) := by rw [hH2]; exact .of fun j hj => by simp (discharger := omega) [hw.none (i := j) (by omega)]
    clear hH2
    refine call_ret (of_ret hd0 (a := none) (l := 0) (k := 0) hw2) ?_
    simp -dsimp (discharger := omega) [hd0, aFill]
    have hw3 := hw2.mono (show n + 10 + 1 ≤ n + 10 + 1 + 2 by omega)
    refine call_ret (of_ret hd0 (a := none) (l := 0) (k := 0) hw3) ?_
    simp -dsimp (discharger := omega) [hd0]
    have hw4 := hw3.mono (show n + 10 + 1 + 2 ≤ n + 10 + 1 + 2 + 2 by omega)
    refine call_ret (same_ret (t := hd0) (os := []) .nil .nil hw4) ?_
    simp -dsimp (discharger := omega) []
    have hw5 := hw4.mono (show n + 10 + 1 + 2 + 2 ≤ n + 10 + 1 + 2 + 2 + 2 by omega)
    with_reducible refine call_ret (tells_ret hw5 (hp.sub hs2) (he.sub hs2) (by omega)) ?_
    simp -dsimp (discharger := omega) []
theorem again_walk {h : AHeap} {n : Nat} {b : Value} {bs : List UInt8} (hb : BS h b bs) (hbl : bs.length < 9223372036854775808) (hw : WF h n) (hp : HasPow h) (he : HasErrs h) (hn : 4096 ≤ n) :
    HasCall EV06 8 [b] h n fun v _ _ => v = .bool true := by
  have goal : HasCallT EV06 8 [b] h n (fun v _ _ => v = .bool true) ⟨⟩ := by
    obtain ⟨k, hk1, hk2, e400, hbk⟩ : ∃ m, m ≤ bs.length ∧ m ≤ 400 ∧ (if (400 : Int) < (bs.length : Int) then (400 : Int) else (bs.length : Int)) = (m : Int) ∧ bs.take 400 = bs.take m := by
      by_cases c : 400 < bs.length
      · exact ⟨400, by omega, by omega, by rw [if_pos (by omega)]; rfl, rfl⟩
      · exact ⟨bs.length, by omega, by omega, by rw [if_neg (by omega)], by rw [List.take_of_length_le (by omega), List.take_length]⟩
    have hlk : (bs.take k).length = k := by rw [List.length_take]; omega
    cases hb with
    | nil =>
      with_reducible refine inl8 ?_
      rw [b8_eq]
      simp -dsimp (discharger := omega) [fst8, snd8, B8]
      exact again_rest .nil (by simp) hw hp he hn (by simp)
    | @mk i o g kk _ hr =>
      with_reducible refine inl8 ?_
      rw [b8_eq]
      simp -dsimp (discharger := omega) [fst8, snd8, B8, e400]
      have hs := bs_sub hr (Nat.zero_le k) hk1
      simp only [Nat.add_zero, Nat.sub_zero, List.drop_zero] at hs
      exact again_rest (bs_at hlk hs) (by omega) hw hp he hn rfl
  exact goal
end
end Go.Proofs.YtiemkafpijhlmaaDoor.Am
