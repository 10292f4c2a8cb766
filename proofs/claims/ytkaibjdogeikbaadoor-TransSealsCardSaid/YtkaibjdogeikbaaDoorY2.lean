/- Contracts of the program's functions (Y2). -/
import Derived.Test.YtkaibjdogeikbaaDoorY1
namespace Go.Proofs.YtkaibjdogeikbaaDoor.Am
noncomputable section
/- THE LAW TransSeals. -/
theorem seals_mid_6 {src dst kk by' n b1k ci co cg y : Nat} (h1 : src < 4294967296) (h2 : dst < 4294967296) {cs1 S : List UInt8} (lc1 : cs1.length ≤ 200) (hlo : 18 ≤ cs1.length) (slen : S.length = cs1.length) (hahead : S.take 16 = cs1.take 16) (hbehind : S.drop 18 = cs1.drop 18) (hright : sumN src dst 6 S = 0)
    (hat1 : S[16]? = some (UInt8.ofNat (y / 256)) ∧ S[16 + 1]? = some (UInt8.ofNat (y % 256))) (hn17 : 6 = 17 → y ≠ 0) (hn0 : y ≤ 65535) {h3' : AHeap}
    (e1 : h3'.get n = some (.cells (some 65) [.int .u32 (src : Int), .int .u32 (dst : Int)] 2)) (e2 : h3'.get (n + 1) = some (.cells (some 67) [.int .u16 (kk : Int), .int .u8 (by' : Int), .bool false] 3)) (w3 : WF h3' (n + 64)) (sm3 : HasSums h3')
    (xs3 : BS h3' (.slice (some ⟨n + 2, 0, some cs1.length⟩) cs1.length 2) S) (xa : BS h3' (.slice (some ⟨n + 33, 0, some cs1.length⟩) cs1.length 2) S) (xr2 : h3'.read (n + 2) cs1.length 0 S.length = some (u8s S)) (cr : h3'.read ci cg co cs1.length = some (u8s cs1)) {σ3 : Fr}
    (k0 : σ3.get 0 = some (.slice (some ⟨ci, co, some cg⟩) cs1.length b1k)) (k4 : σ3.get 4 = some (.pointer (some ⟨n, 0, some 2⟩))) (k5 : σ3.get 5 = some (.pointer (some ⟨n + 1, 0, some 3⟩))) (k7 : σ3.get 7 = some (.int .u8 6)) (k8 : σ3.get 8 = some (.int .i64 16)) (k9 : σ3.get 9 = some (.slice (some ⟨n + 2, 0, some cs1.length⟩) cs1.length 2)) (k11 : σ3.get 11 = some (.slice (some ⟨n + 33, 0, some cs1.length⟩) cs1.length 2)) (k12 : σ3.get 12 = some (.int .i64 0))
    {Q : Ex → Fr → AHeap → Nat → Prop} {tk : Tok Q} (hQ : ∀ σ', σ'.get 127 = some (.bool false) → σ'.get 4 = σ3.get 4 → σ'.get 5 = σ3.get 5 → σ'.get 7 = σ3.get 7 → σ'.get 8 = σ3.get 8 → σ'.get 9 = σ3.get 9 → Q .normal σ' h3' (n + 94)) :
    wx EV07 R6_0 σ3 h3' (n + 64) Q tk := by
  simp -dsimp (discharger := omega) [k9, k11, k12]
  refine ret_ret (equal_ret xa xs3 _) ?_
  simp -dsimp (discharger := omega) [k0, k8, k9]
  have z1 := BS.cut' xr2 16 2 (by omega)
  rw [hahead] at z1
  refine ret_ret (equal_ret z1 (BS.cut' cr 16 _ (by omega)) _) ?_
  simp -dsimp (discharger := omega) [k0, k8, k9]
  have z2 := bs_from xr2 18 2 (by omega)
  rw [hbehind, slen] at z2
  refine ret_ret (equal_ret z2 (bs_from cr 18 _ (by omega)) _) ?_
  simp -dsimp (discharger := omega) [k4, k7, k9, AHeap.read_of e1]
  have hrb : rightB src dst 6 S = true := by simp [rightB, hright]
  have hr1 := right_ret (proto := 6) h1 h2 (by decide) xs3 w3 sm3 (by omega)
  rw [hrb] at hr1
  refine ret_ret hr1 ?_
  simp -dsimp (discharger := omega) [k5, AHeap.read_of e2]
  refine hQ _ ?_ ?_ ?_ ?_ ?_ ?_ <;> simp
theorem seals_mid_17 {src dst kk by' n b1k ci co cg y : Nat} (h1 : src < 4294967296) (h2 : dst < 4294967296) {cs1 S : List UInt8} (lc1 : cs1.length ≤ 200) (hlo : 8 ≤ cs1.length) (slen : S.length = cs1.length) (hahead : S.take 6 = cs1.take 6) (hbehind : S.drop 8 = cs1.drop 8) (hright : sumN src dst 17 S = 0)
    (hat1 : S[6]? = some (UInt8.ofNat (y / 256)) ∧ S[6 + 1]? = some (UInt8.ofNat (y % 256))) (hn17 : 17 = 17 → y ≠ 0) (hn0 : y ≤ 65535) {h3' : AHeap}
    (e1 : h3'.get n = some (.cells (some 65) [.int .u32 (src : Int), .int .u32 (dst : Int)] 2)) (e2 : h3'.get (n + 1) = some (.cells (some 67) [.int .u16 (kk : Int), .int .u8 (by' : Int), .bool true] 3)) (w3 : WF h3' (n + 64)) (sm3 : HasSums h3')
    (xs3 : BS h3' (.slice (some ⟨n + 2, 0, some cs1.length⟩) cs1.length 2) S) (xa : BS h3' (.slice (some ⟨n + 33, 0, some cs1.length⟩) cs1.length 2) S) (xr2 : h3'.read (n + 2) cs1.length 0 S.length = some (u8s S)) (cr : h3'.read ci cg co cs1.length = some (u8s cs1)) {σ3 : Fr}
    (k0 : σ3.get 0 = some (.slice (some ⟨ci, co, some cg⟩) cs1.length b1k)) (k4 : σ3.get 4 = some (.pointer (some ⟨n, 0, some 2⟩))) (k5 : σ3.get 5 = some (.pointer (some ⟨n + 1, 0, some 3⟩))) (k7 : σ3.get 7 = some (.int .u8 17)) (k8 : σ3.get 8 = some (.int .i64 6)) (k9 : σ3.get 9 = some (.slice (some ⟨n + 2, 0, some cs1.length⟩) cs1.length 2)) (k11 : σ3.get 11 = some (.slice (some ⟨n + 33, 0, some cs1.length⟩) cs1.length 2)) (k12 : σ3.get 12 = some (.int .i64 0))
    {Q : Ex → Fr → AHeap → Nat → Prop} {tk : Tok Q} (hQ : ∀ σ', σ'.get 127 = some (.bool false) → σ'.get 4 = σ3.get 4 → σ'.get 5 = σ3.get 5 → σ'.get 7 = σ3.get 7 → σ'.get 8 = σ3.get 8 → σ'.get 9 = σ3.get 9 → Q .normal σ' h3' (n + 94)) :
    wx EV07 R6_0 σ3 h3' (n + 64) Q tk := by
  simp -dsimp (discharger := omega) [k9, k11, k12]
  refine ret_ret (equal_ret xa xs3 _) ?_
  simp -dsimp (discharger := omega) [k0, k8, k9]
  have z1 := BS.cut' xr2 6 2 (by omega)
  rw [hahead] at z1
  refine ret_ret (equal_ret z1 (BS.cut' cr 6 _ (by omega)) _) ?_
  simp -dsimp (discharger := omega) [k0, k8, k9]
  have z2 := bs_from xr2 8 2 (by omega)
  rw [hbehind, slen] at z2
  refine ret_ret (equal_ret z2 (bs_from cr 8 _ (by omega)) _) ?_
  simp -dsimp (discharger := omega) [k4, k7, k9, AHeap.read_of e1]
  have hrb : rightB src dst 17 S = true := by simp [rightB, hright]
  have hr1 := right_ret (proto := 17) h1 h2 (by decide) xs3 w3 sm3 (by omega)
  rw [hrb] at hr1
  refine ret_ret hr1 ?_
  have r6 := read_one xr2 (u8s_get? hat1.1) (by omega)
  have r7 := read_one xr2 (u8s_get? hat1.2) (by omega)
  simp only [Nat.zero_add] at r6 r7
  have n1 : (UInt8.ofNat (y / 256)).toNat = y / 256 := by simp; omega
  have n2 : (UInt8.ofNat (y % 256)).toNat = y % 256 := by simp
  rw [n1] at r6
  rw [n2] at r7
  have hy := hn17 rfl
  have hnz : y / 256 ≠ 0 ∨ y % 256 ≠ 0 := by omega
  generalize y / 256 = c6 at r6 hnz
  generalize y % 256 = c7 at r7 hnz
  by_cases z : c6 = 0
  · subst z
    have n7 : ((c7 : Int) == 0) = false := by rw [nat0]; simp; omega
    simp -dsimp (discharger := omega) [k5, k8, k9, AHeap.read_of e2, r6, r7, n7]
    refine hQ _ ?_ ?_ ?_ ?_ ?_ ?_ <;> simp
  · have n6 : ((c6 : Int) == 0) = false := by rw [nat0]; simp; omega
    simp -dsimp (discharger := omega) [k5, k8, k9, AHeap.read_of e2, r6, n6]
    refine hQ _ ?_ ?_ ?_ ?_ ?_ ?_ <;> simp
theorem seals_tcp {src dst kk by' : Nat} (h1 : src < 4294967296) (h2 : dst < 4294967296) (h3 : kk < 65536) (h4 : by' < 256) {h : AHeap} {n : Nat} {bb : Value} {cs : List UInt8} (hc : BS h bb cs) (lc : cs.length < 9223372036854775808) (hw : WF h n) (hnm : HasNames h) (hsm : HasSums h) (hn : n ≤ 5000) :
    HasCallT EV07 6 [bb, .agg #[.int .u32 (src : Int), .int .u32 (dst : Int)], .agg #[.int .u16 (kk : Int), .int .u8 (by' : Int), .bool false]] h n (fun v h' n' => v = .bool true) () := by
  refine inl6 ?_
  unfold B6
  rw [← RS6.eq_1]
  simp -dsimp (discharger := omega) [-wR6_0, -wR6_1]
  have hs1 : ∀ X Y, HSub h ((h.put n X).put (n + 1) Y) := fun X Y => ((HSub.refl h).new hw (Nat.le_refl n) X).new hw (by omega) Y
  refine seals_cut (WF.put (n := n + 2) (hw.put (m := n + 2) _ (by omega) (by omega)) _ (by omega) (by omega)) (hs1 _ _) hc lc (by simp) ?_
  intro b1 σ1 hc1 g0 g4 g5
  simp at g4 g5
  obtain ⟨b1i, b1k, rfl⟩ := hc1.shape
  have lc1 : (cs.take 200).length ≤ 200 := by simp; omega
  generalize cs.take 200 = cs1 at hc1 lc1 g0 ⊢
  simp -dsimp (discharger := omega) [g0, g4, g5, -wR6_0, -wR6_1]
  refine call_gen (fun G => G.get n = some (.cells (some 65) [.int .u32 (src : Int), .int .u32 (dst : Int)] 2) ∧ G.get (n + 1) = some (.cells (some 67) [.int .u16 (kk : Int), .int .u8 (by' : Int), .bool false] 3) ∧ HSub h G ∧ WF G (n + 2))
    ⟨by simp (discharger := omega) [], by simp (discharger := omega) [], hs1 _ _, WF.put (n := n + 2) (hw.put (m := n + 2) _ (by omega) (by omega)) _ (by omega) (by omega)⟩ ?_
  rintro h1' ⟨e1, e2, q1, w1⟩
  have hlk : ∀ G, HasSums G → aLookup G true (.int .i64 0) (.map (some 4096)) (.int .u8 ((6 : Nat) : Int)) = some (.tuple #[.int .i64 ((16 : Nat) : Int), .bool true]) := fun G x => sums_6 x true
  have sm1 : HasSums h1' := hsm.mono q1
  have nm1 : HasNames h1' := hn_mono q1 hnm
  have hc2 := hc1.mono q1
  rcases Nat.lt_or_ge cs1.length 18 with hsh | hlo
  · refine call_ret (seal_short hc2 sm1 (by omega) (hlk _ sm1) (by omega) (by omega)) ?_
    simp -dsimp (discharger := omega) [g0, -wR6_0, -wR6_1]
    with_reducible refine call_ret (wakes_ret (by omega) w1 nm1) ?_
    simp -dsimp (discharger := omega) []
  · refine call_ret (seal_ok (proto := 6) (a := 16) h1 h2 (by decide) hc2 w1 sm1 (by omega) (hlk _ sm1) (by omega) (by omega)) ?_
    simp -dsimp (discharger := omega) [g4, AHeap.read_of e1, -wR6_0, -wR6_1]
    have slen : (sealL src dst 6 16 cs1).length = cs1.length := sealL_len _ _ _ _ _
    have hagain : sealL src dst 6 16 (sealL src dst 6 16 cs1) = sealL src dst 6 16 cs1 := seal_again (by omega)
    have hahead : (sealL src dst 6 16 cs1).take 16 = cs1.take 16 := seal_ahead
    have hbehind : (sealL src dst 6 16 cs1).drop 18 = cs1.drop 18 := seal_behind (a := 16)
    have hright := seal_right (proto := 6) (a := 16) h1 h2 (by decide) (by decide) (show cs1.length < 65536 by omega) rfl (by omega)
    have hswap := seal_swap (proto := 6) (a := 16) h1 h2 (by decide) (by decide) (show cs1.length < 65536 by omega) rfl (by omega)
    have hother := fun k v => seal_other (k := k) (v := v) (proto := 6) (a := 16) h1 h2 (by decide) (by decide) (show cs1.length < 65536 by omega) rfl (by omega)
    have hfrom := fun j => seal_from (j := j) (proto := 6) (a := 16) h1 h2 (by decide) (by decide) (show cs1.length < 65536 by omega) rfl (by omega)
    have hat1 := seal_at (src := src) (dst := dst) (proto := 6) (a := 16) (bs := cs1) (by omega)
    have hn0 := sealN_le (src := src) (dst := dst) (proto := 6) (a := 16) (bs := cs1)
    have hn17 : 6 = 17 → sealN src dst 6 16 cs1 ≠ 0 := fun e => by
      unfold sealN; split
      · omega
      · rename_i hx; intro h0; exact hx ⟨e, h0⟩
    generalize sealN src dst 6 16 cs1 = y at hat1 hn0 hn17
    generalize sealL src dst 6 16 cs1 = S at slen hagain hahead hbehind hright hswap hother hfrom hat1 ⊢
    refine call_gen (fun G => G.get (n + 1 + 1) = some (bufB S cs1.length) ∧ HSub h1' G ∧ WF G (n + 1 + 1 + 31)) ⟨AHeap.get_put_same _ _ _, (HSub.refl h1').new w1 (Nat.le_refl _) _, w1.put _ (by omega) (by omega)⟩ ?_
    rintro h2' ⟨e3, q2, w2⟩
    have e1 := q2 _ _ e1
    have e2 := q2 _ _ e2
    have hc3 := hc2.mono q2
    have sm2 := sm1.mono q2
    have xs : BS h2' (.slice (some ⟨n + 1 + 1, 0, some cs1.length⟩) cs1.length 2) S := by
      rw [← slen]; exact .mk (by unfold bufB at e3; rw [AHeap.read_of e3, slen]; simp [slen]; exact List.take_of_length_le (by simp [slen]))
    have hok2 := seal_ok (proto := 6) (a := 16) h1 h2 (by decide) xs w2 sm2 (by omega) (hlk _ sm2) (by omega) (by omega)
    rw [hagain, slen] at hok2
    refine call_ret hok2 ?_
    simp -dsimp (discharger := omega) [-wR6_0, -wR6_1]
    obtain ⟨ci, co, cg, rfl, hcr⟩ := hc1.some (by omega)
    refine wx_gen (fun σ G => (σ.get 0 = some (.slice (some ⟨ci, co, some cg⟩) cs1.length b1k) ∧ σ.get 4 = some (.pointer (some ⟨n, 0, some 2⟩)) ∧ σ.get 5 = some (.pointer (some ⟨n + 1, 0, some 3⟩)) ∧ σ.get 7 = some (.int .u8 6) ∧ σ.get 8 = some (.int .i64 16) ∧ σ.get 9 = some (.slice (some ⟨n + 2, 0, some cs1.length⟩) cs1.length 2) ∧ σ.get 11 = some (.slice (some ⟨n + 33, 0, some cs1.length⟩) cs1.length 2) ∧ σ.get 12 = some (.int .i64 0)) ∧
        G.get (n + 33) = some (bufB S cs1.length) ∧ HSub h2' G ∧ WF G (n + 64))
      ⟨⟨by simp [g0], by simp [g4], by simp [g5], by simp, by simp, by simp, by simp, by simp⟩, AHeap.get_put_same _ _ _, (HSub.refl h2').new w2 (Nat.le_refl _) _, w2.put _ (by omega) (by omega)⟩ ?_
    clear g0 g4 g5
    rintro σ3 h3' ⟨⟨k0, k4, k5, k7, k8, k9, k11, k12⟩, e4, q3, w3⟩
    have e1 := q3 _ _ e1
    have e2 := q3 _ _ e2
    have hc4 := hc3.mono q3
    have sm3 := sm2.mono q3
    have nm3 : HasNames h3' := hn_mono (q1.trans (q2.trans q3)) hnm
    have xs3 := xs.mono q3
    have xr : h3'.read (n + 2) cs1.length 0 cs1.length = some (u8s S) := by
      have := q3 _ _ e3
      unfold bufB at this; rw [AHeap.read_of this]; simp [slen]; exact List.take_of_length_le (by simp [slen])
    have xa : BS h3' (.slice (some ⟨n + 33, 0, some cs1.length⟩) cs1.length 2) S := by
      rw [← slen]; exact .mk (by unfold bufB at e4; rw [AHeap.read_of e4, slen]; simp [slen]; exact List.take_of_length_le (by simp [slen]))
    have cr : h3'.read ci cg co cs1.length = some (u8s cs1) := read_mono (q1.trans (q2.trans q3)) hcr
    have xr2 : h3'.read (n + 2) cs1.length 0 S.length = some (u8s S) := by rw [slen]; exact xr
    refine seals_mid_6 h1 h2 (by omega) hlo slen hahead hbehind hright hat1 (hn17 := hn17) hn0 e1 e2 w3 sm3 xs3 xa xr2 cr k0 k4 k5 k7 k8 k9 k11 k12 ?_
    intro σ5 k127 j4 j5 j7 j8 j9
    rw [k4] at j4
    rw [k5] at j5
    rw [k7] at j7
    rw [k8] at j8
    rw [k9] at j9
    clear k0 k4 k5 k7 k8 k9 k11 k12 σ3
    have k4 := j4
    have k5 := j5
    have k7 := j7
    have k8 := j8
    have k9 := j9
    have hcne : ¬ cs1 = [] := fun e => by rw [e] at hlo; simp at hlo
    have hkm : ((kk : Int)).tmod (cs1.length : Int) = ((kk % cs1.length : Nat) : Int) := rfl
    simp -dsimp (discharger := omega) [k127, k5, k9, AHeap.read_of e2, hkm, hcne, -wR6_1]
    have hbc := bclone_ret (k := 2) xr2 (w3.mono (show n + 64 ≤ n + 94 by omega)) (by omega)
    rw [slen] at hbc
    refine call_ret hbc ?_
    have hkl : kk % cs1.length < cs1.length := Nat.mod_lt _ (by omega)
    simp -dsimp (discharger := omega) [-wR6_1]
    refine wx_gen (fun σ G => (σ.get 4 = some (.pointer (some ⟨n, 0, some 2⟩)) ∧ σ.get 5 = some (.pointer (some ⟨n + 1, 0, some 3⟩)) ∧ σ.get 7 = some (.int .u8 6) ∧ σ.get 8 = some (.int .i64 16) ∧ σ.get 9 = some (.slice (some ⟨n + 2, 0, some cs1.length⟩) cs1.length 2) ∧ σ.get 13 = some (.int .i64 ((kk % cs1.length : Nat) : Int)) ∧ σ.get 14 = some (.slice (some ⟨n + 94, 0, some cs1.length⟩) cs1.length 2)) ∧
        G.get (n + 94) = some (bufB S 0) ∧ HSub h3' G ∧ WF G (n + 95))
      ⟨⟨by simp [k4], by simp [k5], by simp [k7], by simp [k8], by simp [k9], by simp, by simp⟩, AHeap.get_put_same _ _ _, (HSub.refl h3').new w3 (by omega) _, w3.put _ (by omega) (by omega)⟩ ?_
    clear k4 k5 k7 k8 k9 hkm
    generalize kk % cs1.length = kq at hkl ⊢
    rintro σ4 h4' ⟨⟨k4, k5, k7, k8, k9, k13, k14⟩, e5, q4, w4⟩
    have e1 := q4 _ _ e1
    have e2 := q4 _ _ e2
    have sm4 := sm3.mono q4
    have nm4 : HasNames h4' := hn_mono q4 nm3
    have xs4 := xs3.mono q4
    have hrem : ((by' : Int)).tmod 255 = ((by' % 255 : Nat) : Int) := rfl
    have hxor := xor_u8 (x := (S[kq]'(by omega)).toNat) (y := 1 + by' % 255) (S[kq]'(by omega)).toNat_lt (by omega)
    have hvne : UInt8.ofNat ((S[kq]'(by omega)).toNat ^^^ (1 + by' % 255)) ≠ S[kq]'(by omega) := fun e => by
      have h5 := xor_ne (x := (S[kq]'(by omega)).toNat) (y := 1 + by' % 255) (by omega)
      have h6 : (S[kq]'(by omega)).toNat ^^^ (1 + by' % 255) < 2 ^ 8 := Nat.xor_lt_two_pow (S[kq]'(by omega)).toNat_lt (by omega)
      have h7 := congrArg UInt8.toNat e
      rw [UInt8.toNat_ofNat_of_lt' (by simpa using h6)] at h7
      exact h5 h7
    have hvv : (((S[kq]'(by omega)).toNat ^^^ (1 + by' % 255) : Nat) : Int) = ((UInt8.ofNat ((S[kq]'(by omega)).toNat ^^^ (1 + by' % 255))).toNat : Int) := by
      have h6 : (S[kq]'(by omega)).toNat ^^^ (1 + by' % 255) < 2 ^ 8 := Nat.xor_lt_two_pow (S[kq]'(by omega)).toNat_lt (by omega)
      rw [UInt8.toNat_ofNat_of_lt' (by simpa using h6)]
    have hS : (u8s S)[kq]? = some (.int .u8 ((S[kq]'(by omega)).toNat : Int)) := u8s_get? (List.getElem?_eq_getElem (by omega))
    have hSt := take1 hS
    have hSl : (u8s S).length = cs1.length := by simp [slen]
    have hput := u8s_put (l := S) (i := kq) (by omega) (UInt8.ofNat ((S[kq]'(by omega)).toNat ^^^ (1 + by' % 255)))
    have hoth := hother kq _ (by omega) hvne
    rw [hvv] at hxor
    generalize UInt8.ofNat ((S[kq]'(by omega)).toNat ^^^ (1 + by' % 255)) = vv at hxor hvne hvv hput hoth
    generalize (S[kq]'(by omega)).toNat = s0 at hxor hSt
    have hxor2 : xorI .u8 (s0 : Int) (1 + (by' : Int) % 255) = (vv.toNat : Int) := by
      rw [← hxor]; congr 1
    have ol : (S.set kq vv).length = cs1.length := by simp [slen]
    have ol2 : (u8s (S.set kq vv)).length = cs1.length := by simp [slen]
    generalize S.set kq vv = O at hput hoth ol ol2
    unfold bufB at e5
    have xo : BS (h4'.put (n + 94) (.cells (some 5) (u8s O) cs1.length)) (.slice (some ⟨n + 94, 0, some cs1.length⟩) cs1.length 2) O := by
      have := BS.new (h := h4') (i := n + 94) (bs := O) (m := cs1.length) (by omega)
      rwa [bufB, ol] at this
    have qo : HSub h3' (h4'.put (n + 94) (.cells (some 5) (u8s O) cs1.length)) := q4.new w3 (by omega) _
    have wo : WF (h4'.put (n + 94) (.cells (some 5) (u8s O) cs1.length)) (n + 95) := w4.put _ (by omega) (by omega)
    have hr2 := right_ret (proto := 6) h1 h2 (by decide) xo wo (sm3.mono qo) (by omega)
    have xs5 := xs3.mono qo
    have hr3 := right_ret (proto := 6) h2 h1 (by decide) xs5 (wo.mono (show n + 95 ≤ n + 94 + 1 + 30 by omega)) (sm3.mono qo) (by omega)
    have hrb3 : rightB dst src 6 S = true := by simp [rightB, hswap]
    rw [hrb3] at hr3
    have hj : by' % 32 < 32 := Nat.mod_lt _ (by omega)
    have hw32 : 2 ^ (by' % 32) < 4294967296 := Nat.pow_lt_pow_right (a := 2) (by omega) hj
    have hrem2 : ((by' : Int)).tmod 32 = ((by' % 32 : Nat) : Int) := rfl
    have hshl := shl_one hj
    have hff := hfrom _ hj
    have hx32 := xor_u32 h1 hw32
    have hxl : src ^^^ 2 ^ (by' % 32) < 4294967296 := Nat.xor_lt_two_pow (n := 32) h1 hw32
    generalize 2 ^ (by' % 32) = w at hw32 hshl hff hx32 hxl
    generalize src ^^^ w = src2 at hff hx32 hxl
    have hshl : shlI .u32 1 ((by' : Int) % 32) = (w : Int) := hshl
    have hrb4 : rightB src2 dst 6 S = false := by simp [rightB, hff]
    have hr4 := right_ret (proto := 6) hxl h2 (by decide) xs5 (wo.mono (show n + 95 ≤ n + 94 + 1 + 30 + 30 by omega)) (sm3.mono qo) (by omega)
    rw [hrb4] at hr4
    have hrb2 : rightB src dst 6 O = false := by simp [rightB, hoth]
    have hr2 := right_ret (proto := 6) h1 h2 (by decide) xo (wo.mono (show n + 95 ≤ n + 94 + 1 by omega)) (sm3.mono qo) (by omega)
    rw [hrb2] at hr2
    simp -dsimp (discharger := omega) [k4, k5, k7, k13, k14, AHeap.read_of e1, AHeap.read_of e2, AHeap.read_of e5, e5, hrem, hSt, hSl, hxor2, hput]
    refine call_ret hr2 ?_
    simp -dsimp (discharger := omega) [k4, k7, k9, AHeap.read_of e1]
    refine call_ret hr3 ?_
    simp -dsimp (discharger := omega) [k4, k5, k7, k9, AHeap.read_of e1, AHeap.read_of e2, hrem2, hshl, hx32]
    refine call_ret hr4 ?_
    simp -dsimp (discharger := omega) []
    with_reducible refine call_ret (wakes_ret (by omega) (wo.mono (by omega)) (hn_mono qo nm3)) ?_
    simp -dsimp (discharger := omega) []
theorem seals_udp {src dst kk by' : Nat} (h1 : src < 4294967296) (h2 : dst < 4294967296) (h3 : kk < 65536) (h4 : by' < 256) {h : AHeap} {n : Nat} {bb : Value} {cs : List UInt8} (hc : BS h bb cs) (lc : cs.length < 9223372036854775808) (hw : WF h n) (hnm : HasNames h) (hsm : HasSums h) (hn : n ≤ 5000) :
    HasCallT EV07 6 [bb, .agg #[.int .u32 (src : Int), .int .u32 (dst : Int)], .agg #[.int .u16 (kk : Int), .int .u8 (by' : Int), .bool true]] h n (fun v h' n' => v = .bool true) () := by
  refine inl6 ?_
  unfold B6
  rw [← RS6.eq_1]
  simp -dsimp (discharger := omega) [-wR6_0, -wR6_1]
  have hs1 : ∀ X Y, HSub h ((h.put n X).put (n + 1) Y) := fun X Y => ((HSub.refl h).new hw (Nat.le_refl n) X).new hw (by omega) Y
  refine seals_cut (WF.put (n := n + 2) (hw.put (m := n + 2) _ (by omega) (by omega)) _ (by omega) (by omega)) (hs1 _ _) hc lc (by simp) ?_
  intro b1 σ1 hc1 g0 g4 g5
  simp at g4 g5
  obtain ⟨b1i, b1k, rfl⟩ := hc1.shape
  have lc1 : (cs.take 200).length ≤ 200 := by simp; omega
  generalize cs.take 200 = cs1 at hc1 lc1 g0 ⊢
  simp -dsimp (discharger := omega) [g0, g4, g5, -wR6_0, -wR6_1]
  refine call_gen (fun G => G.get n = some (.cells (some 65) [.int .u32 (src : Int), .int .u32 (dst : Int)] 2) ∧ G.get (n + 1) = some (.cells (some 67) [.int .u16 (kk : Int), .int .u8 (by' : Int), .bool true] 3) ∧ HSub h G ∧ WF G (n + 2))
    ⟨by simp (discharger := omega) [], by simp (discharger := omega) [], hs1 _ _, WF.put (n := n + 2) (hw.put (m := n + 2) _ (by omega) (by omega)) _ (by omega) (by omega)⟩ ?_
  rintro h1' ⟨e1, e2, q1, w1⟩
  have hlk : ∀ G, HasSums G → aLookup G true (.int .i64 0) (.map (some 4096)) (.int .u8 ((17 : Nat) : Int)) = some (.tuple #[.int .i64 ((6 : Nat) : Int), .bool true]) := fun G x => sums_17 x true
  have sm1 : HasSums h1' := hsm.mono q1
  have nm1 : HasNames h1' := hn_mono q1 hnm
  have hc2 := hc1.mono q1
  rcases Nat.lt_or_ge cs1.length 8 with hsh | hlo
  · refine call_ret (seal_short hc2 sm1 (by omega) (hlk _ sm1) (by omega) (by omega)) ?_
    simp -dsimp (discharger := omega) [g0, -wR6_0, -wR6_1]
    with_reducible refine call_ret (wakes_ret (by omega) w1 nm1) ?_
    simp -dsimp (discharger := omega) []
  · refine call_ret (seal_ok (proto := 17) (a := 6) h1 h2 (by decide) hc2 w1 sm1 (by omega) (hlk _ sm1) (by omega) (by omega)) ?_
    simp -dsimp (discharger := omega) [g4, AHeap.read_of e1, -wR6_0, -wR6_1]
    have slen : (sealL src dst 17 6 cs1).length = cs1.length := sealL_len _ _ _ _ _
    have hagain : sealL src dst 17 6 (sealL src dst 17 6 cs1) = sealL src dst 17 6 cs1 := seal_again (by omega)
    have hahead : (sealL src dst 17 6 cs1).take 6 = cs1.take 6 := seal_ahead
    have hbehind : (sealL src dst 17 6 cs1).drop 8 = cs1.drop 8 := seal_behind (a := 6)
    have hright := seal_right (proto := 17) (a := 6) h1 h2 (by decide) (by decide) (show cs1.length < 65536 by omega) rfl (by omega)
    have hswap := seal_swap (proto := 17) (a := 6) h1 h2 (by decide) (by decide) (show cs1.length < 65536 by omega) rfl (by omega)
    have hother := fun k v => seal_other (k := k) (v := v) (proto := 17) (a := 6) h1 h2 (by decide) (by decide) (show cs1.length < 65536 by omega) rfl (by omega)
    have hfrom := fun j => seal_from (j := j) (proto := 17) (a := 6) h1 h2 (by decide) (by decide) (show cs1.length < 65536 by omega) rfl (by omega)
    have hat1 := seal_at (src := src) (dst := dst) (proto := 17) (a := 6) (bs := cs1) (by omega)
    have hn0 := sealN_le (src := src) (dst := dst) (proto := 17) (a := 6) (bs := cs1)
    have hn17 : 17 = 17 → sealN src dst 17 6 cs1 ≠ 0 := fun e => by
      unfold sealN; split
      · omega
      · rename_i hx; intro h0; exact hx ⟨e, h0⟩
    generalize sealN src dst 17 6 cs1 = y at hat1 hn0 hn17
    generalize sealL src dst 17 6 cs1 = S at slen hagain hahead hbehind hright hswap hother hfrom hat1 ⊢
    refine call_gen (fun G => G.get (n + 1 + 1) = some (bufB S cs1.length) ∧ HSub h1' G ∧ WF G (n + 1 + 1 + 31)) ⟨AHeap.get_put_same _ _ _, (HSub.refl h1').new w1 (Nat.le_refl _) _, w1.put _ (by omega) (by omega)⟩ ?_
    rintro h2' ⟨e3, q2, w2⟩
    have e1 := q2 _ _ e1
    have e2 := q2 _ _ e2
    have hc3 := hc2.mono q2
    have sm2 := sm1.mono q2
    have xs : BS h2' (.slice (some ⟨n + 1 + 1, 0, some cs1.length⟩) cs1.length 2) S := by
      rw [← slen]; exact .mk (by unfold bufB at e3; rw [AHeap.read_of e3, slen]; simp [slen]; exact List.take_of_length_le (by simp [slen]))
    have hok2 := seal_ok (proto := 17) (a := 6) h1 h2 (by decide) xs w2 sm2 (by omega) (hlk _ sm2) (by omega) (by omega)
    rw [hagain, slen] at hok2
    refine call_ret hok2 ?_
    simp -dsimp (discharger := omega) [-wR6_0, -wR6_1]
    obtain ⟨ci, co, cg, rfl, hcr⟩ := hc1.some (by omega)
    refine wx_gen (fun σ G => (σ.get 0 = some (.slice (some ⟨ci, co, some cg⟩) cs1.length b1k) ∧ σ.get 4 = some (.pointer (some ⟨n, 0, some 2⟩)) ∧ σ.get 5 = some (.pointer (some ⟨n + 1, 0, some 3⟩)) ∧ σ.get 7 = some (.int .u8 17) ∧ σ.get 8 = some (.int .i64 6) ∧ σ.get 9 = some (.slice (some ⟨n + 2, 0, some cs1.length⟩) cs1.length 2) ∧ σ.get 11 = some (.slice (some ⟨n + 33, 0, some cs1.length⟩) cs1.length 2) ∧ σ.get 12 = some (.int .i64 0)) ∧
        G.get (n + 33) = some (bufB S cs1.length) ∧ HSub h2' G ∧ WF G (n + 64))
      ⟨⟨by simp [g0], by simp [g4], by simp [g5], by simp, by simp, by simp, by simp, by simp⟩, AHeap.get_put_same _ _ _, (HSub.refl h2').new w2 (Nat.le_refl _) _, w2.put _ (by omega) (by omega)⟩ ?_
    clear g0 g4 g5
    rintro σ3 h3' ⟨⟨k0, k4, k5, k7, k8, k9, k11, k12⟩, e4, q3, w3⟩
    have e1 := q3 _ _ e1
    have e2 := q3 _ _ e2
    have hc4 := hc3.mono q3
    have sm3 := sm2.mono q3
    have nm3 : HasNames h3' := hn_mono (q1.trans (q2.trans q3)) hnm
    have xs3 := xs.mono q3
    have xr : h3'.read (n + 2) cs1.length 0 cs1.length = some (u8s S) := by
      have := q3 _ _ e3
      unfold bufB at this; rw [AHeap.read_of this]; simp [slen]; exact List.take_of_length_le (by simp [slen])
    have xa : BS h3' (.slice (some ⟨n + 33, 0, some cs1.length⟩) cs1.length 2) S := by
      rw [← slen]; exact .mk (by unfold bufB at e4; rw [AHeap.read_of e4, slen]; simp [slen]; exact List.take_of_length_le (by simp [slen]))
    have cr : h3'.read ci cg co cs1.length = some (u8s cs1) := read_mono (q1.trans (q2.trans q3)) hcr
    have xr2 : h3'.read (n + 2) cs1.length 0 S.length = some (u8s S) := by rw [slen]; exact xr
    refine seals_mid_17 h1 h2 (by omega) hlo slen hahead hbehind hright hat1 (hn17 := hn17) hn0 e1 e2 w3 sm3 xs3 xa xr2 cr k0 k4 k5 k7 k8 k9 k11 k12 ?_
    intro σ5 k127 j4 j5 j7 j8 j9
    rw [k4] at j4
    rw [k5] at j5
    rw [k7] at j7
    rw [k8] at j8
    rw [k9] at j9
    clear k0 k4 k5 k7 k8 k9 k11 k12 σ3
    have k4 := j4
    have k5 := j5
    have k7 := j7
    have k8 := j8
    have k9 := j9
    have hcne : ¬ cs1 = [] := fun e => by rw [e] at hlo; simp at hlo
    have hkm : ((kk : Int)).tmod (cs1.length : Int) = ((kk % cs1.length : Nat) : Int) := rfl
    simp -dsimp (discharger := omega) [k127, k5, k9, AHeap.read_of e2, hkm, hcne, -wR6_1]
    have hbc := bclone_ret (k := 2) xr2 (w3.mono (show n + 64 ≤ n + 94 by omega)) (by omega)
    rw [slen] at hbc
    refine call_ret hbc ?_
    have hkl : kk % cs1.length < cs1.length := Nat.mod_lt _ (by omega)
    simp -dsimp (discharger := omega) [-wR6_1]
    refine wx_gen (fun σ G => (σ.get 4 = some (.pointer (some ⟨n, 0, some 2⟩)) ∧ σ.get 5 = some (.pointer (some ⟨n + 1, 0, some 3⟩)) ∧ σ.get 7 = some (.int .u8 17) ∧ σ.get 8 = some (.int .i64 6) ∧ σ.get 9 = some (.slice (some ⟨n + 2, 0, some cs1.length⟩) cs1.length 2) ∧ σ.get 13 = some (.int .i64 ((kk % cs1.length : Nat) : Int)) ∧ σ.get 14 = some (.slice (some ⟨n + 94, 0, some cs1.length⟩) cs1.length 2)) ∧
        G.get (n + 94) = some (bufB S 0) ∧ HSub h3' G ∧ WF G (n + 95))
      ⟨⟨by simp [k4], by simp [k5], by simp [k7], by simp [k8], by simp [k9], by simp, by simp⟩, AHeap.get_put_same _ _ _, (HSub.refl h3').new w3 (by omega) _, w3.put _ (by omega) (by omega)⟩ ?_
    clear k4 k5 k7 k8 k9 hkm
    generalize kk % cs1.length = kq at hkl ⊢
    rintro σ4 h4' ⟨⟨k4, k5, k7, k8, k9, k13, k14⟩, e5, q4, w4⟩
    have e1 := q4 _ _ e1
    have e2 := q4 _ _ e2
    have sm4 := sm3.mono q4
    have nm4 : HasNames h4' := hn_mono q4 nm3
    have xs4 := xs3.mono q4
    have hrem : ((by' : Int)).tmod 255 = ((by' % 255 : Nat) : Int) := rfl
    have hxor := xor_u8 (x := (S[kq]'(by omega)).toNat) (y := 1 + by' % 255) (S[kq]'(by omega)).toNat_lt (by omega)
    have hvne : UInt8.ofNat ((S[kq]'(by omega)).toNat ^^^ (1 + by' % 255)) ≠ S[kq]'(by omega) := fun e => by
      have h5 := xor_ne (x := (S[kq]'(by omega)).toNat) (y := 1 + by' % 255) (by omega)
      have h6 : (S[kq]'(by omega)).toNat ^^^ (1 + by' % 255) < 2 ^ 8 := Nat.xor_lt_two_pow (S[kq]'(by omega)).toNat_lt (by omega)
      have h7 := congrArg UInt8.toNat e
      rw [UInt8.toNat_ofNat_of_lt' (by simpa using h6)] at h7
      exact h5 h7
    have hvv : (((S[kq]'(by omega)).toNat ^^^ (1 + by' % 255) : Nat) : Int) = ((UInt8.ofNat ((S[kq]'(by omega)).toNat ^^^ (1 + by' % 255))).toNat : Int) := by
      have h6 : (S[kq]'(by omega)).toNat ^^^ (1 + by' % 255) < 2 ^ 8 := Nat.xor_lt_two_pow (S[kq]'(by omega)).toNat_lt (by omega)
      rw [UInt8.toNat_ofNat_of_lt' (by simpa using h6)]
    have hS : (u8s S)[kq]? = some (.int .u8 ((S[kq]'(by omega)).toNat : Int)) := u8s_get? (List.getElem?_eq_getElem (by omega))
    have hSt := take1 hS
    have hSl : (u8s S).length = cs1.length := by simp [slen]
    have hput := u8s_put (l := S) (i := kq) (by omega) (UInt8.ofNat ((S[kq]'(by omega)).toNat ^^^ (1 + by' % 255)))
    have hoth := hother kq _ (by omega) hvne
    rw [hvv] at hxor
    generalize UInt8.ofNat ((S[kq]'(by omega)).toNat ^^^ (1 + by' % 255)) = vv at hxor hvne hvv hput hoth
    generalize (S[kq]'(by omega)).toNat = s0 at hxor hSt
    have hxor2 : xorI .u8 (s0 : Int) (1 + (by' : Int) % 255) = (vv.toNat : Int) := by
      rw [← hxor]; congr 1
    have ol : (S.set kq vv).length = cs1.length := by simp [slen]
    have ol2 : (u8s (S.set kq vv)).length = cs1.length := by simp [slen]
    generalize S.set kq vv = O at hput hoth ol ol2
    unfold bufB at e5
    have xo : BS (h4'.put (n + 94) (.cells (some 5) (u8s O) cs1.length)) (.slice (some ⟨n + 94, 0, some cs1.length⟩) cs1.length 2) O := by
      have := BS.new (h := h4') (i := n + 94) (bs := O) (m := cs1.length) (by omega)
      rwa [bufB, ol] at this
    have qo : HSub h3' (h4'.put (n + 94) (.cells (some 5) (u8s O) cs1.length)) := q4.new w3 (by omega) _
    have wo : WF (h4'.put (n + 94) (.cells (some 5) (u8s O) cs1.length)) (n + 95) := w4.put _ (by omega) (by omega)
    have hr2 := right_ret (proto := 17) h1 h2 (by decide) xo wo (sm3.mono qo) (by omega)
    have xs5 := xs3.mono qo
    have hr3 := right_ret (proto := 17) h2 h1 (by decide) xs5 (wo.mono (show n + 95 ≤ n + 94 + 1 + 30 by omega)) (sm3.mono qo) (by omega)
    have hrb3 : rightB dst src 17 S = true := by simp [rightB, hswap]
    rw [hrb3] at hr3
    have hj : by' % 32 < 32 := Nat.mod_lt _ (by omega)
    have hw32 : 2 ^ (by' % 32) < 4294967296 := Nat.pow_lt_pow_right (a := 2) (by omega) hj
    have hrem2 : ((by' : Int)).tmod 32 = ((by' % 32 : Nat) : Int) := rfl
    have hshl := shl_one hj
    have hff := hfrom _ hj
    have hx32 := xor_u32 h1 hw32
    have hxl : src ^^^ 2 ^ (by' % 32) < 4294967296 := Nat.xor_lt_two_pow (n := 32) h1 hw32
    generalize 2 ^ (by' % 32) = w at hw32 hshl hff hx32 hxl
    generalize src ^^^ w = src2 at hff hx32 hxl
    have hshl : shlI .u32 1 ((by' : Int) % 32) = (w : Int) := hshl
    have s6 : S.getD 6 0 = UInt8.ofNat (y / 256) := by rw [List.getD_eq_getElem?_getD, hat1.1]; rfl
    have s7 : S.getD 7 0 = UInt8.ofNat (y % 256) := by rw [List.getD_eq_getElem?_getD, hat1.2]; rfl
    have hy := hn17 rfl
    have hrb4 : rightB src2 dst 17 S = false := by
      rw [rightB, s6, s7]
      by_cases z : y / 256 = 0
      · have : (UInt8.ofNat (y % 256) == 0) = false := by
          rw [beq_eq_false_iff_ne]; intro e
          have := congrArg UInt8.toNat e
          simp at this; omega
        rw [this]; simp [hff]
      · have : (UInt8.ofNat (y / 256) == 0) = false := by
          rw [beq_eq_false_iff_ne]; intro e
          have := congrArg UInt8.toNat e
          simp at this; omega
        rw [this]; simp [hff]
    have hr4 := right_ret (proto := 17) hxl h2 (by decide) xs5 (wo.mono (show n + 95 ≤ n + 1 + 1 + 31 + 31 + 30 + 1 + 30 + 30 by omega)) (sm3.mono qo) (by omega)
    rw [hrb4] at hr4
    have o6 := take1 (u8s_get? (l := O) (i := 6) (List.getElem?_eq_getElem (by omega)))
    have o7 := take1 (u8s_get? (l := O) (i := 7) (List.getElem?_eq_getElem (by omega)))
    have d6 : O.getD 6 0 = O[6]'(by omega) := by rw [List.getD_eq_getElem?_getD, List.getElem?_eq_getElem (by omega)]; rfl
    have d7 : O.getD 7 0 = O[7]'(by omega) := by rw [List.getD_eq_getElem?_getD, List.getElem?_eq_getElem (by omega)]; rfl
    have hr2 := right_ret (proto := 17) h1 h2 (by decide) xo (wo.mono (show n + 95 ≤ n + 1 + 1 + 31 + 31 + 30 + 1 by omega)) (sm3.mono qo) (by omega)
    have hrb2 : rightB src dst 17 O = ((O[6]'(by omega) == 0) && (O[7]'(by omega) == 0)) := by 
      have h8 : decide (8 ≤ O.length) = true := by rw [decide_eq_true_iff]; omega
      rw [rightB, d6, d7, h8]; simp [hoth]
    rw [hrb2] at hr2
    generalize O[6]'(by omega) = p6 at o6 hr2
    generalize O[7]'(by omega) = p7 at o7 hr2
    by_cases z6 : p6 = 0
    · subst z6
      by_cases z7 : p7 = 0
      · subst z7
        have hr2 : Ret EV07 30 _ _ _ (.bool true) _ _ := hr2
        simp -dsimp (discharger := omega) [k4, k5, k7, k8, k13, k14, AHeap.read_of e1, AHeap.read_of e2, AHeap.read_of e5, e5, hrem, hSt, hSl, hxor2, hput, ol2, o6, o7]
        refine call_ret hr2 ?_
        simp -dsimp (discharger := omega) [k4, k7, k9, AHeap.read_of e1]
        refine call_ret hr3 ?_
        simp -dsimp (discharger := omega) [k4, k5, k7, k9, AHeap.read_of e1, AHeap.read_of e2, hrem2, hshl, hx32]
        refine call_ret hr4 ?_
        simp -dsimp (discharger := omega) []
        with_reducible refine call_ret (wakes_ret (by omega) (wo.mono (by omega)) (hn_mono qo nm3)) ?_
        simp -dsimp (discharger := omega) []
      · have n7 : ((p7.toNat : Int) == 0) = false := by rw [nat0]; simp; exact fun e => z7 (UInt8.toNat_inj.1 e)
        have m7 : (p7 == 0) = false := by simpa using z7
        rw [m7] at hr2
        have hr2 : Ret EV07 30 _ _ _ (.bool false) _ _ := hr2
        simp -dsimp (discharger := omega) [k4, k5, k7, k8, k13, k14, AHeap.read_of e1, AHeap.read_of e2, AHeap.read_of e5, e5, hrem, hSt, hSl, hxor2, hput, ol2, o6, o7, n7]
        refine call_ret hr2 ?_
        simp -dsimp (discharger := omega) [k4, k7, k9, AHeap.read_of e1]
        refine call_ret hr3 ?_
        simp -dsimp (discharger := omega) [k4, k5, k7, k9, AHeap.read_of e1, AHeap.read_of e2, hrem2, hshl, hx32]
        refine call_ret hr4 ?_
        simp -dsimp (discharger := omega) []
        with_reducible refine call_ret (wakes_ret (by omega) (wo.mono (by omega)) (hn_mono qo nm3)) ?_
        simp -dsimp (discharger := omega) []
    · have n6 : ((p6.toNat : Int) == 0) = false := by rw [nat0]; simp; exact fun e => z6 (UInt8.toNat_inj.1 e)
      have m6 : (p6 == 0) = false := by simpa using z6
      rw [m6] at hr2
      have hr2 : Ret EV07 30 _ _ _ (.bool false) _ _ := hr2
      simp -dsimp (discharger := omega) [k4, k5, k7, k8, k13, k14, AHeap.read_of e1, AHeap.read_of e2, AHeap.read_of e5, e5, hrem, hSt, hSl, hxor2, hput, ol2, o6, n6]
      refine call_ret hr2 ?_
      simp -dsimp (discharger := omega) [k4, k7, k9, AHeap.read_of e1]
      refine call_ret hr3 ?_
      simp -dsimp (discharger := omega) [k4, k5, k7, k9, AHeap.read_of e1, AHeap.read_of e2, hrem2, hshl, hx32]
      refine call_ret hr4 ?_
      simp -dsimp (discharger := omega) []
      with_reducible refine call_ret (wakes_ret (by omega) (wo.mono (by omega)) (hn_mono qo nm3)) ?_
      simp -dsimp (discharger := omega) []
end
end Go.Proofs.YtkaibjdogeikbaaDoor.Am
