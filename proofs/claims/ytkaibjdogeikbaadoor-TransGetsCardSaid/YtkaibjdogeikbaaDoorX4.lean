/- Contracts of the program's functions (X4). -/
import Derived.Test.YtkaibjdogeikbaaDoorX3
import Derived.Test.YtkaibjdogeikbaaDoorX2
import Derived.Test.YtkaibjdogeikbaaDoorW
namespace Go.Proofs.YtkaibjdogeikbaaDoor.Am
noncomputable section
/- THE LAW TransBack: its first lines. -/
theorem and_not_3 : ∀ m : Fin 41, andNotI .i64 (m.1 : Int) 3 = ((4 * (m.1 / 4) : Nat) : Int) := by decide +kernel
theorem BS.cut' {h : AHeap} {i o g : Nat} {vs : List UInt8} (hr : h.read i g o vs.length = some (u8s vs)) (m : Nat) (k' : Nat) (hm : m ≤ vs.length) : BS h (.slice (some ⟨i, o, some g⟩) m k') (vs.take m) := by
  have := BS.cut hr m k'
  rwa [Nat.min_eq_left hm] at this
theorem back_cut {t : TcpN} {h0 H : AHeap} {n q : Nat} {o b : Value} {os bs : List UInt8} (e1 : H.get q = some (.cells (some 35) (tcpC t o b) 11)) (hw : WF H n) (hs : HSub h0 H) (ho : BS h0 o os) (hb : BS h0 b bs)
    (lo : os.length < 9223372036854775808) (lb : bs.length < 9223372036854775808)
    {σ : Fr} (g3 : σ.get 3 = some (.pointer (some ⟨q, 0, some 11⟩))) {Q : Ex → Fr → AHeap → Nat → Prop} {tk : Tok Q}
    (hQ : ∀ o' b' σ' H', BS h0 o' (os.take (4 * (Min.min 40 os.length / 4))) → BS h0 b' (bs.take 60) → σ'.get 2 = σ.get 2 → σ'.get 3 = σ.get 3 → σ'.get 4 = σ.get 4 →
      H'.get q = some (.cells (some 35) (tcpC t o' b') 11) → Keep q H H' → WF H' n → Q .normal σ' H' n) :
    wx EV07 R5_0 σ H n Q tk := by
  have ha : (andNotI .i64 (if (40 : Int) < (os.length : Int) then (40 : Int) else (os.length : Int)) 3) = ((4 * (Min.min 40 os.length / 4) : Nat) : Int) := by
    have e : (if (40 : Int) < (os.length : Int) then (40 : Int) else (os.length : Int)) = ((Min.min 40 os.length : Nat) : Int) := by split <;> omega
    rw [e]
    exact and_not_3 ⟨Min.min 40 os.length, by omega⟩
  have hq := hw.lt e1
  have hm : 4 * (Min.min 40 os.length / 4) ≤ os.length := by omega
  generalize 4 * (Min.min 40 os.length / 4) = m at ha hm hQ
  have h2 : (if (60 : Int) < (bs.length : Int) then (60 : Int) else (bs.length : Int)).toNat = Min.min 60 bs.length := by split <;> omega
  have hk : ∀ (x1 x2 : Blk), Keep q H ((H.put q x1).put q x2) := fun x1 x2 => (Keep.put q H x1).trans (Keep.put q _ x2)
  have hwf : ∀ (x1 x2 : Blk), WF ((H.put q x1).put q x2) n := fun x1 x2 => WF.put (n := n) (hw.put (m := n) _ (by omega) (by omega)) _ (by omega) (by omega)
  unfold tcpC at e1
  rcases ho with _ | @⟨i1, o1, gg1, k1, _, r1⟩
  · have hm0 : m = 0 := by simpa using hm
    subst hm0
    have c0 : BS h0 (.slice none 0 0) (List.take 0 ([] : List UInt8)) := .nil
    have ha' : andNotI .i64 0 3 = 0 := by decide
    rcases hb with _ | @⟨i2, o2, gg2, k2, _, r2⟩
    · simp -dsimp (discharger := omega) [g3, AHeap.read_of e1, e1, ha']
      refine ⟨by omega, ?_⟩
      refine hQ _ _ _ _ c0 .nil ?_ ?_ ?_ ?_ ?_ ?_
      all_goals first | exact hk _ _ | exact hwf _ _ | simp [tcpC]
    · have l2 := read_lt hw (read_mono hs r2)
      simp -dsimp (discharger := omega) [g3, AHeap.read_of e1, e1, ha', h2]
      refine ⟨by omega, ⟨by omega, ?_⟩⟩
      refine hQ _ _ _ _ c0 (BS.cut r2 60 (if k2 % 2 = 1 then k2 else if k2 = 2 then k2 else 0)) ?_ ?_ ?_ ?_ ?_ ?_
      all_goals first | exact hk _ _ | exact hwf _ _ | simp [tcpC]
  · have l1 := read_lt hw (read_mono hs r1)
    rcases hb with _ | @⟨i2, o2, gg2, k2, _, r2⟩
    · simp -dsimp (discharger := omega) [g3, AHeap.read_of e1, e1, ha]
      refine ⟨by omega, ⟨by omega, ?_⟩⟩
      refine hQ _ _ _ _ (BS.cut' r1 m (if k1 % 2 = 1 then k1 else if k1 = 2 then k1 else 0) hm) .nil ?_ ?_ ?_ ?_ ?_ ?_
      all_goals first | exact hk _ _ | exact hwf _ _ | simp [tcpC]
    · have l2 := read_lt hw (read_mono hs r2)
      simp -dsimp (discharger := omega) [g3, AHeap.read_of e1, e1, ha, h2]
      refine ⟨by omega, ⟨by omega, ?_⟩⟩
      refine hQ _ _ _ _ (BS.cut' r1 m (if k1 % 2 = 1 then k1 else if k1 = 2 then k1 else 0) hm) (BS.cut r2 60 (if k2 % 2 = 1 then k2 else if k2 = 2 then k2 else 0)) ?_ ?_ ?_ ?_ ?_ ?_
      all_goals first | exact hk _ _ | exact hwf _ _ | simp [tcpC]
def RA5 : ACode := .region [⟨(some 50), (.fieldAddr 4 (.t 4)), none, []⟩,
    ⟨(some 51), (.load none (.t 50)), none, []⟩,
    ⟨(some 52), (.fieldAddr 4 (.t 4)), none, []⟩,
    ⟨(some 53), (.load none (.t 52)), none, []⟩,
    ⟨(some 54), (.lenSlice (.t 53)), none, []⟩,
    ⟨(some 55), (.min [(.t 54), (.c (.int .i64 60))]), none, []⟩,
    ⟨(some 56), (.slice 1 (.t 51) none (some (.t 55)) none), none, []⟩,
    ⟨(some 57), (.fieldAddr 4 (.t 4)), none, []⟩,
    ⟨none, (.store 1 (.t 57) (.t 56)), none, []⟩] none
def RC5 : ACode := .region [⟨(some 64), (.mov (.t 2)), none, []⟩,
    ⟨(some 65), (.mov (.t 2)), none, []⟩,
    ⟨(some 66), (.lenSlice (.t 65)), none, []⟩,
    ⟨(some 67), (.min [(.t 66), (.c (.int .i64 200))]), none, []⟩,
    ⟨(some 68), (.slice 1 (.t 64) none (some (.t 67)) none), none, []⟩,
    ⟨(some 2), (.mov (.t 68)), none, []⟩] none
theorem back_cut2 {fr to ln sm : Nat} {h0 H : AHeap} {n q : Nat} {ub : Value} {us : List UInt8} (e1 : H.get q = some (.cells (some 37) (udpC fr to ln sm ub) 5)) (hw : WF H n) (hs : HSub h0 H) (hu : BS h0 ub us)
    (lu : us.length < 9223372036854775808)
    {σ : Fr} (g4 : σ.get 4 = some (.pointer (some ⟨q, 0, some 5⟩))) {Q : Ex → Fr → AHeap → Nat → Prop} {tk : Tok Q}
    (hQ : ∀ u' σ' H', BS h0 u' (us.take 60) → σ'.get 2 = σ.get 2 → σ'.get 3 = σ.get 3 → σ'.get 4 = σ.get 4 →
      H'.get q = some (.cells (some 37) (udpC fr to ln sm u') 5) → Keep q H H' → WF H' n → Q .normal σ' H' n) :
    wx EV07 RA5 σ H n Q tk := by
  have hq := hw.lt e1
  have h2 : (if (60 : Int) < (us.length : Int) then (60 : Int) else (us.length : Int)).toNat = Min.min 60 us.length := by split <;> omega
  unfold udpC at e1
  rcases hu with _ | @⟨i2, o2, gg2, k2, _, r2⟩
  · simp -dsimp (discharger := omega) [RA5, g4, AHeap.read_of e1, e1]
    refine hQ _ _ _ .nil ?_ ?_ ?_ ?_ ?_ ?_
    all_goals first | exact Keep.put q H _ | exact hw.put _ (by omega) (by omega) | simp [udpC]
  · have l2 := read_lt hw (read_mono hs r2)
    simp -dsimp (discharger := omega) [RA5, g4, AHeap.read_of e1, e1, h2]
    refine hQ _ _ _ (BS.cut r2 60 (if k2 % 2 = 1 then k2 else if k2 = 2 then k2 else 0)) ?_ ?_ ?_ ?_ ?_ ?_
    all_goals first | exact Keep.put q H _ | exact hw.put _ (by omega) (by omega) | simp [udpC]
theorem back_cut3 {h0 H : AHeap} {n : Nat} {bb : Value} {cs : List UInt8} (hw : WF H n) (hs : HSub h0 H) (hb : BS h0 bb cs) (lu : cs.length < 9223372036854775808)
    {σ : Fr} (g2 : σ.get 2 = some bb) {Q : Ex → Fr → AHeap → Nat → Prop} {tk : Tok Q}
    (hQ : ∀ b' σ', BS h0 b' (cs.take 200) → σ'.get 2 = some b' → σ'.get 3 = σ.get 3 → σ'.get 4 = σ.get 4 → Q .normal σ' H n) :
    wx EV07 RC5 σ H n Q tk := by
  have h2 : (if (200 : Int) < (cs.length : Int) then (200 : Int) else (cs.length : Int)).toNat = Min.min 200 cs.length := by split <;> omega
  rcases hb with _ | @⟨i2, o2, gg2, k2, _, r2⟩
  · simp -dsimp (discharger := omega) [RC5, g2]
    exact hQ _ _ .nil (by simp) (by simp) (by simp)
  · have l2 := read_lt hw (read_mono hs r2)
    simp -dsimp (discharger := omega) [RC5, g2, h2]
    exact hQ _ _ (BS.cut r2 200 (if k2 % 2 = 1 then k2 else if k2 = 2 then k2 else 0)) (by simp) (by simp) (by simp)
end
end Go.Proofs.YtkaibjdogeikbaaDoor.Am
namespace Go.Proofs.YtkaibjdogeikbaaDoor.Am
noncomputable section
/- THE LAW TransBack. -/
theorem wx_gen {E : Env} {c : ACode} {σ : Fr} {H : AHeap} {n : Nat} {Q : Ex → Fr → AHeap → Nat → Prop} {tk : Tok Q} (X : Fr → AHeap → Prop) (hX : X σ H) (k : ∀ σ G, X σ G → wx E c σ G n Q tk) : wx E c σ H n Q tk := k σ H hX
theorem BS.some {h : AHeap} {a : Option Addr} {n k : Nat} {vs : List UInt8} (x : BS h (.slice a n k) vs) (hne : 0 < vs.length) : ∃ i o g, a = some ⟨i, o, some g⟩ ∧ h.read i g o vs.length = some (u8s vs) := by
  cases x with
  | nil => simp at hne
  | mk hr => exact ⟨_, _, _, rfl, hr⟩
theorem hn_mono {h h' : AHeap} (x : HSub h h') (n : HasNames h) : HasNames h' := x _ _ n
theorem WF.sub {h h' : AHeap} {n : Nat} (w : WF h n) (c : ∀ j b, h'.get j = some b → h.get j = some b) : WF h' n := fun i hi => by
  cases hh : h'.get i with
  | none => rfl
  | some b => have := c i b hh; rw [w i hi] at this; cases this
theorem tcpL_len (t : TcpN) (os bs : List UInt8) : (tcpL t os bs).length = 20 + os.length + bs.length := by
  simp [tcpL, twosL, foursL, fourL]; omega
theorem udpL_len (fr to ln sm : Nat) (bs : List UInt8) : (udpL fr to ln sm bs).length = 8 + bs.length := by
  simp [udpL, twosL]; omega
theorem back_walk {t : TcpN} (ht : t.ok) {fr to ln sm : Nat} (u1 : fr < 65536) (u2 : to < 65536) (u3 : ln < 65536) (u4 : sm < 65536) {h : AHeap} {n : Nat} {o b ub bb : Value} {os bs us cs : List UInt8} (ho : BS h o os) (hb : BS h b bs) (hu : BS h ub us) (hc : BS h bb cs)
    (lo : os.length < 9223372036854775808) (lb : bs.length < 9223372036854775808) (lu : us.length < 9223372036854775808) (lc : cs.length < 9223372036854775808) (hw : WF h n) (hnm : HasNames h) (hn : n ≤ 5000) :
    HasCallT EV07 5 [tcpV t o b, udpV fr to ln sm ub, bb] h n (fun v h' n' => v = .bool true) () := by
  refine inl5 ?_
  have et : tcpV t o b = .agg (tcpC t o b).toArray := rfl
  have eu : udpV fr to ln sm ub = .agg (udpC fr to ln sm ub).toArray := rfl
  have lt : (tcpC t o b).length = 11 := rfl
  have lw : (udpC fr to ln sm ub).length = 5 := rfl
  have hrem : ((t.odd : Int)).tmod 16 = ((t.odd % 16 : Nat) : Int) := rfl
  have hodd := ht.h5
  have tk4 : List.take 1 (List.drop 4 (tcpC t o b)) = [.int .u8 (t.odd : Int)] := rfl
  obtain ⟨t', ht'⟩ : ∃ t' : TcpN, t' = { t with odd := t.odd % 16 } := ⟨_, rfl⟩
  have hok : t'.ok := by obtain ⟨a1, a2, a3, a4, a5, a6, a7, a8, a9⟩ := ht; rw [ht']; exact ⟨a1, a2, a3, a4, by simp only; omega, a6, a7, a8, a9⟩
  have hodd' : t'.odd ≤ 15 := by rw [ht']; simp only; omega
  have ts4 : List.take 4 (tcpC t o b) ++ Value.int .u8 ((t.odd : Int) % 16) :: List.drop 5 (tcpC t o b) = tcpC t' o b := by rw [ht']; rfl
  rw [et, eu]
  unfold B5
  rw [← RA5.eq_1, ← RC5.eq_1]
  simp -dsimp (discharger := omega) [lt, lw, hrem, tk4, ts4, -wR5_0, -wR5_1]
  have hpre : ∀ X Y Z, HSub h (((h.put n X).put (n + 1) Y).put n Z) := fun X Y Z => (((HSub.refl h).new hw (Nat.le_refl n) X).new hw (by omega) Y).new hw (Nat.le_refl n) Z
  refine back_cut (q := n) (AHeap.get_put_same _ _ _) (WF.put (n := n + 1 + 1) (WF.put (n := n + 1 + 1) (hw.put (m := n + 1 + 1) _ (by omega) (by omega)) _ (by omega) (by omega)) _ (by omega) (by omega)) (hpre _ _ _) ho hb lo lb (by simp) ?_
  clear et lt lw ts4 tk4 hrem hodd
  intro o1 b1 σ1 h1 ho1 hb1 gg2 gg3 gg4 e1 K1 w1
  have e2 := K1 (n + 1) _ (by omega) (by rw [AHeap.get_put_ne _ _ (by omega)]; exact AHeap.get_put_same _ _ _)
  have hs1 : HSub h h1 := HSub.keep (hpre _ _ _) K1 (hw n (Nat.le_refl n))
  clear K1
  simp at gg2 gg3 gg4
  have lo1 : (os.take (4 * (Min.min 40 os.length / 4))).length = 4 * (Min.min 40 os.length / 4) := by simp; omega
  have lb1 : (bs.take 60).length ≤ 60 := by simp; omega
  have lo2 : (os.take (4 * (Min.min 40 os.length / 4))).length ≤ 40 := by omega
  have lo3 : (os.take (4 * (Min.min 40 os.length / 4))).length % 4 = 0 := by omega
  clear lo1
  generalize os.take (4 * (Min.min 40 os.length / 4)) = os1 at ho1 lo2 lo3
  generalize bs.take 60 = bs1 at hb1 lb1
  simp -dsimp (discharger := omega) [-wR5_1]
  refine back_cut2 (q := n + 1) e2 w1 hs1 hu lu gg4 ?_
  intro ub1 σ2 h2 hu1 g2 g3 g4 e2 K2 w2
  rw [gg2] at g2
  rw [gg3] at g3
  rw [gg4] at g4
  have e1 := K2 n _ (by omega) e1
  have hs2 : HSub h h2 := HSub.keep hs1 K2 (hw (n + 1) (by omega))
  clear K2 gg2 gg3 gg4
  have lu1 : (us.take 60).length ≤ 60 := by simp; omega
  generalize us.take 60 = us1 at hu1 lu1
  obtain ⟨ui, uk, rfl⟩ := hu1.shape
  have lw : (udpC fr to ln sm (.slice ui us1.length uk)).length = 5 := rfl
  have tk4 : List.take 1 (List.drop 4 (udpC fr to ln sm (.slice ui us1.length uk))) = [.slice ui us1.length uk] := rfl
  have ts2 : List.take 2 (udpC fr to ln sm (.slice ui us1.length uk)) ++ Value.int .u16 (8 + (us1.length : Int)) :: List.drop 3 (udpC fr to ln sm (.slice ui us1.length uk)) = udpC fr to (8 + us1.length) sm (.slice ui us1.length uk) := rfl
  simp -dsimp (discharger := omega) [g4, AHeap.read_of e2, e2, lw, tk4, ts2, -wR5_1]
  refine back_cut3 (w2.put (m := n + 1 + 1) _ (by omega) (by omega)) (hs2.new hw (by omega) _) hc lc (by simp [g2]) ?_
  intro bb1 σ3 hc1 k2 k3 k4
  simp [g3, g4] at k3 k4
  have w3 := w2.put (m := n + 1 + 1) (i := n + 1) (.cells (some 37) (udpC fr to (8 + us1.length) sm (.slice ui us1.length uk)) 5) (by omega) (by omega)
  have hs3 := hs2.new hw (i := n + 1) (by omega) (.cells (some 37) (udpC fr to (8 + us1.length) sm (.slice ui us1.length uk)) 5)
  have e3 : (h2.put (n + 1) (.cells (some 37) (udpC fr to (8 + us1.length) sm (.slice ui us1.length uk)) 5)).get n = some (.cells (some 35) (tcpC t' o1 b1) 11) := by rw [AHeap.get_put_ne _ _ (by omega)]; exact e1
  have e4 : (h2.put (n + 1) (.cells (some 37) (udpC fr to (8 + us1.length) sm (.slice ui us1.length uk)) 5)).get (n + 1) = some (.cells (some 37) (udpC fr to (8 + us1.length) sm (.slice ui us1.length uk)) 5) := AHeap.get_put_same _ _ _
  generalize h2.put (n + 1) (.cells (some 37) (udpC fr to (8 + us1.length) sm (.slice ui us1.length uk)) 5) = h3 at w3 hs3 e3 e4 ⊢
  clear e1 e2 g2 g3 g4 w2 hs2 ts2 tk4 lw
  have lc1 : (cs.take 200).length ≤ 200 := by simp; omega
  generalize cs.take 200 = cs1 at hc1 lc1
  clear ho hb hu hc lo lb lu lc eu ht ht' hpre
  have ho2 := ho1.mono hs3
  have hb2 := hb1.mono hs3
  have hu2 := hu1.mono hs3
  have hc2 := hc1.mono hs3
  have hnm3 : HasNames h3 := hs3 _ _ hnm
  have lt1 : (tcpC t' o1 b1).length = 11 := rfl
  have tt1 : List.take 11 (tcpC t' o1 b1) = tcpC t' o1 b1 := rfl
  have lu5 : (udpC fr to (8 + us1.length) sm (.slice ui us1.length uk)).length = 5 := rfl
  have tu1 : List.take 5 (udpC fr to (8 + us1.length) sm (.slice ui us1.length uk)) = udpC fr to (8 + us1.length) sm (.slice ui us1.length uk) := rfl
  have x1 : tcpOk t' os1 = true := by simp [tcpOk, hodd', lo2, lo3]
  have x2 : tcpX t' os1 bs1 = tcpL t' os1 bs1 := by rw [tcpX, if_pos x1]
  have x3 : udpX fr to (8 + us1.length) sm us1 = udpL fr to (8 + us1.length) sm us1 := by rw [udpX, if_pos rfl]
  simp -dsimp (discharger := omega) [k3, AHeap.read_of e3, lt1, tt1, -wR5_1]
  refine tcp_call hok ho2 hb2 w3 (by omega) (by omega) ?_
  intro a1 h4 q4 w4 ha1
  rw [x2] at ha1
  rw [x1]
  have e3 := q4 _ _ e3
  have e4 := q4 _ _ e4
  simp -dsimp (discharger := omega) [k4, errI, AHeap.read_of e4, lu5, tu1, -wR5_1]
  refine udp_call u1 u2 (by omega) u4 (hu2.mono q4) w4 (by omega) ?_
  intro a2 h5 q5 w5 ha2
  rw [x3] at ha2
  have ha1 := ha1.mono q5
  have e3 := q5 _ _ e3
  have e4 := q5 _ _ e4
  simp -dsimp (discharger := omega) [errI, -wR5_1]
  have tl := tcpL_len t' os1 bs1
  have ul := udpL_len fr to (8 + us1.length) sm us1
  have gb := gotT_back hok hodd' lo2 lo3 (bs := bs1)
  refine getTcp_call ha1 w5 (by omega) ?_
  intro o2 b2 h6 q6 w6 ho6 hb6
  rw [gb] at ho6 hb6 ⊢
  simp only at ho6 hb6 ⊢
  have ha1 := ha1.mono q6
  have ha2 := ha2.mono q6
  have e3 := q6 _ _ e3
  have e4 := q6 _ _ e4
  obtain ⟨oi, ok, rfl⟩ := ho6.shape
  obtain ⟨bi, bk, rfl⟩ := hb6.shape
  simp -dsimp (discharger := omega) [tcpV, -wR5_1]
  have w7 := w6
  obtain ⟨r, hr⟩ : ∃ r, r = n + 45 := ⟨_, rfl⟩
  have er : n + 1 + 1 + 19 + 9 + 15 = r := by omega
  rw [er] at w7 ⊢
  refine call_gen (fun G => G.get r = some (.cells (some 35) (tcpC t' (.slice oi os1.length ok) (.slice bi bs1.length bk)) 11) ∧ HSub h6 G ∧ WF G (r + 1))
    ⟨AHeap.get_put_same _ _ _, ((HSub.refl h6).new w7 (Nat.le_refl r) _).new w7 (Nat.le_refl r) _, WF.put (n := r + 1) (w7.put (m := r + 1) _ (by omega) (by omega)) _ (by omega) (by omega)⟩ ?_
  rintro h7 ⟨e5, q7, w7⟩
  have ha1 := ha1.mono q7
  have ha2 := ha2.mono q7
  have e3 := q7 _ _ e3
  have e4 := q7 _ _ e4
  have ho7 := ho6.mono q7
  have hb7 := hb6.mono q7
  have hs7 : HSub h h7 := hs3.trans (q4.trans (q5.trans (q6.trans q7)))
  have hnm7 : HasNames h7 := hs7 _ _ hnm
  clear q4 q5 q6 q7
  obtain ⟨yi, yo, yg, yk, rfl, hy⟩ : ∃ yi yo yg yk, a2 = .slice (some ⟨yi, yo, some yg⟩) (udpL fr to (8 + us1.length) sm us1).length yk ∧ h7.read yi yg yo (udpL fr to (8 + us1.length) sm us1).length = some (u8s (udpL fr to (8 + us1.length) sm us1)) := by
    generalize hYY : udpL fr to (8 + us1.length) sm us1 = Y at ha2 ul
    cases ha2 with
    | nil => simp at ul; omega
    | mk hr => exact ⟨_, _, _, _, rfl, hr⟩
  generalize hYY : udpL fr to (8 + us1.length) sm us1 = Y at ha2 ul hy ⊢
  refine call_ret (bclone_ret hy w7 (by omega)) ?_
  simp -dsimp (discharger := omega) [k2, -wR5_1]
  refine append_own (q := r + 1) (m := 0) (bs := Y) (vs := cs1) (by simp) rfl (Nat.zero_le _) (BS.elems ((hc1.mono hs7).mono ((HSub.refl h7).new w7 (Nat.le_refl _) _))) (by omega) (fun h8 s8 c8 => ?_)
  have w8 : WF h8 (r + 2) := (WF.put (n := r + 2) (w7.put (m := r + 2) _ (by omega) (by omega)) _ (by omega) (by omega)).sub c8
  have q8 : HSub h7 h8 := ((((HSub.refl h7).new w7 (Nat.le_refl _) _).new w7 (Nat.le_refl _) _)).trans s8
  have hyc : BS h8 (.slice (some ⟨r + 1, 0, some (Y.length + cs1.length)⟩) (Y.length + cs1.length) 2) (Y ++ cs1) := by
    have := (BS.new (h := h7.put (r + 1) (bufB Y 0)) (i := r + 1) (bs := Y ++ cs1) (m := 0) (Nat.zero_le _)).mono s8
    rwa [List.length_append] at this
  simp -dsimp (discharger := omega) [-wR5_1]
  have gu := gotU_back u1 u2 (show 8 + us1.length < 65536 by omega) u4 (us := us1) (R := cs1) rfl
  have gu0 := gotU_back u1 u2 (show 8 + us1.length < 65536 by omega) u4 (us := us1) (R := []) rfl
  rw [List.append_nil] at gu0
  rw [hYY] at gu gu0
  refine getUdp_call hyc w8 (by simp; omega) ?_
  intro b3 h9 q9 w9 hb9
  rw [gu] at hb9 ⊢
  simp only at hb9 ⊢
  obtain ⟨b3i, b3k, rfl⟩ := hb9.shape
  have w9 : WF h9 (r + 11) := w9
  have er2 : r + 1 + 1 + 9 = r + 11 := by omega
  rw [er2]
  have e3 := q9 _ _ (q8 _ _ e3)
  have e4 := q9 _ _ (q8 _ _ e4)
  have e5 := q9 _ _ (q8 _ _ e5)
  have ho9 := (ho7.mono q8).mono q9
  have hb9' := (hb7.mono q8).mono q9
  have hs9 : HSub h h9 := hs7.trans (q8.trans q9)
  have hy9 := read_mono (q8.trans q9) hy
  simp -dsimp (discharger := omega) [udpV, -wR5_1]
  refine wx_gen (fun σ G => (σ.get 2 = some bb1 ∧ σ.get 3 = some (.pointer (some ⟨n, 0, some 11⟩)) ∧ σ.get 4 = some (.pointer (some ⟨n + 1, 0, some 5⟩)) ∧ σ.get 7 = some a1 ∧ σ.get 8 = some (.int .i64 0) ∧ σ.get 9 = some (.slice (some ⟨yi, yo, some yg⟩) Y.length yk) ∧ σ.get 10 = some (.int .i64 0) ∧ σ.get 11 = some (.pointer (some ⟨r, 0, some 11⟩)) ∧ σ.get 12 = some (.int .i64 0) ∧ σ.get 13 = some (.pointer (some ⟨r + 11, 0, some 5⟩)) ∧ σ.get 14 = some (.int .i64 0)) ∧
      G.get (r + 11) = some (.cells (some 37) (udpC fr to (8 + us1.length) sm (.slice b3i us1.length b3k)) 5) ∧ HSub h9 G ∧ WF G (r + 12))
    ⟨⟨by simp [k2], by simp [k3], by simp [k4], by simp, by simp, by simp, by simp, by simp, by simp, by simp, by simp⟩, AHeap.get_put_same _ _ _, ((HSub.refl h9).new w9 (Nat.le_refl _) _).new w9 (Nat.le_refl _) _, WF.put (n := r + 12) (w9.put (m := r + 12) _ (by omega) (by omega)) _ (by omega) (by omega)⟩ ?_
  clear k2 k3 k4
  rintro σ4 h10 ⟨⟨k2, k3, k4, k7, k8, k9, k10, k11, k12, k13, k14⟩, e6, q10, w10⟩
  have e3 := q10 _ _ e3
  have e4 := q10 _ _ e4
  have e5 := q10 _ _ e5
  have ho10 := ho9.mono q10
  have hb10 := hb9'.mono q10
  have hu10 := hb9.mono q10
  have hs10 : HSub h h10 := hs9.trans q10
  have hy10 := read_mono q10 hy9
  have ha10 : BS h10 a1 (tcpL t' os1 bs1) := ((ha1.mono q8).mono q9).mono q10
  have ho10' := ho1.mono hs10
  have hb10' := hb1.mono hs10
  have hu10' := hu1.mono hs10
  obtain ⟨o1i, o1k, rfl⟩ := ho1.shape
  obtain ⟨b1i, b1k, rfl⟩ := hb1.shape
  obtain ⟨a1i, a1k, rfl⟩ := ha10.shape
  have lA : (tcpC t' (.slice oi os1.length ok) (.slice bi bs1.length bk)).length = 11 := rfl
  have tA : List.take 11 (tcpC t' (.slice oi os1.length ok) (.slice bi bs1.length bk)) = tcpC t' (.slice oi os1.length ok) (.slice bi bs1.length bk) := rfl
  have lB : (tcpC t' (.slice o1i os1.length o1k) (.slice b1i bs1.length b1k)).length = 11 := rfl
  have tB : List.take 11 (tcpC t' (.slice o1i os1.length o1k) (.slice b1i bs1.length b1k)) = tcpC t' (.slice o1i os1.length o1k) (.slice b1i bs1.length b1k) := rfl
  have fB0 : List.take 1 (tcpC t' (.slice o1i os1.length o1k) (.slice b1i bs1.length b1k)) = [.int .u16 (t'.fr : Int)] := rfl
  have fB1 : List.take 1 (tcpC t' (.slice o1i os1.length o1k) (.slice b1i bs1.length b1k)).tail = [.int .u16 (t'.to : Int)] := rfl
  have fB9 : List.take 1 (List.drop 9 (tcpC t' (.slice o1i os1.length o1k) (.slice b1i bs1.length b1k))) = [.slice o1i os1.length o1k] := rfl
  have fB10 : List.take 1 (List.drop 10 (tcpC t' (.slice o1i os1.length o1k) (.slice b1i bs1.length b1k))) = [.slice b1i bs1.length b1k] := rfl
  have lC : (udpC fr to (8 + us1.length) sm (.slice b3i us1.length b3k)).length = 5 := rfl
  have tC : List.take 5 (udpC fr to (8 + us1.length) sm (.slice b3i us1.length b3k)) = udpC fr to (8 + us1.length) sm (.slice b3i us1.length b3k) := rfl
  have fC0 : List.take 1 (udpC fr to (8 + us1.length) sm (.slice ui us1.length uk)) = [.int .u16 (fr : Int)] := rfl
  have fC1 : List.take 1 (udpC fr to (8 + us1.length) sm (.slice ui us1.length uk)).tail = [.int .u16 (to : Int)] := rfl
  simp -dsimp (discharger := omega) [k8, k10, k11, k12, k14, AHeap.read_of e5, lA, tA]
  refine ret_ret (ofTcp_ret hok ho10 hb10 w10) ?_
  simp -dsimp (discharger := omega) [k3, AHeap.read_of e3, lB, tB]
  refine ret_ret (ofTcp_ret hok ho10' hb10' (w10.mono (by omega))) ?_
  simp -dsimp (discharger := omega) []
  refine ret_ret (same_ret ho10 hb10 ho10' hb10' (w10.mono (by omega))) ?_
  simp -dsimp (discharger := omega) [k13, AHeap.read_of e6, lC, tC]
  refine ret_ret (ofUdp_ret u1 u2 (show 8 + us1.length < 65536 by omega) u4 hu10 (w10.mono (by omega))) ?_
  simp -dsimp (discharger := omega) [k4, AHeap.read_of e4, lu5, tu1]
  refine ret_ret (ofUdp_ret u1 u2 (show 8 + us1.length < 65536 by omega) u4 hu10' (w10.mono (by omega))) ?_
  simp -dsimp (discharger := omega) []
  refine ret_ret (like_ret hu10 hu10' (w10.mono (by omega))) ?_
  simp -dsimp (discharger := omega) [k3, k7, AHeap.read_of e3, lB, fB9, fB10, tl]
  rw [tl] at ha10
  refine ports6_call (L := tcpL t' os1 bs1) ha10 (w10.mono (by omega)) (by omega) ?_
  intro h11 q11 w11
  rw [gb]
  simp only
  have e3 := q11 _ _ e3
  have e4 := q11 _ _ e4
  simp -dsimp (discharger := omega) [k9]
  refine ports17_call (L := Y) (.mk (read_mono q11 hy10)) w11 (by omega) ?_
  intro h12 q12 w12
  rw [gu0]
  simp only
  have e3 := q12 _ _ e3
  have e4 := q12 _ _ e4
  have hs12 := hs10.trans (q11.trans q12)
  have hc12 := hc1.mono hs12
  have w12 : WF h12 (r + 50) := w12.mono (by omega)
  have hnm12 : HasNames h12 := hs12 _ _ hnm
  obtain ⟨ci, ck, rfl⟩ := hc1.shape
  simp -dsimp (discharger := omega) [k2, k3, k4, AHeap.read_of e3, AHeap.read_of e4, lB, fB0, fB1, fC0, fC1, lu5]
  have en : r + 11 + 1 + 2 + 2 + 2 + 2 + 2 + 2 + 16 + 10 = r + 50 := by omega
  rw [en]
  refine getTcp_call hc12 w12 (by omega) ?_
  intro o4 b4 h13 q13 w13 ho13 hb13
  have hok2 := gotT_ok cs1
  have hag := gotT_again (L := cs1)
  generalize gotT cs1 = G at ho13 hb13 hok2 hag ⊢
  obtain ⟨gt, gos, gbs, ge⟩ := G
  simp only at ho13 hb13 hok2 hag ⊢
  obtain ⟨o4i, o4k, rfl⟩ := ho13.shape
  obtain ⟨b4i, b4k, rfl⟩ := hb13.shape
  have hnm13 : HasNames h13 := q13 _ _ hnm12
  have hc13 := hc12.mono q13
  simp -dsimp (discharger := omega) [tcpV]
  refine Test.split (fun hc => ?_) (fun hc => ?_)
  · have hge : ge = 0 := by simp at hc; omega
    obtain ⟨g1, g2⟩ := hag hge
    have gx : tcpX gt gos gbs = cs1 := by rw [tcpX, if_pos g1, g2]
    have gl := tcpL_len gt gos gbs
    rw [g2] at gl
    have gl40 : gos.length ≤ 40 := by
      simp only [tcpOk, Bool.and_eq_true, decide_eq_true_eq] at g1; exact g1.1.2
    simp -dsimp (discharger := omega) []
    refine tcp_call hok2 (ho13.mono (((HSub.refl h13).new w13 (Nat.le_refl _) _).new w13 (Nat.le_refl _) _)) (hb13.mono (((HSub.refl h13).new w13 (Nat.le_refl _) _).new w13 (Nat.le_refl _) _)) (WF.put (n := r + 66) (w13.put (m := r + 66) _ (by omega) (by omega)) _ (by omega) (by omega)) (by omega) (by omega) ?_
    intro a5 h14 q14 w14 ha5
    have q14 : HSub h13 h14 := ((((HSub.refl h13).new w13 (Nat.le_refl _) _).new w13 (Nat.le_refl _) _)).trans q14
    have hc14 := hc13.mono q14
    have hnm14 : HasNames h14 := q14 _ _ hnm13
    rw [gx] at ha5
    rw [g1]
    simp -dsimp (discharger := omega) [k2, errI]
    with_reducible refine call_ret (equal_ret ha5 hc14 _) ?_
    simp -dsimp (discharger := omega) [k2]
    refine call_gen (fun G => BS G (.slice ci cs1.length ck) cs1 ∧ HasNames G ∧ WF G (r + 85)) ⟨hc14, hnm14, w14⟩ ?_
    rintro H1 ⟨d1, n1, v1⟩
    refine getUdp_call d1 v1 (by omega) ?_
    intro b5 H2 p2 v2 db
    have hult := gotU_lt cs1
    have hug := gotU_again (L := cs1)
    generalize gotU cs1 = U at db hult hug ⊢
    obtain ⟨ufr, uto, uln, usm, ubs, ue⟩ := U
    simp only at db hult hug ⊢
    obtain ⟨b5i, b5k, rfl⟩ := db.shape
    have n2 : HasNames H2 := p2 _ _ n1
    have d2 := d1.mono p2
    simp -dsimp (discharger := omega) [udpV]
    refine Test.split (fun hc => ?_) (fun hc => ?_)
    · have hue : ue = 0 := by simp at hc; omega
      obtain ⟨j1, j2, j3⟩ := hug hue
      have ux : udpX ufr uto uln usm ubs = udpL ufr uto uln usm ubs := by rw [udpX, if_pos j1]
      have ul5 := udpL_len ufr uto uln usm ubs
      obtain ⟨di, do', dg, rfl, dr⟩ := d2.some (by omega)
      simp -dsimp (discharger := omega) []
      refine udp_call hult.1 hult.2.1 hult.2.2.1 hult.2.2.2 (db.mono (((HSub.refl H2).new v2 (Nat.le_refl _) _).new v2 (Nat.le_refl _) _)) (WF.put (n := r + 85 + 10) (v2.put (m := r + 85 + 10) _ (by omega) (by omega)) _ (by omega) (by omega)) (by omega) ?_
      intro a6 H3 p3 v3 da
      have e7 := p3 _ _ (AHeap.get_put_same _ _ _)
      have p3 : HSub H2 H3 := ((((HSub.refl H2).new v2 (Nat.le_refl _) _).new v2 (Nat.le_refl _) _)).trans p3
      have n3 : HasNames H3 := p3 _ _ n2
      have d3 := read_mono p3 dr
      have l3 := read_lt v3 d3
      have e0 : (uln == 8 + ubs.length) = true := by simpa using j1
      rw [ux] at da
      rw [e0]
      have d4 := BS.cut' d3 (udpL ufr uto uln usm ubs).length (if ck % 2 = 1 then ck else if ck = 2 then ck else 0) (by omega)
      rw [show (udpL ufr uto uln usm ubs).length = uln by omega, ← j3] at d4
      obtain ⟨a6i, a6k, rfl⟩ := da.shape
      rw [show (udpL ufr uto uln usm ubs).length = uln by omega] at da ⊢
      simp -dsimp (discharger := omega) [k2, errI]
      with_reducible refine call_ret (equal_ret da d4 _) ?_
      simp -dsimp (discharger := omega) [AHeap.read_of e7]
      with_reducible refine call_ret (wakes_ret (by omega) v3 n3) ?_
      simp -dsimp (discharger := omega) []
    · simp -dsimp (discharger := omega) []
      with_reducible refine call_ret (wakes_ret (by omega) (WF.put (n := r + 85 + 10) (v2.put (m := r + 85 + 10) _ (by omega) (by omega)) _ (by omega) (by omega)) (hn_mono (((HSub.refl H2).new v2 (Nat.le_refl _) _).new v2 (Nat.le_refl _) _) n2)) ?_
      simp -dsimp (discharger := omega) []
  · simp -dsimp (discharger := omega) [k2]
    refine call_gen (fun G => BS G (.slice ci cs1.length ck) cs1 ∧ HasNames G ∧ WF G (r + 66)) ⟨hc13.mono (((HSub.refl h13).new w13 (Nat.le_refl _) _).new w13 (Nat.le_refl _) _), (((HSub.refl h13).new w13 (Nat.le_refl _) _).new w13 (Nat.le_refl _) _) _ _ hnm13, WF.put (n := r + 66) (w13.put (m := r + 66) _ (by omega) (by omega)) _ (by omega) (by omega)⟩ ?_
    rintro H1 ⟨d1, n1, v1⟩
    refine getUdp_call d1 v1 (by omega) ?_
    intro b5 H2 p2 v2 db
    have hult := gotU_lt cs1
    have hug := gotU_again (L := cs1)
    generalize gotU cs1 = U at db hult hug ⊢
    obtain ⟨ufr, uto, uln, usm, ubs, ue⟩ := U
    simp only at db hult hug ⊢
    obtain ⟨b5i, b5k, rfl⟩ := db.shape
    have n2 : HasNames H2 := p2 _ _ n1
    have d2 := d1.mono p2
    simp -dsimp (discharger := omega) [udpV]
    refine Test.split (fun hc => ?_) (fun hc => ?_)
    · have hue : ue = 0 := by simp at hc; omega
      obtain ⟨j1, j2, j3⟩ := hug hue
      have ux : udpX ufr uto uln usm ubs = udpL ufr uto uln usm ubs := by rw [udpX, if_pos j1]
      have ul5 := udpL_len ufr uto uln usm ubs
      obtain ⟨di, do', dg, rfl, dr⟩ := d2.some (by omega)
      simp -dsimp (discharger := omega) []
      refine udp_call hult.1 hult.2.1 hult.2.2.1 hult.2.2.2 (db.mono (((HSub.refl H2).new v2 (Nat.le_refl _) _).new v2 (Nat.le_refl _) _)) (WF.put (n := r + 66 + 10) (v2.put (m := r + 66 + 10) _ (by omega) (by omega)) _ (by omega) (by omega)) (by omega) ?_
      intro a6 H3 p3 v3 da
      have e7 := p3 _ _ (AHeap.get_put_same _ _ _)
      have p3 : HSub H2 H3 := ((((HSub.refl H2).new v2 (Nat.le_refl _) _).new v2 (Nat.le_refl _) _)).trans p3
      have n3 : HasNames H3 := p3 _ _ n2
      have d3 := read_mono p3 dr
      have l3 := read_lt v3 d3
      have e0 : (uln == 8 + ubs.length) = true := by simpa using j1
      rw [ux] at da
      rw [e0]
      have d4 := BS.cut' d3 (udpL ufr uto uln usm ubs).length (if ck % 2 = 1 then ck else if ck = 2 then ck else 0) (by omega)
      rw [show (udpL ufr uto uln usm ubs).length = uln by omega, ← j3] at d4
      obtain ⟨a6i, a6k, rfl⟩ := da.shape
      rw [show (udpL ufr uto uln usm ubs).length = uln by omega] at da ⊢
      simp -dsimp (discharger := omega) [k2, errI]
      with_reducible refine call_ret (equal_ret da d4 _) ?_
      simp -dsimp (discharger := omega) [AHeap.read_of e7]
      with_reducible refine call_ret (wakes_ret (by omega) v3 n3) ?_
      simp -dsimp (discharger := omega) []
    · simp -dsimp (discharger := omega) []
      with_reducible refine call_ret (wakes_ret (by omega) (WF.put (n := r + 66 + 10) (v2.put (m := r + 66 + 10) _ (by omega) (by omega)) _ (by omega) (by omega)) (hn_mono (((HSub.refl H2).new v2 (Nat.le_refl _) _).new v2 (Nat.le_refl _) _) n2)) ?_
      simp -dsimp (discharger := omega) []
end
end Go.Proofs.YtkaibjdogeikbaaDoor.Am
