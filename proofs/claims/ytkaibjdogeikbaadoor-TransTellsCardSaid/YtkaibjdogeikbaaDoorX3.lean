/- Contracts of the program's functions (X3). -/
import Derived.Test.YtkaibjdogeikbaaDoorX2
namespace Go.Proofs.YtkaibjdogeikbaaDoor.Am
noncomputable section
/- THE LAW TransTells. -/
theorem tells_walk {t : TcpN} (ht : t.ok) {fr to ln sm : Nat} (u1 : fr < 65536) (u2 : to < 65536) (u3 : ln < 65536) (u4 : sm < 65536) {h : AHeap} {n : Nat} {o b ub : Value} {os bs us : List UInt8} (ho : BS h o os) (hb : BS h b bs) (hu : BS h ub us)
    (lo : os.length < 9223372036854775808) (lb : bs.length < 9223372036854775808) (lu : us.length < 9223372036854775808) (s : List UInt8) (hs : s.length < 9223372036854775808) (hw : WF h n) (hnm : HasNames h) (hn : n ≤ 5000) :
    HasCallT EV07 4 [tcpV t o b, udpV fr to ln sm ub, .string ⟨s.toArray⟩] h n (fun v h' n' => v = .bool true) () := by
  refine inl4 ?_
  have et : tcpV t o b = .agg (tcpC t o b).toArray := rfl
  have eu : udpV fr to ln sm ub = .agg (udpC fr to ln sm ub).toArray := rfl
  have lt : (tcpC t o b).length = 11 := rfl
  have lw : (udpC fr to ln sm ub).length = 5 := rfl
  rw [et, eu]
  simp -dsimp (discharger := omega) [B4, lt, lw, -wR4_0]
  refine tells_cut hw ho hb hu lo lb lu hs ?_
  clear et lt eu lw lo lb lu hs
  intro o1 b1 w1 σ h1 ho1 hb1 hu1 g2 g3 g4 e1 e2 hs1 hw1
  have lo1 : (os.take 60).length ≤ 60 := by simp; omega
  have lb1 : (bs.take 60).length ≤ 60 := by simp; omega
  have lu1 : (us.take 60).length ≤ 60 := by simp; omega
  have ls1 : (s.take 60).length ≤ 60 := by simp; omega
  generalize os.take 60 = os at ho1 lo1
  generalize bs.take 60 = bs at hb1 lb1
  generalize us.take 60 = us at hu1 lu1
  generalize s.take 60 = s at g2 ls1
  have hnm1 : HasNames h1 := hs1 _ _ hnm
  have ho2 := ho1.mono hs1
  have hb2 := hb1.mono hs1
  have hu2 := hu1.mono hs1
  have lt1 : (tcpC t o1 b1).length = 11 := rfl
  have tt1 : List.take 11 (tcpC t o1 b1) = tcpC t o1 b1 := rfl
  have tu1 : List.take 5 (udpC fr to ln sm w1) = udpC fr to ln sm w1 := rfl
  simp -dsimp (discharger := omega) [g2, g3, g4, AHeap.read_of e1, AHeap.read_of e2, lt1, tt1, -wR4_1]
  refine tcp_call ht ho2 hb2 hw1 (by omega) (by omega) ?_
  intro a1 h2 hs2 hw2 ha1
  have e3 := hs2 _ _ e1
  have e4 := hs2 _ _ e2
  have ho3 := ho2.mono hs2
  have hb3 := hb2.mono hs2
  simp -dsimp (discharger := omega) [g2, g3, g4, AHeap.read_of e3, AHeap.read_of e4, lt1, tt1, tu1, -wR4_1]
  refine call_ret (ofTcp_ret ht ho3 hb3 hw2) ?_
  simp -dsimp (discharger := omega) [-wR4_1]
  refine tcpRef_call ht ho3 hb3 (hw2.mono (by omega)) (by omega) (by omega) ?_
  intro a2 h3 hs3 hw3 ha2
  have ha1 := ha1.mono hs3
  have e3 := hs3 _ _ e3
  have e4 := hs3 _ _ e4
  have lu5 : (udpC fr to ln sm w1).length = 5 := rfl
  have hu3 := (hu2.mono hs2).mono hs3
  simp -dsimp (discharger := omega) [g2, g3, g4, AHeap.read_of e3, AHeap.read_of e4, lu5, tt1, tu1, -wR4_1]
  refine udp_call u1 u2 u3 u4 hu3 hw3 (by omega) ?_
  intro a3 h4 hs4 hw4 ha3
  have ha1 := ha1.mono hs4
  have ha2 := ha2.mono hs4
  have e3 := hs4 _ _ e3
  have e4 := hs4 _ _ e4
  have hu4 := hu3.mono hs4
  simp -dsimp (discharger := omega) [g2, g3, g4, AHeap.read_of e3, AHeap.read_of e4, lu5, tt1, tu1, -wR4_1]
  refine call_ret (ofUdp_ret u1 u2 u3 u4 hu4 hw4) ?_
  simp -dsimp (discharger := omega) [-wR4_1]
  refine udpRef_call u1 u2 u3 u4 hu4 (hw4.mono (by omega)) (by omega) ?_
  intro a4 h5 hs5 hw5 ha4
  have ha1 := ha1.mono hs5
  have ha2 := ha2.mono hs5
  have ha3 := ha3.mono hs5
  have e3 := hs5 _ _ e3
  have e4 := hs5 _ _ e4
  have hnm5 : HasNames h5 := hs5 _ _ (hs4 _ _ (hs3 _ _ (hs2 _ _ hnm1)))
  simp -dsimp (discharger := omega) [g2, g3, g4, -wR4_1]
  with_reducible refine call_ret (parse_ret (by omega) (hw5.mono (by omega)) hnm5) ?_
  simp -dsimp (discharger := omega) [g2, g3, g4, -wR4_1]
  with_reducible refine call_ret (refParse_ret (by omega) (hw5.mono (by omega))) ?_
  simp -dsimp (discharger := omega) [g2, g3, g4, -wR4_1]
  have tf : List.take 1 (List.drop 5 (tcpC t o1 b1)) = [.int .u8 (t.flags : Int)] := rfl
  have hf := ht.h6
  have hp := parseL_lt (s := s)
  simp -dsimp (discharger := omega) [g2, g3, g4, lt1, AHeap.read_of e3]
  refine ret_ret (equal_ret ha1 ha2 _) ?_
  simp -dsimp (discharger := omega) [g2, g3, g4, lt1, AHeap.read_of e3]
  refine ret_ret (equal_ret ha3 ha4 _) ?_
  simp -dsimp (discharger := omega) [g2, g3, g4, lt1, tf, AHeap.read_of e3]
  refine ret_ret (text_ret hf (hw5.mono (by omega)) hnm5) ?_
  simp -dsimp (discharger := omega) [g2, g3, g4, lt1, tf, AHeap.read_of e3]
  refine ret_ret (refText_ret hf (hw5.mono (by omega))) ?_
  simp -dsimp (discharger := omega) [g2, g3, g4, lt1, tf, AHeap.read_of e3]
  refine ret_ret (wakes_ret (by omega) (hw5.mono (by omega)) hnm5) ?_
  simp -dsimp (discharger := omega) [g2, g3, g4, lt1, tf, AHeap.read_of e3]
end
end Go.Proofs.YtkaibjdogeikbaaDoor.Am
