/- Contracts of the program's functions (Y2). -/
import Derived.Test.YtiemkafpijhlmaaDoorY1
namespace Go.Proofs.YtiemkafpijhlmaaDoor.Am
noncomputable section
/- THE LAW's WALK: there and back; what is laid, with what stands behind, is got. -/
set_option maxHeartbeats 8000000 in
theorem r7_0 {t : HdN} {σ : Fr} {H : AHeap} {n q mn : Nat} {v2 : Value} {os bs be P : List UInt8} (hq : H.get q = some (bufB P mn)) (hmn : mn ≤ P.length) (hqn : q < n) (hP0 : 20 ≤ P.length) (hP : P.length ≤ 400) (h2 : BS H v2 be) (hbe : be.length < 9223372036854775808)
    (g9 : σ.get 9 = some (.slice (some ⟨q, 0, some P.length⟩) P.length 2)) (g2 : σ.get 2 = some v2) (hw : WF H n) (hE : ∀ x : List UInt8, getE (P ++ x) = 0 ∧ hdOf (P ++ x) = t ∧ optsOf (P ++ x) = os ∧ bodyOf (P ++ x) = bs)
    {C : ACode} {Q : Ex → Fr → AHeap → Nat → Prop}
    (K : ∀ (σ' : Fr) (H' : AHeap) (m p a2 a3 : Nat), (∀ i, i < 11 → σ'.get i = σ.get i) → σ'.get 11 = some (.pointer (some ⟨p, 0, some 11⟩)) → σ'.get 12 = some (.slice (some ⟨a3, 0, some bs.length⟩) bs.length 2) → σ'.get 13 = some (.int .i64 0) → H'.get p = some (.cells (some 47) [.int .u8 (t.tos : Int), .int .u8 (t.ttl : Int), .int .u8 (t.proto : Int), .int .u16 (t.id : Int), .bool t.evil, .bool t.df, .bool t.more, .int .i64 t.off, .int .u32 (t.src : Int), .int .u32 (t.dst : Int), .slice (some ⟨a2, 0, some os.length⟩) os.length 2] 11) → BS H' (.slice (some ⟨a2, 0, some os.length⟩) os.length 2) os → BS H' (.slice (some ⟨a3, 0, some bs.length⟩) bs.length 2) bs → HSub H H' → WF H' m → n ≤ p → p < m → n ≤ m → m ≤ n + 40 → wx EV06 C σ' H' m Q ⟨⟩) : wx EV06 R7_0 σ H n (kThen EV06 C Q ⟨⟩) ⟨⟩ := by
  obtain ⟨c, hc1, hc2, e20, hbk⟩ : ∃ m, m ≤ be.length ∧ m ≤ 20 ∧ (if (20 : Int) < (be.length : Int) then (20 : Int) else (be.length : Int)) = (m : Int) ∧ be.take 20 = be.take m := by
    by_cases c : 20 < be.length
    · exact ⟨20, by omega, by omega, by rw [if_pos (by omega)]; rfl, rfl⟩
    · exact ⟨be.length, by omega, by omega, by rw [if_neg (by omega)], by rw [List.take_of_length_le (by omega), List.take_length]⟩
  have hlc : (be.take c).length = c := by rw [List.length_take]; omega
  have hrP : H.read q P.length 0 P.length = some (u8s P) := by
    unfold bufB at hq
    rw [AHeap.read_of hq]
    simp [hmn]
  have hne : ¬ P = [] := fun e => by rw [e] at hP0; simp at hP0
  have hcat : u8s P ++ u8s (be.take c) = u8s (P ++ be.take c) := (u8s_append _ _).symm
  have hulP : (u8s P).length = P.length := by simp
  cases h2 with
  | nil =>
    simp -dsimp (discharger := omega) [g9, g2, hne, hrP, aAppend, aElems]
    refine ⟨by omega, ?_⟩
    obtain ⟨g0, eh, eo, eb⟩ := hE []
    rw [List.append_nil] at g0 eh eo eb
    with_reducible refine ret_on [n] ((get_ret (bs := P) (bs_at rfl (by simp (discharger := omega); try exact List.take_of_length_le (by simp; try omega))) (by omega) (.touch (.of fun j hj => by simp (discharger := omega) [hw.none (i := j) (by omega)]) [n])).2 g0) ?_
    rw [eh, eo, eb]
    simp -dsimp (discharger := omega) []
    refine ⟨by omega, K _ _ _ (n + 1 + 10) (n + 1 + 3) (n + 1 + 4) (fun i hi => by simp (discharger := omega)) (by simp) (by simp) (by simp) (AHeap.get_put_same _ _ _) (bs_new (m := 0) (by simp (discharger := omega)) (Nat.zero_le _)) (bs_new (m := 0) (by simp (discharger := omega)) (Nat.zero_le _)) (by (repeat (refine HSub.new ?_ hw (by omega) _)); exact .refl _) (.of fun j hj => by simp (discharger := omega) [hw.none (i := j) (by omega)]) (by omega) (by omega) (by omega) (by omega)⟩
  | @mk i o g k _ hr =>
    have hin : ¬ n = i := by have := read_lt hw hr; omega
    have hilt := read_lt hw hr
    have hrc := bs_sub hr (Nat.zero_le c) hc1
    simp only [Nat.add_zero, Nat.sub_zero, List.drop_zero] at hrc
    by_cases c0 : c = 0
    · subst c0
      simp only [List.take_zero] at hrc
      have hrc : H.read i g o 0 = some [] := hrc
      simp -dsimp (discharger := omega) [g9, g2, hne, hrP, hin, hrc, aAppend, aElems]
      refine ⟨by omega, by omega, ?_⟩
      obtain ⟨g0, eh, eo, eb⟩ := hE []
      rw [List.append_nil] at g0 eh eo eb
      with_reducible refine ret_on [n] ((get_ret (bs := P) (bs_at rfl (by simp (discharger := omega); try exact List.take_of_length_le (by simp; try omega))) (by omega) (.touch (.of fun j hj => by simp (discharger := omega) [hw.none (i := j) (by omega)]) [n])).2 g0) ?_
      rw [eh, eo, eb]
      simp -dsimp (discharger := omega) []
      refine ⟨by omega, K _ _ _ (n + 1 + 10) (n + 1 + 3) (n + 1 + 4) (fun i hi => by simp (discharger := omega)) (by simp) (by simp) (by simp) (AHeap.get_put_same _ _ _) (bs_new (m := 0) (by simp (discharger := omega)) (Nat.zero_le _)) (bs_new (m := 0) (by simp (discharger := omega)) (Nat.zero_le _)) (by (repeat (refine HSub.new ?_ hw (by omega) _)); exact .refl _) (.of fun j hj => by simp (discharger := omega) [hw.none (i := j) (by omega)]) (by omega) (by omega) (by omega) (by omega)⟩
    · have hlx : (P ++ be.take c).length = P.length + c := by rw [List.length_append, hlc]
      simp -dsimp (discharger := omega) [g9, g2, hne, hrP, e20, hin, hrc, aAppend, aElems, hlc, hcat, hulP]
      refine ⟨by omega, by omega, ?_⟩
      obtain ⟨g0, eh, eo, eb⟩ := hE (be.take c)
      with_reducible refine ret_on [n] ((get_ret (bs := (P ++ be.take c)) (bs_at hlx (by simp (discharger := omega); try exact List.take_of_length_le (by simp; try omega))) (by rw [hlx]; omega) (.touch (.of fun j hj => by simp (discharger := omega) [hw.none (i := j) (by omega)]) [n])).2 g0) ?_
      rw [eh, eo, eb]
      simp -dsimp (discharger := omega) []
      refine ⟨by omega, K _ _ _ (n + 1 + 10) (n + 1 + 3) (n + 1 + 4) (fun i hi => by simp (discharger := omega)) (by simp) (by simp) (by simp) (AHeap.get_put_same _ _ _) (bs_new (m := 0) (by simp (discharger := omega)) (Nat.zero_le _)) (bs_new (m := 0) (by simp (discharger := omega)) (Nat.zero_le _)) (by (repeat (refine HSub.new ?_ hw (by omega) _)); exact .refl _) (.of fun j hj => by simp (discharger := omega) [hw.none (i := j) (by omega)]) (by omega) (by omega) (by omega) (by omega)⟩
end
end Go.Proofs.YtiemkafpijhlmaaDoor.Am
namespace Go.Proofs.YtiemkafpijhlmaaDoor.Am
noncomputable section
/- THE LAW's WALK: there and back; the whole. -/
set_option maxHeartbeats 8000000 in
theorem back_walk {t0 : HdN} {h : AHeap} {n : Nat} {o b v2 : Value} {os0 bs0 be : List UInt8} (ht : t0.ok) (ho : BS h o os0) (hb : BS h b bs0) (h2 : BS h v2 be) (hol : os0.length < 9223372036854775808) (hbl : bs0.length < 9223372036854775808) (hel : be.length < 9223372036854775808) {cut : Nat} (hcut : cut < 65536) (hw : WF h n) (hp : HasPow h) (he : HasErrs h) (hn : 4096 ≤ n) :
    HasCall EV06 7 [hdV t0 o, b, v2, .int .u16 (cut : Int)] h n fun v _ _ => v = .bool true := by
  have goal : HasCallT EV06 7 [hdV t0 o, b, v2, .int .u16 (cut : Int)] h n (fun v _ _ => v = .bool true) ⟨⟩ := by
    obtain ⟨a1, k1, rfl⟩ := ho.shape
    obtain ⟨a2, k2, rfl⟩ := hb.shape
    obtain ⟨a3, k3, rfl⟩ := h2.shape
    have hsa : HSub h (h.put n (.cells (some 47) [.int .u8 (t0.tos : Int), .int .u8 (t0.ttl : Int), .int .u8 (t0.proto : Int), .int .u16 (t0.id : Int), .bool t0.evil, .bool t0.df, .bool t0.more, .int .i64 t0.off, .int .u32 (t0.src : Int), .int .u32 (t0.dst : Int), .slice a1 os0.length k1] 11)) := .new (.refl _) hw (Nat.le_refl _) _
    have hwa : WF (h.put n (.cells (some 47) [.int .u8 (t0.tos : Int), .int .u8 (t0.ttl : Int), .int .u8 (t0.proto : Int), .int .u16 (t0.id : Int), .bool t0.evil, .bool t0.df, .bool t0.more, .int .i64 t0.off, .int .u32 (t0.src : Int), .int .u32 (t0.dst : Int), .slice a1 os0.length k1] 11)) (n + 1) := .of fun j hj => by simp (discharger := omega) [hw.none (i := j) (by omega)]
    have hxa : (h.put n (.cells (some 47) [.int .u8 (t0.tos : Int), .int .u8 (t0.ttl : Int), .int .u8 (t0.proto : Int), .int .u16 (t0.id : Int), .bool t0.evil, .bool t0.df, .bool t0.more, .int .i64 t0.off, .int .u32 (t0.src : Int), .int .u32 (t0.dst : Int), .slice a1 os0.length k1] 11)).get n = some (.cells (some 47) [.int .u8 (t0.tos : Int), .int .u8 (t0.ttl : Int), .int .u8 (t0.proto : Int), .int .u16 (t0.id : Int), .bool t0.evil, .bool t0.df, .bool t0.more, .int .i64 t0.off, .int .u32 (t0.src : Int), .int .u32 (t0.dst : Int), .slice a1 os0.length k1] 11) := AHeap.get_put_same _ _ _
    with_reducible refine inl7 ?_
    simp -dsimp (discharger := omega) [B7, -wR7_0, -wR7_1, -wR7_2]
    generalize h.put n (.cells (some 47) [.int .u8 (t0.tos : Int), .int .u8 (t0.ttl : Int), .int .u8 (t0.proto : Int), .int .u16 (t0.id : Int), .bool t0.evil, .bool t0.df, .bool t0.more, .int .i64 t0.off, .int .u32 (t0.src : Int), .int .u32 (t0.dst : Int), .slice a1 os0.length k1] 11) = Ha at *
    refine made_call (h0 := h) (BS.mono hsa ho) hb hol hbl hwa ?_
    intro a4 a5 k4 k5 H m O Y hs hwm hm1 hm2
    have x := made_may ht os0 bs0
    have hol' : (madeO os0).length ≤ 40 := by rw [madeO_len]; unfold madeN; omega
    have hbl' : (madeB t0 bs0).length ≤ 300 := by unfold madeB; split <;> simp <;> omega
    have hx0 := hs _ _ hxa
    simp -dsimp (discharger := omega) [hx0, -wR7_0, -wR7_1, -wR7_2]
    obtain ⟨H1, hH1⟩ : ∃ X : AHeap, X = H.put n (.cells (some 47) [.int .u8 ((madeT t0).tos : Int), .int .u8 ((madeT t0).ttl : Int), .int .u8 ((madeT t0).proto : Int), .int .u16 ((madeT t0).id : Int), .bool (madeT t0).evil, .bool (madeT t0).df, .bool (madeT t0).more, .int .i64 (madeT t0).off, .int .u32 ((madeT t0).src : Int), .int .u32 ((madeT t0).dst : Int), .slice a4 (madeO os0).length k4] 11) := ⟨_, rfl⟩
    have hx1 : H1.get n = some (.cells (some 47) [.int .u8 ((madeT t0).tos : Int), .int .u8 ((madeT t0).ttl : Int), .int .u8 ((madeT t0).proto : Int), .int .u16 ((madeT t0).id : Int), .bool (madeT t0).evil, .bool (madeT t0).df, .bool (madeT t0).more, .int .i64 (madeT t0).off, .int .u32 ((madeT t0).src : Int), .int .u32 ((madeT t0).dst : Int), .slice a4 (madeO os0).length k4] 11) := by rw [hH1, AHeap.get_put_same]
    have hs1 : HSub h H1 := by
      rw [hH1]; exact .new (hsa.trans hs) hw (Nat.le_refl _) _
    have hw1 : WF H1 m := by rw [hH1]; exact .of fun j hj => by simp (discharger := omega) [hwm.none (i := j) (by omega)]
    have hO1 : BS H1 (.slice a4 (madeO os0).length k4) (madeO os0) := O H1 (fun i b hi hb => by rw [hH1, AHeap.get_put_ne _ _ (by omega)]; exact hb)
    have hY1 : BS H1 (.slice a5 (madeB t0 bs0).length k5) (madeB t0 bs0) := BS.mono hs1 Y
    have h21 := BS.mono hs1 h2
    rw [← hH1]
    clear hH1 hx0 hxa O hs hwm hwa hsa
    generalize madeT t0 = t at *
    generalize madeO os0 = os at *
    generalize madeB t0 bs0 = bs at *
    have hla := x.all
    have hlH := headL_len t os bs.length
    have hlP : (putL t os bs).length = 20 + os.length + bs.length := by rw [putL, List.length_append, hlH]
    with_reducible refine call_ret (put_ok x.ok hO1 hY1 hw1 (by omega) (by omega) x.bad) ?_
    obtain ⟨H2, hH2⟩ : ∃ X : AHeap, X = putsL H1 [(m + 5, bufB (putL t os bs) (20 + os.length))] := ⟨_, rfl⟩
    rw [← hH2]
    have hs2 : HSub H1 H2 := by rw [hH2]; exact .new (.refl _) hw1 (by omega) _
    have hw2 : WF H2 (m + 30) := by rw [hH2]; exact .of fun j hj => by simp (discharger := omega) [hw1.none (i := j) (by omega)]
    have hq2 : H2.get (m + 5) = some (bufB (putL t os bs) (20 + os.length)) := by rw [hH2]; exact AHeap.get_put_same _ _ _
    clear hH2
    have hx2 := hs2 _ _ hx1
    have rdP : H2.read (m + 5) (putL t os bs).length 0 (putL t os bs).length = some (u8s (putL t os bs)) := by
      rw [AHeap.read_of (show H2.get (m + 5) = some (.cells (some 5) (u8s (putL t os bs)) (20 + os.length)) from hq2)]
      have : 20 + os.length ≤ (putL t os bs).length := by omega
      simp [this]
    have rdH := bs_sub rdP (Nat.zero_le (20 + os.length)) (by omega)
    have rtk : (putL t os bs).take (20 + os.length) = headL t os bs.length := List.take_left' hlH
    simp only [Nat.zero_add, Nat.sub_zero, List.drop_zero, rtk] at rdH
    have hS : sumN (headL t os bs.length) = 0 := sum_zero (P := preH t os bs.length) (R := postH t os) (by rw [preH_len])
    have hsum : ∀ {nn kk : Nat}, Ret EV06 23 [.slice (some ⟨m + 5, 0, some (putL t os bs).length⟩) (20 + os.length) kk] H2 nn (.int .u16 0) [] nn := fun {nn kk} => by
      have := sum_ret (bs := headL t os bs.length) (by omega) (bs_at (k := kk) hlH rdH) (n := nn)
      rw [hS] at this; exact this
    have etn : (20 + (os.length : Int)).toNat = 20 + os.length := by omega
    simp -dsimp (discharger := omega) [AHeap.read_of hx2, hlP, etn, -wR7_0, -wR7_1, -wR7_2]
    rw [hlP] at hsum
    with_reducible refine call_ret hsum ?_
    simp -dsimp (discharger := omega) [-wR7_0, -wR7_1, -wR7_2]
    rw [← hlP]
    refine r7_0 (t := t) (os := os) (bs := bs) (P := putL t os bs) hq2 (by omega) (by omega) (by omega) (by omega) (BS.mono hs2 h21) hel (by simp) (by simp) hw2 (fun y => get_whole x) ?_
    intro σ3 H3 m3 p11 a6 a7 hfr g11 g12 g13 x11 O3 Y3 hs3 hw3 hp11 hp12 hm3 hm4
    have f1 := hfr 1 (by omega)
    have f3 := hfr 3 (by omega)
    have f4 := hfr 4 (by omega)
    have f9 := hfr 9 (by omega)
    simp at f1 f3 f4 f9
    simp -dsimp (discharger := omega) [-wR7_0, -wR7_1, -wR7_2]
    refine r7_1 (t := t) (p4 := n) (p11 := p11) (os := os) (bs := bs) (hs3 _ _ hx2) x11 (by omega) hp12 (BS.mono (hs2.trans hs3) hO1) O3 (BS.mono (hs2.trans hs3) hY1) Y3 f4 g11 f1 g12 g13 hw3 ?_
    intro σ4 m4 g87 hfr4 hm5 hm6
    have e1 := (hfr4 1 (by omega)).trans f1
    have e3 := (hfr4 3 (by omega)).trans f3
    have e4 := (hfr4 4 (by omega)).trans f4
    have e9 := (hfr4 9 (by omega)).trans f9
    obtain ⟨k, hk, ek⟩ : ∃ k : Nat, k < 20 + os.length + bs.length ∧ (cut : Int) % (20 + (os.length : Int) + (bs.length : Int)) = (k : Int) := by
      refine ⟨cut % (20 + os.length + bs.length), Nat.mod_lt _ (by omega), by rw [show (20 + (os.length : Int) + (bs.length : Int)) = ((20 + os.length + bs.length : Nat) : Int) by omega]; rfl⟩
    have rdK := bs_sub (read_mono hs3 rdP) (Nat.zero_le k) (by omega)
    simp only [Nat.zero_add, Nat.sub_zero, List.drop_zero] at rdK
    have rdK0 := rdK
    rw [hlP] at rdK
    have hlk : ((putL t os bs).take k).length = k := by rw [List.length_take]; omega
    have hgE := get_part x hk
    simp -dsimp (discharger := omega) [g87, e3, e9, hlP, tmodP, ek, -wR7_0, -wR7_1, -wR7_2]
    have hget := (get_ret (bs_at (k := 2) hlk rdK) (by omega) (hw3.mono hm5)).1 (by rw [hgE]; decide)
    rw [hgE] at hget
    with_reducible refine call_ret hget ?_
    simp -dsimp (discharger := omega) [hd0, e9, -wR7_0, -wR7_1, -wR7_2]
    obtain ⟨H4, hH4⟩ : ∃ X : AHeap, X = (H3.put (m4 + 10) (.cells (some 47) [.int .u8 0, .int .u8 0, .int .u8 0, .int .u16 0, .bool false, .bool false, .bool false, .int .i64 0, .int .u32 0, .int .u32 0, .slice none 0 0] 11)).put (m4 + 10) (.cells (some 47) [.int .u8 0, .int .u8 0, .int .u8 0, .int .u16 0, .bool false, .bool false, .bool false, .int .i64 0, .int .u32 0, .int .u32 0, .slice none 0 0] 11) := ⟨_, rfl⟩
    rw [← hH4]
    have hs4 : HSub H3 H4 := by
      rw [hH4]
      repeat (refine HSub.new ?_ (hw3.mono hm5) (by omega) _)
      exact .refl _
    have hw4 : WF H4 (m4 + 10 + 1) := by rw [hH4]; exact .of fun j hj => by simp (discharger := omega) [(hw3.mono hm5).none (i := j) (by omega)]
    clear hH4
    have hs14 := hs2.trans (hs3.trans hs4)
    by_cases hc : k < 20 + os.length
    · have hcE := cut_short x hc
      have hcut := cut_bad (bs_at (k := 2) hlk (read_mono hs4 rdK0)) (by omega) (by rw [hcE]; decide) hw4
      rw [hcE] at hcut
      with_reducible refine call_ret hcut ?_
      simp -dsimp (discharger := omega) [hd0, e4, AHeap.read_of (hs14 _ _ hx1), -wR7_0, -wR7_1, -wR7_2]
      with_reducible refine call_ret (tells_ret (.of fun j hj => by simp (discharger := omega) [hw4.none (i := j) (by omega)]) (by (repeat (refine HasPow.put ?_ (by omega) _)); exact hp.sub (hs1.trans hs14)) (by (repeat (refine HasErrs.put ?_ (by omega) _)); exact he.sub (hs1.trans hs14)) (by omega)) ?_
      simp -dsimp (discharger := omega) []
    · have hcE := cut_part x (by omega) hk
      obtain ⟨c1, c2, c3, c4⟩ := hcE
      have hcut := cut_ok (bs_at (k := 2) hlk (read_mono hs4 rdK0)) (by omega) c1 hw4
      rw [c2, c3, c4] at hcut
      with_reducible refine call_ret hcut ?_
      simp -dsimp (discharger := omega) [e4, AHeap.read_of (hs14 _ _ hx1), -wR7_0, -wR7_1, -wR7_2]
      obtain ⟨H6, hH6⟩ : ∃ X : AHeap, X = (((H4.put (m4 + 10 + 1 + 2) (bufB os 0)).put (m4 + 10 + 1 + 3) (bufB (bs.take (k - (20 + os.length))) 0)).put (m4 + 10 + 1 + 4) (.cells (some 47) [.int .u8 0, .int .u8 0, .int .u8 0, .int .u16 0, .bool false, .bool false, .bool false, .int .i64 0, .int .u32 0, .int .u32 0, .slice none 0 0] 11)).put (m4 + 10 + 1 + 4) (.cells (some 47) [.int .u8 (t.tos : Int), .int .u8 (t.ttl : Int), .int .u8 (t.proto : Int), .int .u16 (t.id : Int), .bool t.evil, .bool t.df, .bool t.more, .int .i64 t.off, .int .u32 (t.src : Int), .int .u32 (t.dst : Int), .slice (some ⟨m4 + 10 + 1 + 2, 0, some os.length⟩) os.length 2] 11) := ⟨_, rfl⟩
      rw [← hH6]
      have hs6 : HSub H4 H6 := by
        rw [hH6]
        repeat (refine HSub.new ?_ hw4 (by omega) _)
        exact .refl _
      have hw6 : WF H6 (m4 + 10 + 1 + 4 + 1) := by rw [hH6]; exact .of fun j hj => by simp (discharger := omega) [hw4.none (i := j) (by omega)]
      have x18 : H6.get (m4 + 10 + 1 + 4) = some (.cells (some 47) [.int .u8 (t.tos : Int), .int .u8 (t.ttl : Int), .int .u8 (t.proto : Int), .int .u16 (t.id : Int), .bool t.evil, .bool t.df, .bool t.more, .int .i64 t.off, .int .u32 (t.src : Int), .int .u32 (t.dst : Int), .slice (some ⟨m4 + 10 + 1 + 2, 0, some os.length⟩) os.length 2] 11) := by rw [hH6, AHeap.get_put_same]
      have y18 : H6.get (m4 + 10 + 1 + 2) = some (bufB os 0) := by rw [hH6]; simp (discharger := omega)
      have y19 : H6.get (m4 + 10 + 1 + 3) = some (bufB (bs.take (k - (20 + os.length))) 0) := by rw [hH6]; simp (discharger := omega)
      clear hH6
      have hlb : (bs.take (k - (20 + os.length))).length = k - (20 + os.length) := by rw [List.length_take]; omega
      have B19 := bs_new y19 (Nat.zero_le _)
      rw [hlb] at B19
      have hs16 := hs14.trans hs6
      exact r7_2 (t := t) (p4 := n) (p18 := m4 + 10 + 1 + 4) (k := k) (N := 20 + os.length) (os := os) (bs := bs) (hs16 _ _ hx1) x18 (by omega) (by omega) (BS.mono hs16 hO1) (bs_new y18 (Nat.zero_le _)) (BS.mono hs16 hY1) B19 (by omega) (by omega) (by omega) (by omega) (by simp [e4]) (by simp) (by simp [e1]) (by simp) (by simp) (by simp) (by simp) hw6 (hp.sub (hs1.trans hs16)) (he.sub (hs1.trans hs16)) (by omega) (fun σ' mm g8 => by simp [g8])
  exact goal
end
end Go.Proofs.YtiemkafpijhlmaaDoor.Am
