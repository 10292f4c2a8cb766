/- Contracts of the program's functions (X3). -/
import Derived.Test.YtkdpjaaohddppaaGreatDoorX2
import Derived.Test.YtkdpjaaohddppaaGreatDoorLN
import Derived.Test.YtkdpjaaohddppaaGreatDoorLQe
import Derived.Test.YtkdpjaaohddppaaGreatDoorLQf
import Derived.Test.YtkdpjaaohddppaaGreatDoorEH
namespace Go.Proofs.YtkdpjaaohddppaaGreatDoor.Am
noncomputable section
/- CONTRACT: atof64. -/
structure Gb (h : AHeap) : Prop where
  opt : ∃ (own : Option Nat) (w : Nat),h.get 5 = some (.cells own [.bool true] w) ∧ w ≤ 1
  info : Info h
  pow10 : Pow10 h
  p10 : P10 h
  cuts : Cuts h
  pows : Pows h
theorem fl_eql (a b : Nat) : aFloatOp .eql .f64 a b = some (.bool (fEq a b)) := by
  have := ord_eq a b
  unfold fEq
  rw [← this]; rfl
def PrV (s : List UInt8) (v : Value) : Prop := ∃ (bits : Nat) (err : Value),v = .tuple #[.float .f64 bits, .int .i64 (s.length : Int),err] ∧ (err = .nilIface ∧ bits < 9218868437227405312 ∨ err = .iface 74 (.int .i64 1) ∧ bits = 9218868437227405312)
theorem PrV.ok {s : List UInt8} {bits : Nat} (h : bits < 9218868437227405312) : PrV s (.tuple #[.float .f64 bits, .int .i64 (s.length : Int), .nilIface]) := ⟨bits,_,rfl, .inl ⟨rfl,h⟩⟩
theorem PrV.inf {s : List UInt8} : PrV s (.tuple #[.float .f64 9218868437227405312, .int .i64 (s.length : Int), .iface 74 (.int .i64 1)]) := ⟨_,_,rfl, .inr ⟨rfl,rfl⟩⟩
def slow67 : ACode := sndC (sndC (sndC (sndC (sndC (sndC B67)))))
theorem B67_eq : B67 = .seq (fstC B67) (.seq (fstC (sndC B67)) (.seq (fstC (sndC (sndC B67))) (.seq (fstC (sndC (sndC (sndC B67)))) (.seq (fstC (sndC (sndC (sndC (sndC B67))))) (.seq (fstC (sndC (sndC (sndC (sndC (sndC B67)))))) slow67))))) := rfl
theorem slow_walk {k : Nat} {s : List UInt8} (ht : FTx s k) {h : AHeap} {n0 n : Nat} (hg : Gb h) (hw : WF h n0) (hn0 : n0 ≤ n) (hn : n ≤ n0 + 2) {σ : Fr} (s0 : σ.get 0 = some (.string ⟨s.toArray⟩)) (s3 : σ.get 3 = some (.int .i64 (s.length : Int))) (s4 : σ.get 4 = some .nilIface) :
    wx EV61 slow67 σ h n (Done [.tmp 2, .tmp 3, .tmp 4] (fun v1 h1 n1 => PrV s v1 ∧ HSub h h1 ∧ n1 ≤ n0 + 3)) () := by
  have hnn : h.get n = none := hw n hn0
  obtain ⟨z8,hz8⟩ : ∃ z8,z8 = List.replicate 800 (0 : UInt8) := ⟨_,rfl⟩
  have hlz : z8.length = 800 := by rw [hz8]; exact List.length_replicate
  have hz : List.replicate 800 (Value.int .u8 0) ++ [.int .i64 0, .int .i64 0, .bool false, .bool false] = decL z8 0 0 false false := by
    unfold decL u8s
    rw [hz8]
    rw [List.map_replicate]; rfl
  have hsub : ∀ b,HSub h (h.put n b) := fun b => HSub.new (.refl _) hw hn0 b
  obtain ⟨b,⟨ds,nd,dp,tr,rfl,hl,hp0,hp1,hcs⟩,rset⟩ := set_ret (a := n) ht hlz (tr := false) (neg := false) (h := h.put n (.cells (some 114) (decL z8 0 0 false false) 804)) (n := n + 1) (by omega) (by simp)
  have hi : InfoA n ((h.put n (.cells (some 114) (decL z8 0 0 false false) 804)).put n (.cells (some 114) (decL ds (nd : Int) dp false tr) 804)) := hg.info.apart ((hsub _).put_new _ hnn) hnn
  have hpw : PowsA n ((h.put n (.cells (some 114) (decL z8 0 0 false false) 804)).put n (.cells (some 114) (decL ds (nd : Int) dp false tr) 804)) := hg.pows.apart ((hsub _).put_new _ hnn) hnn
  have hcut : ∀ b,Cuts (((h.put n (.cells (some 114) (decL z8 0 0 false false) 804)).put n (.cells (some 114) (decL ds (nd : Int) dp false tr) 804)).put n b) := fun b => hg.cuts.sub (HSub.put_new b hnn ((hsub _).put_new _ hnn))
  have hfb : DRetV 99 [iPt] n ((h.put n (.cells (some 114) (decL z8 0 0 false false) 804)).put n (.cells (some 114) (decL ds (nd : Int) dp false tr) 804)) (n + 1) FbV := by
    rcases hcs with rfl | hd
    · exact fbits_zero hi hl (dp := dp) (tr := tr) (by simp)
    · exact fbits_ret hi hpw hcut (dp := dp) (tr := tr) (by omega) (by omega) hd (by simp)
  obtain ⟨v,b2,⟨bits,o,rfl,hbo⟩,rfb⟩ := hfb
  obtain ⟨own7,w7,g7,hw7⟩ := hg.info
  have hn7 := hw.lt g7
  have hle := ht.le
  have hz800 : (decL z8 0 0 false false).length = 804 := decL_len hlz ..
  have htake : List.take s.length s = s := List.take_length
  have ok := @PrV.ok s
  have inf := @PrV.inf s
  simp only [dPt,iPt] at rset rfb
  simp -dsimp (discharger := omega) [slow67,sndC,B67,s0,s3,hz,hz800, -List.reduceReplicate]
  refine call_ret rset ?_
  simp -dsimp (discharger := omega) [g7, -List.reduceReplicate]
  refine call_ret rfb ?_
  simp -dsimp (discharger := omega) [-List.reduceReplicate]
  refine call_ret (frombits_ret bits _ _) ?_
  rcases hbo with ⟨rfl,hb⟩ | ⟨rfl,rfl⟩
  · simp -dsimp (discharger := omega) [s3,s4, -List.reduceReplicate]
    exact ⟨ok hb,HSub.put_new _ hnn ((hsub _).put_new _ hnn),by omega⟩
  · simp -dsimp (discharger := omega) [s3, -List.reduceReplicate]
    exact ⟨inf,HSub.put_new _ hnn ((hsub _).put_new _ hnn),by omega⟩
set_option maxRecDepth 10000 in
theorem atof64_ret {k : Nat} {s : List UInt8} (ht : FTx s k) {h : AHeap} {n : Nat} (hg : Gb h) (hw : WF h n) : ∃ v,PrV s v ∧ Ret EV61 67 [.string ⟨s.toArray⟩] h n v [] (n + 3) := by
  refine rex67 ?_
  obtain ⟨vr,⟨m,p,tr,rfl,hm,hp0,hp1⟩,rr⟩ := readFloat_ret ht h n
  have hsp := special_ret ht h n
  have hle := ht.le
  obtain ⟨own,w,g5,hw5⟩ := hg.opt
  have sw := fun n' h1 h2 σ x0 x3 x4 => slow_walk ht (h := h) (n0 := n) (n := n') (σ := σ) hg hw h1 h2 x0 x3 x4
  have ok := @PrV.ok s
  have inf := @PrV.inf s
  have o0 : orI .u64 0 0 = 0 := by decide
  have o1 : orI .u64 0 9218868437227405312 = 9218868437227405312 := by decide
  have o2 : shlI .u64 0 63 = 0 := by decide
  have b0 := bool2u_ret false h n
  simp only [Bool.false_eq_true,if_false] at b0
  rw [B67_eq]
  simp -dsimp (discharger := omega) [fstC,sndC,B67]
  refine call_ret hsp ?_
  simp -dsimp (discharger := omega) []
  refine call_ret rr ?_
  simp -dsimp (discharger := omega) [g5,AHeap.read_of g5]
  refine call_ret b0 ?_
  by_cases hm0 : m = 0
  · subst hm0
    simp -dsimp (discharger := omega) [o2,o0]
    refine call_ret (frombits_ret 0 h n) ?_
    simp -dsimp (discharger := omega) [HSub.refl]
    exact ok (by omega)
  · have hm1 : ¬ ((m : Int) = 0) := by omega
    by_cases h310 : 310 < p
    · simp -dsimp (discharger := omega) [o2,o1,h310]
      refine call_ret (frombits_ret 9218868437227405312 h n) ?_
      simp -dsimp (discharger := omega) [HSub.refl]
      exact inf
    · by_cases h345 : p < -345
      · simp -dsimp (discharger := omega) [o2,o0,h310,h345]
        refine call_ret (frombits_ret 0 h n) ?_
        simp -dsimp (discharger := omega) [HSub.refl]
        exact ok (by omega)
      · -- the quick ways
        obtain ⟨vp,⟨bits,er,rfl,hbe⟩,rp⟩ := pf64_ret (m := m) (by omega) (p := p) (by omega) (by omega) hw hg.pow10
        have hfin : PrV s (.tuple #[.float .f64 bits, .int .i64 (s.length : Int),er]) := ⟨bits,er,rfl,hbe⟩
        cases tr with
        | false =>
          obtain ⟨ve,⟨eb,o,rfl,ho⟩,re⟩ := exact_ret (m := m) (by omega) (p := p) (by omega) (by omega) (h := h) (n := n) hg.info hg.p10
          simp -dsimp (discharger := omega) [o2,h310,h345]
          refine call_ret re ?_
          cases o with
          | true =>
            simp -dsimp (discharger := omega) [HSub.refl]
            exact ok (ho rfl)
          | false =>
            simp -dsimp (discharger := omega) []
            refine call_ret rp ?_
            simp -dsimp (discharger := omega) [HSub.refl]
            exact hfin
        | true =>
          obtain ⟨vp2,⟨bits2,er2,rfl,hbe2⟩,rp2⟩ := pf64_ret (m := m + 1) (by omega) (p := p) (by omega) (by omega) (hw.mono (Nat.le_succ n)) hg.pow10
          have e1 : (m : Int) + 1 = ((m + 1 : Nat) : Int) := by omega
          have hfe := fl_eql bits bits2
          simp -dsimp (discharger := omega) [o2,h310,h345]
          refine call_ret rp ?_
          simp -dsimp (discharger := omega) [-Int.natCast_add,e1]
          refine call_ret rp2 ?_
          cases hb : fEq bits bits2 with
          | true =>
            rw [hb] at hfe
            simp -dsimp (discharger := omega) [hfe,HSub.refl]
            exact hfin
          | false =>
            rw [hb] at hfe
            simp -dsimp (discharger := omega) [hfe]
            exact sw (n + 2) (by omega) (by omega) _ (by simp) (by simp) (by simp)
end
end Go.Proofs.YtkdpjaaohddppaaGreatDoor.Am
namespace Go.Proofs.YtkdpjaaohddppaaGreatDoor.Am
noncomputable section
/- CONTRACTS,to the last bit: Mul64,prescale,uscale. -/
theorem mulI_nat {x y : Nat} (h : x * y < 18446744073709551616) : IntKind.u64.wrap ((x : Int) * (y : Int)) = ((x * y : Nat) : Int) := by
  rw [show (x : Int) * (y : Int) = ((x * y : Nat) : Int) by simp]
  exact wrap_u64 (by omega) (by omega)
theorem mul32 {x y : Nat} (hx : x < 4294967296) (hy : y < 4294967296) : x * y ≤ 18446744065119617025 :=
  Nat.mul_le_mul (show x ≤ 4294967295 by omega) (show y ≤ 4294967295 by omega)
set_option maxHeartbeats 1000000 in
theorem mul64_eq {x y : Nat} (hx : x < 18446744073709551616) (hy : y < 18446744073709551616) (h : AHeap) (n : Nat) : Ret EV61 138 [.int .u64 (x : Int), .int .u64 (y : Int)] h n (.tuple #[.int .u64 ((x * y / 18446744073709551616 : Nat) : Int), .int .u64 ((x * y % 18446744073709551616 : Nat) : Int)]) [] n := by
  refine rsx138 (by simp) (by simp) ?_
  have sh : ∀ z : Nat,shrI .u64 (z : Int) 32 = ((z / 4294967296 : Nat) : Int) := fun z => shrI_nat .u64 z 32
  have an : ∀ z : Nat,z < 18446744073709551616 → andI .u64 (z : Int) 4294967295 = ((z % 4294967296 : Nat) : Int) := fun z hz => by
    rw [show (4294967295 : Int) = ((2 ^ 32 - 1 : Nat) : Int) from rfl,and64 hz (by decide),Nat.and_two_pow_sub_one_eq_mod]
  obtain ⟨x1,hx1⟩ : ∃ a,a = x / 4294967296 := ⟨_,rfl⟩
  obtain ⟨x0,hx0⟩ : ∃ a,a = x % 4294967296 := ⟨_,rfl⟩
  obtain ⟨y1,hy1⟩ : ∃ a,a = y / 4294967296 := ⟨_,rfl⟩
  obtain ⟨y0,hy0⟩ : ∃ a,a = y % 4294967296 := ⟨_,rfl⟩
  have bx1 : x1 < 4294967296 := by omega
  have bx0 : x0 < 4294967296 := by omega
  have by1 : y1 < 4294967296 := by omega
  have by0 : y0 < 4294967296 := by omega
  have ex : x = x1 * 4294967296 + x0 := by omega
  have ey : y = y1 * 4294967296 + y0 := by omega
  have exy : x * y = x1 * y1 * 18446744073709551616 + (x1 * y0 + x0 * y1) * 4294967296 + x0 * y0 := by rw [ex,ey]; grind
  have ma := mul32 bx0 by0
  have mb := mul32 bx1 by0
  have mc := mul32 bx0 by1
  have md := mul32 bx1 by1
  have e1 := sh x
  have e2 := sh y
  have e3 := an x hx
  have e4 := an y hy
  rw [← hx1] at e1
  rw [← hy1] at e2
  rw [← hx0] at e3
  rw [← hy0] at e4
  have p1 := mulI_nat (x := x0) (y := y0) (by omega)
  have p2 := mulI_nat (x := x1) (y := y0) (by omega)
  have p3 := mulI_nat (x := x0) (y := y1) (by omega)
  have p4 := mulI_nat (x := x1) (y := y1) (by omega)
  have pl : IntKind.u64.wrap ((x : Int) * (y : Int)) = ((x * y % 18446744073709551616 : Nat) : Int) := by
    rw [show (x : Int) * (y : Int) = ((x * y : Nat) : Int) by simp]
    simp only [IntKind.wrap,IntKind.bits,IntKind.signed]; simp
  generalize x0 * y0 = a at *
  generalize x1 * y0 = b at *
  generalize x0 * y1 = c at *
  generalize x1 * y1 = d at *
  obtain ⟨w,hw⟩ : ∃ w,w = a / 4294967296 := ⟨_,rfl⟩
  have s1 := sh a
  rw [← hw] at s1
  obtain ⟨t,ht⟩ : ∃ t,t = b + w := ⟨_,rfl⟩
  have s2 : (b : Int) + (w : Int) = (t : Int) := by omega
  have s3 := sh t
  have s4 := an t (by omega)
  obtain ⟨t1,ht1⟩ : ∃ t1,t1 = t / 4294967296 := ⟨_,rfl⟩
  obtain ⟨t0,ht0⟩ : ∃ t0,t0 = t % 4294967296 := ⟨_,rfl⟩
  rw [← ht1] at s3
  rw [← ht0] at s4
  obtain ⟨z,hz⟩ : ∃ z,z = t0 + c := ⟨_,rfl⟩
  have s5 : (t0 : Int) + (c : Int) = (z : Int) := by omega
  have s6 := sh z
  obtain ⟨z1,hz1⟩ : ∃ z1,z1 = z / 4294967296 := ⟨_,rfl⟩
  rw [← hz1] at s6
  have hH : x * y / 18446744073709551616 = d + t1 + z1 := by omega
  have hHb : x * y / 18446744073709551616 < 18446744073709551616 := by
    have : x * y < 18446744073709551616 * 18446744073709551616 := Nat.mul_lt_mul_of_lt_of_lt hx hy
    exact Nat.div_lt_of_lt_mul this
  rw [hH] at hHb ⊢
  obtain ⟨L,hL⟩ : ∃ L,L = x * y % 18446744073709551616 := ⟨_,rfl⟩
  rw [← hL] at pl ⊢
  have w1 : IntKind.u64.wrap (t : Int) = (t : Int) := wrap_u64 (by omega) (by omega)
  have w2 : IntKind.u64.wrap (z : Int) = (z : Int) := wrap_u64 (by omega) (by omega)
  have w3 : IntKind.u64.wrap ((d : Int) + (t1 : Int)) = ((d + t1 : Nat) : Int) := by rw [← Int.natCast_add]; exact wrap_u64 (by omega) (by omega)
  have w4 : IntKind.u64.wrap (((d + t1 : Nat) : Int) + (z1 : Int)) = ((d + t1 + z1 : Nat) : Int) := by rw [← Int.natCast_add]; exact wrap_u64 (by omega) (by omega)
  clear hL hH exy ex ey hx1 hx0 hy1 hy0 sh an ht hw ht1 ht0 hz hz1
  simp -dsimp (discharger := omega) [B138,HSub.refl,e1,e2,e3,e4,p1,p2,p3,p4,s1,s2, -wrap_u64]
  rw [w1,s3,s4,s5,w2,s6,w3,w4,pl]
  exact ⟨by simp,rfl⟩
def p10L : List Value := Pinned.pow10Rows.flatMap fun x => [.int .u64 (x.1 : Int), .int .u64 (x.2 : Int)]
theorem p10_len : p10L.length = 1392 := by
  unfold p10L; rw [List.length_flatMap]
  rw [show (Pinned.pow10Rows.map fun a => [Value.int .u64 (a.1 : Int), .int .u64 (a.2 : Int)].length) = List.replicate 696 2 from by
    rw [← tab_len]; show (Pinned.pow10Rows.map fun _ => 2) = _; exact List.map_const' ..]
  rw [List.sum_replicate_nat]
theorem p10_drop {i : Nat} (hi : i < 696) : ∃ r,p10L.drop (i * 2) = .int .u64 (hiT i : Int) :: .int .u64 (loT i : Int) :: r := by
  unfold p10L
  rw [flat_two _ (fun _ => rfl)]
  have h := rows_at hi
  obtain ⟨hl,he⟩ := List.getElem?_eq_some_iff.1 h
  rw [List.drop_eq_getElem_cons hl,he]
  exact ⟨_,rfl⟩
theorem p10_hi {i : Nat} (hi : i < 696) : List.take 1 (List.drop (i * 2) p10L) = [.int .u64 (hiT i : Int)] := by
  obtain ⟨r,h⟩ := p10_drop hi; rw [h]; rfl
theorem p10_lo {i : Nat} (hi : i < 696) : List.take 1 (List.drop (i * 2 + 1) p10L) = [.int .u64 (loT i : Int)] := by
  obtain ⟨r,h⟩ := p10_drop hi
  rw [← List.drop_drop,h]; rfl
def Pow10E (h : AHeap) : Prop := ∃ (own : Option Nat) (w : Nat),h.get 14 = some (.cells own p10L w) ∧ w ≤ 1392
theorem Pow10E.sub {h h' : AHeap} (x : Pow10E h) (hs : HSub h h') : Pow10E h' := by
  obtain ⟨own,w,h1,h2⟩ := x
  exact ⟨own,w,hs _ _ h1,h2⟩
def scB (i : Nat) (s : Int) : Blk := .cells (some 148) [.int .u64 (hiT i : Int), .int .u64 (loT i : Int), .int .i64 s] 3
theorem prescale_eq {c i : Nat} {v1 v2 v3 : Value} {h : AHeap} {n : Nat} (hp : Pow10E h) (hc : ¬ c = 14) (hg : h.get c = some (.cells (some 148) [v1,v2,v3] 3)) {e p lp : Int} (he0 : -100000 ≤ e) (he1 : e ≤ 100000) (hpi : p + 348 = (i : Int)) (hi : i < 696) (hl0 : -100000 ≤ lp) (hl1 : lp ≤ 100000) :
    Ret EV61 109 [.pointer (some ⟨c,0,some 3⟩), .int .i64 e, .int .i64 p, .int .i64 lp] h n (.tuple #[]) [(c,scB i (-(e + lp + 3)))] n := by
  refine rsx109 (by simp) (by simp [hg]) ?_
  obtain ⟨own,w,g14,hw⟩ := hp
  have e1' := p10_hi hi
  have e2' := p10_lo hi
  have htl := p10_len
  have e3 : p - -348 = (i : Int) := by omega
  unfold scB
  simp -dsimp (discharger := omega) [B109,AHeap.read_of g14,g14,htl,e3,hc,hg,e1',e2']
  exact .ofE (.left (.inr (by simp)) (.right (.inl (by simp)) (.right (.inl (by simp)) (.right (.inl (by simp)) (.refl _ _)))))
theorem or1_nat {a b : Nat} (ha : a < 18446744073709551616) (hb : b ≤ 1) : orI .u64 (a : Int) (b : Int) = ((a ||| b : Nat) : Int) := or64 ha (by omega)
theorem shl_self {H s : Nat} (hs : s ≤ 63) (hH : H < 18446744073709551616) : shlI .u64 ((H / 2 ^ s : Nat) : Int) (s : Int) = ((H / 2 ^ s * 2 ^ s : Nat) : Int) := by
  unfold shlI
  rw [show min (s : Int).toNat IntKind.u64.bits = s from by show min (s : Int).toNat 64 = s; rw [Int.toNat_natCast]; exact Nat.min_eq_left (by omega)]
  rw [show ((H / 2 ^ s : Nat) : Int) * 2 ^ s = ((H / 2 ^ s * 2 ^ s : Nat) : Int) by simp]
  have := Nat.div_mul_le_self H (2 ^ s)
  exact wrap_u64 (by omega) (by omega)
theorem uscale_eq {x c i s : Nat} (hx : x < 18446744073709551616) (hi : i < 696) (hs : s ≤ 63) {h : AHeap} (hg : h.get c = some (scB i (s : Int))) (n : Nat) :
    Ret EV61 111 [.int .u64 (x : Int), .pointer (some ⟨c,0,some 3⟩)] h n (.int .u64 ((uscN x (hiT i) (loT i) s : Nat) : Int)) [] n := by
  refine rsx111 (by simp) (by simp) ?_
  obtain ⟨_,_,hle,hhi,hlo⟩ := tab_ok hi
  have r1 := mul64_eq hx hhi h n
  have r2 := mul64_eq hx hlo h n
  unfold scB at hg
  generalize hiT i = hI at *
  generalize loT i = lO at *
  obtain ⟨H,hH⟩ : ∃ H,H = x * hI / 18446744073709551616 := ⟨_,rfl⟩
  obtain ⟨M,hM⟩ : ∃ M,M = x * hI % 18446744073709551616 := ⟨_,rfl⟩
  obtain ⟨M2,hM2⟩ : ∃ M2,M2 = x * lO / 18446744073709551616 := ⟨_,rfl⟩
  obtain ⟨L2,hL2⟩ : ∃ M2,M2 = x * lO % 18446744073709551616 := ⟨_,rfl⟩
  obtain ⟨U,hU⟩ : ∃ U,U = uscN x hI lO s := ⟨_,rfl⟩
  have hU' : U = if H % 2 ^ s = 0 then (if M < M2 then ((H - 1) / 2 ^ s) ||| (if 1 < M + 18446744073709551616 - M2 then 1 else 0) else (H / 2 ^ s) ||| (if 1 < M - M2 then 1 else 0)) else (H / 2 ^ s) ||| 1 := by
    rw [hU,hH,hM,hM2]; rfl
  rw [← hU]
  have bH : H < 18446744073709551616 := by
    have : x * hI < 18446744073709551616 * 18446744073709551616 := Nat.mul_lt_mul_of_lt_of_lt hx hhi
    rw [hH]; exact Nat.div_lt_of_lt_mul this
  have bM : M < 18446744073709551616 := by rw [hM]; exact Nat.mod_lt _ (by decide)
  have bM2 : M2 < 18446744073709551616 := by
    have : x * lO < 18446744073709551616 * 18446744073709551616 := Nat.mul_lt_mul_of_lt_of_lt hx hlo
    rw [hM2]; exact Nat.div_lt_of_lt_mul this
  have hH1 : M < M2 → 1 ≤ H := by
    intro hlt
    have h1 : x * lO ≤ x * (hI * 18446744073709551616) := Nat.mul_le_mul_left _ hle
    rw [← Nat.mul_assoc] at h1
    refine Nat.pos_of_ne_zero fun h0 => ?_
    have e1 : x * hI = M := by have := Nat.div_add_mod (x * hI) 18446744073709551616; omega
    rw [e1] at h1
    omega
  rw [← hH,← hM] at r1
  rw [← hM2,← hL2] at r2
  clear hH hM hM2 hL2 hU hle
  have e1 := and63_all ⟨s,by omega⟩
  simp only at e1
  have e2 := shr64 hs H
  have e3 := shl_self hs bH
  have hq : ∀ {y : Nat},y < 18446744073709551616 → y / 2 ^ s < 18446744073709551616 := fun hy => Nat.lt_of_le_of_lt (Nat.div_le_self _ _) hy
  have hdm : H % 2 ^ s = 0 ↔ H / 2 ^ s * 2 ^ s = H := by
    have := Nat.div_add_mod H (2 ^ s)
    rw [Nat.mul_comm] at this
    omega
  by_cases hz : H % 2 ^ s = 0
  · have hz' := hdm.1 hz
    rw [hz'] at e3
    rw [if_pos hz] at hU'
    have b0 : ∀ (d : Bool) (t : Nat),t = (if d = true then 1 else 0) → Ret EV61 100 [.bool d] h n (.int .u64 (t : Int)) [] n := fun d t ht => by
      rw [ht]; have := bool2u_ret d h n; cases d <;> exact this
    obtain ⟨t,Z,D,t2,ht,e5,bZ,e6,ht2,hfin⟩ : ∃ t Z D t2 : Nat,(t = if decide (M < M2) = true then 1 else 0) ∧ IntKind.u64.wrap ((H : Int) - (t : Int)) = (Z : Int) ∧ Z < 18446744073709551616 ∧ IntKind.u64.wrap ((M : Int) - (M2 : Int)) = (D : Int) ∧ (t2 = if decide ((1 : Int) < (D : Int)) = true then 1 else 0) ∧ U = Z / 2 ^ s ||| t2 := by
      by_cases hlt : M < M2
      · have h1 := hH1 hlt
        rw [if_pos hlt] at hU'
        refine ⟨1,H - 1,M + 18446744073709551616 - M2,_, ?_, ?_,by omega, ?_,rfl, ?_⟩
        · rw [decide_eq_true (by omega)]; rfl
        · rw [show (H : Int) - ((1 : Nat) : Int) = ((H - 1 : Nat) : Int) by omega]; exact wrap_u64 (by omega) (by omega)
        · have : IntKind.u64.wrap ((M : Int) - (M2 : Int)) = ((M : Int) - (M2 : Int)) % 18446744073709551616 := by
            simp only [IntKind.wrap,IntKind.bits,IntKind.signed]; simp
          rw [this]; omega
        · rw [hU']; congr 1
          by_cases hd : 1 < M + 18446744073709551616 - M2
          · rw [if_pos hd,decide_eq_true (by omega)]; rfl
          · rw [if_neg hd,decide_eq_false (by omega)]; rfl
      · rw [if_neg hlt] at hU'
        refine ⟨0,H,M - M2,_, ?_, ?_,by omega, ?_,rfl, ?_⟩
        · rw [decide_eq_false (by omega)]; rfl
        · rw [show (H : Int) - ((0 : Nat) : Int) = (H : Int) by omega]; exact wrap_u64 (by omega) (by omega)
        · rw [show (M : Int) - (M2 : Int) = ((M - M2 : Nat) : Int) by omega]; exact wrap_u64 (by omega) (by omega)
        · rw [hU']; congr 1
          by_cases hd : 1 < M - M2
          · rw [if_pos hd,decide_eq_true (by omega)]; rfl
          · rw [if_neg hd,decide_eq_false (by omega)]; rfl
    have rt := b0 _ t ht
    have rt2 := b0 _ t2 ht2
    have e7 := shr64 hs Z
    have e8 := or1_nat (hq bZ) (show t2 ≤ 1 by rw [ht2]; split <;> omega)
    rw [← hfin] at e8
    have hzi : (((H / 2 ^ s * 2 ^ s : Nat)) : Int) = (H : Int) := by rw [hz']
    generalize Z / 2 ^ s = q2 at *
    generalize hqq : H / 2 ^ s = q at *
    simp -dsimp (discharger := omega) [B111,AHeap.read_of hg]
    refine call_ret r1 ?_
    simp -dsimp (discharger := omega) [e1,e2,e3,AHeap.read_of hg]
    refine call_ret r2 ?_
    simp -dsimp (discharger := omega) []
    refine call_ret rt ?_
    simp -dsimp (discharger := omega) [-wrap_u64,e5,e6,e7]
    with_reducible refine ret_ret rt2 ?_
    simp -dsimp (discharger := omega) [e8,HSub.refl]
  · rw [if_neg hz] at hU'
    have hz' : ¬ ((H / 2 ^ s * 2 ^ s : Nat) : Int) = (H : Int) := fun e => hz (hdm.2 (by omega))
    have e4 := or1_nat (hq bH) (Nat.le_refl 1)
    rw [show ((1 : Nat) : Int) = 1 from rfl,← hU'] at e4
    generalize H / 2 ^ s = q at *
    generalize q * 2 ^ s = y at *
    simp -dsimp (discharger := omega) [B111,AHeap.read_of hg]
    refine call_ret r1 ?_
    simp -dsimp (discharger := omega) [e1,e2,e3,AHeap.read_of hg,e4,HSub.refl]
end
end Go.Proofs.YtkdpjaaohddppaaGreatDoor.Am
namespace Go.Proofs.YtkdpjaaohddppaaGreatDoor.Am
noncomputable section
/- CONTRACT,to the last bit: shortFloat. -/
theorem skew_ret {x : Int} (h0 : -2000 ≤ x) (h1 : x ≤ 2000) (h : AHeap) (n : Nat) : Ret EV61 108 [.int .i64 x] h n (.int .i64 ((x * 631305 - 261663) / 2097152)) [] n := by
  refine rsx108 (by simp) (by simp) ?_
  simp -dsimp (discharger := omega) [B108,HSub.refl]
  exact shrI_div .i64 _ (j := 21) (by decide)
theorem log10z_ret {x : Int} (h0 : -2000 ≤ x) (h1 : x ≤ 2000) (h : AHeap) (n : Nat) : Ret EV61 80 [.int .i64 x] h n (.int .i64 (x * 78913 / 262144)) [] n := by
  refine rsx80 (by simp) (by simp) ?_
  simp -dsimp (discharger := omega) [B80,HSub.refl]
  exact shrI_div .i64 _ (j := 18) (by decide)
theorem rnd_ret {u : Nat} (hu : u < 9223372036854775808) (h : AHeap) (n : Nat) : Ret EV61 115 [.int .u64 (u : Int)] h n (.int .u64 ((rnd u : Nat) : Int)) [] n := by
  refine rsx115 (by simp) (by simp) ?_
  obtain ⟨y,hy⟩ : ∃ y : Nat,y = u / 4 := ⟨_,rfl⟩
  obtain ⟨b,hb⟩ : ∃ b : Nat,b = y % 2 := ⟨_,rfl⟩
  have s1 : shrI .u64 (u : Int) 2 = (y : Int) := by rw [hy]; exact shrI_nat .u64 u 2
  have s2 : andI .u64 (y : Int) 1 = (b : Int) := by
    rw [show (1 : Int) = ((1 : Nat) : Int) by rfl,and64 (by omega) (by decide),Nat.and_one_is_mod,hb]
  obtain ⟨r,hr⟩ : ∃ r,r = rnd u := ⟨_,rfl⟩
  have s3 : shrI .u64 ((u : Int) + 1 + (b : Int)) 2 = (r : Int) := by
    rw [hr,show (u : Int) + 1 + (b : Int) = ((u + 1 + b : Nat) : Int) by omega]
    have := shrI_nat .u64 (u + 1 + b) 2
    rw [show ((2 : Nat) : Int) = 2 from rfl] at this
    rw [this]; unfold rnd; rw [hb,hy]; rfl
  rw [← hr]
  simp -dsimp (discharger := omega) [B115,s1,s2,s3,HSub.refl]
theorem ceil_ret {u : Nat} (hu : u < 9223372036854775808) (h : AHeap) (n : Nat) : Ret EV61 113 [.int .u64 (u : Int)] h n (.int .u64 (((u + 3) / 4 : Nat) : Int)) [] n := by
  refine rsx113 (by simp) (by simp) ?_
  have s1 : shrI .u64 ((u : Int) + 3) 2 = (((u + 3) / 4 : Nat) : Int) := shrI_nat .u64 (u + 3) 2
  generalize (u + 3) / 4 = r at *
  simp -dsimp (discharger := omega) [B113,s1,HSub.refl]
theorem floor_ret {u : Nat} (hu : u < 9223372036854775808) (h : AHeap) (n : Nat) : Ret EV61 114 [.int .u64 (u : Int)] h n (.int .u64 ((u / 4 : Nat) : Int)) [] n := by
  refine rsx114 (by simp) (by simp) ?_
  have s1 : shrI .u64 (u : Int) 2 = ((u / 4 : Nat) : Int) := shrI_nat .u64 u 2
  generalize u / 4 = r at *
  simp -dsimp (discharger := omega) [B114,s1,HSub.refl]
theorem nudge_up {u o : Nat} (hu : u < 9223372036854775808) (ho : o ≤ 1) (h : AHeap) (n : Nat) : Ret EV61 112 [.int .u64 (u : Int), .int .i64 (o : Int)] h n (.int .u64 ((u + o : Nat) : Int)) [] n := by
  refine rsx112 (by simp) (by simp) ?_
  obtain ⟨r,hr⟩ : ∃ r,r = u + o := ⟨_,rfl⟩
  have e : (u : Int) + (o : Int) = (r : Int) := by omega
  rw [← hr]
  simp -dsimp (discharger := omega) [B112,e,HSub.refl]
theorem nudge_down {u o : Nat} (hu : u < 9223372036854775808) (ho : o ≤ 1) (hou : o ≤ u) (h : AHeap) (n : Nat) : Ret EV61 112 [.int .u64 (u : Int), .int .i64 (-(o : Int))] h n (.int .u64 ((u - o : Nat) : Int)) [] n := by
  refine rsx112 (by simp) (by simp) ?_
  have e : IntKind.u64.wrap ((u : Int) + IntKind.u64.wrap (-(o : Int))) = ((u - o : Nat) : Int) := by
    simp only [IntKind.wrap,IntKind.bits,IntKind.signed]; simp; omega
  generalize u - o = r at *
  simp -dsimp (discharger := omega) [B112,e,HSub.refl, -wrap_u64]
theorem and_odd {m : Nat} (hm : m < 18446744073709551616) : andI .i64 (m : Int) 1 = ((m % 2 : Nat) : Int) := by
  have e1 : (BitVec.ofInt 64 (m : Int)).toNat = m := ofInt_nat (w := 64) hm
  have e2 : (BitVec.ofInt 64 (1 : Int)).toNat = 1 := by decide
  unfold andI
  show IntKind.i64.wrap (((BitVec.ofInt 64 (m : Int) &&& BitVec.ofInt 64 (1 : Int)).toNat : Nat) : Int) = _
  rw [BitVec.toNat_and,e1,e2,Nat.and_one_is_mod]
  exact wrap64 (by omega) (by omega)
def tail85 : ACode := sndC (sndC (sndC (sndC (sndC (sndC (sndC B85))))))
theorem B85_eq : B85 = .seq (fstC B85) (.seq (fstC (sndC B85)) (.seq (fstC (sndC (sndC B85))) (.seq (fstC (sndC (sndC (sndC B85)))) (.seq (fstC (sndC (sndC (sndC (sndC B85))))) (.seq (fstC (sndC (sndC (sndC (sndC (sndC B85)))))) (.seq (fstC (sndC (sndC (sndC (sndC (sndC (sndC B85))))))) tail85)))))) := rfl
set_option maxHeartbeats 1000000 in
theorem short_tail {mant s : Nat} {x : Int} (o : MOk mant s x) {h : AHeap} {n : Nat} (hw : WF h n) (ht : Pow10E h) (hn : 14 < n) {sk : Bool} {σ : Fr} (s0 : σ.get 0 = some (.int .u64 ((mant * 2 ^ s : Nat) : Int))) (s1 : σ.get 1 = some (.int .i64 (x - (s : Int)))) (s5 : σ.get 5 = some (.int .i64 (pOf sk x)))
    (s8 : σ.get 8 = some (.int .u64 ((minN sk mant s : Nat) : Int))) (s9 : σ.get 9 = some (.int .u64 ((maxN mant s : Nat) : Int))) (s10 : σ.get 10 = some (.int .i64 ((mant % 2 : Nat) : Int))) :
    wx EV61 tail85 σ h n (Done [.tmp 4, .tmp 5] (fun v1 h1 n1 => v1 = .tuple #[.int .u64 ((shortD sk mant x s : Nat) : Int), .int .i64 (shortP sk mant x s)] ∧ HSub (putsL h []) h1 ∧ n1 ≤ n + 1)) () := by
  obtain ⟨m1,m2,m3,m4,m5⟩ := o.minmax sk
  obtain ⟨hsc,h1,h2,_,hpi,h3,h4⟩ := o.sc sk
  obtain ⟨q1,q2,q3⟩ := short_pos o sk
  obtain ⟨_,_,_,hhi,_⟩ := tab_ok (i := iOf sk x) (by omega)
  have us1 := us_ge o sk m4
  have us2 := us_ge o sk (y := maxN mant s) (by rw [m2]; exact Nat.le_trans (Nat.le_trans (by decide) o.lo) (Nat.le_add_right _ _))
  have hs1 := o.s1
  have hx0 := o.x0
  have hx1 := o.x1
  have lt : ∀ y,y < 18446744073709551616 → usN sk x s y < 576460752303423488 := fun y hy => by
    refine Nat.lt_of_lt_of_le (usc_lt hy hhi (by omega)) ?_
    rw [show (576460752303423488 : Nat) = 2 ^ 59 by decide]
    exact Nat.pow_le_pow_right (by decide) (by omega)
  have b1 := lt _ m5
  have b2 := lt _ m3
  have b3 := lt _ o.hi
  have hp : -300 ≤ pOf sk x ∧ pOf sk x ≤ 330 := ⟨(exp_ok hx0 hx1 sk).p0,(exp_ok hx0 hx1 sk).p1⟩
  have hnn : h.get n = none := hw n (Nat.le_refl _)
  have hsub : ∀ a b,HSub h ((h.put n a).put n b) := fun a b => HSub.new (HSub.new (.refl _) hw (Nat.le_refl _) _) hw (Nat.le_refl _) _
  -- the contracts
  have rl := fun H N => log2Pow10_ret (p := pOf sk x) (by omega) (by omega) H N
  obtain ⟨lp,hlp⟩ : ∃ lp,lp = lpZ (pOf sk x) := ⟨_,rfl⟩
  have hlp2 : pOf sk x * 108853 / 32768 = lp := hlp.symm
  have hlb : -1200 ≤ lp ∧ lp ≤ 1200 := by omega
  have rp := prescale_eq (c := n) (i := iOf sk x) (v1 := .int .u64 0) (v2 := .int .u64 0) (v3 := .int .i64 0) (h := h.put n (.cells (some 148) [.int .u64 0, .int .u64 0, .int .i64 0] 3)) (n := n + 1) (ht.sub (HSub.new (.refl _) hw (Nat.le_refl _) _)) (by omega) (by simp) (e := x - (s : Int)) (p := pOf sk x) (lp := lp) (by omega) (by omega) hpi (by omega) (by omega) (by omega)
  rw [hlp,hsc] at rp
  rw [← hlp] at rp
  have ru := fun y (hy : y < 18446744073709551616) => uscale_eq (x := y) (c := n) (i := iOf sk x) (s := sOf sk x s) hy (by omega) (by omega) (h := (h.put n (.cells (some 148) [.int .u64 0, .int .u64 0, .int .i64 0] 3)).put n (scB (iOf sk x) (sOf sk x s : Int))) (by simp) (n + 1)
  have r1 := ru _ m5
  have r2 := ru _ m3
  have r3 := ru _ o.hi
  have ho : mant % 2 ≤ 1 := by omega
  have hdmin : dminN sk mant x s = (usN sk x s (minN sk mant s) + mant % 2 + 3) / 4 := rfl
  have hdmax : dmaxN sk mant x s = (usN sk x s (maxN mant s) - mant % 2) / 4 := rfl
  have hD : shortD sk mant x s = if dminN sk mant x s ≤ dmaxN sk mant x s / 10 * 10 then dmaxN sk mant x s / 10 else if dminN sk mant x s < dmaxN sk mant x s then rnd (usN sk x s (mant * 2 ^ s)) else dminN sk mant x s := rfl
  have hP : shortP sk mant x s = if dminN sk mant x s ≤ dmaxN sk mant x s / 10 * 10 then -(pOf sk x - 1) else -(pOf sk x) := rfl
  have hu1 : usN sk x s (minN sk mant s) = uscN (minN sk mant s) (hiT (iOf sk x)) (loT (iOf sk x)) (sOf sk x s) := rfl
  have hu2 : usN sk x s (maxN mant s) = uscN (maxN mant s) (hiT (iOf sk x)) (loT (iOf sk x)) (sOf sk x s) := rfl
  have hu3 : usN sk x s (mant * 2 ^ s) = uscN (mant * 2 ^ s) (hiT (iOf sk x)) (loT (iOf sk x)) (sOf sk x s) := rfl
  rw [← hu1] at r1
  rw [← hu2] at r2
  rw [← hu3] at r3
  generalize usN sk x s (minN sk mant s) = u1 at *
  generalize usN sk x s (maxN mant s) = u2 at *
  generalize usN sk x s (mant * 2 ^ s) = u3 at *
  generalize dminN sk mant x s = dmin at *
  generalize dmaxN sk mant x s = dmax at *
  generalize shortD sk mant x s = D at *
  generalize shortP sk mant x s = P at *
  generalize minN sk mant s = mn at *
  generalize maxN mant s = mx at *
  obtain ⟨M,hM⟩ : ∃ M,M = mant * 2 ^ s := ⟨_,rfl⟩
  rw [← hM] at s0 r3
  obtain ⟨od,hod⟩ : ∃ od,od = mant % 2 := ⟨_,rfl⟩
  rw [← hod] at s10 ho hdmin hdmax
  have k1 := fun H N => nudge_up (u := u1) (by omega) ho H N
  have k2 := fun H N => ceil_ret (u := u1 + od) (by omega) H N
  have k3 := fun H N => nudge_down (u := u2) (by omega) ho (by omega) H N
  have k4 := fun H N => floor_ret (u := u2 - od) (by omega) H N
  have k5 := fun H N => rnd_ret (u := u3) (by omega) H N
  rw [← hdmin] at k2
  rw [← hdmax] at k4
  obtain ⟨w,hw1⟩ : ∃ w,w = u1 + od := ⟨_,rfl⟩
  obtain ⟨w2,hw2⟩ : ∃ w,w = u2 - od := ⟨_,rfl⟩
  rw [← hw1] at k1 k2
  rw [← hw2] at k3 k4
  generalize pOf sk x = p at *
  generalize scB (iOf sk x) (sOf sk x s : Int) = sb at *
  obtain ⟨e',he'⟩ : ∃ e',e' = x - (s : Int) := ⟨_,rfl⟩
  rw [← he'] at s1 rp
  have hq10 : Int.tdiv (dmax : Int) 10 = ((dmax / 10 : Nat) : Int) := rfl
  have bdm : dmax < 9223372036854775808 := by omega
  have hdiv : dmax / 10 * 10 ≤ dmax := Nat.div_mul_le_self _ _
  clear hu1 hu2 hu3 hsc hpi us1 us2 q1 q2 q3 m1 m2 m3 m4 m5 ru lt hw1 hw2 hod hM he' hlp h1 h2 h3 h4 o
  obtain ⟨d10,hd10⟩ : ∃ d,d = dmax / 10 := ⟨_,rfl⟩
  rw [← hd10] at hD hP hdiv hq10
  have hdm : (dmax : Int) / 10 = (d10 : Int) := by omega
  simp -dsimp (discharger := omega) [tail85,sndC,B85,s1,s5]
  refine call_ret (rl _ _) ?_
  rw [hlp2]
  simp -dsimp (discharger := omega) []
  refine call_ret rp ?_
  simp -dsimp (discharger := omega) [s8]
  refine call_ret r1 ?_
  simp -dsimp (discharger := omega) [s10]
  refine call_ret (k1 _ _) ?_
  simp -dsimp (discharger := omega) []
  refine call_ret (k2 _ _) ?_
  simp -dsimp (discharger := omega) [s9]
  refine call_ret r2 ?_
  simp -dsimp (discharger := omega) [s10]
  refine call_ret (k3 _ _) ?_
  simp -dsimp (discharger := omega) []
  refine call_ret (k4 _ _) ?_
  by_cases c1 : dmin ≤ d10 * 10
  · rw [if_pos c1] at hD hP
    have c1' : (dmin : Int) ≤ (d10 : Int) * 10 := by omega
    simp -dsimp (discharger := omega) [s5,hq10,c1']
    exact ⟨⟨by rw [hD],by rw [hP]⟩,hsub _ _⟩
  · rw [if_neg c1] at hD hP
    have c1' : ¬ (dmin : Int) ≤ (d10 : Int) * 10 := by omega
    by_cases c2 : dmin < dmax
    · rw [if_pos c2] at hD
      have c2' : (dmin : Int) < (dmax : Int) := by omega
      simp -dsimp (discharger := omega) [s0,hq10,c1',c2']
      refine call_ret r3 ?_
      simp -dsimp (discharger := omega) []
      refine call_ret (k5 _ _) ?_
      simp -dsimp (discharger := omega) [s5]
      exact ⟨⟨by rw [hD],by rw [hP]⟩,hsub _ _⟩
    · rw [if_neg c2] at hD
      have c2' : ¬ (dmin : Int) < (dmax : Int) := by omega
      simp -dsimp (discharger := omega) [s5,hq10,c1',c2']
      exact ⟨⟨by rw [hD],by rw [hP]⟩,hsub _ _⟩
theorem shl1 {j : Nat} (hj : j ≤ 63) : shlI .u64 1 (j : Int) = ((2 ^ j : Nat) : Int) := by
  have := Nat.pow_le_pow_right (n := 2) (by decide) hj
  rw [show (2 : Nat) ^ 63 = 9223372036854775808 by decide] at this
  unfold shlI
  rw [show min (j : Int).toNat IntKind.u64.bits = j from by show min (j : Int).toNat 64 = j; rw [Int.toNat_natCast]; exact Nat.min_eq_left (by omega)]
  rw [show (1 : Int) * 2 ^ j = ((2 ^ j : Nat) : Int) by simp]
  generalize 2 ^ j = K at *
  exact wrap_u64 (by omega) (by omega)
set_option maxHeartbeats 1000000 in
theorem short_ret {mant s : Nat} {x : Int} (o : MOk mant s x) {h : AHeap} {n : Nat} (hw : WF h n) (ht : Pow10E h) (hn : 14 < n) :
    Ret EV61 85 [.int .u64 ((mant * 2 ^ s : Nat) : Int), .int .i64 (x - (s : Int))] h n (.tuple #[.int .u64 ((shortD (skewN mant x) mant x s : Nat) : Int), .int .i64 (shortP (skewN mant x) mant x s)]) [] (n + 1) := by
  refine rsx85 (by simp) (by simp) ?_
  obtain ⟨sk,hsk⟩ : ∃ sk,sk = skewN mant x := ⟨_,rfl⟩
  rw [← hsk]
  have ts := fun (σ : Fr) => short_tail o hw ht hn (sk := sk) (σ := σ)
  obtain ⟨m1,m2,m3,m4,m5⟩ := o.minmax sk
  have hs0 := o.s0
  have hs1 := o.s1
  have hx0 := o.x0
  have hx1 := o.x1
  have hM0 := o.lo
  have hM1 := o.hi
  have hnm := o.nm
  have hm2 := o.m2
  have r1 := skew_ret (x := x) (by omega) (by omega) h n
  have r2 := log10z_ret (x := x) (by omega) (by omega) h n
  have hsh := shrI_nat .u64 (mant * 2 ^ s) s
  rw [show min s IntKind.u64.bits = s from Nat.min_eq_left (by show s ≤ 64; omega),Nat.mul_div_cancel _ (Nat.two_pow_pos s)] at hsh
  have hod := and_odd (m := mant) (by omega)
  have hconv : IntKind.i64.wrap (mant : Int) = (mant : Int) := wrap64 (by omega) (by omega)
  have l1 := shl1 (j := s - 1) (by omega)
  have l2 := shl1 (j := s - 2) (by omega)
  have c1 : ((s - 1 : Nat) : Int) = (s : Int) - 1 := by omega
  have c2 : ((s - 2 : Nat) : Int) = (s : Int) - 2 := by omega
  rw [c1] at l1
  rw [c2] at l2
  -- what is 2 ^ 63
  have h63 : skewN mant x = true → s = 11 ∧ mant * 2 ^ s = 9223372036854775808 := by
    intro h
    simp only [skewN,Bool.and_eq_true,decide_eq_true_iff] at h
    obtain ⟨rfl,h⟩ := h
    have h5 : 2 ^ s < 2 ^ 12 := by
      have : (2 : Nat) ^ 12 = 4096 := by decide
      omega
    have h6 := (Nat.pow_lt_pow_iff_right (by decide : 1 < 2)).1 h5
    obtain rfl : s = 11 := by omega
    exact ⟨rfl,by decide⟩
  have h63' : skewN mant x = false → 4503599627370496 ≤ mant → s = 11 ∧ (mant * 2 ^ s = 9223372036854775808 → x = -1074) := by
    intro h hm
    have h5 : 2 ^ s < 2 ^ 12 := by
      have : (2 : Nat) ^ 12 = 4096 := by decide
      have h7 : 4503599627370496 * 2 ^ s ≤ mant * 2 ^ s := Nat.mul_le_mul_right _ hm
      omega
    have h6 := (Nat.pow_lt_pow_iff_right (by decide : 1 < 2)).1 h5
    obtain rfl : s = 11 := by omega
    refine ⟨rfl,fun e => ?_⟩
    have hm3 : mant = 4503599627370496 := by
      have : (2 : Nat) ^ 11 = 2048 := by decide
      omega
    subst hm3
    have hnx : ¬ (-1074 : Int) < x := fun hx => by simp [skewN,hx] at h
    omega
  obtain ⟨M,hM⟩ : ∃ M,M = mant * 2 ^ s := ⟨_,rfl⟩
  obtain ⟨e',he'⟩ : ∃ e',e' = x - (s : Int) := ⟨_,rfl⟩
  rw [← hM] at ts m1 m2 hM0 hM1 hsh h63 h63'
  rw [← hM]
  rw [← he'] at ts
  rw [← he']
  obtain ⟨a,ha⟩ : ∃ a,a = 2 ^ (s - 1) := ⟨_,rfl⟩
  obtain ⟨b,hb⟩ : ∃ b,b = 2 ^ (s - 2) := ⟨_,rfl⟩
  rw [← ha] at m1 m2 l1
  rw [← hb] at m1 l2
  have ha63 : a < 9223372036854775808 := by
    have := Nat.pow_lt_pow_right (a := 2) (by decide) (show s - 1 < 63 by omega)
    rw [← ha] at this
    exact this
  obtain ⟨mn,hmn⟩ : ∃ mn,mn = minN sk mant s := ⟨_,rfl⟩
  obtain ⟨mx,hmx⟩ : ∃ mx,mx = maxN mant s := ⟨_,rfl⟩
  rw [← hmn] at ts m1 m4 m5
  rw [← hmx] at ts m2 m3
  have hmx2 : (M : Int) + (a : Int) = (mx : Int) := by omega
  obtain ⟨od,hod2⟩ : ∃ od,od = mant % 2 := ⟨_,rfl⟩
  rw [← hod2] at ts hod
  rw [B85_eq]
  clear hod2 hmn hmx ha hb hM
  by_cases hk : skewN mant x = true
  · obtain ⟨rfl,hM63⟩ := h63 hk
    rw [hk] at hsk
    subst hsk
    subst hM63
    simp only [if_true] at m1
    have hmn2 : (9223372036854775808 : Int) - (b : Int) = (mn : Int) := by omega
    have hxk : -1085 < e' := by
      simp only [skewN,Bool.and_eq_true,decide_eq_true_iff] at hk
      omega
    have hez : e' + 11 = x := by omega
    have l1' : shlI .u64 1 10 = (a : Int) := l1
    have l2' : shlI .u64 1 9 = (b : Int) := l2
    have hmx3 : (9223372036854775808 : Int) + (a : Int) = (mx : Int) := hmx2
    have hsh' : shrI .u64 9223372036854775808 11 = (mant : Int) := hsh
    have hpo : -((x * 631305 - 261663) / 2097152) = pOf true x := rfl
    have hpb := (exp_ok hx0 hx1 true).p0
    have hpb2 := (exp_ok hx0 hx1 true).p1
    generalize pOf true x = p at *
    generalize hq : (x * 631305 - 261663) / 2097152 = q at *
    simp -dsimp (discharger := omega) [fstC,sndC,B85,hxk,hez]
    refine call_ret r1 ?_
    simp -dsimp (discharger := omega) [l1',l2',hsh',hmn2,hmx3,hod,hconv,hpo]
    exact ts _ (by simp) (by simp) (by simp) (by simp) (by simp) (by simp)
  · have hk' : skewN mant x = false := by simpa using hk
    rw [hk'] at hsk
    subst hsk
    simp only [Bool.false_eq_true,if_false] at m1
    have hmn2 : (M : Int) - (a : Int) = (mn : Int) := by omega
    have hpo : -(x * 78913 / 262144) = pOf false x := rfl
    have hpb := (exp_ok hx0 hx1 false).p0
    have hpb2 := (exp_ok hx0 hx1 false).p1
    generalize pOf false x = p at *
    generalize hq : x * 78913 / 262144 = q at *
    by_cases hmb : 4503599627370496 ≤ mant
    · obtain ⟨rfl,hM63⟩ := h63' hk' hmb
      have hge : -1085 ≤ e' := by omega
      have hez : e' + 11 = x := by omega
      have l1' : shlI .u64 1 10 = (a : Int) := l1
      have hsh' : shrI .u64 (M : Int) 11 = (mant : Int) := hsh
      by_cases hMM : M = 9223372036854775808
      · have hle : ¬ -1085 < e' := by have := hM63 hMM; omega
        subst hMM
        have hmn3 : (9223372036854775808 : Int) - (a : Int) = (mn : Int) := hmn2
        have hmx3 : (9223372036854775808 : Int) + (a : Int) = (mx : Int) := hmx2
        have hsh3 : shrI .u64 9223372036854775808 11 = (mant : Int) := hsh
        simp -dsimp (discharger := omega) [fstC,sndC,B85,hle,hge,hez]
        refine call_ret r2 ?_
        simp -dsimp (discharger := omega) [l1',hsh3,hmn3,hmx3,hod,hconv,hpo]
        exact ts _ (by simp) (by simp) (by simp) (by simp) (by simp) (by simp)
      · have hMi : ¬ (M : Int) = 9223372036854775808 := by omega
        simp -dsimp (discharger := omega) [fstC,sndC,B85,hge,hez]
        refine call_ret r2 ?_
        simp -dsimp (discharger := omega) [l1',hsh',hmn2,hmx2,hod,hconv,hpo]
        exact ts _ (by simp) (by simp) (by simp) (by simp) (by simp) (by simp)
    · have hxe := hnm (by omega)
      have hs11 : 11 < s := by
        refine Nat.lt_of_not_le fun hle => ?_
        have : 2 ^ s ≤ 2 ^ 11 := Nat.pow_le_pow_right (by decide) hle
        have h8 : mant * 2 ^ s ≤ 4503599627370495 * 2 ^ 11 := Nat.mul_le_mul (by omega) this
        have := o.lo
        omega
      have hlt : ¬ -1085 ≤ e' := by omega
      have hlt2 : ¬ -1085 < e' := by omega
      have hz : (11 : Int) + (-1085 - e') = (s : Int) := by omega
      have hez : e' + (s : Int) = x := by omega
      by_cases hMM : M = 9223372036854775808
      · subst hMM
        have hmn3 : (9223372036854775808 : Int) - (a : Int) = (mn : Int) := hmn2
        have hmx3 : (9223372036854775808 : Int) + (a : Int) = (mx : Int) := hmx2
        have hsh3 : shrI .u64 9223372036854775808 (s : Int) = (mant : Int) := hsh
        simp -dsimp (discharger := omega) [fstC,sndC,B85,hlt,hlt2,hez,hz]
        refine call_ret r2 ?_
        simp -dsimp (discharger := omega) [l1,hsh3,hmn3,hmx3,hod,hconv,hpo]
        exact ts _ (by simp) (by simp) (by simp) (by simp) (by simp) (by simp)
      · have hMi : ¬ (M : Int) = 9223372036854775808 := by omega
        simp -dsimp (discharger := omega) [fstC,sndC,B85,hlt,hez,hz]
        refine call_ret r2 ?_
        simp -dsimp (discharger := omega) [l1,hsh,hmn2,hmx2,hod,hconv,hpo]
        exact ts _ (by simp) (by simp) (by simp) (by simp) (by simp) (by simp)
end
end Go.Proofs.YtkdpjaaohddppaaGreatDoor.Am
namespace Go.Proofs.YtkdpjaaohddppaaGreatDoor.Am
noncomputable section
/- CONTRACT: fmtEFG in the format f: its loops. -/
def dV (q L : Nat) : Value := .slice (some ⟨q,0,some L⟩) L 2
structure Ap (q : Nat) (h0 : AHeap) (n0 : Nat) (bs : List UInt8) (h : AHeap) (n : Nat) : Prop where
  sub : HSub (h0.put q (bufB bs 0)) h
  wf : WF h n
  le : n0 ≤ n
  lt : q < n0
theorem Ap.get {q n0 n : Nat} {h0 h : AHeap} {bs : List UInt8} (x : Ap q h0 n0 bs h n) : h.get q = some (bufB bs 0) := x.sub _ _ (by simp)
theorem Ap.next {q n0 n : Nat} {h0 h : AHeap} {bs bs' : List UInt8} (x : Ap q h0 n0 bs h n) {B : Blk} {H : AHeap} (hq : H.get q = some (bufB bs' 0)) (hH : ∀ i,¬ i = q → H.get i = (h.put n B).get i) : Ap q h0 n0 bs' H (n + 1) := by
  obtain ⟨s,w,l,t⟩ := x
  refine ⟨fun i b hb => ?_, .of fun j hj => ?_,by omega,t⟩
  · by_cases hi : i = q
    · subst hi; rw [AHeap.get_put,if_pos rfl] at hb; rw [hq]; exact hb
    · have hb2 := s i b (by rw [AHeap.get_put_ne _ _ (fun e => hi e.symm)] at hb ⊢; exact hb)
      rw [hH i hi]
      have hin : ¬ n = i := fun e => by rw [← e,w n (Nat.le_refl _)] at hb2; cases hb2
      rw [AHeap.get_put_ne _ _ hin]; exact hb2
  · rw [hH j (by omega),AHeap.get_put_ne _ _ (by omega)]
    exact w.none (by omega)
theorem append_bs {h : AHeap} {n q m len : Nat} {bs vs : List UInt8} {v : Value} (hq : h.get q = some (bufB bs m)) (hL : bs.length = len) (hm : m ≤ len) (hv : aElems h 1 v = some (vs.length,u8s vs)) (hlen : bs.length + vs.length < 1000000) {K : Option Value → AHeap → Nat → Prop} {t : Tok K}
    (hK : ∀ H : AHeap,H.get q = some (bufB (bs ++ vs) m) → (∀ i,¬ i = q → H.get i = h.get i) → K (some (.slice (some ⟨q,0,some (len + vs.length)⟩) (len + vs.length) 2)) H n) : Runs (aAppend h n 5 1 1 (.slice (some ⟨q,0,some len⟩) len 2) v) n K t := by
  cases vs with
  | nil =>
    have := hK h (by simpa using hq) (fun _ _ => rfl)
    simp at this
    simp [aAppend,hv]
    exact this
  | cons a vs =>
    refine append_cons hq hL hm hv rfl (by simp at hlen; omega) ?_
    have := hK (h.put q (bufB (bs ++ a :: vs) m)) (by simp) (fun i hi => by rw [AHeap.get_put_ne _ _ (fun e => hi e.symm)])
    simpa [Nat.add_assoc] using this
theorem one_elem {h : AHeap} {n : Nat} (c : UInt8) : aElems (h.put n (.cells (some 5) [.int .u8 (c.toNat : Int)] 1)) 1 (.slice (some ⟨n,0,some 1⟩) 1 2) = some ([c].length,u8s [c]) := by
  simp [aElems,u8s]
def Z2Inv (q nS : Nat) (bs : List UInt8) (cnt : Nat) (x2 x3 x4 x5 : Value) (h0 : AHeap) (n0 m : Nat) (σ : Fr) (h : AHeap) (n : Nat) : Prop :=
  ∃ i : Nat,i + m = cnt ∧ Ap q h0 n0 (bs ++ List.replicate i 48) h n ∧ n ≤ nS + i ∧ σ = [(0,dV q (bs.length + i)),(202, .int .i64 (cnt : Int)),(203, .int .i64 (i : Int)),(2,x2),(3,x3),(4,x4),(5,x5)]
def Z2Post (q nS : Nat) (bs : List UInt8) (cnt : Nat) (x2 x3 x4 x5 : Value) (h0 : AHeap) (n0 : Nat) (e : Ex) (σ' : Fr) (h' : AHeap) (n' : Nat) : Prop :=
  e = .exit 6 ∧ Ap q h0 n0 (bs ++ List.replicate cnt 48) h' n' ∧ n' ≤ nS + cnt ∧ σ'.get 0 = some (dV q (bs.length + cnt)) ∧ σ'.get 2 = some x2 ∧ σ'.get 3 = some x3 ∧ σ'.get 4 = some x4 ∧ σ'.get 5 = some x5
theorem z2_loop {q nS : Nat} {bs : List UInt8} (hbl : bs.length ≤ 10000) {cnt : Nat} (hc : cnt ≤ 10000) {x2 x3 x4 x5 : Value} {h0 : AHeap} {n0 : Nat} :
    ∀ (m : Nat) (σ : Fr) (h : AHeap) (n : Nat),Z2Inv q nS bs cnt x2 x3 x4 x5 h0 n0 m σ h n → HasCode EV61 (.loop F75L2) σ h n (Z2Post q nS bs cnt x2 x3 x4 x5 h0 n0) := by
  refine wx_inv _ fun m σ h n hI => ?_
  obtain ⟨i,him,hA,hn,rfl⟩ := hI
  have fin : ∀ {σ' : Fr},i = cnt → FSubL [(0,dV q (bs.length + i)),(2,x2),(3,x3),(4,x4),(5,x5)] σ' → Z2Post q nS bs cnt x2 x3 x4 x5 h0 n0 (.exit 6) σ' h n := by
    intro σ' e hs
    subst e
    refine ⟨rfl,hA,hn, ?_, ?_, ?_, ?_, ?_⟩ <;> exact FSub.ofL hs _ _ (by simp)
  by_cases hlt : i < cnt
  · have hg := hA.get
    have hrep : (bs ++ List.replicate i 48) ++ [48] = bs ++ List.replicate (i + 1) 48 := by rw [List.append_assoc,← List.replicate_succ']
    have step : ∀ {σ : Fr} {H : AHeap} {B : Blk} {tk : Tok (Z2Inv q nS bs cnt x2 x3 x4 x5 h0 n0)},H.get q = some (bufB ((bs ++ List.replicate i 48) ++ [48]) 0) → (∀ j,¬ j = q → H.get j = (h.put n B).get j) → FSubL [(0,dV q (bs.length + (i + 1))),(202, .int .i64 (cnt : Int)),(203, .int .i64 ((i + 1 : Nat) : Int)),(2,x2),(3,x3),(4,x4),(5,x5)] σ → Again (Z2Inv q nS bs cnt x2 x3 x4 x5 h0 n0) m σ H (n + 1) tk := fun e1 e2 hσ =>
      .mk' (m - 1) (by omega) _ _ hσ (.refl _) ⟨i + 1,by omega,by rw [← hrep]; exact hA.next e1 e2,by omega,rfl⟩
    have hlen : (bs ++ List.replicate i 48).length = bs.length + i := by simp
    have hqn : ¬ n = q := by have := hA.lt; have := hA.le; omega
    generalize bs ++ List.replicate i 48 = T at *
    have hz : ((48 : UInt8).toNat : Int) = 48 := rfl
    have hel := @one_elem h n 48
    rw [hz] at hel
    simp -dsimp (discharger := omega) [F75L2,hlt,aFill,repeatCells,dV]
    with_reducible refine append_bs (bs := T) (vs := [48]) (m := 0) (by simp (discharger := omega) [hg]) hlen (Nat.zero_le _) hel (by simp; omega) ?_
    intro H hH1 hH2
    simp -dsimp (discharger := omega) []
    exact step hH1 hH2 (by simp [dV]; omega)
  · have he : i = cnt := by omega
    subst he
    simp -dsimp (discharger := omega) [F75L2]
    exact fin rfl (by simp)
def Z3Inv (q nS : Nat) (bs : List UInt8) (cnt : Nat) (x2 x27 x28 x29 : Value) (h0 : AHeap) (n0 m : Nat) (σ : Fr) (h : AHeap) (n : Nat) : Prop :=
  ∃ i : Nat,i + m = cnt ∧ Ap q h0 n0 (bs ++ List.replicate i 48) h n ∧ n ≤ nS + i ∧ σ = [(0,dV q (bs.length + i)),(239, .int .i64 (cnt : Int)),(240, .int .i64 (i : Int)),(2,x2),(27,x27),(28,x28),(29,x29)]
def Z3Post (q nS : Nat) (bs : List UInt8) (cnt : Nat) (x2 x27 x28 x29 : Value) (h0 : AHeap) (n0 : Nat) (e : Ex) (σ' : Fr) (h' : AHeap) (n' : Nat) : Prop :=
  e = .exit 8 ∧ Ap q h0 n0 (bs ++ List.replicate cnt 48) h' n' ∧ n' ≤ nS + cnt ∧ σ'.get 0 = some (dV q (bs.length + cnt)) ∧ σ'.get 2 = some x2 ∧ σ'.get 27 = some x27 ∧ σ'.get 28 = some x28 ∧ σ'.get 29 = some x29
theorem z3_loop {q nS : Nat} {bs : List UInt8} (hbl : bs.length ≤ 10000) {cnt : Nat} (hc : cnt ≤ 10000) {x2 x27 x28 x29 : Value} {h0 : AHeap} {n0 : Nat} :
    ∀ (m : Nat) (σ : Fr) (h : AHeap) (n : Nat),Z3Inv q nS bs cnt x2 x27 x28 x29 h0 n0 m σ h n → HasCode EV61 (.loop F75L3) σ h n (Z3Post q nS bs cnt x2 x27 x28 x29 h0 n0) := by
  refine wx_inv _ fun m σ h n hI => ?_
  obtain ⟨i,him,hA,hn,rfl⟩ := hI
  have fin : ∀ {σ' : Fr},i = cnt → FSubL [(0,dV q (bs.length + i)),(2,x2),(27,x27),(28,x28),(29,x29)] σ' → Z3Post q nS bs cnt x2 x27 x28 x29 h0 n0 (.exit 8) σ' h n := by
    intro σ' e hs
    subst e
    refine ⟨rfl,hA,hn, ?_, ?_, ?_, ?_, ?_⟩ <;> exact FSub.ofL hs _ _ (by simp)
  by_cases hlt : i < cnt
  · have hg := hA.get
    have hrep : (bs ++ List.replicate i 48) ++ [48] = bs ++ List.replicate (i + 1) 48 := by rw [List.append_assoc,← List.replicate_succ']
    have step : ∀ {σ : Fr} {H : AHeap} {B : Blk} {tk : Tok (Z3Inv q nS bs cnt x2 x27 x28 x29 h0 n0)},H.get q = some (bufB ((bs ++ List.replicate i 48) ++ [48]) 0) → (∀ j,¬ j = q → H.get j = (h.put n B).get j) → FSubL [(0,dV q (bs.length + (i + 1))),(239, .int .i64 (cnt : Int)),(240, .int .i64 ((i + 1 : Nat) : Int)),(2,x2),(27,x27),(28,x28),(29,x29)] σ → Again (Z3Inv q nS bs cnt x2 x27 x28 x29 h0 n0) m σ H (n + 1) tk := fun e1 e2 hσ =>
      .mk' (m - 1) (by omega) _ _ hσ (.refl _) ⟨i + 1,by omega,by rw [← hrep]; exact hA.next e1 e2,by omega,rfl⟩
    have hlen : (bs ++ List.replicate i 48).length = bs.length + i := by simp
    have hqn : ¬ n = q := by have := hA.lt; have := hA.le; omega
    generalize bs ++ List.replicate i 48 = T at *
    have hz : ((48 : UInt8).toNat : Int) = 48 := rfl
    have hel := @one_elem h n 48
    rw [hz] at hel
    simp -dsimp (discharger := omega) [F75L3,hlt,aFill,repeatCells,dV]
    with_reducible refine append_bs (bs := T) (vs := [48]) (m := 0) (by simp (discharger := omega) [hg]) hlen (Nat.zero_le _) hel (by simp; omega) ?_
    intro H hH1 hH2
    simp -dsimp (discharger := omega) []
    exact step hH1 hH2 (by simp [dV]; omega)
  · have he : i = cnt := by omega
    subst he
    simp -dsimp (discharger := omega) [F75L3]
    exact fin rfl (by simp)
def Z5Inv (q nS : Nat) (bs : List UInt8) (cnt : Nat) (h0 : AHeap) (n0 m : Nat) (σ : Fr) (h : AHeap) (n : Nat) : Prop :=
  ∃ i : Nat,i + m = cnt ∧ Ap q h0 n0 (bs ++ List.replicate i 48) h n ∧ n ≤ nS + i ∧ σ = [(0,dV q (bs.length + i)),(260, .int .i64 (cnt : Int)),(261, .int .i64 (i : Int))]
def Z5Post (q nS : Nat) (bs : List UInt8) (cnt : Nat) (h0 : AHeap) (n0 : Nat) (e : Ex) (σ' : Fr) (h' : AHeap) (n' : Nat) : Prop :=
  e = .exit 12 ∧ Ap q h0 n0 (bs ++ List.replicate cnt 48) h' n' ∧ n' ≤ nS + cnt ∧ σ'.get 0 = some (dV q (bs.length + cnt))
theorem z5_loop {q nS : Nat} {bs : List UInt8} (hbl : bs.length ≤ 10000) {cnt : Nat} (hc : cnt ≤ 10000) {h0 : AHeap} {n0 : Nat} :
    ∀ (m : Nat) (σ : Fr) (h : AHeap) (n : Nat),Z5Inv q nS bs cnt  h0 n0 m σ h n → HasCode EV61 (.loop F75L5) σ h n (Z5Post q nS bs cnt  h0 n0) := by
  refine wx_inv _ fun m σ h n hI => ?_
  obtain ⟨i,him,hA,hn,rfl⟩ := hI
  have fin : ∀ {σ' : Fr},i = cnt → FSubL [(0,dV q (bs.length + i))] σ' → Z5Post q nS bs cnt  h0 n0 (.exit 12) σ' h n := by
    intro σ' e hs
    subst e
    refine ⟨rfl,hA,hn, ?_⟩ <;> exact FSub.ofL hs _ _ (by simp)
  by_cases hlt : i < cnt
  · have hg := hA.get
    have hrep : (bs ++ List.replicate i 48) ++ [48] = bs ++ List.replicate (i + 1) 48 := by rw [List.append_assoc,← List.replicate_succ']
    have step : ∀ {σ : Fr} {H : AHeap} {B : Blk} {tk : Tok (Z5Inv q nS bs cnt  h0 n0)},H.get q = some (bufB ((bs ++ List.replicate i 48) ++ [48]) 0) → (∀ j,¬ j = q → H.get j = (h.put n B).get j) → FSubL [(0,dV q (bs.length + (i + 1))),(260, .int .i64 (cnt : Int)),(261, .int .i64 ((i + 1 : Nat) : Int))] σ → Again (Z5Inv q nS bs cnt  h0 n0) m σ H (n + 1) tk := fun e1 e2 hσ =>
      .mk' (m - 1) (by omega) _ _ hσ (.refl _) ⟨i + 1,by omega,by rw [← hrep]; exact hA.next e1 e2,by omega,rfl⟩
    have hlen : (bs ++ List.replicate i 48).length = bs.length + i := by simp
    have hqn : ¬ n = q := by have := hA.lt; have := hA.le; omega
    generalize bs ++ List.replicate i 48 = T at *
    have hz : ((48 : UInt8).toNat : Int) = 48 := rfl
    have hel := @one_elem h n 48
    rw [hz] at hel
    simp -dsimp (discharger := omega) [F75L5,hlt,aFill,repeatCells,dV]
    with_reducible refine append_bs (bs := T) (vs := [48]) (m := 0) (by simp (discharger := omega) [hg]) hlen (Nat.zero_le _) hel (by simp; omega) ?_
    intro H hH1 hH2
    simp -dsimp (discharger := omega) []
    exact step hH1 hH2 (by simp [dV]; omega)
  · have he : i = cnt := by omega
    subst he
    simp -dsimp (discharger := omega) [F75L5]
    exact fin rfl (by simp)
end
end Go.Proofs.YtkdpjaaohddppaaGreatDoor.Am
namespace Go.Proofs.YtkdpjaaohddppaaGreatDoor.Am
noncomputable section
/- CONTRACT: fmtEFG in the format f: its loops over digits. -/
theorem Ap.at {q z n0 n : Nat} {h0 h : AHeap} {bs : List UInt8} {b : Blk} (x : Ap q h0 n0 bs h n) (hz : h0.get z = some b) (hzq : ¬ z = q) : h.get z = some b := x.sub _ _ (by rw [AHeap.get_put_ne _ _ (fun e => hzq e.symm)]; exact hz)
theorem dig_one {h : AHeap} {z i : Nat} {own : Option Nat} {l : List UInt8} (hl : l.length = 32) {c : UInt8} (hg : h.get z = some (.cells own (u8s l) 32)) (hc : l[i]? = some c) : h.read z 32 i 1 = some [.int .u8 (c.toNat : Int)] := by
  have hi := (List.getElem?_eq_some_iff.1 hc).1
  rw [AHeap.read_of hg]
  have h1 := take1_at (u8s_at hc)
  have hlen : (u8s l).length = 32 := by rw [u8s_len,hl]
  rw [hl] at hi
  simp (discharger := omega) [hlen,h1]
def Z1Inv (q z kk nS : Nat) (l bs : List UInt8) (cnt : Nat) (x2 x3 x4 x5 x23 : Value) (h0 : AHeap) (n0 m : Nat) (σ : Fr) (h : AHeap) (n : Nat) : Prop :=
  ∃ i : Nat,i + m = cnt ∧ Ap q h0 n0 (bs ++ (l.drop 0).take i) h n ∧ n ≤ nS + i ∧ σ = [(0,dV q (bs.length + i)),(189,(.slice (some ⟨z,0,some 32⟩) cnt kk)),(190, .int .i64 (cnt : Int)),(191, .int .i64 (i : Int)),(2,x2),(3,x3),(4,x4),(5,x5),(23,x23)]
def Z1Post (q _z _kk nS : Nat) (l bs : List UInt8) (cnt : Nat) (x2 x3 x4 x5 x23 : Value) (h0 : AHeap) (n0 : Nat) (e : Ex) (σ' : Fr) (h' : AHeap) (n' : Nat) : Prop :=
  e = .exit 4 ∧ Ap q h0 n0 (bs ++ (l.drop 0).take cnt) h' n' ∧ n' ≤ nS + cnt ∧ σ'.get 0 = some (dV q (bs.length + cnt)) ∧ σ'.get 2 = some x2 ∧ σ'.get 3 = some x3 ∧ σ'.get 4 = some x4 ∧ σ'.get 5 = some x5 ∧ σ'.get 23 = some x23
theorem z1_loop {q z kk nS : Nat} {l bs : List UInt8} (hl : l.length = 32) (hbl : bs.length ≤ 10000) {cnt : Nat} (hc : 0 + cnt ≤ 32) {x2 x3 x4 x5 x23 : Value} {h0 : AHeap} {own : Option Nat} (hz : h0.get z = some (.cells own (u8s l) 32)) (hzq : ¬ z = q) {n0 : Nat} :
    ∀ (m : Nat) (σ : Fr) (h : AHeap) (n : Nat),Z1Inv q z kk nS l bs cnt x2 x3 x4 x5 x23 h0 n0 m σ h n → HasCode EV61 (.loop F75L1) σ h n (Z1Post q z kk nS l bs cnt x2 x3 x4 x5 x23 h0 n0) := by
  refine wx_inv _ fun m σ h n hI => ?_
  obtain ⟨i,him,hA,hn,rfl⟩ := hI
  have fin : ∀ {σ' : Fr},i = cnt → FSubL [(0,dV q (bs.length + i)),(2,x2),(3,x3),(4,x4),(5,x5),(23,x23)] σ' → Z1Post q z kk nS l bs cnt x2 x3 x4 x5 x23 h0 n0 (.exit 4) σ' h n := by
    intro σ' e hs
    subst e
    refine ⟨rfl,hA,hn, ?_, ?_, ?_, ?_, ?_, ?_⟩ <;> exact FSub.ofL hs _ _ (by simp)
  by_cases hlt : i < cnt
  · have hg := hA.get
    have hgz := hA.at hz hzq
    have hzn : ¬ n = z := fun e => by rw [← e,hA.wf n (Nat.le_refl _)] at hgz; cases hgz
    obtain ⟨c,hcc⟩ : ∃ c,l[i]? = some c := ⟨_,List.getElem?_eq_getElem (by omega)⟩
    have hrd := dig_one hl hgz hcc
    have hrep : (bs ++ (l.drop 0).take i) ++ [c] = bs ++ (l.drop 0).take (i + 1) := by
      rw [List.append_assoc,List.take_add_one,List.getElem?_drop,show 0 + i = i by omega,hcc]; rfl
    have step : ∀ {σ : Fr} {H : AHeap} {B : Blk} {tk : Tok (Z1Inv q z kk nS l bs cnt x2 x3 x4 x5 x23 h0 n0)},H.get q = some (bufB ((bs ++ (l.drop 0).take i) ++ [c]) 0) → (∀ j,¬ j = q → H.get j = (h.put n B).get j) → FSubL [(0,dV q (bs.length + (i + 1))),(189,(.slice (some ⟨z,0,some 32⟩) cnt kk)),(190, .int .i64 (cnt : Int)),(191, .int .i64 ((i + 1 : Nat) : Int)),(2,x2),(3,x3),(4,x4),(5,x5),(23,x23)] σ → Again (Z1Inv q z kk nS l bs cnt x2 x3 x4 x5 x23 h0 n0) m σ H (n + 1) tk := fun e1 e2 hσ =>
      .mk' (m - 1) (by omega) _ _ hσ (.refl _) ⟨i + 1,by omega,by rw [← hrep]; exact hA.next e1 e2,by omega,rfl⟩
    have hlen : (bs ++ (l.drop 0).take i).length = bs.length + i := by
      rw [List.length_append,List.length_take,List.length_drop]; omega
    have hqn : ¬ n = q := by have := hA.lt; have := hA.le; omega
    generalize bs ++ (l.drop 0).take i = T at *
    have hel := @one_elem h n c
    
    simp -dsimp (discharger := omega) [F75L1,hlt,aFill,repeatCells,dV,hrd]
    with_reducible refine append_bs (bs := T) (vs := [c]) (m := 0) (by simp (discharger := omega) [hg]) hlen (Nat.zero_le _) hel (by simp; omega) ?_
    intro H hH1 hH2
    simp -dsimp (discharger := omega) []
    exact step hH1 hH2 (by simp [dV]; omega)
  · have he : i = cnt := by omega
    subst he
    simp -dsimp (discharger := omega) [F75L1]
    exact fin rfl (by simp)
def Z4Inv (q z kk nS : Nat) (l bs : List UInt8) (cnt : Nat) (o : Nat) (x29 : Value) (h0 : AHeap) (n0 m : Nat) (σ : Fr) (h : AHeap) (n : Nat) : Prop :=
  ∃ i : Nat,i + m = cnt ∧ Ap q h0 n0 (bs ++ (l.drop o).take i) h n ∧ n ≤ nS + i ∧ σ = [(0,dV q (bs.length + i)),(2,(.slice (some ⟨z,0,some 32⟩) 32 kk)),(246, .int .i64 (cnt : Int)),(247, .int .i64 (i : Int)),(27, .int .i64 (o : Int)),(29,x29)]
def Z4Post (q _z _kk nS : Nat) (l bs : List UInt8) (cnt : Nat) (o : Nat) (x29 : Value) (h0 : AHeap) (n0 : Nat) (e : Ex) (σ' : Fr) (h' : AHeap) (n' : Nat) : Prop :=
  e = .exit 10 ∧ Ap q h0 n0 (bs ++ (l.drop o).take cnt) h' n' ∧ n' ≤ nS + cnt ∧ σ'.get 0 = some (dV q (bs.length + cnt)) ∧ σ'.get 29 = some x29
theorem z4_loop {q z kk nS : Nat} {l bs : List UInt8} (hl : l.length = 32) (hbl : bs.length ≤ 10000) {o : Nat} {cnt : Nat} (hc : o + cnt ≤ 32) {x29 : Value} {h0 : AHeap} {own : Option Nat} (hz : h0.get z = some (.cells own (u8s l) 32)) (hzq : ¬ z = q) {n0 : Nat} :
    ∀ (m : Nat) (σ : Fr) (h : AHeap) (n : Nat),Z4Inv q z kk nS l bs cnt o x29 h0 n0 m σ h n → HasCode EV61 (.loop F75L4) σ h n (Z4Post q z kk nS l bs cnt o x29 h0 n0) := by
  refine wx_inv _ fun m σ h n hI => ?_
  obtain ⟨i,him,hA,hn,rfl⟩ := hI
  have fin : ∀ {σ' : Fr},i = cnt → FSubL [(0,dV q (bs.length + i)),(29,x29)] σ' → Z4Post q z kk nS l bs cnt o x29 h0 n0 (.exit 10) σ' h n := by
    intro σ' e hs
    subst e
    refine ⟨rfl,hA,hn, ?_, ?_⟩ <;> exact FSub.ofL hs _ _ (by simp)
  by_cases hlt : i < cnt
  · have hg := hA.get
    have hgz := hA.at hz hzq
    have hzn : ¬ n = z := fun e => by rw [← e,hA.wf n (Nat.le_refl _)] at hgz; cases hgz
    obtain ⟨c,hcc⟩ : ∃ c,l[o + i]? = some c := ⟨_,List.getElem?_eq_getElem (by omega)⟩
    have hrd := dig_one hl hgz hcc
    have hrep : (bs ++ (l.drop o).take i) ++ [c] = bs ++ (l.drop o).take (i + 1) := by
      rw [List.append_assoc,List.take_add_one,List.getElem?_drop,show o + i = o + i by omega,hcc]; rfl
    have step : ∀ {σ : Fr} {H : AHeap} {B : Blk} {tk : Tok (Z4Inv q z kk nS l bs cnt o x29 h0 n0)},H.get q = some (bufB ((bs ++ (l.drop o).take i) ++ [c]) 0) → (∀ j,¬ j = q → H.get j = (h.put n B).get j) → FSubL [(0,dV q (bs.length + (i + 1))),(2,(.slice (some ⟨z,0,some 32⟩) 32 kk)),(246, .int .i64 (cnt : Int)),(247, .int .i64 ((i + 1 : Nat) : Int)),(27, .int .i64 (o : Int)),(29,x29)] σ → Again (Z4Inv q z kk nS l bs cnt o x29 h0 n0) m σ H (n + 1) tk := fun e1 e2 hσ =>
      .mk' (m - 1) (by omega) _ _ hσ (.refl _) ⟨i + 1,by omega,by rw [← hrep]; exact hA.next e1 e2,by omega,rfl⟩
    have hlen : (bs ++ (l.drop o).take i).length = bs.length + i := by
      rw [List.length_append,List.length_take,List.length_drop]; omega
    have hqn : ¬ n = q := by have := hA.lt; have := hA.le; omega
    generalize bs ++ (l.drop o).take i = T at *
    have hel := @one_elem h n c
    have hti : ((o : Int) + (i : Int)).toNat = o + i := by omega
    simp -dsimp (discharger := omega) [F75L4,hlt,aFill,repeatCells,dV,hrd,hti]
    with_reducible refine append_bs (bs := T) (vs := [c]) (m := 0) (by simp (discharger := omega) [hg]) hlen (Nat.zero_le _) hel (by simp; omega) ?_
    intro H hH1 hH2
    simp -dsimp (discharger := omega) []
    exact step hH1 hH2 (by simp [dV]; omega)
  · have he : i = cnt := by omega
    subst he
    simp -dsimp (discharger := omega) [F75L4]
    exact fin rfl (by simp)
end
end Go.Proofs.YtkdpjaaohddppaaGreatDoor.Am
namespace Go.Proofs.YtkdpjaaohddppaaGreatDoor.Am
noncomputable section
/- CONTRACT: fmtEFG in the format f. -/
def thenC : ACode → ACode
  | .cond _ a _ => a
  | c => c
def elsC : ACode → ACode
  | .cond _ _ b => b
  | c => c
def blkC : ACode → ACode
  | .block _ c => c
  | c => c
def sw75 : ACode := fstC (sndC (sndC B75))
def c75 : ACode := sndC (blkC (sndC sw75))
def e75 : ACode := elsC c75
def f75 : ACode := thenC (sndC e75)
def frac75 : ACode := sndC (sndC f75)
theorem B75_eq : B75 = .seq (fstC B75) (.seq (fstC (sndC B75)) (.seq (.seq (fstC sw75) (.block 0 (.seq (fstC (blkC (sndC sw75))) (.cond (.t 75) (thenC c75) (.seq (fstC e75) (.cond (.t 176) (.seq (fstC f75) (.seq (fstC (sndC f75)) frac75)) (elsC (sndC e75)))))))) (sndC (sndC (sndC B75))))) := rfl
def fracL (ds : List UInt8) (dp : Int) : List UInt8 := if dp < (ds.length : Int) then 46 :: (List.replicate (-dp).toNat 48 ++ ds.drop dp.toNat) else []
def intL (ds : List UInt8) (dp : Int) : List UInt8 := if 0 < dp then ds.take dp.toNat ++ List.replicate (dp.toNat - ds.length) 48 else [48]
theorem frac_walk {q z kk : Nat} {l bs : List UInt8} (hl : l.length = 32) (hbl : bs.length ≤ 5000) {nd : Nat} (hnd : nd ≤ 32) {dp : Int} (hd0 : -500 ≤ dp) (hd1 : dp ≤ 500) {h0 : AHeap} {own : Option Nat} (hz : h0.get z = some (.cells own (u8s l) 32)) (hzq : ¬ z = q) {n0 : Nat} {σ : Fr} {h : AHeap} {n : Nat} (hA : Ap q h0 n0 bs h n) {prec : Int} (hp : prec ≤ 0 ∧ (nd : Int) ≤ dp ∨ prec = (nd : Int) - dp)
    (s0 : σ.get 0 = some (dV q bs.length)) (s2 : σ.get 2 = some (.slice (some ⟨z,0,some 32⟩) 32 kk)) (s3 : σ.get 3 = some (.int .i64 dp)) (s4 : σ.get 4 = some (.int .i64 (nd : Int))) (s5 : σ.get 5 = some (.int .i64 prec))
    {Q : Ex → Fr → AHeap → Nat → Prop} {tk : Tok Q} (hQ : ∀ σ' h' n',Ap q h0 n0 (bs ++ fracL (l.take nd) dp) h' n' → n' ≤ n + 700 → σ'.get 16 = some (dV q (bs ++ fracL (l.take nd) dp).length) → Q .ret σ' h' n') : wx EV61 frac75 σ h n Q tk := by
  have hlt : (l.take nd).length = nd := by rw [List.length_take]; omega
  unfold fracL at hQ
  rw [hlt] at hQ
  by_cases hp0 : prec ≤ 0
  · rw [if_neg (by omega),List.append_nil] at hQ
    have hp1 : ¬ (0 < prec) := by omega
    simp -dsimp (discharger := omega) [frac75,sndC,f75,thenC,e75,elsC,c75,blkC,sw75,fstC,B75,s0,s5,hp1]
    exact hQ _ _ _ hA (by omega) (by simp [])
  · have hpe : prec = (nd : Int) - dp := by omega
    rw [if_pos (by omega)] at hQ
    have hp1 : 0 < prec := by omega
    have hgq := hA.get
    have hqn : ¬ n = q := by have := hA.lt; have := hA.le; omega
    have hel := @one_elem h n 46
    have hz46 : ((46 : UInt8).toNat : Int) = 46 := rfl
    rw [hz46] at hel
    obtain ⟨lz,hlz⟩ : ∃ lz : Nat,lz = (-dp).toNat := ⟨_,rfl⟩
    obtain ⟨off,hoff⟩ : ∃ off : Nat,off = dp.toNat := ⟨_,rfl⟩
    rw [← hlz,← hoff] at hQ
    have hbl2 : (bs ++ [46]).length = bs.length + 1 := by simp
    simp -dsimp (discharger := omega) [frac75,sndC,f75,thenC,e75,elsC,c75,blkC,sw75,fstC,B75,s0,s5,hp1,aFill,repeatCells,dV]
    with_reducible refine append_bs (bs := bs) (vs := [46]) (m := 0) (by simp (discharger := omega) [hgq]) rfl (Nat.zero_le _) hel (by simp; omega) ?_
    intro H hH1 hH2
    have hA1 : Ap q h0 n0 (bs ++ [46]) H (n + 1) := hA.next hH1 hH2
    simp -dsimp (discharger := omega) [s3,s4,s5]
    have eLZ : (if (if dp < 0 then -dp else 0) < prec then if dp < 0 then -dp else 0 else prec) = (lz : Int) := by
      have key : ∀ a : Int,(a = if dp < 0 then -dp else 0) → (if a < prec then a else prec) = (lz : Int) := by
        intro a ha
        split at ha <;> split <;> omega
      exact key _ rfl
    have eOff : dp + (lz : Int) = (off : Int) := by omega
    obtain ⟨cnt,hcnt⟩ : ∃ cnt : Nat,cnt = nd - off := ⟨_,rfl⟩
    have eCnt : prec - (lz : Int) = (cnt : Int) := by omega
    rw [eLZ,eOff,eCnt]
    refine loop_use (z3_loop (q := q) (nS := n + 1) (bs := bs ++ [46]) (by omega) (cnt := lz) (by omega) (x2 := .slice (some ⟨z,0,some 32⟩) 32 kk) (x27 := .int .i64 (off : Int)) (x28 := .int .i64 (cnt : Int)) (x29 := .int .i64 0) (h0 := h0) (n0 := n0) lz _ _ _ ⟨0,by omega,by simpa using hA1,by omega,rfl⟩) (by simp [dV,s2]) (.refl _) ?_
    rintro e σ' h' n' ⟨rfl,hA2,hn2,t0,t2,t27,t28,t29⟩
    simp -dsimp (discharger := omega) [t28]
    refine loop_use (z4_loop (q := q) (z := z) (kk := kk) (nS := n') (l := l) (bs := (bs ++ [46]) ++ List.replicate lz 48) hl (by rw [List.length_append,List.length_replicate]; omega) (o := off) (cnt := cnt) (by omega) (x29 := .int .i64 0) (h0 := h0) (own := own) hz hzq (n0 := n0) cnt _ _ _ ⟨0,by omega,by simpa using hA2,by omega,rfl⟩) (by simp [t0,t2,t27,t29,dV]; omega) (.refl _) ?_
    rintro e σ2 h2 n2 ⟨rfl,hA3,hn3,u0,u29⟩
    simp -dsimp (discharger := omega) [u29]
    refine loop_use (z5_loop (q := q) (nS := n2) (bs := ((bs ++ [46]) ++ List.replicate lz 48) ++ (l.drop off).take cnt) (by rw [List.length_append,List.length_append,List.length_replicate,List.length_take]; omega) (cnt := 0) (by omega) (h0 := h0) (n0 := n0) 0 _ _ _ ⟨0,by omega,by simpa using hA3,by omega,rfl⟩) (by simp [u0,dV]; omega) (.refl _) ?_
    rintro e σ3 h3 n3 ⟨rfl,hA4,hn4,v0⟩
    simp -dsimp (discharger := omega) [v0]
    have hT : bs ++ 46 :: (List.replicate lz 48 ++ List.drop off (List.take nd l)) = ((bs ++ [46]) ++ List.replicate lz 48) ++ (l.drop off).take cnt ++ List.replicate 0 48 := by
      rw [List.drop_take,hcnt]; simp
    rw [hT] at hQ
    refine hQ _ _ _ hA4 (by omega) ?_
    simp []
    rw [Nat.min_eq_left (by omega)]
def flT (ds : List UInt8) (dp : Int) : List UInt8 := intL ds dp ++ fracL ds dp
set_option maxHeartbeats 1000000 in
theorem fmt_ret {q z kk : Nat} {l : List UInt8} (hl : l.length = 32) {nd : Nat} (hnd : nd ≤ 32) {dp : Int} (hd0 : -500 ≤ dp) (hd1 : dp ≤ 500) {h : AHeap} {own : Option Nat} (hz : h.get z = some (.cells own (u8s l) 32)) (hzq : ¬ z = q) {n : Nat} (hw : WF h n) (hq : h.get q = some (bufB [] 0)) {prec : Int} (hp : prec ≤ 0 ∧ (nd : Int) ≤ dp ∨ prec = (nd : Int) - dp) :
    Ret EV61 75 [dV q 0, .bool false, .slice (some ⟨z,0,some 32⟩) 32 kk, .int .i64 dp, .int .i64 (nd : Int), .int .i64 prec, .int .u8 102, .bool true] h n (dV q (flT (l.take nd) dp).length) [(q,bufB (flT (l.take nd) dp) 0)] (n + 2000) := by
  refine rsx75 (by simp) (by simp [hq]) ?_
  have hlt : (l.take nd).length = nd := by rw [List.length_take]; omega
  have hqn : q < n := hw.lt hq
  have hA : Ap q h n [] h n := ⟨fun i b hb => by
    by_cases hi : i = q
    · subst hi; rw [AHeap.get_put,if_pos rfl] at hb; rw [hq]; exact hb
    · rw [AHeap.get_put_ne _ _ (fun e => hi e.symm)] at hb; exact hb,hw,Nat.le_refl _,hqn⟩
  have fw := fun (bs : List UInt8) (hbl : bs.length ≤ 5000) (σ : Fr) (h' : AHeap) (n' : Nat) (hA' : Ap q h n bs h' n') => frac_walk (q := q) (z := z) (kk := kk) hl hbl hnd hd0 hd1 hz hzq (n0 := n) (σ := σ) (h := h') (n := n') hA' hp
  rw [B75_eq]
  by_cases hdp : 0 < dp
  · obtain ⟨D,hD⟩ : ∃ D : Nat,dp = (D : Int) := ⟨dp.toNat,by omega⟩
    obtain ⟨m,hm⟩ : ∃ m : Nat,m = min nd D := ⟨_,rfl⟩
    have eM : (if dp < (nd : Int) then dp else (nd : Int)) = (m : Int) := by split <;> omega
    have eM2 : (if (nd : Int) < dp then (nd : Int) else dp) = (m : Int) := by split <;> omega
    have eC : dp - (m : Int) = ((D - m : Nat) : Int) := by omega
    have hI : intL (l.take nd) dp = ([] ++ (l.drop 0).take m) ++ List.replicate (D - m) 48 := by
      unfold intL
      rw [if_pos hdp,hlt,List.take_take,List.drop_zero,List.nil_append,show dp.toNat = D by omega]
      congr 1
      · congr 1; omega
      · congr 1; omega
    simp -dsimp (discharger := omega) [fstC,sndC,B75,f75,thenC,e75,elsC,c75,blkC,sw75,hdp,dV]
    have eMx : max (m : Int) 0 = (m : Int) := by omega
    have eMn : ((m : Int)).toNat = m := by omega
    rw [eM,eMx,eMn]
    generalize (if kk % 2 = 1 then kk else if kk = 2 then kk else 0) = k2
    refine loop_use (z1_loop (q := q) (z := z) (kk := k2) (nS := n) (l := l) (bs := []) hl (by simp) (cnt := m) (by omega) (x2 := .slice (some ⟨z,0,some 32⟩) 32 kk) (x3 := .int .i64 dp) (x4 := .int .i64 (nd : Int)) (x5 := .int .i64 prec) (x23 := .int .i64 (m : Int)) (h0 := h) (own := own) hz hzq (n0 := n) m _ _ _ ⟨0,by omega,by simpa using hA,by omega,rfl⟩) (by simp [dV]) (.refl _) ?_
    rintro e σ1 h1 n1 ⟨rfl,hA1,hn1,t0,t2,t3,t4,t5,t23⟩
    simp -dsimp (discharger := omega) [t3,t23,eC]
    refine loop_use (z2_loop (q := q) (nS := n1) (bs := [] ++ (l.drop 0).take m) (by rw [List.nil_append,List.length_take,List.length_drop]; omega) (cnt := D - m) (by omega) (x2 := .slice (some ⟨z,0,some 32⟩) 32 kk) (x3 := .int .i64 dp) (x4 := .int .i64 (nd : Int)) (x5 := .int .i64 prec) (h0 := h) (n0 := n) (D - m) _ _ _ ⟨0,by omega,by simpa using hA1,by omega,rfl⟩) (by simp [t0,t2,t3,t4,t5,dV,hl]; omega) (.refl _) ?_
    rintro e σ2 h2 n2 ⟨rfl,hA2,hn2,u0,u2,u3,u4,u5⟩
    rw [← hI] at hA2
    have hlI : (intL (l.take nd) dp).length = m + (D - m) := by
      rw [hI,List.length_append,List.length_append,List.length_replicate,List.length_take,List.length_drop]; simp; omega
    simp -dsimp (discharger := omega) []
    refine fw (intL (l.take nd) dp) (by omega) _ _ _ hA2 ?_ (by simp [u2]) (by simp [u3]) (by simp [u4]) (by simp [u5]) ?_
    · rw [hlI]; simp [u0]; congr 1; omega
    · intro σ' h' n' hA3 hn3 w16
      simp -dsimp (discharger := omega) [w16]
      exact ⟨by rw [flT,List.length_append],hA3.sub,by omega⟩
  · have hI : intL (l.take nd) dp = [48] := by unfold intL; rw [if_neg hdp]
    have hel := @one_elem h n 48
    have hz48 : ((48 : UInt8).toNat : Int) = 48 := rfl
    rw [hz48] at hel
    simp -dsimp (discharger := omega) [fstC,sndC,B75,f75,thenC,e75,elsC,c75,blkC,sw75,hdp,dV,aFill,repeatCells]
    with_reducible refine append_bs (q := q) (len := 0) (bs := []) (vs := [48]) (m := 0) (by rw [AHeap.get_put_ne _ _ (by omega)]; exact hq) rfl (Nat.zero_le _) hel (by simp) ?_
    intro H hH1 hH2
    have hA1 : Ap q h n ([] ++ [48]) H (n + 1) := hA.next hH1 hH2
    rw [List.nil_append,← hI] at hA1
    simp -dsimp (discharger := omega) []
    refine fw (intL (l.take nd) dp) (by rw [hI]; decide) _ _ _ hA1 ?_ (by simp) (by simp) (by simp) (by simp) ?_
    · rw [hI]; rfl
    · intro σ' h' n' hA3 hn3 w16
      simp -dsimp (discharger := omega) [w16]
      exact ⟨by rw [flT,List.length_append],hA3.sub,by omega⟩
end
end Go.Proofs.YtkdpjaaohddppaaGreatDoor.Am
namespace Go.Proofs.YtkdpjaaohddppaaGreatDoor.Am
noncomputable section
/- CONTRACT: setDigits. -/
def nzc (l : List UInt8) : Nat → Nat
  | 0 => 0
  | k + 1 => if l[k]? = some 48 then nzc l k else k + 1
theorem nzc_le (l : List UInt8) : ∀ k,nzc l k ≤ k
  | 0 => Nat.le_refl _
  | k + 1 => by
    unfold nzc
    split
    · have := nzc_le l k; omega
    · omega
def SdInv (z kk : Nat) (l : List UInt8) (nd : Nat) (dp : Int) (h0 : AHeap) (n0 m : Nat) (σ : Fr) (h : AHeap) (n : Nat) : Prop :=
  n = n0 ∧ h = h0 ∧ m ≤ nd ∧ nzc l m = nzc l nd ∧ σ = [(0, .slice (some ⟨z,0,some 32⟩) 32 kk),(3, .int .i64 (m : Int)),(8, .int .i64 dp)]
def SdPost (l : List UInt8) (nd : Nat) (dp : Int) (h0 : AHeap) (n0 : Nat) (e : Ex) (σ' : Fr) (h' : AHeap) (n' : Nat) : Prop :=
  e = .exit 0 ∧ n' = n0 ∧ h' = h0 ∧ σ'.get 3 = some (.int .i64 ((nzc l nd : Nat) : Int)) ∧ σ'.get 8 = some (.int .i64 dp)
theorem sd_loop {z kk : Nat} {l : List UInt8} (hl : l.length = 32) {nd : Nat} (hnd : nd ≤ 32) {dp : Int} {h0 : AHeap} {own : Option Nat} (hz : h0.get z = some (.cells own (u8s l) 32)) {n0 : Nat} :
    ∀ (m : Nat) (σ : Fr) (h : AHeap) (n : Nat),SdInv z kk l nd dp h0 n0 m σ h n → HasCode EV61 (.loop F78L0) σ h n (SdPost l nd dp h0 n0) := by
  refine wx_inv _ fun m σ h n hI => ?_
  obtain ⟨rfl,rfl,hm,hz2,rfl⟩ := hI
  cases m with
  | zero =>
    have e0 : nzc l nd = 0 := hz2.symm
    have fin : ∀ {σ' : Fr}, σ'.get 3 = some (.int .i64 0) → σ'.get 8 = some (.int .i64 dp) → SdPost l nd dp h n (.exit 0) σ' h n := fun a b => ⟨rfl,rfl,rfl,by rw [e0]; exact a,b⟩
    simp -dsimp (discharger := omega) [F78L0]
    exact fin (by simp) (by simp)
  | succ m =>
    obtain ⟨c,hc⟩ : ∃ c,l[m]? = some c := ⟨_,List.getElem?_eq_getElem (by omega)⟩
    have hrd := dig_one hl hz hc
    rw [show nzc l (m + 1) = if l[m]? = some 48 then nzc l m else m + 1 from rfl,hc] at hz2
    have hti : ((m : Int) + 1 - 1).toNat = m := by omega
    have hti2 : (m : Int) + 1 - 1 = (m : Int) := by omega
    by_cases h48 : c = 48
    · subst h48
      rw [if_pos rfl] at hz2
      have hz48 : ((48 : UInt8).toNat : Int) = 48 := rfl
      rw [hz48] at hrd
      have fin : ∀ {σ' : Fr} {tk : Tok (SdInv z kk l nd dp h n)},FSubL [(0, .slice (some ⟨z,0,some 32⟩) 32 kk),(3, .int .i64 (m : Int)),(8, .int .i64 dp)] σ' → Again (SdInv z kk l nd dp h n) (m + 1) σ' h n tk := fun hs => .mk' m (by omega) _ _ hs (.refl _) ⟨rfl,rfl,by omega,hz2,rfl⟩
      simp -dsimp (discharger := omega) [F78L0,hrd,hti2]
      exact fin (by simp)
    · rw [if_neg (by simpa using h48)] at hz2
      have hcn : ¬ (c.toNat : Int) = 48 := fun e => h48 (UInt8.toNat_inj.1 (by have : c.toNat = 48 := by omega
                                                                               exact this))
      have fin : ∀ {σ' : Fr}, σ'.get 3 = some (.int .i64 ((m : Int) + 1)) → σ'.get 8 = some (.int .i64 dp) → SdPost l nd dp h n (.exit 0) σ' h n := fun a b => ⟨rfl,rfl,rfl,by rw [← hz2]; exact a,b⟩
      simp -dsimp (discharger := omega) [F78L0,hrd,hti2]
      exact fin (by simp) (by simp)
theorem set_core {z ty kk : Nat} {d : Nat} (_hd0 : d ≠ 0) (hd : d < 1000000000000000000) {p : Int} (hp0 : -1000 ≤ p) (hp1 : p ≤ 1000) {l0 : List UInt8} (hl0 : l0.length = 32) {h : AHeap} {n : Nat} (hz0 : h.get z = some (.cells (some ty) (u8s l0) 32)) (hz : z < n) {Q : Value → AHeap → Nat → Prop}
    (kk' : ∀ (l' : List UInt8) (h' : AHeap),l'.length = 32 → l'.take (ndig d) = dgs (ndig d) d → FH ty z h l' h' → Q (.tuple #[.int .i64 ((ndig d : Nat) + p), .int .i64 ((nzc l' (ndig d) : Nat) : Int)]) h' n) :
    wx EV61 B78 [(0, .slice (some ⟨z,0,some 32⟩) 32 kk),(1, .int .u64 (d : Int)),(2, .int .i64 p),(3, .int .i64 ((ndig d : Nat) : Int))] h n (Done [.tmp 8, .tmp 9] Q) () := by
  have hdn := (ndig_bounds d).1
  have hnd : ndig d ≤ 32 := by
    refine Nat.le_of_not_lt fun hlt => ?_
    rcases (ndig_bounds d).2 with h1 | h1
    · omega
    · have : 10 ^ 32 ≤ 10 ^ (ndig d - 1) := Nat.pow_le_pow_right (by decide) (by omega)
      have h2 : (10 : Nat) ^ 32 = 100000000000000000000000000000000 := by decide
      omega
  generalize ndig d = N at *
  simp -dsimp (discharger := omega) [B78]
  refine fmt_call (z := z) (o := 0) (N := N) (by omega) hdn (by omega) hl0 hz0 hz fun l' h' hl' hd' hF => ?_
  simp -dsimp (discharger := omega) []
  refine loop_use (sd_loop (z := z) (kk := kk) hl' hnd (dp := (N : Int) + p) (own := some ty) hF.2 (n0 := n) N _ _ _ ⟨rfl,rfl,Nat.le_refl _,rfl,rfl⟩) (by simp) (.refl _) ?_
  rintro e σ' h2 n2 ⟨rfl,rfl,rfl,t3,t8⟩
  simp -dsimp (discharger := omega) [t3,t8]
  exact kk' l' _ hl' (by simpa using hd') hF
end
end Go.Proofs.YtkdpjaaohddppaaGreatDoor.Am
namespace Go.Proofs.YtkdpjaaohddppaaGreatDoor.Am
noncomputable section
/- CONTRACT: ftoa64,FormatFloat in the format f,as few digits as tell the number. -/
theorem tobits61_ret (m : Nat) (h : AHeap) (n : Nat) : Ret EV61 72 [.float .f64 m] h n (.int .u64 (m : Int)) [] n := orc_ret (fs := fs61) (ps := ps61) (l := []) (by simp [primOrc,ps61,lookF,Prim.ev,putsL]) (Nat.le_refl _) (by simp) (by simp)
theorem fmt0_ret {q : Nat} {h : AHeap} {n : Nat} (hw : WF h n) (hq : h.get q = some (bufB [] 0)) :
    Ret EV61 75 [dV q 0, .bool false, .slice none 0 0, .int .i64 0, .int .i64 0, .int .i64 (-1), .int .u8 102, .bool true] h n (dV q 1) [(q,bufB [48] 0)] (n + 2000) := by
  refine rsx75 (by simp) (by simp [hq]) ?_
  have hqn : q < n := hw.lt hq
  have hel := @one_elem h n 48
  have hz48 : ((48 : UInt8).toNat : Int) = 48 := rfl
  rw [hz48] at hel
  rw [B75_eq]
  simp -dsimp (discharger := omega) [fstC,sndC,B75,f75,thenC,e75,elsC,c75,blkC,sw75,frac75,dV,aFill,repeatCells]
  with_reducible refine append_bs (q := q) (len := 0) (bs := []) (vs := [48]) (m := 0) (by rw [AHeap.get_put_ne _ _ (by omega)]; exact hq) rfl (Nat.zero_le _) hel (by simp) ?_
  intro H hH1 hH2
  have hA : Ap q h n [] h n := ⟨fun i b hb => by
    by_cases hi : i = q
    · subst hi; rw [AHeap.get_put,if_pos rfl] at hb; rw [hq]; exact hb
    · rw [AHeap.get_put_ne _ _ (fun e => hi e.symm)] at hb; exact hb,hw,Nat.le_refl _,hqn⟩
  have hA1 : Ap q h n ([] ++ [48]) H (n + 1) := hA.next hH1 hH2
  simp -dsimp (discharger := omega) []
  exact ⟨rfl,hA1.sub⟩
def mantB (b : Nat) : Nat := if b / 4503599627370496 = 0 then b else b % 4503599627370496 + 4503599627370496
def expB (b : Nat) : Int := if b / 4503599627370496 = 0 then -1074 else (b / 4503599627370496 : Nat) - 1075
def shB (b : Nat) : Nat := 64 - len64 (mantB b)
theorem mok_of {b : Nat} (h0 : b ≠ 0) (hb : b < 9218868437227405312) : MOk (mantB b) (shB b) (expB b) := by
  have hm : 1 ≤ mantB b ∧ mantB b < 9007199254740992 := by unfold mantB; split <;> omega
  obtain ⟨k,hk,h1,h2⟩ := len64_bounds (x := mantB b) (by omega)
  have hk53 : k ≤ 52 := by
    refine Nat.le_of_not_lt fun hlt => ?_
    have : 2 ^ 53 ≤ 2 ^ k := Nat.pow_le_pow_right (by decide) hlt
    have h3 : (2 : Nat) ^ 53 = 9007199254740992 := by decide
    omega
  have hs : shB b = 63 - k := by unfold shB; rw [hk]; omega
  have e1 : 2 ^ k * 2 ^ (63 - k) = 9223372036854775808 := by rw [← Nat.pow_add,show k + (63 - k) = 63 by omega]
  have e2 : 2 ^ (k + 1) * 2 ^ (63 - k) = 18446744073709551616 := by rw [← Nat.pow_add,show k + 1 + (63 - k) = 64 by omega]
  refine ⟨?_, ?_,by omega,by omega,hm.1,hm.2, ?_, ?_, ?_⟩
  · rw [hs,← e1]; exact Nat.mul_le_mul_right _ h1
  · rw [hs,← e2]; exact Nat.mul_lt_mul_of_pos_right h2 (Nat.two_pow_pos _)
  · unfold expB; split <;> omega
  · unfold expB; split <;> omega
  · unfold mantB expB; split <;> omega
theorem nzc_take {l : List UInt8} : ∀ {k m : Nat},k ≤ m → nzc (l.take m) k = nzc l k
  | 0,_,_ => rfl
  | k + 1,m,h => by
    have ih := nzc_take (l := l) (k := k) (m := m) (Nat.le_of_succ_le h)
    show (if (l.take m)[k]? = some 48 then nzc (l.take m) k else k + 1) = (if l[k]? = some 48 then nzc l k else k + 1)
    rw [List.getElem?_take,if_pos (show k < m by omega),ih]
theorem setd_ret {z ty kk : Nat} {d : Nat} (hd0 : d ≠ 0) (hd : d < 1000000000000000000) {p : Int} (hp0 : -1000 ≤ p) (hp1 : p ≤ 1000) {l0 : List UInt8} (hl0 : l0.length = 32) {h : AHeap} {n : Nat} (hz0 : h.get z = some (.cells (some ty) (u8s l0) 32)) (hz : z < n) :
    ∃ l' : List UInt8,l'.length = 32 ∧ l'.take (ndig d) = dgs (ndig d) d ∧ Ret EV61 78 [.slice (some ⟨z,0,some 32⟩) 32 kk, .int .u64 (d : Int), .int .i64 p, .int .i64 ((ndig d : Nat) : Int)] h n (.tuple #[.int .i64 ((ndig d : Nat) + p), .int .i64 ((nzc (dgs (ndig d) d) (ndig d) : Nat) : Int)]) [(z, .cells (some ty) (u8s l') 32)] n := by
  obtain ⟨v,l,n',⟨l',a1,a2,rfl,rfl,rfl⟩,hR⟩ := wret_exL (E := EV61) (f := 78) (af := F78) (args := [.slice (some ⟨z,0,some 32⟩) 32 kk, .int .u64 (d : Int), .int .i64 p, .int .i64 ((ndig d : Nat) : Int)]) (h := h) (n := n)
    (P := fun v l n' => ∃ l' : List UInt8,l'.length = 32 ∧ l'.take (ndig d) = dgs (ndig d) d ∧ v = .tuple #[.int .i64 ((ndig d : Nat) + p), .int .i64 ((nzc (dgs (ndig d) d) (ndig d) : Nat) : Int)] ∧ l = [(z, .cells (some ty) (u8s l') 32)] ∧ n' = n) rfl (by simp [F78])
    (set_core hd0 hd hp0 hp1 hl0 hz0 hz fun l' h' a1 a2 a3 => ⟨[(z, .cells (some ty) (u8s l') 32)],⟨l',a1,a2,by rw [← a2,nzc_take (Nat.le_refl _)],rfl,rfl⟩,by simp,by simp [hz0],fun i b hb => by
      change (h.put z (.cells (some ty) (u8s l') 32)).get i = some b at hb
      by_cases hi : i = z
      · subst hi; rw [AHeap.get_put,if_pos rfl] at hb; rw [a3.2]; exact hb
      · rw [AHeap.get_put_ne _ _ (fun e => hi e.symm)] at hb; rw [a3.1 i hi]; exact hb⟩)
  exact ⟨l',a1,a2,hR⟩
def digD (d : Nat) : List UInt8 := (dgs (ndig d) d).take (nzc (dgs (ndig d) d) (ndig d))
structure Ft (h : AHeap) : Prop where
  pow : HasPow h
  tab : Pow10E h
theorem Ft.sub {h h' : AHeap} (x : Ft h) (hs : HSub h h') : Ft h' := ⟨x.pow.sub hs,x.tab.sub hs⟩
def tail56 : ACode := (sndC (sndC (sndC (sndC (sndC (sndC (sndC (sndC (sndC B56)))))))))
theorem B56_eq : B56 = .seq (fstC B56) (.seq (fstC (sndC B56)) (.seq (fstC (sndC (sndC B56))) (.seq (fstC (sndC (sndC (sndC B56)))) (.seq (fstC (sndC (sndC (sndC (sndC B56))))) (.seq (fstC (sndC (sndC (sndC (sndC (sndC B56)))))) (.seq (fstC (sndC (sndC (sndC (sndC (sndC (sndC B56))))))) (.seq (fstC (sndC (sndC (sndC (sndC (sndC (sndC (sndC B56)))))))) (.seq (fstC (sndC (sndC (sndC (sndC (sndC (sndC (sndC (sndC B56))))))))) (tail56))))))))) := rfl
theorem shl64 {m s : Nat} (h : m * 2 ^ s < 18446744073709551616) (hs : s ≤ 63) : shlI .u64 (m : Int) (s : Int) = ((m * 2 ^ s : Nat) : Int) := by
  unfold shlI
  rw [show min (s : Int).toNat IntKind.u64.bits = s from by show min (s : Int).toNat 64 = s; rw [Int.toNat_natCast]; exact Nat.min_eq_left (by omega)]
  rw [show (m : Int) * 2 ^ s = ((m * 2 ^ s : Nat) : Int) by simp]
  exact wrap_u64 (Int.natCast_nonneg _) (by omega)
def fltN (mant : Nat) (x : Int) (s : Nat) : List UInt8 := flT (digD (shortD (skewN mant x) mant x s)) ((ndig (shortD (skewN mant x) mant x s) : Int) + shortP (skewN mant x) mant x s)
theorem nzc_len (d : Nat) : nzc (dgs (ndig d) d) (ndig d) ≤ 32 ∨ 1000000000000000000 ≤ d := by
  rcases Nat.lt_or_ge d 1000000000000000000 with h | h
  · left
    refine Nat.le_trans (nzc_le _ _) ?_
    refine Nat.le_of_not_lt fun hlt => ?_
    rcases (ndig_bounds d).2 with h1 | h1
    · omega
    · have : 10 ^ 32 ≤ 10 ^ (ndig d - 1) := Nat.pow_le_pow_right (by decide) (by omega)
      have h2 : (10 : Nat) ^ 32 = 100000000000000000000000000000000 := by decide
      omega
  · exact .inr h
set_option maxRecDepth 10000 in
set_option maxHeartbeats 2000000 in
theorem ftoa_tail {mant s : Nat} {x : Int} (o : MOk mant s x) (hs : s = 64 - len64 mant) {q : Nat} {h : AHeap} {n : Nat} (hw : WF h n) (hq : h.get q = some (bufB [] 0)) (hf : Ft h) (hn : 14 < n) {σ : Fr}
    (s0 : σ.get 0 = some (dV q 0)) (s2 : σ.get 2 = some (.int .u8 102)) (s3 : σ.get 3 = some (.int .i64 (-1))) (s11 : σ.get 11 = some (.int .i64 52)) (s12 : σ.get 12 = some (.int .i64 (-1023))) (s13 : σ.get 13 = some (.bool false)) (s14 : σ.get 14 = some (.int .i64 (x + 1075))) (s15 : σ.get 15 = some (.int .u64 (mant : Int))) :
    wx EV61 tail56 σ h n (Done [.tmp 8] (fun v1 h1 n1 => v1 = dV q (fltN mant x s).length ∧ HSub (putsL h [(q,bufB (fltN mant x s) 0)]) h1 ∧ n1 ≤ n + 3000)) () := by
  have hqn : q < n := hw.lt hq
  have hs0 := o.s0
  have hs1 := o.s1
  have hx0 := o.x0
  have hx1 := o.x1
  have hm1 := o.m1
  have hm2 := o.m2
  have hM := shl64 o.hi hs1
  have hl64 : ((len64 mant : Nat) : Int) = 64 - (s : Int) := by
    have := len64_le (x := mant) (k := 64) (by omega)
    omega
  have r1 := fun H N => len64_eq (x := mant) (by omega) (h := H) (n := N)
  rw [hl64] at r1
  obtain ⟨hd1,hd2⟩ := (short_pos o (skewN mant x)).2
  have ep := exp_ok hx0 hx1 (skewN mant x)
  have hP : -332 ≤ shortP (skewN mant x) mant x s ∧ shortP (skewN mant x) mant x s ≤ 332 := by
    have := ep.p0
    have := ep.p1
    unfold shortP
    split <;> omega
  obtain ⟨z,hz⟩ : ∃ z,z = n := ⟨_,rfl⟩
  have hw1 : ∀ B,WF (h.put n B) (n + 1) := fun B => .of fun j hj => by simp (discharger := omega) [hw.none (i := j) (by omega)]
  have hsub : ∀ B,HSub h (h.put n B) := fun B => HSub.new (.refl _) hw (Nat.le_refl _) B
  have r2 := fun B => short_ret o (hw1 B) (hf.tab.sub (hsub B)) (by omega)
  unfold fltN
  generalize hD : shortD (skewN mant x) mant x s = d at *
  generalize shortP (skewN mant x) mant x s = p at *
  have ez2 : [Value.int .u8 0, .int .u8 0, .int .u8 0, .int .u8 0, .int .u8 0, .int .u8 0, .int .u8 0, .int .u8 0, .int .u8 0, .int .u8 0, .int .u8 0, .int .u8 0, .int .u8 0, .int .u8 0, .int .u8 0, .int .u8 0, .int .u8 0, .int .u8 0, .int .u8 0, .int .u8 0, .int .u8 0, .int .u8 0, .int .u8 0, .int .u8 0, .int .u8 0, .int .u8 0, .int .u8 0, .int .u8 0, .int .u8 0, .int .u8 0, .int .u8 0, .int .u8 0] = u8s (List.replicate 32 0) := rfl
  simp -dsimp (discharger := omega) [tail56,sndC,B56,s2,s3,s12,s14,s15, -List.reduceReplicate]
  obtain ⟨l0,hl0⟩ : ∃ l0,l0 = List.replicate 32 (0 : UInt8) := ⟨_,rfl⟩
  rw [← hl0] at ez2
  have hl0n : l0.length = 32 := by rw [hl0]; rfl
  clear hl0
  rw [ez2]
  obtain ⟨M,hMM⟩ : ∃ M,M = mant * 2 ^ s := ⟨_,rfl⟩
  rw [← hMM] at hM r2
  obtain ⟨l',hl',hd',rsd⟩ := setd_ret (z := n) (ty := 103) (kk := 65) (d := d) (by omega) hd2 (p := p) (by omega) (by omega) hl0n (h := h.put n (.cells (some 103) (u8s l0) 32)) (n := n + 1 + 1) (by simp) (by omega)
  have rnd := fun H N (hp : HasPow H) => numDigits_ret (x := d) (by omega) (by omega) (h := H) hp (n := N)
  have g1 : (64 : Int) - (64 - (s : Int)) = (s : Int) := by omega
  have g2 : x + 1075 + -1023 - (s : Int) - 52 = x - (s : Int) := by omega
  refine call_ret (r1 _ _) ?_
  simp -dsimp (discharger := omega) [s11,s15,hM,g1,g2]
  refine call_ret (r2 _) ?_
  simp -dsimp (discharger := omega) []
  with_reducible refine ret_ret (rnd _ _ (hf.pow.sub (hsub _))) ?_
  simp -dsimp (discharger := omega) []
  with_reducible refine ret_ret rsd ?_
  have hnz : nzc (dgs (ndig d) d) (ndig d) ≤ ndig d := nzc_le _ _
  have hnz2 : nzc (dgs (ndig d) d) (ndig d) ≤ 32 := (nzc_len d).resolve_right (by omega)
  have hnd32 : ndig d ≤ 32 := by
    rcases (ndig_bounds d).2 with h1 | h1
    · omega
    · refine Nat.le_of_not_lt fun hlt => ?_
      have : 10 ^ 32 ≤ 10 ^ (ndig d - 1) := Nat.pow_le_pow_right (by decide) (by omega)
      have h2 : (10 : Nat) ^ 32 = 100000000000000000000000000000000 := by decide
      omega
  have hdig : l'.take (nzc (dgs (ndig d) d) (ndig d)) = digD d := by
    unfold digD
    rw [← hd',List.take_take,Nat.min_eq_left (nzc_le _ _)]
  have hsub2 : ∀ B C,HSub h ((h.put n B).put n C) := fun B C => HSub.new (hsub B) hw (Nat.le_refl _) C
  generalize hNZ : nzc (dgs (ndig d) d) (ndig d) = nz at *
  generalize hND : ndig d = N at *
  have hpr : (if (nz : Int) - ((N : Int) + p) < 0 then 0 else (nz : Int) - ((N : Int) + p)) ≤ 0 ∧ (nz : Int) ≤ (N : Int) + p ∨ (if (nz : Int) - ((N : Int) + p) < 0 then 0 else (nz : Int) - ((N : Int) + p)) = (nz : Int) - ((N : Int) + p) := by
    split <;> omega
  have rf := fun prec hprec => fmt_ret (q := q) (z := n) (kk := 65) (l := l') hl' (nd := nz) hnz2 (dp := (N : Int) + p) (by omega) (by omega) (h := (h.put n (.cells (some 103) (u8s l0) 32)).put n (.cells (some 103) (u8s l') 32)) (own := some 103) (by simp) (by omega) (n := n + 1 + 1) (.of fun j hj => by simp (discharger := omega) [hw.none (i := j) (by omega)]) (hsub2 _ _ _ _ hq) (prec := prec) hprec
  rw [hdig] at rf
  simp -dsimp (discharger := omega) [s0,s2,s13]
  refine call_ret (rf _ hpr) ?_
  simp -dsimp (discharger := omega) []
  exact HSub.put_both _ _ (hsub2 _ _)
def fltT (b : Nat) : List UInt8 := if b = 0 then [48] else fltN (mantB b) (expB b) (shB b)
set_option maxRecDepth 10000 in
set_option maxHeartbeats 2000000 in
theorem ftoa_ret {b : Nat} (hb : b < 9218868437227405312) {q : Nat} {h : AHeap} {n : Nat} (hw : WF h n) (hq : h.get q = some (bufB [] 0)) (hf : Ft h) (hn : 14 < n) :
    Ret EV61 56 [dV q 0, .float .f64 b, .int .u8 102, .int .i64 (-1)] h n (dV q (fltT b).length) [(q,bufB (fltT b) 0)] (n + 3000) := by
  refine rsx56 (by simp) (by simp [hq]) ?_
  have hqn : q < n := hw.lt hq
  have tb := tobits61_ret b h n
  obtain ⟨E,hE⟩ : ∃ E,E = b / 4503599627370496 := ⟨_,rfl⟩
  obtain ⟨F,hF⟩ : ∃ F,F = b % 4503599627370496 := ⟨_,rfl⟩
  have hE7 : E < 2047 := by omega
  have e63 : shrI .u64 (b : Int) 63 = 0 := by
    have := shrI_nat .u64 b 63
    rw [show ((63 : Nat) : Int) = 63 from rfl] at this
    rw [this,show min 63 IntKind.u64.bits = 63 from rfl,show (2 : Nat) ^ 63 = 9223372036854775808 by decide,Nat.div_eq_of_lt (by omega)]; rfl
  have e52 : shrI .u64 (b : Int) 52 = (E : Int) := by
    have := shrI_nat .u64 b 52
    rw [show ((52 : Nat) : Int) = 52 from rfl] at this
    rw [this,hE]; rfl
  have econv : IntKind.i64.wrap (E : Int) = (E : Int) := wrap64 (by omega) (by omega)
  have eand : andI .i64 (E : Int) 2047 = (E : Int) := (and11_all ⟨E,by omega⟩).1
  have eF : andI .u64 (b : Int) 4503599627370495 = (F : Int) := by
    rw [show (4503599627370495 : Int) = ((2 ^ 52 - 1 : Nat) : Int) from rfl,and64 (by omega) (by decide),Nat.and_two_pow_sub_one_eq_mod,hF]
  have eor : orI .u64 (F : Int) 4503599627370496 = ((F + 4503599627370496 : Nat) : Int) := by
    have := bits_or (x := F) (E := 1) (by omega)
    rw [show (4503599627370496 : Int) = ((1 * 4503599627370496 : Nat) : Int) from rfl,or64 (by omega) (by omega),this]
    congr 1; omega
  rw [B56_eq]
  simp -dsimp (discharger := omega) [fstC,sndC,B56, -List.reduceReplicate]
  refine call_ret tb ?_
  by_cases h0 : b = 0
  · have f0 := fmt0_ret hw hq
    subst h0
    obtain rfl : E = 0 := by omega
    obtain rfl : F = 0 := by omega
    have e63' : shrI .u64 0 63 = 0 := by decide
    have e52' : shrI .u64 0 52 = 0 := by decide
    have ea' : andI .i64 0 2047 = 0 := by decide
    have eb' : andI .u64 0 4503599627370495 = 0 := by decide
    simp -dsimp (discharger := omega) [e63',e52',ea',eb',si1,su1,sndC,B56,tail56, -List.reduceReplicate]
    refine call_ret f0 ?_
    simp -dsimp (discharger := omega) [-List.reduceReplicate]
    exact ⟨rfl, .refl _⟩
  · have o := mok_of h0 hb
    have hT : fltT b = fltN (mantB b) (expB b) (shB b) := by unfold fltT; rw [if_neg h0]
    rw [hT]
    have ft := fun σ => ftoa_tail o rfl hw hq hf hn (σ := σ)
    by_cases hE0 : E = 0
    · have hm : mantB b = F := by unfold mantB; rw [if_pos (by omega)]; omega
      have hx : expB b = -1074 := by unfold expB; rw [if_pos (by omega)]
      rw [hm] at ft
      rw [hx] at ft
      rw [hm,hx]
      generalize shB b = s at *
      have e52z : shrI .u64 (b : Int) 52 = 0 := by rw [e52,hE0]; rfl
      have eaz : andI .i64 0 2047 = 0 := by decide
      have x1z : (-1074 : Int) + 1075 = 1 := by decide
      rw [x1z] at ft
      simp -dsimp (discharger := omega) [e63,e52z,eaz,eF,si1,su1, -List.reduceReplicate]
      exact ft _ (by simp) (by simp) (by simp) (by simp) (by simp) (by simp) (by simp) (by simp)
    · have hm : mantB b = F + 4503599627370496 := by unfold mantB; rw [if_neg (by omega)]; omega
      have hx : expB b = (E : Int) - 1075 := by unfold expB; rw [if_neg (by omega)]; omega
      rw [hm] at ft
      rw [hx] at ft
      rw [hm,hx]
      generalize shB b = s at *
      have hE0' : ¬ (E : Int) = 0 := by omega
      have hx2 : (E : Int) - 1075 + 1075 = (E : Int) := by omega
      rw [hx2] at ft
      simp -dsimp (discharger := omega) [e63,e52,econv,eand,eF,eor,si1,su1, -List.reduceReplicate, -Int.natCast_add]
      exact ft _ (by simp) (by simp) (by simp) (by simp) (by simp) (by simp) (by simp) (by simp)
end
end Go.Proofs.YtkdpjaaohddppaaGreatDoor.Am
