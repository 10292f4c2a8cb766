/- Contracts of the program's functions (X4). -/
import Derived.Test.YtmkfjdajnamoaaaDoorX3
import Derived.Test.YtmkfjdajnamoaaaDoorX1
import Derived.Test.YtmkfjdajnamoaaaDoorW
namespace Go.Proofs.YtmkfjdajnamoaaaDoor.Am
noncomputable section
/- THE WALK of MacBack. -/
theorem leq12 {a b : List Value} {x y : List UInt8} (ha : a = u8s x) (hb : b = u8s y) (hx : x.length = 12) (hy : y.length = 12) : leavesEq [.int, .int, .int, .int, .int, .int, .int, .int, .int, .int, .int, .int] a b = some (x == y) := by
  rw [ha, hb]; exact leq _ x y (by simp) hx hy
theorem patC_u8s (a b : List UInt8) : patC a b = u8s (a ++ b) := (u8s_append a b).symm
theorem textP_len (a b : List UInt8) (hb : b.length = 6) : (textP a b).length < 100000 := by
  have h1 := textM_len (macB (numL a &&& numL b))
  have h2 := textM_len b
  rw [macB_length] at h1
  have h3 : (tailP b).length ≤ 20 := by
    unfold tailP
    split
    · rw [List.length_cons]; omega
    · split
      · simp
      · rename_i n _ _
        have := dec_len n
        rw [List.length_cons]; omega
  rw [textP, List.length_append]; omega
theorem back_walk {a b l : List UInt8} (ha : a.length = 6) (hb : b.length = 6) (hl : l.length < 9223372036854775808) {h : AHeap} {n : Nat} (hw : WF h n) (hn : n ≤ 5000) :
    HasCallT EV02 8 [macV a, macV b, .string ⟨l.toArray⟩] h n (fun v _ _ => v = .bool true) () := by
  refine inl8 ?_
  have la := u8s6 ha
  have lb := u8s6 hb
  have ta : (u8s a).take 6 = u8s a := List.take_of_length_le (by omega)
  have tb : (u8s b).take 6 = u8s b := List.take_of_length_le (by omega)
  have hpa : parseM (textM a) = a := by rw [parseM, parse_text ha]; rfl
  have hpe : parseE (textM a) = 0 := by rw [parseE, parse_text ha]; rfl
  have hua : parseM ((textM a).map upc) = a := by rw [parseM, parse_upper ha]; rfl
  have hue : parseE ((textM a).map upc) = 0 := by rw [parseE, parse_upper ha]; rfl
  have htl := text_len ha
  have p1 : ∀ {H : AHeap} {k : Nat}, WF H k → Ret EV02 9 [.string ⟨(textM a).toArray⟩] H k (.tuple #[macV a, .int .i64 0]) [] (k + 3) := fun h => by
    have := parse_ret (s := textM a) (by omega) h
    rwa [hpa, hpe] at this
  have p2 : ∀ {H : AHeap} {k : Nat}, WF H k → Ret EV02 9 [.string ⟨((textM a).map upc).toArray⟩] H k (.tuple #[macV a, .int .i64 0]) [] (k + 3) := fun h => by
    have := parse_ret (s := (textM a).map upc) (by rw [List.length_map]; omega) h
    rwa [hua, hue] at this
  have p3 : ∀ {H : AHeap} {k : Nat}, WF H k → Ret EV02 32 [.string ⟨(textM a).toArray⟩] H k (.string ⟨((textM a).map upc).toArray⟩) [] (k + 20) := fun h => by
    have := up_ret (l := textM a) (by omega) (fun x hx => by
      obtain ⟨c0, c1, c2, c3, c4, c5, rfl⟩ := six ha
      exact (shape_low (shape_text ha)).2 x hx) h
    rwa [htl] at this
  have hww : macB (numL (macB (numL a &&& numL b)) &&& numL b) = macB (numL a &&& numL b) := masked_twice ha
  have lw : (macB (numL a &&& numL b)).length = 6 := macB_length _
  obtain ⟨pe, pk, pw⟩ := pat_back lw hb hww
  have q4 := leq12 (a := patC (macB (numL a &&& numL b)) b) (b := patC (macB (numL a &&& numL b)) b) (patC_u8s _ _) (patC_u8s _ _) (by simp [hb]) (by simp [hb])
  have q1 := leq6 ha ha
  rw [beq_self_eq_true] at q1 q4
  have hnum := macB_numL ha
  have hlt := numL_lt48 ha
  have hshr : shrI .u64 ((numL a : Nat) : Int) 48 = 0 := by
    have : shrI .u64 ((numL a : Nat) : Int) 48 = ((numL a / 2 ^ 48 : Nat) : Int) := shrI_nat .u64 (numL a) 48
    rw [this, Nat.div_eq_of_lt hlt]; rfl
  simp -dsimp (discharger := omega) [B8, la, lb, ta, tb]
  refine ⟨by omega, ⟨by omega, by omega⟩, ?_⟩
  refine call_gen (fun G => G.get (n + 1 + 1) = some (.cells (some 23) (u8s a) 6) ∧ G.get (n + 1 + 1 + 1) = some (.cells (some 23) (u8s b) 6) ∧ WF G (n + 4)) ⟨by simp (discharger := omega), by simp (discharger := omega), .of fun j hj => by simp (discharger := omega) [hw.none (i := j) (by omega)]⟩ ?_
  rintro G ⟨eA, eB, hG⟩
  clear hw
  have rA := AHeap.read_of eA 6 0 6
  have rB := AHeap.read_of eB 6 0 6
  have hmr : ∀ {H : AHeap} {k : Nat}, WF H k → Ret EV02 17 [.agg (u8s a).toArray, .agg (u8s b).toArray] H k (macV (macB (numL a &&& numL b))) [] (k + 7) := fun h => masked_ret ha hb h
  have d12 : List.drop 12 (u8s (macB (numL a &&& numL b)) ++ [Value.int .u8 0, .int .u8 0, .int .u8 0, .int .u8 0, .int .u8 0, .int .u8 0]) = [] := List.drop_of_length_le (by simp)
  have ec : u8s (macB (numL a &&& numL b)) ++ u8s b = patC (macB (numL a &&& numL b)) b := rfl
  have lc : (patC (macB (numL a &&& numL b)) b).length = 12 := patC_length lw hb
  have tc : (patC (macB (numL a &&& numL b)) b).take 12 = patC (macB (numL a &&& numL b)) b := List.take_of_length_le (by omega)
  have pt : ∀ {H : AHeap} {k : Nat}, WF H k → Ret EV02 21 [.agg (patC (macB (numL a &&& numL b)) b).toArray] H k (.string ⟨(textP (macB (numL a &&& numL b)) b).toArray⟩) [] (k + 300) := fun h => patText_ret lw hb h
  have hpl : (textP (macB (numL a &&& numL b)) b).length < 100000 := textP_len _ _ hb
  have pp : ∀ {H : AHeap} {k : Nat}, WF H k → Ret EV02 11 [.string ⟨(textP (macB (numL a &&& numL b)) b).toArray⟩] H k (.tuple #[.agg (patC (macB (numL a &&& numL b)) b).toArray, .int .i64 0]) [] (k + 40) := fun h => by
    have := pattern_ret hpl h
    rwa [pe, pk, pw] at this
  generalize macB (numL a &&& numL b) = w at *
  with_reducible refine call_ret (text_ret ha ?_) ?_
  · exact .of fun j hj => by simp (discharger := omega) [hG.none (i := j) (by omega)]
  simp -dsimp (discharger := omega) []
  with_reducible refine call_ret (p1 ?_) ?_
  · exact .of fun j hj => by simp (discharger := omega) [hG.none (i := j) (by omega)]
  simp -dsimp (discharger := omega) [rA, la, ta]
  with_reducible refine call_ret (text_ret ha ?_) ?_
  · exact .of fun j hj => by simp (discharger := omega) [hG.none (i := j) (by omega)]
  simp -dsimp (discharger := omega) []
  with_reducible refine call_ret (p3 ?_) ?_
  · exact .of fun j hj => by simp (discharger := omega) [hG.none (i := j) (by omega)]
  simp -dsimp (discharger := omega) []
  with_reducible refine call_ret (p2 ?_) ?_
  · exact .of fun j hj => by simp (discharger := omega) [hG.none (i := j) (by omega)]
  simp -dsimp (discharger := omega) [rA, rB, la, lb, ta, tb]
  with_reducible refine ret_on [] (hmr ?_) ?_
  · exact (hG.mono (by omega)).touch []
  have lww := u8s6 lw
  have tw : (u8s w).take 6 = u8s w := List.take_of_length_le (by omega)
  simp -dsimp (discharger := omega) [rB, la, lb, ta, tb, lww, aFill, d12, ec, lc, tc]
  with_reducible refine call_ret (pt ?_) ?_
  · exact .of fun j hj => by simp (discharger := omega) [hG.none (i := j) (by omega)]
  simp -dsimp (discharger := omega) []
  with_reducible refine call_ret (pp ?_) ?_
  · exact .of fun j hj => by simp (discharger := omega) [hG.none (i := j) (by omega)]
  simp -dsimp (discharger := omega) [rA, la, ta, lc, tc, q1, q4]
  with_reducible refine ret_ret (number_ret ha ?_) ?_
  · exact .of fun j hj => by simp (discharger := omega) [hG.none (i := j) (by omega)]
  simp -dsimp (discharger := omega) []
  with_reducible refine ret_ret (of_ret (by omega) ?_) ?_
  · exact .of fun j hj => by simp (discharger := omega) [hG.none (i := j) (by omega)]
  rw [hnum]
  simp -dsimp (discharger := omega) [rA, la, ta, q1]
  with_reducible refine ret_ret (number_ret ha ?_) ?_
  · exact .of fun j hj => by simp (discharger := omega) [hG.none (i := j) (by omega)]
  simp -dsimp (discharger := omega) [hshr]
  have hmin : (if 60 < (l.length : Int) then 60 else (l.length : Int)) = ((Min.min l.length 60 : Nat) : Int) := by
    split <;> omega
  have h60 : (l.take (Min.min l.length 60)).length ≤ 60 := by simp; omega
  rw [hmin, Int.toNat_natCast]
  generalize l.take (Min.min l.length 60) = t at h60
  refine call_gen (fun G => WF G (n + 461)) (.of fun j hj => by simp (discharger := omega) [hG.none (i := j) (by omega)]) ?_
  clear rA rB eA eB hG
  clear p1 p2 p3 q1 q4 hmr d12 ec pt pp
  intro G hG
  generalize hN : n + 1 + 1 + 1 + 1 + 38 + 3 + 1 + 38 + 20 + 3 + 1 + 7 + 1 + 300 + 40 + 1 + 1 + 2 + 1 = N
  have hNn : N ≤ 6000 := by omega
  have hG : WF G N := hG.mono (by omega)
  clear hN
  have lt := parseM_len t
  have lu := u8s6 lt
  have tu : (u8s (parseM t)).take 6 = u8s (parseM t) := List.take_of_length_le (by omega)
  obtain ⟨lW, lK⟩ := pat_lens t
  have lc : (patC (patW t) (patK t)).length = 12 := patC_length lW lK
  have tc : (patC (patW t) (patK t)).take 12 = patC (patW t) (patK t) := List.take_of_length_le (by omega)
  have pr : ∀ {H : AHeap} {k : Nat}, WF H k → Ret EV02 11 [.string ⟨t.toArray⟩] H k (.tuple #[.agg (patC (patW t) (patK t)).toArray, .int .i64 ((patE t : Nat) : Int)]) [] (k + 40) := fun h => pattern_ret (by omega) h
  /- 
  have rest : ∀ {σ : Fr} {G : AHeap} {N : Nat}, WF G N → N ≤ 7000 → σ.get 2 = some (.string ⟨t.toArray⟩) → wx EV02 BRest σ G N (Done [ARes.tmp 6] fun v x x_1 => v = Value.bool true) () := by
    intro σ G N hG hN s2
    sorry
  -/
  with_reducible refine call_ret (parse_ret (by omega) hG) ?_
  by_cases he : parseE t = 0
  · obtain ⟨hlo, hasc⟩ := parse_ok he
    have ltt : (textM (parseM t)).length ≤ 60 := by rw [hlo, List.length_map]; exact h60
    have lo1 : ∀ {H : AHeap} {k : Nat}, WF H k → Ret EV02 33 [.string ⟨t.toArray⟩] H k (.string ⟨(textM (parseM t)).toArray⟩) [] (k + 63) := fun h => by
      have := lo_ret (l := t) (by omega) hasc h
      rw [← hlo] at this
      exact this.mono (by omega)
    rw [he]
    simp -dsimp (discharger := omega) [lu, tu]
    with_reducible refine call_ret (text_ret lt ?_) ?_
    · exact .of fun j hj => by simp (discharger := omega) [hG.none (i := j) (by omega)]
    simp -dsimp (discharger := omega) []
    with_reducible refine call_ret (lo1 ?_) ?_
    · exact .of fun j hj => by simp (discharger := omega) [hG.none (i := j) (by omega)]
    simp -dsimp (discharger := omega) []
    with_reducible refine call_ret (pr ?_) ?_
    · exact .of fun j hj => by simp (discharger := omega) [hG.none (i := j) (by omega)]
    by_cases hE : patE t = 0
    · have hwk := pat_masked hE
      obtain ⟨x1, x2, x3⟩ := pat_back lW lK hwk
      have ptt : ∀ {H : AHeap} {k : Nat}, WF H k → Ret EV02 21 [.agg (patC (patW t) (patK t)).toArray] H k (.string ⟨(textP (patW t) (patK t)).toArray⟩) [] (k + 300) := fun h => patText_ret lW lK h
      have ppp : ∀ {H : AHeap} {k : Nat}, WF H k → Ret EV02 11 [.string ⟨(textP (patW t) (patK t)).toArray⟩] H k (.tuple #[.agg (patC (patW t) (patK t)).toArray, .int .i64 0]) [] (k + 40) := fun h => by
        have := pattern_ret (textP_len (patW t) (patK t) lK) h
        rwa [x1, x2, x3] at this
      have q1 := leq6 lW lW
      have q4 := leq12 (a := patC (patW t) (patK t)) (b := patC (patW t) (patK t)) (patC_u8s _ _) (patC_u8s _ _) (by simp [lW, lK]) (by simp [lW, lK])
      rw [beq_self_eq_true] at q1 q4
      have mr : ∀ {H : AHeap} {k : Nat}, WF H k → Ret EV02 17 [.agg (u8s (patW t)).toArray, .agg (u8s (patK t)).toArray] H k (macV (patW t)) [] (k + 7) := fun h => by
        have := masked_ret lW lK h
        rwa [hwk] at this
      have d6 : (patC (patW t) (patK t)).drop 6 = u8s (patK t) := List.drop_left' (u8s6 lW)
      have t6 : (patC (patW t) (patK t)).take 6 = u8s (patW t) := List.take_left' (u8s6 lW)
      have tK : (u8s (patK t)).take 6 = u8s (patK t) := List.take_of_length_le (by simp [lK])
      rw [hE]
      simp -dsimp (discharger := omega) [lc, tc]
      with_reducible refine call_ret (ptt ?_) ?_
      · exact .of fun j hj => by simp (discharger := omega) [hG.none (i := j) (by omega)]
      simp -dsimp (discharger := omega) []
      with_reducible refine call_ret (ppp ?_) ?_
      · exact .of fun j hj => by simp (discharger := omega) [hG.none (i := j) (by omega)]
      simp -dsimp (discharger := omega) [lc, tc, q4, d6, t6, tK]
      with_reducible refine ret_ret (mr ?_) ?_
      · exact .of fun j hj => by simp (discharger := omega) [hG.none (i := j) (by omega)]
      simp -dsimp (discharger := omega) [lc, q1, t6]
      with_reducible refine ret_ret (tells_ret (by omega) ?_) ?_
      · exact .of fun j hj => by simp (discharger := omega) [hG.none (i := j) (by omega)]
      simp -dsimp (discharger := omega) []
    · obtain ⟨x1, x2⟩ := pat_err hE
      have q4 : leavesEq [.int, .int, .int, .int, .int, .int, .int, .int, .int, .int, .int, .int] (patC zero6 zero6) [.int .u8 0, .int .u8 0, .int .u8 0, .int .u8 0, .int .u8 0, .int .u8 0, .int .u8 0, .int .u8 0, .int .u8 0, .int .u8 0, .int .u8 0, .int .u8 0] = some true := rfl
      rw [x1, x2] at lc tc ⊢
      simp -dsimp (discharger := omega) [lc, tc, q4, aFill]
      with_reducible refine call_ret (tells_ret (by omega) ?_) ?_
      · exact .of fun j hj => by simp (discharger := omega) [hG.none (i := j) (by omega)]
      simp -dsimp (discharger := omega) []
  · have hz := parse_err he
    have q0 : leavesEq [.int, .int, .int, .int, .int, .int] (u8s zero6) [.int .u8 0, .int .u8 0, .int .u8 0, .int .u8 0, .int .u8 0, .int .u8 0] = some true := rfl
    rw [hz] at lt lu tu ⊢
    simp -dsimp (discharger := omega) [lu, tu, aFill, q0]
    with_reducible refine call_ret (pr ?_) ?_
    · exact .of fun j hj => by simp (discharger := omega) [hG.none (i := j) (by omega)]
    by_cases hE : patE t = 0
    · have hwk := pat_masked hE
      obtain ⟨x1, x2, x3⟩ := pat_back lW lK hwk
      have ptt : ∀ {H : AHeap} {k : Nat}, WF H k → Ret EV02 21 [.agg (patC (patW t) (patK t)).toArray] H k (.string ⟨(textP (patW t) (patK t)).toArray⟩) [] (k + 300) := fun h => patText_ret lW lK h
      have ppp : ∀ {H : AHeap} {k : Nat}, WF H k → Ret EV02 11 [.string ⟨(textP (patW t) (patK t)).toArray⟩] H k (.tuple #[.agg (patC (patW t) (patK t)).toArray, .int .i64 0]) [] (k + 40) := fun h => by
        have := pattern_ret (textP_len (patW t) (patK t) lK) h
        rwa [x1, x2, x3] at this
      have q1 := leq6 lW lW
      have q4 := leq12 (a := patC (patW t) (patK t)) (b := patC (patW t) (patK t)) (patC_u8s _ _) (patC_u8s _ _) (by simp [lW, lK]) (by simp [lW, lK])
      rw [beq_self_eq_true] at q1 q4
      have mr : ∀ {H : AHeap} {k : Nat}, WF H k → Ret EV02 17 [.agg (u8s (patW t)).toArray, .agg (u8s (patK t)).toArray] H k (macV (patW t)) [] (k + 7) := fun h => by
        have := masked_ret lW lK h
        rwa [hwk] at this
      have d6 : (patC (patW t) (patK t)).drop 6 = u8s (patK t) := List.drop_left' (u8s6 lW)
      have t6 : (patC (patW t) (patK t)).take 6 = u8s (patW t) := List.take_left' (u8s6 lW)
      have tK : (u8s (patK t)).take 6 = u8s (patK t) := List.take_of_length_le (by simp [lK])
      rw [hE]
      simp -dsimp (discharger := omega) [lc, tc]
      with_reducible refine call_ret (ptt ?_) ?_
      · exact .of fun j hj => by simp (discharger := omega) [hG.none (i := j) (by omega)]
      simp -dsimp (discharger := omega) []
      with_reducible refine call_ret (ppp ?_) ?_
      · exact .of fun j hj => by simp (discharger := omega) [hG.none (i := j) (by omega)]
      simp -dsimp (discharger := omega) [lc, tc, q4, d6, t6, tK]
      with_reducible refine ret_ret (mr ?_) ?_
      · exact .of fun j hj => by simp (discharger := omega) [hG.none (i := j) (by omega)]
      simp -dsimp (discharger := omega) [lc, q1, t6]
      with_reducible refine ret_ret (tells_ret (by omega) ?_) ?_
      · exact .of fun j hj => by simp (discharger := omega) [hG.none (i := j) (by omega)]
      simp -dsimp (discharger := omega) []
    · obtain ⟨x1, x2⟩ := pat_err hE
      have q4 : leavesEq [.int, .int, .int, .int, .int, .int, .int, .int, .int, .int, .int, .int] (patC zero6 zero6) [.int .u8 0, .int .u8 0, .int .u8 0, .int .u8 0, .int .u8 0, .int .u8 0, .int .u8 0, .int .u8 0, .int .u8 0, .int .u8 0, .int .u8 0, .int .u8 0] = some true := rfl
      rw [x1, x2] at lc tc ⊢
      simp -dsimp (discharger := omega) [lc, tc, q4, aFill]
      with_reducible refine call_ret (tells_ret (by omega) ?_) ?_
      · exact .of fun j hj => by simp (discharger := omega) [hG.none (i := j) (by omega)]
      simp -dsimp (discharger := omega) []
end
end Go.Proofs.YtmkfjdajnamoaaaDoor.Am
