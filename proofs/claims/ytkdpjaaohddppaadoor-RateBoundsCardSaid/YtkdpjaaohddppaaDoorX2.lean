/- Contracts of the program's functions (X2). -/
import Derived.Test.YtkdpjaaohddppaaDoorX1
import Derived.Test.YtkdpjaaohddppaaDoorK
namespace Go.Proofs.YtkdpjaaohddppaaDoor.Am
noncomputable section
/- THE WALK of RateOrder. -/
theorem from_ret (x : Nat) (h : AHeap) (n : Nat) : Ret EV11 8 [.int .u64 (x : Int)] h n (.float .f64 x) [] n := orc_ret (l := []) rfl (Nat.le_refl _) (by simp) (by simp)
theorem tobits_ret (x : Nat) (h : AHeap) (n : Nat) : Ret EV11 31 [.float .f64 x] h n (.int .u64 (x : Int)) [] n := orc_ret (l := []) rfl (Nat.le_refl _) (by simp) (by simp)
theorem clean_le {a : Nat} (ha : a < 18446744073709551616) : fClean a ≤ fI ∧ fNan (fClean a) = false ∧ fKey (fClean a) = (fClean a : Int) ∧ fClean (fClean a) = fClean a ∧ fLt 0 (fClean a) = fLt 0 a := by
  have e0 : ∀ x, fLt 0 x = (!fNan x && decide (0 < fKey x)) := fun x => by
    unfold fLt
    rw [fNan_zero, fKey_zero, Bool.false_or]
  have hc : ∀ x, fClean x = if fLt 0 x then x else 0 := fun x => by rw [e0]; rfl
  have h0 : fLt 0 0 = false := by decide
  cases hh : fLt 0 a with
  | false =>
    have e : fClean a = 0 := by rw [hc, hh]; rfl
    rw [e]
    exact ⟨by decide, by decide, by decide, by decide, h0⟩
  | true =>
    have e : fClean a = a := by rw [hc, hh]; rfl
    rw [e]
    rw [e0] at hh
    simp only [Bool.and_eq_true, Bool.not_eq_true', decide_eq_true_eq] at hh
    obtain ⟨h1, h2⟩ := hh
    have h3 := of_decide_eq_false h1
    have hn : fNeg a = false := by
      cases hb : fNeg a with
      | false => rfl
      | true => unfold fKey at h2; rw [hb] at h2; simp at h2; omega
    have hr : fRung a = a := by
      unfold fNeg at hn
      simp only [beq_eq_false_iff_ne] at hn
      unfold fRung
      have hS : fS = 9223372036854775808 := rfl
      rw [hS] at hn ⊢
      omega
    rw [hr] at h3
    refine ⟨by omega, h1, ?_, e, ?_⟩
    · unfold fKey; rw [hn, hr]; rfl
    · rw [e0, h1, decide_eq_true h2]; rfl
theorem sign_ret {d : Nat} (hd : d ≤ fI) (h : AHeap) (n : Nat) : Ret EV11 24 [.float .f64 d] h n (.bool false) [] n := by
  refine rsx24 (by simp) (by simp) ?_
  have hI : fI = 9218868437227405312 := rfl
  rw [hI] at hd
  simp -dsimp (discharger := omega) [B24]
  with_reducible refine call_ret (tobits_ret d _ _) ?_
  simp -dsimp (discharger := omega) []
  exact .refl _
theorem alike_ret (d : Nat) (h : AHeap) (n : Nat) : Ret EV11 13 [.float .f64 d, .float .f64 d] h n (.bool true) [] n := by
  refine rsx13 (by simp) (by simp) ?_
  simp -dsimp (discharger := omega) [B13]
  with_reducible refine call_ret (tobits_ret d _ _) ?_
  simp -dsimp (discharger := omega) []
  with_reducible refine call_ret (tobits_ret d _ _) ?_
  simp -dsimp (discharger := omega) []
  exact .refl _
theorem mnan_ret (h : AHeap) (n : Nat) : Ret EV11 22 [] h n (.float .f64 9221120237041090561) [] n := by
  refine rsx22 (by simp) (by simp) ?_
  simp -dsimp (discharger := omega) [B22]
  with_reducible refine call_ret (from_ret 9221120237041090561 _ _) ?_
  simp -dsimp (discharger := omega) []
  exact .refl _
theorem minf_ret (h : AHeap) (n : Nat) : Ret EV11 23 [.int .i64 (-1)] h n (.float .f64 18442240474082181120) [] n := by
  refine rsx23 (by simp) (by simp) ?_
  simp -dsimp (discharger := omega) [B23]
  with_reducible refine call_ret (from_ret 18442240474082181120 _ _) ?_
  simp -dsimp (discharger := omega) []
  exact .refl _
theorem k_nan : fK 9221120237041090561 = (fS : Int) := by decide +kernel
theorem k_ninf : fK 18442240474082181120 = -(fI : Int) := by decide +kernel
theorem fK_rng (a : Nat) : -(fI : Int) ≤ fK a ∧ fK a ≤ (fS : Int) := by
  have hIS : (fI : Int) ≤ (fS : Int) := by decide
  unfold fK
  cases h : fNan a with
  | true => simp only [if_true]; omega
  | false => have := fKey_rng h; simp only [Bool.false_eq_true, if_false]; omega
theorem wk11 {h : AHeap} {n : Nat} (hs : HSub hI h) (hw : WF h n) (hn : n ≤ 6000000000) : Ret EV11 18 [] h n (.bool true) [] 6000000084 := e_wk_ok.ret (n := n) hn hs hw
def p0_5 : ACode := match B5 with | .seq a _ => a | c => c
def p1_5 : ACode := match B5 with | .seq _ (.seq a _) => a | c => c
def p2_5 : ACode := match B5 with | .seq _ (.seq _ (.seq a _)) => a | c => c
def p3_5 : ACode := match B5 with | .seq _ (.seq _ (.seq _ (.seq a _))) => a | c => c
def p4_5 : ACode := match B5 with | .seq _ (.seq _ (.seq _ (.seq _ (.seq a _)))) => a | c => c
def p5_5 : ACode := match B5 with | .seq _ (.seq _ (.seq _ (.seq _ (.seq _ (.seq a _))))) => a | c => c
def c5 : ACode := match B5 with | .seq _ (.seq _ (.seq _ (.seq _ (.seq _ (.seq _ f))))) => f | c => c
theorem b5_eq : B5 = .seq p0_5 (.seq p1_5 (.seq p2_5 (.seq p3_5 (.seq p4_5 (.seq p5_5 c5))))) := rfl
set_option maxHeartbeats 2000000 in
theorem order_c {a : Nat} (ha : a < 18446744073709551616) {h : AHeap} {n : Nat} (hs : HSub hI h) (hw : WF h n) (hn : n ≤ 5000) {σ : Fr} (g7 : σ.get 7 = some (.float .f64 a)) (g10 : σ.get 10 = some (.int .i64 1)) (g13 : σ.get 13 = some (.bool true)) (g14 : σ.get 14 = some (.bool true)) :
    wx EV11 c5 σ h n (Done [.tmp 6] fun v _ _ => v = .bool true) ⟨⟩ := by
  obtain ⟨c1, c2, c3, c4, c6⟩ := clean_le ha
  have hself : (!fLess a a && !fLess a a) = true := by unfold fLess; simp
  have hr := fK_rng a
  have hnan : fLess 9221120237041090561 a = false := by unfold fLess; rw [k_nan]; exact decide_eq_false (by omega)
  have hinf : fLess a 18442240474082181120 = false := by unfold fLess; rw [k_ninf]; exact decide_eq_false (by omega)
  have S := same_ret a a h n
  rw [hself] at S
  have L1 := less_ret 9221120237041090561 a h n
  rw [hnan] at L1
  have L2 := less_ret a 18442240474082181120 h n
  rw [hinf] at L2
  have C := clean_ret a h n
  have C2 := clean_ret (fClean a) h n
  rw [c4] at C2
  have hge : (fLt 0 (fClean a) || fEq (fClean a) 0) = true := by
    unfold fLt fEq
    rw [c2, c3, fNan_zero, fKey_zero]
    simp
    omega
  have Sg := sign_ret c1 h n
  have A := alike_ret (fClean a) h n
  have W := wk11 hs hw (by omega)
  generalize fClean a = d at *
  simp -dsimp (discharger := omega) [c5, B5, g7]
  with_reducible refine call_ret C ?_
  simp -dsimp (discharger := omega) [g7, g10, g13, g14]
  with_reducible refine call_ret S ?_
  simp -dsimp (discharger := omega) []
  with_reducible refine call_ret (mnan_ret _ _) ?_
  simp -dsimp (discharger := omega) [g7]
  with_reducible refine call_ret L1 ?_
  simp -dsimp (discharger := omega) [g7]
  with_reducible refine call_ret (minf_ret _ _) ?_
  simp -dsimp (discharger := omega) []
  with_reducible refine call_ret L2 ?_
  simp -dsimp (discharger := omega) [fl_geq, hge]
  with_reducible refine call_ret Sg ?_
  simp -dsimp (discharger := omega) []
  with_reducible refine call_ret C2 ?_
  simp -dsimp (discharger := omega) []
  with_reducible refine call_ret A ?_
  simp -dsimp (discharger := omega) [g7, fl_gtr, c6]
  with_reducible refine call_ret W ?_
  simp -dsimp (discharger := omega) []
set_option maxHeartbeats 2000000 in
theorem order_b {a b c : Nat} (ha : a < 18446744073709551616) {h : AHeap} {n : Nat} (hs : HSub hI h) (hw : WF h n) (hn : n ≤ 5000) {σ : Fr} (g7 : σ.get 7 = some (.float .f64 a)) (g8 : σ.get 8 = some (.float .f64 b)) (g9 : σ.get 9 = some (.float .f64 c)) (g10 : σ.get 10 = some (.int .i64 1)) (g13 : σ.get 13 = some (.bool true)) :
    wx EV11 p5_5 σ h n (kThen EV11 c5 (Done [.tmp 6] fun v _ _ => v = .bool true) ⟨⟩) ⟨⟩ := by
  have S1 := same_ret a b h n
  have S2 := same_ret b c h n
  have S3 := same_ret a c h n
  have law : (!fLess a b && !fLess b a) = true → (!fLess b c && !fLess c b) = true → (!fLess a c && !fLess c a) = true := fun h1 h2 => by
    unfold fLess at *
    simp only [Bool.and_eq_true, Bool.not_eq_true', decide_eq_false_iff_not] at *
    omega
  have fin : ∀ {σ : Fr}, σ.get 7 = some (.float .f64 a) → σ.get 10 = some (.int .i64 1) → σ.get 13 = some (.bool true) → σ.get 14 = some (.bool true) → wx EV11 c5 σ h n (Done [.tmp 6] fun v _ _ => v = .bool true) ⟨⟩ := fun h1 h2 h3 h4 => order_c ha hs hw hn h1 h2 h3 h4
  generalize (!fLess a b && !fLess b a) = x at *
  generalize (!fLess b c && !fLess c b) = y at *
  generalize (!fLess a c && !fLess c a) = z at *
  cases x with
  | false =>
    simp -dsimp (discharger := omega) [p5_5, B5, g7, g8]
    with_reducible refine call_ret S1 ?_
    simp -dsimp (discharger := omega) []
    exact fin (by simp [g7]) (by simp [g10]) (by simp [g13]) (by simp)
  | true =>
    cases y with
    | false =>
      simp -dsimp (discharger := omega) [p5_5, B5, g7, g8]
      with_reducible refine call_ret S1 ?_
      simp -dsimp (discharger := omega) [g8, g9]
      with_reducible refine call_ret S2 ?_
      simp -dsimp (discharger := omega) []
      exact fin (by simp [g7]) (by simp [g10]) (by simp [g13]) (by simp)
    | true =>
      obtain rfl := law rfl rfl
      simp -dsimp (discharger := omega) [p5_5, B5, g7, g8]
      with_reducible refine call_ret S1 ?_
      simp -dsimp (discharger := omega) [g8, g9]
      with_reducible refine call_ret S2 ?_
      simp -dsimp (discharger := omega) [g7, g9]
      with_reducible refine call_ret S3 ?_
      simp -dsimp (discharger := omega) []
      exact fin (by simp [g7]) (by simp [g10]) (by simp [g13]) (by simp)
set_option maxHeartbeats 2000000 in
theorem order_a {a b c : Nat} (ha : a < 18446744073709551616) {h : AHeap} {n : Nat} (hs : HSub hI h) (hw : WF h n) (hn : n ≤ 5000) {σ : Fr} (g7 : σ.get 7 = some (.float .f64 a)) (g8 : σ.get 8 = some (.float .f64 b)) (g9 : σ.get 9 = some (.float .f64 c)) (g10 : σ.get 10 = some (.int .i64 1)) :
    wx EV11 p4_5 σ h n (kThen EV11 (.seq p5_5 c5) (Done [.tmp 6] fun v _ _ => v = .bool true) ⟨⟩) ⟨⟩ := by
  have S1 := less_ret a b h n
  have S2 := less_ret b c h n
  have S3 := less_ret a c h n
  have law : fLess a b = true → fLess b c = true → fLess a c = true := fun h1 h2 => by
    unfold fLess at *
    simp only [decide_eq_true_eq] at *
    omega
  have fin : ∀ {σ : Fr}, σ.get 7 = some (.float .f64 a) → σ.get 8 = some (.float .f64 b) → σ.get 9 = some (.float .f64 c) → σ.get 10 = some (.int .i64 1) → σ.get 13 = some (.bool true) → wx EV11 p5_5 σ h n (kThen EV11 c5 (Done [.tmp 6] fun v _ _ => v = .bool true) ⟨⟩) ⟨⟩ := fun h1 h2 h3 h4 h5 => order_b ha hs hw hn h1 h2 h3 h4 h5
  generalize fLess a b = x at *
  generalize fLess b c = y at *
  generalize fLess a c = z at *
  cases x with
  | false =>
    simp -dsimp (discharger := omega) [p4_5, B5, g7, g8]
    with_reducible refine call_ret S1 ?_
    simp -dsimp (discharger := omega) []
    exact fin (by simp [g7]) (by simp [g8]) (by simp [g9]) (by simp [g10]) (by simp)
  | true =>
    cases y with
    | false =>
      simp -dsimp (discharger := omega) [p4_5, B5, g7, g8]
      with_reducible refine call_ret S1 ?_
      simp -dsimp (discharger := omega) [g8, g9]
      with_reducible refine call_ret S2 ?_
      simp -dsimp (discharger := omega) []
      exact fin (by simp [g7]) (by simp [g8]) (by simp [g9]) (by simp [g10]) (by simp)
    | true =>
      obtain rfl := law rfl rfl
      simp -dsimp (discharger := omega) [p4_5, B5, g7, g8]
      with_reducible refine call_ret S1 ?_
      simp -dsimp (discharger := omega) [g8, g9]
      with_reducible refine call_ret S2 ?_
      simp -dsimp (discharger := omega) [g7, g9]
      with_reducible refine call_ret S3 ?_
      simp -dsimp (discharger := omega) []
      exact fin (by simp [g7]) (by simp [g8]) (by simp [g9]) (by simp [g10]) (by simp)
set_option maxHeartbeats 2000000 in
theorem order_walk {a b c : Nat} (ha : a < 18446744073709551616) {h : AHeap} {n : Nat} (hs : HSub hI h) (hw : WF h n) (hn : n ≤ 5000) : HasCallT EV11 5 [.int .u64 (a : Int), .int .u64 (b : Int), .int .u64 (c : Int)] h n (fun v _ _ => v = .bool true) () := by
  refine inl5 ?_
  rw [b5_eq]
  have S1 := less_ret a b h n
  have S2 := same_ret a b h n
  have S3 := less_ret b a h n
  have three : fLess a b = true ∧ fLess b a = false ∨ fLess a b = false ∧ fLess b a = true ∨ fLess a b = false ∧ fLess b a = false := by
    unfold fLess
    simp only [decide_eq_true_eq, decide_eq_false_iff_not]
    omega
  have fin : ∀ {σ : Fr}, σ.get 7 = some (.float .f64 a) → σ.get 8 = some (.float .f64 b) → σ.get 9 = some (.float .f64 c) → σ.get 10 = some (.int .i64 1) → wx EV11 p4_5 σ h n (kThen EV11 (.seq p5_5 c5) (Done [.tmp 6] fun v _ _ => v = .bool true) ⟨⟩) ⟨⟩ := fun h1 h2 h3 h4 => order_a ha hs hw hn h1 h2 h3 h4
  simp -dsimp (discharger := omega) [p0_5, p1_5, p2_5, B5]
  with_reducible refine call_ret (from_ret a _ _) ?_
  simp -dsimp (discharger := omega) []
  with_reducible refine call_ret (from_ret b _ _) ?_
  simp -dsimp (discharger := omega) []
  with_reducible refine call_ret (from_ret c _ _) ?_
  simp -dsimp (discharger := omega) [p3_5, B5]
  with_reducible refine call_ret S1 ?_
  simp -dsimp (discharger := omega) []
  with_reducible refine call_ret S2 ?_
  simp -dsimp (discharger := omega) []
  with_reducible refine call_ret S3 ?_
  rcases three with ⟨e1, e2⟩ | ⟨e1, e2⟩ | ⟨e1, e2⟩
  all_goals
    rw [e1, e2]
    simp -dsimp (discharger := omega) [aFill]
    with_reducible refine wx_round ?_
    simp -dsimp (discharger := omega) [F5L0]
    with_reducible refine wx_round ?_
    simp -dsimp (discharger := omega) []
    with_reducible refine wx_round ?_
    simp -dsimp (discharger := omega) []
    with_reducible refine wx_round ?_
    simp -dsimp (discharger := omega) []
    exact fin (by simp) (by simp) (by simp) (by simp)
end
end Go.Proofs.YtkdpjaaohddppaaDoor.Am
