/- Contracts of the program's functions (X22). -/
import Derived.Test.YtbgjcoochdljfaaDoorRX5
import Derived.Test.YtbgjcoochdljfaaDoorRLVd
namespace Go.Proofs.YtbgjcoochdljfaaDoorR.Am
noncomputable section
/- CONTRACTS: the document's With, Union, Meet, Len. -/
def bvB (f : Nat → Bool) : Blk := .cells (some 45) (bvf f) 4096
def p4096 (i : Nat) : Value := .pointer (some ⟨i, 0, some 4096⟩)
def DwInv (a b : Int) (is : Bool) (i j N : Nat) (h0 : AHeap) (n0 r : Nat) (σ : Fr) (h : AHeap) (n : Nat) : Prop :=
  n = n0 ∧ ∃ k : Nat, k + r = 4095 ∧ 1 ≤ k ∧ h = h0.put i (.cells (some 45) (bvf (upTo k N.testBit (withD N a b is).testBit)) 4096) ∧
    σ = [(1, .int .i64 a), (2, .int .i64 b), (3, .bool is), (4, .pointer (some ⟨i, 0, some 4096⟩)), (8, .pointer (some ⟨j, 0, some 4096⟩)), (9, .int .i64 (k : Int))]
def DwPost (i j N : Nat) (h0 : AHeap) (n0 : Nat) (e : Ex) (σ' : Fr) (h' : AHeap) (n' : Nat) : Prop :=
  n' = n0 ∧ e = .exit 0 ∧ h' = h0.put i (.cells (some 45) (bv N) 4096) ∧ σ'.get 4 = some (.pointer (some ⟨i, 0, some 4096⟩)) ∧ σ'.get 8 = some (.pointer (some ⟨j, 0, some 4096⟩))
theorem dwith_loop {a b : Int} {is : Bool} {i j N : Nat} {h0 : AHeap} {n0 : Nat} :
    ∀ (m : Nat) (σ : Fr) (h : AHeap) (n : Nat), DwInv a b is i j N h0 n0 m σ h n → HasCode EV14 (.loop F18L0) σ h n (DwPost i j (withD N a b is) h0 n0) := by
  refine wx_inv _ fun m σ h n hI => ?_
  obtain ⟨rfl, k, hk, hk1, rfl, rfl⟩ := hI
  cases m with
  | zero =>
    obtain rfl : k = 4095 := by omega
    have e : bvf (upTo 4095 N.testBit (withD N a b is).testBit) = bv (withD N a b is) := upTo_end (fun i _ hi => by rw [withD_bit, if_neg (by omega)]) (fun i _ _ => rfl)
    rw [e]
    have fin : ∀ {σ : Fr}, σ.get 4 = some (.pointer (some ⟨i, 0, some 4096⟩)) → σ.get 8 = some (.pointer (some ⟨j, 0, some 4096⟩)) → DwPost i j (withD N a b is) h0 n (.exit 0) σ (h0.put i (.cells (some 45) (bv (withD N a b is)) 4096)) n := fun a b => ⟨rfl, rfl, rfl, a, b⟩
    simp -dsimp (discharger := omega) [F18L0]
    exact fin rfl rfl
  | succ m =>
    have hlt : k < 4096 := by omega
    have e2 := bvf_put (upTo k N.testBit (withD N a b is).testBit) hlt
    have hbit := withD_bit N a b is k
    have fin : ∀ {tk : Tok (DwInv a b is i j N h0 n)} {σ : Fr} {X : List Value}, X = bvf (upTo (k + 1) N.testBit (withD N a b is).testBit) → FSubL [(1, .int .i64 a), (2, .int .i64 b), (3, .bool is), (4, .pointer (some ⟨i, 0, some 4096⟩)), (8, .pointer (some ⟨j, 0, some 4096⟩)), (9, .int .i64 ((k + 1 : Nat) : Int))] σ →
        Again (DwInv a b is i j N h0 n) (m + 1) σ (h0.put i (.cells (some 45) X 4096)) n tk := fun hX hσ => by
      rw [hX]
      exact .mk' m (by omega) _ _ hσ (.refl _) ⟨rfl, k + 1, by omega, by omega, rfl, rfl⟩
    have finP : ∀ {tk : Tok (DwInv a b is i j N h0 n)} {σ : Fr} {X Y : List Value}, X = bvf (upTo (k + 1) N.testBit (withD N a b is).testBit) → FSubL [(1, .int .i64 a), (2, .int .i64 b), (3, .bool is), (4, .pointer (some ⟨i, 0, some 4096⟩)), (8, .pointer (some ⟨j, 0, some 4096⟩)), (9, .int .i64 ((k + 1 : Nat) : Int))] σ →
        Again (DwInv a b is i j N h0 n) (m + 1) σ ((h0.put i (.cells (some 45) Y 4096)).put i (.cells (some 45) X 4096)) n tk := fun hX hσ => by
      rw [hX]
      exact .mk' m (by omega) _ _ hσ (put_over _ _ _ _) ⟨rfl, k + 1, by omega, by omega, rfl, rfl⟩
    by_cases h1 : a ≤ k
    · by_cases h2 : (k : Int) ≤ b
      · rw [if_pos (by omega)] at hbit
        simp -dsimp (discharger := omega) [F18L0, h1, h2, e2]
        exact finP (by rw [← upTo_put hk1, hbit]) (by simp)
      · rw [if_neg (by omega)] at hbit
        simp -dsimp (discharger := omega) [F18L0, h1, h2]
        exact fin (upTo_skip hbit) (by simp)
    · rw [if_neg (by omega)] at hbit
      simp -dsimp (discharger := omega) [F18L0, h1]
      exact fin (upTo_skip hbit) (by simp)
theorem dwith_ret (N : Nat) {a b : Int} {is : Bool} {h : AHeap} {n : Nat} (hw : WF h n) : Ret EV14 18 [.agg (bv N).toArray, .int .i64 a, .int .i64 b, .bool is] h n (.agg (bv (withD N a b is)).toArray) [] (n + 2) := by
  have hs : ∀ x y, HSub h ((h.put n x).put (n + 1) y) := fun x y => ((HSub.refl h).new hw (Nat.le_refl n) _).new hw (Nat.le_succ n) _
  refine rsx18 (by simp) (by simp) ?_
  simp -dsimp (discharger := omega) [B18, -List.reduceReplicate, ← bv_zero]
  refine loop_use (dwith_loop (a := a) (b := b) (is := is) (i := n) (j := n + 1) (N := N) (h0 := (h.put (n + 1) (.cells (some 45) (bv 0) 4096))) 4094 _ _ _ ⟨rfl, 1, rfl, Nat.le_refl _, by rw [upTo_one], rfl⟩) (by simp) ?_ ?_
  · rw [show bvf N.testBit = bv N from rfl]
    exact .ofE (.left (.inr (by simp)) (.left (.inr (by simp)) (.right (.inl (by simp)) (.right (.inl (by simp)) (.refl _ _)))))
  · rintro e σ' h' n' ⟨rfl, rfl, rfl, g1, g2⟩
    simp -dsimp (discharger := omega) [g1, g2, take_bv, drop_bv]
    refine (((HSub.refl h).new hw ?_ _).new hw ?_ _).new hw ?_ _ <;> omega
def DunInv (N M i i3 j : Nat) (h0 : AHeap) (n0 r : Nat) (σ : Fr) (h : AHeap) (n : Nat) : Prop :=
  n = n0 ∧ ∃ k : Nat, k + r = 4095 ∧ 1 ≤ k ∧ h = h0.put i (.cells (some 45) (bvf (upTo k N.testBit (N ||| M).testBit)) 4096) ∧
    σ = [(2, .pointer (some ⟨i, 0, some 4096⟩)), (3, .pointer (some ⟨i3, 0, some 4096⟩)), (4, .pointer (some ⟨j, 0, some 4096⟩)), (5, .int .i64 (k : Int))]
def DunPost (N i j : Nat) (h0 : AHeap) (n0 : Nat) (e : Ex) (σ' : Fr) (h' : AHeap) (n' : Nat) : Prop :=
  n' = n0 ∧ e = .exit 0 ∧ h' = h0.put i (.cells (some 45) (bv N) 4096) ∧ σ'.get 2 = some (.pointer (some ⟨i, 0, some 4096⟩)) ∧ σ'.get 4 = some (.pointer (some ⟨j, 0, some 4096⟩))
theorem dun_loop {N M i i3 j : Nat} (hN : Vs N) (hM : Vs M) (hne : i ≠ i3) {h0 : AHeap} (h3 : h0.get i3 = some (.cells (some 45) (bv M) 4096)) {n0 : Nat} :
    ∀ (m : Nat) (σ : Fr) (h : AHeap) (n : Nat), DunInv N M i i3 j h0 n0 m σ h n → HasCode EV14 (.loop F20L0) σ h n (DunPost (N ||| M) i j h0 n0) := by
  refine wx_inv _ fun m σ h n hI => ?_
  obtain ⟨rfl, k, hk, hk1, rfl, rfl⟩ := hI
  cases m with
  | zero =>
    obtain rfl : k = 4095 := by omega
    have out : ∀ (X : Nat), Vs X → ∀ i, (i < 1 ∨ 4095 ≤ i) → X.testBit i = false := fun X hX i hi => by
      cases hb : X.testBit i with
      | false => rfl
      | true => have := hX i hb; omega
    have e : bvf (upTo 4095 N.testBit (N ||| M).testBit) = bv (N ||| M) := upTo_end (fun i _ hi => by rw [Nat.testBit_or, out N hN i hi, out M hM i hi]; rfl) (fun i _ _ => rfl)
    rw [e]
    have fin : ∀ {σ : Fr}, σ.get 2 = some (.pointer (some ⟨i, 0, some 4096⟩)) → σ.get 4 = some (.pointer (some ⟨j, 0, some 4096⟩)) → DunPost (N ||| M) i j h0 n (.exit 0) σ (h0.put i (.cells (some 45) (bv (N ||| M)) 4096)) n := fun a b => ⟨rfl, rfl, rfl, a, b⟩
    simp -dsimp (discharger := omega) [F20L0]
    exact fin rfl rfl
  | succ m =>
    have hlt : k < 4096 := by omega
    have e1 := bvf_at (upTo k N.testBit (N ||| M).testBit) hlt
    have e1' : upTo k N.testBit (N ||| M).testBit k = N.testBit k := by unfold upTo; rw [if_neg (by omega)]
    have e2 := bvf_put (upTo k N.testBit (N ||| M).testBit) hlt
    have e3 : List.take 1 (List.drop k (bv M)) = [.bool (M.testBit k)] := bvf_at _ hlt
    have hbit : (N ||| M).testBit k = (N.testBit k || M.testBit k) := Nat.testBit_or ..
    rw [e1'] at e1
    have fin : ∀ {tk : Tok (DunInv N M i i3 j h0 n)} {σ : Fr} {X Y : List Value}, X = bvf (upTo (k + 1) N.testBit (N ||| M).testBit) → FSubL [(2, .pointer (some ⟨i, 0, some 4096⟩)), (3, .pointer (some ⟨i3, 0, some 4096⟩)), (4, .pointer (some ⟨j, 0, some 4096⟩)), (5, .int .i64 ((k + 1 : Nat) : Int))] σ →
        Again (DunInv N M i i3 j h0 n) (m + 1) σ ((h0.put i (.cells (some 45) Y 4096)).put i (.cells (some 45) X 4096)) n tk := fun hX hσ => by
      rw [hX]
      exact .mk' m (by omega) _ _ hσ (put_over _ _ _ _) ⟨rfl, k + 1, by omega, by omega, rfl, rfl⟩
    rw [← upTo_put hk1, hbit] at fin
    generalize N.testBit k = x at *
    generalize M.testBit k = y at *
    cases x with
    | true =>
      simp -dsimp (discharger := omega) [F20L0, e1, e2]
      exact fin (by simp) (by simp)
    | false =>
      simp -dsimp (discharger := omega) [F20L0, e1, e2, hne, AHeap.read_of h3, e3]
      exact fin (by simp) (by simp)
theorem dun_ret {N M : Nat} (hN : Vs N) (hM : Vs M) {h : AHeap} {n : Nat} (hw : WF h n) : Ret EV14 20 [.agg (bv N).toArray, .agg (bv M).toArray] h n (.agg (bv (N ||| M)).toArray) [] (n + 3) := by
  refine rsx20 (by simp) (by simp) ?_
  simp -dsimp (discharger := omega) [B20, -List.reduceReplicate, ← bv_zero]
  refine loop_use (dun_loop (i := n) (i3 := n + 1) (j := n + 2) (N := N) (M := M) (h0 := ((h.put (n + 1) (.cells (some 45) (bv M) 4096)).put (n + 2) (.cells (some 45) (bv 0) 4096))) hN hM (by omega) (by rw [AHeap.get_put_ne _ _ (by omega), AHeap.get_put_same]) 4094 _ _ _ ⟨rfl, 1, rfl, Nat.le_refl _, by rw [upTo_one], rfl⟩) (by simp) ?_ ?_
  · rw [show bvf N.testBit = bv N from rfl]
    exact .ofE (.left (.inr (by simp; intros; omega)) (.left (.inr (by simp)) (.left (.inr (by first | (simp; done) | (simp; omega))) (.right (.inl (by simp)) (.right (.inl (by simp)) (.right (.inl (by simp)) (.refl _ _)))))))
  · rintro e σ' h' n' ⟨rfl, rfl, rfl, g1, g2⟩
    simp -dsimp (discharger := omega) [g1, g2, take_bv, drop_bv]
    refine ((((HSub.refl h).new hw ?_ _).new hw ?_ _).new hw ?_ _).new hw ?_ _ <;> omega
def DmeInv (N M i i3 j : Nat) (h0 : AHeap) (n0 r : Nat) (σ : Fr) (h : AHeap) (n : Nat) : Prop :=
  n = n0 ∧ ∃ k : Nat, k + r = 4095 ∧ 1 ≤ k ∧ h = h0.put i (.cells (some 45) (bvf (upTo k N.testBit (N &&& M).testBit)) 4096) ∧
    σ = [(2, .pointer (some ⟨i, 0, some 4096⟩)), (3, .pointer (some ⟨i3, 0, some 4096⟩)), (4, .pointer (some ⟨j, 0, some 4096⟩)), (5, .int .i64 (k : Int))]
def DmePost (N i j : Nat) (h0 : AHeap) (n0 : Nat) (e : Ex) (σ' : Fr) (h' : AHeap) (n' : Nat) : Prop :=
  n' = n0 ∧ e = .exit 0 ∧ h' = h0.put i (.cells (some 45) (bv N) 4096) ∧ σ'.get 2 = some (.pointer (some ⟨i, 0, some 4096⟩)) ∧ σ'.get 4 = some (.pointer (some ⟨j, 0, some 4096⟩))
theorem dme_loop {N M i i3 j : Nat} (hN : Vs N) (hM : Vs M) (hne : i ≠ i3) {h0 : AHeap} (h3 : h0.get i3 = some (.cells (some 45) (bv M) 4096)) {n0 : Nat} :
    ∀ (m : Nat) (σ : Fr) (h : AHeap) (n : Nat), DmeInv N M i i3 j h0 n0 m σ h n → HasCode EV14 (.loop F22L0) σ h n (DmePost (N &&& M) i j h0 n0) := by
  refine wx_inv _ fun m σ h n hI => ?_
  obtain ⟨rfl, k, hk, hk1, rfl, rfl⟩ := hI
  cases m with
  | zero =>
    obtain rfl : k = 4095 := by omega
    have out : ∀ (X : Nat), Vs X → ∀ i, (i < 1 ∨ 4095 ≤ i) → X.testBit i = false := fun X hX i hi => by
      cases hb : X.testBit i with
      | false => rfl
      | true => have := hX i hb; omega
    have e : bvf (upTo 4095 N.testBit (N &&& M).testBit) = bv (N &&& M) := upTo_end (fun i _ hi => by rw [Nat.testBit_and, out N hN i hi, out M hM i hi]; rfl) (fun i _ _ => rfl)
    rw [e]
    have fin : ∀ {σ : Fr}, σ.get 2 = some (.pointer (some ⟨i, 0, some 4096⟩)) → σ.get 4 = some (.pointer (some ⟨j, 0, some 4096⟩)) → DmePost (N &&& M) i j h0 n (.exit 0) σ (h0.put i (.cells (some 45) (bv (N &&& M)) 4096)) n := fun a b => ⟨rfl, rfl, rfl, a, b⟩
    simp -dsimp (discharger := omega) [F22L0]
    exact fin rfl rfl
  | succ m =>
    have hlt : k < 4096 := by omega
    have e1 := bvf_at (upTo k N.testBit (N &&& M).testBit) hlt
    have e1' : upTo k N.testBit (N &&& M).testBit k = N.testBit k := by unfold upTo; rw [if_neg (by omega)]
    have e2 := bvf_put (upTo k N.testBit (N &&& M).testBit) hlt
    have e3 : List.take 1 (List.drop k (bv M)) = [.bool (M.testBit k)] := bvf_at _ hlt
    have hbit : (N &&& M).testBit k = (N.testBit k && M.testBit k) := Nat.testBit_and ..
    rw [e1'] at e1
    have fin : ∀ {tk : Tok (DmeInv N M i i3 j h0 n)} {σ : Fr} {X Y : List Value}, X = bvf (upTo (k + 1) N.testBit (N &&& M).testBit) → FSubL [(2, .pointer (some ⟨i, 0, some 4096⟩)), (3, .pointer (some ⟨i3, 0, some 4096⟩)), (4, .pointer (some ⟨j, 0, some 4096⟩)), (5, .int .i64 ((k + 1 : Nat) : Int))] σ →
        Again (DmeInv N M i i3 j h0 n) (m + 1) σ ((h0.put i (.cells (some 45) Y 4096)).put i (.cells (some 45) X 4096)) n tk := fun hX hσ => by
      rw [hX]
      exact .mk' m (by omega) _ _ hσ (put_over _ _ _ _) ⟨rfl, k + 1, by omega, by omega, rfl, rfl⟩
    rw [← upTo_put hk1, hbit] at fin
    generalize N.testBit k = x at *
    generalize M.testBit k = y at *
    cases x with
    | false =>
      simp -dsimp (discharger := omega) [F22L0, e1, e2]
      exact fin (by simp) (by simp)
    | true =>
      simp -dsimp (discharger := omega) [F22L0, e1, e2, hne, AHeap.read_of h3, e3]
      exact fin (by simp) (by simp)
theorem dme_ret {N M : Nat} (hN : Vs N) (hM : Vs M) {h : AHeap} {n : Nat} (hw : WF h n) : Ret EV14 22 [.agg (bv N).toArray, .agg (bv M).toArray] h n (.agg (bv (N &&& M)).toArray) [] (n + 3) := by
  refine rsx22 (by simp) (by simp) ?_
  simp -dsimp (discharger := omega) [B22, -List.reduceReplicate, ← bv_zero]
  refine loop_use (dme_loop (i := n) (i3 := n + 1) (j := n + 2) (N := N) (M := M) (h0 := ((h.put (n + 1) (.cells (some 45) (bv M) 4096)).put (n + 2) (.cells (some 45) (bv 0) 4096))) hN hM (by omega) (by rw [AHeap.get_put_ne _ _ (by omega), AHeap.get_put_same]) 4094 _ _ _ ⟨rfl, 1, rfl, Nat.le_refl _, by rw [upTo_one], rfl⟩) (by simp) ?_ ?_
  · rw [show bvf N.testBit = bv N from rfl]
    exact .ofE (.left (.inr (by simp; intros; omega)) (.left (.inr (by simp)) (.left (.inr (by first | (simp; done) | (simp; omega))) (.right (.inl (by simp)) (.right (.inl (by simp)) (.right (.inl (by simp)) (.refl _ _)))))))
  · rintro e σ' h' n' ⟨rfl, rfl, rfl, g1, g2⟩
    simp -dsimp (discharger := omega) [g1, g2, take_bv, drop_bv]
    refine ((((HSub.refl h).new hw ?_ _).new hw ?_ _).new hw ?_ _).new hw ?_ _ <;> omega
def DlInv (N i : Nat) (h0 : AHeap) (n0 r : Nat) (σ : Fr) (h : AHeap) (n : Nat) : Prop :=
  n = n0 ∧ h = h0 ∧ ∃ k c : Nat, k + r = 4095 ∧ 1 ≤ k ∧ c = cnt N k ∧ σ = [(1, .pointer (some ⟨i, 0, some 4096⟩)), (3, .int .i64 (c : Int)), (4, .int .i64 (k : Int))]
def DlPost (N : Nat) (h0 : AHeap) (n0 : Nat) (e : Ex) (σ' : Fr) (h' : AHeap) (n' : Nat) : Prop :=
  n' = n0 ∧ h' = h0 ∧ e = .exit 0 ∧ σ'.get 3 = some (.int .i64 (card N : Nat))
theorem bit_out {N : Nat} (hN : Vs N) {i : Nat} (hi : i < 1 ∨ 4095 ≤ i) : N.testBit i = false := by
  cases hb : N.testBit i with
  | false => rfl
  | true => have := hN i hb; omega
theorem card_4095 {N : Nat} (hN : Vs N) : cnt N 4095 = card N := by
  have e : ∀ m, N.testBit m = false → cnt N (m + 1) = cnt N m := fun m hm => by rw [cnt, hm]; rfl
  exact (e 4095 (bit_out hN (by omega))).symm
theorem dlen_loop {N i : Nat} (hN : Vs N) {h0 : AHeap} (hg : h0.get i = some (.cells (some 45) (bv N) 4096)) {n0 : Nat} :
    ∀ (m : Nat) (σ : Fr) (h : AHeap) (n : Nat), DlInv N i h0 n0 m σ h n → HasCode EV14 (.loop F36L0) σ h n (DlPost N h0 n0) := by
  refine wx_inv _ fun m σ h n hI => ?_
  obtain ⟨rfl, rfl, k, c, hk, hk1, hc, rfl⟩ := hI
  have hc4 : c ≤ k := by rw [hc]; exact cnt_le _ _
  cases m with
  | zero =>
    obtain rfl : k = 4095 := by omega
    rw [card_4095 hN] at hc
    have fin : ∀ {σ : Fr}, σ.get 3 = some (.int .i64 (c : Nat)) → DlPost N h n (.exit 0) σ h n := fun a => ⟨rfl, rfl, rfl, by rw [← hc]; exact a⟩
    clear hc
    simp -dsimp (discharger := omega) [F36L0]
    exact fin rfl
  | succ m =>
    have hlt : k < 4096 := by omega
    have e1 : List.take 1 (List.drop k (bv N)) = [.bool (N.testBit k)] := bvf_at _ hlt
    have hn : cnt N (k + 1) = c + (if N.testBit k then 1 else 0) := by rw [cnt, ← hc]
    have fin : ∀ {tk : Tok (DlInv N i h n)} {σ : Fr} {c' : Nat}, c' = cnt N (k + 1) → FSubL [(1, .pointer (some ⟨i, 0, some 4096⟩)), (3, .int .i64 (c' : Int)), (4, .int .i64 ((k + 1 : Nat) : Int))] σ →
        Again (DlInv N i h n) (m + 1) σ h n tk := fun hX hσ => .mk' m (by omega) _ _ hσ (.refl _) ⟨rfl, rfl, k + 1, _, by omega, by omega, hX, rfl⟩
    clear hc
    generalize N.testBit k = x at *
    cases x with
    | true =>
      simp -dsimp (discharger := omega) [F36L0, AHeap.read_of hg, e1]
      exact fin (c' := c + 1) (by simp [hn]) (by simp)
    | false =>
      simp -dsimp (discharger := omega) [F36L0, AHeap.read_of hg, e1]
      exact fin (c' := c) (by simp [hn]) (by simp)
theorem dlen_ret {N : Nat} (hN : Vs N) {h : AHeap} {n : Nat} (hw : WF h n) : Ret EV14 36 [.agg (bv N).toArray] h n (.int .i64 (card N : Nat)) [] (n + 1) := by
  have c1 : cnt N 1 = 0 := by rw [cnt, bit_out hN (by omega)]; rfl
  refine rsx36 (by simp) (by simp) ?_
  simp -dsimp (discharger := omega) [B36]
  refine loop_use (dlen_loop (N := N) (i := n) hN (h0 := h.put n (.cells (some 45) (bv N) 4096)) (by rw [AHeap.get_put_same]) (n0 := n + 1) 4094 _ _ _ ⟨rfl, rfl, 1, 0, rfl, Nat.le_refl _, c1.symm, rfl⟩) (by simp) (.refl _) ?_
  rintro e σ' h' n' ⟨rfl, rfl, rfl, g1⟩
  simp -dsimp (discharger := omega) [g1]
  refine (HSub.refl h).new hw ?_ _; omega
end
end Go.Proofs.YtbgjcoochdljfaaDoorR.Am
