/- Contracts of the program's functions (X26). -/
import Derived.Test.YtbgjcoochdljfaaDoorRX25
import Derived.Test.YtbgjcoochdljfaaDoorRDT
namespace Go.Proofs.YtbgjcoochdljfaaDoorR.Am
noncomputable section
/- THE WALK of VsetTells. -/
def ksD : List IntKind := [.i64, .i64, .i64]
def telN (N : Nat) : List Int → Nat
  | [w, a, b] => if w = 0 ∨ w = 1 ∨ w = 3 then N ||| rng a b else if w = 2 then less N (rng a b) else if w = 4 then N &&& rng a b else if w = 5 then ofN [a, b] else N
  | _ => N
theorem of2_vs (a b : Int) : Vs (ofN [a, b]) := (Vs.zero.or (Vs.rng _ _)).or (Vs.rng _ _)
theorem telN_vs {N : Nat} (h : Vs N) (r : List Int) : Vs (telN N r) := by
  unfold telN
  split
  · split
    · exact h.or (Vs.rng _ _)
    · split
      · exact h.less
      · split
        · exact h.and
        · split
          · exact of2_vs _ _
          · exact h
  · exact h
theorem tel_all {rs : List (List Int)} : Vs (rs.foldl telN 0) := by
  have : ∀ (l : List (List Int)) (N : Nat), Vs N → Vs (l.foldl telN N) := by
    intro l
    induction l with
    | nil => exact fun _ h => h
    | cons z l ih => exact fun N h => ih _ (telN_vs h _)
  exact this _ 0 Vs.zero
theorem tel_next {rs : List (List Int)} {k : Nat} {r : List Int} (hk : rs[k]? = some r) : (rs.take (k + 1)).foldl telN 0 = telN ((rs.take k).foldl telN 0) r := by
  rw [List.take_add_one, hk]; simp
theorem rowRd {rs : List (List Int)} (hr : ∀ r ∈ rs, RowOk ksD r) {h : AHeap} {i : Nat} (hg : h.get i = some (.cells none (rowsL ksD rs) 0)) {k : Nat} {w a b : Int} (hk : rs[k]? = some [w, a, b]) :
    h.read i (rs.length * 3) (k * 3) 1 = some [.int .i64 w] ∧ h.read i (rs.length * 3) (k * 3 + 1) 1 = some [.int .i64 a] ∧ h.read i (rs.length * 3) (k * 3 + 2) 1 = some [.int .i64 b] := by
  have hrow := rowsL_row hr hk
  have hlt := (List.getElem?_eq_some_iff.1 hk).1
  have hlen := rowsL_len hr
  have h1 : (k + 1) * 3 ≤ rs.length * 3 := Nat.mul_le_mul_right _ hlt
  have e : h.read i (rs.length * 3) (k * 3) 3 = some [.int .i64 w, .int .i64 a, .int .i64 b] := by
    rw [AHeap.read_of hg]
    simp only [Blk.read]
    have hlen' : (rowsL ksD rs).length = rs.length * 3 := hlen
    have hrow' : ((rowsL ksD rs).drop (k * 3)).take 3 = [.int .i64 w, .int .i64 a, .int .i64 b] := hrow
    rw [if_pos ⟨Nat.zero_le _, by rw [hlen']; exact Nat.le_refl _, by omega⟩, hrow']
  exact ⟨read_one e (a := 0) rfl (by omega), read_one e (a := 1) rfl (by omega), read_one e (a := 2) rfl (by omega)⟩
theorem rowD {r : List Int} (h : RowOk ksD r) : ∃ w a b : Int, r = [w, a, b] ∧ -9223372036854775808 ≤ w ∧ w < 9223372036854775808 ∧ -9223372036854775808 ≤ a ∧ a < 9223372036854775808 ∧ -9223372036854775808 ≤ b ∧ b < 9223372036854775808 := by
  match r, h with
  | [w, a, b], h =>
    obtain ⟨h1, h2, h3, _⟩ := h
    have g1 := bounds_i64 h1
    have g2 := bounds_i64 h2
    have g3 := bounds_i64 h3
    exact ⟨w, a, b, rfl, by omega, by omega, by omega, by omega, by omega, by omega⟩
  | [], h => exact h.elim
  | [_], h => exact h.2.elim
  | [_, _], h => exact h.2.2.elim
  | _ :: _ :: _ :: _ :: _, h => exact h.2.2.2.elim
/-- What the list's slice is. -/
def RowsD (rs : List (List Int)) (u : Value) (h : AHeap) : Prop := u = .slice none 0 0 ∧ rs = [] ∨ ∃ i0, u = .slice (some ⟨i0, 0, some (rs.length * 3)⟩) rs.length 0 ∧ h.get i0 = some (.cells none (rowsL ksD rs) 0)
theorem RowsD.sub {rs : List (List Int)} {u : Value} {h h' : AHeap} (x : RowsD rs u h) (hs : HSub h h') : RowsD rs u h' := by
  rcases x with x | ⟨i0, e, hg⟩
  · exact .inl x
  · exact .inr ⟨i0, e, hs _ _ hg⟩
theorem dwithT (N : Nat) {a b : Int} {h : AHeap} {n : Nat} (hw : WF h n) : Ret EV14 18 [.agg (bv N).toArray, .int .i64 a, .int .i64 b, .bool true] h n (.agg (bv (N ||| rng a b)).toArray) [] (n + 2) := dwith_ret N hw (is := true)
theorem dwithF (N : Nat) {a b : Int} {h : AHeap} {n : Nat} (hw : WF h n) : Ret EV14 18 [.agg (bv N).toArray, .int .i64 a, .int .i64 b, .bool false] h n (.agg (bv (less N (rng a b))).toArray) [] (n + 2) := dwith_ret N hw (is := false)
theorem dwith0 {a b : Int} {h : AHeap} {n : Nat} (hw : WF h n) : Ret EV14 18 [.agg (bv 0).toArray, .int .i64 a, .int .i64 b, .bool true] h n (.agg (bv (rng a b)).toArray) [] (n + 2) := by
  have := dwithT 0 (a := a) (b := b) hw
  rwa [Nat.zero_or] at this
structure TlMem (i5 i6 N : Nat) (h0 h : AHeap) (n : Nat) : Prop where
  sub : HSub h0 h
  wf : WF h n
  g5 : h.get i5 = some (.cells (some 26) (wv N) 64)
  g6 : h.get i6 = some (.cells (some 45) (bv N) 4096)
theorem TlMem.put {i5 i6 N M n n' : Nat} {h0 h : AHeap} (x : TlMem i5 i6 N h0 h n) (h5 : h0.get i5 = none) (h6 : h0.get i6 = none) (hne : i5 ≠ i6) (hn : n ≤ n') : TlMem i5 i6 M h0 ((h.put i5 (.cells (some 26) (wv M) 64)).put i6 (.cells (some 45) (bv M) 4096)) n' := by
  have l5 := x.wf.lt x.g5
  have l6 := x.wf.lt x.g6
  exact ⟨.put_new _ h6 (.put_new _ h5 x.sub), ((x.wf.mono hn).put _ (by omega) (Nat.le_refl _)).put _ (by omega) (Nat.le_refl _), by rw [AHeap.get_put_ne _ _ (fun e => hne e.symm), AHeap.get_put_same], by rw [AHeap.get_put_same]⟩
def TlInv (c : Nat) (rs : List (List Int)) (u : Value) (z : Int) (i5 i6 : Nat) (h0 : AHeap) (n0 r : Nat) (σ : Fr) (h : AHeap) (n : Nat) : Prop :=
  ∃ k : Nat, k + r = rs.length ∧ k ≤ 20 ∧ n0 ≤ n ∧ n ≤ n0 + c * k ∧ TlMem i5 i6 ((rs.take k).foldl telN 0) h0 h n ∧
    σ = [(0, u), (1, .int .i64 z), (5, .pointer (some ⟨i5, 0, some 64⟩)), (6, .pointer (some ⟨i6, 0, some 4096⟩)), (7, .int .i64 (k : Int))]
def TlPost (c : Nat) (z : Int) (i5 i6 : Nat) (h0 : AHeap) (n0 : Nat) (e : Ex) (σ' : Fr) (h' : AHeap) (n' : Nat) : Prop :=
  e = .exit 0 ∧ n0 ≤ n' ∧ n' ≤ n0 + c * 20 ∧ (∃ N, Vs N ∧ TlMem i5 i6 N h0 h' n') ∧ σ'.get 1 = some (.int .i64 z) ∧ σ'.get 5 = some (.pointer (some ⟨i5, 0, some 64⟩)) ∧ σ'.get 6 = some (.pointer (some ⟨i6, 0, some 4096⟩))
set_option maxHeartbeats 4000000 in
theorem tl_loop {c : Nat} (hc : c = 200001000) {rs : List (List Int)} (hl : rs.length < 9223372036854775808) (hr : ∀ r ∈ rs, RowOk ksD r) {u : Value} {z : Int} {i5 i6 : Nat} (hne : i5 ≠ i6) {h0 : AHeap} {n0 : Nat} (hn0 : 4096 ≤ n0) (hg0 : Gl h0) (h5 : h0.get i5 = none) (h6 : h0.get i6 = none)
    (hu : RowsD rs u h0) :
    ∀ (m : Nat) (σ : Fr) (h : AHeap) (n : Nat), TlInv c rs u z i5 i6 h0 n0 m σ h n → HasCode FV14 (.loop F5L0) σ h n (TlPost c z i5 i6 h0 n0) := by
  refine wx_inv _ fun m σ h n hI => ?_
  obtain ⟨k, hk, hk20, hn, hn1, hM, rfl⟩ := hI
  have vN : Vs ((rs.take k).foldl telN 0) := tel_all
  have hck : c * k ≤ c * 20 := Nat.mul_le_mul_left _ hk20
  have ex : ∀ {σ : Fr}, σ.get 1 = some (.int .i64 z) → σ.get 5 = some (.pointer (some ⟨i5, 0, some 64⟩)) → σ.get 6 = some (.pointer (some ⟨i6, 0, some 4096⟩)) → TlPost c z i5 i6 h0 n0 (.exit 0) σ h n := fun a b d => ⟨rfl, hn, by omega, ⟨_, vN, hM⟩, a, b, d⟩
  have hul : u = .slice none 0 0 ∧ rs = [] ∨ ∃ i0, u = .slice (some ⟨i0, 0, some (rs.length * 3)⟩) rs.length 0 := hu.imp (fun x => x) (fun ⟨i0, e, _⟩ => ⟨i0, e⟩)
  cases m with
  | zero =>
    rcases hul with ⟨rfl, rfl⟩ | ⟨i0, rfl⟩
    · have hk' : ¬ ((k : Int) < 0) := by omega
      simp -dsimp (discharger := omega) [F5L0, -List.reduceReplicate, ← bv_zero, hk']
      exact ex rfl rfl rfl
    · have hk' : ¬ ((k : Int) < (rs.length : Int)) := by omega
      simp -dsimp (discharger := omega) [F5L0, -List.reduceReplicate, ← bv_zero, hk']
      exact ex rfl rfl rfl
  | succ m =>
    have hlt : k < rs.length := by omega
    obtain ⟨x, hx⟩ : ∃ x, rs[k]? = some x := ⟨_, List.getElem?_eq_getElem hlt⟩
    obtain ⟨w, a, b, rfl, w0, w1, a0, a1, b0, b1⟩ := rowD (hr x (List.mem_of_getElem? hx))
    have hnx := tel_next hx
    rcases hu.sub hM.sub with ⟨_, rfl⟩ | ⟨i0, rfl, hg⟩
    · simp at hlt
    have hlt' : ((k : Int) < (rs.length : Int)) := by omega
    by_cases h20 : k = 20
    · have k20 : ¬ ((k : Int) < 20) := by omega
      simp -dsimp (discharger := omega) [F5L0, -List.reduceReplicate, ← bv_zero, hlt', k20]
      exact ex rfl rfl rfl
    have k20 : ((k : Int) < 20) := by omega
    obtain ⟨r0, r1, r2⟩ := rowRd hr hg hx
    have vN' : Vs ((rs.take (k + 1)).foldl telN 0) := tel_all
    rw [hnx] at vN'
    generalize hN : (rs.take k).foldl telN 0 = N at *
    obtain ⟨hs, hw, g5, g6⟩ := hM
    have hck : c * (k + 1) = c * k + c := by rw [Nat.mul_add, Nat.mul_one]
    have hne2 : ¬ i6 = i5 := fun e => hne e.symm
    have l5 := hw.lt g5
    have l6 := hw.lt g6
    have M0 : TlMem i5 i6 N h0 h n := ⟨hs, hw, g5, g6⟩
    have fin : ∀ {tk : Tok (TlInv c rs (.slice (some ⟨i0, 0, some (rs.length * 3)⟩) rs.length 0) z i5 i6 h0 n0)} {σ : Fr} {M n1 n' : Nat} {H' : AHeap}, TlMem i5 i6 M h0 H' n1 → M = telN N [w, a, b] → n ≤ n1 → n1 ≤ n' → n' ≤ n + 200001000 → FSubL [(0, .slice (some ⟨i0, 0, some (rs.length * 3)⟩) rs.length 0), (1, .int .i64 z), (5, .pointer (some ⟨i5, 0, some 64⟩)), (6, .pointer (some ⟨i6, 0, some 4096⟩)), (7, .int .i64 ((k + 1 : Nat) : Int))] σ →
        Again (TlInv c rs (.slice (some ⟨i0, 0, some (rs.length * 3)⟩) rs.length 0) z i5 i6 h0 n0) (m + 1) σ H' n' tk := fun g1 e l1 l2 l3 hσ => by
      subst e
      exact .mk' m (by omega) _ _ hσ (.refl _) ⟨k + 1, by omega, by omega, by omega, by omega, by rw [hnx]; exact ⟨g1.sub, g1.wf.mono l2, g1.g5, g1.g6⟩, rfl⟩
    have lk : ∀ {M n1 : Nat} {H' : AHeap}, TlMem i5 i6 M h0 H' n1 → Vs M → 4096 ≤ n1 → Ret FV14 23 [.agg (wv M).toArray, .agg (bv M).toArray] H' n1 (.bool true) [] (n1 + 200000000) := fun g1 v l => like_ret v g1.wf (hg0.sub g1.sub) l rfl
    obtain ⟨L, hL⟩ : ∃ L, L = 200000000 := ⟨_, rfl⟩
    rw [← hL] at lk
    have W1 := with_ret N a0 a1 b0 b1 (hw.touch [])
    have W2 := without_ret N a0 a1 b0 b1 (hw.touch [])
    have W0 := with_ret 0 a0 a1 b0 b1 (hw.touch [])
    rw [Nat.zero_or] at W0
    simp -dsimp (discharger := omega) [F5L0, -List.reduceReplicate, ← bv_zero, hlt', k20, r0, r1, r2]
    by_cases q0 : w = 0
    · subst q0
      simp -dsimp (discharger := omega) [-List.reduceReplicate, AHeap.read_of g5, take_wv]
      with_reducible refine ret_on [] (ret_f14 W1) ?_
      simp -dsimp (discharger := omega) [-List.reduceReplicate, AHeap.read_of g6, take_bv]
      with_reducible refine ret_on [] (ret_f14 (dwithT N ((hw.mono (m := n + 10) (by omega)).touch []))) ?_
      simp -dsimp (discharger := omega) [-List.reduceReplicate, g5, g6, take_wv, drop_wv, take_bv, drop_bv, hne, hne2]
      have M9 : TlMem i5 i6 (N ||| rng a b) h0 ((h.put i5 (.cells (some 26) (wv (N ||| rng a b)) 64)).put i6 (.cells (some 45) (bv (N ||| rng a b)) 4096)) (n + 10 + 2) := M0.put h5 h6 hne (by omega)
      refine ⟨by omega, by omega, ?_⟩
      with_reducible refine call_ret (lk M9 (vN.or (Vs.rng a b)) (by omega)) ?_
      simp -dsimp (discharger := omega) []
      exact fin M9 (by simp [telN]) (by omega) (by omega) (by omega) (by simp)
    by_cases q1 : w = 1
    · subst q1
      simp -dsimp (discharger := omega) [-List.reduceReplicate, AHeap.read_of g5, take_wv]
      with_reducible refine ret_on [] (ret_f14 W1) ?_
      simp -dsimp (discharger := omega) [-List.reduceReplicate, AHeap.read_of g6, take_bv]
      with_reducible refine ret_on [] (ret_f14 (dwithT N ((hw.mono (m := n + 10) (by omega)).touch []))) ?_
      simp -dsimp (discharger := omega) [-List.reduceReplicate, g5, g6, take_wv, drop_wv, take_bv, drop_bv, hne, hne2]
      have M9 : TlMem i5 i6 (N ||| rng a b) h0 ((h.put i5 (.cells (some 26) (wv (N ||| rng a b)) 64)).put i6 (.cells (some 45) (bv (N ||| rng a b)) 4096)) (n + 10 + 2) := M0.put h5 h6 hne (by omega)
      refine ⟨by omega, by omega, ?_⟩
      with_reducible refine call_ret (lk M9 (vN.or (Vs.rng a b)) (by omega)) ?_
      simp -dsimp (discharger := omega) []
      exact fin M9 (by simp [telN]) (by omega) (by omega) (by omega) (by simp)
    have f0 : (w == 0) = false := beq_false_of_ne q0
    have f1 : (w == 1) = false := beq_false_of_ne q1
    by_cases q2 : w = 2
    · subst q2
      simp -dsimp (discharger := omega) [-List.reduceReplicate, AHeap.read_of g5, take_wv]
      with_reducible refine ret_on [] (ret_f14 W2) ?_
      simp -dsimp (discharger := omega) [-List.reduceReplicate, AHeap.read_of g6, take_bv]
      with_reducible refine ret_on [] (ret_f14 (dwithF N ((hw.mono (m := n + 7) (by omega)).touch []))) ?_
      simp -dsimp (discharger := omega) [-List.reduceReplicate, g5, g6, take_wv, drop_wv, take_bv, drop_bv, hne, hne2]
      have M9 : TlMem i5 i6 (less N (rng a b)) h0 ((h.put i5 (.cells (some 26) (wv (less N (rng a b))) 64)).put i6 (.cells (some 45) (bv (less N (rng a b))) 4096)) (n + 7 + 2) := M0.put h5 h6 hne (by omega)
      refine ⟨by omega, by omega, ?_⟩
      with_reducible refine call_ret (lk M9 vN.less (by omega)) ?_
      simp -dsimp (discharger := omega) []
      exact fin M9 (by simp [telN]) (by omega) (by omega) (by omega) (by simp)
    have f2 : (w == 2) = false := beq_false_of_ne q2
    by_cases q3 : w = 3
    · subst q3
      simp -dsimp (discharger := omega) [-List.reduceReplicate, ← wv_zero, ← bv_zero, AHeap.read_of g5, take_wv, aFill, f0, f1, f2]
      with_reducible refine ret_on [] (ret_f14 W0) ?_
      simp -dsimp (discharger := omega) [-List.reduceReplicate]
      with_reducible refine ret_on [] (ret_f14 (union_ret N (rng a b) ((hw.mono (m := n + 10) (by omega)).touch []))) ?_
      simp -dsimp (discharger := omega) [-List.reduceReplicate, AHeap.read_of g6, take_bv, aFill]
      with_reducible refine ret_on [] (ret_f14 (dwith0 ((hw.mono (m := n + 10 + 6) (by omega)).touch []))) ?_
      simp -dsimp (discharger := omega) [-List.reduceReplicate]
      with_reducible refine ret_on [] (ret_f14 (dun_ret vN (Vs.rng a b) ((hw.mono (m := n + 10 + 6 + 2) (by omega)).touch []))) ?_
      simp -dsimp (discharger := omega) [-List.reduceReplicate, g5, g6, take_wv, drop_wv, take_bv, drop_bv, hne, hne2]
      have M9 : TlMem i5 i6 (N ||| rng a b) h0 ((h.put i5 (.cells (some 26) (wv (N ||| rng a b)) 64)).put i6 (.cells (some 45) (bv (N ||| rng a b)) 4096)) (n + 10 + 6 + 2 + 3) := M0.put h5 h6 hne (by omega)
      refine ⟨by omega, by omega, ?_⟩
      with_reducible refine call_ret (lk M9 (vN.or (Vs.rng a b)) (by omega)) ?_
      simp -dsimp (discharger := omega) []
      exact fin M9 (by simp [telN]) (by omega) (by omega) (by omega) (by simp)
    have f3 : (w == 3) = false := beq_false_of_ne q3
    by_cases q4 : w = 4
    · subst q4
      simp -dsimp (discharger := omega) [-List.reduceReplicate, ← wv_zero, ← bv_zero, AHeap.read_of g5, take_wv, aFill, f0, f1, f2, f3]
      with_reducible refine ret_on [] (ret_f14 W0) ?_
      simp -dsimp (discharger := omega) [-List.reduceReplicate]
      with_reducible refine ret_on [] (ret_f14 (meet_ret N (rng a b) ((hw.mono (m := n + 10) (by omega)).touch []))) ?_
      simp -dsimp (discharger := omega) [-List.reduceReplicate, AHeap.read_of g6, take_bv, aFill]
      with_reducible refine ret_on [] (ret_f14 (dwith0 ((hw.mono (m := n + 10 + 6) (by omega)).touch []))) ?_
      simp -dsimp (discharger := omega) [-List.reduceReplicate]
      with_reducible refine ret_on [] (ret_f14 (dme_ret vN (Vs.rng a b) ((hw.mono (m := n + 10 + 6 + 2) (by omega)).touch []))) ?_
      simp -dsimp (discharger := omega) [-List.reduceReplicate, g5, g6, take_wv, drop_wv, take_bv, drop_bv, hne, hne2]
      have M9 : TlMem i5 i6 (N &&& rng a b) h0 ((h.put i5 (.cells (some 26) (wv (N &&& rng a b)) 64)).put i6 (.cells (some 45) (bv (N &&& rng a b)) 4096)) (n + 10 + 6 + 2 + 3) := M0.put h5 h6 hne (by omega)
      refine ⟨by omega, by omega, ?_⟩
      with_reducible refine call_ret (lk M9 vN.and (by omega)) ?_
      simp -dsimp (discharger := omega) []
      exact fin M9 (by simp [telN]) (by omega) (by omega) (by omega) (by simp)
    have f4 : (w == 4) = false := beq_false_of_ne q4
    by_cases q5 : w = 5
    · subst q5
      obtain ⟨H2, hH2⟩ : ∃ H2, H2 = h.put n (.cells (some 3) [.int .i64 a, .int .i64 b] 2) := ⟨_, rfl⟩
      have gn : H2.get n = some (.cells (some 3) [.int .i64 a, .int .i64 b] 2) := by rw [hH2, AHeap.get_put_same]
      have w2 : WF H2 (n + 1) := by rw [hH2]; exact hw.put _ (by omega) (by omega)
      have s2 : HSub h H2 := by rw [hH2]; exact (HSub.refl h).new hw (Nat.le_refl _) _
      have g5' := s2 _ _ g5
      have g6' := s2 _ _ g6
      have M2 : TlMem i5 i6 N h0 H2 (n + 1) := ⟨fun a b hb => s2 _ _ (hs a b hb), w2, g5', g6'⟩
      have rd : H2.read n 2 0 2 = some (intL [a, b]) := by rw [AHeap.read_of gn]; rfl
      have c5 : Ret EV14 15 [.slice (some ⟨n, 0, some 2⟩) 2 2] H2 (n + 1) (.agg (wv (ofN [a, b])).toArray) [] (n + 1 + 22) := of_ret (ns := [a, b]) (by simp) (by simp; omega) w2 rd
      have eo : ofN [a, b] = rng a a ||| rng b b := by
        show (0 ||| rng a a) ||| rng b b = _
        rw [Nat.zero_or]
      rw [eo] at c5
      simp -dsimp (discharger := omega) [-List.reduceReplicate, aFill, f0, f1, f2, f3, f4, repeatCells]
      rw [← hH2]
      with_reducible refine call_ret (ret_f14 c5) ?_
      simp -dsimp (discharger := omega) [-List.reduceReplicate, aFill]
      with_reducible refine call_ret (ret_f14 (dwith0 (w2.mono (m := n + 1 + 22) (by omega)))) ?_
      simp -dsimp (discharger := omega) [-List.reduceReplicate]
      with_reducible refine call_ret (ret_f14 (dwithT (rng a a) (w2.mono (m := n + 1 + 22 + 2) (by omega)))) ?_
      simp -dsimp (discharger := omega) [-List.reduceReplicate, take_wv, drop_wv, take_bv, drop_bv, hne, hne2, g5', g6']
      have M9 : TlMem i5 i6 (rng a a ||| rng b b) h0 ((H2.put i5 (.cells (some 26) (wv (rng a a ||| rng b b)) 64)).put i6 (.cells (some 45) (bv (rng a a ||| rng b b)) 4096)) (n + 1 + 22 + 2 + 2) := M2.put h5 h6 hne (by omega)
      with_reducible refine call_ret (lk M9 ((Vs.rng a a).or (Vs.rng b b)) (by omega)) ?_
      simp -dsimp (discharger := omega) []
      exact fin M9 (by simp [telN, eo]) (by omega) (by omega) (by omega) (by simp)
    have f5 : (w == 5) = false := beq_false_of_ne q5
    simp -dsimp (discharger := omega) [-List.reduceReplicate, AHeap.read_of g5, AHeap.read_of g6, take_wv, take_bv, f0, f1, f2, f3, f4, f5]
    with_reducible refine call_ret (lk M0 vN (by omega)) ?_
    simp -dsimp (discharger := omega) []
    exact fin M0 (by simp [telN, q0, q1, q2, q3, q4, q5]) (by omega) (by omega) (by omega) (by simp)
theorem vtells_ret {rs : List (List Int)} (hl : rs.length < 9223372036854775808) (hr : ∀ r ∈ rs, RowOk ksD r) {u : Value} {z : Int} (hz0 : -9223372036854775808 ≤ z) (hz1 : z < 9223372036854775808) {h : AHeap} {n : Nat} (hw : WF h n) (hu : RowsD rs u h) (hg : Gm h) (hn : 4096 ≤ n) {m : Nat} (hm : m = n + 5000000000) :
    Ret FV14 5 [u, .int .i64 z] h n (.bool true) [] m := by
  obtain ⟨c, hc⟩ : ∃ c, c = 200001000 := ⟨_, rfl⟩
  refine wret_of (E := FV14) (af := F5) rfl (by show 2 ≤ 124; omega) (by simp) (by simp) ?_
  obtain ⟨H1, hH1⟩ : ∃ H, H = (h.put n (.cells (some 26) (wv 0) 64)).put (n + 1) (.cells (some 45) (bv 0) 4096) := ⟨_, rfl⟩
  have s1 : HSub h H1 := by rw [hH1]; exact ((HSub.refl h).new hw (Nat.le_refl _) _).new hw (Nat.le_succ _) _
  have w1 : WF H1 (n + 2) := by rw [hH1]; exact (hw.put (m := n + 2) _ (by omega) (by omega)).put _ (by omega) (Nat.le_refl _)
  have ga : H1.get n = some (.cells (some 26) (wv 0) 64) := by rw [hH1, AHeap.get_put_ne _ _ (by omega), AHeap.get_put_same]
  have gb : H1.get (n + 1) = some (.cells (some 45) (bv 0) 4096) := by rw [hH1, AHeap.get_put_same]
  simp -dsimp (discharger := omega) [F5, B5, -List.reduceReplicate, ← wv_zero, ← bv_zero]
  rw [← hH1]
  refine loop_use (tl_loop hc hl hr (z := z) (i5 := n) (i6 := n + 1) (by omega) (by omega) hg.gl (hw _ (Nat.le_refl _)) (hw _ (by omega)) hu (n0 := n + 2) rs.length _ _ _ ⟨0, by omega, by omega, Nat.le_refl _, by omega, ⟨s1, w1, ga, gb⟩, rfl⟩) (by simp) (.refl _) ?_
  rintro e σ' h' n' ⟨rfl, hn1, hn2, ⟨N, vN, hs, hw', g5, g6⟩, q1, q5, q6⟩
  obtain ⟨n8, hn8⟩ : ∃ x, x = n' + 1 + 200000000 := ⟨_, rfl⟩
  obtain ⟨n9, hn9⟩ : ∃ x, x = n8 + 2000000 := ⟨_, rfl⟩
  have hH := ret_f14 (has_ret N z (by omega) (by omega) hw')
  have hK := like_ret vN (hw'.mono (Nat.le_succ n')) (hg.sub hs).gl (by omega) hn8
  have hT := tells_ret (hw'.mono (m := n8) (by omega)) (hg.sub hs) (by omega) hn9
  have hcc : c * 20 = 4000020000 := by omega
  by_cases h1 : 1 ≤ z
  · by_cases h2 : z ≤ 4094
    · obtain ⟨k, rfl⟩ : ∃ k : Nat, z = (k : Int) := ⟨z.toNat, by omega⟩
      have e1 : List.take 1 (List.drop k (bv N)) = [.bool (N.testBit k)] := bvf_at _ (by omega)
      rw [hasZ_bit vN] at hH
      generalize N.testBit k = x at *
      simp -dsimp (discharger := omega) [-List.reduceReplicate, take_wv, q1, q5, q6, AHeap.read_of g5, AHeap.read_of g6, h1, h2, e1]
      with_reducible refine call_ret hH ?_
      simp -dsimp (discharger := omega) [-List.reduceReplicate, take_wv, take_bv, q5, q6, AHeap.read_of g5, AHeap.read_of g6]
      with_reducible refine call_ret hK ?_
      simp -dsimp (discharger := omega) [-List.reduceReplicate]
      with_reducible refine call_ret hT ?_
      simp -dsimp (discharger := omega) [F5]
      exact ⟨hs, by omega⟩
    · have e : hasZ N z = false := by unfold hasZ; rw [decide_eq_false (by omega)]; rfl
      rw [e] at hH
      simp -dsimp (discharger := omega) [-List.reduceReplicate, take_wv, q1, q5, AHeap.read_of g5, h1, h2]
      with_reducible refine call_ret hH ?_
      simp -dsimp (discharger := omega) [-List.reduceReplicate, take_wv, take_bv, q5, q6, AHeap.read_of g5, AHeap.read_of g6]
      with_reducible refine call_ret hK ?_
      simp -dsimp (discharger := omega) [-List.reduceReplicate]
      with_reducible refine call_ret hT ?_
      simp -dsimp (discharger := omega) [F5]
      exact ⟨hs, by omega⟩
  · have e : hasZ N z = false := by unfold hasZ; rw [decide_eq_false (by omega)]; rfl
    rw [e] at hH
    simp -dsimp (discharger := omega) [-List.reduceReplicate, take_wv, q1, q5, AHeap.read_of g5, h1]
    with_reducible refine call_ret hH ?_
    simp -dsimp (discharger := omega) [-List.reduceReplicate, take_wv, take_bv, q5, q6, AHeap.read_of g5, AHeap.read_of g6]
    with_reducible refine call_ret hK ?_
    simp -dsimp (discharger := omega) [-List.reduceReplicate]
    with_reducible refine call_ret hT ?_
    simp -dsimp (discharger := omega) [F5]
    exact ⟨hs, by omega⟩
end
end Go.Proofs.YtbgjcoochdljfaaDoorR.Am
