/- Contracts of the program's functions (X12). -/
import Derived.Test.YtkdpjaaohddppaaDoorX10
import Derived.Test.YtkdpjaaohddppaaDoorEH
namespace Go.Proofs.YtkdpjaaohddppaaDoor.Am
noncomputable section
/- THE WALK of RateBounds. -/
def f6_a : ACode := match F6L0 with | .seq a _ => a | c => c
def f6_b : ACode := match F6L0 with | .seq _ (.seq a _) => a | c => c
def f6_x : ACode := match F6L0 with | .seq _ (.seq _ (.seq (.block _ a) _)) => a | c => c
def f6_i : ACode := match F6L0 with | .seq _ (.seq _ (.seq _ a)) => a | c => c
def hd6 : ACode → ACode | .seq a _ => a | c => c
def tl6 : ACode → ACode | .seq _ b => b | c => c
def f6_1 : ACode := hd6 f6_x
def f6_2 : ACode := hd6 (tl6 f6_x)
def f6_3 : ACode := hd6 (tl6 (tl6 f6_x))
def f6_4 : ACode := hd6 (tl6 (tl6 (tl6 f6_x)))
def f6_5 : ACode := hd6 (tl6 (tl6 (tl6 (tl6 f6_x))))
def f6_6 : ACode := hd6 (tl6 (tl6 (tl6 (tl6 (tl6 f6_x)))))
def f6_7 : ACode := hd6 (tl6 (tl6 (tl6 (tl6 (tl6 (tl6 f6_x))))))
def f6_8 : ACode := hd6 (tl6 (tl6 (tl6 (tl6 (tl6 (tl6 (tl6 f6_x)))))))
def f6_9 : ACode := hd6 (tl6 (tl6 (tl6 (tl6 (tl6 (tl6 (tl6 (tl6 f6_x))))))))
def f6_10 : ACode := tl6 (tl6 (tl6 (tl6 (tl6 (tl6 (tl6 (tl6 (tl6 f6_x))))))))
theorem f6_eq : F6L0 = .seq f6_a (.seq f6_b (.seq (.block 1 (.seq f6_1 (.seq f6_2 (.seq f6_3 (.seq f6_4 (.seq f6_5 (.seq f6_6 (.seq f6_7 (.seq f6_8 (.seq f6_9 f6_10)))))))))) f6_i)) := rfl
theorem f6_8_eq : f6_8 = .region [⟨(some 98), (.fieldAddr 1 (.t 7)), none, []⟩, ⟨(some 99), (.load none (.t 98)), none, []⟩, ⟨(some 100), (.fieldAddr 0 (.t 7)), none, []⟩, ⟨(some 101), (.load none (.t 100)), none, []⟩, ⟨(some 102), (.mov (.t 8)), none, []⟩,
    ⟨(some 103), (.toFloat .f64 (.t 102)), none, []⟩, ⟨(some 104), (.bin .mul (.t 101) (.t 103)), none, []⟩, ⟨(some 105), (.bin .add (.t 99) (.t 104)), none, []⟩, ⟨(some 14), (.mov (.t 105)), none, []⟩] none := rfl
def ksT : List IntKind := [.u32, .u64]
/-- What is told at the end of a round's first half: the bucket, what was taken. -/
def tryB (a : Int) (b : Nat) : Blk := .cells (some 56) [.int .u32 a, .int .u64 (b : Int)] 2
def YInv (rs : List (List Int)) (i0 p R B : Nat) (m : Nat) (σ : Fr) (h : AHeap) (n : Nat) : Prop :=
  ∃ (k d t l : Nat), k + m = rs.length ∧ k ≤ 60 ∧ d ≤ k * 1048576 ∧ Acc R B l d t k ∧ HSub hI h ∧ WF h n ∧ n ≤ 6000 + 20 * k ∧
    h.get p = some (bktB R B l (d : Int)) ∧ h.get i0 = some (.cells none (rowsL ksT rs) 0) ∧
    σ = [(7, bktP p), (8, .int .i64 (d : Int)), (9, .float .f64 t), (41, .slice (some ⟨i0, 0, some (rs.length * 2)⟩) rs.length 0), (42, .int .i64 (rs.length : Int)), (43, .int .i64 (k : Int))]
theorem to_step {R B l d e : Nat} (hR : fClean R = R) (hB : fClean B = B) (hl : l ≤ B) (hBI : B ≤ fI) : toL R B l (d : Int) ((d + e : Nat) : Int) = afterN R B l e ∧ toA (d : Int) ((d + e : Nat) : Int) = ((d + e : Nat) : Int) := by
  have hc : fClean l = l := clean_id (by omega)
  unfold toL toA
  rw [hR, hB, hc, Nat.min_eq_left hl]
  by_cases he : e = 0
  · subst he
    rw [if_neg (by omega), if_neg (by omega)]
    refine ⟨?_, by simp⟩
    unfold afterN
    rw [if_pos rfl]
  · rw [if_pos (by omega), if_pos (by omega)]
    refine ⟨?_, rfl⟩
    congr 1
    omega
theorem add_fl {x y : Nat} (hx : x ≤ fI) (hy : y ≤ fI) : aFloatOp .add .f64 x y = some (.float .f64 (addP x y)) := by
  have := add_pos hx hy
  unfold aFloatOp
  show (Ieee.double.add x y).map _ = _
  rw [this]; rfl
theorem mul_fl {x y : Nat} (hx : x ≤ fI) (hy0 : 0 < y) (hy : y < fI) : aFloatOp .mul .f64 x y = some (.float .f64 (mulP x y)) := by
  have := mul_pos hx hy0 hy
  unfold aFloatOp
  show (Ieee.double.mul x y).map _ = _
  rw [this]; rfl
theorem ops_pure {E : Env} {o : AOper} {l : List AOper} {σ : Fr} {h : AHeap} {n : Nat} {v : Value} {σ' : Fr} {h' : AHeap} {n' : Nat} (pg : o.guard = none) (pa : aev (X.ev σ h) h n o.op = some (v, h, n)) (rest : Big E (.ops l (setDst σ o.dst (some v)) h n σ' h' n')) : Big E (.ops (o :: l) σ h n σ' h' n') :=
  .opsCons (.prim (by rw [pg]; simp) pa (Nat.le_refl _)) rest
set_option maxHeartbeats 2000000 in
theorem bounds_loop {rs : List (List Int)} (hl : rs.length < 9223372036854775808) (hr : ∀ r ∈ rs, RowOk ksT r) {i0 p R B : Nat} (hpi : p ≠ i0) (hp5 : 5 ≤ p) (hR : fClean R = R) (hB : fClean B = B) (hRI : R ≤ fI) (hBI : B ≤ fI) :
    ∀ (m : Nat) (σ : Fr) (h : AHeap) (n : Nat), YInv rs i0 p R B m σ h n → HasCode EV11 (.loop F6L0) σ h n BPost := by
  refine hc_inv _ fun m σ h n hI => ?_
  obtain ⟨k, d, t, l, hk, hk60, hd, hA, hs, hw, hn, hp, hi, rfl⟩ := hI
  rw [f6_eq]
  cases m with
  | zero =>
    refine hc_walk ?_
    simp -dsimp (discharger := omega) [f6_a, f6_b, F6L0]
    exact ⟨rfl, hs, hw, by omega⟩
  | succ m =>
    obtain ⟨x, hx⟩ : ∃ x, rs[k]? = some x := ⟨rs[k]'(by omega), List.getElem?_eq_getElem (by omega)⟩
    have hrd := rows_read hr hi hx
    have hxok := hr x (List.mem_of_getElem? hx)
    obtain ⟨la, nn, rfl, hnn, t1, t2⟩ : ∃ (la : Int) (nn : Nat), x = [la, (nn : Int)] ∧ nn < 18446744073709551616 ∧ 0 ≤ la ∧ la ≤ 4294967295 := by
      match x, hxok with
      | [la, nn], ⟨h2, h3, _⟩ =>
        have b1 := bounds_u32 h2
        have b2 := bounds_u64 h3
        exact ⟨la, nn.toNat, by rw [Int.toNat_of_nonneg (by omega)], by omega, by omega, by omega⟩
    have hrd : h.read i0 (rs.length * 2) (k * 2) 2 = some [.int .u32 la, .int .u64 (nn : Int)] := hrd
    have hpn := hw.lt hp
    have hin := hw.lt hi
    by_cases c60 : k = 60
    · subst c60
      refine hc_walk ?_
      have hrd : h.read i0 (rs.length * 2) 120 2 = some [.int .u32 la, .int .u64 (nn : Int)] := hrd
      simp -dsimp (discharger := omega) [f6_a, f6_b, f6_1, f6_2, f6_x, hd6, tl6, F6L0, hrd]
      exact ⟨rfl, hI_put (hI_put hs (by omega) _) (by omega) _, (hw.put _ (by omega) (Nat.le_succ n)).put _ (by omega) (Nat.le_refl _), by omega⟩
    · have hc60 : ((k : Int) == 60) = false := beq_eq_false_iff_ne.2 (by omega)
      refine hc_seqw ?_
      simp -dsimp (discharger := omega) [f6_a, F6L0]
      refine hc_seqw ?_
      simp -dsimp (discharger := omega) [f6_b, F6L0]
      refine hc_seq (hc_block (t := ()) ?_)
      refine hc_seqw ?_
      simp -dsimp (discharger := omega) [f6_1, f6_x, hd6, F6L0, hrd]
      obtain ⟨H0, hH0⟩ : ∃ H0, (h.put n (Blk.cells (some 56) [Value.int IntKind.u32 0, Value.int IntKind.u64 0] 2)).put n (Blk.cells (some 56) [Value.int IntKind.u32 la, Value.int IntKind.u64 (nn : Int)] 2) = H0 := ⟨_, rfl⟩
      rw [hH0]
      have st0 : StB i0 p p n (.cells none (rowsL ksT rs) 0) (tryB la nn) (bktB R B l d) (bktB R B l d) (n + 1) H0 := by
        rw [← hH0]
        refine ⟨hI_put (hI_put hs (by omega) _) (by omega) _, (hw.put _ (by omega) (Nat.le_succ n)).put _ (by omega) (Nat.le_refl _), ?_, ?_, ?_, AHeap.get_put_same _ _ _⟩
        · rw [AHeap.get_put_ne _ _ (by omega), AHeap.get_put_ne _ _ (by omega)]; exact hp
        · rw [AHeap.get_put_ne _ _ (by omega), AHeap.get_put_ne _ _ (by omega)]; exact hp
        · rw [AHeap.get_put_ne _ _ (by omega), AHeap.get_put_ne _ _ (by omega)]; exact hi
      obtain ⟨e, he, hel⟩ : ∃ e : Nat, la.tmod 1048576 = (e : Int) ∧ e < 1048576 := by
        refine ⟨(la % 1048576).toNat, ?_, by omega⟩
        rw [Int.tmod_eq_emod_of_nonneg (by omega)]
        omega
      have hx0 := st0.gx
      have hp0 := st0.gp
      have R64 : R < 18446744073709551616 := Nat.lt_of_le_of_lt hRI (by decide)
      have B64 : B < 18446744073709551616 := Nat.lt_of_le_of_lt hBI (by decide)
      have l64 : l < 18446744073709551616 := Nat.lt_of_le_of_lt (Nat.le_trans hA.lev hBI) (by decide)
      obtain ⟨to1, to2⟩ := to_step (d := d) (e := e) hR hB hA.lev hBI
      obtain ⟨D, hD⟩ : ∃ D, d + e = D := ⟨_, rfl⟩
      rw [hD] at to1 to2
      have HS := has_ret R64 B64 l64 (a := (d : Int)) (now := (D : Int)) (by omega) (by omega) (by omega) (by omega) hp0 st0.wf
      rw [to1, to2, hR, hB] at HS
      unfold tryB at hx0
      refine hc_seqw ?_
      simp -dsimp (discharger := omega) [f6_2, f6_x, hd6, tl6, F6L0, hc60]
      refine hc_seqw ?_
      simp -dsimp (discharger := omega) [f6_3, f6_x, hd6, tl6, F6L0, AHeap.read_of hx0, he]
      refine hc_seqw ?_
      simp -dsimp (discharger := omega) [f6_4, f6_x, hd6, tl6, F6L0, AHeap.read_of hx0]
      with_reducible refine call_ret (from_ret nn _ _) ?_
      simp -dsimp (discharger := omega) []
      refine hc_start [(7, bktP p), (8, .int .i64 (D : Int)), (9, .float .f64 t), (12, .float .f64 nn), (41, .slice (some ⟨i0, 0, some (rs.length * 2)⟩) rs.length 0), (42, .int .i64 (rs.length : Int)), (43, .int .i64 (k : Int))] (by simp [← hD]) (.refl _) ?_
      obtain ⟨L, hL⟩ : ∃ L, afterN R B l e = L := ⟨_, rfl⟩
      obtain ⟨y, hy⟩ : ∃ y, fClean nn = y := ⟨_, rfl⟩
      have hyI : y ≤ fI := by rw [← hy]; exact (clean_le hnn).1
      have hLB : L ≤ B := by rw [← hL]; exact after_le hA.lev
      have hLI : L ≤ fI := Nat.le_trans hLB hBI
      have L64 : L < 18446744073709551616 := Nat.lt_of_le_of_lt hLI (by decide)
      obtain ⟨to3, to4⟩ := to_step (d := D) (e := 0) hR hB hLB hBI
      have to3 : toL R B L (D : Int) (D : Int) = L := by rw [Nat.add_zero] at to3; rw [to3]; unfold afterN; rw [if_pos rfl]
      have to4 : toA (D : Int) (D : Int) = (D : Int) := by rw [Nat.add_zero] at to4; exact to4
      have C := fun H' m => clean_ret nn H' m
      rw [hy] at C
      have acc1 := hA.none (e := e) (by omega)
      have acc2 : y ≤ L → Acc R B (takeL L y) D (addP t y) (k + 1) := fun hyL => by
        have := hA.take hBI (e := e) (n := y) (by omega) (by rw [hL]; exact hyL)
        rw [hL, hD] at this
        unfold takeL
        rw [if_neg (by omega)]
        by_cases hLf : L = fI
        · rw [if_pos hLf] at this ⊢; rw [hLf]; exact this
        · rw [if_neg hLf] at this ⊢; exact this
      rw [hL, hD] at acc1
      rw [hL] at HS to1
      refine hc_seqw ?_
      simp -dsimp (discharger := omega) [f6_5, f6_x, hd6, tl6, F6L0]
      have hs1 : HSub hI (H0.put p (bktB R B L (D : Int))) := hI_put st0.hi hp5 _
      have hw1 : WF (H0.put p (bktB R B L (D : Int))) (n + 1 + 1) := st0.wf.put _ (by omega) (Nat.le_succ _)
      have hi1 : (H0.put p (bktB R B L (D : Int))).get i0 = some (.cells none (rowsL ksT rs) 0) := by rw [AHeap.get_put_ne _ _ hpi]; exact st0.gr
      with_reducible refine call_abs HS (fun H => HSub hI H ∧ WF H (n + 1 + 1) ∧ H.get p = some (bktB R B L (D : Int)) ∧ H.get i0 = some (.cells none (rowsL ksT rs) 0)) ?_ ?_
      · exact ⟨hs1, hw1, AHeap.get_put_same _ _ _, hi1⟩
      clear hs1 hw1 hi1
      rintro H1 ⟨hs1, hw1, hp1, hi1⟩
      have TK := take_ret R64 B64 L64 hnn (a := (D : Int)) (now := (D : Int)) (by omega) (by omega) (by omega) (by omega) hp1 hw1
      rw [to3, to4, hR, hB, hy] at TK
      simp -dsimp (discharger := omega) []
      have hlv : takeL L y ≤ L := takeL_le hLI
      refine hc_seqw ?_
      simp -dsimp (discharger := omega) [f6_6, f6_x, hd6, tl6, F6L0]
      have hs2 : HSub hI (H1.put p (bktB R B (takeL L y) (D : Int))) := hI_put hs1 hp5 _
      have hw2 : WF (H1.put p (bktB R B (takeL L y) (D : Int))) (n + 1 + 1 + 1) := hw1.put _ (by omega) (Nat.le_succ _)
      have hi2 : (H1.put p (bktB R B (takeL L y) (D : Int))).get i0 = some (.cells none (rowsL ksT rs) 0) := by rw [AHeap.get_put_ne _ _ hpi]; exact hi1
      with_reducible refine call_abs TK (fun H => HSub hI H ∧ WF H (n + 1 + 1 + 1) ∧ H.get p = some (bktB R B (takeL L y) (D : Int)) ∧ H.get i0 = some (.cells none (rowsL ksT rs) 0)) ?_ ?_
      · exact ⟨hs2, hw2, AHeap.get_put_same _ _ _, hi2⟩
      clear hs2 hw2 hi2
      rintro H2 ⟨hs2, hw2, hp2, hi2⟩
      have fin : ∀ (σ : Fr) (lv t' : Nat), Acc R B lv D t' (k + 1) → H2.get p = some (bktB R B lv (D : Int)) → σ.get 7 = some (bktP p) → σ.get 8 = some (.int .i64 (D : Int)) → σ.get 9 = some (.float .f64 t') → σ.get 41 = some (.slice (some ⟨i0, 0, some (rs.length * 2)⟩) rs.length 0) → σ.get 42 = some (.int .i64 (rs.length : Int)) → σ.get 43 = some (.int .i64 (k : Int)) →
          HasCodeT EV11 (f6_7.seq (f6_8.seq (f6_9.seq f6_10))) σ H2 (n + 1 + 1 + 1) (kBlock 1 (kThenH EV11 f6_i (kAgain (YInv rs i0 p R B) (m + 1) BPost () ()) ()) ()) () := by
        intro σ lv t' acc hp3 g7 g8 g9 g41 g42 g43
        have hlvI : lv ≤ fI := Nat.le_trans acc.lev hBI
        have q1 : (fLt 0 lv || fEq lv 0) = true := by
          rw [flt_pos (Nat.zero_le _) hlvI, feq_pos hlvI (Nat.zero_le _)]
          by_cases h0 : lv = 0
          · rw [decide_eq_true h0, Bool.or_true]
          · rw [decide_eq_true (show 0 < lv by omega)]; rfl
        have q2 : (fLt lv B || fEq lv B) = true := by
          have := acc.lev
          rw [flt_pos hlvI hBI, feq_pos hlvI hBI]
          by_cases h0 : lv = B
          · rw [decide_eq_true h0, Bool.or_true]
          · rw [decide_eq_true (show lv < B by omega)]; rfl
        have Sg := fun H' m => sign_ret hlvI H' m
        unfold bktP at g7
        refine hc_seqw ?_
        simp -dsimp (discharger := omega) [f6_7, f6_x, hd6, tl6, F6L0, g7, AHeap.read_of hp3, bktB, bktC, fl_geq, q1, fl_leq, q2]
        with_reducible refine call_ret (Sg _ _) ?_
        simp -dsimp (discharger := omega) [g7, g8, AHeap.read_of hp3, bktB, bktC]
        refine hc_start [(7, bktP p), (8, .int .i64 (D : Int)), (9, .float .f64 t'), (41, .slice (some ⟨i0, 0, some (rs.length * 2)⟩) rs.length 0), (42, .int .i64 (rs.length : Int)), (43, .int .i64 (k : Int))] (by simp [g7, g8, g9, g41, g42, g43, bktP]) (.refl _) ?_
        have most := acc.most hBI hRI (show D < 2 ^ 53 by omega) (show k + 1 ≤ 60 by omega)
        have hmI : mostN R B D ≤ fI := by
          unfold mostN; split
          · exact hBI
          · exact addP_le
        have hC1 : fC < fI := fC_fin
        have hmul := mul_fl hmI (show 0 < fC by decide) hC1
        have hgt : fLt (mulP (mostN R B D) fC) t' = false := by
          rw [flt_pos (mulP_le _ _) acc.top]
          exact decide_eq_false (by omega)
        unfold fC at hmul hgt
        have last : ∀ (σ : Fr), σ.get 7 = some (bktP p) → σ.get 8 = some (.int .i64 (D : Int)) → σ.get 9 = some (.float .f64 t') → σ.get 14 = some (.float .f64 (mostN R B D)) → σ.get 41 = some (.slice (some ⟨i0, 0, some (rs.length * 2)⟩) rs.length 0) → σ.get 42 = some (.int .i64 (rs.length : Int)) → σ.get 43 = some (.int .i64 (k : Int)) →
            HasCodeT EV11 f6_10 σ H2 (n + 1 + 1 + 1) (kBlock 1 (kThenH EV11 f6_i (kAgain (YInv rs i0 p R B) (m + 1) BPost () ()) ()) ()) () := by
          intro σ g7 g8 g9 g14 g41 g42 g43
          refine hc_walk ?_
          simp -dsimp (discharger := omega) [f6_10, f6_x, tl6, F6L0, g9, g14, hmul, fl_gtr, hgt]
          refine hc_walk ?_
          simp -dsimp (discharger := omega) [f6_i, F6L0, g43]
          exact .mk' m (by omega) [(7, bktP p), (8, .int .i64 (D : Int)), (9, .float .f64 t'), (41, .slice (some ⟨i0, 0, some (rs.length * 2)⟩) rs.length 0), (42, .int .i64 (rs.length : Int)), (43, .int .i64 ((k + 1 : Nat) : Int))] H2 (by simp [g7, g8, g9, g41, g42]) (.refl _)
            ⟨k + 1, D, t', lv, by omega, by omega, by omega, acc, hs2, hw2, by omega, hp3, hi2, rfl⟩
        by_cases hD0 : D = 0
        · subst hD0
          refine hc_seq ?_
          rw [f6_8_eq]
          refine ⟨.normal, _, H2, n + 1 + 1 + 1, .region (ops_pure (v := .pointer (some ⟨p, 1, some 4⟩)) rfl (by simp [bktP])
            (ops_pure (v := .float .f64 B) rfl (by simp [AHeap.read_of hp3, bktB, bktC]) (ops_pure (v := .pointer (some ⟨p, 0, some 4⟩)) rfl (by simp [bktP])
            (ops_pure (v := .float .f64 R) rfl (by simp [AHeap.read_of hp3, bktB, bktC]) (ops_pure (v := .int .i64 0) rfl (by simp)
            (ops_pure (v := .float .f64 (FloatKind.f64.nearest 0)) rfl (by simp)
            (.opsNan (d1 := 104) (k := .f64) (x := R) (y := FloatKind.f64.nearest 0) (z := B) rfl rfl rfl rfl rfl (by simp) (by simp) (by simp) (by simp) (by simp) (by simp) (.opsCons (.opMovAny rfl rfl) .opsNil)))))))), ?_⟩
          rw [kThenH_normal]
          refine hc_start [(7, bktP p), (8, .int .i64 0), (9, .float .f64 t'), (41, .slice (some ⟨i0, 0, some (rs.length * 2)⟩) rs.length 0), (42, .int .i64 (rs.length : Int)), (43, .int .i64 (k : Int))] (by simp) (.refl _) ?_
          have hmost : mostN R B 0 = B := by unfold mostN; rw [if_pos rfl]
          refine hc_seqw ?_
          simp -dsimp (discharger := omega) [f6_9, f6_x, hd6, tl6, F6L0, bktP, AHeap.read_of hp3, bktB, bktC]
          exact last _ (by simp [bktP]) (by simp) (by simp) (by simp [hmost]) (by simp) (by simp) (by simp)
        · obtain ⟨p0, p1⟩ := ofN_rng (d := D) (by omega) (by omega)
          have hn := near_nat D
          have hm := mul_fl hRI p0 p1
          have ha := add_fl hBI (mulP_le R (ofN D))
          have hmost : addP B (mulP R (ofN D)) = mostN R B D := by unfold mostN; rw [if_neg hD0]
          rw [hmost] at ha
          have hb0 : ((D : Int) == 0) = false := beq_eq_false_iff_ne.2 (by omega)
          refine hc_seqw ?_
          simp -dsimp (discharger := omega) [f6_8, f6_x, hd6, tl6, F6L0, AHeap.read_of hp3, bktP, bktB, bktC, hn, hm, ha]
          refine hc_seqw ?_
          simp -dsimp (discharger := omega) [f6_9, f6_x, hd6, tl6, F6L0, hb0]
          exact last _ (by simp [bktP]) (by simp) (by simp) (by simp) (by simp) (by simp) (by simp)
      by_cases hyL : y ≤ L
      · rw [decide_eq_true hyL]
        have hadd := add_fl hA.top hyI
        have hnot : fLt L y = false := by rw [flt_pos hLI hyI]; exact decide_eq_false (by omega)
        simp -dsimp (discharger := omega) []
        with_reducible refine call_ret (C _ _) ?_
        simp -dsimp (discharger := omega) [hadd]
        with_reducible refine call_ret (C _ _) ?_
        simp -dsimp (discharger := omega) [fl_gtr, hnot]
        exact fin _ _ _ (acc2 hyL) hp2 (by simp) (by simp) (by simp) (by simp) (by simp) (by simp)
      · rw [decide_eq_false hyL]
        have hnot : (fLt y L || fEq y L) = false := by
          rw [flt_pos hyI hLI, feq_pos hyI hLI, decide_eq_false (by omega), decide_eq_false (by omega)]; rfl
        have htl : takeL L y = L := by unfold takeL; rw [if_pos (by omega)]
        rw [htl] at hp2
        simp -dsimp (discharger := omega) []
        with_reducible refine call_ret (C _ _) ?_
        simp -dsimp (discharger := omega) [fl_leq, hnot]
        exact fin _ _ _ acc1 hp2 (by simp) (by simp) (by simp) (by simp) (by simp) (by simp)
end
end Go.Proofs.YtkdpjaaohddppaaDoor.Am
