/- Contracts of the program's functions (X10). -/
import Derived.Test.YtkdpjaaohddppaaDoorX9
import Derived.Test.YtkdpjaaohddppaaDoorX8
import Derived.Test.YtkdpjaaohddppaaDoorDT
import Derived.OpenShut
namespace Go.Proofs.YtkdpjaaohddppaaDoor.Am
noncomputable section
/- THE WALK of RateBuckets. -/
def e3_end : ACode := match F3L0 with | .seq _ (.seq _ (.seq (.block _ (.seq _ (.seq _ (.seq _ (.seq _ (.seq _ e)))))) _)) => e | c => c
def e3_a : ACode := match F3L0 with | .seq a _ => a | c => c
def e3_b : ACode := match F3L0 with | .seq _ (.seq a _) => a | c => c
def e3_1 : ACode := match F3L0 with | .seq _ (.seq _ (.seq (.block _ (.seq a _)) _)) => a | c => c
def e3_2 : ACode := match F3L0 with | .seq _ (.seq _ (.seq (.block _ (.seq _ (.seq a _))) _)) => a | c => c
def e3_3 : ACode := match F3L0 with | .seq _ (.seq _ (.seq (.block _ (.seq _ (.seq _ (.seq a _)))) _)) => a | c => c
def e3_4 : ACode := match F3L0 with | .seq _ (.seq _ (.seq (.block _ (.seq _ (.seq _ (.seq _ (.seq a _))))) _)) => a | c => c
def e3_5 : ACode := match F3L0 with | .seq _ (.seq _ (.seq (.block _ (.seq _ (.seq _ (.seq _ (.seq _ (.seq a _)))))) _)) => a | c => c
def e3_i : ACode := match F3L0 with | .seq _ (.seq _ (.seq _ a)) => a | c => c
theorem e3_eq : F3L0 = .seq e3_a (.seq e3_b (.seq (.block 1 (.seq e3_1 (.seq e3_2 (.seq e3_3 (.seq e3_4 (.seq e3_5 e3_end)))))) e3_i)) := rfl
/-- A row of a list of rows, read. -/
theorem rows_read {ks : List IntKind} {rs : List (List Int)} (hr : ∀ r ∈ rs, RowOk ks r) {h : AHeap} {i : Nat} (hg : h.get i = some (.cells none (rowsL ks rs) 0)) {k : Nat} {r : List Int} (hk : rs[k]? = some r) : h.read i (rs.length * ks.length) (k * ks.length) ks.length = some (rowC ks r) := by
  have hrow := rowsL_row hr hk
  have hlt := (List.getElem?_eq_some_iff.1 hk).1
  have hlen := rowsL_len hr
  have h1 : (k + 1) * ks.length ≤ rs.length * ks.length := Nat.mul_le_mul_right _ hlt
  rw [Nat.add_mul, Nat.one_mul] at h1
  rw [AHeap.read_of hg]
  simp only [Blk.read]
  rw [if_pos ⟨Nat.zero_le _, by rw [hlen]; exact Nat.le_refl _, h1⟩, hrow]
def ksA : List IntKind := [.i64, .i64, .u64]
def dbktB (r b l : Nat) (a : Int) : Blk := .cells (some 29) (bktC r b l a) 4
def actB (wh tn : Int) (nn : Nat) : Blk := .cells (some 32) [.int .i64 wh, .int .i64 tn, .int .u64 (nn : Int)] 3
def rowsB (rs : List (List Int)) : Blk := .cells none (rowsL ksA rs) 0
def BInv (rs : List (List Int)) (i0 p q : Nat) (m : Nat) (σ : Fr) (h : AHeap) (n : Nat) : Prop :=
  ∃ (k r b l : Nat) (a : Int), k + m = rs.length ∧ k ≤ 60 ∧ r < 18446744073709551616 ∧ b < 18446744073709551616 ∧ l < 18446744073709551616 ∧ -9223372036854775808 ≤ a ∧ a ≤ 9223372036854775807 ∧ HSub hI h ∧ WF h n ∧ n ≤ 6000 + 200 * k ∧
    h.get p = some (bktB r b l a) ∧ h.get q = some (dbktB r b l a) ∧ h.get i0 = some (.cells none (rowsL ksA rs) 0) ∧
    σ = [(7, bktP p), (8, bktP q), (30, .slice (some ⟨i0, 0, some (rs.length * 3)⟩) rs.length 0), (31, .int .i64 (rs.length : Int)), (32, .int .i64 (k : Int))]
def BPost (e : Ex) (_ : Fr) (h' : AHeap) (n' : Nat) : Prop := e = .exit 0 ∧ HSub hI h' ∧ WF h' n' ∧ n' ≤ 60000
theorem call_abs {E : Env} {f : Nat} {args : List Value} {h : AHeap} {n : Nat} {v : Value} {l : List (Nat × Blk)} {n' : Nat} {Q : Value → AHeap → Nat → Prop} {t : Tok Q} (x : Ret E f args h n v l n') (F : AHeap → Prop) (hf : F (putsL h l)) (q : ∀ H, F H → Q v H n') : HasCallT E f args h n Q t := call_ret x (q _ hf)
/-- The memory in a round: the program's bucket, the document's, the calls, this call. -/
structure StB (i0 p q n : Nat) (R X P Q : Blk) (N : Nat) (H : AHeap) : Prop where
  hi : HSub hI H
  wf : WF H N
  gp : H.get p = some P
  gq : H.get q = some Q
  gr : H.get i0 = some R
  gx : H.get n = some X
section
variable {i0 p q n : Nat} {R X P Q : Blk} {N : Nat} {H : AHeap}
theorem StB.putP (s : StB i0 p q n R X P Q N H) (hpq : p ≠ q) (hpi : p ≠ i0) (hpn : p ≠ n) (hp5 : 5 ≤ p) (P' : Blk) {M : Nat} (hM : N ≤ M) : StB i0 p q n R X P' Q M (H.put p P') :=
  ⟨hI_put s.hi hp5 _, s.wf.put _ (by have := s.wf.lt s.gp; omega) hM, by simp, by rw [AHeap.get_put_ne _ _ hpq]; exact s.gq, by rw [AHeap.get_put_ne _ _ hpi]; exact s.gr, by rw [AHeap.get_put_ne _ _ hpn]; exact s.gx⟩
theorem StB.putQ (s : StB i0 p q n R X P Q N H) (hpq : p ≠ q) (hqi : q ≠ i0) (hqn : q ≠ n) (hq5 : 5 ≤ q) (Q' : Blk) {M : Nat} (hM : N ≤ M) : StB i0 p q n R X P Q' M (H.put q Q') :=
  ⟨hI_put s.hi hq5 _, s.wf.put _ (by have := s.wf.lt s.gq; omega) hM, by rw [AHeap.get_put_ne _ _ (fun e => hpq e.symm)]; exact s.gp, by simp, by rw [AHeap.get_put_ne _ _ hqi]; exact s.gr, by rw [AHeap.get_put_ne _ _ hqn]; exact s.gx⟩
theorem StB.new (s : StB i0 p q n R X P Q N H) {i : Nat} (hi : N ≤ i) (b : Blk) {M : Nat} (hM : i < M) : StB i0 p q n R X P Q M (H.put i b) := by
  have h1 := s.wf.lt s.gp
  have h2 := s.wf.lt s.gq
  have h3 := s.wf.lt s.gr
  have h4 := s.wf.lt s.gx
  have h5 := s.wf.lt (s.hi 4 _ rfl)
  exact ⟨hI_put s.hi (by omega) _, s.wf.put _ hM (by omega), by rw [AHeap.get_put_ne _ _ (by omega)]; exact s.gp, by rw [AHeap.get_put_ne _ _ (by omega)]; exact s.gq, by rw [AHeap.get_put_ne _ _ (by omega)]; exact s.gr, by rw [AHeap.get_put_ne _ _ (by omega)]; exact s.gx⟩
theorem StB.mono (s : StB i0 p q n R X P Q N H) {M : Nat} (hM : N ≤ M) : StB i0 p q n R X P Q M H := ⟨s.hi, s.wf.mono hM, s.gp, s.gq, s.gr, s.gx⟩
theorem StB.over {i : Nat} {b c : Blk} (x : StB i0 p q n R X P Q N (H.put i c)) : StB i0 p q n R X P Q N ((H.put i b).put i c) := by
  have e : ∀ j, ((H.put i b).put i c).get j = (H.put i c).get j := fun j => by
    by_cases h : i = j
    · subst h; simp
    · rw [AHeap.get_put_ne _ _ h, AHeap.get_put_ne _ _ h, AHeap.get_put_ne _ _ h]
  exact ⟨fun j d hd => (e j).trans (x.hi j d hd), fun j hj => (e j).trans (x.wf j hj), (e p).trans x.gp, (e q).trans x.gq, (e i0).trans x.gr, (e n).trans x.gx⟩
end
set_option maxHeartbeats 2000000 in
theorem buckets_loop {rs : List (List Int)} (hl : rs.length < 9223372036854775808) (hr : ∀ r ∈ rs, RowOk ksA r) {i0 p q : Nat} (hpq : p ≠ q) (hpi : p ≠ i0) (hqi : q ≠ i0) (hp5 : 5 ≤ p) (hq5 : 5 ≤ q) :
    ∀ (m : Nat) (σ : Fr) (h : AHeap) (n : Nat), BInv rs i0 p q m σ h n → HasCode EV11 (.loop F3L0) σ h n BPost := by
  refine wx_inv _ fun m σ h n hI => ?_
  obtain ⟨k, r, b, l, a, hk, hk60, hr64, hb64, hl64, a1, a2, hs, hw, hn, hp, hq, hi, rfl⟩ := hI
  rw [e3_eq]
  cases m with
  | zero =>
    simp -dsimp (discharger := omega) [e3_a, e3_b, F3L0]
    exact ⟨rfl, hs, hw, by omega⟩
  | succ m =>
    obtain ⟨x, hx⟩ : ∃ x, rs[k]? = some x := ⟨rs[k]'(by omega), List.getElem?_eq_getElem (by omega)⟩
    have hrd := rows_read hr hi hx
    have hxok := hr x (List.mem_of_getElem? hx)
    obtain ⟨wh, tn, nn, rfl, hnn, t1, t2⟩ : ∃ (wh tn : Int) (nn : Nat), x = [wh, tn, (nn : Int)] ∧ nn < 18446744073709551616 ∧ -9223372036854775808 ≤ tn ∧ tn ≤ 9223372036854775807 := by
      match x, hxok with
      | [wh, tn, nn], ⟨_, h2, h3, _⟩ =>
        have b1 := bounds_i64 h2
        have b2 := bounds_u64 h3
        exact ⟨wh, tn, nn.toNat, by rw [Int.toNat_of_nonneg (by omega)], by omega, by omega, by omega⟩
    have hrd : h.read i0 (rs.length * 3) (k * 3) 3 = some [.int .i64 wh, .int .i64 tn, .int .u64 (nn : Int)] := hrd
    by_cases c60 : k = 60
    · subst c60
      have hrd : h.read i0 (rs.length * 3) 180 3 = some [.int .i64 wh, .int .i64 tn, .int .u64 (nn : Int)] := hrd
      simp -dsimp (discharger := omega) [e3_a, e3_b, e3_1, e3_2, F3L0, hrd]
      exact ⟨rfl, .new (.new hs hI_wf (by have := hw.lt hp; omega) _) hI_wf (by have := hw.lt hp; omega) _, (hw.put _ (by omega) (Nat.le_succ n)).put _ (by omega) (Nat.le_refl _), by omega⟩
    · have hc60 : ((k : Int) == 60) = false := beq_eq_false_iff_ne.2 (by omega)
      simp -dsimp (discharger := omega) [e3_a, e3_b, e3_1, e3_2, e3_3, F3L0, hrd, hc60]
      with_reducible refine call_ret (from_ret nn _ _) ?_
      have hpn := hw.lt hp
      have hqn := hw.lt hq
      have hin := hw.lt hi
      have hn5 : 5 ≤ n := by omega
      obtain ⟨H0, hH0⟩ : ∃ H0, (h.put n (Blk.cells (some 32) [Value.int IntKind.i64 0, Value.int IntKind.i64 0, Value.int IntKind.u64 0] 3)).put n (Blk.cells (some 32) [Value.int IntKind.i64 wh, Value.int IntKind.i64 tn, Value.int IntKind.u64 (nn : Int)] 3) = H0 := ⟨_, rfl⟩
      have hs0 : HSub hI H0 := by rw [← hH0]; exact hI_put (hI_put hs hn5 _) hn5 _
      have hw0 : WF H0 (n + 1) := by rw [← hH0]; exact (hw.put _ (by omega) (Nat.le_succ n)).put _ (by omega) (Nat.le_refl _)
      have hp0 : H0.get p = some (bktB r b l a) := by rw [← hH0, AHeap.get_put_ne _ _ (by omega), AHeap.get_put_ne _ _ (by omega)]; exact hp
      have hq0 : H0.get q = some (dbktB r b l a) := by rw [← hH0, AHeap.get_put_ne _ _ (by omega), AHeap.get_put_ne _ _ (by omega)]; exact hq
      have hi0' : H0.get i0 = some (.cells none (rowsL ksA rs) 0) := by rw [← hH0, AHeap.get_put_ne _ _ (by omega), AHeap.get_put_ne _ _ (by omega)]; exact hi
      have hx0 : H0.get n = some (.cells (some 32) [Value.int IntKind.i64 wh, Value.int IntKind.i64 tn, Value.int IntKind.u64 (nn : Int)] 3) := by rw [← hH0]; exact AHeap.get_put_same _ _ _
      rw [hH0]
      have st0 : StB i0 p q n (rowsB rs) (actB wh tn nn) (bktB r b l a) (dbktB r b l a) (n + 1) H0 := ⟨hs0, hw0, hp0, hq0, hi0', hx0⟩
      have hpn' : p ≠ n := by omega
      have hqn' : q ≠ n := by omega
      have fin : ∀ {σ : Fr} {H : AHeap} {N : Nat} {r b l : Nat} {a : Int}, σ.get 7 = some (bktP p) → σ.get 8 = some (bktP q) → σ.get 12 = some (.bool true) → σ.get 30 = some (.slice (some ⟨i0, 0, some (rs.length * 3)⟩) rs.length 0) → σ.get 31 = some (.int .i64 (rs.length : Int)) → σ.get 32 = some (.int .i64 (k : Int)) →
          r < 18446744073709551616 → b < 18446744073709551616 → l < 18446744073709551616 → -9223372036854775808 ≤ a → a ≤ 9223372036854775807 → StB i0 p q n (rowsB rs) (actB wh tn nn) (bktB r b l a) (dbktB r b l a) N H → N ≤ n + 190 →
          wx EV11 e3_end σ H N (kBlock 1 (kThen EV11 e3_i (kAgain (BInv rs i0 p q) (m + 1) BPost () ()) ()) ()) () := by
        intro σ H N r b l a g7 g8 g12 g30 g31 g32 f1 f2 f3 f4 f5 st f8
        have f7 := st.wf
        have f9 := st.gp
        have f10 := st.gq
        have S := fun H' m (x : WF H' m) => @same_bkt r b l a H' m x
        unfold bkt at S
        unfold bktP at g7 g8
        simp -dsimp (discharger := omega) [e3_end, F3L0, g7, g8, g12, AHeap.read_of f9, AHeap.read_of f10, bktB, dbktB, bktC]
        with_reducible refine call_ret (S _ _ f7) ?_
        simp -dsimp (discharger := omega) [e3_i, F3L0, g32]
        exact .mk' m (by omega) [(7, bktP p), (8, bktP q), (30, .slice (some ⟨i0, 0, some (rs.length * 3)⟩) rs.length 0), (31, .int .i64 (rs.length : Int)), (32, .int .i64 ((k + 1 : Nat) : Int))] H (by simp [g7, g8, g30, g31, bktP]) (.refl _)
          ⟨k + 1, r, b, l, a, by omega, by omega, f1, f2, f3, f4, f5, st.hi, f7.mono (by omega), by omega, f9, f10, st.gr, rfl⟩
      have cr := (clean_le hr64).1
      have cb := (clean_le hb64).1
      have cn := (clean_le hnn).1
      have cL := (toL_le (l := l) hr64 hb64 a tn).2
      have cT := takeL_le (n := fClean nn) cL
      have hfI : fI < 18446744073709551616 := by decide
      have cA : -9223372036854775808 ≤ toA a tn ∧ toA a tn ≤ 9223372036854775807 := by unfold toA; split <;> omega
      simp -dsimp (discharger := omega) [e3_4, F3L0]
      by_cases w0 : wh = 0
      · subst w0
        have T := take_ret hr64 hb64 hl64 hnn a1 a2 t1 t2 hp0 hw0
        unfold bktP at T
        simp -dsimp (discharger := omega) [e3_5, F3L0, AHeap.read_of hx0, bktP]
        with_reducible refine call_abs T (StB i0 p q n _ _ (bktB (fClean r) (fClean b) (takeL (toL r b l a tn) (fClean nn)) (toA a tn)) _ (n + 1 + 1)) (st0.putP hpq hpi hpn' hp5 _ (by omega)) ?_
        rintro H1 st1
        have D := dtake_ret hr64 hb64 hl64 hnn a1 t2 st1.wf
        unfold bkt at D
        simp -dsimp (discharger := omega) [AHeap.read_of st1.gq, AHeap.read_of st1.gx, actB, dbktB, bktC]
        with_reducible refine call_ret D ?_
        simp -dsimp (discharger := omega) [st1.gq, dbktB, bktC]
        refine fin (r := fClean r) (b := fClean b) (l := takeL (toL r b l a tn) (fClean nn)) (a := toA a tn) (by simp [bktP]) (by simp [bktP]) (by simp) (by simp) (by simp) (by simp) (by omega) (by omega) (by omega) cA.1 cA.2 ?_ (by omega)
        exact (StB.over (st1.new (by omega) _ (by omega))).putQ hpq hqi hqn' hq5 _ (Nat.le_refl _)
      · by_cases w1 : wh = 1
        · subst w1
          have D := dto_ret hr64 hb64 hl64 (now := tn) a1 t2 hw0
          unfold bkt at D
          simp -dsimp (discharger := omega) [e3_5, F3L0, AHeap.read_of hx0, AHeap.read_of hq0, dbktB, bktC, bktP]
          with_reducible refine call_ret D ?_
          simp -dsimp (discharger := omega) [AHeap.read_of hx0, hq0, dbktB, bktC]
          obtain ⟨H1, hH1⟩ : ∃ H1, H0.put q (Blk.cells (some 29) [Value.float FloatKind.f64 (fClean r), Value.float FloatKind.f64 (fClean b), Value.float FloatKind.f64 (toL r b l a tn), Value.int IntKind.i64 (toA a tn)] 4) = H1 := ⟨_, rfl⟩
          have st1 : StB i0 p q n (rowsB rs) (actB 1 tn nn) (bktB r b l a) (dbktB (fClean r) (fClean b) (toL r b l a tn) (toA a tn)) (n + 1 + 5) H1 := by rw [← hH1]; exact st0.putQ hpq hqi hqn' hq5 _ (by omega)
          rw [hH1]
          have T := has_ret hr64 hb64 hl64 a1 a2 t1 t2 st1.gp st1.wf
          have A := fun H' m => alike_ret (toL r b l a tn) H' m
          unfold bktP at T
          with_reducible refine ret_ret T ?_
          simp -dsimp (discharger := omega) [AHeap.read_of st1.gq, hpq, dbktB, bktC]
          with_reducible refine ret_ret (A _ _) ?_
          simp -dsimp (discharger := omega) []
          refine fin (r := fClean r) (b := fClean b) (l := toL r b l a tn) (a := toA a tn) (by simp [bktP]) (by simp [bktP]) (by simp) (by simp) (by simp) (by simp) (by omega) (by omega) (by omega) cA.1 cA.2 ?_ (by omega)
          exact st1.putP hpq hpi hpn' hp5 _ (Nat.le_succ _)
        · by_cases w2 : wh = 2
          · subst w2
            obtain ⟨t, ht⟩ := there_ex (r := fClean r) cb (Nat.min_le_right (fClean l) (fClean b)) (fClean nn)
            have W := wait_ret hr64 hb64 hl64 hnn ht hp0 hw0
            have D := fun H' m (x : WF H' m) => @dwait_ret r b l nn hr64 hb64 hl64 hnn a t ht H' m x
            unfold bktP at W
            unfold bkt at D
            simp -dsimp (discharger := omega) [e3_5, F3L0, AHeap.read_of hx0, bktP]
            with_reducible refine call_ret W ?_
            unfold waitV at D ⊢
            by_cases hc : t ≤ 1099511627776
            · rw [if_pos hc] at D ⊢
              simp -dsimp (discharger := omega) [AHeap.read_of hq0, dbktB, bktC]
              with_reducible refine call_ret (D _ _ ?_) ?_
              · exact hw0.mono (by omega)
              simp -dsimp (discharger := omega) []
              exact fin (r := r) (b := b) (l := l) (a := a) (by simp [bktP]) (by simp [bktP]) (by simp) (by simp) (by simp) (by simp) hr64 hb64 hl64 a1 a2 (st0.mono (by omega)) (by omega)
            · rw [if_neg hc] at D ⊢
              simp -dsimp (discharger := omega) [AHeap.read_of hq0, dbktB, bktC]
              with_reducible refine call_ret (D _ _ ?_) ?_
              · exact hw0.mono (by omega)
              simp -dsimp (discharger := omega) []
              exact fin (r := r) (b := b) (l := l) (a := a) (by simp [bktP]) (by simp [bktP]) (by simp) (by simp) (by simp) (by simp) hr64 hb64 hl64 a1 a2 (st0.mono (by omega)) (by omega)
          · by_cases w3 : wh = 3
            · subst w3
              simp -dsimp (discharger := omega) [e3_5, F3L0, AHeap.read_of hx0, hp0, hq0, hpq, bktP, bktB, dbktB, bktC]
              refine fin (r := nn) (b := b) (l := l) (a := a) (by simp [bktP]) (by simp [bktP]) (by simp) (by simp) (by simp) (by simp) hnn hb64 hl64 a1 a2 ?_ (by omega)
              exact (st0.putP hpq hpi hpn' hp5 _ (Nat.le_refl _)).putQ hpq hqi hqn' hq5 _ (Nat.le_refl _)
            · by_cases w4 : wh = 4
              · subst w4
                simp -dsimp (discharger := omega) [e3_5, F3L0, AHeap.read_of hx0, hp0, hq0, hpq, bktP, bktB, dbktB, bktC]
                refine fin (r := r) (b := nn) (l := l) (a := a) (by simp [bktP]) (by simp [bktP]) (by simp) (by simp) (by simp) (by simp) hr64 hnn hl64 a1 a2 ?_ (by omega)
                exact (st0.putP hpq hpi hpn' hp5 _ (Nat.le_refl _)).putQ hpq hqi hqn' hq5 _ (Nat.le_refl _)
              · by_cases w5 : wh = 5
                · subst w5
                  simp -dsimp (discharger := omega) [e3_5, F3L0, AHeap.read_of hx0, hp0, hq0, hpq, bktP, bktB, dbktB, bktC]
                  refine fin (r := r) (b := b) (l := nn) (a := a) (by simp [bktP]) (by simp [bktP]) (by simp) (by simp) (by simp) (by simp) hr64 hb64 hnn a1 a2 ?_ (by omega)
                  exact (st0.putP hpq hpi hpn' hp5 _ (Nat.le_refl _)).putQ hpq hqi hqn' hq5 _ (Nat.le_refl _)
                · have b0 : (wh == 0) = false := beq_eq_false_iff_ne.2 w0
                  have b1 : (wh == 1) = false := beq_eq_false_iff_ne.2 w1
                  have b2 : (wh == 2) = false := beq_eq_false_iff_ne.2 w2
                  have b3 : (wh == 3) = false := beq_eq_false_iff_ne.2 w3
                  have b4 : (wh == 4) = false := beq_eq_false_iff_ne.2 w4
                  have b5 : (wh == 5) = false := beq_eq_false_iff_ne.2 w5
                  simp -dsimp (discharger := omega) [e3_5, F3L0, AHeap.read_of hx0, b0, b1, b2, b3, b4, b5, bktP]
                  exact fin (r := r) (b := b) (l := l) (a := a) (by simp [bktP]) (by simp [bktP]) (by simp) (by simp) (by simp) (by simp) hr64 hb64 hl64 a1 a2 st0 (by omega)
end
end Go.Proofs.YtkdpjaaohddppaaDoor.Am
