/- Contracts of the program's functions (X7). -/
import Derived.Test.YtbgjcoochdljfaaDoorRX6
namespace Go.Proofs.YtbgjcoochdljfaaDoorR.Am
noncomputable section
/- THE ITERATOR: a set gone through. -/
section
variable {L iL : Nat} {rd : Blk} {dn : Ex → Blk} {σ0 : Fr} {pv : Nat} {A B : ACode} {S : Type} (hs : S → AHeap) (ns : S → Nat) (step : S → Nat → Ex × S) (ok : List Nat → S → Prop)
def OInv (L iL : Nat) (rd : Blk) (N : Nat) (s0 : S) (r : Nat) (σ : Fr) (h : AHeap) (n : Nat) : Prop :=
  ∃ (k : Nat) (s : S), k + r = 64 ∧ ok (elsP (cur N k (word N k)) 4096) s ∧ runR step (elsP (cur N k (word N k)) 4096) s = runR step (els N) s0 ∧ h = (hs s).put iL rd ∧ n = ns s ∧
    σ = [(0, .func (.yield L) #[] #[]), (6, .agg (wv N).toArray), (7, .int .i64 (k : Int))]
def OPost (iL : Nat) (rd : Blk) (dn : Ex → Blk) (N : Nat) (s0 : S) (e : Ex) (_ : Fr) (h' : AHeap) (n' : Nat) : Prop :=
  (e = .exit 0 ∨ e = .ret) ∧ h' = (hs (runR step (els N) s0).2).put iL (if isNorm (runR step (els N) s0).1 then rd else dn (runR step (els N) s0).1) ∧ n' = ns (runR step (els N) s0).2
theorem each_outer (htab : ∀ l s, ok l s → HasTab (hs s)) (hiL : ∀ l s, ok l s → (hs s).get iL = none) (hi0 : iL ≠ 0)
    (round : ∀ s v l, ok (v :: l) s → v < 4096 → HasCode EV14 A (setPs σ0 [pv] [.int .i64 (v : Nat)]) (hs s) (ns s) (fun e1 σ1 h1 n1 => e1 = .normal ∧ HasCode EV14 B σ1 h1 n1 (fun e _ hb n' => e = (step s v).1 ∧ hb = hs (step s v).2 ∧ n' = ns (step s v).2 ∧ (isNorm (step s v).1 = true → ok l (step s v).2))))
    {N : Nat} {s0 : S} :
    ∀ (m : Nat) (σ : Fr) (h : AHeap) (n : Nat), OInv hs ns step ok L iL rd N s0 m σ h n → HasCode (YV14 L iL rd dn σ0 pv A B) (.loop F38L1) σ h n (OPost hs ns step iL rd dn N s0) := by
  refine wx_inv _ fun m σ h n hI => ?_
  obtain ⟨k, s, hk, hok, hrun, rfl, rfl, rfl⟩ := hI
  cases m with
  | zero =>
    obtain rfl : k = 64 := by omega
    rw [cur_end] at hok hrun
    have fin : ∀ {σ : Fr}, OPost hs ns step iL rd dn N s0 (.exit 0) σ ((hs s).put iL rd) (ns s) := fun {σ} => ⟨.inl rfl, by rw [← hrun]; rfl, by rw [← hrun]; rfl⟩
    simp -dsimp (discharger := omega) [F38L1]
    exact fin
  | succ m =>
    have hlt : k < 64 := by omega
    have e1 := wv_get N hlt
    simp -dsimp (discharger := omega) [F38L1, e1]
    refine loop_use (each_inner hs ns step ok htab hiL hi0 round hlt _ _ _ _ ⟨word N k, s, word_lt N k, rfl, hok, hrun, rfl, rfl, rfl⟩) (by simp) (.refl _) ?_
    rintro e σ' h' n' (⟨s', rfl, hok', hrun', rfl, rfl, g1, g2, g3⟩ | ⟨rfl, hnn, rfl, rfl⟩)
    · rw [cur_next] at hok' hrun'
      simp -dsimp (discharger := omega) [g3]
      exact .mk' m (by omega) [(0, .func (.yield L) #[] #[]), (6, .agg (wv N).toArray), (7, .int .i64 ((k + 1 : Nat) : Int))] _ (by simp [g1, g2]) (.refl _) ⟨k + 1, s', by omega, hok', hrun', rfl, rfl, rfl⟩
    · have fin : ∀ {σ : Fr}, OPost hs ns step iL rd dn N s0 .ret σ ((hs (runR step (els N) s0).2).put iL (dn (runR step (els N) s0).1)) (ns (runR step (els N) s0).2) := fun {σ} => ⟨.inr rfl, by rw [hnn]; rfl, rfl⟩
      simp -dsimp (discharger := omega) []
      exact fin
theorem each_walk (htab : ∀ l s, ok l s → HasTab (hs s)) (hiL : ∀ l s, ok l s → (hs s).get iL = none) (hi0 : iL ≠ 0)
    (round : ∀ s v l, ok (v :: l) s → v < 4096 → HasCode EV14 A (setPs σ0 [pv] [.int .i64 (v : Nat)]) (hs s) (ns s) (fun e1 σ1 h1 n1 => e1 = .normal ∧ HasCode EV14 B σ1 h1 n1 (fun e _ hb n' => e = (step s v).1 ∧ hb = hs (step s v).2 ∧ n' = ns (step s v).2 ∧ (isNorm (step s v).1 = true → ok l (step s v).2))))
    {N p : Nat} {s0 : S} (hok : ok (els N) s0) (hp : (hs s0).get p = some (.cells (some 26) (wv N) 64)) :
    HasCallT (YV14 L iL rd dn σ0 pv A B) 38 [.func (.yield L) #[] #[], .pointer (some ⟨p, 0, some 64⟩)] ((hs s0).put iL rd) (ns s0) (fun v h' n' => v = .tuple #[] ∧ h' = (hs (runR step (els N) s0).2).put iL (if isNorm (runR step (els N) s0).1 then rd else dn (runR step (els N) s0).1) ∧ n' = ns (runR step (els N) s0).2) ⟨⟩ := by
  have hiL' := hiL _ _ hok
  have hp' : ((hs s0).put iL rd).get p = some (.cells (some 26) (wv N) 64) := by
    rw [AHeap.get_put_ne _ _ (fun e => by subst e; rw [hiL'] at hp; cases hp)]; exact hp
  refine wcall_inl (af := F38) rfl (by simp [F38]) ?_
  simp -dsimp (discharger := omega) [F38, B38, AHeap.read_of hp', take_wv]
  refine loop_use (each_outer hs ns step ok htab hiL hi0 round (N := N) (s0 := s0) 64 _ _ _ ⟨0, s0, rfl, by rw [cur_zero]; exact hok, by rw [cur_zero], rfl, rfl, rfl⟩) (by simp) (.refl _) ?_
  rintro e σ' h' n' ⟨rfl | rfl, rfl, rfl⟩
  · simp -dsimp (discharger := omega) []
    exact ⟨[], rfl, rfl⟩
  · simp -dsimp (discharger := omega) []
    exact ⟨[], rfl, rfl⟩
/-- A range over a set. -/
theorem range_each {σ : Fr} {h : AHeap} {n : Nat} {Q : Ex → Fr → AHeap → Nat → Prop} {t : Tok Q} {x : X} {N p : Nat} (s0 : S) (hh : hs s0 = h) (hn : ns s0 = n + 2) (hn0 : 0 < n)
    (hx : X.ev σ h x = some (.func (.func 38) #[] #[.pointer (some ⟨p, 0, some 64⟩)])) (hp : h.get p = some (.cells (some 26) (wv N) 64)) (σ0 : Fr) (hσ : ∀ p ∈ σ0, Fr.get σ p.1 = some p.2) (hok : ok (els N) s0)
    (htab : ∀ l s, ok l s → HasTab (hs s)) (hiL : ∀ l s, ok l s → (hs s).get n = none)
    (round : ∀ s v l, ok (v :: l) s → v < 4096 → HasCode EV14 A (setPs σ0 [pv] [.int .i64 (v : Nat)]) (hs s) (ns s) (fun e1 σ1 h1 n1 => e1 = .normal ∧ HasCode EV14 B σ1 h1 n1 (fun e _ hb n' => e = (step s v).1 ∧ hb = hs (step s v).2 ∧ n' = ns (step s v).2 ∧ (isNorm (step s v).1 = true → ok l (step s v).2))))
    (hfin : (hs (runR step (els N) s0).2).get n = none)
    (q : Q (runR step (els N) s0).1 σ (hs (runR step (els N) s0).2) (ns (runR step (els N) s0).2)) : HasCodeT (rangesEnv EV14) (.ranges x [pv] A B) σ h n Q t := by
  refine ranges_use σ0 _ (.tuple #[]) _ _ hx (show EV14.fs 38 = some F38 from rfl) hσ (fun L rd dn => ?_) q
  subst hh
  obtain ⟨v, hX, n', big, rfl, rfl, rfl⟩ := each_walk hs ns step ok (L := L) (iL := n) (rd := rd) (dn := dn) (σ0 := σ0) (pv := pv) (A := A) (B := B) htab hiL (by omega) round hok hp
  rw [hn] at big
  refine ⟨_, big, by rw [AHeap.get_put_same], fun i b hb => ?_⟩
  have hne : i ≠ n := fun e => by subst e; rw [hfin] at hb; cases hb
  exact ⟨by rw [AHeap.get_put_ne _ _ (fun e => hne e.symm)]; exact hb, hne⟩
end
end
end Go.Proofs.YtbgjcoochdljfaaDoorR.Am
