/- Contracts of the program's functions (X6). -/
import Derived.Test.YtbgjcoochdljfaaDoorRX5
import Derived.Test.YtbgjcoochdljfaaDoorRLVq
import Derived.Test.YtbgjcoochdljfaaDoorRCR
namespace Go.Proofs.YtbgjcoochdljfaaDoorR.Am
noncomputable section
/- CONTRACTS: the lowest bit; a set gone through. -/
def dbT : List Nat := [0, 1, 56, 2, 57, 49, 28, 3, 61, 58, 42, 50, 38, 29, 17, 4, 62, 47, 59, 36, 45, 43, 51, 22, 53, 39, 33, 30, 24, 18, 12, 5, 63, 55, 48, 27, 60, 41, 37, 16, 46, 35, 44, 21, 52, 32, 23, 11, 54, 26, 40, 15, 34, 20, 31, 10, 25, 14, 19, 9, 13, 8, 7, 6]
def tabL : List Value := dbT.map fun (x : Nat) => .int .u8 (x : Int)
def HasTab (h : AHeap) : Prop := h.get 0 = some (.cells none tabL 0)
theorem db_at : ∀ j : Fin 64, dbT[(2 ^ j.1 * 285870213051353865) % 18446744073709551616 / 288230376151711744]? = some j.1 := by decide +kernel
theorem tz_ret {x j : Nat} (hl : IsLow x j) (hx : x < 18446744073709551616) {h : AHeap} (ht : HasTab h) (n : Nat) : Ret EV14 39 [.int .u64 (x : Int)] h n (.int .i64 (j : Nat)) [] n := by
  have hj := hl.lt hx
  have hne : x ≠ 0 := fun e => by have := hl.bit; rw [e] at this; simp at this
  have ho := hl.only hx
  have e0 : ((x : Int) == 0) = false := by simpa using hne
  have e1 : IntKind.u64.wrap (-(x : Int)) = ((18446744073709551616 - x : Nat) : Int) := by
    simp only [IntKind.wrap, IntKind.bits, IntKind.signed]; simp; omega
  have e2 : andI .u64 (x : Int) ((18446744073709551616 - x : Nat) : Int) = ((2 ^ j : Nat) : Int) := by rw [and64 hx (by omega), ho]
  generalize (18446744073709551616 - x : Nat) = y at e1 e2
  obtain ⟨z, hz⟩ : ∃ z, z = (2 ^ j * 285870213051353865) % 18446744073709551616 := ⟨_, rfl⟩
  have e3 : IntKind.u64.wrap (((2 ^ j : Nat) : Int) * 285870213051353865) = (z : Int) := by
    rw [hz]; simp only [IntKind.wrap, IntKind.bits, IntKind.signed]; simp
  generalize (2 ^ j : Nat) = w at e2 e3
  have e4 : shrI .u64 (z : Int) 58 = ((z / 288230376151711744 : Nat) : Int) := shrI_nat .u64 z 58
  have hz1 : z / 288230376151711744 < 64 := by omega
  have e5 := db_at ⟨j, hj⟩
  simp only [] at e5
  rw [← hz] at e5
  generalize z / 288230376151711744 = i at e4 hz1 e5
  have hlen : tabL.length = 64 := rfl
  have e6 : tabL[i]? = some (.int .u8 (j : Int)) := by rw [tabL, List.getElem?_map, e5]; rfl
  have e7 := take1 e6
  unfold HasTab at ht
  generalize tabL = T at *
  refine rsx39 (by simp) (by simp) ?_
  simp -dsimp (discharger := omega) [B39, e0, e1, e2, e3, e4, e7, ht, AHeap.read_of ht, hlen, HSub.refl]
  done
/- A set gone through: the rounds of a body, by a state. -/
def runR {S : Type} (step : S → Nat → Ex × S) : List Nat → S → Ex × S
  | [], s => (.normal, s)
  | v :: l, s => if isNorm (step s v).1 then runR step l (step s v).2 else step s v
section
variable {L iL : Nat} {rd : Blk} {dn : Ex → Blk} {σ0 : Fr} {pv : Nat} {A B : ACode} {S : Type} (hs : S → AHeap) (ns : S → Nat) (step : S → Nat → Ex × S) (ok : List Nat → S → Prop)
abbrev YV14 (L iL : Nat) (rd : Blk) (dn : Ex → Blk) (σ0 : Fr) (pv : Nat) (A B : ACode) : Env := yieldEnv EV14 L iL rd dn σ0 [pv] A B
theorem ret_y14 {f : Nat} {args : List Value} {h : AHeap} {n : Nat} {v : Value} {l : List (Nat × Blk)} {n' : Nat} (x : Ret EV14 f args h n v l n') : Ret (YV14 L iL rd dn σ0 pv A B) f args h n v l n' := Ret.yielded (fs := fs14) (ps := ps14) x
def EInv (L iL : Nat) (rd : Blk) (N : Nat) (s0 : S) (k r : Nat) (σ : Fr) (h : AHeap) (n : Nat) : Prop :=
  ∃ x s, x < 18446744073709551616 ∧ r = (elsP (cur N k x) 4096).length ∧ ok (elsP (cur N k x) 4096) s ∧ runR step (elsP (cur N k x) 4096) s = runR step (els N) s0 ∧ h = (hs s).put iL rd ∧ n = ns s ∧
    σ = [(0, .func (.yield L) #[] #[]), (3, .int .i64 (k : Int)), (4, .int .u64 (x : Int)), (6, .agg (wv N).toArray), (7, .int .i64 (k : Int))]
def EPost (L iL : Nat) (rd : Blk) (dn : Ex → Blk) (N : Nat) (s0 : S) (k : Nat) (e : Ex) (σ' : Fr) (h' : AHeap) (n' : Nat) : Prop :=
  (∃ s, e = .exit 2 ∧ ok (elsP (cur N k 0) 4096) s ∧ runR step (elsP (cur N k 0) 4096) s = runR step (els N) s0 ∧ h' = (hs s).put iL rd ∧ n' = ns s ∧ σ'.get 0 = some (.func (.yield L) #[] #[]) ∧ σ'.get 6 = some (.agg (wv N).toArray) ∧ σ'.get 7 = some (.int .i64 (k : Int))) ∨
  (e = .ret ∧ isNorm (runR step (els N) s0).1 = false ∧ h' = (hs (runR step (els N) s0).2).put iL (dn (runR step (els N) s0).1) ∧ n' = ns (runR step (els N) s0).2)
theorem each_inner (htab : ∀ l s, ok l s → HasTab (hs s)) (hiL : ∀ l s, ok l s → (hs s).get iL = none) (hi0 : iL ≠ 0)
    (round : ∀ s v l, ok (v :: l) s → v < 4096 → HasCode EV14 A (setPs σ0 [pv] [.int .i64 (v : Nat)]) (hs s) (ns s) (fun e1 σ1 h1 n1 => e1 = .normal ∧ HasCode EV14 B σ1 h1 n1 (fun e _ hb n' => e = (step s v).1 ∧ hb = hs (step s v).2 ∧ n' = ns (step s v).2 ∧ (isNorm (step s v).1 = true → ok l (step s v).2))))
    {N : Nat} {s0 : S} {k : Nat} (hk : k < 64) :
    ∀ (m : Nat) (σ : Fr) (h : AHeap) (n : Nat), EInv hs ns step ok L iL rd N s0 k m σ h n → HasCode (YV14 L iL rd dn σ0 pv A B) (.loop F38L0) σ h n (EPost hs ns step ok L iL rd dn N s0 k) := by
  refine wx_inv _ fun m σ h n hI => ?_
  obtain ⟨x, s, hx, hm, hok, hrun, rfl, rfl, rfl⟩ := hI
  by_cases h0 : x = 0
  · subst h0
    have fin : ∀ {σ : Fr}, σ.get 0 = some (.func (.yield L) #[] #[]) → σ.get 6 = some (.agg (wv N).toArray) → σ.get 7 = some (.int .i64 (k : Int)) → EPost hs ns step ok L iL rd dn N s0 k (.exit 2) σ ((hs s).put iL rd) (ns s) := fun a b c => .inl ⟨s, rfl, hok, hrun, rfl, rfl, a, b, c⟩
    simp -dsimp (discharger := omega) [F38L0]
    exact fin rfl rfl rfl
  · obtain ⟨j, hj⟩ := low_ex h0
    have hj64 := hj.lt hx
    have hc := cur_cons hj hx hk (N := N)
    rw [hc] at hm hok hrun
    have ht := htab _ _ hok
    have hiL' := hiL _ _ hok
    have ht' : HasTab ((hs s).put iL rd) := by
      unfold HasTab at *
      rw [AHeap.get_put_ne _ _ hi0]; exact ht
    have hx0 : ((x : Int) != 0) = true := by simpa using h0
    have ha : andI .u64 (x : Int) ((x : Int) - 1) = ((x &&& (x - 1) : Nat) : Int) := by
      rw [show (x : Int) - 1 = ((x - 1 : Nat) : Int) by omega, and64 hx (by omega)]
    have hlt : x &&& (x - 1) < 18446744073709551616 := Nat.lt_of_le_of_lt Nat.and_le_left hx
    simp -dsimp (discharger := omega) [F38L0, hx0]
    with_reducible refine call_ret (ret_y14 (tz_ret hj hx ht' _)) ?_
    simp -dsimp (discharger := omega) []
    rw [show (64 * (k : Int) + (j : Int)) = ((64 * k + j : Nat) : Int) by omega]
    obtain ⟨v, hv⟩ : ∃ v, v = 64 * k + j := ⟨_, rfl⟩
    rw [← hv] at hrun hok hm ⊢
    have hr := round s v _ hok (by omega)
    refine yield_use (hs s) rfl (by simp) (fun i b hb => by rw [AHeap.get_put_ne _ _ (fun e => by subst e; rw [hiL'] at hb; cases hb)]; exact hb) hiL' (hr.mono ?_)
    rintro e1 σ1 h1 n1 ⟨rfl, hr2⟩
    refine ⟨rfl, hr2.mono ?_⟩
    rintro e σ2 hb n2 ⟨rfl, rfl, rfl, hnext⟩
    cases hn : isNorm (step s v).1 with
    | true =>
      rw [runR, if_pos hn] at hrun
      have hok2 := hnext hn
      have fin : ∀ {tk : Tok (EInv hs ns step ok L iL rd N s0 k)} {σ : Fr}, FSubL [(0, .func (.yield L) #[] #[]), (3, .int .i64 (k : Int)), (4, .int .u64 ((x &&& (x - 1) : Nat) : Int)), (6, .agg (wv N).toArray), (7, .int .i64 (k : Int))] σ → Again (EInv hs ns step ok L iL rd N s0 k) m σ ((hs (step s v).2).put iL rd) (ns (step s v).2) tk := fun hσ =>
        .mk' _ (by rw [hm]; exact Nat.lt_succ_self _) _ _ hσ (.refl _) ⟨_, _, hlt, rfl, hok2, hrun, rfl, rfl, rfl⟩
      generalize (x &&& (x - 1)) = y at *
      simp -dsimp (discharger := omega) [ha]
      exact fin (by simp)
    | false =>
      rw [runR, hn] at hrun
      simp only [Bool.false_eq_true, if_false] at hrun
      have fin : ∀ {σ : Fr}, EPost hs ns step ok L iL rd dn N s0 k .ret σ ((hs (step s v).2).put iL (dn (step s v).1)) (ns (step s v).2) := fun {σ} => .inr ⟨rfl, by rw [← hrun]; exact hn, by rw [← hrun], by rw [← hrun]⟩
      simp -dsimp (discharger := omega) []
      exact fin
end
end
end Go.Proofs.YtbgjcoochdljfaaDoorR.Am
