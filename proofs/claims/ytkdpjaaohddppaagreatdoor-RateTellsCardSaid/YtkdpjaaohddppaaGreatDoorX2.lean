/- Contracts of the program's functions (X2). -/
import Derived.Test.YtkdpjaaohddppaaGreatDoorX1
import Derived.Test.YtkdpjaaohddppaaGreatDoorES
import Derived.Test.YtkdpjaaohddppaaGreatDoorLFd
import Derived.Test.YtkdpjaaohddppaaGreatDoorLFc
namespace Go.Proofs.YtkdpjaaohddppaaGreatDoor.Am
noncomputable section
/- CONTRACT: floatBits: a number that is finite,or too large. -/
def pwL : List Value := [1,3,6,9,13,16,19,23,26].map fun z : Int => .int .i64 z
def Pows (h : AHeap) : Prop := ∃ (c kk : Nat) (own own2 : Option Nat) (w w2 : Nat),h.get 12 = some (.cells own [.slice (some ⟨c,0,some 9⟩) 9 kk] w) ∧ w ≤ 1 ∧ h.get c = some (.cells own2 pwL w2) ∧ w2 ≤ 9
def Info (h : AHeap) : Prop := ∃ (own : Option Nat) (w : Nat),h.get 7 = some (.cells own [.int .u64 52, .int .u64 11, .int .i64 (-1023)] w) ∧ w ≤ 3
theorem Cuts.sub {h h' : AHeap} (x : Cuts h) (hs : HSub h h') : Cuts h' := by
  obtain ⟨c,kk,own,own2,w,w2,h1,h2,h3,h4⟩ := x
  exact ⟨c,kk,own,own2,w,w2,hs _ _ h1,h2,hs _ _ h3,h4⟩
theorem pw_at {i : Nat} (hi : i < 9) : ∃ k : Nat,1 ≤ k ∧ k ≤ 27 ∧ (1 ≤ i → 3 ≤ k) ∧ List.take 1 (List.drop i pwL) = [.int .i64 (k : Int)] := by
  rcases i with _ | _ | _ | _ | _ | _ | _ | _ | _ | i
  · exact ⟨1,by decide,by decide,by decide,rfl⟩
  · exact ⟨3,by decide,by decide,by decide,rfl⟩
  · exact ⟨6,by decide,by decide,by decide,rfl⟩
  · exact ⟨9,by decide,by decide,by decide,rfl⟩
  · exact ⟨13,by decide,by decide,by decide,rfl⟩
  · exact ⟨16,by decide,by decide,by decide,rfl⟩
  · exact ⟨19,by decide,by decide,by decide,rfl⟩
  · exact ⟨23,by decide,by decide,by decide,rfl⟩
  · exact ⟨26,by decide,by decide,by decide,rfl⟩
  · omega
def PowsA (a : Nat) (h : AHeap) : Prop := ∃ (c kk : Nat) (own own2 : Option Nat) (w w2 : Nat),h.get 12 = some (.cells own [.slice (some ⟨c,0,some 9⟩) 9 kk] w) ∧ w ≤ 1 ∧ h.get c = some (.cells own2 pwL w2) ∧ w2 ≤ 9 ∧ ¬ a = 12 ∧ ¬ a = c
def InfoA (a : Nat) (h : AHeap) : Prop := ∃ (own : Option Nat) (w : Nat),h.get 7 = some (.cells own [.int .u64 52, .int .u64 11, .int .i64 (-1023)] w) ∧ w ≤ 3 ∧ ¬ a = 7
theorem Pows.apart {h0 h : AHeap} (x : Pows h0) (hs : HSub h0 h) {a : Nat} (ha : h0.get a = none) : PowsA a h := by
  obtain ⟨c,kk,own,own2,w,w2,h1,h2,h3,h4⟩ := x
  exact ⟨c,kk,own,own2,w,w2,hs _ _ h1,h2,hs _ _ h3,h4,(fun e => by subst e; rw [ha] at h1; cases h1),(fun e => by subst e; rw [ha] at h3; cases h3)⟩
theorem Info.apart {h0 h : AHeap} (x : Info h0) (hs : HSub h0 h) {a : Nat} (ha : h0.get a = none) : InfoA a h := by
  obtain ⟨own,w,h1,h2⟩ := x
  exact ⟨own,w,hs _ _ h1,h2,(fun e => by subst e; rw [ha] at h1; cases h1)⟩
theorem pwL_len : pwL.length = 9 := rfl
def iPt : Value := .pointer (some ⟨7,0,some 3⟩)
/- The first loop: down to below one. -/
def mD (dp : Int) (d0 : Nat) : Nat := if 0 < dp then 2 * dp.toNat + (if 8 ≤ d0 then 1 else 0) else 0
def FaInv (a : Nat) (h0 : AHeap) (n0 m : Nat) (σ : Fr) (h : AHeap) (n : Nat) : Prop :=
  n = n0 ∧ ∃ (ds : List UInt8) (nd : Nat) (dp e : Int) (tr : Bool) (d0 : Nat),DOk ds nd ∧ ds[0]? = some (dg d0) ∧ d0 ≤ 9 ∧ -900 ≤ dp ∧ dp ≤ 310 ∧ m = mD dp d0 ∧ 0 ≤ e ∧ e + 27 * m ≤ 27 * 621 ∧ h = h0.put a (.cells (some 114) (decL ds (nd : Int) dp false tr) 804) ∧ σ = [(0,dPt a),(1,iPt),(5, .bool false),(6, .int .i64 e)]
def FaPost (a : Nat) (h0 : AHeap) (n0 : Nat) (ex : Ex) (σ' : Fr) (h' : AHeap) (n' : Nat) : Prop :=
  ex = .exit 0 ∧ n' = n0 ∧ ∃ (ds : List UInt8) (nd : Nat) (dp e : Int) (tr : Bool),DOk ds nd ∧ -900 ≤ dp ∧ dp ≤ 0 ∧ 0 ≤ e ∧ e ≤ 27 * 621 ∧ h' = h0.put a (.cells (some 114) (decL ds (nd : Int) dp false tr) 804) ∧ σ'.get 0 = some (dPt a) ∧ σ'.get 1 = some iPt ∧ σ'.get 5 = some (.bool false) ∧ σ'.get 6 = some (.int .i64 e)
theorem fa_loop {a : Nat} {h0 : AHeap} (hp : PowsA a h0) {n0 : Nat} :
    ∀ (m : Nat) (σ : Fr) (h : AHeap) (n : Nat),FaInv a h0 n0 m σ h n → HasCode EV61 (.loop F99L0) σ h n (FaPost a h0 n0) := by
  refine wx_inv _ fun m σ h n hI => ?_
  obtain ⟨rfl,ds,nd,dp,e,tr,d0,hd,hd0,hd9,hp0,hp1,hm,he0,he1,rfl,rfl⟩ := hI
  have hL := decL_len hd.len (nd : Int) dp false tr
  have h801 := decL_801 hd.len (nd := (nd : Int)) (dp := dp) (neg := false) (tr := tr)
  by_cases hpos : 0 < dp
  · obtain ⟨c,kk,own,own2,w,w2,g12,hw1,gc,hw2,ha12,hac⟩ := hp
    obtain ⟨i,rfl⟩ : ∃ i : Nat,dp = (i : Int) := ⟨dp.toNat,by omega⟩
    have step : ∀ {k : Nat},3 ≤ k → k ≤ 27 → ∃ ds' nd' dp' tr' d0',DOk ds' nd' ∧ ds'[0]? = some (dg d0') ∧ d0' ≤ 9 ∧ -900 ≤ dp' ∧ dp' ≤ 310 ∧ mD dp' d0' < m ∧ Ret EV61 83 [.pointer (some ⟨a,0,some 804⟩), .int .i64 (-(k : Int))] (h0.put a (.cells (some 114) (decL ds (nd : Int) (i : Int) false tr) 804)) n (.tuple #[]) [(a, .cells (some 114) (decL ds' ((nd' : Nat) : Int) dp' false tr') 804)] n := by
      intro k h3 h27
      obtain ⟨b,⟨hb,_⟩,ht⟩ := shiftn_ret (a := a) (k := k) (by omega) (by omega) hd (by omega) (by omega) (h := h0.put a (.cells (some 114) (decL ds (nd : Int) (i : Int) false tr) 804)) (dp := (i : Int)) (neg := false) (tr := tr) (by simp) n
      obtain ⟨ds',nd',dp',tr',hd',rfl,hq0,hq1⟩ := hb (by omega)
      obtain ⟨d0',hd0',hd1',hd9'⟩ := hd'.first
      refine ⟨ds',nd',dp',tr',d0',hd',hd0',hd9',by omega, ?_, ?_,ht⟩
      · rcases hq1 with h | ⟨h,_⟩ <;> omega
      · rw [hm]; unfold mD
        rcases hq1 with h | ⟨h,e0,x1,x2,x3,x4⟩
        · rw [if_pos hpos]
          (repeat' split) <;> omega
        · rw [hd0,Option.some.injEq] at x1
          have e1 := congrArg UInt8.toNat x1
          rw [dg_nat hd9,dg_nat x2] at e1
          rw [hd0',Option.some.injEq] at x4
          have e2 := congrArg UInt8.toNat x4
          have hk8 : 2 ^ 3 ≤ 2 ^ k := Nat.pow_le_pow_right (by decide) h3
          have hdv : e0 / 2 ^ k < 2 := Nat.div_lt_of_lt_mul (by omega)
          obtain ⟨q,hq⟩ : ∃ q,q = e0 / 2 ^ k := ⟨_,rfl⟩
          obtain ⟨K,hK⟩ : ∃ K,K = 2 ^ k := ⟨_,rfl⟩
          rw [← hq] at hdv e2
          rw [← hK] at hk8 x3
          rw [dg_nat hd9',dg_nat (by omega)] at e2
          subst h
          rw [if_pos hpos,if_pos hpos,if_neg (show ¬ 8 ≤ d0' by omega),if_pos (show 8 ≤ d0 by omega)]
          omega
    have fin : ∀ {k : Nat} {ds' : List UInt8} {nd' : Nat} {dp' : Int} {tr' : Bool} {d0' : Nat},k ≤ 27 → DOk ds' nd' → ds'[0]? = some (dg d0') → d0' ≤ 9 → -900 ≤ dp' → dp' ≤ 310 → mD dp' d0' < m → ∀ {tk : Tok (FaInv a h0 n)} {σ : Fr},FSubL [(0,dPt a),(1,iPt),(5, .bool false),(6, .int .i64 (e + (k : Int)))] σ → Again (FaInv a h0 n) m σ ((h0.put a (.cells (some 114) (decL ds (nd : Int) (i : Int) false tr) 804)).put a (.cells (some 114) (decL ds' (nd' : Int) dp' false tr') 804)) n tk := fun hk a1 a2 a3 a4 a5 a6 _ _ hσ =>
      .mk' _ a6 _ _ hσ (HSub.over rfl) ⟨rfl,_,_,_,_,_,_,a1,a2,a3,a4,a5,rfl,by omega,by omega,rfl,rfl⟩
    by_cases h9 : 9 ≤ i
    · obtain ⟨ds',nd',dp',tr',d0',a1,a2,a3,a4,a5,a6,ht⟩ := step (k := 27) (by omega) (by omega)
      rw [show -((27 : Nat) : Int) = -27 from rfl] at ht
      have hfin := @fin 27 ds' nd' dp' tr' d0' (by omega) a1 a2 a3 a4 a5 a6
      have h9' : (9 : Int) ≤ (i : Int) := by omega
      have hi0 : (0 : Int) < (i : Int) := by omega
      simp -dsimp (discharger := omega) [F99L0,dPt,iPt,hL,h801,h9',AHeap.read_of g12,g12,ha12]
      refine call_ret ht ?_
      simp -dsimp (discharger := omega) []
      exact hfin (by simp [dPt,iPt])
    · obtain ⟨k,hk1,hk27,hk3,hpw⟩ := pw_at (i := i) (by omega)
      obtain ⟨ds',nd',dp',tr',d0',a1,a2,a3,a4,a5,a6,ht⟩ := step (k := k) (hk3 (by omega)) hk27
      have hfin := @fin k ds' nd' dp' tr' d0' (by omega) a1 a2 a3 a4 a5 a6
      have h9' : ¬ (9 : Int) ≤ (i : Int) := by omega
      have hi0 : (0 : Int) < (i : Int) := by omega
      simp -dsimp (discharger := omega) [F99L0,dPt,iPt,hL,h801,h9',AHeap.read_of g12,g12,ha12,AHeap.read_of gc,hac,hpw,pwL_len]
      refine call_ret ht ?_
      simp -dsimp (discharger := omega) []
      exact hfin (by simp [dPt,iPt])
  · have fin : ∀ {σ : Fr},FSubL [(0,dPt a),(1,iPt),(5, .bool false),(6, .int .i64 e)] σ → FaPost a h0 n (.exit 0) σ (h0.put a (.cells (some 114) (decL ds (nd : Int) dp false tr) 804)) n := fun hσ =>
      ⟨rfl,rfl,ds,nd,dp,e,tr,hd,hp0,by omega,he0,by omega,rfl,hσ.1,hσ.2.1,hσ.2.2.1,hσ.2.2.2.1⟩
    simp -dsimp (discharger := omega) [F99L0,dPt,iPt,hL,h801,hpos]
    exact fin (by simp [dPt,iPt])
/- The second loop: up to a half and more. -/
def mU (dp : Int) (d0 : Nat) : Nat := if dp ≤ 0 then 10 * (-dp).toNat + (9 - d0) else 0
def FbInv (a : Nat) (h0 : AHeap) (n0 m : Nat) (σ : Fr) (h : AHeap) (n : Nat) : Prop :=
  n = n0 ∧ ∃ (ds : List UInt8) (nd : Nat) (dp e : Int) (tr : Bool) (d0 : Nat),DOk ds nd ∧ ds[0]? = some (dg d0) ∧ 1 ≤ d0 ∧ d0 ≤ 9 ∧ -900 ≤ dp ∧ dp ≤ 19 ∧ m = mU dp d0 ∧ e ≤ 27 * 621 ∧ -27 * 9009 + 27 * m ≤ e ∧ h = h0.put a (.cells (some 114) (decL ds (nd : Int) dp false tr) 804) ∧ σ = [(0,dPt a),(1,iPt),(5, .bool false),(6, .int .i64 e)]
def FbPost (a : Nat) (h0 : AHeap) (n0 : Nat) (ex : Ex) (σ' : Fr) (h' : AHeap) (n' : Nat) : Prop :=
  ex = .exit 2 ∧ n' = n0 ∧ ∃ (ds : List UInt8) (nd : Nat) (dp e : Int) (tr : Bool),DOk ds nd ∧ -900 ≤ dp ∧ dp ≤ 19 ∧ e ≤ 27 * 621 ∧ -27 * 9009 ≤ e ∧ h' = h0.put a (.cells (some 114) (decL ds (nd : Int) dp false tr) 804) ∧ σ'.get 0 = some (dPt a) ∧ σ'.get 1 = some iPt ∧ σ'.get 5 = some (.bool false) ∧ σ'.get 6 = some (.int .i64 e)
theorem fb_loop {a : Nat} {h0 : AHeap} (hp : PowsA a h0) (hcut : ∀ b,Cuts (h0.put a b)) {n0 : Nat} :
    ∀ (m : Nat) (σ : Fr) (h : AHeap) (n : Nat),FbInv a h0 n0 m σ h n → HasCode EV61 (.loop F99L1) σ h n (FbPost a h0 n0) := by
  refine wx_inv _ fun m σ h n hI => ?_
  obtain ⟨rfl,ds,nd,dp,e,tr,d0,hd,hd0,hd1,hd9,hp0,hp1,hm,he0,he1,rfl,rfl⟩ := hI
  have hL := decL_len hd.len (nd : Int) dp false tr
  have h801 := decL_801 hd.len (nd := (nd : Int)) (dp := dp) (neg := false) (tr := tr)
  have hcat := decL_at hd0 (nd := (nd : Int)) (dp := dp) (neg := false) (tr := tr)
  rw [dg_nat hd9,List.drop_zero] at hcat
  have stop : ∀ {σ : Fr},FSubL [(0,dPt a),(1,iPt),(5, .bool false),(6, .int .i64 e)] σ → FbPost a h0 n (.exit 2) σ (h0.put a (.cells (some 114) (decL ds (nd : Int) dp false tr) 804)) n := fun hσ =>
    ⟨rfl,rfl,ds,nd,dp,e,tr,hd,hp0,hp1,he0,by omega,rfl,hσ.1,hσ.2.1,hσ.2.2.1,hσ.2.2.2.1⟩
  obtain ⟨c,kk,own,own2,w,w2,g12,hw1,gc,hw2,ha12,hac⟩ := hp
  by_cases hgo : dp < 0 ∨ dp = 0 ∧ d0 < 5
  · obtain ⟨i,hi⟩ : ∃ i : Nat, -dp = (i : Int) := ⟨(-dp).toNat,by omega⟩
    have step : ∀ {k : Nat},1 ≤ k → k ≤ 27 → ∃ ds' nd' dp' tr' d0',DOk ds' nd' ∧ ds'[0]? = some (dg d0') ∧ 1 ≤ d0' ∧ d0' ≤ 9 ∧ -900 ≤ dp' ∧ dp' ≤ 19 ∧ mU dp' d0' < m ∧ Ret EV61 83 [.pointer (some ⟨a,0,some 804⟩), .int .i64 (k : Int)] (h0.put a (.cells (some 114) (decL ds (nd : Int) dp false tr) 804)) n (.tuple #[]) [(a, .cells (some 114) (decL ds' ((nd' : Nat) : Int) dp' false tr') 804)] n := by
      intro k h3 h27
      obtain ⟨b,hb,ht⟩ := shiftp_ret (a := a) (k := k) h3 (by omega) hd (by omega) (by omega) (h := h0.put a (.cells (some 114) (decL ds (nd : Int) dp false tr) 804)) (dp := dp) (neg := false) (tr := tr) (by simp) (hcut _) n
      obtain ⟨ds',nd',dp',tr',hd',rfl,hq0,hq1,hq2⟩ := hb
      obtain ⟨d0',hd0',hd1',hd9'⟩ := hd'.first
      refine ⟨ds',nd',dp',tr',d0',hd',hd0',hd1',hd9',by omega,by omega, ?_,ht⟩
      rw [hm]; unfold mU
      rcases hq2 with h | ⟨h,e0,e0',x1,x2,x3,x4,x5⟩
      · rw [if_pos (show dp ≤ 0 by omega)]
        split <;> omega
      · rw [hd0,Option.some.injEq] at x1
        have e1 := congrArg UInt8.toNat x1
        rw [dg_nat hd9,dg_nat x2] at e1
        rw [hd0',Option.some.injEq] at x3
        have e2 := congrArg UInt8.toNat x3
        rw [dg_nat hd9',dg_nat x4] at e2
        have hk2 : 2 ^ 1 ≤ 2 ^ k := Nat.pow_le_pow_right (by decide) h3
        have hmul : e0 * 2 ≤ e0 * 2 ^ k := Nat.mul_le_mul_left _ hk2
        subst h
        rw [if_pos (show dp' ≤ 0 by omega),if_pos (show dp' ≤ 0 by omega)]
        omega
    have fin : ∀ {k : Nat} {ds' : List UInt8} {nd' : Nat} {dp' : Int} {tr' : Bool} {d0' : Nat},k ≤ 27 → DOk ds' nd' → ds'[0]? = some (dg d0') → 1 ≤ d0' → d0' ≤ 9 → -900 ≤ dp' → dp' ≤ 19 → mU dp' d0' < m → ∀ {tk : Tok (FbInv a h0 n)} {σ : Fr},FSubL [(0,dPt a),(1,iPt),(5, .bool false),(6, .int .i64 (e - (k : Int)))] σ → Again (FbInv a h0 n) m σ ((h0.put a (.cells (some 114) (decL ds (nd : Int) dp false tr) 804)).put a (.cells (some 114) (decL ds' (nd' : Int) dp' false tr') 804)) n tk := fun hk a1 a2 a2' a3 a4 a5 a6 _ _ hσ =>
      .mk' _ a6 _ _ hσ (HSub.over rfl) ⟨rfl,_,_,_,_,_,_,a1,a2,a2',a3,a4,a5,rfl,by omega,by omega,rfl,rfl⟩
    have e9 : -dp = (i : Int) := hi
    have e10 : 0 - dp = (i : Int) := by omega
    have c9 : (9 ≤ i) → (9 : Int) ≤ (i : Int) := by omega
    have tests : (dp < 0) ∨ ¬ (dp < 0) ∧ dp = 0 ∧ ((48 + d0 : Nat) : Int) < 53 := by omega
    have hm27 : 27 ≤ 27 * m := by
      have : 1 ≤ m := by
        rw [hm]; unfold mU
        rw [if_pos (show dp ≤ 0 by omega)]
        omega
      omega
    by_cases h9 : 9 ≤ i
    · obtain ⟨ds',nd',dp',tr',d0',a1,a2,a2',a3,a4,a5,a6,ht⟩ := step (k := 27) (by omega) (by omega)
      have hfin := @fin 27 ds' nd' dp' tr' d0' (by omega) a1 a2 a2' a3 a4 a5 a6
      rw [show ((27 : Nat) : Int) = 27 from rfl] at ht
      have h9' : (9 : Int) ≤ (i : Int) := by omega
      have hneg : dp < 0 := by omega
      simp -dsimp (discharger := omega) [F99L1,dPt,iPt,hL,h801,hneg,e9,h9',AHeap.read_of g12,g12,ha12]
      refine call_ret ht ?_
      simp -dsimp (discharger := omega) []
      exact hfin (by simp [dPt,iPt])
    · obtain ⟨k,hk1,hk27,hk3,hpw⟩ := pw_at (i := i) (by omega)
      obtain ⟨ds',nd',dp',tr',d0',a1,a2,a2',a3,a4,a5,a6,ht⟩ := step (k := k) hk1 hk27
      have hfin := @fin k ds' nd' dp' tr' d0' (by omega) a1 a2 a2' a3 a4 a5 a6
      have h9' : ¬ (9 : Int) ≤ (i : Int) := by omega
      rcases tests with hneg | ⟨hneg,hz,h5⟩
      · simp -dsimp (discharger := omega) [F99L1,dPt,iPt,hL,h801,hneg,e9,h9',AHeap.read_of g12,g12,ha12,AHeap.read_of gc,hac,hpw,pwL_len]
        refine call_ret ht ?_
        simp -dsimp (discharger := omega) []
        exact hfin (by simp [dPt,iPt])
      · have hi0 : i = 0 := by omega
        subst hi0 hz
        rw [List.drop_zero] at hpw
        simp -dsimp (discharger := omega) [F99L1,dPt,iPt,hL,h801,hcat,h5,AHeap.read_of g12,g12,ha12,AHeap.read_of gc,hac,hpw,pwL_len, -Int.natCast_add]
        refine call_ret ht ?_
        simp -dsimp (discharger := omega) []
        exact hfin (by simp [dPt,iPt])
  · have hneg : ¬ dp < 0 := by omega
    by_cases hz : dp = 0
    · subst hz
      have h5 : ¬ ((48 + d0 : Nat) : Int) < 53 := by omega
      simp -dsimp (discharger := omega) [F99L1,dPt,iPt,hL,h801,hcat,h5, -Int.natCast_add]
      exact stop (by simp [dPt,iPt])
    · simp -dsimp (discharger := omega) [F99L1,dPt,iPt,hL,h801,hneg]
      exact stop (by simp [dPt,iPt])
end
end Go.Proofs.YtkdpjaaohddppaaGreatDoor.Am
namespace Go.Proofs.YtkdpjaaohddppaaGreatDoor.Am
noncomputable section
/- CONTRACT: floatBits,the scope and its jumps. -/
def FbV (v : Value) : Prop := ∃ (bits : Nat) (o : Bool),v = .tuple #[.int .u64 (bits : Int), .bool o] ∧ (o = false ∧ bits < 9218868437227405312 ∨ o = true ∧ bits = 9218868437227405312)
def DFinV (a : Nat) (h : AHeap) (n : Nat) (P : Value → Prop) (v1 : Value) (h1 : AHeap) (n1 : Nat) : Prop := P v1 ∧ n1 = n ∧ ∃ b,HSub (h.put a b) h1
def DRetV (f : Nat) (xs : List Value) (a : Nat) (h : AHeap) (n : Nat) (P : Value → Prop) : Prop := ∃ v b,P v ∧ Ret EV61 f (dPt a :: xs) h n v [(a,b)] n
theorem dretv_of {f : Nat} {af : AFunc} {xs : List Value} {a : Nat} {h : AHeap} {n : Nat} {P : Value → Prop} (hg : (h.get a).isSome) (hf : EV61.fs f = some af) (ha : (dPt a :: xs).length ≤ af.ntmps)
    (hx : wx EV61 af.body (argFr 0 (dPt a :: xs)) h n (Done af.results (DFinV a h n P)) ()) : DRetV f xs a h n P := by
  obtain ⟨e, σ',h1,n1,hb,he,vs,hvs,hP,rfl,b,hsub⟩ := wx_big hx
  exact ⟨_,b,hP, .lift (.call hf ha hb he hvs hsub) (Nat.le_refl _),by simp,by simp [hg]⟩
def body99 : ACode := match B99 with
  | .seq _ (.scope b) => b
  | c => c
def out99 : ACode := sndC (sndC (sndC (sndC (sndC (sndC (sndC (sndC (sndC (sndC (sndC (sndC (sndC (sndC (sndC (sndC (sndC (sndC (sndC (sndC (sndC body99))))))))))))))))))))
def ovf99 : ACode := sndC (sndC (sndC (sndC (sndC (sndC (sndC (sndC (sndC (sndC (sndC (sndC (sndC (sndC (sndC (sndC (sndC body99))))))))))))))))
theorem find_out : findLab body99 0 = some (.seq .skip out99) := rfl
theorem find_ovf : findLab body99 1 = some (.seq .skip ovf99) := rfl
theorem ovf_eq : ovf99 = .seq (fstC ovf99) (.seq (fstC (sndC ovf99)) (.seq (fstC (sndC (sndC ovf99))) (.seq (.label 0) out99))) := rfl
def JumpQ (Q : Ex → Fr → AHeap → Nat → Prop) (e : Ex) (σ' : Fr) (h' : AHeap) (n' : Nat) : Prop := CalmQ Q e σ' h' n' ∨ ∃ l r,e = .exit (gB + l) ∧ findLab body99 l = some r ∧ HasCode EV61 r σ' h' n' (CalmQ Q)
theorem skip_seq {c : ACode} {σ : Fr} {h : AHeap} {n : Nat} {Q : Ex → Fr → AHeap → Nat → Prop} (x : HasCode EV61 c σ h n Q) : HasCode EV61 (.seq .skip c) σ h n Q := hc_seq (t := ()) (wx_big (t := ()) (by simp; exact x))
theorem jump0 {Q : Ex → Fr → AHeap → Nat → Prop} {σ : Fr} {h : AHeap} {n : Nat} (x : wx EV61 out99 σ h n (CalmQ Q) ()) : JumpQ Q (.exit 1000000) σ h n := .inr ⟨0,_,rfl,find_out,skip_seq (wx_big x)⟩
theorem jump1 {Q : Ex → Fr → AHeap → Nat → Prop} {σ : Fr} {h : AHeap} {n : Nat} (x : wx EV61 ovf99 σ h n (CalmQ Q) ()) : JumpQ Q (.exit 1000001) σ h n := .inr ⟨1,_,rfl,find_ovf,skip_seq (wx_big x)⟩
theorem B99_eq : B99 = .seq (fstC B99) (.scope body99) := rfl
theorem su1 : shlI .u64 1 52 = 4503599627370496 := by decide
theorem su2 : shlI .u64 2 52 = 9007199254740992 := by decide
theorem si1 : shlI .i64 1 11 = 2048 := by decide
theorem and11_all : ∀ E : Fin 2048,andI .i64 (E.1 : Int) 2047 = (E.1 : Int) ∧ shlI .u64 (E.1 : Int) 52 = ((E.1 * 4503599627370496 : Nat) : Int) := by decide +kernel
theorem bits_or {x E : Nat} (hx : x < 4503599627370496) : x ||| E * 4503599627370496 = E * 4503599627370496 + x := by
  have := Nat.two_pow_add_eq_or_of_lt (i := 52) (b := x) hx E
  rw [show (2 : Nat) ^ 52 = 4503599627370496 from by decide,Nat.mul_comm] at this
  rw [Nat.or_comm]; exact this.symm
theorem out_walk {a x E : Nat} {ovf : Bool} {h h0 : AHeap} {n : Nat} {σ : Fr} (hi : InfoA a h) (hx : x < 18446744073709551616) (hE : ovf = false ∧ E ≤ 2046 ∨ ovf = true ∧ E = 2047 ∧ x = 0) {ds : List UInt8} (hl : ds.length = 800) {nd dp : Int} {tr : Bool}
    (s0 : σ.get 0 = some (dPt a)) (s1 : σ.get 1 = some iPt) (s5 : σ.get 5 = some (.bool ovf)) (s6 : σ.get 6 = some (.int .i64 ((E : Int) - 1023))) (s7 : σ.get 7 = some (.int .u64 (x : Int)))
    (hga : h.get a = some (.cells (some 114) (decL ds nd dp false tr) 804)) (hsub : HSub (h0.put a (.cells (some 114) (decL ds nd dp false tr) 804)) h) : wx EV61 out99 σ h n (CalmQ (Done [.tmp 4, .tmp 5] (DFinV a h0 n FbV))) () := by
  obtain ⟨own,w,g7,hw,ha7⟩ := hi
  have hL := decL_len hl nd dp false tr
  have h802 := decL_802 hl (nd := nd) (dp := dp) (neg := false) (tr := tr)
  obtain ⟨y,hy⟩ : ∃ y,y = x % 4503599627370496 := ⟨_,rfl⟩
  have e1 : andI .u64 (x : Int) 4503599627370495 = (y : Int) := by
    have := and60 (k := 52) (by decide) hx
    rw [show ((2 ^ 52 - 1 : Nat) : Int) = 4503599627370495 from by decide,show (2 : Nat) ^ 52 = 4503599627370496 from by decide] at this
    rw [this,hy]
  have hE7 : E < 2048 := by omega
  have hall := and11_all ⟨E,hE7⟩
  have e2 := hall.1
  have e3 := hall.2
  simp only at e2 e3
  have e4 : orI .u64 (y : Int) ((E * 4503599627370496 : Nat) : Int) = ((E * 4503599627370496 + y : Nat) : Int) := by
    rw [or64 (by omega) (by omega),bits_or (by omega)]
  obtain ⟨B,hB⟩ : ∃ B,B = E * 4503599627370496 + y := ⟨_,rfl⟩
  obtain ⟨D,hD⟩ : ∃ D,D = E * 4503599627370496 := ⟨_,rfl⟩
  rw [← hD] at hB
  rw [← hD] at e3 e4
  rw [← hB] at e4
  have e5 : (E : Int) - 1023 - (-1023) = (E : Int) := by omega
  have e6 : (E : Int) - 1023 + 1023 = (E : Int) := by omega
  have fin : DFinV a h0 n FbV (.tuple #[.int .u64 (B : Int), .bool ovf]) h n := ⟨⟨B,ovf,rfl,by rcases hE with ⟨e,h⟩ | ⟨e,h,h'⟩ <;> simp only [e] <;> simp <;> omega⟩,rfl,_,hsub⟩
  simp -dsimp (discharger := omega) [out99,sndC,body99,B99,s0,s1,s5,s6,s7,dPt,iPt,AHeap.read_of g7,AHeap.read_of hga,hL,h802,su1,si1,e1,e2,e3,e4,e5]
  refine calm_ret ?_
  simp -dsimp (discharger := omega) []
  exact fin
theorem ovf_walk {a : Nat} {h h0 : AHeap} {n : Nat} {σ : Fr} (hi : InfoA a h) {ds : List UInt8} (hl : ds.length = 800) {nd dp : Int} {tr : Bool}
    (s0 : σ.get 0 = some (dPt a)) (s1 : σ.get 1 = some iPt) 
    (hga : h.get a = some (.cells (some 114) (decL ds nd dp false tr) 804)) (hsub : HSub (h0.put a (.cells (some 114) (decL ds nd dp false tr) 804)) h) : wx EV61 ovf99 σ h n (CalmQ (Done [.tmp 4, .tmp 5] (DFinV a h0 n FbV))) () := by
  have ow := fun σ t0 t1 t5 t6 t7 => out_walk (a := a) (x := 0) (E := 2047) (ovf := true) (h := h) (h0 := h0) (n := n) (σ := σ) hi (by omega) (.inr ⟨rfl,rfl,rfl⟩) hl t0 t1 t5 t6 t7 hga hsub
  obtain ⟨own,w,g7,hw,ha7⟩ := hi
  rw [ovf_eq]
  simp -dsimp (discharger := omega) [ovf99,fstC,sndC,body99,B99,s1,iPt,AHeap.read_of g7,si1]
  exact ow _ (by simp [s0,dPt]) (by simp [s1,iPt]) (by simp) (by simp) (by simp)
theorem fbits_zero {a : Nat} {h : AHeap} {n : Nat} (hi : InfoA a h) {ds : List UInt8} (hl : ds.length = 800) {dp : Int} {tr : Bool} (hg : h.get a = some (.cells (some 114) (decL ds 0 dp false tr) 804)) : DRetV 99 [iPt] a h n FbV := by
  refine dretv_of (af := F99) (by simp [hg]) rfl (by simp [F99]) ?_
  show wx EV61 B99 [(0,dPt a),(1,iPt)] h n (Done [.tmp 4, .tmp 5] _) ()
  have ow := fun σ t0 t1 t5 t6 t7 => out_walk (a := a) (x := 0) (E := 0) (ovf := false) (h := h) (h0 := h) (n := n) (σ := σ) (nd := 0) (dp := dp) (tr := tr) hi (by omega) (.inl ⟨rfl,by omega⟩) hl t0 t1 t5 t6 t7 hg (.ofE (.left (.inr hg) (.refl _ _)))
  have hL := decL_len hl 0 dp false tr
  have h800 := decL_800 hl (nd := 0) (dp := dp) (neg := false) (tr := tr)
  obtain ⟨own,w,g7,hw,ha7⟩ := hi
  rw [B99_eq]
  simp -dsimp (discharger := omega) [fstC,B99]
  refine scope_jump ?_
  refine HasCode.mono (Q := JumpQ (Done [.tmp 4, .tmp 5] (DFinV a h n FbV))) (wx_big (t := ()) ?_) fun _ _ _ _ h => h
  simp -dsimp (discharger := omega) [body99,B99,dPt,iPt,AHeap.read_of hg,hL,h800,AHeap.read_of g7]
  refine jump0 ?_
  exact ow _ (by simp [dPt]) (by simp [iPt]) (by simp) (by simp) (by simp)
end
end Go.Proofs.YtkdpjaaohddppaaGreatDoor.Am
namespace Go.Proofs.YtkdpjaaohddppaaGreatDoor.Am
noncomputable section
/- CONTRACT: floatBits,a number above 0. -/
def tail99 : ACode := sndC (sndC (sndC (sndC (sndC (sndC (sndC (sndC (sndC (sndC body99)))))))))
theorem body_eq : body99 = .seq (fstC body99) (.seq (fstC (sndC body99)) (.seq (fstC (sndC (sndC body99))) (.seq (fstC (sndC (sndC (sndC body99)))) (.seq (fstC (sndC (sndC (sndC (sndC body99))))) (.seq (fstC (sndC (sndC (sndC (sndC (sndC body99)))))) (.seq (fstC (sndC (sndC (sndC (sndC (sndC (sndC body99))))))) (.seq (fstC (sndC (sndC (sndC (sndC (sndC (sndC (sndC body99)))))))) (.seq (fstC (sndC (sndC (sndC (sndC (sndC (sndC (sndC (sndC body99))))))))) (.seq (fstC (sndC (sndC (sndC (sndC (sndC (sndC (sndC (sndC (sndC body99)))))))))) (tail99)))))))))) := rfl
theorem InfoA.put {a : Nat} {h : AHeap} (x : InfoA a h) (b : Blk) : InfoA a (h.put a b) := by
  obtain ⟨own,w,g7,hw,ha7⟩ := x
  exact ⟨own,w,by rw [AHeap.get_put_ne _ _ ha7]; exact g7,hw,ha7⟩
theorem sr1 : shrI .u64 9007199254740992 1 = 4503599627370496 := by decide
theorem and53 : andI .u64 4503599627370496 4503599627370496 = 4503599627370496 := by decide
theorem tail_walk {a : Nat} {h0 h : AHeap} {n : Nat} (hH : ∀ b,HSub (h0.put a b) (h.put a b)) (hi : InfoA a h) (hcut : ∀ b,Cuts (h.put a b)) {ds : List UInt8} {nd : Nat} {dp : Int} (hp0 : -50000000 ≤ dp) (hp1 : dp ≤ 50000000) {tr : Bool} (hd : DOk ds nd) {E : Nat} (hE1 : 1 ≤ E) (hE2 : E ≤ 1000000) {σ : Fr}
    (s0 : σ.get 0 = some (dPt a)) (s1 : σ.get 1 = some iPt) (s5 : σ.get 5 = some (.bool false)) (s6 : σ.get 6 = some (.int .i64 ((E : Int) - 1023))) :
    wx EV61 tail99 σ (h.put a (.cells (some 114) (decL ds (nd : Int) dp false tr) 804)) n (JumpQ (Done [.tmp 4, .tmp 5] (DFinV a h0 n FbV))) () := by
  have hi1 := hi.put (.cells (some 114) (decL ds (nd : Int) dp false tr) 804)
  have hi' := hi
  obtain ⟨own,w,g7,hw,ha7⟩ := hi'
  have e5 : (E : Int) - 1023 - (-1023) = (E : Int) := by omega
  have e6 : (E : Int) - 1023 + 1023 = (E : Int) := by omega
  by_cases hov : 2047 ≤ E
  · have hov' : (2047 : Int) ≤ (E : Int) := by omega
    simp -dsimp (discharger := omega) [tail99,sndC,body99,B99,s1,s6,iPt,AHeap.read_of g7,ha7,si1,e5,hov']
    refine jump1 ?_
    exact ovf_walk hi1 hd.len (by simp [s0,dPt]) (by simp [s1,iPt]) (by simp) (hH _)
  · have hov' : ¬ (2047 : Int) ≤ (E : Int) := by omega
    obtain ⟨b,⟨ds2,nd2,dp2,tr2,hd2,rfl,q1,q2,_⟩,ht⟩ := shiftp_ret (a := a) (k := 53) (by omega) (by omega) hd (by omega) (by omega) (h := h.put a (.cells (some 114) (decL ds (nd : Int) dp false tr) 804)) (dp := dp) (neg := false) (tr := tr) (by simp) (hcut _) n
    obtain ⟨v,⟨x,hx,rfl⟩,hr⟩ := rint_ret (a := a) hd2.len hd2.le (dp := dp2) (neg := false) (tr := tr2) (by omega) (by omega) (h := (h.put a (.cells (some 114) (decL ds (nd : Int) dp false tr) 804)).put a (.cells (some 114) (decL ds2 (nd2 : Int) dp2 false tr2) 804)) (by simp) n
    have hi2 := hi1.put (.cells (some 114) (decL ds2 (nd2 : Int) dp2 false tr2) 804)
    have hsub : HSub (h0.put a (.cells (some 114) (decL ds2 (nd2 : Int) dp2 false tr2) 804)) ((h.put a (.cells (some 114) (decL ds (nd : Int) dp false tr) 804)).put a (.cells (some 114) (decL ds2 (nd2 : Int) dp2 false tr2) 804)) := (hH _).trans (HSub.over rfl)
    have ow := fun (y E' : Nat) hy hE' σ t0 t1 t5 t6 t7 => out_walk (a := a) (x := y) (E := E') (ovf := false) (n := n) (σ := σ) hi2 hy (.inl ⟨rfl,hE'⟩) hd2.len t0 t1 t5 t6 t7 (by simp) hsub
    have vw := fun σ t0 t1 => ovf_walk (a := a) (n := n) (σ := σ) hi2 hd2.len t0 t1 (by simp) hsub
    simp only [dPt] at ht hr
    rw [show ((53 : Nat) : Int) = 53 from rfl] at ht
    simp -dsimp (discharger := omega) [tail99,sndC,body99,B99,s0,s1,s6,dPt,iPt,AHeap.read_of g7,ha7,si1,e5,hov']
    refine call_ret ht ?_
    simp -dsimp (discharger := omega) [s0,dPt]
    refine call_ret hr ?_
    by_cases h53 : x = 9007199254740992
    · subst h53
      rw [show ((9007199254740992 : Nat) : Int) = 9007199254740992 from rfl]
      have e7 : (E : Int) - 1023 + 1 = ((E + 1 : Nat) : Int) - 1023 := by omega
      by_cases hov2 : E = 2046
      · subst hov2
        simp -dsimp (discharger := omega) [s1,s6,iPt,AHeap.read_of g7,ha7,si1,su2,sr1]
        refine jump1 ?_
        exact vw _ (by simp [s0,dPt]) (by simp [s1,iPt])
      · have hov3 : ¬ (2047 : Int) ≤ ((E + 1 : Nat) : Int) := by omega
        obtain ⟨E1,hE3⟩ : ∃ E1,E1 = E + 1 := ⟨_,rfl⟩
        rw [← hE3] at e7 hov3
        have e8 : (E1 : Int) - 1023 - (-1023) = (E1 : Int) := by omega
        have e9 : (E1 : Int) - 1023 + 1023 = (E1 : Int) := by omega
        simp -dsimp (discharger := omega) [s1,s6,iPt,AHeap.read_of g7,ha7,si1,su2,sr1,su1,e7,e8,hov3,and53]
        refine jump0 ?_
        exact ow 4503599627370496 E1 (by omega) (by omega) _ (by simp [s0,dPt]) (by simp [s1,iPt]) (by simp [s5]) (by simp) (by simp)
    · have h53' : ¬ ((x : Int) = 9007199254740992) := by omega
      obtain ⟨y,hy⟩ : ∃ y,y = x &&& 4503599627370496 := ⟨_,rfl⟩
      have e7 : andI .u64 (x : Int) 4503599627370496 = (y : Int) := by
        rw [show (4503599627370496 : Int) = ((4503599627370496 : Nat) : Int) from rfl,and64 hx (by omega),hy]
      by_cases hy0 : y = 0
      · have hy1 : ((y : Int) = 0) := by omega
        simp -dsimp (discharger := omega) [s1,iPt,AHeap.read_of g7,ha7,su2,su1,e7,hy1]
        refine jump0 ?_
        exact ow x 0 hx (by omega) _ (by simp [s0,dPt]) (by simp [s1,iPt]) (by simp [s5]) (by simp) (by simp)
      · have hy1 : ¬ ((y : Int) = 0) := by omega
        simp -dsimp (discharger := omega) [s1,iPt,AHeap.read_of g7,ha7,su2,su1,e7]
        refine jump0 ?_
        exact ow x E hx (by omega) _ (by simp [s0,dPt]) (by simp [s1,iPt]) (by simp [s5]) (by simp [s6]) (by simp)
theorem fbits_ret {a : Nat} {h : AHeap} {n : Nat} (hi : InfoA a h) (hp : PowsA a h) (hcut : ∀ b,Cuts (h.put a b)) {ds : List UInt8} {nd : Nat} {dp : Int} (hp0 : -100000000 ≤ dp) (hp1 : dp ≤ 100000000) {tr : Bool} (hd : DOk ds nd)
    (hg : h.get a = some (.cells (some 114) (decL ds (nd : Int) dp false tr) 804)) : DRetV 99 [iPt] a h n FbV := by
  refine dretv_of (af := F99) (by simp [hg]) rfl (by simp [F99]) ?_
  show wx EV61 B99 [(0,dPt a),(1,iPt)] h n (Done [.tmp 4, .tmp 5] _) ()
  have hL := decL_len hd.len (nd : Int) dp false tr
  have h800 := decL_800 hd.len (nd := (nd : Int)) (dp := dp) (neg := false) (tr := tr)
  have h801 := decL_801 hd.len (nd := (nd : Int)) (dp := dp) (neg := false) (tr := tr)
  have hone := hd.one
  have hnz : ¬ ((nd : Int) = 0) := by omega
  have hi' := hi
  obtain ⟨own,w,g7,hw,ha7⟩ := hi'
  rw [B99_eq]
  simp -dsimp (discharger := omega) [fstC,B99]
  refine scope_jump ?_
  refine HasCode.mono (Q := JumpQ (Done [.tmp 4, .tmp 5] (DFinV a h n FbV))) (wx_big (t := ()) ?_) fun _ _ _ _ h => h
  rw [body_eq]
  have same : HSub (h.put a (.cells (some 114) (decL ds (nd : Int) dp false tr) 804)) h := .ofE (.left (.inr hg) (.refl _ _))
  by_cases h310 : 310 < dp
  · simp -dsimp (discharger := omega) [fstC,sndC,body99,B99,dPt,iPt,AHeap.read_of hg,hL,h800,h801,h310]
    refine jump1 ?_
    exact ovf_walk hi hd.len (by simp [dPt]) (by simp [iPt]) hg same
  · by_cases h330 : dp < -330
    · simp -dsimp (discharger := omega) [fstC,sndC,body99,B99,dPt,iPt,AHeap.read_of hg,hL,h800,h801,h310,h330,AHeap.read_of g7]
      refine jump0 ?_
      exact out_walk (x := 0) (E := 0) (ovf := false) hi (by omega) (.inl ⟨rfl,by omega⟩) hd.len (by simp [dPt]) (by simp [iPt]) (by simp) (by simp) (by simp) hg same
    · obtain ⟨d0,hd0,hd1,hd9⟩ := hd.first
      simp -dsimp (discharger := omega) [fstC,sndC,body99,B99,dPt,iPt,AHeap.read_of hg,hL,h800,h801,h310,h330]
      refine loop_use (fa_loop (h0 := h) hp (n0 := n) (mD dp d0) [(0,dPt a),(1,iPt),(5, .bool false),(6, .int .i64 0)] (h.put a (.cells (some 114) (decL ds (nd : Int) dp false tr) 804)) n ⟨rfl,ds,nd,dp,0,tr,d0,hd,hd0,hd9,by omega,by omega,rfl,by omega,by unfold mD; (repeat' split) <;> omega,rfl,rfl⟩) (by simp [dPt,iPt]) same ?_
      rintro e σ1 h1 n1 ⟨rfl,rfl,ds1,nd1,dp1,e1,tr1,hd1',q1,q2,q3,q4,rfl,s0,s1,s5,s6⟩
      obtain ⟨c1,hc1,hc11,hc19⟩ := hd1'.first
      simp -dsimp (discharger := omega) []
      refine loop_use (fb_loop (h0 := h) hp hcut (n0 := n1) (mU dp1 c1) [(0,dPt a),(1,iPt),(5, .bool false),(6, .int .i64 e1)] (h.put a (.cells (some 114) (decL ds1 (nd1 : Int) dp1 false tr1) 804)) n1 ⟨rfl,ds1,nd1,dp1,e1,tr1,c1,hd1',hc1,hc11,hc19,by omega,by omega,rfl,by omega,by unfold mU; (repeat' split) <;> omega,rfl,rfl⟩) (by simp [s0,s1,s5,s6]) (.refl _) ?_
      rintro e σ2 h2 n2 ⟨rfl,rfl,ds2,nd2,dp2,e2,tr2,hd2,r1,r2,r3,r4,rfl,t0,t1,t5,t6⟩
      -- what comes after the exponent is known
      have tw := fun ds nd dp q0 q1 tr hd E hE1 hE2 σ x0 x1 x5 x6 => tail_walk (a := a) (h0 := h) (h := h) (n := n2) (fun _ => .refl _) hi hcut (ds := ds) (nd := nd) (dp := dp) q0 q1 (tr := tr) hd (E := E) hE1 hE2 (σ := σ) x0 x1 x5 x6
      have f1 : (-1023 : Int) + 1 = -1022 := rfl
      by_cases hden : e2 - 1 < -1022
      · obtain ⟨k,hk⟩ : ∃ k : Nat, -1022 - (e2 - 1) = (k : Int) := ⟨(-1022 - (e2 - 1)).toNat,by omega⟩
        obtain ⟨b,⟨_,ds3,nd3,dp3,tr3,hd3,rfl,u1,u2⟩,ht⟩ := shiftn_ret (a := a) (k := k) (by omega) (by omega) hd2 (by omega) (by omega) (h := h.put a (.cells (some 114) (decL ds2 (nd2 : Int) dp2 false tr2) 804)) (dp := dp2) (neg := false) (tr := tr2) (by simp) n2
        have f3 : e2 - 1 + (k : Int) = -1022 := by omega
        simp only [dPt] at ht
        simp -dsimp (discharger := omega) [t0,t1,t6,dPt,iPt,AHeap.read_of g7,ha7,hden,hk]
        refine call_ret ht ?_
        simp -dsimp (discharger := omega) [f3]
        refine tail_walk (a := a) (h0 := h) (h := h.put a (.cells (some 114) (decL ds2 (nd2 : Int) dp2 false tr2) 804)) (n := n2) (fun _ => HSub.over rfl) (hi.put _) (fun b => (hcut b).sub (HSub.over rfl)) (ds := ds3) (nd := nd3) (dp := dp3) (by omega) (by omega) (tr := tr3) hd3 (E := 1) (by omega) (by omega) (by simp [t0,dPt]) (by simp [t1,iPt]) (by simp [t5]) (by simp)
      · obtain ⟨E,hE⟩ : ∃ E : Nat,e2 - 1 = (E : Int) - 1023 := ⟨(e2 - 1 + 1023).toNat,by omega⟩
        simp -dsimp (discharger := omega) [t1,t6,iPt,AHeap.read_of g7,ha7,hden]
        exact tw ds2 nd2 dp2 (by omega) (by omega) tr2 hd2 E (by omega) (by omega) _ (by simp [t0,dPt]) (by simp [t1,iPt]) (by simp [t5]) (by simp [hE])
end
end Go.Proofs.YtkdpjaaohddppaaGreatDoor.Am
namespace Go.Proofs.YtkdpjaaohddppaaGreatDoor.Am
noncomputable section
/- CONTRACT: set: digits,with one point at most. -/
structure FTx (s : List UInt8) (k : Nat) : Prop where
  one : 1 ≤ k
  pos : 1 ≤ s.length
  le : s.length ≤ 900
  ok : ∀ i c,s[i]? = some c → ¬ i = k ∧ isD c = true ∨ c = 46 ∧ i = k
def DFinB (a : Nat) (h : AHeap) (n : Nat) (v : Value) (P : Blk → Prop) (v1 : Value) (h1 : AHeap) (n1 : Nat) : Prop := v1 = v ∧ n1 = n ∧ ∃ b,P b ∧ HSub (h.put a b) h1
def DRetB (f : Nat) (xs : List Value) (a : Nat) (h : AHeap) (n : Nat) (v : Value) (P : Blk → Prop) : Prop := ∃ b,P b ∧ Ret EV61 f (dPt a :: xs) h n v [(a,b)] n
theorem dretb_of {f : Nat} {af : AFunc} {xs : List Value} {a : Nat} {h : AHeap} {n : Nat} {v : Value} {P : Blk → Prop} (hg : (h.get a).isSome) (hf : EV61.fs f = some af) (ha : (dPt a :: xs).length ≤ af.ntmps)
    (hx : wx EV61 af.body (argFr 0 (dPt a :: xs)) h n (Done af.results (DFinB a h n v P)) ()) : DRetB f xs a h n v P := by
  obtain ⟨e, σ',h1,n1,hb,he,vs,hvs,hv,rfl,b,hP,hsub⟩ := wx_big hx
  refine ⟨b,hP, ?_,by simp,by simp [hg]⟩
  rw [← hv]
  exact .lift (.call hf ha hb he hvs hsub) (Nat.le_refl _)
structure SdOk (ds : List UInt8) (nd : Nat) : Prop where
  len : ds.length = 800
  le : nd ≤ 800
  dig : ∀ i c,i < nd → ds[i]? = some c → isD c = true
  top : 1 ≤ nd → ds[0]? ≠ some 48
theorem SdOk.push {ds : List UInt8} {nd : Nat} (o : SdOk ds nd) (h : nd < 800) {c : UInt8} (hc : isD c = true) (hz : nd = 0 → c ≠ 48) : SdOk (ds.set nd c) (nd + 1) := by
  have hl := o.len
  refine ⟨by rw [List.length_set]; exact hl,by omega,fun i d hi hd => ?_,fun _ => ?_⟩
  · rw [List.getElem?_set] at hd
    split at hd
    · split at hd
      · cases hd; exact hc
      · cases hd
    · exact o.dig i d (by omega) hd
  · rw [List.getElem?_set]
    split
    · rw [if_pos (by omega)]
      exact fun e => hz (by assumption) (Option.some.inj e)
    · exact o.top (by omega)
def SeInv (a k : Nat) (s : List UInt8) (h0 : AHeap) (n0 m : Nat) (σ : Fr) (h : AHeap) (n : Nat) : Prop :=
  n = n0 ∧ ∃ (ds : List UInt8) (nd : Nat) (dp : Int) (tr : Bool) (i : Nat),SdOk ds nd ∧ i ≤ s.length ∧ m = s.length - i ∧ -(i : Int) ≤ dp ∧ dp ≤ 800 ∧ h = h0.put a (.cells (some 114) (decL ds (nd : Int) dp false tr) 804) ∧ σ = [(0,dPt a),(1, .string ⟨s.toArray⟩),(4, .bool false),(5, .int .i64 (i : Int)),(6, .bool (decide (k < i))),(7, .bool (decide (0 < i)))]
def SePost (a k : Nat) (s : List UInt8) (h0 : AHeap) (n0 : Nat) (e : Ex) (σ' : Fr) (h' : AHeap) (n' : Nat) : Prop :=
  e = .exit 1 ∧ n' = n0 ∧ ∃ (ds : List UInt8) (nd : Nat) (dp : Int) (tr : Bool),SdOk ds nd ∧ -900 ≤ dp ∧ dp ≤ 800 ∧ h' = h0.put a (.cells (some 114) (decL ds (nd : Int) dp false tr) 804) ∧ σ'.get 0 = some (dPt a) ∧ σ'.get 1 = some (.string ⟨s.toArray⟩) ∧ σ'.get 4 = some (.bool false) ∧ σ'.get 5 = some (.int .i64 (s.length : Int)) ∧ σ'.get 6 = some (.bool (decide (k < s.length))) ∧ σ'.get 7 = some (.bool true)
set_option maxRecDepth 10000 in
theorem se_loop {a k : Nat} {s : List UInt8} (ht : FTx s k) {h0 : AHeap} {n0 : Nat} (han : a < n0) :
    ∀ (m : Nat) (σ : Fr) (h : AHeap) (n : Nat),SeInv a k s h0 n0 m σ h n → HasCode EV61 (.loop F98L0) σ h n (SePost a k s h0 n0) := by
  refine wx_inv _ fun m σ h n hI => ?_
  obtain ⟨rfl,ds,nd,dp,tr,i,o,hi,hm,hp0,hp1,rfl,rfl⟩ := hI
  have hL := decL_len o.len (nd : Int) dp false tr
  have h800 := decL_800 o.len (nd := (nd : Int)) (dp := dp) (neg := false) (tr := tr)
  have h801 := decL_801 o.len (nd := (nd : Int)) (dp := dp) (neg := false) (tr := tr)
  have hsl := ht.le
  by_cases hlt : i < s.length
  · obtain ⟨c,hc⟩ : ∃ c,s[i] = c := ⟨_,rfl⟩
    have hc? : s[i]? = some c := by rw [List.getElem?_eq_getElem hlt,hc]
    have hlti : (i : Int) < (s.length : Int) := by omega
    have e5 : (i : Int) + 1 = ((i + 1 : Nat) : Int) := by omega
    have fin : ∀ {ds' : List UInt8} {nd' : Nat} {dp' : Int} {tr' : Bool} {H : AHeap},SdOk ds' nd' → -((i + 1 : Nat) : Int) ≤ dp' → dp' ≤ 800 → HSub (h0.put a (.cells (some 114) (decL ds' (nd' : Int) dp' false tr') 804)) H → ∀ {tk : Tok (SeInv a k s h0 n)} {σ : Fr},FSubL [(0,dPt a),(1, .string ⟨s.toArray⟩),(4, .bool false),(5, .int .i64 ((i + 1 : Nat) : Int)),(6, .bool (decide (k < i + 1))),(7, .bool (decide (0 < i + 1)))] σ → Again (SeInv a k s h0 n) m σ H n tk := fun o' b1 b2 hs _ _ hσ =>
      .mk' (s.length - (i + 1)) (by omega) _ _ hσ hs ⟨rfl,_,_,_,_,i + 1,o',by omega,rfl,b1,b2,rfl,rfl⟩
    rcases ht.ok i c hc? with ⟨hik,hdg⟩ | ⟨rfl,hik⟩
    · have hcb := digN_le hdg
      have c95 : ¬ ((c.toNat : Int) = 95) := by omega
      have c46 : ¬ ((c.toNat : Int) = 46) := by omega
      have c0 : (48 : Int) ≤ (c.toNat : Int) := by omega
      have c9 : (c.toNat : Int) ≤ 57 := by omega
      have hkk : decide (k < i + 1) = decide (k < i) := by
        have : (k < i + 1) ↔ (k < i) := by omega
        simp [this]
      have h0i : decide (0 < i + 1) = true := by simp
      rw [hkk,h0i] at fin
      have o48 : (c.toNat : Int) = 48 ↔ c = 48 := ⟨fun e => UInt8.toNat_inj.1 (by rw [show c.toNat = 48 by omega]; rfl),fun e => by rw [e]; rfl⟩
      by_cases h48 : (c.toNat : Int) = 48
      · by_cases hnz : nd = 0
        · subst hnz
          have hL0 := decL_len o.len 0 dp false tr
          have h8 := decL_800 o.len (nd := 0) (dp := dp) (neg := false) (tr := tr)
          have h81 := decL_801 o.len (nd := 0) (dp := dp) (neg := false) (tr := tr)
          have hw := decL_put801 o.len (nd := 0) (dp := dp) (z := dp - 1) (neg := false) (tr := tr)
          simp -dsimp (discharger := omega) [F98L0,dPt,hL0,h8,h81,hlti,hc,h48,hw, -Int.natCast_add,e5]
          exact fin (nd' := 0) (dp' := dp - 1) (tr' := tr) o (by omega) (by omega) (HSub.over rfl) (by simp [dPt])
        · have hnz' : ¬ ((nd : Int) = 0) := by omega
          by_cases h8 : nd < 800
          · have hw := decL_put o.len (nd := (nd : Int)) (dp := dp) (neg := false) (tr := tr) (i := nd) h8 c
            rw [h48] at hw
            have hL2 := decL_len (ds := ds.set nd c) (by rw [List.length_set]; exact o.len) (nd : Int) dp false tr
            have h802 := decL_800 (ds := ds.set nd c) (by rw [List.length_set]; exact o.len) (nd := (nd : Int)) (dp := dp) (neg := false) (tr := tr)
            have hw2 := decL_put800 (ds := ds.set nd c) (by rw [List.length_set]; exact o.len) (nd := (nd : Int)) (dp := dp) (z := ((nd + 1 : Nat) : Int)) (neg := false) (tr := tr)
            have e6 : (nd : Int) + 1 = ((nd + 1 : Nat) : Int) := by omega
            have o' := o.push h8 hdg (by intro h; first | exact absurd h (by omega) | exact c48)
            simp -dsimp (discharger := omega) [F98L0,dPt,hL,h800,hlti,hc,h48,hw,hL2,h802,hw2, -Int.natCast_add,e5,e6,han]
            exact fin (dp' := dp) (tr' := tr) o' (by omega) (by omega) (.ofE (.left (.inr (by simp)) (.right (.inl (by simp)) (.right (.inl (by simp)) (.right (.inl (by simp)) (.refl _ _)))))) (by simp [dPt])
          · simp -dsimp (discharger := omega) [F98L0,dPt,hL,h800,hlti,hc,h48, -Int.natCast_add,e5]
            exact fin (dp' := dp) (tr' := tr) o (by omega) (by omega) (.refl _) (by simp [dPt])
      · have c48 : c ≠ 48 := fun e => h48 (o48.2 e)
        by_cases h8 : nd < 800
        · have hw := decL_put o.len (nd := (nd : Int)) (dp := dp) (neg := false) (tr := tr) (i := nd) h8 c
          have hL2 := decL_len (ds := ds.set nd c) (by rw [List.length_set]; exact o.len) (nd : Int) dp false tr
          have h802 := decL_800 (ds := ds.set nd c) (by rw [List.length_set]; exact o.len) (nd := (nd : Int)) (dp := dp) (neg := false) (tr := tr)
          have hw2 := decL_put800 (ds := ds.set nd c) (by rw [List.length_set]; exact o.len) (nd := (nd : Int)) (dp := dp) (z := ((nd + 1 : Nat) : Int)) (neg := false) (tr := tr)
          have e6 : (nd : Int) + 1 = ((nd + 1 : Nat) : Int) := by omega
          have o' := o.push h8 hdg (by intro h; first | exact absurd h (by omega) | exact c48)
          simp -dsimp (discharger := omega) [F98L0,dPt,hL,h800,hlti,hc,c0,c9,hw,hL2,h802,hw2, -Int.natCast_add,e5,e6,han]
          exact fin (dp' := dp) (tr' := tr) o' (by omega) (by omega) (.ofE (.left (.inr (by simp)) (.right (.inl (by simp)) (.right (.inl (by simp)) (.right (.inl (by simp)) (.refl _ _)))))) (by simp [dPt])
        · have hw := decL_put803 o.len (nd := (nd : Int)) (dp := dp) (neg := false) (tr := tr) (b := true)
          simp -dsimp (discharger := omega) [F98L0,dPt,hL,h800,hlti,hc,c0,c9,hw, -Int.natCast_add,e5]
          exact fin (dp' := dp) (tr' := true) o (by omega) (by omega) (HSub.over rfl) (by simp [dPt])
    · subst hik
      have hw := decL_put801 o.len (nd := (nd : Int)) (dp := dp) (z := (nd : Int)) (neg := false) (tr := tr)
      have hki : decide (i < i) = false := by simp
      have hki2 : decide (i < i + 1) = true := by simp
      have h0i : decide (0 < i + 1) = true := by simp
      have h0i2 : decide (0 < i) = true := by have := ht.one; simp; omega
      have c46 : (((46 : UInt8).toNat : Nat) : Int) = 46 := rfl
      have hnd := o.le
      rw [hki2,h0i] at fin
      rw [hki,h0i2]
      simp -dsimp (discharger := omega) [F98L0,dPt,hL,h800,hlti,hc,hw, -Int.natCast_add,e5]
      exact fin (dp' := (nd : Int)) (tr' := tr) o (by omega) (by omega) (HSub.over rfl) (by simp [dPt])
  · have hie : i = s.length := by omega
    have hpos := ht.pos
    have h0i2 : decide (0 < i) = true := by simp; omega
    have stop : ∀ {σ : Fr},FSubL [(0,dPt a),(1, .string ⟨s.toArray⟩),(4, .bool false),(5, .int .i64 (i : Int)),(6, .bool (decide (k < i))),(7, .bool true)] σ → SePost a k s h0 n (.exit 1) σ (h0.put a (.cells (some 114) (decL ds (nd : Int) dp false tr) 804)) n := fun hσ =>
      ⟨rfl,rfl,ds,nd,dp,tr,o,by omega,hp1,rfl,hσ.1,hσ.2.1,hσ.2.2.1,hie ▸ hσ.2.2.2.1,hie ▸ hσ.2.2.2.2.1,hσ.2.2.2.2.2.1⟩
    have hlti : ¬ (i : Int) < (s.length : Int) := by omega
    rw [h0i2]
    simp -dsimp (discharger := omega) [F98L0,dPt,hlti]
    exact stop (by simp [dPt])
def SetP (b : Blk) : Prop := ∃ (ds : List UInt8) (nd : Nat) (dp : Int) (tr : Bool),b = .cells (some 114) (decL ds (nd : Int) dp false tr) 804 ∧ ds.length = 800 ∧ -900 ≤ dp ∧ dp ≤ 800 ∧ (nd = 0 ∨ DOk ds nd)
set_option maxRecDepth 10000 in
theorem set_ret {a k : Nat} {s : List UInt8} (ht : FTx s k) {ds : List UInt8} (hl : ds.length = 800) {tr neg : Bool} {h : AHeap} {n : Nat} (han : a < n) (hg : h.get a = some (.cells (some 114) (decL ds 0 0 neg tr) 804)) : DRetB 98 [.string ⟨s.toArray⟩] a h n (.bool true) SetP := by
  refine dretb_of (af := F98) (by simp [hg]) rfl (by simp [F98]) ?_
  show wx EV61 B98 [(0,dPt a),(1, .string ⟨s.toArray⟩)] h n (Done [.tmp 4] _) ()
  have hL := decL_len hl 0 0 neg tr
  have hw := decL_put802 hl (nd := 0) (dp := 0) (neg := neg) (tr := tr) (b := false)
  have hL2 := decL_len hl 0 0 false tr
  have hw2 := decL_put803 hl (nd := 0) (dp := 0) (neg := false) (tr := tr) (b := false)
  have hpos := ht.pos
  have hle := ht.le
  obtain ⟨c,hc⟩ : ∃ c,s[0] = c := ⟨_,rfl⟩
  have hcd : isD c = true := by
    rcases ht.ok 0 c (by rw [List.getElem?_eq_getElem hpos,hc]) with h | ⟨_,h⟩
    · exact h.2
    · have := ht.one; omega
  have hcb := digN_le hcd
  have c43 : ¬ ((c.toNat : Int) = 43) := by omega
  have c45 : ¬ ((c.toNat : Int) = 45) := by omega
  have hp0 : ¬ s = [] := by rintro rfl; simp at hpos
  simp -dsimp (discharger := omega) [B98,dPt,hg,hL,hw,hL2,hw2,hc,hp0]
  have k0 : decide (k < 0) = false := by simp
  have o : SdOk ds 0 := ⟨hl,by omega,fun i c h => absurd h (by omega),fun h => by omega⟩
  refine loop_use (se_loop (a := a) ht (h0 := h) (n0 := n) han s.length [(0,dPt a),(1, .string ⟨s.toArray⟩),(4, .bool false),(5, .int .i64 ((0 : Nat) : Int)),(6, .bool (decide (k < 0))),(7, .bool (decide (0 < 0)))] (h.put a (.cells (some 114) (decL ds ((0 : Nat) : Int) 0 false false) 804)) n ⟨rfl,ds,0,0,false,0,o,by omega,by omega,by omega,by omega,rfl,rfl⟩) (by simp [dPt]) (.ofE (.left (.inr (by simp)) (.right (.inl (by simp)) (.right (.inl (by simp)) (.refl _ _))))) ?_
  rintro e σ' h' n' ⟨rfl,rfl,ds',nd,dp,tr',o',hp1,hp2,rfl,s0,s1,s4,s5,s6,s7⟩
  have hL3 := decL_len o'.len (nd : Int) dp false tr'
  have h83 := decL_800 o'.len (nd := (nd : Int)) (dp := dp) (neg := false) (tr := tr')
  have hw3 := decL_put801 o'.len (nd := (nd : Int)) (dp := dp) (z := (nd : Int)) (neg := false) (tr := tr')
  have hnle := o'.le
  have fin : ∀ {dp' : Int} {H : AHeap}, -900 ≤ dp' → dp' ≤ 800 → HSub (h.put a (.cells (some 114) (decL ds' (nd : Int) dp' false tr') 804)) H → DFinB a h n' (.bool true) SetP (.bool true) H n' := fun b1 b2 hs => ⟨rfl,rfl,_,⟨ds',nd,_,tr',rfl,o'.len,b1,b2,by
    rcases Nat.eq_zero_or_pos nd with h | h
    · exact .inl h
    · exact .inr ⟨o'.len,h,o'.le,o'.dig,o'.top h⟩⟩,hs⟩
  by_cases hk : k < s.length
  · simp -dsimp (discharger := omega) [s1,s5,s6,s7,hk]
    exact fin hp1 hp2 (.refl _)
  · simp -dsimp (discharger := omega) [s0,s1,s5,s6,s7,dPt,hk,hL3,h83,hw3]
    exact fin (dp' := (nd : Int)) (by omega) (by omega) (HSub.over rfl)
end
end Go.Proofs.YtkdpjaaohddppaaGreatDoor.Am
namespace Go.Proofs.YtkdpjaaohddppaaGreatDoor.Am
noncomputable section
/- CONTRACT: readFloat: digits,with one point at most. -/
theorem low_all : ∀ c : Fin 58,45 < c.1 → orI .u8 (c.1 : Int) 32 = (c.1 : Int) := by decide +kernel
theorem lower_ret {c : Nat} (h0 : 45 < c) (h1 : c < 58) (h : AHeap) (n : Nat) : Ret EV61 107 [.int .u8 (c : Int)] h n (.int .u8 (c : Int)) [] n := by
  refine rsx107 (by simp) (by simp) ?_
  have := low_all ⟨c,h1⟩ h0
  simp -dsimp (discharger := omega) [B107,HSub.refl]
  exact this
def RfL (s : List UInt8) (k _m i : Nat) (mant nd nm : Nat) (dp : Int) (tr : Bool) : Fr := [(0, .string ⟨s.toArray⟩),(2, .int .u64 (mant : Int)),(3, .int .i64 0),(4, .bool false),(5, .bool tr),(6, .bool false),(7, .int .i64 (i : Int)),(8, .bool false),(9, .bool false),(10, .int .u64 10),(11, .int .i64 19),(12, .int .u8 101),(13, .bool (decide (k < i))),(14, .bool (decide (0 < i))),(15, .int .i64 (nd : Int)),(16, .int .i64 (nm : Int)),(17, .int .i64 dp)]
structure RdN (i mant nd nm : Nat) (dp : Int) : Prop where
  nm9 : nm ≤ 19
  lt : mant < 10 ^ nm
  nd1 : nm ≤ nd
  nd2 : nd ≤ i
  lo : -(i : Int) ≤ dp
  hi : dp ≤ i
theorem pow19 {nm : Nat} (h : nm ≤ 19) : 10 ^ nm ≤ 10000000000000000000 := by
  have : 10 ^ nm ≤ 10 ^ 19 := Nat.pow_le_pow_right (by decide) h
  rwa [show (10 : Nat) ^ 19 = 10000000000000000000 from by decide] at this
def RxInv (s : List UInt8) (k : Nat) (h0 : AHeap) (n0 m : Nat) (σ : Fr) (h : AHeap) (n : Nat) : Prop :=
  n = n0 ∧ h = h0 ∧ ∃ (i mant nd nm : Nat) (dp : Int) (tr : Bool),RdN i mant nd nm dp ∧ i ≤ s.length ∧ m = s.length - i ∧ σ = RfL s k m i mant nd nm dp tr
def RxPost (s : List UInt8) (k : Nat) (h0 : AHeap) (n0 : Nat) (e : Ex) (σ' : Fr) (h' : AHeap) (n' : Nat) : Prop :=
  e = .exit 1 ∧ n' = n0 ∧ h' = h0 ∧ ∃ (mant nd nm : Nat) (dp : Int) (tr : Bool),RdN s.length mant nd nm dp ∧ FSubL (RfL s k 0 s.length mant nd nm dp tr) σ'
set_option maxRecDepth 10000 in
theorem rx_loop {k : Nat} {s : List UInt8} (ht : FTx s k) {h0 : AHeap} {n0 : Nat} :
    ∀ (m : Nat) (σ : Fr) (h : AHeap) (n : Nat),RxInv s k h0 n0 m σ h n → HasCode EV61 (.loop F92L0) σ h n (RxPost s k h0 n0) := by
  refine wx_inv _ fun m σ h n hI => ?_
  obtain ⟨rfl,rfl,i,mant,nd,nm,dp,tr,o,hi,hm,rfl⟩ := hI
  have hsl := ht.le
  have hnm := o.nm9
  have hmt := o.lt
  have hp19 := pow19 hnm
  have hnd := o.nd1
  have hnd2 := o.nd2
  have hlo := o.lo
  have hhi := o.hi
  by_cases hlt : i < s.length
  · obtain ⟨c,hc⟩ : ∃ c,s[i] = c := ⟨_,rfl⟩
    have hc? : s[i]? = some c := by rw [List.getElem?_eq_getElem hlt,hc]
    have hlti : (i : Int) < (s.length : Int) := by omega
    have e5 : (i : Int) + 1 = ((i + 1 : Nat) : Int) := by omega
    have fin : ∀ {mant' nd' nm' : Nat} {dp' : Int} {tr' : Bool},RdN (i + 1) mant' nd' nm' dp' → ∀ {tk : Tok (RxInv s k h n)} {σ : Fr},FSubL (RfL s k m (i + 1) mant' nd' nm' dp' tr') σ → Again (RxInv s k h n) m σ h n tk := fun o' _ _ hσ =>
      .mk' (s.length - (i + 1)) (by omega) _ _ hσ (.refl _) ⟨rfl,rfl,i + 1,_,_,_,_,_,o',by omega,rfl,rfl⟩
    rcases ht.ok i c hc? with ⟨hik,hdg⟩ | ⟨rfl,hik⟩
    · have hcb := digN_le hdg
      have c95 : ¬ ((c.toNat : Int) = 95) := by omega
      have c46 : ¬ ((c.toNat : Int) = 46) := by omega
      have c0 : (48 : Int) ≤ (c.toNat : Int) := by omega
      have c9 : (c.toNat : Int) ≤ 57 := by omega
      have hkk : decide (k < i + 1) = decide (k < i) := by
        have : (k < i + 1) ↔ (k < i) := by omega
        simp [this]
      have h0i : decide (0 < i + 1) = true := by simp
      unfold RfL at fin ⊢
      rw [hkk,h0i] at fin
      by_cases hA : (c.toNat : Int) = 48 ∧ nd = 0
      · obtain ⟨h48,rfl⟩ := hA
        simp -dsimp (discharger := omega) [F92L0,hlti,hc,h48, -Int.natCast_add,e5]
        exact fin (mant' := mant) (nd' := 0) (nm' := nm) (dp' := dp - 1) (tr' := tr) ⟨hnm,hmt,hnd,by omega,by omega,by omega⟩ (by simp)
      · have hnot : ¬ ((c.toNat : Int) = 48 ∧ (nd : Int) = 0) := by omega
        have e6 : (nd : Int) + 1 = ((nd + 1 : Nat) : Int) := by omega
        by_cases h9 : nm < 19
        · have h9' : (nm : Int) < 19 := by omega
          have e7 : (nm : Int) + 1 = ((nm + 1 : Nat) : Int) := by omega
          have hm18 : mant < 1000000000000000000 := by
            have : 10 ^ nm ≤ 10 ^ 18 := Nat.pow_le_pow_right (by decide) (by omega)
            rw [show (10 : Nat) ^ 18 = 1000000000000000000 from by decide] at this
            omega
          have e8 : (mant : Int) * 10 + ((c.toNat : Int) - 48) = ((mant * 10 + (c.toNat - 48) : Nat) : Int) := by omega
          have o' : RdN (i + 1) (mant * 10 + (c.toNat - 48)) (nd + 1) (nm + 1) dp := ⟨by omega,by rw [Nat.pow_succ]; omega,by omega,by omega,by omega,by omega⟩
          by_cases h48 : (c.toNat : Int) = 48
          · have hnz : ¬ ((nd : Int) = 0) := by omega
            have e9 : (mant : Int) * 10 = ((mant * 10 : Nat) : Int) := by omega
            have o2 : RdN (i + 1) (mant * 10) (nd + 1) (nm + 1) dp := by
              rw [show c.toNat - 48 = 0 by omega] at o'
              exact o'
            simp -dsimp (discharger := omega) [F92L0,hlti,hc,h48,h9', -Int.natCast_add, -Int.natCast_mul,e5,e6,e7,e9]
            exact fin (tr' := tr) o2 (by simp)
          · simp -dsimp (discharger := omega) [F92L0,hlti,hc,c0,c9,h9', -Int.natCast_add, -Int.natCast_mul,e5,e6,e7,e8]
            exact fin (tr' := tr) o' (by simp)
        · have h9' : ¬ (nm : Int) < 19 := by omega
          have hnz : ¬ ((nd : Int) = 0) := by omega
          have o' : RdN (i + 1) mant (nd + 1) nm dp := ⟨by omega,hmt,by omega,by omega,by omega,by omega⟩
          by_cases h48 : (c.toNat : Int) = 48
          · simp -dsimp (discharger := omega) [F92L0,hlti,hc,h48,h9', -Int.natCast_add, -Int.natCast_mul,e5,e6]
            exact fin (tr' := tr) o' (by simp)
          · simp -dsimp (discharger := omega) [F92L0,hlti,hc,c0,c9,h9', -Int.natCast_add, -Int.natCast_mul,e5,e6]
            exact fin (tr' := true) o' (by simp)
    · subst hik
      have hki : decide (i < i) = false := by simp
      have hki2 : decide (i < i + 1) = true := by simp
      have h0i : decide (0 < i + 1) = true := by simp
      have h0i2 : decide (0 < i) = true := by have := ht.one; simp; omega
      have c46 : (((46 : UInt8).toNat : Nat) : Int) = 46 := rfl
      have o' : RdN (i + 1) mant nd nm (nd : Int) := ⟨hnm,hmt,hnd,by omega,by omega,by omega⟩
      unfold RfL at fin ⊢
      rw [hki2,h0i] at fin
      rw [hki,h0i2]
      simp -dsimp (discharger := omega) [F92L0,hlti,hc, -Int.natCast_add,e5]
      exact fin (tr' := tr) o' (by simp)
  · have hie : i = s.length := by omega
    subst hie
    have hlti : ¬ (s.length : Int) < (s.length : Int) := by omega
    have stop : ∀ {σ : Fr},FSubL (RfL s k 0 s.length mant nd nm dp tr) σ → RxPost s k h n (.exit 1) σ h n := fun hσ => ⟨rfl,rfl,rfl,mant,nd,nm,dp,tr,o,hσ⟩
    unfold RfL at stop ⊢
    simp -dsimp (discharger := omega) [F92L0]
    exact stop (by simp)
def RfV (s : List UInt8) (v : Value) : Prop := ∃ (mant : Nat) (e : Int) (tr : Bool),v = .tuple #[.int .u64 (mant : Int), .int .i64 e, .bool false, .bool tr, .bool false, .int .i64 (s.length : Int), .bool true] ∧ mant < 10000000000000000000 ∧ -2000 ≤ e ∧ e ≤ 2000
def inner92 : ACode := match B92 with
  | .seq _ (.scope b) => b
  | c => c
def tail92 : ACode := sndC (sndC (sndC (sndC (sndC (sndC (sndC inner92))))))
theorem inner_eq : inner92 = .seq (fstC inner92) (.seq (fstC (sndC inner92)) (.seq (fstC (sndC (sndC inner92))) (.seq (fstC (sndC (sndC (sndC inner92)))) (.seq (fstC (sndC (sndC (sndC (sndC inner92))))) (.seq (fstC (sndC (sndC (sndC (sndC (sndC inner92)))))) (.seq (fstC (sndC (sndC (sndC (sndC (sndC (sndC inner92))))))) (tail92))))))) := rfl
theorem B92_eq : B92 = .seq (fstC B92) (.scope inner92) := rfl
def res92 : List ARes := [.tmp 2, .tmp 3, .tmp 4, .tmp 5, .tmp 6, .tmp 7, .tmp 8]
set_option maxRecDepth 10000 in
theorem rt_walk {k : Nat} {s : List UInt8} (ht : FTx s k) {h : AHeap} {n : Nat} {σ : Fr} (s0 : σ.get 0 = some (.string ⟨s.toArray⟩)) (s2 : σ.get 2 = some (.int .u64 0)) (s3 : σ.get 3 = some (.int .i64 0)) (s4 : σ.get 4 = some (.bool false)) (s5 : σ.get 5 = some (.bool false)) (s6 : σ.get 6 = some (.bool false)) (s7 : σ.get 7 = some (.int .i64 0)) (s8 : σ.get 8 = some (.bool false)) (s9 : σ.get 9 = some (.bool false)) (s10 : σ.get 10 = some (.int .u64 10)) (s11 : σ.get 11 = some (.int .i64 19)) (s12 : σ.get 12 = some (.int .u8 101)) :
    wx EV61 tail92 σ h n (CalmQ (Done res92 (fun v1 h1 n1 => RfV s v1 ∧ HSub h h1 ∧ n1 ≤ n))) () := by
  have hpos := ht.pos
  have hle := ht.le
  have k0 : decide (k < 0) = false := by simp
  simp -dsimp (discharger := omega) [tail92,sndC,inner92,B92]
  refine loop_use (rx_loop ht s.length (RfL s k s.length 0 0 0 0 0 false) h n ⟨rfl,rfl,0,0,0,0,0,false,⟨by omega,by decide,by omega,by omega,by omega,by omega⟩,by omega,by omega,rfl⟩) (by unfold RfL; simp [s0,s2,s3,s4,s5,s6,s7,s8,s9,s10,s11,s12]) (.refl _) ?_
  rintro e σ1 h1 n1 ⟨rfl,rfl,rfl,mant,nd,nm,dp,tr,o,hσ⟩
  have hp19 := pow19 o.nm9
  have hmt := o.lt
  have hnd := o.nd1
  have hnd2 := o.nd2
  have hlo := o.lo
  have hhi := o.hi
  have hnm := o.nm9
  unfold RfL at hσ
  simp only [FSubL,and_true] at hσ
  obtain ⟨t0,t2,t3,t4,t5,t6,t7,t8,t9,t10,t11,t12,t13,t14,t15,t16,t17⟩ := hσ
  have h0l : decide (0 < s.length) = true := by simp; omega
  rw [h0l] at t14
  have fin : ∀ {e : Int}, -2000 ≤ e → e ≤ 2000 → RfV s (.tuple #[.int .u64 (mant : Int), .int .i64 e, .bool false, .bool tr, .bool false, .int .i64 (s.length : Int), .bool true]) := fun a b => ⟨mant,_,tr,rfl,by omega,a,b⟩
  by_cases hk : k < s.length
  · by_cases hz : mant = 0
    · subst hz
      simp -dsimp (discharger := omega) [t0,t2,t7,t9,t10,t13,t14,hk,res92]
      refine calm_ret ?_
      simp -dsimp (discharger := omega) [t2,t3,t4,t5,t6,t7,HSub.refl]
      exact fin (by omega) (by omega)
    · have hz' : ¬ ((mant : Int) = 0) := by omega
      simp -dsimp (discharger := omega) [t0,t2,t7,t9,t10,t13,t14,t16,t17,hk,res92]
      refine calm_ret ?_
      simp -dsimp (discharger := omega) [t2,t4,t5,t6,t7,HSub.refl]
      exact fin (by omega) (by omega)
  · by_cases hz : mant = 0
    · subst hz
      simp -dsimp (discharger := omega) [t0,t2,t7,t9,t10,t13,t14,t15,hk,res92]
      refine calm_ret ?_
      simp -dsimp (discharger := omega) [t2,t3,t4,t5,t6,t7,HSub.refl]
      exact fin (by omega) (by omega)
    · have hz' : ¬ ((mant : Int) = 0) := by omega
      simp -dsimp (discharger := omega) [t0,t2,t7,t9,t10,t13,t14,t15,t16,hk,res92]
      refine calm_ret ?_
      simp -dsimp (discharger := omega) [t2,t4,t5,t6,t7,HSub.refl]
      exact fin (by omega) (by omega)
set_option maxRecDepth 10000 in
theorem readFloat_ret {k : Nat} {s : List UInt8} (ht : FTx s k) (h : AHeap) (n : Nat) : ∃ v,RfV s v ∧ Ret EV61 92 [.string ⟨s.toArray⟩] h n v [] n := by
  refine rex92 ?_
  have hpos := ht.pos
  have hle := ht.le
  have hnil : ¬ s = [] := by rintro rfl; simp at hpos
  obtain ⟨c,hc⟩ : ∃ c,s[0] = c := ⟨_,rfl⟩
  have hcd : isD c = true := by
    rcases ht.ok 0 c (by rw [List.getElem?_eq_getElem hpos,hc]) with h | ⟨_,h⟩
    · exact h.2
    · have := ht.one; omega
  have hcb := digN_le hcd
  have c43 : ¬ ((c.toNat : Int) = 43) := by omega
  have c45 : ¬ ((c.toNat : Int) = 45) := by omega
  have rw0 := fun σ s0 s2 s3 s4 s5 s6 s7 s8 s9 s10 s11 s12 => rt_walk ht (h := h) (n := n) (σ := σ) s0 s2 s3 s4 s5 s6 s7 s8 s9 s10 s11 s12
  unfold res92 at rw0
  rw [B92_eq]
  simp -dsimp (discharger := omega) [fstC,B92]
  refine scope_use (wx_big (t := ()) ?_)
  rw [inner_eq]
  by_cases h2 : 2 < s.length
  · have h2' : (2 : Int) < (s.length : Int) := by omega
    by_cases h48 : (c.toNat : Int) = 48
    · obtain ⟨d,hd⟩ : ∃ d,s[1] = d := ⟨_,rfl⟩
      have hdb : 45 < d.toNat ∧ d.toNat < 58 := by
        rcases ht.ok 1 d (by rw [List.getElem?_eq_getElem (by omega),hd]) with h | ⟨h,_⟩
        · have := digN_le h.2; omega
        · subst h; decide
      have hlow := lower_ret hdb.1 hdb.2 h n
      have d120 : ¬ ((d.toNat : Int) = 120) := by omega
      simp -dsimp (discharger := omega) [fstC,sndC,inner92,B92,hc,hnil,h2',h48,hd]
      refine call_ret hlow ?_
      simp -dsimp (discharger := omega) []
      exact rw0 _ (by simp) (by simp) (by simp) (by simp) (by simp) (by simp) (by simp) (by simp) (by simp) (by simp) (by simp) (by simp)
    · simp -dsimp (discharger := omega) [fstC,sndC,inner92,B92,hc,hnil,h2']
      exact rw0 _ (by simp) (by simp) (by simp) (by simp) (by simp) (by simp) (by simp) (by simp) (by simp) (by simp) (by simp) (by simp)
  · have h2' : ¬ (2 : Int) < (s.length : Int) := by omega
    simp -dsimp (discharger := omega) [fstC,sndC,inner92,B92,hc,hnil,h2']
    exact rw0 _ (by simp) (by simp) (by simp) (by simp) (by simp) (by simp) (by simp) (by simp) (by simp) (by simp) (by simp) (by simp)
end
end Go.Proofs.YtkdpjaaohddppaaGreatDoor.Am
namespace Go.Proofs.YtkdpjaaohddppaaGreatDoor.Am
noncomputable section
/- CONTRACTS: special,prescale,uscale,pack64,parseFloat64. -/
theorem frombits_ret (m : Nat) (h : AHeap) (n : Nat) : Ret EV61 101 [.int .u64 (m : Int)] h n (.float .f64 m) [] n := orc_ret (fs := fs61) (ps := ps61) (l := []) (by simp [primOrc,ps61,lookF,Prim.ev,putsL]) (Nat.le_refl _) (by simp) (by simp)
theorem and_pow_zero {m k : Nat} (h : m < 2 ^ k) : m &&& 2 ^ k = 0 := by
  apply Nat.eq_of_testBit_eq
  intro i
  rw [Nat.testBit_and,Nat.testBit_two_pow,Nat.zero_testBit]
  by_cases hi : k = i
  · subst hi; rw [Nat.testBit_lt_two_pow h]; rfl
  · simp [hi]
theorem special_ret {k : Nat} {s : List UInt8} (ht : FTx s k) (h : AHeap) (n : Nat) : Ret EV61 91 [.string ⟨s.toArray⟩] h n (.tuple #[.float .f64 0, .int .i64 0, .bool false]) [] n := by
  refine rsx91 (by simp) (by simp) ?_
  have hpos := ht.pos
  have hle := ht.le
  have hnil : ¬ s = [] := by rintro rfl; simp at hpos
  obtain ⟨c,hc⟩ : ∃ c,s[0] = c := ⟨_,rfl⟩
  have hcd : isD c = true := by
    rcases ht.ok 0 c (by rw [List.getElem?_eq_getElem hpos,hc]) with h | ⟨_,h⟩
    · exact h.2
    · have := ht.one; omega
  have hcb := digN_le hcd
  have c1 : ¬ ((c.toNat : Int) = 43) := by omega
  have c2 : ¬ ((c.toNat : Int) = 45) := by omega
  have c3 : ¬ ((c.toNat : Int) = 105) := by omega
  have c4 : ¬ ((c.toNat : Int) = 73) := by omega
  have c5 : ¬ ((c.toNat : Int) = 110) := by omega
  have c6 : ¬ ((c.toNat : Int) = 78) := by omega
  simp -dsimp (discharger := omega) [B91,hc,HSub.refl]
def PfV (v : Value) : Prop := ∃ (bits : Nat) (err : Value),v = .tuple #[.float .f64 bits,err] ∧ (err = .nilIface ∧ bits < 9218868437227405312 ∨ err = .iface 74 (.int .i64 1) ∧ bits = 9218868437227405312)
theorem PfV.ok {bits : Nat} (h : bits < 9218868437227405312) : PfV (.tuple #[.float .f64 bits, .nilIface]) := ⟨bits,_,rfl, .inl ⟨rfl,h⟩⟩
theorem PfV.inf : PfV (.tuple #[.float .f64 9218868437227405312, .iface 74 (.int .i64 1)]) := ⟨_,_,rfl, .inr ⟨rfl,rfl⟩⟩
theorem pk_bit {m : Nat} (h : m ≤ 9007199254740992) : (m &&& 4503599627370496 = 0) ∨ 4503599627370496 ≤ m ∧ m < 9007199254740992 := by
  rcases Nat.lt_or_ge m 4503599627370496 with h1 | h1
  · left
    exact and_pow_zero (k := 52) h1
  · rcases Nat.lt_or_ge m 9007199254740992 with h2 | h2
    · exact .inr ⟨h1,h2⟩
    · left; rw [show m = 9007199254740992 by omega]; decide
theorem andNot_pk {m : Nat} (h1 : 4503599627370496 ≤ m) (h2 : m < 9007199254740992) : andNotI .u64 (m : Int) 4503599627370496 = ((m - 4503599627370496 : Nat) : Int) := by
  have e0 : (BitVec.ofInt 64 (m : Int)).toNat = m := ofInt_nat (w := 64) (by show m < 2 ^ 64; omega)
  have e1 : (BitVec.ofInt 64 ((4503599627370496 : Nat) : Int)).toNat = 2 ^ 52 := ofInt_nat (w := 64) (by decide)
  have e2 : (BitVec.ofInt 64 (m : Int) &&& ~~~(BitVec.ofInt 64 ((4503599627370496 : Nat) : Int))).toNat = m % 2 ^ 52 := by
    apply Nat.eq_of_testBit_eq
    intro i
    rw [BitVec.testBit_toNat,BitVec.getLsbD_and,BitVec.getLsbD_not,← BitVec.testBit_toNat,← BitVec.testBit_toNat,e0,e1,Nat.testBit_mod_two_pow,Nat.testBit_two_pow]
    rcases Nat.lt_or_ge i 52 with h | h
    · have : ¬ 52 = i := by omega
      simp [h,this]; omega
    · rcases Nat.lt_or_ge 52 i with h3 | h3
      · have hb : m.testBit i = false := Nat.testBit_lt_two_pow (Nat.lt_of_lt_of_le (show m < 2 ^ 53 from h2) (Nat.pow_le_pow_right (by decide) h3))
        simp [hb]
      · have : i = 52 := by omega
        subst this; simp
  unfold andNotI
  show IntKind.u64.wrap (((BitVec.ofInt 64 (m : Int) &&& ~~~(BitVec.ofInt 64 ((4503599627370496 : Nat) : Int))).toNat : Nat) : Int) = _
  rw [e2,show m % 2 ^ 52 = m - 4503599627370496 by omega]
  exact wrap_u64 (by omega) (by omega)
theorem pack_ret {m : Nat} (hm : m ≤ 9007199254740992) {e : Int} (he0 : -1074 ≤ e) (he1 : e ≤ 100000) (h : AHeap) (n : Nat) : ∃ v,PfV v ∧ Ret EV61 134 [.int .u64 (m : Int), .int .i64 e] h n v [] n := by
  refine rex134 ?_
  have e1 : andI .u64 (m : Int) 4503599627370496 = ((m &&& 4503599627370496 : Nat) : Int) := by
    rw [show (4503599627370496 : Int) = ((4503599627370496 : Nat) : Int) from rfl,and64 (by omega) (by omega)]
  obtain ⟨z,hz⟩ : ∃ z,z = m &&& 4503599627370496 := ⟨_,rfl⟩
  have hb := pk_bit hm
  rw [← hz] at e1 hb
  have fin := @PfV.ok
  by_cases hz0 : z = 0
  · have hz1 : (z : Int) = 0 := by omega
    simp -dsimp (discharger := omega) [B134,e1,hz1]
    refine call_ret (frombits_ret m h n) ?_
    simp -dsimp (discharger := omega) [HSub.refl]
    exact fin (by omega)
  · obtain ⟨h1,h2⟩ := hb.resolve_left hz0
    have hz1 : ¬ (z : Int) = 0 := by omega
    by_cases h972 : 972 ≤ e
    · have a1 : andI .u64 (m : Int) 9223372036854775808 = 0 := by
        rw [show (9223372036854775808 : Int) = ((9223372036854775808 : Nat) : Int) from rfl,and64 (by omega) (by omega)]
        have : m &&& 2 ^ 63 = 0 := and_pow_zero (by show m < 2 ^ 63; omega)
        rw [show (9223372036854775808 : Nat) = 2 ^ 63 from rfl,this]; rfl
      have a2 : orI .u64 0 9218868437227405312 = 9218868437227405312 := by decide
      have inf := PfV.inf
      simp -dsimp (discharger := omega) [B134,e1,h972,a1,a2]
      refine call_ret (frombits_ret 9218868437227405312 h n) ?_
      simp -dsimp (discharger := omega) [HSub.refl]
      exact inf
    · have a1 := andNot_pk h1 h2
      obtain ⟨E,hE⟩ : ∃ E : Nat,1075 + e = (E : Int) := ⟨(1075 + e).toNat,by omega⟩
      have hE7 : E < 2048 := by omega
      have a2 := (and11_all ⟨E,hE7⟩).2
      simp only at a2
      have a3 : orI .u64 ((m - 4503599627370496 : Nat) : Int) ((E * 4503599627370496 : Nat) : Int) = ((E * 4503599627370496 + (m - 4503599627370496) : Nat) : Int) := by
        rw [or64 (by omega) (by omega),bits_or (by omega)]
      obtain ⟨B,hB⟩ : ∃ B,B = E * 4503599627370496 + (m - 4503599627370496) := ⟨_,rfl⟩
      obtain ⟨D,hD⟩ : ∃ D,D = E * 4503599627370496 := ⟨_,rfl⟩
      obtain ⟨M,hM⟩ : ∃ M,M = m - 4503599627370496 := ⟨_,rfl⟩
      rw [← hM] at a1
      rw [← hD] at a2
      rw [← hB,← hD,← hM] at a3
      rw [← hD,← hM] at hB
      have hBl : B < 9218868437227405312 := by omega
      simp -dsimp (discharger := omega) [B134,e1,h972,a1,a2,a3,hE]
      refine call_ret (frombits_ret B h n) ?_
      simp -dsimp (discharger := omega) [HSub.refl]
      exact fin hBl
end
end Go.Proofs.YtkdpjaaohddppaaGreatDoor.Am
namespace Go.Proofs.YtkdpjaaohddppaaGreatDoor.Am
noncomputable section
/- CONTRACTS: prescale,uscale,parseFloat64. -/
theorem and63_all : ∀ s : Fin 64,andI .i64 (s.1 : Int) 63 = (s.1 : Int) := by decide +kernel
theorem shr64 {s : Nat} (hs : s ≤ 63) (x : Nat) : shrI .u64 (x : Int) (s : Int) = ((x / 2 ^ s : Nat) : Int) := by
  have := shrI_nat .u64 x s
  rwa [show min s IntKind.u64.bits = s from Nat.min_eq_left (by show s ≤ 64; omega)] at this
theorem shl_any (k : IntKind) (hk : k = .u64) (x : Int) (j : Int) : ∃ m : Nat,m < 18446744073709551616 ∧ shlI k x j = (m : Int) := by
  subst hk; exact wrap_any _
theorem bool2u_ex (b : Bool) (h : AHeap) (n : Nat) : ∃ t : Nat,t ≤ 1 ∧ Ret EV61 100 [.bool b] h n (.int .u64 (t : Int)) [] n := by
  cases b
  · exact ⟨0,by omega,bool2u_ret false h n⟩
  · exact ⟨1,by omega,bool2u_ret true h n⟩
def UlV (b : Nat) (v : Value) : Prop := ∃ m : Nat,m < b ∧ v = .int .u64 (m : Int)
theorem uscale_ret {x c hi lo s : Nat} (hx : x < 18446744073709551616) (hhi : hi < 18446744073709551616) (hlo : lo < 18446744073709551616) (hs : s ≤ 63) {h : AHeap} (hg : h.get c = some (.cells (some 148) [.int .u64 (hi : Int), .int .u64 (lo : Int), .int .i64 (s : Int)] 3)) (n : Nat) :
    ∃ v,UlV (2 ^ (64 - s)) v ∧ Ret EV61 111 [.int .u64 (x : Int), .pointer (some ⟨c,0,some 3⟩)] h n v [] n := by
  refine rex111 ?_
  obtain ⟨v1,⟨a,b,ha,hb,rfl⟩,r1⟩ := mul64_ret hx hhi h n
  obtain ⟨v2,⟨a2,b2,ha2,hb2,rfl⟩,r2⟩ := mul64_ret hx hlo h n
  have e1 := and63_all ⟨s,by omega⟩
  simp only at e1
  have hpw : 1 < 2 ^ (64 - s) := Nat.one_lt_two_pow (by omega)
  have hq : ∀ {y : Nat},y < 18446744073709551616 → y / 2 ^ s < 2 ^ (64 - s) := by
    intro y hy
    refine Nat.div_lt_of_lt_mul ?_
    rw [← Nat.pow_add,show s + (64 - s) = 64 by omega]; exact hy
  have hle : 2 ^ (64 - s) ≤ 18446744073709551616 := Nat.pow_le_pow_right (n := 2) (by decide) (by omega : 64 - s ≤ 64)
  have or1 : ∀ {q b : Nat},q < 2 ^ (64 - s) → b ≤ 1 → ∃ m : Nat,m < 2 ^ (64 - s) ∧ orI .u64 (q : Int) (b : Int) = (m : Int) := by
    intro q b h1 h2
    exact ⟨q ||| b,Nat.or_lt_two_pow h1 (by omega),or64 (by omega) (by omega)⟩
  have e2 := shr64 hs a
  obtain ⟨q,hqe⟩ : ∃ q,q = a / 2 ^ s := ⟨_,rfl⟩
  have hql : q < 2 ^ (64 - s) := hqe ▸ hq ha
  rw [← hqe] at e2
  obtain ⟨y,hy,e3⟩ := shl_any .u64 rfl (q : Int) (s : Int)
  obtain ⟨m1,hm1,e4⟩ := or1 hql (Nat.le_refl 1)
  rw [show ((1 : Nat) : Int) = 1 from rfl] at e4
  have fin : ∀ {m : Nat},m < 2 ^ (64 - s) → UlV (2 ^ (64 - s)) (.int .u64 (m : Int)) := fun h => ⟨_,h,rfl⟩
  by_cases hne : (y : Int) = (a : Int)
  · obtain ⟨t,ht,rt⟩ := bool2u_ex (decide (b < a2)) h n
    obtain ⟨z,hz,e5⟩ := wrap_any ((a : Int) - (t : Int))
    have e6 := shr64 hs z
    obtain ⟨q2,hq2⟩ : ∃ q,q = z / 2 ^ s := ⟨_,rfl⟩
    have hq2l : q2 < 2 ^ (64 - s) := hq2 ▸ hq hz
    rw [← hq2] at e6
    obtain ⟨u,hu,e7⟩ := wrap_any ((b : Int) - (a2 : Int))
    obtain ⟨t2,ht2,rt2⟩ := bool2u_ex (decide ((1 : Int) < (u : Int))) h n
    obtain ⟨m2,hm2,e8⟩ := or1 hq2l ht2
    simp -dsimp (discharger := omega) [B111,AHeap.read_of hg]
    refine call_ret r1 ?_
    simp -dsimp (discharger := omega) [e1,e2,e3,hne,AHeap.read_of hg]
    refine call_ret r2 ?_
    simp -dsimp (discharger := omega) []
    refine call_ret rt ?_
    simp -dsimp (discharger := omega) [-wrap_u64,e5,e6,e7]
    with_reducible refine ret_ret rt2 ?_
    simp -dsimp (discharger := omega) [e8,HSub.refl]
    exact fin hm2
  · simp -dsimp (discharger := omega) [B111,AHeap.read_of hg]
    refine call_ret r1 ?_
    simp -dsimp (discharger := omega) [e1,e2,e3,AHeap.read_of hg,e4,HSub.refl]
    exact fin hm1
def Pow10 (h : AHeap) : Prop := ∃ (own : Option Nat) (tab : List Value) (w : Nat),h.get 14 = some (.cells own tab w) ∧ w ≤ 1392 ∧ tab.length = 1392 ∧ ∀ i,i < 1392 → ∃ m : Nat,m < 18446744073709551616 ∧ tab[i]? = some (.int .u64 (m : Int))
theorem Pow10.sub {h h' : AHeap} (x : Pow10 h) (hs : HSub h h') : Pow10 h' := by
  obtain ⟨own,tab,w,h1,h2⟩ := x
  exact ⟨own,tab,w,hs _ _ h1,h2⟩
def PsP (c : Nat) (s : Int) (v : Value) (l : List (Nat × Blk)) (n0 n' : Nat) : Prop := ∃ hi lo : Nat,hi < 18446744073709551616 ∧ lo < 18446744073709551616 ∧ v = .tuple #[] ∧ n' = n0 ∧ l = [(c, .cells (some 148) [.int .u64 (hi : Int), .int .u64 (lo : Int), .int .i64 s] 3)]
theorem prescale_ret {c : Nat} {v1 v2 v3 : Value} {h : AHeap} {n : Nat} (hp : Pow10 h) (hc : ¬ c = 14) (hg : h.get c = some (.cells (some 148) [v1,v2,v3] 3)) {e p lp : Int} (he0 : -100000 ≤ e) (he1 : e ≤ 100000) (hp0 : -348 ≤ p) (hp1 : p ≤ 347) (hl0 : -100000 ≤ lp) (hl1 : lp ≤ 100000) :
    ∃ v l n',PsP c (-(e + lp + 3)) v l n n' ∧ Ret EV61 109 [.pointer (some ⟨c,0,some 3⟩), .int .i64 e, .int .i64 p, .int .i64 lp] h n v l n' := by
  refine wret_exL (af := F109) rfl (by simp [F109]) ?_
  show wx EV61 B109 [(0, .pointer (some ⟨c,0,some 3⟩)),(1, .int .i64 e),(2, .int .i64 p),(3, .int .i64 lp)] h n (Done [] _) ()
  obtain ⟨own,tab,w,g14,hw,htl,htab⟩ := hp
  obtain ⟨i,hi⟩ : ∃ i : Nat,p + 348 = (i : Int) := ⟨(p + 348).toNat,by omega⟩
  obtain ⟨hi1,hhi,e1⟩ := htab (i * 2) (by omega)
  obtain ⟨lo1,hlo,e2⟩ := htab (i * 2 + 1) (by omega)
  have e1' := take1_at e1
  have e2' := take1_at e2
  have e3 : p - -348 = (i : Int) := by omega
  have fin : ∀ {H : AHeap},HSub (h.put c (.cells (some 148) [.int .u64 (hi1 : Int), .int .u64 (lo1 : Int), .int .i64 (-(e + lp + 3))] 3)) H → ∃ l,PsP c (-(e + lp + 3)) (.tuple #[]) l n n ∧ (l.map (·.1)).Nodup ∧ (∀ i,i ∈ l.map (·.1) → (h.get i).isSome ∨ n ≤ i ∧ i < n) ∧ HSub (putsL h l) H := fun hs => ⟨_,⟨hi1,lo1,hhi,hlo,rfl,rfl,rfl⟩,by simp,by simp [hg],hs⟩
  have done : ∀ {σ : Fr} {H : AHeap},HSub (h.put c (.cells (some 148) [.int .u64 (hi1 : Int), .int .u64 (lo1 : Int), .int .i64 (-(e + lp + 3))] 3)) H → Done [] (fun v1 h1 n1 => ∃ l,PsP c (-(e + lp + 3)) v1 l n n1 ∧ (l.map (·.1)).Nodup ∧ (∀ i,i ∈ l.map (·.1) → (h.get i).isSome ∨ n ≤ i ∧ i < n1) ∧ HSub (putsL h l) h1) .normal σ H n := fun hs => ⟨.inl rfl,[],rfl,fin hs⟩
  generalize hD : (Done [] (fun v1 h1 n1 => ∃ l,PsP c (-(e + lp + 3)) v1 l n n1 ∧ (l.map (·.1)).Nodup ∧ (∀ i,i ∈ l.map (·.1) → (h.get i).isSome ∨ n ≤ i ∧ i < n1) ∧ HSub (putsL h l) h1)) = D at done ⊢
  have e4 : -(e + lp + 3) = -(e + lp + 3) := rfl
  simp -dsimp (discharger := omega) [B109,AHeap.read_of g14,g14,htl,e3,hc,hg,e1',e2']
  exact done (.ofE (.left (.inr (by simp)) (.right (.inl (by simp)) (.right (.inl (by simp)) (.right (.inl (by simp)) (.refl _ _))))))
theorem WF.pow {h : AHeap} {n : Nat} (w : WF h n) (hp : Pow10 h) : 14 < n := by
  obtain ⟨own,tab,_,g14,_⟩ := hp
  exact w.lt g14
theorem bool2i_ex (b : Bool) (h : AHeap) (n : Nat) : ∃ t : Nat,t = (if b then 1 else 0) ∧ Ret EV61 117 [.bool b] h n (.int .i64 (t : Int)) [] n := by
  cases b
  · exact ⟨0,rfl,bool2i_ret false h n⟩
  · exact ⟨1,rfl,bool2i_ret true h n⟩
theorem pf64_ret {m : Nat} (hm : m < 18446744073709551616) {p : Int} (hp0 : -345 ≤ p) (hp1 : p ≤ 310) {h : AHeap} {n : Nat} (hw : WF h n) (ht : Pow10 h) : ∃ v,PfV v ∧ Ret EV61 103 [.int .u64 (m : Int), .int .i64 p, .int .u64 0] h n v [] (n + 1) := by
  refine rex103 ?_
  have hn14 := hw.pow ht
  obtain ⟨vb,⟨b,hb,rfl⟩,rb⟩ := len64_ret hm h n
  have rl := log2Pow10_ret (p := p) (by omega) (by omega) h n
  obtain ⟨lp,hlp⟩ : ∃ lp,lp = p * 108853 / 32768 := ⟨_,rfl⟩
  rw [← hlp] at rl
  have hlp0 : -1200 ≤ lp := by omega
  have hlp1 : lp ≤ 1100 := by omega
  obtain ⟨e,he⟩ : ∃ e : Int,e = if 53 - (b : Int) - lp < 1074 then 53 - (b : Int) - lp else 1074 := ⟨_,rfl⟩
  have he1 : e ≤ 1074 ∧ e ≤ 53 - (b : Int) - lp ∧ -2000 ≤ e := by rw [he]; split <;> omega
  simp -dsimp (discharger := omega) [B103]
  refine call_ret rb ?_
  simp -dsimp (discharger := omega) []
  refine call_ret rl ?_
  obtain ⟨s,hs⟩ : ∃ s : Nat, -(e - (64 - (b : Int)) + lp + 3) = (s : Int) := ⟨(-(e - (64 - (b : Int)) + lp + 3)).toNat,by omega⟩
  have hs8 : 8 ≤ s := by omega
  obtain ⟨v,l,n',⟨hi,lo,hhi,hlo,rfl,rfl,rfl⟩,rp⟩ := prescale_ret (c := n) (v1 := .int .u64 0) (v2 := .int .u64 0) (v3 := .int .i64 0) (h := h.put n (.cells (some 148) [.int .u64 0, .int .u64 0, .int .i64 0] 3)) (n := n + 1) (ht.sub (HSub.new (.refl _) hw (Nat.le_refl _) _)) (by omega) (by simp) (e := e - (64 - (b : Int))) (p := p) (lp := lp) (by omega) (by omega) (by omega) (by omega) (by omega) (by omega)
  rw [hs] at rp
  simp -dsimp (discharger := omega) [← he]
  refine call_ret rp ?_
  have hsub : ∀ x y,HSub h ((h.put n x).put n y) := fun x y => HSub.new (HSub.new (.refl _) hw (Nat.le_refl _) _) hw (Nat.le_refl _) _
  have fin := @PfV.ok
  have o0 : orI .u64 0 0 = 0 := by decide
  by_cases h64 : 64 ≤ s
  · have h64' : (64 : Int) ≤ (s : Int) := by omega
    simp -dsimp (discharger := omega) [h64',o0]
    refine call_ret (frombits_ret 0 _ _) ?_
    simp -dsimp (discharger := omega) []
    exact ⟨fin (by omega),hsub _ _⟩
  · have h64' : ¬ (64 : Int) ≤ (s : Int) := by omega
    obtain ⟨x,hx,ex⟩ := shl_any .u64 rfl (m : Int) (64 - (b : Int))
    obtain ⟨vu,⟨u,hu,rfl⟩,ru⟩ := uscale_ret (x := x) (c := n) (hi := hi) (lo := lo) (s := s) hx hhi hlo (by omega) (h := (h.put n (.cells (some 148) [.int .u64 0, .int .u64 0, .int .i64 0] 3)).put n (.cells (some 148) [.int .u64 (hi : Int), .int .u64 (lo : Int), .int .i64 (s : Int)] 3)) (by simp) (n + 1)
    have hu56 : u < 72057594037927936 := by
      have : 2 ^ (64 - s) ≤ 2 ^ 56 := Nat.pow_le_pow_right (by decide) (by omega)
      rw [show (2 : Nat) ^ 56 = 72057594037927936 from by decide] at this
      omega
    obtain ⟨t,hte,rt⟩ := bool2i_ex (decide ((36028797018963966 : Int) ≤ (u : Int))) ((h.put n (.cells (some 148) [.int .u64 0, .int .u64 0, .int .i64 0] 3)).put n (.cells (some 148) [.int .u64 (hi : Int), .int .u64 (lo : Int), .int .i64 (s : Int)] 3)) (n + 1)
    have ht1 : t ≤ 1 ∧ (t = 0 → u < 36028797018963966) := by
      rw [hte]
      by_cases hc : (36028797018963966 : Int) ≤ (u : Int)
      · simp [hc]
      · simp [hc]; omega
    have e1 := shr64 (s := t) (by omega) u
    obtain ⟨q,hq⟩ : ∃ q,q = u / 2 ^ t := ⟨_,rfl⟩
    have hq55 : q < 36028797018963968 := by
      rcases (show t = 0 ∨ t = 1 by omega) with h | h
      · rw [hq,h]; have := ht1.2 h; omega
      · rw [hq,h]; omega
    rw [← hq] at e1
    have e2 : andI .u64 (u : Int) 1 = ((u % 2 : Nat) : Int) := by
      rw [show (1 : Int) = ((1 : Nat) : Int) from rfl,and64 (by omega) (by decide),Nat.and_one_is_mod]
    obtain ⟨r,hr⟩ : ∃ r,r = u % 2 := ⟨_,rfl⟩
    rw [← hr] at e2
    obtain ⟨w,hwe⟩ : ∃ w,w = q ||| r := ⟨_,rfl⟩
    have e3 : orI .u64 (q : Int) (r : Int) = (w : Int) := by rw [hwe]; exact or64 (by omega) (by omega)
    have hw55 : w < 36028797018963968 := by
      rw [hwe]
      exact Nat.or_lt_two_pow (n := 55) (by rw [show (2 : Nat) ^ 55 = 36028797018963968 from by decide]; exact hq55) (by rw [show (2 : Nat) ^ 55 = 36028797018963968 from by decide]; omega)
    obtain ⟨vr,⟨mm,hmm,hmm2,rfl⟩,rr⟩ := round_ret (u := w) (by omega) ((h.put n (.cells (some 148) [.int .u64 0, .int .u64 0, .int .i64 0] 3)).put n (.cells (some 148) [.int .u64 (hi : Int), .int .u64 (lo : Int), .int .i64 (s : Int)] 3)) (n + 1)
    have hmm3 := hmm2 hw55
    have e4 : orI .u64 0 (mm : Int) = (mm : Int) := by
      rw [show (0 : Int) = ((0 : Nat) : Int) from rfl,or64 (by decide) (by omega),Nat.zero_or]
    obtain ⟨vp,hvp,rpk⟩ := pack_ret (m := mm) hmm3 (e := -(e - (t : Int))) (by omega) (by omega) ((h.put n (.cells (some 148) [.int .u64 0, .int .u64 0, .int .i64 0] 3)).put n (.cells (some 148) [.int .u64 (hi : Int), .int .u64 (lo : Int), .int .i64 (s : Int)] 3)) (n + 1)
    obtain ⟨bits,er,rfl,hbe⟩ := hvp
    have hfin : PfV (.tuple #[.float .f64 bits,er]) := ⟨bits,er,rfl,hbe⟩
    simp -dsimp (discharger := omega) [h64',ex]
    refine call_ret ru ?_
    simp -dsimp (discharger := omega) []
    refine call_ret (unmin_ret _ _) ?_
    simp -dsimp (discharger := omega) []
    refine call_ret rt ?_
    simp -dsimp (discharger := omega) [e1,e2,e3]
    refine call_ret rr ?_
    simp -dsimp (discharger := omega) [e4]
    refine call_ret rpk ?_
    simp -dsimp (discharger := omega) []
    exact ⟨hfin,hsub _ _⟩
end
end Go.Proofs.YtkdpjaaohddppaaGreatDoor.Am
namespace Go.Proofs.YtkdpjaaohddppaaGreatDoor.Am
noncomputable section
/- CONTRACT: atof64exact. -/
def P10 (h : AHeap) : Prop := ∃ (c kk : Nat) (own own2 : Option Nat) (w w2 : Nat) (tab : List Value),h.get 13 = some (.cells own [.slice (some ⟨c,0,some 23⟩) 23 kk] w) ∧ w ≤ 1 ∧ h.get c = some (.cells own2 tab w2) ∧ w2 ≤ 23 ∧ tab.length = 23 ∧ ∀ i,i < 23 → ∃ b : Nat,tab[i]? = some (.float .f64 b) ∧ 4607182418800017408 ≤ b ∧ b ≤ 4936209963552724370 ∧ (i ≤ 15 → b ≤ 4831355200913801216)
def AeV (v : Value) : Prop := ∃ (bits : Nat) (o : Bool),v = .tuple #[.float .f64 bits, .bool o] ∧ (o = true → bits < 9218868437227405312)
theorem fLt_pos {a b : Nat} (ha : a ≤ fI) (hb : b ≤ fI) : fLt a b = decide (a < b) := by
  unfold fLt
  obtain ⟨h1,h2⟩ := fRung_pos ha
  obtain ⟨h3,h4⟩ := fRung_pos hb
  have n1 : fNan a = false := by unfold fNan; rw [h1]; exact decide_eq_false (by omega)
  have n2 : fNan b = false := by unfold fNan; rw [h3]; exact decide_eq_false (by omega)
  have k1 : fKey a = a := by unfold fKey; rw [h2,h1]; rfl
  have k2 : fKey b = b := by unfold fKey; rw [h4,h3]; rfl
  rw [n1,n2,k1,k2]; simp
theorem fLt_negc {a : Nat} (ha : a ≤ fI) : fLt a 14054727237768577024 = false := by
  unfold fLt
  obtain ⟨h1,h2⟩ := fRung_pos ha
  have k1 : fKey a = a := by unfold fKey; rw [h2,h1]; rfl
  have k2 : fKey 14054727237768577024 = -4831355200913801216 := by decide
  rw [k1,k2,decide_eq_false (by omega),Bool.and_false]
theorem mulF {x y r : Nat} (h : Ieee.double.mul x y = some r) : aFloatOp .mul .f64 x y = some (.float .f64 r) := by
  show (Ieee.double.mul x y).map (Value.float .f64) = _
  rw [h]; rfl
theorem divF {x y r : Nat} (h : Ieee.double.div x y = some r) : aFloatOp .quo .f64 x y = some (.float .f64 r) := by
  show (Ieee.double.div x y).map (Value.float .f64) = _
  rw [h]; rfl
theorem exact_ret {m : Nat} (hm : m < 18446744073709551616) {p : Int} (hp0 : -400 ≤ p) (hp1 : p ≤ 400) {h : AHeap} {n : Nat} (hi : Info h) (ht : P10 h) : ∃ v,AeV v ∧ Ret EV61 102 [.int .u64 (m : Int), .int .i64 p, .bool false] h n v [] n := by
  refine rex102 ?_
  obtain ⟨own,w,g7,hw⟩ := hi
  obtain ⟨c,kk,ow,ow2,w1,w2,tab,g13,hw1,gc,hw2,htl,htab⟩ := ht
  have e1 := shr64 (s := 52) (by decide) m
  obtain ⟨q,hq⟩ : ∃ q,q = m / 2 ^ 52 := ⟨_,rfl⟩
  rw [← hq,show ((52 : Nat) : Int) = 52 from rfl] at e1
  have ffin : ∀ {b : Nat},b < 9218868437227405312 → AeV (.tuple #[.float .f64 b, .bool true]) := fun h => ⟨_,_,rfl,fun _ => h⟩
  have fbad : ∀ {b : Nat},AeV (.tuple #[.float .f64 b, .bool false]) := ⟨_,_,rfl,fun h => by cases h⟩
  by_cases hq0 : q = 0
  · subst hq0
    have hm52 : m < 4503599627370496 := by
      have : m / 2 ^ 52 = 0 := hq.symm
      rw [show (2 : Nat) ^ 52 = 4503599627370496 from by decide] at this
      omega
    rw [show ((0 : Nat) : Int) = 0 from rfl] at e1
    have e2 : FloatKind.f64.nearest (m : Int) = rungOf (m * 2 ^ 1074) 0 := by
      rw [← toF_pos]
      unfold FloatKind.nearest
      show Ieee.double.write (.number (decide ((m : Int) < 0)) _ 0) = _
      rw [decide_eq_false (by omega)]; rfl
    have hf := toF_le hm52
    obtain ⟨f,hfe⟩ : ∃ f,f = rungOf (m * 2 ^ 1074) 0 := ⟨_,rfl⟩
    rw [← hfe] at e2 hf
    by_cases hz : p = 0
    · simp -dsimp (discharger := omega) [B102,AHeap.read_of g7,g7,e1,e2,hz,HSub.refl]
      exact ffin (by omega)
    · by_cases hpos : 0 < p
      · by_cases h37 : p ≤ 37
        · -- a product
          have last : ∀ {x : Nat} {i : Nat},x ≤ 4831355200913801216 → i < 23 → ∃ y r,List.take 1 (List.drop i tab) = [.float .f64 y] ∧ aFloatOp .mul .f64 x y = some (.float .f64 r) ∧ r < 9218868437227405312 := by
            intro x i hx hi
            obtain ⟨y,hy,hy0,hy1,_⟩ := htab i hi
            obtain ⟨r,hr,hr2⟩ := mul_bound hx hy1 (by decide) (by decide) mul_b2
            exact ⟨y,r,take1_at hy,mulF hr,by omega⟩
          by_cases h22 : 22 < p
          · obtain ⟨i,hi⟩ : ∃ i : Nat,p - 22 = (i : Int) := ⟨(p - 22).toNat,by omega⟩
            obtain ⟨y,hy,hy0,hy1,hy15⟩ := htab i (by omega)
            obtain ⟨r,hr,hr2⟩ := mul_bound hf (hy15 (by omega)) (by decide) (by decide) mul_b1
            have hr' := mulF hr
            have hy' := take1_at hy
            have g1 := fl_gtr r 4831355200913801216
            have g2 := fl_lss r 14054727237768577024
            have hI : fI = 9218868437227405312 := rfl
            rw [fLt_pos (by decide) (by omega)] at g1
            rw [fLt_negc (by omega)] at g2
            by_cases hgt : 4831355200913801216 < r
            · rw [decide_eq_true hgt] at g1
              simp -dsimp (discharger := omega) [B102,AHeap.read_of g7,g7,e1,e2,hpos,h37,h22,g13,AHeap.read_of g13,AHeap.read_of gc,htl,hi,hy',hr',g1,HSub.refl]
              exact fbad
            · rw [decide_eq_false hgt] at g1
              obtain ⟨y2,r2,hy2,hr2',hr2f⟩ := last (x := r) (i := 22) (by omega) (by omega)
              simp -dsimp (discharger := omega) [B102,AHeap.read_of g7,g7,e1,e2,hpos,h37,h22,g13,AHeap.read_of g13,AHeap.read_of gc,htl,hi,hy',hr',g1,g2,hy2,hr2',HSub.refl]
              exact ffin hr2f
          · obtain ⟨i,rfl⟩ : ∃ i : Nat,p = (i : Int) := ⟨p.toNat,by omega⟩
            have g1 := fl_gtr f 4831355200913801216
            have g2 := fl_lss f 14054727237768577024
            have hI : fI = 9218868437227405312 := rfl
            rw [fLt_pos (by decide) (by omega)] at g1
            rw [fLt_negc (by omega)] at g2
            by_cases hgt : 4831355200913801216 < f
            · rw [decide_eq_true hgt] at g1
              simp -dsimp (discharger := omega) [B102,AHeap.read_of g7,g7,e1,e2,h37,h22,g1,HSub.refl]
              exact fbad
            · rw [decide_eq_false hgt] at g1
              obtain ⟨y2,r2,hy2,hr2',hr2f⟩ := last (x := f) (i := i) (by omega) (by omega)
              simp -dsimp (discharger := omega) [B102,AHeap.read_of g7,g7,e1,e2,h37,h22,g13,AHeap.read_of g13,AHeap.read_of gc,htl,g1,g2,hy2,hr2',HSub.refl]
              exact ffin hr2f
        · have hneg : ¬ p < 0 := by omega
          simp -dsimp (discharger := omega) [B102,AHeap.read_of g7,g7,e1,e2,hpos,h37,hneg,HSub.refl]
          exact fbad
      · have hneg : p < 0 := by omega
        by_cases h22 : -22 ≤ p
        · obtain ⟨i,hi⟩ : ∃ i : Nat, -p = (i : Int) := ⟨(-p).toNat,by omega⟩
          have hi' : 0 - p = (i : Int) := by omega
          obtain ⟨y,hy,hy0,hy1,_⟩ := htab i (by omega)
          have hI : fI = 9218868437227405312 := rfl
          obtain ⟨r,hr,hrf⟩ := div_pos_fin hf hy0 (by omega)
          have hr' := divF hr
          have hy' := take1_at hy
          simp -dsimp (discharger := omega) [B102,AHeap.read_of g7,g7,e1,e2,hpos,hneg,h22,g13,AHeap.read_of g13,AHeap.read_of gc,htl,hi',hy',hr',HSub.refl]
          exact ffin hrf
        · simp -dsimp (discharger := omega) [B102,AHeap.read_of g7,g7,e1,e2,hpos,hneg,h22,HSub.refl]
          exact fbad
  · have hq1 : ¬ ((q : Int) = 0) := by omega
    simp -dsimp (discharger := omega) [B102,AHeap.read_of g7,g7,e1,HSub.refl]
    exact fbad
end
end Go.Proofs.YtkdpjaaohddppaaGreatDoor.Am
