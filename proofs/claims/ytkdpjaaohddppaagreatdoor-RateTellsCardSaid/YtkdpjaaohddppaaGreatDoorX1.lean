/- Contracts of the program's functions (X1). -/
import Derived.Test.YtkdpjaaohddppaaGreatDoorG
import Derived.Test.YtkdpjaaohddppaaGreatDoorE
import Derived.Test.YtkdpjaaohddppaaGreatDoorL1
import Derived.Test.YtkdpjaaohddppaaGreatDoorLDk
import Derived.Test.YtkdpjaaohddppaaGreatDoorL2
namespace Go.Proofs.YtkdpjaaohddppaaGreatDoor.Am
noncomputable section
/- CONTRACTS: 64 bits,whatever comes. -/
theorem wrap_any (z : Int) : ∃ m : Nat,m < 18446744073709551616 ∧ IntKind.u64.wrap z = (m : Int) := by
  refine ⟨(IntKind.u64.wrap z).toNat, ?_, ?_⟩
  · simp only [IntKind.wrap,IntKind.bits,IntKind.signed]; simp; omega
  · simp only [IntKind.wrap,IntKind.bits,IntKind.signed]; simp; omega
theorem bool2u_ret (b : Bool) (h : AHeap) (n : Nat) : Ret EV61 100 [.bool b] h n (.int .u64 (if b then 1 else 0)) [] n := by
  refine rsx100 (by simp) (by simp) ?_
  cases b <;> simp -dsimp (discharger := omega) [B100,HSub.refl]
theorem bool2i_ret (b : Bool) (h : AHeap) (n : Nat) : Ret EV61 117 [.bool b] h n (.int .i64 (if b then 1 else 0)) [] n := by
  refine rsx117 (by simp) (by simp) ?_
  cases b <;> simp -dsimp (discharger := omega) [B117,HSub.refl]
theorem unmin_ret (h : AHeap) (n : Nat) : Ret EV61 118 [.int .u64 9007199254740992] h n (.int .u64 36028797018963966) [] n := by
  refine rsx118 (by simp) (by simp) ?_
  simp -dsimp (discharger := omega) [B118,HSub.refl]
  decide +kernel
theorem shrI_div (k : IntKind) (a : Int) {j : Nat} (hj : j ≤ k.bits) : shrI k a (j : Int) = a / ((2 ^ j : Nat) : Int) := by
  unfold shrI
  rw [show ((j : Int)).toNat = j by omega,Nat.min_eq_left hj,Int.fdiv_eq_ediv_of_nonneg _ (Int.le_of_lt (Int.pow_pos (by decide)))]
  congr 1
theorem log2Pow10_ret {p : Int} (h0 : -400 ≤ p) (h1 : p ≤ 400) (h : AHeap) (n : Nat) : Ret EV61 110 [.int .i64 p] h n (.int .i64 (p * 108853 / 32768)) [] n := by
  refine rsx110 (by simp) (by simp) ?_
  simp -dsimp (discharger := omega) [B110,HSub.refl]
  exact shrI_div .i64 _ (j := 15) (by decide)
theorem mul64_ret {x y : Nat} (_hx : x < 18446744073709551616) (_hy : y < 18446744073709551616) (h : AHeap) (n : Nat) : ∃ v,(∃ a b : Nat,a < 18446744073709551616 ∧ b < 18446744073709551616 ∧ v = .tuple #[.int .u64 (a : Int), .int .u64 (b : Int)]) ∧ Ret EV61 138 [.int .u64 (x : Int), .int .u64 (y : Int)] h n v [] n := by
  refine rex138 ?_
  simp -dsimp (discharger := omega) [B138,HSub.refl]
  obtain ⟨a,ha,e1⟩ := wrap_any (IntKind.u64.wrap (IntKind.u64.wrap (shrI .u64 (x : Int) 32 * shrI .u64 (y : Int) 32) + shrI .u64 (IntKind.u64.wrap (IntKind.u64.wrap (shrI .u64 (x : Int) 32 * andI .u64 (y : Int) 4294967295) + shrI .u64 (IntKind.u64.wrap (andI .u64 (x : Int) 4294967295 * andI .u64 (y : Int) 4294967295)) 32)) 32) + shrI .u64 (IntKind.u64.wrap (andI .u64 (IntKind.u64.wrap (IntKind.u64.wrap (shrI .u64 (x : Int) 32 * andI .u64 (y : Int) 4294967295) + shrI .u64 (IntKind.u64.wrap (andI .u64 (x : Int) 4294967295 * andI .u64 (y : Int) 4294967295)) 32)) 4294967295 + IntKind.u64.wrap (andI .u64 (x : Int) 4294967295 * shrI .u64 (y : Int) 32))) 32)
  obtain ⟨b,hb,e2⟩ := wrap_any ((x : Int) * (y : Int))
  exact ⟨a,ha,b,hb,e1,e2⟩
theorem tab_le (L : List UInt8) (hall : L.all (fun c => decide (c.toNat ≤ 8)) = true) {w : Nat} (hw : w < L.length) : (L[w]).toNat ≤ 8 := by
  have := List.all_eq_true.1 hall _ (List.getElem_mem hw)
  simpa using this
theorem len_fin {k : Int} {t : Nat} (ht : t ≤ 8) (h0 : 0 ≤ k) (h1 : k ≤ 56) : ∃ b : Nat,b ≤ 64 ∧ IntKind.i64.wrap (k + IntKind.i64.wrap (t : Int)) = (b : Int) := by
  rw [show IntKind.i64.wrap (t : Int) = (t : Int) from wrap64 (by omega) (by omega),wrap64 (by omega) (by omega)]
  exact ⟨(k + t).toNat,by omega,by omega⟩
theorem len_fin0 {t : Nat} (ht : t ≤ 8) : ∃ b : Nat,b ≤ 64 ∧ IntKind.i64.wrap (IntKind.i64.wrap (t : Int)) = (b : Int) := by
  have := len_fin ht (k := 0) (by omega) (by omega)
  rwa [Int.zero_add] at this
set_option maxRecDepth 10000 in
theorem len64_ret {x : Nat} (hx : x < 18446744073709551616) (h : AHeap) (n : Nat) : ∃ v,(∃ b : Nat,b ≤ 64 ∧ v = .int .i64 (b : Int)) ∧ Ret EV61 76 [.int .u64 (x : Int)] h n v [] n := by
  refine rex76 ?_
  have shr : ∀ (y k : Nat),k ≤ 64 → ∃ z : Nat,z = y / 2 ^ k ∧ shrI .u64 (y : Int) (k : Int) = (z : Int) := fun y k hk => ⟨_,rfl,by
    have := shrI_nat .u64 y k
    rwa [show min k IntKind.u64.bits = k from Nat.min_eq_left hk] at this⟩
  have shr32 := fun y => shr y 32 (by decide)
  have shr16 := fun y => shr y 16 (by decide)
  have shr8 := fun y => shr y 8 (by decide)
  simp only [Int.cast_ofNat_Int] at shr32 shr16 shr8
  by_cases h1 : 4294967296 ≤ x
  · obtain ⟨y,g0,e0⟩ := shr32 x
    by_cases h2 : 65536 ≤ y
    · obtain ⟨z,g1,e1⟩ := shr16 y
      by_cases h3 : 256 ≤ z
      · obtain ⟨w,g2,e2⟩ := shr8 z
        have hlt : w < 256 := by omega
        simp -dsimp (discharger := omega) [B76,HSub.refl,e0,e1,e2]
        exact len_fin (tab_le _ (by decide +kernel) _) (by omega) (by omega)
      · have hlt : z < 256 := by omega
        simp -dsimp (discharger := omega) [B76,HSub.refl,e0,e1]
        exact len_fin (tab_le _ (by decide +kernel) _) (by omega) (by omega)
    · by_cases h3 : 256 ≤ y
      · obtain ⟨w,g2,e2⟩ := shr8 y
        have hlt : w < 256 := by omega
        simp -dsimp (discharger := omega) [B76,HSub.refl,e0,e2]
        exact len_fin (tab_le _ (by decide +kernel) _) (by omega) (by omega)
      · have hlt : y < 256 := by omega
        simp -dsimp (discharger := omega) [B76,HSub.refl,e0]
        exact len_fin (tab_le _ (by decide +kernel) _) (by omega) (by omega)
  · by_cases h2 : 65536 ≤ x
    · obtain ⟨z,g1,e1⟩ := shr16 x
      by_cases h3 : 256 ≤ z
      · obtain ⟨w,g2,e2⟩ := shr8 z
        have hlt : w < 256 := by omega
        simp -dsimp (discharger := omega) [B76,HSub.refl,e1,e2]
        exact len_fin (tab_le _ (by decide +kernel) _) (by omega) (by omega)
      · have hlt : z < 256 := by omega
        simp -dsimp (discharger := omega) [B76,HSub.refl,e1]
        exact len_fin (tab_le _ (by decide +kernel) _) (by omega) (by omega)
    · by_cases h3 : 256 ≤ x
      · obtain ⟨w,g2,e2⟩ := shr8 x
        have hlt : w < 256 := by omega
        simp -dsimp (discharger := omega) [B76,HSub.refl,e2]
        exact len_fin (tab_le _ (by decide +kernel) _) (by omega) (by omega)
      · have hlt : x < 256 := by omega
        simp -dsimp (discharger := omega) [B76,HSub.refl]
        exact len_fin0 (tab_le _ (by decide +kernel) _)
theorem round_ret {u : Nat} (hu : u < 18446744073709551616) (h : AHeap) (n : Nat) : ∃ v,(∃ m : Nat,m < 18446744073709551616 ∧ (u < 36028797018963968 → m ≤ 9007199254740992) ∧ v = .int .u64 (m : Int)) ∧ Ret EV61 115 [.int .u64 (u : Int)] h n v [] n := by
  refine rex115 ?_
  obtain ⟨y,hy⟩ : ∃ y : Nat,y = u / 4 := ⟨_,rfl⟩
  obtain ⟨b,hb⟩ : ∃ b : Nat,b = y % 2 := ⟨_,rfl⟩
  have s1 : shrI .u64 (u : Int) 2 = (y : Int) := by rw [hy]; exact shrI_nat .u64 u 2
  have s2 : andI .u64 (y : Int) 1 = (b : Int) := by
    rw [show (1 : Int) = ((1 : Nat) : Int) by rfl,and64 (by omega) (by decide),Nat.and_one_is_mod,hb]
  obtain ⟨w,hw,e⟩ := wrap_any (IntKind.u64.wrap ((u : Int) + 1) + (b : Int))
  obtain ⟨z,hz⟩ : ∃ z : Nat,z = w / 4 := ⟨_,rfl⟩
  have s3 : shrI .u64 (w : Int) 2 = (z : Int) := by rw [hz]; exact shrI_nat .u64 w 2
  simp -dsimp (discharger := omega) [B115,HSub.refl,s1,s2,e,s3]
  refine ⟨z,by omega,fun hlt => ?_,rfl⟩
  rw [show IntKind.u64.wrap ((u : Int) + 1) = (u : Int) + 1 from wrap_u64 (by omega) (by omega),wrap_u64 (by omega) (by omega)] at e
  omega
end
end Go.Proofs.YtkdpjaaohddppaaGreatDoor.Am
namespace Go.Proofs.YtkdpjaaohddppaaGreatDoor.Am
noncomputable section
/- CONTRACT: trim. -/
theorem wret_exL {E : Env} {f : Nat} {af : AFunc} {args : List Value} {h : AHeap} {n : Nat} {P : Value → List (Nat × Blk) → Nat → Prop} (hf : E.fs f = some af) (ha : args.length ≤ af.ntmps)
    (hx : wx E af.body (argFr 0 args) h n (Done af.results (fun v1 h1 n1 => ∃ l,P v1 l n1 ∧ (l.map (·.1)).Nodup ∧ (∀ i,i ∈ l.map (·.1) → (h.get i).isSome ∨ n ≤ i ∧ i < n1) ∧ HSub (putsL h l) h1)) ()) : ∃ v l n',P v l n' ∧ Ret E f args h n v l n' := by
  obtain ⟨e, σ',h1,n1,hb,he,vs,hvs,l,hP,hnd,hids,hsub⟩ := wx_big hx
  exact ⟨_,l,n1,hP, .lift (.call hf ha hb he hvs hsub) (Nat.le_refl _),hnd,hids⟩
def dPt (a : Nat) : Value := .pointer (some ⟨a,0,some 804⟩)
def TrInv (a : Nat) (ds : List UInt8) (dp : Int) (neg tr : Bool) (h0 : AHeap) (n0 r : Nat) (σ : Fr) (h : AHeap) (n : Nat) : Prop :=
  n = n0 ∧ DOk ds r ∧ h = h0.put a (.cells (some 114) (decL ds (r : Int) dp neg tr) 804) ∧ σ = [(0,dPt a)]
def TrPost (a : Nat) (ds : List UInt8) (dp : Int) (neg tr : Bool) (h0 : AHeap) (n0 : Nat) (e : Ex) (σ' : Fr) (h' : AHeap) (n' : Nat) : Prop :=
  e = .exit 0 ∧ n' = n0 ∧ ∃ r : Nat,DOk ds r ∧ h' = h0.put a (.cells (some 114) (decL ds (r : Int) dp neg tr) 804) ∧ σ'.get 0 = some (dPt a)
theorem tr_loop {a : Nat} {ds : List UInt8} {dp : Int} {neg tr : Bool} {h0 : AHeap} {n0 : Nat} :
    ∀ (m : Nat) (σ : Fr) (h : AHeap) (n : Nat),TrInv a ds dp neg tr h0 n0 m σ h n → HasCode EV61 (.loop F120L0) σ h n (TrPost a ds dp neg tr h0 n0) := by
  refine wx_inv _ fun m σ h n hI => ?_
  obtain ⟨rfl,hd,rfl,rfl⟩ := hI
  have hL := decL_len hd.len (m : Int) dp neg tr
  have h8 := decL_800 hd.len (nd := (m : Int)) (dp := dp) (neg := neg) (tr := tr)
  have hw := decL_put800 hd.len (nd := (m : Int)) (dp := dp) (z := ((m - 1 : Nat) : Int)) (neg := neg) (tr := tr)
  have hm1 := hd.one
  have hm2 := hd.le
  obtain ⟨c,hc,hcd⟩ := hd.get (i := m - 1) (by omega)
  have hcat := decL_at hc (nd := (m : Int)) (dp := dp) (neg := neg) (tr := tr)
  have ei : (m : Int) - 1 = ((m - 1 : Nat) : Int) := by omega
  by_cases h48 : c = 48
  · subst h48
    have h2 : 2 ≤ m := by
      rcases Nat.lt_or_ge 1 m with h | h
      · exact h
      · exfalso
        have := hd.top
        rw [show m - 1 = 0 by omega] at hc
        exact this hc
    have fin : ∀ {tk : Tok (TrInv a ds dp neg tr h0 n)} {σ : Fr},FSubL [(0,dPt a)] σ → Again (TrInv a ds dp neg tr h0 n) m σ ((h0.put a (.cells (some 114) (decL ds (m : Int) dp neg tr) 804)).put a (.cells (some 114) (decL ds ((m - 1 : Nat) : Int) dp neg tr) 804)) n tk := fun hσ =>
      .mk' (m - 1) (by omega) _ _ hσ (HSub.over rfl) ⟨rfl,hd.less (by omega) (by omega),rfl,rfl⟩
    simp -dsimp (discharger := omega) [F120L0,dPt,hL,h8,ei,hcat,hw]
    exact fin (by simp [dPt])
  · have hx : ¬ ((c.toNat : Int) = 48) := fun e => h48 (UInt8.toNat_inj.1 (by rw [show c.toNat = 48 by omega]; rfl))
    have fin : ∀ {σ : Fr},FSubL [(0,dPt a)] σ → TrPost a ds dp neg tr h0 n (.exit 0) σ (h0.put a (.cells (some 114) (decL ds (m : Int) dp neg tr) 804)) n := fun hσ => ⟨rfl,rfl,m,hd,rfl,hσ.1⟩
    simp -dsimp (discharger := omega) [F120L0,dPt,hL,h8,ei,hcat]
    exact fin (by simp [dPt])
def DRet (f : Nat) (xs : List Value) (a : Nat) (h : AHeap) (n : Nat) (P : Blk → Prop) : Prop := ∃ b,P b ∧ Ret EV61 f (dPt a :: xs) h n (.tuple #[]) [(a,b)] n
def DFin (a : Nat) (h : AHeap) (n : Nat) (P : Blk → Prop) (v1 : Value) (h1 : AHeap) (n1 : Nat) : Prop := v1 = .tuple #[] ∧ n1 = n ∧ ∃ b,P b ∧ HSub (h.put a b) h1
theorem dret_of {f : Nat} {af : AFunc} {xs : List Value} {a : Nat} {h : AHeap} {n : Nat} {P : Blk → Prop} (hg : (h.get a).isSome) (hf : EV61.fs f = some af) (ha : (dPt a :: xs).length ≤ af.ntmps)
    (hx : wx EV61 af.body (argFr 0 (dPt a :: xs)) h n (Done af.results (DFin a h n P)) ()) : DRet f xs a h n P := by
  obtain ⟨e, σ',h1,n1,hb,he,vs,hvs,hv,rfl,b,hP,hsub⟩ := wx_big hx
  refine ⟨b,hP, ?_,by simp,by simp [hg]⟩
  rw [← hv]
  exact .lift (.call hf ha hb he hvs hsub) (Nat.le_refl _)
def TrimP (ds : List UInt8) (dp : Int) (neg tr : Bool) (b : Blk) : Prop := ∃ r : Nat,DOk ds r ∧ b = .cells (some 114) (decL ds (r : Int) dp neg tr) 804
theorem trim_ret {a : Nat} {ds : List UInt8} {m : Nat} {dp : Int} {neg tr : Bool} (hd : DOk ds m) {h : AHeap} (hg : h.get a = some (.cells (some 114) (decL ds (m : Int) dp neg tr) 804)) (n : Nat) : DRet 120 [] a h n (TrimP ds dp neg tr) := by
  refine dret_of (af := F120) (by simp [hg]) rfl (by simp [F120]) ?_
  show wx EV61 B120 [(0,dPt a)] h n (Done [] _) ()
  simp -dsimp (discharger := omega) [B120]
  refine loop_use (tr_loop m [(0,dPt a)] (h.put a (.cells (some 114) (decL ds (m : Int) dp neg tr) 804)) n ⟨rfl,hd,rfl,rfl⟩) (by simp) (HSub.ofE (.left (.inr hg) (.refl _ _))) ?_
  rintro e σ' h' n' ⟨rfl,rfl,r,hr,rfl,h0⟩
  have hL := decL_len hr.len (r : Int) dp neg tr
  have h8 := decL_800 hr.len (nd := (r : Int)) (dp := dp) (neg := neg) (tr := tr)
  have hr1 := hr.one
  have hr2 : ¬ ((r : Int) = 0) := by omega
  have fin : DFin a h n' (TrimP ds dp neg tr) (.tuple #[]) (h.put a (.cells (some 114) (decL ds (r : Int) dp neg tr) 804)) n' := ⟨rfl,rfl,_,⟨r,hr,rfl⟩, .refl _⟩
  simp -dsimp (discharger := omega) [h0,dPt,hL,h8]
  exact fin
end
end Go.Proofs.YtkdpjaaohddppaaGreatDoor.Am
namespace Go.Proofs.YtkdpjaaohddppaaGreatDoor.Am
noncomputable section
/- CONTRACT: rightShift. -/
theorem pow60 {k : Nat} (hk : k ≤ 60) : 1 ≤ 2 ^ k ∧ 2 ^ k ≤ 1152921504606846976 := ⟨Nat.two_pow_pos k,(Nat.pow_le_pow_right (by decide) hk : 2 ^ k ≤ 2 ^ 60)⟩
theorem shr60 {k : Nat} (hk : k ≤ 60) (x : Nat) : shrI .u64 (x : Int) (k : Int) = ((x / 2 ^ k : Nat) : Int) := by
  have := shrI_nat .u64 x k
  rwa [show min k IntKind.u64.bits = k from Nat.min_eq_left (by show k ≤ 64; omega)] at this
theorem shl60 {k : Nat} (hk : k ≤ 60) : shlI .u64 1 (k : Int) = ((2 ^ k : Nat) : Int) := by
  unfold shlI
  have := pow60 hk
  rw [show min (k : Int).toNat IntKind.u64.bits = k from by show min (k : Int).toNat 64 = k; rw [Int.toNat_natCast]; exact Nat.min_eq_left (by omega)]
  rw [show (1 : Int) * 2 ^ k = ((2 ^ k : Nat) : Int) by simp]
  exact wrap_u64 (by omega) (by omega)
theorem and60 {k : Nat} (hk : k ≤ 60) {x : Nat} (hx : x < 18446744073709551616) : andI .u64 (x : Int) ((2 ^ k - 1 : Nat) : Int) = ((x % 2 ^ k : Nat) : Int) := by
  have := pow60 hk
  rw [and64 hx (by omega),Nat.and_two_pow_sub_one_eq_mod]
def dg (q : Nat) : UInt8 := UInt8.ofNat (48 + q)
theorem dg_nat {q : Nat} (h : q ≤ 9) : (dg q).toNat = 48 + q := by
  unfold dg; rw [UInt8.toNat_ofNat']; omega
theorem dg_isD {q : Nat} (h : q ≤ 9) : isD (dg q) = true := by
  have := dg_nat h
  unfold isD
  rw [Bool.and_eq_true,decide_eq_true_iff,decide_eq_true_iff]
  constructor
  · show 48 ≤ (dg q).toNat; omega
  · show (dg q).toNat ≤ 57; omega
theorem dg_ne {q : Nat} (h : q ≤ 9) (h1 : 1 ≤ q) : dg q ≠ 48 := fun e => by
  have := dg_nat h
  rw [e] at this
  have h48 : (48 : UInt8).toNat = 48 := rfl
  omega
/- The first loop,within: no digits are left. -/
def RbInv (a k K w : Nat) (h0 : AHeap) (n0 r0 x0 m : Nat) (σ : Fr) (h : AHeap) (n : Nat) : Prop :=
  n = n0 ∧ h = h0 ∧ ∃ x t : Nat,1 ≤ x ∧ x < 10 * K ∧ 10 ^ t ≤ x ∧ t ≤ 19 ∧ (t = 0 → x = x0) ∧ m = 10 * K - x ∧ σ = [(0,dPt a),(1, .int .u64 (k : Int)),(4, .int .i64 ((r0 + t : Nat) : Int)),(5, .int .i64 (w : Int)),(6, .int .u64 (x : Int))]
def RbPost (a k K w : Nat) (h0 : AHeap) (n0 r0 x0 : Nat) (e : Ex) (σ' : Fr) (h' : AHeap) (n' : Nat) : Prop :=
  e = .exit 2 ∧ n' = n0 ∧ h' = h0 ∧ ∃ x t : Nat,K ≤ x ∧ x < 10 * K ∧ t ≤ 19 ∧ (t = 0 → x = x0) ∧ σ'.get 0 = some (dPt a) ∧ σ'.get 1 = some (.int .u64 (k : Int)) ∧ σ'.get 4 = some (.int .i64 ((r0 + t : Nat) : Int)) ∧ σ'.get 5 = some (.int .i64 (w : Int)) ∧ σ'.get 6 = some (.int .u64 (x : Int))
theorem rb_loop {a k w r0 x0 : Nat} (hk : k ≤ 60) (hr0 : r0 ≤ 800) (_hw : w ≤ 800) {h0 : AHeap} {n0 : Nat} :
    ∀ (m : Nat) (σ : Fr) (h : AHeap) (n : Nat),RbInv a k (2 ^ k) w h0 n0 r0 x0 m σ h n → HasCode EV61 (.loop F122L0) σ h n (RbPost a k (2 ^ k) w h0 n0 r0 x0) := by
  obtain ⟨hK1,hK2⟩ := pow60 hk
  refine wx_inv _ fun m σ h n hI => ?_
  obtain ⟨rfl,rfl,x,t,hx1,hx2,ht,ht2,ht3,hm,rfl⟩ := hI
  have e1 := shr60 hk x
  obtain ⟨q,hq⟩ : ∃ q,q = x / 2 ^ k := ⟨_,rfl⟩
  rw [← hq] at e1
  obtain ⟨K,hK⟩ : ∃ K,K = 2 ^ k := ⟨_,rfl⟩
  rw [← hK] at hq hK1 hK2 hx2 hm ⊢
  by_cases hlt : x < K
  · have hq0 : q = 0 := by rw [hq]; exact Nat.div_eq_of_lt hlt
    have h19 : t < 19 := by
      refine Nat.lt_of_not_le fun h => ?_
      have : 10 ^ 19 ≤ 10 ^ t := Nat.pow_le_pow_right (by decide) h
      have h10 : (10 : Nat) ^ 19 = 10000000000000000000 := by decide
      omega
    have e2 : (x : Int) * 10 = ((x * 10 : Nat) : Int) := by omega
    have e3 : ((r0 + t : Nat) : Int) + 1 = ((r0 + (t + 1) : Nat) : Int) := by omega
    have fin : ∀ {tk : Tok (RbInv a k K w h n r0 x0)} {σ : Fr},FSubL [(0,dPt a),(1, .int .u64 (k : Int)),(4, .int .i64 ((r0 + (t + 1) : Nat) : Int)),(5, .int .i64 (w : Int)),(6, .int .u64 ((x * 10 : Nat) : Int))] σ → Again (RbInv a k K w h n r0 x0) m σ h n tk := fun hσ =>
      .mk' (10 * K - x * 10) (by omega) _ _ hσ (.refl _) ⟨rfl,rfl,x * 10,t + 1,by omega,by omega,by rw [Nat.pow_succ]; omega,by omega,by omega,rfl,rfl⟩
    subst hq0
    rw [show ((0 : Nat) : Int) = 0 from rfl] at e1
    simp -dsimp (discharger := omega) [F122L0,e1, -Int.natCast_add, -Int.natCast_mul,e2,e3]
    exact fin (by simp)
  · have hq1 : ¬ ((q : Int) = 0) := by
      have : 1 ≤ x / K := (Nat.one_le_div_iff hK1).2 (by omega)
      omega
    have fin : ∀ {σ : Fr},FSubL [(0,dPt a),(1, .int .u64 (k : Int)),(4, .int .i64 ((r0 + t : Nat) : Int)),(5, .int .i64 (w : Int)),(6, .int .u64 (x : Int))] σ → RbPost a k K w h n r0 x0 (.exit 2) σ h n := fun hσ =>
      ⟨rfl,rfl,rfl,x,t,by omega,hx2,ht2,ht3,hσ.1,hσ.2.1,hσ.2.2.1,hσ.2.2.2.1,hσ.2.2.2.2.1⟩
    simp -dsimp (discharger := omega) [F122L0,e1]
    exact fin (by simp)
/- The first loop: digits from the top. -/
def RcInv (a k K : Nat) (_ds : List UInt8) (nd : Nat) (d0 : Nat) (h0 : AHeap) (n0 m : Nat) (σ : Fr) (h : AHeap) (n : Nat) : Prop :=
  n = n0 ∧ h = h0 ∧ ∃ x r : Nat,x < 10 * K ∧ r ≤ nd ∧ (r = 0 ∧ x = 0 ∨ r = 1 ∧ x = d0 ∨ 2 ≤ r ∧ 1 ≤ x) ∧ m = nd - r ∧ σ = [(0,dPt a),(1, .int .u64 (k : Int)),(4, .int .i64 (r : Int)),(5, .int .i64 0),(6, .int .u64 (x : Int))]
def RcPost (a k K : Nat) (nd : Nat) (d0 : Nat) (h0 : AHeap) (n0 : Nat) (e : Ex) (σ' : Fr) (h' : AHeap) (n' : Nat) : Prop :=
  e = .exit 0 ∧ n' = n0 ∧ h' = h0 ∧ ∃ x r : Nat,K ≤ x ∧ x < 10 * K ∧ r ≤ nd + 19 ∧ (r = 1 ∧ x = d0 ∨ 2 ≤ r) ∧ σ'.get 0 = some (dPt a) ∧ σ'.get 1 = some (.int .u64 (k : Int)) ∧ σ'.get 4 = some (.int .i64 (r : Int)) ∧ σ'.get 5 = some (.int .i64 0) ∧ σ'.get 6 = some (.int .u64 (x : Int))
theorem rc_loop {a k : Nat} (hk : k ≤ 60) {ds : List UInt8} {nd : Nat} {dp : Int} {neg tr : Bool} (hd : DOk ds nd) {d0 : Nat} (hd0 : ds[0]? = some (dg d0)) (hd1 : 1 ≤ d0) (hd9 : d0 ≤ 9) {h0 : AHeap} (hg : h0.get a = some (.cells (some 114) (decL ds (nd : Int) dp neg tr) 804)) {n0 : Nat} :
    ∀ (m : Nat) (σ : Fr) (h : AHeap) (n : Nat),RcInv a k (2 ^ k) ds nd d0 h0 n0 m σ h n → HasCode EV61 (.loop F122L1) σ h n (RcPost a k (2 ^ k) nd d0 h0 n0) := by
  obtain ⟨hK1,hK2⟩ := pow60 hk
  refine wx_inv _ fun m σ h n hI => ?_
  obtain ⟨rfl,rfl,x,r,hx2,hr,hcs,hm,rfl⟩ := hI
  have e1 := shr60 hk x
  have hrb := rb_loop (a := a) (k := k) (w := 0) (r0 := r) (x0 := x) hk (by have := hd.le; omega) (by omega) (h0 := h) (n0 := n)
  obtain ⟨q,hq⟩ : ∃ q,q = x / 2 ^ k := ⟨_,rfl⟩
  rw [← hq] at e1
  obtain ⟨K,hK⟩ : ∃ K,K = 2 ^ k := ⟨_,rfl⟩
  rw [← hK] at hq hK1 hK2 hx2 hrb ⊢
  have hL := decL_len hd.len (nd : Int) dp neg tr
  have h8 := decL_800 hd.len (nd := (nd : Int)) (dp := dp) (neg := neg) (tr := tr)
  have hone := hd.one
  have hle := hd.le
  by_cases hlt : x < K
  · have hq0 : q = 0 := by rw [hq]; exact Nat.div_eq_of_lt hlt
    subst hq0
    rw [show ((0 : Nat) : Int) = 0 from rfl] at e1
    by_cases hrn : r < nd
    · obtain ⟨c,hc,hcd⟩ := hd.get (i := r) hrn
      have hcat := decL_at hc (nd := (nd : Int)) (dp := dp) (neg := neg) (tr := tr)
      have hcb := digN_le hcd
      have e2 : (x : Int) * 10 + (c.toNat : Int) - 48 = ((x * 10 + (c.toNat - 48) : Nat) : Int) := by omega
      have e3 : (r : Int) + 1 = ((r + 1 : Nat) : Int) := by omega
      have hnew : r + 1 = 1 ∧ x * 10 + (c.toNat - 48) = d0 ∨ 2 ≤ r + 1 ∧ 1 ≤ x * 10 + (c.toNat - 48) := by
        rcases hcs with ⟨rfl,rfl⟩ | ⟨rfl,rfl⟩ | ⟨h2,h3⟩
        · left
          rw [hd0] at hc
          cases hc
          have := dg_nat hd9
          omega
        · right; omega
        · right; omega
      have fin : ∀ {tk : Tok (RcInv a k K ds nd d0 h n)} {σ : Fr},FSubL [(0,dPt a),(1, .int .u64 (k : Int)),(4, .int .i64 ((r + 1 : Nat) : Int)),(5, .int .i64 0),(6, .int .u64 ((x * 10 + (c.toNat - 48) : Nat) : Int))] σ → Again (RcInv a k K ds nd d0 h n) m σ h n tk := fun hσ =>
        .mk' (nd - (r + 1)) (by omega) _ _ hσ (.refl _) ⟨rfl,rfl,x * 10 + (c.toNat - 48),r + 1,by omega,by omega, .inr hnew,rfl,rfl⟩
      simp -dsimp (discharger := omega) [F122L1,e1,dPt,AHeap.read_of hg,hL,h8,hcat, -Int.natCast_add, -Int.natCast_mul,e2,e3]
      exact fin (by simp [dPt])
    · have hr2 : r = nd := by omega
      have hx1 : 1 ≤ x := by omega
      simp -dsimp (discharger := omega) [F122L1,e1,dPt,AHeap.read_of hg,hL,h8]
      refine loop_use (hrb (10 * K - x) [(0,dPt a),(1, .int .u64 (k : Int)),(4, .int .i64 ((r + 0 : Nat) : Int)),(5, .int .i64 ((0 : Nat) : Int)),(6, .int .u64 (x : Int))] h n ⟨rfl,rfl,x,0,hx1,by omega,hx1,by omega,fun _ => rfl,rfl,rfl⟩) (by simp [dPt]) (.refl _) ?_
      rintro e σ' h' n' ⟨rfl,rfl,rfl,x',t,hx1',hx2',ht2,ht3,s0,s1,s4,s5,s6⟩
      have fin : RcPost a k K nd d0 h' n' (.exit 0) σ' h' n' := ⟨rfl,rfl,rfl,x',r + t,hx1',hx2',by omega,(by
        rcases Nat.eq_zero_or_pos t with h | h
        · have := ht3 h; omega
        · omega),s0,s1,s4,s5,s6⟩
      simp -dsimp (discharger := omega) []
      exact fin
  · have hq1 : ¬ ((q : Int) = 0) := by
      have : 1 ≤ x / K := (Nat.one_le_div_iff hK1).2 (by omega)
      omega
    have fin : ∀ {σ : Fr},FSubL [(0,dPt a),(1, .int .u64 (k : Int)),(4, .int .i64 (r : Int)),(5, .int .i64 0),(6, .int .u64 (x : Int))] σ → RcPost a k K nd d0 h n (.exit 0) σ h n := fun hσ =>
      ⟨rfl,rfl,rfl,x,r,by omega,hx2,by omega,by omega,hσ.1,hσ.2.1,hσ.2.2.1,hσ.2.2.2.1,hσ.2.2.2.2.1⟩
    simp -dsimp (discharger := omega) [F122L1,e1]
    exact fin (by simp)
/- The second loop: a digit down for each digit up. -/
structure RdOk (K x0 nd : Nat) (ds : List UInt8) (w r x : Nat) : Prop where
  len : ds.length = 800
  low : ∀ i c,i < w → ds[i]? = some c → isD c = true
  up : ∀ i c,r ≤ i → i < nd → ds[i]? = some c → isD c = true
  lt : x < 10 * K
  w8 : w ≤ 800
  top : w = 0 ∧ x = x0 ∨ 1 ≤ w ∧ ds[0]? = some (dg (x0 / K))
theorem RdOk.put {K x0 nd : Nat} {ds : List UInt8} {w r x y q : Nat} (o : RdOk K x0 nd ds w r x) (_hK : 1 ≤ K) (hq : q = x / K) (hw : w < r) (hw8 : w < 800) (hy : y < 10 * K) {r' : Nat} (hr' : r ≤ r') : RdOk K x0 nd (ds.set w (dg q)) (w + 1) r' y := by
  have hq9 : q ≤ 9 := by
    have : x / K < 10 := Nat.div_lt_of_lt_mul (by rw [Nat.mul_comm]; exact o.lt)
    omega
  have hl := o.len
  refine ⟨by rw [List.length_set]; exact o.len,fun i c hi hc => ?_,fun i c hi hi2 hc => ?_,hy,by omega, .inr ⟨by omega, ?_⟩⟩
  · rw [List.getElem?_set] at hc
    split at hc
    · split at hc
      · cases hc; exact dg_isD hq9
      · cases hc
    · exact o.low i c (by omega) hc
  · rw [List.getElem?_set_ne (by omega)] at hc
    exact o.up i c (by omega) hi2 hc
  · rcases o.top with ⟨h1,h2⟩ | ⟨h1,h2⟩
    · subst h1; rw [List.getElem?_set_self (by omega),hq,h2]
    · rw [List.getElem?_set_ne (by omega)]; exact h2
def ReInv (a k K x0 nd : Nat) (dp : Int) (neg tr : Bool) (h0 : AHeap) (n0 m : Nat) (σ : Fr) (h : AHeap) (n : Nat) : Prop :=
  n = n0 ∧ ∃ (ds : List UInt8) (w r x : Nat),RdOk K x0 nd ds w r x ∧ w < r ∧ r ≤ 900 ∧ m = nd - r ∧ h = h0.put a (.cells (some 114) (decL ds (nd : Int) dp neg tr) 804) ∧ σ = [(0,dPt a),(1, .int .u64 (k : Int)),(4, .int .i64 (r : Int)),(5, .int .i64 (w : Int)),(6, .int .u64 (x : Int)),(8, .int .u64 ((K - 1 : Nat) : Int))]
def RePost (a k K x0 nd : Nat) (dp : Int) (neg tr : Bool) (h0 : AHeap) (n0 : Nat) (e : Ex) (σ' : Fr) (h' : AHeap) (n' : Nat) : Prop :=
  e = .exit 4 ∧ n' = n0 ∧ ∃ (ds : List UInt8) (w r x : Nat),RdOk K x0 nd ds w r x ∧ h' = h0.put a (.cells (some 114) (decL ds (nd : Int) dp neg tr) 804) ∧ σ'.get 0 = some (dPt a) ∧ σ'.get 1 = some (.int .u64 (k : Int)) ∧ σ'.get 5 = some (.int .i64 (w : Int)) ∧ σ'.get 6 = some (.int .u64 (x : Int)) ∧ σ'.get 8 = some (.int .u64 ((K - 1 : Nat) : Int))
theorem re_loop {a k x0 nd : Nat} (hk : k ≤ 60) (hnd : nd ≤ 800) {dp : Int} {neg tr : Bool} {h0 : AHeap} {n0 : Nat} :
    ∀ (m : Nat) (σ : Fr) (h : AHeap) (n : Nat),ReInv a k (2 ^ k) x0 nd dp neg tr h0 n0 m σ h n → HasCode EV61 (.loop F122L2) σ h n (RePost a k (2 ^ k) x0 nd dp neg tr h0 n0) := by
  obtain ⟨hK1,hK2⟩ := pow60 hk
  refine wx_inv _ fun m σ h n hI => ?_
  obtain ⟨rfl,ds,w,r,x,o,hwr,hr9,hm,rfl,rfl⟩ := hI
  have e1 := shr60 hk x
  have hlt := o.lt
  have e2 := and60 hk (x := x) (by omega)
  obtain ⟨q,hq⟩ : ∃ q,q = x / 2 ^ k := ⟨_,rfl⟩
  obtain ⟨y,hy⟩ : ∃ y,y = x % 2 ^ k := ⟨_,rfl⟩
  rw [← hq] at e1
  rw [← hy] at e2
  have hyk : y < 2 ^ k := hy ▸ Nat.mod_lt _ hK1
  obtain ⟨K,hK⟩ : ∃ K,K = 2 ^ k := ⟨_,rfl⟩
  rw [← hK] at hq hK1 hK2 hyk o hlt e2 ⊢
  have hL := decL_len o.len (nd : Int) dp neg tr
  have h8 := decL_800 o.len (nd := (nd : Int)) (dp := dp) (neg := neg) (tr := tr)
  have hq9 : q ≤ 9 := by
    have : x / K < 10 := Nat.div_lt_of_lt_mul (by rw [Nat.mul_comm]; exact hlt)
    omega
  by_cases hrn : r < nd
  · have hlen := o.len
    obtain ⟨c,hc⟩ : ∃ c,ds[r]? = some c := ⟨_,List.getElem?_eq_getElem (by omega)⟩
    have hcb := digN_le (o.up r c (Nat.le_refl _) hrn hc)
    have hcat := decL_at hc (nd := (nd : Int)) (dp := dp) (neg := neg) (tr := tr)
    have hw := decL_put o.len (nd := (nd : Int)) (dp := dp) (neg := neg) (tr := tr) (i := w) (by omega) (dg q)
    rw [dg_nat hq9] at hw
    have e3 : (q : Int) + 48 = ((48 + q : Nat) : Int) := by omega
    have e4 : (y : Int) * 10 + (c.toNat : Int) - 48 = ((y * 10 + (c.toNat - 48) : Nat) : Int) := by omega
    have e5 : (r : Int) + 1 = ((r + 1 : Nat) : Int) := by omega
    have e6 : (w : Int) + 1 = ((w + 1 : Nat) : Int) := by omega
    have o' := o.put hK1 hq hwr (by omega) (y := y * 10 + (c.toNat - 48)) (by omega) (r' := r + 1) (by omega)
    have fin : ∀ {tk : Tok (ReInv a k K x0 nd dp neg tr h0 n)} {σ : Fr},FSubL [(0,dPt a),(1, .int .u64 (k : Int)),(4, .int .i64 ((r + 1 : Nat) : Int)),(5, .int .i64 ((w + 1 : Nat) : Int)),(6, .int .u64 ((y * 10 + (c.toNat - 48) : Nat) : Int)),(8, .int .u64 ((K - 1 : Nat) : Int))] σ → Again (ReInv a k K x0 nd dp neg tr h0 n) m σ ((h0.put a (.cells (some 114) (decL ds (nd : Int) dp neg tr) 804)).put a (.cells (some 114) (decL (ds.set w (dg q)) (nd : Int) dp neg tr) 804)) n tk := fun hσ =>
      .mk' (nd - (r + 1)) (by omega) _ _ hσ (HSub.over rfl) ⟨rfl,_,w + 1,r + 1,_,o',by omega,by omega,rfl,rfl,rfl⟩
    simp -dsimp (discharger := omega) [F122L2,e1,e2,dPt,hL,h8,hcat, -Int.natCast_add, -Int.natCast_mul,e3,e4,e5,e6,hw]
    exact fin (by simp [dPt])
  · have fin : ∀ {σ : Fr},FSubL [(0,dPt a),(1, .int .u64 (k : Int)),(5, .int .i64 (w : Int)),(6, .int .u64 (x : Int)),(8, .int .u64 ((K - 1 : Nat) : Int))] σ → RePost a k K x0 nd dp neg tr h0 n (.exit 4) σ (h0.put a (.cells (some 114) (decL ds (nd : Int) dp neg tr) 804)) n := fun hσ =>
      ⟨rfl,rfl,ds,w,r,x,o,rfl,hσ.1,hσ.2.1,hσ.2.2.1,hσ.2.2.2.1,hσ.2.2.2.2.1⟩
    simp -dsimp (discharger := omega) [F122L2,dPt,hL,h8]
    exact fin (by simp [dPt])
/- The third loop: what is left over. -/
def RfInv (a k K x0 nd : Nat) (dp : Int) (neg : Bool) (h0 : AHeap) (n0 m : Nat) (σ : Fr) (h : AHeap) (n : Nat) : Prop :=
  n = n0 ∧ ∃ (ds : List UInt8) (tr : Bool) (w x : Nat),RdOk K x0 0 ds w 900 x ∧ (x = 0 ∨ 1 ≤ m ∧ m ≤ k + 1 ∧ 2 ^ (k + 1 - m) ∣ x) ∧ h = h0.put a (.cells (some 114) (decL ds (nd : Int) dp neg tr) 804) ∧ σ = [(0,dPt a),(1, .int .u64 (k : Int)),(5, .int .i64 (w : Int)),(6, .int .u64 (x : Int)),(8, .int .u64 ((K - 1 : Nat) : Int))]
def RfPost (a K x0 nd : Nat) (dp : Int) (neg : Bool) (h0 : AHeap) (n0 : Nat) (e : Ex) (σ' : Fr) (h' : AHeap) (n' : Nat) : Prop :=
  e = .exit 6 ∧ n' = n0 ∧ ∃ (ds : List UInt8) (tr : Bool) (w : Nat),RdOk K x0 0 ds w 900 0 ∧ h' = h0.put a (.cells (some 114) (decL ds (nd : Int) dp neg tr) 804) ∧ σ'.get 0 = some (dPt a) ∧ σ'.get 5 = some (.int .i64 (w : Int))
theorem rf_meas {k m x : Nat} (hm1 : 1 ≤ m) (hm2 : m ≤ k + 1) (hd : 2 ^ (k + 1 - m) ∣ x) (_hx : x ≠ 0) (_hlt : True) : x % 2 ^ k * 10 = 0 ∨ 1 ≤ m - 1 ∧ m - 1 ≤ k + 1 ∧ 2 ^ (k + 1 - (m - 1)) ∣ x % 2 ^ k * 10 := by
  by_cases h1 : m = 1
  · left
    subst h1
    rw [show k + 1 - 1 = k by omega] at hd
    rw [Nat.mod_eq_zero_of_dvd hd]
  · right
    refine ⟨by omega,by omega, ?_⟩
    rw [show k + 1 - (m - 1) = (k + 1 - m) + 1 by omega,Nat.pow_succ]
    have h2 : 2 ^ (k + 1 - m) ∣ 2 ^ k := Nat.pow_dvd_pow _ (by omega)
    exact Nat.mul_dvd_mul ((Nat.dvd_mod_iff h2).2 hd) (by decide)
theorem rf_loop {a k x0 nd : Nat} (hk : k ≤ 60) {dp : Int} {neg : Bool} {h0 : AHeap} {n0 : Nat} :
    ∀ (m : Nat) (σ : Fr) (h : AHeap) (n : Nat),RfInv a k (2 ^ k) x0 nd dp neg h0 n0 m σ h n → HasCode EV61 (.loop F122L3) σ h n (RfPost a (2 ^ k) x0 nd dp neg h0 n0) := by
  obtain ⟨hK1,hK2⟩ := pow60 hk
  refine wx_inv _ fun m σ h n hI => ?_
  obtain ⟨rfl,ds,tr,w,x,o,hmm,rfl,rfl⟩ := hI
  have e1 := shr60 hk x
  have hlt := o.lt
  have e2 := and60 hk (x := x) (by omega)
  have hmeas := fun h1 h2 h3 h4 => rf_meas (k := k) (m := m) (x := x) h1 h2 h3 h4 trivial
  obtain ⟨q,hq⟩ : ∃ q,q = x / 2 ^ k := ⟨_,rfl⟩
  obtain ⟨y,hy⟩ : ∃ y,y = x % 2 ^ k := ⟨_,rfl⟩
  rw [← hq] at e1
  rw [← hy] at e2 hmeas
  have hyk : y < 2 ^ k := hy ▸ Nat.mod_lt _ hK1
  have hK : ∃ K,K = 2 ^ k := ⟨_,rfl⟩
  have hL := decL_len o.len (nd : Int) dp neg tr
  have hq9 : q ≤ 9 := by
    have : x / 2 ^ k < 10 := Nat.div_lt_of_lt_mul (by rw [Nat.mul_comm]; exact hlt)
    omega
  by_cases hx0 : x = 0
  · subst hx0
    have fin : ∀ {σ : Fr},FSubL [(0,dPt a),(5, .int .i64 (w : Int))] σ → RfPost a (2 ^ k) x0 nd dp neg h0 n (.exit 6) σ (h0.put a (.cells (some 114) (decL ds (nd : Int) dp neg tr) 804)) n := fun hσ =>
      ⟨rfl,rfl,ds,tr,w,o,rfl,hσ.1,hσ.2.1⟩
    simp -dsimp (discharger := omega) [F122L3]
    exact fin (by simp [dPt])
  · obtain ⟨hm1,hm2,hdv⟩ := hmm.resolve_left hx0
    have hmm' := hmeas hm1 hm2 hdv hx0
    obtain ⟨K,hK⟩ := hK
    rw [← hK] at hq hK1 hK2 hyk o hlt e2 ⊢
    have e4 : (y : Int) * 10 = ((y * 10 : Nat) : Int) := by omega
    by_cases hw8 : w < 800
    · have hw := decL_put o.len (nd := (nd : Int)) (dp := dp) (neg := neg) (tr := tr) (i := w) (by omega) (dg q)
      rw [dg_nat hq9] at hw
      have e3 : (q : Int) + 48 = ((48 + q : Nat) : Int) := by omega
      have e6 : (w : Int) + 1 = ((w + 1 : Nat) : Int) := by omega
      have o' := o.put hK1 hq (by omega) (by omega) (y := y * 10) (by omega) (r' := 900) (by omega)
      have fin : ∀ {tk : Tok (RfInv a k K x0 nd dp neg h0 n)} {σ : Fr},FSubL [(0,dPt a),(1, .int .u64 (k : Int)),(5, .int .i64 ((w + 1 : Nat) : Int)),(6, .int .u64 ((y * 10 : Nat) : Int)),(8, .int .u64 ((K - 1 : Nat) : Int))] σ → Again (RfInv a k K x0 nd dp neg h0 n) m σ ((h0.put a (.cells (some 114) (decL ds (nd : Int) dp neg tr) 804)).put a (.cells (some 114) (decL (ds.set w (dg q)) (nd : Int) dp neg tr) 804)) n tk := fun hσ =>
        .mk' (m - 1) (by omega) _ _ hσ (HSub.over rfl) ⟨rfl,_,_,w + 1,_,o',hmm',rfl,rfl⟩
      simp -dsimp (discharger := omega) [F122L3,e1,e2,dPt,hL, -Int.natCast_add, -Int.natCast_mul,e3,e4,e6,hw]
      exact fin (by simp [dPt])
    · have o' : ∀ {z : Nat},z < 10 * K → RdOk K x0 0 ds w 900 z := fun hz => ⟨o.len,o.low,o.up,hz,o.w8,by
        rcases o.top with ⟨h1,_⟩ | h
        · omega
        · exact .inr h⟩
      by_cases hqz : q = 0
      · subst hqz
        have fin : ∀ {tk : Tok (RfInv a k K x0 nd dp neg h0 n)} {σ : Fr},FSubL [(0,dPt a),(1, .int .u64 (k : Int)),(5, .int .i64 (w : Int)),(6, .int .u64 ((y * 10 : Nat) : Int)),(8, .int .u64 ((K - 1 : Nat) : Int))] σ → Again (RfInv a k K x0 nd dp neg h0 n) m σ (h0.put a (.cells (some 114) (decL ds (nd : Int) dp neg tr) 804)) n tk := fun hσ =>
          .mk' (m - 1) (by omega) _ _ hσ (.refl _) ⟨rfl,_,_,w,_,o' (by omega),hmm',rfl,rfl⟩
        simp -dsimp (discharger := omega) [F122L3,e1,e2,dPt, -Int.natCast_add, -Int.natCast_mul,e4]
        exact fin (by simp [dPt])
      · have hw := decL_put803 o.len (nd := (nd : Int)) (dp := dp) (neg := neg) (tr := tr) (b := true)
        have fin : ∀ {tk : Tok (RfInv a k K x0 nd dp neg h0 n)} {σ : Fr},FSubL [(0,dPt a),(1, .int .u64 (k : Int)),(5, .int .i64 (w : Int)),(6, .int .u64 ((y * 10 : Nat) : Int)),(8, .int .u64 ((K - 1 : Nat) : Int))] σ → Again (RfInv a k K x0 nd dp neg h0 n) m σ ((h0.put a (.cells (some 114) (decL ds (nd : Int) dp neg tr) 804)).put a (.cells (some 114) (decL ds (nd : Int) dp neg true) 804)) n tk := fun hσ =>
          .mk' (m - 1) (by omega) _ _ hσ (HSub.over rfl) ⟨rfl,_,_,w,_,o' (by omega),hmm',rfl,rfl⟩
        simp -dsimp (discharger := omega) [F122L3,e1,e2,dPt,hL, -Int.natCast_add, -Int.natCast_mul,e4,hw]
        exact fin (by simp [dPt])
def RsP (ds : List UInt8) (k : Nat) (dp : Int) (neg : Bool) (b : Blk) : Prop := ∃ (ds' : List UInt8) (nd' : Nat) (dp' : Int) (tr' : Bool),DOk ds' nd' ∧ b = .cells (some 114) (decL ds' (nd' : Int) dp' neg tr') 804 ∧ dp - 900 ≤ dp' ∧ (dp' < dp ∨ dp' = dp ∧ ∃ d0 : Nat,ds[0]? = some (dg d0) ∧ d0 ≤ 9 ∧ 2 ^ k ≤ d0 ∧ ds'[0]? = some (dg (d0 / 2 ^ k)))
theorem isD_dg {c : UInt8} (h : isD c = true) : ∃ d,d ≤ 9 ∧ c = dg d := by
  have := digN_le h
  refine ⟨c.toNat - 48,by omega,UInt8.toNat_inj.1 ?_⟩
  rw [dg_nat (by omega)]; omega
theorem DOk.first {ds : List UInt8} {nd : Nat} (hd : DOk ds nd) : ∃ d0,ds[0]? = some (dg d0) ∧ 1 ≤ d0 ∧ d0 ≤ 9 := by
  obtain ⟨c,hc,hcd⟩ := hd.get (i := 0) hd.one
  obtain ⟨d,h9,rfl⟩ := isD_dg hcd
  refine ⟨d,hc, ?_,h9⟩
  rcases Nat.eq_zero_or_pos d with rfl | h
  · exact absurd hc hd.top
  · exact h
theorem rshift_ret {a k : Nat} (hk : k ≤ 60) {ds : List UInt8} {nd : Nat} {dp : Int} {neg tr : Bool} (hd : DOk ds nd) (hp0 : -1000000000000 ≤ dp) (hp1 : dp ≤ 1000000000000) {h : AHeap} (hg : h.get a = some (.cells (some 114) (decL ds (nd : Int) dp neg tr) 804)) (n : Nat) : DRet 122 [.int .u64 (k : Int)] a h n (RsP ds k dp neg) := by
  refine dret_of (af := F122) (by simp [hg]) rfl (by simp [F122]) ?_
  show wx EV61 B122 [(0,dPt a),(1, .int .u64 (k : Int))] h n (Done [] _) ()
  obtain ⟨d0,hd0,hd1,hd9⟩ := hd.first
  have hone := hd.one
  have hle := hd.le
  simp -dsimp (discharger := omega) [B122]
  refine loop_use (rc_loop hk hd hd0 hd1 hd9 hg nd [(0,dPt a),(1, .int .u64 (k : Int)),(4, .int .i64 ((0 : Nat) : Int)),(5, .int .i64 0),(6, .int .u64 ((0 : Nat) : Int))] h n ⟨rfl,rfl,0,0,by have := (pow60 hk).1; omega,by omega, .inl ⟨rfl,rfl⟩,by omega,rfl⟩) (by simp) (.refl _) ?_
  rintro e σ' h' n' ⟨rfl,rfl,rfl,x,r,hx1,hx2,hr,hcs,s0,s1,s4,s5,s6⟩
  have hL := decL_len hd.len (nd : Int) dp neg tr
  have h801 := decL_801 hd.len (nd := (nd : Int)) (dp := dp) (neg := neg) (tr := tr)
  have hw := decL_put801 hd.len (nd := (nd : Int)) (dp := dp) (z := dp - ((r : Int) - 1)) (neg := neg) (tr := tr)
  have hr1 : 1 ≤ r := by omega
  have e1 := shl60 hk
  obtain ⟨hK1,hK2⟩ := pow60 hk
  have e2 : ((2 ^ k : Nat) : Int) - 1 = ((2 ^ k - 1 : Nat) : Int) := by omega
  have o : RdOk (2 ^ k) x nd ds 0 r x := ⟨hd.len,fun i c hi => absurd hi (by omega),fun i c _ hi hc => hd.dig i c hi hc,hx2,by omega, .inl ⟨rfl,rfl⟩⟩
  have re := re_loop (a := a) (x0 := x) hk hle (dp := dp - ((r : Int) - 1)) (neg := neg) (tr := tr) (h0 := h') (n0 := n') (nd - r) [(0,dPt a),(1, .int .u64 (k : Int)),(4, .int .i64 (r : Int)),(5, .int .i64 ((0 : Nat) : Int)),(6, .int .u64 (x : Int)),(8, .int .u64 ((2 ^ k - 1 : Nat) : Int))] (h'.put a (.cells (some 114) (decL ds (nd : Int) (dp - ((r : Int) - 1)) neg tr) 804)) n' ⟨rfl,ds,0,r,x,o,by omega,by omega,rfl,rfl,rfl⟩
  have rf := fun m σ h n => rf_loop (a := a) (x0 := x) (nd := nd) hk (dp := dp - ((r : Int) - 1)) (neg := neg) (h0 := h') (n0 := n') m σ h n
  have hkk : (2 : Nat) ^ (k + 1 - (k + 1)) = 1 := by rw [Nat.sub_self]
  have hend : ∀ {ds' : List UInt8} {nd' : Nat} {dp' : Int} {tr' : Bool},DOk ds' nd' → dp' = dp - ((r : Int) - 1) → ds'[0]? = some (dg (x / 2 ^ k)) → RsP ds k dp neg (.cells (some 114) (decL ds' (nd' : Int) dp' neg tr') 804) := by
    intro ds' nd' dp' tr' hd' hdp' ht
    refine ⟨ds',nd',dp',tr',hd',rfl,by omega, ?_⟩
    rcases hcs with ⟨h1,h2⟩ | h2
    · right
      subst h1 h2
      exact ⟨by omega,x,hd0,hd9,hx1,ht⟩
    · left; omega
  have hq : 1 ≤ x / 2 ^ k ∧ x / 2 ^ k ≤ 9 := by
    have h1 : 1 ≤ x / 2 ^ k := (Nat.one_le_div_iff hK1).2 hx1
    have : x / 2 ^ k < 10 := Nat.div_lt_of_lt_mul (by rw [Nat.mul_comm]; exact hx2)
    omega
  obtain ⟨K,hK⟩ : ∃ K,K = 2 ^ k := ⟨_,rfl⟩
  have hone2 := Nat.one_dvd x
  rw [← hK] at e1 e2 re hK1 hK2 hx1 hx2 hend hq
  simp -dsimp (discharger := omega) [s0,s1,s4,dPt,AHeap.read_of hg,hg,hL,h801,hw,e1,e2]
  refine loop_use re (by simp [dPt,s0,s1,s4,s5,s6]) (.refl _) ?_
  rintro e σ2 h2 n2 ⟨rfl,rfl,ds2,w2,r2,x2,o2,rfl,t0,t1,t5,t6,t8⟩
  simp -dsimp (discharger := omega) []
  refine loop_use (rf (k + 1) [(0,dPt a),(1, .int .u64 (k : Int)),(5, .int .i64 (w2 : Int)),(6, .int .u64 (x2 : Int)),(8, .int .u64 ((K - 1 : Nat) : Int))] (h'.put a (.cells (some 114) (decL ds2 (nd : Int) (dp - ((r : Int) - 1)) neg tr) 804)) n2 ⟨rfl,ds2,tr,w2,x2, ?_, .inr ⟨by omega,by omega, ?_⟩,rfl, ?_⟩) (by simp [t0,t1,t5,t6,t8]) (.refl _) ?_
  · rw [← hK]
    exact ⟨o2.len,o2.low,fun i c _ hi => absurd hi (by omega),o2.lt,o2.w8,o2.top⟩
  · rw [hkk]; exact Nat.one_dvd _
  · rw [← hK]
  rintro e σ3 h3 n3 ⟨rfl,rfl,ds3,tr3,w3,o3,rfl,u0,u5⟩
  rw [← hK] at o3
  have htop : 1 ≤ w3 ∧ ds3[0]? = some (dg (x / K)) := by
    rcases o3.top with ⟨_,h⟩ | h
    · omega
    · exact h
  have hL3 := decL_len o3.len (nd : Int) (dp - ((r : Int) - 1)) neg tr3
  have hw3 := decL_put800 o3.len (nd := (nd : Int)) (dp := dp - ((r : Int) - 1)) (z := (w3 : Int)) (neg := neg) (tr := tr3)
  have hd3 : DOk ds3 w3 := ⟨o3.len,htop.1,o3.w8,o3.low,by rw [htop.2]; exact fun e => dg_ne hq.2 hq.1 (Option.some.inj e)⟩
  simp -dsimp (discharger := omega) [u0,u5,dPt,hL3,hw3]
  obtain ⟨b,⟨r',hr',rfl⟩,ht⟩ := trim_ret (a := a) hd3 (dp := dp - ((r : Int) - 1)) (neg := neg) (tr := tr3) (h := ((h'.put a (.cells (some 114) (decL ds3 (nd : Int) (dp - ((r : Int) - 1)) neg tr3) 804)).put a (.cells (some 114) (decL ds3 (w3 : Int) (dp - ((r : Int) - 1)) neg tr3) 804))) (by simp) n3
  have fin : DFin a h' n3 (RsP ds k dp neg) (.tuple #[]) (((h'.put a (.cells (some 114) (decL ds3 (nd : Int) (dp - ((r : Int) - 1)) neg tr3) 804)).put a (.cells (some 114) (decL ds3 (w3 : Int) (dp - ((r : Int) - 1)) neg tr3) 804)).put a (.cells (some 114) (decL ds3 (r' : Int) (dp - ((r : Int) - 1)) neg tr3) 804)) n3 :=
    ⟨rfl,rfl,_,hend (tr' := tr3) hr' rfl htop.2, .ofE (.left (.inr (by simp)) (.right (.inl (by simp)) (.right (.inl (by simp)) (.right (.inl (by simp)) (.refl _ _)))))⟩
  simp only [dPt] at ht
  with_reducible refine call_ret ht ?_
  simp -dsimp (discharger := omega) []
  exact fin
end
end Go.Proofs.YtkdpjaaohddppaaGreatDoor.Am
namespace Go.Proofs.YtkdpjaaohddppaaGreatDoor.Am
noncomputable section
/- CONTRACT: prefixIsLessThan. -/
def PlInv (a g cp : Nat) (b s : List UInt8) (h0 : AHeap) (n0 m : Nat) (σ : Fr) (h : AHeap) (n : Nat) : Prop :=
  n = n0 ∧ h = h0 ∧ ∃ i : Nat,i ≤ b.length ∧ i ≤ s.length ∧ plt (b.drop i) (s.drop i) = plt b s ∧ m = s.length - i ∧ σ = [(0, .slice (some ⟨a,0,some g⟩) b.length cp),(1, .string ⟨s.toArray⟩),(5, .int .i64 (i : Int))]
def PlPost (b s : List UInt8) (h0 : AHeap) (n0 : Nat) (e : Ex) (σ' : Fr) (h' : AHeap) (n' : Nat) : Prop :=
  n' = n0 ∧ h' = h0 ∧ (e = .exit 0 ∧ plt b s = false ∨ e = .ret ∧ σ'.get 4 = some (.bool (plt b s)))
theorem pl_loop {a g cp : Nat} {b s : List UInt8} (hbl : b.length ≤ 10000) (_hsl : s.length ≤ 10000) {h0 : AHeap} (hr : h0.read a g 0 b.length = some (u8s b)) {n0 : Nat} :
    ∀ (m : Nat) (σ : Fr) (h : AHeap) (n : Nat),PlInv a g cp b s h0 n0 m σ h n → HasCode EV61 (.loop F140L0) σ h n (PlPost b s h0 n0) := by
  refine wx_inv _ fun m σ h n hI => ?_
  obtain ⟨rfl,rfl,i,hib,his,hp,hm,rfl⟩ := hI
  by_cases hs : i < s.length
  · by_cases hb : i < b.length
    · obtain ⟨c,hc⟩ : ∃ c,b[i]? = some c := ⟨_,List.getElem?_eq_getElem hb⟩
      obtain ⟨d,hd⟩ : ∃ d,s[i]? = some d := ⟨_,List.getElem?_eq_getElem hs⟩
      have hc1 : h.read a g i 1 = some [.int .u8 (c.toNat : Int)] := by simpa using bs_one hr hc
      have e5 : (i : Int) + 1 = ((i + 1 : Nat) : Int) := by omega
      rw [List.drop_eq_getElem_cons hb,List.drop_eq_getElem_cons hs,plt] at hp
      rw [List.getElem?_eq_getElem hb,Option.some.injEq] at hc
      have hd' := hd
      rw [List.getElem?_eq_getElem hs,Option.some.injEq] at hd'
      rw [hc,hd'] at hp
      by_cases hcd : c = d
      · subst hcd
        rw [if_pos rfl] at hp
        have fin : ∀ {tk : Tok (PlInv a g cp b s h n)} {σ : Fr},FSubL [(0, .slice (some ⟨a,0,some g⟩) b.length cp),(1, .string ⟨s.toArray⟩),(5, .int .i64 ((i + 1 : Nat) : Int))] σ → Again (PlInv a g cp b s h n) m σ h n tk := fun hσ =>
          .mk' (s.length - (i + 1)) (by omega) _ _ hσ (.refl _) ⟨rfl,rfl,i + 1,by omega,by omega,hp,rfl,rfl⟩
        simp -dsimp (discharger := omega) [F140L0,hc1,hd', -Int.natCast_add,e5]
        exact fin (by simp)
      · rw [if_neg hcd] at hp
        have hne : ¬ ((c.toNat : Int) = (d.toNat : Int)) := fun e => hcd (UInt8.toNat_inj.1 (by omega))
        have fin : ∀ {σ : Fr}, σ.get 4 = some (.bool (decide (c.toNat < d.toNat))) → PlPost b s h n .ret σ h n := fun hσ => ⟨rfl,rfl, .inr ⟨rfl,by rw [hσ,← hp]; rfl⟩⟩
        simp -dsimp (discharger := omega) [F140L0,hc1,hd']
        exact fin (by simp)
    · rw [show i = b.length by omega,List.drop_length,← show i = b.length by omega,List.drop_eq_getElem_cons hs,plt] at hp
      have fin : ∀ {σ : Fr}, σ.get 4 = some (.bool true) → PlPost b s h n .ret σ h n := fun hσ => ⟨rfl,rfl, .inr ⟨rfl,by rw [hσ,← hp]⟩⟩
      simp -dsimp (discharger := omega) [F140L0]
      exact fin (by simp)
  · rw [show i = s.length by omega,List.drop_length] at hp
    have hp' : plt b s = false := by
      rw [← hp]; cases List.drop s.length b <;> rfl
    have fin : ∀ {σ : Fr},PlPost b s h n (.exit 0) σ h n := ⟨rfl,rfl, .inl ⟨rfl,hp'⟩⟩
    simp -dsimp (discharger := omega) [F140L0]
    exact fin
theorem plt_ret {a g cp : Nat} {b s : List UInt8} (hbl : b.length ≤ 10000) (hsl : s.length ≤ 10000) {h : AHeap} (hr : h.read a g 0 b.length = some (u8s b)) (n : Nat) : Ret EV61 140 [.slice (some ⟨a,0,some g⟩) b.length cp, .string ⟨s.toArray⟩] h n (.bool (plt b s)) [] n := by
  refine rsx140 (by simp) (by simp) ?_
  simp -dsimp (discharger := omega) [B140]
  refine loop_use (pl_loop hbl hsl hr (cp := cp) s.length [(0, .slice (some ⟨a,0,some g⟩) b.length cp),(1, .string ⟨s.toArray⟩),(5, .int .i64 ((0 : Nat) : Int))] h n ⟨rfl,rfl,0,by omega,by omega,rfl,rfl,rfl⟩) (by simp) (.refl _) ?_
  rintro e σ' h' n' ⟨rfl,rfl,⟨rfl,hp⟩ | ⟨rfl,hp⟩⟩
  · simp -dsimp (discharger := omega) [hp,HSub.refl]
  · simp -dsimp (discharger := omega) [hp,HSub.refl]
end
end Go.Proofs.YtkdpjaaohddppaaGreatDoor.Am
namespace Go.Proofs.YtkdpjaaohddppaaGreatDoor.Am
noncomputable section
/- THE TABLE OF CUTOFFS: how many new digits,from which digits on. -/
def cutT (k : Nat) : List UInt8 := if k = 0 then [] else (Nat.toDigits 10 (5 ^ k)).map fun c => UInt8.ofNat c.toNat
def cutN (k : Nat) : Nat := if k = 0 then 0 else (Nat.toDigits 10 (2 ^ k)).length
def cutCells : List Value := (List.range 61).flatMap fun k => [.int .i64 (cutN k : Int), .string ⟨(cutT k).toArray⟩]
def cutChk (k : Nat) : Bool := (cutT k).all isD && decide (decV (cutT k) = 5 ^ k) && decide (cutN k + (cutT k).length = k + 1) && decide (1 ≤ cutN k) && decide (10 ^ (cutN k - 1) ≤ 2 ^ k) && decide (2 ^ k < 10 ^ cutN k) && decide ((cutT k).getLast? = some 53) && decide ((cutT k).length ≤ 60) && decide (cutN k ≤ 19)
theorem cut_all : (List.range' 1 60).all cutChk = true := by decide +kernel
theorem cut_ok {k : Nat} (h1 : 1 ≤ k) (hk : k ≤ 60) : CheatOk k (cutN k) (cutT k) ∧ (cutT k).length ≤ 60 ∧ cutN k ≤ 19 := by
  have := List.all_eq_true.1 cut_all k (by rw [List.mem_range'_1]; omega)
  simp only [cutChk,Bool.and_eq_true,decide_eq_true_iff] at this
  obtain ⟨⟨⟨⟨⟨⟨⟨⟨a1,a2⟩,a3⟩,a4⟩,a5⟩,a6⟩,a7⟩,a8⟩,a9⟩ := this
  exact ⟨⟨a1,a2,a3,a4,a5,a6,a7⟩,a8,a9⟩
theorem flat_two {α β : Type _} (f : α → List β) (hf : ∀ x,(f x).length = 2) : ∀ (l : List α) (k : Nat),(l.flatMap f).drop (k * 2) = (l.drop k).flatMap f
  | [],k => by simp
  | a :: l,0 => by simp
  | a :: l,k + 1 => by
    rw [List.flatMap_cons,List.drop_succ_cons,← flat_two f hf l k,List.drop_append,hf,List.drop_of_length_le (by rw [hf]; omega),List.nil_append]
    congr 1; omega
theorem cut_drop {k : Nat} (hk : k ≤ 60) : ∃ r,cutCells.drop (k * 2) = .int .i64 (cutN k : Int) :: .string ⟨(cutT k).toArray⟩ :: r := by
  unfold cutCells
  rw [flat_two _ (fun _ => rfl),List.drop_eq_getElem_cons (by rw [List.length_range]; omega),List.flatMap_cons,List.getElem_range]
  exact ⟨_,rfl⟩
theorem cut_len : cutCells.length = 122 := by unfold cutCells; rw [List.length_flatMap]; rfl
def Cuts (h : AHeap) : Prop := ∃ (c kk : Nat) (own own2 : Option Nat) (w w2 : Nat),h.get 15 = some (.cells own [.slice (some ⟨c,0,some 122⟩) 61 kk] w) ∧ w ≤ 1 ∧ h.get c = some (.cells own2 cutCells w2) ∧ w2 ≤ 122
theorem cut_n {k : Nat} (hk : k ≤ 60) : List.take 1 (List.drop (k * 2) cutCells) = [.int .i64 (cutN k : Int)] := by
  obtain ⟨r,e⟩ := cut_drop hk
  rw [e]; rfl
theorem cut_t {k : Nat} (hk : k ≤ 60) : List.take 1 (List.drop (k * 2 + 1) cutCells) = [.string ⟨(cutT k).toArray⟩] := by
  obtain ⟨r,e⟩ := cut_drop hk
  rw [← List.drop_drop,e]; rfl
end
end Go.Proofs.YtkdpjaaohddppaaGreatDoor.Am
namespace Go.Proofs.YtkdpjaaohddppaaGreatDoor.Am
noncomputable section
/- CONTRACT: leftShift. -/
structure LdOk (K nd dl : Nat) (b ds : List UInt8) (j : Nat) : Prop where
  len : ds.length = 800
  low : ∀ i,i < j → ds[i]? = b[i]?
  up : ∀ i c,j + dl ≤ i → i < nd + dl → ds[i]? = some c → isD c = true
  top : j = 0 → dl < 800 → ∃ t d0,b[0]? = some (dg d0) ∧ d0 ≤ 9 ∧ d0 * K ≤ t ∧ decV b * K / 10 ^ nd = t / 10 ∧ ds[dl]? = some (dg (t % 10))
theorem LdOk.step {K nd dl : Nat} {b ds ds' : List UInt8} {j t : Nat} (o : LdOk K nd dl b ds (j + 1)) (hd' : ds' = if j + dl < 800 then ds.set (j + dl) (dg (t % 10)) else ds)
    (ht : j = 0 → ∃ d0,b[0]? = some (dg d0) ∧ d0 ≤ 9 ∧ d0 * K ≤ t ∧ decV b * K / 10 ^ nd = t / 10) : LdOk K nd dl b ds' j := by
  have hl := o.len
  have h9 : t % 10 ≤ 9 := by omega
  by_cases hw : j + dl < 800
  · rw [if_pos hw] at hd'
    subst hd'
    refine ⟨by rw [List.length_set]; exact hl,fun i hi => ?_,fun i c hi hi2 hc => ?_,fun hj hdl => ?_⟩
    · rw [List.getElem?_set_ne (by omega)]; exact o.low i (by omega)
    · rw [List.getElem?_set] at hc
      split at hc
      · split at hc
        · cases hc; exact dg_isD h9
        · cases hc
      · exact o.up i c (by omega) hi2 hc
    · subst hj
      obtain ⟨d0,h1,h2,h3,h4⟩ := ht rfl
      exact ⟨t,d0,h1,h2,h3,h4,by rw [Nat.zero_add,List.getElem?_set_self (by omega)]⟩
  · rw [if_neg hw] at hd'
    subst hd'
    refine ⟨hl,fun i hi => o.low i (by omega),fun i c hi hi2 hc => ?_,fun hj hdl => by omega⟩
    by_cases e : i = j + dl
    · have := (List.getElem?_eq_some_iff.1 hc).1; omega
    · exact o.up i c (by omega) hi2 hc
def LaInv (a k K nd dl : Nat) (dp : Int) (neg : Bool) (b : List UInt8) (h0 : AHeap) (n0 m : Nat) (σ : Fr) (h : AHeap) (n : Nat) : Prop :=
  n = n0 ∧ ∃ (ds : List UInt8) (tr : Bool),LdOk K nd dl b ds m ∧ m ≤ nd ∧ h = h0.put a (.cells (some 114) (decL ds (nd : Int) dp neg tr) 804) ∧ σ = [(0,dPt a),(1, .int .u64 (k : Int)),(4, .int .i64 (dl : Int)),(5, .int .i64 ((m : Int) - 1)),(6, .int .i64 ((m + dl : Nat) : Int)),(7, .int .u64 ((decV (b.drop m) * K / 10 ^ (nd - m) : Nat) : Int))]
def LaPost (a K nd dl : Nat) (dp : Int) (neg : Bool) (b : List UInt8) (h0 : AHeap) (n0 : Nat) (e : Ex) (σ' : Fr) (h' : AHeap) (n' : Nat) : Prop :=
  e = .exit 0 ∧ n' = n0 ∧ ∃ (ds : List UInt8) (tr : Bool),LdOk K nd dl b ds 0 ∧ h' = h0.put a (.cells (some 114) (decL ds (nd : Int) dp neg tr) 804) ∧ σ'.get 0 = some (dPt a) ∧ σ'.get 4 = some (.int .i64 (dl : Int)) ∧ σ'.get 6 = some (.int .i64 (dl : Int)) ∧ σ'.get 7 = some (.int .u64 ((decV b * K / 10 ^ nd : Nat) : Int))
theorem shlN60 {k d : Nat} (hk : k ≤ 60) (hd : d ≤ 9) : shlI .u64 (d : Int) (k : Int) = ((d * 2 ^ k : Nat) : Int) := by
  unfold shlI
  have := pow60 hk
  have h2 : d * 2 ^ k ≤ 9 * 2 ^ k := Nat.mul_le_mul_right _ hd
  rw [show min (k : Int).toNat IntKind.u64.bits = k from by show min (k : Int).toNat 64 = k; rw [Int.toNat_natCast]; exact Nat.min_eq_left (by omega)]
  rw [show (d : Int) * 2 ^ k = ((d * 2 ^ k : Nat) : Int) by simp]
  exact wrap_u64 (by omega) (by omega)
theorem la_loop {a k nd dl : Nat} (hk : k ≤ 60) (hdl : dl ≤ 19) {dp : Int} {neg : Bool} {b : List UInt8} (hbl : b.length = nd) (hnd : nd ≤ 800) (hb : b.all isD = true) {h0 : AHeap} {n0 : Nat} :
    ∀ (m : Nat) (σ : Fr) (h : AHeap) (n : Nat),LaInv a k (2 ^ k) nd dl dp neg b h0 n0 m σ h n → HasCode EV61 (.loop F121L0) σ h n (LaPost a (2 ^ k) nd dl dp neg b h0 n0) := by
  obtain ⟨hK1,hK2⟩ := pow60 hk
  refine wx_inv _ fun m σ h n hI => ?_
  obtain ⟨rfl,ds,tr,o,hm,rfl,rfl⟩ := hI
  have hL := decL_len o.len (nd : Int) dp neg tr
  cases m with
  | zero =>
    have fin : ∀ {σ : Fr},FSubL [(0,dPt a),(4, .int .i64 (dl : Int)),(6, .int .i64 ((0 + dl : Nat) : Int)),(7, .int .u64 ((decV (b.drop 0) * 2 ^ k / 10 ^ (nd - 0) : Nat) : Int))] σ → LaPost a (2 ^ k) nd dl dp neg b h0 n (.exit 0) σ (h0.put a (.cells (some 114) (decL ds (nd : Int) dp neg tr) 804)) n := fun hσ =>
      ⟨rfl,rfl,ds,tr,o,rfl,hσ.1,hσ.2.1,by have := hσ.2.2.1; rwa [Nat.zero_add] at this,hσ.2.2.2.1⟩
    have e5 : ((0 : Nat) : Int) - 1 = -1 := rfl
    obtain ⟨N,hN⟩ : ∃ N : Nat,N = decV (b.drop 0) * 2 ^ k / 10 ^ (nd - 0) := ⟨_,rfl⟩
    rw [← hN] at fin ⊢
    obtain ⟨w,hw⟩ : ∃ w : Nat,w = 0 + dl := ⟨_,rfl⟩
    rw [← hw] at fin ⊢
    rw [e5]
    simp -dsimp (discharger := omega) [F121L0]
    exact fin (by simp [dPt])
  | succ j =>
    obtain ⟨c,hc⟩ : ∃ c,b[j]? = some c := ⟨_,List.getElem?_eq_getElem (by omega)⟩
    have hcd : isD c = true := List.all_eq_true.1 hb c (List.mem_of_getElem? hc)
    obtain ⟨d,hd9,rfl⟩ := isD_dg hcd
    have hcat := decL_at ((o.low j (by omega)).trans hc) (nd := (nd : Int)) (dp := dp) (neg := neg) (tr := tr)
    rw [dg_nat hd9] at hcat
    -- what is carried
    have hS : decV (b.drop (j + 1)) < 10 ^ (nd - (j + 1)) := by
      have := decV_lt (b.drop (j + 1)) (List.all_eq_true.2 fun x hx => List.all_eq_true.1 hb x (List.mem_of_mem_drop hx))
      rwa [List.length_drop,hbl] at this
    have hcl := carry_lt hS hK1
    have hstep := carry_step d (decV (b.drop (j + 1))) (2 ^ k) (nd - (j + 1))
    have hdrop : b.drop j = dg d :: b.drop (j + 1) := by
      rw [List.drop_eq_getElem_cons (by omega)]
      rw [List.getElem?_eq_getElem (by omega)] at hc
      rw [Option.some.inj hc]
    have hdv : decV (b.drop j) = d * 10 ^ (nd - (j + 1)) + decV (b.drop (j + 1)) := by
      rw [hdrop,decV_cons,dg_nat hd9,List.length_drop,hbl,show 48 + d - 48 = d by omega]
    rw [← hdv,show nd - (j + 1) + 1 = nd - j by omega] at hstep
    have hsh := shlN60 hk hd9
    obtain ⟨K,hK⟩ : ∃ K,K = 2 ^ k := ⟨_,rfl⟩
    rw [← hK] at hcl hstep hsh hK1 hK2 o ⊢
    obtain ⟨C,hC⟩ : ∃ C,C = decV (b.drop (j + 1)) * K / 10 ^ (nd - (j + 1)) := ⟨_,rfl⟩
    rw [← hC] at hcl hstep ⊢
    obtain ⟨D,hD⟩ : ∃ D,D = d * K := ⟨_,rfl⟩
    have hD9 : D ≤ 9 * K := hD ▸ Nat.mul_le_mul_right _ hd9
    rw [← hD] at hsh hstep
    obtain ⟨q,hq⟩ : ∃ q,q = (D + C) / 10 := ⟨_,rfl⟩
    obtain ⟨r,hr⟩ : ∃ r,r = (D + C) % 10 := ⟨_,rfl⟩
    have e1 : ((48 + d : Nat) : Int) - 48 = (d : Int) := by omega
    have e2 : (C : Int) + (D : Int) = ((D + C : Nat) : Int) := by omega
    have e3 : Int.tdiv ((D + C : Nat) : Int) 10 = (q : Int) := by rw [hq]; exact tdiv_nat (D + C) 10
    have e4 : ((D + C : Nat) : Int) - 10 * (q : Int) = (r : Int) := by omega
    have e5 : ((j + 1 : Nat) : Int) - 1 = (j : Int) := by omega
    have e6 : ((j + 1 + dl : Nat) : Int) - 1 = ((j + dl : Nat) : Int) := by omega
    have ht : j = 0 → ∃ d0,b[0]? = some (dg d0) ∧ d0 ≤ 9 ∧ d0 * K ≤ D + C ∧ decV b * K / 10 ^ nd = (D + C) / 10 := by
      rintro rfl
      exact ⟨d,hc,hd9,by omega,hstep⟩
    have e7 : (r : Int) + 48 = ((48 + r : Nat) : Int) := by omega
    have hr9 : r ≤ 9 := by omega
    by_cases hw8 : j + dl < 800
    · have hw := decL_put o.len (nd := (nd : Int)) (dp := dp) (neg := neg) (tr := tr) (i := j + dl) hw8 (dg r)
      rw [dg_nat hr9] at hw
      have o' := o.step (ds' := ds.set (j + dl) (dg r)) (t := D + C) (by rw [if_pos hw8,hr]) ht
      have fin : ∀ {tk : Tok (LaInv a k K nd dl dp neg b h0 n)} {σ : Fr},FSubL [(0,dPt a),(1, .int .u64 (k : Int)),(4, .int .i64 (dl : Int)),(5, .int .i64 ((j : Int) - 1)),(6, .int .i64 ((j + dl : Nat) : Int)),(7, .int .u64 (q : Int))] σ → Again (LaInv a k K nd dl dp neg b h0 n) (j + 1) σ ((h0.put a (.cells (some 114) (decL ds (nd : Int) dp neg tr) 804)).put a (.cells (some 114) (decL (ds.set (j + dl) (dg r)) (nd : Int) dp neg tr) 804)) n tk := fun hσ =>
        .mk' j (by omega) _ _ hσ (HSub.over rfl) ⟨rfl,_,tr,o',by omega,rfl,by rw [hstep,← hq]⟩
      obtain ⟨w,hwv⟩ : ∃ w : Nat,w = j + dl := ⟨_,rfl⟩
      rw [← hwv] at e6 fin hw hw8
      obtain ⟨w1,hw1⟩ : ∃ w1 : Nat,w1 = j + 1 + dl := ⟨_,rfl⟩
      rw [← hw1] at e6 ⊢
      rw [e5]
      simp -dsimp (discharger := omega) [F121L0,dPt,hL,hcat,hsh, -Int.natCast_add, -Int.natCast_mul,e1,e2,e3,e4,e6,e7,hw]
      exact fin (by simp [dPt])
    · have o' := o.step (ds' := ds) (t := D + C) (by rw [if_neg hw8]) ht
      obtain ⟨w,hwv⟩ : ∃ w : Nat,w = j + dl := ⟨_,rfl⟩
      obtain ⟨w1,hw1⟩ : ∃ w1 : Nat,w1 = j + 1 + dl := ⟨_,rfl⟩
      by_cases hr0 : r = 0
      · have fin : ∀ {tk : Tok (LaInv a k K nd dl dp neg b h0 n)} {σ : Fr},FSubL [(0,dPt a),(1, .int .u64 (k : Int)),(4, .int .i64 (dl : Int)),(5, .int .i64 ((j : Int) - 1)),(6, .int .i64 ((j + dl : Nat) : Int)),(7, .int .u64 (q : Int))] σ → Again (LaInv a k K nd dl dp neg b h0 n) (j + 1) σ (h0.put a (.cells (some 114) (decL ds (nd : Int) dp neg tr) 804)) n tk := fun hσ =>
          .mk' j (by omega) _ _ hσ (.refl _) ⟨rfl,_,tr,o',by omega,rfl,by rw [hstep,← hq]⟩
        rw [← hwv] at e6 fin hw8
        rw [← hw1] at e6 ⊢
        rw [e5]
        simp -dsimp (discharger := omega) [F121L0,dPt,hL,hcat,hsh, -Int.natCast_add, -Int.natCast_mul,e1,e2,e3,e4,e6]
        exact fin (by simp [dPt])
      · have hw := decL_put803 o.len (nd := (nd : Int)) (dp := dp) (neg := neg) (tr := tr) (b := true)
        have fin : ∀ {tk : Tok (LaInv a k K nd dl dp neg b h0 n)} {σ : Fr},FSubL [(0,dPt a),(1, .int .u64 (k : Int)),(4, .int .i64 (dl : Int)),(5, .int .i64 ((j : Int) - 1)),(6, .int .i64 ((j + dl : Nat) : Int)),(7, .int .u64 (q : Int))] σ → Again (LaInv a k K nd dl dp neg b h0 n) (j + 1) σ ((h0.put a (.cells (some 114) (decL ds (nd : Int) dp neg tr) 804)).put a (.cells (some 114) (decL ds (nd : Int) dp neg true) 804)) n tk := fun hσ =>
          .mk' j (by omega) _ _ hσ (HSub.over rfl) ⟨rfl,_,true,o',by omega,rfl,by rw [hstep,← hq]⟩
        rw [← hwv] at e6 fin hw8
        rw [← hw1] at e6 ⊢
        rw [e5]
        simp -dsimp (discharger := omega) [F121L0,dPt,hL,hcat,hsh, -Int.natCast_add, -Int.natCast_mul,e1,e2,e3,e4,e6,hw]
        exact fin (by simp [dPt])
/- The second loop: the new digits. -/
structure LeOk (dl M : Nat) (ds : List UInt8) (w x : Nat) (d00 : Option UInt8) : Prop where
  len : ds.length = 800
  up : ∀ i c,w ≤ i → i < M → ds[i]? = some c → isD c = true
  w9 : w ≤ 19
  bd : w = 0 ∧ x = 0 ∧ (dl = 0 → ds[0]? = d00) ∧ (1 ≤ dl → ds[0]? ≠ some 48) ∨ 1 ≤ w ∧ 1 ≤ dl ∧ 10 ^ (w - 1) ≤ x ∧ x < 10 ^ w
def LbInv (a dl M nd : Nat) (d00 : Option UInt8) (dp : Int) (neg : Bool) (h0 : AHeap) (n0 m : Nat) (σ : Fr) (h : AHeap) (n : Nat) : Prop :=
  n = n0 ∧ ∃ (ds : List UInt8) (tr : Bool) (x : Nat),LeOk dl M ds m x d00 ∧ h = h0.put a (.cells (some 114) (decL ds (nd : Int) dp neg tr) 804) ∧ σ = [(0,dPt a),(4, .int .i64 (dl : Int)),(6, .int .i64 (m : Int)),(7, .int .u64 (x : Int))]
def LbPost (a dl M nd : Nat) (d00 : Option UInt8) (dp : Int) (neg : Bool) (h0 : AHeap) (n0 : Nat) (e : Ex) (σ' : Fr) (h' : AHeap) (n' : Nat) : Prop :=
  e = .exit 2 ∧ n' = n0 ∧ ∃ (ds : List UInt8) (tr : Bool),LeOk dl M ds 0 0 d00 ∧ h' = h0.put a (.cells (some 114) (decL ds (nd : Int) dp neg tr) 804) ∧ σ'.get 0 = some (dPt a) ∧ σ'.get 4 = some (.int .i64 (dl : Int))
theorem lb_loop {a dl M nd : Nat} {d00 : Option UInt8} {dp : Int} {neg : Bool} {h0 : AHeap} {n0 : Nat} :
    ∀ (m : Nat) (σ : Fr) (h : AHeap) (n : Nat),LbInv a dl M nd d00 dp neg h0 n0 m σ h n → HasCode EV61 (.loop F121L1) σ h n (LbPost a dl M nd d00 dp neg h0 n0) := by
  refine wx_inv _ fun m σ h n hI => ?_
  obtain ⟨rfl,ds,tr,x,o,rfl,rfl⟩ := hI
  have hL := decL_len o.len (nd : Int) dp neg tr
  have h9 := o.w9
  rcases o.bd with ⟨rfl,rfl,h1,h2⟩ | ⟨h1,h2,h3,h4⟩
  · have fin : ∀ {σ : Fr},FSubL [(0,dPt a),(4, .int .i64 (dl : Int))] σ → LbPost a dl M nd d00 dp neg h0 n (.exit 2) σ (h0.put a (.cells (some 114) (decL ds (nd : Int) dp neg tr) 804)) n := fun hσ =>
      ⟨rfl,rfl,ds,tr,o,rfl,hσ.1,hσ.2.1⟩
    simp -dsimp (discharger := omega) [F121L1]
    exact fin (by simp [dPt])
  · have hx1 : 1 ≤ x := by have := ten_pos (m - 1); omega
    have hx19 : x < 10000000000000000000 := by
      have : 10 ^ m ≤ 10 ^ 19 := Nat.pow_le_pow_right (by decide) h9
      have e : (10 : Nat) ^ 19 = 10000000000000000000 := by decide
      omega
    obtain ⟨q,hq⟩ : ∃ q,q = x / 10 := ⟨_,rfl⟩
    obtain ⟨r,hr⟩ : ∃ r,r = x % 10 := ⟨_,rfl⟩
    obtain ⟨w,hwv⟩ : ∃ w : Nat,m = w + 1 := ⟨m - 1,by omega⟩
    subst hwv
    have hr9 : r ≤ 9 := by omega
    have e3 : Int.tdiv (x : Int) 10 = (q : Int) := by rw [hq]; exact tdiv_nat x 10
    have e4 : (x : Int) - 10 * (q : Int) = (r : Int) := by omega
    have e6 : ((w + 1 : Nat) : Int) - 1 = (w : Int) := by omega
    have e7 : (r : Int) + 48 = ((48 + r : Nat) : Int) := by omega
    have hw := decL_put o.len (nd := (nd : Int)) (dp := dp) (neg := neg) (tr := tr) (i := w) (by omega) (dg r)
    rw [dg_nat hr9] at hw
    have hlen := o.len
    have o' : LeOk dl M (ds.set w (dg r)) w q d00 := by
      refine ⟨by rw [List.length_set]; exact hlen,fun i c hi hi2 hc => ?_,by omega, ?_⟩
      · rw [List.getElem?_set] at hc
        split at hc
        · split at hc
          · cases hc; exact dg_isD hr9
          · cases hc
        · exact o.up i c (by omega) hi2 hc
      · rw [show w + 1 - 1 = w by omega] at h3
        rw [Nat.pow_succ] at h4
        cases w with
        | zero =>
          left
          rw [Nat.pow_zero] at h4
          have : r = x := by omega
          refine ⟨rfl,by omega,fun h => by omega,fun _ => ?_⟩
          rw [List.getElem?_set_self (by omega)]
          exact fun e => dg_ne hr9 (by omega) (Option.some.inj e)
        | succ v =>
          right
          rw [Nat.pow_succ] at h3 ⊢
          rw [Nat.pow_succ] at h4
          refine ⟨by omega,h2, ?_,by omega⟩
          rw [show v + 1 - 1 = v by omega]
          omega
    have fin : ∀ {tk : Tok (LbInv a dl M nd d00 dp neg h0 n)} {σ : Fr},FSubL [(0,dPt a),(4, .int .i64 (dl : Int)),(6, .int .i64 (w : Int)),(7, .int .u64 (q : Int))] σ → Again (LbInv a dl M nd d00 dp neg h0 n) (w + 1) σ ((h0.put a (.cells (some 114) (decL ds (nd : Int) dp neg tr) 804)).put a (.cells (some 114) (decL (ds.set w (dg r)) (nd : Int) dp neg tr) 804)) n tk := fun hσ =>
      .mk' w (by omega) _ _ hσ (HSub.over rfl) ⟨rfl,_,tr,q,o',rfl,rfl⟩
    simp -dsimp (discharger := omega) [F121L1,dPt,hL, -Int.natCast_add, -Int.natCast_mul,e3,e4,e6,e7,hw]
    exact fin (by simp [dPt])
end
end Go.Proofs.YtkdpjaaohddppaaGreatDoor.Am
namespace Go.Proofs.YtkdpjaaohddppaaGreatDoor.Am
noncomputable section
def LsP (ds : List UInt8) (k : Nat) (dp : Int) (neg : Bool) (b : Blk) : Prop := ∃ (ds' : List UInt8) (nd' : Nat) (dp' : Int) (tr' : Bool),DOk ds' nd' ∧ b = .cells (some 114) (decL ds' (nd' : Int) dp' neg tr') 804 ∧ dp ≤ dp' ∧ dp' ≤ dp + 19 ∧ (dp < dp' ∨ dp' = dp ∧ ∃ d0 d0' : Nat,ds[0]? = some (dg d0) ∧ d0 ≤ 9 ∧ ds'[0]? = some (dg d0') ∧ d0' ≤ 9 ∧ d0 * 2 ^ k ≤ d0')
def rest121 : ACode := match B121 with
  | .seq _ (.seq _ r) => r
  | c => c
theorem trim_use {a : Nat} {ds : List UInt8} {m : Nat} {dp : Int} {neg tr : Bool} (hd : DOk ds m) {H : AHeap} {n : Nat} {K : Value → AHeap → Nat → Prop} {t : Tok K} (hg : H.get a = some (.cells (some 114) (decL ds (m : Int) dp neg tr) 804)) (q : ∀ r,DOk ds r → K (.tuple #[]) (H.put a (.cells (some 114) (decL ds (r : Int) dp neg tr) 804)) n) : HasCallT EV61 120 [.pointer (some ⟨a,0,some 804⟩)] H n K t := by
  obtain ⟨b,⟨r,hr,rfl⟩,ht⟩ := trim_ret hd hg n
  exact call_ret ht (q r hr)
set_option maxHeartbeats 1000000 in
theorem ls_rest {a k dl : Nat} (hk : k ≤ 60) (hdl : dl ≤ 19) {ds : List UInt8} {nd : Nat} {dp : Int} {neg tr : Bool} (hd : DOk ds nd)
    (hC : dl = 0 ∧ decV (ds.take nd) * 2 ^ k / 10 ^ nd = 0 ∨ 1 ≤ dl ∧ 10 ^ (dl - 1) ≤ decV (ds.take nd) * 2 ^ k / 10 ^ nd ∧ decV (ds.take nd) * 2 ^ k / 10 ^ nd < 10 ^ dl)
    (hp0 : -1000000000000 ≤ dp) (hp1 : dp ≤ 1000000000000) {h : AHeap} (hg : h.get a = some (.cells (some 114) (decL ds (nd : Int) dp neg tr) 804)) (n : Nat) {σ : Fr} (s0 : σ.get 0 = some (dPt a)) (s1 : σ.get 1 = some (.int .u64 (k : Int))) (s4 : σ.get 4 = some (.int .i64 (dl : Int))) :
    wx EV61 rest121 σ h n (Done [] (DFin a h n (LsP ds k dp neg))) () := by
  have hL := decL_len hd.len (nd : Int) dp neg tr
  have h800 := decL_800 hd.len (nd := (nd : Int)) (dp := dp) (neg := neg) (tr := tr)
  have hone := hd.one
  have hle := hd.le
  obtain ⟨b,hb⟩ : ∃ b,b = ds.take nd := ⟨_,rfl⟩
  have hbl : b.length = nd := by rw [hb,List.length_take,hd.len]; omega
  have hball : b.all isD = true := hb ▸ take_dig hd (Nat.le_refl _)
  rw [← hb] at hC
  obtain ⟨d0,hd0,hd01,hd09⟩ := hd.first
  have o : LdOk (2 ^ k) nd dl b ds nd := ⟨hd.len,fun i hi => by rw [hb,List.getElem?_take,if_pos hi],fun i c h1 h2 => by omega,fun h => by omega⟩
  have hz : decV (b.drop nd) * 2 ^ k / 10 ^ (nd - nd) = 0 := by
    rw [show b.drop nd = [] from List.drop_of_length_le (by omega),show decV [] = 0 from rfl,Nat.zero_mul,Nat.zero_div]
  have la := la_loop (a := a) hk hdl (dp := dp) (neg := neg) hbl hle hball (h0 := h) (n0 := n) nd [(0,dPt a),(1, .int .u64 (k : Int)),(4, .int .i64 (dl : Int)),(5, .int .i64 ((nd : Int) - 1)),(6, .int .i64 ((nd + dl : Nat) : Int)),(7, .int .u64 ((decV (b.drop nd) * 2 ^ k / 10 ^ (nd - nd) : Nat) : Int))] (h.put a (.cells (some 114) (decL ds (nd : Int) dp neg tr) 804)) n ⟨rfl,ds,tr,o,Nat.le_refl _,rfl,rfl⟩
  rw [hz] at la
  obtain ⟨K,hK⟩ : ∃ K,K = 2 ^ k := ⟨_,rfl⟩
  have hK1 : 1 ≤ K := hK ▸ (pow60 hk).1
  have hK2 : K ≤ 1152921504606846976 := hK ▸ (pow60 hk).2
  rw [← hK] at la hC
  obtain ⟨C,hCC⟩ : ∃ C,C = decV b * K / 10 ^ nd := ⟨_,rfl⟩
  rw [← hCC] at hC
  have e1 : (nd : Int) + (dl : Int) = ((nd + dl : Nat) : Int) := by omega
  simp -dsimp (discharger := omega) [rest121,B121,s0,s4,dPt,AHeap.read_of hg,hL,h800, -Int.natCast_add,e1]
  refine loop_use la (by simp [dPt,s0,s1,s4]) (HSub.ofE (.left (.inr hg) (.refl _ _))) ?_
  rintro e σ2 h2 n2 ⟨rfl,rfl,ds2,tr2,o2,rfl,t0,t4,t6,t7⟩
  rw [← hCC] at t7
  simp -dsimp (discharger := omega) []
  have htop := o2.top rfl
  have oL : LeOk dl (nd + dl) ds2 dl C (ds2[0]?) := ⟨o2.len,fun i c h1 h2 h3 => o2.up i c (by omega) h2 h3,hdl,by
    rcases hC with ⟨h1,h2⟩ | ⟨h1,h2,h3⟩
    · exact .inl ⟨h1,h2,fun _ => rfl,fun h => by omega⟩
    · exact .inr ⟨h1,h1,h2,h3⟩⟩
  refine loop_use (lb_loop (a := a) (nd := nd) (dp := dp) (neg := neg) (h0 := h) (n0 := n2) dl [(0,dPt a),(4, .int .i64 (dl : Int)),(6, .int .i64 (dl : Int)),(7, .int .u64 (C : Int))] _ n2 ⟨rfl,ds2,tr2,C,oL,rfl,rfl⟩) (by simp [t0,t4,t6,t7]) (.refl _) ?_
  rintro e σ3 h3 n3 ⟨rfl,rfl,ds3,tr3,o3,rfl,u0,u4⟩
  have hL3 := decL_len o3.len (nd : Int) dp neg tr3
  have h83 := decL_800 o3.len (nd := (nd : Int)) (dp := dp) (neg := neg) (tr := tr3)
  have hw3 := decL_put800 o3.len (nd := (nd : Int)) (dp := dp) (z := ((nd + dl : Nat) : Int)) (neg := neg) (tr := tr3)
  obtain ⟨M,hM⟩ : ∃ M : Nat,M = nd + dl := ⟨_,rfl⟩
  rw [← hM] at o3 hw3 e1
  have hL4 := decL_len o3.len (M : Int) dp neg tr3
  have h84 := decL_800 o3.len (nd := (M : Int)) (dp := dp) (neg := neg) (tr := tr3)
  -- the top digit
  have hfst : (ds3[0]? ≠ some 48) ∧ (1 ≤ dl ∨ dl = 0 ∧ ∃ d0',ds3[0]? = some (dg d0') ∧ d0' ≤ 9 ∧ d0 * K ≤ d0') := by
    rcases o3.bd with ⟨_,_,h1,h2⟩ | h
    · rcases Nat.eq_zero_or_pos dl with hz | hp
      · obtain ⟨t,d0',x1,x2,x3,x4,x5⟩ := htop (by omega)
        have hC0 : t / 10 = 0 := by
          rcases hC with ⟨_,h⟩ | ⟨h,_⟩
          · rw [← x4,← hCC]; exact h
          · omega
        have e0 : d0' = d0 := by
          rw [hb,List.getElem?_take,if_pos (by omega),hd0,Option.some.injEq] at x1
          have := congrArg UInt8.toNat x1
          rw [dg_nat hd09,dg_nat x2] at this
          omega
        subst e0
        rw [hz] at x5
        have hd1 := h1 hz
        rw [x5] at hd1
        have hDK : d0' ≤ d0' * K := by
          have := Nat.mul_le_mul_left d0' hK1
          omega
        exact ⟨by rw [hd1]; exact fun e => dg_ne (by omega) (by omega) (Option.some.inj e), .inr ⟨hz,t % 10,hd1,by omega,by omega⟩⟩
      · exact ⟨h2 hp, .inl hp⟩
    · omega
  have hend : ∀ {nd' : Nat} {tr' : Bool},DOk ds3 nd' → LsP ds k dp neg (.cells (some 114) (decL ds3 (nd' : Int) (dp + (dl : Int)) neg tr') 804) := by
    intro nd' tr' hd'
    refine ⟨ds3,nd',dp + dl,tr',hd',rfl,by omega,by omega, ?_⟩
    rcases hfst.2 with h | ⟨h,d0',h1,h2,h3⟩
    · left; omega
    · right; exact ⟨by omega,d0,d0',hd0,hd09,h1,h2,by rw [← hK]; exact h3⟩
  have dok : ∀ {r : Nat},1 ≤ r → r ≤ M → r ≤ 800 → DOk ds3 r := fun h1 h2 h3 => ⟨o3.len,h1,h3,fun i c hi hc => o3.up i c (by omega) (by omega) hc,hfst.1⟩
  by_cases h8 : 800 ≤ M
  · have hw4 := decL_put800 o3.len (nd := (M : Int)) (dp := dp) (z := 800) (neg := neg) (tr := tr3)
    have hL5 := decL_len o3.len 800 dp neg tr3
    have h85 := decL_801 o3.len (nd := 800) (dp := dp) (neg := neg) (tr := tr3)
    have hw5 := decL_put801 o3.len (nd := 800) (dp := dp) (z := dp + (dl : Int)) (neg := neg) (tr := tr3)
    simp -dsimp (discharger := omega) [u0,u4,dPt,hL3,h83, -Int.natCast_add,e1,hw3,hL4,h84,hw4,hL5,h85,hw5]
    refine trim_use (m := 800) (dp := dp + (dl : Int)) (neg := neg) (tr := tr3) (dok (r := 800) (by omega) (by omega) (by omega)) (by simp) fun r hr => ?_
    have fin : ∀ {H : AHeap},HSub (h.put a (.cells (some 114) (decL ds3 (r : Int) (dp + (dl : Int)) neg tr3) 804)) H → DFin a h n3 (LsP ds k dp neg) (.tuple #[]) H n3 := fun hs => ⟨rfl,rfl,_,hend hr,hs⟩
    simp -dsimp (discharger := omega) []
    exact fin (.ofE (.left (.inr (by simp)) (.right (.inl (by simp)) (.right (.inl (by simp)) (.right (.inl (by simp)) (.right (.inl (by simp)) (.right (.inl (by simp)) (.refl _ _))))))))
  · have h85 := decL_801 o3.len (nd := (M : Int)) (dp := dp) (neg := neg) (tr := tr3)
    have hw5 := decL_put801 o3.len (nd := (M : Int)) (dp := dp) (z := dp + (dl : Int)) (neg := neg) (tr := tr3)
    simp -dsimp (discharger := omega) [u0,u4,dPt,hL3,h83, -Int.natCast_add,e1,hw3,hL4,h84,h85,hw5]
    refine trim_use (m := M) (dp := dp + (dl : Int)) (neg := neg) (tr := tr3) (dok (r := M) (by omega) (by omega) (by omega)) (by simp) fun r hr => ?_
    have fin : ∀ {H : AHeap},HSub (h.put a (.cells (some 114) (decL ds3 (r : Int) (dp + (dl : Int)) neg tr3) 804)) H → DFin a h n3 (LsP ds k dp neg) (.tuple #[]) H n3 := fun hs => ⟨rfl,rfl,_,hend hr,hs⟩
    simp -dsimp (discharger := omega) []
    exact fin (.ofE (.left (.inr (by simp)) (.right (.inl (by simp)) (.right (.inl (by simp)) (.right (.inl (by simp)) (.right (.inl (by simp)) (.refl _ _)))))))
def fstC : ACode → ACode
  | .seq a _ => a
  | c => c
def sndC : ACode → ACode
  | .seq _ b => b
  | c => c
theorem B121_eq : B121 = .seq (fstC B121) (.seq (fstC (sndC B121)) rest121) := rfl
theorem lshift_ret {a k : Nat} (hk1 : 1 ≤ k) (hk : k ≤ 60) {ds : List UInt8} {nd : Nat} {dp : Int} {neg tr : Bool} (hd : DOk ds nd)
    (hp0 : -1000000000000 ≤ dp) (hp1 : dp ≤ 1000000000000) {h : AHeap} (hg : h.get a = some (.cells (some 114) (decL ds (nd : Int) dp neg tr) 804)) (hc : Cuts h) (n : Nat) : DRet 121 [.int .u64 (k : Int)] a h n (LsP ds k dp neg) := by
  refine dret_of (af := F121) (by simp [hg]) rfl (by simp [F121]) ?_
  show wx EV61 B121 [(0,dPt a),(1, .int .u64 (k : Int))] h n (Done [] _) ()
  obtain ⟨c,kk,own,own2,w,w2,hg15,hw1,hgc,hw2⟩ := hc
  obtain ⟨ck,hcl,hc9⟩ := cut_ok hk1 hk
  have hone := hd.one
  have hle := hd.le
  have hL := decL_len hd.len (nd : Int) dp neg tr
  have h800 := decL_800 hd.len (nd := (nd : Int)) (dp := dp) (neg := neg) (tr := tr)
  have hbl : (ds.take nd).length = nd := by rw [List.length_take,hd.len]; omega
  have hball : (ds.take nd).all isD = true := take_dig hd (Nat.le_refl _)
  have hb1 : 10 ^ ((ds.take nd).length - 1) ≤ decV (ds.take nd) := by
    obtain ⟨d0,hd0,hd01,hd09⟩ := hd.first
    cases hds : ds.take nd with
    | nil => rw [hds] at hbl; simp at hbl; omega
    | cons x r =>
      have hx : ds[0]? = some x := by
        have := congrArg (·[0]?) hds
        simpa [List.getElem?_take,show 0 < nd by omega] using this
      rw [hds] at hball
      simp only [List.all_cons,Bool.and_eq_true] at hball
      rw [List.length_cons,Nat.add_sub_cancel]
      exact first_ge hball.1 (fun e => hd.top (by rw [hx,e]))
  have hcar := newD_carry ck hball hb1 (by omega)
  have hr : h.read a 804 0 (ds.take nd).length = some (u8s (ds.take nd)) := by
    rw [AHeap.read_of hg,hbl]
    simp only [Blk.read,hL,List.drop_zero]
    rw [if_pos (by omega)]
    unfold decL
    rw [List.take_append_of_le_length (by rw [u8s_len,hd.len]; omega),u8s_take]
  have hp := fun n => plt_ret (cp := 1601) (b := ds.take nd) (s := cutT k) (by omega) (by omega) hr n
  rw [hbl] at hp hcar
  have e1 := cut_n hk
  have e2 := cut_t hk
  have e3 := cut_len
  have hone2 := ck.one
  have rest := fun (dl : Nat) (hdl : dl ≤ 19) hC σ s0 s1 s4 => ls_rest (a := a) (σ := σ) hk hdl (tr := tr) hd hC hp0 hp1 hg n s0 s1 s4
  rw [B121_eq]
  simp -dsimp (discharger := omega) [fstC,sndC,B121,dPt,AHeap.read_of hg,hL,h800,AHeap.read_of hg15,hg15,AHeap.read_of hgc,e1,e2,e3]
  with_reducible refine ret_ret (hp n) ?_
  unfold newD at hcar
  cases hpl : plt (ds.take nd) (cutT k) with
  | true =>
    rw [hpl,if_pos rfl] at hcar
    have e5 : (cutN k : Int) - 1 = ((cutN k - 1 : Nat) : Int) := by omega
    simp -dsimp (discharger := omega) [e5]
    exact rest (cutN k - 1) (by omega) hcar _ rfl rfl rfl
  | false =>
    rw [hpl,if_neg (by decide)] at hcar
    simp -dsimp (discharger := omega) []
    exact rest (cutN k) (by omega) hcar _ rfl rfl rfl
end
end Go.Proofs.YtkdpjaaohddppaaGreatDoor.Am
namespace Go.Proofs.YtkdpjaaohddppaaGreatDoor.Am
noncomputable section
/- CONTRACT: Shift. -/
def ShInv (a k : Nat) (b0 : Blk) (dp0 : Int) (neg : Bool) (h0 : AHeap) (n0 m : Nat) (σ : Fr) (h : AHeap) (n : Nat) : Prop :=
  n = n0 ∧ ∃ (ds : List UInt8) (nd : Nat) (dp : Int) (tr : Bool) (j : Nat),DOk ds nd ∧ 1 ≤ m ∧ m + 60 * j = k ∧ dp0 - 900 * j ≤ dp ∧ dp ≤ dp0 ∧ (j = 0 → Blk.cells (some 114) (decL ds (nd : Int) dp neg tr) 804 = b0) ∧ h = h0.put a (.cells (some 114) (decL ds (nd : Int) dp neg tr) 804) ∧ σ = [(0,dPt a),(1, .int .i64 (-(m : Int)))]
def ShPost (a k : Nat) (b0 : Blk) (dp0 : Int) (neg : Bool) (h0 : AHeap) (n0 : Nat) (e : Ex) (σ' : Fr) (h' : AHeap) (n' : Nat) : Prop :=
  e = .exit 3 ∧ n' = n0 ∧ ∃ (ds : List UInt8) (nd : Nat) (dp : Int) (tr : Bool) (j m : Nat),DOk ds nd ∧ 1 ≤ m ∧ m ≤ 60 ∧ m + 60 * j = k ∧ dp0 - 900 * j ≤ dp ∧ dp ≤ dp0 ∧ (j = 0 → Blk.cells (some 114) (decL ds (nd : Int) dp neg tr) 804 = b0) ∧ h' = h0.put a (.cells (some 114) (decL ds (nd : Int) dp neg tr) 804) ∧ σ'.get 0 = some (dPt a) ∧ σ'.get 1 = some (.int .i64 (-(m : Int)))
theorem RsP.bounds {ds : List UInt8} {k : Nat} {dp : Int} {neg : Bool} {b : Blk} (x : RsP ds k dp neg b) : ∃ (ds' : List UInt8) (nd' : Nat) (dp' : Int) (tr' : Bool),DOk ds' nd' ∧ b = .cells (some 114) (decL ds' (nd' : Int) dp' neg tr') 804 ∧ dp - 900 ≤ dp' ∧ dp' ≤ dp := by
  obtain ⟨ds',nd',dp',tr',h1,h2,h3,h4⟩ := x
  exact ⟨ds',nd',dp',tr',h1,h2,h3,by rcases h4 with h | ⟨h,_⟩ <;> omega⟩
theorem sh_loop {a k : Nat} (hk : k ≤ 1000000) {b0 : Blk} {dp0 : Int} (hp0 : -100000000 ≤ dp0) (hp1 : dp0 ≤ 100000000) {neg : Bool} {h0 : AHeap} {n0 : Nat} :
    ∀ (m : Nat) (σ : Fr) (h : AHeap) (n : Nat),ShInv a k b0 dp0 neg h0 n0 m σ h n → HasCode EV61 (.loop F83L1) σ h n (ShPost a k b0 dp0 neg h0 n0) := by
  refine wx_inv _ fun m σ h n hI => ?_
  obtain ⟨rfl,ds,nd,dp,tr,j,hd,hm1,hj,hd0,hd1,hb,rfl,rfl⟩ := hI
  by_cases h60 : 60 < m
  · obtain ⟨b,hb',ht⟩ := rshift_ret (a := a) (k := 60) (by omega) hd (by omega) (by omega) (h := h0.put a (.cells (some 114) (decL ds (nd : Int) dp neg tr) 804)) (neg := neg) (tr := tr) (dp := dp) (by simp) n
    obtain ⟨ds',nd',dp',tr',hd',rfl,hp0',hp1'⟩ := hb'.bounds
    have e5 : -(m : Int) + 60 = -((m - 60 : Nat) : Int) := by omega
    have fin : ∀ {tk : Tok (ShInv a k b0 dp0 neg h0 n)} {σ : Fr},FSubL [(0,dPt a),(1, .int .i64 (-((m - 60 : Nat) : Int)))] σ → Again (ShInv a k b0 dp0 neg h0 n) m σ ((h0.put a (.cells (some 114) (decL ds (nd : Int) dp neg tr) 804)).put a (.cells (some 114) (decL ds' (nd' : Int) dp' neg tr') 804)) n tk := fun hσ =>
      .mk' (m - 60) (by omega) _ _ hσ (HSub.over rfl) ⟨rfl,ds',nd',dp',tr',j + 1,hd',by omega,by omega,by omega,by omega,fun h => by omega,rfl,rfl⟩
    simp only [dPt] at ht
    simp -dsimp (discharger := omega) [F83L1,dPt]
    refine call_ret ht ?_
    simp -dsimp (discharger := omega) [e5]
    exact fin (by simp [dPt])
  · have fin : ∀ {σ : Fr},FSubL [(0,dPt a),(1, .int .i64 (-(m : Int)))] σ → ShPost a k b0 dp0 neg h0 n (.exit 3) σ (h0.put a (.cells (some 114) (decL ds (nd : Int) dp neg tr) 804)) n := fun hσ =>
      ⟨rfl,rfl,ds,nd,dp,tr,j,m,hd,hm1,by omega,hj,hd0,hd1,hb,rfl,hσ.1,hσ.2.1⟩
    simp -dsimp (discharger := omega) [F83L1,dPt]
    exact fin (by simp [dPt])
def ShP (ds : List UInt8) (k : Nat) (dp : Int) (neg : Bool) (b : Blk) : Prop := (k ≤ 60 → RsP ds k dp neg b) ∧ ∃ (ds' : List UInt8) (nd' : Nat) (dp' : Int) (tr' : Bool),DOk ds' nd' ∧ b = .cells (some 114) (decL ds' (nd' : Int) dp' neg tr') 804 ∧ dp - 900 * ((k : Int) / 60 + 1) ≤ dp' ∧ dp' ≤ dp
theorem shiftn_ret {a k : Nat} (hk1 : 1 ≤ k) (hk : k ≤ 1000000) {ds : List UInt8} {nd : Nat} {dp : Int} {neg tr : Bool} (hd : DOk ds nd)
    (hp0 : -100000000 ≤ dp) (hp1 : dp ≤ 100000000) {h : AHeap} (hg : h.get a = some (.cells (some 114) (decL ds (nd : Int) dp neg tr) 804)) (n : Nat) : DRet 83 [.int .i64 (-(k : Int))] a h n (ShP ds k dp neg) := by
  refine dret_of (af := F83) (by simp [hg]) rfl (by simp [F83]) ?_
  show wx EV61 B83 [(0,dPt a),(1, .int .i64 (-(k : Int)))] h n (Done [] _) ()
  have hL := decL_len hd.len (nd : Int) dp neg tr
  have h800 := decL_800 hd.len (nd := (nd : Int)) (dp := dp) (neg := neg) (tr := tr)
  have hone := hd.one
  have hnz : ¬ ((nd : Int) = 0) := by omega
  have hnk : ¬ (0 < -(k : Int)) := by omega
  have hnk2 : (-(k : Int)) < 0 := by omega
  have hcells : h.get a = (h.put a (.cells (some 114) (decL ds (nd : Int) dp neg tr) 804)).get a := by rw [hg]; simp
  simp -dsimp (discharger := omega) [B83,dPt,AHeap.read_of hg,hL,h800]
  refine loop_use (sh_loop hk (b0 := .cells (some 114) (decL ds (nd : Int) dp neg tr) 804) hp0 hp1 (neg := neg) (h0 := h) (n0 := n) k [(0,dPt a),(1, .int .i64 (-(k : Int)))] (h.put a (.cells (some 114) (decL ds (nd : Int) dp neg tr) 804)) n ⟨rfl,ds,nd,dp,tr,0,hd,hk1,by omega,by omega,by omega,fun _ => rfl,rfl,rfl⟩) (by simp [dPt]) (HSub.ofE (.left (.inr hg) (.refl _ _))) ?_
  rintro e σ' h' n' ⟨rfl,rfl,ds2,nd2,dp2,tr2,j,m,hd2,hm1,hm60,hj,hb0,hb1,hbe,rfl,s0,s1⟩
  obtain ⟨b,hb',ht⟩ := rshift_ret (a := a) (k := m) (by omega) hd2 (by omega) (by omega) (h := h.put a (.cells (some 114) (decL ds2 (nd2 : Int) dp2 neg tr2) 804)) (neg := neg) (tr := tr2) (dp := dp2) (by simp) n'
  have hsh : ShP ds k dp neg b := by
    obtain ⟨ds',nd',dp',tr',hd',hbb,hp0',hp1'⟩ := hb'.bounds
    refine ⟨fun hk60 => ?_,ds',nd',dp',tr',hd',hbb,by omega,by omega⟩
    have hj0 : j = 0 := by omega
    have hmk : m = k := by omega
    have := hbe hj0
    simp only [Blk.cells.injEq,true_and,and_true] at this
    subst hmk
    -- the block is the same
    have hds : ds2 = ds ∧ nd2 = nd ∧ dp2 = dp := by
      have h1 := decL_800 hd2.len (nd := (nd2 : Int)) (dp := dp2) (neg := neg) (tr := tr2)
      have h2 := decL_801 hd2.len (nd := (nd2 : Int)) (dp := dp2) (neg := neg) (tr := tr2)
      have h3 := decL_801 hd.len (nd := (nd : Int)) (dp := dp) (neg := neg) (tr := tr)
      rw [this] at h1 h2
      rw [h800] at h1
      rw [h3] at h2
      simp at h1 h2
      refine ⟨?_,by omega,h2.symm⟩
      have := congrArg (List.take 800) this
      unfold decL at this
      rw [List.take_append_of_le_length (by rw [u8s_len,hd2.len]; omega),List.take_append_of_le_length (by rw [u8s_len,hd.len]; omega),List.take_of_length_le (by rw [u8s_len,hd2.len]; omega),List.take_of_length_le (by rw [u8s_len,hd.len]; omega)] at this
      exact u8s_inj this
    obtain ⟨rfl,rfl,rfl⟩ := hds
    exact hb'
  have fin : DFin a h n' (ShP ds k dp neg) (.tuple #[]) ((h.put a (.cells (some 114) (decL ds2 (nd2 : Int) dp2 neg tr2) 804)).put a b) n' :=
    ⟨rfl,rfl,b,hsh, .ofE (.left (.inr (by simp)) (.right (.inl (by simp)) (.right (.inl (by simp)) (.refl _ _))))⟩
  simp only [dPt] at ht
  have e5 : -(-(m : Int)) = (m : Int) := by omega
  have e6 : 0 - (-(m : Int)) = (m : Int) := by omega
  simp -dsimp (discharger := omega) [s0,s1,dPt]
  refine call_ret ht ?_
  simp -dsimp (discharger := omega) []
  exact fin
def SpPost (a k : Nat) (h0 : AHeap) (n0 : Nat) (e : Ex) (σ' : Fr) (h' : AHeap) (n' : Nat) : Prop :=
  e = .exit 1 ∧ n' = n0 ∧ h' = h0 ∧ σ'.get 0 = some (dPt a) ∧ σ'.get 1 = some (.int .i64 (k : Int))
theorem sp_loop {a k : Nat} (hk : k ≤ 60) {h0 : AHeap} {n0 : Nat} :
    ∀ (_m : Nat) (σ : Fr) (h : AHeap) (n : Nat),(n = n0 ∧ h = h0 ∧ σ = [(0,dPt a),(1, .int .i64 (k : Int))]) → HasCode EV61 (.loop F83L0) σ h n (SpPost a k h0 n0) := by
  refine wx_inv (fun _ σ h n => n = n0 ∧ h = h0 ∧ σ = [(0,dPt a),(1, .int .i64 (k : Int))]) fun m σ h n hI => ?_
  obtain ⟨rfl,rfl,rfl⟩ := hI
  have fin : ∀ {σ : Fr},FSubL [(0,dPt a),(1, .int .i64 (k : Int))] σ → SpPost a k h n (.exit 1) σ h n := fun hσ => ⟨rfl,rfl,rfl,hσ.1,hσ.2.1⟩
  simp -dsimp (discharger := omega) [F83L0,dPt]
  exact fin (by simp [dPt])
theorem shiftp_ret {a k : Nat} (hk1 : 1 ≤ k) (hk : k ≤ 60) {ds : List UInt8} {nd : Nat} {dp : Int} {neg tr : Bool} (hd : DOk ds nd)
    (hp0 : -100000000 ≤ dp) (hp1 : dp ≤ 100000000) {h : AHeap} (hg : h.get a = some (.cells (some 114) (decL ds (nd : Int) dp neg tr) 804)) (hc : Cuts h) (n : Nat) : DRet 83 [.int .i64 (k : Int)] a h n (LsP ds k dp neg) := by
  refine dret_of (af := F83) (by simp [hg]) rfl (by simp [F83]) ?_
  show wx EV61 B83 [(0,dPt a),(1, .int .i64 (k : Int))] h n (Done [] _) ()
  have hL := decL_len hd.len (nd : Int) dp neg tr
  have h800 := decL_800 hd.len (nd := (nd : Int)) (dp := dp) (neg := neg) (tr := tr)
  have hone := hd.one
  have hnz : ¬ ((nd : Int) = 0) := by omega
  have hnk : (0 < (k : Int)) := by omega
  simp -dsimp (discharger := omega) [B83,dPt,AHeap.read_of hg,hL,h800]
  refine loop_use (sp_loop (a := a) hk (h0 := h) (n0 := n) 0 [(0,dPt a),(1, .int .i64 (k : Int))] h n ⟨rfl,rfl,rfl⟩) (by simp [dPt]) (.refl _) ?_
  rintro e σ' h' n' ⟨rfl,rfl,rfl,s0,s1⟩
  obtain ⟨b,hb',ht⟩ := lshift_ret (a := a) (k := k) hk1 hk hd (by omega) (by omega) hg hc n'
  have fin : DFin a h' n' (LsP ds k dp neg) (.tuple #[]) (h'.put a b) n' := ⟨rfl,rfl,b,hb', .refl _⟩
  simp only [dPt] at ht
  simp -dsimp (discharger := omega) [s0,s1,dPt]
  refine call_ret ht ?_
  simp -dsimp (discharger := omega) []
  exact fin
/- CONTRACTS: shouldRoundUp,RoundedInteger: whatever they come to. -/
theorem round_up_ret {a : Nat} {ds : List UInt8} {nd : Nat} (hl : ds.length = 800) (hnd : nd ≤ 800) {dp : Int} {neg tr : Bool} {z : Int} (hz0 : -1000000000 ≤ z) (hz1 : z ≤ 1000000000) {h : AHeap} (hg : h.get a = some (.cells (some 114) (decL ds (nd : Int) dp neg tr) 804)) (n : Nat) : ∃ v,(∃ b,v = .bool b) ∧ Ret EV61 123 [dPt a, .int .i64 z] h n v [] n := by
  refine rex123 ?_
  have hL := decL_len hl (nd : Int) dp neg tr
  have h800 := decL_800 hl (nd := (nd : Int)) (dp := dp) (neg := neg) (tr := tr)
  have h803 := decL_803 hl (nd := (nd : Int)) (dp := dp) (neg := neg) (tr := tr)
  by_cases hneg : z < 0
  · simp -dsimp (discharger := omega) [B123,hneg,HSub.refl]
  · by_cases hge : (nd : Int) ≤ z
    · simp -dsimp (discharger := omega) [B123,hneg,hge,dPt,AHeap.read_of hg,hL,h800,HSub.refl]
    · obtain ⟨i,rfl⟩ : ∃ i : Nat,z = (i : Int) := ⟨z.toNat,by omega⟩
      obtain ⟨c,hc⟩ : ∃ c,ds[i]? = some c := ⟨_,List.getElem?_eq_getElem (by omega)⟩
      have hcat := decL_at hc (nd := (nd : Int)) (dp := dp) (neg := neg) (tr := tr)
      by_cases h53 : (c.toNat : Int) = 53
      · by_cases hlast : (i : Int) + 1 = (nd : Int)
        · cases tr with
          | true => simp -dsimp (discharger := omega) [B123,hneg,hge,dPt,AHeap.read_of hg,hL,h800,h803,hcat,h53,hlast,HSub.refl]
          | false =>
            by_cases hi0 : 0 < i
            · obtain ⟨c2,hc2⟩ : ∃ c,ds[i - 1]? = some c := ⟨_,List.getElem?_eq_getElem (by omega)⟩
              have hcat2 := decL_at hc2 (nd := (nd : Int)) (dp := dp) (neg := neg) (tr := false)
              have e5 : (i : Int) - 1 = ((i - 1 : Nat) : Int) := by omega
              have hi1 : (0 : Int) < (i : Int) := by omega
              simp -dsimp (discharger := omega) [B123,hneg,hge,dPt,AHeap.read_of hg,hL,h800,h803,hcat,h53,hlast,e5,hcat2,HSub.refl]
              exact Decidable.em _
            · have hi1 : ¬ (0 : Int) < (i : Int) := by omega
              simp -dsimp (discharger := omega) [B123,hneg,hge,dPt,AHeap.read_of hg,hL,h800,h803,hcat,h53,hlast,HSub.refl]
        · simp -dsimp (discharger := omega) [B123,hneg,hge,dPt,AHeap.read_of hg,hL,h800,hcat,h53,HSub.refl]
      · simp -dsimp (discharger := omega) [B123,hneg,hge,dPt,AHeap.read_of hg,hL,h800,hcat,HSub.refl]
        omega
/- RoundedInteger. -/
def RiInv (a nd : Nat) (_dp : Int) (h0 : AHeap) (n0 m : Nat) (σ : Fr) (h : AHeap) (n : Nat) : Prop :=
  n = n0 ∧ h = h0 ∧ ∃ i x : Nat,x < 18446744073709551616 ∧ i ≤ nd ∧ m = nd - i ∧ σ = [(0,dPt a),(3, .int .i64 (i : Int)),(4, .int .u64 (x : Int))]
def RiPost (a nd : Nat) (h0 : AHeap) (n0 : Nat) (e : Ex) (σ' : Fr) (h' : AHeap) (n' : Nat) : Prop :=
  e = .exit 0 ∧ n' = n0 ∧ h' = h0 ∧ ∃ i x : Nat,x < 18446744073709551616 ∧ i ≤ nd ∧ σ'.get 0 = some (dPt a) ∧ σ'.get 3 = some (.int .i64 (i : Int)) ∧ σ'.get 4 = some (.int .u64 (x : Int))
theorem ri_loop {a nd : Nat} {ds : List UInt8} (hl : ds.length = 800) (hnd : nd ≤ 800) {dp : Int} {neg tr : Bool} {h0 : AHeap} (hg : h0.get a = some (.cells (some 114) (decL ds (nd : Int) dp neg tr) 804)) {n0 : Nat} :
    ∀ (m : Nat) (σ : Fr) (h : AHeap) (n : Nat),RiInv a nd dp h0 n0 m σ h n → HasCode EV61 (.loop F133L0) σ h n (RiPost a nd h0 n0) := by
  refine wx_inv _ fun m σ h n hI => ?_
  obtain ⟨rfl,rfl,i,x,hx,hi,hm,rfl⟩ := hI
  have hL := decL_len hl (nd : Int) dp neg tr
  have h800 := decL_800 hl (nd := (nd : Int)) (dp := dp) (neg := neg) (tr := tr)
  have h801 := decL_801 hl (nd := (nd : Int)) (dp := dp) (neg := neg) (tr := tr)
  have stop : ∀ {σ : Fr},FSubL [(0,dPt a),(3, .int .i64 (i : Int)),(4, .int .u64 (x : Int))] σ → RiPost a nd h n (.exit 0) σ h n := fun hσ => ⟨rfl,rfl,rfl,i,x,hx,hi,hσ.1,hσ.2.1,hσ.2.2.1⟩
  by_cases hdp : (i : Int) < dp
  · by_cases hin : i < nd
    · obtain ⟨c,hc⟩ : ∃ c,ds[i]? = some c := ⟨_,List.getElem?_eq_getElem (by omega)⟩
      have hcat := decL_at hc (nd := (nd : Int)) (dp := dp) (neg := neg) (tr := tr)
      have e5 : (i : Int) + 1 = ((i + 1 : Nat) : Int) := by omega
      obtain ⟨y,hy,e6⟩ := wrap_any (IntKind.u64.wrap ((x : Int) * 10) + IntKind.u64.wrap (IntKind.u8.wrap ((c.toNat : Int) - 48)))
      have fin : ∀ {tk : Tok (RiInv a nd dp h n)} {σ : Fr},FSubL [(0,dPt a),(3, .int .i64 ((i + 1 : Nat) : Int)),(4, .int .u64 (y : Int))] σ → Again (RiInv a nd dp h n) m σ h n tk := fun hσ =>
        .mk' (nd - (i + 1)) (by omega) _ _ hσ (.refl _) ⟨rfl,rfl,i + 1,y,hy,by omega,rfl,rfl⟩
      simp -dsimp (discharger := omega) [F133L0,dPt,AHeap.read_of hg,hL,h800,h801,hdp,hcat, -Int.natCast_add,e5, -wrap_u64, -wrap_u8,e6]
      exact fin (by simp [dPt])
    · simp -dsimp (discharger := omega) [F133L0,dPt,AHeap.read_of hg,hL,h800,h801,hdp]
      exact stop (by simp [dPt])
  · simp -dsimp (discharger := omega) [F133L0,dPt,AHeap.read_of hg,hL,h801,hdp]
    exact stop (by simp [dPt])
def RjInv (a : Nat) (dp : Int) (h0 : AHeap) (n0 m : Nat) (σ : Fr) (h : AHeap) (n : Nat) : Prop :=
  n = n0 ∧ h = h0 ∧ ∃ i x : Nat,x < 18446744073709551616 ∧ i ≤ 800 ∧ m = dp.toNat - i ∧ σ = [(0,dPt a),(3, .int .i64 (i : Int)),(4, .int .u64 (x : Int))]
def RjPost (a : Nat) (h0 : AHeap) (n0 : Nat) (e : Ex) (σ' : Fr) (h' : AHeap) (n' : Nat) : Prop :=
  e = .exit 2 ∧ n' = n0 ∧ h' = h0 ∧ ∃ x : Nat,x < 18446744073709551616 ∧ σ'.get 0 = some (dPt a) ∧ σ'.get 4 = some (.int .u64 (x : Int))
theorem rj_loop {a nd : Nat} {ds : List UInt8} (hl : ds.length = 800) {dp : Int} (hdp20 : dp ≤ 20) {neg tr : Bool} {h0 : AHeap} (hg : h0.get a = some (.cells (some 114) (decL ds (nd : Int) dp neg tr) 804)) {n0 : Nat} :
    ∀ (m : Nat) (σ : Fr) (h : AHeap) (n : Nat),RjInv a dp h0 n0 m σ h n → HasCode EV61 (.loop F133L1) σ h n (RjPost a h0 n0) := by
  refine wx_inv _ fun m σ h n hI => ?_
  obtain ⟨rfl,rfl,i,x,hx,hi,hm,rfl⟩ := hI
  have hL := decL_len hl (nd : Int) dp neg tr
  have h801 := decL_801 hl (nd := (nd : Int)) (dp := dp) (neg := neg) (tr := tr)
  by_cases hdp : (i : Int) < dp
  · have e5 : (i : Int) + 1 = ((i + 1 : Nat) : Int) := by omega
    obtain ⟨y,hy,e6⟩ := wrap_any ((x : Int) * 10)
    have fin : ∀ {tk : Tok (RjInv a dp h n)} {σ : Fr},FSubL [(0,dPt a),(3, .int .i64 ((i + 1 : Nat) : Int)),(4, .int .u64 (y : Int))] σ → Again (RjInv a dp h n) m σ h n tk := fun hσ =>
      .mk' (dp.toNat - (i + 1)) (by omega) _ _ hσ (.refl _) ⟨rfl,rfl,i + 1,y,hy,by omega,rfl,rfl⟩
    simp -dsimp (discharger := omega) [F133L1,dPt,AHeap.read_of hg,hL,h801,hdp, -Int.natCast_add,e5, -wrap_u64,e6]
    exact fin (by simp [dPt])
  · have stop : ∀ {σ : Fr},FSubL [(0,dPt a),(4, .int .u64 (x : Int))] σ → RjPost a h n (.exit 2) σ h n := fun hσ => ⟨rfl,rfl,rfl,x,hx,hσ.1,hσ.2.1⟩
    simp -dsimp (discharger := omega) [F133L1,dPt,AHeap.read_of hg,hL,h801,hdp]
    exact stop (by simp [dPt])
def UAny (v : Value) : Prop := ∃ x : Nat,x < 18446744073709551616 ∧ v = .int .u64 (x : Int)
theorem rint_ret {a nd : Nat} {ds : List UInt8} (hl : ds.length = 800) (hnd : nd ≤ 800) {dp : Int} (hp0 : -1000000000 ≤ dp) (hp1 : dp ≤ 1000000000) {neg tr : Bool} {h : AHeap} (hg : h.get a = some (.cells (some 114) (decL ds (nd : Int) dp neg tr) 804)) (n : Nat) : ∃ v,UAny v ∧ Ret EV61 133 [dPt a] h n v [] n := by
  refine rex133 ?_
  have hL := decL_len hl (nd : Int) dp neg tr
  have h801 := decL_801 hl (nd := (nd : Int)) (dp := dp) (neg := neg) (tr := tr)
  have fin : ∀ {x : Nat},x < 18446744073709551616 → UAny (.int .u64 (x : Int)) := fun hx => ⟨_,hx,rfl⟩
  by_cases h20 : 20 < dp
  · have f1 := fin (x := 18446744073709551615) (by omega)
    simp -dsimp (discharger := omega) [B133,dPt,AHeap.read_of hg,hL,h801,h20,HSub.refl]
    exact f1
  · simp -dsimp (discharger := omega) [B133,dPt,AHeap.read_of hg,hL,h801,h20]
    refine loop_use (ri_loop (dp := dp) hl hnd hg nd [(0,dPt a),(3, .int .i64 ((0 : Nat) : Int)),(4, .int .u64 ((0 : Nat) : Int))] h n ⟨rfl,rfl,0,0,by omega,by omega,by omega,rfl⟩) (by simp [dPt]) (.refl _) ?_
    rintro e σ' h' n' ⟨rfl,rfl,rfl,i,x,hx,hi,s0,s3,s4⟩
    simp -dsimp (discharger := omega) []
    refine loop_use (rj_loop (a := a) hl (by omega) hg (dp.toNat - i) [(0,dPt a),(3, .int .i64 (i : Int)),(4, .int .u64 (x : Int))] h' n' ⟨rfl,rfl,i,x,hx,by omega,rfl,rfl⟩) (by simp [s0,s3,s4]) (.refl _) ?_
    rintro e σ2 h2 n2 ⟨rfl,rfl,rfl,y,hy,t0,t4⟩
    obtain ⟨v,⟨b,rfl⟩,hr⟩ := round_up_ret (a := a) (z := dp) hl hnd hp0 hp1 hg n2
    simp only [dPt] at hr
    simp -dsimp (discharger := omega) [t0,dPt,AHeap.read_of hg,hL,h801]
    refine call_ret hr ?_
    obtain ⟨z,hz,e6⟩ := wrap_any ((y : Int) + 1)
    cases b with
    | true =>
      simp -dsimp (discharger := omega) [t4, -wrap_u64,e6,HSub.refl]
      exact fin hz
    | false =>
      simp -dsimp (discharger := omega) [t4,HSub.refl]
      exact fin hy
end
end Go.Proofs.YtkdpjaaohddppaaGreatDoor.Am
