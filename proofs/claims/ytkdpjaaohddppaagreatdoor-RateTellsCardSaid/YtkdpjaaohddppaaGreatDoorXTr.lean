/- Contracts of the program's functions (XTr). -/
import Derived.Test.YtkdpjaaohddppaaGreatDoorG
import Derived.Test.YtkdpjaaohddppaaGreatDoorE
import Derived.Test.YtkdpjaaohddppaaGreatDoorL1
import Derived.Test.YtkdpjaaohddppaaGreatDoorL3
import Derived.Test.YtkdpjaaohddppaaGreatDoorL6
namespace Go.Proofs.YtkdpjaaohddppaaGreatDoor.Am
noncomputable section
/- CONTRACTS: sets of ASCII bytes; strings.Trim by digits. -/
def Z256 : List Value := List.replicate 256 (.bool false)
theorem Z256_len : Z256.length = 256 := List.length_replicate
theorem Z256_drop : Z256.drop 256 = [] := List.drop_of_length_le (by rw [Z256_len]; omega)
def tblB (p : Nat → Bool) : List Value := (List.range 256).map fun i => .bool (p i)
theorem tbl_len (p : Nat → Bool) : (tblB p).length = 256 := by simp [tblB]
theorem tbl_at (p : Nat → Bool) {i : Nat} (hi : i < 256) : (tblB p)[i]? = some (.bool (p i)) := by
  simp only [tblB,List.getElem?_map,List.getElem?_range hi,Option.map_some]
theorem tbl_take (p : Nat → Bool) : (tblB p).take 256 = tblB p := List.take_of_length_le (by rw [tbl_len]; omega)
theorem tbl_drop (p : Nat → Bool) : (tblB p).drop 256 = [] := List.drop_of_length_le (by rw [tbl_len]; omega)
theorem tbl_zero : Z256 = tblB (fun _ => false) := by
  refine List.ext_getElem? fun i => ?_
  by_cases hi : i < 256
  · rw [tbl_at _ hi,Z256,List.getElem?_replicate,if_pos hi]
  · rw [List.getElem?_eq_none (by rw [Z256_len]; omega),List.getElem?_eq_none (by rw [tbl_len]; omega)]
theorem tbl_set (p : Nat → Bool) {c : Nat} (hc : c < 256) : List.take c (tblB p) ++ .bool true :: List.drop (c + 1) (tblB p) = tblB (fun i => p i || Nat.beq c i) := by
  have e : List.take c (tblB p) ++ .bool true :: List.drop (c + 1) (tblB p) = (tblB p).set c (.bool true) := by
    rw [List.set_eq_take_append_cons_drop,if_pos (by rw [tbl_len]; omega)]
  rw [e]
  refine List.ext_getElem? fun i => ?_
  by_cases hi : i < 256
  · rw [tbl_at _ hi,List.getElem?_set]
    by_cases h : c = i
    · subst h
      rw [if_pos rfl,if_pos (by rw [tbl_len]; omega),Nat.beq_refl,Bool.or_true]
    · have hb : Nat.beq c i = false := by
        cases hh : Nat.beq c i with
        | true => exact absurd (Nat.eq_of_beq_eq_true hh) h
        | false => rfl
      rw [if_neg h,tbl_at _ hi,hb,Bool.or_false]
  · rw [List.getElem?_eq_none (by rw [List.length_set,tbl_len]; omega),List.getElem?_eq_none (by rw [tbl_len]; omega)]
theorem tbl_read {p : Nat → Bool} {T : Nat} {H : AHeap} {q : Nat} (hg : H.get q = some (.cells (some T) (tblB p) 256)) {i : Nat} (hi : i < 256) : H.read q 256 i 1 = some [.bool (p i)] := by
  have h0 : H.read q 256 0 256 = some (tblB p) := by
    rw [AHeap.read_of hg]; simp [Blk.read,tbl_len,tbl_take]
  have := read_one h0 (tbl_at p hi) hi
  rwa [Nat.zero_add] at this
theorem has_ret {p : Nat → Bool} {T : Nat} {H : AHeap} {q : Nat} (hg : H.get q = some (.cells (some T) (tblB p) 256)) (c : UInt8) (n : Nat) : Ret EV61 62 [.pointer (some ⟨q,0,some 256⟩), .int .u8 (c.toNat : Int)] H n (.bool (p c.toNat)) [] n := by
  refine rsx62 (by simp) (by simp) ?_
  have h1 := c.toNat_lt
  have := tbl_read hg (i := c.toNat) h1
  simp -dsimp (discharger := omega) [B62,this,HSub.refl]
def inS (cs : List UInt8) (i : Nat) : Bool := cs.any fun c => Nat.beq c.toNat i
theorem inS_snoc (cs : List UInt8) (c : UInt8) : inS (cs ++ [c]) = fun i => inS cs i || Nat.beq c.toNat i := by
  funext i; simp [inS]
def B45g (Z : List Value) : ACode := (.seq (.region [⟨(some 2),(.alloc 67 Z),none,[]⟩,
    ⟨(some 3),(.mov (.c (.bool false))),none,[]⟩] none)
  (.seq (.seq (.region [⟨(some 4),(.mov (.c (.int .i64 0))),none,[]⟩] none)
  (.block 0 (.loop F45L0)))
  (.seq (.region [⟨(some 20),(.load (some 256) (.t 2)),none,[]⟩,
    ⟨none,(.store 256 (.t 2) (.t 20)),none,[]⟩,
    ⟨(some 3),(.mov (.c (.bool true))),none,[]⟩] none)
  .ret)))
set_option maxRecDepth 100000 in
theorem B45_eq : B45 = B45g Z256 := by rfl
def AsInv (cs : List UInt8) (h0 : AHeap) (n0 r : Nat) (σ : Fr) (h : AHeap) (n : Nat) : Prop :=
  n = n0 + 1 ∧ ∃ k : Nat,k + r = cs.length ∧ HSub h0 h ∧ h.get n0 = some (.cells (some 67) (tblB (inS (cs.take k))) 256) ∧ σ = [(0, .string ⟨cs.toArray⟩),(2, .pointer (some ⟨n0,0,some 256⟩)),(4, .int .i64 (k : Int))]
def AsPost (cs : List UInt8) (h0 : AHeap) (n0 : Nat) (e : Ex) (σ' : Fr) (h' : AHeap) (n' : Nat) : Prop :=
  n' = n0 + 1 ∧ e = .exit 0 ∧ HSub h0 h' ∧ h'.get n0 = some (.cells (some 67) (tblB (inS cs)) 256) ∧ σ'.get 2 = some (.pointer (some ⟨n0,0,some 256⟩))
theorem as_loop {cs : List UInt8} (hl : cs.length < 1000) (hc : ∀ c ∈ cs,c.toNat < 128) {h0 : AHeap} {n0 : Nat} (hw : WF h0 n0) :
    ∀ (m : Nat) (σ : Fr) (h : AHeap) (n : Nat),AsInv cs h0 n0 m σ h n → HasCode EV61 (.loop F45L0) σ h n (AsPost cs h0 n0) := by
  refine wx_inv _ fun m σ h n hI => ?_
  obtain ⟨rfl,k,hk,hs,hg,rfl⟩ := hI
  cases m with
  | zero =>
    have e : cs.take k = cs := List.take_of_length_le (by omega)
    rw [e] at hg
    simp -dsimp (discharger := omega) [F45L0]
    exact ⟨rfl,rfl,hs,hg,rfl⟩
  | succ m =>
    have hlt : k < cs.length := by omega
    obtain ⟨c,hck⟩ : ∃ c,cs[k]? = some c := ⟨_,List.getElem?_eq_getElem hlt⟩
    have hcm : c ∈ cs := by obtain ⟨h1,rfl⟩ := List.getElem?_eq_some_iff.1 hck; exact List.getElem_mem h1
    have hcc : cs[k]'hlt = c := (List.getElem?_eq_some_iff.1 hck).2
    have hc128 := hc c hcm
    have hset := tbl_set (inS (cs.take k)) (c := c.toNat) (by omega)
    have htl := tbl_len (inS (cs.take k))
    have hsn : inS (cs.take (k + 1)) = fun i => inS (cs.take k) i || Nat.beq c.toNat i := by rw [take_snoc hck,inS_snoc]
    rw [← hsn] at hset
    simp -dsimp (discharger := omega) [F45L0,hcc,hg,htl,hset]
    exact .mk' m (by omega) [(0, .string ⟨cs.toArray⟩),(2, .pointer (some ⟨n0,0,some 256⟩)),(4, .int .i64 ((k + 1 : Nat) : Int))] (h.put n0 (.cells (some 67) (tblB (inS (cs.take (k + 1)))) 256)) (by simp) (.refl _) ⟨rfl,k + 1,by omega,hs.new hw (Nat.le_refl _) _,by simp,rfl⟩
theorem makeAS_ret {cs : List UInt8} (hl : cs.length < 1000) (hc : ∀ c ∈ cs,c.toNat < 128) {h : AHeap} {n : Nat} (hw : WF h n) : Ret EV61 45 [.string ⟨cs.toArray⟩] h n (.tuple #[.agg (tblB (inS cs)).toArray, .bool true]) [] (n + 1) := by
  refine rsx45 (by simp) (by simp) ?_
  have z0 : tblB (inS (cs.take 0)) = Z256 := by rw [tbl_zero]; rfl
  simp -dsimp (discharger := omega) [B45_eq,B45g,Z256_len]
  refine loop_use (as_loop hl hc hw cs.length [(0, .string ⟨cs.toArray⟩),(2, .pointer (some ⟨n,0,some 256⟩)),(4, .int .i64 ((0 : Nat) : Int))] (h.put n (.cells (some 67) Z256 256)) (n + 1) ⟨rfl,0,by omega, .new (.refl _) hw (Nat.le_refl _) _,by rw [z0]; simp,rfl⟩) (by simp) (.refl _) ?_
  rintro e σ' h' n' ⟨rfl,rfl,hs,hg,g2⟩
  have htl := tbl_len (inS cs)
  have htt := tbl_take (inS cs)
  have htd := tbl_drop (inS cs)
  simp -dsimp (discharger := omega) [g2,hg,AHeap.read_of hg,htl,htt,htd]
  exact hs.new hw (Nat.le_refl _) _
def digS : List UInt8 := [48,49,50,51,52,53,54,55,56,57]
theorem dig_tab : ∀ b : Fin 256,inS digS b.1 = (decide (48 ≤ b.1) && decide (b.1 ≤ 57)) := by decide +kernel
theorem inS_dig (c : UInt8) : inS digS c.toNat = isD c := dig_tab ⟨c.toNat,c.toNat_lt⟩
theorem dig_ret {H : AHeap} {q : Nat} (hg : H.get q = some (.cells (some 67) (tblB (inS digS)) 256)) (c : UInt8) (n : Nat) : Ret EV61 62 [.pointer (some ⟨q,0,some 256⟩), .int .u8 (c.toNat : Int)] H n (.bool (isD c)) [] n := by
  have := has_ret hg c n
  rwa [inS_dig] at this
def TrRInv (s : List UInt8) (q : Nat) (h0 : AHeap) (n0 r : Nat) (σ : Fr) (h : AHeap) (n : Nat) : Prop :=
  n = n0 ∧ h = h0 ∧ r ≤ s.length ∧ (s.drop r).all isD = true ∧ σ = [(0, .string ⟨(s.take r).toArray⟩),(1, .pointer (some ⟨q,0,some 256⟩))]
def TrRPost (s : List UInt8) (_ : Nat) (h0 : AHeap) (n0 : Nat) (e : Ex) (σ' : Fr) (h' : AHeap) (n' : Nat) : Prop :=
  n' = n0 ∧ h' = h0 ∧ e = .exit 0 ∧ ∃ u : List UInt8,u.length ≤ s.length ∧ (u.all isD = s.all isD) ∧ (u.all isD = true → u = []) ∧ σ'.get 0 = some (.string ⟨u.toArray⟩)
theorem all_take_drop (s : List UInt8) (k : Nat) : s.all isD = ((s.take k).all isD && (s.drop k).all isD) := by
  rw [← List.all_append,List.take_append_drop]
theorem trR_loop {s : List UInt8} (hl : s.length < 1000000) {q : Nat} {h0 : AHeap} (hg : h0.get q = some (.cells (some 67) (tblB (inS digS)) 256)) {n0 : Nat} :
    ∀ (m : Nat) (σ : Fr) (h : AHeap) (n : Nat),TrRInv s q h0 n0 m σ h n → HasCode EV61 (.loop F47L0) σ h n (TrRPost s q h0 n0) := by
  refine wx_inv _ fun m σ h n hI => ?_
  obtain ⟨rfl,rfl,hm,hd,rfl⟩ := hI
  have hat := all_take_drop s m
  rw [hd,Bool.and_true] at hat
  cases m with
  | zero =>
    have fin : TrRPost s q h n (.exit 0) [(7, .bool false),(6, .int .i64 0),(5, .string ⟨#[]⟩),(0, .string ⟨#[]⟩),(1, .pointer (some ⟨q,0,some 256⟩))] h n := ⟨rfl,rfl,rfl,[],by simp,by rw [hat]; rfl,fun _ => rfl,rfl⟩
    simp -dsimp (discharger := omega) [F47L0]
    exact fin
  | succ m =>
    have hlt : m < s.length := by omega
    obtain ⟨c,hcm⟩ : ∃ c,s[m]? = some c := ⟨_,List.getElem?_eq_getElem hlt⟩
    have htk := take_snoc hcm
    have hul : (s.take (m + 1)).length = m + 1 := by rw [List.length_take]; omega
    have hui : (s.take (m + 1))[m]? = some c := by rw [List.getElem?_take,if_pos (by omega)]; exact hcm
    have hdr := drop_cons hcm
    have htt : (s.take (m + 1)).take m = s.take m := by rw [List.take_take]; congr 1; omega
    have fin : isD c = false → ∀ {σ : Fr}, σ.get 0 = some (.string ⟨(s.take (m + 1)).toArray⟩) → TrRPost s q h n (.exit 0) σ h n := fun hc σ g => by
      have hf : (s.take (m + 1)).all isD = false := by rw [htk,List.all_append]; simp [hc]
      exact ⟨rfl,rfl,rfl,_,by omega,hat.symm,fun ha => (by rw [hf] at ha; cases ha),g⟩
    have hall : isD c = true → (s.drop m).all isD = true := fun hc => by rw [hdr,List.all_cons,hc,hd]; rfl
    generalize hu : s.take (m + 1) = u at *
    have hlt2 : m < u.length := by omega
    have hcc : u[m]'hlt2 = c := (List.getElem?_eq_some_iff.1 hui).2
    have hdig := dig_ret hg c n
    cases hc : isD c with
    | true =>
      rw [hc] at hdig
      simp -dsimp (discharger := omega) [F47L0,hul,hcc]
      with_reducible refine call_ret hdig ?_
      simp -dsimp (discharger := omega) [hul,htt]
      exact .mk' m (by omega) [(0, .string ⟨(s.take m).toArray⟩),(1, .pointer (some ⟨q,0,some 256⟩))] h (by simp) (.refl _) ⟨rfl,rfl,by omega,hall hc,rfl⟩
    | false =>
      rw [hc] at hdig
      simp -dsimp (discharger := omega) [F47L0,hul,hcc]
      with_reducible refine call_ret hdig ?_
      simp -dsimp (discharger := omega) []
      exact fin hc (by simp)
def TrLInv (s : List UInt8) (q : Nat) (h0 : AHeap) (n0 r : Nat) (σ : Fr) (h : AHeap) (n : Nat) : Prop :=
  n = n0 ∧ h = h0 ∧ ∃ k,k + r = s.length ∧ (s.take k).all isD = true ∧ σ = [(0, .string ⟨(s.drop k).toArray⟩),(1, .pointer (some ⟨q,0,some 256⟩))]
def TrLPost (s : List UInt8) (h0 : AHeap) (n0 : Nat) (e : Ex) (σ' : Fr) (h' : AHeap) (n' : Nat) : Prop :=
  n' = n0 ∧ h' = h0 ∧ e = .exit 0 ∧ ∃ t : List UInt8,(t.isEmpty = s.all isD) ∧ σ'.get 0 = some (.string ⟨t.toArray⟩)
theorem trL_loop {s : List UInt8} (_ : s.length < 1000000) {q : Nat} {h0 : AHeap} (hg : h0.get q = some (.cells (some 67) (tblB (inS digS)) 256)) {n0 : Nat} :
    ∀ (m : Nat) (σ : Fr) (h : AHeap) (n : Nat),TrLInv s q h0 n0 m σ h n → HasCode EV61 (.loop F46L0) σ h n (TrLPost s h0 n0) := by
  refine wx_inv _ fun m σ h n hI => ?_
  obtain ⟨rfl,rfl,k,hk,hd,rfl⟩ := hI
  have hat := all_take_drop s k
  rw [hd,Bool.true_and] at hat
  cases m with
  | zero =>
    have e : s.drop k = [] := List.drop_of_length_le (by omega)
    rw [e] at hat ⊢
    have fin : TrLPost s h n (.exit 0) [(7, .bool false),(6, .int .i64 0),(5, .string ⟨#[]⟩),(0, .string ⟨#[]⟩),(1, .pointer (some ⟨q,0,some 256⟩))] h n := ⟨rfl,rfl,rfl,[],by rw [hat]; rfl,rfl⟩
    simp -dsimp (discharger := omega) [F46L0]
    exact fin
  | succ m =>
    have hlt : k < s.length := by omega
    obtain ⟨c,hck⟩ : ∃ c,s[k]? = some c := ⟨_,List.getElem?_eq_getElem hlt⟩
    have hdr := drop_cons hck
    have hnext : isD c = true → (s.take (k + 1)).all isD = true := fun hc => by rw [take_snoc hck,List.all_append,hd]; simp [hc]
    rw [hdr] at hat ⊢
    have hdl : (s.drop (k + 1)).length = m := by rw [List.length_drop]; omega
    generalize hu : s.drop (k + 1) = u at *
    have hdig := dig_ret hg c n
    cases hc : isD c with
    | true =>
      rw [hc] at hdig
      simp -dsimp (discharger := omega) [F46L0,hdl]
      with_reducible refine call_ret hdig ?_
      simp -dsimp (discharger := omega) []
      exact .mk' m (by omega) [(0, .string ⟨(s.drop (k + 1)).toArray⟩),(1, .pointer (some ⟨q,0,some 256⟩))] h (by simp [hu]) (.refl _) ⟨rfl,rfl,k + 1,by omega,hnext hc,rfl⟩
    | false =>
      rw [hc] at hdig
      have fin : ∀ {σ : Fr}, σ.get 0 = some (.string ⟨(c :: u).toArray⟩) → TrLPost s h n (.exit 0) σ h n := fun g => ⟨rfl,rfl,rfl,c :: u,by rw [hat,List.all_cons,hc]; rfl,g⟩
      simp -dsimp (discharger := omega) [F46L0,hdl]
      with_reducible refine call_ret hdig ?_
      simp -dsimp (discharger := omega) []
      exact fin (by simp)
def B49g (Z : List Value) : ACode := (.seq (.region [⟨(some 4),(.mov (.c (.string ⟨#[]⟩))),none,[]⟩] none)
  (.seq (.seq (.region [⟨(some 7),(.mov (.t 0)),none,[]⟩,
    ⟨(some 8),(.bin .eql (.t 7) (.c (.string ⟨#[]⟩))),none,[]⟩,
    ⟨(some 9),(.mov (.t 8)),none,[]⟩,
    ⟨(some 10),(.mov (.t 1)),(some (9,false)),[]⟩,
    ⟨(some 11),(.bin .eql (.t 10) (.c (.string ⟨#[]⟩))),(some (9,false)),[]⟩,
    ⟨(some 12),(.pick (.t 9) (.c (.bool true)) (.t 11)),none,[]⟩] none)
  (.cond (.t 12)
  (.seq (.region [⟨(some 13),(.mov (.t 0)),none,[]⟩,
    ⟨(some 4),(.mov (.t 13)),none,[]⟩] none)
  .ret)
  .skip))
  (.seq (.seq (.region [⟨(some 14),(.mov (.t 1)),none,[]⟩,
    ⟨(some 15),(.lenStr (.t 14)),none,[]⟩,
    ⟨(some 16),(.bin .eql (.t 15) (.c (.int .i64 1))),none,[]⟩,
    ⟨(some 17),(.mov (.t 16)),none,[]⟩,
    ⟨(some 18),(.mov (.t 1)),(some (17,true)),[]⟩,
    ⟨(some 19),(.indexStr (.t 18) (.c (.int .i64 0))),(some (17,true)),[]⟩,
    ⟨(some 20),(.bin .lss (.t 19) (.c (.int .u8 128))),(some (17,true)),[]⟩,
    ⟨(some 21),(.pick (.t 17) (.t 20) (.c (.bool false))),none,[]⟩] none)
  (.cond (.t 21)
  (.seq R32_0
  .ret)
  .skip))
  (.seq (.seq (.region [⟨(some 30),(.mov (.t 1)),none,[]⟩,
    ⟨(some 31),(.call (.f 45) [(.t 30)]),none,[]⟩,
    ⟨(some 29),(.mov (.t 31)),none,[]⟩,
    ⟨(some 32),(.extract (.t 29) 0),none,[]⟩,
    ⟨(some 33),(.extract (.t 29) 1),none,[]⟩,
    ⟨(some 5),(.alloc 67 Z),none,[]⟩,
    ⟨none,(.store 256 (.t 5) (.t 32)),none,[]⟩,
    ⟨(some 6),(.mov (.t 33)),none,[]⟩] none)
  (.seq (.region [⟨(some 34),(.mov (.t 6)),none,[]⟩] none)
  (.cond (.t 34)
  (.seq (.region [⟨(some 35),(.mov (.t 0)),none,[]⟩,
    ⟨(some 36),(.call (.f 47) [(.t 35),(.t 5)]),none,[]⟩,
    ⟨(some 37),(.call (.f 46) [(.t 36),(.t 5)]),none,[]⟩,
    ⟨(some 4),(.mov (.t 37)),none,[]⟩] none)
  .ret)
  .skip)))
  (.seq (.region [⟨(some 38),(.mov (.t 0)),none,[]⟩,
    ⟨(some 39),(.mov (.t 1)),none,[]⟩,
    ⟨(some 40),(.call (.f 49) [(.t 38),(.t 39)]),none,[]⟩,
    ⟨(some 41),(.mov (.t 1)),none,[]⟩,
    ⟨(some 42),(.call (.f 48) [(.t 40),(.t 41)]),none,[]⟩,
    ⟨(some 4),(.mov (.t 42)),none,[]⟩] none)
  .ret)))))
set_option maxRecDepth 100000 in
theorem B49_eq : B32 = B49g Z256 := by rfl
theorem trimD_ret {s : List UInt8} (hne : ¬ s = []) (hl : s.length < 1000000) {h : AHeap} {n : Nat} (hw : WF h n) :
    ∃ v,(∃ t : List UInt8,t.isEmpty = s.all isD ∧ v = .string ⟨t.toArray⟩) ∧ Ret EV61 32 [.string ⟨s.toArray⟩, .string ⟨#[48,49,50,51,52,53,54,55,56,57]⟩] h n v [] (n + 2) := by
  have hAs : Ret EV61 45 [.string ⟨#[48,49,50,51,52,53,54,55,56,57]⟩] h n (.tuple #[.agg (tblB (inS digS)).toArray, .bool true]) [] (n + 1) := makeAS_ret (cs := digS) (by decide) (by decide) hw
  have htl := tbl_len (inS digS)
  have hg : ((h.put (n + 1) (.cells (some 67) Z256 256)).put (n + 1) (.cells (some 67) (tblB (inS digS)) 256)).get (n + 1) = some (.cells (some 67) (tblB (inS digS)) 256) := by simp
  have hsub : HSub h ((h.put (n + 1) (.cells (some 67) Z256 256)).put (n + 1) (.cells (some 67) (tblB (inS digS)) 256)) := .new (.new (.refl _) hw (by omega) _) hw (by omega) _
  obtain ⟨c,l,rfl⟩ : ∃ c l,s = c :: l := by cases s with | nil => exact absurd rfl hne | cons c l => exact ⟨c,l,rfl⟩
  refine rex32 ?_
  simp -dsimp (discharger := omega) [B49_eq,B49g]
  with_reducible refine call_ret hAs ?_
  simp -dsimp (discharger := omega) [htl,Z256_len,Z256_drop]
  generalize (h.put (n + 1) (.cells (some 67) Z256 256)).put (n + 1) (.cells (some 67) (tblB (inS digS)) 256) = H at *
  with_reducible refine inl47 ?_
  simp -dsimp (discharger := omega) [B47]
  have e0 : (c :: l).take (c :: l).length = c :: l := List.take_of_length_le (Nat.le_refl _)
  refine loop_use (trR_loop hl hg (n0 := n + 1 + 1) (c :: l).length [(0, .string ⟨((c :: l).take (c :: l).length).toArray⟩),(1, .pointer (some ⟨n + 1,0,some 256⟩))] H (n + 1 + 1) ⟨rfl,rfl,Nat.le_refl _,by simp,rfl⟩) (by simp []) (.refl _) ?_
  rintro e σ' h' n' ⟨rfl,rfl,rfl,u,hul,hua, -,g0⟩
  simp -dsimp (discharger := omega) [g0]
  with_reducible refine inl46 ?_
  simp -dsimp (discharger := omega) [B46]
  refine loop_use (trL_loop (s := u) (by omega) hg (n0 := n + 1 + 1) u.length [(0, .string ⟨(u.drop 0).toArray⟩),(1, .pointer (some ⟨n + 1,0,some 256⟩))] h' (n + 1 + 1) ⟨rfl,rfl,0,by omega,by simp,rfl⟩) (by simp) (.refl _) ?_
  rintro e σ2 h2 n2 ⟨rfl,rfl,rfl,t,ht,g0⟩
  simp -dsimp (discharger := omega) [g0]
  exact ⟨by rw [ht,hua,List.all_cons],hsub⟩
end
end Go.Proofs.YtkdpjaaohddppaaGreatDoor.Am
