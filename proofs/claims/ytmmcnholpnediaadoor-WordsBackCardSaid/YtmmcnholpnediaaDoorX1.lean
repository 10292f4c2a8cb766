/- Contracts of the program's functions (X1). -/
import Derived.Test.YtmmcnholpnediaaDoorXEq
import Derived.Test.YtmmcnholpnediaaDoorLJ
import Derived.Test.YtmmcnholpnediaaDoorK
import Derived.Test.YtmmcnholpnediaaDoorLZ
import Derived.Test.YtmmcnholpnediaaDoorL4
import Derived.Test.YtmmcnholpnediaaDoorXRo
import Derived.Test.YtmmcnholpnediaaDoorLH
namespace Go.Proofs.YtmmcnholpnediaaDoor.Am
noncomputable section
/- CONTRACT: strings.ContainsAny(w, " \t#") of a word that has none of them. -/
def cleanC (c : UInt8) : Prop := c.toNat < 128 ∧ ¬ c.toNat = 32 ∧ ¬ c.toNat = 9 ∧ ¬ c.toNat = 35
theorem asT_len : asT.length = 256 := by simp [asT]
theorem asT_at {c : UInt8} (h : cleanC c) : asT[c.toNat]? = some (.bool false) := by
  obtain ⟨h1, h2, h3, h4⟩ := h
  have hb : ∀ x : Nat, ¬ c.toNat = x → Nat.beq c.toNat x = false := fun x hx => by
    cases hh : Nat.beq c.toNat x with
    | true => exact absurd (Nat.eq_of_beq_eq_true hh) hx
    | false => rfl
  simp only [asT, List.getElem?_map, List.getElem?_range (show c.toNat < 256 by omega), Option.map_some, hb _ h2, hb _ h3, hb _ h4, Bool.or_false]
theorem idx_none {c : UInt8} (h : cleanC c) : Lib.indexByte [32, 9, 35] c = -1 := by
  obtain ⟨h1, h2, h3, h4⟩ := h
  have hne : ∀ x : UInt8, ¬ c.toNat = x.toNat → ¬ c = x := fun x hx e => hx (by rw [e])
  have e1 : decide (Lib.indexByte [32, 9, 35] c ≥ 0) = List.contains [32, 9, 35] c := idx_any _ _
  have e2 : List.contains [32, 9, 35] c = false := by
    simp only [List.contains, List.elem]
    have a1 : (c == 32) = false := by simpa using hne 32 h2
    have a2 : (c == 9) = false := by simpa using hne 9 h3
    have a3 : (c == 35) = false := by simpa using hne 35 h4
    rw [a1, a2, a3]
  rw [e2] at e1
  have := Lib.indexByte_ge [32, 9, 35] c
  have := of_decide_eq_false e1
  omega
theorem rune_none {c : UInt8} (hc : cleanC c) (h : AHeap) (n : Nat) : Ret EV15 41 [.string ⟨#[32, 9, 35]⟩, .int .i32 (c.toNat : Int)] h n (.int .i64 (-1)) [] n := by
  refine rsx41 (by simp) (by simp) ?_
  have h1 := hc.1
  simp -dsimp (discharger := omega) [B41]
  with_reducible refine call_ret (indexByte_ret [32, 9, 35] c h n) ?_
  rw [idx_none hc]
  simp -dsimp (discharger := omega) [HSub.refl]
def A1Inv (s : List UInt8) (h0 : AHeap) (n0 m : Nat) (σ : Fr) (h : AHeap) (n : Nat) : Prop :=
  ∃ j : Nat, j + m = s.length ∧ n = n0 + 1 ∧ h = h0.put n0 (.iter ⟨s.toArray⟩ j) ∧ σ = [(1, .string ⟨#[32, 9, 35]⟩), (45, .pointer (some ⟨n0, 0, some 0⟩))]
def A1Post (h0 : AHeap) (n0 : Nat) (e : Ex) (_ : Fr) (h' : AHeap) (n' : Nat) : Prop := e = .exit 2 ∧ n' = n0 + 1 ∧ HSub h0 h'
theorem any_loop1 {s : List UInt8} (_ : s.length < 100000) (hc : ∀ c ∈ s, cleanC c) {h0 : AHeap} {n0 : Nat} (hw : WF h0 n0) :
    ∀ (m : Nat) (σ : Fr) (h : AHeap) (n : Nat), A1Inv s h0 n0 m σ h n → HasCode EV15 (.loop F28L1) σ h n (A1Post h0 n0) := by
  refine wx_inv _ fun m σ h n hI => ?_
  obtain ⟨j, hj, rfl, rfl, rfl⟩ := hI
  cases m with
  | zero =>
    have hjl : j = s.length := by omega
    subst hjl
    simp -dsimp (discharger := omega) [F28L1]
    exact ⟨rfl, rfl, .new (.refl _) hw (Nat.le_refl _) _⟩
  | succ m =>
    have hlt : j < s.length := by omega
    obtain ⟨c, hcj⟩ : ∃ c, s[j]? = some c := ⟨_, List.getElem?_eq_getElem hlt⟩
    have hcm : c ∈ s := by obtain ⟨h1, rfl⟩ := List.getElem?_eq_some_iff.1 hcj; exact List.getElem_mem h1
    have hcc := hc c hcm
    have hc128 := hcc.1
    simp -dsimp (discharger := omega) [F28L1, decode_plain hcj hc128]
    with_reducible refine call_ret (rune_none hcc _ _) ?_
    simp -dsimp (discharger := omega) []
    exact .mk' m (by omega) [(1, .string ⟨#[32, 9, 35]⟩), (45, .pointer (some ⟨n0, 0, some 0⟩))] (h0.put n0 (.iter ⟨s.toArray⟩ (j + 1))) (by simp) (.over rfl) ⟨j + 1, by omega, rfl, rfl, rfl⟩
def A0Inv (s : List UInt8) (q : Nat) (h0 : AHeap) (n0 m : Nat) (σ : Fr) (h : AHeap) (n : Nat) : Prop :=
  ∃ j : Nat, j + m = s.length ∧ n = n0 ∧ h = h0 ∧ σ = [(0, .string ⟨s.toArray⟩), (6, .pointer (some ⟨q, 0, some 256⟩)), (8, .int .i64 (j : Int))]
def A0Post (h0 : AHeap) (n0 : Nat) (e : Ex) (_ : Fr) (h' : AHeap) (n' : Nat) : Prop := e = .exit 0 ∧ n' = n0 ∧ h' = h0
theorem contains_no {c : UInt8} (hc : cleanC c) {q : Nat} {h : AHeap} (hr : ∀ j v, asT[j]? = some v → h.read q 256 j 1 = some [v]) (n : Nat) : Ret EV15 46 [.pointer (some ⟨q, 0, some 256⟩), .int .u8 (c.toNat : Int)] h n (.bool false) [] n := by
  refine rsx46 (by simp) (by simp) ?_
  have h1 := hc.1
  have := hr _ _ (asT_at hc)
  simp -dsimp (discharger := omega) [B46, this, HSub.refl]
theorem any_loop0 {s : List UInt8} (hl : s.length < 100000) (hc : ∀ c ∈ s, cleanC c) {q : Nat} {h0 : AHeap} (hr : ∀ j v, asT[j]? = some v → h0.read q 256 j 1 = some [v]) {n0 : Nat} :
    ∀ (m : Nat) (σ : Fr) (h : AHeap) (n : Nat), A0Inv s q h0 n0 m σ h n → HasCode EV15 (.loop F28L0) σ h n (A0Post h0 n0) := by
  refine wx_inv _ fun m σ h n hI => ?_
  obtain ⟨j, hj, rfl, rfl, rfl⟩ := hI
  cases m with
  | zero =>
    have hjl : j = s.length := by omega
    subst hjl
    simp -dsimp (discharger := omega) [F28L0]
    exact ⟨rfl, rfl, rfl⟩
  | succ m =>
    have hlt : j < s.length := by omega
    obtain ⟨c, hcj⟩ : ∃ c, s[j]? = some c := ⟨_, List.getElem?_eq_getElem hlt⟩
    have hcm : c ∈ s := by obtain ⟨h1, rfl⟩ := List.getElem?_eq_some_iff.1 hcj; exact List.getElem_mem h1
    have hcc : s[j]'hlt = c := (List.getElem?_eq_some_iff.1 hcj).2
    simp -dsimp (discharger := omega) [F28L0, hcc]
    with_reducible refine call_ret (contains_no (hc c hcm) hr _) ?_
    simp -dsimp (discharger := omega) []
    exact .mk' m (by omega) [(0, .string ⟨s.toArray⟩), (6, .pointer (some ⟨q, 0, some 256⟩)), (8, .int .i64 ((j + 1 : Nat) : Int))] h (by simp) (.refl _) ⟨j + 1, by omega, rfl, rfl, rfl⟩
def B28g (Z : List Value) : ACode := (.seq (.region [⟨(some 4), (.mov (.c (.int .i64 0))), none, []⟩] none)
  (.seq (.seq (.region [⟨(some 11), (.mov (.t 1)), none, []⟩,
    ⟨(some 12), (.bin .eql (.t 11) (.c (.string ⟨#[]⟩))), none, []⟩] none)
  (.cond (.t 12)
  (.seq (.region [⟨(some 4), (.mov (.c (.int .i64 (-1)))), none, []⟩] none)
  .ret)
  .skip))
  (.seq (.seq (.region [⟨(some 13), (.mov (.t 1)), none, []⟩,
    ⟨(some 14), (.lenStr (.t 13)), none, []⟩,
    ⟨(some 15), (.bin .eql (.t 14) (.c (.int .i64 1))), none, []⟩] none)
  (.cond (.t 15)
  (.seq (.region [⟨(some 16), (.mov (.t 1)), none, []⟩,
    ⟨(some 17), (.indexStr (.t 16) (.c (.int .i64 0))), none, []⟩,
    ⟨(some 18), (.conv .i32 (.t 17)), none, []⟩,
    ⟨(some 5), (.mov (.t 18)), none, []⟩] none)
  (.seq (.seq (.region [⟨(some 19), (.mov (.t 5)), none, []⟩,
    ⟨(some 20), (.bin .geq (.t 19) (.c (.int .i32 128))), none, []⟩] none)
  (.cond (.t 20)
  (.region [⟨(some 5), (.mov (.c (.int .i32 65533))), none, []⟩] none)
  .skip))
  (.seq (.region [⟨(some 21), (.mov (.t 0)), none, []⟩,
    ⟨(some 22), (.mov (.t 5)), none, []⟩,
    ⟨(some 23), (.call (.f 41) [(.t 21), (.t 22)]), none, []⟩,
    ⟨(some 4), (.mov (.t 23)), none, []⟩] none)
  .ret)))
  .skip))
  (.seq (.seq (.region [⟨(some 24), (.mov (.t 0)), none, []⟩,
    ⟨(some 25), (.lenStr (.t 24)), none, []⟩,
    ⟨(some 26), (.call (.f 44) [(.t 25)]), none, []⟩] none)
  (.cond (.t 26)
  (.seq (.region [⟨(some 28), (.mov (.t 1)), none, []⟩,
    ⟨(some 29), (.call (.f 45) [(.t 28)]), none, []⟩,
    ⟨(some 27), (.mov (.t 29)), none, []⟩,
    ⟨(some 30), (.extract (.t 27) 0), none, []⟩,
    ⟨(some 31), (.extract (.t 27) 1), none, []⟩,
    ⟨(some 6), (.alloc 85 Z), none, []⟩,
    ⟨none, (.store 256 (.t 6) (.t 30)), none, []⟩,
    ⟨(some 7), (.mov (.t 31)), none, []⟩] none)
  (.seq (.region [⟨(some 32), (.mov (.t 7)), none, []⟩] none)
  (.cond (.t 32)
  (.seq (.seq (.region [⟨(some 8), (.mov (.c (.int .i64 0))), none, []⟩] none)
  (.block 0 (.loop F28L0)))
  (.seq (.region [⟨(some 4), (.mov (.c (.int .i64 (-1)))), none, []⟩] none)
  .ret))
  .skip)))
  .skip))
  (.seq (.seq (.region [⟨(some 44), (.mov (.t 0)), none, []⟩,
    ⟨(some 45), (.rangeStr (.t 44)), none, []⟩] none)
  (.block 2 (.loop F28L1)))
  (.seq (.region [⟨(some 4), (.mov (.c (.int .i64 (-1)))), none, []⟩] none)
  .ret))))))
def Z256 : List Value := List.replicate 256 (.bool false)
set_option maxRecDepth 100000 in
theorem B28_eq : B28 = B28g Z256 := by rfl
theorem Z256_len : Z256.length = 256 := List.length_replicate
theorem Z256_drop : Z256.drop 256 = [] := List.drop_of_length_le (by rw [Z256_len]; omega)
theorem take_asT : asT.take 256 = asT := List.take_of_length_le (by rw [asT_len]; omega)
theorem asr_of {k N : Nat} (hk : k < 8) (hN : N = 10000000 * (k + 1)) {h : AHeap} {n : Nat} (hw : WF h n) (hn : n ≤ N) : Ret EV15 45 [.string ⟨#[32, 9, 35]⟩] h n (.tuple #[.agg asT.toArray, .bool true]) [] (N + 1) := by
  rw [hN] at hn ⊢
  exact as_ret hk hw hn
set_option maxRecDepth 100000 in
set_option maxHeartbeats 4000000 in
theorem any_no {k N : Nat} (hk : k < 8) (hN : N = 10000000 * (k + 1)) {s : List UInt8} (hl : s.length < 100000) (hc : ∀ c ∈ s, cleanC c) {h : AHeap} {n : Nat} (hw : WF h n) (hn : n ≤ N) :
    Ret EV15 7 [.string ⟨s.toArray⟩, .string ⟨#[32, 9, 35]⟩] h n (.bool false) [] (N + 10) := by
  have asr : Ret EV15 45 [.string ⟨#[32, 9, 35]⟩] h n (.tuple #[.agg asT.toArray, .bool true]) [] (N + 1) := asr_of hk hN hw hn
  clear hN
  refine rsx7 (by simp) (by simp) ?_
  simp -dsimp (discharger := omega) [B7]
  with_reducible refine inl28 ?_
  by_cases h8 : 8 < s.length
  · simp -dsimp (discharger := omega) [B28_eq, B28g]
    with_reducible refine inl44 ?_
    simp -dsimp (discharger := omega) [B44]
    with_reducible refine call_ret asr ?_
    simp -dsimp (discharger := omega) [asT_len, Z256_len, Z256_drop]
    have hr : ∀ (H : AHeap), H.get (N + 1) = some (.cells (some 85) asT 256) → ∀ j v, asT[j]? = some v → H.read (N + 1) 256 j 1 = some [v] := fun H hg j v hj => by
      have h0 : H.read (N + 1) 256 0 256 = some asT := by
        rw [AHeap.read_of hg]; simp [Blk.read, asT_len, take_asT]
      have := read_one h0 hj (by have := (List.getElem?_eq_some_iff.1 hj).1; rw [asT_len] at this; exact this)
      rwa [Nat.zero_add] at this
    refine loop_use (any_loop0 hl hc (q := N + 1) (hr _ (by simp)) s.length [(0, .string ⟨s.toArray⟩), (6, .pointer (some ⟨N + 1, 0, some 256⟩)), (8, .int .i64 ((0 : Nat) : Int))] ((h.put (N + 1) (.cells (some 85) Z256 256)).put (N + 1) (.cells (some 85) asT 256)) (N + 1 + 1) ⟨0, by omega, rfl, rfl, rfl⟩) (by simp) (.refl _) ?_
    rintro e σ' h' n' ⟨rfl, rfl, rfl⟩
    simp -dsimp (discharger := omega) []
    exact .new (.new (.refl _) hw (by omega) _) hw (by omega) _
  · simp -dsimp (discharger := omega) [B28_eq, B28g]
    with_reducible refine inl44 ?_
    simp -dsimp (discharger := omega) [B44]
    refine loop_use (any_loop1 hl hc hw s.length [(1, .string ⟨#[32, 9, 35]⟩), (45, .pointer (some ⟨n, 0, some 0⟩))] (h.put n (.iter ⟨s.toArray⟩ 0)) (n + 1) ⟨0, by omega, rfl, rfl, rfl⟩) (by simp) (.refl _) ?_
    rintro e σ' h' n' ⟨rfl, rfl, hs⟩
    simp -dsimp (discharger := omega) []
    exact ⟨hs, by omega⟩
end
end Go.Proofs.YtmmcnholpnediaaDoor.Am
namespace Go.Proofs.YtmmcnholpnediaaDoor.Am
noncomputable section
/- CONTRACTS: sets of ASCII bytes; strings.Trim by digits; numbers. -/
def tblB (p : Nat → Bool) : List Value := (List.range 256).map fun i => .bool (p i)
theorem tbl_len (p : Nat → Bool) : (tblB p).length = 256 := by simp [tblB]
theorem tbl_at (p : Nat → Bool) {i : Nat} (hi : i < 256) : (tblB p)[i]? = some (.bool (p i)) := by
  simp only [tblB, List.getElem?_map, List.getElem?_range hi, Option.map_some]
theorem tbl_take (p : Nat → Bool) : (tblB p).take 256 = tblB p := List.take_of_length_le (by rw [tbl_len]; omega)
theorem tbl_drop (p : Nat → Bool) : (tblB p).drop 256 = [] := List.drop_of_length_le (by rw [tbl_len]; omega)
theorem tbl_zero : Z256 = tblB (fun _ => false) := by
  refine List.ext_getElem? fun i => ?_
  by_cases hi : i < 256
  · rw [tbl_at _ hi, Z256, List.getElem?_replicate, if_pos hi]
  · rw [List.getElem?_eq_none (by rw [Z256_len]; omega), List.getElem?_eq_none (by rw [tbl_len]; omega)]
theorem tbl_set (p : Nat → Bool) {c : Nat} (hc : c < 256) : List.take c (tblB p) ++ .bool true :: List.drop (c + 1) (tblB p) = tblB (fun i => p i || Nat.beq c i) := by
  have e : List.take c (tblB p) ++ .bool true :: List.drop (c + 1) (tblB p) = (tblB p).set c (.bool true) := by
    rw [List.set_eq_take_append_cons_drop, if_pos (by rw [tbl_len]; omega)]
  rw [e]
  refine List.ext_getElem? fun i => ?_
  by_cases hi : i < 256
  · rw [tbl_at _ hi, List.getElem?_set]
    by_cases h : c = i
    · subst h
      rw [if_pos rfl, if_pos (by rw [tbl_len]; omega), Nat.beq_refl, Bool.or_true]
    · have hb : Nat.beq c i = false := by
        cases hh : Nat.beq c i with
        | true => exact absurd (Nat.eq_of_beq_eq_true hh) h
        | false => rfl
      rw [if_neg h, tbl_at _ hi, hb, Bool.or_false]
  · rw [List.getElem?_eq_none (by rw [List.length_set, tbl_len]; omega), List.getElem?_eq_none (by rw [tbl_len]; omega)]
theorem tbl_read {p : Nat → Bool} {T : Nat} {H : AHeap} {q : Nat} (hg : H.get q = some (.cells (some T) (tblB p) 256)) {i : Nat} (hi : i < 256) : H.read q 256 i 1 = some [.bool (p i)] := by
  have h0 : H.read q 256 0 256 = some (tblB p) := by
    rw [AHeap.read_of hg]; simp [Blk.read, tbl_len, tbl_take]
  have := read_one h0 (tbl_at p hi) hi
  rwa [Nat.zero_add] at this
theorem has_ret {p : Nat → Bool} {T : Nat} {H : AHeap} {q : Nat} (hg : H.get q = some (.cells (some T) (tblB p) 256)) (c : UInt8) (n : Nat) : Ret EV15 46 [.pointer (some ⟨q, 0, some 256⟩), .int .u8 (c.toNat : Int)] H n (.bool (p c.toNat)) [] n := by
  refine rsx46 (by simp) (by simp) ?_
  have h1 := c.toNat_lt
  have := tbl_read hg (i := c.toNat) h1
  simp -dsimp (discharger := omega) [B46, this, HSub.refl]
def inS (cs : List UInt8) (i : Nat) : Bool := cs.any fun c => Nat.beq c.toNat i
theorem inS_snoc (cs : List UInt8) (c : UInt8) : inS (cs ++ [c]) = fun i => inS cs i || Nat.beq c.toNat i := by
  funext i; simp [inS]
def B45g (Z : List Value) : ACode := (.seq (.region [⟨(some 2), (.alloc 85 Z), none, []⟩,
    ⟨(some 3), (.mov (.c (.bool false))), none, []⟩] none)
  (.seq (.seq (.region [⟨(some 4), (.mov (.c (.int .i64 0))), none, []⟩] none)
  (.block 0 (.loop F45L0)))
  (.seq (.region [⟨(some 20), (.load (some 256) (.t 2)), none, []⟩,
    ⟨none, (.store 256 (.t 2) (.t 20)), none, []⟩,
    ⟨(some 3), (.mov (.c (.bool true))), none, []⟩] none)
  .ret)))
set_option maxRecDepth 100000 in
theorem B45_eq : B45 = B45g Z256 := by rfl
def AsInv (cs : List UInt8) (h0 : AHeap) (n0 r : Nat) (σ : Fr) (h : AHeap) (n : Nat) : Prop :=
  n = n0 + 1 ∧ ∃ k : Nat, k + r = cs.length ∧ HSub h0 h ∧ h.get n0 = some (.cells (some 85) (tblB (inS (cs.take k))) 256) ∧ σ = [(0, .string ⟨cs.toArray⟩), (2, .pointer (some ⟨n0, 0, some 256⟩)), (4, .int .i64 (k : Int))]
def AsPost (cs : List UInt8) (h0 : AHeap) (n0 : Nat) (e : Ex) (σ' : Fr) (h' : AHeap) (n' : Nat) : Prop :=
  n' = n0 + 1 ∧ e = .exit 0 ∧ HSub h0 h' ∧ h'.get n0 = some (.cells (some 85) (tblB (inS cs)) 256) ∧ σ'.get 2 = some (.pointer (some ⟨n0, 0, some 256⟩))
theorem as_loop {cs : List UInt8} (hl : cs.length < 1000) (hc : ∀ c ∈ cs, c.toNat < 128) {h0 : AHeap} {n0 : Nat} (hw : WF h0 n0) :
    ∀ (m : Nat) (σ : Fr) (h : AHeap) (n : Nat), AsInv cs h0 n0 m σ h n → HasCode EV15 (.loop F45L0) σ h n (AsPost cs h0 n0) := by
  refine wx_inv _ fun m σ h n hI => ?_
  obtain ⟨rfl, k, hk, hs, hg, rfl⟩ := hI
  cases m with
  | zero =>
    have e : cs.take k = cs := List.take_of_length_le (by omega)
    rw [e] at hg
    simp -dsimp (discharger := omega) [F45L0]
    exact ⟨rfl, rfl, hs, hg, rfl⟩
  | succ m =>
    have hlt : k < cs.length := by omega
    obtain ⟨c, hck⟩ : ∃ c, cs[k]? = some c := ⟨_, List.getElem?_eq_getElem hlt⟩
    have hcm : c ∈ cs := by obtain ⟨h1, rfl⟩ := List.getElem?_eq_some_iff.1 hck; exact List.getElem_mem h1
    have hcc : cs[k]'hlt = c := (List.getElem?_eq_some_iff.1 hck).2
    have hc128 := hc c hcm
    have hset := tbl_set (inS (cs.take k)) (c := c.toNat) (by omega)
    have htl := tbl_len (inS (cs.take k))
    have hsn : inS (cs.take (k + 1)) = fun i => inS (cs.take k) i || Nat.beq c.toNat i := by rw [take_snoc hck, inS_snoc]
    rw [← hsn] at hset
    simp -dsimp (discharger := omega) [F45L0, hcc, hg, htl, hset]
    exact .mk' m (by omega) [(0, .string ⟨cs.toArray⟩), (2, .pointer (some ⟨n0, 0, some 256⟩)), (4, .int .i64 ((k + 1 : Nat) : Int))] (h.put n0 (.cells (some 85) (tblB (inS (cs.take (k + 1)))) 256)) (by simp) (.refl _) ⟨rfl, k + 1, by omega, hs.new hw (Nat.le_refl _) _, by simp, rfl⟩
theorem makeAS_ret {cs : List UInt8} (hl : cs.length < 1000) (hc : ∀ c ∈ cs, c.toNat < 128) {h : AHeap} {n : Nat} (hw : WF h n) : Ret EV15 45 [.string ⟨cs.toArray⟩] h n (.tuple #[.agg (tblB (inS cs)).toArray, .bool true]) [] (n + 1) := by
  refine rsx45 (by simp) (by simp) ?_
  have z0 : tblB (inS (cs.take 0)) = Z256 := by rw [tbl_zero]; rfl
  simp -dsimp (discharger := omega) [B45_eq, B45g, Z256_len]
  refine loop_use (as_loop hl hc hw cs.length [(0, .string ⟨cs.toArray⟩), (2, .pointer (some ⟨n, 0, some 256⟩)), (4, .int .i64 ((0 : Nat) : Int))] (h.put n (.cells (some 85) Z256 256)) (n + 1) ⟨rfl, 0, by omega, .new (.refl _) hw (Nat.le_refl _) _, by rw [z0]; simp, rfl⟩) (by simp) (.refl _) ?_
  rintro e σ' h' n' ⟨rfl, rfl, hs, hg, g2⟩
  have htl := tbl_len (inS cs)
  have htt := tbl_take (inS cs)
  have htd := tbl_drop (inS cs)
  simp -dsimp (discharger := omega) [g2, hg, AHeap.read_of hg, htl, htt, htd]
  exact hs.new hw (Nat.le_refl _) _
def digS : List UInt8 := [48, 49, 50, 51, 52, 53, 54, 55, 56, 57]
theorem dig_tab : ∀ b : Fin 256, inS digS b.1 = (decide (48 ≤ b.1) && decide (b.1 ≤ 57)) := by decide +kernel
theorem inS_dig (c : UInt8) : inS digS c.toNat = isD c := dig_tab ⟨c.toNat, c.toNat_lt⟩
theorem dig_ret {H : AHeap} {q : Nat} (hg : H.get q = some (.cells (some 85) (tblB (inS digS)) 256)) (c : UInt8) (n : Nat) : Ret EV15 46 [.pointer (some ⟨q, 0, some 256⟩), .int .u8 (c.toNat : Int)] H n (.bool (isD c)) [] n := by
  have := has_ret hg c n
  rwa [inS_dig] at this
def TrInv (s : List UInt8) (q : Nat) (h0 : AHeap) (n0 r : Nat) (σ : Fr) (h : AHeap) (n : Nat) : Prop :=
  n = n0 ∧ h = h0 ∧ r ≤ s.length ∧ (s.drop r).all isD = true ∧ σ = [(0, .string ⟨(s.take r).toArray⟩), (1, .pointer (some ⟨q, 0, some 256⟩))]
def TrPost (s : List UInt8) (_ : Nat) (h0 : AHeap) (n0 : Nat) (e : Ex) (σ' : Fr) (h' : AHeap) (n' : Nat) : Prop :=
  n' = n0 ∧ h' = h0 ∧ e = .exit 0 ∧ ∃ u : List UInt8, u.length ≤ s.length ∧ (u.all isD = s.all isD) ∧ (u.all isD = true → u = []) ∧ σ'.get 0 = some (.string ⟨u.toArray⟩)
theorem all_take_drop (s : List UInt8) (k : Nat) : s.all isD = ((s.take k).all isD && (s.drop k).all isD) := by
  rw [← List.all_append, List.take_append_drop]
theorem tr_loop {s : List UInt8} (hl : s.length < 1000000) {q : Nat} {h0 : AHeap} (hg : h0.get q = some (.cells (some 85) (tblB (inS digS)) 256)) {n0 : Nat} :
    ∀ (m : Nat) (σ : Fr) (h : AHeap) (n : Nat), TrInv s q h0 n0 m σ h n → HasCode EV15 (.loop F63L0) σ h n (TrPost s q h0 n0) := by
  refine wx_inv _ fun m σ h n hI => ?_
  obtain ⟨rfl, rfl, hm, hd, rfl⟩ := hI
  have hat := all_take_drop s m
  rw [hd, Bool.and_true] at hat
  cases m with
  | zero =>
    have fin : TrPost s q h n (.exit 0) [(7, .bool false), (6, .int .i64 0), (5, .string ⟨#[]⟩), (0, .string ⟨#[]⟩), (1, .pointer (some ⟨q, 0, some 256⟩))] h n := ⟨rfl, rfl, rfl, [], by simp, by rw [hat]; rfl, fun _ => rfl, rfl⟩
    simp -dsimp (discharger := omega) [F63L0]
    exact fin
  | succ m =>
    have hlt : m < s.length := by omega
    obtain ⟨c, hcm⟩ : ∃ c, s[m]? = some c := ⟨_, List.getElem?_eq_getElem hlt⟩
    have htk := take_snoc hcm
    have hul : (s.take (m + 1)).length = m + 1 := by rw [List.length_take]; omega
    have hui : (s.take (m + 1))[m]? = some c := by rw [List.getElem?_take, if_pos (by omega)]; exact hcm
    have hdr := drop_cons hcm
    have htt : (s.take (m + 1)).take m = s.take m := by rw [List.take_take]; congr 1; omega
    have fin : isD c = false → ∀ {σ : Fr}, σ.get 0 = some (.string ⟨(s.take (m + 1)).toArray⟩) → TrPost s q h n (.exit 0) σ h n := fun hc σ g => by
      have hf : (s.take (m + 1)).all isD = false := by rw [htk, List.all_append]; simp [hc]
      exact ⟨rfl, rfl, rfl, _, by omega, hat.symm, fun ha => (by rw [hf] at ha; cases ha), g⟩
    have hall : isD c = true → (s.drop m).all isD = true := fun hc => by rw [hdr, List.all_cons, hc, hd]; rfl
    generalize hu : s.take (m + 1) = u at *
    have hlt2 : m < u.length := by omega
    have hcc : u[m]'hlt2 = c := (List.getElem?_eq_some_iff.1 hui).2
    have hdig := dig_ret hg c n
    cases hc : isD c with
    | true =>
      rw [hc] at hdig
      simp -dsimp (discharger := omega) [F63L0, hul, hcc]
      with_reducible refine call_ret hdig ?_
      simp -dsimp (discharger := omega) [hul, htt]
      exact .mk' m (by omega) [(0, .string ⟨(s.take m).toArray⟩), (1, .pointer (some ⟨q, 0, some 256⟩))] h (by simp) (.refl _) ⟨rfl, rfl, by omega, hall hc, rfl⟩
    | false =>
      rw [hc] at hdig
      simp -dsimp (discharger := omega) [F63L0, hul, hcc]
      with_reducible refine call_ret hdig ?_
      simp -dsimp (discharger := omega) []
      exact fin hc (by simp)
def TlInv (s : List UInt8) (q : Nat) (h0 : AHeap) (n0 r : Nat) (σ : Fr) (h : AHeap) (n : Nat) : Prop :=
  n = n0 ∧ h = h0 ∧ ∃ k, k + r = s.length ∧ (s.take k).all isD = true ∧ σ = [(0, .string ⟨(s.drop k).toArray⟩), (1, .pointer (some ⟨q, 0, some 256⟩))]
def TlPost (s : List UInt8) (h0 : AHeap) (n0 : Nat) (e : Ex) (σ' : Fr) (h' : AHeap) (n' : Nat) : Prop :=
  n' = n0 ∧ h' = h0 ∧ e = .exit 0 ∧ ∃ t : List UInt8, (t.isEmpty = s.all isD) ∧ σ'.get 0 = some (.string ⟨t.toArray⟩)
theorem tl_loop {s : List UInt8} (_ : s.length < 1000000) {q : Nat} {h0 : AHeap} (hg : h0.get q = some (.cells (some 85) (tblB (inS digS)) 256)) {n0 : Nat} :
    ∀ (m : Nat) (σ : Fr) (h : AHeap) (n : Nat), TlInv s q h0 n0 m σ h n → HasCode EV15 (.loop F62L0) σ h n (TlPost s h0 n0) := by
  refine wx_inv _ fun m σ h n hI => ?_
  obtain ⟨rfl, rfl, k, hk, hd, rfl⟩ := hI
  have hat := all_take_drop s k
  rw [hd, Bool.true_and] at hat
  cases m with
  | zero =>
    have e : s.drop k = [] := List.drop_of_length_le (by omega)
    rw [e] at hat ⊢
    have fin : TlPost s h n (.exit 0) [(7, .bool false), (6, .int .i64 0), (5, .string ⟨#[]⟩), (0, .string ⟨#[]⟩), (1, .pointer (some ⟨q, 0, some 256⟩))] h n := ⟨rfl, rfl, rfl, [], by rw [hat]; rfl, rfl⟩
    simp -dsimp (discharger := omega) [F62L0]
    exact fin
  | succ m =>
    have hlt : k < s.length := by omega
    obtain ⟨c, hck⟩ : ∃ c, s[k]? = some c := ⟨_, List.getElem?_eq_getElem hlt⟩
    have hdr := drop_cons hck
    have hnext : isD c = true → (s.take (k + 1)).all isD = true := fun hc => by rw [take_snoc hck, List.all_append, hd]; simp [hc]
    rw [hdr] at hat ⊢
    have hdl : (s.drop (k + 1)).length = m := by rw [List.length_drop]; omega
    generalize hu : s.drop (k + 1) = u at *
    have hdig := dig_ret hg c n
    cases hc : isD c with
    | true =>
      rw [hc] at hdig
      simp -dsimp (discharger := omega) [F62L0, hdl]
      with_reducible refine call_ret hdig ?_
      simp -dsimp (discharger := omega) []
      exact .mk' m (by omega) [(0, .string ⟨(s.drop (k + 1)).toArray⟩), (1, .pointer (some ⟨q, 0, some 256⟩))] h (by simp [hu]) (.refl _) ⟨rfl, rfl, k + 1, by omega, hnext hc, rfl⟩
    | false =>
      rw [hc] at hdig
      have fin : ∀ {σ : Fr}, σ.get 0 = some (.string ⟨(c :: u).toArray⟩) → TlPost s h n (.exit 0) σ h n := fun g => ⟨rfl, rfl, rfl, c :: u, by rw [hat, List.all_cons, hc]; rfl, g⟩
      simp -dsimp (discharger := omega) [F62L0, hdl]
      with_reducible refine call_ret hdig ?_
      simp -dsimp (discharger := omega) []
      exact fin (by simp)
end
end Go.Proofs.YtmmcnholpnediaaDoor.Am
namespace Go.Proofs.YtmmcnholpnediaaDoor.Am
noncomputable section
/- CONTRACTS: strings.Trim by digits; numbers; addresses. -/
def B49g (Z : List Value) : ACode := (.seq (.region [⟨(some 4), (.mov (.c (.string ⟨#[]⟩))), none, []⟩] none)
  (.seq (.seq (.region [⟨(some 7), (.mov (.t 0)), none, []⟩,
    ⟨(some 8), (.bin .eql (.t 7) (.c (.string ⟨#[]⟩))), none, []⟩,
    ⟨(some 9), (.mov (.t 8)), none, []⟩,
    ⟨(some 10), (.mov (.t 1)), (some (9, false)), []⟩,
    ⟨(some 11), (.bin .eql (.t 10) (.c (.string ⟨#[]⟩))), (some (9, false)), []⟩,
    ⟨(some 12), (.pick (.t 9) (.c (.bool true)) (.t 11)), none, []⟩] none)
  (.cond (.t 12)
  (.seq (.region [⟨(some 13), (.mov (.t 0)), none, []⟩,
    ⟨(some 4), (.mov (.t 13)), none, []⟩] none)
  .ret)
  .skip))
  (.seq (.seq (.region [⟨(some 14), (.mov (.t 1)), none, []⟩,
    ⟨(some 15), (.lenStr (.t 14)), none, []⟩,
    ⟨(some 16), (.bin .eql (.t 15) (.c (.int .i64 1))), none, []⟩,
    ⟨(some 17), (.mov (.t 16)), none, []⟩,
    ⟨(some 18), (.mov (.t 1)), (some (17, true)), []⟩,
    ⟨(some 19), (.indexStr (.t 18) (.c (.int .i64 0))), (some (17, true)), []⟩,
    ⟨(some 20), (.bin .lss (.t 19) (.c (.int .u8 128))), (some (17, true)), []⟩,
    ⟨(some 21), (.pick (.t 17) (.t 20) (.c (.bool false))), none, []⟩] none)
  (.cond (.t 21)
  (.seq R49_0
  .ret)
  .skip))
  (.seq (.seq (.region [⟨(some 30), (.mov (.t 1)), none, []⟩,
    ⟨(some 31), (.call (.f 45) [(.t 30)]), none, []⟩,
    ⟨(some 29), (.mov (.t 31)), none, []⟩,
    ⟨(some 32), (.extract (.t 29) 0), none, []⟩,
    ⟨(some 33), (.extract (.t 29) 1), none, []⟩,
    ⟨(some 5), (.alloc 85 Z), none, []⟩,
    ⟨none, (.store 256 (.t 5) (.t 32)), none, []⟩,
    ⟨(some 6), (.mov (.t 33)), none, []⟩] none)
  (.seq (.region [⟨(some 34), (.mov (.t 6)), none, []⟩] none)
  (.cond (.t 34)
  (.seq (.region [⟨(some 35), (.mov (.t 0)), none, []⟩,
    ⟨(some 36), (.call (.f 63) [(.t 35), (.t 5)]), none, []⟩,
    ⟨(some 37), (.call (.f 62) [(.t 36), (.t 5)]), none, []⟩,
    ⟨(some 4), (.mov (.t 37)), none, []⟩] none)
  .ret)
  .skip)))
  (.seq (.region [⟨(some 38), (.mov (.t 0)), none, []⟩,
    ⟨(some 39), (.mov (.t 1)), none, []⟩,
    ⟨(some 40), (.call (.f 65) [(.t 38), (.t 39)]), none, []⟩,
    ⟨(some 41), (.mov (.t 1)), none, []⟩,
    ⟨(some 42), (.call (.f 64) [(.t 40), (.t 41)]), none, []⟩,
    ⟨(some 4), (.mov (.t 42)), none, []⟩] none)
  .ret)))))
set_option maxRecDepth 100000 in
theorem B49_eq : B49 = B49g Z256 := by rfl
theorem trim_ret {s : List UInt8} (hne : ¬ s = []) (hl : s.length < 1000000) {h : AHeap} {n : Nat} (hw : WF h n) :
    ∃ v, (∃ t : List UInt8, t.isEmpty = s.all isD ∧ v = .string ⟨t.toArray⟩) ∧ Ret EV15 49 [.string ⟨s.toArray⟩, .string ⟨#[48, 49, 50, 51, 52, 53, 54, 55, 56, 57]⟩] h n v [] (n + 2) := by
  have hAs : Ret EV15 45 [.string ⟨#[48, 49, 50, 51, 52, 53, 54, 55, 56, 57]⟩] h n (.tuple #[.agg (tblB (inS digS)).toArray, .bool true]) [] (n + 1) := makeAS_ret (cs := digS) (by decide) (by decide) hw
  have htl := tbl_len (inS digS)
  have hg : ((h.put (n + 1) (.cells (some 85) Z256 256)).put (n + 1) (.cells (some 85) (tblB (inS digS)) 256)).get (n + 1) = some (.cells (some 85) (tblB (inS digS)) 256) := by simp
  have hsub : HSub h ((h.put (n + 1) (.cells (some 85) Z256 256)).put (n + 1) (.cells (some 85) (tblB (inS digS)) 256)) := .new (.new (.refl _) hw (by omega) _) hw (by omega) _
  obtain ⟨c, l, rfl⟩ : ∃ c l, s = c :: l := by cases s with | nil => exact absurd rfl hne | cons c l => exact ⟨c, l, rfl⟩
  refine rex49 ?_
  simp -dsimp (discharger := omega) [B49_eq, B49g]
  with_reducible refine call_ret hAs ?_
  simp -dsimp (discharger := omega) [htl, Z256_len, Z256_drop]
  generalize (h.put (n + 1) (.cells (some 85) Z256 256)).put (n + 1) (.cells (some 85) (tblB (inS digS)) 256) = H at *
  with_reducible refine inl63 ?_
  simp -dsimp (discharger := omega) [B63]
  have e0 : (c :: l).take (c :: l).length = c :: l := List.take_of_length_le (Nat.le_refl _)
  refine loop_use (tr_loop hl hg (n0 := n + 1 + 1) (c :: l).length [(0, .string ⟨((c :: l).take (c :: l).length).toArray⟩), (1, .pointer (some ⟨n + 1, 0, some 256⟩))] H (n + 1 + 1) ⟨rfl, rfl, Nat.le_refl _, by simp, rfl⟩) (by simp []) (.refl _) ?_
  rintro e σ' h' n' ⟨rfl, rfl, rfl, u, hul, hua, -, g0⟩
  simp -dsimp (discharger := omega) [g0]
  with_reducible refine inl62 ?_
  simp -dsimp (discharger := omega) [B62]
  refine loop_use (tl_loop (s := u) (by omega) hg (n0 := n + 1 + 1) u.length [(0, .string ⟨(u.drop 0).toArray⟩), (1, .pointer (some ⟨n + 1, 0, some 256⟩))] h' (n + 1 + 1) ⟨rfl, rfl, 0, by omega, by simp, rfl⟩) (by simp) (.refl _) ?_
  rintro e σ2 h2 n2 ⟨rfl, rfl, rfl, t, ht, g0⟩
  simp -dsimp (discharger := omega) [g0]
  exact ⟨by rw [ht, hua, List.all_cons], hsub⟩
/-- What a text is as a number. -/
def numO (s : List UInt8) : Option Nat := if canon s = true ∧ s.length ≤ 10 then some (decV s) else none
theorem canon_all {s : List UInt8} (h : canon s = true) : s.all isD = true ∧ s ≠ [] := by
  simp only [canon, Bool.and_eq_true] at h
  refine ⟨h.1.1, fun e => ?_⟩
  rw [e] at h; simp at h
theorem canon_atoi {s : List UInt8} (h : canon s = true) (hv : decV s < 9223372036854775808) : atoiO s = some ((decV s : Nat) : Int) := by
  obtain ⟨hd, hne⟩ := canon_all h
  cases s with
  | nil => exact absurd rfl hne
  | cons c t =>
    have hc : isD c = true := by simp only [List.all_cons, Bool.and_eq_true] at hd; exact hd.1
    have h43 : ¬ c = 43 := fun e => by rw [e] at hc; cases hc
    have h45 : ¬ c = 45 := fun e => by rw [e] at hc; cases hc
    have hun : unS (c :: t) = c :: t := by simp [unS, h43, h45]
    have hneg : ¬ (c :: t : List UInt8).head? = some 45 := by simp [h45]
    unfold atoiO
    rw [hun, okU_of hd hne (by omega), if_pos rfl, if_neg hneg, if_pos hv]
theorem numO_lt {s : List UInt8} {v : Nat} (h : numO s = some v) : v < 10000000000 := by
  unfold numO at h
  split at h
  · rename_i hc
    cases h
    have := decV_lt s (canon_all hc.1).1
    have h2 : 10 ^ s.length ≤ 10 ^ 10 := Nat.pow_le_pow_right (by omega) hc.2
    omega
  · cases h
def numV (s : List UInt8) : Value := match numO s with
  | some v => .tuple #[.int .i64 (v : Int), .bool true]
  | none => .tuple #[.int .i64 0, .bool false]
theorem numV_none {s : List UInt8} (h : numO s = none) : numV s = .tuple #[.int .i64 0, .bool false] := by simp [numV, h]
theorem number_ret {s : List UInt8} (hl : s.length < 100000) {h : AHeap} {n : Nat} (hw : WF h n) (he : HasErrs h) (hn : 4096 ≤ n) : Ret EV15 36 [.string ⟨s.toArray⟩] h n (numV s) [] (n + 5) := by
  refine rsx36 (by simp) (by simp) ?_
  have hb0 : s = [] → numO s = none := fun e => by subst e; rfl
  by_cases h0 : s = []
  · rw [numV_none (hb0 h0)]
    subst h0
    simp -dsimp (discharger := omega) [B36]
    exact .refl _
  obtain ⟨c, l, rfl⟩ : ∃ c l, s = c :: l := by cases s with | nil => exact absurd rfl h0 | cons c l => exact ⟨c, l, rfl⟩
  have hlen : (c :: l).length = l.length + 1 := rfl
  by_cases h10 : 10 < l.length + 1
  · have e : numO (c :: l) = none := by unfold numO; rw [if_neg (by rw [hlen]; omega)]
    rw [numV_none e]
    simp -dsimp (discharger := omega) [B36]
    exact .refl _
  obtain ⟨tv, ⟨t, ht, rfl⟩, hT⟩ := trim_ret h0 (by omega) hw
  cases had : (c :: l).all isD with
  | false =>
    rw [had] at ht
    have e : numO (c :: l) = none := by
      unfold numO
      rw [if_neg]
      rintro ⟨h1, -⟩
      rw [(canon_all h1).1] at had; cases had
    rw [numV_none e]
    obtain ⟨tc, tl, rfl⟩ : ∃ tc tl, t = tc :: tl := by cases t with | nil => cases ht | cons a b => exact ⟨a, b, rfl⟩
    simp -dsimp (discharger := omega) [B36]
    with_reducible refine call_ret hT ?_
    simp -dsimp (discharger := omega) []
    exact .refl _
  | true =>
    rw [had] at ht
    obtain rfl : t = [] := by cases t with | nil => rfl | cons a b => cases ht
    by_cases hz : 1 < l.length + 1 ∧ c = 48
    · obtain ⟨hz1, rfl⟩ := hz
      have e : numO (48 :: l) = none := by
        unfold numO
        rw [if_neg]
        rintro ⟨h1, -⟩
        unfold canon at h1
        simp only [Bool.and_eq_true, Bool.or_eq_true, beq_iff_eq, hlen] at h1
        rcases h1.2 with h2 | h2
        · omega
        · simp at h2
      rw [numV_none e]
      simp -dsimp (discharger := omega) [B36]
      with_reducible refine call_ret hT ?_
      simp -dsimp (discharger := omega) []
      exact .refl _
    · have hcan : canon (c :: l) = true := by
        unfold canon
        rw [had]
        by_cases h1 : l.length + 1 = 1
        · have hb : ((c :: l).length == 1) = true := by rw [hlen, h1]; rfl
          rw [hb]; rfl
        · have hc48 : ¬ c = 48 := fun e => hz ⟨by omega, e⟩
          have hb : ((c :: l).head? != some 48) = true := by simp [hc48]
          rw [hb]; simp
      have hno : numO (c :: l) = some (decV (c :: l)) := by unfold numO; rw [if_pos ⟨hcan, by rw [hlen]; omega⟩]
      have hlt := numO_lt hno
      obtain ⟨v, ⟨x, e, rfl, -, -, hx⟩, hA⟩ := atoi_ret (s := c :: l) hl (hw.mono (by omega : n ≤ n + 2)) he (by omega)
      rw [canon_atoi hcan (by omega)] at hx
      obtain ⟨rfl, rfl⟩ : x = ((decV (c :: l) : Nat) : Int) ∧ e = .nilIface := by
        rcases hx with ⟨h1, h2⟩ | ⟨h1, -⟩
        · exact ⟨(Option.some.inj h1).symm, h2⟩
        · cases h1
      have eV : numV (c :: l) = .tuple #[.int .i64 ((decV (c :: l) : Nat) : Int), .bool true] := by simp [numV, hno]
      rw [eV]
      generalize decV (c :: l) = D at *
      by_cases h1 : l.length + 1 = 1
      · simp -dsimp (discharger := omega) [B36]
        with_reducible refine call_ret hT ?_
        simp -dsimp (discharger := omega) []
        with_reducible refine call_ret hA ?_
        simp -dsimp (discharger := omega) []
        exact .refl _
      · have hc48 : ¬ (c.toNat : Int) = 48 := fun e => hz ⟨by omega, UInt8.toNat_inj.1 (by have e2 : (48 : UInt8).toNat = 48 := rfl; omega)⟩
        have hb48 : ((c.toNat : Int) == 48) = false := by simpa using hc48
        simp -dsimp (discharger := omega) [B36]
        with_reducible refine call_ret hT ?_
        simp -dsimp (discharger := omega) [hb48]
        with_reducible refine call_ret hA ?_
        simp -dsimp (discharger := omega) []
        exact .refl _
end
end Go.Proofs.YtmmcnholpnediaaDoor.Am
namespace Go.Proofs.YtmmcnholpnediaaDoor.Am
noncomputable section
/- CONTRACTS: addresses of texts. -/
theorem step32 {a x : Nat} (ha : a < 2 ^ 24) (hx : x < 256) : orI .u32 (shlI .u32 (a : Int) 8) (x : Int) = ((256 * a + x : Nat) : Int) := by
  have e : shlI .u32 (a : Int) 8 = ((a * 256 : Nat) : Int) := by
    have : shlI .u32 (a : Int) 8 = IntKind.u32.wrap ((a : Int) * 256) := rfl
    rw [this]
    simp (discharger := omega) []
  rw [e, orN (k := .u32) rfl (by show a * 256 < 4294967296; omega) (by show x < 4294967296; omega)]
  have := Nat.two_pow_add_eq_or_of_lt (i := 8) hx a
  rw [show a * 256 = 2 ^ 8 * a by omega, ← this]
theorem andI64 {x y : Nat} (hx : x < 9223372036854775808) (hy : y < 9223372036854775808) : andI .i64 (x : Int) (y : Int) = ((x &&& y : Nat) : Int) := by
  have h1 : x < 2 ^ IntKind.i64.bits := by show x < 2 ^ 64; omega
  have h2 : y < 2 ^ IntKind.i64.bits := by show y < 2 ^ 64; omega
  rw [andI, BitVec.toNat_and, ofInt_nat h1, ofInt_nat h2]
  have := @Nat.and_le_left x y
  exact wrap64 (by omega) (by omega)
theorem oct_none {p : List UInt8} (h : numO p = none) : octV p = none := by
  cases ho : octV p with
  | none => rfl
  | some v =>
    obtain ⟨-, -, h3, -, -⟩ := octV_some ho
    unfold octV at ho
    split at ho
    · rename_i hc
      unfold numO at h
      rw [if_pos ⟨hc.1, by omega⟩] at h; cases h
    · cases ho
theorem oct_num {p : List UInt8} {v : Nat} (h : numO p = some v) : octV p = if v ≤ 255 then some v else none := by
  unfold numO at h
  split at h
  · rename_i hc
    cases h
    unfold octV
    by_cases h2 : decV p ≤ 255
    · rw [if_pos ⟨hc.1, h2⟩, if_pos h2]
    · rw [if_neg (fun x => h2 x.2), if_neg h2]
  · cases h
theorem lens_mem1 : ∀ {l : List (List UInt8)} {x : List UInt8}, x ∈ l → x.length + 1 ≤ lens l
  | a :: l, x, h => by
    rcases List.mem_cons.1 h with rfl | h
    · simp only [lens]; omega
    · have := lens_mem1 h; simp only [lens]; omega
theorem octs_drop {ps : List (List UInt8)} {i : Nat} {x : List UInt8} (h : ps[i]? = some x) (a : Nat) : octs (ps.drop i) a = match octV x with
    | none => none
    | some v => octs (ps.drop (i + 1)) (256 * a + v) := by
  obtain ⟨hlt, rfl⟩ := List.getElem?_eq_some_iff.1 h
  rw [List.drop_eq_getElem_cons hlt]; rfl
def IpInv (ps : List (List UInt8)) (sl : Value) (h0 : AHeap) (n0 : Nat) (r : Nat) (σ : Fr) (h : AHeap) (n : Nat) : Prop :=
  h = h0 ∧ ∃ (i a : Nat) (e : Int), i + r = 4 ∧ n0 ≤ n ∧ n ≤ n0 + 5 * i ∧ (e = 0 ∧ octs (ps.drop i) a = octs ps 0 ∨ e = 24 ∧ octs ps 0 = none) ∧ a < 256 ^ i ∧ σ = [(5, .int .u32 (a : Int)), (6, .int .i64 e), (16, sl), (17, .int .i64 4), (18, .int .i64 (i : Int))]
def IpPost (ps : List (List UInt8)) (h0 : AHeap) (n0 : Nat) (e : Ex) (σ' : Fr) (h' : AHeap) (n' : Nat) : Prop :=
  h' = h0 ∧ n' ≤ n0 + 20 ∧ (e = .exit 0 ∧ (∃ (a : Nat) (c : Int), a < 4294967296 ∧ (octs ps 0 = some a ∧ c = 0 ∨ octs ps 0 = none ∧ c = 24) ∧ σ'.get 5 = some (.int .u32 (a : Int)) ∧ σ'.get 6 = some (.int .i64 c)) ∨ e = .ret ∧ octs ps 0 = none ∧ σ'.get 2 = some (.int .u32 0) ∧ σ'.get 3 = some (.int .i64 5))
set_option maxHeartbeats 1000000 in
theorem ip_loop {ps : List (List UInt8)} (hps : ps.length = 4) (hlen : ∀ x, x ∈ ps → x.length < 100000) {z o g k : Nat} {h0 : AHeap} (hr : h0.read z g o 4 = some (strsL ps)) {n0 : Nat} (hw : WF h0 n0) (he : HasErrs h0) (hn0 : 4096 ≤ n0) :
    ∀ (r : Nat) (σ : Fr) (h : AHeap) (n : Nat), IpInv ps (.slice (some ⟨z, o, some g⟩) 4 k) h0 n0 r σ h n → HasCode EV15 (.loop F34L0) σ h n (IpPost ps h0 n0) := by
  refine wx_inv _ fun r σ h n hI => ?_
  obtain ⟨rfl, i, a, e, hi, hn1, hn2, ho, ha, rfl⟩ := hI
  cases r with
  | zero =>
    obtain rfl : i = 4 := by omega
    have e4 : octs (ps.drop 4) a = some a := by rw [List.drop_of_length_le (by omega)]; rfl
    rw [e4] at ho
    simp -dsimp (discharger := omega) [F34L0]
    exact ⟨rfl, by omega, .inl ⟨rfl, a, e, ha, by rcases ho with ⟨h1, h2⟩ | ⟨h1, h2⟩; exact .inl ⟨h2.symm, h1⟩; exact .inr ⟨h2, h1⟩, by simp, by simp⟩⟩
  | succ r =>
    have hlt : i < ps.length := by omega
    have hx := List.getElem?_eq_getElem hlt
    have hxl := hlen _ (List.getElem_mem hlt)
    generalize ps[i] = x at hx hxl
    have hrd := read_one hr (strsL_get? hx) (by omega)
    rw [octs_drop hx] at ho
    have hpw : 256 ^ i ≤ 256 ^ 3 := Nat.pow_le_pow_right (by omega) (by omega)
    have hN := number_ret hxl (hw.mono hn1) he (by omega : 4096 ≤ n)
    cases hv : numO x with
    | none =>
      rw [numV_none hv] at hN
      rw [oct_none hv] at ho
      have hno : octs ps 0 = none := by rcases ho with ⟨-, h2⟩ | ⟨-, h2⟩; exact h2.symm; exact h2
      simp -dsimp (discharger := omega) [F34L0, hrd]
      with_reducible refine call_ret hN ?_
      simp -dsimp (discharger := omega) []
      exact ⟨rfl, by omega, .inr ⟨rfl, hno, by simp, by simp⟩⟩
    | some v =>
      have hvl := numO_lt hv
      have eV : numV x = .tuple #[.int .i64 (v : Int), .bool true] := by simp [numV, hv]
      rw [eV] at hN
      rw [oct_num hv] at ho
      have hand : andI .i64 (v : Int) 255 = ((v % 256 : Nat) : Int) := by
        have := andI64 (x := v) (y := 255) (by omega) (by omega)
        rw [show (255 : Nat) = 2 ^ 8 - 1 from rfl, Nat.and_two_pow_sub_one_eq_mod] at this
        exact this
      have hst := step32 (a := a) (x := v % 256) (by omega) (by omega)
      have hpow : 256 * a + v % 256 < 256 ^ (i + 1) := by rw [Nat.pow_succ]; omega
      have hm : v % 256 < 256 := by omega
      by_cases h2 : v ≤ 255
      · rw [if_pos h2] at ho
        simp only at ho
        have hmv : v % 256 = v := by omega
        have ho' : e = 0 ∧ octs (ps.drop (i + 1)) (256 * a + v % 256) = octs ps 0 ∨ e = 24 ∧ octs ps 0 = none := by rw [hmv]; exact ho
        generalize v % 256 = w at *
        simp -dsimp (discharger := omega) [F34L0, hrd]
        with_reducible refine call_ret hN ?_
        simp -dsimp (discharger := omega) [hand, hst]
        exact .mk' r (by omega) [(5, .int .u32 ((256 * a + w : Nat) : Int)), (6, .int .i64 e), (16, .slice (some ⟨z, o, some g⟩) 4 k), (17, .int .i64 4), (18, .int .i64 ((i + 1 : Nat) : Int))] h (by simp) (.refl _) ⟨rfl, i + 1, _, e, by omega, by omega, by omega, ho', hpow, rfl⟩
      · rw [if_neg h2] at ho
        have hno : octs ps 0 = none := by rcases ho with ⟨-, h2⟩ | ⟨-, h2⟩; exact h2.symm; exact h2
        generalize v % 256 = w at *
        simp -dsimp (discharger := omega) [F34L0, hrd]
        with_reducible refine call_ret hN ?_
        simp -dsimp (discharger := omega) [hand, hst]
        exact .mk' r (by omega) [(5, .int .u32 ((256 * a + w : Nat) : Int)), (6, .int .i64 24), (16, .slice (some ⟨z, o, some g⟩) 4 k), (17, .int .i64 4), (18, .int .i64 ((i + 1 : Nat) : Int))] h (by simp) (.refl _) ⟨rfl, i + 1, _, 24, by omega, by omega, by omega, .inr ⟨rfl, hno⟩, hpow, rfl⟩
def IpV (s : List UInt8) (v : Value) : Prop := ∃ (a : Nat) (e : Int), a < 4294967296 ∧ v = .tuple #[.int .u32 (a : Int), .int .i64 e] ∧ (ipO s = some a ∧ e = 0 ∨ ipO s = none ∧ (e = 5 ∨ e = 24))
theorem ip_ret {s : List UInt8} (hs : s.length < 100000) {h : AHeap} {n : Nat} (hw : WF h n) (he : HasErrs h) (hn : 4096 ≤ n) : ∃ v, IpV s v ∧ Ret EV15 34 [.string ⟨s.toArray⟩] h n v [] (n + 21) := by
  refine rex34 ?_
  simp -dsimp (discharger := omega) [B34]
  with_reducible refine call_ret (split_ret s 46 (by omega) _ _) ?_
  have hlens := splitL_lens 46 s
  have hmem : ∀ x, x ∈ splitL 46 s → x.length < 100000 := fun x hx => by have := lens_mem1 hx; omega
  unfold IpV ipO
  generalize splitL 46 s = ps at *
  have hs1 : HSub h (h.put n (.cells (some 9) (strsL ps) ps.length)) := (HSub.refl h).new hw (Nat.le_refl n) _
  by_cases h4 : ps.length = 4
  · rw [if_pos h4]
    have hN : (strsL ps).length = 4 := by simp [h4]
    simp -dsimp (discharger := omega) [h4]
    refine loop_use (ip_loop (ps := ps) h4 hmem (z := n) (o := 0) (g := 4) (k := 2) (h0 := h.put n (.cells (some 9) (strsL ps) 4)) (by simp [hN, List.take_of_length_le]) (n0 := n + 1) (hw.put _ (by omega) (by omega)) (he.put hn _) (by omega) 4 [(5, .int .u32 ((0 : Nat) : Int)), (6, .int .i64 0), (16, .slice (some ⟨n, 0, some 4⟩) 4 2), (17, .int .i64 4), (18, .int .i64 ((0 : Nat) : Int))] _ _ ⟨rfl, 0, 0, 0, rfl, Nat.le_refl _, Nat.le_refl _, .inl ⟨rfl, rfl⟩, by decide, rfl⟩) (by simp) (.refl _) ?_
    rw [h4] at hs1
    rintro e σ' h' n' ⟨rfl, hn', ⟨rfl, a, c, ha, ho, g5, g6⟩ | ⟨rfl, ho, g2, g3⟩⟩
    · simp -dsimp (discharger := omega) [g5, g6]
      exact ⟨⟨a, ha, c, ⟨rfl, rfl⟩, by rcases ho with h | ⟨h1, h2⟩; exact .inl h; exact .inr ⟨h1, .inr h2⟩⟩, hs1, by omega⟩
    · simp -dsimp (discharger := omega) [g2, g3]
      exact ⟨⟨0, by omega, 5, ⟨rfl, rfl⟩, .inr ⟨ho, .inl rfl⟩⟩, hs1, by omega⟩
  · rw [if_neg h4]
    simp -dsimp (discharger := omega) []
    exact ⟨⟨0, by omega, 5, ⟨rfl, rfl⟩, .inl rfl⟩, hs1⟩
end
end Go.Proofs.YtmmcnholpnediaaDoor.Am
namespace Go.Proofs.YtmmcnholpnediaaDoor.Am
noncomputable section
/- CONTRACTS: what a row's word gives. -/
section
variable {h : AHeap} {p : Nat} {v : Value} {i : Nat} {ws : List (List UInt8)} {x : List UInt8} (hp : h.get p = some (rowB v (i : Int) 0)) (hv : StrV h v ws) (hl : ws.length < 1000000) (hx : ws[i]? = some x) (hpq : ∀ q m, h.get q = some (.cells (some 9) (strsL ws) m) → ¬ p = q) (hxl : x.length < 100000)
  {J : Nat} (hJ : J = i + 1) {n : Nat} (hw : WF h n) (hpn : p < n) (hp0 : 4096 ≤ p) (he : HasErrs h)
include hp hv hl hx hpq hxl hJ hw hpn hp0 he
theorem rip_ret : ∃ (a : Nat) (e : Int), a < 4294967296 ∧ (ipO x = some a ∧ e = 0 ∨ ipO x = none ∧ ¬ e = 0 ∧ a = 0) ∧ Ret EV15 14 [rowP p] h n (.int .u32 (a : Int)) [(p, rowB v (J : Int) e)] (n + 21) := by
  have hwd : Ret EV15 29 [rowP p] h n (.string ⟨x.toArray⟩) [(p, rowB v (J : Int) 0)] n := by subst hJ; exact word_ret hp hv hl hx hpq _
  obtain ⟨u, ⟨a, e, ha, rfl, hc⟩, hI⟩ := ip_ret hxl (hw.put (i := p) (rowB v (J : Int) 0) hpn (Nat.le_refl _)) (he.put hp0 _) (by omega)
  have hp1 : (h.put p (rowB v (J : Int) 0)).get p = some (rowB v (J : Int) 0) := by simp
  rcases hc with ⟨ho, rfl⟩ | ⟨ho, hne⟩
  · refine ⟨a, 0, ha, .inl ⟨ho, rfl⟩, ?_⟩
    refine rsx14 (by simp) (by simp [hp]) ?_
    simp -dsimp (discharger := omega) [B14]
    with_reducible refine call_ret hwd ?_
    simp -dsimp (discharger := omega) []
    with_reducible refine call_ret hI ?_
    simp -dsimp (discharger := omega) []
    with_reducible refine call_ret (fail_yes hp1 _ _) ?_
    simp -dsimp (discharger := omega) []
    with_reducible refine call_ret (err_ret (v := v) (i := (J : Int)) (e := 0) (by simp) _) ?_
    simp -dsimp (discharger := omega) []
    exact .over rfl
  · have hne0 : ¬ e = 0 := by rcases hne with rfl | rfl <;> decide
    refine ⟨0, e, by omega, .inr ⟨ho, hne0, rfl⟩, ?_⟩
    refine rsx14 (by simp) (by simp [hp]) ?_
    simp -dsimp (discharger := omega) [B14]
    with_reducible refine call_ret hwd ?_
    simp -dsimp (discharger := omega) []
    with_reducible refine call_ret hI ?_
    simp -dsimp (discharger := omega) []
    with_reducible refine call_ret (fail_yes hp1 _ _) ?_
    simp -dsimp (discharger := omega) []
    with_reducible refine call_ret (err_ret (v := v) (i := (J : Int)) (e := e) (by simp) _) ?_
    simp -dsimp (discharger := omega) []
    exact .over rfl
end
/- Prefixes. -/
def pa15 : ACode := match B15 with | .seq a _ => a | c => c
def pb15 : ACode := match B15 with | .seq _ (.seq b _) => b | c => c
def pc15 : ACode := match B15 with | .seq _ (.seq _ (.seq c _)) => c | c => c
def pd15 : ACode := match B15 with | .seq _ (.seq _ (.seq _ (.seq d _))) => d | c => c
def pe15 : ACode := match B15 with | .seq _ (.seq _ (.seq _ (.seq _ (.seq e _)))) => e | c => c
def pr15 : ACode := match B15 with | .seq _ (.seq _ (.seq _ (.seq _ (.seq _ r)))) => r | c => c
theorem b15_eq : B15 = .seq pa15 (.seq pb15 (.seq pc15 (.seq pd15 (.seq pe15 pr15)))) := rfl
def pfVal (E : Int) (a b : Nat) : Value := if E = 0 then .tuple #[.int .u32 (a : Int), .int .i64 (b : Int)] else .tuple #[.int .u32 0, .int .i64 0]
theorem pf_rest {H : AHeap} {p : Nat} {v : Value} {J : Int} (hp : H.get p = some (rowB v J 0)) {n a b : Nat} (ha : a < 4294967296) (hb : b < 10000000000) {ok : Bool} {ea : Int} (hea : ea = 0 ∨ ea = 5 ∨ ea = 24) {E : Int}
    (hE : E = 5 ∧ (ea = 5 ∨ ok = false) ∨ E = 24 ∧ ea = 0 ∧ ok = true ∧ (32 < b ∨ b ≤ 32 ∧ ¬ maskd a b = a) ∨ E = ea ∧ ok = true ∧ (ea = 24 ∨ ea = 0 ∧ b ≤ 32 ∧ maskd a b = a))
    {σ : Fr} (g0 : σ.get 0 = some (rowP p)) (g7 : σ.get 7 = some (.int .u32 (a : Int))) (g8 : σ.get 8 = some (.int .i64 ea)) (g9 : σ.get 9 = some (.int .i64 (b : Int))) (g10 : σ.get 10 = some (.bool ok)) {Q : Value → AHeap → Nat → Prop}
    (hQ : Q (pfVal E a b) (H.put p (rowB v J E)) n) : wx EV15 pr15 σ H n (Done [.tmp 2, .tmp 3] Q) ⟨⟩ := by
  have fy := fun c => fail_yes hp c n
  have hg : ∀ c, (H.put p (rowB v J c)).get p = some (rowB v J c) := fun c => by simp
  rcases hE with ⟨rfl, h5⟩ | ⟨rfl, rfl, rfl, hb2⟩ | ⟨rfl, rfl, h24⟩
  · have hV : pfVal 5 a b = .tuple #[.int .u32 0, .int .i64 0] := rfl
    rw [hV] at hQ
    rcases h5 with rfl | rfl
    · simp -dsimp (discharger := omega) [pr15, B15, g0, g8]
      with_reducible refine call_ret (fy 5) ?_
      simp -dsimp (discharger := omega) [g0]
      with_reducible refine call_ret (err_ret (hg 5) _) ?_
      simp -dsimp (discharger := omega) []
      exact hQ
    · rcases hea with rfl | rfl | rfl
      · simp -dsimp (discharger := omega) [pr15, B15, g0, g8, g10]
        with_reducible refine call_ret (fy 5) ?_
        simp -dsimp (discharger := omega) [g0]
        with_reducible refine call_ret (err_ret (hg 5) _) ?_
        simp -dsimp (discharger := omega) []
        exact hQ
      · simp -dsimp (discharger := omega) [pr15, B15, g0, g8]
        with_reducible refine call_ret (fy 5) ?_
        simp -dsimp (discharger := omega) [g0]
        with_reducible refine call_ret (err_ret (hg 5) _) ?_
        simp -dsimp (discharger := omega) []
        exact hQ
      · simp -dsimp (discharger := omega) [pr15, B15, g0, g8, g10]
        with_reducible refine call_ret (fy 5) ?_
        simp -dsimp (discharger := omega) [g0]
        with_reducible refine call_ret (err_ret (hg 5) _) ?_
        simp -dsimp (discharger := omega) []
        exact hQ
  · have hV : pfVal 24 a b = .tuple #[.int .u32 0, .int .i64 0] := rfl
    rw [hV] at hQ
    rcases hb2 with hb2 | ⟨hb2, hm⟩
    · simp -dsimp (discharger := omega) [pr15, B15, g0, g8, g9, g10]
      with_reducible refine call_ret (fy 24) ?_
      simp -dsimp (discharger := omega) [g0]
      with_reducible refine call_ret (err_ret (hg 24) _) ?_
      simp -dsimp (discharger := omega) []
      exact hQ
    · have hm' : ¬ ((maskd a b : Nat) : Int) = (a : Int) := by omega
      have hbm : (((maskd a b : Nat) : Int) != (a : Int)) = true := by simpa using hm'
      simp -dsimp (discharger := omega) [pr15, B15, g7, g8, g9, g10]
      with_reducible refine call_ret (wmasked_ret ha hb2) ?_
      simp -dsimp (discharger := omega) [g0, g7, hbm]
      with_reducible refine call_ret (fy 24) ?_
      simp -dsimp (discharger := omega) [g0]
      with_reducible refine call_ret (err_ret (hg 24) _) ?_
      simp -dsimp (discharger := omega) []
      exact hQ
  · rcases h24 with rfl | ⟨rfl, hb2, hm⟩
    · have hV : pfVal 24 a b = .tuple #[.int .u32 0, .int .i64 0] := rfl
      rw [hV] at hQ
      simp -dsimp (discharger := omega) [pr15, B15, g0, g8, g10]
      with_reducible refine call_ret (fy 24) ?_
      simp -dsimp (discharger := omega) [g0]
      with_reducible refine call_ret (err_ret (hg 24) _) ?_
      simp -dsimp (discharger := omega) []
      exact hQ
    · have hV : pfVal 0 a b = .tuple #[.int .u32 (a : Int), .int .i64 (b : Int)] := rfl
      rw [hV] at hQ
      have hmr := wmasked_ret ha hb2 (h := H) (n := n)
      rw [hm] at hmr
      simp -dsimp (discharger := omega) [pr15, B15, g7, g8, g9, g10]
      with_reducible refine call_ret hmr ?_
      simp -dsimp (discharger := omega) [g0, g7, g8]
      with_reducible refine call_ret (fy 0) ?_
      simp -dsimp (discharger := omega) [g0]
      with_reducible refine call_ret (err_ret (hg 0) _) ?_
      simp -dsimp (discharger := omega) [g7, g9]
      exact hQ
def PfOk (x : List UInt8) (a b : Nat) : Prop := ipO (cutA x 47) = some a ∧ (cutB x 47 = false ∧ b = 32 ∨ cutB x 47 = true ∧ numO (cutZ x 47) = some b ∧ b ≤ 32) ∧ maskd a b = a
def PfE (a b : Nat) (ea : Int) (ok : Bool) (E : Int) : Prop := E = 5 ∧ (ea = 5 ∨ ok = false) ∨ E = 24 ∧ ea = 0 ∧ ok = true ∧ (32 < b ∨ b ≤ 32 ∧ ¬ maskd a b = a) ∨ E = ea ∧ ok = true ∧ (ea = 24 ∨ ea = 0 ∧ b ≤ 32 ∧ maskd a b = a)
def PfRes (x : List UInt8) (a b : Nat) (ea : Int) (ok : Bool) : Prop := ∃ (a' b' : Nat) (E : Int), a' < 4294967296 ∧ b' < 10000000000 ∧ (PfOk x a' b' ∧ E = 0 ∨ ¬ E = 0 ∧ a' = 0 ∧ b' = 0 ∧ ∀ a b, ¬ PfOk x a b) ∧ pfVal E a b = .tuple #[.int .u32 (a' : Int), .int .i64 (b' : Int)] ∧ PfE a b ea ok E
theorem pf_key {x : List UInt8} {a b : Nat} {ea : Int} {ok : Bool} (ha : a < 4294967296) (hc : ipO (cutA x 47) = some a ∧ ea = 0 ∨ ipO (cutA x 47) = none ∧ (ea = 5 ∨ ea = 24)) (hb : b < 10000000000)
    (hok : ok = true → (cutB x 47 = false ∧ b = 32 ∨ cutB x 47 = true ∧ numO (cutZ x 47) = some b)) (hno : ok = false → numO (cutZ x 47) = none ∧ cutB x 47 = true) : PfRes x a b ea ok := by
  have bad : ∀ E : Int, ¬ E = 0 → (∀ a b, ¬ PfOk x a b) → PfE a b ea ok E → PfRes x a b ea ok := fun E hE hn hh => ⟨0, 0, E, by omega, by omega, .inr ⟨hE, rfl, rfl, hn⟩, by rw [pfVal, if_neg hE]; rfl, hh⟩
  cases ok with
  | false =>
    obtain ⟨h1, h2⟩ := hno rfl
    refine bad 5 (by decide) (fun a' b' ⟨_, h3, _⟩ => ?_) (.inl ⟨rfl, .inr rfl⟩)
    rcases h3 with ⟨h3, -⟩ | ⟨-, h3, -⟩
    · rw [h2] at h3; cases h3
    · rw [h1] at h3; cases h3
  | true =>
    have hok' := hok rfl
    rcases hc with ⟨ho, rfl⟩ | ⟨ho, h24⟩
    · have uniq : ∀ a' b', PfOk x a' b' → a' = a ∧ b' = b := fun a' b' ⟨h1, h3, _⟩ => by
        rw [ho] at h1
        refine ⟨(Option.some.inj h1).symm, ?_⟩
        rcases hok' with ⟨c1, c2⟩ | ⟨c1, c2⟩
        · rcases h3 with ⟨-, h3⟩ | ⟨h3, -⟩
          · rw [h3, c2]
          · rw [c1] at h3; cases h3
        · rcases h3 with ⟨h3, -⟩ | ⟨-, h3, -⟩
          · rw [c1] at h3; cases h3
          · rw [c2] at h3; exact (Option.some.inj h3).symm
      by_cases hb2 : b ≤ 32
      · by_cases hm : maskd a b = a
        · refine ⟨a, b, 0, ha, hb, .inl ⟨⟨ho, ?_, hm⟩, rfl⟩, rfl, .inr (.inr ⟨rfl, rfl, .inr ⟨rfl, hb2, hm⟩⟩)⟩
          rcases hok' with c | ⟨c1, c2⟩
          · exact .inl c
          · exact .inr ⟨c1, c2, hb2⟩
        · refine bad 24 (by decide) (fun a' b' hk => ?_) (.inr (.inl ⟨rfl, rfl, rfl, .inr ⟨hb2, hm⟩⟩))
          obtain ⟨rfl, rfl⟩ := uniq a' b' hk
          exact hm hk.2.2
      · refine bad 24 (by decide) (fun a' b' hk => ?_) (.inr (.inl ⟨rfl, rfl, rfl, .inl (by omega)⟩))
        obtain ⟨rfl, rfl⟩ := uniq a' b' hk
        rcases hk.2.1 with ⟨-, h3⟩ | ⟨-, -, h3⟩ <;> omega
    · have hn : ∀ a b, ¬ PfOk x a b := fun a' b' ⟨h1, _, _⟩ => by rw [ho] at h1; cases h1
      rcases h24 with rfl | rfl
      · exact bad 5 (by decide) hn (.inl ⟨rfl, .inl rfl⟩)
      · exact bad 24 (by decide) hn (.inr (.inr ⟨rfl, rfl, .inl rfl⟩))
theorem cutA_le (s : List UInt8) (c : UInt8) : (cutA s c).length ≤ s.length := by
  unfold cutA; split
  · exact Nat.le_refl _
  · rw [List.length_take]; omega
theorem cutZ_le (s : List UInt8) (c : UInt8) : (cutZ s c).length ≤ s.length := by
  unfold cutZ; split
  · exact Nat.zero_le _
  · rw [List.length_drop]; omega
section
variable {h : AHeap} {p : Nat} {v : Value} {i : Nat} {ws : List (List UInt8)} {x : List UInt8} (hp : h.get p = some (rowB v (i : Int) 0)) (hv : StrV h v ws) (hl : ws.length < 1000000) (hx : ws[i]? = some x) (hpq : ∀ q m, h.get q = some (.cells (some 9) (strsL ws) m) → ¬ p = q) (hxl : x.length < 100000)
  {J : Nat} (hJ : J = i + 1) {n : Nat} (hw : WF h n) (hpn : p < n) (hp0 : 4096 ≤ p) (he : HasErrs h)
include hp hv hl hx hpq hxl hJ hw hpn hp0 he
set_option maxHeartbeats 1000000 in
theorem pref_ret : ∃ (a b : Nat) (e : Int), a < 4294967296 ∧ b < 10000000000 ∧ (PfOk x a b ∧ e = 0 ∨ ¬ e = 0 ∧ a = 0 ∧ b = 0 ∧ ∀ a b, ¬ PfOk x a b) ∧ Ret EV15 15 [rowP p] h n (.tuple #[.int .u32 (a : Int), .int .i64 (b : Int)]) [(p, rowB v (J : Int) e)] (n + 40) := by
  have hwd : Ret EV15 29 [rowP p] h n (.string ⟨x.toArray⟩) [(p, rowB v (J : Int) 0)] n := by subst hJ; exact word_ret hp hv hl hx hpq _
  have hw1 : WF (h.put p (rowB v (J : Int) 0)) n := hw.put (i := p) (rowB v (J : Int) 0) hpn (Nat.le_refl _)
  have he1 : HasErrs (h.put p (rowB v (J : Int) 0)) := he.put hp0 _
  have hp1 : (h.put p (rowB v (J : Int) 0)).get p = some (rowB v (J : Int) 0) := by simp
  have lA := cutA_le x 47
  have lZ := cutZ_le x 47
  obtain ⟨u, ⟨a, ea, ha, rfl, hc⟩, hI⟩ := ip_ret (s := cutA x 47) (by omega) hw1 he1 (by omega)
  have hN := number_ret (s := cutZ x 47) (by omega) (hw1.mono (by omega : n ≤ n + 21)) he1 (by omega)
  have hcut := cut_ret x 47 (by omega) (h.put p (rowB v (J : Int) 0)) n
  have hcut' : Ret EV15 21 [.string ⟨x.toArray⟩, .string ⟨#[47]⟩] (h.put p (rowB v (J : Int) 0)) n (.tuple #[.string ⟨(cutA x 47).toArray⟩, .string ⟨(cutZ x 47).toArray⟩, .bool (cutB x 47)]) [] n := hcut
  have hea : ea = 0 ∨ ea = 5 ∨ ea = 24 := by rcases hc with ⟨-, h⟩ | ⟨-, h | h⟩; exact .inl h; exact .inr (.inl h); exact .inr (.inr h)
  have hp1' := hp1
  cases hB : cutB x 47 with
  | false =>
    obtain ⟨a', b', E, ha', hb', hres, hV, hE⟩ := pf_key (x := x) (a := a) (b := 32) (ea := ea) (ok := true) ha hc (by omega) (fun _ => .inl ⟨hB, rfl⟩) (fun h => by cases h)
    rw [hB] at hcut'
    refine ⟨a', b', E, ha', hb', hres, ?_⟩
    rw [← hV]
    refine rsx15 (by simp) (by simp [hp]) ?_
    rw [b15_eq]
    simp -dsimp (discharger := omega) [pa15, pb15, pc15, pd15, pe15, B15]
    with_reducible refine call_ret hwd ?_
    simp -dsimp (discharger := omega) []
    with_reducible refine call_ret hcut' ?_
    simp -dsimp (discharger := omega) []
    with_reducible refine call_ret hI ?_
    simp -dsimp (discharger := omega) []
    refine pf_rest (a := a) (b := 32) (ok := true) (ea := ea) hp1 ha (by omega) hea hE (by simp) (by simp) (by simp) (by simp) (by simp) ?_
    refine ⟨rfl, ?_, by omega⟩
    exact .over rfl
  | true =>
    rw [hB] at hcut'
    cases hN0 : numO (cutZ x 47) with
    | none =>
      obtain ⟨a', b', E, ha', hb', hres, hV, hE⟩ := pf_key (x := x) (a := a) (b := 0) (ea := ea) (ok := false) ha hc (by omega) (fun h => by cases h) (fun _ => ⟨hN0, hB⟩)
      rw [numV_none hN0] at hN
      refine ⟨a', b', E, ha', hb', hres, ?_⟩
      rw [← hV]
      refine rsx15 (by simp) (by simp [hp]) ?_
      rw [b15_eq]
      simp -dsimp (discharger := omega) [pa15, pb15, pc15, pd15, pe15, B15]
      with_reducible refine call_ret hwd ?_
      simp -dsimp (discharger := omega) []
      with_reducible refine call_ret hcut' ?_
      simp -dsimp (discharger := omega) []
      with_reducible refine call_ret hI ?_
      simp -dsimp (discharger := omega) []
      with_reducible refine call_ret hN ?_
      simp -dsimp (discharger := omega) []
      refine pf_rest (a := a) (b := 0) (ok := false) (ea := ea) hp1 ha (by omega) hea hE (by simp) (by simp) (by simp) (by simp) (by simp) ?_
      refine ⟨rfl, ?_, by omega⟩
      exact .over rfl
    | some b =>
      have hbl := numO_lt hN0
      obtain ⟨a', b', E, ha', hb', hres, hV, hE⟩ := pf_key (x := x) (a := a) (b := b) (ea := ea) (ok := true) ha hc hbl (fun _ => .inr ⟨hB, hN0⟩) (fun h => by cases h)
      have eV : numV (cutZ x 47) = .tuple #[.int .i64 (b : Int), .bool true] := by simp [numV, hN0]
      rw [eV] at hN
      refine ⟨a', b', E, ha', hb', hres, ?_⟩
      rw [← hV]
      refine rsx15 (by simp) (by simp [hp]) ?_
      rw [b15_eq]
      simp -dsimp (discharger := omega) [pa15, pb15, pc15, pd15, pe15, B15]
      with_reducible refine call_ret hwd ?_
      simp -dsimp (discharger := omega) []
      with_reducible refine call_ret hcut' ?_
      simp -dsimp (discharger := omega) []
      with_reducible refine call_ret hI ?_
      simp -dsimp (discharger := omega) []
      with_reducible refine call_ret hN ?_
      simp -dsimp (discharger := omega) []
      refine pf_rest (a := a) (b := b) (ok := true) (ea := ea) hp1 ha hbl hea hE (by simp) (by simp) (by simp) (by simp) (by simp) ?_
      refine ⟨rfl, ?_, by omega⟩
      exact .over rfl
end
end
end Go.Proofs.YtmmcnholpnediaaDoor.Am
