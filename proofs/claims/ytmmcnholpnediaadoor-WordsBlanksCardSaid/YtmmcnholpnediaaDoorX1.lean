/- Contracts of the program's functions (X1). -/
import Derived.Test.YtmmcnholpnediaaDoorXEq
import Derived.Test.YtmmcnholpnediaaDoorLJ
import Derived.Test.YtmmcnholpnediaaDoorK
import Derived.Test.YtmmcnholpnediaaDoorL8
namespace Go.Proofs.YtmmcnholpnediaaDoor.Am
noncomputable section
/- CONTRACT: strings.ContainsAny(w, " \t#") of a word that has none of them. -/
def cleanC (c : UInt8) : Prop := c.toNat < 128 ∧ ¬ c.toNat = 32 ∧ ¬ c.toNat = 9 ∧ ¬ c.toNat = 35
theorem asT_len : asT.length = 256 := by simp [asT]
theorem asT_at {c : UInt8} (h : cleanC c) : asT[c.toNat]? = some (.bool false) := by
  obtain ⟨h1, h2, h3, h4⟩ := h
  have hb : ∀ x : Nat, ¬ c.toNat = x → Nat.beq c.toNat x = false := fun x hx => by
    cases hh : Nat.beq c.toNat x with
    | true => exact absurd (Nat.eq_of_beq_eq_true hh) hx
    | false => rfl
  simp only [asT, List.getElem?_map, List.getElem?_range (show c.toNat < 256 by omega), Option.map_some, hb _ h2, hb _ h3, hb _ h4, Bool.or_false]
theorem idx_none {c : UInt8} (h : cleanC c) : Lib.indexByte [32, 9, 35] c = -1 := by
  obtain ⟨h1, h2, h3, h4⟩ := h
  have hne : ∀ x : UInt8, ¬ c.toNat = x.toNat → ¬ c = x := fun x hx e => hx (by rw [e])
  have e1 : decide (Lib.indexByte [32, 9, 35] c ≥ 0) = List.contains [32, 9, 35] c := idx_any _ _
  have e2 : List.contains [32, 9, 35] c = false := by
    simp only [List.contains, List.elem]
    have a1 : (c == 32) = false := by simpa using hne 32 h2
    have a2 : (c == 9) = false := by simpa using hne 9 h3
    have a3 : (c == 35) = false := by simpa using hne 35 h4
    rw [a1, a2, a3]
  rw [e2] at e1
  have := Lib.indexByte_ge [32, 9, 35] c
  have := of_decide_eq_false e1
  omega
theorem rune_none {c : UInt8} (hc : cleanC c) (h : AHeap) (n : Nat) : Ret EV15 41 [.string ⟨#[32, 9, 35]⟩, .int .i32 (c.toNat : Int)] h n (.int .i64 (-1)) [] n := by
  refine rsx41 (by simp) (by simp) ?_
  have h1 := hc.1
  simp -dsimp (discharger := omega) [B41]
  with_reducible refine call_ret (indexByte_ret [32, 9, 35] c h n) ?_
  rw [idx_none hc]
  simp -dsimp (discharger := omega) [HSub.refl]
def A1Inv (s : List UInt8) (h0 : AHeap) (n0 m : Nat) (σ : Fr) (h : AHeap) (n : Nat) : Prop :=
  ∃ j : Nat, j + m = s.length ∧ n = n0 + 1 ∧ h = h0.put n0 (.iter ⟨s.toArray⟩ j) ∧ σ = [(1, .string ⟨#[32, 9, 35]⟩), (45, .pointer (some ⟨n0, 0, some 0⟩))]
def A1Post (h0 : AHeap) (n0 : Nat) (e : Ex) (_ : Fr) (h' : AHeap) (n' : Nat) : Prop := e = .exit 2 ∧ n' = n0 + 1 ∧ HSub h0 h'
theorem any_loop1 {s : List UInt8} (_ : s.length < 100000) (hc : ∀ c ∈ s, cleanC c) {h0 : AHeap} {n0 : Nat} (hw : WF h0 n0) :
    ∀ (m : Nat) (σ : Fr) (h : AHeap) (n : Nat), A1Inv s h0 n0 m σ h n → HasCode EV15 (.loop F28L1) σ h n (A1Post h0 n0) := by
  refine wx_inv _ fun m σ h n hI => ?_
  obtain ⟨j, hj, rfl, rfl, rfl⟩ := hI
  cases m with
  | zero =>
    have hjl : j = s.length := by omega
    subst hjl
    simp -dsimp (discharger := omega) [F28L1]
    exact ⟨rfl, rfl, .new (.refl _) hw (Nat.le_refl _) _⟩
  | succ m =>
    have hlt : j < s.length := by omega
    obtain ⟨c, hcj⟩ : ∃ c, s[j]? = some c := ⟨_, List.getElem?_eq_getElem hlt⟩
    have hcm : c ∈ s := by obtain ⟨h1, rfl⟩ := List.getElem?_eq_some_iff.1 hcj; exact List.getElem_mem h1
    have hcc := hc c hcm
    have hc128 := hcc.1
    simp -dsimp (discharger := omega) [F28L1, decode_plain hcj hc128]
    with_reducible refine call_ret (rune_none hcc _ _) ?_
    simp -dsimp (discharger := omega) []
    exact .mk' m (by omega) [(1, .string ⟨#[32, 9, 35]⟩), (45, .pointer (some ⟨n0, 0, some 0⟩))] (h0.put n0 (.iter ⟨s.toArray⟩ (j + 1))) (by simp) (.over rfl) ⟨j + 1, by omega, rfl, rfl, rfl⟩
def A0Inv (s : List UInt8) (q : Nat) (h0 : AHeap) (n0 m : Nat) (σ : Fr) (h : AHeap) (n : Nat) : Prop :=
  ∃ j : Nat, j + m = s.length ∧ n = n0 ∧ h = h0 ∧ σ = [(0, .string ⟨s.toArray⟩), (6, .pointer (some ⟨q, 0, some 256⟩)), (8, .int .i64 (j : Int))]
def A0Post (h0 : AHeap) (n0 : Nat) (e : Ex) (_ : Fr) (h' : AHeap) (n' : Nat) : Prop := e = .exit 0 ∧ n' = n0 ∧ h' = h0
theorem contains_no {c : UInt8} (hc : cleanC c) {q : Nat} {h : AHeap} (hr : ∀ j v, asT[j]? = some v → h.read q 256 j 1 = some [v]) (n : Nat) : Ret EV15 46 [.pointer (some ⟨q, 0, some 256⟩), .int .u8 (c.toNat : Int)] h n (.bool false) [] n := by
  refine rsx46 (by simp) (by simp) ?_
  have h1 := hc.1
  have := hr _ _ (asT_at hc)
  simp -dsimp (discharger := omega) [B46, this, HSub.refl]
theorem any_loop0 {s : List UInt8} (hl : s.length < 100000) (hc : ∀ c ∈ s, cleanC c) {q : Nat} {h0 : AHeap} (hr : ∀ j v, asT[j]? = some v → h0.read q 256 j 1 = some [v]) {n0 : Nat} :
    ∀ (m : Nat) (σ : Fr) (h : AHeap) (n : Nat), A0Inv s q h0 n0 m σ h n → HasCode EV15 (.loop F28L0) σ h n (A0Post h0 n0) := by
  refine wx_inv _ fun m σ h n hI => ?_
  obtain ⟨j, hj, rfl, rfl, rfl⟩ := hI
  cases m with
  | zero =>
    have hjl : j = s.length := by omega
    subst hjl
    simp -dsimp (discharger := omega) [F28L0]
    exact ⟨rfl, rfl, rfl⟩
  | succ m =>
    have hlt : j < s.length := by omega
    obtain ⟨c, hcj⟩ : ∃ c, s[j]? = some c := ⟨_, List.getElem?_eq_getElem hlt⟩
    have hcm : c ∈ s := by obtain ⟨h1, rfl⟩ := List.getElem?_eq_some_iff.1 hcj; exact List.getElem_mem h1
    have hcc : s[j]'hlt = c := (List.getElem?_eq_some_iff.1 hcj).2
    simp -dsimp (discharger := omega) [F28L0, hcc]
    with_reducible refine call_ret (contains_no (hc c hcm) hr _) ?_
    simp -dsimp (discharger := omega) []
    exact .mk' m (by omega) [(0, .string ⟨s.toArray⟩), (6, .pointer (some ⟨q, 0, some 256⟩)), (8, .int .i64 ((j + 1 : Nat) : Int))] h (by simp) (.refl _) ⟨j + 1, by omega, rfl, rfl, rfl⟩
def B28g (Z : List Value) : ACode := (.seq (.region [⟨(some 4), (.mov (.c (.int .i64 0))), none, []⟩] none)
  (.seq (.seq (.region [⟨(some 11), (.mov (.t 1)), none, []⟩,
    ⟨(some 12), (.bin .eql (.t 11) (.c (.string ⟨#[]⟩))), none, []⟩] none)
  (.cond (.t 12)
  (.seq (.region [⟨(some 4), (.mov (.c (.int .i64 (-1)))), none, []⟩] none)
  .ret)
  .skip))
  (.seq (.seq (.region [⟨(some 13), (.mov (.t 1)), none, []⟩,
    ⟨(some 14), (.lenStr (.t 13)), none, []⟩,
    ⟨(some 15), (.bin .eql (.t 14) (.c (.int .i64 1))), none, []⟩] none)
  (.cond (.t 15)
  (.seq (.region [⟨(some 16), (.mov (.t 1)), none, []⟩,
    ⟨(some 17), (.indexStr (.t 16) (.c (.int .i64 0))), none, []⟩,
    ⟨(some 18), (.conv .i32 (.t 17)), none, []⟩,
    ⟨(some 5), (.mov (.t 18)), none, []⟩] none)
  (.seq (.seq (.region [⟨(some 19), (.mov (.t 5)), none, []⟩,
    ⟨(some 20), (.bin .geq (.t 19) (.c (.int .i32 128))), none, []⟩] none)
  (.cond (.t 20)
  (.region [⟨(some 5), (.mov (.c (.int .i32 65533))), none, []⟩] none)
  .skip))
  (.seq (.region [⟨(some 21), (.mov (.t 0)), none, []⟩,
    ⟨(some 22), (.mov (.t 5)), none, []⟩,
    ⟨(some 23), (.call (.f 41) [(.t 21), (.t 22)]), none, []⟩,
    ⟨(some 4), (.mov (.t 23)), none, []⟩] none)
  .ret)))
  .skip))
  (.seq (.seq (.region [⟨(some 24), (.mov (.t 0)), none, []⟩,
    ⟨(some 25), (.lenStr (.t 24)), none, []⟩,
    ⟨(some 26), (.call (.f 44) [(.t 25)]), none, []⟩] none)
  (.cond (.t 26)
  (.seq (.region [⟨(some 28), (.mov (.t 1)), none, []⟩,
    ⟨(some 29), (.call (.f 45) [(.t 28)]), none, []⟩,
    ⟨(some 27), (.mov (.t 29)), none, []⟩,
    ⟨(some 30), (.extract (.t 27) 0), none, []⟩,
    ⟨(some 31), (.extract (.t 27) 1), none, []⟩,
    ⟨(some 6), (.alloc 85 Z), none, []⟩,
    ⟨none, (.store 256 (.t 6) (.t 30)), none, []⟩,
    ⟨(some 7), (.mov (.t 31)), none, []⟩] none)
  (.seq (.region [⟨(some 32), (.mov (.t 7)), none, []⟩] none)
  (.cond (.t 32)
  (.seq (.seq (.region [⟨(some 8), (.mov (.c (.int .i64 0))), none, []⟩] none)
  (.block 0 (.loop F28L0)))
  (.seq (.region [⟨(some 4), (.mov (.c (.int .i64 (-1)))), none, []⟩] none)
  .ret))
  .skip)))
  .skip))
  (.seq (.seq (.region [⟨(some 44), (.mov (.t 0)), none, []⟩,
    ⟨(some 45), (.rangeStr (.t 44)), none, []⟩] none)
  (.block 2 (.loop F28L1)))
  (.seq (.region [⟨(some 4), (.mov (.c (.int .i64 (-1)))), none, []⟩] none)
  .ret))))))
def Z256 : List Value := List.replicate 256 (.bool false)
set_option maxRecDepth 100000 in
theorem B28_eq : B28 = B28g Z256 := by rfl
theorem Z256_len : Z256.length = 256 := List.length_replicate
theorem Z256_drop : Z256.drop 256 = [] := List.drop_of_length_le (by rw [Z256_len]; omega)
theorem take_asT : asT.take 256 = asT := List.take_of_length_le (by rw [asT_len]; omega)
theorem asr_of {k N : Nat} (hk : k < 8) (hN : N = 10000000 * (k + 1)) {h : AHeap} {n : Nat} (hw : WF h n) (hn : n ≤ N) : Ret EV15 45 [.string ⟨#[32, 9, 35]⟩] h n (.tuple #[.agg asT.toArray, .bool true]) [] (N + 1) := by
  rw [hN] at hn ⊢
  exact as_ret hk hw hn
set_option maxRecDepth 100000 in
set_option maxHeartbeats 4000000 in
theorem any_no {k N : Nat} (hk : k < 8) (hN : N = 10000000 * (k + 1)) {s : List UInt8} (hl : s.length < 100000) (hc : ∀ c ∈ s, cleanC c) {h : AHeap} {n : Nat} (hw : WF h n) (hn : n ≤ N) :
    Ret EV15 7 [.string ⟨s.toArray⟩, .string ⟨#[32, 9, 35]⟩] h n (.bool false) [] (N + 10) := by
  have asr : Ret EV15 45 [.string ⟨#[32, 9, 35]⟩] h n (.tuple #[.agg asT.toArray, .bool true]) [] (N + 1) := asr_of hk hN hw hn
  clear hN
  refine rsx7 (by simp) (by simp) ?_
  simp -dsimp (discharger := omega) [B7]
  with_reducible refine inl28 ?_
  by_cases h8 : 8 < s.length
  · simp -dsimp (discharger := omega) [B28_eq, B28g]
    with_reducible refine inl44 ?_
    simp -dsimp (discharger := omega) [B44]
    with_reducible refine call_ret asr ?_
    simp -dsimp (discharger := omega) [asT_len, Z256_len, Z256_drop]
    have hr : ∀ (H : AHeap), H.get (N + 1) = some (.cells (some 85) asT 256) → ∀ j v, asT[j]? = some v → H.read (N + 1) 256 j 1 = some [v] := fun H hg j v hj => by
      have h0 : H.read (N + 1) 256 0 256 = some asT := by
        rw [AHeap.read_of hg]; simp [Blk.read, asT_len, take_asT]
      have := read_one h0 hj (by have := (List.getElem?_eq_some_iff.1 hj).1; rw [asT_len] at this; exact this)
      rwa [Nat.zero_add] at this
    refine loop_use (any_loop0 hl hc (q := N + 1) (hr _ (by simp)) s.length [(0, .string ⟨s.toArray⟩), (6, .pointer (some ⟨N + 1, 0, some 256⟩)), (8, .int .i64 ((0 : Nat) : Int))] ((h.put (N + 1) (.cells (some 85) Z256 256)).put (N + 1) (.cells (some 85) asT 256)) (N + 1 + 1) ⟨0, by omega, rfl, rfl, rfl⟩) (by simp) (.refl _) ?_
    rintro e σ' h' n' ⟨rfl, rfl, rfl⟩
    simp -dsimp (discharger := omega) []
    exact .new (.new (.refl _) hw (by omega) _) hw (by omega) _
  · simp -dsimp (discharger := omega) [B28_eq, B28g]
    with_reducible refine inl44 ?_
    simp -dsimp (discharger := omega) [B44]
    refine loop_use (any_loop1 hl hc hw s.length [(1, .string ⟨#[32, 9, 35]⟩), (45, .pointer (some ⟨n, 0, some 0⟩))] (h.put n (.iter ⟨s.toArray⟩ 0)) (n + 1) ⟨0, by omega, rfl, rfl, rfl⟩) (by simp) (.refl _) ?_
    rintro e σ' h' n' ⟨rfl, rfl, hs⟩
    simp -dsimp (discharger := omega) []
    exact ⟨hs, by omega⟩
end
end Go.Proofs.YtmmcnholpnediaaDoor.Am
namespace Go.Proofs.YtmmcnholpnediaaDoor.Am
noncomputable section
/- THE WALK of WordsBlanks. -/
def LstV (n0 : Nat) (h : AHeap) (v : Value) (ws : List (List UInt8)) : Prop :=
  ws = [] ∧ v = .slice none 0 0 ∨ ¬ ws = [] ∧ ∃ q : Nat, n0 ≤ q ∧ v = .slice (some ⟨q, 0, some ws.length⟩) ws.length 2 ∧ h.get q = some (.cells (some 9) (strsL ws) 1)
theorem LstV.str {n0 : Nat} {h : AHeap} {v : Value} {ws : List (List UInt8)} (x : LstV n0 h v ws) : StrV h v ws := by
  rcases x with x | ⟨hne, q, -, rfl, hg⟩
  · exact .inl x
  · exact .inr ⟨q, 1, rfl, hg, List.length_pos_iff.2 hne⟩
theorem LstV.mono {n0 : Nat} {h h' : AHeap} (hs : HSub h h') {v : Value} {ws : List (List UInt8)} (x : LstV n0 h v ws) : LstV n0 h' v ws := by
  rcases x with x | ⟨hne, q, hq, e, hg⟩
  · exact .inl x
  · exact .inr ⟨hne, q, hq, e, hs _ _ hg⟩
theorem lst_append {n0 : Nat} {h0 h : AHeap} {n : Nat} {v : Value} {ws : List (List UInt8)} {w : List UInt8} (hw0 : WF h0 n0) (hs : HSub h0 h) (hw : WF h n) (hn : n0 ≤ n) (hl : ws.length ≤ 100) (hS : LstV n0 h v ws)
    {K : Option Value → AHeap → Nat → Prop} {t : Tok K} (hK : ∀ v' h' n', LstV n0 h' v' (ws ++ [w]) → HSub h0 h' → WF h' n' → n ≤ n' → n' ≤ n + 2 → K (some v') h' n') :
    Runs (aAppend (h.put n (.cells (some 9) [.string ⟨w.toArray⟩] 1)) (n + 1) 9 1 16 v (.slice (some ⟨n, 0, some 1⟩) 1 2)) (n + 1) K t := by
  have hs1 := hs.new hw0 hn (.cells (some 9) [.string ⟨w.toArray⟩] 1)
  have hw1 : WF (h.put n (.cells (some 9) [.string ⟨w.toArray⟩] 1)) (n + 1) := hw.put _ (by omega) (by omega)
  rcases hS with ⟨rfl, rfl⟩ | ⟨hne, q, hq, rfl, hg⟩
  · have hK := hK (.slice (some ⟨n + 1, 0, some 1⟩) 1 2) ((h.put n (.cells (some 9) [.string ⟨w.toArray⟩] 1)).put (n + 1) (.cells (some 9) [.string ⟨w.toArray⟩] 1)) (n + 2) (.inr ⟨by simp, n + 1, by omega, rfl, by simp [strsL]⟩) (hs1.new hw0 (by omega) _) (hw1.put _ (by simp) (by simp)) (by omega) (by omega)
    simp [aAppend, aElems]
    exact hK
  · have hp : 0 < ws.length := List.length_pos_iff.2 hne
    have hqn := hw.lt hg
    have hK := hK (.slice (some ⟨q, 0, some (ws ++ [w]).length⟩) (ws ++ [w]).length 2) ((h.put n (.cells (some 9) [.string ⟨w.toArray⟩] 1)).put q (.cells (some 9) (strsL (ws ++ [w])) 1)) (n + 1) (.inr ⟨by simp, q, hq, rfl, by simp⟩) (hs1.new hw0 hq _) (hw1.put _ (by omega) (by omega)) (by omega) (by omega)
    simp (discharger := omega) [aAppend, aElems, hg]
    simpa [strsL] using hK
def B0Inv (ss : List (List UInt8)) (v0 v1 : Value) (h0 : AHeap) (n0 r : Nat) (σ : Fr) (h : AHeap) (n : Nat) : Prop :=
  ∃ (k : Nat) (ws : List (List UInt8)) (v : Value), k + r = ss.length ∧ k ≤ 8 ∧ ws.length ≤ k ∧ (∀ x ∈ ws, GoodW x) ∧ HSub h0 h ∧ WF h n ∧ n0 ≤ n ∧ n ≤ n0 + 60 * k ∧ LstV n0 h v ws ∧
    σ = [(1, v1), (5, v), (22, v0), (23, .int .i64 (ss.length : Int)), (24, .int .i64 (k : Int))]
def B0Post (v1 : Value) (h0 : AHeap) (n0 : Nat) (e : Ex) (σ' : Fr) (h' : AHeap) (n' : Nat) : Prop :=
  e = .exit 0 ∧ ∃ (ws : List (List UInt8)) (v : Value), ws.length ≤ 8 ∧ (∀ x ∈ ws, GoodW x) ∧ HSub h0 h' ∧ WF h' n' ∧ n0 ≤ n' ∧ n' ≤ n0 + 480 ∧ LstV n0 h' v ws ∧ σ'.get 1 = some v1 ∧ σ'.get 5 = some v
set_option maxHeartbeats 1000000 in
theorem b0_loop {ss : List (List UInt8)} (hl : ss.length < 9223372036854775808) {i o g kk : Nat} {h0 : AHeap} (hr : h0.read i g o ss.length = some (strsL ss)) {v1 : Value} {n0 : Nat} (hw0 : WF h0 n0) (hsz : ∀ x ∈ ss, x.length < 9223372036854775808) :
    ∀ (m : Nat) (σ : Fr) (h : AHeap) (n : Nat), B0Inv ss (.slice (some ⟨i, o, some g⟩) ss.length kk) v1 h0 n0 m σ h n → HasCode EV15 (.loop F3L0) σ h n (B0Post v1 h0 n0) := by
  refine wx_inv _ fun m σ h n hI => ?_
  obtain ⟨k, ws, v, hk, hk8, hwl, hgood, hs, hw, hn0, hn1, hS, rfl⟩ := hI
  have fin : ∀ {σ : Fr}, σ.get 1 = some v1 → σ.get 5 = some v → B0Post v1 h0 n0 (.exit 0) σ h n := fun a b => ⟨rfl, ws, v, by omega, hgood, hs, hw, hn0, by omega, hS, a, b⟩
  cases m with
  | zero =>
    simp -dsimp (discharger := omega) [F3L0]
    exact fin rfl rfl
  | succ m =>
    have hlt : k < ss.length := by omega
    obtain ⟨x, hx⟩ : ∃ x, ss[k]? = some x := ⟨_, List.getElem?_eq_getElem hlt⟩
    have hxl := hsz x (by obtain ⟨h1, rfl⟩ := List.getElem?_eq_some_iff.1 hx; exact List.getElem_mem h1)
    have hrd := read_mono hs (read_one hr (strsL_get? hx) hlt)
    by_cases c8 : k = 8
    · subst c8
      simp -dsimp (discharger := omega) [F3L0, hrd]
      exact fin rfl rfl
    · have hb8 : ((k : Int) == 8) = false := by simp only [beq_eq_false_iff_ne]; omega
      simp -dsimp (discharger := omega) [F3L0, hrd, hb8]
      have hy : (List.take (if (16 : Int) < (x.length : Int) then (16 : Int) else (x.length : Int)).toNat x).length ≤ 16 := by rw [List.length_take]; split <;> omega
      generalize List.take (if (16 : Int) < (x.length : Int) then (16 : Int) else (x.length : Int)).toNat x = y at *
      by_cases hok : splitE y = 0
      · have hsp : y.all plainC = true := by
          unfold splitE at hok
          rw [if_neg (by omega)] at hok
          cases hp : y.all plainC with
          | true => rfl
          | false => rw [hp] at hok; cases hok
        have hlen : (wordsL y).length ≤ y.length + 1 := words_len y []
        have hgy : ∀ x ∈ wordsL y, GoodW x := fun x hx => good_of hsp hy hx
        with_reducible refine call_ret (wsplit_ok hok hw) ?_
        have hs1 := hs.new hw0 (i := n + 3 + (wordsL y).length) (by omega) (.cells (some 9) (strsL (wordsL y)) (wordsL y).length)
        have hw1 : WF (h.put (n + 3 + (wordsL y).length) (.cells (some 9) (strsL (wordsL y)) (wordsL y).length)) (n + 4 + 2 * (wordsL y).length) := hw.put _ (by omega) (by omega)
        have hS1 : LstV n0 (h.put (n + 3 + (wordsL y).length) (.cells (some 9) (strsL (wordsL y)) (wordsL y).length)) v ws := hS.mono (.new (.refl _) hw (by omega) _)
        by_cases hz : (wordsL y).length = 0
        · have hb : ¬ 0 < ((wordsL y).length : Int) := by omega
          simp -dsimp (discharger := omega) []
          exact .mk' m (by omega) [(1, v1), (5, v), (22, .slice (some ⟨i, o, some g⟩) ss.length kk), (23, .int .i64 (ss.length : Int)), (24, .int .i64 ((k + 1 : Nat) : Int))] _ (by simp) (.refl _) ⟨k + 1, ws, v, by omega, by omega, by omega, hgood, hs1, hw1, by omega, by omega, hS1, rfl⟩
        · obtain ⟨w, hw0'⟩ : ∃ w, (wordsL y)[0]? = some w := ⟨_, List.getElem?_eq_getElem (by omega)⟩
          have hwm : w ∈ wordsL y := by obtain ⟨h1, rfl⟩ := List.getElem?_eq_some_iff.1 hw0'; exact List.getElem_mem h1
          have hrw : (h.put (n + 3 + (wordsL y).length) (.cells (some 9) (strsL (wordsL y)) (wordsL y).length)).read (n + 3 + (wordsL y).length) (wordsL y).length 0 1 = some [.string ⟨w.toArray⟩] := by
            have hst : StrV (h.put (n + 3 + (wordsL y).length) (.cells (some 9) (strsL (wordsL y)) (wordsL y).length)) (.slice (some ⟨n + 3 + (wordsL y).length, 0, some (wordsL y).length⟩) (wordsL y).length 2) (wordsL y) := .inr ⟨_, (wordsL y).length, rfl, by simp, Nat.le_refl _⟩
            obtain ⟨q, e, -, hq⟩ := hst.at hw0'
            cases e; exact hq
          have fin2 : ∀ {tk : Tok (B0Inv ss (.slice (some ⟨i, o, some g⟩) ss.length kk) v1 h0 n0)} {v' : Value} {h' : AHeap} {n' : Nat} {σ : Fr}, LstV n0 h' v' (ws ++ [w]) → HSub h0 h' → WF h' n' → n + 4 + 2 * (wordsL y).length ≤ n' → n' ≤ n + 4 + 2 * (wordsL y).length + 2 → FSubL [(1, v1), (5, v'), (22, .slice (some ⟨i, o, some g⟩) ss.length kk), (23, .int .i64 (ss.length : Int)), (24, .int .i64 ((k + 1 : Nat) : Int))] σ → Again (B0Inv ss (.slice (some ⟨i, o, some g⟩) ss.length kk) v1 h0 n0) (m + 1) σ h' n' tk := fun a b c d e hσ =>
            .mk' m (by omega) _ _ hσ (.refl _) ⟨k + 1, ws ++ [w], _, by omega, by omega, by simp; omega, fun x hx => by
              rcases List.mem_append.1 hx with hx | hx
              · exact hgood x hx
              · simp at hx; subst hx; exact hgy x hwm, b, c, by omega, by omega, a, rfl⟩
          generalize hH : h.put (n + 3 + (wordsL y).length) (.cells (some 9) (strsL (wordsL y)) (wordsL y).length) = H at *
          simp -dsimp (discharger := omega) [hH, hrw, aFill]
          refine lst_append hw0 hs1 hw1 (by omega) (by omega) hS1 fun v' h' n' a b c d e => ?_
          simp -dsimp (discharger := omega) []
          exact fin2 a b c d e (by simp)
      · have hbe : ((splitE y : Int) == 0) = false := by simp only [beq_eq_false_iff_ne]; omega
        with_reducible refine call_ret (wsplit_bad (by omega) hok hw) ?_
        simp -dsimp (discharger := omega) [hbe]
        exact .mk' m (by omega) [(1, v1), (5, v), (22, .slice (some ⟨i, o, some g⟩) ss.length kk), (23, .int .i64 (ss.length : Int)), (24, .int .i64 ((k + 1 : Nat) : Int))] _ (by simp) (.refl _) ⟨k + 1, ws, v, by omega, by omega, by omega, hgood, hs, hw.mono (by omega), by omega, by omega, hS, rfl⟩
end
end Go.Proofs.YtmmcnholpnediaaDoor.Am
namespace Go.Proofs.YtmmcnholpnediaaDoor.Am
noncomputable section
/- THE WALK of WordsBlanks: the lines; the answer. -/
theorem join_str {h : AHeap} {n : Nat} {v : Value} {ws : List (List UInt8)} (hv : StrV h v ws) (hg : ∀ x ∈ ws, GoodW x) (hl : ws.length ≤ 8) (hw : WF h n) : Ret EV15 6 [v, .string ⟨#[32]⟩] h n (.string ⟨(joinL [32] ws).toArray⟩) [] (n + 2) := by
  have hjl := join_len hg
  rcases hv with ⟨rfl, rfl⟩ | ⟨q, m, rfl, hq, hm⟩
  · refine rsx6 (by simp) (by simp) ?_
    simp -dsimp (discharger := omega) [B6, joinL]
    exact .refl _
  · have hr : h.read q ws.length 0 ws.length = some (strsL ws) := by
      rw [AHeap.read_of hq]; simp only [Blk.read]; simp [hm]
    exact join_ret hr hw [32] (by simp) (by omega) (by omega)
theorem split_to {s : List UInt8} {ws : List (List UInt8)} (h1 : s.length ≤ 200) (h2 : s.all plainC = true) (h3 : wordsL s = ws) {h : AHeap} {n : Nat} (hw : WF h n) :
    Ret EV15 5 [.string ⟨s.toArray⟩] h n (.tuple #[.slice (some ⟨n + 3 + ws.length, 0, some ws.length⟩) ws.length 2, .int .i64 0]) [(n + 3 + ws.length, .cells (some 9) (strsL ws) ws.length)] (n + 4 + 2 * ws.length) := by
  have := wsplit_ok (s := s) (by unfold splitE; rw [if_neg (by omega), if_pos h2]) hw
  rwa [h3] at this
def bitB (a : Nat) (k : Nat) : Bool := andI .u32 (shrI .u32 (a : Int) (k : Int)) 1 == 1
def B1Inv (ws : List (List UInt8)) (v : Value) (a : Nat) (l1 : Value) (h0 : AHeap) (n0 r : Nat) (σ : Fr) (h : AHeap) (n : Nat) : Prop :=
  n = n0 ∧ h = h0 ∧ ∃ k : Nat, k + r = ws.length ∧ σ = [(1, .int .u32 (a : Int)), (5, v), (10, l1), (11, .string ⟨(9 :: ln2 (bitB a) 0 (ws.take k)).toArray⟩), (56, v), (57, .int .i64 (ws.length : Int)), (58, .int .i64 (k : Int))]
def B1Post (ws : List (List UInt8)) (v : Value) (a : Nat) (l1 : Value) (h0 : AHeap) (n0 : Nat) (e : Ex) (σ' : Fr) (h' : AHeap) (n' : Nat) : Prop :=
  n' = n0 ∧ h' = h0 ∧ e = .exit 2 ∧ σ'.get 5 = some v ∧ σ'.get 10 = some l1 ∧ σ'.get 11 = some (.string ⟨(9 :: ln2 (bitB a) 0 ws).toArray⟩)
set_option maxHeartbeats 1000000 in
theorem b1_loop {ws : List (List UInt8)} (hg : ∀ x ∈ ws, GoodW x) (hl : ws.length ≤ 8) {v : Value} {a : Nat} (_ : a < 4294967296) {l1 : Value} {h0 : AHeap} (hv : StrV h0 v ws) {n0 : Nat} :
    ∀ (m : Nat) (σ : Fr) (h : AHeap) (n : Nat), B1Inv ws v a l1 h0 n0 m σ h n → HasCode EV15 (.loop F3L1) σ h n (B1Post ws v a l1 h0 n0) := by
  refine wx_inv _ fun m σ h n hI => ?_
  obtain ⟨rfl, rfl, k, hk, rfl⟩ := hI
  cases m with
  | zero =>
    have e : ws.take k = ws := List.take_of_length_le (by omega)
    rw [e]
    simp -dsimp (discharger := omega) [F3L1]
    exact ⟨rfl, rfl, rfl, rfl, rfl, rfl⟩
  | succ m =>
    have hlt : k < ws.length := by omega
    obtain ⟨x, hx⟩ : ∃ x, ws[k]? = some x := ⟨_, List.getElem?_eq_getElem hlt⟩
    have hxm : x ∈ ws := by obtain ⟨h1, rfl⟩ := List.getElem?_eq_some_iff.1 hx; exact List.getElem_mem h1
    have hxl := (hg x hxm).len
    have hLl := ln2_len (bitB a) (ws.take k) 0 (fun y hy => hg y (List.mem_of_mem_take hy))
    have htl : (ws.take k).length = k := by rw [List.length_take]; omega
    have hsn : ln2 (bitB a) 0 (ws.take (k + 1)) = ln2 (bitB a) 0 (ws.take k) ++ blk2 (bitB a) k x := by rw [take_snoc hx, ln2_snoc, htl, Nat.zero_add]
    generalize ln2 (bitB a) 0 (ws.take k) = L at *
    obtain ⟨aa, kk, rfl⟩ := hv.shape
    obtain ⟨q, rfl, -, hr⟩ := hv.at hx
    have fin : ∀ {tk : Tok (B1Inv ws (.slice (some ⟨q, 0, some ws.length⟩) ws.length kk) a l1 h n)} {σ : Fr}, FSubL [(1, .int .u32 (a : Int)), (5, .slice (some ⟨q, 0, some ws.length⟩) ws.length kk), (10, l1), (11, .string ⟨(9 :: (L ++ blk2 (bitB a) k x)).toArray⟩), (56, .slice (some ⟨q, 0, some ws.length⟩) ws.length kk), (57, .int .i64 (ws.length : Int)), (58, .int .i64 ((k + 1 : Nat) : Int))] σ → Again (B1Inv ws (.slice (some ⟨q, 0, some ws.length⟩) ws.length kk) a l1 h n) (m + 1) σ h n tk := fun hσ =>
      .mk' m (by omega) _ _ hσ (.refl _) ⟨rfl, rfl, k + 1, by omega, by rw [hsn]⟩
    cases hb : bitB a k with
    | true =>
      have hb' := hb
      unfold bitB at hb'
      rw [blk2, hb] at fin
      simp -dsimp (discharger := omega) [F3L1, hr, hb']
      exact fin (by simp)
    | false =>
      have hb' := hb
      unfold bitB at hb'
      rw [blk2, hb] at fin
      simp -dsimp (discharger := omega) [F3L1, hr, hb']
      exact fin (by simp)
def B2Inv (ws : List (List UInt8)) (v v14 v15 v16 v17 v18 v19 : Value) (h0 : AHeap) (r : Nat) (σ : Fr) (h : AHeap) (n : Nat) : Prop :=
  h = h0 ∧ WF h n ∧ ∃ k : Nat, k + r = ws.length ∧ n ≤ 10000000 * (k + 1) ∧ σ = [(5, v), (14, v14), (15, v15), (16, v16), (17, v17), (18, v18), (19, v19), (91, v), (92, .int .i64 (ws.length : Int)), (93, .int .i64 (k : Int))]
def B2Post (v v14 v15 v16 v17 v18 v19 : Value) (h0 : AHeap) (e : Ex) (σ' : Fr) (h' : AHeap) (n' : Nat) : Prop :=
  h' = h0 ∧ WF h' n' ∧ n' ≤ 90000000 ∧ e = .exit 4 ∧ σ'.get 5 = some v ∧ σ'.get 14 = some v14 ∧ σ'.get 15 = some v15 ∧ σ'.get 16 = some v16 ∧ σ'.get 17 = some v17 ∧ σ'.get 18 = some v18 ∧ σ'.get 19 = some v19
set_option maxHeartbeats 1000000 in
theorem b2_loop {ws : List (List UInt8)} (hg : ∀ x ∈ ws, GoodW x) (hl : ws.length ≤ 8) {v v14 v15 v16 v17 v18 v19 : Value} {h0 : AHeap} (hv : StrV h0 v ws) :
    ∀ (m : Nat) (σ : Fr) (h : AHeap) (n : Nat), B2Inv ws v v14 v15 v16 v17 v18 v19 h0 m σ h n → HasCode EV15 (.loop F3L2) σ h n (B2Post v v14 v15 v16 v17 v18 v19 h0) := by
  refine wx_inv _ fun m σ h n hI => ?_
  obtain ⟨rfl, hw, k, hk, hn, rfl⟩ := hI
  cases m with
  | zero =>
    have fin : B2Post v v14 v15 v16 v17 v18 v19 h (.exit 4) [(94, .bool false), (5, v), (14, v14), (15, v15), (16, v16), (17, v17), (18, v18), (19, v19), (91, v), (92, .int .i64 (ws.length : Int)), (93, .int .i64 (k : Int))] h n := ⟨rfl, hw, by omega, rfl, rfl, rfl, rfl, rfl, rfl, rfl, rfl⟩
    simp -dsimp (discharger := omega) [F3L2]
    exact fin
  | succ m =>
    have hlt : k < ws.length := by omega
    obtain ⟨x, hx⟩ : ∃ x, ws[k]? = some x := ⟨_, List.getElem?_eq_getElem hlt⟩
    have hxm : x ∈ ws := by obtain ⟨h1, rfl⟩ := List.getElem?_eq_some_iff.1 hx; exact List.getElem_mem h1
    have hgx := hg x hxm
    have hxl := hgx.len
    have hcl : ∀ c ∈ x, cleanC c := fun c hc => by
      have h1 := hgx.clean c hc
      have h2 := plain_lt (hgx.plain c hc)
      have h3 := h1.1
      unfold wsp at h3
      simp only [Bool.or_eq_false_iff, beq_eq_false_iff_ne] at h3
      refine ⟨h2, fun e => h3.1 (UInt8.toNat_inj.1 e), fun e => h3.2 (UInt8.toNat_inj.1 e), fun e => h1.2 (UInt8.toNat_inj.1 e)⟩
    have hne := hgx.ne
    obtain ⟨N, hN⟩ : ∃ N, N = 10000000 * (k + 1) := ⟨_, rfl⟩
    have hany := any_no (k := k) (by omega) hN (s := x) (by omega) hcl hw (by omega)
    have hnext : N + 10 ≤ 10000000 * (k + 1 + 1) := by omega
    have hnN : n ≤ N := by omega
    clear hN hn
    obtain ⟨aa, kk, rfl⟩ := hv.shape
    obtain ⟨q, rfl, -, hr⟩ := hv.at hx
    obtain ⟨c, l, rfl⟩ : ∃ c l, x = c :: l := by cases x with | nil => exact absurd rfl hne | cons c l => exact ⟨c, l, rfl⟩
    simp -dsimp (discharger := omega) [F3L2, hr]
    with_reducible refine call_ret hany ?_
    simp -dsimp (discharger := omega) []
    exact .mk' m (by omega) [(5, .slice (some ⟨q, 0, some ws.length⟩) ws.length kk), (14, v14), (15, v15), (16, v16), (17, v17), (18, v18), (19, v19), (91, .slice (some ⟨q, 0, some ws.length⟩) ws.length kk), (92, .int .i64 (ws.length : Int)), (93, .int .i64 ((k + 1 : Nat) : Int))] _ (by simp) (.refl _) ⟨rfl, hw.mono (by omega), k + 1, by omega, hnext, rfl⟩
end
end Go.Proofs.YtmmcnholpnediaaDoor.Am
namespace Go.Proofs.YtmmcnholpnediaaDoor.Am
noncomputable section
/- THE WALK of WordsBlanks: all. -/
def ac3 : ACode := match B3 with | .seq a _ => a | c => c
def bc3 : ACode := match B3 with | .seq _ (.seq b _) => b | c => c
def cc3 : ACode := match B3 with | .seq _ (.seq _ (.seq c _)) => c | c => c
def rest3 : ACode := match B3 with | .seq _ (.seq _ (.seq _ d)) => d | c => c
theorem b3_eq : B3 = .seq ac3 (.seq bc3 (.seq cc3 rest3)) := rfl
def remL : List UInt8 := [32, 35, 32, 109, 111, 114, 101, 32, 119, 111, 114, 100, 115]
theorem rem_go (w : List UInt8) : wordsGo w remL = word1 w := by
  show wordsGo w (32 :: _) = _
  rw [go_sp]
  have : wordsGo [] [35, 32, 109, 111, 114, 101, 32, 119, 111, 114, 100, 115] = [] := rfl
  rw [this, List.append_nil]
set_option maxHeartbeats 4000000 in
theorem blanks_rest {ws : List (List UInt8)} (hg : ∀ x ∈ ws, GoodW x) (hl : ws.length ≤ 8) {v : Value} {a : Nat} (ha : a < 4294967296) {h : AHeap} {n : Nat} (hw : WF h n) (hn : n ≤ 100000) (hv : StrV h v ws) {σ : Fr} (g1 : σ.get 1 = some (.int .u32 (a : Int))) (g5 : σ.get 5 = some v) :
    wx EV15 rest3 σ h n (Done [.tmp 4] fun v _ _ => v = .bool true) ⟨⟩ := by
  have hj := join_str hv hg hl hw
  have jl := join_len hg
  have jp := join_plain hg
  have w1 := words_join (t := []) (fun _ => rfl) ws hg
  have w3 := words_join (t := remL) rem_go ws hg
  rw [List.append_nil] at w1
  have p3 : (joinL [32] ws ++ remL).all plainC = true := by rw [List.all_append, jp]; rfl
  have l3 : (joinL [32] ws ++ remL).length ≤ 200 := by rw [List.length_append]; simp [remL]; omega
  have w2 := words_ln2 (bitB a) ws hg
  have l2 := ln2_len (bitB a) ws 0 hg
  have p2 := ln2_plain (bitB a) ws 0 hg
  have p2' : (9 :: ln2 (bitB a) 0 ws).all plainC = true := by rw [List.all_cons, p2]; rfl
  have l2' : (9 :: ln2 (bitB a) 0 ws).length ≤ 200 := by simp; omega
  simp -dsimp (discharger := omega) [rest3, B3, g5]
  with_reducible refine call_ret hj ?_
  obtain ⟨aa, kk, e5⟩ := hv.shape
  simp -dsimp (discharger := omega) [g5, e5]
  refine loop_use (b1_loop hg hl ha (l1 := .string ⟨(joinL [32] ws).toArray⟩) hv (v := v) ws.length [(1, .int .u32 (a : Int)), (5, v), (10, .string ⟨(joinL [32] ws).toArray⟩), (11, .string ⟨(9 :: ln2 (bitB a) 0 (ws.take 0)).toArray⟩), (56, v), (57, .int .i64 (ws.length : Int)), (58, .int .i64 ((0 : Nat) : Int))] h (n + 2) ⟨rfl, rfl, 0, by omega, rfl⟩) (by simp [g1, g5, e5, ln2]) (.refl _) ?_
  rintro e σ1 h1 n1 ⟨rfl, rfl, rfl, g5, g10, g11⟩
  generalize hL1 : joinL [32] ws = L1 at *
  generalize hL2 : 9 :: ln2 (bitB a) 0 ws = L2 at *
  simp -dsimp (discharger := omega) [g10]
  with_reducible refine call_ret (split_to (by omega) jp w1 (hw.mono (by omega))) ?_
  have hs1 : HSub h1 (h1.put (n + 2 + 3 + ws.length) (.cells (some 9) (strsL ws) ws.length)) := .new (.refl _) hw (by omega) _
  have hw1 : WF (h1.put (n + 2 + 3 + ws.length) (.cells (some 9) (strsL ws) ws.length)) (n + 2 + 4 + 2 * ws.length) := hw.put _ (by omega) (by omega)
  have hg1 : (h1.put (n + 2 + 3 + ws.length) (.cells (some 9) (strsL ws) ws.length)).get (n + 2 + 3 + ws.length) = some (.cells (some 9) (strsL ws) ws.length) := by simp
  generalize hH2 : h1.put (n + 2 + 3 + ws.length) (.cells (some 9) (strsL ws) ws.length) = h2 at *
  generalize hN1 : n + 2 + 3 + ws.length = q1 at *
  generalize hN2 : n + 2 + 4 + 2 * ws.length = n2 at *
  simp -dsimp (discharger := omega) [hH2, g11]
  with_reducible refine call_ret (split_to l2' p2' w2 hw1) ?_
  have hs2 : HSub h2 (h2.put (n2 + 3 + ws.length) (.cells (some 9) (strsL ws) ws.length)) := .new (.refl _) hw1 (by omega) _
  have hw2 : WF (h2.put (n2 + 3 + ws.length) (.cells (some 9) (strsL ws) ws.length)) (n2 + 4 + 2 * ws.length) := hw1.put _ (by omega) (by omega)
  have hg2 : (h2.put (n2 + 3 + ws.length) (.cells (some 9) (strsL ws) ws.length)).get (n2 + 3 + ws.length) = some (.cells (some 9) (strsL ws) ws.length) := by simp
  generalize hH3 : h2.put (n2 + 3 + ws.length) (.cells (some 9) (strsL ws) ws.length) = h3 at *
  generalize hN3 : n2 + 3 + ws.length = q2 at *
  generalize hN4 : n2 + 4 + 2 * ws.length = n3 at *
  have r3 := split_to l3 p3 w3 hw2
  have e3 : (ByteArray.mk (L1 ++ remL).toArray) = ByteArray.mk (L1 ++ [32, 35, 32, 109, 111, 114, 101, 32, 119, 111, 114, 100, 115]).toArray := rfl
  rw [e3] at r3
  simp -dsimp (discharger := omega) [hH3, g10]
  with_reducible refine call_ret r3 ?_
  have hs3 : HSub h3 (h3.put (n3 + 3 + ws.length) (.cells (some 9) (strsL ws) ws.length)) := .new (.refl _) hw2 (by omega) _
  have hw3 : WF (h3.put (n3 + 3 + ws.length) (.cells (some 9) (strsL ws) ws.length)) (n3 + 4 + 2 * ws.length) := hw2.put _ (by omega) (by omega)
  have hg3 : (h3.put (n3 + 3 + ws.length) (.cells (some 9) (strsL ws) ws.length)).get (n3 + 3 + ws.length) = some (.cells (some 9) (strsL ws) ws.length) := by simp
  generalize hH4 : h3.put (n3 + 3 + ws.length) (.cells (some 9) (strsL ws) ws.length) = h4 at *
  generalize hN5 : n3 + 3 + ws.length = q3 at *
  generalize hN6 : n3 + 4 + 2 * ws.length = n4 at *
  have hv4 : StrV h4 v ws := ((hv.mono hs1).mono hs2).mono hs3
  have s1 : StrV h4 (.slice (some ⟨q1, 0, some ws.length⟩) ws.length 2) ws := StrV.mono hs3 (.inr ⟨q1, ws.length, rfl, hs2 _ _ hg1, Nat.le_refl _⟩)
  have s2 : StrV h4 (.slice (some ⟨q2, 0, some ws.length⟩) ws.length 2) ws := .inr ⟨q2, ws.length, rfl, hs3 _ _ hg2, Nat.le_refl _⟩
  have s3 : StrV h4 (.slice (some ⟨q3, 0, some ws.length⟩) ws.length 2) ws := .inr ⟨q3, ws.length, rfl, hg3, Nat.le_refl _⟩
  simp -dsimp (discharger := omega) [hH4, g5, e5]
  refine loop_use (b2_loop hg hl hv4 (v := v) (v14 := .slice (some ⟨q1, 0, some ws.length⟩) ws.length 2) (v15 := .int .i64 0) (v16 := .slice (some ⟨q2, 0, some ws.length⟩) ws.length 2) (v17 := .int .i64 0) (v18 := .slice (some ⟨q3, 0, some ws.length⟩) ws.length 2) (v19 := .int .i64 0) ws.length _ h4 n4 ⟨rfl, hw3, 0, by omega, by omega, rfl⟩) (by simp [g5, e5]) (.refl _) ?_
  rintro e σ5 h5 n5 ⟨rfl, hw5, hn5, rfl, g5, g14, g15, g16, g17, g18, g19⟩
  have q1 := equalS_ret (by omega) (by omega) (h := h5) (n := n5) s1 hv4
  have q2 := equalS_ret (by omega) (by omega) (h := h5) (n := n5) s2 hv4
  have q3 := equalS_ret (by omega) (by omega) (h := h5) (n := n5) s3 hv4
  rw [decide_eq_true rfl] at q1 q2 q3
  have wk : Ret EV15 9 [] h5 n5 (.bool true) [] 6000000091 := wk_ret hw5 (by omega)
  simp -dsimp (discharger := omega) [g5, g14, g15, g17, g19]
  with_reducible refine call_ret q1 ?_
  simp -dsimp (discharger := omega) [g5, g16]
  with_reducible refine call_ret q2 ?_
  simp -dsimp (discharger := omega) [g5, g18]
  with_reducible refine call_ret q3 ?_
  simp -dsimp (discharger := omega) []
  with_reducible refine call_ret wk ?_
  simp -dsimp (discharger := omega) []
theorem blanks_walk {ss : List (List UInt8)} (hl : ss.length < 9223372036854775808) (hsz : ∀ x ∈ ss, x.length < 9223372036854775808) {a : Nat} (ha : a < 4294967296) {h : AHeap} {n : Nat} (hw : WF h n) (hn2 : n ≤ 5000) {v0 : Value} (hv : Sl h 1 v0 ss.length (strsL ss)) :
    HasCallT EV15 3 [v0, .int .u32 (a : Int)] h n (fun v _ _ => v = .bool true) () := by
  refine inl3 ?_
  rw [b3_eq]
  generalize hS : strsL ss = S at hv
  generalize hL : ss.length = L at hv
  cases hv with
  | nil =>
    simp -dsimp (discharger := omega) [ac3, bc3, cc3, B3]
    with_reducible refine wx_round ?_
    simp -dsimp (discharger := omega) [F3L0]
    exact blanks_rest (ws := []) (by simp) (by simp) ha hw (by omega) (.inl ⟨rfl, rfl⟩) (by simp) (by simp)
  | @mk i o g k _ _ hr =>
    subst hS hL
    rw [Nat.mul_one] at hr
    simp -dsimp (discharger := omega) [ac3, bc3, cc3, B3]
    refine loop_use (b0_loop hl (kk := k) hr (v1 := .int .u32 (a : Int)) hw hsz ss.length [(1, .int .u32 (a : Int)), (5, .slice none 0 0), (22, .slice (some ⟨i, o, some g⟩) ss.length k), (23, .int .i64 (ss.length : Int)), (24, .int .i64 ((0 : Nat) : Int))] h n ⟨0, [], _, by omega, by omega, by simp, by simp, .refl _, hw, Nat.le_refl _, by omega, .inl ⟨rfl, rfl⟩, rfl⟩) (by simp) (.refl _) ?_
    rintro e σ' h' n' ⟨rfl, ws, v, hwl, hgood, hs, hw', hn0, hn1, hS, g1, g5⟩
    simp -dsimp (discharger := omega) []
    exact blanks_rest hgood hwl ha hw' (by omega) hS.str g1 g5
end
end Go.Proofs.YtmmcnholpnediaaDoor.Am
