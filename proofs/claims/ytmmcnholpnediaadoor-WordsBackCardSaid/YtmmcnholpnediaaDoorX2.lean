/- Contracts of the program's functions (X2). -/
import Derived.Test.YtmmcnholpnediaaDoorX1
import Derived.Test.YtmmcnholpnediaaDoorL9
import Derived.Test.YtmmcnholpnediaaDoorL8
namespace Go.Proofs.YtmmcnholpnediaaDoor.Am
noncomputable section
/- CONTRACTS: ranges of a row. -/
theorem wants_yes {h : AHeap} {p : Nat} {v : Value} {i : Int} (hp : h.get p = some (rowB v i 0)) (c : Int) (n : Nat) : Ret EV15 37 [rowP p, .bool true, .int .i64 c] h n (.bool true) [] n := by
  refine rsx37 (by simp) (by simp) ?_
  simp -dsimp (discharger := omega) [B37]
  with_reducible refine call_ret (err_ret hp _) ?_
  simp -dsimp (discharger := omega) []
  exact .refl _
theorem wants_not {h : AHeap} {p : Nat} {v : Value} {i : Int} (hp : h.get p = some (rowB v i 0)) {c : Int} (hc : ¬ c = 0) (n : Nat) : Ret EV15 37 [rowP p, .bool false, .int .i64 c] h n (.bool false) [(p, rowB v i c)] n := by
  refine rsx37 (by simp) (by simp [hp]) ?_
  have hb : (c == 0) = false := by simpa using hc
  simp -dsimp (discharger := omega) [B37]
  with_reducible refine call_ret (fail_yes hp _ _) ?_
  simp -dsimp (discharger := omega) []
  with_reducible refine call_ret (err_ret (v := v) (i := i) (e := c) (by simp) _) ?_
  simp -dsimp (discharger := omega) [hb]
  exact .refl _
def ra16 : ACode := match B16 with | .seq a _ => a | c => c
def rb16 : ACode := match B16 with | .seq _ (.seq b _) => b | c => c
def rc16 : ACode := match B16 with | .seq _ (.seq _ (.seq c _)) => c | c => c
def rd16 : ACode := match B16 with | .seq _ (.seq _ (.seq _ (.seq d _))) => d | c => c
def re16 : ACode := match B16 with | .seq _ (.seq _ (.seq _ (.seq _ (.seq e _)))) => e | c => c
def rr16 : ACode := match B16 with | .seq _ (.seq _ (.seq _ (.seq _ (.seq _ r)))) => r | c => c
theorem b16_eq : B16 = .seq ra16 (.seq rb16 (.seq rc16 (.seq rd16 (.seq re16 rr16)))) := rfl
def rgVal (E : Int) (a b : Nat) : Value := if E = 0 then .tuple #[.int .i64 (a : Int), .int .i64 (b : Int)] else .tuple #[.int .i64 0, .int .i64 0]
def RgE (lo hi : Int) (l k : Nat) (o1 o2 : Bool) (E : Int) : Prop := E = 5 ∧ (o1 && o2) = false ∨ E = 24 ∧ o1 = true ∧ o2 = true ∧ ((l : Int) < lo ∨ lo ≤ (l : Int) ∧ k < l ∨ lo ≤ (l : Int) ∧ l ≤ k ∧ hi < (k : Int)) ∨ E = 0 ∧ o1 = true ∧ o2 = true ∧ lo ≤ (l : Int) ∧ l ≤ k ∧ (k : Int) ≤ hi
set_option maxHeartbeats 1000000 in
theorem rg_rest {H : AHeap} {p : Nat} {v : Value} {J : Int} (hp : H.get p = some (rowB v J 0)) {n l k : Nat} (_ : l < 10000000000) (_ : k < 10000000000) {o1 o2 : Bool} {lo hi : Int} {E : Int} (hE : RgE lo hi l k o1 o2 E)
    {σ : Fr} (g0 : σ.get 0 = some (rowP p)) (g1 : σ.get 1 = some (.int .i64 lo)) (g2 : σ.get 2 = some (.int .i64 hi)) (g11 : σ.get 11 = some (.int .i64 (l : Int))) (g12 : σ.get 12 = some (.bool o1)) (g13 : σ.get 13 = some (.int .i64 (k : Int))) (g14 : σ.get 14 = some (.bool o2)) {Q : Value → AHeap → Nat → Prop}
    (hQ : Q (rgVal E l k) (if E = 0 then H else H.put p (rowB v J E)) n) : wx EV15 rr16 σ H n (Done [.tmp 6, .tmp 7] Q) ⟨⟩ := by
  rcases hE with ⟨rfl, h5⟩ | ⟨rfl, rfl, rfl, h24⟩ | ⟨rfl, rfl, rfl, h1, h2, h3⟩
  · have hV : rgVal 5 l k = .tuple #[.int .i64 0, .int .i64 0] := rfl
    rw [hV, if_neg (by decide)] at hQ
    cases o1 with
    | false =>
      simp -dsimp (discharger := omega) [rr16, B16, g0, g12]
      with_reducible refine call_ret (wants_not hp (by decide) _) ?_
      simp -dsimp (discharger := omega) []
      exact hQ
    | true =>
      cases o2 with
      | true => cases h5
      | false =>
        simp -dsimp (discharger := omega) [rr16, B16, g0, g12, g14]
        with_reducible refine call_ret (wants_not hp (by decide) _) ?_
        simp -dsimp (discharger := omega) []
        exact hQ
  · have hV : rgVal 24 l k = .tuple #[.int .i64 0, .int .i64 0] := rfl
    rw [hV, if_neg (by decide)] at hQ
    rcases h24 with h | ⟨h1, h2⟩ | ⟨h1, h2, h3⟩
    · simp -dsimp (discharger := omega) [rr16, B16, g0, g12, g14]
      with_reducible refine call_ret (wants_yes hp _ _) ?_
      simp -dsimp (discharger := omega) [g0, g1, g11]
      with_reducible refine call_ret (wants_not hp (by decide) _) ?_
      simp -dsimp (discharger := omega) []
      exact hQ
    · simp -dsimp (discharger := omega) [rr16, B16, g0, g12, g14]
      with_reducible refine call_ret (wants_yes hp _ _) ?_
      simp -dsimp (discharger := omega) [g0, g1, g11, g13]
      with_reducible refine call_ret (wants_not hp (by decide) _) ?_
      simp -dsimp (discharger := omega) []
      exact hQ
    · simp -dsimp (discharger := omega) [rr16, B16, g0, g12, g14]
      with_reducible refine call_ret (wants_yes hp _ _) ?_
      simp -dsimp (discharger := omega) [g0, g1, g2, g11, g13]
      with_reducible refine call_ret (wants_not hp (by decide) _) ?_
      simp -dsimp (discharger := omega) []
      exact hQ
  · have hV : rgVal 0 l k = .tuple #[.int .i64 (l : Int), .int .i64 (k : Int)] := rfl
    rw [hV, if_pos rfl] at hQ
    simp -dsimp (discharger := omega) [rr16, B16, g0, g12, g14]
    with_reducible refine call_ret (wants_yes hp _ _) ?_
    simp -dsimp (discharger := omega) [g0, g1, g2, g11, g13]
    with_reducible refine call_ret (wants_yes hp _ _) ?_
    simp -dsimp (discharger := omega) [g11, g13]
    exact hQ
def RgOk (x : List UInt8) (lo hi : Int) (l k : Nat) : Prop := numO (cutA x 45) = some l ∧ (cutB x 45 = false ∧ k = l ∨ cutB x 45 = true ∧ numO (cutZ x 45) = some k) ∧ lo ≤ (l : Int) ∧ l ≤ k ∧ (k : Int) ≤ hi
def RgRes (x : List UInt8) (lo hi : Int) (l k : Nat) (o1 o2 : Bool) : Prop := ∃ (l' k' : Nat) (E : Int), l' < 10000000000 ∧ k' < 10000000000 ∧ (RgOk x lo hi l' k' ∧ E = 0 ∨ ¬ E = 0 ∧ l' = 0 ∧ k' = 0 ∧ ∀ a b, ¬ RgOk x lo hi a b) ∧ rgVal E l k = .tuple #[.int .i64 (l' : Int), .int .i64 (k' : Int)] ∧ RgE lo hi l k o1 o2 E
theorem rg_key {x : List UInt8} {lo hi : Int} {l k : Nat} {o1 o2 : Bool} (hl : l < 10000000000) (hk : k < 10000000000) (h1 : o1 = true → numO (cutA x 45) = some l) (h1' : o1 = false → numO (cutA x 45) = none)
    (h2 : o2 = true → o1 = true → (cutB x 45 = false ∧ k = l ∨ cutB x 45 = true ∧ numO (cutZ x 45) = some k)) (h2' : o2 = false → o1 = true → cutB x 45 = true ∧ numO (cutZ x 45) = none) : RgRes x lo hi l k o1 o2 := by
  have bad : ∀ E : Int, ¬ E = 0 → (∀ a b, ¬ RgOk x lo hi a b) → RgE lo hi l k o1 o2 E → RgRes x lo hi l k o1 o2 := fun E hE hn hh => ⟨0, 0, E, by omega, by omega, .inr ⟨hE, rfl, rfl, hn⟩, by rw [rgVal, if_neg hE]; rfl, hh⟩
  cases o1 with
  | false => exact bad 5 (by decide) (fun a b ⟨h, _⟩ => by rw [h1' rfl] at h; cases h) (.inl ⟨rfl, rfl⟩)
  | true =>
    have e1 := h1 rfl
    cases o2 with
    | false =>
      obtain ⟨c1, c2⟩ := h2' rfl rfl
      refine bad 5 (by decide) (fun a b ⟨_, h, _⟩ => ?_) (.inl ⟨rfl, rfl⟩)
      rcases h with ⟨h, -⟩ | ⟨-, h⟩
      · rw [c1] at h; cases h
      · rw [c2] at h; cases h
    | true =>
      have e2 := h2 rfl rfl
      have uniq : ∀ a b, RgOk x lo hi a b → a = l ∧ b = k := fun a b ⟨u1, u2, _⟩ => by
        rw [e1] at u1
        obtain rfl := Option.some.inj u1
        refine ⟨rfl, ?_⟩
        rcases e2 with ⟨c1, c2⟩ | ⟨c1, c2⟩
        · rcases u2 with ⟨-, u2⟩ | ⟨u2, -⟩
          · rw [u2, c2]
          · rw [c1] at u2; cases u2
        · rcases u2 with ⟨u2, -⟩ | ⟨-, u2⟩
          · rw [c1] at u2; cases u2
          · rw [c2] at u2; exact (Option.some.inj u2).symm
      by_cases g1 : lo ≤ (l : Int)
      · by_cases g2 : l ≤ k
        · by_cases g3 : (k : Int) ≤ hi
          · exact ⟨l, k, 0, hl, hk, .inl ⟨⟨e1, e2, g1, g2, g3⟩, rfl⟩, rfl, .inr (.inr ⟨rfl, rfl, rfl, g1, g2, g3⟩)⟩
          · refine bad 24 (by decide) (fun a b h => ?_) (.inr (.inl ⟨rfl, rfl, rfl, .inr (.inr ⟨g1, g2, by omega⟩)⟩))
            obtain ⟨rfl, rfl⟩ := uniq a b h
            exact g3 h.2.2.2.2
        · refine bad 24 (by decide) (fun a b h => ?_) (.inr (.inl ⟨rfl, rfl, rfl, .inr (.inl ⟨g1, by omega⟩)⟩))
          obtain ⟨rfl, rfl⟩ := uniq a b h
          exact g2 h.2.2.2.1
      · refine bad 24 (by decide) (fun a b h => ?_) (.inr (.inl ⟨rfl, rfl, rfl, .inl (by omega)⟩))
        obtain ⟨rfl, rfl⟩ := uniq a b h
        exact g1 h.2.2.1
def numN (s : List UInt8) : Nat := (numO s).getD 0
def numK (s : List UInt8) : Bool := (numO s).isSome
theorem numV_eq (s : List UInt8) : numV s = .tuple #[.int .i64 (numN s : Int), .bool (numK s)] := by
  unfold numV numN numK
  cases numO s <;> rfl
theorem numN_lt (s : List UInt8) : numN s < 10000000000 := by
  unfold numN
  cases h : numO s with
  | none => simp
  | some v => exact numO_lt h
theorem numK_t {s : List UInt8} (h : numK s = true) : numO s = some (numN s) := by
  unfold numK at h; unfold numN
  cases hh : numO s with
  | none => rw [hh] at h; cases h
  | some v => rfl
theorem numK_f {s : List UInt8} (h : numK s = false) : numO s = none := by
  unfold numK at h
  cases hh : numO s with
  | none => rfl
  | some v => rw [hh] at h; cases h
section
variable {h : AHeap} {p : Nat} {v : Value} {i : Nat} {ws : List (List UInt8)} {x : List UInt8} (hp : h.get p = some (rowB v (i : Int) 0)) (hv : StrV h v ws) (hl : ws.length < 1000000) (hx : ws[i]? = some x) (hpq : ∀ q m, h.get q = some (.cells (some 9) (strsL ws) m) → ¬ p = q) (hxl : x.length < 100000)
  {J : Nat} (hJ : J = i + 1) {n : Nat} (hw : WF h n) (hpn : p < n) (hp0 : 4096 ≤ p) (he : HasErrs h)
include hp hv hl hx hpq hxl hJ hw hpn hp0 he
set_option maxHeartbeats 1000000 in
theorem range_ret (lo hi : Int) : ∃ (l k : Nat) (e : Int), l < 10000000000 ∧ k < 10000000000 ∧ (RgOk x lo hi l k ∧ e = 0 ∨ ¬ e = 0 ∧ l = 0 ∧ k = 0 ∧ ∀ a b, ¬ RgOk x lo hi a b) ∧ Ret EV15 16 [rowP p, .int .i64 lo, .int .i64 hi] h n (.tuple #[.int .i64 (l : Int), .int .i64 (k : Int)]) [(p, rowB v (J : Int) e)] (n + 40) := by
  have hwd : Ret EV15 29 [rowP p] h n (.string ⟨x.toArray⟩) [(p, rowB v (J : Int) 0)] n := by subst hJ; exact word_ret hp hv hl hx hpq _
  have hw1 : WF (h.put p (rowB v (J : Int) 0)) n := hw.put (i := p) (rowB v (J : Int) 0) hpn (Nat.le_refl _)
  have he1 : HasErrs (h.put p (rowB v (J : Int) 0)) := he.put hp0 _
  have hp1 : (h.put p (rowB v (J : Int) 0)).get p = some (rowB v (J : Int) 0) := by simp
  have lA := cutA_le x 45
  have lZ := cutZ_le x 45
  have hN1 := number_ret (s := cutA x 45) (by omega) hw1 he1 (by omega)
  have hN2 := number_ret (s := cutZ x 45) (by omega) (hw1.mono (by omega : n ≤ n + 5)) he1 (by omega)
  rw [numV_eq] at hN1 hN2
  have hcut' : Ret EV15 21 [.string ⟨x.toArray⟩, .string ⟨#[45]⟩] (h.put p (rowB v (J : Int) 0)) n (.tuple #[.string ⟨(cutA x 45).toArray⟩, .string ⟨(cutZ x 45).toArray⟩, .bool (cutB x 45)]) [] n := cut_ret x 45 (by omega) (h.put p (rowB v (J : Int) 0)) n
  have fin : ∀ E : Int, HSub (h.put p (rowB v (J : Int) E)) (if E = 0 then h.put p (rowB v (J : Int) 0) else (h.put p (rowB v (J : Int) 0)).put p (rowB v (J : Int) E)) := fun E => by
    split
    · rename_i e; subst e; exact .refl _
    · exact .over rfl
  cases hB : cutB x 45 with
  | false =>
    obtain ⟨l', k', E, hl', hk', hres, hV, hE⟩ := rg_key (x := x) (lo := lo) (hi := hi) (l := numN (cutA x 45)) (k := numN (cutA x 45)) (o1 := numK (cutA x 45)) (o2 := numK (cutA x 45)) (numN_lt _) (numN_lt _) numK_t numK_f (fun _ _ => .inl ⟨hB, rfl⟩) (fun h1 h2 => by rw [h1] at h2; cases h2)
    have hnl := numN_lt (cutA x 45)
    rw [hB] at hcut'
    refine ⟨l', k', E, hl', hk', hres, ?_⟩
    rw [← hV]
    refine rsx16 (by simp) (by simp [hp]) ?_
    rw [b16_eq]
    simp -dsimp (discharger := omega) [ra16, rb16, rc16, rd16, re16, B16]
    with_reducible refine call_ret hwd ?_
    simp -dsimp (discharger := omega) []
    with_reducible refine call_ret hcut' ?_
    simp -dsimp (discharger := omega) []
    with_reducible refine call_ret hN1 ?_
    simp -dsimp (discharger := omega) []
    refine rg_rest (l := numN (cutA x 45)) (k := numN (cutA x 45)) hp1 hnl hnl hE (by simp) (by simp) (by simp) (by simp) (by simp) (by simp) (by simp) ?_
    exact ⟨rfl, fin E, by omega⟩
  | true =>
    obtain ⟨l', k', E, hl', hk', hres, hV, hE⟩ := rg_key (x := x) (lo := lo) (hi := hi) (l := numN (cutA x 45)) (k := numN (cutZ x 45)) (o1 := numK (cutA x 45)) (o2 := numK (cutZ x 45)) (numN_lt _) (numN_lt _) numK_t numK_f (fun h1 _ => .inr ⟨hB, numK_t h1⟩) (fun h1 _ => ⟨hB, numK_f h1⟩)
    have hnl := numN_lt (cutA x 45)
    have hnk := numN_lt (cutZ x 45)
    rw [hB] at hcut'
    refine ⟨l', k', E, hl', hk', hres, ?_⟩
    rw [← hV]
    refine rsx16 (by simp) (by simp [hp]) ?_
    rw [b16_eq]
    simp -dsimp (discharger := omega) [ra16, rb16, rc16, rd16, re16, B16]
    with_reducible refine call_ret hwd ?_
    simp -dsimp (discharger := omega) []
    with_reducible refine call_ret hcut' ?_
    simp -dsimp (discharger := omega) []
    with_reducible refine call_ret hN1 ?_
    simp -dsimp (discharger := omega) []
    with_reducible refine call_ret hN2 ?_
    simp -dsimp (discharger := omega) []
    refine rg_rest (l := numN (cutA x 45)) (k := numN (cutZ x 45)) hp1 hnl hnk hE (by simp) (by simp) (by simp) (by simp) (by simp) (by simp) (by simp) ?_
    exact ⟨rfl, fin E, by omega⟩
end
end
end Go.Proofs.YtmmcnholpnediaaDoor.Am
namespace Go.Proofs.YtmmcnholpnediaaDoor.Am
noncomputable section
/- PLAIN LAW of WordsBack. -/
theorem idx_at {c : UInt8} : ∀ {s : List UInt8} {i : Nat}, (∀ x, x ∈ s.take i → ¬ x = c) → s[i]? = some c → Lib.indexByte s c = (i : Int)
  | [], i, _, h => by simp at h
  | x :: s, 0, _, h => by
    simp at h; subst h
    simp [Lib.indexByte]
  | x :: s, i + 1, hn, h => by
    have hx : (x == c) = false := beq_eq_false_iff_ne.2 (hn x (by simp))
    have ih := idx_at (s := s) (i := i) (c := c) (fun y hy => hn y (by simp [hy])) (by simpa using h)
    simp only [Lib.indexByte, hx, ih]
    rw [if_neg (by simp), if_neg (by simp)]
    rfl
theorem idx_no {c : UInt8} : ∀ {s : List UInt8}, (∀ x, x ∈ s → ¬ x = c) → Lib.indexByte s c = -1
  | [], _ => rfl
  | x :: s, hn => by
    have hx : (x == c) = false := beq_eq_false_iff_ne.2 (hn x (by simp))
    have ih := idx_no (s := s) (c := c) (fun y hy => hn y (by simp [hy]))
    simp only [Lib.indexByte, hx, ih]
    rfl
theorem split_app {c : UInt8} : ∀ {q : List UInt8} (r : List UInt8), c ∉ q → splitL c (q ++ c :: r) = q :: splitL c r
  | [], r, _ => by simp [splitL]
  | x :: q, r, h => by
    have hx : ¬ x = c := fun e => h (by simp [e])
    have ih := split_app (c := c) (q := q) r (fun e => h (by simp [e]))
    simp only [List.cons_append, splitL, if_neg hx, ih]
theorem split_one {c : UInt8} : ∀ {q : List UInt8}, c ∉ q → splitL c q = [q]
  | [], _ => rfl
  | x :: q, h => by
    have hx : ¬ x = c := fun e => h (by simp [e])
    have ih := split_one (q := q) (c := c) (fun e => h (by simp [e]))
    simp only [splitL, if_neg hx, ih]
theorem octV_decs {u : Nat} (h : u ≤ 255) : octV (decs u) = some u := by
  unfold octV
  rw [decs_val, if_pos ⟨decs_canon u, h⟩]
theorem decs_no (u : Nat) {c : UInt8} (hc : isD c = false) : c ∉ decs u := dig_not (decs_isD u) hc
theorem ipO_text {a : Nat} (ha : a < 4294967296) : ipO (ipT a) = some a := by
  have h46 : ∀ u, (46 : UInt8) ∉ decs u := fun u => decs_no u isD_46
  have e : splitL 46 (ipT a) = [decs (a / 16777216), decs (a / 65536 % 256), decs (a / 256 % 256), decs (a % 256)] := by
    unfold ipT
    rw [split_app _ (h46 _), split_app _ (h46 _), split_app _ (h46 _), split_one (h46 _)]
  unfold ipO
  rw [e, if_pos (by rfl)]
  simp only [octs]
  rw [octV_decs (by omega), octV_decs (by omega), octV_decs (by omega), octV_decs (by omega)]
  simp only
  congr 1
  omega
theorem decs_no46 (u : Nat) : (47 : UInt8) ∉ decs u := decs_no u isD_47
theorem ipT_no47 (a : Nat) : (47 : UInt8) ∉ ipT a := by
  have h : ∀ u, (47 : UInt8) ∉ decs u := fun u => decs_no u isD_47
  have h2 : ¬ (47 : UInt8) = 46 := by decide
  unfold ipT
  simp only [List.mem_append, List.mem_cons, not_or]
  exact ⟨h _, h2, h _, h2, h _, h2, h _⟩
theorem cut_app {c : UInt8} {q : List UInt8} (r : List UInt8) (h : c ∉ q) : cutA (q ++ c :: r) c = q ∧ cutB (q ++ c :: r) c = true ∧ cutZ (q ++ c :: r) c = r := by
  have hi : Lib.indexByte (q ++ c :: r) c = (q.length : Int) := idx_at (i := q.length) (fun x hx => by
    rw [List.take_left] at hx
    exact fun e => h (e ▸ hx)) (by simp)
  have hne : ¬ Lib.indexByte (q ++ c :: r) c = -1 := by omega
  refine ⟨?_, by rw [cutB, if_neg hne], ?_⟩
  · rw [cutA, if_neg hne, hi]; simp
  · rw [cutZ, if_neg hne, hi]; simp
theorem cut_none {c : UInt8} {q : List UInt8} (h : c ∉ q) : cutA q c = q ∧ cutB q c = false := by
  have hi : Lib.indexByte q c = -1 := idx_no fun x hx e => h (e ▸ hx)
  exact ⟨by rw [cutA, if_pos hi], by rw [cutB, if_pos hi]⟩
theorem cut_join (c : UInt8) (s : List UInt8) : (cutB s c = false → cutA s c = s) ∧ (cutB s c = true → cutA s c ++ c :: cutZ s c = s) := by
  by_cases hm : c ∈ s
  · obtain ⟨q, r, rfl, hq⟩ : ∃ q r, s = q ++ c :: r ∧ c ∉ q := by
      rcases split_pre (c := c) s with ⟨h, -⟩ | ⟨q, r, h, h2, -⟩
      · exact absurd hm h
      · exact ⟨q, r, h, h2⟩
    obtain ⟨a, b, z⟩ := cut_app r hq
    exact ⟨fun h => (by rw [b] at h; cases h), fun _ => by rw [a, z]⟩
  · obtain ⟨a, b⟩ := cut_none hm
    exact ⟨fun _ => a, fun h => by rw [b] at h; cases h⟩
theorem maskd_twice (a k : Nat) : maskd (maskd a k) k = maskd a k := by
  have hp : 0 < 2 ^ (32 - k) := Nat.pos_of_ne_zero (by simp)
  unfold maskd
  rw [Nat.mul_div_cancel _ hp]
theorem numO_decs {u : Nat} (h : u < 100000) : numO (decs u) = some u := by
  unfold numO
  rw [decs_val, if_pos ⟨decs_canon u, by rw [decs_len]; have := ndig_le5 h; omega⟩]
theorem numO_back {s : List UInt8} {v : Nat} (h : numO s = some v) : decs v = s := by
  unfold numO at h
  split at h
  · rename_i hc
    cases h
    exact canon_dec hc.1
  · cases h
theorem ipT_back {s : List UInt8} {v : Nat} (h : ipO s = some v) : ipT v = s := by
  unfold ipO at h
  split at h
  · rename_i hl
    rcases split_pre (c := 46) s with ⟨_, e⟩ | ⟨p1, r1, hs1, n1, e1⟩
    · rw [e] at hl; simp at hl
    rw [e1] at hl h
    rcases split_pre (c := 46) r1 with ⟨_, e⟩ | ⟨p2, r2, hs2, n2, e2⟩
    · rw [e] at hl; simp at hl
    rw [e2] at hl h
    rcases split_pre (c := 46) r2 with ⟨_, e⟩ | ⟨p3, r3, hs3, n3, e3⟩
    · rw [e] at hl; simp at hl
    rw [e3] at hl h
    rcases split_pre (c := 46) r3 with ⟨_, e⟩ | ⟨p4, r4, hs4, n4, e4⟩
    · rw [e] at h
      simp only [octs] at h
      have key : ∀ {p : List UInt8} {x : Nat}, octV p = some x → decs x = p ∧ x ≤ 255 := fun {p x} hp => by
        unfold octV at hp
        split at hp
        · rename_i hc
          cases hp
          exact ⟨canon_dec hc.1, hc.2⟩
        · cases hp
      cases o1 : octV p1 with
      | none => rw [o1] at h; cases h
      | some x1 =>
        rw [o1] at h
        cases o2 : octV p2 with
        | none => rw [o2] at h; cases h
        | some x2 =>
          rw [o2] at h
          cases o3 : octV p3 with
          | none => rw [o3] at h; cases h
          | some x3 =>
            rw [o3] at h
            cases o4 : octV r3 with
            | none => rw [o4] at h; cases h
            | some x4 =>
              rw [o4] at h
              simp only [Option.some.injEq] at h
              obtain ⟨d1, b1⟩ := key o1
              obtain ⟨d2, b2⟩ := key o2
              obtain ⟨d3, b3⟩ := key o3
              obtain ⟨d4, b4⟩ := key o4
              have w1 : v / 16777216 = x1 := by omega
              have w2 : v / 65536 % 256 = x2 := by omega
              have w3 : v / 256 % 256 = x3 := by omega
              have w4 : v % 256 = x4 := by omega
              rw [ipT, w1, w2, w3, w4, d1, d2, d3, d4, hs1, hs2, hs3]
    · rw [e4] at hl
      have := List.length_pos_iff.2 (splitL_ne 46 r4)
      simp only [List.length_cons] at hl; omega
  · cases h
theorem pfOk_text {a k : Nat} (ha : a < 4294967296) (hk : k ≤ 32) : PfOk (pfT a (k : Int)) (maskd a k) k := by
  have hm := maskd_lt ha k
  have hn := ipT_no47 (maskd a k)
  unfold pfT
  rw [clampN_nat hk]
  by_cases h32 : k < 32
  · rw [if_pos h32]
    obtain ⟨hA, hB, hZ⟩ := cut_app (decs k) hn
    exact ⟨by rw [hA]; exact ipO_text hm, .inr ⟨hB, by rw [hZ]; exact numO_decs (by omega), hk⟩, maskd_twice a k⟩
  · obtain rfl : k = 32 := by omega
    rw [if_neg h32, List.append_nil]
    obtain ⟨hA, hB⟩ := cut_none hn
    exact ⟨by rw [hA]; exact ipO_text hm, .inl ⟨hB, rfl⟩, maskd_twice a 32⟩
theorem decs32 : decs 32 = [51, 50] := by decide +kernel
theorem pfOk_uniq {x : List UInt8} {a b a' b' : Nat} (h : PfOk x a b) (h' : PfOk x a' b') : a = a' ∧ b = b' := by
  obtain ⟨h1, h2, -⟩ := h
  obtain ⟨k1, k2, -⟩ := h'
  rw [h1] at k1
  refine ⟨Option.some.inj k1, ?_⟩
  rcases h2 with ⟨c, h2⟩ | ⟨c, h2, -⟩
  · rcases k2 with ⟨-, k2⟩ | ⟨c', -⟩
    · rw [h2, k2]
    · rw [c] at c'; cases c'
  · rcases k2 with ⟨c', -⟩ | ⟨-, k2, -⟩
    · rw [c] at c'; cases c'
    · rw [h2] at k2; exact Option.some.inj k2
theorem pfOk_back {x : List UInt8} {a b : Nat} (h : PfOk x a b) : pfT a (b : Int) = x ∨ b = 32 ∧ pfT a (b : Int) ++ [47, 51, 50] = x := by
  obtain ⟨h1, h2, hm⟩ := h
  have hj := cut_join 47 x
  have hi := ipT_back h1
  rcases h2 with ⟨c, rfl⟩ | ⟨c, h2, hb⟩
  · left
    unfold pfT
    rw [clampN_nat (k := 32) (by omega), if_neg (by omega), List.append_nil, hm, hi, hj.1 c]
  · have hd := numO_back h2
    by_cases h32 : b < 32
    · left
      unfold pfT
      rw [clampN_nat hb, if_pos h32, hm, hi, hd, hj.2 c]
    · obtain rfl : b = 32 := by omega
      right
      refine ⟨rfl, ?_⟩
      unfold pfT
      rw [clampN_nat (k := 32) (by omega), if_neg (by omega), List.append_nil, hm, hi]
      rw [decs32] at hd
      have := hj.2 c
      rw [← hd] at this
      exact this
theorem rgT_nat (l k : Nat) : rgT (l : Int) (k : Int) = if k ≤ l then decs l else decs l ++ 45 :: decs k := by
  unfold rgT
  rw [itoaL_nat, itoaL_nat]
  by_cases h : k ≤ l
  · rw [if_pos h, if_pos (by omega)]
  · rw [if_neg h, if_neg (by omega)]
theorem rgOk_text {l k : Nat} (hlk : l ≤ k) (hk : k ≤ 65535) : RgOk (rgT (l : Int) (k : Int)) 0 65535 l k := by
  have hn : (45 : UInt8) ∉ decs l := decs_no l rfl
  rw [rgT_nat]
  by_cases h : k ≤ l
  · obtain rfl : l = k := by omega
    rw [if_pos h]
    obtain ⟨hA, hB⟩ := cut_none hn
    exact ⟨by rw [hA]; exact numO_decs (by omega), .inl ⟨hB, rfl⟩, by omega, by omega, by omega⟩
  · rw [if_neg h]
    obtain ⟨hA, hB, hZ⟩ := cut_app (decs k) hn
    exact ⟨by rw [hA]; exact numO_decs (by omega), .inr ⟨hB, by rw [hZ]; exact numO_decs (by omega)⟩, by omega, by omega, by omega⟩
theorem rgOk_uniq {x : List UInt8} {lo hi : Int} {a b a' b' : Nat} (h : RgOk x lo hi a b) (h' : RgOk x lo hi a' b') : a = a' ∧ b = b' := by
  obtain ⟨h1, h2, -⟩ := h
  obtain ⟨k1, k2, -⟩ := h'
  rw [h1] at k1
  obtain rfl := Option.some.inj k1
  refine ⟨rfl, ?_⟩
  rcases h2 with ⟨c, h2⟩ | ⟨c, h2⟩
  · rcases k2 with ⟨-, k2⟩ | ⟨c', -⟩
    · rw [h2, k2]
    · rw [c] at c'; cases c'
  · rcases k2 with ⟨c', -⟩ | ⟨-, k2⟩
    · rw [c] at c'; cases c'
    · rw [h2] at k2; exact Option.some.inj k2
theorem rgOk_back {x : List UInt8} {lo hi : Int} {l k : Nat} (h : RgOk x lo hi l k) : rgT (l : Int) (k : Int) = x ∨ l = k ∧ rgT (l : Int) (k : Int) ++ 45 :: rgT (l : Int) (k : Int) = x := by
  obtain ⟨h1, h2, -, hlk, -⟩ := h
  have hj := cut_join 45 x
  have d1 := numO_back h1
  rw [rgT_nat]
  rcases h2 with ⟨c, rfl⟩ | ⟨c, h2⟩
  · left
    rw [if_pos (Nat.le_refl _), d1, hj.1 c]
  · have d2 := numO_back h2
    by_cases h : k ≤ l
    · obtain rfl : l = k := by omega
      right
      refine ⟨rfl, ?_⟩
      rw [if_pos h]
      have := hj.2 c
      rw [← d1, ← d2] at this
      exact this
    · left
      rw [if_neg h, d1, d2, hj.2 c]
end
end Go.Proofs.YtmmcnholpnediaaDoor.Am
namespace Go.Proofs.YtmmcnholpnediaaDoor.Am
noncomputable section
/- THE WALK of WordsBack: the first part. -/
theorem row_ne {h : AHeap} {p q : Nat} {v : Value} {i e : Int} {cs : List Value} {m : Nat} (hp : h.get p = some (rowB v i e)) (hq : h.get q = some (.cells (some 9) cs m)) : ¬ p = q := fun e2 => by
  subst e2
  rw [hp] at hq
  simp [rowB, rT] at hq
structure RS (ws : List (List UInt8)) (v : Value) (p : Nat) (h : AHeap) (n : Nat) (i : Nat) (e : Int) : Prop where
  row : h.get p = some (rowB v (i : Int) e)
  sv : StrV h v ws
  pow : HasPow h
  err : HasErrs h
  wf : WF h n
  p0 : 4096 ≤ p
  pn : p < n
theorem RS.put {ws : List (List UInt8)} {v : Value} {p : Nat} {h : AHeap} {n i : Nat} {e : Int} (x : RS ws v p h n i e) {n' : Nat} (hn : n ≤ n') (j : Nat) (c : Int) : RS ws v p (h.put p (rowB v (j : Int) c)) n' j c := by
  refine ⟨by simp, ?_, x.pow.put x.p0 _, x.err.put x.p0 _, x.wf.put _ (by have := x.pn; omega) hn, x.p0, by have := x.pn; omega⟩
  rcases x.sv with s | ⟨q, m, e, hg, hm⟩
  · exact .inl s
  · exact .inr ⟨q, m, e, by rw [AHeap.get_put, if_neg (row_ne x.row hg)]; exact hg, hm⟩
theorem new_to {s : List UInt8} {ws : List (List UInt8)} (h1 : s.length ≤ 200) (h2 : s.all plainC = true) (h3 : wordsL s = ws) {h : AHeap} {n : Nat} (hw : WF h n) :
    Ret EV15 10 [.string ⟨s.toArray⟩] h n (rowP (n + 4 + 2 * ws.length)) [(n + 3 + ws.length, .cells (some 9) (strsL ws) ws.length), (n + 4 + 2 * ws.length, rowB (.slice (some ⟨n + 3 + ws.length, 0, some ws.length⟩) ws.length 2) ((0 : Nat) : Int) 0)] (n + 5 + 2 * ws.length) := by
  have := new_ok (s := s) (by unfold splitE; rw [if_neg (by omega), if_pos h2]) hw
  rwa [h3] at this
/-- Bytes of addresses, prefixes, ranges. -/
def okC (c : UInt8) : Bool := isD c || c == 46 || c == 47 || c == 45
theorem okC_tab : ∀ b : Fin 256, okC (UInt8.ofNat b.1) = true → (wsp (UInt8.ofNat b.1) = false ∧ ¬ UInt8.ofNat b.1 = 35 ∧ plainC (UInt8.ofNat b.1) = true) := by decide +kernel
theorem okC_of {c : UInt8} (h : okC c = true) : wsp c = false ∧ ¬ c = 35 ∧ plainC c = true := by
  have := okC_tab ⟨c.toNat, c.toNat_lt⟩
  simp only [UInt8.ofNat_toNat] at this
  exact this h
theorem okC_dig {c : UInt8} (h : isD c = true) : okC c = true := by unfold okC; rw [h]; rfl
theorem decs_okC (u : Nat) : ∀ c ∈ decs u, okC c = true := fun c hc => okC_dig (List.all_eq_true.1 (decs_isD u) c hc)
theorem ipT_okC (a : Nat) : ∀ c ∈ ipT a, okC c = true := fun c hc => by
  unfold ipT at hc
  simp only [List.mem_append, List.mem_cons] at hc
  rcases hc with h | rfl | h | rfl | h | rfl | h
  · exact decs_okC _ c h
  · rfl
  · exact decs_okC _ c h
  · rfl
  · exact decs_okC _ c h
  · rfl
  · exact decs_okC _ c h
theorem pfT_okC (a : Nat) (b : Int) : ∀ c ∈ pfT a b, okC c = true := fun c hc => by
  unfold pfT at hc
  rcases List.mem_append.1 hc with h | h
  · exact ipT_okC _ c h
  · split at h
    · rcases List.mem_cons.1 h with rfl | h
      · rfl
      · exact decs_okC _ c h
    · cases h
theorem rgT_okC (l k : Nat) : ∀ c ∈ rgT (l : Int) (k : Int), okC c = true := fun c hc => by
  rw [rgT_nat] at hc
  split at hc
  · exact decs_okC _ c hc
  · rcases List.mem_append.1 hc with h | h
    · exact decs_okC _ c h
    · rcases List.mem_cons.1 h with rfl | h
      · rfl
      · exact decs_okC _ c h
theorem ipT_ne (a : Nat) : ¬ ipT a = [] := fun e => by
  unfold ipT at e
  simp at e
theorem pfT_ne (a : Nat) (b : Int) : ¬ pfT a b = [] := fun e => by
  unfold pfT at e
  exact ipT_ne _ (List.append_eq_nil_iff.1 e).1
theorem rgT_ne (l k : Nat) : ¬ rgT (l : Int) (k : Int) = [] := fun e => by
  rw [rgT_nat] at e
  split at e
  · exact decs_ne _ e
  · exact decs_ne _ (List.append_eq_nil_iff.1 e).1
theorem rgT_len {l k : Nat} (hl : l ≤ 65535) (hk : k ≤ 65535) : (rgT (l : Int) (k : Int)).length ≤ 11 := by
  have h1 : (decs l).length ≤ 5 := by rw [decs_len]; exact ndig_le5 (by omega)
  have h2 : (decs k).length ≤ 5 := by rw [decs_len]; exact ndig_le5 (by omega)
  rw [rgT_nat]
  split
  · omega
  · simp only [List.length_append, List.length_cons]; omega
theorem three_words {x y z : List UInt8} (hx : ∀ c ∈ x, okC c = true) (hy : ∀ c ∈ y, okC c = true) (hz : ∀ c ∈ z, okC c = true) (nx : ¬ x = []) (ny : ¬ y = []) (nz : ¬ z = []) : wordsL (x ++ 32 :: (y ++ 32 :: z)) = [x, y, z] ∧ (x ++ 32 :: (y ++ 32 :: z)).all plainC = true := by
  have cl : ∀ {w : List UInt8}, (∀ c ∈ w, okC c = true) → ∀ c ∈ w, wsp c = false ∧ ¬ c = 35 := fun h c hc => ⟨(okC_of (h c hc)).1, (okC_of (h c hc)).2.1⟩
  have pl : ∀ {w : List UInt8}, (∀ c ∈ w, okC c = true) → w.all plainC = true := fun h => List.all_eq_true.2 fun c hc => (okC_of (h c hc)).2.2
  constructor
  · show wordsGo [] _ = _
    have e : z = z ++ [] := (List.append_nil z).symm
    rw [go_word x [] _ (cl hx), List.nil_append, go_sp, word1_some nx, go_word y [] _ (cl hy), List.nil_append, go_sp, word1_some ny]
    rw [e, go_word z [] [] (cl hz), List.nil_append]
    show [x] ++ ([y] ++ word1 z) = _
    rw [word1_some nz, List.append_nil]; rfl
  · simp only [List.all_append, List.all_cons, pl hx, pl hy, pl hz]; decide
theorem one_word {x : List UInt8} (hx : ∀ c ∈ x, wsp c = false ∧ ¬ c = 35) (nx : ¬ x = []) : wordsL x = [x] := by
  show wordsGo [] x = _
  have e : x = x ++ [] := (List.append_nil x).symm
  rw [e, go_word x [] [] hx, List.nil_append]
  show word1 x = _
  rw [word1_some nx, List.append_nil]
end
end Go.Proofs.YtmmcnholpnediaaDoor.Am
namespace Go.Proofs.YtmmcnholpnediaaDoor.Am
noncomputable section
/- THE WALK of WordsBack: the second part. -/
def pc4_0 : ACode := match B4 with | .seq a _ => a | c => c
def t1_4 : ACode := match B4 with | .seq _ b => b | c => c
def t4_4 : ACode := match t1_4 with | .seq _ (.seq _ (.seq _ r)) => r | c => c
def t8_4 : ACode := match t4_4 with | .seq _ (.seq _ (.seq _ (.seq _ r))) => r | c => c
def t10_4 : ACode := match t8_4 with | .seq _ (.seq _ r) => r | c => c
def t11_4 : ACode := match t10_4 with | .seq _ r => r | c => c
theorem t8_eq : ∃ a b, t8_4 = .seq a (.seq b t10_4) := ⟨_, _, rfl⟩
theorem wk15 {h : AHeap} {n : Nat} (hw : WF h n) (hn : n ≤ 6000000000) : Ret EV15 9 [] h n (.bool true) [] 6000000091 := wk_ret hw hn
def a11_4 : ACode := match t11_4 with | .seq a _ => a | c => c
def t12_4 : ACode := match t11_4 with | .seq _ r => r | c => c
theorem t11_eq : t11_4 = .seq a11_4 t12_4 := rfl
def a12_4 : ACode := match t12_4 with | .seq a _ => a | c => c
def b12_4 : ACode := match t12_4 with | .seq _ (.seq b _) => b | c => c
def t13_4 : ACode := match t12_4 with | .seq _ (.seq _ r) => r | c => c
theorem t12_eq : t12_4 = .seq a12_4 (.seq b12_4 t13_4) := rfl
def a13_4 : ACode := match t13_4 with | .seq a _ => a | c => c
def b13_4 : ACode := match t13_4 with | .seq _ (.seq b _) => b | c => c
def t14_4 : ACode := match t13_4 with | .seq _ (.seq _ r) => r | c => c
theorem t13_eq : t13_4 = .seq a13_4 (.seq b13_4 t14_4) := rfl
theorem RS.other {ws : List (List UInt8)} {v : Value} {p : Nat} {h : AHeap} {n i : Nat} {e : Int} (x : RS ws v p h n i e) {p' : Nat} {v' : Value} {i' e' : Int} (hp' : h.get p' = some (rowB v' i' e')) (hne : ¬ p' = p) {n' : Nat} (hn : n ≤ n') (h4 : 4096 ≤ p') (hpn : p' < n) (j c : Int) : RS ws v p (h.put p' (rowB v' j c)) n' i e := by
  refine ⟨by rw [AHeap.get_put, if_neg hne]; exact x.row, ?_, x.pow.put h4 _, x.err.put h4 _, x.wf.put _ (by omega) hn, x.p0, by have := x.pn; omega⟩
  rcases x.sv with s | ⟨q, m, e, hg, hm⟩
  · exact .inl s
  · exact .inr ⟨q, m, e, by rw [AHeap.get_put, if_neg (row_ne hp' hg)]; exact hg, hm⟩
theorem RS.up {ws : List (List UInt8)} {v : Value} {p : Nat} {h : AHeap} {n i : Nat} {e : Int} (x : RS ws v p h n i e) {n' : Nat} (hn : n ≤ n') : RS ws v p h n' i e := ⟨x.row, x.sv, x.pow, x.err, x.wf.mono hn, x.p0, by have := x.pn; omega⟩
theorem q_keep {h : AHeap} {q p : Nat} {v : Value} {i e : Int} {cs : List Value} {m : Nat} (hq : h.get q = some (.cells (some 9) cs m)) (hp : h.get p = some (rowB v i e)) (B : Blk) : (h.put p B).get q = some (.cells (some 9) cs m) := by rw [AHeap.get_put, if_neg (row_ne hp hq)]; exact hq
theorem q_read {h : AHeap} {q : Nat} {ws : List (List UInt8)} {x : List UInt8} (hq : h.get q = some (.cells (some 9) (strsL ws) ws.length)) (hx : ws[0]? = some x) : h.read q ws.length 0 1 = some [.string ⟨x.toArray⟩] := by
  have hst : StrV h (.slice (some ⟨q, 0, some ws.length⟩) ws.length 2) ws := .inr ⟨_, ws.length, rfl, hq, Nat.le_refl _⟩
  obtain ⟨q', e, -, hr⟩ := hst.at hx
  cases e; exact hr
theorem back_w {h : AHeap} {n : Nat} (hw : WF h n) (hn : n ≤ 6000000000) {σ : Fr} : wx EV15 t14_4 σ h n (Done [.tmp 6] fun v _ _ => v = .bool true) ⟨⟩ := by
  have wk := wk15 hw hn
  simp -dsimp (discharger := omega) [t14_4, t13_4, t12_4, t11_4, t10_4, t8_4, t4_4, t1_4, B4]
  with_reducible refine call_ret wk ?_
  simp -dsimp (discharger := omega) []
set_option maxHeartbeats 4000000 in
theorem back_e {x : List UInt8} (hxl : x.length ≤ 200) {ws : List (List UInt8)} (hx0 : ws[0]? = some x) {q : Nat} {h : AHeap} {n : Nat} (hq : h.get q = some (.cells (some 9) (strsL ws) ws.length)) {p3 : Nat} {v3 : Value} (r3 : RS [x] v3 p3 h n 0 0) (hn : n ≤ 300000)
    {σ : Fr} (g16 : σ.get 16 = some (.slice (some ⟨q, 0, some ws.length⟩) ws.length 2)) (g20 : σ.get 20 = some (rowP p3)) : wx EV15 t13_4 σ h n (Done [.tmp 6] fun v _ _ => v = .bool true) ⟨⟩ := by
  have hx1 : [x][0]? = some x := rfl
  have hwl : 0 < ws.length := (List.getElem?_eq_some_iff.1 hx0).1
  have hn1 := r3.pn
  have hn0 := r3.p0
  obtain ⟨l, k, e, hll, hkl, hc, hI⟩ := range_ret r3.row r3.sv (by simp) hx1 (fun q m hg => row_ne r3.row hg) (by omega) rfl r3.wf r3.pn r3.p0 r3.err 0 1099511627776
  rw [t13_eq]
  simp -dsimp (discharger := omega) [a13_4, t13_4, t12_4, t11_4, t10_4, t8_4, t4_4, t1_4, B4, g20]
  with_reducible refine call_ret hI ?_
  have R3 := r3.put (n' := n + 40) (by omega) 1 e
  have Q := q_keep hq r3.row (rowB v3 ((1 : Nat) : Int) e)
  clear hI r3 hq
  generalize hH : h.put p3 (rowB v3 ((1 : Nat) : Int) e) = H at *
  simp only [Int.natCast_one] at hH
  have hT := wrange_ret (low := (l : Int)) (high := (k : Int)) (by omega) (by omega) (by omega) (by omega) R3.wf R3.pow (by omega)
  simp -dsimp (discharger := omega) [hH, b13_4, t13_4, t12_4, t11_4, t10_4, t8_4, t4_4, t1_4, B4]
  with_reducible refine call_ret hT ?_
  simp -dsimp (discharger := omega) [g20]
  with_reducible refine call_ret (err_ret R3.row _) ?_
  have W : ∀ {σ : Fr} {m : Nat}, n ≤ m → m ≤ n + 100 → n + 40 ≤ m → wx EV15 t14_4 σ H m (Done [.tmp 6] fun v _ _ => v = .bool true) ⟨⟩ := fun h1 h2 h3 => back_w (R3.wf.mono h3) (by omega)
  have rd := q_read Q hx0
  rcases hc with ⟨ho, rfl⟩ | ⟨hne, rfl, rfl, -⟩
  · rcases rgOk_back ho with hb | ⟨rfl, hb⟩
    · rw [hb]
      simp -dsimp (discharger := omega) [g16, rd]
      exact W (by omega) (by omega) (by omega)
    · generalize rgT (l : Int) (l : Int) = T at *
      have hTl : T.length + (T.length + 1) = x.length := by rw [← hb]; simp
      have hne : (T == x) = false := by
        rw [← hb]
        simp only [beq_eq_false_iff_ne]
        intro e
        have := congrArg List.length e
        simp at this
      simp -dsimp (discharger := omega) [g16, rd, hne, hb]
      exact W (by omega) (by omega) (by omega)
  · have hbe : (e == 0) = false := by simpa using hne
    simp -dsimp (discharger := omega) [hbe]
    exact W (by omega) (by omega) (by omega)
set_option maxHeartbeats 4000000 in
theorem back_d {x : List UInt8} (hxl : x.length ≤ 200) {ws : List (List UInt8)} (hx0 : ws[0]? = some x) {q : Nat} {h : AHeap} {n : Nat} (hq : h.get q = some (.cells (some 9) (strsL ws) ws.length)) {p2 p3 : Nat} {v2 v3 : Value} (r2 : RS [x] v2 p2 h n 0 0) (r3 : RS [x] v3 p3 h n 0 0) (h23 : ¬ p2 = p3) (hn : n ≤ 200000)
    {σ : Fr} (g16 : σ.get 16 = some (.slice (some ⟨q, 0, some ws.length⟩) ws.length 2)) (g19 : σ.get 19 = some (rowP p2)) (g20 : σ.get 20 = some (rowP p3)) : wx EV15 t12_4 σ h n (Done [.tmp 6] fun v _ _ => v = .bool true) ⟨⟩ := by
  have hx1 : [x][0]? = some x := rfl
  have hwl : 0 < ws.length := (List.getElem?_eq_some_iff.1 hx0).1
  have hn1 := r2.pn
  have hn0 := r2.p0
  obtain ⟨a, b, e, ha, hbl, hc, hI⟩ := pref_ret r2.row r2.sv (by simp) hx1 (fun q m hg => row_ne r2.row hg) (by omega) rfl r2.wf r2.pn r2.p0 r2.err
  rw [t12_eq]
  simp -dsimp (discharger := omega) [a12_4, t12_4, t11_4, t10_4, t8_4, t4_4, t1_4, B4, g19]
  with_reducible refine call_ret hI ?_
  have R2 := r2.put (n' := n + 40) (by omega) 1 e
  have R3 := r3.other r2.row h23 (n' := n + 40) (by omega) r2.p0 r2.pn ((1 : Nat) : Int) e
  have Q := q_keep hq r2.row (rowB v2 ((1 : Nat) : Int) e)
  clear hI r2 r3 hq
  generalize hH : h.put p2 (rowB v2 ((1 : Nat) : Int) e) = H at *
  simp only [Int.natCast_one] at hH
  have hT := wptext_ret ha (b : Int) R2.wf R2.pow (by omega)
  simp -dsimp (discharger := omega) [hH, b12_4, t12_4, t11_4, t10_4, t8_4, t4_4, t1_4, B4]
  with_reducible refine call_ret hT ?_
  simp -dsimp (discharger := omega) [g19]
  with_reducible refine call_ret (err_ret R2.row _) ?_
  have W : ∀ {σ : Fr} {m : Nat}, n + 40 ≤ m → m ≤ n + 100 → σ.get 16 = some (.slice (some ⟨q, 0, some ws.length⟩) ws.length 2) → σ.get 20 = some (rowP p3) → wx EV15 t13_4 σ H m (Done [.tmp 6] fun v _ _ => v = .bool true) ⟨⟩ := fun h1 h2 a b => back_e hxl hx0 Q (R3.up h1) (by omega) a b
  have rd := q_read Q hx0
  rcases hc with ⟨ho, rfl⟩ | ⟨hne, rfl, rfl, -⟩
  · rcases pfOk_back ho with hb | ⟨rfl, hb⟩
    · rw [hb]
      simp -dsimp (discharger := omega) [g16, rd]
      exact W (by omega) (by omega) (by simp [g16]) (by simp [g20])
    · generalize pfT a ((32 : Nat) : Int) = T at *
      have hTl : T.length + 3 = x.length := by rw [← hb]; simp
      have hne : (T == x) = false := by
        rw [← hb]
        simp only [beq_eq_false_iff_ne]
        intro e
        have := congrArg List.length e
        simp at this
      simp -dsimp (discharger := omega) [g16, rd, hne, hb]
      exact W (by omega) (by omega) (by simp [g16]) (by simp [g20])
  · have hbe : (e == 0) = false := by simpa using hne
    simp -dsimp (discharger := omega) [hbe]
    exact W (by omega) (by omega) (by simp [g16]) (by simp [g20])
set_option maxHeartbeats 4000000 in
theorem back_c {x : List UInt8} (hxl : x.length ≤ 200) {v16 : Value} {ws : List (List UInt8)} (hx0 : ws[0]? = some x) {q : Nat} (hv16 : v16 = .slice (some ⟨q, 0, some ws.length⟩) ws.length 2) {h : AHeap} {n : Nat} (hq : h.get q = some (.cells (some 9) (strsL ws) ws.length)) {p1 p2 p3 : Nat} {v1 v2 v3 : Value} (r1 : RS [x] v1 p1 h n 0 0) (r2 : RS [x] v2 p2 h n 0 0) (r3 : RS [x] v3 p3 h n 0 0) (h12 : ¬ p1 = p2) (h13 : ¬ p1 = p3) (h23 : ¬ p2 = p3) (hn : n ≤ 100000)
    {σ : Fr} (g16 : σ.get 16 = some v16) (g18 : σ.get 18 = some (rowP p1)) (g19 : σ.get 19 = some (rowP p2)) (g20 : σ.get 20 = some (rowP p3)) : wx EV15 t11_4 σ h n (Done [.tmp 6] fun v _ _ => v = .bool true) ⟨⟩ := by
  subst hv16
  have hx1 : [x][0]? = some x := rfl
  have hwl : 0 < ws.length := (List.getElem?_eq_some_iff.1 hx0).1
  have hn1 := r1.pn
  have hn0 := r1.p0
  obtain ⟨a, e, ha, hc, hI⟩ := rip_ret r1.row r1.sv (by simp) hx1 (fun q m hg => row_ne r1.row hg) (by omega) rfl r1.wf r1.pn r1.p0 r1.err
  rw [t11_eq]
  simp -dsimp (discharger := omega) [a11_4, t11_4, t10_4, t8_4, t4_4, t1_4, B4, g18]
  with_reducible refine call_ret hI ?_
  have R1 := r1.put (n' := n + 21) (by omega) 1 e
  have R2 := r2.other r1.row h12 (n' := n + 21) (by omega) r1.p0 r1.pn ((1 : Nat) : Int) e
  have R3 := r3.other r1.row h13 (n' := n + 21) (by omega) r1.p0 r1.pn ((1 : Nat) : Int) e
  have Q := q_keep hq r1.row (rowB v1 ((1 : Nat) : Int) e)
  clear hI r1 r2 r3 hq
  generalize hH : h.put p1 (rowB v1 ((1 : Nat) : Int) e) = H at *
  simp only [Int.natCast_one] at hH
  simp -dsimp (discharger := omega) [hH, g18]
  with_reducible refine ret_ret (err_ret R1.row _) ?_
  have part2 : ∀ {σ : Fr} {m : Nat}, n + 21 ≤ m → m ≤ n + 60 → σ.get 16 = some (.slice (some ⟨q, 0, some ws.length⟩) ws.length 2) → σ.get 19 = some (rowP p2) → σ.get 20 = some (rowP p3) → wx EV15 t12_4 σ H m (Done [.tmp 6] fun v _ _ => v = .bool true) ⟨⟩ := fun h1 h2 g16 g19 g20 => back_d hxl hx0 Q (R2.up h1) (R3.up h1) h23 (by omega) g16 g19 g20
  rcases hc with ⟨ho, rfl⟩ | ⟨ho, hne, rfl⟩
  · have hT := wtext_ret ha R1.wf R1.pow (by omega)
    rw [ipT_back ho] at hT
    simp -dsimp (discharger := omega) []
    with_reducible refine ret_ret hT ?_
    simp -dsimp (discharger := omega) [g16, q_read Q hx0]
    exact part2 (by omega) (by omega) (by simp [g16]) (by simp [g19]) (by simp [g20])
  · have hbe : (e == 0) = false := by simpa using hne
    simp -dsimp (discharger := omega) [hbe]
    exact part2 (by omega) (by omega) (by simp [g16]) (by simp [g19]) (by simp [g20])
def a8_4 : ACode := match t8_4 with | .seq a _ => a | c => c
def b8_4 : ACode := match t8_4 with | .seq _ (.seq b _) => b | c => c
theorem t8_eq2 : t8_4 = .seq a8_4 (.seq b8_4 t10_4) := rfl
def a10_4 : ACode := match t10_4 with | .seq a _ => a | c => c
theorem t10_eq : t10_4 = .seq a10_4 t11_4 := rfl
theorem new_one {x : List UInt8} (h1 : x.length ≤ 200) (h2 : x.all plainC = true) (h3 : wordsL x = [x]) {h : AHeap} {n : Nat} (hw : WF h n) :
    Ret EV15 10 [.string ⟨x.toArray⟩] h n (rowP (n + 6)) [(n + 4, .cells (some 9) (strsL [x]) 1), (n + 6, rowB (.slice (some ⟨n + 4, 0, some 1⟩) 1 2) ((0 : Nat) : Int) 0)] (n + 7) := new_to h1 h2 h3 hw
theorem rs_new {h : AHeap} {n : Nat} {x : List UInt8} (hw : WF h n) (hp : HasPow h) (he : HasErrs h) (hn : 4096 ≤ n) : RS [x] (.slice (some ⟨n + 4, 0, some 1⟩) 1 2) (n + 6) ((h.put (n + 4) (.cells (some 9) (strsL [x]) 1)).put (n + 6) (rowB (.slice (some ⟨n + 4, 0, some 1⟩) 1 2) ((0 : Nat) : Int) 0)) (n + 7) 0 0 :=
  ⟨by simp, .inr ⟨n + 4, 1, rfl, by simp (discharger := omega), Nat.le_refl _⟩, (hp.put (by omega) _).put (by omega) _, (he.put (by omega) _).put (by omega) _, (hw.put (m := n + 5) _ (by omega) (by omega)).put _ (by omega) (by omega), by omega, by omega⟩
theorem RS.mono {ws : List (List UInt8)} {v : Value} {p : Nat} {h h' : AHeap} {n n' i : Nat} {e : Int} (x : RS ws v p h n i e) (hs : HSub h h') (hw : WF h' n') (hn : n ≤ n') : RS ws v p h' n' i e :=
  ⟨hs _ _ x.row, x.sv.mono hs, x.pow.sub hs, x.err.sub hs, hw, x.p0, by have := x.pn; omega⟩
set_option maxHeartbeats 4000000 in
theorem back_b {s : List UInt8} (hs : s.length < 9223372036854775808) {h : AHeap} {n : Nat} (hp : HasPow h) (he : HasErrs h) (hw : WF h n) (hn0 : 4096 ≤ n) (hn : n ≤ 50000) {σ : Fr} (g2 : σ.get 2 = some (.string ⟨s.toArray⟩)) : wx EV15 t8_4 σ h n (Done [.tmp 6] fun v _ _ => v = .bool true) ⟨⟩ := by
  rw [t8_eq2]
  simp -dsimp (discharger := omega) [a8_4, t8_4, t4_4, t1_4, B4, g2]
  have hy : (List.take (if (60 : Int) < (s.length : Int) then (60 : Int) else (s.length : Int)).toNat s).length ≤ 60 := by rw [List.length_take]; split <;> omega
  generalize List.take (if (60 : Int) < (s.length : Int) then (60 : Int) else (s.length : Int)).toNat s = y at *
  by_cases hok : splitE y = 0
  · have hsp : y.all plainC = true := by
      unfold splitE at hok
      rw [if_neg (by omega)] at hok
      cases hp : y.all plainC with
      | true => rfl
      | false => rw [hp] at hok; cases hok
    have hlen : (wordsL y).length ≤ y.length + 1 := words_len y []
    with_reducible refine call_ret (wsplit_ok hok hw) ?_
    have hs1 : HSub h (h.put (n + 3 + (wordsL y).length) (.cells (some 9) (strsL (wordsL y)) (wordsL y).length)) := .new (.refl _) hw (by omega) _
    have hw1 : WF (h.put (n + 3 + (wordsL y).length) (.cells (some 9) (strsL (wordsL y)) (wordsL y).length)) (n + 4 + 2 * (wordsL y).length) := hw.put _ (by omega) (by omega)
    have hq : (h.put (n + 3 + (wordsL y).length) (.cells (some 9) (strsL (wordsL y)) (wordsL y).length)).get (n + 3 + (wordsL y).length) = some (.cells (some 9) (strsL (wordsL y)) (wordsL y).length) := by simp
    generalize hH : h.put (n + 3 + (wordsL y).length) (.cells (some 9) (strsL (wordsL y)) (wordsL y).length) = H at *
    have hp1 := hp.sub hs1
    have he1 := he.sub hs1
    by_cases hz : (wordsL y).length = 0
    · have wk := wk15 hw1 (by omega)
      simp -dsimp (discharger := omega) [hH, b8_4, t8_4, t4_4, t1_4, B4]
      with_reducible refine call_ret wk ?_
      simp -dsimp (discharger := omega) []
    · obtain ⟨x, hx0⟩ : ∃ x, (wordsL y)[0]? = some x := ⟨_, List.getElem?_eq_getElem (by omega)⟩
      have hxm : x ∈ wordsL y := by obtain ⟨h1, rfl⟩ := List.getElem?_eq_some_iff.1 hx0; exact List.getElem_mem h1
      obtain ⟨nx, hcl⟩ := words_bytes y [] (fun c hc => by cases hc) x hxm
      have hxl : x.length ≤ 60 := by have := words_long y [] x hxm; simp at this; omega
      have hpl : x.all plainC = true := List.all_eq_true.2 fun c hc => by
        rcases words_mem y [] x hxm c hc with h | h
        · cases h
        · exact List.all_eq_true.1 hsp c h
      have h1w := one_word hcl nx
      have rd := q_read hq hx0
      generalize hL : (wordsL y).length = L at *
      generalize hq' : n + 3 + L = q at *
      generalize hN : n + 4 + 2 * L = N at *
      have hqN : q < N := by omega
      have n1 := new_one (by omega) hpl h1w hw1
      simp -dsimp (discharger := omega) [hH, b8_4, t8_4, t4_4, t1_4, B4]
      rw [t10_eq]
      simp -dsimp (discharger := omega) [a10_4, t10_4, t8_4, t4_4, t1_4, B4, rd]
      with_reducible refine ret_ret n1 ?_
      have N1 := rs_new (x := x) hw1 hp1 he1 (by omega)
      have hs2 : HSub H ((H.put (N + 4) (.cells (some 9) (strsL [x]) 1)).put (N + 6) (rowB (.slice (some ⟨N + 4, 0, some 1⟩) 1 2) ((0 : Nat) : Int) 0)) := .new (.new (.refl _) hw1 (by omega) _) hw1 (by omega) _
      generalize hH2 : (H.put (N + 4) (.cells (some 9) (strsL [x]) 1)).put (N + 6) (rowB (.slice (some ⟨N + 4, 0, some 1⟩) 1 2) ((0 : Nat) : Int) 0) = H2 at *
      simp only [Int.natCast_zero] at hH2
      have n2 := new_one (by omega) hpl h1w N1.wf
      have rd2 := read_mono hs2 rd
      have nq1 : ¬ N + 4 = q := by omega
      have nq2 : ¬ N + 6 = q := by omega
      simp -dsimp (discharger := omega) [hH2, rd2, nq1, nq2]
      with_reducible refine ret_ret n2 ?_
      have N2 := rs_new (x := x) N1.wf N1.pow N1.err (by omega)
      have hs3 : HSub H2 ((H2.put (N + 7 + 4) (.cells (some 9) (strsL [x]) 1)).put (N + 7 + 6) (rowB (.slice (some ⟨N + 7 + 4, 0, some 1⟩) 1 2) ((0 : Nat) : Int) 0)) := .new (.new (.refl _) N1.wf (by omega) _) N1.wf (by omega) _
      generalize hH3 : (H2.put (N + 7 + 4) (.cells (some 9) (strsL [x]) 1)).put (N + 7 + 6) (rowB (.slice (some ⟨N + 7 + 4, 0, some 1⟩) 1 2) ((0 : Nat) : Int) 0) = H3 at *
      simp only [Int.natCast_zero] at hH3
      have n3 := new_one (by omega) hpl h1w N2.wf
      have rd3 := read_mono hs3 rd2
      have nq3 : ¬ N + 7 + 4 = q := by omega
      have nq4 : ¬ N + 7 + 6 = q := by omega
      simp -dsimp (discharger := omega) [hH3, rd3, nq1, nq2, nq3, nq4]
      with_reducible refine ret_ret n3 ?_
      have N3 := rs_new (x := x) N2.wf N2.pow N2.err (by omega)
      have hs4 : HSub H3 ((H3.put (N + 7 + 7 + 4) (.cells (some 9) (strsL [x]) 1)).put (N + 7 + 7 + 6) (rowB (.slice (some ⟨N + 7 + 7 + 4, 0, some 1⟩) 1 2) ((0 : Nat) : Int) 0)) := .new (.new (.refl _) N2.wf (by omega) _) N2.wf (by omega) _
      generalize hH4 : (H3.put (N + 7 + 7 + 4) (.cells (some 9) (strsL [x]) 1)).put (N + 7 + 7 + 6) (rowB (.slice (some ⟨N + 7 + 7 + 4, 0, some 1⟩) 1 2) ((0 : Nat) : Int) 0) = H4 at *
      simp only [Int.natCast_zero] at hH4
      simp -dsimp (discharger := omega) [hH4]
      refine back_c (by omega) hx0 rfl (q := q) (hs4 _ _ (hs3 _ _ (hs2 _ _ (by rw [hL]; exact hq)))) ((N1.mono hs3 N2.wf (by omega)).mono hs4 N3.wf (by omega)) (N2.mono hs4 N3.wf (by omega)) N3 (by omega) (by omega) (by omega) (by omega) (by simp [hL]) (by simp [rowP]) (by simp [rowP]) (by simp [rowP])
  · have wk := wk15 (hw.mono (by omega : n ≤ n + 1)) (by omega)
    have hbe : ((splitE y : Int) != 0) = true := by simp only [bne_iff_ne, ne_eq]; omega
    with_reducible refine call_ret (wsplit_bad (by omega) hok hw) ?_
    simp -dsimp (discharger := omega) [b8_4, t8_4, t4_4, t1_4, B4, hbe]
    with_reducible refine call_ret wk ?_
    simp -dsimp (discharger := omega) []
end
end Go.Proofs.YtmmcnholpnediaaDoor.Am
namespace Go.Proofs.YtmmcnholpnediaaDoor.Am
noncomputable section
/- THE WALK of WordsBack: the first part; all. -/
def a0_4 : ACode := match B4 with | .seq a _ => a | c => c
def a1_4 : ACode := match t1_4 with | .seq a _ => a | c => c
def a2_4 : ACode := match t1_4 with | .seq _ (.seq b _) => b | c => c
def a3_4 : ACode := match t1_4 with | .seq _ (.seq _ (.seq c _)) => c | c => c
theorem b4_eq : B4 = .seq a0_4 (.seq a1_4 (.seq a2_4 (.seq a3_4 t4_4))) := rfl
def a4_4 : ACode := match t4_4 with | .seq a _ => a | c => c
def a5_4 : ACode := match t4_4 with | .seq _ (.seq b _) => b | c => c
def a6_4 : ACode := match t4_4 with | .seq _ (.seq _ (.seq c _)) => c | c => c
def a7_4 : ACode := match t4_4 with | .seq _ (.seq _ (.seq _ (.seq d _))) => d | c => c
theorem t4_eq : t4_4 = .seq a4_4 (.seq a5_4 (.seq a6_4 (.seq a7_4 t8_4))) := rfl
set_option maxHeartbeats 4000000 in
theorem back_a2 {A k lo hi : Nat} (hA : A < 4294967296) (hk : k ≤ 32) (hlh : lo ≤ hi) (hhi : hi ≤ 65535) {s : List UInt8} (hs : s.length < 9223372036854775808) {v : Value} {p : Nat} {h : AHeap} {n : Nat} (R : RS [ipT A, pfT A (k : Int), rgT (lo : Int) (hi : Int)] v p h n 0 0) (hn2 : n ≤ 10000) {σ : Fr}
    (g0 : σ.get 0 = some (.int .u32 (A : Int))) (g2 : σ.get 2 = some (.string ⟨s.toArray⟩)) (g7 : σ.get 7 = some (.int .i64 (k : Int))) (g8 : σ.get 8 = some (.int .i64 (lo : Int))) (g9 : σ.get 9 = some (.int .i64 (hi : Int))) (g10 : σ.get 10 = some (rowP p)) :
    wx EV15 t4_4 σ h n (Done [.tmp 6] fun v _ _ => v = .bool true) ⟨⟩ := by
  have lx := ipT_len15 hA
  have ly := pfT_len18 hA hk
  have lz := rgT_len (l := lo) (k := hi) (by omega) hhi
  have hn1 := R.pn
  have hn0 := R.p0
  generalize hws : [ipT A, pfT A (k : Int), rgT (lo : Int) (hi : Int)] = ws at R
  have w0 : ws[0]? = some (ipT A) := by rw [← hws]; rfl
  have w1 : ws[1]? = some (pfT A (k : Int)) := by rw [← hws]; rfl
  have w2 : ws[2]? = some (rgT (lo : Int) (hi : Int)) := by rw [← hws]; rfl
  have wl : ws.length = 3 := by rw [← hws]; rfl
  obtain ⟨a, e, ha, hc, hI⟩ := rip_ret R.row R.sv (by omega) w0 (fun q m hg => row_ne R.row hg) (by omega) rfl R.wf R.pn R.p0 R.err
  obtain ⟨rfl, rfl⟩ : a = A ∧ e = 0 := by
    rcases hc with ⟨h1, h2⟩ | ⟨h1, -⟩
    · rw [ipO_text hA] at h1; exact ⟨(Option.some.inj h1).symm, h2⟩
    · rw [ipO_text hA] at h1; cases h1
  rw [t4_eq]
  simp -dsimp (discharger := omega) [a4_4, t4_4, t1_4, B4, g10]
  with_reducible refine call_ret hI ?_
  have R1 := R.put (n' := n + 21) (by omega) (0 + 1) 0
  clear hI R hc
  generalize hH1 : h.put p (rowB v ((0 + 1 : Nat) : Int) 0) = H1 at *
  have hH1' : h.put p (rowB v 1 0) = H1 := hH1
  obtain ⟨a2, b2, e2, ha2, hb2, hc2, hI2⟩ := pref_ret R1.row R1.sv (by omega) w1 (fun q m hg => row_ne R1.row hg) (by omega) rfl R1.wf R1.pn R1.p0 R1.err
  have hok := pfOk_text hA hk
  obtain ⟨rfl, rfl, rfl⟩ : a2 = maskd a k ∧ b2 = k ∧ e2 = 0 := by
    rcases hc2 with ⟨h1, h2⟩ | ⟨-, -, -, h1⟩
    · obtain ⟨u1, u2⟩ := pfOk_uniq h1 hok
      exact ⟨u1, u2, h2⟩
    · exact absurd hok (h1 _ _)
  simp -dsimp (discharger := omega) [hH1', a5_4, t4_4, t1_4, B4, g10]
  with_reducible refine call_ret hI2 ?_
  have R2 := R1.put (n' := n + 21 + 40) (by omega) (0 + 1 + 1) 0
  clear hI2 R1 hc2
  generalize hH2 : H1.put p (rowB v ((0 + 1 + 1 : Nat) : Int) 0) = H2 at *
  have hH2' : H1.put p (rowB v 2 0) = H2 := hH2
  obtain ⟨l3, k3, e3, hl3, hk3, hc3, hI3⟩ := range_ret R2.row R2.sv (by omega) w2 (fun q m hg => row_ne R2.row hg) (by omega) rfl R2.wf R2.pn R2.p0 R2.err 0 65535
  have hok3 := rgOk_text hlh hhi
  obtain ⟨rfl, rfl, rfl⟩ : l3 = lo ∧ k3 = hi ∧ e3 = 0 := by
    rcases hc3 with ⟨h1, h2⟩ | ⟨-, -, -, h1⟩
    · obtain ⟨u1, u2⟩ := rgOk_uniq h1 hok3
      exact ⟨u1, u2, h2⟩
    · exact absurd hok3 (h1 _ _)
  simp -dsimp (discharger := omega) [hH2', a6_4, t4_4, t1_4, B4, g10]
  with_reducible refine call_ret hI3 ?_
  have R3 := R2.put (n' := n + 21 + 40 + 40) (by omega) (0 + 1 + 1 + 1) 0
  clear hI3 R2 hc3
  generalize hH3 : H2.put p (rowB v ((0 + 1 + 1 + 1 : Nat) : Int) 0) = H3 at *
  have hH3' : H2.put p (rowB v 3 0) = H3 := hH3
  have hE := end_ret R3.row R3.sv (by omega) (fun _ => (by rw [wl]; omega)) (n + 21 + 40 + 40)
  have ht1 := wptext_ret ha2 (b2 : Int) R3.wf R3.pow (by omega)
  have ht2 := wptext_ret ha (b2 : Int) (R3.wf.mono (by omega : n + 21 + 40 + 40 ≤ n + 21 + 40 + 40 + 32)) R3.pow (by omega)
  have hsame : pfT (maskd a b2) (b2 : Int) = pfT a (b2 : Int) := by
    unfold pfT
    rw [clampN_nat hk, maskd_twice]
  rw [hsame] at ht1
  simp -dsimp (discharger := omega) [hH3', a7_4, t4_4, t1_4, B4, g10]
  with_reducible refine call_ret hE ?_
  have fin : ∀ {σ : Fr} {m : Nat}, n + 101 ≤ m → m ≤ n + 200 → σ.get 2 = some (.string ⟨s.toArray⟩) → wx EV15 t8_4 σ H3 m (Done [.tmp 6] fun v _ _ => v = .bool true) ⟨⟩ := fun h1 h2 g => back_b hs R3.pow R3.err (R3.wf.mono (by omega)) (by omega) (by omega) g
  by_cases h32 : b2 = 32
  · subst h32
    rw [maskd32] at ht1 ⊢
    simp -dsimp (discharger := omega) [g0, g7, g8, g9]
    with_reducible refine call_ret ht1 ?_
    simp -dsimp (discharger := omega) [g0, g7]
    with_reducible refine call_ret ht2 ?_
    simp -dsimp (discharger := omega) []
    exact fin (by omega) (by omega) (by simp [g2])
  · have hb32 : ((b2 : Int) == 32) = false := by simp only [beq_eq_false_iff_ne]; omega
    simp -dsimp (discharger := omega) [g0, g7, g8, g9, hb32]
    with_reducible refine call_ret ht1 ?_
    simp -dsimp (discharger := omega) [g0, g7]
    with_reducible refine call_ret ht2 ?_
    simp -dsimp (discharger := omega) []
    exact fin (by omega) (by omega) (by simp [g2])
set_option maxHeartbeats 4000000 in
theorem back_walk {A x0 x1 x2 : Nat} (hA : A < 4294967296) (_ : x0 < 65536) (h1 : x1 < 65536) (h2 : x2 < 65536) {s : List UInt8} (hs : s.length < 9223372036854775808) {h : AHeap} {n : Nat} (hw : WF h n) (hp : HasPow h) (he : HasErrs h) (hn : 4096 ≤ n) (hn2 : n ≤ 5000) :
    HasCallT EV15 4 [.int .u32 (A : Int), .agg #[.int .u16 (x0 : Int), .int .u16 (x1 : Int), .int .u16 (x2 : Int)], .string ⟨s.toArray⟩] h n (fun v _ _ => v = .bool true) () := by
  refine inl4 ?_
  rw [b4_eq]
  have hk : Int.tmod (x0 : Int) 33 = ((x0 % 33 : Nat) : Int) := tmod_nat x0 33
  have hk33 : x0 % 33 < 33 := Nat.mod_lt _ (by omega)
  generalize x0 % 33 = k at *
  simp -dsimp (discharger := omega) [a0_4, a1_4, B4, t1_4, hk]
  simp -dsimp (discharger := omega) [a2_4, B4, t1_4]
  obtain ⟨lo, hlo, hlo2⟩ : ∃ lo : Nat, (if x2 < x1 then (x2 : Int) else (x1 : Int)) = (lo : Int) ∧ lo = min x1 x2 := ⟨min x1 x2, by split <;> omega, rfl⟩
  obtain ⟨hi, hhi, hhi2⟩ : ∃ hi : Nat, (if x1 < x2 then (x2 : Int) else (x1 : Int)) = (hi : Int) ∧ hi = max x1 x2 := ⟨max x1 x2, by split <;> omega, rfl⟩
  have hlh : lo ≤ hi := by omega
  have hh : hi ≤ 65535 := by omega
  simp only [hlo, hhi]
  clear hlo hhi hlo2 hhi2
  have lx := ipT_len15 hA
  have ly := pfT_len18 hA (k := k) (by omega)
  have lz := rgT_len (l := lo) (k := hi) (by omega) hh
  have hw1 : WF (h.put n (.cells (some 34) [.int .u16 (x0 : Int), .int .u16 (x1 : Int), .int .u16 (x2 : Int)] 3)) (n + 1) := hw.put _ (by omega) (by omega)
  have hp1 : HasPow (h.put n (.cells (some 34) [.int .u16 (x0 : Int), .int .u16 (x1 : Int), .int .u16 (x2 : Int)] 3)) := hp.put hn _
  have he1 : HasErrs (h.put n (.cells (some 34) [.int .u16 (x0 : Int), .int .u16 (x1 : Int), .int .u16 (x2 : Int)] 3)) := he.put hn _
  generalize h.put n (.cells (some 34) [.int .u16 (x0 : Int), .int .u16 (x1 : Int), .int .u16 (x2 : Int)] 3) = H at *
  have c1 := wtext_ret hA hw1 hp1 (by omega)
  have c2 := wptext_ret hA (k : Int) (hw1.mono (by omega : n + 1 ≤ n + 1 + 30)) hp1 (by omega)
  have c3 := wrange_ret (low := (lo : Int)) (high := (hi : Int)) (by omega) (by omega) (by omega) (by omega) (hw1.mono (by omega : n + 1 ≤ n + 1 + 30 + 32)) hp1 (by omega)
  obtain ⟨tw, tp⟩ := three_words (ipT_okC A) (pfT_okC A (k : Int)) (rgT_okC lo hi) (ipT_ne A) (pfT_ne A _) (rgT_ne lo hi)
  generalize hX : ipT A = X at *
  generalize hY : pfT A (k : Int) = Y at *
  generalize hZ : rgT (lo : Int) (hi : Int) = Z at *
  have hwN : WF H (n + 1 + 30 + 32 + 2) := hw1.mono (by omega)
  have c4 := new_to (s := X ++ 32 :: (Y ++ 32 :: Z)) (ws := [X, Y, Z]) (by simp; omega) tp tw hwN
  have c4' : Ret EV15 10 [.string ⟨(X ++ 32 :: (Y ++ 32 :: Z)).toArray⟩] H (n + 1 + 30 + 32 + 2) (rowP (n + 1 + 30 + 32 + 2 + 10)) [(n + 1 + 30 + 32 + 2 + 6, .cells (some 9) (strsL [X, Y, Z]) 3), (n + 1 + 30 + 32 + 2 + 10, rowB (.slice (some ⟨n + 1 + 30 + 32 + 2 + 6, 0, some 3⟩) 3 2) ((0 : Nat) : Int) 0)] (n + 1 + 30 + 32 + 2 + 11) := c4
  have R : RS [X, Y, Z] (.slice (some ⟨n + 1 + 30 + 32 + 2 + 6, 0, some 3⟩) 3 2) (n + 1 + 30 + 32 + 2 + 10) ((H.put (n + 1 + 30 + 32 + 2 + 6) (.cells (some 9) (strsL [X, Y, Z]) 3)).put (n + 1 + 30 + 32 + 2 + 10) (rowB (.slice (some ⟨n + 1 + 30 + 32 + 2 + 6, 0, some 3⟩) 3 2) ((0 : Nat) : Int) 0)) (n + 1 + 30 + 32 + 2 + 11) 0 0 :=
    ⟨by simp, .inr ⟨n + 1 + 30 + 32 + 2 + 6, 3, rfl, by simp (discharger := omega), Nat.le_refl _⟩, (hp1.put (by omega) _).put (by omega) _, (he1.put (by omega) _).put (by omega) _, (hwN.put (m := n + 1 + 30 + 32 + 2 + 7) _ (by omega) (by omega)).put _ (by omega) (by omega), by omega, by omega⟩
  clear c4
  simp -dsimp (discharger := omega) [a3_4, B4, t1_4]
  with_reducible refine call_ret c1 ?_
  simp -dsimp (discharger := omega) []
  with_reducible refine call_ret c2 ?_
  simp -dsimp (discharger := omega) []
  with_reducible refine call_ret c3 ?_
  simp -dsimp (discharger := omega) []
  with_reducible refine call_ret c4' ?_
  simp -dsimp (discharger := omega) []
  refine back_a2 (A := A) (k := k) (lo := lo) (hi := hi) hA (by omega) hlh hh hs (by rw [hX, hY, hZ]; exact R) (by omega) (by simp) (by simp) (by simp) (by simp) (by simp) (by simp [rowP])
end
end Go.Proofs.YtmmcnholpnediaaDoor.Am
