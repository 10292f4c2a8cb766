/- Contracts and plain facts (LQ). -/
import Derived.Test.YtmmcnholpnediaaDoorLC
import Derived.Test.YtmmcnholpnediaaDoorL6
import Derived.Test.YtmmcnholpnediaaDoorL2
namespace Go.Proofs.YtmmcnholpnediaaDoor.Am
noncomputable section
/- CONTRACTS: a line parted into words (slices.IndexFunc, strings.FieldsFunc, words.Split). -/
theorem u8_nat (c : UInt8) : IntKind.u8.wrap (c.toNat : Int) = (c.toNat : Int) := by
  have := c.toNat_lt
  rw [wrap_u8_mod]; omega
theorem idx_any (l : List UInt8) (c : UInt8) : decide (Lib.indexByte l c ≥ 0) = l.contains c := by
  induction l with
  | nil => rfl
  | cons b l ih =>
    have hge := Lib.indexByte_ge l c
    unfold Lib.indexByte
    by_cases h : b = c
    · subst h; simp
    · have h1 : (b == c) = false := by simpa using h
      have h2 : (c == b) = false := by simpa using fun e : c = b => h e.symm
      rw [h1]
      simp only [Bool.false_eq_true, if_false, List.contains_cons, h2, Bool.false_or]
      rw [← ih]
      by_cases h3 : Lib.indexByte l c = -1
      · simp [h3]
      · have : (Lib.indexByte l c == -1) = false := by simpa using h3
        rw [this]
        simp only [Bool.false_eq_true, if_false]
        rw [decide_eq_decide]; omega
/-- A byte that may not stand in a line. -/
def strangeC (c : UInt8) : Bool := !plainC c
theorem strange_ret (c : UInt8) (h : AHeap) (n : Nat) : Ret EV15 19 [.int .u8 (c.toNat : Int)] h n (.bool (strangeC c)) [] n := by
  refine rsx19 (by simp) (by simp) ?_
  have key : ∀ c : UInt8, strangeC c = ((decide (c.toNat < 32) || decide (126 < c.toNat)) && decide (¬ c.toNat = 9)) := by
    intro c
    have h9 : (c == 9) = decide (c.toNat = 9) := by
      rw [Bool.eq_iff_iff]; simp only [beq_iff_eq, decide_eq_true_eq]
      exact ⟨fun h => by rw [h]; rfl, fun h => UInt8.toNat_inj.1 h⟩
    have h32 : (decide (32 ≤ c)) = decide (32 ≤ c.toNat) := by
      rw [decide_eq_decide]; exact UInt8.le_iff_toNat_le
    have h126 : (decide (c ≤ 126)) = decide (c.toNat ≤ 126) := by
      rw [decide_eq_decide]; exact UInt8.le_iff_toNat_le
    unfold strangeC plainC
    rw [h9, h32, h126]
    by_cases a : c.toNat = 9 <;> by_cases b : 32 ≤ c.toNat <;> by_cases d : c.toNat ≤ 126 <;> simp_all <;> omega
  rw [key]
  by_cases h1 : c.toNat < 32
  · by_cases h2 : c.toNat = 9
    · simp -dsimp (discharger := omega) [B19, h1, h2, HSub.refl]
    · have h2' : ¬ (c.toNat : Int) = 9 := by omega
      simp -dsimp (discharger := omega) [B19, h1, h2, h2', HSub.refl]
  · by_cases h2 : 126 < c.toNat
    · have h3 : ¬ c.toNat = 9 := by omega
      have h3' : ¬ (c.toNat : Int) = 9 := by omega
      simp -dsimp (discharger := omega) [B19, h1, h2, h3, h3', HSub.refl]
    · simp -dsimp (discharger := omega) [B19, h1, h2, HSub.refl]
/-- slices.IndexFunc of bytes, by a test that turns nothing. -/
theorem indexFunc_loop {bs : List UInt8} {h0 : AHeap} {i o g k : Nat} (hr : h0.read i g o bs.length = some (u8s bs)) (hlen : bs.length < 1000000) {f : Nat} {p : UInt8 → Bool} (hf : ∀ (c : UInt8) (h : AHeap) (n : Nat), Ret EV15 f [.int .u8 (c.toNat : Int)] h n (.bool (p c)) [] n) (n0 : Nat) :
    ∀ (m : Nat) (σ : Fr) (h : AHeap) (n : Nat), (h = h0 ∧ n = n0 ∧ ∃ j, j + m = bs.length ∧ (bs.take j).any p = false ∧ σ = [(0, .slice (some ⟨i, o, some g⟩) bs.length k), (1, .func (.func f) #[] #[]), (7, .int .i64 (bs.length : Int)), (8, .int .i64 (j : Int))]) →
      HasCode EV15 (.loop F39L0) σ h n fun e σ' h' n' => h' = h0 ∧ n' = n0 ∧ (e = .exit 0 ∧ bs.any p = false ∨ e = .ret ∧ bs.any p = true ∧ ∃ j : Nat, σ'.get 4 = some (.int .i64 (j : Int))) := by
  refine wx_inv _ fun m σ h n hI => ?_
  obtain ⟨rfl, rfl, j, hj, hix, rfl⟩ := hI
  cases m with
  | zero =>
    have hjl : j = bs.length := by omega
    subst hjl
    rw [List.take_length] at hix
    simp -dsimp (discharger := omega) [F39L0, hix]
  | succ m =>
    have hlt : j < bs.length := by omega
    obtain ⟨x, hx⟩ : ∃ x, bs[j]? = some x := ⟨_, List.getElem?_eq_getElem hlt⟩
    have hrd := bs_one hr hx
    simp -dsimp (discharger := omega) [F39L0, hrd]
    with_reducible refine call_ret (hf x h n) ?_
    cases hp : p x with
    | true =>
      simp -dsimp (discharger := omega) []
      obtain ⟨_, rfl⟩ := List.getElem?_eq_some_iff.1 hx
      exact ⟨⟨_, List.getElem_mem hlt, hp⟩, j, rfl⟩
    | false =>
      simp -dsimp (discharger := omega) [F39L0]
      exact .mk' m (by omega) [(0, .slice (some ⟨i, o, some g⟩) bs.length k), (1, .func (.func f) #[] #[]), (7, .int .i64 (bs.length : Int)), (8, .int .i64 ((j + 1 : Nat) : Int))] _ (by simp) (.refl _) ⟨rfl, rfl, j + 1, by omega, by rw [take_snoc hx, List.any_append, hix]; simp [hp], rfl⟩
theorem containsFunc_ret {bs : List UInt8} {v : Value} {h : AHeap} (hb : BS h v bs) (hlen : bs.length < 1000000) {f : Nat} {p : UInt8 → Bool} (hf : ∀ (c : UInt8) (h : AHeap) (n : Nat), Ret EV15 f [.int .u8 (c.toNat : Int)] h n (.bool (p c)) [] n) (n : Nat) :
    Ret EV15 20 [v, .func (.func f) #[] #[]] h n (.bool (bs.any p)) [] n := by
  refine rsx20 (by simp) (by simp) ?_
  cases hb with
  | nil =>
    simp -dsimp (discharger := omega) [B20]
    with_reducible refine inl39 ?_
    simp -dsimp (discharger := omega) [B39]
    refine wx_round ?_
    simp -dsimp (discharger := omega) [F39L0, HSub.refl]
  | @mk i o g k _ hr =>
    simp -dsimp (discharger := omega) [B20]
    with_reducible refine inl39 ?_
    simp -dsimp (discharger := omega) [B39]
    refine loop_use (indexFunc_loop (k := k) hr hlen hf n _ _ _ _ ⟨rfl, rfl, 0, Nat.zero_add _, rfl, rfl⟩) (by simp) (.refl _) ?_
    rintro e σ' h' n' ⟨rfl, rfl, ⟨rfl, hi⟩ | ⟨rfl, hi, j, g4⟩⟩
    · simp -dsimp (discharger := omega) [HSub.refl, hi]
    · simp -dsimp (discharger := omega) [HSub.refl, hi, g4]
/-- A blank's test. -/
theorem blank_ret {c : UInt8} (hc : c.toNat < 128) (h : AHeap) (n : Nat) : Ret EV15 23 [.int .i32 (c.toNat : Int)] h n (.bool (wsp c)) [] n := by
  refine rsx23 (by simp) (by simp) ?_
  simp -dsimp (discharger := omega) [B23]
  with_reducible refine inl24 ?_
  simp -dsimp (discharger := omega) [B24]
  with_reducible refine inl41 ?_
  simp -dsimp (discharger := omega) [B41, u8_nat]
  with_reducible refine call_ret (indexByte_ret [32, 9] c h n) ?_
  have e2 : wsp c = List.contains [32, 9] c := by
    unfold wsp
    cases h1 : c == 32 <;> cases h2 : c == 9 <;> simp [List.contains, List.elem, h1, h2]
  have e3 : decide (0 ≤ Lib.indexByte [32, 9] c) = wsp c := by rw [e2]; exact idx_any [32, 9] c
  simp -dsimp (discharger := omega) [HSub.refl, e3]
end
end Go.Proofs.YtmmcnholpnediaaDoor.Am
