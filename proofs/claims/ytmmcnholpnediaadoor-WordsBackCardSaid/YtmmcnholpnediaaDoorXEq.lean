/- Contracts of the program's functions (XEq). -/
import Derived.Test.YtmmcnholpnediaaDoorLG
namespace Go.Proofs.YtmmcnholpnediaaDoor.Am
noncomputable section
/- CONTRACT: slices.Equal on lists of words. -/
/-- A list of words laid somewhere. -/
def StrV (h : AHeap) (v : Value) (ws : List (List UInt8)) : Prop :=
  ws = [] ∧ v = .slice none 0 0 ∨ ∃ (q m : Nat), v = .slice (some ⟨q, 0, some ws.length⟩) ws.length 2 ∧ h.get q = some (.cells (some 9) (strsL ws) m) ∧ m ≤ ws.length
theorem StrV.mono {h h' : AHeap} (hs : HSub h h') {v : Value} {ws : List (List UInt8)} (x : StrV h v ws) : StrV h' v ws := by
  rcases x with x | ⟨q, m, e, hg, hm⟩
  · exact .inl x
  · exact .inr ⟨q, m, e, hs _ _ hg, hm⟩
theorem StrV.shape {h : AHeap} {v : Value} {ws : List (List UInt8)} (x : StrV h v ws) : ∃ (a : Option Addr) (k : Nat), v = .slice a ws.length k := by
  rcases x with ⟨rfl, rfl⟩ | ⟨q, m, rfl, hg, hm⟩
  · exact ⟨_, _, rfl⟩
  · exact ⟨_, _, rfl⟩
theorem StrV.at {h : AHeap} {a : Option Addr} {l k : Nat} {ws : List (List UInt8)} (x : StrV h (.slice a l k) ws) {i : Nat} {w : List UInt8} (hw : ws[i]? = some w) : ∃ q : Nat, a = some ⟨q, 0, some ws.length⟩ ∧ l = ws.length ∧ h.read q ws.length i 1 = some [.string ⟨w.toArray⟩] := by
  rcases x with ⟨rfl, h1⟩ | ⟨q, m, h1, hg, hm⟩
  · cases hw
  · injection h1 with e1 e2 e3
    subst e1 e2
    obtain ⟨hi, -⟩ := List.getElem?_eq_some_iff.1 hw
    have h0 : h.read q ws.length 0 ws.length = some (strsL ws) := by
      rw [AHeap.read_of hg]; simp only [Blk.read]; simp [hm]
    have := read_one h0 (a := i) (strsL_get? hw) hi
    rw [Nat.zero_add] at this
    exact ⟨q, rfl, rfl, this⟩
def EqInv (a b : Value) (xs ys : List (List UInt8)) (h0 : AHeap) (n0 r : Nat) (σ : Fr) (h : AHeap) (n : Nat) : Prop :=
  h = h0 ∧ n = n0 ∧ ∃ k : Nat, k + r = xs.length ∧ xs.take k = ys.take k ∧ σ = [(0, a), (1, b), (12, .int .i64 (xs.length : Int)), (13, .int .i64 (k : Int))]
def EqPost (xs ys : List (List UInt8)) (h0 : AHeap) (n0 : Nat) (e : Ex) (σ' : Fr) (h' : AHeap) (n' : Nat) : Prop :=
  h' = h0 ∧ n' = n0 ∧ (xs = ys ∧ e = .exit 0 ∨ ¬ xs = ys ∧ e = .ret ∧ σ'.get 4 = some (.bool false))
theorem eq_loop {xs ys : List (List UInt8)} (hl : xs.length = ys.length) (hb : xs.length < 1000000) {h0 : AHeap} {n0 : Nat} {a b : Option Addr} {ka kb la lb : Nat} (ha : StrV h0 (.slice a la ka) xs) (hb2 : StrV h0 (.slice b lb kb) ys) :
    ∀ (m : Nat) (σ : Fr) (h : AHeap) (n : Nat), EqInv (.slice a la ka) (.slice b lb kb) xs ys h0 n0 m σ h n → HasCode EV15 (.loop F8L0) σ h n (EqPost xs ys h0 n0) := by
  refine wx_inv _ fun m σ h n hI => ?_
  obtain ⟨rfl, rfl, k, hk, hp, rfl⟩ := hI
  unfold EqPost
  cases m with
  | zero =>
    rw [List.take_of_length_le (by omega), List.take_of_length_le (by omega)] at hp
    simp -dsimp (discharger := omega) [F8L0, hp]
  | succ m =>
    have hlt : k < xs.length := by omega
    obtain ⟨x, hx⟩ : ∃ x, xs[k]? = some x := ⟨_, List.getElem?_eq_getElem hlt⟩
    obtain ⟨y, hy⟩ : ∃ y, ys[k]? = some y := ⟨_, List.getElem?_eq_getElem (by omega)⟩
    obtain ⟨q1, rfl, rfl, r1⟩ := ha.at hx
    obtain ⟨q2, rfl, rfl, r2⟩ := hb2.at hy
    have hlt2 : k < ys.length := by omega
    by_cases hxy : x = y
    · subst hxy
      simp -dsimp (discharger := omega) [F8L0, r1, r2]
      exact .mk' m (by omega) [(0, _), (1, _), (12, .int .i64 (xs.length : Int)), (13, .int .i64 ((k + 1 : Nat) : Int))] _ (by simp) (.refl _) ⟨rfl, rfl, k + 1, by omega, by rw [take_snoc hx, take_snoc hy, hp], rfl⟩
    · have bxy : (x == y) = false := by simpa using hxy
      have hne : ¬ xs = ys := fun e => hxy (by rw [e] at hx; rw [hx] at hy; exact Option.some.inj hy)
      simp -dsimp (discharger := omega) [F8L0, r1, r2, bxy, hne]
theorem equalS_ret {xs ys : List (List UInt8)} (hb : xs.length < 1000000) (hb' : ys.length < 1000000) {h : AHeap} {n : Nat} {a b : Value} (ha : StrV h a xs) (hb2 : StrV h b ys) :
    Ret EV15 8 [a, b] h n (.bool (decide (xs = ys))) [] n := by
  refine rsx8 (by simp) (by simp) ?_
  obtain ⟨a, ka, rfl⟩ := ha.shape
  obtain ⟨b, kb, rfl⟩ := hb2.shape
  by_cases hl : xs.length = ys.length
  · simp -dsimp (discharger := omega) [B8, hl]
    refine loop_use (eq_loop hl (by omega) (h0 := h) (n0 := n) ha hb2 xs.length [(0, .slice a xs.length ka), (1, .slice b ys.length kb), (12, .int .i64 (xs.length : Int)), (13, .int .i64 ((0 : Nat) : Int))] h n ⟨rfl, rfl, 0, by omega, by simp, rfl⟩) (by simp [hl]) (.refl _) ?_
    rintro e σ' h' n' ⟨rfl, rfl, ⟨rfl, rfl⟩ | ⟨hne, rfl, g4⟩⟩
    · simp -dsimp (discharger := omega) []
      exact .refl _
    · rw [decide_eq_false hne]
      simp -dsimp (discharger := omega) [g4]
      exact .refl _
  · have hne : ¬ xs = ys := fun e => hl (by rw [e])
    have hl2 : ¬ (xs.length : Int) = (ys.length : Int) := by omega
    rw [decide_eq_false hne]
    simp -dsimp (discharger := omega) [B8]
    exact .refl _
end
end Go.Proofs.YtmmcnholpnediaaDoor.Am
