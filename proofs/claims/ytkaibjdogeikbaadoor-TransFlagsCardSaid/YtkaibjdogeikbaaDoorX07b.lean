/- Contracts of the program's functions (X07b). -/
import Derived.Test.YtkaibjdogeikbaaDoorX07a
namespace Go.Proofs.YtkaibjdogeikbaaDoor.Am
noncomputable section
/- CONTRACT of trans.Parse. -/
theorem idxI_L (s : List UInt8) : ∀ (ss : List (List UInt8)) (j : Nat), idxI s ss j = match idxL s ss j with | none => -1 | some k => (k : Int)
  | [], _ => rfl
  | x :: l, j => by
    simp only [idxI, idxL]
    split
    · rfl
    · exact idxI_L s l (j + 1)
theorem or_eq : ∀ f : Fin 256, ∀ k : Fin 8, orI .u8 (f.1 : Int) (shlI .u8 1 (k.1 : Int)) = ((f.1 ||| 2 ^ k.1 : Nat) : Int) := by decide +kernel
theorem names_read {h : AHeap} (hn : HasNames h) : h.read 0 8 0 namesL.length = some (strsL namesL) := by
  rw [AHeap.read_of hn]; rfl
def ParseInv (parts : List (List UInt8)) (h0 : AHeap) (n0 : Nat) (sl : Value) (m : Nat) (σ : Fr) (h : AHeap) (n : Nat) : Prop :=
  h = h0 ∧ n = n0 ∧ ∃ j f a, j + m = parts.length ∧ f < 256 ∧ parseGo parts 0 false = parseGo (parts.drop j) f a ∧ σ = [(4, .int .u8 (f : Int)), (5, .bool a), (12, sl), (13, .int .i64 (parts.length : Int)), (14, .int .i64 (j : Int))]
def ParsePost (parts : List (List UInt8)) (h0 : AHeap) (n0 : Nat) (e : Ex) (σ' : Fr) (h' : AHeap) (n' : Nat) : Prop :=
  h' = h0 ∧ n' = n0 ∧ (e = .exit 0 ∧ (∃ (f : Nat) (a : Bool), f < 256 ∧ parseGo parts 0 false = (if a then (0, 9) else (f, 0)) ∧ σ'.get 4 = some (.int .u8 (f : Int)) ∧ σ'.get 5 = some (.bool a)) ∨
        e = .ret ∧ parseGo parts 0 false = (0, 23) ∧ σ'.get 2 = some (.int .u8 0) ∧ σ'.get 3 = some (.int .i64 23))
theorem sindex_names {h : AHeap} (hn : HasNames h) (n : Nat) (s : List UInt8) : Ret EV07 36 [.slice (some ⟨0, 0, some 8⟩) 8 17, .string ⟨s.toArray⟩] h n (.int .i64 (idxI s namesL 0)) [] n := sindex_ret (ss := namesL) (k := 17) (names_read hn) (by decide) s
theorem parse_loop {parts : List (List UInt8)} {h0 : AHeap} {i o g k : Nat} (hr : h0.read i g o parts.length = some (strsL parts)) (hlen : parts.length < 1000000) (hn : HasNames h0) (n0 : Nat) :
    ∀ (m : Nat) (σ : Fr) (h : AHeap) (n : Nat), ParseInv parts h0 n0 (.slice (some ⟨i, o, some g⟩) parts.length k) m σ h n →
      HasCode EV07 (.loop F10L0) σ h n (ParsePost parts h0 n0) := by
  refine wx_inv _ fun m σ h n hI => ?_
  obtain ⟨rfl, rfl, j, f, a, hj, hf, hp, rfl⟩ := hI
  cases m with
  | zero =>
    have hjl : j = parts.length := by omega
    subst hjl
    simp -dsimp (discharger := omega) [F10L0]
    exact ⟨rfl, rfl, .inl ⟨rfl, f, a, hf, by rw [hp]; simp [parseGo], by simp, by simp⟩⟩
  | succ m =>
    have hlt : j < parts.length := by omega
    obtain ⟨x, hx⟩ : ∃ x, parts[j]? = some x := ⟨_, List.getElem?_eq_getElem hlt⟩
    have hrd := read_one hr (strsL_get? hx) hlt
    have hn' := hn
    unfold HasNames at hn'
    have hl8 : namesL.length = 8 := rfl
    have hd : parts.drop j = x :: parts.drop (j + 1) := by
      obtain ⟨hlt, rfl⟩ := List.getElem?_eq_some_iff.1 hx
      exact List.drop_eq_getElem_cons hlt
    rw [hd] at hp
    simp only [parseGo] at hp
    simp -dsimp (discharger := omega) [F10L0, hrd, hn', hl8]
    with_reducible refine call_ret (sindex_names hn _ x) ?_
    rw [idxI_L]
    cases hix : idxL x namesL 0 with
    | none =>
      rw [hix] at hp
      simp -dsimp (discharger := omega) []
      exact ⟨rfl, rfl, .inr ⟨rfl, hp, by simp, by simp⟩⟩
    | some q =>
      rw [hix] at hp
      have hq := (idxL_names hix).1
      have hbit : (andI .u8 (shrI .u8 (f : Int) (q : Int)) 1 == 1) = f.testBit q := bit_eq ⟨f, hf⟩ ⟨q, hq⟩
      have hor : orI .u8 (f : Int) (shlI .u8 1 (q : Int)) = ((f ||| 2 ^ q : Nat) : Int) := or_eq ⟨f, hf⟩ ⟨q, hq⟩
      have hlt2 : f ||| 2 ^ q < 256 := or_lt ⟨f, hf⟩ ⟨q, hq⟩
      cases a with
      | true =>
        simp -dsimp (discharger := omega) [hbit, hor]
        exact .mk' m (by omega) [(4, .int .u8 ((f ||| 2 ^ q : Nat) : Int)), (5, .bool true), (12, .slice (some ⟨i, o, some g⟩) parts.length k), (13, .int .i64 (parts.length : Int)), (14, .int .i64 ((j + 1 : Nat) : Int))] _ (by simp) (.refl _) ⟨rfl, rfl, j + 1, _, _, by omega, hlt2, hp, rfl⟩
      | false =>
        simp -dsimp (discharger := omega) [hbit, hor]
        exact .mk' m (by omega) [(4, .int .u8 ((f ||| 2 ^ q : Nat) : Int)), (5, .bool (f.testBit q)), (12, .slice (some ⟨i, o, some g⟩) parts.length k), (13, .int .i64 (parts.length : Int)), (14, .int .i64 ((j + 1 : Nat) : Int))] _ (by simp) (.refl _) ⟨rfl, rfl, j + 1, _, _, by omega, hlt2, by simpa using hp, rfl⟩
theorem parse_ret {s : List UInt8} (hlen : s.length < 100000) {h : AHeap} {n : Nat} (hw : WF h n) (hn : HasNames h) : Ret EV07 10 [.string ⟨s.toArray⟩] h n (.tuple #[.int .u8 ((parseL s).1 : Int), .int .i64 ((parseL s).2 : Int)]) [] (n + 1) := by
  refine rsx10 (by simp) (by simp) ?_
  simp -dsimp (discharger := omega) [B10]
  refine Test.split (fun hc => ?_) (fun hc => ?_)
  · have : s = [45] := by simpa using hc
    subst this
    simp -dsimp (discharger := omega) [HSub.refl, parseL]
  · have hne : ¬ s = [45] := by simpa using hc
    have hp : parseL s = parseGo (splitL 44 s) 0 false := by simp [parseL, hne]
    have h0n : 0 < n := hw.lt hn
    simp -dsimp (discharger := omega) []
    with_reducible refine call_ret (split_ret s 44 (by omega) _ _) ?_
    simp -dsimp (discharger := omega) []
    have hsl := split_len 44 s
    have hrd : (h.put n (.cells (some 9) (strsL (splitL 44 s)) (splitL 44 s).length)).read n (splitL 44 s).length 0 (splitL 44 s).length = some (strsL (splitL 44 s)) := by simp
    have hn2 : HasNames (h.put n (.cells (some 9) (strsL (splitL 44 s)) (splitL 44 s).length)) := by
      unfold HasNames; rw [AHeap.get_put_ne _ _ (by omega)]; exact hn
    refine loop_use (parse_loop (k := 2) hrd (by omega) hn2 (n + 1) _ _ _ _ ⟨rfl, rfl, 0, 0, false, Nat.zero_add _, by omega, rfl, rfl⟩) (by simp) (.refl _) ?_
    have hsub : HSub h (h.put n (.cells (some 9) (strsL (splitL 44 s)) (splitL 44 s).length)) := .put_new _ (hw n (Nat.le_refl _)) (.refl _)
    rintro e σ' h' n' ⟨rfl, rfl, ⟨rfl, f, a, hf, hpg, g4, g5⟩ | ⟨rfl, hpg, g2, g3⟩⟩
    · cases a with
      | true =>
        simp -dsimp (discharger := omega) [g4, g5]
        exact ⟨by rw [hp, hpg]; simp, hsub⟩
      | false =>
        simp -dsimp (discharger := omega) [g4, g5]
        exact ⟨by rw [hp, hpg]; simp, hsub⟩
    · simp -dsimp (discharger := omega) [g2, g3]
      exact ⟨by rw [hp, hpg]; simp, hsub⟩
end
end Go.Proofs.YtkaibjdogeikbaaDoor.Am
