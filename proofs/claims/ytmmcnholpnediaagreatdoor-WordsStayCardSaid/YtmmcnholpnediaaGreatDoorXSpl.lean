/- Contracts of the program's functions (XSpl). -/
import Derived.Test.YtmmcnholpnediaaGreatDoorLG
namespace Go.Proofs.YtmmcnholpnediaaGreatDoor.Am
noncomputable section
/- CONTRACTS: the document's Split; slices.Equal on lists of words. -/
theorem plain_of {c : UInt8} : plainC c = (decide ((c.toNat : Int) = 9) || (decide (32 ≤ (c.toNat : Int)) && decide ((c.toNat : Int) ≤ 126))) := by
  unfold plainC
  congr 1
  · have : (c == 9) = decide (c = 9) := by cases h : decide (c = 9) <;> simp_all
    rw [this]
    congr 1
    exact propext ⟨fun h => by subst h; rfl, fun h => UInt8.toNat_inj.1 (by have e : (9 : UInt8).toNat = 9 := rfl; omega)⟩
  · congr 1
    · congr 1; exact propext ⟨fun h => by have := UInt8.le_iff_toNat_le.1 h; have e : (32 : UInt8).toNat = 32 := rfl; omega, fun h => UInt8.le_iff_toNat_le.2 (by have e : (32 : UInt8).toNat = 32 := rfl; omega)⟩
    · congr 1; exact propext ⟨fun h => by have := UInt8.le_iff_toNat_le.1 h; have e : (126 : UInt8).toNat = 126 := rfl; omega, fun h => UInt8.le_iff_toNat_le.2 (by have e : (126 : UInt8).toNat = 126 := rfl; omega)⟩
def ChInv (s : List UInt8) (h0 : AHeap) (n0 r : Nat) (σ : Fr) (h : AHeap) (n : Nat) : Prop :=
  h = h0 ∧ n = n0 ∧ ∃ k : Nat, k + r = s.length ∧ (s.take k).all plainC = true ∧ σ = [(0, .string ⟨s.toArray⟩), (4, .int .i64 (k : Int))]
def ChPost (s : List UInt8) (h0 : AHeap) (n0 : Nat) (e : Ex) (σ' : Fr) (h' : AHeap) (n' : Nat) : Prop :=
  h' = h0 ∧ n' = n0 ∧ (s.all plainC = true ∧ e = .exit 0 ∧ σ'.get 0 = some (.string ⟨s.toArray⟩) ∨ s.all plainC = false ∧ e = .ret ∧ σ'.get 2 = some (.slice none 0 0) ∧ σ'.get 3 = some (.int .i64 5))
theorem ch_loop {s : List UInt8} (hl : s.length ≤ 200) {h0 : AHeap} {n0 : Nat} :
    ∀ (m : Nat) (σ : Fr) (h : AHeap) (n : Nat), ChInv s h0 n0 m σ h n → HasCode EV65 (.loop F8L0) σ h n (ChPost s h0 n0) := by
  refine wx_inv _ fun m σ h n hI => ?_
  obtain ⟨rfl, rfl, k, hk, hp, rfl⟩ := hI
  unfold ChPost
  cases m with
  | zero =>
    have e : s.take k = s := List.take_of_length_le (by omega)
    rw [e] at hp
    simp -dsimp (discharger := omega) [F8L0]
    simpa using hp
  | succ m =>
    have hlt : k < s.length := by omega
    obtain ⟨c, hc⟩ : ∃ c, s[k]? = some c := ⟨_, List.getElem?_eq_getElem hlt⟩
    have hcc : s[k]'hlt = c := (List.getElem?_eq_some_iff.1 hc).2
    have hall : s.all plainC = (s.all plainC && plainC c) := by
      cases hh : plainC c with
      | true => rw [Bool.and_true]
      | false =>
        rw [Bool.and_false]
        obtain ⟨h1, rfl⟩ := List.getElem?_eq_some_iff.1 hc
        exact List.all_eq_false.2 ⟨_, List.getElem_mem h1, by simp [hh]⟩
    have hpc := plain_of (c := c)
    have hlt := c.toNat_lt
    have hnext : plainC c = true → (s.take (k + 1)).all plainC = true := fun hh => by
      rw [take_snoc hc, List.all_append, hp]; simp [hh]
    by_cases c9 : (c.toNat : Int) = 9
    · have : plainC c = true := by rw [hpc, decide_eq_true c9]; rfl
      simp -dsimp (discharger := omega) [F8L0, hcc, c9]
      exact .mk' m (by omega) [(0, .string ⟨s.toArray⟩), (4, .int .i64 ((k + 1 : Nat) : Int))] _ (by simp) (.refl _) ⟨rfl, rfl, k + 1, by omega, hnext this, rfl⟩
    · by_cases c32 : 32 ≤ (c.toNat : Int) ∧ (c.toNat : Int) ≤ 126
      · have : plainC c = true := by rw [hpc, decide_eq_true c32.1, decide_eq_true c32.2]; simp
        obtain ⟨a1, a2⟩ := c32
        have b9 : ((c.toNat : Int) != 9) = true := by simpa using c9
        simp -dsimp (discharger := omega) [F8L0, hcc, b9]
        exact .mk' m (by omega) [(0, .string ⟨s.toArray⟩), (4, .int .i64 ((k + 1 : Nat) : Int))] _ (by simp) (.refl _) ⟨rfl, rfl, k + 1, by omega, hnext this, rfl⟩
      · have hno : plainC c = false := by
          rw [hpc, decide_eq_false c9]
          by_cases a1 : 32 ≤ (c.toNat : Int)
          · rw [decide_eq_false (p := (c.toNat : Int) ≤ 126) (by omega)]; simp
          · rw [decide_eq_false (p := 32 ≤ (c.toNat : Int)) a1]; simp
        rw [hno, Bool.and_false] at hall
        have b9 : ((c.toNat : Int) != 9) = true := by simpa using c9
        by_cases a1 : 32 ≤ (c.toNat : Int)
        · have a2 : ¬ (c.toNat : Int) ≤ 126 := by omega
          simp -dsimp (discharger := omega) [F8L0, hcc, b9]
          simpa using hall
        · simp -dsimp (discharger := omega) [F8L0, hcc, b9]
          simpa using hall
def StrAt (n0 : Nat) (h : AHeap) (n : Nat) (v : Value) (ws : List (List UInt8)) : Prop :=
  ws = [] ∧ v = .slice none 0 0 ∧ n = n0 ∨ ¬ ws = [] ∧ v = .slice (some ⟨n0 + 1, 0, some ws.length⟩) ws.length 2 ∧ h.get (n0 + 1) = some (.cells (some 9) (strsL ws) 1) ∧ n = n0 + 1 + ws.length
def WsInv (s : List UInt8) (h0 : AHeap) (n0 r : Nat) (σ : Fr) (h : AHeap) (n : Nat) : Prop :=
  ∃ (k : Nat) (ws : List (List UInt8)) (w : List UInt8) (v : Value), k + r = s.length ∧ ws ++ wordsGo w (s.drop k) = wordsL s ∧ ws.length ≤ k ∧ w.length ≤ k ∧ HSub h0 h ∧ WF h n ∧ StrAt n0 h n v ws ∧
    σ = [(0, .string ⟨s.toArray⟩), (5, v), (6, .string ⟨w.toArray⟩), (7, .int .i64 (k : Int))]
def WsPost (s : List UInt8) (h0 : AHeap) (n0 : Nat) (e : Ex) (σ' : Fr) (h' : AHeap) (n' : Nat) : Prop :=
  e = .exit 2 ∧ ∃ (ws : List (List UInt8)) (w : List UInt8) (v : Value), ws ++ word1 w = wordsL s ∧ ws.length ≤ s.length ∧ w.length ≤ s.length ∧ HSub h0 h' ∧ WF h' n' ∧ StrAt n0 h' n' v ws ∧ σ'.get 5 = some v ∧ σ'.get 6 = some (.string ⟨w.toArray⟩)
theorem strs_append {n0 : Nat} {h0 h : AHeap} {n : Nat} {v : Value} {ws : List (List UInt8)} {w : List UInt8} (hw0 : WF h0 n0) (hs : HSub h0 h) (hw : WF h n) (hl : ws.length ≤ 200) (hS : StrAt n0 h n v ws)
    {K : Option Value → AHeap → Nat → Prop} {t : Tok K} (hK : ∀ v' h', StrAt n0 h' (n0 + 2 + ws.length) v' (ws ++ [w]) → HSub h0 h' → WF h' (n0 + 2 + ws.length) → K (some v') h' (n0 + 2 + ws.length)) :
    Runs (aAppend (h.put n (.cells (some 9) [.string ⟨w.toArray⟩] 1)) (n + 1) 9 1 16 v (.slice (some ⟨n, 0, some 1⟩) 1 2)) (n + 1) K t := by
  have hn0 : n0 ≤ n := by rcases hS with ⟨_, _, rfl⟩ | ⟨_, _, _, rfl⟩ <;> omega
  have hs1 := hs.new hw0 hn0 (.cells (some 9) [.string ⟨w.toArray⟩] 1)
  have hw1 : WF (h.put n (.cells (some 9) [.string ⟨w.toArray⟩] 1)) (n + 1) := hw.put _ (by omega) (by omega)
  rcases hS with ⟨rfl, rfl, rfl⟩ | ⟨hne, rfl, hg, rfl⟩
  · have hK := hK (.slice (some ⟨n + 1, 0, some 1⟩) 1 2) ((h.put n (.cells (some 9) [.string ⟨w.toArray⟩] 1)).put (n + 1) (.cells (some 9) [.string ⟨w.toArray⟩] 1)) (.inr ⟨by simp, rfl, by simp [strsL], rfl⟩) (hs1.new hw0 (by omega) _) (hw1.put _ (by simp) (by simp))
    simp [aAppend, aElems]
    exact hK
  · have hp : 0 < ws.length := List.length_pos_iff.2 hne
    have hK := hK (.slice (some ⟨n0 + 1, 0, some (ws ++ [w]).length⟩) (ws ++ [w]).length 2) ((h.put (n0 + 1 + ws.length) (.cells (some 9) [.string ⟨w.toArray⟩] 1)).put (n0 + 1) (.cells (some 9) (strsL (ws ++ [w])) 1)) (.inr ⟨by simp, rfl, by simp, by simp; omega⟩) (hs1.new hw0 (by omega) _) (hw1.put _ (by omega) (by omega))
    have e2 : n0 + 2 + ws.length = n0 + 1 + ws.length + 1 := by omega
    rw [e2] at hK
    simp (discharger := omega) [aAppend, aElems, hg]
    simpa [strsL] using hK
theorem drop_csc {s : List UInt8} {k : Nat} {c : UInt8} (h : s[k]? = some c) : s.drop k = c :: s.drop (k + 1) := by
  obtain ⟨h1, rfl⟩ := List.getElem?_eq_some_iff.1 h
  exact List.drop_eq_getElem_cons h1
theorem cut_one {s : List UInt8} {k : Nat} {c : UInt8} (h : s[k]? = some c) : (s.take (k + 1)).drop k = [c] := by
  rw [List.drop_take, show k + 1 - k = 1 by omega, drop_csc h]; rfl
theorem ws_loop {s : List UInt8} (hl : s.length ≤ 200) {h0 : AHeap} {n0 : Nat} (hw0 : WF h0 n0) :
    ∀ (m : Nat) (σ : Fr) (h : AHeap) (n : Nat), WsInv s h0 n0 m σ h n → HasCode EV65 (.loop F8L1) σ h n (WsPost s h0 n0) := by
  refine wx_inv _ fun m σ h n hI => ?_
  obtain ⟨k, ws, w, v, hk, hj, hwl, hwk, hs, hw, hS, rfl⟩ := hI
  cases m with
  | zero =>
    have e : s.drop k = [] := List.drop_of_length_le (by omega)
    rw [e] at hj
    simp -dsimp (discharger := omega) [F8L1]
    exact ⟨rfl, ws, w, v, hj, by omega, by omega, hs, hw, hS, rfl, rfl⟩
  | succ m =>
    have hlt : k < s.length := by omega
    obtain ⟨c, hc⟩ : ∃ c, s[k]? = some c := ⟨_, List.getElem?_eq_getElem hlt⟩
    have hcc : s[k]'hlt = c := (List.getElem?_eq_some_iff.1 hc).2
    rw [drop_csc hc] at hj
    have hto : ∀ {x : Nat}, x < 256 → (c.toNat : Int) = x → c = UInt8.ofNat x := fun hx h => UInt8.toNat_inj.1 (by rw [UInt8.toNat_ofNat']; omega)
    by_cases c35 : (c.toNat : Int) = 35
    · have hc' := hto (x := 35) (by omega) c35
      rw [hc'] at hj
      simp -dsimp (discharger := omega) [F8L1, hcc, c35]
      exact ⟨rfl, ws, w, v, hj, by omega, by omega, hs, hw, hS, rfl, rfl⟩
    have hne35 : ¬ c = 35 := fun e => c35 (by rw [e]; rfl)
    rw [wordsGo_cons hne35] at hj
    have blank : wsp c = true → ∀ {w' : List UInt8}, w' = w → True := fun _ _ _ => trivial
    have b35 : ((c.toNat : Int) == 35) = false := by simpa using c35
    cases hws : wsp c with
    | true =>
      rw [hws, if_pos rfl] at hj
      have hcs : (c.toNat : Int) = 32 ∨ (c.toNat : Int) = 9 := by
        unfold wsp at hws
        simp only [Bool.or_eq_true, beq_iff_eq] at hws
        rcases hws with rfl | rfl
        · exact .inl rfl
        · exact .inr rfl
      by_cases hwe : w = []
      · subst hwe
        have fin : ∀ {tk : Tok (WsInv s h0 n0)} {σ : Fr}, FSubL [(0, .string ⟨s.toArray⟩), (5, v), (6, .string ⟨([] : List UInt8).toArray⟩), (7, .int .i64 ((k + 1 : Nat) : Int))] σ → Again (WsInv s h0 n0) (m + 1) σ h n tk := fun hσ =>
          .mk' m (by omega) _ _ hσ (.refl _) ⟨k + 1, ws, [], v, by omega, by simpa [word1_nil] using hj, by omega, by simp, hs, hw, hS, rfl⟩
        rcases hcs with c32 | c9
        · simp -dsimp (discharger := omega) [F8L1, hcc, c32]
          exact fin (by simp)
        · simp -dsimp (discharger := omega) [F8L1, hcc, c9]
          exact fin (by simp)
      · rw [word1_some hwe, ← List.append_assoc] at hj
        have fin : ∀ {tk : Tok (WsInv s h0 n0)} {v' : Value} {h' : AHeap} {σ : Fr}, StrAt n0 h' (n0 + 2 + ws.length) v' (ws ++ [w]) → HSub h0 h' → WF h' (n0 + 2 + ws.length) → FSubL [(0, .string ⟨s.toArray⟩), (5, v'), (6, .string ⟨([] : List UInt8).toArray⟩), (7, .int .i64 ((k + 1 : Nat) : Int))] σ → Again (WsInv s h0 n0) (m + 1) σ h' (n0 + 2 + ws.length) tk := fun a b c hσ =>
          .mk' m (by omega) _ _ hσ (.refl _) ⟨k + 1, ws ++ [w], [], _, by omega, hj, by simp; omega, by simp, b, c, a, rfl⟩
        obtain ⟨a, l, rfl⟩ : ∃ a l, w = a :: l := by cases w with | nil => exact absurd rfl hwe | cons a l => exact ⟨a, l, rfl⟩
        rcases hcs with c32 | c9
        · simp -dsimp (discharger := omega) [F8L1, hcc, c32, aFill]
          refine strs_append hw0 hs hw (by omega) hS fun v' h' a b c => ?_
          simp -dsimp (discharger := omega) []
          exact fin a b c (by simp)
        · simp -dsimp (discharger := omega) [F8L1, hcc, c9, aFill]
          refine strs_append hw0 hs hw (by omega) hS fun v' h' a b c => ?_
          simp -dsimp (discharger := omega) []
          exact fin a b c (by simp)
    | false =>
      rw [hws] at hj
      simp only [Bool.false_eq_true, if_false] at hj
      have c32 : ((c.toNat : Int) == 32) = false := by
        unfold wsp at hws
        simp only [Bool.or_eq_false_iff, beq_eq_false_iff_ne] at hws
        simp only [beq_eq_false_iff_ne]
        exact fun e => hws.1 (hto (x := 32) (by omega) e)
      have c9 : ((c.toNat : Int) == 9) = false := by
        unfold wsp at hws
        simp only [Bool.or_eq_false_iff, beq_eq_false_iff_ne] at hws
        simp only [beq_eq_false_iff_ne]
        exact fun e => hws.2 (hto (x := 9) (by omega) e)
      have h1 := cut_one hc
      simp -dsimp (discharger := omega) [F8L1, hcc, b35, c32, c9, h1]
      exact .mk' m (by omega) [(0, .string ⟨s.toArray⟩), (5, v), (6, .string ⟨(w ++ [c]).toArray⟩), (7, .int .i64 ((k + 1 : Nat) : Int))] _ (by simp) (.refl _) ⟨k + 1, ws, w ++ [c], v, by omega, hj, by omega, by simp; omega, hs, hw, hS, rfl⟩
theorem rsplit_bad {s : List UInt8} (hs : s.length < 9223372036854775808) (hbad : ¬ splitE s = 0) {h : AHeap} {n : Nat} :
    Ret EV65 8 [.string ⟨s.toArray⟩] h n (.tuple #[.slice none 0 0, .int .i64 (splitE s : Int)]) [] n := by
  refine rsx8 (by simp) (by simp) ?_
  by_cases h1 : 200 < s.length
  · have e : splitE s = 3 := by rw [splitE, if_pos h1]
    rw [e]
    simp -dsimp (discharger := omega) [B8, HSub.refl]
  · have hp : s.all plainC = false := by
      unfold splitE at hbad
      rw [if_neg h1] at hbad
      cases hp : s.all plainC with
      | true => rw [hp] at hbad; simp at hbad
      | false => rfl
    have e : splitE s = 5 := by rw [splitE, if_neg h1, hp]; rfl
    rw [e]
    simp -dsimp (discharger := omega) [B8]
    refine loop_use (ch_loop (s := s) (by omega) (h0 := h) (n0 := n) s.length [(0, .string ⟨s.toArray⟩), (4, .int .i64 ((0 : Nat) : Int))] h n ⟨rfl, rfl, 0, by omega, by simp, rfl⟩) (by simp) (.refl _) ?_
    rintro e σ' h' n' ⟨rfl, rfl, ⟨hh, -, -⟩ | ⟨-, rfl, g2, g3⟩⟩
    · rw [hp] at hh; cases hh
    simp -dsimp (discharger := omega) [g2, g3]
    exact .refl _
def rsV (n : Nat) (ws : List (List UInt8)) : Value := if ws = [] then .slice none 0 0 else .slice (some ⟨n + 1, 0, some ws.length⟩) ws.length 2
def rsB (n : Nat) (ws : List (List UInt8)) : List (Nat × Blk) := if ws = [] then [] else [(n + 1, .cells (some 9) (strsL ws) 1)]
theorem rsplit_ok {s : List UInt8} (hok : splitE s = 0) {h : AHeap} {n : Nat} (hw : WF h n) :
    Ret EV65 8 [.string ⟨s.toArray⟩] h n (.tuple #[rsV n (wordsL s), .int .i64 0]) (rsB n (wordsL s)) (n + 300) := by
  have h1 : ¬ 200 < s.length := fun h1 => by unfold splitE at hok; rw [if_pos h1] at hok; cases hok
  have hp : s.all plainC = true := by
    unfold splitE at hok
    rw [if_neg h1] at hok
    cases hp : s.all plainC with
    | true => rfl
    | false => rw [hp] at hok; cases hok
  refine rsx8 (by unfold rsB; split <;> simp) (fun i hi => by
    unfold rsB at hi; split at hi
    · cases hi
    · simp at hi; subst hi; exact .inr ⟨by omega, by omega⟩) ?_
  simp -dsimp (discharger := omega) [B8]
  refine loop_use (ch_loop (s := s) (by omega) (h0 := h) (n0 := n) s.length [(0, .string ⟨s.toArray⟩), (4, .int .i64 ((0 : Nat) : Int))] h n ⟨rfl, rfl, 0, by omega, by simp, rfl⟩) (by simp) (.refl _) ?_
  rintro e σ' h' n' ⟨rfl, rfl, hc⟩
  have hc : e = .exit 0 ∧ σ'.get 0 = some (.string ⟨s.toArray⟩) := by
    rcases hc with ⟨-, a, b⟩ | ⟨hh, -⟩
    · exact ⟨a, b⟩
    · rw [hp] at hh; cases hh
  obtain ⟨rfl, g0⟩ := hc
  simp -dsimp (discharger := omega) []
  refine loop_use (ws_loop (s := s) (by omega) hw s.length [(0, .string ⟨s.toArray⟩), (5, .slice none 0 0), (6, .string ⟨([] : List UInt8).toArray⟩), (7, .int .i64 ((0 : Nat) : Int))] h' n' ⟨0, [], [], _, by omega, rfl, by simp, by simp, .refl _, hw, .inl ⟨rfl, rfl, rfl⟩, rfl⟩) (by simp [g0]) (.refl _) ?_
  rintro e σ2 h2 n2 ⟨rfl, ws, w, v, hj, hl1, hl2, hs, hw2, hS, g5, g6⟩
  have fin : ∀ {n3 : Nat} {v3 : Value} {h3 : AHeap}, HSub h' h3 → StrAt n' h3 n3 v3 (wordsL s) → v3 = rsV n' (wordsL s) ∧ HSub (putsL h' (rsB n' (wordsL s))) h3 := fun {n3 v3 h3} hs3 hS => by
    rcases hS with ⟨e, rfl, _⟩ | ⟨e, rfl, hg, _⟩
    · rw [rsV, rsB, if_pos e, if_pos e]; exact ⟨rfl, hs3⟩
    · rw [rsV, rsB, if_neg e, if_neg e]
      refine ⟨rfl, fun i b hi => ?_⟩
      simp only [putsL, AHeap.get_put] at hi
      split at hi
      · rename_i e2; subst e2; rw [hg]; exact hi
      · exact hs3 i b hi
  by_cases hwe : w = []
  · subst hwe
    rw [word1_nil, List.append_nil] at hj
    subst hj
    obtain ⟨rfl, f2⟩ := fin hs hS
    have hn2 : n2 ≤ n' + 300 := by rcases hS with ⟨_, _, rfl⟩ | ⟨_, _, _, rfl⟩ <;> omega
    simp -dsimp (discharger := omega) [g5, g6]
    exact ⟨f2, hn2⟩
  · rw [word1_some hwe] at hj
    obtain ⟨a, l, rfl⟩ : ∃ a l, w = a :: l := by cases w with | nil => exact absurd rfl hwe | cons a l => exact ⟨a, l, rfl⟩
    simp -dsimp (discharger := omega) [g5, g6, aFill]
    refine strs_append hw hs hw2 (by omega) hS fun v' h' a b c => ?_
    rw [hj] at a
    obtain ⟨rfl, f2⟩ := fin b a
    simp -dsimp (discharger := omega) []
    exact ⟨f2, by omega⟩
/-- A list of words laid somewhere. -/
def StrV (h : AHeap) (v : Value) (ws : List (List UInt8)) : Prop :=
  ws = [] ∧ v = .slice none 0 0 ∨ ∃ (q m : Nat), v = .slice (some ⟨q, 0, some ws.length⟩) ws.length 2 ∧ h.get q = some (.cells (some 9) (strsL ws) m) ∧ m ≤ ws.length
theorem StrV.mono {h h' : AHeap} (hs : HSub h h') {v : Value} {ws : List (List UInt8)} (x : StrV h v ws) : StrV h' v ws := by
  rcases x with x | ⟨q, m, e, hg, hm⟩
  · exact .inl x
  · exact .inr ⟨q, m, e, hs _ _ hg, hm⟩
theorem StrV.shape {h : AHeap} {v : Value} {ws : List (List UInt8)} (x : StrV h v ws) : ∃ (a : Option Addr) (k : Nat), v = .slice a ws.length k := by
  rcases x with ⟨rfl, rfl⟩ | ⟨q, m, rfl, hg, hm⟩
  · exact ⟨_, _, rfl⟩
  · exact ⟨_, _, rfl⟩
theorem StrV.at {h : AHeap} {a : Option Addr} {l k : Nat} {ws : List (List UInt8)} (x : StrV h (.slice a l k) ws) {i : Nat} {w : List UInt8} (hw : ws[i]? = some w) : ∃ q : Nat, a = some ⟨q, 0, some ws.length⟩ ∧ l = ws.length ∧ h.read q ws.length i 1 = some [.string ⟨w.toArray⟩] := by
  rcases x with ⟨rfl, h1⟩ | ⟨q, m, h1, hg, hm⟩
  · cases hw
  · injection h1 with e1 e2 e3
    subst e1 e2
    obtain ⟨hi, -⟩ := List.getElem?_eq_some_iff.1 hw
    have h0 : h.read q ws.length 0 ws.length = some (strsL ws) := by
      rw [AHeap.read_of hg]; simp only [Blk.read]; simp [hm]
    have := read_one h0 (a := i) (strsL_get? hw) hi
    rw [Nat.zero_add] at this
    exact ⟨q, rfl, rfl, this⟩
def EqInv (a b : Value) (xs ys : List (List UInt8)) (h0 : AHeap) (n0 r : Nat) (σ : Fr) (h : AHeap) (n : Nat) : Prop :=
  h = h0 ∧ n = n0 ∧ ∃ k : Nat, k + r = xs.length ∧ xs.take k = ys.take k ∧ σ = [(0, a), (1, b), (12, .int .i64 (xs.length : Int)), (13, .int .i64 (k : Int))]
def EqPost (xs ys : List (List UInt8)) (h0 : AHeap) (n0 : Nat) (e : Ex) (σ' : Fr) (h' : AHeap) (n' : Nat) : Prop :=
  h' = h0 ∧ n' = n0 ∧ (xs = ys ∧ e = .exit 0 ∨ ¬ xs = ys ∧ e = .ret ∧ σ'.get 4 = some (.bool false))
theorem eq_loop {xs ys : List (List UInt8)} (hl : xs.length = ys.length) (hb : xs.length < 1000000) {h0 : AHeap} {n0 : Nat} {a b : Option Addr} {ka kb la lb : Nat} (ha : StrV h0 (.slice a la ka) xs) (hb2 : StrV h0 (.slice b lb kb) ys) :
    ∀ (m : Nat) (σ : Fr) (h : AHeap) (n : Nat), EqInv (.slice a la ka) (.slice b lb kb) xs ys h0 n0 m σ h n → HasCode EV65 (.loop F9L0) σ h n (EqPost xs ys h0 n0) := by
  refine wx_inv _ fun m σ h n hI => ?_
  obtain ⟨rfl, rfl, k, hk, hp, rfl⟩ := hI
  unfold EqPost
  cases m with
  | zero =>
    rw [List.take_of_length_le (by omega), List.take_of_length_le (by omega)] at hp
    simp -dsimp (discharger := omega) [F9L0, hp]
  | succ m =>
    have hlt : k < xs.length := by omega
    obtain ⟨x, hx⟩ : ∃ x, xs[k]? = some x := ⟨_, List.getElem?_eq_getElem hlt⟩
    obtain ⟨y, hy⟩ : ∃ y, ys[k]? = some y := ⟨_, List.getElem?_eq_getElem (by omega)⟩
    obtain ⟨q1, rfl, rfl, r1⟩ := ha.at hx
    obtain ⟨q2, rfl, rfl, r2⟩ := hb2.at hy
    have hlt2 : k < ys.length := by omega
    by_cases hxy : x = y
    · subst hxy
      simp -dsimp (discharger := omega) [F9L0, r1, r2]
      exact .mk' m (by omega) [(0, _), (1, _), (12, .int .i64 (xs.length : Int)), (13, .int .i64 ((k + 1 : Nat) : Int))] _ (by simp) (.refl _) ⟨rfl, rfl, k + 1, by omega, by rw [take_snoc hx, take_snoc hy, hp], rfl⟩
    · have bxy : (x == y) = false := by simpa using hxy
      have hne : ¬ xs = ys := fun e => hxy (by rw [e] at hx; rw [hx] at hy; exact Option.some.inj hy)
      simp -dsimp (discharger := omega) [F9L0, r1, r2, bxy, hne]
theorem equalS_ret {xs ys : List (List UInt8)} (hb : xs.length < 1000000) (hb' : ys.length < 1000000) {h : AHeap} {n : Nat} {a b : Value} (ha : StrV h a xs) (hb2 : StrV h b ys) :
    Ret EV65 9 [a, b] h n (.bool (decide (xs = ys))) [] n := by
  refine rsx9 (by simp) (by simp) ?_
  obtain ⟨a, ka, rfl⟩ := ha.shape
  obtain ⟨b, kb, rfl⟩ := hb2.shape
  by_cases hl : xs.length = ys.length
  · simp -dsimp (discharger := omega) [B9, hl]
    refine loop_use (eq_loop hl (by omega) (h0 := h) (n0 := n) ha hb2 xs.length [(0, .slice a xs.length ka), (1, .slice b ys.length kb), (12, .int .i64 (xs.length : Int)), (13, .int .i64 ((0 : Nat) : Int))] h n ⟨rfl, rfl, 0, by omega, by simp, rfl⟩) (by simp [hl]) (.refl _) ?_
    rintro e σ' h' n' ⟨rfl, rfl, ⟨rfl, rfl⟩ | ⟨hne, rfl, g4⟩⟩
    · simp -dsimp (discharger := omega) []
      exact .refl _
    · rw [decide_eq_false hne]
      simp -dsimp (discharger := omega) [g4]
      exact .refl _
  · have hne : ¬ xs = ys := fun e => hl (by rw [e])
    have hl2 : ¬ (xs.length : Int) = (ys.length : Int) := by omega
    rw [decide_eq_false hne]
    simp -dsimp (discharger := omega) [B9]
    exact .refl _
end
end Go.Proofs.YtmmcnholpnediaaGreatDoor.Am
