/- Contracts of the program's functions (X9). -/
import Derived.Test.YtbgjcoochdljfaaDoorRX8
import Derived.Test.YtbgjcoochdljfaaDoorRLM
import Derived.Test.YtbgjcoochdljfaaDoorRLJ
namespace Go.Proofs.YtbgjcoochdljfaaDoorR.Am
noncomputable section
/- CONTRACT: the text of a set. -/
structure Gl (h : AHeap) : Prop where
  tab : HasTab h
  pow : HasPow h
theorem Gl.sub {h h' : AHeap} (x : Gl h) (hs : HSub h h') : Gl h' := ⟨hs _ _ x.tab, x.pow.sub hs⟩
def rgT (p : Nat × Nat) : List UInt8 := if p.1 < p.2 then decs p.1 ++ (45 :: decs p.2) else decs p.1
def textL (N : Nat) : List UInt8 := if N = 0 then [110, 111, 110, 101] else if N = allN then [97, 108, 108] else joinL [44] ((rangesR N).reverse.map rgT)
theorem joinL_le {sep : List UInt8} {B : Nat} : ∀ {ss : List (List UInt8)}, (∀ s ∈ ss, s.length ≤ B) → (joinL sep ss).length ≤ ss.length * (B + sep.length)
  | [], _ => by simp [joinL]
  | [a], h => by have := h a (.head _); simp [joinL]; omega
  | a :: b :: l, h => by
    have h1 := h a (.head _)
    have h2 := joinL_le (sep := sep) (fun s hs => h s (.tail a hs))
    simp only [joinL, List.length_append, List.length_cons] at *
    rw [Nat.add_mul, Nat.one_mul]
    omega
/- A slice of texts that is appended to. -/
def LstV (n0 : Nat) (h : AHeap) (v : Value) (ws : List (List UInt8)) : Prop :=
  ws = [] ∧ v = .slice none 0 0 ∨ ¬ ws = [] ∧ ∃ q : Nat, n0 ≤ q ∧ v = .slice (some ⟨q, 0, some ws.length⟩) ws.length 2 ∧ h.get q = some (.cells (some 9) (strsL ws) 1)
theorem LstV.mono {n0 : Nat} {h h' : AHeap} (hs : HSub h h') {v : Value} {ws : List (List UInt8)} (x : LstV n0 h v ws) : LstV n0 h' v ws := by
  rcases x with x | ⟨hne, q, hq, e, hg⟩
  · exact .inl x
  · exact .inr ⟨hne, q, hq, e, hs _ _ hg⟩
theorem lst_append {n0 : Nat} {h0 h : AHeap} {n : Nat} {v : Value} {ws : List (List UInt8)} {w : List UInt8} (hw0 : WF h0 n0) (hs : HSub h0 h) (hw : WF h n) (hn : n0 ≤ n) (hl : ws.length ≤ 10000) (hS : LstV n0 h v ws)
    {K : Option Value → AHeap → Nat → Prop} {t : Tok K} (hK : ∀ v' h' n', LstV n0 h' v' (ws ++ [w]) → HSub h0 h' → WF h' n' → n ≤ n' → n' ≤ n + 2 → K (some v') h' n') :
    Runs (aAppend (h.put n (.cells (some 9) [.string ⟨w.toArray⟩] 1)) (n + 1) 9 1 16 v (.slice (some ⟨n, 0, some 1⟩) 1 2)) (n + 1) K t := by
  have hs1 := hs.new hw0 hn (.cells (some 9) [.string ⟨w.toArray⟩] 1)
  have hw1 : WF (h.put n (.cells (some 9) [.string ⟨w.toArray⟩] 1)) (n + 1) := hw.put _ (by omega) (by omega)
  rcases hS with ⟨rfl, rfl⟩ | ⟨hne, q, hq, rfl, hg⟩
  · have hK := hK (.slice (some ⟨n + 1, 0, some 1⟩) 1 2) ((h.put n (.cells (some 9) [.string ⟨w.toArray⟩] 1)).put (n + 1) (.cells (some 9) [.string ⟨w.toArray⟩] 1)) (n + 2) (.inr ⟨by simp, n + 1, by omega, rfl, by simp [strsL]⟩) (hs1.new hw0 (by omega) _) (hw1.put _ (by simp) (by simp)) (by omega) (by omega)
    simp [aAppend, aElems]
    exact hK
  · have hp : 0 < ws.length := List.length_pos_iff.2 hne
    have hqn := hw.lt hg
    have hK := hK (.slice (some ⟨q, 0, some (ws ++ [w]).length⟩) (ws ++ [w]).length 2) ((h.put n (.cells (some 9) [.string ⟨w.toArray⟩] 1)).put q (.cells (some 9) (strsL (ws ++ [w])) 1)) (n + 1) (.inr ⟨by simp, q, hq, rfl, by simp⟩) (hs1.new hw0 hq _) (hw1.put _ (by omega) (by omega)) (by omega) (by omega)
    simp (discharger := omega) [aAppend, aElems, hg]
    simpa [strsL] using hK
/-- A range's two numbers in its slice. -/
theorem pair_at {r : List (Nat × Nat)} {k : Nat} {p : Nat × Nat} (hk : r[k]? = some p) : List.take 2 (List.drop (k * 2) (pairL r)) = [.int .i64 (p.1 : Int), .int .i64 (p.2 : Int)] := by
  obtain ⟨hlt, rfl⟩ := List.getElem?_eq_some_iff.1 hk
  have e : r = r.take k ++ r[k] :: r.drop (k + 1) := by rw [← List.drop_eq_getElem_cons hlt, List.take_append_drop]
  have h2 : k * 2 = (pairL (r.take k)).length := by rw [pairL_len, List.length_take]; omega
  conv => lhs; rw [e]
  rw [show pairL (r.take k ++ r[k] :: r.drop (k + 1)) = pairL (r.take k) ++ (.int .i64 (r[k].1 : Int) :: .int .i64 (r[k].2 : Int) :: pairL (r.drop (k + 1))) by simp only [pairL, List.flatMap_append, List.flatMap_cons, List.cons_append, List.nil_append], h2, List.drop_left]
  rfl
def TxInv (rs : List (Nat × Nat)) (vr : Value) (h0 : AHeap) (n0 r : Nat) (σ : Fr) (h : AHeap) (n : Nat) : Prop :=
  ∃ (k : Nat) (v : Value), k + r = rs.length ∧ HSub h0 h ∧ WF h n ∧ n0 ≤ n ∧ n ≤ n0 + 6 * k ∧ LstV n0 h v ((rs.take k).map rgT) ∧ σ = [(3, v), (14, vr), (15, .int .i64 (rs.length : Int)), (16, .int .i64 (k : Int))]
def TxPost (rs : List (Nat × Nat)) (h0 : AHeap) (n0 : Nat) (e : Ex) (σ' : Fr) (h' : AHeap) (n' : Nat) : Prop :=
  e = .exit 0 ∧ ∃ v, HSub h0 h' ∧ WF h' n' ∧ n0 ≤ n' ∧ n' ≤ n0 + 6 * rs.length ∧ LstV n0 h' v (rs.map rgT) ∧ σ'.get 3 = some v
theorem text_loop {rs : List (Nat × Nat)} (hl : rs.length ≤ 4096) (hlt : ∀ p ∈ rs, p.1 < 4096 ∧ p.2 < 4096) {q mn : Nat} (hmn : mn ≤ 2 * rs.length) {h0 : AHeap} (hq : h0.get q = some (.cells (some 35) (pairL rs) mn)) (hp : HasPow h0) {n0 : Nat} (hw0 : WF h0 n0) (hn0 : 4096 ≤ n0) :
    ∀ (m : Nat) (σ : Fr) (h : AHeap) (n : Nat), TxInv rs (.slice (some ⟨q, 0, some (2 * rs.length)⟩) rs.length 4) h0 n0 m σ h n → HasCode FV14 (.loop F9L0) σ h n (TxPost rs h0 n0) := by
  refine wx_inv _ fun m σ h n hI => ?_
  obtain ⟨k, v, hk, hs, hw, hn, hn1, hS, rfl⟩ := hI
  cases m with
  | zero =>
    have e : rs.take k = rs := List.take_of_length_le (by omega)
    rw [e] at hS
    have fin : ∀ {σ : Fr}, σ.get 3 = some v → TxPost rs h0 n0 (.exit 0) σ h n := fun a => ⟨rfl, v, hs, hw, hn, by omega, hS, a⟩
    simp -dsimp (discharger := omega) [F9L0]
    exact fin rfl
  | succ m =>
    obtain ⟨p, hx⟩ : ∃ p, rs[k]? = some p := ⟨_, List.getElem?_eq_getElem (by omega)⟩
    obtain ⟨f, t⟩ := p
    have hft := hlt _ (List.mem_of_getElem? hx)
    simp only [] at hft
    have hpa := pair_at hx
    simp only [] at hpa
    have hpl := pairL_len rs
    have hg := hs _ _ hq
    have hts : (rs.take (k + 1)).map rgT = (rs.take k).map rgT ++ [rgT (f, t)] := by rw [List.take_add_one, hx]; simp
    have htl : ((rs.take k).map rgT).length ≤ 10000 := by rw [List.length_map, List.length_take]; omega
    generalize (rs.take k).map rgT = ws at *
    have hqn := hw.lt hg
    have hk2 : k * 2 + 2 ≤ 2 * rs.length := by omega
    obtain ⟨H1, hH1⟩ : ∃ H, H = (h.put n (.cells (some 35) [.int .i64 0, .int .i64 0] 2)).put n (.cells (some 35) [.int .i64 (f : Int), .int .i64 (t : Int)] 2) := ⟨_, rfl⟩
    have hs1 : HSub h0 H1 := by subst hH1; exact (hs.new hw0 hn _).new hw0 hn _
    have hw1 : WF H1 (n + 1) := by subst hH1; exact (hw.put (m := n + 1) _ (by omega) (by omega)).put _ (by omega) (Nat.le_refl _)
    have hg1 : H1.get n = some (.cells (some 35) [.int .i64 (f : Int), .int .i64 (t : Int)] 2) := by subst hH1; rw [AHeap.get_put_same]
    have hS1 : LstV n0 H1 v ws := by subst hH1; exact hS.mono ((HSub.refl h).new hw (Nat.le_refl _) _ |>.new hw (Nat.le_refl _) _)
    have c1 := itoaN_ret (u := f) (by omega) (hp.sub hs1) hw1 (by omega)
    have c2 := itoaN_ret (u := t) (by omega) (hp.sub hs1) (hw1.mono (Nat.le_succ (n + 1))) (by omega)
    simp -dsimp (discharger := omega) [F9L0, AHeap.read_of hg, hpa, hpl, hmn, hk2]
    rw [← hH1]
    with_reducible refine call_ret (ret_f14 c1) ?_
    have fin : ∀ {tk : Tok (TxInv rs (.slice (some ⟨q, 0, some (2 * rs.length)⟩) rs.length 4) h0 n0)} {σ : Fr} {v' : Value} {h' : AHeap} {n' : Nat}, LstV n0 h' v' (ws ++ [rgT (f, t)]) → HSub h0 h' → WF h' n' → n + 1 ≤ n' → n' ≤ n + 6 → FSubL [(3, v'), (14, .slice (some ⟨q, 0, some (2 * rs.length)⟩) rs.length 4), (15, .int .i64 (rs.length : Int)), (16, .int .i64 ((k + 1 : Nat) : Int))] σ → Again (TxInv rs (.slice (some ⟨q, 0, some (2 * rs.length)⟩) rs.length 4) h0 n0) (m + 1) σ h' n' tk := fun a b c d e hσ =>
      .mk' m (by omega) _ _ hσ (.refl _) ⟨k + 1, _, by omega, b, c, by omega, by omega, hts ▸ a, rfl⟩
    by_cases hft2 : f < t
    · have e : rgT (f, t) = decs f ++ (45 :: decs t) := if_pos hft2
      rw [e] at fin
      have lf := decs_le20 (u := f) (by omega)
      have lt := decs_le20 (u := t) (by omega)
      simp -dsimp (discharger := omega) [AHeap.read_of hg1, hft2]
      with_reducible refine call_ret (ret_f14 c2) ?_
      simp -dsimp (discharger := omega) [aFill, repeatCells]
      refine lst_append (n := n + 3) hw0 hs1 (hw1.mono (by omega)) (by omega) htl hS1 fun v' h' n' a b c d e => ?_
      simp -dsimp (discharger := omega) []
      exact fin a b c (by omega) (by omega) (by simp)
    · have e : rgT (f, t) = decs f := if_neg hft2
      rw [e] at fin
      simp -dsimp (discharger := omega) [AHeap.read_of hg1, hft2, aFill, repeatCells]
      refine lst_append (n := n + 2) hw0 hs1 (hw1.mono (by omega)) (by omega) htl hS1 fun v' h' n' a b c d e => ?_
      simp -dsimp (discharger := omega) []
      exact fin a b c (by omega) (by omega) (by simp)
/-- Ranges of a set lie below 4096. -/
theorem addR_lt {l : List Nat} : ∀ {rr : List (Nat × Nat)}, (∀ v ∈ l, v < 4096) → (∀ p ∈ rr, p.1 < 4096 ∧ p.2 < 4096) → ∀ p ∈ l.foldl addR rr, p.1 < 4096 ∧ p.2 < 4096 := by
  induction l with
  | nil => intro rr _ h; exact h
  | cons v l ih =>
    intro rr hl h
    refine ih (fun x hx => hl x (.tail _ hx)) ?_
    have hv := hl v (.head _)
    match rr, h with
    | [], _ => intro p hp; simp [addR] at hp; subst hp; exact ⟨hv, hv⟩
    | (f, t) :: r, h =>
      have h0 := h _ (.head _)
      intro p hp
      simp only [addR] at hp
      split at hp
      · rcases List.mem_cons.1 hp with rfl | hp
        · exact ⟨h0.1, hv⟩
        · exact h p (.tail _ hp)
      · rcases List.mem_cons.1 hp with rfl | hp
        · exact ⟨hv, hv⟩
        · exact h p hp
theorem addR_len {l : List Nat} : ∀ {rr : List (Nat × Nat)}, (l.foldl addR rr).length ≤ rr.length + l.length := by
  induction l with
  | nil => intro rr; simp
  | cons v l ih =>
    intro rr
    have := ih (rr := addR rr v)
    have h2 : (addR rr v).length ≤ rr.length + 1 := by
      match rr with
      | [] => simp [addR]
      | (f, t) :: r => simp only [addR]; split <;> simp
    simp only [List.foldl_cons, List.length_cons]; omega
theorem rangesR_lt (N : Nat) : ∀ p ∈ rangesR N, p.1 < 4096 ∧ p.2 < 4096 := addR_lt (fun v hv => (els_lt hv).1) (by simp)
theorem rangesR_len (N : Nat) : (rangesR N).length ≤ 4096 := by
  have := addR_len (l := els N) (rr := [])
  have := els_len N
  unfold rangesR; simp at *; omega
theorem Vs.all : Vs allN := Vs.rng 1 4094
theorem addR_ne {l : List Nat} : ∀ {rr : List (Nat × Nat)}, (rr ≠ [] ∨ l ≠ []) → l.foldl addR rr ≠ [] := by
  induction l with
  | nil => intro rr h; rcases h with h | h; exact h; exact absurd rfl h
  | cons v l ih =>
    intro rr _
    refine ih (.inl ?_)
    match rr with
    | [] => simp [addR]
    | (f, t) :: r => simp only [addR]; split <;> simp
theorem rangesR_ne {N : Nat} (hN : Vs N) (h0 : N ≠ 0) : rangesR N ≠ [] := by
  refine addR_ne (.inr ?_)
  obtain ⟨i, hi⟩ := Nat.exists_testBit_of_ne_zero h0
  have := hN i hi
  intro e
  have hm : i ∈ els N := List.mem_filter.2 ⟨List.mem_range.2 (by omega), hi⟩
  rw [e] at hm; cases hm
theorem text_ret {N : Nat} (hN : Vs N) {h : AHeap} {n : Nat} (hw : WF h n) (hg : Gl h) (hn : 4096 ≤ n) : Ret FV14 9 [.agg (wv N).toArray] h n (.string ⟨(textL N).toArray⟩) [] (n + 40000) := by
  have hW : ∀ b, WF (h.put n b) (n + 1) := fun b => hw.put b (by omega) (by omega)
  have l0 : leavesEq (List.replicate 64 .int) (wv N) (wv 0) = some (decide (N = 0)) := leaves_wv hN.lt Vs.zero.lt
  have l1 : leavesEq (List.replicate 64 .int) (wv N) (wv allN) = some (decide (N = allN)) := leaves_wv hN.lt Vs.all.lt
  have hsb : ∀ b, HSub h (h.put n b) := fun b => (HSub.refl h).new hw (Nat.le_refl _) b
  refine wret_of (E := FV14) (af := F9) rfl (by simp [F9]) (by simp) (by simp) ?_
  by_cases h0 : N = 0
  · have e : textL N = [110, 111, 110, 101] := if_pos h0
    rw [decide_eq_true h0] at l0
    rw [e]
    simp -dsimp (discharger := omega) [F9, B9, take_wv, -List.reduceReplicate, ← wv_zero, aFill, l0]
    exact hsb _
  · rw [decide_eq_false h0] at l0
    simp -dsimp (discharger := omega) [F9, B9, take_wv, -List.reduceReplicate, ← wv_zero, aFill, l0]
    have ca := all_ret (hW (.cells (some 26) (wv N) 64))
    by_cases h1 : N = allN
    · have e : textL N = [97, 108, 108] := by rw [textL, if_neg h0, if_pos h1]
      rw [decide_eq_true h1] at l1
      rw [e]
      with_reducible refine ret_on [] (ret_f14 (all_ret ((hW _).touch []))) ?_
      simp -dsimp (discharger := omega) [F9, -List.reduceReplicate, l1]
      exact hsb _
    · rw [decide_eq_false h1] at l1
      have e : textL N = joinL [44] ((rangesR N).reverse.map rgT) := by rw [textL, if_neg h0, if_neg h1]
      rw [e]
      with_reducible refine ret_on [] (ret_f14 (all_ret ((hW _).touch []))) ?_
      simp -dsimp (discharger := omega) [-List.reduceReplicate, l1, take_wv]
      obtain ⟨H1, hH1⟩ : ∃ H, H = h.put n (.cells (some 26) (wv N) 64) := ⟨_, rfl⟩
      rw [← hH1]
      have hs1 : HSub h H1 := hH1 ▸ hsb _
      have hw1 : WF H1 (n + 1 + 11) := by rw [hH1]; exact (hW _).mono (by omega)
      obtain ⟨vr, bs, n', ⟨hn1, hn2, hR⟩, hret⟩ := ranges_ret N hw1 (hg.sub hs1).tab (by omega)
      rcases hR with ⟨hR, _⟩ | ⟨hne, q, mn, hq1, hq2, hmn, rfl, rfl⟩
      · exact absurd hR (rangesR_ne hN h0)
      obtain ⟨H2, hH2⟩ : ∃ H, H = H1.put q (.cells (some 35) (pairL (rangesR N).reverse) mn) := ⟨_, rfl⟩
      have hs2 : HSub h H2 := by rw [hH2]; exact hs1.new hw (by omega) _
      have hw2 : WF H2 n' := by rw [hH2]; exact hw1.put _ hq2 hn2
      have hg2 : H2.get q = some (.cells (some 35) (pairL (rangesR N).reverse) mn) := by rw [hH2, AHeap.get_put_same]
      have hlen := rangesR_len N
      have hrl : (rangesR N).reverse.length = (rangesR N).length := List.length_reverse
      have hlt : ∀ p ∈ (rangesR N).reverse, p.1 < 4096 ∧ p.2 < 4096 := fun p hp => rangesR_lt N p (List.mem_reverse.1 hp)
      have hjl : (joinL [44] ((rangesR N).reverse.map rgT)).length < 1000000000 := by
        have := joinL_le (sep := [44]) (B := 41) (ss := (rangesR N).reverse.map rgT) (fun s hs => by
          obtain ⟨p, hp, rfl⟩ := List.mem_map.1 hs
          have := hlt p hp
          have l1 := decs_le20 (u := p.1) (by omega)
          have l2 := decs_le20 (u := p.2) (by omega)
          unfold rgT
          split
          · simp only [List.length_append, List.length_cons]; omega
          · omega)
        simp only [List.length_map, hrl, List.length_singleton] at this
        omega
      have hnr : (rangesR N).reverse ≠ [] := by simpa using hne
      rw [← hrl] at hret hmn
      generalize (rangesR N).reverse = rs at *
      with_reducible refine call_ret hret ?_
      simp -dsimp (discharger := omega) []
      rw [← hH2]
      refine loop_use (text_loop (by omega) hlt hmn hg2 (hg.sub hs2).pow hw2 (by omega) rs.length _ _ _ ⟨0, _, by omega, .refl _, hw2, Nat.le_refl _, by omega, .inl ⟨by simp, rfl⟩, rfl⟩) (by simp) (.refl _) ?_
      rintro e' σ' h' n2 ⟨rfl, v, hs3, hw3, hn3, hn4, hS, g1⟩
      simp -dsimp (discharger := omega) [g1]
      rcases hS with ⟨hS, _⟩ | ⟨_, q2, hq3, rfl, hg3⟩
      · exact absurd (List.map_eq_nil_iff.1 hS) hnr
      have hrd : h'.read q2 (rs.map rgT).length 0 (rs.map rgT).length = some (strsL (rs.map rgT)) := by
        have hpos : 1 ≤ (rs.map rgT).length := by rw [List.length_map]; exact List.length_pos_iff.2 hnr
        generalize rs.map rgT = ws at *
        rw [AHeap.read_of hg3]; simp only [Blk.read]; simp [hpos]
      with_reducible refine call_ret (ret_f14 (join_ret hrd hw3 [44] (by simp) (by rw [List.length_map]; omega) hjl)) ?_
      simp -dsimp (discharger := omega) [F9]
      exact ⟨hs2.trans hs3, by omega⟩
end
end Go.Proofs.YtbgjcoochdljfaaDoorR.Am
