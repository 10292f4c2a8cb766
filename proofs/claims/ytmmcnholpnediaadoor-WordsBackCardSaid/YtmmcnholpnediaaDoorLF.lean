/- Contracts and plain facts (LF). -/
import Derived.Test.YtmmcnholpnediaaDoorLQ
namespace Go.Proofs.YtmmcnholpnediaaDoor.Am
noncomputable section
/- CONTRACTS: strings.FieldsFunc by blanks. -/
def spT : Nat := 80
theorem append_span {h : AHeap} {n q b T : Nat} {sp : List (Nat × Nat)} {p : Nat × Nat} (hq : h.get q = some (.cells (some T) (spanC sp) 0)) (hb : h.get b = some (.cells (some T) [.int .i64 (p.1 : Int), .int .i64 (p.2 : Int)] 2)) (hlen : sp.length < 100000) {K : Option Value → AHeap → Nat → Prop} {t : Tok K}
    (hK : K (some (.slice (some ⟨q, 0, some (2 * (sp ++ [p]).length)⟩) (sp ++ [p]).length 4)) (h.put q (.cells (some T) (spanC (sp ++ [p])) 0)) n) : Runs (aAppend h n T 2 16 (.slice (some ⟨q, 0, some (2 * sp.length)⟩) sp.length 4) (.slice (some ⟨b, 0, some 2⟩) 1 4)) n K t := by
  have he : aElems h 2 (.slice (some ⟨b, 0, some 2⟩) 1 4) = some (1, [.int .i64 (p.1 : Int), .int .i64 (p.2 : Int)]) := by simp [aElems, AHeap.read_of hb]
  have h1 : 2 * (sp.length + 1) * 16 ≤ 281474976710656 := by omega
  have h2 : sp.length * 2 = 2 * sp.length := by omega
  rw [spanC_snoc] at hK
  have e : 2 * (sp ++ [p]).length = 2 * sp.length + 2 := by simp; omega
  rw [e] at hK
  simp [aAppend, he, hq, h1, h2]
  simpa using hK
def FdInv (s : List UInt8) (h0 : AHeap) (n0 m : Nat) (σ : Fr) (h : AHeap) (n : Nat) : Prop :=
  ∃ (j : Nat) (sp : List (Nat × Nat)) (z : Int), FI s j sp z ∧ j + m = s.length ∧ n = n0 + 2 + sp.length ∧ h = (h0.put n0 (.cells (some spT) (spanC sp) 0)).put (n0 + 1) (.iter ⟨s.toArray⟩ j) ∧
    σ = [(0, .string ⟨s.toArray⟩), (1, .func (.func 23) #[] #[]), (5, .slice (some ⟨n0, 0, some (2 * sp.length)⟩) sp.length 4), (6, .int .i64 z), (14, .pointer (some ⟨n0 + 1, 0, some 0⟩))]
def FdPost (s : List UInt8) (h0 : AHeap) (n0 : Nat) (e : Ex) (σ' : Fr) (h' : AHeap) (n' : Nat) : Prop :=
  e = .exit 0 ∧ ∃ (sp : List (Nat × Nat)) (z : Int), FI s s.length sp z ∧ n' = n0 + 2 + sp.length ∧ h' = (h0.put n0 (.cells (some spT) (spanC sp) 0)).put (n0 + 1) (.iter ⟨s.toArray⟩ s.length) ∧
    σ'.get 0 = some (.string ⟨s.toArray⟩) ∧ σ'.get 5 = some (.slice (some ⟨n0, 0, some (2 * sp.length)⟩) sp.length 4) ∧ σ'.get 6 = some (.int .i64 z)
theorem put_get_of {h : AHeap} {i j : Nat} {b : Blk} : (h.put i b).get j = if i = j then some b else h.get j := AHeap.get_put h i j b
theorem fhs1 {h0 : AHeap} {n0 m : Nat} (hw : WF h0 n0) {B B' C C' D : Blk} : HSub ((h0.put n0 B').put (n0 + 1) C') (((((h0.put n0 B).put (n0 + 1) C).put (n0 + 1) C').put (n0 + 2 + m) D).put n0 B') := fun i b hi => by
  simp only [AHeap.get_put] at hi ⊢
  by_cases h1 : n0 = i
  · subst h1
    rw [if_neg (by omega), if_pos rfl] at hi
    rw [if_pos rfl]; exact hi
  · by_cases h2 : n0 + 1 = i
    · subst h2
      rw [if_pos rfl] at hi
      rw [if_neg (by omega), if_neg (by omega), if_pos rfl]; exact hi
    · rw [if_neg h2, if_neg h1] at hi
      have := hw.lt hi
      rw [if_neg h1, if_neg (by omega), if_neg h2, if_neg h2, if_neg h1]; exact hi
theorem fhs2 {h0 : AHeap} {n0 : Nat} (_ : WF h0 n0) {B C C' : Blk} : HSub ((h0.put n0 B).put (n0 + 1) C') (((h0.put n0 B).put (n0 + 1) C).put (n0 + 1) C') := fun i b hi => by
  simp only [AHeap.get_put] at hi ⊢
  by_cases h2 : n0 + 1 = i
  · subst h2
    rw [if_pos rfl] at hi ⊢; exact hi
  · rw [if_neg h2] at hi
    rw [if_neg h2, if_neg h2]; exact hi
set_option maxHeartbeats 2000000 in
theorem fields_loop {s : List UInt8} (hl : s.length < 100000) (ha : ∀ c ∈ s, c.toNat < 128) (h35 : ∀ c ∈ s, ¬ c = 35) {h0 : AHeap} {n0 : Nat} (hw : WF h0 n0) :
    ∀ (m : Nat) (σ : Fr) (h : AHeap) (n : Nat), FdInv s h0 n0 m σ h n → HasCode EV15 (.loop F22L0) σ h n (FdPost s h0 n0) := by
  refine wx_inv _ fun m σ h n hI => ?_
  obtain ⟨j, sp, z, hF, hj, rfl, rfl, rfl⟩ := hI
  have z0 := hF.z0
  have z1 := hF.z1
  have hsl := hF.hsp
  cases m with
  | zero =>
    have hjl : j = s.length := by omega
    subst hjl
    simp -dsimp (discharger := omega) [F22L0]
    exact ⟨rfl, sp, z, hF, rfl, rfl, rfl, rfl, rfl⟩
  | succ m =>
    have hlt : j < s.length := by omega
    obtain ⟨c, hc⟩ : ∃ c, s[j]? = some c := ⟨_, List.getElem?_eq_getElem hlt⟩
    have hcm : c ∈ s := by obtain ⟨h1, rfl⟩ := List.getElem?_eq_some_iff.1 hc; exact List.getElem_mem h1
    have hc128 := ha c hcm
    have hc35 := h35 c hcm
    simp -dsimp (discharger := omega) [F22L0, decode_plain hc hc128]
    with_reducible refine call_ret (blank_ret hc128 _ _) ?_
    cases hwc : wsp c with
    | true =>
      simp -dsimp (discharger := omega) []
      refine Test.split (fun hz => ?_) (fun hz => ?_)
      · have hz : 0 ≤ z := by simpa using hz
        obtain ⟨zn, rfl⟩ : ∃ a : Nat, z = (a : Int) := ⟨z.toNat, by omega⟩
        have hF' := hF.blankEnd hl hc hc35 hwc hz
        simp -dsimp (discharger := omega) [aFill, repeatCells]
        refine append_span (sp := sp) (q := n0) (b := n0 + 2 + sp.length) (p := (zn, j)) ?_ ?_ (by omega) ?_
        · simp (discharger := omega) [spT]
        · simp (discharger := omega)
        simp -dsimp (discharger := omega) [F22L0, notI_pos hz z1]
        refine .mk' m (by omega) [(0, .string ⟨s.toArray⟩), (1, .func (.func 23) #[] #[]), (5, .slice (some ⟨n0, 0, some (2 * (sp ++ [(zn, j)]).length)⟩) (sp ++ [(zn, j)]).length 4), (6, .int .i64 (-(zn : Int) - 1)), (14, .pointer (some ⟨n0 + 1, 0, some 0⟩))] ((h0.put n0 (.cells (some spT) (spanC (sp ++ [(zn, j)])) 0)).put (n0 + 1) (.iter ⟨s.toArray⟩ (j + 1))) (by simp (discharger := omega)) ?_ ⟨j + 1, (sp ++ [(zn, j)]), _, hF', by omega, by simp (discharger := omega) <;> omega, rfl, rfl⟩
        simp only [spT]
        exact fhs1 hw
      · have hz : z < 0 := by simpa using hz
        have hF' := hF.blank hc hc35 hwc hz
        simp -dsimp (discharger := omega) [F22L0]
        refine .mk' m (by omega) [(0, .string ⟨s.toArray⟩), (1, .func (.func 23) #[] #[]), (5, .slice (some ⟨n0, 0, some (2 * sp.length)⟩) sp.length 4), (6, .int .i64 z), (14, .pointer (some ⟨n0 + 1, 0, some 0⟩))] ((h0.put n0 (.cells (some spT) (spanC sp) 0)).put (n0 + 1) (.iter ⟨s.toArray⟩ (j + 1))) (by simp (discharger := omega)) ?_ ⟨j + 1, sp, _, hF', by omega, by simp (discharger := omega) <;> omega, rfl, rfl⟩
        exact fhs2 hw
    | false =>
      simp -dsimp (discharger := omega) []
      refine Test.split (fun hz => ?_) (fun hz => ?_)
      · have hz : z < 0 := by simpa using hz
        have hF' := hF.begin hl hc hc35 hwc hz
        simp -dsimp (discharger := omega) [F22L0]
        refine .mk' m (by omega) [(0, .string ⟨s.toArray⟩), (1, .func (.func 23) #[] #[]), (5, .slice (some ⟨n0, 0, some (2 * sp.length)⟩) sp.length 4), (6, .int .i64 (j : Int)), (14, .pointer (some ⟨n0 + 1, 0, some 0⟩))] ((h0.put n0 (.cells (some spT) (spanC sp) 0)).put (n0 + 1) (.iter ⟨s.toArray⟩ (j + 1))) (by simp (discharger := omega)) ?_ ⟨j + 1, sp, _, hF', by omega, by simp (discharger := omega) <;> omega, rfl, rfl⟩
        exact fhs2 hw
      · have hz : 0 ≤ z := by simpa using hz
        have hF' := hF.more hc hc35 hwc hz
        simp -dsimp (discharger := omega) [F22L0]
        refine .mk' m (by omega) [(0, .string ⟨s.toArray⟩), (1, .func (.func 23) #[] #[]), (5, .slice (some ⟨n0, 0, some (2 * sp.length)⟩) sp.length 4), (6, .int .i64 z), (14, .pointer (some ⟨n0 + 1, 0, some 0⟩))] ((h0.put n0 (.cells (some spT) (spanC sp) 0)).put (n0 + 1) (.iter ⟨s.toArray⟩ (j + 1))) (by simp (discharger := omega)) ?_ ⟨j + 1, sp, _, hF', by omega, by simp (discharger := omega) <;> omega, rfl, rfl⟩
        exact fhs2 hw
def F1Inv (s : List UInt8) (sp : List (Nat × Nat)) (W : List (List UInt8)) (q A : Nat) (h0 : AHeap) (n0 m : Nat) (σ : Fr) (h : AHeap) (n : Nat) : Prop :=
  ∃ i : Nat, i + m = W.length ∧ n = n0 + i ∧ h = h0.put A (.cells (some 9) (strsL (W.take i) ++ emptyS (W.length - i)) W.length) ∧
    σ = [(0, .string ⟨s.toArray⟩), (9, .slice (some ⟨A, 0, some W.length⟩) W.length 2), (47, .slice (some ⟨q, 0, some (2 * W.length)⟩) W.length 4), (48, .int .i64 (W.length : Int)), (49, .int .i64 (i : Int))]
def F1Post (W : List (List UInt8)) (A : Nat) (h0 : AHeap) (n0 : Nat) (e : Ex) (σ' : Fr) (h' : AHeap) (n' : Nat) : Prop :=
  e = .exit 2 ∧ n' = n0 + W.length ∧ h' = h0.put A (.cells (some 9) (strsL W) W.length) ∧ σ'.get 9 = some (.slice (some ⟨A, 0, some W.length⟩) W.length 2)
theorem fhs3 {h0 : AHeap} {n0 A : Nat} (hw : WF h0 n0) (hA : A < n0) {B B' C C2 : Blk} : HSub (h0.put A B') ((((h0.put A B).put n0 C).put n0 C2).put A B') := fun i b hi => by
  simp only [AHeap.get_put] at hi ⊢
  by_cases h2 : A = i
  · subst h2
    rw [if_pos rfl] at hi ⊢; exact hi
  · rw [if_neg h2] at hi
    have := hw.lt hi
    rw [if_neg h2, if_neg (by omega), if_neg (by omega), if_neg h2]; exact hi
set_option maxHeartbeats 2000000 in
theorem fill_loop {s : List UInt8} {sp : List (Nat × Nat)} (hsp : ∀ p ∈ sp, p.1 ≤ p.2 ∧ p.2 ≤ s.length) {W : List (List UInt8)} (hW : sp.map (cutSp s) = W) (hl : s.length < 100000) (hlw : W.length < 100000) {q A : Nat} {h0 : AHeap} {n0 : Nat} (hw : WF h0 n0) (hq : h0.get q = some (.cells (some spT) (spanC sp) 0)) (hA : A < n0) (hqA : ¬ A = q) :
    ∀ (m : Nat) (σ : Fr) (h : AHeap) (n : Nat), F1Inv s sp W q A h0 n0 m σ h n → HasCode EV15 (.loop F22L1) σ h n (F1Post W A h0 n0) := by
  refine wx_inv _ fun m σ h n hI => ?_
  obtain ⟨i, hi, rfl, rfl, rfl⟩ := hI
  have hWl : sp.length = W.length := by rw [← hW]; simp
  have hqn := hw.lt hq
  cases m with
  | zero =>
    have hil : i = W.length := by omega
    subst hil
    simp -dsimp (discharger := omega) [F22L1]
    exact ⟨rfl, rfl, by simp [emptyS], rfl⟩
  | succ m =>
    have hlt : i < W.length := by omega
    obtain ⟨p, hp⟩ : ∃ p, sp[i]? = some p := ⟨_, List.getElem?_eq_getElem (by omega)⟩
    have hpm : p ∈ sp := by obtain ⟨h1, rfl⟩ := List.getElem?_eq_some_iff.1 hp; exact List.getElem_mem h1
    obtain ⟨hp1, hp2⟩ := hsp p hpm
    have hx : W[i]? = some (cutSp s p) := by rw [← hW]; simp [hp]
    have hrd : h0.read q (2 * W.length) (i * 2) 2 = some [.int .i64 (p.1 : Int), .int .i64 (p.2 : Int)] := by
      rw [AHeap.read_of hq]
      have h1 : i * 2 + 2 ≤ 2 * W.length := by omega
      have h2 : i * 2 = 2 * i := by omega
      simp [hWl, h1]
      rw [h2]; exact spanC_at sp hp
    have hlk : (W.take i).length = i := by rw [List.length_take]; omega
    have hk : W.length - i = (W.length - (i + 1)) + 1 := by omega
    have hrd2 : ∀ (B : Blk), (h0.put A B).read q (2 * W.length) (i * 2) 2 = some [.int .i64 (p.1 : Int), .int .i64 (p.2 : Int)] := fun B => by
      rw [AHeap.read_def, AHeap.get_put_ne _ _ hqA, ← AHeap.read_def]; exact hrd
    simp -dsimp (discharger := omega) [F22L1, hrd2]
    have hblk : List.take i (strsL (W.take i) ++ emptyS (W.length - i)) ++ Value.string ⟨(List.drop p.1 (List.take p.2 s)).toArray⟩ :: List.drop (i + 1) (strsL (W.take i) ++ emptyS (W.length - i)) = strsL (W.take (i + 1)) ++ emptyS (W.length - (i + 1)) := by
      have := set_next (W.take i) (cutSp s p) (W.length - (i + 1))
      rw [hlk, ← hk] at this
      rw [take_snoc hx, ← this]; rfl
    rw [hblk]
    refine .mk' m (by omega) [(0, .string ⟨s.toArray⟩), (9, .slice (some ⟨A, 0, some W.length⟩) W.length 2), (47, .slice (some ⟨q, 0, some (2 * W.length)⟩) W.length 4), (48, .int .i64 (W.length : Int)), (49, .int .i64 ((i + 1 : Nat) : Int))] (h0.put A (.cells (some 9) (strsL (W.take (i + 1)) ++ emptyS (W.length - (i + 1))) W.length)) (by simp) (fhs3 (A := A) (n0 := n0 + i) (hw.mono (by omega)) (by omega)) ⟨i + 1, by omega, rfl, rfl, rfl⟩
theorem fill_use {s : List UInt8} (hl : s.length < 10000) {n : Nat} {sp : List (Nat × Nat)} {W : List (List UInt8)} (hW : sp.map (cutSp s) = W) (hb : ∀ p ∈ sp, p.1 ≤ p.2 ∧ p.2 ≤ s.length) (hlw : W.length < 100000) {σ : Fr} {H : AHeap} (g0 : σ.get 0 = some (.string ⟨s.toArray⟩)) (g9 : σ.get 9 = some (.slice (some ⟨n + 2 + W.length, 0, some W.length⟩) W.length 2))
    (g47 : σ.get 47 = some (.slice (some ⟨n, 0, some (2 * W.length)⟩) W.length 4)) (g48 : σ.get 48 = some (.int .i64 (W.length : Int))) (g49 : σ.get 49 = some (.int .i64 0)) (hq : H.get n = some (.cells (some spT) (spanC sp) 0)) (hw : WF H (n + 2 + W.length)) {Q : Ex → Fr → AHeap → Nat → Prop} {tk : Tok Q}
    (hQ : ∀ σ', σ'.get 9 = some (.slice (some ⟨n + 2 + W.length, 0, some W.length⟩) W.length 2) → Q (.exit 2) σ' (H.put (n + 2 + W.length) (.cells (some 9) (strsL W) W.length)) (n + 2 + W.length + 1 + W.length)) :
    HasCodeT EV15 (.loop F22L1) σ (H.put (n + 2 + W.length) (.cells (some 9) (List.replicate W.length (.string ⟨#[]⟩)) W.length)) (n + 2 + W.length + 1) Q tk := by
  refine loop_use (fill_loop hb hW (by omega) hlw (q := n) (A := n + 2 + W.length) (h0 := H) (n0 := n + 2 + W.length + 1) (hw.mono (by omega)) hq (by omega) (by omega) _ _ _ _ ⟨0, Nat.zero_add _, rfl, rfl, rfl⟩) (by simp [g0, g9, g47, g48, g49]) (.eq (by simp [emptyS, strsL])) ?_
  rintro e σ' h' n' ⟨rfl, rfl, rfl, g9⟩
  exact hQ σ' g9
set_option maxHeartbeats 2000000 in
/-- strings.FieldsFunc, of a line of plain bytes without a remark, at blanks. -/
theorem fields_ret {s : List UInt8} (hl : s.length < 10000) (ha : ∀ c ∈ s, c.toNat < 128) (h35 : ∀ c ∈ s, ¬ c = 35) {h : AHeap} {n : Nat} (hw : WF h n) :
    Ret EV15 22 [.string ⟨s.toArray⟩, .func (.func 23) #[] #[]] h n (.slice (some ⟨n + 2 + (wordsL s).length, 0, some (wordsL s).length⟩) (wordsL s).length 2)
      [(n + 2 + (wordsL s).length, .cells (some 9) (strsL (wordsL s)) (wordsL s).length)] (n + 3 + 2 * (wordsL s).length) := by
  refine rsx22 (by simp) (fun i hi => by simp at hi; subst hi; exact .inr ⟨by omega, by omega⟩) ?_
  have hWl := words_len s []
  have hWl : (wordsL s).length < 100000 := by unfold wordsL; omega
  simp -dsimp (discharger := omega) [B22, repeatCells]
  refine loop_use (fields_loop (by omega) ha h35 hw _ _ _ _ ⟨0, [], -1, FI.init s, Nat.zero_add _, rfl, rfl, rfl⟩) (by simp) ?_ ?_
  · simp only [spT, spanC]; exact .refl _
  rintro e σ' h' n' ⟨rfl, sp, z, hF, rfl, rfl, g0, g5, g6⟩
  have z1 := hF.z1
  have hsl := hF.hsp
  simp -dsimp (discharger := omega) [g6]
  refine Test.split (fun hz => ?_) (fun hz => ?_)
  · have hz : 0 ≤ z := by simpa using hz
    obtain ⟨zn, rfl⟩ : ∃ a : Nat, z = (a : Int) := ⟨z.toNat, by omega⟩
    obtain ⟨hW, hb⟩ := hF.done1 hz
    simp only [Int.toNat_natCast] at hW hb
    have hWs : (sp ++ [(zn, s.length)]).length = (wordsL s).length := by rw [← hW, List.length_map]
    simp -dsimp (discharger := omega) [g0, g5, g6, aFill, repeatCells]
    refine append_span (sp := sp) (q := n) (b := n + 2 + sp.length) (p := (zn, s.length)) ?_ ?_ (by omega) ?_
    · simp (discharger := omega) [spT]
    · simp (discharger := omega)
    rw [hWs]
    have e1 : n + 2 + sp.length + 1 = n + 2 + (wordsL s).length := by rw [← hWs]; simp; omega
    generalize wordsL s = W at *
    simp -dsimp (discharger := omega) [e1]
    refine fill_use hl hW hb hWl (by simp [g0]) (by simp) (by simp) (by simp) (by simp) (by simp [spT]) ?_ ?_
    · exact .of fun j hj => by simp (discharger := omega) [hw.none (i := j) (by omega)]
    · intro σ'' g9
      simp -dsimp (discharger := omega) [g9]
      refine ⟨.put_both _ _ ?_, by omega⟩
      (repeat (refine HSub.new ?_ hw (by omega) _))
      exact .refl _
  · have hz : z < 0 := by simpa using hz
    have hW := hF.done0 hz
    have hWs : sp.length = (wordsL s).length := by rw [← hW, List.length_map]
    rw [hWs] at g5
    generalize wordsL s = W at *
    simp -dsimp (discharger := omega) [g0, g5, hWs]
    refine fill_use hl hW hF.hb hWl (by simp [g0]) (by simp) (by simp) (by simp) (by simp) (by simp (discharger := omega) [spT]) ?_ ?_
    · exact .of fun j hj => by simp (discharger := omega) [hw.none (i := j) (by omega)]
    · intro σ'' g9
      simp -dsimp (discharger := omega) [g9]
      refine ⟨.put_both _ _ ?_, by omega⟩
      (repeat (refine HSub.new ?_ hw (by omega) _))
      exact .refl _
end
end Go.Proofs.YtmmcnholpnediaaDoor.Am
