/- The statement proved (PArgs). -/
import Derived.Test.YtkdpjaaohddppaaDoorS
import Derived.Test.YtkdpjaaohddppaaDoorD9
import Derived.Test.YtkdpjaaohddppaaDoorK
import Derived.Test.YtkdpjaaohddppaaDoorChecked
import Derived.Test.YtkdpjaaohddppaaDoorRows
import Derived.WalkKit
import Derived.ProofKit
import Derived.OpenShut
namespace Go.Proofs.YtkdpjaaohddppaaDoor
open Go Go.Proofs.YtkdpjaaohddppaaDoor.Am Go.ChangeShapes Go.WideShapes Go.RowKit
/- WHAT THE CONDITION OF RateOrder's ROW GIVES: inf, a switch, two tables. -/
def laidC : List (String × DataW Unit) := Rows.rateOrderRow.laid
theorem gInfN : Tryd.prog.globalNamed "toll/tolllaw11.inf" = some 1 := by kernel_rfl
theorem gOptN : Tryd.prog.globalNamed "internal/strconv.optimize" = some 2 := by kernel_rfl
theorem gPowN : Tryd.prog.globalNamed "internal/strconv.uint64pow10" = some 3 := by kernel_rfl
theorem gTabN : Tryd.prog.globalNamed "internal/strconv.pow10Tab" = some 4 := by kernel_rfl
theorem tInf : (Tryd.prog.globals[1]?).map (·.type) = some 24 := by kernel_rfl
theorem tOpt : (Tryd.prog.globals[2]?).map (·.type) = some 4 := by kernel_rfl
theorem tPow : (Tryd.prog.globals[3]?).map (·.type) = some 107 := by kernel_rfl
theorem tTab : (Tryd.prog.globals[4]?).map (·.type) = some 117 := by kernel_rfl
theorem powT_eq : powT = ([1, 10, 100, 1000, 10000, 100000, 1000000, 10000000, 100000000, 1000000000, 10000000000, 100000000000, 1000000000000, 10000000000000, 100000000000000, 1000000000000000, 10000000000000000, 100000000000000000, 1000000000000000000, 10000000000000000000] : List Int).map fun z => .int .u64 z := rfl
section
variable {H : Type} {enc : TypeId × Value → H} {P : Program} {w : World} {base : Nat} {sp : Nat → Bool} {held : Bool}
theorem cells_pairs {t e u n fuel : Nat} {f0 f1 : Field} {cs : List Value} {l : List (Nat × Nat)} {p : List MemPlace} (ht : P.underlying t = some (.array n e)) (he : P.underlying e = some (.struct #[f0, f1])) (h0 : f0.type = u) (h1 : f1.type = u) (o0 : f0.offset = 0) (o1 : f1.offset = 1) (hu : P.underlying u = some (.int .u64)) (hc : P.cellsOf e = 2) (hcu : P.cellsOf u = 1) (hct : P.cellsOf t = n * 2)
    (h : DataW.trod enc P w base sp held fuel t cs = some (.agg (l.map fun x => .agg [.lit (.int .u64 x.1), .lit (.int .u64 x.2)]), p)) : cs = l.flatMap fun x => [.int .u64 x.1, .int .u64 x.2] := by
  obtain ⟨xs, m, rfl, hx, hlen, hn, hel⟩ := DataW.trod_array ht h
  rw [hct] at hlen
  simp only [hc] at hel
  simp only [Prod.mk.injEq, DataW.agg.injEq] at hx
  have hl : l.length = n := by
    have := congrArg List.length hx.1
    simp at this
    omega
  have key : ∀ (k : Nat) (l' : List (Nat × Nat)), l' = l.drop k → k ≤ n → cs.drop (k * 2) = l'.flatMap fun x => [.int .u64 x.1, .int .u64 x.2] := by
    intro k l'
    induction l' generalizing k with
    | nil =>
      intro e hk
      have : l.length ≤ k := List.drop_eq_nil_iff.1 e.symm
      rw [List.drop_of_length_le (by omega)]; rfl
    | cons x l' ih =>
      intro e hk
      have hlt : k < l.length := by
        rcases Nat.lt_or_ge k l.length with h | h
        · exact h
        · rw [List.drop_of_length_le h] at e; cases e
      have e2 := List.drop_eq_getElem_cons hlt
      rw [← e] at e2
      injection e2 with e3 e4
      have h3 := hel k (by omega)
      rw [List.getElem?_eq_getElem (by omega)] at h3
      obtain ⟨y0, y1, m2, hy, hyl, d0, d1⟩ := ChangeShapes.trod_struct2 he h3
      rw [h0, o0, hcu, List.drop_zero] at d0
      rw [h1, o1, hcu] at d1
      obtain ⟨s0, a0, b0, _⟩ := DataW.trod_int hu d0
      obtain ⟨s1, a1, b1, _⟩ := DataW.trod_int hu d1
      have h4 : (l.map fun x => (DataW.agg [DataW.lit (Lit.int .u64 x.1), .lit (.int .u64 x.2)] : DataW H))[k]'(by simp; omega) = (xs.map (·.1))[k]'(by simp; omega) := by simp only [hx.1]
      simp only [List.getElem_map, hy, b0, b1, DataW.agg.injEq, List.cons.injEq, DataW.lit.injEq, Lit.int.injEq, true_and, and_true] at h4
      have hcl : k * 2 + 1 < cs.length := by omega
      have c1 : cs.drop (k * 2) = cs[k * 2] :: cs[k * 2 + 1] :: cs.drop ((k + 1) * 2) := by
        rw [List.drop_eq_getElem_cons (by omega), List.drop_eq_getElem_cons (by omega)]
        congr 3
        omega
      rw [c1] at a0 a1
      simp at a0 a1
      rw [← e3] at h4
      rw [c1, List.flatMap_cons, ← ih (k + 1) e4 (by omega), a0, a1, ← h4.1, ← h4.2]
      rfl
  have := key 0 l rfl (Nat.zero_le _)
  simpa using this
end
theorem trod_f64 {H : Type} {enc : TypeId × Value → H} {P : Program} {w : World} {base : Nat} {sp : Nat → Bool} {held : Bool} {t : TypeId} {fuel : Nat} {cs : List Value} {b : Nat} {p : List MemPlace} (ht : P.underlying t = some (.float .f64)) (h : DataW.trod enc P w base sp held fuel t cs = some (.lit (.float .f64 b), p)) : cs = [.float .f64 b] := by
  cases fuel with
  | zero => simp [DataW.trod] at h
  | succ n =>
    unfold DataW.trod at h
    rw [ht] at h
    split at h <;> simp_all
structure Given (W : World) : Prop where
  inf : ∃ cs : Array Value, W.var? Tryd.prog "toll/tolllaw11.inf" = some cs ∧ cs.toList = [.float .f64 9218868437227405312]
  opt : ∃ cs : Array Value, W.var? Tryd.prog "internal/strconv.optimize" = some cs ∧ cs.toList = [.bool true]
  pow : ∃ cs : Array Value, W.var? Tryd.prog "internal/strconv.uint64pow10" = some cs ∧ cs.toList = powT
  tab : ∃ cs : Array Value, W.var? Tryd.prog "internal/strconv.pow10Tab" = some cs ∧ cs.toList = p10
theorem given_of {W : World} (h : laidMetH Tryd.prog laidC W) : Given W := by
  rw [MakeChecks.laidMetH_plain _ _ _ (by kernel_rfl)] at h
  have hI := h.filter (fun x => x.1 == "toll/tolllaw11.inf")
  rw [show laidC.filter (fun x => x.1 == "toll/tolllaw11.inf") = [("toll/tolllaw11.inf", Rows.laid_toll_tolllaw11_inf)] by kernel_rfl] at hI
  have hO := h.filter (fun x => x.1 == "internal/strconv.optimize")
  rw [show laidC.filter (fun x => x.1 == "internal/strconv.optimize") = [("internal/strconv.optimize", Rows.laid_internal_strconv_optimize)] by kernel_rfl] at hO
  have hP := h.filter (fun x => x.1 == "internal/strconv.uint64pow10")
  rw [show laidC.filter (fun x => x.1 == "internal/strconv.uint64pow10") = [("internal/strconv.uint64pow10", Rows.laid_internal_strconv_uint64pow10)] by kernel_rfl] at hP
  have hT := h.filter (fun x => x.1 == "internal/strconv.pow10Tab")
  rw [show laidC.filter (fun x => x.1 == "internal/strconv.pow10Tab") = [("internal/strconv.pow10Tab", Rows.laid_internal_strconv_pow10Tab)] by kernel_rfl] at hT
  obtain ⟨_, ⟨g1, t1, cs1, f1, p1, q1, hg1, ht1, hv1, hd1, _, e1⟩, _, _⟩ := hI
  obtain ⟨_, ⟨g2, t2, cs2, f2, p2, q2, hg2, ht2, hv2, hd2, _, e2⟩, _, _⟩ := hO
  obtain ⟨_, ⟨g3, t3, cs3, f3, p3, q3, hg3, ht3, hv3, hd3, _, e3⟩, _, _⟩ := hP
  obtain ⟨_, ⟨g4, t4, cs4, f4, p4, q4, hg4, ht4, hv4, hd4, _, e4⟩, _, _⟩ := hT
  obtain rfl := Option.some.inj (gInfN.symm.trans hg1)
  obtain rfl := Option.some.inj (gOptN.symm.trans hg2)
  obtain rfl := Option.some.inj (gPowN.symm.trans hg3)
  obtain rfl := Option.some.inj (gTabN.symm.trans hg4)
  obtain rfl := Option.some.inj (tInf.symm.trans ht1)
  obtain rfl := Option.some.inj (tOpt.symm.trans ht2)
  obtain rfl := Option.some.inj (tPow.symm.trans ht3)
  obtain rfl := Option.some.inj (tTab.symm.trans ht4)
  refine ⟨⟨cs1, hv1, ?_⟩, ⟨cs2, hv2, ?_⟩, ⟨cs3, hv3, ?_⟩, ⟨cs4, hv4, ?_⟩⟩
  · exact trod_f64 Tryd.underlying24 hd1
  · have e0 : (Rows.laid_internal_strconv_optimize : DataW Unit) = .lit (.bool true) := rfl
    rw [e0] at hd2
    obtain ⟨b, hb, hx⟩ := DataW.trod_bool Tryd.underlying4 hd2
    injection hx with hx1 hx2
    injection hx1 with hx3
    injection hx3 with hx4
    rw [hb, ← hx4]
  · have e0 : (Rows.laid_internal_strconv_uint64pow10 : DataW Unit) = (.agg (([1, 10, 100, 1000, 10000, 100000, 1000000, 10000000, 100000000, 1000000000, 10000000000, 100000000000, 1000000000000, 10000000000000, 100000000000000, 1000000000000000, 10000000000000000, 100000000000000000, 1000000000000000000, 10000000000000000000] : List Int).map fun s => .lit (.int .u64 s)) : DataW Unit) := rfl
    rw [e0] at hd3
    rw [powT_eq]
    exact cells_nums Tryd.underlying107 Tryd.underlying22 (by kernel_rfl) (by kernel_rfl) hd3
  · have e0 : (Rows.laid_internal_strconv_pow10Tab : DataW Unit) = .agg (Pinned.pow10Rows.map fun x => .agg [.lit (.int .u64 x.1), .lit (.int .u64 x.2)]) := rfl
    rw [e0] at hd4
    exact cells_pairs Tryd.underlying117 Tryd.underlying116 rfl rfl rfl rfl Tryd.underlying22 (by kernel_rfl) (by kernel_rfl) (by kernel_rfl) hd4
def seedsC (l : List Seed) : List Seed :=
  (1, ⟨1, 0, false, 0, 0⟩, .cells none [.float .f64 9218868437227405312] 0) :: (2, ⟨2, 0, false, 0, 0⟩, .cells none [.bool true] 0) ::
  (3, ⟨3, 0, false, 0, 0⟩, .cells none powT 0) :: (4, ⟨4, 0, false, 0, 0⟩, .cells none p10 0) :: l
theorem seedsC_ok {W : World} (G : Given W) {l : List Seed} (hl : ∀ p ∈ l, SeedOk W (seedsC l) p) : ∀ p ∈ seedsC l, SeedOk W (seedsC l) p := by
  intro p hp
  obtain ⟨c1, v1, e1⟩ := G.inf
  obtain ⟨c2, v2, e2⟩ := G.opt
  obtain ⟨c3, v3, e3⟩ := G.pow
  obtain ⟨c4, v4, e4⟩ := G.tab
  unfold seedsC at hp
  simp only [List.mem_cons] at hp
  rcases hp with rfl | rfl | rfl | rfl | hp
  · exact seed_cells gInfN v1 e1 (var?_lt gInfN v1) (by decide) (fun v hv => by
      rw [List.mem_singleton.1 hv]; exact ⟨_, rfl, .float _ _⟩)
  · exact seed_cells gOptN v2 e2 (var?_lt gOptN v2) (by decide) (fun v hv => by
      rw [List.mem_singleton.1 hv]; exact ⟨_, rfl, .bool _⟩)
  · exact seed_cells gPowN v3 e3 (var?_lt gPowN v3) (by decide) (fun v hv => ⟨v, rfl, by
      obtain ⟨s, _, rfl⟩ := List.mem_map.1 hv
      exact .int _ _⟩)
  · exact seed_cells gTabN v4 e4 (var?_lt gTabN v4) (by kernel_rfl) (fun v hv => ⟨v, rfl, by
      obtain ⟨x, _, hx⟩ := List.mem_flatMap.1 hv
      simp only [List.mem_cons, List.not_mem_nil, or_false] at hx
      rcases hx with rfl | rfl <;> exact .int _ _⟩)
  · exact hl p hp
theorem seedsC_hI (l : List Seed) : HSub hI (heap0 (seedsC l)) := fun i b hi => by
  simp only [hI, seedsC, heap0, List.map_cons, AHeap.get_cons] at hi ⊢
  split at hi
  · rw [if_pos (by assumption)]; exact hi
  · rename_i h1
    rw [if_neg h1]
    split at hi
    · rw [if_pos (by assumption)]; exact hi
    · rename_i h2
      rw [if_neg h2]
      split at hi
      · rw [if_pos (by assumption)]; exact hi
      · rename_i h3
        rw [if_neg h3]
        split at hi
        · rw [if_pos (by assumption)]; exact hi
        · cases hi
theorem seedsC_wf {l : List Seed} {n : Nat} (hn : 5 ≤ n) (hl : WF (heap0 l) n) : WF (heap0 (seedsC l)) n := fun i hi => by
  have := hl i hi
  simp only [seedsC, heap0, List.map_cons, AHeap.get_cons] at this ⊢
  rw [if_neg (by omega), if_neg (by omega), if_neg (by omega), if_neg (by omega)]
  exact this
theorem seedsC_lt {l : List Seed} {n : Nat} (hn : 5 ≤ n) (hl : ∀ p ∈ l, p.1 < n) : ∀ p ∈ seedsC l, p.1 < n := fun p hp => by
  unfold seedsC at hp
  simp only [List.mem_cons] at hp
  rcases hp with rfl | rfl | rfl | rfl | hp
  · simp only; omega
  · simp only; omega
  · simp only; omega
  · simp only; omega
  · exact hl p hp
end Go.Proofs.YtkdpjaaohddppaaDoor
