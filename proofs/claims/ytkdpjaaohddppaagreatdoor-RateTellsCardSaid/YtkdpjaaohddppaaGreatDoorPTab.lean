/- The statement proved (PTab). -/
import Derived.Test.YtkdpjaaohddppaaGreatDoorPArgs
import GoSem.PinnedTables
namespace Go.Proofs.YtkdpjaaohddppaaGreatDoor
open Go Go.Proofs.YtkdpjaaohddppaaGreatDoor.Am Go.ChangeShapes Go.WideShapes Go.RowKit
/- WHAT THE CONDITION GIVES FURTHER: the switch,the tables of powers and of cutoffs. -/
def f10N : List Nat := [4607182418800017408,4621819117588971520,4636737291354636288,4652007308841189376,4666723172467343360,4681608360884174848,4696837146684686336,4711630319722168320,4726483295884279808,4741671816366391296,4756540486875873280,4771362005757984768,4786511204640096256,4801453603149578240,4816244402031689728,4831355200913801216,4846369599423283200,4861130398305394688,4876203697187506176,4891288408196988160,4906019910204099648,4921056587992461136,4936209963552724370]
def f10L : List Value := f10N.flatMap fun b => [.float .f64 b]
def chkF : List Nat → Nat → Bool
  | [],_ => true
  | b :: l,i => decide (4607182418800017408 ≤ b) && decide (b ≤ 4936209963552724370) && (decide (15 < i) || decide (b ≤ 4831355200913801216)) && chkF l (i + 1)
theorem gInfN : Tryz.prog.globalNamed "toll/tolllaw11.inf" = some 1 := by kernel_rfl
theorem tInf : (Tryz.prog.globals[1]?).map (·.type) = some 23 := by kernel_rfl
theorem gOptN : Tryz.prog.globalNamed "internal/strconv.optimize" = some 5 := by kernel_rfl
theorem tOpt : (Tryz.prog.globals[5]?).map (·.type) = some 4 := by kernel_rfl
theorem gFinN : Tryz.prog.globalNamed "internal/strconv.float64info" = some 7 := by kernel_rfl
theorem tFin : (Tryz.prog.globals[7]?).map (·.type) = some 127 := by kernel_rfl
theorem gTabN : Tryz.prog.globalNamed "internal/strconv.pow10Tab" = some 14 := by kernel_rfl
theorem tTab : (Tryz.prog.globals[14]?).map (·.type) = some 176 := by kernel_rfl
theorem gPwtN : Tryz.prog.globalNamed "internal/strconv.powtab" = some 12 := by kernel_rfl
theorem tPwt : (Tryz.prog.globals[12]?).map (·.type) = some 45 := by kernel_rfl
theorem gF10N : Tryz.prog.globalNamed "internal/strconv.float64pow10" = some 13 := by kernel_rfl
theorem tF10 : (Tryz.prog.globals[13]?).map (·.type) = some 169 := by kernel_rfl
theorem gCutN : Tryz.prog.globalNamed "internal/strconv.leftcheats" = some 15 := by kernel_rfl
theorem tCut : (Tryz.prog.globals[15]?).map (·.type) = some 182 := by kernel_rfl
section
variable {H : Type} {enc : TypeId × Value → H} {P : Program} {w : World} {base : Nat} {sp : Nat → Bool} {held : Bool}
theorem cells_pairs {t e u n fuel : Nat} {f0 f1 : Field} {cs : List Value} {l : List (Nat × Nat)} {p : List MemPlace} (ht : P.underlying t = some (.array n e)) (he : P.underlying e = some (.struct #[f0,f1])) (h0 : f0.type = u) (h1 : f1.type = u) (o0 : f0.offset = 0) (o1 : f1.offset = 1) (hu : P.underlying u = some (.int .u64)) (hc : P.cellsOf e = 2) (hcu : P.cellsOf u = 1) (hct : P.cellsOf t = n * 2)
    (h : DataW.trod enc P w base sp held fuel t cs = some (.agg (l.map fun x => .agg [.lit (.int .u64 x.1), .lit (.int .u64 x.2)]),p)) : cs = l.flatMap fun x => [.int .u64 x.1, .int .u64 x.2] := by
  obtain ⟨xs,m,rfl,hx,hlen,hn,hel⟩ := DataW.trod_array ht h
  rw [hct] at hlen
  simp only [hc] at hel
  simp only [Prod.mk.injEq,DataW.agg.injEq] at hx
  have hl : l.length = n := by
    have := congrArg List.length hx.1
    simp at this
    omega
  have key : ∀ (k : Nat) (l' : List (Nat × Nat)),l' = l.drop k → k ≤ n → cs.drop (k * 2) = l'.flatMap fun x => [.int .u64 x.1, .int .u64 x.2] := by
    intro k l'
    induction l' generalizing k with
    | nil =>
      intro e hk
      have : l.length ≤ k := List.drop_eq_nil_iff.1 e.symm
      rw [List.drop_of_length_le (by omega)]; rfl
    | cons x l' ih =>
      intro e hk
      have hlt : k < l.length := by
        rcases Nat.lt_or_ge k l.length with h | h
        · exact h
        · rw [List.drop_of_length_le h] at e; cases e
      have e2 := List.drop_eq_getElem_cons hlt
      rw [← e] at e2
      injection e2 with e3 e4
      have h3 := hel k (by omega)
      rw [List.getElem?_eq_getElem (by omega)] at h3
      obtain ⟨y0,y1,m2,hy,hyl,d0,d1⟩ := ChangeShapes.trod_struct2 he h3
      rw [h0,o0,hcu,List.drop_zero] at d0
      rw [h1,o1,hcu] at d1
      obtain ⟨s0,a0,b0,_⟩ := DataW.trod_int hu d0
      obtain ⟨s1,a1,b1,_⟩ := DataW.trod_int hu d1
      have h4 : (l.map fun x => (DataW.agg [DataW.lit (Lit.int .u64 x.1), .lit (.int .u64 x.2)] : DataW H))[k]'(by simp; omega) = (xs.map (·.1))[k]'(by simp; omega) := by simp only [hx.1]
      simp only [List.getElem_map,hy,b0,b1,DataW.agg.injEq,List.cons.injEq,DataW.lit.injEq,Lit.int.injEq,true_and,and_true] at h4
      have hcl : k * 2 + 1 < cs.length := by omega
      have c1 : cs.drop (k * 2) = cs[k * 2] :: cs[k * 2 + 1] :: cs.drop ((k + 1) * 2) := by
        rw [List.drop_eq_getElem_cons (by omega),List.drop_eq_getElem_cons (by omega)]
        congr 3
        omega
      rw [c1] at a0 a1
      simp at a0 a1
      rw [← e3] at h4
      rw [c1,List.flatMap_cons,← ih (k + 1) e4 (by omega),a0,a1,← h4.1,← h4.2]
      rfl
  have := key 0 l rfl (Nat.zero_le _)
  simpa using this
end
theorem trod_f64 {H : Type} {enc : TypeId × Value → H} {P : Program} {w : World} {base : Nat} {sp : Nat → Bool} {held : Bool} {t : TypeId} {fuel : Nat} {cs : List Value} {b : Nat} {p : List MemPlace} (ht : P.underlying t = some (.float .f64)) (h : DataW.trod enc P w base sp held fuel t cs = some (.lit (.float .f64 b),p)) : cs = [.float .f64 b] := by
  cases fuel with
  | zero => simp [DataW.trod] at h
  | succ n =>
    unfold DataW.trod at h
    rw [ht] at h
    split at h <;> simp_all
structure Given2 (W : World) : Prop where
  inf : ∃ cs : Array Value, W.var? Tryz.prog "toll/tolllaw11.inf" = some cs ∧ cs.toList = [.float .f64 9218868437227405312]
  opt : ∃ cs : Array Value, W.var? Tryz.prog "internal/strconv.optimize" = some cs ∧ cs.toList = [.bool true]
  fin : ∃ cs : Array Value, W.var? Tryz.prog "internal/strconv.float64info" = some cs ∧ cs.toList = [.int .u64 52, .int .u64 11, .int .i64 (-1023)]
  tab : ∃ cs : Array Value, W.var? Tryz.prog "internal/strconv.pow10Tab" = some cs ∧ cs.toList = p10L
  pwt : SliceAt Tryz.prog W "internal/strconv.powtab" 9 pwL
  f10 : SliceAt Tryz.prog W "internal/strconv.float64pow10" 23 f10L
  cut : SliceAt Tryz.prog W "internal/strconv.leftcheats" 61 cutCells
theorem pwL_eq : pwL = ([1,3,6,9,13,16,19,23,26] : List Int).flatMap fun z => [.int .i64 z] := rfl
theorem cheat_eq : Pinned.cheatRows = (List.range 61).map fun k => (cutN k,cutT k) := by decide +kernel
theorem cut_eq : cutCells = Pinned.cheatRows.flatMap fun x => [.int .i64 (x.1 : Int), .string ⟨x.2.toArray⟩] := by
  simp only [cutCells,cheat_eq,List.flatMap_map]
theorem cheat_len : Pinned.cheatRows.length = 61 := by decide +kernel
theorem two_of {l : List Value} (h : l.length = 2) : ∃ a b,l = [a,b] := by
  match l,h with
  | [a,b],_ => exact ⟨_,_,rfl⟩
theorem three_of {l : List Value} (h : l.length = 3) : ∃ a b c,l = [a,b,c] := by
  match l,h with
  | [a,b,c],_ => exact ⟨_,_,_,rfl⟩
theorem given2_of {W : World} (h : laidMetH Tryz.prog laidC W) : Given2 W := by
  rw [MakeChecks.laidMetH_plain _ _ _ (by kernel_rfl)] at h
  have hInf := h.filter (fun x => x.1 == "toll/tolllaw11.inf")
  rw [show laidC.filter (fun x => x.1 == "toll/tolllaw11.inf") = [("toll/tolllaw11.inf", Rows.laid_toll_tolllaw11_inf)] by kernel_rfl] at hInf
  have hOpt := h.filter (fun x => x.1 == "internal/strconv.optimize")
  rw [show laidC.filter (fun x => x.1 == "internal/strconv.optimize") = [("internal/strconv.optimize", Rows.laid_internal_strconv_optimize)] by kernel_rfl] at hOpt
  have hFin := h.filter (fun x => x.1 == "internal/strconv.float64info")
  rw [show laidC.filter (fun x => x.1 == "internal/strconv.float64info") = [("internal/strconv.float64info", Rows.laid_internal_strconv_float64info)] by kernel_rfl] at hFin
  have hTab := h.filter (fun x => x.1 == "internal/strconv.pow10Tab")
  rw [show laidC.filter (fun x => x.1 == "internal/strconv.pow10Tab") = [("internal/strconv.pow10Tab", Rows.laid_internal_strconv_pow10Tab)] by kernel_rfl] at hTab
  have hPwt := h.filter (fun x => x.1 == "internal/strconv.powtab")
  rw [show laidC.filter (fun x => x.1 == "internal/strconv.powtab") = [("internal/strconv.powtab", Rows.laid_internal_strconv_powtab)] by kernel_rfl] at hPwt
  have hF10 := h.filter (fun x => x.1 == "internal/strconv.float64pow10")
  rw [show laidC.filter (fun x => x.1 == "internal/strconv.float64pow10") = [("internal/strconv.float64pow10", Rows.laid_internal_strconv_float64pow10)] by kernel_rfl] at hF10
  have hCut := h.filter (fun x => x.1 == "internal/strconv.leftcheats")
  rw [show laidC.filter (fun x => x.1 == "internal/strconv.leftcheats") = [("internal/strconv.leftcheats", Rows.laid_internal_strconv_leftcheats)] by kernel_rfl] at hCut
  obtain ⟨_, ⟨g0, t0, cs0, f0, p0, q0, hg0, ht0, hv0, hd0, _, e0⟩, _, _⟩ := hInf
  obtain rfl := Option.some.inj (gInfN.symm.trans hg0)
  obtain rfl := Option.some.inj (tInf.symm.trans ht0)
  obtain ⟨_, ⟨g1, t1, cs1, f1, p1, q1, hg1, ht1, hv1, hd1, _, e1⟩, _, _⟩ := hOpt
  obtain rfl := Option.some.inj (gOptN.symm.trans hg1)
  obtain rfl := Option.some.inj (tOpt.symm.trans ht1)
  obtain ⟨_, ⟨g2, t2, cs2, f2, p2, q2, hg2, ht2, hv2, hd2, _, e2⟩, _, _⟩ := hFin
  obtain rfl := Option.some.inj (gFinN.symm.trans hg2)
  obtain rfl := Option.some.inj (tFin.symm.trans ht2)
  obtain ⟨_, ⟨g3, t3, cs3, f3, p3, q3, hg3, ht3, hv3, hd3, _, e3⟩, _, _⟩ := hTab
  obtain rfl := Option.some.inj (gTabN.symm.trans hg3)
  obtain rfl := Option.some.inj (tTab.symm.trans ht3)
  have ePwt : (Rows.laid_internal_strconv_powtab : DataW Unit) = .slice (([1, 3, 6, 9, 13, 16, 19, 23, 26] : List Int).map fun z => .lit (.int .i64 z)) [] := rfl
  have eF10 : (Rows.laid_internal_strconv_float64pow10 : DataW Unit) = .slice (f10N.map fun b => .lit (.float .f64 b)) [] := rfl
  have eCut : (Rows.laid_internal_strconv_leftcheats : DataW Unit) = .slice (Pinned.cheatRows.map fun x => .agg [.lit (.int .i64 x.1), .lit (.string x.2)]) [] := rfl
  rw [ePwt] at hPwt
  rw [eF10] at hF10
  rw [eCut] at hCut
  refine ⟨⟨cs0, hv0, ?_⟩, ⟨cs1, hv1, ?_⟩, ⟨cs2, hv2, ?_⟩, ⟨cs3, hv3, ?_⟩, ?_, ?_, ?_⟩
  · exact trod_f64 Tryz.underlying23 hd0
  · have e0 : (Rows.laid_internal_strconv_optimize : DataW Unit) = .lit (.bool true) := rfl
    rw [e0] at hd1
    obtain ⟨b, hb, hx⟩ := DataW.trod_bool Tryz.underlying4 hd1
    injection hx with hx1 hx2
    injection hx1 with hx3
    injection hx3 with hx4
    rw [hb, ← hx4]
  · have e0 : (Rows.laid_internal_strconv_float64info : DataW Unit) = .agg [.lit (.int .u64 52), .lit (.int .u64 11), .lit (.int .i64 (-1023))] := rfl
    rw [e0] at hd2
    obtain ⟨xs, n, _, hx, hl, hxl, hx2⟩ := DataW.trod_struct Tryz.underlying127 hd2
    have hl3 : cs2.toList.length = 3 := hl.trans (by kernel_rfl)
    match xs, hxl with
    | [y0, y1, y2], _ =>
      have a0 := hx2 0 _ rfl
      have a1 := hx2 1 _ rfl
      have a2 := hx2 2 _ rfl
      obtain ⟨z0, b0, c0, _⟩ := DataW.trod_int Tryz.underlying83 a0
      have b0 : (cs2.toList.drop 0).take (Tryz.prog.cellsOf 83) = [.int .u64 z0] := b0
      obtain ⟨z1, b1, c1, _⟩ := DataW.trod_int Tryz.underlying83 a1
      have b1 : (cs2.toList.drop 1).take (Tryz.prog.cellsOf 83) = [.int .u64 z1] := b1
      obtain ⟨z2, b2, c2, _⟩ := DataW.trod_int Tryz.underlying3 a2
      have b2 : (cs2.toList.drop 2).take (Tryz.prog.cellsOf 3) = [.int .i64 z2] := b2
      simp only [List.map_cons, List.map_nil, Prod.mk.injEq, DataW.agg.injEq, List.cons.injEq, and_true] at hx
      obtain ⟨⟨d0, d1, d2⟩, _⟩ := hx
      rw [c0] at d0; rw [c1] at d1; rw [c2] at d2
      simp only [DataW.lit.injEq, Lit.int.injEq, true_and] at d0 d1 d2
      subst d0 d1 d2
      obtain ⟨u0, u1, u2, hcs⟩ := three_of hl3
      rw [hcs] at b0 b1 b2 ⊢
      have k0 : Tryz.prog.cellsOf 83 = 1 := by kernel_rfl
      have k1 : Tryz.prog.cellsOf 3 = 1 := by kernel_rfl
      simp only [k0, k1, List.drop_zero, List.drop_succ_cons, List.take_succ_cons, List.take_zero, List.cons.injEq, and_true] at b0 b1 b2
      rw [b0, b1, b2]
  · have e0 : (Rows.laid_internal_strconv_pow10Tab : DataW Unit) = .agg (Pinned.pow10Rows.map fun x => .agg [.lit (.int .u64 x.1), .lit (.int .u64 x.2)]) := rfl
    rw [e0] at hd3
    exact cells_pairs Tryz.underlying176 Tryz.underlying175 rfl rfl rfl rfl Tryz.underlying22 (by kernel_rfl) (by kernel_rfl) (by kernel_rfl) hd3
  · rw [pwL_eq]
    refine slice_at (k := 1) hPwt gPwtN tPwt Tryz.underlying45 (by kernel_rfl) (by decide) (by decide) (fun _ _ => rfl) fun _ hd => ?_
    obtain ⟨z, h1, h2, _⟩ := DataW.trod_int Tryz.underlying3 hd
    simp only [Prod.mk.injEq, DataW.lit.injEq, Lit.int.injEq, true_and] at h2
    rw [h1, h2.1]
  · refine slice_at (k := 1) hF10 gF10N tF10 Tryz.underlying169 (by kernel_rfl) (by decide) (by decide) (fun _ _ => rfl) fun _ hd => ?_
    exact trod_f64 Tryz.underlying23 hd
  · rw [cut_eq]
    have hsl := slice_at (D := fun x : Nat × List UInt8 => (.agg [.lit (.int .i64 x.1), .lit (.string x.2)] : DataW Unit)) (f := fun x => [.int .i64 (x.1 : Int), .string ⟨x.2.toArray⟩]) (k := 2) hCut gCutN tCut Tryz.underlying182 (by kernel_rfl) (by decide) (by rw [cheat_len]; decide) (fun _ _ => rfl) fun {_ cs _ x _ _ _ _} _ hd => by
     obtain ⟨y0, y1, m, hx, hl, a0, a1⟩ := ChangeShapes.trod_struct2 Tryz.underlying181 hd
     have hl2 : cs.length = 2 := hl.trans (by kernel_rfl)
     obtain ⟨z, b0, c0, _⟩ := DataW.trod_int Tryz.underlying3 a0
     obtain ⟨s, b1, c1, _⟩ := DataW.trod_string Tryz.underlying9 a1
     simp only [Prod.mk.injEq, DataW.agg.injEq, List.cons.injEq, and_true] at hx
     obtain ⟨⟨d0, d1⟩, _⟩ := hx
     rw [c0] at d0; rw [c1] at d1
     simp only [DataW.lit.injEq, Lit.int.injEq, Lit.string.injEq, true_and] at d0 d1
     obtain ⟨u0, u1, rfl⟩ := two_of hl2
     have k0 : Tryz.prog.cellsOf 9 = 1 := by kernel_rfl
     have k1 : Tryz.prog.cellsOf 3 = 1 := by kernel_rfl
     simp only [k0, k1, List.drop_zero, List.drop_succ_cons, List.take_succ_cons, List.take_zero, List.cons.injEq, and_true] at b0 b1
     rw [b0, b1, d0, d1]
    rw [cheat_len] at hsl
    exact hsl
end Go.Proofs.YtkdpjaaohddppaaGreatDoor
