/- The abstract memory and its operations, part A8: what a run of the model does is bounded by what an abstract machine does. -/
import Derived.Test.YtkaibjdogeikbaaDoorA7
namespace Go.Proofs.YtkaibjdogeikbaaDoor.Am
noncomputable section
open Go.RowKit (Below)

section
variable {P : Program} {G : Nat} {w0 : World} {φ : Phi} {T : TH} {w : World} {h : AHeap} {n : Nat} {σ : Fr} {ρ : Operand → Value}

/- ---------------------------------------------------------------- strings and slices, cut -/

theorem sliceStr_sound (hρ : RhoRel φ σ h ρ) {t : TypeId} (ht : P.underlying t = some .string) {s : ByteArray} {lo hi : Option Operand} {lo' hi' : Option X} {l u : Nat} (hlo : cOpt lo = some lo')
    (hhi : cOpt hi = some hi') (hb : aBounds (X.ev σ h) s.size lo' hi' = some (l, u)) :
    (Instr.sliceAt t (.string s) (lo.map ρ) (hi.map ρ) none).run P w = .ok (.string (s.extract l u)) w := by
  have hb' := (bounds_sound (P := P) (w := w) hρ hlo hhi hb (Nat.le_refl _) false).1
  simp only [Instr.sliceAt, Instr.slice, Sem.run_bind, run_underlying' ht, Result.andThen_ok, Option.isSome_none, Bool.false_eq_true, if_false, hb', Sem.run_pure]

theorem sliceArr_sound (hρ : RhoRel φ σ h ρ) {t e : TypeId} {len s : Nat} (ht : P.underlying t = some (.array len e)) (hs : sz P e = some s) {i o g : Nat} {a : Value} (ha : VRel φ (.pointer (some ⟨i, o, some g⟩)) a)
    {lo hi : Option Operand} {lo' hi' : Option X} {l u : Nat} (hlo : cOpt lo = some lo') (hhi : cOpt hi = some hi') (hb : aBounds (X.ev σ h) len lo' hi' = some (l, u)) :
    ∃ v, (Instr.sliceAt t a (lo.map ρ) (hi.map ρ) none).run P w = .ok v w ∧ VRel φ (.slice (some ⟨i, o + l * s, some g⟩) (u - l) (2 * (len - l) + 1)) v := by
  cases ha with
  | ptr i o g lc hl =>
    obtain ⟨hb', h1, h2⟩ := bounds_sound (P := P) (w := w) hρ hlo hhi hb (Nat.le_refl _) false
    refine ⟨_, by simp only [Instr.sliceAt, Sem.run_bind, run_underlying' ht, Result.andThen_ok, Instr.sureAddr, Sem.run_pure, hb', run_sizeOf' hs]; rfl, ?_⟩
    refine VRel.slice i (o + l * s) g (u - l) _ lc _ (len - l) hl (by omega) ?_ (.inr (.inl rfl))
    by_cases hc : len = l
    · left; omega
    · right; rw [if_neg hc, add_eq]; congr 1; omega

theorem slice_sound (hρ : RhoRel φ σ h ρ) {t e : TypeId} {s : Nat} (ht : P.underlying t = some (.slice e)) (hsz : sz P e = some s) {i o g len k : Nat} {a : Value}
    (ha : VRel φ (.slice (some ⟨i, o, some g⟩) len k) a) {lo hi : Option Operand} {lo' hi' : Option X} {l u : Nat} (hlo : cOpt lo = some lo') (hhi : cOpt hi = some hi')
    (hb : aBounds (X.ev σ h) len lo' hi' = some (l, u)) :
    ∃ v, (Instr.sliceAt t a (lo.map ρ) (hi.map ρ) none).run P w = .ok v w ∧
      VRel φ (.slice (some ⟨i, o + l * s, some g⟩) (u - l) (if k % 2 = 1 then k - 2 * l else if k = 2 * s then k else 0)) v := by
  cases ha with
  | slice i o g len k lc a c hl hn ha hk =>
    obtain ⟨hb', h1, h2⟩ := bounds_sound (P := P) (w := w) hρ hlo hhi hb hn true
    refine ⟨_, by simp only [Instr.sliceAt, Instr.slice, Sem.run_bind, run_underlying' ht, Result.andThen_ok, Sem.run_pure, hb', run_sizeOf' hsz]; rfl, ?_⟩
    have hrel : ∀ a', (c - l = 0 ∨ a' = ⟨lc.block, lc.off + (o + l * s), none⟩) → VRel φ (.slice (some ⟨i, o + l * s, some g⟩) (u - l) (if k % 2 = 1 then k - 2 * l else if k = 2 * s then k else 0)) (.slice (some a') (u - l) (c - l)) := by
      intro a' ha'
      refine VRel.slice i (o + l * s) g (u - l) _ lc a' (c - l) hl (by omega) ha' ?_
      split
      · rename_i hodd
        rcases hk with hk | hk | ⟨e', hk, _⟩
        · omega
        · right; left; omega
        · omega
      · split
        · rename_i hs'
          rcases hk with hk | hk | ⟨e', hke, ho, hfit⟩
          · left; exact hk
          · omega
          · right; right
            have he : e' = s := by omega
            subst he
            refine ⟨e', hke, ho, ?_⟩
            have : l * e' + (c - l) * e' = c * e' := by rw [← Nat.add_mul]; congr 1; omega
            omega
        · left; rfl
    by_cases hc : c = l
    · rw [if_pos hc]; exact hrel _ (.inl (by omega))
    · rw [if_neg hc]
      refine hrel _ ?_
      by_cases h0 : c - l = 0
      · exact .inl h0
      · right
        rcases ha with ha | ha
        · omega
        · subst ha; show Addr.add _ _ = _; rw [add_eq]; congr 1; omega

theorem slice_nil_sound (hρ : RhoRel φ σ h ρ) {t e : TypeId} {s : Nat} (ht : P.underlying t = some (.slice e)) (hsz : sz P e = some s) {lo hi : Option Operand} {lo' hi' : Option X} {l u : Nat} (hlo : cOpt lo = some lo')
    (hhi : cOpt hi = some hi') (hb : aBounds (X.ev σ h) 0 lo' hi' = some (l, u)) :
    (Instr.sliceAt t (.slice none 0 0) (lo.map ρ) (hi.map ρ) none).run P w = .ok (.slice none 0 0) w := by
  obtain ⟨hb', h1, h2⟩ := bounds_sound (P := P) (w := w) hρ hlo hhi hb (Nat.le_refl _) true
  have hl0 : l = 0 := by omega
  have hu0 : u = 0 := by omega
  subst hl0; subst hu0
  simp [Instr.sliceAt, Instr.slice, run_underlying' ht, hb', run_sizeOf' hsz]

theorem slice3_sound (hρ : RhoRel φ σ h ρ) {t e : TypeId} {s : Nat} (ht : P.underlying t = some (.slice e)) (hsz : sz P e = some s) {i o g len k : Nat} {a : Value}
    (ha : VRel φ (.slice (some ⟨i, o, some g⟩) len k) a) {lo : Option Operand} {hi mx : Operand} {lo' : Option X} {hi' mx' : X} {l u m : Nat} (hlo : cOpt lo = some lo') (hhi : cX hi = some hi') (hmx : cX mx = some mx')
    (hm : (X.ev σ h mx').bind (aBound len) = some m) (hb : aBounds (X.ev σ h) m lo' (some hi') = some (l, u)) :
    ∃ v, (Instr.sliceAt t a (lo.map ρ) (some (ρ hi)) (some (ρ mx))).run P w = .ok v w ∧ VRel φ (.slice (some ⟨i, o + l * s, some g⟩) (u - l) (2 * (m - l) + 1)) v := by
  cases ha with
  | slice i o g len k lc a c hl hn ha hk =>
    simp only [Option.bind_eq_some_iff] at hm
    obtain ⟨mv, hmv, hm⟩ := hm
    obtain ⟨hm1, hm2⟩ := bound_sound (P := P) (w := w) (code := .slice3Acap) hm (hρ _ _ _ hmx hmv) hn
    unfold aBounds at hb
    split at hb
    · simp at hb
    · rename_i u' hu
      split at hb
      · simp at hb
      · rename_i l' hl'
        simp at hb
        obtain ⟨rfl, rfl⟩ := hb
        simp only [Option.bind_eq_some_iff] at hu
        obtain ⟨hv, hhv, hu⟩ := hu
        obtain ⟨h1, h2⟩ := bound_sound (P := P) (w := w) (code := .slice3B) hu (hρ _ _ _ hhi hhv) (Nat.le_refl _)
        have h3 : (match (lo.map ρ) with | some v => Instr.sliceBound v u' .slice3C | none => Pure.pure 0 : Sem Nat).run P w = .ok l' w ∧ l' ≤ u' := by
          rcases cOpt_spec hlo with ⟨rfl, rfl⟩ | ⟨a, b, rfl, rfl, hab⟩
          · simp at hl'; subst hl'; exact ⟨rfl, Nat.zero_le _⟩
          · simp only [Option.bind_eq_some_iff] at hl'
            obtain ⟨v, hv, hl'⟩ := hl'
            exact bound_sound hl' (hρ _ _ _ hab hv) (Nat.le_refl _)
        have hbnd : (Instr.sliceBounds true len c (lo.map ρ) (some (ρ hi)) (some (ρ mx))).run P w = .ok (l', u', m) w := by
          unfold Instr.sliceBounds
          have h3' := h3.1
          cases hlo'' : lo.map ρ with
          | none => rw [hlo''] at h3'; simp at h3'; subst h3'; simp [hm1, h1]
          | some v => rw [hlo''] at h3'; simp only at h3'; simp [hm1, h1, h3']
        refine ⟨_, by simp only [Instr.sliceAt, Instr.slice, Sem.run_bind, run_underlying' ht, Result.andThen_ok, Sem.run_pure, hbnd, run_sizeOf' hsz]; rfl, ?_⟩
        have hrel : ∀ a', (m - l' = 0 ∨ a' = ⟨lc.block, lc.off + (o + l' * s), none⟩) → VRel φ (.slice (some ⟨i, o + l' * s, some g⟩) (u' - l') (2 * (m - l') + 1)) (.slice (some a') (u' - l') (m - l')) := by
          intro a' ha'
          exact VRel.slice i (o + l' * s) g (u' - l') _ lc a' (m - l') hl (by omega) ha' (.inr (.inl rfl))
        by_cases hc : m = l'
        · rw [if_pos hc]; exact hrel _ (.inl (by omega))
        · rw [if_neg hc]
          refine hrel _ ?_
          by_cases h0 : m - l' = 0
          · exact .inl h0
          · right
            rcases ha with ha | ha
            · omega
            · subst ha; show Addr.add _ _ = _; rw [add_eq]; congr 1; omega

/- ---------------------------------------------------------------- addresses, parts -/

theorem fieldAddr_sound {t : TypeId} {fs : Array Field} {f s : Nat} {fd : Field} (ht : P.underlying t = some (.struct fs)) (hf : fs[f]? = some fd) (hsz : sz P fd.type = some (s + 1)) {i o g : Nat} {a : Value}
    (ha : VRel φ (.pointer (some ⟨i, o, some g⟩)) a) : ∃ v, (Instr.fieldAt t a f).run P w = .ok v w ∧ VRel φ (.pointer (some ⟨i, o + fd.offset, some g⟩)) v := by
  cases ha with
  | ptr i o g lc hl =>
    refine ⟨.pointer (some ⟨lc.block, lc.off + (o + fd.offset), none⟩), ?_, .ptr _ _ _ _ hl⟩
    simp [Instr.fieldAt, run_underlying' ht, hf, Instr.sureAddr, fieldPlace, run_sizeOf' hsz, add_eq, Nat.add_assoc]

theorem part_sound {t : TypeId} {m : Option Nat} (hm : aggSize P t = some m) {cs ds : Array Value} (hr : VRel φ (.agg cs) (.agg ds)) {off : Nat} {v : Value} (hv : aPart cs off m = some v) :
    ∃ u, (part t ds off).run P w = .ok u w ∧ VRel φ v u := by
  obtain ⟨d, i, hd, hi, hm'⟩ := aggSize_spec hm
  have hr' := hr.cells
  simp only [Value.cells] at hr'
  cases hb : isAggD d with
  | false =>
    rw [hb] at hm'; simp at hm'; subst hm'
    simp only [aPart] at hv
    obtain ⟨u, hu, hvu⟩ := hr'.get (i := off) (v := v) (by simpa using hv)
    refine ⟨u, ?_, hvu⟩
    have : ds[off]? = some u := by simpa using hu
    simp [part, run_isAgg' hd, hb, this]
  | true =>
    rw [hb] at hm'; simp at hm'; subst hm'
    simp only [aPart, Option.some.injEq] at hv
    subst hv
    have hsz : sz P t = some i.size := by simp [sz, hi]
    refine ⟨.agg (ds.extract off (off + i.size)), by simp [part, run_isAgg' hd, hb, run_sizeOf' hsz], VRels.agg ?_ ?_⟩
    rotate_left
    · have := hr.oneCells rfl
      simp only [Value.cells, List.all_eq_true] at this ⊢
      simp only [Array.toList_extract, List.extract_eq_take_drop]
      exact fun v hv => this v (List.mem_of_mem_drop (List.mem_of_mem_take hv))
    have := (hr'.drop off).take i.size
    simp only [Array.toList_extract, List.extract_eq_take_drop, Nat.add_sub_cancel_left]
    exact this

theorem indexAddr_sound {t e : TypeId} {s : Nat} (ht : P.underlying t = some (.slice e)) (hsz : sz P e = some s) {i o g len k : Nat} {a x : Value} {kd : IntKind} {ix : Int} (ha : VRel φ (.slice (some ⟨i, o, some g⟩) len k) a)
    (hx : VRel φ (.int kd ix) x) (h1 : 0 ≤ ix) (h2 : ix < len) : ∃ v, (Instr.indexAt t a x).run P w = .ok v w ∧ VRel φ (.pointer (some ⟨i, o + ix.toNat * s, some g⟩)) v := by
  cases hx
  cases ha with
  | slice i o g len k lc a c hl hn ha hk =>
    rcases ha with rfl | rfl
    · omega
    · refine ⟨.pointer (some ⟨lc.block, lc.off + (o + ix.toNat * s), none⟩), ?_, .ptr _ _ _ _ hl⟩
      simp [Instr.indexAt, asIntOf, run_underlying' ht, h1, h2, run_sizeOf' hsz, add_eq, Nat.add_assoc]

theorem indexArr_sound {t e : TypeId} {s len : Nat} (ht : P.underlying t = some (.array len e)) (hsz : sz P e = some s) {i o g : Nat} {a x : Value} {kd : IntKind} {ix : Int} (ha : VRel φ (.pointer (some ⟨i, o, some g⟩)) a)
    (hx : VRel φ (.int kd ix) x) (h1 : 0 ≤ ix) (h2 : ix < len) : ∃ v, (Instr.indexAt t a x).run P w = .ok v w ∧ VRel φ (.pointer (some ⟨i, o + ix.toNat * s, some g⟩)) v := by
  cases hx
  cases ha with
  | ptr i o g lc hl =>
    refine ⟨.pointer (some ⟨lc.block, lc.off + (o + ix.toNat * s), none⟩), ?_, .ptr _ _ _ _ hl⟩
    simp [Instr.indexAt, asIntOf, run_underlying' ht, Instr.sureAddr, h1, h2, run_sizeOf' hsz, add_eq, Nat.add_assoc]

theorem index_sound {t e : TypeId} {s len : Nat} {m : Option Nat} (ht : P.underlying t = some (.array len e)) (hsz : sz P e = some s) (hm : aggSize P e = some m) {cs : Array Value} {a x : Value} {kd : IntKind} {ix : Int}
    (ha : VRel φ (.agg cs) a) (hx : VRel φ (.int kd ix) x) (h1 : 0 ≤ ix) (h2 : ix < len) {v : Value} (hv : aPart cs (ix.toNat * s) m = some v) :
    ∃ u, (Instr.index t a x).run P w = .ok u w ∧ VRel φ v u := by
  cases hx
  have hcs : ∃ ds, a = .agg ds := by cases ha; exact ⟨_, rfl⟩
  obtain ⟨ds, rfl⟩ := hcs
  obtain ⟨u, hu, hr⟩ := part_sound (P := P) (w := w) hm ha hv
  refine ⟨u, ?_, hr⟩
  simp [Instr.index, asIntOf, run_underlying' ht, h1, h2, run_sizeOf' hsz, hu]

theorem indexStr_sound {t : TypeId} (ht : P.underlying t = some .string) {s : ByteArray} {kd : IntKind} {ix : Int} (h1 : 0 ≤ ix) {b : UInt8} (hb : s[ix.toNat]? = some b) :
    (Instr.index t (.string s) (.int kd ix)).run P w = .ok (.int .u8 (b.toNat : Int)) w := by
  simp [Instr.index, asIntOf, run_underlying' ht, h1, hb]

end
end
end Go.Proofs.YtkaibjdogeikbaaDoor.Am
