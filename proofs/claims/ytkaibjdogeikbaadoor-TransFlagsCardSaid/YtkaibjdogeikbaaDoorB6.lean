/- The soundness of the operations of the abstract machine, part B6. -/
import Derived.Test.YtkaibjdogeikbaaDoorB5
namespace Go.Proofs.YtkaibjdogeikbaaDoor.Am
noncomputable section
open Go.RowKit (Below)

section
variable {P : Program} {G : Nat} {w0 : World} {φ : Phi} {T : TH} {w : World} {h : AHeap} {n : Nat} {σ : Fr} {ρ : Operand → Value}

theorem freeze_ne (w : World) (a : Addr) (m : Nat) {b : Nat} (h : b ≠ a.block) : (w.freeze a m).heap[b]? = w.heap[b]? := by
  unfold World.freeze
  split
  · rfl
  · simp only [Array.getElem?_modify]; rw [if_neg (by omega)]
theorem freeze_same {w : World} {a : Addr} {m : Nat} {c : Array Value} {e : TypeId} {fz : Nat × Nat} (h : w.heap[a.block]? = some (.cells c e fz)) : ∃ fz', (w.freeze a m).heap[a.block]? = some (.cells c e fz') := by
  unfold World.freeze
  split
  · exact ⟨fz, h⟩
  · simp only [Array.getElem?_modify, if_true, h, Option.map_some]
    exact ⟨_, rfl⟩
theorem freeze_size (w : World) (a : Addr) (m : Nat) : (w.freeze a m).heap.size = w.heap.size := by
  unfold World.freeze
  split <;> simp
theorem freeze_rest (w : World) (a : Addr) (m : Nat) : (w.freeze a m).os = w.os ∧ (w.freeze a m).tape = w.tape ∧ (w.freeze a m).output = w.output := by
  unfold World.freeze
  split <;> exact ⟨rfl, rfl, rfl⟩
theorem freeze_cell (w : World) (a p : Addr) (m : Nat) : (w.freeze a m).cell? p = w.cell? p := by
  by_cases h : p.block = a.block
  · simp only [World.cell?]
    rw [h]
    cases hx : w.heap[a.block]? with
    | none =>
      have : (w.freeze a m).heap[a.block]? = none := by
        unfold World.freeze
        split
        · exact hx
        · simp only [Array.getElem?_modify, if_true, hx, Option.map_none]
      rw [this]
    | some o =>
      cases o with
      | cells c e fz =>
        obtain ⟨fz', h'⟩ := freeze_same (m := m) hx
        rw [h']
      | _ =>
        have : (w.freeze a m).heap[a.block]? = w.heap[a.block]? := by
          unfold World.freeze
          split
          · rfl
          · simp only [Array.getElem?_modify, if_true, hx, Option.map_some]
        rw [this, hx]
  · simp only [World.cell?, freeze_ne w a m h]

theorem Sat.freeze (hs : Sat G w0 φ T w) {i g : Nat} {l : Loc} (hl : φ i g = some l) (ho : l.own = true) {own : Option Nat} {cs : List Value} {min : Nat} (hT : T i = some (.cells own cs min)) (o m : Nat) :
    Sat G w0 φ (T.put i (.cells none cs min)) (w.freeze ⟨l.block, o, none⟩ m) := by
  obtain ⟨hB, hoff, c, fz, hrow, hsize⟩ := hs.new i g l hl ho
  obtain ⟨r1, r2, r3⟩ := freeze_rest w ⟨l.block, o, none⟩ m
  refine ⟨hs.below.trans ⟨r1, r2, r3, by rw [freeze_size]; exact Nat.le_refl _, fun k hk => freeze_ne _ _ _ (by simp only; omega)⟩, hs.glob, hs.old, ?_, hs.apart, hs.uni, hs.fits, ?_⟩
  · intro j k p hp hpo
    obtain ⟨h1, h2, c', fz', h3, h4⟩ := hs.new j k p hp hpo
    by_cases hb : p.block = l.block
    · obtain ⟨fz2, h5⟩ := freeze_same (a := ⟨p.block, o, none⟩) (m := m) h3
      exact ⟨h1, h2, c', fz2, by rw [← hb]; exact h5, h4⟩
    · exact ⟨h1, h2, c', fz', by rw [freeze_ne _ _ _ hb]; exact h3, h4⟩
  · intro j b hb
    by_cases hj : i = j
    · subst hj
      rw [TH.put_same] at hb
      obtain rfl := Option.some.inj hb
      obtain ⟨h1, h2, h3, h4⟩ := hs.blk i _ hT
      refine ⟨h1, h2, h3, fun k p hp hk => ?_⟩
      obtain ⟨h5, _, h6⟩ := h4 k p hp hk
      refine ⟨h5, (fun t ht => by cases ht), fun q v hq hv => ?_⟩
      obtain ⟨u, hu, hr⟩ := h6 q v hq hv
      exact ⟨u, by rw [freeze_cell]; exact hu, hr⟩
    · rw [TH.put_ne _ _ hj] at hb
      refine (hs.blk j b hb).congr (.refl _) (fun _ _ x => x) (fun k p hp => freeze_ne _ _ _ fun hbb => hj ?_)
      exact hs.apart i g l j k p hl hp ho hbb.symm

theorem variables_run {u : TypeId} {b o m : Nat} {c : Array Value} {fz : Nat × Nat} {s : Nat} (hsz : sz P u = some s) (hs0 : 0 < s) (hd : 0 < P.depth) (hrow : w.heap[b]? = some (.cells c u fz)) (hmod : o % s = 0) (hfit : o / s + m ≤ c.size / s) :
    (variablesAt ⟨b, o, none⟩ u m).run P w = .ok true w := by
  have hc : P.cellsOf u = s := by simp only [sz] at hsz; simp only [Program.cellsOf, hsz, Option.getD_some]
  have hshape : w.shape? b = some (u, c.size) := by simp only [World.shape?, hrow]
  obtain ⟨d, hd'⟩ : ∃ d, P.depth = d + 1 := ⟨P.depth - 1, by omega⟩
  have hlies : liesAt P P.depth u (c.size / P.cellsOf u) o u m = true := by
    rw [hd']
    unfold liesAt
    rw [hd']
    have : rowAt P (fun x => sameLayout P (d + 1) x u) (d + 1) u (c.size / P.cellsOf u) o m = true := by
      unfold rowAt
      simp only [hc]
      rw [if_neg (by omega)]
      have hsl : sameLayout P (d + 1) u u = true := by unfold sameLayout; simp
      simp only [hmod, hsl, beq_self_eq_true, Bool.and_true, decide_eq_true hfit, Bool.true_or]
    rw [this]; rfl
  simp only [variablesAt, Sem.run_bind, run_program, Result.andThen_ok, run_shape, hshape, Sem.run_pure, hlies]

theorem run_loadBytes (b : Nat) : ∀ (us : List Value) (o : Nat) (acc : ByteArray) (l : List UInt8), bytesOf? us = some l → (∀ k u, us[k]? = some u → w.cell? ⟨b, o + k, none⟩ = some u) →
    (loadBytes ⟨b, o, none⟩ acc us.length).run P w = .ok ⟨acc.data ++ l.toArray⟩ w
  | [], o, acc, l, hb, h => by simp [bytesOf?] at hb; subst hb; simp [loadBytes]
  | u :: us, o, acc, l, hb, h => by
    obtain ⟨n, l', rfl, hl', rfl⟩ := bytesOf?_cons hb
    have h0 := h 0 (.int .u8 n) (by simp)
    simp only [Nat.add_zero] at h0
    have ih := run_loadBytes b us (o + 1) (acc.push (UInt8.ofNat n.toNat)) l' hl' (fun k u hu => by
      have := h (k + 1) u (by simpa using hu)
      rw [show o + 1 + k = o + (k + 1) from by omega]; exact this)
    simp only [List.length_cons, loadBytes, Sem.run_bind, run_load, h0, Result.andThen_ok, add_eq]
    rw [show n.toNat.toUInt8 = UInt8.ofNat n.toNat from rfl, ih]
    simp [ByteArray.push]

theorem bytesOf?_scalar {vs : List Value} {l : List UInt8} (h : bytesOf? vs = some l) : vs.all scalar = true := by
  induction vs generalizing l with
  | nil => rfl
  | cons v vs ih =>
    obtain ⟨n, l', rfl, hl', rfl⟩ := bytesOf?_cons h
    simp only [List.all_cons, scalar, Bool.true_and]
    exact ih hl'

theorem list_two {α : Type} {a : Array α} {f : α → Value} {x y : Value} (h : a.toList.map f = [x, y]) : a.map f = #[x, y] := by
  apply Array.toList_inj.1; simpa using h

theorem cXs_one {xs : List Operand} {x : X} (h : cXs xs = some [x]) : ∃ a, xs = [a] ∧ cX a = some x := by
  cases xs with
  | nil => simp [cXs] at h
  | cons a xs =>
    simp only [cXs] at h
    split at h
    · rename_i p q hp hq
      simp at h
      obtain ⟨rfl, rfl⟩ := h
      cases xs with
      | nil => exact ⟨a, rfl, hp⟩
      | cons b xs => simp only [cXs] at hq; split at hq <;> simp at hq
    · simp at h
theorem cXs_two {xs : List Operand} {x y : X} (h : cXs xs = some [x, y]) : ∃ a b, xs = [a, b] ∧ cX a = some x ∧ cX b = some y := by
  cases xs with
  | nil => simp [cXs] at h
  | cons a xs =>
    simp only [cXs] at h
    split at h
    · rename_i p q hp hq
      simp at h
      obtain ⟨rfl, rfl⟩ := h
      obtain ⟨b, rfl, hb⟩ := cXs_one hq
      exact ⟨a, b, rfl, hp, hb⟩
    · simp at h

theorem sliceData_def (ts : Array TypeId) (ty : TypeId) (a : Addr) (len c : Nat) (hc : c ≠ 0) : Builtin.unsafeSliceData_ ts ty #[.slice (some a) len c] = pure (.pointer (some a)) := by
  have : Builtin.unsafeSliceData_ ts ty #[.slice (some a) len c] = (do
    if c ≠ 0 then pure (.pointer (some a))
    else if (← viewAt a.block).isSome then pure (.pointer (some a))
    else pure (.pointer (some ⟨← newObj (.view a (← elemOf ty)), 0, none⟩))) := rfl
  rw [this, if_pos hc]
theorem unsafeStr_nil (ts : Array TypeId) (ty pt : TypeId) (h : ts[0]? = some pt) (k : IntKind) : (Builtin.unsafeString_ ts ty #[.pointer none, .int k 0]).run P w = .ok (.string .empty) w := by
  have : Builtin.unsafeString_ ts ty #[.pointer none, .int k 0] = (do
    let n ← asInt (.int k 0)
    let some _ := ts[0]? | stuck "unsafe.String: no argument types"
    if n < 0 then runtimePanic (.error "unsafe.String: len out of range")
    if n > IntKind.i64.max then unsupported (.unsafePointer "String: a length above the largest int")
    if n = 0 then pure (.string .empty)
    else runtimePanic (.error "unsafe.String: ptr is nil and len is not zero")) := rfl
  rw [this, h]
  have hmax : IntKind.i64.max = 9223372036854775807 := rfl
  simp [asInt, asIntOf, hmax]
theorem unsafeStr_some (ts : Array TypeId) (ty pt : TypeId) (h : ts[0]? = some pt) (a : Addr) (k : IntKind) (m : Int) (h0 : 0 < m) (hm : m ≤ 9223372036854775807) :
    (Builtin.unsafeString_ ts ty #[.pointer (some a), .int k m]).run P w = (do
    if ← variablesAt a (← elemOf pt) m.toNat then do
      let s ← loadBytes a .empty m.toNat
      freeze a m.toNat
      pure (Value.string s)
    else unsupported (.unsafePointer "String: not so many bytes at ptr") : Sem Value).run P w := by
  have : Builtin.unsafeString_ ts ty #[.pointer (some a), .int k m] = (do
    let n ← asInt (.int k m)
    let some pt := ts[0]? | stuck "unsafe.String: no argument types"
    if n < 0 then runtimePanic (.error "unsafe.String: len out of range")
    if n > IntKind.i64.max then unsupported (.unsafePointer "String: a length above the largest int")
    if n = 0 then pure (.string .empty)
    else if ← variablesAt a (← elemOf pt) n.toNat then do
      let s ← loadBytes a .empty n.toNat
      freeze a n.toNat
      pure (.string s)
    else unsupported (.unsafePointer "String: not so many bytes at ptr")) := rfl
  rw [this, h]
  have hmax : IntKind.i64.max = 9223372036854775807 := rfl
  have h1 : ¬ m < 0 := by omega
  have h2 : ¬ (9223372036854775807 : Int) < m := by omega
  have h3 : m ≠ 0 := by omega
  simp [asInt, asIntOf, hmax, h1, h2, h3]

theorem cBuiltin_sound (hs : Sat G w0 φ T w) (hh : Sub h T) (hG : G ≤ n) (hρ : RhoRel φ σ h ρ) {b : Builtin} {ts : Array TypeId} {args : Array Operand} {xs : List X} {t : TypeId} {consts : Array Bool} (hx : cXs args.toList = some xs)
    {a : AOp} (hc : cBuiltin P b ts xs = some a) {v : Value} {h' : AHeap} {n' : Nat} (ha : aev (X.ev σ h) h n a = some (v, h', n')) (hf : Fresh φ T n n') :
    OpDoes P G w0 φ T w h n (builtin b ts t consts (args.map ρ)) v h' n' := by
  unfold cBuiltin at hc
  split at hc
  · -- len
    rename_i x
    obtain ⟨o, ho, hox⟩ := cXs_one hx
    have hargs : args.map ρ = #[ρ o] := by apply Array.toList_inj.1; simp [ho]
    rw [hargs]
    have g0 : ∀ s : Nat, ts.size = s → 0 < s → ts[0]? = some (ts.getD 0 0) := fun s h1 h2 => by simp [h1, h2]
    split at hc
    · rename_i hu hsz
      simp at hc; subst hc
      simp only [aev] at ha
      split at ha
      · rename_i s hv
        simp at ha
        obtain ⟨rfl, rfl, rfl⟩ := ha
        have hr := hρ _ _ _ hox hv
        rw [hr.eq_of_scalar rfl]
        exact .of_value hs hh (by unfold Builtin.len_; simp only [g0 1 hsz (by omega), List.getElem?_toArray, List.getElem?_cons_zero, Sem.run_bind, run_underlying' hu, Result.andThen_ok, Sem.run_pure]; rfl) (.int _ _)
      · simp at ha
    · rename_i e hu hsz
      simp at hc; subst hc
      simp only [aev] at ha
      split at ha
      · rename_i ad len k hv
        simp at ha
        obtain ⟨rfl, rfl, rfl⟩ := ha
        have hr := hρ _ _ _ hox hv
        refine .of_value hs hh ?_ (.int _ _)
        generalize ρ o = u at hr
        cases hr <;> (unfold Builtin.len_; simp only [g0 1 hsz (by omega), List.getElem?_toArray, List.getElem?_cons_zero, Sem.run_bind, run_underlying' hu, Result.andThen_ok, Sem.run_pure]; rfl)
      · simp at ha
    · rename_i m e hu hsz
      simp at hc; subst hc
      simp only [aev] at ha
      simp at ha
      obtain ⟨rfl, rfl, rfl⟩ := ha
      exact .of_value hs hh (by unfold Builtin.len_; simp only [g0 1 hsz (by omega), List.getElem?_toArray, List.getElem?_cons_zero, Sem.run_bind, run_underlying' hu, Result.andThen_ok, Sem.run_pure]; rfl) (.int _ _)
    · rename_i pe hu hsz
      split at hc
      · rename_i m e hu2
        simp at hc; subst hc
        simp only [aev] at ha
        simp at ha
        obtain ⟨rfl, rfl, rfl⟩ := ha
        exact .of_value hs hh (by unfold Builtin.len_; simp only [g0 1 hsz (by omega), List.getElem?_toArray, List.getElem?_cons_zero, Sem.run_bind, run_underlying' hu, run_underlying' hu2, Result.andThen_ok, Sem.run_pure]; rfl) (.int _ _)
      · simp at hc
    · simp at hc
  · -- append
    rename_i x y
    obtain ⟨o1, o2, ho, hox, hoy⟩ := cXs_two hx
    have hargs : args.map ρ = #[ρ o1, ρ o2] := by apply Array.toList_inj.1; simp [ho]
    rw [hargs]
    split at hc
    · rename_i e d hu hu2 hsz
      split at hc
      · simp at hc
      · rename_i hd
        split at hc
        · rename_i i z hi hz
          split at hc
          · rename_i hpos
            simp at hc; subst hc
            simp only [aev] at ha
            split at ha
            · rename_i s x' hsv hxv
              obtain ⟨i', v0, hi', hv0, _, _, hsize⟩ := zeroCells?_spec hz
              rw [hi] at hi'
              obtain rfl := Option.some.inj hi'
              obtain ⟨u, φ', T', w', h1, h2, h3⟩ := append_sound (t := t) hs hh hG hu hu2 hsz (fun k hk => hd k hk) hi hv0 hsize hpos.1 hpos.2 ha hf (hρ _ _ _ hox hsv) (hρ _ _ _ hoy hxv)
              exact .of_new h1 h2 h3
            · simp at ha
          · simp at hc
        · simp at hc
    · simp at hc
  · -- copy
    rename_i x y
    obtain ⟨o1, o2, ho, hox, hoy⟩ := cXs_two hx
    have hargs : args.map ρ = #[ρ o1, ρ o2] := by apply Array.toList_inj.1; simp [ho]
    rw [hargs]
    split at hc
    · rename_i e hu hsz
      split at hc
      · rename_i s hss
        split at hc
        · simp at hc; subst hc
          simp only [aev] at ha
          split at ha
          · rename_i d x' hdv hxv
            obtain ⟨φ', T', w', h1, h2, h3⟩ := copy_sound (t := t) hs hh hu hsz hss ha (hρ _ _ _ hox hdv) (hρ _ _ _ hoy hxv)
            exact .of_new h1 (.of_scalar h3) h2
          · simp at ha
        · simp at hc
      · simp at hc
    · simp at hc
  · simp at hc; subst hc
    simp only [aev] at ha
    split at ha
    · rename_i vs hvs
      obtain ⟨v', hv', he⟩ := optmap ha
      simp only [Prod.mk.injEq] at he
      obtain ⟨rfl, rfl, rfl⟩ := he
      have hr := cXs_rel hρ hx hvs
      obtain ⟨h1, h2⟩ := min_sound (P := P) (w := w) (ts := ts) (t := t) hv' hr
      have hargs : args.map ρ = (args.toList.map ρ).toArray := by apply Array.toList_inj.1; simp
      rw [hargs]
      exact .of_value hs hh h1 (.of_scalar h2)
    · simp at ha
  · simp at hc; subst hc
    simp only [aev] at ha
    split at ha
    · rename_i vs hvs
      obtain ⟨v', hv', he⟩ := optmap ha
      simp only [Prod.mk.injEq] at he
      obtain ⟨rfl, rfl, rfl⟩ := he
      have hr := cXs_rel hρ hx hvs
      obtain ⟨h1, h2⟩ := max_sound (P := P) (w := w) (ts := ts) (t := t) hv' hr
      have hargs : args.map ρ = (args.toList.map ρ).toArray := by apply Array.toList_inj.1; simp
      rw [hargs]
      exact .of_value hs hh h1 (.of_scalar h2)
    · simp at ha
  · -- cap
    rename_i x
    obtain ⟨o, ho, hox⟩ := cXs_one hx
    have hargs : args.map ρ = #[ρ o] := by apply Array.toList_inj.1; simp [ho]
    rw [hargs]
    split at hc
    · rename_i e hu hsz
      have g0 : ts[0]? = some (ts.getD 0 0) := by simp [hsz]
      simp at hc; subst hc
      simp only [aev] at ha
      split at ha
      · rename_i hv
        simp at ha
        obtain ⟨rfl, rfl, rfl⟩ := ha
        have hr := hρ _ _ _ hox hv
        rw [hr.eq_of_scalar rfl]
        exact .of_value hs hh (by unfold Builtin.cap_; simp only [g0, List.getElem?_toArray, List.getElem?_cons_zero, Sem.run_bind, run_underlying' hu, Result.andThen_ok, Sem.run_pure]; rfl) (.int _ _)
      · rename_i ad len k hv
        split at ha
        · rename_i hodd
          simp at ha
          obtain ⟨rfl, rfl, rfl⟩ := ha
          have hr := hρ _ _ _ hox hv
          generalize ρ o = u at hr
          cases hr with
          | slice i o g n k l a c hl hn ha hk =>
            have hkc : k / 2 = c := by
              rcases hk with h | h | ⟨_, h, _⟩ <;> omega
            refine .of_value hs hh (u := .int .i64 (c : Int)) ?_ (by rw [← hkc]; exact .int _ _)
            unfold Builtin.cap_; simp only [g0, List.getElem?_toArray, List.getElem?_cons_zero, Sem.run_bind, run_underlying' hu, Result.andThen_ok, Sem.run_pure]; rfl
        · simp at ha
      · simp at ha
    · simp at hc
  · -- unsafe.SliceData
    rename_i x
    obtain ⟨o, ho, hox⟩ := cXs_one hx
    have hargs : args.map ρ = #[ρ o] := by apply Array.toList_inj.1; simp [ho]
    rw [hargs]
    simp at hc; subst hc
    simp only [aev] at ha
    split at ha
    · rename_i hv
      simp at ha
      obtain ⟨rfl, rfl, rfl⟩ := ha
      have hr := hρ _ _ _ hox hv
      rw [hr.eq_of_scalar rfl]
      exact .of_value hs hh rfl .ptrNil
    · rename_i ad len k hv
      split at ha
      · rename_i hpos
        simp at ha
        obtain ⟨rfl, rfl, rfl⟩ := ha
        have hr := hρ _ _ _ hox hv
        generalize ρ o = u at hr
        cases hr with
        | slice i o g n k l a c hl hn ha hk =>
          rcases ha with h | rfl
          · omega
          · refine .of_value hs hh (u := .pointer (some ⟨l.block, l.off + o, none⟩)) ?_ (.ptr _ _ _ _ hl)
            rw [sliceData_def _ _ _ _ _ (by omega)]; rfl
      · simp at ha
    · simp at ha
  · -- unsafe.String
    rename_i x y
    obtain ⟨o1, o2, ho, hox, hoy⟩ := cXs_two hx
    have hargs : args.map ρ = #[ρ o1, ρ o2] := by apply Array.toList_inj.1; simp [ho]
    rw [hargs]
    split at hc
    · rename_i e hu
      split at hc
      · rename_i hcond
        obtain ⟨hsz, hts, hdep⟩ := hcond
        have g0 : ts[0]? = some (ts.getD 0 0) := by simp [hts]
        simp at hc; subst hc
        simp only [aev] at ha
        split at ha
        · rename_i k hv hl
          simp at ha
          obtain ⟨rfl, rfl, rfl⟩ := ha
          refine .of_value (s := Builtin.unsafeString_ ts t #[ρ o1, ρ o2]) hs hh ?_ (.string _)
          rw [(hρ _ _ _ hox hv).eq_of_scalar rfl, (hρ _ _ _ hoy hl).eq_of_scalar rfl]
          exact unsafeStr_nil _ _ _ g0 _
        · rename_i i off g k m hv hl
          split at ha
          · rename_i ty cs min hget
            split at ha
            · rename_i hm
              obtain ⟨rfl, hm0, hmax⟩ := hm
              split at ha
              · rename_i vs hread
                split at ha
                · rename_i bl hbl
                  simp at ha
                  obtain ⟨rfl, rfl, rfl⟩ := ha
                  have hr := hρ _ _ _ hox hv
                  have hr2 := hρ _ _ _ hoy hl
                  rw [hr2.eq_of_scalar rfl]
                  generalize ρ o1 = u at hr
                  cases hr with
                  | ptr i off g lc hlc =>
                    obtain ⟨us, h1, h2, h3, _, h4⟩ := read_sound hs hh hread hlc
                    have hus : us = vs := h1.eq_of_scalars (bytesOf?_scalar hbl)
                    subst hus
                    have hb := hs.blk i _ (hh i _ hget)
                    obtain ⟨_, hmin, hall, hb⟩ := hb
                    have hgm : min ≤ g ∧ off + m.toNat ≤ g := by
                      unfold AHeap.read at hread
                      rw [hget] at hread
                      simp only at hread
                      split at hread
                      · rename_i hc; exact ⟨hc.1, hc.2.2⟩
                      · cases hread
                    obtain ⟨hg1, hown, _⟩ := hb g lc hlc hgm.1
                    obtain ⟨ho, hty, hunf⟩ := hown _ rfl
                    obtain ⟨hB, hoff, c, fz, hrow, hsize⟩ := hs.new i g lc hlc ho
                    rw [hty] at hrow
                    have hfit := hs.fits i g lc hlc ho
                    have hvar := variables_run (P := P) (o := lc.off + off) (m := m.toNat) hsz (by omega) hdep hrow (by omega) (by simp only [Nat.div_one]; omega)
                    have hload := run_loadBytes (P := P) (w := w) lc.block us (lc.off + off) ByteArray.empty bl hbl h4
                    rw [h2] at hload
                    have hsat := hs.freeze hlc ho (hh i _ hget) (lc.off + off) m.toNat
                    refine ⟨.value (.string ⟨bl.toArray⟩), .string ⟨bl.toArray⟩, φ, _, _, ?_, rfl, .string _, hsat, .refl _, fun j b hjb => ?_, fun j hj _ => ?_, fun _ _ hf => hf, Nat.le_refl _, dom_put hget⟩
                    · unfold builtin
                      simp only [Sem.run_bind]
                      rw [unsafeStr_some (P := P) ts t _ g0 ⟨lc.block, lc.off + off, none⟩ k m (by omega) (by omega)]
                      simp only [Sem.run_bind, elemOf, run_underlying' hu, Result.andThen_ok, Sem.run_pure, hvar, if_true, hload, run_freeze]
                      rw [show ByteArray.empty.data = #[] from rfl]
                      simp
                    · rw [AHeap.get_put] at hjb
                      split at hjb
                      · rename_i e; subst e; rw [TH.put_same]; exact hjb
                      · rename_i e; rw [TH.put_ne _ _ e]; exact hh _ _ hjb
                    · by_cases e : i = j
                      · subst e; rw [hget] at hj; cases hj
                      · exact TH.put_ne _ _ e
                · simp at ha
              · simp at ha
            · simp at ha
          · simp at ha
        · simp at ha
      · simp at hc
    · simp at hc
  · simp at hc

theorem cConv_sound (hs : Sat G w0 φ T w) (hh : Sub h T) (hG : G ≤ n) (hρ : RhoRel φ σ h ρ) {src dst : TypeId} {o : Operand} {x : X} (hx : cX o = some x) {a : AOp} (hc : cConv P src dst x = some a) {v : Value} {h' : AHeap} {n' : Nat}
    (ha : aev (X.ev σ h) h n a = some (v, h', n')) (hf : Fresh φ T n n') : OpDoes P G w0 φ T w h n (do Pure.pure (.value (← convert src dst (ρ o)))) v h' n' := by
  unfold cConv at hc
  split at hc
  · rename_i k0 k hu hu2
    simp at hc; subst hc
    simp only [aev] at ha
    split at ha
    · rename_i k1 m hv
      simp at ha
      obtain ⟨rfl, rfl, rfl⟩ := ha
      have hr := hρ _ _ _ hx hv
      rw [hr.eq_of_scalar rfl]
      exact .of_value hs hh (by simp [convert, run_underlying' hu, run_underlying' hu2, Conv.intToInt]) (.int _ _)
    · simp at ha
  · rename_i hu hu2
    simp at hc; subst hc
    simp only [aev] at ha
    split at ha
    · rename_i s hv
      simp at ha
      obtain ⟨rfl, rfl, rfl⟩ := ha
      have hr := hρ _ _ _ hx hv
      rw [hr.eq_of_scalar rfl]
      exact .of_value hs hh (by simp [convert, run_underlying' hu, run_underlying' hu2]) (.string _)
    · simp at ha
  · rename_i e hu hu2
    split at hc
    · rename_i z hu3 hz
      simp at hc; subst hc
      simp only [aev] at ha
      split at ha
      · rename_i s hv
        simp at ha
        obtain ⟨rfl, rfl, rfl⟩ := ha
        have hr := hρ _ _ _ hx hv
        rw [hr.eq_of_scalar rfl]
        obtain ⟨u, φ', T', w', h1, h2, h3⟩ := bytesOf_sound (P := P) (e := e) hs hh hG hf s
        exact .of_new (by simp [convert, run_underlying' hu, run_underlying' hu2, run_underlying' hu3, h1]) h2 h3
      · simp at ha
    · simp at hc
  · rename_i e hu hu2
    split at hc
    · rename_i hu3
      simp at hc; subst hc
      simp only [aev] at ha
      split at ha
      · rename_i hv
        simp at ha
        obtain ⟨rfl, rfl, rfl⟩ := ha
        have hr := hρ _ _ _ hx hv
        rw [hr.eq_of_scalar rfl]
        exact .of_value hs hh (by simp [convert, run_underlying' hu, run_underlying' hu2, run_underlying' hu3, Conv.bytesToString]) (.string _)
      · rename_i i o' g len k hv
        split at ha
        · rename_i vs hread
          split at ha
          · rename_i l hl
            simp at ha
            obtain ⟨rfl, rfl, rfl⟩ := ha
            have hr := hρ _ _ _ hx hv
            have := strOf_sound (P := P) hs hh hr hread hl
            refine .of_value hs hh (u := .string ⟨l.toArray⟩) ?_ (.string _)
            generalize ρ o = u at hr this
            cases hr with
            | slice => simp [convert, run_underlying' hu, run_underlying' hu2, run_underlying' hu3, this]
          · simp at ha
        · simp at ha
      · simp at ha
    · simp at hc
  · rename_i pt hu hu2
    split at hc
    · rename_i k hk
      by_cases hk0 : 0 < k
      case neg => rw [if_neg hk0] at hc; cases hc
      rw [if_pos hk0] at hc
      simp at hc; subst hc
      simp only [aev] at ha
      split at ha
      · rename_i hv
        simp at ha
        obtain ⟨rfl, rfl, rfl⟩ := ha
        have hr := hρ _ _ _ hx hv
        rw [hr.eq_of_scalar rfl]
        exact .of_value hs hh (by simp [convert, run_underlying' hu, run_underlying' hu2, Conv.unsafePointer]) .ptrNil
      · rename_i i o' g hv
        split at ha
        · rename_i vs hread
          simp at ha
          obtain ⟨rfl, rfl, rfl⟩ := ha
          have hr := hρ _ _ _ hx hv
          generalize ρ o = u at hr
          cases hr with
          | ptr i o' g lc hlc =>
            obtain ⟨us, h1, h2, h3, _, h4⟩ := read_sound hs hh hread hlc
            have hcell : ∃ u, w.cell? ⟨lc.block, lc.off + o', none⟩ = some u := by
              cases us with
              | nil => simp at h2
              | cons u us => exact ⟨u, by simpa using h4 0 u (by simp)⟩
            obtain ⟨u, hu'⟩ := hcell
            obtain ⟨c, e, fz, hrow, hlt⟩ : ∃ c e fz, w.heap[lc.block]? = some (.cells c e fz) ∧ lc.off + o' < c.size := by
              unfold World.cell? at hu'
              split at hu'
              · rename_i c e fz hrow
                simp only [Option.isSome_none, Bool.false_eq_true, if_false] at hu'
                exact ⟨c, e, fz, hrow, (Array.getElem?_eq_some_iff.1 hu').1⟩
              · cases hu'
            have hshape : w.shape? lc.block = some (e, c.size) := by simp only [World.shape?, hrow]
            refine .of_value hs hh (u := .pointer (some ⟨lc.block, lc.off + o', none⟩)) ?_ (.ptr _ _ _ _ hlc)
            simp only [convert, Sem.run_bind, run_underlying' hu, run_underlying' hu2, Result.andThen_ok, Conv.unsafePointer, Conv.seenAt, viewAt, run_shape, hshape, Option.isSome_some, if_true, Sem.run_pure, cellsIn, run_sizeOf' hk]
            rw [if_neg (by simp; omega)]
            rfl
        · simp at ha
      · simp at ha
    · simp at hc
  · rename_i pu hu hu2
    split at hc
    · rename_i s hk
      split at hc
      · rename_i hdep
        simp at hc; subst hc
        simp only [aev] at ha
        split at ha
        · rename_i hv
          simp at ha
          obtain ⟨rfl, rfl, rfl⟩ := ha
          have hr := hρ _ _ _ hx hv
          rw [hr.eq_of_scalar rfl]
          exact .of_value hs hh (by simp [convert, run_underlying' hu, run_underlying' hu2, Conv.unsafePointer]) .ptrNil
        · rename_i i o' g hv
          split at ha
          · rename_i t cs min hget
            split at ha
            · rename_i hcond
              obtain ⟨rfl, hmg, hmod, hs0, hfit⟩ := hcond
              simp at ha
              obtain ⟨rfl, rfl, rfl⟩ := ha
              have hr := hρ _ _ _ hx hv
              generalize ρ o = u at hr
              cases hr with
              | ptr i o' g lc hlc =>
                obtain ⟨_, hmin, hall, hb⟩ := hs.blk i _ (hh i _ hget)
                obtain ⟨hg1, hown, _⟩ := hb g lc hlc hmg
                obtain ⟨ho, hty, hunf⟩ := hown _ rfl
                obtain ⟨hB, hoff, c, fz, hrow, hsize⟩ := hs.new i g lc hlc ho
                rw [hty] at hrow
                have hfitg := hs.fits i g lc hlc ho
                have hshape : w.shape? lc.block = some (t, c.size) := by simp only [World.shape?, hrow]
                have hdiv : o' / s + 1 ≤ c.size / s := by
                  rw [← Nat.add_div_right _ hs0]; exact Nat.div_le_div_right (by omega)
                have hvar := variables_run (P := P) (o := lc.off + o') (m := 1) hk hs0 hdep hrow (by rw [hoff, Nat.zero_add]; exact hmod) (by rw [hoff, Nat.zero_add]; exact hdiv)
                refine .of_value hs hh (u := .pointer (some ⟨lc.block, lc.off + o', none⟩)) ?_ (.ptr _ _ _ _ hlc)
                simp only [convert, Sem.run_bind, run_underlying' hu, run_underlying' hu2, Result.andThen_ok, Conv.unsafePointer, Conv.seenAt, viewAt, run_shape, hshape, Option.isSome_some, if_true, Sem.run_pure, run_sizeOf' hk, hvar]
                rw [if_pos (by simp)]
                rfl
            · simp at ha
          · simp at ha
        · simp at ha
      · simp at hc
    · simp at hc
  · simp at hc

end
end
end Go.Proofs.YtkaibjdogeikbaaDoor.Am
