/- Contracts of the program's functions (X3). -/
import Derived.Test.YtkaibjdogeikbaaDoorX2
namespace Go.Proofs.YtkaibjdogeikbaaDoor.Am
noncomputable section
/- CONTRACTS of package cut: Cutter. -/
def cutB (v : Value) (at' e : Nat) : Blk := .cells (some 125) [v, .int .i64 (at' : Int), .int .i64 (e : Int), .bool true] 4
/-- What is not the block p stays. -/
def Keep (p : Nat) (h h' : AHeap) : Prop := ∀ i b, i ≠ p → h.get i = some b → h'.get i = some b
theorem Keep.refl (p : Nat) (h : AHeap) : Keep p h h := fun _ _ _ x => x
theorem Keep.trans {p : Nat} {a b c : AHeap} (x : Keep p a b) (y : Keep p b c) : Keep p a c := fun i d hi hd => y i d hi (x i d hi hd)
theorem Keep.of {p : Nat} {h h' : AHeap} (x : HSub h h') : Keep p h h' := fun i b _ hb => x i b hb
theorem Keep.put (p : Nat) (h : AHeap) (b : Blk) : Keep p h (h.put p b) := fun i d hi hd => by rw [AHeap.get_put_ne _ _ hi.symm]; exact hd
theorem Keep.new {p : Nat} {h h' : AHeap} (x : Keep p h h') {n i : Nat} (hw : WF h n) (hi : n ≤ i) (b : Blk) : Keep p h (h'.put i b) := fun j d hj hd => by
  rw [AHeap.get_put_ne _ _ (by have := hw.lt hd; omega)]; exact x j d hj hd
theorem read_keep {p : Nat} {h h' : AHeap} (x : Keep p h h') {i g o m : Nat} {vs : List Value} (hi : i ≠ p) (hr : h.read i g o m = some vs) : h'.read i g o m = some vs := by
  unfold AHeap.read at hr ⊢
  cases hg : h.get i with
  | none => rw [hg] at hr; cases hr
  | some b => rw [hg] at hr; rw [x i b hi hg]; exact hr
/-- Bytes that lie apart from the block p. -/
inductive BSn (h : AHeap) (p : Nat) : Value → List UInt8 → Prop
  | nil : BSn h p (.slice none 0 0) []
  | mk {q k : Nat} {L : List UInt8} (hq : q ≠ p) (hr : h.read q L.length 0 L.length = some (u8s L)) : BSn h p (.slice (some ⟨q, 0, some L.length⟩) L.length k) L
theorem BSn.keep {p : Nat} {h h' : AHeap} (x : Keep p h h') {v : Value} {L : List UInt8} (hv : BSn h p v L) : BSn h' p v L := by
  cases hv with
  | nil => exact .nil
  | mk hq hr => exact .mk hq (read_keep x hq hr)
structure CS where
  at' : Nat
  e : Nat
def takeS (L : List UInt8) (s : CS) (m : Nat) : CS := if s.e ≠ 0 then s else if s.at' + m ≤ L.length then ⟨s.at' + m, 0⟩ else ⟨s.at', 4⟩
def takeB (L : List UInt8) (s : CS) (m : Nat) : List UInt8 := if s.e ≠ 0 then [] else if s.at' + m ≤ L.length then (L.drop s.at').take m else []
theorem err_ret {h : AHeap} {n p : Nat} {v : Value} {a e : Nat} (hp : h.get p = some (cutB v a e)) : Ret EV07 52 [.pointer (some ⟨p, 0, some 4⟩)] h n (.int .i64 (e : Int)) [] n := by
  refine rsx52 (by simp) (by simp) ?_
  unfold cutB at hp
  simp -dsimp (discharger := omega) [B52]
  with_reducible refine inl71 ?_
  simp -dsimp (discharger := omega) [B71, AHeap.read_of hp, HSub.refl]
theorem left_ret {h : AHeap} {n p : Nat} {v : Value} {L : List UInt8} {s : CS} (hp : h.get p = some (cutB v s.at' s.e)) (hv : BSn h p v L) (hat : s.at' ≤ L.length) (hL : L.length < 1000000) :
    Ret EV07 72 [.pointer (some ⟨p, 0, some 4⟩)] h n (.int .i64 (if s.e = 0 then (L.length - s.at' : Nat) else 0 : Nat)) [] n := by
  refine rsx72 (by simp) (by simp) ?_
  simp -dsimp (discharger := omega) [B72]
  with_reducible refine call_ret (err_ret hp) ?_
  unfold cutB at hp
  by_cases he : s.e = 0
  · have hs : ((s.at' : Int)) ≤ (L.length : Int) := by omega
    rw [he]
    rcases hv with _ | ⟨hq, hr⟩
    · simp -dsimp (discharger := omega) [AHeap.read_of hp, HSub.refl]
      simp at hat; omega
    · simp -dsimp (discharger := omega) [AHeap.read_of hp, HSub.refl]
      omega
  · have : ((s.e : Int) != 0) = true := by simp; omega
    simp -dsimp (discharger := omega) [this, he, HSub.refl]
theorem fail_ret {h : AHeap} {n p : Nat} {v : Value} {a e x : Nat} {xi : Int} (hxi : xi = (x : Int)) (hp : h.get p = some (cutB v a e)) :
    Ret EV07 53 [.pointer (some ⟨p, 0, some 4⟩), .int .i64 xi] h n (.tuple #[]) [(p, cutB v a (if e = 0 then x else e))] n := by
  refine rsx53 (by simp) (by simp [hp]) ?_
  subst hxi
  unfold cutB at hp
  simp -dsimp (discharger := omega) [B53]
  with_reducible refine inl71 ?_
  simp -dsimp (discharger := omega) [B71, AHeap.read_of hp]
  by_cases he : e = 0
  · subst he
    simp -dsimp (discharger := omega) [hp, cutB]
    exact .refl _
  · have : ((e : Int) == 0) = false := by simp; omega
    simp -dsimp (discharger := omega) [this, he, cutB]
    exact .ofE (.left (.inr hp) (.refl _ _))
theorem take_err {h : AHeap} {n p m : Nat} {mi : Int} (hmi : mi = (m : Int)) {v : Value} {s : CS} (hp : h.get p = some (cutB v s.at' s.e)) (he : s.e ≠ 0) :
    Ret EV07 54 [.pointer (some ⟨p, 0, some 4⟩), .int .i64 mi] h n (.slice none 0 0) [] n := by
  refine rsx54 (by simp) (by simp) ?_
  have : ((s.e : Int) != 0) = true := by simp; omega
  simp -dsimp (discharger := omega) [B54]
  with_reducible refine call_ret (err_ret hp) ?_
  simp -dsimp (discharger := omega) [this, HSub.refl]
theorem take_short {h : AHeap} {n p m : Nat} {mi : Int} (hmi : mi = (m : Int)) (hm : m < 1000000) {v : Value} {L : List UInt8} {s : CS} (hp : h.get p = some (cutB v s.at' s.e)) (hv : BSn h p v L) (hat : s.at' ≤ L.length) (hL : L.length < 1000000) (he : s.e = 0) (hsh : L.length < s.at' + m) :
    Ret EV07 54 [.pointer (some ⟨p, 0, some 4⟩), .int .i64 mi] h n (.slice none 0 0) [(p, cutB v s.at' 4)] n := by
  refine rsx54 (by simp) (by simp [hp]) ?_
  subst hmi
  simp -dsimp (discharger := omega) [B54]
  with_reducible refine call_ret (err_ret hp) ?_
  have hs : ((s.at' : Int)) ≤ (L.length : Int) := by omega
  simp -dsimp (discharger := omega) [he]
  with_reducible refine call_ret (left_ret hp hv hat hL) ?_
  simp -dsimp (discharger := omega) [he]
  with_reducible refine call_ret (fail_ret (x := 4) rfl hp) ?_
  simp -dsimp (discharger := omega) [he]
  exact .refl _
theorem take_ok {h : AHeap} {n p m q k : Nat} {mi : Int} (hmi : mi = (m : Int)) (hm : m < 1000000) {L : List UInt8} {s : CS} (hp : h.get p = some (cutB (.slice (some ⟨q, 0, some L.length⟩) L.length k) s.at' s.e)) (hq : q ≠ p) (hr : h.read q L.length 0 L.length = some (u8s L)) (hw : WF h n) (hL : L.length < 1000000) (he : s.e = 0) (hsh : s.at' + m ≤ L.length) :
    Ret EV07 54 [.pointer (some ⟨p, 0, some 4⟩), .int .i64 mi] h n (.slice (some ⟨n, 0, some ((L.drop s.at').take m).length⟩) ((L.drop s.at').take m).length 2) [(p, cutB (.slice (some ⟨q, 0, some L.length⟩) L.length k) (s.at' + m) 0), (n, bufB ((L.drop s.at').take m) 0)] (n + 1) := by
  have hpn := hw.lt hp
  refine rsx54 (by simp; omega) (by simp [hp]) ?_
  subst hmi
  simp -dsimp (discharger := omega) [B54]
  with_reducible refine call_ret (err_ret hp) ?_
  simp -dsimp (discharger := omega) [he]
  with_reducible refine call_ret (left_ret hp (.mk hq hr) (by omega) hL) ?_
  unfold cutB at hp
  have hr2 := read_keep (.put p h (.cells (some 125) [.slice (some ⟨q, 0, some L.length⟩) L.length k, .int .i64 ((s.at' : Int) + (m : Int)), .int .i64 0, .bool true] 4)) hq hr
  simp -dsimp (discharger := omega) [he, AHeap.read_of hp, hp]
  have hlen : ((L.drop s.at').take m).length = m := by simp; omega
  have e1 : ((s.at' : Int) + (m : Int)).toNat - s.at' = ((L.drop s.at').take m).length := by omega
  rw [e1]
  have hr3 := read_sub hr2 (a := s.at') (b := m) (by omega)
  rw [u8s_drop, u8s_take, Nat.zero_add] at hr3
  with_reducible refine ret_ret (clone_ret (vs := (L.drop s.at').take m) (by rw [hlen]; exact hr3) (hw.put _ (by omega) (by omega)) (by omega)) ?_
  simp -dsimp (discharger := omega) []
  exact .eq (by simp [cutB])
theorem take_nil {h : AHeap} {n p m : Nat} {mi : Int} (hmi : mi = (m : Int)) (hm : m < 1000000) {s : CS} (hp : h.get p = some (cutB (.slice none 0 0) s.at' s.e)) (he : s.e = 0) (hsh : s.at' + m ≤ 0) :
    Ret EV07 54 [.pointer (some ⟨p, 0, some 4⟩), .int .i64 mi] h n (.slice none 0 0) [(p, cutB (.slice none 0 0) (s.at' + m) 0)] n := by
  obtain ⟨sa, se⟩ := s
  simp only at hp he hsh
  obtain rfl : m = 0 := by omega
  obtain rfl : sa = 0 := by omega
  subst he
  refine rsx54 (by simp) (by simp [hp]) ?_
  subst hmi
  simp -dsimp (discharger := omega) [B54]
  with_reducible refine call_ret (err_ret hp) ?_
  simp -dsimp (discharger := omega) []
  with_reducible refine call_ret (left_ret (s := ⟨0, 0⟩) hp .nil (Nat.le_refl _) (by simp)) ?_
  unfold cutB at hp
  simp -dsimp (discharger := omega) [AHeap.read_of hp, hp]
  with_reducible refine ret_ret (clone_nil _ _) ?_
  simp -dsimp (discharger := omega) []
  exact .eq (by simp [cutB])
/-- New bytes, at the block i. -/
inductive NewB (h : AHeap) (i : Nat) : Value → List UInt8 → Prop
  | nil : NewB h i (.slice none 0 0) []
  | mk {bs : List UInt8} (hi : h.get i = some (bufB bs 0)) : NewB h i (.slice (some ⟨i, 0, some bs.length⟩) bs.length 2) bs
theorem NewB.bs {h : AHeap} {i : Nat} {u : Value} {bs : List UInt8} (x : NewB h i u bs) : BS h u bs := by
  cases x with
  | nil => exact .nil
  | mk hi => exact .mk (by unfold bufB at hi; rw [AHeap.read_of hi]; simp)
theorem NewB.keep {h h' : AHeap} {p i : Nat} {u : Value} {bs : List UInt8} (x : NewB h i u bs) (k : Keep p h h') (hi : i ≠ p) : NewB h' i u bs := by
  cases x with
  | nil => exact .nil
  | mk hg => exact .mk (k i _ hi hg)
theorem take_call {h : AHeap} {n p m : Nat} {mi : Int} (hmi : mi = (m : Int)) (hm : m < 1000000) {v : Value} {L : List UInt8} {s : CS} (hp : h.get p = some (cutB v s.at' s.e)) (hv : BSn h p v L) (hw : WF h n) (hat : s.at' ≤ L.length) (hL : L.length < 1000000)
    {Q : Value → AHeap → Nat → Prop} {tk : Tok Q} (k : ∀ u h', h'.get p = some (cutB v (takeS L s m).at' (takeS L s m).e) → Keep p h h' → WF h' (n + 1) → (takeS L s m).at' ≤ L.length → NewB h' n u (takeB L s m) → Q u h' (n + 1)) : HasCallT EV07 54 [.pointer (some ⟨p, 0, some 4⟩), .int .i64 mi] h n Q tk := by
  have hpn := hw.lt hp
  by_cases he : s.e = 0
  · by_cases hc : s.at' + m ≤ L.length
    · have e1 : takeS L s m = ⟨s.at' + m, 0⟩ := by simp [takeS, he, hc]
      have e2 : takeB L s m = (L.drop s.at').take m := by simp [takeB, he, hc]
      rw [e1, e2] at k
      rcases hv with _ | @⟨q, kk, _, hq, hr⟩
      · have e3 : List.take m (List.drop s.at' ([] : List UInt8)) = [] := by simp
        rw [e3] at k
        refine call_ret (Ret.mono (n' := n + 1) (take_nil hmi hm hp he hc) (by omega)) (k _ _ ?_ (.put p h _) ?_ hc .nil)
        · simp
        · exact hw.put _ (by omega) (by omega)
      · refine call_ret (take_ok hmi hm hp hq hr hw hL he hc) (k _ _ ?_ ?_ ?_ hc ?_)
        · simp; intro e; omega
        · exact (Keep.put p h _).new hw (Nat.le_refl n) _
        · exact (hw.put (m := n + 1) _ (by omega) (by omega)).put _ (by omega) (by omega)
        · exact .mk (by simp)
    · have e1 : takeS L s m = ⟨s.at', 4⟩ := by simp [takeS, he, hc]
      have e2 : takeB L s m = [] := by simp [takeB, hc]
      rw [e1, e2] at k
      refine call_ret (Ret.mono (n' := n + 1) (take_short hmi hm hp hv hat hL he (by omega)) (by omega)) (k _ _ ?_ (.put p h _) ?_ hat .nil)
      · simp
      · exact hw.put _ (by omega) (by omega)
  · have e1 : takeS L s m = s := by simp [takeS, he]
    have e2 : takeB L s m = [] := by simp [takeB, he]
    rw [e1, e2] at k
    exact call_ret (Ret.mono (n' := n + 1) (take_err hmi hp he) (by omega)) (k _ _ hp (.refl p h) (hw.mono (by omega)) hat .nil)
end
end Go.Proofs.YtkaibjdogeikbaaDoor.Am
namespace Go.Proofs.YtkaibjdogeikbaaDoor.Am
noncomputable section
/- CONTRACTS of package cut: numbers. -/
theorem or_u32 {x y : Nat} (hx : x < 4294967296) (hy : y < 4294967296) : orI .u32 (x : Int) (y : Int) = ((x ||| y : Nat) : Int) := by
  have hlt : x ||| y < 2 ^ 32 := Nat.or_lt_two_pow hx hy
  have e : (BitVec.ofInt 32 (x : Int) ||| BitVec.ofInt 32 (y : Int)).toNat = x ||| y := by
    rw [BitVec.toNat_or, BitVec.ofInt_natCast, BitVec.ofInt_natCast, BitVec.toNat_ofNat, BitVec.toNat_ofNat, Nat.mod_eq_of_lt hx, Nat.mod_eq_of_lt hy]
  have e2 : orI .u32 (x : Int) (y : Int) = IntKind.u32.wrap ((BitVec.ofInt 32 (x : Int) ||| BitVec.ofInt 32 (y : Int)).toNat : Int) := rfl
  rw [e2, e]
  simp (discharger := omega) []
theorem step_u32 {a x : Nat} (ha : a < 16777216) (hx : x < 256) : orI .u32 (shlI .u32 (a : Int) 8) (x : Int) = ((256 * a + x : Nat) : Int) := by
  have e : shlI .u32 (a : Int) 8 = ((a * 256 : Nat) : Int) := by
    have : shlI .u32 (a : Int) 8 = IntKind.u32.wrap ((a : Int) * 256) := rfl
    rw [this]
    simp (discharger := omega) []
  rw [e, or_u32 (by omega) (by omega)]
  have := Nat.two_pow_add_eq_or_of_lt (i := 8) hx a
  rw [show a * 256 = 2 ^ 8 * a by omega, ← this]
def numL (bs : List UInt8) : Nat := bs.foldl (fun a b => 256 * a + b.toNat) 0
theorem numL_take {bs : List UInt8} {i : Nat} (hi : i < bs.length) : numL (bs.take (i + 1)) = 256 * numL (bs.take i) + bs[i].toNat := by
  rw [List.take_succ_eq_append_getElem hi, numL, List.foldl_append]; rfl
theorem numL_lt (bs : List UInt8) : ∀ i, i ≤ bs.length → numL (bs.take i) < 256 ^ i
  | 0, _ => by simp [numL]
  | i + 1, hi => by
    have h := numL_lt bs i (by omega)
    have h2 := bs[i].toNat_lt
    rw [numL_take (by omega), Nat.pow_succ]
    omega
def NumInv (bs : List UInt8) (u : Value) (h0 : AHeap) (n0 : Nat) (m : Nat) (σ : Fr) (h : AHeap) (n : Nat) : Prop :=
  h = h0 ∧ n = n0 ∧ ∃ i, i + m = bs.length ∧ σ = [(5, .int .u32 ((numL (bs.take i) : Nat) : Int)), (10, u), (11, .int .i64 (bs.length : Int)), (12, .int .i64 (i : Int))]
def NumPost (bs : List UInt8) (h0 : AHeap) (n0 : Nat) (e : Ex) (σ' : Fr) (h' : AHeap) (n' : Nat) : Prop :=
  h' = h0 ∧ n' = n0 ∧ e = .exit 0 ∧ σ'.get 5 = some (.int .u32 ((numL bs : Nat) : Int))
theorem num_loop {bs : List UInt8} (hl : bs.length ≤ 4) {u : Value} {h0 : AHeap} (hu : BS h0 u bs) (n0 : Nat) :
    ∀ (m : Nat) (σ : Fr) (h : AHeap) (n : Nat), NumInv bs u h0 n0 m σ h n → HasCode EV07 (.loop F68L0) σ h n (NumPost bs h0 n0) := by
  refine wx_inv _ fun m σ h n hI => ?_
  obtain ⟨rfl, rfl, i, hi, rfl⟩ := hI
  cases m with
  | zero =>
    obtain rfl : i = bs.length := by omega
    simp -dsimp (discharger := omega) [F68L0]
    exact ⟨rfl, rfl, rfl, by simp⟩
  | succ m =>
    have hlt : i < bs.length := by omega
    cases hu with
    | nil => simp at hlt
    | @mk q o g k _ hr =>
      have hrd := read_one hr (u8s_get? (List.getElem?_eq_getElem hlt)) hlt
      have hx := bs[i].toNat_lt
      have hn := numL_lt bs i (by omega)
      have hn2 : 256 ^ i ≤ 256 ^ 3 := Nat.pow_le_pow_right (by omega) (by omega)
      have hst := step_u32 (a := numL (bs.take i)) (x := bs[i].toNat) (by omega) hx
      rw [← numL_take hlt] at hst
      simp -dsimp (discharger := omega) [F68L0, hrd, hst]
      exact .mk' m (by omega) [(5, .int .u32 ((numL (bs.take (i + 1)) : Nat) : Int)), (10, _), (11, .int .i64 (bs.length : Int)), (12, .int .i64 ((i + 1 : Nat) : Int))] _ (by simp) (.refl _) ⟨rfl, rfl, i + 1, by omega, rfl⟩
theorem takeB_len (L : List UInt8) (s : CS) (m : Nat) : (takeB L s m).length ≤ m := by
  unfold takeB
  split
  · simp
  · split <;> simp <;> omega
theorem two_call {h : AHeap} {n p : Nat} {v : Value} {L : List UInt8} {s : CS} (hp : h.get p = some (cutB v s.at' s.e)) (hv : BSn h p v L) (hw : WF h n) (hat : s.at' ≤ L.length) (hL : L.length < 1000000)
    {Q : Value → AHeap → Nat → Prop} {tk : Tok Q} (k : ∀ h', h'.get p = some (cutB v (takeS L s 2).at' (takeS L s 2).e) → Keep p h h' → WF h' (n + 1) → (takeS L s 2).at' ≤ L.length → Q (.int .u16 ((numL (takeB L s 2) : Nat) : Int)) h' (n + 1)) : HasCallT EV07 49 [.pointer (some ⟨p, 0, some 4⟩)] h n Q tk := by
  with_reducible refine inl49 ?_
  simp -dsimp (discharger := omega) [B49]
  with_reducible refine inl68 ?_
  simp -dsimp (discharger := omega) [B68]
  refine take_call (m := 2) rfl (by omega) hp hv hw hat hL ?_
  intro u h' h1 h2 h3 h4 h5
  have h5 := h5.bs
  have hlen := takeB_len L s 2
  have hnum := numL_lt (takeB L s 2) (takeB L s 2).length (Nat.le_refl _)
  rw [List.take_length] at hnum
  have hnum2 : numL (takeB L s 2) < 65536 := Nat.lt_of_lt_of_le hnum (Nat.le_trans (Nat.pow_le_pow_right (by omega) hlen) (by decide : 256 ^ 2 ≤ 65536))
  have hk := k h' h1 h2 h3 h4
  generalize takeB L s 2 = bs at h5 hlen hnum2 hk
  obtain ⟨ii, kk, hu⟩ := h5.shape
  have hul : aElems h' 1 u = some (bs.length, u8s bs) := h5.elems
  rw [hu]
  simp -dsimp (discharger := omega) []
  refine loop_use (num_loop (bs := bs) (by omega) h5 (n + 1) bs.length _ _ _ ⟨rfl, rfl, 0, by omega, rfl⟩) (by simp [hu, numL]) (.refl _) ?_
  rintro e σ' h'' n'' ⟨rfl, rfl, rfl, g5⟩
  simp -dsimp (discharger := omega) [g5]
  exact hk
theorem four_call {h : AHeap} {n p : Nat} {v : Value} {L : List UInt8} {s : CS} (hp : h.get p = some (cutB v s.at' s.e)) (hv : BSn h p v L) (hw : WF h n) (hat : s.at' ≤ L.length) (hL : L.length < 1000000)
    {Q : Value → AHeap → Nat → Prop} {tk : Tok Q} (k : ∀ h', h'.get p = some (cutB v (takeS L s 4).at' (takeS L s 4).e) → Keep p h h' → WF h' (n + 1) → (takeS L s 4).at' ≤ L.length → Q (.int .u32 ((numL (takeB L s 4) : Nat) : Int)) h' (n + 1)) : HasCallT EV07 50 [.pointer (some ⟨p, 0, some 4⟩)] h n Q tk := by
  with_reducible refine inl50 ?_
  simp -dsimp (discharger := omega) [B50]
  with_reducible refine inl69 ?_
  simp -dsimp (discharger := omega) [B69]
  refine take_call (m := 4) rfl (by omega) hp hv hw hat hL ?_
  intro u h' h1 h2 h3 h4 h5
  have h5 := h5.bs
  have hlen := takeB_len L s 4
  have hnum := numL_lt (takeB L s 4) (takeB L s 4).length (Nat.le_refl _)
  rw [List.take_length] at hnum
  have hnum2 : numL (takeB L s 4) < 4294967296 := Nat.lt_of_lt_of_le hnum (Nat.le_trans (Nat.pow_le_pow_right (by omega) hlen) (by decide : 256 ^ 4 ≤ 4294967296))
  have hk := k h' h1 h2 h3 h4
  generalize takeB L s 4 = bs at h5 hlen hnum2 hk
  obtain ⟨ii, kk, hu⟩ := h5.shape
  have hul : aElems h' 1 u = some (bs.length, u8s bs) := h5.elems
  rw [hu]
  simp -dsimp (discharger := omega) []
  refine loop_use (num_loop (bs := bs) (by omega) h5 (n + 1) bs.length _ _ _ ⟨rfl, rfl, 0, by omega, rfl⟩) (by simp [hu, numL]) (.refl _) ?_
  rintro e σ' h'' n'' ⟨rfl, rfl, rfl, g5⟩
  simp -dsimp (discharger := omega) [g5]
  exact hk
theorem byte_call {h : AHeap} {n p : Nat} {v : Value} {L : List UInt8} {s : CS} (hp : h.get p = some (cutB v s.at' s.e)) (hv : BSn h p v L) (hw : WF h n) (hat : s.at' ≤ L.length) (hL : L.length < 1000000)
    {Q : Value → AHeap → Nat → Prop} {tk : Tok Q} (k : ∀ h', h'.get p = some (cutB v (takeS L s 1).at' (takeS L s 1).e) → Keep p h h' → WF h' (n + 1) → (takeS L s 1).at' ≤ L.length → Q (.int .u8 ((numL (takeB L s 1) : Nat) : Int)) h' (n + 1)) : HasCallT EV07 51 [.pointer (some ⟨p, 0, some 4⟩)] h n Q tk := by
  with_reducible refine inl51 ?_
  simp -dsimp (discharger := omega) [B51]
  with_reducible refine inl70 ?_
  simp -dsimp (discharger := omega) [B70]
  refine take_call (m := 1) rfl (by omega) hp hv hw hat hL ?_
  intro u h' h1 h2 h3 h4 h5
  have h5 := h5.bs
  have hlen := takeB_len L s 1
  have hnum := numL_lt (takeB L s 1) (takeB L s 1).length (Nat.le_refl _)
  rw [List.take_length] at hnum
  have hnum2 : numL (takeB L s 1) < 256 := Nat.lt_of_lt_of_le hnum (Nat.le_trans (Nat.pow_le_pow_right (by omega) hlen) (by decide : 256 ^ 1 ≤ 256))
  have hk := k h' h1 h2 h3 h4
  generalize takeB L s 1 = bs at h5 hlen hnum2 hk
  obtain ⟨ii, kk, hu⟩ := h5.shape
  have hul : aElems h' 1 u = some (bs.length, u8s bs) := h5.elems
  rw [hu]
  simp -dsimp (discharger := omega) []
  refine loop_use (num_loop (bs := bs) (by omega) h5 (n + 1) bs.length _ _ _ ⟨rfl, rfl, 0, by omega, rfl⟩) (by simp [hu, numL]) (.refl _) ?_
  rintro e σ' h'' n'' ⟨rfl, rfl, rfl, g5⟩
  simp -dsimp (discharger := omega) [g5]
  exact hk
end
end Go.Proofs.YtkaibjdogeikbaaDoor.Am
namespace Go.Proofs.YtkaibjdogeikbaaDoor.Am
noncomputable section
/- CONTRACTS of package cut: New, Rest. -/
theorem new_call {h : AHeap} {n : Nat} {b : Value} {L : List UInt8} (hb : BS h b L) (hw : WF h n) (hL : L.length < 1000000)
    {Q : Value → AHeap → Nat → Prop} {tk : Tok Q} (k : ∀ p v h', n ≤ p → p < n + 2 → h'.get p = some (cutB v 0 0) → BSn h' p v L → HSub h h' → WF h' (n + 2) → Q (.pointer (some ⟨p, 0, some 4⟩)) h' (n + 2)) : HasCallT EV07 48 [b] h n Q tk := by
  cases hb with
  | nil =>
    have : Ret EV07 48 [.slice none 0 0] h n (.pointer (some ⟨n, 0, some 4⟩)) [(n, cutB (.slice none 0 0) 0 0)] (n + 1) := by
      refine rsx48 (by simp) (by simp) ?_
      simp -dsimp (discharger := omega) [B48]
      with_reducible refine call_ret (clone_nil _ _) ?_
      simp -dsimp (discharger := omega) [aFill]
      exact .eq (by simp [cutB])
    exact call_ret (this.mono (by omega)) (k n _ _ (Nat.le_refl _) (by omega) (by simp) .nil ((HSub.refl h).new hw (Nat.le_refl n) _) (hw.put _ (by omega) (by omega)))
  | @mk i o g kk _ hr =>
    have : Ret EV07 48 [.slice (some ⟨i, o, some g⟩) L.length kk] h n (.pointer (some ⟨n + 1, 0, some 4⟩)) [(n, bufB L 0), (n + 1, cutB (.slice (some ⟨n, 0, some L.length⟩) L.length 2) 0 0)] (n + 2) := by
      refine rsx48 (by simp) (by simp) ?_
      simp -dsimp (discharger := omega) [B48]
      with_reducible refine call_ret (clone_ret hr hw (by omega)) ?_
      simp -dsimp (discharger := omega) [aFill]
      exact .eq (by simp [cutB])
    refine call_ret this (k (n + 1) _ _ (by omega) (by omega) (by simp; rfl) (.mk (by omega) ?_) (((HSub.refl h).new hw (Nat.le_refl n) _).new hw (by omega) _) ((hw.put (m := n + 2) _ (by omega) (by omega)).put _ (by omega) (by omega)))
    simp [bufB]
theorem rest_call {h : AHeap} {n p : Nat} {v : Value} {L : List UInt8} {s : CS} (hp : h.get p = some (cutB v s.at' s.e)) (hv : BSn h p v L) (hw : WF h n) (hat : s.at' ≤ L.length) (hL : L.length < 1000000)
    {Q : Value → AHeap → Nat → Prop} {tk : Tok Q} (k : ∀ u h', h'.get p = some (cutB v (takeS L s (if s.e = 0 then L.length - s.at' else 0)).at' (takeS L s (if s.e = 0 then L.length - s.at' else 0)).e) → Keep p h h' → WF h' (n + 1) → NewB h' n u (takeB L s (if s.e = 0 then L.length - s.at' else 0)) → Q u h' (n + 1)) : HasCallT EV07 55 [.pointer (some ⟨p, 0, some 4⟩)] h n Q tk := by
  with_reducible refine inl55 ?_
  simp -dsimp (discharger := omega) [B55]
  with_reducible refine call_ret (left_ret hp hv hat hL) ?_
  simp -dsimp (discharger := omega) []
  refine take_call (m := if s.e = 0 then L.length - s.at' else 0) (by split <;> rfl) (by split <;> omega) hp hv hw hat hL ?_
  intro u h' h1 h2 h3 h4 h5
  simp -dsimp (discharger := omega) []
  exact k u h' h1 h2 h3 h5
end
end Go.Proofs.YtkaibjdogeikbaaDoor.Am
namespace Go.Proofs.YtkaibjdogeikbaaDoor.Am
noncomputable section
/- CONTRACT of trans.GetTcp. -/
def St (L : List UInt8) (s : CS) (T : Nat) : Prop := (T ≤ L.length → s = ⟨T, 0⟩) ∧ (L.length < T → s.e = 4)
theorem St.zero (L : List UInt8) : St L ⟨0, 0⟩ 0 := ⟨fun _ => rfl, fun h => absurd h (by omega)⟩
theorem St.step {L : List UInt8} {s : CS} {T : Nat} (h : St L s T) (m : Nat) : St L (takeS L s m) (T + m) := by
  refine ⟨fun hl => ?_, fun hl => ?_⟩
  · rw [h.1 (by omega)]; simp [takeS, hl]
  · rcases Nat.lt_or_ge L.length T with h1 | h1
    · have := h.2 h1
      simp [takeS, this]
    · rw [h.1 h1]
      simp [takeS, show ¬ T + m ≤ L.length by omega]
theorem St.bytes {L : List UInt8} {s : CS} {T m : Nat} (h : St L s T) (hT : T + m ≤ L.length) : takeB L s m = (L.drop T).take m := by
  rw [h.1 (by omega)]; simp [takeB, hT]
theorem takeB_lt (L : List UInt8) (s : CS) (m : Nat) : numL (takeB L s m) < 256 ^ m := by
  have h := numL_lt (takeB L s m) (takeB L s m).length (Nat.le_refl _)
  rw [List.take_length] at h
  exact Nat.lt_of_lt_of_le h (Nat.pow_le_pow_right (by omega) (takeB_len L s m))
def num (L : List UInt8) (T m : Nat) : Nat := numL ((L.drop T).take m)
theorem num_lt (L : List UInt8) (T m : Nat) : num L T m < 256 ^ m := by
  have h := numL_lt ((L.drop T).take m) ((L.drop T).take m).length (Nat.le_refl _)
  rw [List.take_length] at h
  exact Nat.lt_of_lt_of_le h (Nat.pow_le_pow_right (by omega) (by simp; omega))
theorem and_15 : ∀ w : Fin 256, andI .i64 (w.1 : Int) 15 = ((w.1 % 16 : Nat) : Int) := by decide +kernel
theorem shr_4 (w : Nat) : shrI .i64 (w : Int) 4 = ((w / 16 : Nat) : Int) := shrI_nat .i64 w 4
structure GotT where
  t : TcpN
  os : List UInt8
  bs : List UInt8
  e : Nat
def tcpZ : TcpN := ⟨0, 0, 0, 0, 0, 0, 0, 0, 0⟩
/-- What GetTcp gets. -/
def gotT (L : List UInt8) : GotT :=
  if L.length < 20 then ⟨tcpZ, [], [], 4⟩ else if num L 12 1 / 16 < 5 then ⟨tcpZ, [], [], 5⟩ else if L.length < 4 * (num L 12 1 / 16) then ⟨tcpZ, [], [], 4⟩
  else ⟨⟨num L 0 2, num L 2 2, num L 4 4, num L 8 4, num L 12 1 % 16, num L 13 1, num L 14 2, num L 16 2, num L 18 2⟩, (L.drop 20).take (4 * (num L 12 1 / 16) - 20), L.drop (4 * (num L 12 1 / 16)), 0⟩
theorem HSub.keep {p : Nat} {h h1 h2 : AHeap} (hs : HSub h h1) (hk : Keep p h1 h2) (hp : h.get p = none) : HSub h h2 := fun i b hb =>
  hk i b (fun e => by rw [e, hp] at hb; cases hb) (hs i b hb)
theorem call_gen {E : Env} {f : Nat} {args : List Value} {H : AHeap} {n : Nat} {Q : Value → AHeap → Nat → Prop} {tk : Tok Q} (X : AHeap → Prop) (hX : X H) (k : ∀ G, X G → HasCallT E f args G n Q tk) : HasCallT E f args H n Q tk := k H hX
theorem getTcp_call {h : AHeap} {n : Nat} {b : Value} {L : List UInt8} (hb : BS h b L) (hw : WF h n) (hL : L.length < 100000)
    {Q : Value → AHeap → Nat → Prop} {tk : Tok Q} (k : ∀ o b' h', HSub h h' → WF h' (n + 15) → BS h' o (gotT L).os → BS h' b' (gotT L).bs → Q (.tuple #[tcpV (gotT L).t o b', .int .i64 ((gotT L).e : Int)]) h' (n + 15)) : HasCallT EV07 23 [b] h n Q tk := by
  obtain ⟨bi, bk, rfl⟩ := hb.shape
  with_reducible refine inl23 ?_
  simp -dsimp (discharger := omega) [B23]
  refine new_call (hb.mono ((HSub.refl h).new hw (Nat.le_refl n) _)) (hw.put (m := n + 1) _ (by omega) (by omega)) (by omega) ?_
  intro p v h1 hp1 hp2 ep hv hs1 hw1
  have er := hs1 n _ (AHeap.get_put_same _ _ _)
  have hp0 : h.get p = none := hw p (by omega)
  have hs1 : HSub h h1 := ((HSub.refl h).new hw (Nat.le_refl n) _).trans hs1
  have t0 := St.zero L
  have at1 := Nat.zero_le L.length
  simp -dsimp (discharger := omega) []
  refine two_call (s := ⟨0, 0⟩) ep hv hw1 at1 (by omega) ?_
  intro h2 ep k2 hw2 at2
  have t1 := t0.step 2
  have b1 := takeB_lt L ⟨0, 0⟩ 2
  have c1 : 0 + 2 ≤ L.length → numL (takeB L ⟨0, 0⟩ 2) = num L 0 2 := fun hl => by rw [t0.bytes hl]; rfl
  have hv := hv.keep k2
  have er := k2 n _ (by omega) er
  have hs2 := hs1.keep k2 hp0
  clear k2
  generalize numL (takeB L ⟨0, 0⟩ 2) = w1 at b1 c1 ⊢
  generalize takeS L ⟨0, 0⟩ 2 = s1 at ep at2 t1
  simp -dsimp (discharger := omega) []
  refine two_call (s := s1) ep hv hw2 at2 (by omega) ?_
  intro h3 ep k3 hw3 at3
  have t2 := t1.step 2
  have b2 := takeB_lt L s1 2
  have c2 : 2 + 2 ≤ L.length → numL (takeB L s1 2) = num L 2 2 := fun hl => by rw [t1.bytes hl]; rfl
  have hv := hv.keep k3
  have er := k3 n _ (by omega) er
  have hs3 := hs2.keep k3 hp0
  clear k3
  generalize numL (takeB L s1 2) = w2 at b2 c2 ⊢
  generalize takeS L s1 2 = s2 at ep at3 t2
  simp -dsimp (discharger := omega) []
  refine four_call (s := s2) ep hv hw3 at3 (by omega) ?_
  intro h4 ep k4 hw4 at4
  have t3 := t2.step 4
  have b3 := takeB_lt L s2 4
  have c3 : 4 + 4 ≤ L.length → numL (takeB L s2 4) = num L 4 4 := fun hl => by rw [t2.bytes hl]; rfl
  have hv := hv.keep k4
  have er := k4 n _ (by omega) er
  have hs4 := hs3.keep k4 hp0
  clear k4
  generalize numL (takeB L s2 4) = w3 at b3 c3 ⊢
  generalize takeS L s2 4 = s3 at ep at4 t3
  simp -dsimp (discharger := omega) []
  refine four_call (s := s3) ep hv hw4 at4 (by omega) ?_
  intro h5 ep k5 hw5 at5
  have t4 := t3.step 4
  have b4 := takeB_lt L s3 4
  have c4 : 8 + 4 ≤ L.length → numL (takeB L s3 4) = num L 8 4 := fun hl => by rw [t3.bytes hl]; rfl
  have hv := hv.keep k5
  have er := k5 n _ (by omega) er
  have hs5 := hs4.keep k5 hp0
  clear k5
  generalize numL (takeB L s3 4) = w4 at b4 c4 ⊢
  generalize takeS L s3 4 = s4 at ep at5 t4
  simp -dsimp (discharger := omega) [aFill]
  generalize hr : n + 1 + 2 + 1 + 1 + 1 + 1 = r at hw5 ⊢
  have K5 := Keep.refl p h5
  refine byte_call (s := s4) (p := p) (v := v) (L := L) (by rw [AHeap.get_put_ne _ _ (by omega), AHeap.get_put_ne _ _ (by omega)]; exact ep) (hv.keep ((K5.new hw5 (Nat.le_refl r) _).new hw5 (Nat.le_refl r) _)) (WF.put (n := r + 1) (m := r + 1) (hw5.put (m := r + 1) _ (by omega) (by omega)) _ (by omega) (by omega)) at5 (by omega) ?_
  intro h6 ep k6 hw6 at6
  have t5 := t4.step 1
  have b5 := takeB_lt L s4 1
  have c5 : 12 + 1 ≤ L.length → numL (takeB L s4 1) = num L 12 1 := fun hl => by rw [t4.bytes hl]; rfl
  have et := k6 r _ (by omega) (AHeap.get_put_same _ _ _)
  have K6 := ((K5.new hw5 (Nat.le_refl r) _).new hw5 (Nat.le_refl r) _).trans k6
  clear k6
  generalize numL (takeB L s4 1) = w5 at b5 c5 ⊢
  generalize takeS L s4 1 = s5 at ep at6 t5
  have hw5' : w5 < 256 := b5
  have a15 : andI .i64 (w5 : Int) 15 = ((w5 % 16 : Nat) : Int) := and_15 ⟨w5, hw5'⟩
  simp -dsimp (discharger := omega) [a15, et]
  refine byte_call (s := s5) (p := p) (v := v) (L := L) (by rw [AHeap.get_put_ne _ _ (by omega)]; exact ep) (hv.keep (K6.new hw5 (Nat.le_refl r) _)) (WF.put (n := r + 1 + 1) (m := r + 1 + 1) hw6 _ (by omega) (by omega)) at6 (by omega) ?_
  intro h7 ep k7 hw7 at7
  have t6 := t5.step 1
  have b6 := takeB_lt L s5 1
  have c6 : 13 + 1 ≤ L.length → numL (takeB L s5 1) = num L 13 1 := fun hl => by rw [t5.bytes hl]; rfl
  have et := k7 r _ (by omega) (AHeap.get_put_same _ _ _)
  have K7 := (K6.new hw5 (Nat.le_refl r) _).trans k7
  clear k7
  generalize numL (takeB L s5 1) = w6 at b6 c6 ⊢
  generalize takeS L s5 1 = s6 at ep at7 t6
  simp -dsimp (discharger := omega) []
  refine two_call (s := s6) (p := p) (v := v) (L := L) ep (hv.keep K7) hw7 at7 (by omega) ?_
  intro h8 ep k8 hw8 at8
  have t7 := t6.step 2
  have b7 := takeB_lt L s6 2
  have c7 : 14 + 2 ≤ L.length → numL (takeB L s6 2) = num L 14 2 := fun hl => by rw [t6.bytes hl]; rfl
  have et := k8 r _ (by omega) et
  have K8 := K7.trans k8
  clear k8
  generalize numL (takeB L s6 2) = w7 at b7 c7 ⊢
  generalize takeS L s6 2 = s7 at ep at8 t7
  simp -dsimp (discharger := omega) []
  refine two_call (s := s7) (p := p) (v := v) (L := L) ep (hv.keep K8) hw8 at8 (by omega) ?_
  intro h9 ep k9 hw9 at9
  have t8 := t7.step 2
  have b8 := takeB_lt L s7 2
  have c8 : 16 + 2 ≤ L.length → numL (takeB L s7 2) = num L 16 2 := fun hl => by rw [t7.bytes hl]; rfl
  have et := k9 r _ (by omega) et
  have K9 := K8.trans k9
  clear k9
  generalize numL (takeB L s7 2) = w8 at b8 c8 ⊢
  generalize takeS L s7 2 = s8 at ep at9 t8
  simp -dsimp (discharger := omega) []
  refine two_call (s := s8) (p := p) (v := v) (L := L) ep (hv.keep K9) hw9 at9 (by omega) ?_
  intro h10 ep k10 hw10 at10
  have t9 := t8.step 2
  have b9 := takeB_lt L s8 2
  have c9 : 18 + 2 ≤ L.length → numL (takeB L s8 2) = num L 18 2 := fun hl => by rw [t8.bytes hl]; rfl
  have et := k10 r _ (by omega) et
  have K10 := K9.trans k10
  clear k10
  generalize numL (takeB L s8 2) = w9 at b9 c9 ⊢
  generalize takeS L s8 2 = s9 at ep at10 t9
  have a4 := shr_4 w5
  simp -dsimp (discharger := omega) [et, a4]
  refine call_gen (fun G => G.get p = some (cutB v s9.at' s9.e) ∧ G.get r = some (.cells (some 35) [.int .u16 (w1 : Int), .int .u16 (w2 : Int), .int .u32 (w3 : Int), .int .u32 (w4 : Int), .int .u8 ((w5 : Int) % 16), .int .u8 (w6 : Int), .int .u16 (w7 : Int), .int .u16 (w8 : Int), .int .u16 (w9 : Int), .slice none 0 0, .slice none 0 0] 11) ∧ Keep p h5 G ∧ WF G (r + 6))
    ⟨by rw [AHeap.get_put_ne _ _ (by omega), AHeap.get_put_ne _ _ (by omega), AHeap.get_put_ne _ _ (by omega), AHeap.get_put_ne _ _ (by omega)]; exact ep, AHeap.get_put_same _ _ _,
      (((K10.new hw5 (Nat.le_refl r) _).new hw5 (Nat.le_refl r) _).new hw5 (Nat.le_refl r) _).new hw5 (Nat.le_refl r) _,
      WF.put (n := r + 6) (WF.put (n := r + 6) (WF.put (n := r + 6) (hw10.put (m := r + 6) _ (by omega) (by omega)) _ (by omega) (by omega)) _ (by omega) (by omega)) _ (by omega) (by omega)⟩ ?_
  rintro G ⟨gp, gr, KG, wG⟩
  clear et K10 K9 K8 K7 K6
  have gn := KG n _ (by omega) er
  with_reducible refine call_ret (err_ret gp) ?_
  rcases Nat.lt_or_ge L.length 20 with hlen | hlen
  · have he := t9.2 hlen
    rw [he] at gp ⊢
    have eg : gotT L = ⟨tcpZ, [], [], 4⟩ := by rw [gotT, if_pos hlen]
    have ts : ∀ m, takeS L ⟨s9.at', 4⟩ m = ⟨s9.at', 4⟩ := fun m => by simp [takeS]
    simp -dsimp (discharger := omega) []
    refine take_call (s := ⟨s9.at', 4⟩) (p := p) (v := v) (L := L) (m := 4 * (w5 / 16 - 5)) (by (try split) <;> omega) (by omega) gp (hv.keep KG) wG (at10) (by omega) ?_
    intro u1 g1 gp1 q1 wg1 at11 hu1
    obtain ⟨a1, kk1, rfl⟩ := hu1.bs.shape
    have gr1 := q1 r _ (by omega) gr
    have gn1 := q1 n _ (by omega) gn
    have KG1 := KG.trans q1
    have wg1 : WF g1 (r + 7) := wg1
    clear q1
    simp -dsimp (discharger := omega) [gr1]
    refine rest_call (s := takeS L ⟨s9.at', 4⟩ (4 * (w5 / 16 - 5))) (p := p) (v := v) (L := L) (by rw [AHeap.get_put_ne _ _ (by omega)]; exact gp1) (hv.keep (KG1.new hw5 (Nat.le_refl r) _)) (wg1.put (m := r + 7) _ (by omega) (by omega)) at11 (by omega) ?_
    intro u2 g2 gp2 q2 wg2 hu2
    obtain ⟨a2, kk2, rfl⟩ := hu2.bs.shape
    have gr2 := q2 r _ (by omega) (AHeap.get_put_same _ _ _)
    have gn2 := q2 n _ (by omega) (by rw [AHeap.get_put_ne _ _ (by omega)]; exact gn1)
    have KG2 := (KG1.new hw5 (Nat.le_refl r) _).trans q2
    have wg2 : WF g2 (r + 8) := wg2
    have hu1 := (hu1.keep (Keep.put r g1 _) (by omega)).keep q2 (by omega)
    have hsg : HSub h g2 := hs5.keep KG2 hp0
    have e15 : r + 7 + 1 = n + 15 := by omega
    simp -dsimp (discharger := omega) [gr2]
    simp only [ts] at gp2
    with_reducible refine call_ret (err_ret (v := v) (a := s9.at') (e := 4) (by rw [AHeap.get_put_ne _ _ (by omega)]; exact gp2)) ?_
    simp -dsimp (discharger := omega) [gn2, aFill]
    rw [eg] at k
    rw [e15]
    exact k (.slice none 0 0) (.slice none 0 0) _ ((hsg.new hw (by omega) _).new hw (by omega) _) (WF.put (n := n + 15) (wg2.put (m := n + 15) _ (by omega) (by omega)) _ (by omega) (by omega)) .nil .nil
  · have hs := t9.1 hlen
    subst hs
    obtain rfl := c1 (by omega)
    obtain rfl := c2 (by omega)
    obtain rfl := c3 (by omega)
    obtain rfl := c4 (by omega)
    have e5 := c5 (by omega)
    obtain rfl := c6 (by omega)
    obtain rfl := c7 (by omega)
    obtain rfl := c8 (by omega)
    obtain rfl := c9 (by omega)
    rcases Nat.lt_or_ge (w5 / 16) 5 with h5' | h5'
    · have eg : gotT L = ⟨tcpZ, [], [], 5⟩ := by rw [gotT, if_neg (by omega), ← e5, if_pos h5']
      have ts : ∀ m, takeS L ⟨20, 5⟩ m = ⟨20, 5⟩ := fun m => by simp [takeS]
      simp -dsimp (discharger := omega) []
      with_reducible refine call_ret (fail_ret (x := 5) rfl gp) ?_
      simp -dsimp (discharger := omega) []
      refine take_call (s := ⟨20, 5⟩) (p := p) (v := v) (L := L) (m := 4 * (w5 / 16 - 5)) (by (try split) <;> omega) (by omega) (AHeap.get_put_same _ _ _) (hv.keep (KG.trans (Keep.put p G _))) (wG.put (m := r + 6) _ (by omega) (by omega)) (hlen) (by omega) ?_
      intro u1 g1 gp1 q1 wg1 at11 hu1
      obtain ⟨a1, kk1, rfl⟩ := hu1.bs.shape
      have gr1 := q1 r _ (by omega) (by rw [AHeap.get_put_ne _ _ (by omega)]; exact gr)
      have gn1 := q1 n _ (by omega) (by rw [AHeap.get_put_ne _ _ (by omega)]; exact gn)
      have KG1 := (KG.trans (Keep.put p G _)).trans q1
      have wg1 : WF g1 (r + 7) := wg1
      clear q1
      simp -dsimp (discharger := omega) [gr1]
      refine rest_call (s := takeS L ⟨20, 5⟩ (4 * (w5 / 16 - 5))) (p := p) (v := v) (L := L) (by rw [AHeap.get_put_ne _ _ (by omega)]; exact gp1) (hv.keep (KG1.new hw5 (Nat.le_refl r) _)) (wg1.put (m := r + 7) _ (by omega) (by omega)) at11 (by omega) ?_
      intro u2 g2 gp2 q2 wg2 hu2
      obtain ⟨a2, kk2, rfl⟩ := hu2.bs.shape
      have gr2 := q2 r _ (by omega) (AHeap.get_put_same _ _ _)
      have gn2 := q2 n _ (by omega) (by rw [AHeap.get_put_ne _ _ (by omega)]; exact gn1)
      have KG2 := (KG1.new hw5 (Nat.le_refl r) _).trans q2
      have wg2 : WF g2 (r + 8) := wg2
      have hu1 := (hu1.keep (Keep.put r g1 _) (by omega)).keep q2 (by omega)
      have hsg : HSub h g2 := hs5.keep KG2 hp0
      have e15 : r + 7 + 1 = n + 15 := by omega
      simp -dsimp (discharger := omega) [gr2]
      simp only [ts] at gp2
      with_reducible refine call_ret (err_ret (v := v) (a := 20) (e := 5) (by rw [AHeap.get_put_ne _ _ (by omega)]; exact gp2)) ?_
      simp -dsimp (discharger := omega) [gn2, aFill]
      rw [eg] at k
      rw [e15]
      exact k (.slice none 0 0) (.slice none 0 0) _ ((hsg.new hw (by omega) _).new hw (by omega) _) (WF.put (n := n + 15) (wg2.put (m := n + 15) _ (by omega) (by omega)) _ (by omega) (by omega)) .nil .nil
    · simp -dsimp (discharger := omega) []
      refine take_call (s := ⟨20, 0⟩) (p := p) (v := v) (L := L) (m := 4 * (w5 / 16 - 5)) (by (try split) <;> omega) (by omega) gp (hv.keep KG) wG (hlen) (by omega) ?_
      intro u1 g1 gp1 q1 wg1 at11 hu1
      obtain ⟨a1, kk1, rfl⟩ := hu1.bs.shape
      have gr1 := q1 r _ (by omega) gr
      have gn1 := q1 n _ (by omega) gn
      have KG1 := KG.trans q1
      have wg1 : WF g1 (r + 7) := wg1
      clear q1
      simp -dsimp (discharger := omega) [gr1]
      refine rest_call (s := takeS L ⟨20, 0⟩ (4 * (w5 / 16 - 5))) (p := p) (v := v) (L := L) (by rw [AHeap.get_put_ne _ _ (by omega)]; exact gp1) (hv.keep (KG1.new hw5 (Nat.le_refl r) _)) (wg1.put (m := r + 7) _ (by omega) (by omega)) at11 (by omega) ?_
      intro u2 g2 gp2 q2 wg2 hu2
      obtain ⟨a2, kk2, rfl⟩ := hu2.bs.shape
      have gr2 := q2 r _ (by omega) (AHeap.get_put_same _ _ _)
      have gn2 := q2 n _ (by omega) (by rw [AHeap.get_put_ne _ _ (by omega)]; exact gn1)
      have KG2 := (KG1.new hw5 (Nat.le_refl r) _).trans q2
      have wg2 : WF g2 (r + 8) := wg2
      have hu1 := (hu1.keep (Keep.put r g1 _) (by omega)).keep q2 (by omega)
      have hsg : HSub h g2 := hs5.keep KG2 hp0
      have e15 : r + 7 + 1 = n + 15 := by omega
      simp -dsimp (discharger := omega) [gr2]
      rcases Nat.lt_or_ge L.length (4 * (w5 / 16)) with h6' | h6'
      · have eg : gotT L = ⟨tcpZ, [], [], 4⟩ := by rw [gotT, if_neg (by omega), ← e5, if_neg (by omega), if_pos h6']
        have ts1 : takeS L ⟨20, 0⟩ (4 * (w5 / 16 - 5)) = ⟨20, 4⟩ := by simp [takeS]; omega
        have ts : ∀ m, takeS L ⟨20, 4⟩ m = ⟨20, 4⟩ := fun m => by simp [takeS]
        simp only [ts1, ts] at gp2
        with_reducible refine call_ret (err_ret (v := v) (a := 20) (e := 4) (by rw [AHeap.get_put_ne _ _ (by omega)]; exact gp2)) ?_
        simp -dsimp (discharger := omega) [gn2, aFill]
        rw [eg] at k
        rw [e15]
        exact k (.slice none 0 0) (.slice none 0 0) _ ((hsg.new hw (by omega) _).new hw (by omega) _) (WF.put (n := n + 15) (wg2.put (m := n + 15) _ (by omega) (by omega)) _ (by omega) (by omega)) .nil .nil
      · have eg : gotT L = ⟨⟨num L 0 2, num L 2 2, num L 4 4, num L 8 4, w5 % 16, num L 13 1, num L 14 2, num L 16 2, num L 18 2⟩, (L.drop 20).take (4 * (w5 / 16) - 20), L.drop (4 * (w5 / 16)), 0⟩ := by
          rw [gotT, if_neg (by omega), ← e5, if_neg (by omega), if_neg (by omega)]
        have em : 20 + 4 * (w5 / 16 - 5) = 4 * (w5 / 16) := by omega
        have em2 : 4 * (w5 / 16 - 5) = 4 * (w5 / 16) - 20 := by omega
        have ts1 : takeS L ⟨20, 0⟩ (4 * (w5 / 16 - 5)) = ⟨4 * (w5 / 16), 0⟩ := by simp [takeS, em, h6']
        have tb1 : takeB L ⟨20, 0⟩ (4 * (w5 / 16 - 5)) = (L.drop 20).take (4 * (w5 / 16) - 20) := by rw [takeB, if_neg (by simp), if_pos (by simp only; omega), em2]
        have ts2 : takeS L ⟨4 * (w5 / 16), 0⟩ (L.length - 4 * (w5 / 16)) = ⟨L.length, 0⟩ := by
          rw [takeS, if_neg (by simp), if_pos (by simp only; omega), CS.mk.injEq]; exact ⟨by simp only; omega, rfl⟩
        have tb2 : takeB L ⟨4 * (w5 / 16), 0⟩ (L.length - 4 * (w5 / 16)) = L.drop (4 * (w5 / 16)) := by
          rw [takeB, if_neg (by simp), if_pos (by simp only; omega)]
          exact List.take_of_length_le (by simp)
        rw [ts1] at gp2 hu2 ⊢
        rw [tb1] at hu1 ⊢
        simp only [if_true] at gp2 hu2 ⊢
        rw [ts2] at gp2
        rw [tb2] at hu2 ⊢
        with_reducible refine call_ret (err_ret (v := v) (a := L.length) (e := 0) (by rw [AHeap.get_put_ne _ _ (by omega)]; exact gp2)) ?_
        simp -dsimp (discharger := omega) [gn2]
        rw [eg] at k
        rw [e15]
        have l1 : ((L.drop 20).take (4 * (w5 / 16) - 20)).length = 4 * (w5 / 16) - 20 := by simp; omega
        have l2 : (L.drop (4 * (w5 / 16))).length = L.length - 4 * (w5 / 16) := by simp
        have hv1 := fun X Y => (((hu1.keep (Keep.put r g2 X) (by omega)).keep (Keep.put n _ Y) (by omega))).bs
        have hv2 := fun X Y => (((hu2.keep (Keep.put r g2 X) (by omega)).keep (Keep.put n _ Y) (by omega))).bs
        rw [l1] at hv1
        rw [l2] at hv2
        exact k _ _ _ ((hsg.new hw (by omega) _).new hw (by omega) _) (WF.put (n := n + 15) (wg2.put (m := n + 15) _ (by omega) (by omega)) _ (by omega) (by omega)) (hv1 _ _) (hv2 _ _)
end
end Go.Proofs.YtkaibjdogeikbaaDoor.Am
namespace Go.Proofs.YtkaibjdogeikbaaDoor.Am
noncomputable section
/- CONTRACT of trans.GetUdp. -/
structure GotU where
  fr : Nat
  to : Nat
  ln : Nat
  sm : Nat
  bs : List UInt8
  e : Nat
/-- What GetUdp gets. -/
def gotU (L : List UInt8) : GotU :=
  if L.length < 8 then ⟨0, 0, 0, 0, [], 4⟩ else if num L 4 2 < 8 then ⟨0, 0, 0, 0, [], 5⟩ else if L.length < num L 4 2 then ⟨0, 0, 0, 0, [], 4⟩
  else ⟨num L 0 2, num L 2 2, num L 4 2, num L 6 2, (L.drop 8).take (num L 4 2 - 8), 0⟩
theorem getUdp_call {h : AHeap} {n : Nat} {b : Value} {L : List UInt8} (hb : BS h b L) (hw : WF h n) (hL : L.length < 100000)
    {Q : Value → AHeap → Nat → Prop} {tk : Tok Q} (k : ∀ b' h', HSub h h' → WF h' (n + 9) → BS h' b' (gotU L).bs → Q (.tuple #[udpV (gotU L).fr (gotU L).to (gotU L).ln (gotU L).sm b', .int .i64 ((gotU L).e : Int)]) h' (n + 9)) : HasCallT EV07 24 [b] h n Q tk := by
  obtain ⟨bi, bk, rfl⟩ := hb.shape
  with_reducible refine inl24 ?_
  simp -dsimp (discharger := omega) [B24]
  refine new_call (hb.mono ((HSub.refl h).new hw (Nat.le_refl n) _)) (hw.put (m := n + 1) _ (by omega) (by omega)) (by omega) ?_
  intro p v h1 hp1 hp2 ep hv hs1 hw1
  have er := hs1 n _ (AHeap.get_put_same _ _ _)
  have hp0 : h.get p = none := hw p (by omega)
  have hs1 : HSub h h1 := ((HSub.refl h).new hw (Nat.le_refl n) _).trans hs1
  have t0 := St.zero L
  have at1 := Nat.zero_le L.length
  simp -dsimp (discharger := omega) []
  refine two_call (s := ⟨0, 0⟩) ep hv hw1 at1 (by omega) ?_
  intro h2 ep k2 hw2 at2
  have t1 := t0.step 2
  have b1 := takeB_lt L ⟨0, 0⟩ 2
  have c1 : 0 + 2 ≤ L.length → numL (takeB L ⟨0, 0⟩ 2) = num L 0 2 := fun hl => by rw [t0.bytes hl]; rfl
  have hv := hv.keep k2
  have er := k2 n _ (by omega) er
  have hs2 := hs1.keep k2 hp0
  clear k2
  generalize numL (takeB L ⟨0, 0⟩ 2) = w1 at b1 c1 ⊢
  generalize takeS L ⟨0, 0⟩ 2 = s1 at ep at2 t1
  simp -dsimp (discharger := omega) []
  refine two_call (s := s1) ep hv hw2 at2 (by omega) ?_
  intro h3 ep k3 hw3 at3
  have t2 := t1.step 2
  have b2 := takeB_lt L s1 2
  have c2 : 2 + 2 ≤ L.length → numL (takeB L s1 2) = num L 2 2 := fun hl => by rw [t1.bytes hl]; rfl
  have hv := hv.keep k3
  have er := k3 n _ (by omega) er
  have hs3 := hs2.keep k3 hp0
  clear k3
  generalize numL (takeB L s1 2) = w2 at b2 c2 ⊢
  generalize takeS L s1 2 = s2 at ep at3 t2
  simp -dsimp (discharger := omega) []
  refine two_call (s := s2) ep hv hw3 at3 (by omega) ?_
  intro h4 ep k4 hw4 at4
  have t3 := t2.step 2
  have b3 := takeB_lt L s2 2
  have c3 : 4 + 2 ≤ L.length → numL (takeB L s2 2) = num L 4 2 := fun hl => by rw [t2.bytes hl]; rfl
  have hv := hv.keep k4
  have er := k4 n _ (by omega) er
  have hs4 := hs3.keep k4 hp0
  clear k4
  generalize numL (takeB L s2 2) = w3 at b3 c3 ⊢
  generalize takeS L s2 2 = s3 at ep at4 t3
  simp -dsimp (discharger := omega) []
  refine two_call (s := s3) ep hv hw4 at4 (by omega) ?_
  intro h5 ep k5 hw5 at5
  have t4 := t3.step 2
  have b4 := takeB_lt L s3 2
  have c4 : 6 + 2 ≤ L.length → numL (takeB L s3 2) = num L 6 2 := fun hl => by rw [t3.bytes hl]; rfl
  have hv := hv.keep k5
  have er := k5 n _ (by omega) er
  have hs5 := hs4.keep k5 hp0
  clear k5
  generalize numL (takeB L s3 2) = w4 at b4 c4 ⊢
  generalize takeS L s3 2 = s4 at ep at5 t4
  simp -dsimp (discharger := omega) [aFill]
  generalize hr : n + 1 + 2 + 1 + 1 + 1 + 1 = r at hw5 ⊢
  refine call_gen (fun G => G.get p = some (cutB v s4.at' s4.e) ∧ G.get r = some (.cells (some 37) [.int .u16 (w1 : Int), .int .u16 (w2 : Int), .int .u16 (w3 : Int), .int .u16 (w4 : Int), .slice none 0 0] 5) ∧ Keep p h5 G ∧ WF G (r + 1))
    ⟨by rw [AHeap.get_put_ne _ _ (by omega), AHeap.get_put_ne _ _ (by omega)]; exact ep, AHeap.get_put_same _ _ _,
      ((Keep.refl p h5).new hw5 (Nat.le_refl r) _).new hw5 (Nat.le_refl r) _,
      WF.put (n := r + 1) (hw5.put (m := r + 1) _ (by omega) (by omega)) _ (by omega) (by omega)⟩ ?_
  rintro G ⟨gp, gr, KG, wG⟩
  have gn := KG n _ (by omega) er
  with_reducible refine call_ret (err_ret gp) ?_
  have b3' : w3 < 65536 := b3
  rcases Nat.lt_or_ge L.length 8 with hlen | hlen
  · have he := t4.2 hlen
    rw [he] at gp ⊢
    have eg : gotU L = ⟨0, 0, 0, 0, [], 4⟩ := by rw [gotU, if_pos hlen]
    have ts : ∀ m, takeS L ⟨s4.at', 4⟩ m = ⟨s4.at', 4⟩ := fun m => by simp [takeS]
    simp -dsimp (discharger := omega) [AHeap.read_of gr]
    refine take_call (s := ⟨s4.at', 4⟩) (p := p) (v := v) (L := L) (m := w3 - 8) (by (try split) <;> omega) (by omega) gp (hv.keep KG) wG (at5) (by omega) ?_
    intro u1 g1 gp1 q1 wg1 at11 hu1
    obtain ⟨a1, kk1, rfl⟩ := hu1.bs.shape
    have gr1 := q1 r _ (by omega) gr
    have gn1 := q1 n _ (by omega) gn
    have KG1 := KG.trans q1
    have wg1 : WF g1 (r + 2) := wg1
    clear q1
    have hsg : HSub h g1 := hs5.keep KG1 hp0
    have e15 : r + 1 + 1 = n + 9 := by omega
    simp -dsimp (discharger := omega) [gr1]
    simp only [ts] at gp1
    with_reducible refine call_ret (err_ret (v := v) (a := s4.at') (e := 4) (by rw [AHeap.get_put_ne _ _ (by omega)]; exact gp1)) ?_
    simp -dsimp (discharger := omega) [gn1, aFill]
    rw [eg] at k
    rw [e15]
    exact k (.slice none 0 0) _ ((hsg.new hw (by omega) _).new hw (by omega) _) (WF.put (n := n + 9) (wg1.put (m := n + 9) _ (by omega) (by omega)) _ (by omega) (by omega)) .nil
  · have hs := t4.1 hlen
    subst hs
    obtain rfl := c1 (by omega)
    obtain rfl := c2 (by omega)
    have e3 := c3 (by omega)
    obtain rfl := c4 (by omega)
    rcases Nat.lt_or_ge w3 8 with h5' | h5'
    · have eg : gotU L = ⟨0, 0, 0, 0, [], 5⟩ := by rw [gotU, if_neg (by omega), ← e3, if_pos h5']
      have ts : ∀ m, takeS L ⟨8, 5⟩ m = ⟨8, 5⟩ := fun m => by simp [takeS]
      simp -dsimp (discharger := omega) [AHeap.read_of gr]
      with_reducible refine call_ret (fail_ret (x := 5) rfl gp) ?_
      simp -dsimp (discharger := omega) [AHeap.read_of gr]
      refine take_call (s := ⟨8, 5⟩) (p := p) (v := v) (L := L) (m := w3 - 8) (by (try split) <;> omega) (by omega) (AHeap.get_put_same _ _ _) (hv.keep (KG.trans (Keep.put p G _))) (wG.put (m := r + 1) _ (by omega) (by omega)) (hlen) (by omega) ?_
      intro u1 g1 gp1 q1 wg1 at11 hu1
      obtain ⟨a1, kk1, rfl⟩ := hu1.bs.shape
      have gr1 := q1 r _ (by omega) (by rw [AHeap.get_put_ne _ _ (by omega)]; exact gr)
      have gn1 := q1 n _ (by omega) (by rw [AHeap.get_put_ne _ _ (by omega)]; exact gn)
      have KG1 := (KG.trans (Keep.put p G _)).trans q1
      have wg1 : WF g1 (r + 2) := wg1
      clear q1
      have hsg : HSub h g1 := hs5.keep KG1 hp0
      have e15 : r + 1 + 1 = n + 9 := by omega
      simp -dsimp (discharger := omega) [gr1]
      simp only [ts] at gp1
      with_reducible refine call_ret (err_ret (v := v) (a := 8) (e := 5) (by rw [AHeap.get_put_ne _ _ (by omega)]; exact gp1)) ?_
      simp -dsimp (discharger := omega) [gn1, aFill]
      rw [eg] at k
      rw [e15]
      exact k (.slice none 0 0) _ ((hsg.new hw (by omega) _).new hw (by omega) _) (WF.put (n := n + 9) (wg1.put (m := n + 9) _ (by omega) (by omega)) _ (by omega) (by omega)) .nil
    · simp -dsimp (discharger := omega) [AHeap.read_of gr]
      refine take_call (s := ⟨8, 0⟩) (p := p) (v := v) (L := L) (m := w3 - 8) (by (try split) <;> omega) (by omega) gp (hv.keep KG) wG (hlen) (by omega) ?_
      intro u1 g1 gp1 q1 wg1 at11 hu1
      obtain ⟨a1, kk1, rfl⟩ := hu1.bs.shape
      have gr1 := q1 r _ (by omega) gr
      have gn1 := q1 n _ (by omega) gn
      have KG1 := KG.trans q1
      have wg1 : WF g1 (r + 2) := wg1
      clear q1
      have hsg : HSub h g1 := hs5.keep KG1 hp0
      have e15 : r + 1 + 1 = n + 9 := by omega
      simp -dsimp (discharger := omega) [gr1]
      rcases Nat.lt_or_ge L.length w3 with h6' | h6'
      · have eg : gotU L = ⟨0, 0, 0, 0, [], 4⟩ := by rw [gotU, if_neg (by omega), ← e3, if_neg (by omega), if_pos h6']
        have ts1 : takeS L ⟨8, 0⟩ (w3 - 8) = ⟨8, 4⟩ := by simp [takeS]; omega
        simp only [ts1] at gp1
        with_reducible refine call_ret (err_ret (v := v) (a := 8) (e := 4) (by rw [AHeap.get_put_ne _ _ (by omega)]; exact gp1)) ?_
        simp -dsimp (discharger := omega) [gn1, aFill]
        rw [eg] at k
        rw [e15]
        exact k (.slice none 0 0) _ ((hsg.new hw (by omega) _).new hw (by omega) _) (WF.put (n := n + 9) (wg1.put (m := n + 9) _ (by omega) (by omega)) _ (by omega) (by omega)) .nil
      · have eg : gotU L = ⟨num L 0 2, num L 2 2, w3, num L 6 2, (L.drop 8).take (w3 - 8), 0⟩ := by
          rw [gotU, if_neg (by omega), ← e3, if_neg (by omega), if_neg (by omega)]
        have ts1 : takeS L ⟨8, 0⟩ (w3 - 8) = ⟨w3, 0⟩ := by
          rw [takeS, if_neg (by simp), if_pos (by simp only; omega), CS.mk.injEq]; exact ⟨by simp only; omega, rfl⟩
        have tb1 : takeB L ⟨8, 0⟩ (w3 - 8) = (L.drop 8).take (w3 - 8) := by rw [takeB, if_neg (by simp), if_pos (by simp only; omega)]
        rw [ts1] at gp1
        rw [tb1] at hu1 ⊢
        with_reducible refine call_ret (err_ret (v := v) (a := w3) (e := 0) (by rw [AHeap.get_put_ne _ _ (by omega)]; exact gp1)) ?_
        simp -dsimp (discharger := omega) [gn1]
        rw [eg] at k
        rw [e15]
        have l1 : ((L.drop 8).take (w3 - 8)).length = w3 - 8 := by simp; omega
        have hv1 := fun X Y => (((hu1.keep (Keep.put r g1 X) (by omega)).keep (Keep.put n _ Y) (by omega))).bs
        rw [l1] at hv1
        exact k _ _ ((hsg.new hw (by omega) _).new hw (by omega) _) (WF.put (n := n + 9) (wg1.put (m := n + 9) _ (by omega) (by omega)) _ (by omega) (by omega)) (hv1 _ _)
end
end Go.Proofs.YtkaibjdogeikbaaDoor.Am
namespace Go.Proofs.YtkaibjdogeikbaaDoor.Am
noncomputable section
/- CONTRACTS: the laws' same and like, trans.Ports. -/
set_option maxRecDepth 4000 in
theorem same_ret {t : TcpN} {h : AHeap} {n : Nat} {o b o' b' : Value} {os bs : List UInt8} (ho : BS h o os) (hb : BS h b bs) (ho' : BS h o' os) (hb' : BS h b' bs) (hw : WF h n) :
    Ret EV07 26 [rtcpV t o b, rtcpV t o' b'] h n (.bool true) [] (n + 2) := by
  obtain ⟨i1, k1, rfl⟩ := ho.shape
  obtain ⟨i2, k2, rfl⟩ := hb.shape
  obtain ⟨i3, k3, rfl⟩ := ho'.shape
  obtain ⟨i4, k4, rfl⟩ := hb'.shape
  have hs : ∀ X Y, HSub h ((h.put n X).put (n + 1) Y) := fun X Y => ((HSub.refl h).new hw (Nat.le_refl n) X).new hw (by omega) Y
  refine rsx26 (by simp) (by simp) ?_
  simp -dsimp (discharger := omega) [B26, rtcpV]
  with_reducible refine call_ret (equal_ret (ho.mono (hs _ _)) (ho'.mono (hs _ _)) _) ?_
  simp -dsimp (discharger := omega) []
  with_reducible refine call_ret (equal_ret (hb.mono (hs _ _)) (hb'.mono (hs _ _)) _) ?_
  simp -dsimp (discharger := omega) []
  exact hs _ _
theorem like_ret {fr to ln sm : Nat} {h : AHeap} {n : Nat} {b b' : Value} {bs : List UInt8} (hb : BS h b bs) (hb' : BS h b' bs) (hw : WF h n) :
    Ret EV07 27 [rudpV fr to ln sm b, rudpV fr to ln sm b'] h n (.bool true) [] (n + 2) := by
  obtain ⟨i2, k2, rfl⟩ := hb.shape
  obtain ⟨i4, k4, rfl⟩ := hb'.shape
  have hs : ∀ X Y, HSub h ((h.put n X).put (n + 1) Y) := fun X Y => ((HSub.refl h).new hw (Nat.le_refl n) X).new hw (by omega) Y
  refine rsx27 (by simp) (by simp) ?_
  simp -dsimp (discharger := omega) [B27, rudpV]
  with_reducible refine call_ret (equal_ret (hb.mono (hs _ _)) (hb'.mono (hs _ _)) _) ?_
  simp -dsimp (discharger := omega) []
  exact hs _ _
theorem ports6_call {h : AHeap} {n : Nat} {b : Value} {L : List UInt8} (hb : BS h b L) (hw : WF h n) (hL : L.length < 100000)
    {Q : Value → AHeap → Nat → Prop} {tk : Tok Q} (k : ∀ h', HSub h h' → WF h' (n + 16) → Q (.tuple #[.int .u16 ((gotT L).t.fr : Int), .int .u16 ((gotT L).t.to : Int), .bool (((gotT L).e : Int) == 0)]) h' (n + 16)) : HasCallT EV07 28 [.int .u8 6, b] h n Q tk := by
  obtain ⟨bi, bk, rfl⟩ := hb.shape
  with_reducible refine inl28 ?_
  simp -dsimp (discharger := omega) [B28]
  refine getTcp_call hb hw hL ?_
  intro o b' h' hs hw' ho hb'
  obtain ⟨i1, k1, rfl⟩ := ho.shape
  obtain ⟨i2, k2, rfl⟩ := hb'.shape
  simp -dsimp (discharger := omega) [tcpV]
  exact k _ ((hs.new hw (by omega) _).new hw (by omega) _) (WF.put (n := n + 16) (hw'.put (m := n + 16) _ (by omega) (by omega)) _ (by omega) (by omega))
theorem ports17_call {h : AHeap} {n : Nat} {b : Value} {L : List UInt8} (hb : BS h b L) (hw : WF h n) (hL : L.length < 100000)
    {Q : Value → AHeap → Nat → Prop} {tk : Tok Q} (k : ∀ h', HSub h h' → WF h' (n + 10) → Q (.tuple #[.int .u16 ((gotU L).fr : Int), .int .u16 ((gotU L).to : Int), .bool (((gotU L).e : Int) == 0)]) h' (n + 10)) : HasCallT EV07 28 [.int .u8 17, b] h n Q tk := by
  obtain ⟨bi, bk, rfl⟩ := hb.shape
  with_reducible refine inl28 ?_
  simp -dsimp (discharger := omega) [B28]
  refine getUdp_call hb hw hL ?_
  intro b' h' hs hw' hb'
  obtain ⟨i2, k2, rfl⟩ := hb'.shape
  simp -dsimp (discharger := omega) [udpV]
  exact k _ ((hs.new hw (by omega) _).new hw (by omega) _) (WF.put (n := n + 10) (hw'.put (m := n + 10) _ (by omega) (by omega)) _ (by omega) (by omega))
end
end Go.Proofs.YtkaibjdogeikbaaDoor.Am
namespace Go.Proofs.YtkaibjdogeikbaaDoor.Am
noncomputable section
/- THERE AND BACK, IN PLAIN LEAN. -/
theorem two_num {a b : UInt8} : twoL (256 * a.toNat + b.toNat) = [a, b] := by
  have ha := a.toNat_lt
  have hb := b.toNat_lt
  simp only [twoL]
  rw [show (256 * a.toNat + b.toNat) / 256 = a.toNat by omega, show (256 * a.toNat + b.toNat) % 256 = b.toNat by omega]
  simp
theorem two_back {w : Nat} (hw : w < 65536) : 256 * (UInt8.ofNat (w / 256)).toNat + (UInt8.ofNat (w % 256)).toNat = w := by
  simp
  omega
theorem len8 {L : List UInt8} (h : 8 ≤ L.length) : ∃ b0 b1 b2 b3 b4 b5 b6 b7 R, L = b0 :: b1 :: b2 :: b3 :: b4 :: b5 :: b6 :: b7 :: R := by
  match L, h with
  | b0 :: b1 :: b2 :: b3 :: b4 :: b5 :: b6 :: b7 :: R, _ => exact ⟨_, _, _, _, _, _, _, _, _, rfl⟩
theorem len4 {L : List UInt8} (h : 4 ≤ L.length) : ∃ b0 b1 b2 b3 R, L = b0 :: b1 :: b2 :: b3 :: R := by
  match L, h with
  | b0 :: b1 :: b2 :: b3 :: R, _ => exact ⟨_, _, _, _, _, rfl⟩
theorem len20 {L : List UInt8} (h : 20 ≤ L.length) : ∃ b0 b1 b2 b3 b4 b5 b6 b7 b8 b9 b10 b11 b12 b13 b14 b15 b16 b17 b18 b19 R, L = b0 :: b1 :: b2 :: b3 :: b4 :: b5 :: b6 :: b7 :: b8 :: b9 :: b10 :: b11 :: b12 :: b13 :: b14 :: b15 :: b16 :: b17 :: b18 :: b19 :: R := by
  obtain ⟨b0, b1, b2, b3, b4, b5, b6, b7, R, rfl⟩ := len8 (L := L) (by omega)
  simp only [List.length_cons] at h
  obtain ⟨b8, b9, b10, b11, b12, b13, b14, b15, R, rfl⟩ := len8 (L := R) (by omega)
  simp only [List.length_cons] at h
  obtain ⟨b16, b17, b18, b19, R, rfl⟩ := len4 (L := R) (by omega)
  exact ⟨_, _, _, _, _, _, _, _, _, _, _, _, _, _, _, _, _, _, _, _, _, rfl⟩
theorem gotU_back {fr to ln sm : Nat} (u1 : fr < 65536) (u2 : to < 65536) (u3 : ln < 65536) (u4 : sm < 65536) {us R : List UInt8} (hl : ln = 8 + us.length) : gotU (udpL fr to ln sm us ++ R) = ⟨fr, to, ln, sm, us, 0⟩ := by
  have e : udpL fr to ln sm us ++ R = UInt8.ofNat (fr / 256) :: UInt8.ofNat (fr % 256) :: UInt8.ofNat (to / 256) :: UInt8.ofNat (to % 256) :: UInt8.ofNat (ln / 256) :: UInt8.ofNat (ln % 256) :: UInt8.ofNat (sm / 256) :: UInt8.ofNat (sm % 256) :: (us ++ R) := by
    simp [udpL, twosL, twoL]
  rw [e]
  generalize hL : UInt8.ofNat (fr / 256) :: UInt8.ofNat (fr % 256) :: UInt8.ofNat (to / 256) :: UInt8.ofNat (to % 256) :: UInt8.ofNat (ln / 256) :: UInt8.ofNat (ln % 256) :: UInt8.ofNat (sm / 256) :: UInt8.ofNat (sm % 256) :: (us ++ R) = L
  have n0 : num L 0 2 = fr := by rw [← hL]; exact (by simpa [num, numL] using two_back u1)
  have n2 : num L 2 2 = to := by rw [← hL]; exact (by simpa [num, numL] using two_back u2)
  have n4 : num L 4 2 = ln := by rw [← hL]; exact (by simpa [num, numL] using two_back u3)
  have n6 : num L 6 2 = sm := by rw [← hL]; exact (by simpa [num, numL] using two_back u4)
  have hlen : L.length = 8 + us.length + R.length := by rw [← hL]; simp; omega
  rw [gotU, if_neg (by omega), n4, if_neg (by omega), if_neg (by omega), n0, n2, n6]
  have : (L.drop 8).take (ln - 8) = us := by
    rw [← hL]; simp [hl]
  rw [this]
theorem gotU_again {L : List UInt8} (he : (gotU L).e = 0) : (gotU L).ln = 8 + (gotU L).bs.length ∧ (gotU L).ln ≤ L.length ∧ udpL (gotU L).fr (gotU L).to (gotU L).ln (gotU L).sm (gotU L).bs = L.take (gotU L).ln := by
  unfold gotU at he ⊢
  split at he
  · simp at he
  · rename_i h1
    rw [if_neg h1]
    split at he
    · simp at he
    · rename_i h2
      rw [if_neg h2]
      split at he
      · simp at he
      · rename_i h3
        rw [if_neg h3]
        obtain ⟨b0, b1, b2, b3, b4, b5, b6, b7, R, rfl⟩ := len8 (L := L) (by omega)
        simp only [List.length_cons] at h3
        have n0 : num (b0 :: b1 :: b2 :: b3 :: b4 :: b5 :: b6 :: b7 :: R) 0 2 = 256 * b0.toNat + b1.toNat := by simp [num, numL]
        have n2 : num (b0 :: b1 :: b2 :: b3 :: b4 :: b5 :: b6 :: b7 :: R) 2 2 = 256 * b2.toNat + b3.toNat := by simp [num, numL]
        have n4 : num (b0 :: b1 :: b2 :: b3 :: b4 :: b5 :: b6 :: b7 :: R) 4 2 = 256 * b4.toNat + b5.toNat := by simp [num, numL]
        have n6 : num (b0 :: b1 :: b2 :: b3 :: b4 :: b5 :: b6 :: b7 :: R) 6 2 = 256 * b6.toNat + b7.toNat := by simp [num, numL]
        simp only [n0, n2, n4, n6] at h2 h3 ⊢
        refine ⟨by simp; omega, by simp; omega, ?_⟩
        obtain ⟨k, hk⟩ : ∃ k, 256 * b4.toNat + b5.toNat = 8 + k := ⟨256 * b4.toNat + b5.toNat - 8, by omega⟩
        have e4 : twoL (256 * b4.toNat + b5.toNat) = [b4, b5] := two_num
        simp only [udpL, twosL, List.flatMap_cons, List.flatMap_nil, two_num]
        rw [hk]
        simp
        rw [show 8 + k = k + 1 + 1 + 1 + 1 + 1 + 1 + 1 + 1 by omega]
        simp only [List.take_succ_cons]
theorem four_back {w : Nat} (hw : w < 4294967296) : 256 * (256 * (256 * (UInt8.ofNat (w / 65536 / 256)).toNat + (UInt8.ofNat (w / 65536 % 256)).toNat) + (UInt8.ofNat (w % 65536 / 256)).toNat) + (UInt8.ofNat (w % 65536 % 256)).toNat = w := by
  simp
  omega
theorem four_num {a b c d : UInt8} : fourL (256 * (256 * (256 * a.toNat + b.toNat) + c.toNat) + d.toNat) = [a, b, c, d] := by
  have ha := a.toNat_lt
  have hb := b.toNat_lt
  have hc := c.toNat_lt
  have hd := d.toNat_lt
  simp only [fourL, twosL, List.flatMap_cons, List.flatMap_nil, List.append_nil]
  rw [show (256 * (256 * (256 * a.toNat + b.toNat) + c.toNat) + d.toNat) / 65536 = 256 * a.toNat + b.toNat by omega, show (256 * (256 * (256 * a.toNat + b.toNat) + c.toNat) + d.toNat) % 65536 = 256 * c.toNat + d.toNat by omega, two_num, two_num]
  rfl
theorem gotT_back {t : TcpN} (ht : t.ok) {os bs : List UInt8} (h1 : t.odd ≤ 15) (h2 : os.length ≤ 40) (h3 : os.length % 4 = 0) : gotT (tcpL t os bs) = ⟨t, os, bs, 0⟩ := by
  obtain ⟨fr, to, seq, ack, odd, flags, window, sum, urgent⟩ := t
  obtain ⟨t1, t2, t3, t4, t5, t6, t7, t8, t9⟩ := ht
  simp only at t1 t2 t3 t4 t5 t6 t7 t8 t9 h1
  generalize hL : tcpL ⟨fr, to, seq, ack, odd, flags, window, sum, urgent⟩ os bs = L
  simp only [tcpL, twosL, foursL, fourL, twoL, List.flatMap_cons, List.flatMap_nil, List.append_nil, List.cons_append, List.nil_append] at hL
  have n0 : num L 0 2 = fr := by rw [← hL]; exact (by simpa [num, numL] using two_back t1)
  have n2 : num L 2 2 = to := by rw [← hL]; exact (by simpa [num, numL] using two_back t2)
  have n4 : num L 4 4 = seq := by rw [← hL]; exact (by simpa [num, numL] using four_back t3)
  have n8 : num L 8 4 = ack := by rw [← hL]; exact (by simpa [num, numL] using four_back t4)
  have n12 : num L 12 1 = (5 + os.length / 4) * 16 + odd := by rw [← hL]; simp [num, numL, wordsL]; omega
  have n13 : num L 13 1 = flags := by rw [← hL]; simp [num, numL]; omega
  have n14 : num L 14 2 = window := by rw [← hL]; exact (by simpa [num, numL] using two_back t7)
  have n16 : num L 16 2 = sum := by rw [← hL]; exact (by simpa [num, numL] using two_back t8)
  have n18 : num L 18 2 = urgent := by rw [← hL]; exact (by simpa [num, numL] using two_back t9)
  have hlen : L.length = 20 + os.length + bs.length := by rw [← hL]; simp; omega
  have hw : num L 12 1 / 16 = 5 + os.length / 4 := by omega
  have hw4 : 4 * (5 + os.length / 4) = 20 + os.length := by omega
  rw [gotT, if_neg (by omega), hw, if_neg (by omega), if_neg (by omega), n0, n2, n4, n8, n12, n13, n14, n16, n18, hw4]
  have e1 : (L.drop 20).take (20 + os.length - 20) = os := by
    rw [← hL]; simp
  have e2 : L.drop (20 + os.length) = bs := by
    rw [← hL, show 20 + os.length = os.length + 20 by omega]; simp
  rw [e1, e2, show ((5 + os.length / 4) * 16 + odd) % 16 = odd by omega]
theorem gotT_ok (L : List UInt8) : (gotT L).t.ok := by
  have z : tcpZ.ok := ⟨by decide, by decide, by decide, by decide, by decide, by decide, by decide, by decide, by decide⟩
  unfold gotT
  split
  · exact z
  · split
    · exact z
    · split
      · exact z
      · exact ⟨num_lt L 0 2, num_lt L 2 2, num_lt L 4 4, num_lt L 8 4, by simp only; omega, num_lt L 13 1, num_lt L 14 2, num_lt L 16 2, num_lt L 18 2⟩
theorem gotU_lt (L : List UInt8) : (gotU L).fr < 65536 ∧ (gotU L).to < 65536 ∧ (gotU L).ln < 65536 ∧ (gotU L).sm < 65536 := by
  unfold gotU
  split
  · decide
  · split
    · decide
    · split
      · decide
      · exact ⟨num_lt L 0 2, num_lt L 2 2, num_lt L 4 2, num_lt L 6 2⟩
theorem gotT_again {L : List UInt8} (he : (gotT L).e = 0) : tcpOk (gotT L).t (gotT L).os = true ∧ tcpL (gotT L).t (gotT L).os (gotT L).bs = L := by
  unfold gotT at he ⊢
  split at he
  · simp at he
  · rename_i h1
    rw [if_neg h1]
    split at he
    · simp at he
    · rename_i h2
      rw [if_neg h2]
      split at he
      · simp at he
      · rename_i h3
        rw [if_neg h3]
        obtain ⟨b0, b1, b2, b3, b4, b5, b6, b7, b8, b9, b10, b11, b12, b13, b14, b15, b16, b17, b18, b19, R, hL⟩ := len20 (L := L) (by omega)
        have h12 := b12.toNat_lt
        have n0 : num L 0 2 = 256 * b0.toNat + b1.toNat := by rw [hL]; simp [num, numL]
        have n2 : num L 2 2 = 256 * b2.toNat + b3.toNat := by rw [hL]; simp [num, numL]
        have n4 : num L 4 4 = 256 * (256 * (256 * b4.toNat + b5.toNat) + b6.toNat) + b7.toNat := by rw [hL]; simp [num, numL]
        have n8 : num L 8 4 = 256 * (256 * (256 * b8.toNat + b9.toNat) + b10.toNat) + b11.toNat := by rw [hL]; simp [num, numL]
        have n12 : num L 12 1 = b12.toNat := by rw [hL]; simp [num, numL]
        have n13 : num L 13 1 = b13.toNat := by rw [hL]; simp [num, numL]
        have n14 : num L 14 2 = 256 * b14.toNat + b15.toNat := by rw [hL]; simp [num, numL]
        have n16 : num L 16 2 = 256 * b16.toNat + b17.toNat := by rw [hL]; simp [num, numL]
        have n18 : num L 18 2 = 256 * b18.toNat + b19.toNat := by rw [hL]; simp [num, numL]
        have hlen : L.length = 20 + R.length := by rw [hL]; simp; omega
        simp only [n0, n2, n4, n8, n12, n13, n14, n16, n18] at h2 h3 ⊢
        have ho : ((L.drop 20).take (4 * (b12.toNat / 16) - 20)).length = 4 * (b12.toNat / 16) - 20 := by simp; omega
        have e1 : wordsL ((L.drop 20).take (4 * (b12.toNat / 16) - 20)) (b12.toNat % 16) = b12 := by
          unfold wordsL
          rw [ho, show (5 + (4 * (b12.toNat / 16) - 20) / 4) * 16 + b12.toNat % 16 = b12.toNat by omega]
          simp
        refine ⟨?_, ?_⟩
        · simp only [tcpOk, ho, Bool.and_eq_true, decide_eq_true_eq, beq_iff_eq]
          omega
        · simp only [tcpL, e1, twosL, foursL, List.flatMap_cons, List.flatMap_nil, two_num, four_num]
          have e2 : (L.drop 20).take (4 * (b12.toNat / 16) - 20) ++ L.drop (4 * (b12.toNat / 16)) = R := by
            have : L.drop (4 * (b12.toNat / 16)) = (L.drop 20).drop (4 * (b12.toNat / 16) - 20) := by rw [List.drop_drop]; congr 1; omega
            rw [this, List.take_append_drop, hL]; rfl
          rw [List.append_assoc, e2, hL]
          simp
end
end Go.Proofs.YtkaibjdogeikbaaDoor.Am
