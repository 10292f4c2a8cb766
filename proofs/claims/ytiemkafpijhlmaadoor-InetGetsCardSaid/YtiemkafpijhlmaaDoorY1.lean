/- Contracts of the program's functions (Y1). -/
import Derived.Test.YtiemkafpijhlmaaDoorX4
namespace Go.Proofs.YtiemkafpijhlmaaDoor.Am
noncomputable section
/- CONTRACTS: heads that are the same; what is got, cut and read, right or wrong. -/
set_option maxRecDepth 20000 in
set_option maxHeartbeats 4000000 in
theorem same_ret {t : HdN} {v1 v2 : Value} {os : List UInt8} {h : AHeap} {n : Nat} (h1 : BS h v1 os) (h2 : BS h v2 os) (hw : WF h n) : Ret EV06 30 [hdV t v1, hdV t v2] h n (.bool true) [] (n + 2) := by
  have hb0 : bytesOf? [] = some [] := rfl
  cases h1 with
  | nil => cases h2 with
    | nil =>
      refine rsx30 (by simp) (by simp) ?_
      simp -dsimp (discharger := omega) [B30]
      repeat (refine HSub.new ?_ hw (by omega) _)
      exact .refl _
    | @mk i o w k _ hr =>
      refine rsx30 (by simp) (by simp) ?_
      try simp only [List.length_nil] at hr
      have ihr := read_lt hw hr
      simp -dsimp (discharger := omega) [B30, hb0, hr]
      repeat (refine HSub.new ?_ hw (by omega) _)
      exact .refl _
  | @mk i o w k _ hr => cases h2 with
    | nil =>
      refine rsx30 (by simp) (by simp) ?_
      try simp only [List.length_nil] at hr
      have ihr := read_lt hw hr
      simp -dsimp (discharger := omega) [B30, hb0, hr]
      repeat (refine HSub.new ?_ hw (by omega) _)
      exact .refl _
    | @mk i2 o2 w2 k2 _ hr2 =>
      refine rsx30 (by simp) (by simp) ?_
      try simp only [List.length_nil] at hr hr2
      have ihr := read_lt hw hr
      have ihr2 := read_lt hw hr2
      simp -dsimp (discharger := omega) [B30, hr, hr2]
      repeat (refine HSub.new ?_ hw (by omega) _)
      exact .refl _
def getT (bs : List UInt8) : HdN := if getE bs = 0 then hdOf bs else hd0
def getO (bs : List UInt8) : List UInt8 := if getE bs = 0 then optsOf bs else []
def getY (bs : List UInt8) : List UInt8 := if getE bs = 0 then bodyOf bs else []
theorem get_call {bs : List UInt8} {v : Value} {h : AHeap} (hb : BS h v bs) (hl : bs.length < 100000) {n : Nat} (hw : WF h n) {K : Value → AHeap → Nat → Prop} {tk : Tok K}
    (hK : ∀ (a a2 : Option Addr) (k k2 : Nat) (H : AHeap) (m : Nat), (∀ X : AHeap, (∀ i b, n ≤ i → H.get i = some b → X.get i = some b) → BS X (.slice a (getO bs).length k) (getO bs)) → (∀ X : AHeap, (∀ i b, n ≤ i → H.get i = some b → X.get i = some b) → BS X (.slice a2 (getY bs).length k2) (getY bs)) → HSub h H → WF H m → n ≤ m → m ≤ n + 10 → K (.tuple #[hdV (getT bs) (.slice a (getO bs).length k), .slice a2 (getY bs).length k2, .int .i64 (getE bs : Int)]) H m) : HasCallT EV06 27 [v] h n K tk := by
  by_cases c : getE bs = 0
  · have e1 : getT bs = hdOf bs := by rw [getT, if_pos c]
    have e2 : getO bs = optsOf bs := by rw [getO, if_pos c]
    have e3 : getY bs = bodyOf bs := by rw [getY, if_pos c]
    rw [e1, e2, e3, c] at hK
    refine call_ret ((get_ret hb hl hw).2 c) (hK _ _ _ _ _ _ (fun X hX => bs_new (m := 0) (hX _ _ (by omega) (by simp (discharger := omega))) (Nat.zero_le _)) (fun X hX => bs_new (m := 0) (hX _ _ (by omega) (by simp)) (Nat.zero_le _)) ?_ ?_ (by omega) (by omega))
    · simp only [putsL]
      repeat (refine HSub.new ?_ hw (by omega) _)
      exact .refl _
    · exact .of fun j hj => by simp (discharger := omega) [hw.none (i := j) (by omega)]
  · have e1 : getT bs = hd0 := by rw [getT, if_neg c]
    have e2 : getO bs = [] := by rw [getO, if_neg c]
    have e3 : getY bs = [] := by rw [getY, if_neg c]
    rw [e1, e2, e3] at hK
    exact call_ret ((get_ret hb hl hw).1 c) (hK _ _ _ _ _ _ (fun _ _ => .nil) (fun _ _ => .nil) (.refl _) (hw.mono (by omega)) (by omega) (by omega))
def cutT (bs : List UInt8) : HdN := if cutE bs = 0 then hdOf bs else hd0
def cutO (bs : List UInt8) : List UInt8 := if cutE bs = 0 then optsOf bs else []
def cutY (bs : List UInt8) : List UInt8 := if cutE bs = 0 then bodyOf bs else []
theorem cut_call {bs : List UInt8} {v : Value} {h : AHeap} (hb : BS h v bs) (hl : bs.length < 100000) {n : Nat} (hw : WF h n) {K : Value → AHeap → Nat → Prop} {tk : Tok K}
    (hK : ∀ (a a2 : Option Addr) (k k2 : Nat) (H : AHeap) (m : Nat), (∀ X : AHeap, (∀ i b, n ≤ i → H.get i = some b → X.get i = some b) → BS X (.slice a (cutO bs).length k) (cutO bs)) → (∀ X : AHeap, (∀ i b, n ≤ i → H.get i = some b → X.get i = some b) → BS X (.slice a2 (cutY bs).length k2) (cutY bs)) → HSub h H → WF H m → n ≤ m → m ≤ n + 10 → K (.tuple #[hdV (cutT bs) (.slice a (cutO bs).length k), .slice a2 (cutY bs).length k2, .int .i64 (cutE bs : Int)]) H m) : HasCallT EV06 28 [v] h n K tk := by
  by_cases c : cutE bs = 0
  · have e1 : cutT bs = hdOf bs := by rw [cutT, if_pos c]
    have e2 : cutO bs = optsOf bs := by rw [cutO, if_pos c]
    have e3 : cutY bs = bodyOf bs := by rw [cutY, if_pos c]
    rw [e1, e2, e3, c] at hK
    refine call_ret (cut_ok hb hl c hw) (hK _ _ _ _ _ _ (fun X hX => bs_new (m := 0) (hX _ _ (by omega) (by simp (discharger := omega))) (Nat.zero_le _)) (fun X hX => bs_new (m := 0) (hX _ _ (by omega) (by simp)) (Nat.zero_le _)) ?_ ?_ (by omega) (by omega))
    · simp only [putsL]
      repeat (refine HSub.new ?_ hw (by omega) _)
      exact .refl _
    · exact .of fun j hj => by simp (discharger := omega) [hw.none (i := j) (by omega)]
  · have e1 : cutT bs = hd0 := by rw [cutT, if_neg c]
    have e2 : cutO bs = [] := by rw [cutO, if_neg c]
    have e3 : cutY bs = [] := by rw [cutY, if_neg c]
    rw [e1, e2, e3] at hK
    exact call_ret (cut_bad hb hl c hw) (hK _ _ _ _ _ _ (fun _ _ => .nil) (fun _ _ => .nil) (.refl _) (hw.mono (by omega)) (by omega) (by omega))
theorem read_call {bs : List UInt8} {v : Value} {h : AHeap} (hb : BS h v bs) (hl : bs.length < 100000) (w : Bool) {n : Nat} (hw : WF h n) {K : Value → AHeap → Nat → Prop} {tk : Tok K}
    (hK : ∀ (a a2 : Option Addr) (k k2 : Nat), BS h (.slice a (if w then getO bs else cutO bs).length k) (if w then getO bs else cutO bs) → BS h (.slice a2 (if w then getY bs else cutY bs).length k2) (if w then getY bs else cutY bs) → K (.tuple #[hdV (if w then getT bs else cutT bs) (.slice a (if w then getO bs else cutO bs).length k), .slice a2 (if w then getY bs else cutY bs).length k2, .int .i64 ((if w then getE bs else cutE bs : Nat) : Int)]) h (n + 10)) : HasCallT EV06 29 [v, .bool w] h n K tk := by
  have eT : (if w then getT bs else cutT bs) = if readE w bs = 0 then hdOf bs else hd0 := by cases w <;> rfl
  have eO : (if w then getO bs else cutO bs) = if readE w bs = 0 then optsOf bs else [] := by cases w <;> rfl
  have eB : (if w then getY bs else cutY bs) = if readE w bs = 0 then bodyOf bs else [] := by cases w <;> rfl
  have eE : (if w then getE bs else cutE bs) = readE w bs := by cases w <;> rfl
  rw [eT, eO, eB, eE] at hK
  by_cases h20 : bs.length < 20
  · obtain ⟨e, hR⟩ := read_short hb h20 w hw
    rw [e] at hK
    rw [if_neg (by decide), if_neg (by decide), if_neg (by decide)] at hK
    exact call_ret hR (hK _ _ _ _ .nil .nil)
  · cases hb with
    | nil => simp at h20
    | @mk i o g k _ hr =>
      obtain ⟨hbad, hok⟩ := read_ret (k := k) hr (by omega) hl w hw
      by_cases c : readE w bs = 0
      · have hc : cutE bs = 0 := by
          cases w with
          | false => exact c
          | true =>
            have c : getE bs = 0 := c
            unfold getE at c
            by_cases hc : cutE bs = 0
            · exact hc
            · rw [if_neg hc] at c; exact absurd c hc
        obtain ⟨b1, b2, b3, b4, b5⟩ := beg_ok (cut_beg hc)
        have rop := bs_sub hr b2 b3
        have lsm : (bs.take (hlN bs)).length = hlN bs := by rw [List.length_take]; omega
        have lop : (optsOf bs).length = hlN bs - 20 := by rw [optsOf, List.length_drop, lsm]
        have rbd := bs_sub hr (a := hlN bs) (b := min (wN bs 2) bs.length) (by omega) (by omega)
        have lbd : (bodyOf bs).length = min (wN bs 2) bs.length - hlN bs := by rw [bodyOf, List.length_drop, List.length_take]; omega
        rw [c] at hK
        rw [if_pos rfl, if_pos rfl, if_pos rfl] at hK
        refine call_ret (hok c) (hK _ _ _ _ (bs_at rfl ?_) (bs_at rfl ?_))
        · rw [lop]; exact rop
        · rw [lbd]; exact rbd
      · rw [if_neg c, if_neg c, if_neg c] at hK
        exact call_ret (hbad c) (hK _ _ _ _ .nil .nil)
theorem read_callT {bs : List UInt8} {v : Value} {h : AHeap} (hb : BS h v bs) (hl : bs.length < 100000) {n : Nat} (hw : WF h n) {K : Value → AHeap → Nat → Prop} {tk : Tok K}
    (hK : ∀ (a a2 : Option Addr) (k k2 : Nat), BS h (.slice a (getO bs).length k) (getO bs) → BS h (.slice a2 (getY bs).length k2) (getY bs) → K (.tuple #[hdV (getT bs) (.slice a (getO bs).length k), .slice a2 (getY bs).length k2, .int .i64 ((getE bs : Nat) : Int)]) h (n + 10)) : HasCallT EV06 29 [v, .bool true] h n K tk := read_call hb hl true hw hK
theorem read_callF {bs : List UInt8} {v : Value} {h : AHeap} (hb : BS h v bs) (hl : bs.length < 100000) {n : Nat} (hw : WF h n) {K : Value → AHeap → Nat → Prop} {tk : Tok K}
    (hK : ∀ (a a2 : Option Addr) (k k2 : Nat), BS h (.slice a (cutO bs).length k) (cutO bs) → BS h (.slice a2 (cutY bs).length k2) (cutY bs) → K (.tuple #[hdV (cutT bs) (.slice a (cutO bs).length k), .slice a2 (cutY bs).length k2, .int .i64 ((cutE bs : Nat) : Int)]) h (n + 10)) : HasCallT EV06 29 [v, .bool false] h n K tk := read_call hb hl false hw hK
end
end Go.Proofs.YtiemkafpijhlmaaDoor.Am
namespace Go.Proofs.YtiemkafpijhlmaaDoor.Am
noncomputable section
/- THE LAW's WALK: heads got; the loop, the last region. -/
def XoInv (L q : Nat) (v0 v4 v5 v6 v7 v8 v9 : Value) (h0 : AHeap) (n0 : Nat) (r : Nat) (σ : Fr) (h : AHeap) (n : Nat) : Prop :=
  n = n0 ∧ ∃ (j : Nat) (l : List UInt8), j + r = L ∧ l.length = L ∧ h.get q = some (.cells (some 5) (u8s l) L) ∧ (∀ i, ¬ i = q → h.get i = h0.get i) ∧
    σ = [(0, v0), (3, .slice (some ⟨q, 0, some L⟩) L 2), (4, v4), (5, v5), (6, v6), (7, v7), (8, v8), (9, v9), (10, .int .i64 (j : Int))]
def XoPost (v0 v4 v5 v6 v7 v8 v9 : Value) (q : Nat) (h0 : AHeap) (n0 : Nat) (e : Ex) (σ' : Fr) (h' : AHeap) (n' : Nat) : Prop :=
  e = .exit 0 ∧ n' = n0 ∧ (∀ i, ¬ i = q → h'.get i = h0.get i) ∧ σ'.get 0 = some v0 ∧ σ'.get 4 = some v4 ∧ σ'.get 5 = some v5 ∧ σ'.get 6 = some v6 ∧ σ'.get 7 = some v7 ∧ σ'.get 8 = some v8 ∧ σ'.get 9 = some v9
theorem xo_loop {L q : Nat} (hL : L < 100000) {v0 v4 v5 v6 v7 v8 v9 : Value} {h0 : AHeap} {n0 : Nat} (hq : q < n0) :
    ∀ (r : Nat) (σ : Fr) (h : AHeap) (n : Nat), XoInv L q v0 v4 v5 v6 v7 v8 v9 h0 n0 r σ h n → HasCode EV06 (.loop F6L0) σ h n (XoPost v0 v4 v5 v6 v7 v8 v9 q h0 n0) := by
  refine wx_inv _ fun r σ h n hI => ?_
  obtain ⟨rfl, j, l, hj, hl, hc, ho, rfl⟩ := hI
  have hul : (u8s l).length = L := by rw [u8s_length, hl]
  cases r with
  | zero =>
    simp -dsimp (discharger := omega) [F6L0]
    exact ⟨rfl, rfl, ho, by simp⟩
  | succ r =>
    have hlt : j < l.length := by omega
    have hx := List.getElem?_eq_getElem hlt
    generalize l[j] = a at hx
    have ha := a.toNat_lt
    have hrd : h.read q L j 1 = some [.int .u8 (a.toNat : Int)] := by
      have := bs_one (h := h) (i := q) (o := 0) (g := L) (vs := l) (by rw [AHeap.read_of hc]; simp [hl]; exact List.take_of_length_le (by simp [hl])) hx
      simpa using this
    have hxl : a.toNat ^^^ 255 < 256 := Nat.xor_lt_two_pow (n := 8) (by omega) (by omega)
    have hb : xorI .u8 (a.toNat : Int) 255 = ((UInt8.ofNat (a.toNat ^^^ 255)).toNat : Int) := by
      have := xorN (k := .u8) rfl (x := a.toNat) (y := 255) ha (by decide)
      rw [UInt8.toNat_ofNat', Nat.mod_eq_of_lt hxl]; exact this
    have cs := cset (l := l) (i := j) hlt (UInt8.ofNat (a.toNat ^^^ 255))
    have hll : (l.set j (UInt8.ofNat (a.toNat ^^^ 255))).length = L := by rw [List.length_set, hl]
    generalize UInt8.ofNat (a.toNat ^^^ 255) = c at *
    simp -dsimp (discharger := omega) [F6L0, hrd, hc, hul, cs, hb]
    exact .mk' r (by omega) [(0, v0), (3, .slice (some ⟨q, 0, some L⟩) L 2), (4, v4), (5, v5), (6, v6), (7, v7), (8, v8), (9, v9), (10, .int .i64 ((j + 1 : Nat) : Int))] _ (by simp) (.refl _) ⟨rfl, j + 1, l.set j c, by omega, hll, by rw [AHeap.get_put_same], fun i hi => by rw [AHeap.get_put_ne _ _ (fun e => hi e.symm)]; exact ho i hi, rfl⟩
set_option maxHeartbeats 8000000 in
theorem r6_0 {t s : HdN} {σ : Fr} {H : AHeap} {n p4 p7 p11 p14 l4 l7 l11 l14 k4 k7 k11 k14 : Nat} {a4 a7 a11 a14 : Option Addr} {v5 v12 v8 v15 : Value} {os1 os2 b1 b2 : List UInt8} {e1 e2 : Int}
    (x4 : H.get p4 = some (.cells (some 47) [.int .u8 (t.tos : Int), .int .u8 (t.ttl : Int), .int .u8 (t.proto : Int), .int .u16 (t.id : Int), .bool t.evil, .bool t.df, .bool t.more, .int .i64 t.off, .int .u32 (t.src : Int), .int .u32 (t.dst : Int), .slice a4 l4 k4] 11)) (x11 : H.get p11 = some (.cells (some 53) [.int .u8 (t.tos : Int), .int .u8 (t.ttl : Int), .int .u8 (t.proto : Int), .int .u16 (t.id : Int), .bool t.evil, .bool t.df, .bool t.more, .int .i64 t.off, .int .u32 (t.src : Int), .int .u32 (t.dst : Int), .slice a11 l11 k11] 11)) (x7 : H.get p7 = some (.cells (some 47) [.int .u8 (s.tos : Int), .int .u8 (s.ttl : Int), .int .u8 (s.proto : Int), .int .u16 (s.id : Int), .bool s.evil, .bool s.df, .bool s.more, .int .i64 s.off, .int .u32 (s.src : Int), .int .u32 (s.dst : Int), .slice a7 l7 k7] 11)) (x14 : H.get p14 = some (.cells (some 53) [.int .u8 (s.tos : Int), .int .u8 (s.ttl : Int), .int .u8 (s.proto : Int), .int .u16 (s.id : Int), .bool s.evil, .bool s.df, .bool s.more, .int .i64 s.off, .int .u32 (s.src : Int), .int .u32 (s.dst : Int), .slice a14 l14 k14] 11)) (n4 : p4 < n) (n7 : p7 < n) (n11 : p11 < n) (n14 : p14 < n)
    (o4 : BS H (.slice a4 l4 k4) os1) (o11 : BS H (.slice a11 l11 k11) os1) (o7 : BS H (.slice a7 l7 k7) os2) (o14 : BS H (.slice a14 l14 k14) os2)
    (h5 : BS H v5 b1) (h12 : BS H v12 b1) (h8 : BS H v8 b2) (h15 : BS H v15 b2)
    (g4 : σ.get 4 = some (.pointer (some ⟨p4, 0, some 11⟩))) (g11 : σ.get 11 = some (.pointer (some ⟨p11, 0, some 11⟩))) (g7 : σ.get 7 = some (.pointer (some ⟨p7, 0, some 11⟩))) (g14 : σ.get 14 = some (.pointer (some ⟨p14, 0, some 11⟩)))
    (g5 : σ.get 5 = some v5) (g12 : σ.get 12 = some v12) (g8 : σ.get 8 = some v8) (g15 : σ.get 15 = some v15) (g6 : σ.get 6 = some (.int .i64 e1)) (g13 : σ.get 13 = some (.int .i64 e1)) (g9 : σ.get 9 = some (.int .i64 e2)) (g16 : σ.get 16 = some (.int .i64 e2))
    (hw : WF H n) (hp : HasPow H) (he : HasErrs H) (hn : 4096 ≤ n) :
    wx EV06 R6_0 σ H n (kThen EV06 .ret (Done [.tmp 2] fun v _ _ => v = .bool true) ⟨⟩) ⟨⟩ := by
  have hb0 : bytesOf? [] = some [] := rfl
  have r4 := AHeap.read_of (g := 11) (o := 0) (m := 11) x4
  have r7 := AHeap.read_of (g := 11) (o := 0) (m := 11) x7
  have r11 := AHeap.read_of (g := 11) (o := 0) (m := 11) x11
  have r14 := AHeap.read_of (g := 11) (o := 0) (m := 11) x14
  have f4 : ∀ {m : Nat}, n ≤ m → Ret EV06 22 [hdV t (.slice a4 l4 k4)] H m (hdV t (.slice a4 l4 k4)) [] (m + 2) := fun {m} hm => of_ret t (hw.mono hm)
  have f7 : ∀ {m : Nat}, n ≤ m → Ret EV06 22 [hdV s (.slice a7 l7 k7)] H m (hdV s (.slice a7 l7 k7)) [] (m + 2) := fun {m} hm => of_ret s (hw.mono hm)
  have s1 : ∀ {m : Nat}, n ≤ m → Ret EV06 30 [hdV t (.slice a4 l4 k4), hdV t (.slice a11 l11 k11)] H m (.bool true) [] (m + 2) := fun {m} hm => same_ret o4 o11 (hw.mono hm)
  have s2 : ∀ {m : Nat}, n ≤ m → Ret EV06 30 [hdV s (.slice a7 l7 k7), hdV s (.slice a14 l14 k14)] H m (.bool true) [] (m + 2) := fun {m} hm => same_ret o7 o14 (hw.mono hm)
  have hT : ∀ {m : Nat}, n ≤ m → Ret EV06 19 [] H m (.bool true) [] (m + 100) := fun {m} hm => tells_ret (hw.mono hm) hp he (by omega)
  cases h5 with
  | nil =>
    cases h12 with
    | nil =>
      cases h8 with
      | nil =>
        cases h15 with
        | nil =>
          simp -dsimp (discharger := omega) [g4, r4]
          with_reducible refine ret_ret (f4 (Nat.le_refl _)) ?_
          simp -dsimp (discharger := omega) [g11, r11]
          with_reducible refine ret_ret (s1 (by omega)) ?_
          simp -dsimp (discharger := omega) [g5, g6, g7, g12, g13, r7]
          with_reducible refine ret_ret (f7 (by omega)) ?_
          simp -dsimp (discharger := omega) [g14, r14]
          with_reducible refine ret_ret (s2 (by omega)) ?_
          simp -dsimp (discharger := omega) [g8, g9, g15, g16]
          with_reducible refine ret_ret (hT (by omega)) ?_
          simp -dsimp (discharger := omega) []
        | @mk i15 q15 w15 c15 _ hr15 =>
          try simp only [List.length_nil] at hr15
          simp -dsimp (discharger := omega) [g4, r4]
          with_reducible refine ret_ret (f4 (Nat.le_refl _)) ?_
          simp -dsimp (discharger := omega) [g11, r11]
          with_reducible refine ret_ret (s1 (by omega)) ?_
          simp -dsimp (discharger := omega) [g5, g6, g7, g12, g13, r7]
          with_reducible refine ret_ret (f7 (by omega)) ?_
          simp -dsimp (discharger := omega) [g14, r14]
          with_reducible refine ret_ret (s2 (by omega)) ?_
          simp -dsimp (discharger := omega) [g8, g9, g15, g16, hb0, hr15]
          with_reducible refine ret_ret (hT (by omega)) ?_
          simp -dsimp (discharger := omega) []
      | @mk i8 q8 w8 c8 _ hr8 =>
        cases h15 with
        | nil =>
          try simp only [List.length_nil] at hr8
          simp -dsimp (discharger := omega) [g4, r4]
          with_reducible refine ret_ret (f4 (Nat.le_refl _)) ?_
          simp -dsimp (discharger := omega) [g11, r11]
          with_reducible refine ret_ret (s1 (by omega)) ?_
          simp -dsimp (discharger := omega) [g5, g6, g7, g12, g13, r7]
          with_reducible refine ret_ret (f7 (by omega)) ?_
          simp -dsimp (discharger := omega) [g14, r14]
          with_reducible refine ret_ret (s2 (by omega)) ?_
          simp -dsimp (discharger := omega) [g8, g9, g15, g16, hb0, hr8]
          with_reducible refine ret_ret (hT (by omega)) ?_
          simp -dsimp (discharger := omega) []
        | @mk i15 q15 w15 c15 _ hr15 =>
          try simp only [List.length_nil] at hr8
          try simp only [List.length_nil] at hr15
          simp -dsimp (discharger := omega) [g4, r4]
          with_reducible refine ret_ret (f4 (Nat.le_refl _)) ?_
          simp -dsimp (discharger := omega) [g11, r11]
          with_reducible refine ret_ret (s1 (by omega)) ?_
          simp -dsimp (discharger := omega) [g5, g6, g7, g12, g13, r7]
          with_reducible refine ret_ret (f7 (by omega)) ?_
          simp -dsimp (discharger := omega) [g14, r14]
          with_reducible refine ret_ret (s2 (by omega)) ?_
          simp -dsimp (discharger := omega) [g8, g9, g15, g16, hr8, hr15]
          with_reducible refine ret_ret (hT (by omega)) ?_
          simp -dsimp (discharger := omega) []
    | @mk i12 q12 w12 c12 _ hr12 =>
      cases h8 with
      | nil =>
        cases h15 with
        | nil =>
          try simp only [List.length_nil] at hr12
          simp -dsimp (discharger := omega) [g4, r4]
          with_reducible refine ret_ret (f4 (Nat.le_refl _)) ?_
          simp -dsimp (discharger := omega) [g11, r11]
          with_reducible refine ret_ret (s1 (by omega)) ?_
          simp -dsimp (discharger := omega) [g5, g6, g7, g12, g13, hb0, hr12, r7]
          with_reducible refine ret_ret (f7 (by omega)) ?_
          simp -dsimp (discharger := omega) [g14, r14]
          with_reducible refine ret_ret (s2 (by omega)) ?_
          simp -dsimp (discharger := omega) [g8, g9, g15, g16]
          with_reducible refine ret_ret (hT (by omega)) ?_
          simp -dsimp (discharger := omega) []
        | @mk i15 q15 w15 c15 _ hr15 =>
          try simp only [List.length_nil] at hr12
          try simp only [List.length_nil] at hr15
          simp -dsimp (discharger := omega) [g4, r4]
          with_reducible refine ret_ret (f4 (Nat.le_refl _)) ?_
          simp -dsimp (discharger := omega) [g11, r11]
          with_reducible refine ret_ret (s1 (by omega)) ?_
          simp -dsimp (discharger := omega) [g5, g6, g7, g12, g13, hb0, hr12, r7]
          with_reducible refine ret_ret (f7 (by omega)) ?_
          simp -dsimp (discharger := omega) [g14, r14]
          with_reducible refine ret_ret (s2 (by omega)) ?_
          simp -dsimp (discharger := omega) [g8, g9, g15, g16, hb0, hr15]
          with_reducible refine ret_ret (hT (by omega)) ?_
          simp -dsimp (discharger := omega) []
      | @mk i8 q8 w8 c8 _ hr8 =>
        cases h15 with
        | nil =>
          try simp only [List.length_nil] at hr12
          try simp only [List.length_nil] at hr8
          simp -dsimp (discharger := omega) [g4, r4]
          with_reducible refine ret_ret (f4 (Nat.le_refl _)) ?_
          simp -dsimp (discharger := omega) [g11, r11]
          with_reducible refine ret_ret (s1 (by omega)) ?_
          simp -dsimp (discharger := omega) [g5, g6, g7, g12, g13, hb0, hr12, r7]
          with_reducible refine ret_ret (f7 (by omega)) ?_
          simp -dsimp (discharger := omega) [g14, r14]
          with_reducible refine ret_ret (s2 (by omega)) ?_
          simp -dsimp (discharger := omega) [g8, g9, g15, g16, hb0, hr8]
          with_reducible refine ret_ret (hT (by omega)) ?_
          simp -dsimp (discharger := omega) []
        | @mk i15 q15 w15 c15 _ hr15 =>
          try simp only [List.length_nil] at hr12
          try simp only [List.length_nil] at hr8
          try simp only [List.length_nil] at hr15
          simp -dsimp (discharger := omega) [g4, r4]
          with_reducible refine ret_ret (f4 (Nat.le_refl _)) ?_
          simp -dsimp (discharger := omega) [g11, r11]
          with_reducible refine ret_ret (s1 (by omega)) ?_
          simp -dsimp (discharger := omega) [g5, g6, g7, g12, g13, hb0, hr12, r7]
          with_reducible refine ret_ret (f7 (by omega)) ?_
          simp -dsimp (discharger := omega) [g14, r14]
          with_reducible refine ret_ret (s2 (by omega)) ?_
          simp -dsimp (discharger := omega) [g8, g9, g15, g16, hr8, hr15]
          with_reducible refine ret_ret (hT (by omega)) ?_
          simp -dsimp (discharger := omega) []
  | @mk i5 q5 w5 c5 _ hr5 =>
    cases h12 with
    | nil =>
      cases h8 with
      | nil =>
        cases h15 with
        | nil =>
          try simp only [List.length_nil] at hr5
          simp -dsimp (discharger := omega) [g4, r4]
          with_reducible refine ret_ret (f4 (Nat.le_refl _)) ?_
          simp -dsimp (discharger := omega) [g11, r11]
          with_reducible refine ret_ret (s1 (by omega)) ?_
          simp -dsimp (discharger := omega) [g5, g6, g7, g12, g13, hb0, hr5, r7]
          with_reducible refine ret_ret (f7 (by omega)) ?_
          simp -dsimp (discharger := omega) [g14, r14]
          with_reducible refine ret_ret (s2 (by omega)) ?_
          simp -dsimp (discharger := omega) [g8, g9, g15, g16]
          with_reducible refine ret_ret (hT (by omega)) ?_
          simp -dsimp (discharger := omega) []
        | @mk i15 q15 w15 c15 _ hr15 =>
          try simp only [List.length_nil] at hr5
          try simp only [List.length_nil] at hr15
          simp -dsimp (discharger := omega) [g4, r4]
          with_reducible refine ret_ret (f4 (Nat.le_refl _)) ?_
          simp -dsimp (discharger := omega) [g11, r11]
          with_reducible refine ret_ret (s1 (by omega)) ?_
          simp -dsimp (discharger := omega) [g5, g6, g7, g12, g13, hb0, hr5, r7]
          with_reducible refine ret_ret (f7 (by omega)) ?_
          simp -dsimp (discharger := omega) [g14, r14]
          with_reducible refine ret_ret (s2 (by omega)) ?_
          simp -dsimp (discharger := omega) [g8, g9, g15, g16, hb0, hr15]
          with_reducible refine ret_ret (hT (by omega)) ?_
          simp -dsimp (discharger := omega) []
      | @mk i8 q8 w8 c8 _ hr8 =>
        cases h15 with
        | nil =>
          try simp only [List.length_nil] at hr5
          try simp only [List.length_nil] at hr8
          simp -dsimp (discharger := omega) [g4, r4]
          with_reducible refine ret_ret (f4 (Nat.le_refl _)) ?_
          simp -dsimp (discharger := omega) [g11, r11]
          with_reducible refine ret_ret (s1 (by omega)) ?_
          simp -dsimp (discharger := omega) [g5, g6, g7, g12, g13, hb0, hr5, r7]
          with_reducible refine ret_ret (f7 (by omega)) ?_
          simp -dsimp (discharger := omega) [g14, r14]
          with_reducible refine ret_ret (s2 (by omega)) ?_
          simp -dsimp (discharger := omega) [g8, g9, g15, g16, hb0, hr8]
          with_reducible refine ret_ret (hT (by omega)) ?_
          simp -dsimp (discharger := omega) []
        | @mk i15 q15 w15 c15 _ hr15 =>
          try simp only [List.length_nil] at hr5
          try simp only [List.length_nil] at hr8
          try simp only [List.length_nil] at hr15
          simp -dsimp (discharger := omega) [g4, r4]
          with_reducible refine ret_ret (f4 (Nat.le_refl _)) ?_
          simp -dsimp (discharger := omega) [g11, r11]
          with_reducible refine ret_ret (s1 (by omega)) ?_
          simp -dsimp (discharger := omega) [g5, g6, g7, g12, g13, hb0, hr5, r7]
          with_reducible refine ret_ret (f7 (by omega)) ?_
          simp -dsimp (discharger := omega) [g14, r14]
          with_reducible refine ret_ret (s2 (by omega)) ?_
          simp -dsimp (discharger := omega) [g8, g9, g15, g16, hr8, hr15]
          with_reducible refine ret_ret (hT (by omega)) ?_
          simp -dsimp (discharger := omega) []
    | @mk i12 q12 w12 c12 _ hr12 =>
      cases h8 with
      | nil =>
        cases h15 with
        | nil =>
          try simp only [List.length_nil] at hr5
          try simp only [List.length_nil] at hr12
          simp -dsimp (discharger := omega) [g4, r4]
          with_reducible refine ret_ret (f4 (Nat.le_refl _)) ?_
          simp -dsimp (discharger := omega) [g11, r11]
          with_reducible refine ret_ret (s1 (by omega)) ?_
          simp -dsimp (discharger := omega) [g5, g6, g7, g12, g13, hr5, hr12, r7]
          with_reducible refine ret_ret (f7 (by omega)) ?_
          simp -dsimp (discharger := omega) [g14, r14]
          with_reducible refine ret_ret (s2 (by omega)) ?_
          simp -dsimp (discharger := omega) [g8, g9, g15, g16]
          with_reducible refine ret_ret (hT (by omega)) ?_
          simp -dsimp (discharger := omega) []
        | @mk i15 q15 w15 c15 _ hr15 =>
          try simp only [List.length_nil] at hr5
          try simp only [List.length_nil] at hr12
          try simp only [List.length_nil] at hr15
          simp -dsimp (discharger := omega) [g4, r4]
          with_reducible refine ret_ret (f4 (Nat.le_refl _)) ?_
          simp -dsimp (discharger := omega) [g11, r11]
          with_reducible refine ret_ret (s1 (by omega)) ?_
          simp -dsimp (discharger := omega) [g5, g6, g7, g12, g13, hr5, hr12, r7]
          with_reducible refine ret_ret (f7 (by omega)) ?_
          simp -dsimp (discharger := omega) [g14, r14]
          with_reducible refine ret_ret (s2 (by omega)) ?_
          simp -dsimp (discharger := omega) [g8, g9, g15, g16, hb0, hr15]
          with_reducible refine ret_ret (hT (by omega)) ?_
          simp -dsimp (discharger := omega) []
      | @mk i8 q8 w8 c8 _ hr8 =>
        cases h15 with
        | nil =>
          try simp only [List.length_nil] at hr5
          try simp only [List.length_nil] at hr12
          try simp only [List.length_nil] at hr8
          simp -dsimp (discharger := omega) [g4, r4]
          with_reducible refine ret_ret (f4 (Nat.le_refl _)) ?_
          simp -dsimp (discharger := omega) [g11, r11]
          with_reducible refine ret_ret (s1 (by omega)) ?_
          simp -dsimp (discharger := omega) [g5, g6, g7, g12, g13, hr5, hr12, r7]
          with_reducible refine ret_ret (f7 (by omega)) ?_
          simp -dsimp (discharger := omega) [g14, r14]
          with_reducible refine ret_ret (s2 (by omega)) ?_
          simp -dsimp (discharger := omega) [g8, g9, g15, g16, hb0, hr8]
          with_reducible refine ret_ret (hT (by omega)) ?_
          simp -dsimp (discharger := omega) []
        | @mk i15 q15 w15 c15 _ hr15 =>
          try simp only [List.length_nil] at hr5
          try simp only [List.length_nil] at hr12
          try simp only [List.length_nil] at hr8
          try simp only [List.length_nil] at hr15
          simp -dsimp (discharger := omega) [g4, r4]
          with_reducible refine ret_ret (f4 (Nat.le_refl _)) ?_
          simp -dsimp (discharger := omega) [g11, r11]
          with_reducible refine ret_ret (s1 (by omega)) ?_
          simp -dsimp (discharger := omega) [g5, g6, g7, g12, g13, hr5, hr12, r7]
          with_reducible refine ret_ret (f7 (by omega)) ?_
          simp -dsimp (discharger := omega) [g14, r14]
          with_reducible refine ret_ret (s2 (by omega)) ?_
          simp -dsimp (discharger := omega) [g8, g9, g15, g16, hr8, hr15]
          with_reducible refine ret_ret (hT (by omega)) ?_
          simp -dsimp (discharger := omega) []
end
end Go.Proofs.YtiemkafpijhlmaaDoor.Am
namespace Go.Proofs.YtiemkafpijhlmaaDoor.Am
noncomputable section
/- THE LAW's WALK: heads got; the whole. -/
theorem append_cas {h : AHeap} {n : Nat} {vs : List UInt8} {v : Value} (hv : aElems h 1 v = some (vs.length, u8s vs)) (hlen : vs.length < 1000000000) {K : Option Value → AHeap → Nat → Prop} {t : Tok K}
    (h1 : vs = [] → K (some (.slice none 0 0)) h n) (h2 : 0 < vs.length → K (some (.slice (some ⟨n, 0, some vs.length⟩) vs.length 2)) (h.put n (.cells (some 5) (u8s vs) vs.length)) (n + 1)) : Runs (aAppend h n 5 1 1 (.slice none 0 0) v) n K t := by
  cases vs with
  | nil =>
    have := h1 rfl
    simp [aAppend, hv]
    exact this
  | cons a vs =>
    have := h2 (by simp)
    simp only [List.length_cons] at hlen
    have h2 : 2 * (vs.length + 1) ≤ 281474976710656 := by omega
    simp [aAppend, hv, h2]
    simpa using this
def fst6 : ACode := match B6 with | .seq a _ => a | c => c
def snd6 : ACode := match B6 with | .seq _ (.seq b _) => b | c => c
def rest6 : ACode := match B6 with | .seq _ (.seq _ c) => c | c => c
theorem b6_eq : B6 = .seq fst6 (.seq snd6 rest6) := rfl
set_option maxHeartbeats 8000000 in
theorem gets_rest {h : AHeap} {n : Nat} {v : Value} {bs : List UInt8} (hb : BS h v bs) (hbl : bs.length ≤ 400) (hw : WF h n) (hp : HasPow h) (he : HasErrs h) (hn : 4096 ≤ n) {σ : Fr} (g0 : σ.get 0 = some v) :
    wx EV06 rest6 σ h n (Done [.tmp 2] fun v _ _ => v = .bool true) ⟨⟩ := by
  obtain ⟨a0, k0, rfl⟩ := hb.shape
  simp -dsimp (discharger := omega) [rest6, B6, g0, -wR6_0]
  refine append_cas (vs := bs) hb.elems (by omega) (fun hnil => ?_) (fun hpos => ?_)
  · subst hnil
    have hO : BS h (.slice none 0 0) [] := .nil
    simp -dsimp (discharger := omega) [-wR6_0]
    refine get_call (bs := ([] : List UInt8)) hO (by simp) hw ?_
    intro a1 a2 k1 k2 H1 m1 O1 Y1 hs1 hw1 hm1 hm2
    simp -dsimp (discharger := omega) [-wR6_0]
    obtain ⟨H2, hH2⟩ : ∃ X : AHeap, X = (H1.put m1 (.cells (some 47) [.int .u8 0, .int .u8 0, .int .u8 0, .int .u16 0, .bool false, .bool false, .bool false, .int .i64 0, .int .u32 0, .int .u32 0, .slice none 0 0] 11)).put m1 (.cells (some 47) [.int .u8 ((getT ([] : List UInt8)).tos : Int), .int .u8 ((getT ([] : List UInt8)).ttl : Int), .int .u8 ((getT ([] : List UInt8)).proto : Int), .int .u16 ((getT ([] : List UInt8)).id : Int), .bool (getT ([] : List UInt8)).evil, .bool (getT ([] : List UInt8)).df, .bool (getT ([] : List UInt8)).more, .int .i64 (getT ([] : List UInt8)).off, .int .u32 ((getT ([] : List UInt8)).src : Int), .int .u32 ((getT ([] : List UInt8)).dst : Int), .slice a1 (getO ([] : List UInt8)).length k1] 11) := ⟨_, rfl⟩
    rw [← hH2]
    have x4 : H2.get m1 = some (.cells (some 47) [.int .u8 ((getT ([] : List UInt8)).tos : Int), .int .u8 ((getT ([] : List UInt8)).ttl : Int), .int .u8 ((getT ([] : List UInt8)).proto : Int), .int .u16 ((getT ([] : List UInt8)).id : Int), .bool (getT ([] : List UInt8)).evil, .bool (getT ([] : List UInt8)).df, .bool (getT ([] : List UInt8)).more, .int .i64 (getT ([] : List UInt8)).off, .int .u32 ((getT ([] : List UInt8)).src : Int), .int .u32 ((getT ([] : List UInt8)).dst : Int), .slice a1 (getO ([] : List UInt8)).length k1] 11) := by rw [hH2, AHeap.get_put_same]
    have hs2 : HSub H1 H2 := by
      rw [hH2]
      repeat (refine HSub.new ?_ hw1 (by omega) _)
      exact .refl _
    have hw2 : WF H2 (m1 + 1) := by rw [hH2]; exact .of fun j hj => by simp (discharger := omega) [hw1.none (i := j) (by omega)]
    clear hH2
    refine cut_call (bs := ([] : List UInt8)) (BS.mono (hs1.trans hs2) hO) (by simp) hw2 ?_
    intro a3 a4 k3 k4 H3 m3 O3 Y3 hs3 hw3 hm3 hm4
    simp -dsimp (discharger := omega) [-wR6_0]
    obtain ⟨H4, hH4⟩ : ∃ X : AHeap, X = (H3.put m3 (.cells (some 47) [.int .u8 0, .int .u8 0, .int .u8 0, .int .u16 0, .bool false, .bool false, .bool false, .int .i64 0, .int .u32 0, .int .u32 0, .slice none 0 0] 11)).put m3 (.cells (some 47) [.int .u8 ((cutT ([] : List UInt8)).tos : Int), .int .u8 ((cutT ([] : List UInt8)).ttl : Int), .int .u8 ((cutT ([] : List UInt8)).proto : Int), .int .u16 ((cutT ([] : List UInt8)).id : Int), .bool (cutT ([] : List UInt8)).evil, .bool (cutT ([] : List UInt8)).df, .bool (cutT ([] : List UInt8)).more, .int .i64 (cutT ([] : List UInt8)).off, .int .u32 ((cutT ([] : List UInt8)).src : Int), .int .u32 ((cutT ([] : List UInt8)).dst : Int), .slice a3 (cutO ([] : List UInt8)).length k3] 11) := ⟨_, rfl⟩
    rw [← hH4]
    have x7 : H4.get m3 = some (.cells (some 47) [.int .u8 ((cutT ([] : List UInt8)).tos : Int), .int .u8 ((cutT ([] : List UInt8)).ttl : Int), .int .u8 ((cutT ([] : List UInt8)).proto : Int), .int .u16 ((cutT ([] : List UInt8)).id : Int), .bool (cutT ([] : List UInt8)).evil, .bool (cutT ([] : List UInt8)).df, .bool (cutT ([] : List UInt8)).more, .int .i64 (cutT ([] : List UInt8)).off, .int .u32 ((cutT ([] : List UInt8)).src : Int), .int .u32 ((cutT ([] : List UInt8)).dst : Int), .slice a3 (cutO ([] : List UInt8)).length k3] 11) := by rw [hH4, AHeap.get_put_same]
    have hs4 : HSub H3 H4 := by
      rw [hH4]
      repeat (refine HSub.new ?_ hw3 (by omega) _)
      exact .refl _
    have hw4 : WF H4 (m3 + 1) := by rw [hH4]; exact .of fun j hj => by simp (discharger := omega) [hw3.none (i := j) (by omega)]
    clear hH4
    have hs24 : HSub H2 H4 := hs3.trans hs4
    have hs14 : HSub H1 H4 := hs2.trans hs24
    refine wx_round ?_
    simp -dsimp (discharger := omega) [F6L0, g0, -wR6_0]
    have z4 := hs24 _ _ x4
    have z7 := x7
    have zO1 := O1 H4 (fun i b _ hi => hs14 i b hi)
    have zY1 := Y1 H4 (fun i b _ hi => hs14 i b hi)
    have zO3 := O3 H4 (fun i b _ hi => hs4 i b hi)
    have zY3 := Y3 H4 (fun i b _ hi => hs4 i b hi)
    have zS : HSub h H4 := hs1.trans hs14
    have zW := hw4
    refine read_callT (bs := ([] : List UInt8)) (BS.mono zS hb) (by simp) zW ?_
    intro a5 a6 k5 k6 O5 Y5
    simp -dsimp (discharger := omega) [g0, -wR6_0]
    obtain ⟨H6, hH6⟩ : ∃ X : AHeap, X = (H4.put (m3 + 1 + 10) (.cells (some 53) [.int .u8 0, .int .u8 0, .int .u8 0, .int .u16 0, .bool false, .bool false, .bool false, .int .i64 0, .int .u32 0, .int .u32 0, .slice none 0 0] 11)).put (m3 + 1 + 10) (.cells (some 53) [.int .u8 ((getT ([] : List UInt8)).tos : Int), .int .u8 ((getT ([] : List UInt8)).ttl : Int), .int .u8 ((getT ([] : List UInt8)).proto : Int), .int .u16 ((getT ([] : List UInt8)).id : Int), .bool (getT ([] : List UInt8)).evil, .bool (getT ([] : List UInt8)).df, .bool (getT ([] : List UInt8)).more, .int .i64 (getT ([] : List UInt8)).off, .int .u32 ((getT ([] : List UInt8)).src : Int), .int .u32 ((getT ([] : List UInt8)).dst : Int), .slice a5 (getO ([] : List UInt8)).length k5] 11) := ⟨_, rfl⟩
    rw [← hH6]
    have x11 : H6.get (m3 + 1 + 10) = some (.cells (some 53) [.int .u8 ((getT ([] : List UInt8)).tos : Int), .int .u8 ((getT ([] : List UInt8)).ttl : Int), .int .u8 ((getT ([] : List UInt8)).proto : Int), .int .u16 ((getT ([] : List UInt8)).id : Int), .bool (getT ([] : List UInt8)).evil, .bool (getT ([] : List UInt8)).df, .bool (getT ([] : List UInt8)).more, .int .i64 (getT ([] : List UInt8)).off, .int .u32 ((getT ([] : List UInt8)).src : Int), .int .u32 ((getT ([] : List UInt8)).dst : Int), .slice a5 (getO ([] : List UInt8)).length k5] 11) := by rw [hH6, AHeap.get_put_same]
    have hs6 : HSub H4 H6 := by
      rw [hH6]
      repeat (refine HSub.new ?_ zW (by omega) _)
      exact .refl _
    have hw6 : WF H6 (m3 + 1 + 10 + 1) := by rw [hH6]; exact .of fun j hj => by simp (discharger := omega) [zW.none (i := j) (by omega)]
    clear hH6
    refine read_callF (bs := ([] : List UInt8)) (BS.mono (zS.trans hs6) hb) (by simp) hw6 ?_
    intro a7 a8 k7 k8 O7 Y7
    simp -dsimp (discharger := omega) [-wR6_0]
    obtain ⟨H8, hH8⟩ : ∃ X : AHeap, X = (H6.put (m3 + 1 + 10 + 1 + 10) (.cells (some 53) [.int .u8 0, .int .u8 0, .int .u8 0, .int .u16 0, .bool false, .bool false, .bool false, .int .i64 0, .int .u32 0, .int .u32 0, .slice none 0 0] 11)).put (m3 + 1 + 10 + 1 + 10) (.cells (some 53) [.int .u8 ((cutT ([] : List UInt8)).tos : Int), .int .u8 ((cutT ([] : List UInt8)).ttl : Int), .int .u8 ((cutT ([] : List UInt8)).proto : Int), .int .u16 ((cutT ([] : List UInt8)).id : Int), .bool (cutT ([] : List UInt8)).evil, .bool (cutT ([] : List UInt8)).df, .bool (cutT ([] : List UInt8)).more, .int .i64 (cutT ([] : List UInt8)).off, .int .u32 ((cutT ([] : List UInt8)).src : Int), .int .u32 ((cutT ([] : List UInt8)).dst : Int), .slice a7 (cutO ([] : List UInt8)).length k7] 11) := ⟨_, rfl⟩
    rw [← hH8]
    have x14 : H8.get (m3 + 1 + 10 + 1 + 10) = some (.cells (some 53) [.int .u8 ((cutT ([] : List UInt8)).tos : Int), .int .u8 ((cutT ([] : List UInt8)).ttl : Int), .int .u8 ((cutT ([] : List UInt8)).proto : Int), .int .u16 ((cutT ([] : List UInt8)).id : Int), .bool (cutT ([] : List UInt8)).evil, .bool (cutT ([] : List UInt8)).df, .bool (cutT ([] : List UInt8)).more, .int .i64 (cutT ([] : List UInt8)).off, .int .u32 ((cutT ([] : List UInt8)).src : Int), .int .u32 ((cutT ([] : List UInt8)).dst : Int), .slice a7 (cutO ([] : List UInt8)).length k7] 11) := by rw [hH8, AHeap.get_put_same]
    have hs8 : HSub H6 H8 := by
      rw [hH8]
      repeat (refine HSub.new ?_ hw6 (by omega) _)
      exact .refl _
    have hw8 : WF H8 (m3 + 1 + 10 + 1 + 10 + 1) := by rw [hH8]; exact .of fun j hj => by simp (discharger := omega) [hw6.none (i := j) (by omega)]
    clear hH8
    have hsX : HSub H4 H8 := hs6.trans hs8
    refine r6_0 (t := getT []) (s := cutT []) (e1 := (getE [] : Int)) (e2 := (cutE [] : Int)) (hsX _ _ z4) (hs8 _ _ x11) (hsX _ _ z7) x14 (by omega) (by omega) (by omega) (by omega) (BS.mono hsX zO1) (BS.mono hsX O5) (BS.mono hsX zO3) (BS.mono hs8 O7) (BS.mono hsX zY1) (BS.mono hsX Y5) (BS.mono hsX zY3) (BS.mono hs8 Y7) (by simp ) (by simp ) (by simp ) (by simp ) ?_ ?_ ?_ ?_ (by simp ) (by simp ) (by simp ) (by simp ) hw8 (hp.sub (zS.trans hsX)) (he.sub (zS.trans hsX)) (by omega)
    · simp 
    · simp 
    · simp 
    · simp 
  · generalize hH0 : h.put n (.cells (some 5) (u8s bs) bs.length) = H0
    have hs0 : HSub h H0 := by rw [← hH0]; exact .new (.refl _) hw (by omega) _
    have hw0 : WF H0 (n + 1) := by rw [← hH0]; exact .of fun j hj => by simp (discharger := omega) [hw.none (i := j) (by omega)]
    have hq0 : H0.get n = some (.cells (some 5) (u8s bs) bs.length) := by rw [← hH0, AHeap.get_put_same]
    clear hH0
    have hO : BS H0 (.slice (some ⟨n, 0, some bs.length⟩) bs.length 2) bs := bs_new (m := bs.length) hq0 (Nat.le_refl _)
    simp -dsimp (discharger := omega) [-wR6_0]
    refine get_call (bs := bs) hO (by omega) hw0 ?_
    intro a1 a2 k1 k2 H1 m1 O1 Y1 hs1 hw1 hm1 hm2
    simp -dsimp (discharger := omega) [-wR6_0]
    obtain ⟨H2, hH2⟩ : ∃ X : AHeap, X = (H1.put m1 (.cells (some 47) [.int .u8 0, .int .u8 0, .int .u8 0, .int .u16 0, .bool false, .bool false, .bool false, .int .i64 0, .int .u32 0, .int .u32 0, .slice none 0 0] 11)).put m1 (.cells (some 47) [.int .u8 ((getT bs).tos : Int), .int .u8 ((getT bs).ttl : Int), .int .u8 ((getT bs).proto : Int), .int .u16 ((getT bs).id : Int), .bool (getT bs).evil, .bool (getT bs).df, .bool (getT bs).more, .int .i64 (getT bs).off, .int .u32 ((getT bs).src : Int), .int .u32 ((getT bs).dst : Int), .slice a1 (getO bs).length k1] 11) := ⟨_, rfl⟩
    rw [← hH2]
    have x4 : H2.get m1 = some (.cells (some 47) [.int .u8 ((getT bs).tos : Int), .int .u8 ((getT bs).ttl : Int), .int .u8 ((getT bs).proto : Int), .int .u16 ((getT bs).id : Int), .bool (getT bs).evil, .bool (getT bs).df, .bool (getT bs).more, .int .i64 (getT bs).off, .int .u32 ((getT bs).src : Int), .int .u32 ((getT bs).dst : Int), .slice a1 (getO bs).length k1] 11) := by rw [hH2, AHeap.get_put_same]
    have hs2 : HSub H1 H2 := by
      rw [hH2]
      repeat (refine HSub.new ?_ hw1 (by omega) _)
      exact .refl _
    have hw2 : WF H2 (m1 + 1) := by rw [hH2]; exact .of fun j hj => by simp (discharger := omega) [hw1.none (i := j) (by omega)]
    clear hH2
    refine cut_call (bs := bs) (BS.mono (hs1.trans hs2) hO) (by omega) hw2 ?_
    intro a3 a4 k3 k4 H3 m3 O3 Y3 hs3 hw3 hm3 hm4
    simp -dsimp (discharger := omega) [-wR6_0]
    obtain ⟨H4, hH4⟩ : ∃ X : AHeap, X = (H3.put m3 (.cells (some 47) [.int .u8 0, .int .u8 0, .int .u8 0, .int .u16 0, .bool false, .bool false, .bool false, .int .i64 0, .int .u32 0, .int .u32 0, .slice none 0 0] 11)).put m3 (.cells (some 47) [.int .u8 ((cutT bs).tos : Int), .int .u8 ((cutT bs).ttl : Int), .int .u8 ((cutT bs).proto : Int), .int .u16 ((cutT bs).id : Int), .bool (cutT bs).evil, .bool (cutT bs).df, .bool (cutT bs).more, .int .i64 (cutT bs).off, .int .u32 ((cutT bs).src : Int), .int .u32 ((cutT bs).dst : Int), .slice a3 (cutO bs).length k3] 11) := ⟨_, rfl⟩
    rw [← hH4]
    have x7 : H4.get m3 = some (.cells (some 47) [.int .u8 ((cutT bs).tos : Int), .int .u8 ((cutT bs).ttl : Int), .int .u8 ((cutT bs).proto : Int), .int .u16 ((cutT bs).id : Int), .bool (cutT bs).evil, .bool (cutT bs).df, .bool (cutT bs).more, .int .i64 (cutT bs).off, .int .u32 ((cutT bs).src : Int), .int .u32 ((cutT bs).dst : Int), .slice a3 (cutO bs).length k3] 11) := by rw [hH4, AHeap.get_put_same]
    have hs4 : HSub H3 H4 := by
      rw [hH4]
      repeat (refine HSub.new ?_ hw3 (by omega) _)
      exact .refl _
    have hw4 : WF H4 (m3 + 1) := by rw [hH4]; exact .of fun j hj => by simp (discharger := omega) [hw3.none (i := j) (by omega)]
    clear hH4
    have hs24 : HSub H2 H4 := hs3.trans hs4
    have hs14 : HSub H1 H4 := hs2.trans hs24
    have hqL : H4.get n = some (.cells (some 5) (u8s bs) bs.length) := hs14 _ _ (hs1 _ _ hq0)
    refine loop_use (xo_loop (L := bs.length) (q := n) (by omega) (v0 := .slice a0 bs.length k0) (v4 := .pointer (some ⟨m1, 0, some 11⟩)) (v5 := .slice a2 (getY bs).length k2) (v6 := .int .i64 (getE bs : Int)) (v7 := .pointer (some ⟨m3, 0, some 11⟩)) (v8 := .slice a4 (cutY bs).length k4) (v9 := .int .i64 (cutE bs : Int)) (h0 := H4) (n0 := m3 + 1) (by omega) bs.length _ H4 (m3 + 1) ⟨rfl, 0, bs, by omega, rfl, hqL, fun _ _ => rfl, rfl⟩) (by simp [g0]) (.refl _) ?_
    rintro e σ' HL nL ⟨rfl, rfl, hne, x0, y4, y5, y6, y7, y8, y9⟩
    simp -dsimp (discharger := omega) [x0, -wR6_0]
    have z4 : HL.get m1 = some (.cells (some 47) [.int .u8 ((getT bs).tos : Int), .int .u8 ((getT bs).ttl : Int), .int .u8 ((getT bs).proto : Int), .int .u16 ((getT bs).id : Int), .bool (getT bs).evil, .bool (getT bs).df, .bool (getT bs).more, .int .i64 (getT bs).off, .int .u32 ((getT bs).src : Int), .int .u32 ((getT bs).dst : Int), .slice a1 (getO bs).length k1] 11) := by rw [hne m1 (by omega)]; exact hs24 _ _ x4
    have z7 : HL.get m3 = some (.cells (some 47) [.int .u8 ((cutT bs).tos : Int), .int .u8 ((cutT bs).ttl : Int), .int .u8 ((cutT bs).proto : Int), .int .u16 ((cutT bs).id : Int), .bool (cutT bs).evil, .bool (cutT bs).df, .bool (cutT bs).more, .int .i64 (cutT bs).off, .int .u32 ((cutT bs).src : Int), .int .u32 ((cutT bs).dst : Int), .slice a3 (cutO bs).length k3] 11) := by rw [hne m3 (by omega)]; exact x7
    have zz : ∀ i b, n + 1 ≤ i → H4.get i = some b → HL.get i = some b := fun i b hi hb => by rw [hne i (by omega)]; exact hb
    have zO1 := O1 HL (fun i b hh hi => zz i b hh (hs14 i b hi))
    have zY1 := Y1 HL (fun i b hh hi => zz i b hh (hs14 i b hi))
    have zO3 := O3 HL (fun i b hh hi => zz i b (by omega) (hs4 i b hi))
    have zY3 := Y3 HL (fun i b hh hi => zz i b (by omega) (hs4 i b hi))
    have zS : HSub h HL := fun i b hi => by
      have := hw.lt hi
      rw [hne i (by omega)]; exact hs14 _ _ (hs1 _ _ (hs0 _ _ hi))
    have zW : WF HL (m3 + 1) := .of fun j hj => by rw [hne j (by omega)]; exact hw4.none hj
    refine read_callT (bs := bs) (BS.mono zS hb) (by omega) zW ?_
    intro a5 a6 k5 k6 O5 Y5
    simp -dsimp (discharger := omega) [x0, -wR6_0]
    obtain ⟨H6, hH6⟩ : ∃ X : AHeap, X = (HL.put (m3 + 1 + 10) (.cells (some 53) [.int .u8 0, .int .u8 0, .int .u8 0, .int .u16 0, .bool false, .bool false, .bool false, .int .i64 0, .int .u32 0, .int .u32 0, .slice none 0 0] 11)).put (m3 + 1 + 10) (.cells (some 53) [.int .u8 ((getT bs).tos : Int), .int .u8 ((getT bs).ttl : Int), .int .u8 ((getT bs).proto : Int), .int .u16 ((getT bs).id : Int), .bool (getT bs).evil, .bool (getT bs).df, .bool (getT bs).more, .int .i64 (getT bs).off, .int .u32 ((getT bs).src : Int), .int .u32 ((getT bs).dst : Int), .slice a5 (getO bs).length k5] 11) := ⟨_, rfl⟩
    rw [← hH6]
    have x11 : H6.get (m3 + 1 + 10) = some (.cells (some 53) [.int .u8 ((getT bs).tos : Int), .int .u8 ((getT bs).ttl : Int), .int .u8 ((getT bs).proto : Int), .int .u16 ((getT bs).id : Int), .bool (getT bs).evil, .bool (getT bs).df, .bool (getT bs).more, .int .i64 (getT bs).off, .int .u32 ((getT bs).src : Int), .int .u32 ((getT bs).dst : Int), .slice a5 (getO bs).length k5] 11) := by rw [hH6, AHeap.get_put_same]
    have hs6 : HSub HL H6 := by
      rw [hH6]
      repeat (refine HSub.new ?_ zW (by omega) _)
      exact .refl _
    have hw6 : WF H6 (m3 + 1 + 10 + 1) := by rw [hH6]; exact .of fun j hj => by simp (discharger := omega) [zW.none (i := j) (by omega)]
    clear hH6
    refine read_callF (bs := bs) (BS.mono (zS.trans hs6) hb) (by omega) hw6 ?_
    intro a7 a8 k7 k8 O7 Y7
    simp -dsimp (discharger := omega) [-wR6_0]
    obtain ⟨H8, hH8⟩ : ∃ X : AHeap, X = (H6.put (m3 + 1 + 10 + 1 + 10) (.cells (some 53) [.int .u8 0, .int .u8 0, .int .u8 0, .int .u16 0, .bool false, .bool false, .bool false, .int .i64 0, .int .u32 0, .int .u32 0, .slice none 0 0] 11)).put (m3 + 1 + 10 + 1 + 10) (.cells (some 53) [.int .u8 ((cutT bs).tos : Int), .int .u8 ((cutT bs).ttl : Int), .int .u8 ((cutT bs).proto : Int), .int .u16 ((cutT bs).id : Int), .bool (cutT bs).evil, .bool (cutT bs).df, .bool (cutT bs).more, .int .i64 (cutT bs).off, .int .u32 ((cutT bs).src : Int), .int .u32 ((cutT bs).dst : Int), .slice a7 (cutO bs).length k7] 11) := ⟨_, rfl⟩
    rw [← hH8]
    have x14 : H8.get (m3 + 1 + 10 + 1 + 10) = some (.cells (some 53) [.int .u8 ((cutT bs).tos : Int), .int .u8 ((cutT bs).ttl : Int), .int .u8 ((cutT bs).proto : Int), .int .u16 ((cutT bs).id : Int), .bool (cutT bs).evil, .bool (cutT bs).df, .bool (cutT bs).more, .int .i64 (cutT bs).off, .int .u32 ((cutT bs).src : Int), .int .u32 ((cutT bs).dst : Int), .slice a7 (cutO bs).length k7] 11) := by rw [hH8, AHeap.get_put_same]
    have hs8 : HSub H6 H8 := by
      rw [hH8]
      repeat (refine HSub.new ?_ hw6 (by omega) _)
      exact .refl _
    have hw8 : WF H8 (m3 + 1 + 10 + 1 + 10 + 1) := by rw [hH8]; exact .of fun j hj => by simp (discharger := omega) [hw6.none (i := j) (by omega)]
    clear hH8
    have hsX : HSub HL H8 := hs6.trans hs8
    refine r6_0 (t := getT bs) (s := cutT bs) (e1 := (getE bs : Int)) (e2 := (cutE bs : Int)) (hsX _ _ z4) (hs8 _ _ x11) (hsX _ _ z7) x14 (by omega) (by omega) (by omega) (by omega) (BS.mono hsX zO1) (BS.mono hsX O5) (BS.mono hsX zO3) (BS.mono hs8 O7) (BS.mono hsX zY1) (BS.mono hsX Y5) (BS.mono hsX zY3) (BS.mono hs8 Y7) (by simp [y4]) (by simp []) (by simp [y7]) (by simp []) ?_ ?_ ?_ ?_ (by simp [y6]) (by simp []) (by simp [y9]) (by simp []) hw8 (hp.sub (zS.trans hsX)) (he.sub (zS.trans hsX)) (by omega)
    · simp [y5]
    · simp []
    · simp [y8]
    · simp []
set_option maxHeartbeats 8000000 in
theorem gets_walk {h : AHeap} {n : Nat} {b : Value} {bs : List UInt8} (hb : BS h b bs) (hbl : bs.length < 9223372036854775808) (hw : WF h n) (hp : HasPow h) (he : HasErrs h) (hn : 4096 ≤ n) :
    HasCall EV06 6 [b] h n fun v _ _ => v = .bool true := by
  have goal : HasCallT EV06 6 [b] h n (fun v _ _ => v = .bool true) ⟨⟩ := by
    obtain ⟨k, hk1, hk2, e400, hbk⟩ : ∃ m, m ≤ bs.length ∧ m ≤ 400 ∧ (if (400 : Int) < (bs.length : Int) then (400 : Int) else (bs.length : Int)) = (m : Int) ∧ bs.take 400 = bs.take m := by
      by_cases c : 400 < bs.length
      · exact ⟨400, by omega, by omega, by rw [if_pos (by omega)]; rfl, rfl⟩
      · exact ⟨bs.length, by omega, by omega, by rw [if_neg (by omega)], by rw [List.take_of_length_le (by omega), List.take_length]⟩
    have hlk : (bs.take k).length = k := by rw [List.length_take]; omega
    cases hb with
    | nil =>
      with_reducible refine inl6 ?_
      rw [b6_eq]
      simp -dsimp (discharger := omega) [fst6, snd6, B6]
      exact gets_rest .nil (by simp) hw hp he hn (by simp)
    | @mk i o g kk _ hr =>
      with_reducible refine inl6 ?_
      rw [b6_eq]
      simp -dsimp (discharger := omega) [fst6, snd6, B6, e400]
      have hs := bs_sub hr (Nat.zero_le k) hk1
      simp only [Nat.add_zero, Nat.sub_zero, List.drop_zero] at hs
      exact gets_rest (bs_at hlk hs) (by omega) hw hp he hn rfl
  exact goal
end
end Go.Proofs.YtiemkafpijhlmaaDoor.Am
