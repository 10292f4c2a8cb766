/- Contracts of the program's functions (X3). -/
import Derived.Test.YtmkfjdajnamoaaaDoorX2
import Derived.Test.YtmkfjdajnamoaaaDoorLV
namespace Go.Proofs.YtmkfjdajnamoaaaDoor.Am
noncomputable section
/- CONTRACTS of the document: addresses of texts. -/
def docStep (s : List UInt8) (i : Nat) (m : List UInt8) : Option (List UInt8) := if i % 3 = 2 then (if s.getD i 0 = 58 then some m else none) else if docD (s.getD i 0) = 16 then none else some (m.set (i / 3) (m.getD (i / 3) 0 * 16 + UInt8.ofNat (docD (s.getD i 0))))
def docSt (s : List UInt8) : Nat → Option (List UInt8)
  | 0 => some zero6
  | i + 1 => match docSt s i with
    | none => none
    | some m => docStep s i m
theorem docSt_succ {s : List UInt8} {i : Nat} {m : List UInt8} (h : docSt s i = some m) : docSt s (i + 1) = docStep s i m := by simp only [docSt, h]
theorem docSt_none {s : List UInt8} {i : Nat} (h : docSt s i = none) : ∀ k, docSt s (i + k) = none
  | 0 => h
  | k + 1 => by rw [← Nat.add_assoc, docSt, docSt_none h k]
theorem docStep_len {s : List UInt8} {i : Nat} {m m' : List UInt8} (h : docStep s i m = some m') : m'.length = m.length := by
  unfold docStep at h
  split at h
  · split at h
    · cases h; rfl
    · cases h
  · split at h
    · cases h
    · cases h; simp
theorem docSt_len {s : List UInt8} : ∀ {i : Nat} {m : List UInt8}, docSt s i = some m → m.length = 6
  | 0, m, h => by cases h; rfl
  | i + 1, m, h => by
    simp only [docSt] at h
    cases e : docSt s i with
    | none => rw [e] at h; cases h
    | some m0 => rw [e] at h; rw [docStep_len h, docSt_len e]
def zeroD : Blk := .cells (some 22) [.int .u8 0, .int .u8 0, .int .u8 0, .int .u8 0, .int .u8 0, .int .u8 0] 6
def DPInv (s : List UInt8) (p q : Nat) (h0 : AHeap) (n0 : Nat) (r : Nat) (σ : Fr) (h : AHeap) (n : Nat) : Prop :=
  n = n0 ∧ HSub h0 h ∧ h.get q = some zeroD ∧ ∃ i m, i + r = 17 ∧ docSt s i = some m ∧ h.get p = some (.cells (some 22) (u8s m) 6) ∧ σ = [(0, .string ⟨s.toArray⟩), (2, .pointer (some ⟨q, 0, some 6⟩)), (4, .pointer (some ⟨p, 0, some 6⟩)), (5, .int .i64 (i : Int))]
def DPPost (s : List UInt8) (p q : Nat) (h0 : AHeap) (n0 : Nat) (e : Ex) (σ' : Fr) (h' : AHeap) (n' : Nat) : Prop :=
  n' = n0 ∧ HSub h0 h' ∧ h'.get q = some zeroD ∧ σ'.get 2 = some (.pointer (some ⟨q, 0, some 6⟩)) ∧
  (e = .exit 0 ∧ σ'.get 4 = some (.pointer (some ⟨p, 0, some 6⟩)) ∧ (∃ m, docSt s 17 = some m ∧ h'.get p = some (.cells (some 22) (u8s m) 6)) ∨ e = .ret ∧ docSt s 17 = none ∧ σ'.get 3 = some (.int .i64 5))
theorem docparse_loop {s : List UInt8} (hs : s.length = 17) {p q : Nat} {h0 : AHeap} (h0p : h0.get p = none) (h0q : h0.get q = none) (hpq : ¬ p = q) {n0 : Nat} (hpn : p < n0) (hqn : q < n0) :
    ∀ (r : Nat) (σ : Fr) (h : AHeap) (n : Nat), DPInv s p q h0 n0 r σ h n → HasCode EV02 (.loop F10L0) σ h n (DPPost s p q h0 n0) := by
  refine wx_inv _ fun r σ h n hI => ?_
  obtain ⟨rfl, hss, hq, i, m, hi, hm, hp, rfl⟩ := hI
  cases r with
  | zero =>
    obtain rfl : i = 17 := by omega
    simp -dsimp (discharger := omega) [F10L0]
    exact ⟨rfl, hss, hq, by simp, .inl ⟨rfl, by simp, m, hm, hp⟩⟩
  | succ r =>
    have hlt : i < s.length := by omega
    have hx : s[i]? = some (s.getD i 0) := by
      rw [List.getD_eq_getElem?_getD, List.getElem?_eq_getElem hlt]; rfl
    have hnx := docSt_succ hm
    have hL := docSt_len hm
    unfold docStep at hnx
    generalize s.getD i 0 = c at *
    have hc := c.toNat_lt
    have hqx : h.get q = some (.cells (some 22) [.int .u8 0, .int .u8 0, .int .u8 0, .int .u8 0, .int .u8 0, .int .u8 0] 6) := hq
    have hsq : ∀ {B : Blk}, HSub h0 (h.put q B) := .ofE (.right (.inr h0q) fun i b _ hb => hss i b hb)
    have hsp : ∀ {B : Blk}, HSub h0 (h.put p B) := .ofE (.right (.inr h0p) fun i b _ hb => hss i b hb)
    have hfail : docSt s (i + 1) = none → docSt s 17 = none := fun e => by
      have := docSt_none e r
      rwa [show i + 1 + r = 17 by omega] at this
    have hend : ∀ {σ : Fr} {H : AHeap} {m' : List UInt8} {tk : Tok (DPInv s p q h0 n)}, docSt s (i + 1) = some m' → HSub h0 H → H.get q = some zeroD → H.get p = some (.cells (some 22) (u8s m') 6) → FSubL [(0, .string ⟨s.toArray⟩), (2, .pointer (some ⟨q, 0, some 6⟩)), (4, .pointer (some ⟨p, 0, some 6⟩)), (5, .int .i64 ((i + 1 : Nat) : Int))] σ → Again (DPInv s p q h0 n) (r + 1) σ H n tk := fun a1 a2 a3 a4 hs =>
      .mk' r (by omega) _ _ hs (.refl _) ⟨rfl, a2, a3, i + 1, _, by omega, a1, a4, rfl⟩
    have t3 : Int.tmod (i : Int) 3 = ((i % 3 : Nat) : Int) := rfl
    have d3 : Int.tdiv (i : Int) 3 = ((i / 3 : Nat) : Int) := rfl
    have hcol : (((c.toNat : Nat) : Int) = 58) ↔ c = 58 := by
      constructor
      · intro e; apply UInt8.toNat_inj.1; show c.toNat = 58; omega
      · intro e; rw [e]; rfl
    by_cases h3 : i % 3 = 2
    · have b3 : ((i : Int) % 3) = 2 := by omega
      rw [if_pos h3] at hnx
      by_cases h58 : c = 58
      · rw [if_pos h58] at hnx
        have hci := hcol.2 h58
        simp -dsimp (discharger := omega) [F10L0, t3, b3, hx, hci, -getElem?_pos]
        exact hend hnx hss hq hp (by simp)
      · rw [if_neg h58] at hnx
        have hci : ¬ ((c.toNat : Nat) : Int) = 58 := fun e => h58 (hcol.1 e)
        simp -dsimp (discharger := omega) [F10L0, t3, b3, hx, aFill, hqx, -getElem?_pos]
        exact ⟨rfl, hsq, by simp [zeroD], by simp, .inr ⟨rfl, hfail hnx, by simp⟩⟩
    · have b3 : ¬ ((i : Int) % 3) = 2 := by omega
      rw [if_neg h3] at hnx
      simp -dsimp (discharger := omega) [F10L0, t3, hx, -getElem?_pos]
      with_reducible refine call_ret (rdigit_ret c _ _) ?_
      have hD := docD_le c
      by_cases h16 : docD c = 16
      · rw [if_pos h16] at hnx
        rw [h16]
        simp -dsimp (discharger := omega) [aFill, hqx]
        exact ⟨rfl, hsq, by simp [zeroD], by simp, .inr ⟨rfl, hfail hnx, by simp⟩⟩
      · rw [if_neg h16] at hnx
        have h6 : i / 3 < 6 := by omega
        have hg : m[i / 3]? = some (m.getD (i / 3) 0) := by
          rw [List.getD_eq_getElem?_getD, List.getElem?_eq_getElem (by omega)]; rfl
        generalize m.getD (i / 3) 0 = b at *
        have hrd : h.read p 6 (0 + i / 3) 1 = some [.int .u8 (b.toNat : Int)] := read_one (m := 6) (by rw [AHeap.read_of hp]; simp [Blk.read, hL, List.take_of_length_le]) (u8s_get? hg) (by omega)
        rw [Nat.zero_add] at hrd
        have hb := b.toNat_lt
        have hmul : IntKind.u8.wrap ((b.toNat : Int) * 16) = ((b * 16).toNat : Int) := by
          have := wrap_u8_mod (b.toNat * 16)
          rw [show ((b * 16).toNat) = b.toNat * 16 % 256 from by simp [UInt8.toNat_mul], ← this]; rfl
        generalize b * 16 = b2 at *
        have hb2 := b2.toNat_lt
        have hadd : IntKind.u8.wrap ((b2.toNat : Int) + (docD c : Int)) = ((b2 + UInt8.ofNat (docD c)).toNat : Int) := by
          have := wrap_u8_mod (b2.toNat + docD c)
          rw [UInt8.toNat_add, UInt8.toNat_ofNat', Nat.mod_eq_of_lt (show docD c < 2 ^ 8 by omega)]
          rw [← this]; rfl
        generalize b2 + UInt8.ofNat (docD c) = b3 at *
        have hu := u8s6 hL
        have hi3 : ((i : Int) / 3).toNat = i / 3 := rfl
        have hset : List.take (i / 3) (u8s m) ++ Value.int .u8 (b3.toNat : Int) :: List.drop (i / 3 + 1) (u8s m) = u8s (m.set (i / 3) b3) := by
          rw [← u8s_set, List.set_eq_take_append_cons_drop, if_pos (by omega)]
        simp -dsimp (discharger := omega) [d3, hi3, hrd, hmul, hadd, hp, hu]
        rw [hset]
        exact hend hnx hsp (by rw [AHeap.get_put_ne _ _ hpq]; exact hq) (AHeap.get_put_same _ _ _) (by simp)
def docO (s : List UInt8) : Option (List UInt8) := if s.length = 17 then docSt s 17 else none
theorem docParse_ret {s : List UInt8} (_hs : s.length < 100000) {h : AHeap} {n : Nat} (hw : WF h n) : Ret EV02 10 [.string ⟨s.toArray⟩] h n (.tuple #[macV ((docO s).getD zero6), .int .i64 ((if (docO s).isSome then 0 else 5 : Nat) : Int)]) [] (n + 2) := by
  refine rsx10 (by simp) (by simp) ?_
  have hs0 : ∀ B B', HSub h ((h.put n B).put (n + 1) B') := fun B B' => ((HSub.refl h).new hw (Nat.le_refl n) _).new hw (by omega) _
  unfold docO
  by_cases h17 : s.length = 17
  · rw [if_pos h17]
    simp -dsimp (discharger := omega) [B10, h17]
    refine loop_use (docparse_loop (s := s) h17 (p := n + 1) (q := n) (h0 := h) (hw _ (by omega)) (hw _ (by omega)) (by omega) (n0 := n + 1 + 1) (by omega) (by omega) 17 [(0, .string ⟨s.toArray⟩), (2, .pointer (some ⟨n, 0, some 6⟩)), (4, .pointer (some ⟨n + 1, 0, some 6⟩)), (5, .int .i64 ((0 : Nat) : Int))] _ _ ⟨rfl, hs0 _ _, ?_, 0, zero6, rfl, rfl, ?_, rfl⟩) (by simp) (.refl _) ?_
    · simp (discharger := omega) [zeroD]
    · simp (discharger := omega) [u8s, zero6]
    rintro e σ' h' n' ⟨rfl, hss, hq, e2, ⟨rfl, e4, m, hm, hp⟩ | ⟨rfl, hm, e3⟩⟩
    · have lm := u8s6 (docSt_len hm)
      have tm : (u8s m).take 6 = u8s m := List.take_of_length_le (by omega)
      rw [hm]
      simp -dsimp (discharger := omega) [e2, e4, hp, hq, zeroD, AHeap.read, lm, tm]
      exact hss.new hw (by omega) _
    · rw [hm]
      simp -dsimp (discharger := omega) [e2, e3, hq, zeroD, AHeap.read]
      exact ⟨rfl, hss⟩
  · rw [if_neg h17]
    have hz : ¬ ((s.length : Nat) : Int) = 17 := by omega
    simp -dsimp (discharger := omega) [B10]
    exact ⟨rfl, (hs0 _ _).new hw (by omega) _⟩
end
end Go.Proofs.YtmkfjdajnamoaaaDoor.Am
namespace Go.Proofs.YtmkfjdajnamoaaaDoor.Am
noncomputable section
/- PLAIN LAW: both readings of an address are one. -/
theorem join_split (c : UInt8) : ∀ s : List UInt8, joinL [c] (splitL c s) = s
  | [] => rfl
  | x :: l => by
    have ih := join_split c l
    have hne := splitL_ne c l
    simp only [splitL]
    split
    · rename_i h
      subst h
      cases hs : splitL x l with
      | nil => exact absurd hs hne
      | cons p ps => rw [hs] at ih; simp only [joinL, List.nil_append, ih]; rfl
    · cases hs : splitL c l with
      | nil => exact absurd hs hne
      | cons p ps =>
        rw [hs] at ih
        cases ps with
        | nil => simp only [joinL] at ih ⊢; rw [ih]
        | cons q qs => simp only [joinL, List.cons_append] at ih ⊢; rw [ih]
theorem docSt_inv {s : List UInt8} {i : Nat} {m' : List UInt8} (h : docSt s (i + 1) = some m') : ∃ m, docSt s i = some m ∧ docStep s i m = some m' := by
  simp only [docSt] at h
  cases e : docSt s i with
  | none => rw [e] at h; cases h
  | some m => rw [e] at h; exact ⟨m, rfl, h⟩
theorem step_colon {s : List UInt8} {i : Nat} {m m' : List UInt8} (h3 : i % 3 = 2) (h : docStep s i m = some m') : s.getD i 0 = 58 ∧ m' = m := by
  unfold docStep at h
  rw [if_pos h3] at h
  split at h
  · rename_i e; cases h; exact ⟨e, rfl⟩
  · cases h
theorem step_digit {s : List UInt8} {i : Nat} {m m' : List UInt8} (h3 : ¬ i % 3 = 2) (h : docStep s i m = some m') : ¬ docD (s.getD i 0) = 16 ∧ m' = m.set (i / 3) (m.getD (i / 3) 0 * 16 + UInt8.ofNat (docD (s.getD i 0))) := by
  unfold docStep at h
  rw [if_neg h3] at h
  split at h
  · cases h
  · rename_i e; cases h; exact ⟨e, rfl⟩
theorem nib2 : ∀ x y : Fin 16, (0 * 16 + UInt8.ofNat x.1) * 16 + UInt8.ofNat y.1 = UInt8.ofNat (16 * x.1 + y.1) := by decide +kernel
theorem nib3 {a b : UInt8} (ha : ¬ docD a = 16) (hb : ¬ docD b = 16) : (0 * 16 + UInt8.ofNat (docD a)) * 16 + UInt8.ofNat (docD b) = UInt8.ofNat (16 * docD a + docD b) := by
  have h1 := docD_le a
  have h2 := docD_le b
  exact nib2 ⟨docD a, by omega⟩ ⟨docD b, by omega⟩
theorem dig_ne {a : UInt8} (ha : ¬ docD a = 16) : ¬ a = 58 := fun e => ha (by rw [e]; exact docD_colon)
theorem dig_ne47 {a : UInt8} (ha : ¬ docD a = 16) : ¬ a = 47 := fun e => ha (by rw [e]; exact docD_slash)
theorem two_some {p : List UInt8} {c : UInt8} (h : two p = some c) : ∃ a b, p = [a, b] ∧ ¬ docD a = 16 ∧ ¬ docD b = 16 ∧ c = UInt8.ofNat (16 * docD a + docD b) := by
  match p, h with
  | [a, b], h =>
    simp only [two] at h
    split at h
    · cases h
    · rename_i e; cases h; exact ⟨a, b, rfl, by omega, by omega, rfl⟩
theorem two_mk {a b : UInt8} (ha : ¬ docD a = 16) (hb : ¬ docD b = 16) : two [a, b] = some (UInt8.ofNat (16 * docD a + docD b)) := by
  simp only [two]; rw [if_neg (by omega)]
theorem mk_digit {s : List UInt8} {i : Nat} {m : List UInt8} (h3 : ¬ i % 3 = 2) (hd : ¬ docD (s.getD i 0) = 16) : docStep s i m = some (m.set (i / 3) (m.getD (i / 3) 0 * 16 + UInt8.ofNat (docD (s.getD i 0)))) := by
  rw [docStep, if_neg h3, if_neg hd]
theorem mk_colon {s : List UInt8} {i : Nat} {m : List UInt8} (h3 : i % 3 = 2) (hd : s.getD i 0 = 58) : docStep s i m = some m := by
  rw [docStep, if_pos h3, if_pos hd]
/-- The shape of a text that is an address. -/
def Shape (s m : List UInt8) : Prop := ∃ a0 b0 a1 b1 a2 b2 a3 b3 a4 b4 a5 b5 : UInt8, s = [a0, b0, 58, a1, b1, 58, a2, b2, 58, a3, b3, 58, a4, b4, 58, a5, b5] ∧
  ¬ docD a0 = 16 ∧ ¬ docD b0 = 16 ∧ ¬ docD a1 = 16 ∧ ¬ docD b1 = 16 ∧ ¬ docD a2 = 16 ∧ ¬ docD b2 = 16 ∧ ¬ docD a3 = 16 ∧ ¬ docD b3 = 16 ∧ ¬ docD a4 = 16 ∧ ¬ docD b4 = 16 ∧ ¬ docD a5 = 16 ∧ ¬ docD b5 = 16 ∧
  m = [UInt8.ofNat (16 * docD a0 + docD b0), UInt8.ofNat (16 * docD a1 + docD b1), UInt8.ofNat (16 * docD a2 + docD b2), UInt8.ofNat (16 * docD a3 + docD b3), UInt8.ofNat (16 * docD a4 + docD b4), UInt8.ofNat (16 * docD a5 + docD b5)]
theorem shape_parse {s m : List UInt8} (h : Shape s m) : parseO s = some m := by
  obtain ⟨a0, b0, a1, b1, a2, b2, a3, b3, a4, b4, a5, b5, rfl, p0, q0, p1, q1, p2, q2, p3, q3, p4, q4, p5, q5, rfl⟩ := h
  have hsp : splitL 58 [a0, b0, 58, a1, b1, 58, a2, b2, 58, a3, b3, 58, a4, b4, 58, a5, b5] = [[a0, b0], [a1, b1], [a2, b2], [a3, b3], [a4, b4], [a5, b5]] := by
    simp only [splitL, if_neg (dig_ne p0), if_neg (dig_ne q0), if_neg (dig_ne p1), if_neg (dig_ne q1), if_neg (dig_ne p2), if_neg (dig_ne q2), if_neg (dig_ne p3), if_neg (dig_ne q3), if_neg (dig_ne p4), if_neg (dig_ne q4), if_neg (dig_ne p5), if_neg (dig_ne q5), if_pos]
  rw [parseO, hsp]
  show (if (6 : Nat) = 6 then _ else _) = _
  rw [if_pos rfl]
  simp only [twos, two_mk p0 q0, two_mk p1 q1, two_mk p2 q2, two_mk p3 q3, two_mk p4 q4, two_mk p5 q5]
theorem parse_shape {s m : List UInt8} (h : parseO s = some m) : Shape s m := by
  unfold parseO at h
  split at h
  · rename_i h6
    have hj := join_split 58 s
    obtain ⟨p0, p1, p2, p3, p4, p5, hp⟩ : ∃ p0 p1 p2 p3 p4 p5, splitL 58 s = [p0, p1, p2, p3, p4, p5] := by
      match splitL 58 s, h6 with
      | [p0, p1, p2, p3, p4, p5], _ => exact ⟨_, _, _, _, _, _, rfl⟩
    rw [hp] at h hj
    simp only [twos] at h
    cases e0 : two p0 <;> rw [e0] at h <;> simp only at h
    · cases h
    cases e1 : two p1 <;> rw [e1] at h <;> simp only at h
    · cases h
    cases e2 : two p2 <;> rw [e2] at h <;> simp only at h
    · cases h
    cases e3 : two p3 <;> rw [e3] at h <;> simp only at h
    · cases h
    cases e4 : two p4 <;> rw [e4] at h <;> simp only at h
    · cases h
    cases e5 : two p5 <;> rw [e5] at h <;> simp only at h
    · cases h
    cases h
    obtain ⟨a0, b0, rfl, x0, y0, rfl⟩ := two_some e0
    obtain ⟨a1, b1, rfl, x1, y1, rfl⟩ := two_some e1
    obtain ⟨a2, b2, rfl, x2, y2, rfl⟩ := two_some e2
    obtain ⟨a3, b3, rfl, x3, y3, rfl⟩ := two_some e3
    obtain ⟨a4, b4, rfl, x4, y4, rfl⟩ := two_some e4
    obtain ⟨a5, b5, rfl, x5, y5, rfl⟩ := two_some e5
    exact ⟨a0, b0, a1, b1, a2, b2, a3, b3, a4, b4, a5, b5, by rw [← hj]; rfl, x0, y0, x1, y1, x2, y2, x3, y3, x4, y4, x5, y5, rfl⟩
  · cases h
theorem shape_doc {s m : List UInt8} (h : Shape s m) : docO s = some m := by
  obtain ⟨a0, b0, a1, b1, a2, b2, a3, b3, a4, b4, a5, b5, rfl, p0, q0, p1, q1, p2, q2, p3, q3, p4, q4, p5, q5, rfl⟩ := h
  rw [docO]
  show (if (17 : Nat) = 17 then _ else _) = _
  rw [if_pos rfl]
  have t0 : docSt [a0, b0, 58, a1, b1, 58, a2, b2, 58, a3, b3, 58, a4, b4, 58, a5, b5] 0 = some [0, 0, 0, 0, 0, 0] := rfl
  have t1 : docSt [a0, b0, 58, a1, b1, 58, a2, b2, 58, a3, b3, 58, a4, b4, 58, a5, b5] 1 = some [0 * 16 + UInt8.ofNat (docD a0), 0, 0, 0, 0, 0] := (docSt_succ t0).trans (mk_digit (by decide) p0)
  have t2 : docSt [a0, b0, 58, a1, b1, 58, a2, b2, 58, a3, b3, 58, a4, b4, 58, a5, b5] 2 = some [(0 * 16 + UInt8.ofNat (docD a0)) * 16 + UInt8.ofNat (docD b0), 0, 0, 0, 0, 0] := (docSt_succ t1).trans (mk_digit (by decide) q0)
  have t3 : docSt [a0, b0, 58, a1, b1, 58, a2, b2, 58, a3, b3, 58, a4, b4, 58, a5, b5] 3 = some [(0 * 16 + UInt8.ofNat (docD a0)) * 16 + UInt8.ofNat (docD b0), 0, 0, 0, 0, 0] := (docSt_succ t2).trans (mk_colon (by decide) rfl)
  have t4 : docSt [a0, b0, 58, a1, b1, 58, a2, b2, 58, a3, b3, 58, a4, b4, 58, a5, b5] 4 = some [(0 * 16 + UInt8.ofNat (docD a0)) * 16 + UInt8.ofNat (docD b0), 0 * 16 + UInt8.ofNat (docD a1), 0, 0, 0, 0] := (docSt_succ t3).trans (mk_digit (by decide) p1)
  have t5 : docSt [a0, b0, 58, a1, b1, 58, a2, b2, 58, a3, b3, 58, a4, b4, 58, a5, b5] 5 = some [(0 * 16 + UInt8.ofNat (docD a0)) * 16 + UInt8.ofNat (docD b0), (0 * 16 + UInt8.ofNat (docD a1)) * 16 + UInt8.ofNat (docD b1), 0, 0, 0, 0] := (docSt_succ t4).trans (mk_digit (by decide) q1)
  have t6 : docSt [a0, b0, 58, a1, b1, 58, a2, b2, 58, a3, b3, 58, a4, b4, 58, a5, b5] 6 = some [(0 * 16 + UInt8.ofNat (docD a0)) * 16 + UInt8.ofNat (docD b0), (0 * 16 + UInt8.ofNat (docD a1)) * 16 + UInt8.ofNat (docD b1), 0, 0, 0, 0] := (docSt_succ t5).trans (mk_colon (by decide) rfl)
  have t7 : docSt [a0, b0, 58, a1, b1, 58, a2, b2, 58, a3, b3, 58, a4, b4, 58, a5, b5] 7 = some [(0 * 16 + UInt8.ofNat (docD a0)) * 16 + UInt8.ofNat (docD b0), (0 * 16 + UInt8.ofNat (docD a1)) * 16 + UInt8.ofNat (docD b1), 0 * 16 + UInt8.ofNat (docD a2), 0, 0, 0] := (docSt_succ t6).trans (mk_digit (by decide) p2)
  have t8 : docSt [a0, b0, 58, a1, b1, 58, a2, b2, 58, a3, b3, 58, a4, b4, 58, a5, b5] 8 = some [(0 * 16 + UInt8.ofNat (docD a0)) * 16 + UInt8.ofNat (docD b0), (0 * 16 + UInt8.ofNat (docD a1)) * 16 + UInt8.ofNat (docD b1), (0 * 16 + UInt8.ofNat (docD a2)) * 16 + UInt8.ofNat (docD b2), 0, 0, 0] := (docSt_succ t7).trans (mk_digit (by decide) q2)
  have t9 : docSt [a0, b0, 58, a1, b1, 58, a2, b2, 58, a3, b3, 58, a4, b4, 58, a5, b5] 9 = some [(0 * 16 + UInt8.ofNat (docD a0)) * 16 + UInt8.ofNat (docD b0), (0 * 16 + UInt8.ofNat (docD a1)) * 16 + UInt8.ofNat (docD b1), (0 * 16 + UInt8.ofNat (docD a2)) * 16 + UInt8.ofNat (docD b2), 0, 0, 0] := (docSt_succ t8).trans (mk_colon (by decide) rfl)
  have t10 : docSt [a0, b0, 58, a1, b1, 58, a2, b2, 58, a3, b3, 58, a4, b4, 58, a5, b5] 10 = some [(0 * 16 + UInt8.ofNat (docD a0)) * 16 + UInt8.ofNat (docD b0), (0 * 16 + UInt8.ofNat (docD a1)) * 16 + UInt8.ofNat (docD b1), (0 * 16 + UInt8.ofNat (docD a2)) * 16 + UInt8.ofNat (docD b2), 0 * 16 + UInt8.ofNat (docD a3), 0, 0] := (docSt_succ t9).trans (mk_digit (by decide) p3)
  have t11 : docSt [a0, b0, 58, a1, b1, 58, a2, b2, 58, a3, b3, 58, a4, b4, 58, a5, b5] 11 = some [(0 * 16 + UInt8.ofNat (docD a0)) * 16 + UInt8.ofNat (docD b0), (0 * 16 + UInt8.ofNat (docD a1)) * 16 + UInt8.ofNat (docD b1), (0 * 16 + UInt8.ofNat (docD a2)) * 16 + UInt8.ofNat (docD b2), (0 * 16 + UInt8.ofNat (docD a3)) * 16 + UInt8.ofNat (docD b3), 0, 0] := (docSt_succ t10).trans (mk_digit (by decide) q3)
  have t12 : docSt [a0, b0, 58, a1, b1, 58, a2, b2, 58, a3, b3, 58, a4, b4, 58, a5, b5] 12 = some [(0 * 16 + UInt8.ofNat (docD a0)) * 16 + UInt8.ofNat (docD b0), (0 * 16 + UInt8.ofNat (docD a1)) * 16 + UInt8.ofNat (docD b1), (0 * 16 + UInt8.ofNat (docD a2)) * 16 + UInt8.ofNat (docD b2), (0 * 16 + UInt8.ofNat (docD a3)) * 16 + UInt8.ofNat (docD b3), 0, 0] := (docSt_succ t11).trans (mk_colon (by decide) rfl)
  have t13 : docSt [a0, b0, 58, a1, b1, 58, a2, b2, 58, a3, b3, 58, a4, b4, 58, a5, b5] 13 = some [(0 * 16 + UInt8.ofNat (docD a0)) * 16 + UInt8.ofNat (docD b0), (0 * 16 + UInt8.ofNat (docD a1)) * 16 + UInt8.ofNat (docD b1), (0 * 16 + UInt8.ofNat (docD a2)) * 16 + UInt8.ofNat (docD b2), (0 * 16 + UInt8.ofNat (docD a3)) * 16 + UInt8.ofNat (docD b3), 0 * 16 + UInt8.ofNat (docD a4), 0] := (docSt_succ t12).trans (mk_digit (by decide) p4)
  have t14 : docSt [a0, b0, 58, a1, b1, 58, a2, b2, 58, a3, b3, 58, a4, b4, 58, a5, b5] 14 = some [(0 * 16 + UInt8.ofNat (docD a0)) * 16 + UInt8.ofNat (docD b0), (0 * 16 + UInt8.ofNat (docD a1)) * 16 + UInt8.ofNat (docD b1), (0 * 16 + UInt8.ofNat (docD a2)) * 16 + UInt8.ofNat (docD b2), (0 * 16 + UInt8.ofNat (docD a3)) * 16 + UInt8.ofNat (docD b3), (0 * 16 + UInt8.ofNat (docD a4)) * 16 + UInt8.ofNat (docD b4), 0] := (docSt_succ t13).trans (mk_digit (by decide) q4)
  have t15 : docSt [a0, b0, 58, a1, b1, 58, a2, b2, 58, a3, b3, 58, a4, b4, 58, a5, b5] 15 = some [(0 * 16 + UInt8.ofNat (docD a0)) * 16 + UInt8.ofNat (docD b0), (0 * 16 + UInt8.ofNat (docD a1)) * 16 + UInt8.ofNat (docD b1), (0 * 16 + UInt8.ofNat (docD a2)) * 16 + UInt8.ofNat (docD b2), (0 * 16 + UInt8.ofNat (docD a3)) * 16 + UInt8.ofNat (docD b3), (0 * 16 + UInt8.ofNat (docD a4)) * 16 + UInt8.ofNat (docD b4), 0] := (docSt_succ t14).trans (mk_colon (by decide) rfl)
  have t16 : docSt [a0, b0, 58, a1, b1, 58, a2, b2, 58, a3, b3, 58, a4, b4, 58, a5, b5] 16 = some [(0 * 16 + UInt8.ofNat (docD a0)) * 16 + UInt8.ofNat (docD b0), (0 * 16 + UInt8.ofNat (docD a1)) * 16 + UInt8.ofNat (docD b1), (0 * 16 + UInt8.ofNat (docD a2)) * 16 + UInt8.ofNat (docD b2), (0 * 16 + UInt8.ofNat (docD a3)) * 16 + UInt8.ofNat (docD b3), (0 * 16 + UInt8.ofNat (docD a4)) * 16 + UInt8.ofNat (docD b4), 0 * 16 + UInt8.ofNat (docD a5)] := (docSt_succ t15).trans (mk_digit (by decide) p5)
  have t17 : docSt [a0, b0, 58, a1, b1, 58, a2, b2, 58, a3, b3, 58, a4, b4, 58, a5, b5] 17 = some [(0 * 16 + UInt8.ofNat (docD a0)) * 16 + UInt8.ofNat (docD b0), (0 * 16 + UInt8.ofNat (docD a1)) * 16 + UInt8.ofNat (docD b1), (0 * 16 + UInt8.ofNat (docD a2)) * 16 + UInt8.ofNat (docD b2), (0 * 16 + UInt8.ofNat (docD a3)) * 16 + UInt8.ofNat (docD b3), (0 * 16 + UInt8.ofNat (docD a4)) * 16 + UInt8.ofNat (docD b4), (0 * 16 + UInt8.ofNat (docD a5)) * 16 + UInt8.ofNat (docD b5)] := (docSt_succ t16).trans (mk_digit (by decide) q5)
  rw [t17, nib3 p0 q0, nib3 p1 q1, nib3 p2 q2, nib3 p3 q3, nib3 p4 q4, nib3 p5 q5]
theorem doc_shape {s m : List UInt8} (h : docO s = some m) : Shape s m := by
  unfold docO at h
  split at h
  · rename_i h17
    obtain ⟨x0, x1, x2, x3, x4, x5, x6, x7, x8, x9, x10, x11, x12, x13, x14, x15, x16, rfl⟩ : ∃ x0 x1 x2 x3 x4 x5 x6 x7 x8 x9 x10 x11 x12 x13 x14 x15 x16, s = [x0, x1, x2, x3, x4, x5, x6, x7, x8, x9, x10, x11, x12, x13, x14, x15, x16] := by
      match s, h17 with
      | [x0, x1, x2, x3, x4, x5, x6, x7, x8, x9, x10, x11, x12, x13, x14, x15, x16], _ => exact ⟨_, _, _, _, _, _, _, _, _, _, _, _, _, _, _, _, _, rfl⟩
    obtain ⟨m16, h, k16⟩ := docSt_inv h
    obtain ⟨m15, h, k15⟩ := docSt_inv h
    obtain ⟨m14, h, k14⟩ := docSt_inv h
    obtain ⟨m13, h, k13⟩ := docSt_inv h
    obtain ⟨m12, h, k12⟩ := docSt_inv h
    obtain ⟨m11, h, k11⟩ := docSt_inv h
    obtain ⟨m10, h, k10⟩ := docSt_inv h
    obtain ⟨m9, h, k9⟩ := docSt_inv h
    obtain ⟨m8, h, k8⟩ := docSt_inv h
    obtain ⟨m7, h, k7⟩ := docSt_inv h
    obtain ⟨m6, h, k6⟩ := docSt_inv h
    obtain ⟨m5, h, k5⟩ := docSt_inv h
    obtain ⟨m4, h, k4⟩ := docSt_inv h
    obtain ⟨m3, h, k3⟩ := docSt_inv h
    obtain ⟨m2, h, k2⟩ := docSt_inv h
    obtain ⟨m1, h, k1⟩ := docSt_inv h
    obtain ⟨m0, h, k0⟩ := docSt_inv h
    obtain rfl : zero6 = m0 := Option.some.inj h
    obtain ⟨d0, rfl⟩ := step_digit (by decide) k0
    obtain ⟨d1, rfl⟩ := step_digit (by decide) k1
    obtain ⟨c2, rfl⟩ := step_colon (by decide) k2
    obtain ⟨d3, rfl⟩ := step_digit (by decide) k3
    obtain ⟨d4, rfl⟩ := step_digit (by decide) k4
    obtain ⟨c5, rfl⟩ := step_colon (by decide) k5
    obtain ⟨d6, rfl⟩ := step_digit (by decide) k6
    obtain ⟨d7, rfl⟩ := step_digit (by decide) k7
    obtain ⟨c8, rfl⟩ := step_colon (by decide) k8
    obtain ⟨d9, rfl⟩ := step_digit (by decide) k9
    obtain ⟨d10, rfl⟩ := step_digit (by decide) k10
    obtain ⟨c11, rfl⟩ := step_colon (by decide) k11
    obtain ⟨d12, rfl⟩ := step_digit (by decide) k12
    obtain ⟨d13, rfl⟩ := step_digit (by decide) k13
    obtain ⟨c14, rfl⟩ := step_colon (by decide) k14
    obtain ⟨d15, rfl⟩ := step_digit (by decide) k15
    obtain ⟨d16, rfl⟩ := step_digit (by decide) k16
    obtain rfl : x2 = 58 := c2
    obtain rfl : x5 = 58 := c5
    obtain rfl : x8 = 58 := c8
    obtain rfl : x11 = 58 := c11
    obtain rfl : x14 = 58 := c14
    refine ⟨x0, x1, x3, x4, x6, x7, x9, x10, x12, x13, x15, x16, rfl, d0, d1, d3, d4, d6, d7, d9, d10, d12, d13, d15, d16, ?_⟩
    rw [← nib3 (a := x0) (b := x1) d0 d1, ← nib3 (a := x3) (b := x4) d3 d4, ← nib3 (a := x6) (b := x7) d6 d7, ← nib3 (a := x9) (b := x10) d9 d10, ← nib3 (a := x12) (b := x13) d12 d13, ← nib3 (a := x15) (b := x16) d15 d16]
    rfl
  · cases h
theorem doc_parse (s : List UInt8) : docO s = parseO s := by
  cases h : docO s with
  | some m => exact (shape_parse (doc_shape h)).symm
  | none => cases h2 : parseO s with
    | none => rfl
    | some m => rw [shape_doc (parse_shape h2)] at h; cases h
end
end Go.Proofs.YtmkfjdajnamoaaaDoor.Am
namespace Go.Proofs.YtmkfjdajnamoaaaDoor.Am
noncomputable section
/- CONTRACTS: masks of texts. -/
def decN : List UInt8 → Nat → Option Nat
  | [], n => some n
  | c :: l, n => if c.toNat < 48 ∨ 57 < c.toNat then none else decN l (10 * n + (c.toNat - 48))
theorem decN_snoc (c : UInt8) : ∀ (l : List UInt8) (n : Nat), decN (l ++ [c]) n = match decN l n with
    | none => none
    | some m => if c.toNat < 48 ∨ 57 < c.toNat then none else some (10 * m + (c.toNat - 48))
  | [], n => rfl
  | x :: l, n => by
    simp only [List.cons_append, decN]
    split
    · rfl
    · exact decN_snoc c l _
theorem decN_none {r : List UInt8} : ∀ {l : List UInt8} {n : Nat}, decN l n = none → decN (l ++ r) n = none
  | [], n, h => by cases h
  | x :: l, n, h => by
    simp only [List.cons_append, decN] at h ⊢
    split
    · rfl
    · rename_i hc; rw [if_neg hc] at h; exact decN_none h
theorem decN_le : ∀ {l : List UInt8} {n m : Nat}, decN l n = some m → m ≤ (n + 1) * 10 ^ l.length
  | [], n, m, h => by cases h; simp
  | x :: l, n, m, h => by
    simp only [decN] at h
    split at h
    · cases h
    · have h1 := decN_le h
      have h2 := x.toNat_lt
      rename_i hc
      have h3 : 10 * n + (x.toNat - 48) + 1 ≤ (n + 1) * 10 := by omega
      have := Nat.mul_le_mul_right (10 ^ l.length) h3
      rw [List.length_cons, Nat.pow_succ]
      calc m ≤ (10 * n + (x.toNat - 48) + 1) * 10 ^ l.length := h1
        _ ≤ (n + 1) * 10 * 10 ^ l.length := this
        _ = (n + 1) * (10 ^ l.length * 10) := by rw [Nat.mul_assoc, Nat.mul_comm 10]
def maskM (s : List UInt8) : List UInt8 := if 2 < s.length then parseM s else match decN s 0 with
  | none => zero6
  | some n => if s = [] then zero6 else if 48 < n then zero6 else macB (maskN n)
def maskE (s : List UInt8) : Nat := if 2 < s.length then parseE s else match decN s 0 with
  | none => 5
  | some n => if s = [] then 5 else if 48 < n then 24 else 0
def MInv (s : List UInt8) (q z : Nat) (h0 : AHeap) (n0 : Nat) (r : Nat) (σ : Fr) (h : AHeap) (n : Nat) : Prop :=
  n = n0 ∧ h = h0 ∧ ∃ i m, i + r = s.length ∧ decN (s.take i) 0 = some m ∧ σ = [(0, .string ⟨s.toArray⟩), (2, .pointer (some ⟨q, 0, some 6⟩)), (4, .int .i64 (m : Int)), (15, .slice (some ⟨z, 0, some s.length⟩) s.length 2), (16, .int .i64 (s.length : Int)), (17, .int .i64 (i : Int))]
def MPost (s : List UInt8) (q : Nat) (h0 : AHeap) (n0 : Nat) (e : Ex) (σ' : Fr) (h' : AHeap) (n' : Nat) : Prop :=
  n' = n0 ∧ HSub h0 h' ∧ h'.get q = some zeroBlk ∧ σ'.get 2 = some (.pointer (some ⟨q, 0, some 6⟩)) ∧
  (e = .exit 0 ∧ h' = h0 ∧ σ'.get 0 = some (.string ⟨s.toArray⟩) ∧ (∃ m, decN s 0 = some m ∧ σ'.get 4 = some (.int .i64 (m : Int))) ∨ e = .ret ∧ decN s 0 = none ∧ σ'.get 3 = some (.int .i64 5))
theorem mask_loop {s : List UInt8} (hs : s.length ≤ 2) {q z : Nat} {h0 : AHeap} (hq : h0.get q = some zeroBlk) (hr : h0.read z s.length 0 s.length = some (u8s s)) {n0 : Nat} (hqn : q < n0) :
    ∀ (r : Nat) (σ : Fr) (h : AHeap) (n : Nat), MInv s q z h0 n0 r σ h n → HasCode EV02 (.loop F38L0) σ h n (MPost s q h0 n0) := by
  refine wx_inv _ fun r σ h n hI => ?_
  obtain ⟨rfl, rfl, i, m, hi, hm, rfl⟩ := hI
  cases r with
  | zero =>
    obtain rfl : i = s.length := by omega
    rw [List.take_length] at hm
    simp -dsimp (discharger := omega) [F38L0]
    exact ⟨rfl, .refl _, hq, by simp, .inl ⟨rfl, rfl, by simp, m, hm, by simp⟩⟩
  | succ r =>
    have hlt : i < s.length := by omega
    have hx := List.getElem?_eq_getElem hlt
    generalize s[i] = c at hx
    have hrd := read_one hr (u8s_get? hx) hlt
    rw [Nat.zero_add] at hrd
    have hsn : decN (s.take (i + 1)) 0 = if c.toNat < 48 ∨ 57 < c.toNat then none else some (10 * m + (c.toNat - 48)) := by rw [take_snoc hx, decN_snoc, hm]
    have hml := decN_le hm
    have hp2 : 10 ^ (s.take i).length ≤ 10 ^ 2 := Nat.pow_le_pow_right (by omega) (by simp; omega)
    have hc := c.toNat_lt
    have hqx : h.get q = some (.cells (some 23) [.int .u8 0, .int .u8 0, .int .u8 0, .int .u8 0, .int .u8 0, .int .u8 0] 6) := hq
    have hqs : HSub h (h.put q (.cells (some 23) [.int .u8 0, .int .u8 0, .int .u8 0, .int .u8 0, .int .u8 0, .int .u8 0] 6)) := fun j b hb => by
      rw [AHeap.get_put]
      split
      · rename_i e; subst e; rw [hqx] at hb; exact hb
      · exact hb
    by_cases h1 : c.toNat < 48
    · rw [if_pos (.inl h1)] at hsn
      have hno : decN s 0 = none := by
        have := decN_none (r := s.drop (i + 1)) hsn
        rwa [List.take_append_drop] at this
      simp -dsimp (discharger := omega) [F38L0, hrd, aFill, hqx]
      exact ⟨rfl, hqs, by simp [zeroBlk, u8s], by simp, .inr ⟨rfl, hno, by simp⟩⟩
    · by_cases h2 : 57 < c.toNat
      · rw [if_pos (.inr h2)] at hsn
        have hno : decN s 0 = none := by
          have := decN_none (r := s.drop (i + 1)) hsn
          rwa [List.take_append_drop] at this
        simp -dsimp (discharger := omega) [F38L0, hrd, aFill, hqx]
        exact ⟨rfl, hqs, by simp [zeroBlk, u8s], by simp, .inr ⟨rfl, hno, by simp⟩⟩
      · rw [if_neg (by omega)] at hsn
        have hsub : 10 * (m : Int) + ((c.toNat : Int) - 48) = ((10 * m + (c.toNat - 48) : Nat) : Int) := by omega
        simp -dsimp (discharger := omega) [F38L0, hrd, hsub]
        exact .mk' r (by omega) [(0, .string ⟨s.toArray⟩), (2, .pointer (some ⟨q, 0, some 6⟩)), (4, .int .i64 ((10 * m + (c.toNat - 48) : Nat) : Int)), (15, .slice (some ⟨z, 0, some s.length⟩) s.length 2), (16, .int .i64 (s.length : Int)), (17, .int .i64 ((i + 1 : Nat) : Int))] _ (by simp []) (.refl _) ⟨rfl, rfl, i + 1, _, by omega, hsn, rfl⟩
theorem parseM_len (s : List UInt8) : (parseM s).length = 6 := by
  unfold parseM parseO
  split
  · rename_i h
    cases e : twos (splitL 58 s) with
    | none => rfl
    | some bs => simp [twos_len e, h]
  · rfl
theorem maskM_len (s : List UInt8) : (maskM s).length = 6 := by
  unfold maskM
  split
  · exact parseM_len s
  · split
    · rfl
    · split
      · rfl
      · split
        · rfl
        · simp
theorem mask_some {s : List UInt8} {m : Nat} (h2 : ¬ 2 < s.length) (hm : decN s 0 = some m) : maskM s = (if s = [] then zero6 else if 48 < m then zero6 else macB (maskN m)) ∧ maskE s = if s = [] then 5 else if 48 < m then 24 else 0 := by
  unfold maskM maskE
  rw [if_neg h2, if_neg h2, hm]
  exact ⟨rfl, rfl⟩
theorem mask_none {s : List UInt8} (h2 : ¬ 2 < s.length) (hm : decN s 0 = none) : maskM s = zero6 ∧ maskE s = 5 := by
  unfold maskM maskE
  rw [if_neg h2, if_neg h2, hm]
  exact ⟨rfl, rfl⟩
theorem mask_long {s : List UInt8} (h2 : 2 < s.length) : maskM s = parseM s ∧ maskE s = parseE s := by
  unfold maskM maskE
  rw [if_pos h2, if_pos h2]
  exact ⟨rfl, rfl⟩
theorem parseMask_ret {s : List UInt8} (hs : s.length < 100000) {h : AHeap} {n : Nat} (hw : WF h n) : Ret EV02 38 [.string ⟨s.toArray⟩] h n (.tuple #[macV (maskM s), .int .i64 ((maskE s : Nat) : Int)]) [] (n + 5) := by
  refine rsx38 (by simp) (by simp) ?_
  have hz6 : (u8s zero6).take 6 = u8s zero6 := rfl
  have hs0 : HSub h (h.put n (.cells (some 23) [.int .u8 0, .int .u8 0, .int .u8 0, .int .u8 0, .int .u8 0, .int .u8 0] 6)) := (HSub.refl h).new hw (Nat.le_refl n) _
  by_cases h2 : 2 < s.length
  · rw [(mask_long h2).1, (mask_long h2).2]
    have lp := u8s6 (parseM_len s)
    have tp : (u8s (parseM s)).take 6 = u8s (parseM s) := List.take_of_length_le (by omega)
    simp -dsimp (discharger := omega) [B38]
    with_reducible refine call_ret (parse_ret hs (hw.put _ (by omega) (by omega))) ?_
    simp -dsimp (discharger := omega) [lp, tp]
    exact hs0.new hw (by omega) _
  · have hr : (u8s s).take s.length = u8s s := List.take_of_length_le (by simp)
    simp -dsimp (discharger := omega) [B38]
    have hG0 : (((h.put n (.cells (some 23) [.int .u8 0, .int .u8 0, .int .u8 0, .int .u8 0, .int .u8 0, .int .u8 0] 6)).put (n + 1) (.cells (some 5) (u8s s) s.length)) : AHeap).get n = some zeroBlk := by simp [zeroBlk, u8s]
    have hG1 : (((h.put n (.cells (some 23) [.int .u8 0, .int .u8 0, .int .u8 0, .int .u8 0, .int .u8 0, .int .u8 0] 6)).put (n + 1) (.cells (some 5) (u8s s) s.length)) : AHeap).read (n + 1) s.length 0 s.length = some (u8s s) := by simp [hr]
    have hGs : HSub h ((h.put n (.cells (some 23) [.int .u8 0, .int .u8 0, .int .u8 0, .int .u8 0, .int .u8 0, .int .u8 0] 6)).put (n + 1) (.cells (some 5) (u8s s) s.length)) := hs0.new hw (by omega) _
    have hGw : WF ((h.put n (.cells (some 23) [.int .u8 0, .int .u8 0, .int .u8 0, .int .u8 0, .int .u8 0, .int .u8 0] 6)).put (n + 1) (.cells (some 5) (u8s s) s.length)) (n + 2) := .of fun j hj => by simp (discharger := omega) [hw.none (i := j) (by omega)]
    generalize ((h.put n (.cells (some 23) [.int .u8 0, .int .u8 0, .int .u8 0, .int .u8 0, .int .u8 0, .int .u8 0] 6)).put (n + 1) (.cells (some 5) (u8s s) s.length) : AHeap) = G at *
    refine loop_use (mask_loop (s := s) (by omega) (q := n) (z := n + 1) (h0 := G) hG0 hG1 (n0 := n + 1 + 1) (by omega) s.length [(0, .string ⟨s.toArray⟩), (2, .pointer (some ⟨n, 0, some 6⟩)), (4, .int .i64 ((0 : Nat) : Int)), (15, .slice (some ⟨n + 1, 0, some s.length⟩) s.length 2), (16, .int .i64 (s.length : Int)), (17, .int .i64 ((0 : Nat) : Int))] _ _ ⟨rfl, rfl, 0, 0, by omega, rfl, rfl⟩) (by simp) (.refl _) ?_
    rintro e σ' h' n' ⟨rfl, hs', hq, e2, ⟨rfl, rfl, e0, m, hm, e4⟩ | ⟨rfl, hm, e3⟩⟩
    · obtain ⟨k1, k2⟩ := mask_some h2 hm
      rw [k1, k2]
      have lz : (u8s [0, 0, 0, 0, 0, 0]).length = 6 := rfl
      have hqx : h'.get n = some (.cells (some 23) [.int .u8 0, .int .u8 0, .int .u8 0, .int .u8 0, .int .u8 0, .int .u8 0] 6) := hq
      by_cases he : s = []
      · rw [if_pos he, if_pos he]
        subst he
        simp -dsimp (discharger := omega) [e0, e2, hqx, aFill]
        exact ⟨rfl, hGs.new hw (Nat.le_refl n) _⟩
      · rw [if_neg he, if_neg he]
        have he2 : s.isEmpty = false := by cases s with
          | nil => exact absurd rfl he
          | cons a l => rfl
        by_cases h48 : 48 < m
        · rw [if_pos h48, if_pos h48]
          simp -dsimp (discharger := omega) [e0, e2, e4, hqx, aFill, he2]
          exact ⟨rfl, hGs.new hw (Nat.le_refl n) _⟩
        · rw [if_neg h48, if_neg h48]
          have lm := u8s6 (macB_length (maskN m))
          have tm : (u8s (macB (maskN m))).take 6 = u8s (macB (maskN m)) := List.take_of_length_le (by omega)
          simp -dsimp (discharger := omega) [e0, e4, he2]
          with_reducible refine call_ret (bitsN_ret (by omega) hGw) ?_
          simp -dsimp (discharger := omega) [e2, hqx, lm, tm]
          exact hGs.new hw (Nat.le_refl n) _
    · have hqx : h'.get n = some (.cells (some 23) (u8s zero6) 6) := hq
      have lz : (u8s zero6).length = 6 := rfl
      rw [(mask_none h2 hm).1, (mask_none h2 hm).2]
      simp -dsimp (discharger := omega) [e2, e3, AHeap.read, hqx, lz, hz6]
      exact hGs.trans hs'
end
end Go.Proofs.YtmkfjdajnamoaaaDoor.Am
namespace Go.Proofs.YtmkfjdajnamoaaaDoor.Am
noncomputable section
/- CONTRACTS: patterns of texts. -/
def patE (s : List UInt8) : Nat := if parseE (cutA s 47) = 0 then (if cutB s 47 = true then maskE (cutZ s 47) else 0) else parseE (cutA s 47)
def patK (s : List UInt8) : List UInt8 := if patE s = 0 then (if cutB s 47 = true then maskM (cutZ s 47) else macB (maskN 48)) else zero6
def patW (s : List UInt8) : List UInt8 := if patE s = 0 then macB (numL (parseM (cutA s 47)) &&& numL (patK s)) else zero6
theorem cutA_len (s : List UInt8) (c : UInt8) : (cutA s c).length ≤ s.length := by
  unfold cutA; split
  · exact Nat.le_refl _
  · simp; omega
theorem cutZ_len (s : List UInt8) (c : UInt8) : (cutZ s c).length ≤ s.length := by
  unfold cutZ; split
  · simp
  · simp
theorem pattern_ret {s : List UInt8} (hs : s.length < 100000) {h : AHeap} {n : Nat} (hw : WF h n) : Ret EV02 11 [.string ⟨s.toArray⟩] h n (.tuple #[.agg (u8s (patW s) ++ u8s (patK s)).toArray, .int .i64 ((patE s : Nat) : Int)]) [] (n + 40) := by
  refine rsx11 (by simp) (by simp) ?_
  have l1 := cutA_len s 47
  have l2 := cutZ_len s 47
  have z12 : u8s zero6 ++ u8s zero6 = [.int .u8 0, .int .u8 0, .int .u8 0, .int .u8 0, .int .u8 0, .int .u8 0, .int .u8 0, .int .u8 0, .int .u8 0, .int .u8 0, .int .u8 0, .int .u8 0] := rfl
  have lp := u8s6 (parseM_len (cutA s 47))
  have tp : (u8s (parseM (cutA s 47))).take 6 = u8s (parseM (cutA s 47)) := List.take_of_length_le (by omega)
  have lm := u8s6 (maskM_len (cutZ s 47))
  have tm : (u8s (maskM (cutZ s 47))).take 6 = u8s (maskM (cutZ s 47)) := List.take_of_length_le (by omega)
  have hs0 : ∀ B : Blk, HSub h (h.put n B) := fun B => (HSub.refl h).new hw (Nat.le_refl n) _
  have e2 : HSub h ((h.put n (.cells (some 30) [.int .u8 0, .int .u8 0, .int .u8 0, .int .u8 0, .int .u8 0, .int .u8 0, .int .u8 0, .int .u8 0, .int .u8 0, .int .u8 0, .int .u8 0, .int .u8 0] 12))) := hs0 _
  simp -dsimp (discharger := omega) [B11]
  with_reducible refine call_ret (cut_ret s 47 (by omega) _ _) ?_
  simp -dsimp (discharger := omega) []
  with_reducible refine call_ret (parse_ret (by omega) (hw.put _ (by omega) (by omega))) ?_
  unfold patW patK
  by_cases hp : parseE (cutA s 47) = 0
  · have pE : patE s = if cutB s 47 = true then maskE (cutZ s 47) else 0 := by rw [patE, if_pos hp]
    rw [hp]
    simp -dsimp (discharger := omega) [lp]
    with_reducible refine call_ret (bitsN_ret (i := 48) (by omega) ?_) ?_
    · exact .of fun j hj => by simp (discharger := omega) [hw.none (i := j) (by omega)]
    have lb := u8s6 (macB_length (maskN 48))
    have tb : (u8s (macB (maskN 48))).take 6 = u8s (macB (maskN 48)) := List.take_of_length_le (by omega)
    simp -dsimp (discharger := omega) []
    refine Test.split (fun hc => ?_) (fun hc => ?_)
    · rw [if_pos hc] at pE
      simp -dsimp (discharger := omega) []
      with_reducible refine call_ret (parseMask_ret (by omega) ?_) ?_
      · exact .of fun j hj => by simp (discharger := omega) [hw.none (i := j) (by omega)]
      by_cases hm : maskE (cutZ s 47) = 0
      · rw [hm] at pE
        rw [pE, if_pos rfl, if_pos rfl, if_pos hc, hm]
        have lw := u8s6 (macB_length (numL (parseM (cutA s 47)) &&& numL (maskM (cutZ s 47))))
        have d12 : List.drop 12 (u8s (macB (numL (parseM (cutA s 47)) &&& numL (maskM (cutZ s 47)))) ++ [Value.int .u8 0, .int .u8 0, .int .u8 0, .int .u8 0, .int .u8 0, .int .u8 0]) = [] := List.drop_of_length_le (by simp [lw])
        simp -dsimp (discharger := omega) [lp, tp, lm, lb, tb]
        with_reducible refine ret_ret (masked_ret (parseM_len _) (maskM_len _) ?_) ?_
        · exact .of fun j hj => by simp (discharger := omega) [hw.none (i := j) (by omega)]
        simp -dsimp (discharger := omega) [lm, lb, lw, d12, aFill]
        refine ⟨by omega, List.take_of_length_le (by simp [lw, lm]), ?_⟩
        exact ((((((hs0 _).new hw (by omega) _).new hw (by omega) _).new hw (by omega) _).new hw (by omega) _).new hw (by omega) _).new hw (by omega) _
      · rw [pE, if_neg hm, if_neg hm, z12]
        simp -dsimp (discharger := omega) [aFill]
        refine ⟨maskM_len _, ?_⟩
        exact ((((((hs0 _).new hw (by omega) _).new hw (by omega) _).new hw (by omega) _).new hw (by omega) _).new hw (by omega) _).new hw (by omega) _
    · have hcf : ¬ cutB s 47 = true := by simpa using hc
      rw [if_neg hcf] at pE
      rw [pE, if_pos rfl, if_pos rfl, if_neg hcf]
      have lw := u8s6 (macB_length (numL (parseM (cutA s 47)) &&& numL (macB (maskN 48))))
      have d12 : List.drop 12 (u8s (macB (numL (parseM (cutA s 47)) &&& numL (macB (maskN 48)))) ++ [Value.int .u8 0, .int .u8 0, .int .u8 0, .int .u8 0, .int .u8 0, .int .u8 0]) = [] := List.drop_of_length_le (by simp [lw])
      simp -dsimp (discharger := omega) [lp, tp, lb, tb]
      with_reducible refine ret_ret (masked_ret (parseM_len _) (macB_length _) ?_) ?_
      · exact .of fun j hj => by simp (discharger := omega) [hw.none (i := j) (by omega)]
      simp -dsimp (discharger := omega) [lb, tb, lw, d12, aFill]
      refine ⟨by omega, List.take_of_length_le (by simp [lw, lb]), ?_⟩
      exact (((((hs0 _).new hw (by omega) _).new hw (by omega) _).new hw (by omega) _).new hw (by omega) _).new hw (by omega) _
  · have pE : patE s = parseE (cutA s 47) := by rw [patE, if_neg hp]
    rw [pE, if_neg hp, if_neg hp, z12]
    simp -dsimp (discharger := omega) [lp, aFill]
    exact (((hs0 _).new hw (by omega) _).new hw (by omega) _).new hw (by omega) _
end
end Go.Proofs.YtmkfjdajnamoaaaDoor.Am
namespace Go.Proofs.YtmkfjdajnamoaaaDoor.Am
noncomputable section
/- PLAIN LAW: both readings of a pattern are one. -/
theorem idx_app {c : UInt8} {r : List UInt8} : ∀ {p : List UInt8}, (∀ x, x ∈ p → ¬ x = c) → Lib.indexByte (p ++ r) c = if Lib.indexByte r c = -1 then -1 else (p.length : Int) + Lib.indexByte r c
  | [], _ => by
    simp only [List.nil_append, List.length_nil]
    split <;> omega
  | x :: p, h => by
    have hx : (x == c) = false := beq_eq_false_iff_ne.2 (h x (by simp))
    have ih := idx_app (r := r) (p := p) fun y hy => h y (by simp [hy])
    rcases idx_range r c with e | ⟨i, e, _⟩
    · rw [e] at ih ⊢
      simp only [if_true] at ih ⊢
      simp only [List.cons_append, Lib.indexByte, hx, ih]
      rfl
    · have hne : ¬ Lib.indexByte r c = -1 := by omega
      rw [if_neg hne] at ih ⊢
      simp only [List.cons_append, Lib.indexByte, hx, ih]
      rw [if_neg (by simp), if_neg (by simp; omega), List.length_cons]
      omega
theorem shape_len {s m : List UInt8} (h : Shape s m) : s.length = 17 := by
  obtain ⟨a0, b0, a1, b1, a2, b2, a3, b3, a4, b4, a5, b5, rfl, _⟩ := h
  rfl
theorem shape_47 {s m : List UInt8} (h : Shape s m) : ∀ x, x ∈ s → ¬ x = 47 := by
  obtain ⟨a0, b0, a1, b1, a2, b2, a3, b3, a4, b4, a5, b5, rfl, p0, q0, p1, q1, p2, q2, p3, q3, p4, q4, p5, q5, rfl⟩ := h
  intro x hx
  simp only [List.mem_cons, List.not_mem_nil, or_false] at hx
  have h58 : ¬ (58 : UInt8) = 47 := by decide
  rcases hx with rfl | rfl | rfl | rfl | rfl | rfl | rfl | rfl | rfl | rfl | rfl | rfl | rfl | rfl | rfl | rfl | rfl
  all_goals first | exact h58 | (apply dig_ne47; assumption)
theorem parse_none_len {s : List UInt8} (h : ¬ s.length = 17) : parseO s = none := by
  cases e : parseO s with
  | none => rfl
  | some m => exact absurd (shape_len (parse_shape e)) h
theorem pat_none {s : List UInt8} (h : parseO (cutA s 47) = none) : patE s = 5 ∧ patK s = zero6 ∧ patW s = zero6 := by
  have e : parseE (cutA s 47) = 5 := by rw [parseE, h]; rfl
  have e5 : patE s = 5 := by rw [patE, e]; rfl
  refine ⟨e5, ?_, ?_⟩
  · rw [patK, e5]; rfl
  · rw [patW, e5]; rfl
theorem cutA_prefix (s : List UInt8) : ∃ k, cutA s 47 = s.take k := by
  unfold cutA
  split
  · exact ⟨s.length, by rw [List.take_length]⟩
  · exact ⟨_, rfl⟩
theorem pat_short {s : List UInt8} (h : s.length < 17) : patE s = 5 ∧ patK s = zero6 ∧ patW s = zero6 :=
  pat_none (parse_none_len (by have := cutA_len s 47; omega))
theorem pat_bad {s : List UInt8} (h : 17 ≤ s.length) (hp : parseO (s.take 17) = none) : patE s = 5 ∧ patK s = zero6 ∧ patW s = zero6 := by
  apply pat_none
  cases e : parseO (cutA s 47) with
  | none => rfl
  | some m =>
    obtain ⟨k, hk⟩ := cutA_prefix s
    have hl := shape_len (parse_shape e)
    rw [hk] at hl e
    rw [List.length_take] at hl
    have : s.take k = s.take 17 := by
      rcases Nat.lt_or_ge k s.length with h | h
      · have : k = 17 := by omega
        rw [this]
      · have : s.length = 17 := by omega
        rw [List.take_of_length_le (by omega), List.take_of_length_le (by omega)]
    rw [this, hp] at e; cases e
theorem all_and {m : List UInt8} (hm : m.length = 6) : macB (numL m &&& numL (macB (maskN 48))) = m := by
  rw [numL_mask, and_mask (numL_lt48 hm) (by decide)]
  have : 2 ^ (48 - 48) * (numL m / 2 ^ (48 - 48)) = numL m := by simp
  rw [this, macB_numL hm]
theorem pat_plain {s : List UInt8} (_h : s.length = 17) {m : List UInt8} (hp : parseO s = some m) : patE s = 0 ∧ patK s = macB (maskN 48) ∧ patW s = m := by
  have hi := idx_app (c := 47) (r := []) (shape_47 (parse_shape hp))
  rw [List.append_nil] at hi
  have hi : Lib.indexByte s 47 = -1 := hi
  have ha : cutA s 47 = s := by rw [cutA, if_pos hi]
  have hb : cutB s 47 = false := by rw [cutB, if_pos hi]
  have e : parseE (cutA s 47) = 0 := by rw [ha, parseE, hp]; rfl
  have e5 : patE s = 0 := by rw [patE, e, hb]; rfl
  have ek : patK s = macB (maskN 48) := by rw [patK, e5, hb]; rfl
  have hm : parseM s = m := by rw [parseM, hp]; rfl
  refine ⟨e5, ek, ?_⟩
  rw [patW, if_pos e5, ek, ha, hm]
  exact all_and (by rw [← hm]; exact parseM_len s)
theorem pat_slash {s : List UInt8} {r : List UInt8} (h : s.drop 17 = 47 :: r) {m : List UInt8} (hp : parseO (s.take 17) = some m) : patE s = maskE r ∧ patK s = (if maskE r = 0 then maskM r else zero6) ∧ patW s = if maskE r = 0 then macB (numL m &&& numL (maskM r)) else zero6 := by
  have hl := shape_len (parse_shape hp)
  have hi := idx_app (c := 47) (r := 47 :: r) (shape_47 (parse_shape hp))
  rw [hl, ← h, List.take_append_drop, h] at hi
  have h0 : Lib.indexByte (47 :: r) 47 = 0 := by simp [Lib.indexByte]
  rw [h0, if_neg (by omega)] at hi
  have hi : Lib.indexByte s 47 = 17 := hi
  have hne : ¬ Lib.indexByte s 47 = -1 := by omega
  have ha : cutA s 47 = s.take 17 := by rw [cutA, if_neg hne, hi]; rfl
  have hb : cutB s 47 = true := by rw [cutB, if_neg hne]
  have hz : cutZ s 47 = r := by
    rw [cutZ, if_neg hne, hi]
    show s.drop 18 = r
    have : s.drop 18 = (s.drop 17).drop 1 := by rw [List.drop_drop]
    rw [this, h]; rfl
  have e : parseE (cutA s 47) = 0 := by rw [ha, parseE, hp]; rfl
  have e5 : patE s = maskE r := by rw [patE, e, hb, hz]; rfl
  have hm : parseM (s.take 17) = m := by rw [parseM, hp]; rfl
  have ek : patK s = if maskE r = 0 then maskM r else zero6 := by rw [patK, e5, hb, hz]; rfl
  refine ⟨e5, ek, ?_⟩
  rw [patW, e5, ek, ha, hm]
  split <;> rfl
theorem pat_other {s : List UInt8} {x : UInt8} {r : List UInt8} (h : s.drop 17 = x :: r) (hx : ¬ x = 47) {m : List UInt8} (hp : parseO (s.take 17) = some m) : patE s = 5 ∧ patK s = zero6 ∧ patW s = zero6 := by
  apply pat_none
  apply parse_none_len
  have hl := shape_len (parse_shape hp)
  have hi := idx_app (c := 47) (r := x :: r) (shape_47 (parse_shape hp))
  rw [hl, ← h, List.take_append_drop, h] at hi
  have hsl : 18 ≤ s.length := by
    have : (s.drop 17).length = (x :: r).length := by rw [h]
    rw [List.length_drop, List.length_cons] at this; omega
  have hxx : (x == 47) = false := beq_eq_false_iff_ne.2 hx
  rcases idx_range r 47 with e | ⟨i, e, _⟩
  · have : Lib.indexByte (x :: r) 47 = -1 := by simp [Lib.indexByte, hxx, e]
    rw [this, if_pos rfl] at hi
    rw [cutA, if_pos hi]; omega
  · have : Lib.indexByte (x :: r) 47 = (i : Int) + 1 := by
      simp only [Lib.indexByte, hxx, e]
      rw [if_neg (by simp), if_neg (by simp)]
    rw [this, if_neg (by omega)] at hi
    rw [cutA, if_neg (by omega), hi, List.length_take]; omega
theorem pat_lens (s : List UInt8) : (patW s).length = 6 ∧ (patK s).length = 6 := by
  constructor
  · unfold patW; split
    · simp
    · rfl
  · unfold patK; split
    · split
      · exact maskM_len _
      · simp
    · rfl
end
end Go.Proofs.YtmkfjdajnamoaaaDoor.Am
namespace Go.Proofs.YtmkfjdajnamoaaaDoor.Am
noncomputable section
/- PLAIN LAWS: there and back. -/
theorem hexD_doc : ∀ x : Fin 16, docD (hexD x.1) = x.1 ∧ docD (upc (hexD x.1)) = x.1 ∧ (hexD x.1).toNat < 128 := by decide +kernel
theorem byte_hex : ∀ c : Fin 256, UInt8.ofNat (16 * (c.1 / 16) + c.1 % 16) = UInt8.ofNat c.1 := by decide +kernel
theorem low_doc : ∀ c : Fin 256, docD (UInt8.ofNat c.1) = 16 ∨ hexD (docD (UInt8.ofNat c.1)) = loc (UInt8.ofNat c.1) ∧ (UInt8.ofNat c.1).toNat < 128 := by decide +kernel
theorem hex_back : ∀ x y : Fin 16, hex2 (UInt8.ofNat (16 * x.1 + y.1)) = [hexD x.1, hexD y.1] := by decide +kernel
theorem byte_of (c : UInt8) : UInt8.ofNat (16 * docD (hexD (c.toNat / 16)) + docD (hexD (c.toNat % 16))) = c ∧ ¬ docD (hexD (c.toNat / 16)) = 16 ∧ ¬ docD (hexD (c.toNat % 16)) = 16 := by
  have hc := c.toNat_lt
  have h1 := (hexD_doc ⟨c.toNat / 16, by omega⟩).1
  have h2 := (hexD_doc ⟨c.toNat % 16, by omega⟩).1
  simp only at h1 h2
  rw [h1, h2]
  have := byte_hex ⟨c.toNat, hc⟩
  simp only [UInt8.ofNat_toNat] at this
  exact ⟨this, by omega, by omega⟩
theorem byte_up (c : UInt8) : UInt8.ofNat (16 * docD (upc (hexD (c.toNat / 16))) + docD (upc (hexD (c.toNat % 16)))) = c ∧ ¬ docD (upc (hexD (c.toNat / 16))) = 16 ∧ ¬ docD (upc (hexD (c.toNat % 16))) = 16 := by
  have hc := c.toNat_lt
  have h1 := (hexD_doc ⟨c.toNat / 16, by omega⟩).2.1
  have h2 := (hexD_doc ⟨c.toNat % 16, by omega⟩).2.1
  simp only at h1 h2
  rw [h1, h2]
  have := byte_hex ⟨c.toNat, hc⟩
  simp only [UInt8.ofNat_toNat] at this
  exact ⟨this, by omega, by omega⟩
theorem shape_text {m : List UInt8} (hm : m.length = 6) : Shape (textM m) m := by
  obtain ⟨a, b, c, d, e, f, rfl⟩ := six hm
  obtain ⟨k0, p0, q0⟩ := byte_of a
  obtain ⟨k1, p1, q1⟩ := byte_of b
  obtain ⟨k2, p2, q2⟩ := byte_of c
  obtain ⟨k3, p3, q3⟩ := byte_of d
  obtain ⟨k4, p4, q4⟩ := byte_of e
  obtain ⟨k5, p5, q5⟩ := byte_of f
  exact ⟨_, _, _, _, _, _, _, _, _, _, _, _, rfl, p0, q0, p1, q1, p2, q2, p3, q3, p4, q4, p5, q5, by rw [k0, k1, k2, k3, k4, k5]⟩
theorem shape_upper {m : List UInt8} (hm : m.length = 6) : Shape ((textM m).map upc) m := by
  obtain ⟨a, b, c, d, e, f, rfl⟩ := six hm
  obtain ⟨k0, p0, q0⟩ := byte_up a
  obtain ⟨k1, p1, q1⟩ := byte_up b
  obtain ⟨k2, p2, q2⟩ := byte_up c
  obtain ⟨k3, p3, q3⟩ := byte_up d
  obtain ⟨k4, p4, q4⟩ := byte_up e
  obtain ⟨k5, p5, q5⟩ := byte_up f
  exact ⟨_, _, _, _, _, _, _, _, _, _, _, _, rfl, p0, q0, p1, q1, p2, q2, p3, q3, p4, q4, p5, q5, by rw [k0, k1, k2, k3, k4, k5]⟩
theorem low_of {a : UInt8} (h : ¬ docD a = 16) : hexD (docD a) = loc a ∧ a.toNat < 128 := by
  have := low_doc ⟨a.toNat, a.toNat_lt⟩
  simp only [UInt8.ofNat_toNat] at this
  rcases this with e | e
  · exact absurd e h
  · exact e
theorem hex_of {a b : UInt8} (ha : ¬ docD a = 16) (hb : ¬ docD b = 16) : hex2 (UInt8.ofNat (16 * docD a + docD b)) = [loc a, loc b] := by
  have h1 := docD_le a
  have h2 := docD_le b
  have := hex_back ⟨docD a, by omega⟩ ⟨docD b, by omega⟩
  simp only at this
  rw [this, (low_of ha).1, (low_of hb).1]
theorem textM6 (a b c d e f : UInt8) : textM [a, b, c, d, e, f] = hex2 a ++ (58 :: hex2 b ++ (58 :: hex2 c ++ (58 :: hex2 d ++ (58 :: hex2 e ++ (58 :: hex2 f))))) := rfl
theorem shape_low {s m : List UInt8} (h : Shape s m) : textM m = s.map loc ∧ ∀ x, x ∈ s → x.toNat < 128 := by
  obtain ⟨a0, b0, a1, b1, a2, b2, a3, b3, a4, b4, a5, b5, rfl, p0, q0, p1, q1, p2, q2, p3, q3, p4, q4, p5, q5, rfl⟩ := h
  constructor
  · rw [textM6, hex_of p0 q0, hex_of p1 q1, hex_of p2 q2, hex_of p3 q3, hex_of p4 q4, hex_of p5 q5]
    rfl
  · intro x hx
    simp only [List.mem_cons, List.not_mem_nil, or_false] at hx
    have h58 : (58 : UInt8).toNat < 128 := by decide
    rcases hx with rfl | rfl | rfl | rfl | rfl | rfl | rfl | rfl | rfl | rfl | rfl | rfl | rfl | rfl | rfl | rfl | rfl
    all_goals first | exact h58 | (refine (low_of ?_).2; assumption)
theorem parse_text {m : List UInt8} (hm : m.length = 6) : parseO (textM m) = some m := shape_parse (shape_text hm)
theorem parse_upper {m : List UInt8} (hm : m.length = 6) : parseO ((textM m).map upc) = some m := shape_parse (shape_upper hm)
theorem dec_back : ∀ n : Fin 48, decN (decL n.1) 0 = some n.1 ∧ decL n.1 ≠ [] ∧ ¬ 2 < (decL n.1).length := by decide +kernel
theorem text_len {m : List UInt8} (hm : m.length = 6) : (textM m).length = 17 := shape_len (shape_text hm)
/-- A masked pattern is that of its text. -/
theorem pat_back {w k : List UInt8} (hw : w.length = 6) (hk : k.length = 6) (hwk : macB (numL w &&& numL k) = w) : patE (textP w k) = 0 ∧ patK (textP w k) = k ∧ patW (textP w k) = w := by
  have ht : textP w k = textM w ++ tailP k := by rw [textP, hwk]
  have hl := text_len hw
  have hp : ∀ t, parseO ((textM w ++ t).take 17) = some w := fun t => by rw [List.take_left' hl]; exact parse_text hw
  cases hf : (List.range 49).find? (isM k) with
  | none =>
    have et : tailP k = 47 :: textM k := by rw [tailP, hf]
    rw [et] at ht
    rw [ht]
    obtain ⟨e1, e2, e3⟩ := pat_slash (s := textM w ++ 47 :: textM k) (r := textM k) (List.drop_left' hl) (hp _)
    have hlk := text_len hk
    obtain ⟨k1, k2⟩ := mask_long (s := textM k) (by omega)
    have pe : parseE (textM k) = 0 := by rw [parseE, parse_text hk]; rfl
    have pm : parseM (textM k) = k := by rw [parseM, parse_text hk]; rfl
    rw [k2, pe] at e1
    rw [k1, k2, pe, pm, if_pos rfl] at e2 e3
    exact ⟨e1, e2, by rw [e3, hwk]⟩
  | some n =>
    obtain ⟨h1, h2, h3⟩ := List.find?_range_eq_some.1 hf
    have hM : k = macB (maskN n) := beq_iff_eq.1 h1
    have hn : n < 49 := by simpa using h2
    by_cases h48 : n = 48
    · subst h48
      have et : tailP k = [] := by rw [tailP, hf]; rfl
      rw [et, List.append_nil] at ht
      rw [ht]
      obtain ⟨e1, e2, e3⟩ := pat_plain (s := textM w) hl (parse_text hw)
      exact ⟨e1, by rw [e2, hM], e3⟩
    · have et : tailP k = 47 :: decL n := by
        rw [tailP, hf]
        show (if n = 48 then _ else _) = _
        rw [if_neg h48]
      rw [et] at ht
      rw [ht]
      obtain ⟨e1, e2, e3⟩ := pat_slash (s := textM w ++ 47 :: decL n) (r := decL n) (List.drop_left' hl) (hp _)
      obtain ⟨d1, d2, d3⟩ := dec_back ⟨n, by omega⟩
      simp only at d1 d2 d3
      obtain ⟨k1, k2⟩ := mask_some d3 d1
      rw [if_neg d2, if_neg (by omega)] at k1 k2
      rw [k2] at e1
      rw [k1, k2, ← hM, if_pos rfl] at e2 e3
      exact ⟨e1, e2, by rw [e3, hwk]⟩
theorem masked_twice {a k : List UInt8} (ha : a.length = 6) : macB (numL (macB (numL a &&& numL k)) &&& numL k) = macB (numL a &&& numL k) := by
  have h1 := numL_lt48 ha
  have l1 : numL a &&& numL k < 281474976710656 := Nat.lt_of_le_of_lt Nat.and_le_left h1
  rw [numL_macB, Nat.mod_eq_of_lt l1, Nat.and_assoc, Nat.and_self]
/-- What is told of a pattern's text is masked. -/
theorem pat_masked {s : List UInt8} (h : patE s = 0) : macB (numL (patW s) &&& numL (patK s)) = patW s := by
  rw [patW, if_pos h]
  exact masked_twice (parseM_len _)
theorem parse_err {s : List UInt8} (h : ¬ parseE s = 0) : parseM s = zero6 := by
  unfold parseE at h
  unfold parseM
  cases e : parseO s with
  | none => rfl
  | some m => rw [e] at h; exact absurd rfl h
theorem parse_ok {s : List UInt8} (h : parseE s = 0) : textM (parseM s) = s.map loc ∧ ∀ x, x ∈ s → x.toNat < 128 := by
  unfold parseE at h
  unfold parseM
  cases e : parseO s with
  | none => rw [e] at h; cases h
  | some m => exact shape_low (parse_shape e)
theorem pat_err {s : List UInt8} (h : ¬ patE s = 0) : patW s = zero6 ∧ patK s = zero6 := by
  rw [patW, patK, if_neg h, if_neg h]; exact ⟨rfl, rfl⟩
end
end Go.Proofs.YtmkfjdajnamoaaaDoor.Am
