/- Contracts of the program's functions (X2). -/
import Derived.Test.YtkaibjdogeikbaaDoorX1
import Derived.Test.YtkaibjdogeikbaaDoorL
import Derived.Test.YtkaibjdogeikbaaDoorW
namespace Go.Proofs.YtkaibjdogeikbaaDoor.Am
noncomputable section
/- CONTRACTS: the document's bytes of heads, on. -/
theorem udpRef_bad {fr to ln sm : Nat} {h : AHeap} {n : Nat} {b : Value} {bs : List UInt8} (hb : BS h b bs) (hw : WF h n) (h3 : ln < 65536) (hbad : ln ≠ 8 + bs.length) (hlen : bs.length < 1000000) :
    Ret EV07 18 [rudpV fr to ln sm b] h n (.tuple #[.slice none 0 0, .int .i64 1]) [] (n + 1) := by
  refine rsx18 (by simp) (by simp) ?_
  obtain ⟨i, k, rfl⟩ := hb.shape
  simp -dsimp (discharger := omega) [B18, rudpV]
  exact .put_new _ (hw n (Nat.le_refl _)) (.refl _)
theorem udpRef_ok {fr to ln sm : Nat} {h : AHeap} {n : Nat} {b : Value} {bs : List UInt8} (hb : BS h b bs) (hw : WF h n) (h1 : fr < 65536) (h2 : to < 65536) (h3 : ln < 65536) (h4 : sm < 65536) (hok : ln = 8 + bs.length) (hlen : bs.length < 1000) :
    Ret EV07 18 [rudpV fr to ln sm b] h n (.tuple #[.slice (some ⟨n + 2, 0, some (udpL fr to ln sm bs).length⟩) (udpL fr to ln sm bs).length 2, .int .i64 0]) [(n + 2, bufB (udpL fr to ln sm bs) 2)] (n + 6) := by
  refine rsx18 (by simp) (by simp) ?_
  obtain ⟨i, k, rfl⟩ := hb.shape
  simp -dsimp (discharger := omega) [B18, rudpV]
  with_reducible refine call_ret (lay_new h1 (.of fun j hj => by simp (discharger := omega) [hw.none (i := j) (by omega)])) ?_
  simp -dsimp (discharger := omega) []
  with_reducible refine call_ret (lay_own h2 (q := n + 1 + 1) (m := 2) (L := twoL fr) (by simp) (.of fun j hj => by simp (discharger := omega) [hw.none (i := j) (by omega)]) (by simp) (by simp) (by simp)) ?_
  simp -dsimp (discharger := omega) []
  with_reducible refine call_ret (lay_own h3 (q := n + 1 + 1) (m := 2) (L := twoL fr ++ twoL to) (by simp) (.of fun j hj => by simp (discharger := omega) [hw.none (i := j) (by omega)]) (by simp) (by simp) (by simp)) ?_
  simp -dsimp (discharger := omega) []
  with_reducible refine call_ret (lay_own h4 (q := n + 1 + 1) (m := 2) (L := twoL fr ++ twoL to ++ twoL ln) (by simp) (.of fun j hj => by simp (discharger := omega) [hw.none (i := j) (by omega)]) (by simp) (by simp) (by simp)) ?_
  simp -dsimp (discharger := omega) []
  refine append_own (q := n + 1 + 1) (m := 2) (bs := twoL fr ++ twoL to ++ twoL ln ++ twoL sm) (vs := bs) (by simp) (by simp) (by simp) (BS.elems (BS.mono (.ofE (by
      repeat (refine .right (.inr (hw.none (by omega))) ?_)
      exact .refl _ _)) hb)) (by omega) (fun h' hs1 _ => ?_)
  simp -dsimp (discharger := omega) []
  refine ⟨by simp only [udpL, List.length_append, twosL_length, List.length_cons, List.length_nil], .trans (.ofE (.left (.inr ?_) ?_)) hs1⟩
  · rw [AHeap.get_put, if_pos rfl]; simp [udpL, twosL]
  · iterate 5 refine .right (.inl (by simp)) ?_
    refine .right (.inr (hw.none (by omega))) ?_
    exact .refl _ _
end
end Go.Proofs.YtkaibjdogeikbaaDoor.Am
namespace Go.Proofs.YtkaibjdogeikbaaDoor.Am
noncomputable section
/- CONTRACTS: the document's bytes of TCP heads. -/
theorem ofUdp_ret {fr to ln sm : Nat} (h1 : fr < 65536) (h2 : to < 65536) (h3 : ln < 65536) (h4 : sm < 65536) {h : AHeap} {n : Nat} {b : Value} {bs : List UInt8} (hb : BS h b bs) (hw : WF h n) : Ret EV07 19 [udpV fr to ln sm b] h n (rudpV fr to ln sm b) [] (n + 2) := by
  obtain ⟨i2, k2, rfl⟩ := hb.shape
  refine rsx19 (by simp) (by simp) ?_
  simp -dsimp (discharger := omega) [B19, udpV, aFill]
  refine ⟨rfl, ?_⟩
  refine .ofE ?_
  repeat (refine .right (.inr (hw.none (by omega))) ?_)
  exact .refl _ _
theorem lay_v {v : Int} {w : Nat} (hv : v = (w : Int)) (hw : w < 65536) {h : AHeap} {n q m : Nat} {L : List UInt8} {len : Nat} (hL : L.length = len) (hwf : WF h n) (hq : h.get q = some (bufB L m)) (hm : m ≤ len) (hlen : len < 1000000) : Ret EV07 46 [.slice (some ⟨q, 0, some len⟩) len 2, .int .i64 v] h n (.slice (some ⟨q, 0, some (len + 2)⟩) (len + 2) 2) [(q, bufB (L ++ twoL w) m)] (n + 1) := by
  subst hv
  exact lay_own hw hL hwf hq hm hlen
theorem append_cons {h : AHeap} {n q m len k : Nat} {bs : List UInt8} {v : Value} {a : UInt8} {vs : List UInt8} (hq : h.get q = some (bufB bs m)) (hL : bs.length = len) (hm : m ≤ len) (hv : aElems h 1 v = some (k, u8s (a :: vs))) (hk : k = vs.length + 1) (hlen : len + vs.length < 1000000) {K : Option Value → AHeap → Nat → Prop} {t : Tok K}
    (hK : K (some (.slice (some ⟨q, 0, some (len + vs.length + 1)⟩) (len + vs.length + 1) 2)) (h.put q (bufB (bs ++ a :: vs) m)) n) : Runs (aAppend h n 5 1 1 (.slice (some ⟨q, 0, some len⟩) len 2) v) n K t := by
  subst hL hk
  have h2 : 2 * (bs.length + (vs.length + 1)) ≤ 281474976710656 := by omega
  unfold bufB at hq
  simp [aAppend, hv, hq, hm, h2]
  simpa [bufB, u8s_append, Nat.add_assoc] using hK
theorem tcpRef_bad {t : TcpN} (ht : t.ok) {h : AHeap} {n : Nat} {o b : Value} {os bs : List UInt8} (ho : BS h o os) (hb : BS h b bs) (hw : WF h n) (hbad : t.odd > 15 ∨ os.length > 40 ∨ os.length % 4 ≠ 0) (hlen : os.length < 1000000) :
    Ret EV07 15 [rtcpV t o b] h n (.tuple #[.slice none 0 0, .int .i64 1]) [] (n + 1) := by
  refine rsx15 (by simp) (by simp) ?_
  obtain ⟨i, k, rfl⟩ := ho.shape
  have hsub : ∀ B, HSub h (h.put n B) := fun B => .put_new _ (hw n (Nat.le_refl _)) (.refl _)
  have hmod : Int.tmod (os.length : Int) 4 = ((os.length % 4 : Nat) : Int) := tmod_nat _ 4
  by_cases h1 : 15 < t.odd
  · simp -dsimp (discharger := omega) [B15, rtcpV]
    exact hsub _
  · by_cases h2 : 40 < os.length
    · simp -dsimp (discharger := omega) [B15, rtcpV]
      exact hsub _
    · have h3 : os.length % 4 ≠ 0 := by omega
      simp -dsimp (discharger := omega) [B15, rtcpV, hmod]
      exact hsub _
def L6 (t : TcpN) : List UInt8 := twoL t.fr ++ (twoL t.to ++ (twoL (t.seq / 65536) ++ (twoL (t.seq % 65536) ++ (twoL (t.ack / 65536) ++ twoL (t.ack % 65536)))))
theorem tcpRef_ok {t : TcpN} (ht : t.ok) {h : AHeap} {n : Nat} {o b : Value} {os bs : List UInt8} (ho : BS h o os) (hb : BS h b bs) (hw : WF h n) (h1 : t.odd ≤ 15) (h2 : os.length ≤ 40) (h3 : os.length % 4 = 0) (hlen : bs.length < 1000) :
    Ret EV07 15 [rtcpV t o b] h n (.tuple #[.slice (some ⟨n + 2, 0, some (tcpL t os bs).length⟩) (tcpL t os bs).length 2, .int .i64 0]) [(n + 2, bufB (tcpL t os bs) 2)] (n + 12) := by
  refine rsx15 (by simp) (by simp) ?_
  obtain ⟨i, k, rfl⟩ := ho.shape
  obtain ⟨i2, k2, rfl⟩ := hb.shape
  have hmod : Int.tmod (os.length : Int) 4 = ((os.length % 4 : Nat) : Int) := tmod_nat _ 4
  have hdiv : Int.tdiv (os.length : Int) 4 = ((os.length / 4 : Nat) : Int) := tdiv_nat _ 4
  obtain ⟨t1, t2, t3, t4, t5, t6, t7, t8, t9⟩ := ht
  have hsd : Int.tdiv (t.seq : Int) 65536 = ((t.seq / 65536 : Nat) : Int) := tdiv_nat _ 65536
  have had : Int.tdiv (t.ack : Int) 65536 = ((t.ack / 65536 : Nat) : Int) := tdiv_nat _ 65536
  have hsm : Int.tmod (t.seq : Int) 65536 = ((t.seq % 65536 : Nat) : Int) := tmod_nat _ 65536
  have ham : Int.tmod (t.ack : Int) 65536 = ((t.ack % 65536 : Nat) : Int) := tmod_nat _ 65536
  have hcl : [Value.int .u8 ((5 + (os.length : Int) / 4) * 16 + (t.odd : Int)), .int .u8 (t.flags : Int)] = u8s [wordsL os t.odd, UInt8.ofNat t.flags] := by
    simp [u8s, wordsL]
    omega
  simp -dsimp (discharger := omega) [B15, rtcpV, hmod, h3]
  with_reducible refine call_ret (lay_new t1 (.of fun j hj => by simp (discharger := omega) [hw.none (i := j) (by omega)])) ?_
  simp -dsimp (discharger := omega) []
  with_reducible refine call_ret (lay_own t2 (q := n + 1 + 1) (m := 2) (L := twoL t.fr) (by simp) (.of fun j hj => by simp (discharger := omega) [hw.none (i := j) (by omega)]) (by simp) (by simp) (by simp)) ?_
  simp -dsimp (discharger := omega) [hsd]
  with_reducible refine call_ret (lay_v (w := t.seq / 65536) (by omega) (by omega) (q := n + 1 + 1) (m := 2) (L := twoL t.fr ++ twoL t.to) (by simp) (.of fun j hj => by simp (discharger := omega) [hw.none (i := j) (by omega)]) (by simp) (by simp) (by simp)) ?_
  simp -dsimp (discharger := omega) [hsm]
  with_reducible refine call_ret (lay_v (w := t.seq % 65536) (by omega) (by omega) (q := n + 1 + 1) (m := 2) (L := twoL t.fr ++ twoL t.to ++ twoL (t.seq / 65536)) (by simp) (.of fun j hj => by simp (discharger := omega) [hw.none (i := j) (by omega)]) (by simp) (by simp) (by simp)) ?_
  simp -dsimp (discharger := omega) [had]
  with_reducible refine call_ret (lay_v (w := t.ack / 65536) (by omega) (by omega) (q := n + 1 + 1) (m := 2) (L := twoL t.fr ++ twoL t.to ++ twoL (t.seq / 65536) ++ twoL (t.seq % 65536)) (by simp) (.of fun j hj => by simp (discharger := omega) [hw.none (i := j) (by omega)]) (by simp) (by simp) (by simp)) ?_
  simp -dsimp (discharger := omega) [ham]
  with_reducible refine call_ret (lay_v (w := t.ack % 65536) (by omega) (by omega) (q := n + 1 + 1) (m := 2) (L := twoL t.fr ++ twoL t.to ++ twoL (t.seq / 65536) ++ twoL (t.seq % 65536) ++ twoL (t.ack / 65536)) (by simp) (.of fun j hj => by simp (discharger := omega) [hw.none (i := j) (by omega)]) (by simp) (by simp) (by simp)) ?_
  simp -dsimp (discharger := omega) [hdiv, aFill]
  refine append_cons (q := n + 1 + 1) (m := 2) (k := 2) (bs := L6 t) (a := wordsL os t.odd) (vs := [UInt8.ofNat t.flags]) (by simp (discharger := omega) [L6]) (by simp [L6]) (by simp) (by simp [aElems, take_u8s2, hcl]) (by simp) (by simp) ?_
  simp -dsimp (discharger := omega) []
  with_reducible refine call_ret (lay_v (w := t.window) (by omega) (t7) (q := n + 1 + 1) (m := 2) (L := L6 t ++ [wordsL os t.odd, UInt8.ofNat t.flags]) (by simp [L6]) (.of fun j hj => by simp (discharger := omega) [hw.none (i := j) (by omega)]) (by simp) (by simp) (by simp)) ?_
  simp -dsimp (discharger := omega) []
  with_reducible refine call_ret (lay_v (w := t.sum) (by omega) (t8) (q := n + 1 + 1) (m := 2) (L := L6 t ++ [wordsL os t.odd, UInt8.ofNat t.flags] ++ twoL t.window) (by simp [L6]) (.of fun j hj => by simp (discharger := omega) [hw.none (i := j) (by omega)]) (by simp) (by simp) (by simp)) ?_
  simp -dsimp (discharger := omega) []
  with_reducible refine call_ret (lay_v (w := t.urgent) (by omega) (t9) (q := n + 1 + 1) (m := 2) (L := L6 t ++ [wordsL os t.odd, UInt8.ofNat t.flags] ++ twoL t.window ++ twoL t.sum) (by simp [L6]) (.of fun j hj => by simp (discharger := omega) [hw.none (i := j) (by omega)]) (by simp) (by simp) (by simp)) ?_
  simp -dsimp (discharger := omega) []
  have hL : (L6 t ++ wordsL os t.odd :: UInt8.ofNat t.flags :: (twoL t.window ++ (twoL t.sum ++ twoL t.urgent))).length = 20 := by simp [L6]
  have hT : tcpL t os bs = L6 t ++ wordsL os t.odd :: UInt8.ofNat t.flags :: (twoL t.window ++ (twoL t.sum ++ twoL t.urgent)) ++ os ++ bs := by simp [tcpL, L6, twosL, foursL, fourL]
  rw [hT]
  generalize L6 t ++ wordsL os t.odd :: UInt8.ofNat t.flags :: (twoL t.window ++ (twoL t.sum ++ twoL t.urgent)) = L at hL ⊢
  refine append_own (q := n + 1 + 1) (m := 2) (bs := L) (vs := os) (by simp) hL (by simp) (BS.elems (BS.mono (.ofE (by
      repeat (refine .right (.inr (hw.none (by omega))) ?_)
      exact .refl _ _)) ho)) (by omega) (fun h1 hs1 hc1 => ?_)
  have e1 : h1.get n = some (.cells (some 43) [Value.int IntKind.i64 (t.fr : Int), Value.int IntKind.i64 (t.to : Int), Value.int IntKind.i64 (t.odd : Int), Value.int IntKind.i64 (t.flags : Int), Value.int IntKind.i64 (t.window : Int), Value.int IntKind.i64 (t.sum : Int), Value.int IntKind.i64 (t.urgent : Int), Value.int IntKind.u32 (t.seq : Int), Value.int IntKind.u32 (t.ack : Int), Value.slice i os.length k, Value.slice i2 bs.length k2] 11) := hs1 n _ (by simp (discharger := omega))
  have hh1 : HSub h h1 := .trans (.ofE (by
      repeat (refine .right (.inr (hw.none (by omega))) ?_)
      exact .refl _ _)) hs1
  have q1 := hs1 (n + 1 + 1) (bufB (L ++ os) 2) (by simp)
  simp -dsimp (discharger := omega) [AHeap.read_of e1]
  refine append_own (q := n + 1 + 1) (m := 2) (bs := L ++ os) (vs := bs) (len := 20 + os.length) q1 (by simp [hL]) (by omega) (BS.elems (BS.mono hh1 hb)) (by omega) (fun h2 hs2 hc2 => ?_)
  simp -dsimp (discharger := omega) []
  refine ⟨by simp [hL]; omega, ?_⟩
  rw [← List.append_assoc]
  exact .trans (.put_both (n + 2) _ hh1) hs2
end
end Go.Proofs.YtkaibjdogeikbaaDoor.Am
namespace Go.Proofs.YtkaibjdogeikbaaDoor.Am
noncomputable section
/- CONTRACTS: the document's reading of flags. -/
theorem names_ret {h : AHeap} {n : Nat} : Ret EV07 47 [] h n (.slice (some ⟨n, 0, some 8⟩) 8 2) [(n, .cells (some 9) (strsL namesL) 8)] (n + 1) := by
  refine rsx47 (by simp) (by simp) ?_
  simp -dsimp (discharger := omega) [B47, aFill]
  exact .refl _
def fOpt (x : List UInt8) (i : Nat) : Int := match idxL x namesL 0 with
  | some q => if q < i then (q : Int) else -1
  | none => -1
theorem fOpt_succ {x : List UInt8} {i : Nat} (hi : i < 8) : fOpt x (i + 1) = if namesL.getD i [] = x then (i : Int) else fOpt x i := by
  unfold fOpt
  by_cases e : namesL.getD i [] = x
  · rw [if_pos e, (name_idx hi).1 e]; simp
  · rw [if_neg e]
    cases hx : idxL x namesL 0 with
    | none => rfl
    | some q =>
      have : q ≠ i := by rintro rfl; exact e ((name_idx hi).2 hx)
      simp only
      split <;> split <;> first | rfl | omega
def FindInv (s : List UInt8) (b p : Nat) (sl bp : Value) (h0 : AHeap) (n0 : Nat) (m : Nat) (σ : Fr) (h : AHeap) (n : Nat) : Prop :=
  h = h0 ∧ n = n0 ∧ ∃ i, i + m = 8 ∧ σ = [(0, .string ⟨s.toArray⟩), (4, sl), (5, bp), (6, .int .i64 (b : Int)), (7, .int .i64 (p : Int)), (8, .int .i64 (fOpt ((s.take p).drop b) i)), (9, .int .i64 (i : Int))]
def FindPost (s : List UInt8) (b p : Nat) (sl bp : Value) (h0 : AHeap) (n0 : Nat) (e : Ex) (σ' : Fr) (h' : AHeap) (n' : Nat) : Prop :=
  e = .exit 2 ∧ h' = h0 ∧ n' = n0 ∧ σ'.get 0 = some (.string ⟨s.toArray⟩) ∧ σ'.get 4 = some sl ∧ σ'.get 5 = some bp ∧ σ'.get 6 = some (.int .i64 (b : Int)) ∧ σ'.get 7 = some (.int .i64 (p : Int)) ∧ σ'.get 8 = some (.int .i64 (fOpt ((s.take p).drop b) 8))
theorem find_loop {s : List UInt8} {b p q k : Nat} (bp : Value) (hlen : s.length < 1000000) (hb : b ≤ p) (hp : p ≤ s.length) {h0 : AHeap} (hq : h0.get q = some (.cells (some 9) (strsL namesL) 8)) (n0 : Nat) :
    ∀ (m : Nat) (σ : Fr) (h : AHeap) (n : Nat), FindInv s b p (.slice (some ⟨q, 0, some 8⟩) 8 k) bp h0 n0 m σ h n → HasCode EV07 (.loop F20L0) σ h n (FindPost s b p (.slice (some ⟨q, 0, some 8⟩) 8 k) bp h0 n0) := by
  refine wx_inv _ fun m σ h n hI => ?_
  obtain ⟨rfl, rfl, i, hi, rfl⟩ := hI
  cases m with
  | zero =>
    obtain rfl : i = 8 := by omega
    simp -dsimp (discharger := omega) [F20L0]
    exact ⟨rfl, rfl, rfl, by simp⟩
  | succ m =>
    have hlt : i < 8 := by omega
    have hidx : (strsL namesL)[i]? = some (.string ⟨(namesL.getD i []).toArray⟩) := by
      have hlt : i < namesL.length := by simp [namesL]; omega
      exact strsL_get? (by simp [List.getElem?_eq_getElem hlt])
    have hrd : h.read q 8 (0 + i) 1 = some [.string ⟨(namesL.getD i []).toArray⟩] := read_one (m := 8) (by rw [AHeap.read_of hq]; rfl) hidx hlt
    rw [Nat.zero_add] at hrd
    simp -dsimp (discharger := omega) [F20L0, hrd]
    have e := fOpt_succ (x := (s.take p).drop b) hlt
    simp only [List.getD_eq_getElem?_getD] at e
    refine Test.split (fun hc => ?_) (fun hc => ?_)
    · rw [if_pos (by simpa using hc)] at e
      simp -dsimp (discharger := omega) []
      exact .mk' m (by omega) [(0, .string ⟨s.toArray⟩), (4, .slice (some ⟨q, 0, some 8⟩) 8 k), (5, bp), (6, .int .i64 (b : Int)), (7, .int .i64 (p : Int)), (8, .int .i64 (fOpt ((s.take p).drop b) (i + 1))), (9, .int .i64 ((i + 1 : Nat) : Int))] _ (by simp [e]) (.refl _) ⟨rfl, rfl, i + 1, by omega, rfl⟩
    · rw [if_neg (by simpa using hc)] at e
      simp -dsimp (discharger := omega) []
      exact .mk' m (by omega) [(0, .string ⟨s.toArray⟩), (4, .slice (some ⟨q, 0, some 8⟩) 8 k), (5, bp), (6, .int .i64 (b : Int)), (7, .int .i64 (p : Int)), (8, .int .i64 (fOpt ((s.take p).drop b) (i + 1))), (9, .int .i64 ((i + 1 : Nat) : Int))] _ (by simp [e]) (.refl _) ⟨rfl, rfl, i + 1, by omega, rfl⟩
end
end Go.Proofs.YtkaibjdogeikbaaDoor.Am
namespace Go.Proofs.YtkaibjdogeikbaaDoor.Am
noncomputable section
/- CONTRACT: the document's reading of flags: the loop over the text. -/
def intsN (bits : List Nat) : List Value := bits.map fun b : Nat => .int .i64 (b : Int)
def bitsB (bits : List Nat) : Blk := .cells (some 101) (intsN bits) 8
def noSep (c : UInt8) (l : List UInt8) : Prop := ∀ x, x ∈ l → x ≠ c
theorem intsN_get? {bits : List Nat} (hl : bits.length = 8) {k : Nat} (hk : k < 8) : (intsN bits)[k]? = some (.int .i64 ((bits.getD k 0 : Nat) : Int)) := by
  match bits, hl with
  | [b0, b1, b2, b3, b4, b5, b6, b7], _ =>
    match k, hk with
    | 0, _ | 1, _ | 2, _ | 3, _ | 4, _ | 5, _ | 6, _ | 7, _ => rfl
theorem intsN_len {bits : List Nat} (hl : bits.length = 8) : (intsN bits).length = 8 := by simp [intsN, hl]
theorem intsN_set {bits : List Nat} {k v : Nat} : (intsN bits).set k (.int .i64 ((v : Nat) : Int)) = intsN (bits.set k v) := by
  rw [intsN, intsN, List.map_set]
theorem take1 {α} {l : List α} {k : Nat} {v : α} (h : l[k]? = some v) : List.take 1 (List.drop k l) = [v] := by
  obtain ⟨hk, rfl⟩ := List.getElem?_eq_some_iff.1 h
  rw [List.drop_eq_getElem_cons hk]; rfl
theorem u8_ne {c : UInt8} {d : UInt8} (h : c ≠ d) : (((c.toNat : Nat) : Int) != ((d.toNat : Nat) : Int)) = true := by
  have : c.toNat ≠ d.toNat := fun e => h (UInt8.toNat_inj.1 e)
  simp; omega
theorem noSep_succ {s : List UInt8} {b p : Nat} (hbp : b ≤ p) (h : noSep 44 ((s.take p).drop b)) (hlt : p < s.length) (hne : s[p] ≠ 44) : noSep 44 ((s.take (p + 1)).drop b) := by
  intro x hx
  rw [List.take_succ_eq_append_getElem hlt, List.drop_append_of_le_length (by simp; omega)] at hx
  rcases List.mem_append.1 hx with hx | hx
  · exact h x hx
  · simp at hx; subst hx; exact hne
theorem word_next {s : List UInt8} {b p : Nat} (hbp : b ≤ p) (hps : p ≤ s.length) (h : noSep 44 ((s.take p).drop b)) (hc : ¬ ∃ hlt : p < s.length, s[p] ≠ 44) :
    ∃ R, splitL 44 (s.drop b) = (s.take p).drop b :: R ∧ (p + 1 ≤ s.length ∧ noSep 44 ((s.take (p + 1)).drop (p + 1)) ∧ R = splitL 44 (s.drop (p + 1)) ∨ s.length < p + 1 ∧ R = []) := by
  rw [List.drop_take] at h ⊢
  rcases Nat.lt_or_ge p s.length with hlt | hge
  · have he : s[p] = 44 := Classical.byContradiction fun h => hc ⟨hlt, h⟩
    refine ⟨splitL 44 (s.drop (p + 1)), ?_, .inl ⟨by omega, ?_, rfl⟩⟩
    · rw [split_at h]
      · rw [List.drop_drop]; congr 3; omega
      · rw [List.getElem?_drop, List.getElem?_eq_getElem (by omega)]
        simp only [show b + (p - b) = p by omega, he]
    · intro x hx
      rw [List.drop_eq_nil_of_le (by simp; omega)] at hx
      simp at hx
  · obtain rfl : p = s.length := by omega
    rw [List.take_of_length_le (by simp)] at h ⊢
    exact ⟨[], split_end h, .inr ⟨by omega, rfl⟩⟩
theorem fOpt_zero (x : List UInt8) : fOpt x 0 = -1 := by
  unfold fOpt; split <;> simp
def P1Inv (s : List UInt8) (sl : Value) (r : Nat) (h0 : AHeap) (n0 : Nat) (m : Nat) (σ : Fr) (h : AHeap) (n : Nat) : Prop :=
  n = n0 ∧ ∃ b p bits f a, p + m = s.length + 1 ∧ b ≤ p ∧ h = h0.put r (bitsB bits) ∧ Bits bits f a ∧ (∀ x, x ∈ bits → x ≤ b) ∧
    (p ≤ s.length ∧ noSep 44 ((s.take p).drop b) ∧ parseGo (splitL 44 s) 0 false = parseGo (splitL 44 (s.drop b)) f a ∨ s.length < p ∧ parseGo (splitL 44 s) 0 false = parseGo [] f a) ∧
    σ = [(0, .string ⟨s.toArray⟩), (4, sl), (5, .pointer (some ⟨r, 0, some 8⟩)), (6, .int .i64 (b : Int)), (7, .int .i64 (p : Int))]
def P1Post (s : List UInt8) (r : Nat) (h0 : AHeap) (n0 : Nat) (e : Ex) (σ' : Fr) (h' : AHeap) (n' : Nat) : Prop :=
  n' = n0 ∧ (e = .exit 0 ∧ (∃ bits f a, h' = h0.put r (bitsB bits) ∧ Bits bits f a ∧ (∀ x, x ∈ bits → x ≤ 1000000) ∧ parseGo (splitL 44 s) 0 false = parseGo [] f a ∧ σ'.get 5 = some (.pointer (some ⟨r, 0, some 8⟩))) ∨
    e = .ret ∧ (∃ bits, h' = h0.put r (bitsB bits)) ∧ parseGo (splitL 44 s) 0 false = (0, 23) ∧ σ'.get 2 = some (.int .i64 0) ∧ σ'.get 3 = some (.int .i64 23))
theorem p1_loop {s : List UInt8} (hlen : s.length < 100000) {q r k : Nat} {h0 : AHeap} (hq : h0.get q = some (.cells (some 9) (strsL namesL) 8)) (hqr : ¬ r = q) (n0 : Nat) :
    ∀ (m : Nat) (σ : Fr) (h : AHeap) (n : Nat), P1Inv s (.slice (some ⟨q, 0, some 8⟩) 8 k) r h0 n0 m σ h n → HasCode EV07 (.loop F20L1) σ h n (P1Post s r h0 n0) := by
  refine wx_inv _ fun m σ h n hI => ?_
  obtain ⟨rfl, b, p, bits, f, a, hp, hbp, rfl, hB, hle, hd, rfl⟩ := hI
  cases m with
  | zero =>
    have hp : p = s.length + 1 := by omega
    subst hp
    simp -dsimp (discharger := omega) [F20L1]
    refine ⟨rfl, .inl ⟨rfl, bits, f, a, rfl, hB, fun x hx => by have := hle x hx; omega, ?_, by simp⟩⟩
    rcases hd with ⟨h1, _⟩ | ⟨_, h2⟩
    · omega
    · exact h2
  | succ m =>
    obtain ⟨hps, hns, hpe⟩ : p ≤ s.length ∧ noSep 44 ((s.take p).drop b) ∧ parseGo (splitL 44 s) 0 false = parseGo (splitL 44 (s.drop b)) f a := by
      rcases hd with h | ⟨h, _⟩
      · exact h
      · omega
    have hq' : (h0.put r (bitsB bits)).get q = some (.cells (some 9) (strsL namesL) 8) := by rw [AHeap.get_put_ne _ _ (by omega)]; exact hq
    by_cases hc : ∃ hlt : p < s.length, s[p] ≠ 44
    · obtain ⟨hlt, hne⟩ := hc
      have hne2 : (((s[p].toNat : Nat) : Int) != 44) = true := u8_ne hne
      simp -dsimp (discharger := omega) [F20L1, hne2]
      exact .mk' m (by omega) [(0, .string ⟨s.toArray⟩), (4, .slice (some ⟨q, 0, some 8⟩) 8 k), (5, .pointer (some ⟨r, 0, some 8⟩)), (6, .int .i64 (b : Int)), (7, .int .i64 ((p + 1 : Nat) : Int))] _ (by simp) (.refl _) ⟨rfl, b, p + 1, bits, f, a, by omega, by omega, rfl, hB, hle, .inl ⟨by omega, noSep_succ hbp hns hlt hne, hpe⟩, rfl⟩
    · obtain ⟨R, hR, hnext⟩ := word_next hbp hps hns hc
      rw [hR] at hpe
      simp only [parseGo] at hpe
      have h1 : fOpt ((s.take p).drop b) 0 = -1 := fOpt_zero _
      have hbl : ∀ j, bits.getD j 0 ≤ b := fun j => by
        rw [List.getD_eq_getElem?_getD]
        cases hj : bits[j]? with
        | none => simp
        | some x => exact hle x (List.mem_of_getElem? hj)
      rcases Nat.lt_or_ge p s.length with hlt | hge
      · have he : s[p] = 44 := Classical.byContradiction fun h => hc ⟨hlt, h⟩
        simp -dsimp (discharger := omega) [F20L1, he]
        refine loop_use (find_loop (b := b) (p := p) (k := k) (.pointer (some ⟨r, 0, some 8⟩)) (by omega) hbp hps hq' n 8 _ _ _ ⟨rfl, rfl, 0, rfl, rfl⟩) (by simp [h1]) (.refl _) ?_
        rintro e σ' h' n' ⟨rfl, rfl, rfl, g0, g4, g5, g6, g7, g8⟩
        cases hix : idxL ((s.take p).drop b) namesL 0 with
        | none =>
          have h2 : fOpt ((s.take p).drop b) 8 = -1 := by simp [fOpt, hix]
          rw [h2] at g8
          rw [hix] at hpe
          simp -dsimp (discharger := omega) [g8]
          exact ⟨rfl, .inr ⟨rfl, ⟨bits, rfl⟩, hpe, by simp, by simp⟩⟩
        | some j =>
          have hj := (idxL_names hix).1
          have h2 : fOpt ((s.take p).drop b) 8 = (j : Int) := by simp [fOpt, hix, hj]
          rw [h2] at g8
          rw [hix] at hpe
          have hbj : bits[j]?.getD 0 ≤ b := by have := hbl j; rwa [List.getD_eq_getElem?_getD] at this
          have hrd := take1 (intsN_get? hB.len hj)
          have hl8 := intsN_len hB.len
          simp -dsimp (discharger := omega) [g5, g7, g8, bitsB, hrd, hl8]
          refine .mk' m (by omega) [(0, .string ⟨s.toArray⟩), (4, .slice (some ⟨q, 0, some 8⟩) 8 k), (5, .pointer (some ⟨r, 0, some 8⟩)), (6, .int .i64 ((p + 1 : Nat) : Int)), (7, .int .i64 ((p + 1 : Nat) : Int))] (h0.put r (bitsB (bits.set j (bits.getD j 0 + 1)))) (by simp [g0, g4, g5]) (.over (by rw [bitsB, ← intsN_set]; simp (discharger := omega) [hl8, hj, List.set_eq_take_append_cons_drop])) ⟨rfl, p + 1, p + 1, _, _, _, by omega, by omega, rfl, bits_put hB hj, fun x hx => ?_, ?_, rfl⟩
          · rcases List.mem_or_eq_of_mem_set hx with h | h
            · have := hle x h; omega
            · have := hbl j; omega
          · rcases hnext with ⟨h1, h2, h3⟩ | ⟨h1, h2⟩
            · exact .inl ⟨h1, h2, by rw [hpe, h3]⟩
            · exact .inr ⟨h1, by rw [hpe, h2]⟩
      · simp -dsimp (discharger := omega) [F20L1]
        refine loop_use (find_loop (b := b) (p := p) (k := k) (.pointer (some ⟨r, 0, some 8⟩)) (by omega) hbp hps hq' n 8 _ _ _ ⟨rfl, rfl, 0, rfl, rfl⟩) (by simp [h1]) (.refl _) ?_
        rintro e σ' h' n' ⟨rfl, rfl, rfl, g0, g4, g5, g6, g7, g8⟩
        cases hix : idxL ((s.take p).drop b) namesL 0 with
        | none =>
          have h2 : fOpt ((s.take p).drop b) 8 = -1 := by simp [fOpt, hix]
          rw [h2] at g8
          rw [hix] at hpe
          simp -dsimp (discharger := omega) [g8]
          exact ⟨rfl, .inr ⟨rfl, ⟨bits, rfl⟩, hpe, by simp, by simp⟩⟩
        | some j =>
          have hj := (idxL_names hix).1
          have h2 : fOpt ((s.take p).drop b) 8 = (j : Int) := by simp [fOpt, hix, hj]
          rw [h2] at g8
          rw [hix] at hpe
          have hbj : bits[j]?.getD 0 ≤ b := by have := hbl j; rwa [List.getD_eq_getElem?_getD] at this
          have hrd := take1 (intsN_get? hB.len hj)
          have hl8 := intsN_len hB.len
          simp -dsimp (discharger := omega) [g5, g7, g8, bitsB, hrd, hl8]
          refine .mk' m (by omega) [(0, .string ⟨s.toArray⟩), (4, .slice (some ⟨q, 0, some 8⟩) 8 k), (5, .pointer (some ⟨r, 0, some 8⟩)), (6, .int .i64 ((p + 1 : Nat) : Int)), (7, .int .i64 ((p + 1 : Nat) : Int))] (h0.put r (bitsB (bits.set j (bits.getD j 0 + 1)))) (by simp [g0, g4, g5]) (.over (by rw [bitsB, ← intsN_set]; simp (discharger := omega) [hl8, hj, List.set_eq_take_append_cons_drop])) ⟨rfl, p + 1, p + 1, _, _, _, by omega, by omega, rfl, bits_put hB hj, fun x hx => ?_, ?_, rfl⟩
          · rcases List.mem_or_eq_of_mem_set hx with h | h
            · have := hle x h; omega
            · have := hbl j; omega
          · rcases hnext with ⟨h1, h2, h3⟩ | ⟨h1, h2⟩
            · exact .inl ⟨h1, h2, by rw [hpe, h3]⟩
            · exact .inr ⟨h1, by rw [hpe, h2]⟩
end
end Go.Proofs.YtkaibjdogeikbaaDoor.Am
namespace Go.Proofs.YtkaibjdogeikbaaDoor.Am
noncomputable section
/- CONTRACT: the document's reading of flags: what was told twice, and the flags. -/
def DownInv (bits : List Nat) (r : Nat) (h0 : AHeap) (n0 : Nat) (m : Nat) (σ : Fr) (h : AHeap) (n : Nat) : Prop :=
  n = n0 ∧ h = h0 ∧ m ≤ 8 ∧ ∃ v, v < 2 ^ (8 - m) ∧ downL bits.reverse 0 = downL (bits.take m).reverse v ∧
    σ = [(5, .pointer (some ⟨r, 0, some 8⟩)), (10, .int .i64 ((v : Nat) : Int)), (11, .int .i64 ((m : Int) - 1))]
def DownPost (bits : List Nat) (h0 : AHeap) (n0 : Nat) (e : Ex) (σ' : Fr) (h' : AHeap) (n' : Nat) : Prop :=
  n' = n0 ∧ h' = h0 ∧ (e = .exit 4 ∧ (∃ v : Nat, downL bits.reverse 0 = (v, 0) ∧ σ'.get 10 = some (.int .i64 (v : Int))) ∨
    e = .ret ∧ downL bits.reverse 0 = (0, 9) ∧ σ'.get 2 = some (.int .i64 0) ∧ σ'.get 3 = some (.int .i64 9))
theorem down_take {bits : List Nat} {m v : Nat} (hm : m < bits.length) : downL (bits.take (m + 1)).reverse v = if 1 < bits.getD m 0 then (0, 9) else downL (bits.take m).reverse (2 * v + bits.getD m 0) := by
  rw [List.take_succ_eq_append_getElem hm, List.reverse_append]
  simp [downL, List.getD_eq_getElem?_getD, hm]
theorem down_loop {bits : List Nat} (hl : bits.length = 8) (hle : ∀ x, x ∈ bits → x ≤ 1000000) {r : Nat} {h0 : AHeap} (hr : h0.get r = some (bitsB bits)) (n0 : Nat) :
    ∀ (m : Nat) (σ : Fr) (h : AHeap) (n : Nat), DownInv bits r h0 n0 m σ h n → HasCode EV07 (.loop F20L2) σ h n (DownPost bits h0 n0) := by
  refine wx_inv _ fun m σ h n hI => ?_
  obtain ⟨rfl, rfl, hm, v, hv, hd, rfl⟩ := hI
  cases m with
  | zero =>
    simp -dsimp (discharger := omega) [F20L2]
    refine ⟨rfl, rfl, .inl ⟨rfl, v, ?_, by simp⟩⟩
    rw [hd]; rfl
  | succ m =>
    have hj : m < 8 := by omega
    have hrd := take1 (intsN_get? hl hj)
    have hl8 := intsN_len hl
    have hlt : m < bits.length := by omega
    have hb : bits[m] ≤ 1000000 := hle _ (List.getElem_mem _)
    have hgd : bits.getD m 0 = bits[m] := by simp [List.getD_eq_getElem?_getD, hlt]
    have hv2 : v < 256 := Nat.lt_of_lt_of_le hv (Nat.pow_le_pow_right (n := 2) (by omega) (show 8 - (m + 1) ≤ 8 by omega))
    have hc : ((m + 1 : Nat) : Int) - 1 = (m : Int) := by omega
    rw [down_take (by omega), hgd] at hd
    rw [hgd] at hrd
    rw [bitsB] at hr
    rw [hc]
    simp -dsimp (discharger := omega) [F20L2, AHeap.read_of hr, hrd, hl8]
    refine Test.split (fun hc => ?_) (fun hc => ?_)
    · have hc : 1 < bits[m] := by simp at hc; omega
      rw [if_pos hc] at hd
      simp -dsimp (discharger := omega) []
      exact ⟨rfl, rfl, .inr ⟨rfl, hd, by simp, by simp⟩⟩
    · have hc : ¬ 1 < bits[m] := by simp at hc; omega
      rw [if_neg hc] at hd
      simp -dsimp (discharger := omega) [AHeap.read_of hr, hrd, hl8]
      refine .mk' m (by omega) [(5, .pointer (some ⟨r, 0, some 8⟩)), (10, .int .i64 ((2 * v + bits[m] : Nat) : Int)), (11, .int .i64 ((m : Int) - 1))] _ (by simp (discharger := omega) []) (.refl _) ⟨rfl, rfl, by omega, _, ?_, hd, rfl⟩
      have : 2 ^ (8 - m) = 2 * 2 ^ (8 - (m + 1)) := by rw [show 8 - m = (8 - (m + 1)) + 1 by omega, Nat.pow_succ]; omega
      omega
theorem refParse_ret {s : List UInt8} (hlen : s.length < 100000) {h : AHeap} {n : Nat} (hw : WF h n) :
    Ret EV07 20 [.string ⟨s.toArray⟩] h n (.tuple #[.int .i64 ((parseL s).1 : Int), .int .i64 ((parseL s).2 : Int)]) [] (n + 2) := by
  refine rsx20 (by simp) (by simp) ?_
  simp -dsimp (discharger := omega) [B20]
  refine Test.split (fun hc => ?_) (fun hc => ?_)
  · have hs : s = [45] := by simpa using hc
    have hp : parseL s = (0, 0) := by rw [parseL, if_pos hs]
    simp -dsimp (discharger := omega) [hp]
    exact .refl _
  · have hs : ¬ s = [45] := by simpa using hc
    have hp : parseL s = parseGo (splitL 44 s) 0 false := by rw [parseL, if_neg hs]
    simp -dsimp (discharger := omega) []
    with_reducible refine call_ret names_ret ?_
    simp -dsimp (discharger := omega) []
    refine loop_use (p1_loop (s := s) (r := n + 1) (k := 2) (h0 := h.put n (.cells (some 9) (strsL namesL) 8)) hlen (q := n) (by simp) (by omega) (n + 1 + 1) (s.length + 1) _ _ _
      ⟨rfl, 0, 0, [0, 0, 0, 0, 0, 0, 0, 0], 0, false, by omega, Nat.le_refl _, rfl, bits_zero, by simp, .inl ⟨by omega, by simp [noSep], rfl⟩, rfl⟩) (by simp) (.refl _) ?_
    rintro e σ' h' n' ⟨rfl, ⟨rfl, bits, f, a, rfl, hB, hle, hpe, g5⟩ | ⟨rfl, ⟨bits, rfl⟩, hpe, g2, g3⟩⟩
    · have hd := down_bits hB
      rw [hpe] at hp
      simp -dsimp (discharger := omega) []
      refine loop_use (down_loop hB.len hle (r := n + 1) (h0 := (h.put n (.cells (some 9) (strsL namesL) 8)).put (n + 1) (bitsB bits)) (by simp) (n + 1 + 1) 8 _ _ _
        ⟨rfl, rfl, Nat.le_refl _, 0, by simp, by rw [List.take_of_length_le (by rw [hB.len]; exact Nat.le_refl _)], rfl⟩) (by simp [g5]) (.refl _) ?_
      rintro e σ2 h2 n2 ⟨rfl, rfl, ⟨rfl, v, hv, k10⟩ | ⟨rfl, hv, k2, k3⟩⟩
      · have hr : parseL s = (v, 0) := by rw [hp]; simp only [parseGo]; rw [← hd, hv]
        simp -dsimp (discharger := omega) [k10, hr]
        exact ((HSub.refl _).new hw (by omega) _).new hw (by omega) _
      · have hr : parseL s = (0, 9) := by rw [hp]; simp only [parseGo]; rw [← hd, hv]
        simp -dsimp (discharger := omega) [k2, k3, hr]
        exact ((HSub.refl _).new hw (by omega) _).new hw (by omega) _
    · rw [hpe] at hp
      simp -dsimp (discharger := omega) [g2, g3, hp]
      exact ((HSub.refl _).new hw (by omega) _).new hw (by omega) _
end
end Go.Proofs.YtkaibjdogeikbaaDoor.Am
namespace Go.Proofs.YtkaibjdogeikbaaDoor.Am
noncomputable section
/- CONTRACT: the document's text of flags. -/
def UpInv (f : Nat) (q k : Nat) (h0 : AHeap) (n0 : Nat) (m : Nat) (σ : Fr) (h : AHeap) (n : Nat) : Prop :=
  n = n0 ∧ h = h0 ∧ ∃ j, j + m = 8 ∧
    σ = [(0, .int .i64 ((f / 2 ^ j : Nat) : Int)), (3, .string ⟨(refUp f j).toArray⟩), (4, .slice (some ⟨q, 0, some 8⟩) 8 k), (5, .int .i64 (j : Int))]
def UpPost (f : Nat) (h0 : AHeap) (n0 : Nat) (e : Ex) (σ' : Fr) (h' : AHeap) (n' : Nat) : Prop :=
  n' = n0 ∧ h' = h0 ∧ e = .exit 0 ∧ σ'.get 3 = some (.string ⟨(refUp f 8).toArray⟩)
theorem up_loop {f : Nat} (hf : f < 256) {q k : Nat} {h0 : AHeap} (hq : h0.get q = some (.cells (some 9) (strsL namesL) 8)) (n0 : Nat) :
    ∀ (m : Nat) (σ : Fr) (h : AHeap) (n : Nat), UpInv f q k h0 n0 m σ h n → HasCode EV07 (.loop F22L0) σ h n (UpPost f h0 n0) := by
  refine wx_inv _ fun m σ h n hI => ?_
  obtain ⟨rfl, rfl, j, hj, rfl⟩ := hI
  cases m with
  | zero =>
    obtain rfl : j = 8 := by omega
    simp -dsimp (discharger := omega) [F22L0]
    exact ⟨rfl, rfl, rfl, by simp⟩
  | succ m =>
    have hlt : j < 8 := by omega
    have hidx : (strsL namesL)[j]? = some (.string ⟨(namesL.getD j []).toArray⟩) := by
      have hlt : j < namesL.length := by simp [namesL]; omega
      exact strsL_get? (by simp [List.getElem?_eq_getElem hlt])
    have hrd : h.read q 8 (0 + j) 1 = some [.string ⟨(namesL.getD j []).toArray⟩] := read_one (m := 8) (by rw [AHeap.read_of hq]; rfl) hidx hlt
    rw [Nat.zero_add] at hrd
    have hlen := refUp_len f j (by omega)
    have hn3 : (namesL.getD j []).length = 3 := by
      match j, hlt with
      | 0, _ | 1, _ | 2, _ | 3, _ | 4, _ | 5, _ | 6, _ | 7, _ => rfl
    have hdl : f / 2 ^ j < 256 := Nat.lt_of_le_of_lt (Nat.div_le_self _ _) hf
    have hnx := div_next f j
    have hup : refUp f (j + 1) = if f.testBit j then (if refUp f j = [] then namesL.getD j [] else refUp f j ++ [44] ++ namesL.getD j []) else refUp f j := rfl
    have hbit := bit_mod (f := f) (j := j)
    have fin : ∀ (σ2 : Fr), σ2.get 0 = some (.int .i64 ((f / 2 ^ j / 2 : Nat) : Int)) → σ2.get 3 = some (.string ⟨(refUp f (j + 1)).toArray⟩) → σ2.get 4 = some (.slice (some ⟨q, 0, some 8⟩) 8 k) → σ2.get 5 = some (.int .i64 ((j + 1 : Nat) : Int)) →
        Again (UpInv f q k h n) (m + 1) σ2 h n () := by
      intro σ2 b0 b3 b4 b5
      rw [hnx] at b0
      exact .mk' m (by omega) [(0, .int .i64 ((f / 2 ^ (j + 1) : Nat) : Int)), (3, .string ⟨(refUp f (j + 1)).toArray⟩), (4, .slice (some ⟨q, 0, some 8⟩) 8 k), (5, .int .i64 ((j + 1 : Nat) : Int))] h (by simp only [FSubL]; exact ⟨b0, b3, b4, b5, trivial⟩) (.refl _) ⟨rfl, rfl, j + 1, by omega, rfl⟩
    generalize refUp f (j + 1) = u at hup fin
    generalize hx : namesL.getD j [] = x at hrd hn3 hup
    generalize refUp f j = y at hup hlen ⊢
    generalize f / 2 ^ j = d at hbit hdl fin ⊢
    generalize f.testBit j = b at hbit hup
    have htm : ((d : Int)).tmod 2 = ((d % 2 : Nat) : Int) := rfl
    have htd : ((d : Int)).tdiv 2 = ((d / 2 : Nat) : Int) := rfl
    simp -dsimp (discharger := omega) [F22L0, htm]
    refine Test.split (fun hc => ?_) (fun hc => ?_)
    · have hb : b = true := hbit.1 (by simp at hc; omega)
      rw [if_pos hb] at hup
      simp -dsimp (discharger := omega) []
      refine Test.split (fun hc => ?_) (fun hc => ?_)
      · have hy : ¬ y = [] := by simpa using hc
        rw [if_neg hy] at hup
        simp -dsimp (discharger := omega) [hrd, htd]
        exact fin _ (by simp) (by simp [hup]) (by simp) (by simp)
      · have hy : y = [] := by simpa using hc
        rw [if_pos hy] at hup
        simp -dsimp (discharger := omega) [hrd, htd]
        exact fin _ (by simp) (by simp [hup, hy]) (by simp) (by simp)
    · have hb : ¬ b = true := fun e => by have := hbit.2 e; simp at hc; omega
      rw [if_neg hb] at hup
      simp -dsimp (discharger := omega) [htd]
      exact fin _ (by simp) (by simp [hup]) (by simp) (by simp)
theorem refText_ret {f : Nat} (hf : f < 256) {h : AHeap} {n : Nat} (hw : WF h n) : Ret EV07 22 [.int .i64 (f : Int)] h n (.string ⟨(textL f).toArray⟩) [] (n + 1) := by
  refine rsx22 (by simp) (by simp) ?_
  simp -dsimp (discharger := omega) [B22]
  with_reducible refine call_ret names_ret ?_
  simp -dsimp (discharger := omega) []
  refine loop_use (up_loop hf (q := n) (k := 2) (h0 := h.put n (.cells (some 9) (strsL namesL) 8)) (by simp) (n + 1) 8 _ _ _ ⟨rfl, rfl, 0, rfl, rfl⟩) (by simp [refUp]) (.refl _) ?_
  rintro e σ' h' n' ⟨rfl, rfl, rfl, g3⟩
  have ht := refUp_all ⟨f, hf⟩
  simp only at ht
  simp -dsimp (discharger := omega) [g3]
  refine Test.split (fun hc => ?_) (fun hc => ?_)
  · have hy : refUp f 8 = [] := by simpa using hc
    rw [if_pos hy] at ht
    simp -dsimp (discharger := omega) [← ht]
    exact (HSub.refl h).new hw (Nat.le_refl n) _
  · have hy : ¬ refUp f 8 = [] := by simpa using hc
    rw [if_neg hy] at ht
    simp -dsimp (discharger := omega) [g3, ← ht]
    exact (HSub.refl h).new hw (Nat.le_refl n) _
end
end Go.Proofs.YtkaibjdogeikbaaDoor.Am
namespace Go.Proofs.YtkaibjdogeikbaaDoor.Am
noncomputable section
/- THE LAW TransTells: its first lines. -/
def tcpC (t : TcpN) (o b : Value) : List Value := [.int .u16 (t.fr : Int), .int .u16 (t.to : Int), .int .u32 (t.seq : Int), .int .u32 (t.ack : Int), .int .u8 (t.odd : Int), .int .u8 (t.flags : Int), .int .u16 (t.window : Int), .int .u16 (t.sum : Int), .int .u16 (t.urgent : Int), o, b]
def udpC (fr to ln sm : Nat) (b : Value) : List Value := [.int .u16 (fr : Int), .int .u16 (to : Int), .int .u16 (ln : Int), .int .u16 (sm : Int), b]
/-- The first bytes of a value. -/
theorem BS.cut {h : AHeap} {i o g : Nat} {vs : List UInt8} (hr : h.read i g o vs.length = some (u8s vs)) (m : Nat) (k' : Nat) : BS h (.slice (some ⟨i, o, some g⟩) (Min.min m vs.length) k') (vs.take m) := by
  have e : (vs.take m).length = Min.min m vs.length := List.length_take
  rw [← e]
  refine .mk ?_
  have := (read_le hr).2 (vs.take m).length (by omega)
  rw [this, u8s_take]
  congr 2
  rw [e, ← List.take_take, List.take_length]
set_option maxHeartbeats 1000000 in
theorem tells_cut {t : TcpN} {fr to ln sm : Nat} {h : AHeap} {n : Nat} (hw : WF h n) {o b ub : Value} {os bs us s : List UInt8} (ho : BS h o os) (hb : BS h b bs) (hu : BS h ub us)
    (lo : os.length < 9223372036854775808) (lb : bs.length < 9223372036854775808) (lu : us.length < 9223372036854775808) (hs : s.length < 9223372036854775808)
    {v0 v1 v6 : Value} {Q : Ex → Fr → AHeap → Nat → Prop} {tk : Tok Q}
    (hQ : ∀ o' b' u' σ' h', BS h o' (os.take 60) → BS h b' (bs.take 60) → BS h u' (us.take 60) → σ'.get 2 = some (.string ⟨(s.take 60).toArray⟩) → σ'.get 3 = some (.pointer (some ⟨n, 0, some 11⟩)) → σ'.get 4 = some (.pointer (some ⟨n + 1, 0, some 5⟩)) →
      h'.get n = some (.cells (some 35) (tcpC t o' b') 11) → h'.get (n + 1) = some (.cells (some 37) (udpC fr to ln sm u') 5) → HSub h h' → WF h' (n + 2) → Q .normal σ' h' (n + 2)) :
    wx EV07 R4_0 [(6, v6), (4, .pointer (some ⟨n + 1, 0, some 5⟩)), (3, .pointer (some ⟨n, 0, some 11⟩)), (0, v0), (1, v1), (2, .string ⟨s.toArray⟩)]
      ((h.put n (.cells (some 35) (tcpC t o b) 11)).put (n + 1) (.cells (some 37) (udpC fr to ln sm ub) 5)) (n + 2) Q tk := by
  have h1 : (if (60 : Int) < (os.length : Int) then (60 : Int) else (os.length : Int)).toNat = Min.min 60 os.length := by split <;> omega
  have h2 : (if (60 : Int) < (bs.length : Int) then (60 : Int) else (bs.length : Int)).toNat = Min.min 60 bs.length := by split <;> omega
  have h3 : (if (60 : Int) < (us.length : Int) then (60 : Int) else (us.length : Int)).toNat = Min.min 60 us.length := by split <;> omega
  have h4 : (if (60 : Int) < (s.length : Int) then (60 : Int) else (s.length : Int)).toNat = Min.min 60 s.length := by split <;> omega
  have h5 : s.take (Min.min 60 s.length) = s.take 60 := by rw [← List.take_take, List.take_length]
  have hw2 : ∀ (x y x1 x2 y1 : Blk), WF (((((h.put n x).put (n + 1) y).put n x1).put n x2).put (n + 1) y1) (n + 2) := fun x y x1 x2 y1 =>
    WF.put (n := n + 2) (m := n + 2) (WF.put (n := n + 2) (m := n + 2) (WF.put (n := n + 2) (m := n + 2) (WF.put (n := n + 2) (m := n + 2) (hw.put (m := n + 2) x (by omega) (by omega)) y (by omega) (by omega)) x1 (by omega) (by omega)) x2 (by omega) (by omega)) y1 (by omega) (by omega)
  have hs2 : ∀ (x y x1 x2 y1 : Blk), HSub h (((((h.put n x).put (n + 1) y).put n x1).put n x2).put (n + 1) y1) := fun x y x1 x2 y1 =>
    (((((HSub.refl h).new hw (by omega) x).new hw (by omega) y).new hw (by omega) x1).new hw (by omega) x2).new hw (by omega) y1
  have c0 : BS h (.slice none 0 0) (List.take 60 []) := .nil
  rcases ho with _ | @⟨i1, o1, g1, k1, _, r1⟩
  · rcases hb with _ | @⟨i2, o2, g2, k2, _, r2⟩
    · rcases hu with _ | @⟨i3, o3, g3, k3, _, r3⟩
      · simp -dsimp (discharger := omega) [tcpC, udpC, h4, h5]
        exact hQ _ _ _ _ _ c0 c0 c0 (by simp) (by simp) (by simp) (by simp [tcpC]) (by simp [udpC]) (hs2 _ _ _ _ _) (hw2 _ _ _ _ _)
      · have l3 := read_lt hw r3
        simp -dsimp (discharger := omega) [tcpC, udpC, h4, h5, h3]
        refine ⟨by omega, ?_⟩
        exact hQ _ _ _ _ _ c0 c0 (BS.cut r3 60 (if k3 % 2 = 1 then k3 else if k3 = 2 then k3 else 0)) (by simp) (by simp) (by simp) (by simp [tcpC]) (by simp [udpC]) (hs2 _ _ _ _ _) (hw2 _ _ _ _ _)
    · rcases hu with _ | @⟨i3, o3, g3, k3, _, r3⟩
      · have l2 := read_lt hw r2
        simp -dsimp (discharger := omega) [tcpC, udpC, h4, h5, h2]
        refine ⟨by omega, ?_⟩
        exact hQ _ _ _ _ _ c0 (BS.cut r2 60 (if k2 % 2 = 1 then k2 else if k2 = 2 then k2 else 0)) c0 (by simp) (by simp) (by simp) (by simp [tcpC]) (by simp [udpC]) (hs2 _ _ _ _ _) (hw2 _ _ _ _ _)
      · have l2 := read_lt hw r2
        have l3 := read_lt hw r3
        simp -dsimp (discharger := omega) [tcpC, udpC, h4, h5, h2, h3]
        refine ⟨by omega, by omega, ?_⟩
        exact hQ _ _ _ _ _ c0 (BS.cut r2 60 (if k2 % 2 = 1 then k2 else if k2 = 2 then k2 else 0)) (BS.cut r3 60 (if k3 % 2 = 1 then k3 else if k3 = 2 then k3 else 0)) (by simp) (by simp) (by simp) (by simp [tcpC]) (by simp [udpC]) (hs2 _ _ _ _ _) (hw2 _ _ _ _ _)
  · rcases hb with _ | @⟨i2, o2, g2, k2, _, r2⟩
    · rcases hu with _ | @⟨i3, o3, g3, k3, _, r3⟩
      · have l1 := read_lt hw r1
        simp -dsimp (discharger := omega) [tcpC, udpC, h4, h5, h1]
        refine ⟨by omega, ?_⟩
        exact hQ _ _ _ _ _ (BS.cut r1 60 (if k1 % 2 = 1 then k1 else if k1 = 2 then k1 else 0)) c0 c0 (by simp) (by simp) (by simp) (by simp [tcpC]) (by simp [udpC]) (hs2 _ _ _ _ _) (hw2 _ _ _ _ _)
      · have l1 := read_lt hw r1
        have l3 := read_lt hw r3
        simp -dsimp (discharger := omega) [tcpC, udpC, h4, h5, h1, h3]
        refine ⟨by omega, by omega, ?_⟩
        exact hQ _ _ _ _ _ (BS.cut r1 60 (if k1 % 2 = 1 then k1 else if k1 = 2 then k1 else 0)) c0 (BS.cut r3 60 (if k3 % 2 = 1 then k3 else if k3 = 2 then k3 else 0)) (by simp) (by simp) (by simp) (by simp [tcpC]) (by simp [udpC]) (hs2 _ _ _ _ _) (hw2 _ _ _ _ _)
    · rcases hu with _ | @⟨i3, o3, g3, k3, _, r3⟩
      · have l1 := read_lt hw r1
        have l2 := read_lt hw r2
        simp -dsimp (discharger := omega) [tcpC, udpC, h4, h5, h1, h2]
        refine ⟨by omega, by omega, ?_⟩
        exact hQ _ _ _ _ _ (BS.cut r1 60 (if k1 % 2 = 1 then k1 else if k1 = 2 then k1 else 0)) (BS.cut r2 60 (if k2 % 2 = 1 then k2 else if k2 = 2 then k2 else 0)) c0 (by simp) (by simp) (by simp) (by simp [tcpC]) (by simp [udpC]) (hs2 _ _ _ _ _) (hw2 _ _ _ _ _)
      · have l1 := read_lt hw r1
        have l2 := read_lt hw r2
        have l3 := read_lt hw r3
        simp -dsimp (discharger := omega) [tcpC, udpC, h4, h5, h1, h2, h3]
        refine ⟨by omega, by omega, by omega, ?_⟩
        exact hQ _ _ _ _ _ (BS.cut r1 60 (if k1 % 2 = 1 then k1 else if k1 = 2 then k1 else 0)) (BS.cut r2 60 (if k2 % 2 = 1 then k2 else if k2 = 2 then k2 else 0)) (BS.cut r3 60 (if k3 % 2 = 1 then k3 else if k3 = 2 then k3 else 0)) (by simp) (by simp) (by simp) (by simp [tcpC]) (by simp [udpC]) (hs2 _ _ _ _ _) (hw2 _ _ _ _ _)
end
end Go.Proofs.YtkaibjdogeikbaaDoor.Am
namespace Go.Proofs.YtkaibjdogeikbaaDoor.Am
noncomputable section
/- CONTRACTS of the bytes of heads, both ways at once. -/
theorem Ret.mono {E : Env} {f : Nat} {args : List Value} {h : AHeap} {n : Nat} {v : Value} {l : List (Nat × Blk)} {m n' : Nat} (x : Ret E f args h n v l m) (hm : m ≤ n') : Ret E f args h n v l n' :=
  ⟨.lift x.1 hm, x.2.1, fun i hi => (x.2.2 i hi).imp id fun y => ⟨y.1, by omega⟩⟩
def tcpOk (t : TcpN) (os : List UInt8) : Bool := t.odd ≤ 15 && os.length ≤ 40 && os.length % 4 == 0
def tcpX (t : TcpN) (os bs : List UInt8) : List UInt8 := if tcpOk t os then tcpL t os bs else []
def errI (ok : Bool) : Int := if ok then 0 else 1
def udpX (fr to ln sm : Nat) (bs : List UInt8) : List UInt8 := if ln = 8 + bs.length then udpL fr to ln sm bs else []
theorem BS.new {h : AHeap} {i m : Nat} {bs : List UInt8} (hm : m ≤ bs.length) : BS (h.put i (bufB bs m)) (.slice (some ⟨i, 0, some bs.length⟩) bs.length 2) bs :=
  .mk (by simp [bufB, AHeap.read, hm])
theorem tcp_call {t : TcpN} (ht : t.ok) {h : AHeap} {n : Nat} {o b : Value} {os bs : List UInt8} (ho : BS h o os) (hb : BS h b bs) (hw : WF h n) (l1 : os.length < 1000) (l2 : bs.length < 1000)
    {Q : Value → AHeap → Nat → Prop} {tk : Tok Q} (k : ∀ v h', HSub h h' → WF h' (n + 19) → BS h' v (tcpX t os bs) → Q (.tuple #[v, .int .i64 (errI (tcpOk t os))]) h' (n + 19)) : HasCallT EV07 14 [tcpV t o b] h n Q tk := by
  by_cases hc : t.odd ≤ 15 ∧ os.length ≤ 40 ∧ os.length % 4 = 0
  · obtain ⟨c1, c2, c3⟩ := hc
    have e : tcpOk t os = true := by simp [tcpOk, c1, c2, c3]
    have ex : tcpX t os bs = tcpL t os bs := by rw [tcpX, if_pos e]
    rw [e, ex] at k
    exact call_ret (tcpBytes_ok ht ho hb hw c1 c2 c3 l2) (k _ _ ((HSub.refl h).new hw (by omega) _) (hw.put _ (by omega) (by omega)) (.new (Nat.zero_le _)))
  · have e : tcpOk t os = false := by
      cases e : tcpOk t os with
      | false => rfl
      | true => exact absurd (by simpa [tcpOk, and_assoc] using e) hc
    have ex : tcpX t os bs = [] := by rw [tcpX, if_neg (by simp [e])]
    rw [e, ex] at k
    have := k (.slice none 0 0) h (.refl h) (hw.mono (by omega)) .nil
    refine call_ret (Ret.mono (n' := n + 19) (tcpBytes_bad ht ho hb hw (by omega) (by omega)) (by omega)) this
theorem tcpRef_call {t : TcpN} (ht : t.ok) {h : AHeap} {n : Nat} {o b : Value} {os bs : List UInt8} (ho : BS h o os) (hb : BS h b bs) (hw : WF h n) (l1 : os.length < 1000) (l2 : bs.length < 1000)
    {Q : Value → AHeap → Nat → Prop} {tk : Tok Q} (k : ∀ v h', HSub h h' → WF h' (n + 12) → BS h' v (tcpX t os bs) → Q (.tuple #[v, .int .i64 (errI (tcpOk t os))]) h' (n + 12)) : HasCallT EV07 15 [rtcpV t o b] h n Q tk := by
  by_cases hc : t.odd ≤ 15 ∧ os.length ≤ 40 ∧ os.length % 4 = 0
  · obtain ⟨c1, c2, c3⟩ := hc
    have e : tcpOk t os = true := by simp [tcpOk, c1, c2, c3]
    have ex : tcpX t os bs = tcpL t os bs := by rw [tcpX, if_pos e]
    have hl : 2 ≤ (tcpL t os bs).length := by simp [tcpL, twosL, twoL]
    rw [e, ex] at k
    exact call_ret (tcpRef_ok ht ho hb hw c1 c2 c3 l2) (k _ _ ((HSub.refl h).new hw (by omega) _) (hw.put _ (by omega) (by omega)) (.new hl))
  · have e : tcpOk t os = false := by
      cases e : tcpOk t os with
      | false => rfl
      | true => exact absurd (by simpa [tcpOk, and_assoc] using e) hc
    have ex : tcpX t os bs = [] := by rw [tcpX, if_neg (by simp [e])]
    rw [e, ex] at k
    have := k (.slice none 0 0) h (.refl h) (hw.mono (by omega)) .nil
    refine call_ret (Ret.mono (n' := n + 12) (tcpRef_bad ht ho hb hw (by omega) (by omega)) (by omega)) this
theorem udp_call {fr to ln sm : Nat} (u1 : fr < 65536) (u2 : to < 65536) (u3 : ln < 65536) (u4 : sm < 65536) {h : AHeap} {n : Nat} {b : Value} {bs : List UInt8} (hb : BS h b bs) (hw : WF h n) (l2 : bs.length < 1000)
    {Q : Value → AHeap → Nat → Prop} {tk : Tok Q} (k : ∀ v h', HSub h h' → WF h' (n + 9) → BS h' v (udpX fr to ln sm bs) → Q (.tuple #[v, .int .i64 (errI (ln == 8 + bs.length))]) h' (n + 9)) : HasCallT EV07 17 [udpV fr to ln sm b] h n Q tk := by
  by_cases hc : ln = 8 + bs.length
  · have ex : udpX fr to ln sm bs = udpL fr to ln sm bs := by rw [udpX, if_pos hc]
    have e : (ln == 8 + bs.length) = true := by simpa using hc
    rw [e, ex] at k
    exact call_ret (udpBytes_ok hb hw u1 u2 u3 u4 hc l2) (k _ _ ((HSub.refl h).new hw (by omega) _) (hw.put _ (by omega) (by omega)) (.new (Nat.zero_le _)))
  · have ex : udpX fr to ln sm bs = [] := by rw [udpX, if_neg hc]
    have e : (ln == 8 + bs.length) = false := by simpa using hc
    rw [e, ex] at k
    have := k (.slice none 0 0) h (.refl h) (hw.mono (by omega)) .nil
    refine call_ret (Ret.mono (n' := n + 9) (udpBytes_bad hb hw u3 hc (by omega)) (by omega)) this
theorem udpRef_call {fr to ln sm : Nat} (u1 : fr < 65536) (u2 : to < 65536) (u3 : ln < 65536) (u4 : sm < 65536) {h : AHeap} {n : Nat} {b : Value} {bs : List UInt8} (hb : BS h b bs) (hw : WF h n) (l2 : bs.length < 1000)
    {Q : Value → AHeap → Nat → Prop} {tk : Tok Q} (k : ∀ v h', HSub h h' → WF h' (n + 6) → BS h' v (udpX fr to ln sm bs) → Q (.tuple #[v, .int .i64 (errI (ln == 8 + bs.length))]) h' (n + 6)) : HasCallT EV07 18 [rudpV fr to ln sm b] h n Q tk := by
  by_cases hc : ln = 8 + bs.length
  · have ex : udpX fr to ln sm bs = udpL fr to ln sm bs := by rw [udpX, if_pos hc]
    have e : (ln == 8 + bs.length) = true := by simpa using hc
    have hl : 2 ≤ (udpL fr to ln sm bs).length := by simp [udpL, twosL, twoL]
    rw [e, ex] at k
    exact call_ret (udpRef_ok hb hw u1 u2 u3 u4 hc l2) (k _ _ ((HSub.refl h).new hw (by omega) _) (hw.put _ (by omega) (by omega)) (.new hl))
  · have ex : udpX fr to ln sm bs = [] := by rw [udpX, if_neg hc]
    have e : (ln == 8 + bs.length) = false := by simpa using hc
    rw [e, ex] at k
    have := k (.slice none 0 0) h (.refl h) (hw.mono (by omega)) .nil
    refine call_ret (Ret.mono (n' := n + 6) (udpRef_bad hb hw u3 hc (by omega)) (by omega)) this
end
end Go.Proofs.YtkaibjdogeikbaaDoor.Am
