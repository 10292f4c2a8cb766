/- Contracts of the program's functions (X3). -/
import Derived.Test.YtiemkafpijhlmaaDoorX2
namespace Go.Proofs.YtiemkafpijhlmaaDoor.Am
noncomputable section
/- CONTRACTS of the document: a head laid. -/
theorem rput_bad {t : HdN} {os bs : List UInt8} {o b : Value} {h : AHeap} {n : Nat} (ht : t.ok) (ho : BS h o os) (hb : BS h b bs) (hw : WF h n) (hol : os.length < 100000) (hbl : bs.length < 100000) (hbad : putBad t os bs.length = true) :
    Ret EV06 21 [hdV t o, b] h n (.tuple #[.slice none 0 0, .int .i64 1]) [] (n + 2) := by
  obtain ⟨a, k, rfl⟩ := ho.shape
  obtain ⟨a2, k2, rfl⟩ := hb.shape
  have hs1 : HSub h (h.put n (.cells (some 53) [.int .u8 (t.tos : Int), .int .u8 (t.ttl : Int), .int .u8 (t.proto : Int), .int .u16 (t.id : Int), .bool t.evil, .bool t.df, .bool t.more, .int .i64 t.off, .int .u32 (t.src : Int), .int .u32 (t.dst : Int), .slice a os.length k] 11)) := HSub.new (.refl _) hw (by omega) _
  refine rsx21 (by simp) (by simp) ?_
  obtain ⟨t1, t2, t3, t4, t5, t6, t7, t8⟩ := ht
  unfold putBad at hbad
  by_cases c1 : t.off < 0
  · simp -dsimp (discharger := omega) [B21, hdV]
    exact hs1
  · by_cases c2 : 8192 ≤ t.off
    · simp -dsimp (discharger := omega) [B21, hdV]
      exact hs1
    · have d1 : decide (t.off < 0) = false := by simpa using c1
      have d2 : decide (8192 ≤ t.off) = false := by simpa using c2
      rw [d1, d2] at hbad
      simp -dsimp (discharger := omega) [B21, hdV]
      with_reducible refine call_ret (roptions_ret (bs := os) (by omega) (BS.mono hs1 ho)) ?_
      cases c3 : optB os
      · simp -dsimp (discharger := omega) []
        exact hs1
      · rw [c3] at hbad
        have c4 : fitsB t bs.length = false := by simpa using hbad
        simp -dsimp (discharger := omega) []
        with_reducible refine call_ret (rfits_ret (t := t) (m := bs.length) (by omega) (by omega) (by omega) (.of fun j hj => by simp (discharger := omega) [hw.none (i := j) (by omega)])) ?_
        simp -dsimp (discharger := omega) [c4]
        exact hs1
theorem nxt {h H H' : AHeap} {n q N : Nat} {B BX : Blk} (hw0 : WF h n) (hs : HSub h H) (hw : WF H N) (hx : H.get n = some BX) (o : ∀ i, ¬ i = q → H'.get i = (H.put N B).get i) (hq : n < q) (hqN : q < N) : H'.get n = some BX ∧ HSub h H' ∧ WF H' (N + 1) := by
  refine ⟨?_, fun i b hi => ?_, .of fun j hj => ?_⟩
  · rw [o n (by omega), AHeap.get_put_ne _ _ (by omega), hx]
  · have := hw0.lt hi
    rw [o i (by omega), AHeap.get_put_ne _ _ (by omega)]; exact hs i b hi
  · rw [o j (by omega), AHeap.get_put_ne _ _ (by omega)]; exact hw.none (by omega)
theorem nxt0 {h H H' : AHeap} {n q N : Nat} {BX : Blk} (hw0 : WF h n) (hs : HSub h H) (hw : WF H N) (hx : H.get n = some BX) (o : ∀ i, ¬ i = q → H'.get i = H.get i) (hq : n < q) (hqN : q < N) : H'.get n = some BX ∧ HSub h H' ∧ WF H' N := by
  refine ⟨?_, fun i b hi => ?_, .of fun j hj => ?_⟩
  · rw [o n (by omega), hx]
  · have := hw0.lt hi
    rw [o i (by omega)]; exact hs i b hi
  · rw [o j (by omega)]; exact hw.none (by omega)
theorem lay_two {u : Nat} (hu : u < 65536) : layN 2 u = twoL u := by
  simp only [layN, twoL, List.nil_append, List.cons_append, Nat.mod_eq_of_lt (show u / 256 < 256 by omega)]
theorem lay_four {u : Nat} (hu : u < 4294967296) : layN 4 u = twosL [u / 65536, u % 65536] := by
  simp only [layN, twosL, twoL, List.flatMap_cons, List.flatMap_nil, List.nil_append, List.cons_append, List.append_nil, Nat.div_div_eq_div_mul]
  rw [show u / (65536 * 256) = u / 16777216 from rfl, show u / (256 * 256 * 256) % 256 = u / 16777216 by omega, show u / (256 * 256) = u / 65536 from rfl, show u % 65536 / 256 = u / 256 % 256 by omega, show u % 65536 % 256 = u % 256 by omega]
theorem lay_retI {v : Int} {u : Nat} (hv : v = (u : Int)) (hu : u < 9223372036854775808) {many : Nat} (hm : many ≤ 100) {h : AHeap} {n : Nat} (hw : WF h n) : Ret EV06 40 [.int .i64 v, .int .i64 (many : Int)] h n (.slice (some ⟨n, 0, some many⟩) many 2) [(n, .cells (some 5) (u8s (layN many u)) many)] (n + 1) := by
  rw [hv]; exact lay_ret hu hm hw
set_option maxRecDepth 20000 in
set_option maxHeartbeats 8000000 in
theorem rput_ok {t : HdN} {os bs : List UInt8} {o b : Value} {h : AHeap} {n : Nat} (ht : t.ok) (ho : BS h o os) (hb : BS h b bs) (hw : WF h n) (hol : os.length < 100000) (hbl : bs.length ≤ 400) (hbad : putBad t os bs.length = false) :
    Ret EV06 21 [hdV t o, b] h n (.tuple #[.slice (some ⟨n + 2, 0, some (putL t os bs).length⟩) (putL t os bs).length 2, .int .i64 0]) [(n + 2, bufB (putL t os bs) (20 + os.length))] (n + 30) := by
  obtain ⟨a, k, rfl⟩ := ho.shape
  obtain ⟨a2, k2, rfl⟩ := hb.shape
  have hs1 : HSub h (h.put n (.cells (some 53) [.int .u8 (t.tos : Int), .int .u8 (t.ttl : Int), .int .u8 (t.proto : Int), .int .u16 (t.id : Int), .bool t.evil, .bool t.df, .bool t.more, .int .i64 t.off, .int .u32 (t.src : Int), .int .u32 (t.dst : Int), .slice a os.length k] 11)) := HSub.new (.refl _) hw (by omega) _
  have hw1 : WF (h.put n (.cells (some 53) [.int .u8 (t.tos : Int), .int .u8 (t.ttl : Int), .int .u8 (t.proto : Int), .int .u16 (t.id : Int), .bool t.evil, .bool t.df, .bool t.more, .int .i64 t.off, .int .u32 (t.src : Int), .int .u32 (t.dst : Int), .slice a os.length k] 11)) (n + 1) := .of fun j hj => by simp (discharger := omega) [hw.none (i := j) (by omega)]
  refine rsx21 (by simp) (by simp) ?_
  obtain ⟨t1, t2, t3, t4, t5, t6, t7, t8⟩ := ht
  simp only [putBad, Bool.or_eq_false_iff, decide_eq_false_iff_not, Bool.not_eq_false'] at hbad
  obtain ⟨⟨⟨c1, c2⟩, c3⟩, c4⟩ := hbad
  have c5 : os.length ≤ 40 := by
    unfold optB at c3
    simp only [Bool.and_eq_true, decide_eq_true_eq] at c3
    exact c3.1.1
  simp -dsimp (discharger := omega) [B21]
  with_reducible refine call_ret (roptions_ret (bs := os) (by omega) (BS.mono hs1 ho)) ?_
  simp -dsimp (discharger := omega) [c3]
  with_reducible refine call_ret (rfits_ret (t := t) (m := bs.length) (by omega) (by omega) (by omega) hw1) ?_
  have hbx0 : (h.put n (.cells (some 53) [.int .u8 (t.tos : Int), .int .u8 (t.ttl : Int), .int .u8 (t.proto : Int), .int .u16 (t.id : Int), .bool t.evil, .bool t.df, .bool t.more, .int .i64 t.off, .int .u32 (t.src : Int), .int .u32 (t.dst : Int), .slice a os.length k] 11)).get n = some (.cells (some 53) [.int .u8 (t.tos : Int), .int .u8 (t.ttl : Int), .int .u8 (t.proto : Int), .int .u16 (t.id : Int), .bool t.evil, .bool t.df, .bool t.more, .int .i64 t.off, .int .u32 (t.src : Int), .int .u32 (t.dst : Int), .slice a os.length k] 11) := AHeap.get_put_same _ _ _
  generalize h.put n (.cells (some 53) [.int .u8 (t.tos : Int), .int .u8 (t.ttl : Int), .int .u8 (t.proto : Int), .int .u16 (t.id : Int), .bool t.evil, .bool t.df, .bool t.more, .int .i64 t.off, .int .u32 (t.src : Int), .int .u32 (t.dst : Int), .slice a os.length k] 11) = H0 at *
  have by8 : ∀ {x : Nat}, x < 256 → ((UInt8.ofNat x).toNat : Int) = (x : Int) := fun {x} hx => by rw [UInt8.toNat_ofNat', Nat.mod_eq_of_lt (by omega)]
  obtain ⟨d0, hd0, e0⟩ : ∃ c : UInt8, UInt8.ofNat (64 + (20 + os.length) / 4) = c ∧ 64 + (20 + (os.length : Int)) / 4 = (c.toNat : Int) := ⟨_, rfl, by rw [by8 (by omega)]; omega⟩
  obtain ⟨d1, hd1, e1⟩ : ∃ c : UInt8, UInt8.ofNat t.tos = c ∧ (t.tos : Int) = (c.toNat : Int) := ⟨_, rfl, (by8 t1).symm⟩
  obtain ⟨d2, hd2, e2⟩ : ∃ c : UInt8, UInt8.ofNat t.ttl = c ∧ (t.ttl : Int) = (c.toNat : Int) := ⟨_, rfl, (by8 t2).symm⟩
  obtain ⟨d3, hd3, e3⟩ : ∃ c : UInt8, UInt8.ofNat t.proto = c ∧ (t.proto : Int) = (c.toNat : Int) := ⟨_, rfl, (by8 t3).symm⟩
  have l0 := d0.toNat_lt
  have hbN := bitsN_lt t (by omega)
  have hcl : ∀ a b : UInt8, [Value.int .u8 (a.toNat : Int), .int .u8 (b.toNat : Int)] = u8s [a, b] := fun _ _ => rfl
  have hcl4b : ∀ a b : UInt8, List.take 4 (u8s [a, b, 0, 0]) = u8s [a, b, 0, 0] := fun _ _ => rfl
  have hcl4 : ∀ a b : UInt8, [Value.int .u8 (a.toNat : Int), .int .u8 (b.toNat : Int), .int .u8 0, .int .u8 0] = u8s [a, b, 0, 0] := fun _ _ => rfl
  have hlay : ∀ {k u : Nat} {B : AHeap} {i m : Nat}, B.get i = some (.cells (some 5) (u8s (layN k u)) m) → m ≤ k → aElems B 1 (.slice (some ⟨i, 0, some k⟩) k 2) = some ((layN k u).length, u8s (layN k u)) := fun {k u B i m} e hm => by
    simp only [aElems]
    rw [AHeap.read_of e, layN_len]
    simp [hm]
    exact List.take_of_length_le (by simp)
  obtain ⟨x, hx, hxl⟩ : ∃ x : Nat, t.off = (x : Int) ∧ x < 8192 := ⟨t.off.toNat, by omega, by omega⟩
  have hbits : bitsN t = x + (if t.evil then 32768 else 0) + (if t.df then 16384 else 0) + (if t.more then 8192 else 0) := by rw [bitsN, hx]; rfl
  have hfin : HSub h H0 := hs1
  cases he : t.evil <;> cases hd : t.df <;> cases hm : t.more
  all_goals
    rw [he, hd, hm] at hbits
    simp -dsimp (discharger := omega) [c4, he, hd, hm, AHeap.read_of hbx0, e0, e1, hcl, tdivP, aFill]
    generalize hH1 : H0.put (n + 1 + 1) (.cells (some 5) (u8s [d0, d1]) 2) = H1
    have q1 : H1.get (n + 1 + 1) = some (bufB [d0, d1] 2) := by rw [← hH1, AHeap.get_put_same]; rfl
    have hbx1 : H1.get n = some (.cells (some 53) [.int .u8 (t.tos : Int), .int .u8 (t.ttl : Int), .int .u8 (t.proto : Int), .int .u16 (t.id : Int), .bool t.evil, .bool t.df, .bool t.more, .int .i64 t.off, .int .u32 (t.src : Int), .int .u32 (t.dst : Int), .slice a os.length k] 11) := by rw [← hH1, AHeap.get_put_ne _ _ (by omega), hbx0]
    have hs1 : HSub h H1 := by rw [← hH1]; exact hfin.new hw (by omega) _
    have hw1 : WF H1 (n + 1 + 1 + 1) := by rw [← hH1]; exact .of fun j hj => by simp (discharger := omega) [hw1.none (i := j) (by omega)]
    clear hH1
    with_reducible refine call_ret (lay_retI (u := 20 + os.length + bs.length) (many := 2) (by omega) (by omega) (by omega) hw1) ?_
    simp -dsimp (discharger := omega) []
    with_reducible refine append_bs (bs := [d0, d1]) (vs := layN 2 (20 + os.length + bs.length)) (m := 2) (by rw [AHeap.get_put_ne _ _ (by omega)]; exact q1) (by simp) (by omega) (hlay (AHeap.get_put_same _ _ _) (by omega)) (by simp) ?_
    intro H2 q2 o2
    obtain ⟨hbx2, hs2, hw2⟩ := nxt hw hs1 hw1 hbx1 o2 (by omega) (by omega)
    clear o2
    simp -dsimp (discharger := omega) [AHeap.read_of hbx2]
    with_reducible refine call_ret (lay_retI (u := t.id) (many := 2) (rfl) (by omega) (by omega) hw2) ?_
    simp -dsimp (discharger := omega) []
    with_reducible refine append_bs (bs := ([d0, d1] ++ layN 2 (20 + os.length + bs.length))) (vs := layN 2 (t.id)) (m := 2) (by rw [AHeap.get_put_ne _ _ (by omega)]; exact q2) (by simp) (by omega) (hlay (AHeap.get_put_same _ _ _) (by omega)) (by simp) ?_
    intro H3 q3 o3
    obtain ⟨hbx3, hs3, hw3⟩ := nxt hw hs2 hw2 hbx2 o3 (by omega) (by omega)
    clear o3
    simp -dsimp (discharger := omega) []
    with_reducible refine call_ret (lay_retI (u := bitsN t) (many := 2) (by rw [hbits]; simp [hx]; try omega) (by omega) (by omega) hw3) ?_
    simp -dsimp (discharger := omega) []
    with_reducible refine append_bs (bs := (([d0, d1] ++ layN 2 (20 + os.length + bs.length)) ++ layN 2 (t.id))) (vs := layN 2 (bitsN t)) (m := 2) (by rw [AHeap.get_put_ne _ _ (by omega)]; exact q3) (by simp) (by omega) (hlay (AHeap.get_put_same _ _ _) (by omega)) (by simp) ?_
    intro H4 q4 o4
    obtain ⟨hbx4, hs4, hw4⟩ := nxt hw hs3 hw3 hbx3 o4 (by omega) (by omega)
    clear o4
    simp -dsimp (discharger := omega) [AHeap.read_of hbx4, e2, e3, aFill]
    simp only [hcl4]
    with_reducible refine append_bs (bs := ((([d0, d1] ++ layN 2 (20 + os.length + bs.length)) ++ layN 2 (t.id)) ++ layN 2 (bitsN t))) (vs := [d2, d3, 0, 0]) (m := 2) (by rw [AHeap.get_put_ne _ _ (by omega)]; exact q4) (by simp) (by omega) (by simp (discharger := omega) [aElems, hcl4b]) (by simp) ?_
    intro H5 q5 o5
    obtain ⟨hbx5, hs5, hw5⟩ := nxt hw hs4 hw4 hbx4 o5 (by omega) (by omega)
    clear o5
    simp -dsimp (discharger := omega) [AHeap.read_of hbx5]
    with_reducible refine call_ret (lay_retI (u := t.src) (many := 4) (rfl) (by omega) (by omega) hw5) ?_
    simp -dsimp (discharger := omega) []
    with_reducible refine append_bs (bs := (((([d0, d1] ++ layN 2 (20 + os.length + bs.length)) ++ layN 2 (t.id)) ++ layN 2 (bitsN t)) ++ [d2, d3, 0, 0])) (vs := layN 4 (t.src)) (m := 2) (by rw [AHeap.get_put_ne _ _ (by omega)]; exact q5) (by simp) (by omega) (hlay (AHeap.get_put_same _ _ _) (by omega)) (by simp) ?_
    intro H6 q6 o6
    obtain ⟨hbx6, hs6, hw6⟩ := nxt hw hs5 hw5 hbx5 o6 (by omega) (by omega)
    clear o6
    simp -dsimp (discharger := omega) [AHeap.read_of hbx6]
    with_reducible refine call_ret (lay_retI (u := t.dst) (many := 4) (rfl) (by omega) (by omega) hw6) ?_
    simp -dsimp (discharger := omega) []
    with_reducible refine append_bs (bs := ((((([d0, d1] ++ layN 2 (20 + os.length + bs.length)) ++ layN 2 (t.id)) ++ layN 2 (bitsN t)) ++ [d2, d3, 0, 0]) ++ layN 4 (t.src))) (vs := layN 4 (t.dst)) (m := 2) (by rw [AHeap.get_put_ne _ _ (by omega)]; exact q6) (by simp) (by omega) (hlay (AHeap.get_put_same _ _ _) (by omega)) (by simp) ?_
    intro H7 q7 o7
    obtain ⟨hbx7, hs7, hw7⟩ := nxt hw hs6 hw6 hbx6 o7 (by omega) (by omega)
    clear o7
    simp -dsimp (discharger := omega) [AHeap.read_of hbx7]
    with_reducible refine append_bs (bs := (((((([d0, d1] ++ layN 2 (20 + os.length + bs.length)) ++ layN 2 (t.id)) ++ layN 2 (bitsN t)) ++ [d2, d3, 0, 0]) ++ layN 4 (t.src)) ++ layN 4 (t.dst))) (vs := os) (m := 2) q7 (by simp) (by omega) (BS.elems (BS.mono hs7 ho)) (by simp; omega) ?_
    intro H8 q8 o8
    obtain ⟨hbx8, hs8, hw8⟩ := nxt0 hw hs7 hw7 hbx7 o8 (by omega) (by omega)
    clear o8
    have hP : [d0, d1] ++ layN 2 (20 + os.length + bs.length) ++ layN 2 t.id ++ layN 2 (bitsN t) ++ [d2, d3] = preH t os bs.length := by
      rw [preH, hd0, hd1, hd2, hd3, lay_two (by omega), lay_two (by omega), lay_two (by omega)]; simp [twosL]
    have hR : layN 4 t.src ++ layN 4 t.dst ++ os = postH t os := by rw [postH, lay_four (by omega), lay_four (by omega)]; simp [twosL]
    have hZ : [d0, d1] ++ layN 2 (20 + os.length + bs.length) ++ layN 2 t.id ++ layN 2 (bitsN t) ++ [d2, d3, 0, 0] ++ layN 4 t.src ++ layN 4 t.dst ++ os = preH t os bs.length ++ twoL 0 ++ postH t os := by
      rw [← hP, ← hR]; simp [twoL]
    rw [hZ] at q8
    have hlP := preH_len t os bs.length
    have hlR := postH_len t os
    have hput : putL t os bs = preH t os bs.length ++ twoL (sumN (preH t os bs.length ++ twoL 0 ++ postH t os)) ++ postH t os ++ bs := rfl
    rw [hput]
    have hSl := sumN_lt (preH t os bs.length ++ twoL 0 ++ postH t os)
    have htl0 : (twoL 0).length = 2 := rfl
    have hlZ : (preH t os bs.length ++ twoL 0 ++ postH t os).length = 20 + os.length := by simp only [List.length_append, hlP, hlR, htl0]; omega
    clear hP hR hZ hput
    generalize preH t os bs.length = P at *
    generalize postH t os = R at *
    generalize hS : sumN (P ++ twoL 0 ++ R) = S at *
    have hsum : ∀ {m : Nat}, Ret EV06 24 [.slice (some ⟨n + 1 + 1, 0, some (20 + os.length)⟩) (20 + os.length) 2] H8 m (.int .u16 (S : Int)) [] m := fun {m} => by
      have h1 := bs_new q8 (by omega)
      rw [hlZ] at h1
      have := rsum_ret (bs := P ++ twoL 0 ++ R) (by omega) h1 (n := m)
      rw [hS] at this; exact this
    have hset : ((P ++ twoL 0 ++ R).set 10 (UInt8.ofNat (S / 256))).set 11 (UInt8.ofNat (S % 256)) = P ++ twoL S ++ R := by
      rw [List.append_assoc, List.set_append, if_neg (by omega), List.set_append, if_neg (by omega), hlP]
      simp [twoL]
    have hb1 : (S : Int) / 256 = ((UInt8.ofNat (S / 256)).toNat : Int) := by rw [by8 (by omega)]; omega
    have hb2 : (S : Int) % 256 = ((UInt8.ofNat (S % 256)).toNat : Int) := by rw [by8 (by omega)]; omega
    have cs1 := cset (l := P ++ twoL 0 ++ R) (i := 10) (by omega) (UInt8.ofNat (S / 256))
    have cs2 := cset (l := (P ++ twoL 0 ++ R).set 10 (UInt8.ofNat (S / 256))) (i := 11) (by rw [List.length_set]; omega) (UInt8.ofNat (S % 256))
    rw [hset] at cs2
    have hul : (u8s (P ++ twoL 0 ++ R)).length = 20 + os.length := by rw [u8s_length, hlZ]
    have hul2 : (u8s ((P ++ twoL 0 ++ R).set 10 (UInt8.ofNat (S / 256)))).length = 20 + os.length := by rw [u8s_length, List.length_set, hlZ]
    have htS : (twoL S).length = 2 := rfl
    have hlF : (P ++ twoL S ++ R).length = 20 + os.length := by simp only [List.length_append, hlP, hlR, htS]; omega
    have l1 := (UInt8.ofNat (S / 256)).toNat_lt
    have l2 := (UInt8.ofNat (S % 256)).toNat_lt
    unfold bufB at q8
    generalize hF : P ++ twoL S ++ R = F at *
    clear hset hS
    generalize (P ++ twoL 0 ++ R).set 10 (UInt8.ofNat (S / 256)) = Z1 at *
    generalize P ++ twoL 0 ++ R = Z at *
    generalize UInt8.ofNat (S / 256) = s1 at *
    generalize UInt8.ofNat (S % 256) = s2 at *
    simp -dsimp (discharger := omega) []
    with_reducible refine call_ret hsum ?_
    simp -dsimp (discharger := omega) [tdivP, tmodP, hb1, hb2, q8, hul, hul2, cs1, cs2]
    with_reducible refine append_bs (bs := F) (vs := bs) (m := 20 + os.length) (by rw [AHeap.get_put_same, bufB]) hlF (by omega) (BS.elems (BS.mono ?_ hb)) (by omega) ?_
    · repeat (refine HSub.new ?_ hw (by omega) _)
      exact hs8
    intro H9 q9 o9
    simp -dsimp (discharger := omega) []
    have e20 : 20 + os.length + bs.length = (F ++ bs).length := by rw [List.length_append, hlF]
    refine ⟨by simpa using e20, fun i b hi => ?_⟩
    rw [AHeap.get_put] at hi
    by_cases e : n + 2 = i
    · subst e
      rw [if_pos rfl] at hi
      rw [q9, ← hi]
    · rw [if_neg e] at hi
      have hlt := hw.lt hi
      rw [o9 i (fun e2 => e e2.symm)]
      simp (discharger := omega) [hs8 i b hi]
end
end Go.Proofs.YtiemkafpijhlmaaDoor.Am
namespace Go.Proofs.YtiemkafpijhlmaaDoor.Am
noncomputable section
/- THE LAW's WALK: heads laid. -/
set_option maxHeartbeats 4000000 in
theorem r5_1 {t : HdN} {σ : Fr} {H : AHeap} {n p lo ko : Nat} {ao : Option Addr} {v6 v8 v5 v1 : Value} {r bs : List UInt8} {e : Int} (hx : H.get p = some (.cells (some 47) [.int .u8 (t.tos : Int), .int .u8 (t.ttl : Int), .int .u8 (t.proto : Int), .int .u16 (t.id : Int), .bool t.evil, .bool t.df, .bool t.more, .int .i64 t.off, .int .u32 (t.src : Int), .int .u32 (t.dst : Int), .slice ao lo ko] 11)) (hpn : p < n) (h6 : BS H v6 r) (h8 : BS H v8 r) (h5 : BS H v5 bs) (h1 : BS H v1 bs) (hbs : bs.length < 100000)
    (g1 : σ.get 1 = some v1) (g2 : σ.get 2 = some (.pointer (some ⟨p, 0, some 11⟩))) (g5 : σ.get 5 = some v5) (g6 : σ.get 6 = some v6) (g7 : σ.get 7 = some (.int .i64 e)) (g8 : σ.get 8 = some v8) (g9 : σ.get 9 = some (.int .i64 e))
    (hw : WF H n) (hp : HasPow H) (he : HasErrs H) (hn : 4096 ≤ n) :
    wx EV06 R5_1 σ H n (kThen EV06 .ret (Done [.tmp 4] fun v _ _ => v = .bool true) ⟨⟩) ⟨⟩ := by
  have hb0 : bytesOf? [] = some [] := rfl
  have s5 : ∀ m, Ret EV06 23 [v5] H m (.int .u16 ((sumN bs : Nat) : Int)) [] m := fun m => sum_ret hbs h5
  have s1 : ∀ m, Ret EV06 24 [v1] H m (.int .u16 ((sumN bs : Nat) : Int)) [] m := fun m => rsum_ret hbs h1
  have hF : ∀ {m : Nat}, n ≤ m → Ret EV06 25 [hdV t (.slice ao lo ko)] H m (.bool (decide (t.off = 0) && t.more)) [] (m + 1) := fun {m} hm => first_ret t (hw.mono hm)
  have hL : ∀ {m : Nat}, n ≤ m → Ret EV06 26 [hdV t (.slice ao lo ko)] H m (.bool (decide (0 < t.off))) [] (m + 1) := fun {m} hm => later_ret t (hw.mono hm)
  have hT : ∀ {m : Nat}, n ≤ m → Ret EV06 19 [] H m (.bool true) [] (m + 100) := fun {m} hm => tells_ret (hw.mono hm) hp he (by omega)
  cases h6 with
  | nil =>
    cases h8 with
    | nil =>
      cases h5 with
      | nil =>
        cases h1 with
        | nil =>
          try simp only [List.length_nil] at s5 s1
          simp -dsimp (discharger := omega) [g5, g6, g7, g8, g9]
          with_reducible refine ret_ret (s5 _) ?_
          simp -dsimp (discharger := omega) [g1]
          with_reducible refine ret_ret (s1 _) ?_
          by_cases z0 : t.off = 0
          · have zd : decide (t.off = 0) = true := by simp [z0]
            have zb : (t.off == 0) = true := by simp [z0]
            simp -dsimp (discharger := omega) [g1, g2, g5, AHeap.read_of hx]
            with_reducible refine ret_ret (hF (Nat.le_refl _)) ?_
            simp -dsimp (discharger := omega) [g2, AHeap.read_of hx, zb]
            with_reducible refine ret_ret (hL (by omega)) ?_
            simp -dsimp (discharger := omega) [g2, AHeap.read_of hx]
            with_reducible refine ret_ret (hT (by omega)) ?_
            simp -dsimp (discharger := omega) []
          · have zd : decide (t.off = 0) = false := by simp [z0]
            have zb : (t.off == 0) = false := by simp [z0]
            simp -dsimp (discharger := omega) [g1, g2, g5, AHeap.read_of hx]
            with_reducible refine ret_ret (hF (Nat.le_refl _)) ?_
            simp -dsimp (discharger := omega) [g2, AHeap.read_of hx, zb]
            with_reducible refine ret_ret (hL (by omega)) ?_
            simp -dsimp (discharger := omega) [g2, AHeap.read_of hx]
            with_reducible refine ret_ret (hT (by omega)) ?_
            simp -dsimp (discharger := omega) []
        | @mk i1 o1 w1 k1 _ hr1 =>
          try simp only [List.length_nil] at s5 s1
          try simp only [List.length_nil] at hr1
          simp -dsimp (discharger := omega) [g5, g6, g7, g8, g9]
          with_reducible refine ret_ret (s5 _) ?_
          simp -dsimp (discharger := omega) [g1]
          with_reducible refine ret_ret (s1 _) ?_
          by_cases z0 : t.off = 0
          · have zd : decide (t.off = 0) = true := by simp [z0]
            have zb : (t.off == 0) = true := by simp [z0]
            simp -dsimp (discharger := omega) [g1, g2, g5, hb0, hr1, AHeap.read_of hx]
            with_reducible refine ret_ret (hF (Nat.le_refl _)) ?_
            simp -dsimp (discharger := omega) [g2, AHeap.read_of hx, zb]
            with_reducible refine ret_ret (hL (by omega)) ?_
            simp -dsimp (discharger := omega) [g2, AHeap.read_of hx]
            with_reducible refine ret_ret (hT (by omega)) ?_
            simp -dsimp (discharger := omega) []
          · have zd : decide (t.off = 0) = false := by simp [z0]
            have zb : (t.off == 0) = false := by simp [z0]
            simp -dsimp (discharger := omega) [g1, g2, g5, hb0, hr1, AHeap.read_of hx]
            with_reducible refine ret_ret (hF (Nat.le_refl _)) ?_
            simp -dsimp (discharger := omega) [g2, AHeap.read_of hx, zb]
            with_reducible refine ret_ret (hL (by omega)) ?_
            simp -dsimp (discharger := omega) [g2, AHeap.read_of hx]
            with_reducible refine ret_ret (hT (by omega)) ?_
            simp -dsimp (discharger := omega) []
      | @mk i5 o5 w5 k5 _ hr5 =>
        cases h1 with
        | nil =>
          try simp only [List.length_nil] at s5 s1
          try simp only [List.length_nil] at hr5
          simp -dsimp (discharger := omega) [g5, g6, g7, g8, g9]
          with_reducible refine ret_ret (s5 _) ?_
          simp -dsimp (discharger := omega) [g1]
          with_reducible refine ret_ret (s1 _) ?_
          by_cases z0 : t.off = 0
          · have zd : decide (t.off = 0) = true := by simp [z0]
            have zb : (t.off == 0) = true := by simp [z0]
            simp -dsimp (discharger := omega) [g1, g2, g5, hb0, hr5, AHeap.read_of hx]
            with_reducible refine ret_ret (hF (Nat.le_refl _)) ?_
            simp -dsimp (discharger := omega) [g2, AHeap.read_of hx, zb]
            with_reducible refine ret_ret (hL (by omega)) ?_
            simp -dsimp (discharger := omega) [g2, AHeap.read_of hx]
            with_reducible refine ret_ret (hT (by omega)) ?_
            simp -dsimp (discharger := omega) []
          · have zd : decide (t.off = 0) = false := by simp [z0]
            have zb : (t.off == 0) = false := by simp [z0]
            simp -dsimp (discharger := omega) [g1, g2, g5, hb0, hr5, AHeap.read_of hx]
            with_reducible refine ret_ret (hF (Nat.le_refl _)) ?_
            simp -dsimp (discharger := omega) [g2, AHeap.read_of hx, zb]
            with_reducible refine ret_ret (hL (by omega)) ?_
            simp -dsimp (discharger := omega) [g2, AHeap.read_of hx]
            with_reducible refine ret_ret (hT (by omega)) ?_
            simp -dsimp (discharger := omega) []
        | @mk i1 o1 w1 k1 _ hr1 =>
          try simp only [List.length_nil] at s5 s1
          try simp only [List.length_nil] at hr5
          try simp only [List.length_nil] at hr1
          simp -dsimp (discharger := omega) [g5, g6, g7, g8, g9]
          with_reducible refine ret_ret (s5 _) ?_
          simp -dsimp (discharger := omega) [g1]
          with_reducible refine ret_ret (s1 _) ?_
          by_cases z0 : t.off = 0
          · have zd : decide (t.off = 0) = true := by simp [z0]
            have zb : (t.off == 0) = true := by simp [z0]
            simp -dsimp (discharger := omega) [g1, g2, g5, hr5, hr1, AHeap.read_of hx]
            with_reducible refine ret_ret (hF (Nat.le_refl _)) ?_
            simp -dsimp (discharger := omega) [g2, AHeap.read_of hx, zb]
            with_reducible refine ret_ret (hL (by omega)) ?_
            simp -dsimp (discharger := omega) [g2, AHeap.read_of hx]
            with_reducible refine ret_ret (hT (by omega)) ?_
            simp -dsimp (discharger := omega) []
          · have zd : decide (t.off = 0) = false := by simp [z0]
            have zb : (t.off == 0) = false := by simp [z0]
            simp -dsimp (discharger := omega) [g1, g2, g5, hr5, hr1, AHeap.read_of hx]
            with_reducible refine ret_ret (hF (Nat.le_refl _)) ?_
            simp -dsimp (discharger := omega) [g2, AHeap.read_of hx, zb]
            with_reducible refine ret_ret (hL (by omega)) ?_
            simp -dsimp (discharger := omega) [g2, AHeap.read_of hx]
            with_reducible refine ret_ret (hT (by omega)) ?_
            simp -dsimp (discharger := omega) []
    | @mk i8 o8 w8 k8 _ hr8 =>
      cases h5 with
      | nil =>
        cases h1 with
        | nil =>
          try simp only [List.length_nil] at s5 s1
          try simp only [List.length_nil] at hr8
          simp -dsimp (discharger := omega) [g5, g6, g7, g8, g9, hb0, hr8]
          with_reducible refine ret_ret (s5 _) ?_
          simp -dsimp (discharger := omega) [g1]
          with_reducible refine ret_ret (s1 _) ?_
          by_cases z0 : t.off = 0
          · have zd : decide (t.off = 0) = true := by simp [z0]
            have zb : (t.off == 0) = true := by simp [z0]
            simp -dsimp (discharger := omega) [g1, g2, g5, AHeap.read_of hx]
            with_reducible refine ret_ret (hF (Nat.le_refl _)) ?_
            simp -dsimp (discharger := omega) [g2, AHeap.read_of hx, zb]
            with_reducible refine ret_ret (hL (by omega)) ?_
            simp -dsimp (discharger := omega) [g2, AHeap.read_of hx]
            with_reducible refine ret_ret (hT (by omega)) ?_
            simp -dsimp (discharger := omega) []
          · have zd : decide (t.off = 0) = false := by simp [z0]
            have zb : (t.off == 0) = false := by simp [z0]
            simp -dsimp (discharger := omega) [g1, g2, g5, AHeap.read_of hx]
            with_reducible refine ret_ret (hF (Nat.le_refl _)) ?_
            simp -dsimp (discharger := omega) [g2, AHeap.read_of hx, zb]
            with_reducible refine ret_ret (hL (by omega)) ?_
            simp -dsimp (discharger := omega) [g2, AHeap.read_of hx]
            with_reducible refine ret_ret (hT (by omega)) ?_
            simp -dsimp (discharger := omega) []
        | @mk i1 o1 w1 k1 _ hr1 =>
          try simp only [List.length_nil] at s5 s1
          try simp only [List.length_nil] at hr8
          try simp only [List.length_nil] at hr1
          simp -dsimp (discharger := omega) [g5, g6, g7, g8, g9, hb0, hr8]
          with_reducible refine ret_ret (s5 _) ?_
          simp -dsimp (discharger := omega) [g1]
          with_reducible refine ret_ret (s1 _) ?_
          by_cases z0 : t.off = 0
          · have zd : decide (t.off = 0) = true := by simp [z0]
            have zb : (t.off == 0) = true := by simp [z0]
            simp -dsimp (discharger := omega) [g1, g2, g5, hb0, hr1, AHeap.read_of hx]
            with_reducible refine ret_ret (hF (Nat.le_refl _)) ?_
            simp -dsimp (discharger := omega) [g2, AHeap.read_of hx, zb]
            with_reducible refine ret_ret (hL (by omega)) ?_
            simp -dsimp (discharger := omega) [g2, AHeap.read_of hx]
            with_reducible refine ret_ret (hT (by omega)) ?_
            simp -dsimp (discharger := omega) []
          · have zd : decide (t.off = 0) = false := by simp [z0]
            have zb : (t.off == 0) = false := by simp [z0]
            simp -dsimp (discharger := omega) [g1, g2, g5, hb0, hr1, AHeap.read_of hx]
            with_reducible refine ret_ret (hF (Nat.le_refl _)) ?_
            simp -dsimp (discharger := omega) [g2, AHeap.read_of hx, zb]
            with_reducible refine ret_ret (hL (by omega)) ?_
            simp -dsimp (discharger := omega) [g2, AHeap.read_of hx]
            with_reducible refine ret_ret (hT (by omega)) ?_
            simp -dsimp (discharger := omega) []
      | @mk i5 o5 w5 k5 _ hr5 =>
        cases h1 with
        | nil =>
          try simp only [List.length_nil] at s5 s1
          try simp only [List.length_nil] at hr8
          try simp only [List.length_nil] at hr5
          simp -dsimp (discharger := omega) [g5, g6, g7, g8, g9, hb0, hr8]
          with_reducible refine ret_ret (s5 _) ?_
          simp -dsimp (discharger := omega) [g1]
          with_reducible refine ret_ret (s1 _) ?_
          by_cases z0 : t.off = 0
          · have zd : decide (t.off = 0) = true := by simp [z0]
            have zb : (t.off == 0) = true := by simp [z0]
            simp -dsimp (discharger := omega) [g1, g2, g5, hb0, hr5, AHeap.read_of hx]
            with_reducible refine ret_ret (hF (Nat.le_refl _)) ?_
            simp -dsimp (discharger := omega) [g2, AHeap.read_of hx, zb]
            with_reducible refine ret_ret (hL (by omega)) ?_
            simp -dsimp (discharger := omega) [g2, AHeap.read_of hx]
            with_reducible refine ret_ret (hT (by omega)) ?_
            simp -dsimp (discharger := omega) []
          · have zd : decide (t.off = 0) = false := by simp [z0]
            have zb : (t.off == 0) = false := by simp [z0]
            simp -dsimp (discharger := omega) [g1, g2, g5, hb0, hr5, AHeap.read_of hx]
            with_reducible refine ret_ret (hF (Nat.le_refl _)) ?_
            simp -dsimp (discharger := omega) [g2, AHeap.read_of hx, zb]
            with_reducible refine ret_ret (hL (by omega)) ?_
            simp -dsimp (discharger := omega) [g2, AHeap.read_of hx]
            with_reducible refine ret_ret (hT (by omega)) ?_
            simp -dsimp (discharger := omega) []
        | @mk i1 o1 w1 k1 _ hr1 =>
          try simp only [List.length_nil] at s5 s1
          try simp only [List.length_nil] at hr8
          try simp only [List.length_nil] at hr5
          try simp only [List.length_nil] at hr1
          simp -dsimp (discharger := omega) [g5, g6, g7, g8, g9, hb0, hr8]
          with_reducible refine ret_ret (s5 _) ?_
          simp -dsimp (discharger := omega) [g1]
          with_reducible refine ret_ret (s1 _) ?_
          by_cases z0 : t.off = 0
          · have zd : decide (t.off = 0) = true := by simp [z0]
            have zb : (t.off == 0) = true := by simp [z0]
            simp -dsimp (discharger := omega) [g1, g2, g5, hr5, hr1, AHeap.read_of hx]
            with_reducible refine ret_ret (hF (Nat.le_refl _)) ?_
            simp -dsimp (discharger := omega) [g2, AHeap.read_of hx, zb]
            with_reducible refine ret_ret (hL (by omega)) ?_
            simp -dsimp (discharger := omega) [g2, AHeap.read_of hx]
            with_reducible refine ret_ret (hT (by omega)) ?_
            simp -dsimp (discharger := omega) []
          · have zd : decide (t.off = 0) = false := by simp [z0]
            have zb : (t.off == 0) = false := by simp [z0]
            simp -dsimp (discharger := omega) [g1, g2, g5, hr5, hr1, AHeap.read_of hx]
            with_reducible refine ret_ret (hF (Nat.le_refl _)) ?_
            simp -dsimp (discharger := omega) [g2, AHeap.read_of hx, zb]
            with_reducible refine ret_ret (hL (by omega)) ?_
            simp -dsimp (discharger := omega) [g2, AHeap.read_of hx]
            with_reducible refine ret_ret (hT (by omega)) ?_
            simp -dsimp (discharger := omega) []
  | @mk i6 o6 w6 k6 _ hr6 =>
    cases h8 with
    | nil =>
      cases h5 with
      | nil =>
        cases h1 with
        | nil =>
          try simp only [List.length_nil] at s5 s1
          try simp only [List.length_nil] at hr6
          simp -dsimp (discharger := omega) [g5, g6, g7, g8, g9, hb0, hr6]
          with_reducible refine ret_ret (s5 _) ?_
          simp -dsimp (discharger := omega) [g1]
          with_reducible refine ret_ret (s1 _) ?_
          by_cases z0 : t.off = 0
          · have zd : decide (t.off = 0) = true := by simp [z0]
            have zb : (t.off == 0) = true := by simp [z0]
            simp -dsimp (discharger := omega) [g1, g2, g5, AHeap.read_of hx]
            with_reducible refine ret_ret (hF (Nat.le_refl _)) ?_
            simp -dsimp (discharger := omega) [g2, AHeap.read_of hx, zb]
            with_reducible refine ret_ret (hL (by omega)) ?_
            simp -dsimp (discharger := omega) [g2, AHeap.read_of hx]
            with_reducible refine ret_ret (hT (by omega)) ?_
            simp -dsimp (discharger := omega) []
          · have zd : decide (t.off = 0) = false := by simp [z0]
            have zb : (t.off == 0) = false := by simp [z0]
            simp -dsimp (discharger := omega) [g1, g2, g5, AHeap.read_of hx]
            with_reducible refine ret_ret (hF (Nat.le_refl _)) ?_
            simp -dsimp (discharger := omega) [g2, AHeap.read_of hx, zb]
            with_reducible refine ret_ret (hL (by omega)) ?_
            simp -dsimp (discharger := omega) [g2, AHeap.read_of hx]
            with_reducible refine ret_ret (hT (by omega)) ?_
            simp -dsimp (discharger := omega) []
        | @mk i1 o1 w1 k1 _ hr1 =>
          try simp only [List.length_nil] at s5 s1
          try simp only [List.length_nil] at hr6
          try simp only [List.length_nil] at hr1
          simp -dsimp (discharger := omega) [g5, g6, g7, g8, g9, hb0, hr6]
          with_reducible refine ret_ret (s5 _) ?_
          simp -dsimp (discharger := omega) [g1]
          with_reducible refine ret_ret (s1 _) ?_
          by_cases z0 : t.off = 0
          · have zd : decide (t.off = 0) = true := by simp [z0]
            have zb : (t.off == 0) = true := by simp [z0]
            simp -dsimp (discharger := omega) [g1, g2, g5, hb0, hr1, AHeap.read_of hx]
            with_reducible refine ret_ret (hF (Nat.le_refl _)) ?_
            simp -dsimp (discharger := omega) [g2, AHeap.read_of hx, zb]
            with_reducible refine ret_ret (hL (by omega)) ?_
            simp -dsimp (discharger := omega) [g2, AHeap.read_of hx]
            with_reducible refine ret_ret (hT (by omega)) ?_
            simp -dsimp (discharger := omega) []
          · have zd : decide (t.off = 0) = false := by simp [z0]
            have zb : (t.off == 0) = false := by simp [z0]
            simp -dsimp (discharger := omega) [g1, g2, g5, hb0, hr1, AHeap.read_of hx]
            with_reducible refine ret_ret (hF (Nat.le_refl _)) ?_
            simp -dsimp (discharger := omega) [g2, AHeap.read_of hx, zb]
            with_reducible refine ret_ret (hL (by omega)) ?_
            simp -dsimp (discharger := omega) [g2, AHeap.read_of hx]
            with_reducible refine ret_ret (hT (by omega)) ?_
            simp -dsimp (discharger := omega) []
      | @mk i5 o5 w5 k5 _ hr5 =>
        cases h1 with
        | nil =>
          try simp only [List.length_nil] at s5 s1
          try simp only [List.length_nil] at hr6
          try simp only [List.length_nil] at hr5
          simp -dsimp (discharger := omega) [g5, g6, g7, g8, g9, hb0, hr6]
          with_reducible refine ret_ret (s5 _) ?_
          simp -dsimp (discharger := omega) [g1]
          with_reducible refine ret_ret (s1 _) ?_
          by_cases z0 : t.off = 0
          · have zd : decide (t.off = 0) = true := by simp [z0]
            have zb : (t.off == 0) = true := by simp [z0]
            simp -dsimp (discharger := omega) [g1, g2, g5, hb0, hr5, AHeap.read_of hx]
            with_reducible refine ret_ret (hF (Nat.le_refl _)) ?_
            simp -dsimp (discharger := omega) [g2, AHeap.read_of hx, zb]
            with_reducible refine ret_ret (hL (by omega)) ?_
            simp -dsimp (discharger := omega) [g2, AHeap.read_of hx]
            with_reducible refine ret_ret (hT (by omega)) ?_
            simp -dsimp (discharger := omega) []
          · have zd : decide (t.off = 0) = false := by simp [z0]
            have zb : (t.off == 0) = false := by simp [z0]
            simp -dsimp (discharger := omega) [g1, g2, g5, hb0, hr5, AHeap.read_of hx]
            with_reducible refine ret_ret (hF (Nat.le_refl _)) ?_
            simp -dsimp (discharger := omega) [g2, AHeap.read_of hx, zb]
            with_reducible refine ret_ret (hL (by omega)) ?_
            simp -dsimp (discharger := omega) [g2, AHeap.read_of hx]
            with_reducible refine ret_ret (hT (by omega)) ?_
            simp -dsimp (discharger := omega) []
        | @mk i1 o1 w1 k1 _ hr1 =>
          try simp only [List.length_nil] at s5 s1
          try simp only [List.length_nil] at hr6
          try simp only [List.length_nil] at hr5
          try simp only [List.length_nil] at hr1
          simp -dsimp (discharger := omega) [g5, g6, g7, g8, g9, hb0, hr6]
          with_reducible refine ret_ret (s5 _) ?_
          simp -dsimp (discharger := omega) [g1]
          with_reducible refine ret_ret (s1 _) ?_
          by_cases z0 : t.off = 0
          · have zd : decide (t.off = 0) = true := by simp [z0]
            have zb : (t.off == 0) = true := by simp [z0]
            simp -dsimp (discharger := omega) [g1, g2, g5, hr5, hr1, AHeap.read_of hx]
            with_reducible refine ret_ret (hF (Nat.le_refl _)) ?_
            simp -dsimp (discharger := omega) [g2, AHeap.read_of hx, zb]
            with_reducible refine ret_ret (hL (by omega)) ?_
            simp -dsimp (discharger := omega) [g2, AHeap.read_of hx]
            with_reducible refine ret_ret (hT (by omega)) ?_
            simp -dsimp (discharger := omega) []
          · have zd : decide (t.off = 0) = false := by simp [z0]
            have zb : (t.off == 0) = false := by simp [z0]
            simp -dsimp (discharger := omega) [g1, g2, g5, hr5, hr1, AHeap.read_of hx]
            with_reducible refine ret_ret (hF (Nat.le_refl _)) ?_
            simp -dsimp (discharger := omega) [g2, AHeap.read_of hx, zb]
            with_reducible refine ret_ret (hL (by omega)) ?_
            simp -dsimp (discharger := omega) [g2, AHeap.read_of hx]
            with_reducible refine ret_ret (hT (by omega)) ?_
            simp -dsimp (discharger := omega) []
    | @mk i8 o8 w8 k8 _ hr8 =>
      cases h5 with
      | nil =>
        cases h1 with
        | nil =>
          try simp only [List.length_nil] at s5 s1
          try simp only [List.length_nil] at hr6
          try simp only [List.length_nil] at hr8
          simp -dsimp (discharger := omega) [g5, g6, g7, g8, g9, hr6, hr8]
          with_reducible refine ret_ret (s5 _) ?_
          simp -dsimp (discharger := omega) [g1]
          with_reducible refine ret_ret (s1 _) ?_
          by_cases z0 : t.off = 0
          · have zd : decide (t.off = 0) = true := by simp [z0]
            have zb : (t.off == 0) = true := by simp [z0]
            simp -dsimp (discharger := omega) [g1, g2, g5, AHeap.read_of hx]
            with_reducible refine ret_ret (hF (Nat.le_refl _)) ?_
            simp -dsimp (discharger := omega) [g2, AHeap.read_of hx, zb]
            with_reducible refine ret_ret (hL (by omega)) ?_
            simp -dsimp (discharger := omega) [g2, AHeap.read_of hx]
            with_reducible refine ret_ret (hT (by omega)) ?_
            simp -dsimp (discharger := omega) []
          · have zd : decide (t.off = 0) = false := by simp [z0]
            have zb : (t.off == 0) = false := by simp [z0]
            simp -dsimp (discharger := omega) [g1, g2, g5, AHeap.read_of hx]
            with_reducible refine ret_ret (hF (Nat.le_refl _)) ?_
            simp -dsimp (discharger := omega) [g2, AHeap.read_of hx, zb]
            with_reducible refine ret_ret (hL (by omega)) ?_
            simp -dsimp (discharger := omega) [g2, AHeap.read_of hx]
            with_reducible refine ret_ret (hT (by omega)) ?_
            simp -dsimp (discharger := omega) []
        | @mk i1 o1 w1 k1 _ hr1 =>
          try simp only [List.length_nil] at s5 s1
          try simp only [List.length_nil] at hr6
          try simp only [List.length_nil] at hr8
          try simp only [List.length_nil] at hr1
          simp -dsimp (discharger := omega) [g5, g6, g7, g8, g9, hr6, hr8]
          with_reducible refine ret_ret (s5 _) ?_
          simp -dsimp (discharger := omega) [g1]
          with_reducible refine ret_ret (s1 _) ?_
          by_cases z0 : t.off = 0
          · have zd : decide (t.off = 0) = true := by simp [z0]
            have zb : (t.off == 0) = true := by simp [z0]
            simp -dsimp (discharger := omega) [g1, g2, g5, hb0, hr1, AHeap.read_of hx]
            with_reducible refine ret_ret (hF (Nat.le_refl _)) ?_
            simp -dsimp (discharger := omega) [g2, AHeap.read_of hx, zb]
            with_reducible refine ret_ret (hL (by omega)) ?_
            simp -dsimp (discharger := omega) [g2, AHeap.read_of hx]
            with_reducible refine ret_ret (hT (by omega)) ?_
            simp -dsimp (discharger := omega) []
          · have zd : decide (t.off = 0) = false := by simp [z0]
            have zb : (t.off == 0) = false := by simp [z0]
            simp -dsimp (discharger := omega) [g1, g2, g5, hb0, hr1, AHeap.read_of hx]
            with_reducible refine ret_ret (hF (Nat.le_refl _)) ?_
            simp -dsimp (discharger := omega) [g2, AHeap.read_of hx, zb]
            with_reducible refine ret_ret (hL (by omega)) ?_
            simp -dsimp (discharger := omega) [g2, AHeap.read_of hx]
            with_reducible refine ret_ret (hT (by omega)) ?_
            simp -dsimp (discharger := omega) []
      | @mk i5 o5 w5 k5 _ hr5 =>
        cases h1 with
        | nil =>
          try simp only [List.length_nil] at s5 s1
          try simp only [List.length_nil] at hr6
          try simp only [List.length_nil] at hr8
          try simp only [List.length_nil] at hr5
          simp -dsimp (discharger := omega) [g5, g6, g7, g8, g9, hr6, hr8]
          with_reducible refine ret_ret (s5 _) ?_
          simp -dsimp (discharger := omega) [g1]
          with_reducible refine ret_ret (s1 _) ?_
          by_cases z0 : t.off = 0
          · have zd : decide (t.off = 0) = true := by simp [z0]
            have zb : (t.off == 0) = true := by simp [z0]
            simp -dsimp (discharger := omega) [g1, g2, g5, hb0, hr5, AHeap.read_of hx]
            with_reducible refine ret_ret (hF (Nat.le_refl _)) ?_
            simp -dsimp (discharger := omega) [g2, AHeap.read_of hx, zb]
            with_reducible refine ret_ret (hL (by omega)) ?_
            simp -dsimp (discharger := omega) [g2, AHeap.read_of hx]
            with_reducible refine ret_ret (hT (by omega)) ?_
            simp -dsimp (discharger := omega) []
          · have zd : decide (t.off = 0) = false := by simp [z0]
            have zb : (t.off == 0) = false := by simp [z0]
            simp -dsimp (discharger := omega) [g1, g2, g5, hb0, hr5, AHeap.read_of hx]
            with_reducible refine ret_ret (hF (Nat.le_refl _)) ?_
            simp -dsimp (discharger := omega) [g2, AHeap.read_of hx, zb]
            with_reducible refine ret_ret (hL (by omega)) ?_
            simp -dsimp (discharger := omega) [g2, AHeap.read_of hx]
            with_reducible refine ret_ret (hT (by omega)) ?_
            simp -dsimp (discharger := omega) []
        | @mk i1 o1 w1 k1 _ hr1 =>
          try simp only [List.length_nil] at s5 s1
          try simp only [List.length_nil] at hr6
          try simp only [List.length_nil] at hr8
          try simp only [List.length_nil] at hr5
          try simp only [List.length_nil] at hr1
          simp -dsimp (discharger := omega) [g5, g6, g7, g8, g9, hr6, hr8]
          with_reducible refine ret_ret (s5 _) ?_
          simp -dsimp (discharger := omega) [g1]
          with_reducible refine ret_ret (s1 _) ?_
          by_cases z0 : t.off = 0
          · have zd : decide (t.off = 0) = true := by simp [z0]
            have zb : (t.off == 0) = true := by simp [z0]
            simp -dsimp (discharger := omega) [g1, g2, g5, hr5, hr1, AHeap.read_of hx]
            with_reducible refine ret_ret (hF (Nat.le_refl _)) ?_
            simp -dsimp (discharger := omega) [g2, AHeap.read_of hx, zb]
            with_reducible refine ret_ret (hL (by omega)) ?_
            simp -dsimp (discharger := omega) [g2, AHeap.read_of hx]
            with_reducible refine ret_ret (hT (by omega)) ?_
            simp -dsimp (discharger := omega) []
          · have zd : decide (t.off = 0) = false := by simp [z0]
            have zb : (t.off == 0) = false := by simp [z0]
            simp -dsimp (discharger := omega) [g1, g2, g5, hr5, hr1, AHeap.read_of hx]
            with_reducible refine ret_ret (hF (Nat.le_refl _)) ?_
            simp -dsimp (discharger := omega) [g2, AHeap.read_of hx, zb]
            with_reducible refine ret_ret (hL (by omega)) ?_
            simp -dsimp (discharger := omega) [g2, AHeap.read_of hx]
            with_reducible refine ret_ret (hT (by omega)) ?_
            simp -dsimp (discharger := omega) []
end
end Go.Proofs.YtiemkafpijhlmaaDoor.Am
namespace Go.Proofs.YtiemkafpijhlmaaDoor.Am
noncomputable section
/- THE LAW's WALK: heads laid; the first region. -/
def R50 (t : HdN) (h0 : AHeap) (p n : Nat) (os bs : List UInt8) (C : ACode) (Q : Ex → Fr → AHeap → Nat → Prop) : Prop :=
  ∀ (σ : Fr) (H : AHeap) (m : Nat) (o b : Value), σ.get 1 = some b → σ.get 2 = some (.pointer (some ⟨p, 0, some 11⟩)) → H.get p = some (.cells (some 47) [.int .u8 (t.tos : Int), .int .u8 (t.ttl : Int), .int .u8 (t.proto : Int), .int .u16 (t.id : Int), .bool t.evil, .bool t.df, .bool t.more, .int .i64 t.off, .int .u32 (t.src : Int), .int .u32 (t.dst : Int), o] 11) → BS H o (os.take 60) → BS H b (bs.take 300) → HSub h0 H → WF H m → n ≤ m → m ≤ n + 1 → wx EV06 C σ H m Q ⟨⟩
theorem bs_of {h : AHeap} {i o g k m : Nat} {vs : List UInt8} (hl : vs.length = m) (hr : h.read i g o m = some (u8s vs)) : BS h (.slice (some ⟨i, o, some g⟩) m k) vs := by subst hl; exact .mk hr
set_option maxHeartbeats 4000000 in
theorem r5_0 {t : HdN} {σ : Fr} {h0 h : AHeap} {n p : Nat} {o b : Value} {os bs : List UInt8} (hx : h.get p = some (.cells (some 47) [.int .u8 (t.tos : Int), .int .u8 (t.ttl : Int), .int .u8 (t.proto : Int), .int .u16 (t.id : Int), .bool t.evil, .bool t.df, .bool t.more, .int .i64 t.off, .int .u32 (t.src : Int), .int .u32 (t.dst : Int), o] 11)) (hpn : p < n) (hw0 : WF h0 p) (hs0 : HSub h0 h) (hw : WF h n) (ho : BS h0 o os) (hb : BS h0 b bs) (hbl : bs.length < 9223372036854775808) (hol : os.length < 9223372036854775808)
    (g1 : σ.get 1 = some b) (g2 : σ.get 2 = some (.pointer (some ⟨p, 0, some 11⟩))) {C : ACode} {Q : Ex → Fr → AHeap → Nat → Prop} (K : R50 t h0 p n os bs C Q) : wx EV06 R5_0 σ h n (kThen EV06 C Q ⟨⟩) ⟨⟩ := by
  have hfin : ∀ {X : AHeap} {v : Value}, HSub h0 X → HSub h0 (X.put p (.cells (some 47) [.int .u8 (t.tos : Int), .int .u8 (t.ttl : Int), .int .u8 (t.proto : Int), .int .u16 (t.id : Int), .bool t.evil, .bool t.df, .bool t.more, .int .i64 t.off, .int .u32 (t.src : Int), .int .u32 (t.dst : Int), v] 11)) := fun {X v} hs => hs.new hw0 (Nat.le_refl _) _
  obtain ⟨m, hm1, hm2, e60, htk⟩ : ∃ m, m ≤ os.length ∧ m ≤ 60 ∧ (if (60 : Int) < (os.length : Int) then (60 : Int) else (os.length : Int)) = (m : Int) ∧ os.take 60 = os.take m := by
    by_cases c : 60 < os.length
    · exact ⟨60, by omega, by omega, by rw [if_pos (by omega)]; rfl, rfl⟩
    · exact ⟨os.length, by omega, by omega, by rw [if_neg (by omega)], by rw [List.take_of_length_le (by omega), List.take_length]⟩
  obtain ⟨k, hk1, hk2, e300, hbk⟩ : ∃ m, m ≤ bs.length ∧ m ≤ 300 ∧ (if (300 : Int) < (bs.length : Int) then (300 : Int) else (bs.length : Int)) = (m : Int) ∧ bs.take 300 = bs.take m := by
    by_cases c : 300 < bs.length
    · exact ⟨300, by omega, by omega, by rw [if_pos (by omega)]; rfl, rfl⟩
    · exact ⟨bs.length, by omega, by omega, by rw [if_neg (by omega)], by rw [List.take_of_length_le (by omega), List.take_length]⟩
  cases ho with
  | nil =>
    cases hb with
    | nil =>
      simp -dsimp (discharger := omega) [g1, g2, AHeap.read_of hx, hx, aAppend, aElems]
      refine ⟨by omega, K _ _ _ _ _ rfl (by simp [g2]) (AHeap.get_put_same _ _ _) ?_ ?_ ?_ ?_ (by omega) (by omega)⟩
      · simpa using BS.nil
      · simpa using BS.nil
      · exact hfin hs0
      · exact (.of fun j hj => by simp (discharger := omega) [hw.none (i := j) (by omega)])
    | @mk ib ob wb kb _ hrB =>
      have rdB := bs_sub hrB (Nat.zero_le k) hk1
      simp only [Nat.add_zero, Nat.sub_zero, List.drop_zero] at rdB
      simp -dsimp (discharger := omega) [g1, g2, AHeap.read_of hx, hx, e300, aAppend, aElems]
      refine ⟨by omega, K _ _ _ _ _ rfl (by simp [g2]) (AHeap.get_put_same _ _ _) ?_ ?_ ?_ ?_ (by omega) (by omega)⟩
      · simpa using BS.nil
      · rw [hbk]; exact bs_of (by rw [List.length_take]; omega) (read_mono (hfin hs0) rdB)
      · exact hfin hs0
      · exact (.of fun j hj => by simp (discharger := omega) [hw.none (i := j) (by omega)])
  | @mk io oo wo ko _ hrO =>
    cases hos : os with
    | nil =>
      subst hos
      have rdO : h.read io wo oo 0 = some [] := by simpa using read_mono hs0 hrO
      cases hb with
      | nil =>
        simp -dsimp (discharger := omega) [g1, g2, AHeap.read_of hx, hx, rdO, aAppend, aElems]
        refine ⟨read_lt hw rdO, by omega, K _ _ _ _ _ rfl (by simp [g2]) (AHeap.get_put_same _ _ _) ?_ ?_ ?_ ?_ (by omega) (by omega)⟩
        · simpa using BS.nil
        · simpa using BS.nil
        · exact hfin hs0
        · exact (.of fun j hj => by simp (discharger := omega) [hw.none (i := j) (by omega)])
      | @mk ib ob wb kb _ hrB =>
        have rdB := bs_sub hrB (Nat.zero_le k) hk1
        simp only [Nat.add_zero, Nat.sub_zero, List.drop_zero] at rdB
        simp -dsimp (discharger := omega) [g1, g2, AHeap.read_of hx, hx, rdO, e300, aAppend, aElems]
        refine ⟨read_lt hw rdO, by omega, K _ _ _ _ _ rfl (by simp [g2]) (AHeap.get_put_same _ _ _) ?_ ?_ ?_ ?_ (by omega) (by omega)⟩
        · simpa using BS.nil
        · rw [hbk]; exact bs_of (by rw [List.length_take]; omega) (read_mono (hfin hs0) rdB)
        · exact hfin hs0
        · exact (.of fun j hj => by simp (discharger := omega) [hw.none (i := j) (by omega)])
    | cons c os' =>
      have hmp : 0 < m := by
        rw [hos] at e60 hm1
        simp only [List.length_cons] at e60
        split at e60 <;> omega
      have rdO := bs_sub (read_mono hs0 hrO) (Nat.zero_le m) hm1
      simp only [Nat.add_zero, Nat.sub_zero, List.drop_zero] at rdO
      cases hb with
      | nil =>
        simp -dsimp (discharger := omega) [g1, g2, AHeap.read_of hx, hx, e60, rdO, aAppend, aElems]
        refine ⟨read_lt hw rdO, by omega, K _ _ _ _ _ rfl (by simp [g2]) (AHeap.get_put_same _ _ _) ?_ ?_ ?_ ?_ (by omega) (by omega)⟩
        · rw [htk]; exact bs_of (by rw [List.length_take]; omega) (by rw [AHeap.read_of (by simp (discharger := omega); rfl)]; simp [hm1]; exact List.take_of_length_le (by simp; omega))
        · simpa using BS.nil
        · exact hfin (hs0.new hw0 (by omega) _)
        · exact (.of fun j hj => by simp (discharger := omega) [hw.none (i := j) (by omega)])
      | @mk ib ob wb kb _ hrB =>
        have rdB := bs_sub hrB (Nat.zero_le k) hk1
        simp only [Nat.add_zero, Nat.sub_zero, List.drop_zero] at rdB
        simp -dsimp (discharger := omega) [g1, g2, AHeap.read_of hx, hx, e60, rdO, e300, aAppend, aElems]
        refine ⟨read_lt hw rdO, by omega, K _ _ _ _ _ rfl (by simp [g2]) (AHeap.get_put_same _ _ _) ?_ ?_ ?_ ?_ (by omega) (by omega)⟩
        · rw [htk]; exact bs_of (by rw [List.length_take]; omega) (by rw [AHeap.read_of (by simp (discharger := omega); rfl)]; simp [hm1]; exact List.take_of_length_le (by simp; omega))
        · rw [hbk]; exact bs_of (by rw [List.length_take]; omega) (read_mono (hfin (hs0.new hw0 (by omega) _)) rdB)
        · exact hfin (hs0.new hw0 (by omega) _)
        · exact (.of fun j hj => by simp (discharger := omega) [hw.none (i := j) (by omega)])
end
end Go.Proofs.YtiemkafpijhlmaaDoor.Am
namespace Go.Proofs.YtiemkafpijhlmaaDoor.Am
noncomputable section
/- THE LAW's WALK: heads laid; the whole. -/
theorem append_fresh {h : AHeap} {n : Nat} {vs : List UInt8} {v : Value} (hv : aElems h 1 v = some (vs.length, u8s vs)) (hw : WF h n) (hlen : vs.length < 1000000000) {K : Option Value → AHeap → Nat → Prop} {t : Tok K}
    (hK : ∀ (w : Value) (H : AHeap) (m : Nat), BS H w vs → HSub h H → WF H m → n ≤ m → m ≤ n + 1 → K (some w) H m) : Runs (aAppend h n 5 1 1 (.slice none 0 0) v) n K t := by
  cases vs with
  | nil =>
    have := hK _ h n .nil (.refl _) hw (Nat.le_refl _) (by omega)
    simp [aAppend, hv]
    exact this
  | cons a vs =>
    have := hK (.slice (some ⟨n, 0, some (a :: vs).length⟩) (a :: vs).length 2) (h.put n (bufB (a :: vs) (a :: vs).length)) (n + 1) (bs_new (by simp) (Nat.le_refl _)) (.new (.refl _) hw (Nat.le_refl _) _) (.of fun j hj => by simp (discharger := omega) [hw.none (i := j) (by omega)]) (by omega) (by omega)
    simp only [List.length_cons] at hlen
    have h2 : 2 * (vs.length + 1) ≤ 281474976710656 := by omega
    simp [aAppend, hv, h2]
    simpa [bufB] using this
set_option maxHeartbeats 4000000 in
theorem puts_walk {t : HdN} {h : AHeap} {n : Nat} {o b : Value} {os bs : List UInt8} (ht : t.ok) (ho : BS h o os) (hb : BS h b bs) (hol : os.length < 9223372036854775808) (hbl : bs.length < 9223372036854775808) (hw : WF h n) (hp : HasPow h) (he : HasErrs h) (hn : 4096 ≤ n) :
    HasCall EV06 5 [hdV t o, b] h n fun v _ _ => v = .bool true := by
  have goal : HasCallT EV06 5 [hdV t o, b] h n (fun v _ _ => v = .bool true) ⟨⟩ := by
    obtain ⟨a1, k1, rfl⟩ := ho.shape
    obtain ⟨a2, k2, rfl⟩ := hb.shape
    with_reducible refine inl5 ?_
    simp -dsimp (discharger := omega) [B5, -wR5_0, -wR5_1]
    refine r5_0 (t := t) (h0 := h) (h := h.put n (.cells (some 47) [.int .u8 (t.tos : Int), .int .u8 (t.ttl : Int), .int .u8 (t.proto : Int), .int .u16 (t.id : Int), .bool t.evil, .bool t.df, .bool t.more, .int .i64 t.off, .int .u32 (t.src : Int), .int .u32 (t.dst : Int), .slice a1 os.length k1] 11)) (p := n) (os := os) (bs := bs) (AHeap.get_put_same _ _ _) (by omega) hw (.new (.refl _) hw (Nat.le_refl _) _) (.of fun j hj => by simp (discharger := omega) [hw.none (i := j) (by omega)]) ho hb hbl hol (by simp) (by simp) ?_
    intro σ H m o' b' g1 g2 hx hO hB hs hwm hm1 hm2
    have hol' : (os.take 60).length ≤ 60 := by rw [List.length_take]; omega
    have hbl' : (bs.take 300).length ≤ 300 := by rw [List.length_take]; omega
    generalize os.take 60 = os' at *
    generalize bs.take 300 = bs' at *
    obtain ⟨ao, ko, rfl⟩ := hO.shape
    simp -dsimp (discharger := omega) [g1, -wR5_1]
    refine append_fresh (vs := bs') hB.elems hwm (by omega) ?_
    intro c H2 m2 hC hs2 hw2 hm3 hm4
    have hx2 := hs2 _ _ hx
    have hO2 := BS.mono hs2 hO
    have hB2 := BS.mono hs2 hB
    have hp2 : HasPow H2 := hp.sub (hs.trans hs2)
    have he2 : HasErrs H2 := he.sub (hs.trans hs2)
    simp -dsimp (discharger := omega) [g2, AHeap.read_of hx2, -wR5_1]
    cases cb : putBad t os' bs'.length
    · with_reducible refine call_ret (put_ok ht hO2 hC hw2 (by omega) (by omega) cb) ?_
      have hs3 : HSub H2 (putsL H2 [(m2 + 5, bufB (putL t os' bs') (20 + os'.length))]) := .new (.refl _) hw2 (by omega) _
      have hw3 : WF (putsL H2 [(m2 + 5, bufB (putL t os' bs') (20 + os'.length))]) (m2 + 30) := .of fun j hj => by simp (discharger := omega) [hw2.none (i := j) (by omega)]
      have hq3 : (putsL H2 [(m2 + 5, bufB (putL t os' bs') (20 + os'.length))]).get (m2 + 5) = some (bufB (putL t os' bs') (20 + os'.length)) := AHeap.get_put_same _ _ _
      generalize putsL H2 [(m2 + 5, bufB (putL t os' bs') (20 + os'.length))] = H3 at *
      have hx3 := hs3 _ _ hx2
      have hLp : 20 + os'.length ≤ (putL t os' bs').length := by rw [putL, List.length_append, headL_len]; omega
      simp -dsimp (discharger := omega) [g2, AHeap.read_of hx3, -wR5_1]
      with_reducible refine call_ret (of_ret t hw3) ?_
      simp -dsimp (discharger := omega) [g1, -wR5_1]
      with_reducible refine call_ret (rput_ok ht (BS.mono hs3 hO2) (BS.mono hs3 hB2) (hw3.mono (Nat.le_add_right _ 2)) (by omega) (by omega) cb) ?_
      have hs4 : HSub H3 (putsL H3 [(m2 + 30 + 2 + 2, bufB (putL t os' bs') (20 + os'.length))]) := .new (.refl _) hw3 (by omega) _
      have hw4 : WF (putsL H3 [(m2 + 30 + 2 + 2, bufB (putL t os' bs') (20 + os'.length))]) (m2 + 62) := .of fun j hj => by simp (discharger := omega) [hw3.none (i := j) (by omega)]
      have hq4 : (putsL H3 [(m2 + 30 + 2 + 2, bufB (putL t os' bs') (20 + os'.length))]).get (m2 + 30 + 2 + 2) = some (bufB (putL t os' bs') (20 + os'.length)) := AHeap.get_put_same _ _ _
      generalize putsL H3 [(m2 + 30 + 2 + 2, bufB (putL t os' bs') (20 + os'.length))] = H4 at *
      have hs24 := hs3.trans hs4
      simp -dsimp (discharger := omega) [-wR5_1]
      refine r5_1 (e := 0) (t := t) (p := n) (ao := ao) (lo := os'.length) (ko := ko) (hs24 _ _ hx2) (by omega) (BS.mono hs4 (bs_new hq3 hLp)) (bs_new hq4 hLp) (BS.mono hs24 hC) (BS.mono hs24 hB2) (by omega) (by simp [g1]) (by simp [g2]) (by simp) (by simp) (by simp) (by simp) (by simp) (hw4.mono (by omega)) (hp2.sub hs24) (he2.sub hs24) (by omega)
    · with_reducible refine call_ret (put_bad ht hO2 hC hw2 (by omega) (by omega) cb) ?_
      simp -dsimp (discharger := omega) [g2, AHeap.read_of hx2, -wR5_1]
      with_reducible refine call_ret (of_ret t (hw2.mono (Nat.le_add_right m2 2))) ?_
      simp -dsimp (discharger := omega) [g1, -wR5_1]
      with_reducible refine call_ret (rput_bad ht hO2 hB2 (hw2.mono (Nat.le_add_right m2 (2 + 2))) (by omega) (by omega) cb) ?_
      simp -dsimp (discharger := omega) [-wR5_1]
      refine r5_1 (e := 1) (t := t) (p := n) (ao := ao) (lo := os'.length) (ko := ko) hx2 (by omega) .nil .nil hC hB2 (by omega) (by simp [g1]) (by simp [g2]) (by simp) (by simp) (by simp) (by simp) (by simp) (hw2.mono (by omega)) hp2 he2 (by omega)
  exact goal
end
end Go.Proofs.YtiemkafpijhlmaaDoor.Am
