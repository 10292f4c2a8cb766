/- Contracts and plain facts (LV). -/
import Derived.Test.YtmkfjdajnamoaaaDoorLU
namespace Go.Proofs.YtmkfjdajnamoaaaDoor.Am
noncomputable section
/- CONTRACTS OF GO's LIBRARY: strings.ToUpper, strings.ToLower of ASCII. -/
def upis (c : UInt8) : Bool := decide (97 ≤ c.toNat) && decide (c.toNat ≤ 122)
def upc (c : UInt8) : UInt8 := if upis c then c - 32 else c
theorem upis_t {c : UInt8} (h1 : 97 ≤ c.toNat) (h2 : c.toNat ≤ 122) : upis c = true := by simp [upis, h1, h2]
theorem upis_f1 {c : UInt8} (h1 : ¬ 97 ≤ c.toNat) : upis c = false := by simp [upis, h1]
theorem upis_f2 {c : UInt8} (h1 : ¬ c.toNat ≤ 122) : upis c = false := by simp [upis, h1]
theorem up_skip {l : List UInt8} (h : ∀ x, x ∈ l → upis x = false) : l.map upc = l := by
  induction l with
  | nil => rfl
  | cons a l ih => rw [List.map_cons, ih fun x hx => h x (by simp [hx]), upc, h a (by simp)]; rfl
def upInv0 (l : List UInt8) (h0 : AHeap) (n0 : Nat) (r : Nat) (σ : Fr) (h : AHeap) (n : Nat) : Prop :=
  h = h0 ∧ n = n0 ∧ ∃ i, i + r = l.length ∧ σ = [(0, .string ⟨l.toArray⟩), (3, .bool true), (4, .bool ((l.take i).any upis)), (5, .int .i64 (i : Int))]
def upPost0 (l : List UInt8) (h0 : AHeap) (n0 : Nat) (e : Ex) (σ' : Fr) (h' : AHeap) (n' : Nat) : Prop :=
  h' = h0 ∧ n' = n0 ∧ e = .exit 0 ∧ σ'.get 0 = some (.string ⟨l.toArray⟩) ∧ σ'.get 3 = some (.bool true) ∧ σ'.get 4 = some (.bool (l.any upis))
theorem up_loop0 {l : List UInt8} (hl : l.length < 1000000) (ha : ∀ x, x ∈ l → x.toNat < 128) {h0 : AHeap} {n0 : Nat} :
    ∀ (r : Nat) (σ : Fr) (h : AHeap) (n : Nat), upInv0 l h0 n0 r σ h n → HasCode EV02 (.loop F32L0) σ h n (upPost0 l h0 n0) := by
  refine wx_inv _ fun r σ h n hI => ?_
  obtain ⟨rfl, rfl, i, hi, rfl⟩ := hI
  cases r with
  | zero =>
    obtain rfl : i = l.length := by omega
    simp -dsimp (discharger := omega) [F32L0]
    exact ⟨rfl, rfl, rfl, by simp, by simp, by simp⟩
  | succ r =>
    have hlt : i < l.length := by omega
    have hx := List.getElem?_eq_getElem hlt
    have hc := ha _ (List.getElem_mem hlt)
    generalize l[i] = c at hx hc
    have hany : (l.take (i + 1)).any upis = ((l.take i).any upis || upis c) := by rw [take_snoc hx, List.any_append]; simp
    have hend : ∀ {σ : Fr} {tk : Tok (upInv0 l h n)}, FSubL [(0, .string ⟨l.toArray⟩), (3, .bool true), (4, .bool ((l.take (i + 1)).any upis)), (5, .int .i64 ((i + 1 : Nat) : Int))] σ → Again (upInv0 l h n) (r + 1) σ h n tk := fun hs =>
      .mk' r (by omega) _ _ hs (.refl _) ⟨rfl, rfl, i + 1, by omega, rfl⟩
    generalize (l.take i).any upis = b at *
    cases b with
    | true =>
      simp -dsimp (discharger := omega) [F32L0, hx, -getElem?_pos]
      exact hend (by simp [hany])
    | false =>
      by_cases h1 : 97 ≤ c.toNat
      · by_cases h2 : c.toNat ≤ 122
        · have e := upis_t h1 h2
          simp -dsimp (discharger := omega) [F32L0, hx, -getElem?_pos]
          exact hend (by simp [hany, e])
        · have e := upis_f2 h2
          simp -dsimp (discharger := omega) [F32L0, hx, -getElem?_pos]
          exact hend (by simp [hany, e])
      · have e := upis_f1 h1
        simp -dsimp (discharger := omega) [F32L0, hx, -getElem?_pos]
        exact hend (by simp [hany, e])
def upInv1 (l : List UInt8) (h0 : AHeap) (n0 p : Nat) (r : Nat) (σ : Fr) (h : AHeap) (n : Nat) : Prop :=
  ∃ i k, i + r = l.length ∧ k ≤ i ∧ n ≤ n0 + 2 + i ∧ (∀ x, x ∈ (l.take i).drop k → upis x = false) ∧ BldO h0 n0 p ((l.take k).map upc) h n ∧ σ = [(0, .string ⟨l.toArray⟩), (7, .pointer (some ⟨p, 0, some 2⟩)), (8, .int .i64 (k : Int)), (9, .int .i64 (i : Int))]
def upPost1 (l : List UInt8) (h0 : AHeap) (n0 p : Nat) (e : Ex) (σ' : Fr) (h' : AHeap) (n' : Nat) : Prop :=
  e = .exit 2 ∧ n' ≤ n0 + 2 + l.length ∧ ∃ k, k ≤ l.length ∧ (∀ x, x ∈ l.drop k → upis x = false) ∧ BldO h0 n0 p ((l.take k).map upc) h' n' ∧ σ'.get 0 = some (.string ⟨l.toArray⟩) ∧ σ'.get 7 = some (.pointer (some ⟨p, 0, some 2⟩)) ∧ σ'.get 8 = some (.int .i64 (k : Int))
theorem up_loop1 {l : List UInt8} (hl : l.length < 100000) {h0 : AHeap} {n0 p : Nat} (hw0 : WF h0 n0) :
    ∀ (r : Nat) (σ : Fr) (h : AHeap) (n : Nat), upInv1 l h0 n0 p r σ h n → HasCode EV02 (.loop F32L1) σ h n (upPost1 l h0 n0 p) := by
  refine wx_inv _ fun r σ h n hI => ?_
  obtain ⟨i, k, hi, hki, hn, hf, hB, rfl⟩ := hI
  cases r with
  | zero =>
    obtain rfl : i = l.length := by omega
    rw [List.take_length] at hf
    simp -dsimp (discharger := omega) [F32L1]
    exact ⟨rfl, hn, k, hki, hf, hB, by simp, by simp, by simp⟩
  | succ r =>
    have hlt : i < l.length := by omega
    have hx := List.getElem?_eq_getElem hlt
    generalize l[i] = c at hx
    have hcl := c.toNat_lt
    have hno : upis c = false → ∀ x, x ∈ (l.take (i + 1)).drop k → upis x = false := fun e x hx' => by
      rw [take_snoc hx, List.drop_append_of_le_length (by simp; omega)] at hx'
      rcases List.mem_append.1 hx' with h | h
      · exact hf x h
      · simp at h; rw [h]; exact e
    have hskip : ∀ {σ : Fr} {tk : Tok (upInv1 l h0 n0 p)}, upis c = false → FSubL [(0, .string ⟨l.toArray⟩), (7, .pointer (some ⟨p, 0, some 2⟩)), (8, .int .i64 (k : Int)), (9, .int .i64 ((i + 1 : Nat) : Int))] σ → Again (upInv1 l h0 n0 p) (r + 1) σ h n tk := fun e hs =>
      .mk' r (by omega) _ _ hs (.refl _) ⟨i + 1, k, by omega, by omega, by omega, hno e, hB, rfl⟩
    by_cases h1 : 97 ≤ c.toNat
    · by_cases h2 : c.toNat ≤ 122
      · have e := upis_t h1 h2
        have ec : upc c = c - 32 := by rw [upc, e]; rfl
        have hop : (c.toNat : Int) - 32 = ((c - 32).toNat : Int) := by
          rw [UInt8.toNat_sub_of_le _ _ (by rw [UInt8.le_iff_toNat_le]; show 32 ≤ c.toNat; omega)]
          show _ = ((c.toNat - 32 : Nat) : Int)
          omega
        have hlen1 : ((l.take k).map upc).length = k := by simp; omega
        have hlen2 : ((l.take i).drop k).length = i - k := by simp; omega
        have hall : (l.take k).map upc ++ ((l.take i).drop k) ++ [c - 32] = (l.take (i + 1)).map upc := by
          have h3 : ((l.take i).drop k).map upc = (l.take i).drop k := up_skip hf
          have h4 : l.take i = l.take k ++ (l.take i).drop k := by
            have := List.take_append_drop k (l.take i)
            rw [List.take_take, Nat.min_eq_left hki] at this
            exact this.symm
          rw [take_snoc hx, List.map_append, h4, List.map_append, ← h4, h3]
          simp [ec]
        have hdone : ∀ {σ : Fr} {H : AHeap} {N : Nat} {tk : Tok (upInv1 l h0 n0 p)}, N ≤ n0 + 2 + (i + 1) → BldO h0 n0 p ((l.take (i + 1)).map upc) H N → FSubL [(0, .string ⟨l.toArray⟩), (7, .pointer (some ⟨p, 0, some 2⟩)), (8, .int .i64 ((i + 1 : Nat) : Int)), (9, .int .i64 ((i + 1 : Nat) : Int))] σ → Again (upInv1 l h0 n0 p) (r + 1) σ H N tk := fun hN hB hs =>
          .mk' r (by omega) _ _ hs (.refl _) ⟨i + 1, i + 1, by omega, by omega, hN, fun x hx' => by
            rw [List.drop_of_length_le (by simp; omega)] at hx'; simp at hx', hB, rfl⟩
        generalize c - 32 = d at hop hall
        by_cases hk : k < i
        · simp -dsimp (discharger := omega) [F32L1, hx, hop, -getElem?_pos]
          refine bldO_string hw0 hB _ (by rw [hlen1, hlen2]; omega) fun v g hB => ?_
          simp -dsimp (discharger := omega) []
          refine bldO_byte hw0 hB (by rw [List.length_append, hlen1, hlen2]; omega) _ fun v g2 hB => ?_
          simp -dsimp (discharger := omega) []
          rw [hall] at hB
          exact hdone (by omega) hB (by simp)
        · obtain rfl : k = i := by omega
          have hnil : (l.take k).drop k = [] := List.drop_of_length_le (by simp; omega)
          rw [hnil, List.append_nil] at hall
          simp -dsimp (discharger := omega) [F32L1, hx, hop, -getElem?_pos]
          refine bldO_byte hw0 hB (by rw [hlen1]; omega) _ fun v g2 hB => ?_
          simp -dsimp (discharger := omega) []
          rw [hall] at hB
          exact hdone (by omega) hB (by simp)
      · have e := upis_f2 h2
        simp -dsimp (discharger := omega) [F32L1, hx, -getElem?_pos]
        exact hskip e (by simp)
    · have e := upis_f1 h1
      simp -dsimp (discharger := omega) [F32L1, hx, -getElem?_pos]
      exact hskip e (by simp)
theorem up_ret {l : List UInt8} (hl : l.length < 100000) (ha : ∀ x, x ∈ l → x.toNat < 128) {h : AHeap} {n : Nat} (hw : WF h n) : Ret EV02 32 [.string ⟨l.toArray⟩] h n (.string ⟨(l.map upc).toArray⟩) [] (n + 3 + l.length) := by
  refine rsx32 (by simp) (by simp) ?_
  simp -dsimp (discharger := omega) [B32]
  refine loop_use (up_loop0 (l := l) (by omega) ha (h0 := h) (n0 := n) l.length [(0, .string ⟨l.toArray⟩), (3, .bool true), (4, .bool ((l.take 0).any upis)), (5, .int .i64 ((0 : Nat) : Int))] _ _ ⟨rfl, rfl, 0, by omega, rfl⟩) (by simp) (.refl _) ?_
  rintro e σ' h' n' ⟨rfl, rfl, rfl, e0, e3, e4⟩
  by_cases hany : l.any upis = true
  · have hpos : 0 < l.length := by
      cases l with
      | nil => cases hany
      | cons a l => simp
    rw [hany] at e4
    simp -dsimp (discharger := omega) [e0, e3, e4]
    refine bldO_grow hw ((HSub.refl h').new hw (Nat.le_refl n') _) (hw.put (m := n' + 1) _ (by omega) (by omega)) (Nat.le_refl n') (by omega) (AHeap.get_put_same _ _ _) (by omega) (by omega) fun g hB => ?_
    simp -dsimp (discharger := omega) []
    refine loop_use (up_loop1 (l := l) hl (h0 := h') (n0 := n') (p := n') hw l.length [(0, .string ⟨l.toArray⟩), (7, .pointer (some ⟨n', 0, some 2⟩)), (8, .int .i64 ((0 : Nat) : Int)), (9, .int .i64 ((0 : Nat) : Int))] _ _ ⟨0, 0, by omega, by omega, by omega, fun x hx => by simp at hx, hB, rfl⟩) (by simp [e0]) (.refl _) ?_
    clear hB
    rintro e σ2 g2 n2 ⟨rfl, hn2, k, hk, hf, hB, f0, f7, f8⟩
    have hlen1 : ((l.take k).map upc).length = k := by simp; omega
    have hne : l.map upc ≠ [] := by
      intro e
      have : (l.map upc).length = 0 := by rw [e]; rfl
      rw [List.length_map] at this; omega
    have hfull : (l.take k).map upc ++ l.drop k = l.map upc := by
      have h3 : (l.drop k).map upc = l.drop k := up_skip hf
      have h4 := List.take_append_drop k l
      have h5 : l.map upc = (l.take k ++ l.drop k).map upc := by rw [h4]
      rw [h5, List.map_append, h3]
    by_cases hkl : k < l.length
    · simp -dsimp (discharger := omega) [f0, f7, f8]
      refine bldO_string hw hB _ (by rw [hlen1, List.length_drop]; omega) fun v g3 hB => ?_
      rw [hfull] at hB
      obtain ⟨hs, hwf, hp0, hpn, q, m, hq0, hqp, hqn, hm, hp, hq⟩ := hB
      simp -dsimp (discharger := omega) [f7]
      with_reducible refine call_ret (string_ret hp hq hm hne (by simp; omega) hwf) ?_
      simp -dsimp (discharger := omega) []
      exact ⟨hs.new hw hq0 _, by omega⟩
    · obtain rfl : k = l.length := by omega
      rw [List.drop_length, List.append_nil] at hfull
      rw [hfull] at hB
      obtain ⟨hs, hwf, hp0, hpn, q, m, hq0, hqp, hqn, hm, hp, hq⟩ := hB
      simp -dsimp (discharger := omega) [f0, f7, f8]
      with_reducible refine call_ret (string_ret hp hq hm hne (by simp; omega) hwf) ?_
      simp -dsimp (discharger := omega) []
      exact ⟨hs.new hw hq0 _, by omega⟩
  · have hf : l.any upis = false := by simpa using hany
    have hid : l.map upc = l := up_skip fun x hx => by
      cases e : upis x with
      | false => rfl
      | true => exact absurd (List.any_eq_true.2 ⟨x, hx, e⟩) (by rw [hf]; decide)
    rw [hf] at e4
    simp -dsimp (discharger := omega) [e0, e3, e4]
    exact ⟨by rw [hid], .refl _, by omega⟩
def lois (c : UInt8) : Bool := decide (65 ≤ c.toNat) && decide (c.toNat ≤ 90)
def loc (c : UInt8) : UInt8 := if lois c then c + 32 else c
theorem lois_t {c : UInt8} (h1 : 65 ≤ c.toNat) (h2 : c.toNat ≤ 90) : lois c = true := by simp [lois, h1, h2]
theorem lois_f1 {c : UInt8} (h1 : ¬ 65 ≤ c.toNat) : lois c = false := by simp [lois, h1]
theorem lois_f2 {c : UInt8} (h1 : ¬ c.toNat ≤ 90) : lois c = false := by simp [lois, h1]
theorem lo_skip {l : List UInt8} (h : ∀ x, x ∈ l → lois x = false) : l.map loc = l := by
  induction l with
  | nil => rfl
  | cons a l ih => rw [List.map_cons, ih fun x hx => h x (by simp [hx]), loc, h a (by simp)]; rfl
def loInv0 (l : List UInt8) (h0 : AHeap) (n0 : Nat) (r : Nat) (σ : Fr) (h : AHeap) (n : Nat) : Prop :=
  h = h0 ∧ n = n0 ∧ ∃ i, i + r = l.length ∧ σ = [(0, .string ⟨l.toArray⟩), (3, .bool true), (4, .bool ((l.take i).any lois)), (5, .int .i64 (i : Int))]
def loPost0 (l : List UInt8) (h0 : AHeap) (n0 : Nat) (e : Ex) (σ' : Fr) (h' : AHeap) (n' : Nat) : Prop :=
  h' = h0 ∧ n' = n0 ∧ e = .exit 0 ∧ σ'.get 0 = some (.string ⟨l.toArray⟩) ∧ σ'.get 3 = some (.bool true) ∧ σ'.get 4 = some (.bool (l.any lois))
theorem lo_loop0 {l : List UInt8} (hl : l.length < 1000000) (ha : ∀ x, x ∈ l → x.toNat < 128) {h0 : AHeap} {n0 : Nat} :
    ∀ (r : Nat) (σ : Fr) (h : AHeap) (n : Nat), loInv0 l h0 n0 r σ h n → HasCode EV02 (.loop F33L0) σ h n (loPost0 l h0 n0) := by
  refine wx_inv _ fun r σ h n hI => ?_
  obtain ⟨rfl, rfl, i, hi, rfl⟩ := hI
  cases r with
  | zero =>
    obtain rfl : i = l.length := by omega
    simp -dsimp (discharger := omega) [F33L0]
    exact ⟨rfl, rfl, rfl, by simp, by simp, by simp⟩
  | succ r =>
    have hlt : i < l.length := by omega
    have hx := List.getElem?_eq_getElem hlt
    have hc := ha _ (List.getElem_mem hlt)
    generalize l[i] = c at hx hc
    have hany : (l.take (i + 1)).any lois = ((l.take i).any lois || lois c) := by rw [take_snoc hx, List.any_append]; simp
    have hend : ∀ {σ : Fr} {tk : Tok (loInv0 l h n)}, FSubL [(0, .string ⟨l.toArray⟩), (3, .bool true), (4, .bool ((l.take (i + 1)).any lois)), (5, .int .i64 ((i + 1 : Nat) : Int))] σ → Again (loInv0 l h n) (r + 1) σ h n tk := fun hs =>
      .mk' r (by omega) _ _ hs (.refl _) ⟨rfl, rfl, i + 1, by omega, rfl⟩
    generalize (l.take i).any lois = b at *
    cases b with
    | true =>
      simp -dsimp (discharger := omega) [F33L0, hx, -getElem?_pos]
      exact hend (by simp [hany])
    | false =>
      by_cases h1 : 65 ≤ c.toNat
      · by_cases h2 : c.toNat ≤ 90
        · have e := lois_t h1 h2
          simp -dsimp (discharger := omega) [F33L0, hx, -getElem?_pos]
          exact hend (by simp [hany, e])
        · have e := lois_f2 h2
          simp -dsimp (discharger := omega) [F33L0, hx, -getElem?_pos]
          exact hend (by simp [hany, e])
      · have e := lois_f1 h1
        simp -dsimp (discharger := omega) [F33L0, hx, -getElem?_pos]
        exact hend (by simp [hany, e])
def loInv1 (l : List UInt8) (h0 : AHeap) (n0 p : Nat) (r : Nat) (σ : Fr) (h : AHeap) (n : Nat) : Prop :=
  ∃ i k, i + r = l.length ∧ k ≤ i ∧ n ≤ n0 + 2 + i ∧ (∀ x, x ∈ (l.take i).drop k → lois x = false) ∧ BldO h0 n0 p ((l.take k).map loc) h n ∧ σ = [(0, .string ⟨l.toArray⟩), (7, .pointer (some ⟨p, 0, some 2⟩)), (8, .int .i64 (k : Int)), (9, .int .i64 (i : Int))]
def loPost1 (l : List UInt8) (h0 : AHeap) (n0 p : Nat) (e : Ex) (σ' : Fr) (h' : AHeap) (n' : Nat) : Prop :=
  e = .exit 2 ∧ n' ≤ n0 + 2 + l.length ∧ ∃ k, k ≤ l.length ∧ (∀ x, x ∈ l.drop k → lois x = false) ∧ BldO h0 n0 p ((l.take k).map loc) h' n' ∧ σ'.get 0 = some (.string ⟨l.toArray⟩) ∧ σ'.get 7 = some (.pointer (some ⟨p, 0, some 2⟩)) ∧ σ'.get 8 = some (.int .i64 (k : Int))
theorem lo_loop1 {l : List UInt8} (hl : l.length < 100000) {h0 : AHeap} {n0 p : Nat} (hw0 : WF h0 n0) :
    ∀ (r : Nat) (σ : Fr) (h : AHeap) (n : Nat), loInv1 l h0 n0 p r σ h n → HasCode EV02 (.loop F33L1) σ h n (loPost1 l h0 n0 p) := by
  refine wx_inv _ fun r σ h n hI => ?_
  obtain ⟨i, k, hi, hki, hn, hf, hB, rfl⟩ := hI
  cases r with
  | zero =>
    obtain rfl : i = l.length := by omega
    rw [List.take_length] at hf
    simp -dsimp (discharger := omega) [F33L1]
    exact ⟨rfl, hn, k, hki, hf, hB, by simp, by simp, by simp⟩
  | succ r =>
    have hlt : i < l.length := by omega
    have hx := List.getElem?_eq_getElem hlt
    generalize l[i] = c at hx
    have hcl := c.toNat_lt
    have hno : lois c = false → ∀ x, x ∈ (l.take (i + 1)).drop k → lois x = false := fun e x hx' => by
      rw [take_snoc hx, List.drop_append_of_le_length (by simp; omega)] at hx'
      rcases List.mem_append.1 hx' with h | h
      · exact hf x h
      · simp at h; rw [h]; exact e
    have hskip : ∀ {σ : Fr} {tk : Tok (loInv1 l h0 n0 p)}, lois c = false → FSubL [(0, .string ⟨l.toArray⟩), (7, .pointer (some ⟨p, 0, some 2⟩)), (8, .int .i64 (k : Int)), (9, .int .i64 ((i + 1 : Nat) : Int))] σ → Again (loInv1 l h0 n0 p) (r + 1) σ h n tk := fun e hs =>
      .mk' r (by omega) _ _ hs (.refl _) ⟨i + 1, k, by omega, by omega, by omega, hno e, hB, rfl⟩
    by_cases h1 : 65 ≤ c.toNat
    · by_cases h2 : c.toNat ≤ 90
      · have e := lois_t h1 h2
        have ec : loc c = c + 32 := by rw [loc, e]; rfl
        have hop : (c.toNat : Int) + 32 = ((c + 32).toNat : Int) := by
          rw [UInt8.toNat_add]
          show _ = (((c.toNat + 32) % 256 : Nat) : Int)
          omega
        have hlen1 : ((l.take k).map loc).length = k := by simp; omega
        have hlen2 : ((l.take i).drop k).length = i - k := by simp; omega
        have hall : (l.take k).map loc ++ ((l.take i).drop k) ++ [c + 32] = (l.take (i + 1)).map loc := by
          have h3 : ((l.take i).drop k).map loc = (l.take i).drop k := lo_skip hf
          have h4 : l.take i = l.take k ++ (l.take i).drop k := by
            have := List.take_append_drop k (l.take i)
            rw [List.take_take, Nat.min_eq_left hki] at this
            exact this.symm
          rw [take_snoc hx, List.map_append, h4, List.map_append, ← h4, h3]
          simp [ec]
        have hdone : ∀ {σ : Fr} {H : AHeap} {N : Nat} {tk : Tok (loInv1 l h0 n0 p)}, N ≤ n0 + 2 + (i + 1) → BldO h0 n0 p ((l.take (i + 1)).map loc) H N → FSubL [(0, .string ⟨l.toArray⟩), (7, .pointer (some ⟨p, 0, some 2⟩)), (8, .int .i64 ((i + 1 : Nat) : Int)), (9, .int .i64 ((i + 1 : Nat) : Int))] σ → Again (loInv1 l h0 n0 p) (r + 1) σ H N tk := fun hN hB hs =>
          .mk' r (by omega) _ _ hs (.refl _) ⟨i + 1, i + 1, by omega, by omega, hN, fun x hx' => by
            rw [List.drop_of_length_le (by simp; omega)] at hx'; simp at hx', hB, rfl⟩
        generalize c + 32 = d at hop hall
        by_cases hk : k < i
        · simp -dsimp (discharger := omega) [F33L1, hx, hop, -getElem?_pos]
          refine bldO_string hw0 hB _ (by rw [hlen1, hlen2]; omega) fun v g hB => ?_
          simp -dsimp (discharger := omega) []
          refine bldO_byte hw0 hB (by rw [List.length_append, hlen1, hlen2]; omega) _ fun v g2 hB => ?_
          simp -dsimp (discharger := omega) []
          rw [hall] at hB
          exact hdone (by omega) hB (by simp)
        · obtain rfl : k = i := by omega
          have hnil : (l.take k).drop k = [] := List.drop_of_length_le (by simp; omega)
          rw [hnil, List.append_nil] at hall
          simp -dsimp (discharger := omega) [F33L1, hx, hop, -getElem?_pos]
          refine bldO_byte hw0 hB (by rw [hlen1]; omega) _ fun v g2 hB => ?_
          simp -dsimp (discharger := omega) []
          rw [hall] at hB
          exact hdone (by omega) hB (by simp)
      · have e := lois_f2 h2
        simp -dsimp (discharger := omega) [F33L1, hx, -getElem?_pos]
        exact hskip e (by simp)
    · have e := lois_f1 h1
      simp -dsimp (discharger := omega) [F33L1, hx, -getElem?_pos]
      exact hskip e (by simp)
theorem lo_ret {l : List UInt8} (hl : l.length < 100000) (ha : ∀ x, x ∈ l → x.toNat < 128) {h : AHeap} {n : Nat} (hw : WF h n) : Ret EV02 33 [.string ⟨l.toArray⟩] h n (.string ⟨(l.map loc).toArray⟩) [] (n + 3 + l.length) := by
  refine rsx33 (by simp) (by simp) ?_
  simp -dsimp (discharger := omega) [B33]
  refine loop_use (lo_loop0 (l := l) (by omega) ha (h0 := h) (n0 := n) l.length [(0, .string ⟨l.toArray⟩), (3, .bool true), (4, .bool ((l.take 0).any lois)), (5, .int .i64 ((0 : Nat) : Int))] _ _ ⟨rfl, rfl, 0, by omega, rfl⟩) (by simp) (.refl _) ?_
  rintro e σ' h' n' ⟨rfl, rfl, rfl, e0, e3, e4⟩
  by_cases hany : l.any lois = true
  · have hpos : 0 < l.length := by
      cases l with
      | nil => cases hany
      | cons a l => simp
    rw [hany] at e4
    simp -dsimp (discharger := omega) [e0, e3, e4]
    refine bldO_grow hw ((HSub.refl h').new hw (Nat.le_refl n') _) (hw.put (m := n' + 1) _ (by omega) (by omega)) (Nat.le_refl n') (by omega) (AHeap.get_put_same _ _ _) (by omega) (by omega) fun g hB => ?_
    simp -dsimp (discharger := omega) []
    refine loop_use (lo_loop1 (l := l) hl (h0 := h') (n0 := n') (p := n') hw l.length [(0, .string ⟨l.toArray⟩), (7, .pointer (some ⟨n', 0, some 2⟩)), (8, .int .i64 ((0 : Nat) : Int)), (9, .int .i64 ((0 : Nat) : Int))] _ _ ⟨0, 0, by omega, by omega, by omega, fun x hx => by simp at hx, hB, rfl⟩) (by simp [e0]) (.refl _) ?_
    clear hB
    rintro e σ2 g2 n2 ⟨rfl, hn2, k, hk, hf, hB, f0, f7, f8⟩
    have hlen1 : ((l.take k).map loc).length = k := by simp; omega
    have hne : l.map loc ≠ [] := by
      intro e
      have : (l.map loc).length = 0 := by rw [e]; rfl
      rw [List.length_map] at this; omega
    have hfull : (l.take k).map loc ++ l.drop k = l.map loc := by
      have h3 : (l.drop k).map loc = l.drop k := lo_skip hf
      have h4 := List.take_append_drop k l
      have h5 : l.map loc = (l.take k ++ l.drop k).map loc := by rw [h4]
      rw [h5, List.map_append, h3]
    by_cases hkl : k < l.length
    · simp -dsimp (discharger := omega) [f0, f7, f8]
      refine bldO_string hw hB _ (by rw [hlen1, List.length_drop]; omega) fun v g3 hB => ?_
      rw [hfull] at hB
      obtain ⟨hs, hwf, hp0, hpn, q, m, hq0, hqp, hqn, hm, hp, hq⟩ := hB
      simp -dsimp (discharger := omega) [f7]
      with_reducible refine call_ret (string_ret hp hq hm hne (by simp; omega) hwf) ?_
      simp -dsimp (discharger := omega) []
      exact ⟨hs.new hw hq0 _, by omega⟩
    · obtain rfl : k = l.length := by omega
      rw [List.drop_length, List.append_nil] at hfull
      rw [hfull] at hB
      obtain ⟨hs, hwf, hp0, hpn, q, m, hq0, hqp, hqn, hm, hp, hq⟩ := hB
      simp -dsimp (discharger := omega) [f0, f7, f8]
      with_reducible refine call_ret (string_ret hp hq hm hne (by simp; omega) hwf) ?_
      simp -dsimp (discharger := omega) []
      exact ⟨hs.new hw hq0 _, by omega⟩
  · have hf : l.any lois = false := by simpa using hany
    have hid : l.map loc = l := lo_skip fun x hx => by
      cases e : lois x with
      | false => rfl
      | true => exact absurd (List.any_eq_true.2 ⟨x, hx, e⟩) (by rw [hf]; decide)
    rw [hf] at e4
    simp -dsimp (discharger := omega) [e0, e3, e4]
    exact ⟨by rw [hid], .refl _, by omega⟩
end
end Go.Proofs.YtmkfjdajnamoaaaDoor.Am
