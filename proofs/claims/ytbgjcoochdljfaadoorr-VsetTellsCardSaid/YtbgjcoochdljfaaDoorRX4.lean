/- Contracts of the program's functions (X4). -/
import Derived.Test.YtbgjcoochdljfaaDoorRX3
import Derived.Test.YtbgjcoochdljfaaDoorRE
namespace Go.Proofs.YtbgjcoochdljfaaDoorR.Am
noncomputable section
/- CONTRACTS: a set of some numbers. -/
def intL (ns : List Int) : List Value := ns.map fun z => .int .i64 z
@[simp] theorem intL_len (ns : List Int) : (intL ns).length = ns.length := by simp [intL]
def ofN (ns : List Int) : Nat := ns.foldl (fun N z => N ||| rng z z) 0
theorem ofN_snoc (ns : List Int) (z : Int) : ofN (ns ++ [z]) = ofN ns ||| rng z z := by simp [ofN]
def OfInv (ns : List Int) (v : Value) (i j : Nat) (h0 : AHeap) (n0 r : Nat) (σ : Fr) (h : AHeap) (n : Nat) : Prop :=
  ∃ k : Nat, k + r = ns.length ∧ n = n0 + 10 * k ∧ h = h0.put i (.cells (some 26) (wv (ofN (ns.take k))) 64) ∧ σ = [(2, .pointer (some ⟨j, 0, some 64⟩)), (3, .pointer (some ⟨i, 0, some 64⟩)), (6, v), (7, .int .i64 (ns.length : Int)), (8, .int .i64 (k : Int))]
def OfPost (ns : List Int) (i j : Nat) (h0 : AHeap) (n0 : Nat) (e : Ex) (σ' : Fr) (h' : AHeap) (n' : Nat) : Prop :=
  n' = n0 + 10 * ns.length ∧ h' = h0.put i (.cells (some 26) (wv (ofN ns)) 64) ∧ e = .exit 0 ∧ σ'.get 2 = some (.pointer (some ⟨j, 0, some 64⟩)) ∧ σ'.get 3 = some (.pointer (some ⟨i, 0, some 64⟩))
theorem of_loop {ns : List Int} (hl : ns.length < 1000) (hz : ∀ z ∈ ns, -9223372036854775808 ≤ z ∧ z < 9223372036854775808) {v : Value} {i j : Nat} {h0 : AHeap} {n0 : Nat} (hw : WF h0 n0) (hi : i < n0)
    (hr : 0 < ns.length → ∃ q o g k2, v = .slice (some ⟨q, o, some g⟩) ns.length k2 ∧ ∀ b, (h0.put i b).read q g o ns.length = some (intL ns)) :
    ∀ (m : Nat) (σ : Fr) (h : AHeap) (n : Nat), OfInv ns v i j h0 n0 m σ h n → HasCode EV14 (.loop F15L0) σ h n (OfPost ns i j h0 n0) := by
  refine wx_inv _ fun m σ h n hI => ?_
  obtain ⟨k, hk, rfl, rfl, rfl⟩ := hI
  cases m with
  | zero =>
    have e : ns.take k = ns := List.take_of_length_le (by omega)
    rw [e]
    obtain rfl : k = ns.length := by omega
    simp -dsimp (discharger := omega) [F15L0]
    exact ⟨rfl, rfl, rfl, rfl, rfl⟩
  | succ m =>
    have hlt : k < ns.length := by omega
    obtain ⟨z, hx⟩ : ∃ z, ns[k]? = some z := ⟨_, List.getElem?_eq_getElem hlt⟩
    have hzm := hz z (List.mem_of_getElem? hx)
    obtain ⟨q, o, g, k2, rfl, hrr⟩ := hr (by omega)
    have hr1 := read_one (hrr (.cells (some 26) (wv (ofN (ns.take k))) 64)) (show (intL ns)[k]? = some (.int .i64 z) by simp [intL, hx]) hlt
    have hs : ofN (ns.take (k + 1)) = ofN (ns.take k) ||| rng z z := by
      rw [List.take_add_one, hx, ← ofN_snoc]; rfl
    have hc := with_ret (ofN (ns.take k)) hzm.1 hzm.2 hzm.1 hzm.2 (hw.put (.cells (some 26) (wv (ofN (ns.take k))) 64) (i := i) (m := n0 + 10 * k) (by omega) (by omega))
    rw [← hs] at hc
    simp -dsimp (discharger := omega) [F15L0, hr1, take_wv]
    with_reducible refine call_ret hc ?_
    simp -dsimp (discharger := omega) [drop_wv]
    exact .mk' m (by omega) [(2, .pointer (some ⟨j, 0, some 64⟩)), (3, .pointer (some ⟨i, 0, some 64⟩)), (6, .slice (some ⟨q, o, some g⟩) ns.length k2), (7, .int .i64 (ns.length : Int)), (8, .int .i64 ((k + 1 : Nat) : Int))] (h0.put i (.cells (some 26) (wv (ofN (ns.take (k + 1)))) 64)) (by simp) (put_over _ _ _ _) ⟨k + 1, by omega, by omega, rfl, rfl⟩
theorem of_ret {ns : List Int} (hl : ns.length < 1000) (hz : ∀ z ∈ ns, -9223372036854775808 ≤ z ∧ z < 9223372036854775808) {q o k2 g : Nat} {h : AHeap} {n : Nat} (hw : WF h n) (hr : h.read q g o ns.length = some (intL ns)) :
    Ret EV14 15 [.slice (some ⟨q, o, some g⟩) ns.length k2] h n (.agg (wv (ofN ns)).toArray) [] (n + 2 + 10 * ns.length) := by
  have hr' : ∀ b c, ((h.put n b).put (n + 1) c).read q g o ns.length = some (intL ns) := fun b c => read_mono (((HSub.refl h).new hw (Nat.le_refl n) b).new hw (Nat.le_succ n) c) hr
  refine rsx15 (by simp) (by simp) ?_
  simp -dsimp (discharger := omega) [B15, -List.reduceReplicate, ← wv_zero]
  refine loop_use (of_loop (i := n + 1) (j := n) (v := .slice (some ⟨q, o, some g⟩) ns.length k2) (h0 := h.put n (.cells (some 26) (wv 0) 64)) (n0 := n + 2) hl hz (hw.put _ (by omega) (by omega)) (by omega) (fun _ => ⟨_, _, _, _, rfl, hr' _⟩) ns.length _ _ _ ⟨0, by omega, rfl, rfl, rfl⟩) (by simp) (.refl _) ?_
  rintro e σ' h' n' ⟨rfl, rfl, rfl, g1, g2⟩
  simp -dsimp (discharger := omega) [g1, g2, take_wv, drop_wv]
  refine ((HSub.refl h).new hw ?_ _ |>.new hw ?_ _).new hw ?_ _ <;> omega
theorem of_nil {k2 : Nat} {h : AHeap} {n : Nat} (hw : WF h n) : Ret EV14 15 [.slice none 0 k2] h n (.agg (wv 0).toArray) [] (n + 2) := by
  refine rsx15 (by simp) (by simp) ?_
  simp -dsimp (discharger := omega) [B15, -List.reduceReplicate, ← wv_zero]
  refine loop_use (of_loop (i := n + 1) (j := n) (v := .slice none 0 k2) (ns := []) (h0 := h.put n (.cells (some 26) (wv 0) 64)) (n0 := n + 2) (by decide) (by simp) (hw.put _ (by omega) (by omega)) (by omega) (fun x => by simp at x) 0 _ _ _ ⟨0, rfl, rfl, rfl, rfl⟩) (by simp) (.refl _) ?_
  rintro e σ' h' n' ⟨rfl, rfl, rfl, g1, g2⟩
  simp -dsimp (discharger := omega) [g1, g2, take_wv, drop_wv, ofN]
  refine ((HSub.refl h).new hw ?_ _ |>.new hw ?_ _).new hw ?_ _ <;> omega
end
end Go.Proofs.YtbgjcoochdljfaaDoorR.Am
