/- Contracts of the program's functions (X5). -/
import Derived.Test.YtkdpjaaohddppaaDoorX4
namespace Go.Proofs.YtkdpjaaohddppaaDoor.Am
noncomputable section
/- CONTRACTS: buckets behind pointers. -/
def bktC (r b l : Nat) (a : Int) : List Value := [.float .f64 r, .float .f64 b, .float .f64 l, .int .i64 a]
def bktB (r b l : Nat) (a : Int) : Blk := .cells (some 26) (bktC r b l a) 4
def bktP (p : Nat) : Value := .pointer (some ⟨p, 0, some 4⟩)
theorem over3 {h : AHeap} {p : Nat} {A B X Y : Blk} (e : X = Y) : HSub (h.put p X) (((h.put p A).put p B).put p Y) := fun i c hi => by
  subst e
  simp only [AHeap.get_put] at hi ⊢
  by_cases hpi : p = i
  · rw [if_pos hpi] at hi ⊢; exact hi
  · rw [if_neg hpi] at hi; rw [if_neg hpi, if_neg hpi, if_neg hpi]; exact hi
set_option maxHeartbeats 1000000 in
theorem bclean_ret {r b l : Nat} (_hr : r < 18446744073709551616) (hb : b < 18446744073709551616) (hl : l < 18446744073709551616) {a : Int} {p : Nat} {h : AHeap} (hp : h.get p = some (bktB r b l a)) {n : Nat} (hpn : p < n) :
    Ret EV11 25 [bktP p] h n (.tuple #[]) [(p, bktB (fClean r) (fClean b) (min (fClean l) (fClean b)) a)] n := by
  refine rsx25 (by simp) (by simp [hp]) ?_
  have C := fun x H m => clean_ret x H m
  have c1 := (clean_le hb).1
  have c2 := (clean_le hl).1
  have hmn := min_pos c2 c1
  simp -dsimp (discharger := omega) [B25, bktP, AHeap.read_of hp, bktB, bktC]
  with_reducible refine ret_ret (C r _ _) ?_
  simp -dsimp (discharger := omega) [AHeap.read_of hp, bktB, bktC]
  with_reducible refine ret_ret (C b _ _) ?_
  simp -dsimp (discharger := omega) [hp, hpn, bktB, bktC]
  with_reducible refine ret_ret (C l _ _) ?_
  simp -dsimp (discharger := omega) [hmn, hpn]
  exact over3 rfl
end
end Go.Proofs.YtkdpjaaohddppaaDoor.Am
