/- Contracts and plain facts (L). -/
import Derived.Test.YtkdpjaaohddppaaGreatDoorE
namespace Go.Proofs.YtkdpjaaohddppaaGreatDoor.Am
noncomputable section
/- PLAIN FACTS FOR THE LIBRARY's CONTRACTS. -/
theorem wret_ex {E : Env} {f : Nat} {af : AFunc} {args : List Value} {h : AHeap} {n : Nat} {P : Value → Prop} {n' : Nat} (hf : E.fs f = some af) (ha : args.length ≤ af.ntmps)
    (hx : wx E af.body (argFr 0 args) h n (Done af.results (fun v1 h1 n1 => P v1 ∧ HSub h h1 ∧ n1 ≤ n')) ()) : ∃ v,P v ∧ Ret E f args h n v [] n' := by
  obtain ⟨e, σ',h1,n1,hb,he,vs,hvs,hP,hsub,hn⟩ := wx_big hx
  exact ⟨_,hP, .lift (.call hf ha hb he hvs hsub) hn,by simp,by simp⟩
theorem prim_indexByte {ps : List (Nat × Prim)} {f : Nat} (hf : lookF ps f = some .indexByte) {l : List UInt8} {c : UInt8} {h : AHeap} {n : Nat} : primOrc ps f [.string ⟨l.toArray⟩, .int .u8 (c.toNat : Int)] h n = some (.int .i64 (Lib.indexByte l c),h,n) := by
  have : c.toNat < 256 := UInt8.toNat_lt c
  simp only [primOrc,hf,Prim.ev]
  rw [if_pos (by omega)]
  simp
theorem orc_ret {fs : FT} {ps : List (Nat × Prim)} {f : Nat} {args : List Value} {h : AHeap} {n : Nat} {v : Value} {l : List (Nat × Blk)} {n' : Nat} (hp : primOrc ps f args h n = some (v,putsL h l,n')) (hn : n ≤ n') (hnd : (l.map (·.1)).Nodup) (hids : ∀ i,i ∈ l.map (·.1) → (h.get i).isSome ∨ n ≤ i ∧ i < n') : Ret (mkEnv fs ps).env f args h n v l n' := ⟨.orc hp hn,hnd,hids⟩
@[simp] theorem repeat_one (v : Value) : ∀ k : Nat,repeatCells [v] k = List.replicate k v
  | 0 => rfl
  | k + 1 => by simp [repeatCells,repeat_one v k,List.replicate_succ]
theorem take_snoc {α : Type} {l : List α} {j : Nat} {x : α} (h : l[j]? = some x) : l.take (j + 1) = l.take j ++ [x] := by
  obtain ⟨hlt,rfl⟩ := List.getElem?_eq_some_iff.1 h
  rw [List.take_succ_eq_append_getElem hlt]
end
end Go.Proofs.YtkdpjaaohddppaaGreatDoor.Am
