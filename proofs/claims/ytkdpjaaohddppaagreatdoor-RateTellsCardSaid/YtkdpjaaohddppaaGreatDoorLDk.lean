/- Contracts and plain facts (LDk). -/
import Derived.Test.YtkdpjaaohddppaaGreatDoorLDc
import Derived.Test.YtkdpjaaohddppaaGreatDoorE
namespace Go.Proofs.YtkdpjaaohddppaaGreatDoor.Am
noncomputable section
/- THE CELLS OF A DECIMAL: 800 digits,how many,the point,two flags. -/
def decL (ds : List UInt8) (nd dp : Int) (neg tr : Bool) : List Value := u8s ds ++ [.int .i64 nd, .int .i64 dp, .bool neg, .bool tr]
theorem u8s_len (ds : List UInt8) : (u8s ds).length = ds.length := by simp [u8s]
theorem decL_len {ds : List UInt8} (h : ds.length = 800) (nd dp : Int) (neg tr : Bool) : (decL ds nd dp neg tr).length = 804 := by
  unfold decL; rw [List.length_append,u8s_len,h]; rfl
theorem u8s_at {ds : List UInt8} {i : Nat} {c : UInt8} (hi : ds[i]? = some c) : (u8s ds)[i]? = some (.int .u8 (c.toNat : Int)) := by
  unfold u8s; rw [List.getElem?_map,hi]; rfl
theorem take1_at {l : List Value} {i : Nat} {v : Value} (h : l[i]? = some v) : List.take 1 (List.drop i l) = [v] := by
  obtain ⟨hl,rfl⟩ := List.getElem?_eq_some_iff.1 h
  rw [List.drop_eq_getElem_cons hl,List.take_succ_cons,List.take_zero]
theorem decL_at {ds : List UInt8} {nd dp : Int} {neg tr : Bool} {i : Nat} {c : UInt8} (hi : ds[i]? = some c) : List.take 1 (List.drop i (decL ds nd dp neg tr)) = [.int .u8 (c.toNat : Int)] := by
  refine take1_at ?_
  have h := u8s_at hi
  have hl := (List.getElem?_eq_some_iff.1 h).1
  unfold decL
  rw [List.getElem?_append_left hl]; exact h
theorem decL_fld {ds : List UInt8} (h : ds.length = 800) {nd dp : Int} {neg tr : Bool} {j : Nat} {v : Value} (hv : [Value.int .i64 nd, .int .i64 dp, .bool neg, .bool tr][j]? = some v) : List.take 1 (List.drop (800 + j) (decL ds nd dp neg tr)) = [v] := by
  refine take1_at ?_
  unfold decL
  rw [List.getElem?_append_right (by rw [u8s_len,h]; omega),u8s_len,h,show 800 + j - 800 = j by omega]; exact hv
theorem set_eq' {l : List Value} {i : Nat} (hi : i < l.length) (v : Value) : List.take i l ++ v :: List.drop (i + 1) l = l.set i v := by
  rw [List.set_eq_take_append_cons_drop,if_pos hi]
theorem decL_put {ds : List UInt8} (h : ds.length = 800) {nd dp : Int} {neg tr : Bool} {i : Nat} (hi : i < 800) (c : UInt8) : List.take i (decL ds nd dp neg tr) ++ .int .u8 (c.toNat : Int) :: List.drop (i + 1) (decL ds nd dp neg tr) = decL (ds.set i c) nd dp neg tr := by
  rw [set_eq' (by rw [decL_len h]; omega)]
  unfold decL
  rw [List.set_append_left _ _ (by rw [u8s_len,h]; exact hi)]
  congr 1
  simp [u8s,List.map_set]
theorem decL_set {ds : List UInt8} (h : ds.length = 800) {nd dp : Int} {neg tr : Bool} {j : Nat} (hj : j < 4) (v : Value) : List.take (800 + j) (decL ds nd dp neg tr) ++ v :: List.drop (800 + j + 1) (decL ds nd dp neg tr) = u8s ds ++ [Value.int .i64 nd, .int .i64 dp, .bool neg, .bool tr].set j v := by
  rw [set_eq' (by rw [decL_len h]; omega)]
  unfold decL
  rw [List.set_append_right _ _ (by rw [u8s_len,h]; omega),u8s_len,h,show 800 + j - 800 = j by omega]
theorem decL_put800 {ds : List UInt8} (h : ds.length = 800) {nd dp z : Int} {neg tr : Bool} : List.take 800 (decL ds nd dp neg tr) ++ .int .i64 z :: List.drop 801 (decL ds nd dp neg tr) = decL ds z dp neg tr := decL_set h (j := 0) (by omega) _
theorem decL_put801 {ds : List UInt8} (h : ds.length = 800) {nd dp z : Int} {neg tr : Bool} : List.take 801 (decL ds nd dp neg tr) ++ .int .i64 z :: List.drop 802 (decL ds nd dp neg tr) = decL ds nd z neg tr := decL_set h (j := 1) (by omega) _
theorem decL_put802 {ds : List UInt8} (h : ds.length = 800) {nd dp : Int} {neg tr b : Bool} : List.take 802 (decL ds nd dp neg tr) ++ .bool b :: List.drop 803 (decL ds nd dp neg tr) = decL ds nd dp b tr := decL_set h (j := 2) (by omega) _
theorem decL_put803 {ds : List UInt8} (h : ds.length = 800) {nd dp : Int} {neg tr b : Bool} : List.take 803 (decL ds nd dp neg tr) ++ .bool b :: List.drop 804 (decL ds nd dp neg tr) = decL ds nd dp neg b := decL_set h (j := 3) (by omega) _
theorem decL_800 {ds : List UInt8} (h : ds.length = 800) {nd dp : Int} {neg tr : Bool} : List.take 1 (List.drop 800 (decL ds nd dp neg tr)) = [.int .i64 nd] := decL_fld h (j := 0) rfl
theorem decL_801 {ds : List UInt8} (h : ds.length = 800) {nd dp : Int} {neg tr : Bool} : List.take 1 (List.drop 801 (decL ds nd dp neg tr)) = [.int .i64 dp] := decL_fld h (j := 1) rfl
theorem decL_802 {ds : List UInt8} (h : ds.length = 800) {nd dp : Int} {neg tr : Bool} : List.take 1 (List.drop 802 (decL ds nd dp neg tr)) = [.bool neg] := decL_fld h (j := 2) rfl
theorem decL_803 {ds : List UInt8} (h : ds.length = 800) {nd dp : Int} {neg tr : Bool} : List.take 1 (List.drop 803 (decL ds nd dp neg tr)) = [.bool tr] := decL_fld h (j := 3) rfl
structure DOk (ds : List UInt8) (nd : Nat) : Prop where
  len : ds.length = 800
  one : 1 ≤ nd
  le : nd ≤ 800
  dig : ∀ i c,i < nd → ds[i]? = some c → isD c = true
  top : ds[0]? ≠ some 48
theorem DOk.get {ds : List UInt8} {nd i : Nat} (x : DOk ds nd) (hi : i < nd) : ∃ c,ds[i]? = some c ∧ isD c = true := by
  have hl := x.len
  have hle := x.le
  exact ⟨_,List.getElem?_eq_getElem (by omega),x.dig i _ hi (List.getElem?_eq_getElem (by omega))⟩
theorem DOk.less {ds : List UInt8} {nd r : Nat} (x : DOk ds nd) (h1 : 1 ≤ r) (h2 : r ≤ nd) : DOk ds r := ⟨x.len,h1,by have := x.le; omega,fun i c hi => x.dig i c (by omega),x.top⟩
/- Reading digits from the top. -/
theorem take_dig {ds : List UInt8} {nd r : Nat} (x : DOk ds nd) (hr : r ≤ nd) : (ds.take r).all isD = true := by
  refine List.all_eq_true.2 fun c hc => ?_
  obtain ⟨i,hi⟩ := List.mem_iff_getElem?.1 hc
  rw [List.getElem?_take] at hi
  split at hi
  · exact x.dig i c (by omega) hi
  · cases hi
end
end Go.Proofs.YtkdpjaaohddppaaGreatDoor.Am
