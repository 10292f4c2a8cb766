/- Contracts of the program's functions (Y2). -/
import Derived.Test.YtkdpjaaohddppaaGreatDoorY1
import Derived.Test.YtkdpjaaohddppaaGreatDoorK
namespace Go.Proofs.YtkdpjaaohddppaaGreatDoor.Am
noncomputable section
/- THE WALK of RateTells. -/
theorem wk61 {h : AHeap} {n : Nat} (hs : HSub hW61 h) (hw : WF h n) (hn : n ≤ 1000000000000000000000000) : Ret EV61 16 [] h n (.bool true) [] 1000000000000000000000084 := e_wk61_ok.ret (n := n) hn hs hw
set_option maxHeartbeats 1000000 in
theorem tells_walk {hG : AHeap} (g : GG hG) {x y : Nat} (hx : x < 18446744073709551616) (_hy : y < 18446744073709551616) (s : List UInt8) (hsl : s.length < 9223372036854775808) {n : Nat} (hw : WF hG n) (hn : 4096 ≤ n) (hn2 : n ≤ 1000000) :
    HasCallT EV61 3 [.int .u64 (x : Int), .int .u64 (y : Int), .string ⟨s.toArray⟩] hG n (fun v _ _ => v = .bool true) () := by
  with_reducible refine inl3 ?_
  obtain ⟨t,ht⟩ : ∃ t,t = s.take 900 := ⟨_,rfl⟩
  have htl : t.length ≤ 900 := by rw [ht,List.length_take]; omega
  obtain ⟨M1,M2,bits,e1,e2,h1,h2,h3,p1,p2⟩ := pf_two g (s := t) htl hw hn
  have ra := from61_ret x hG n
  have rb := from61_ret y hG n
  have rp := rparse_ret p1 htl (.refl _) hw (by omega) (by omega)
  have rq := refparse_ret p2 htl (.refl _) (hw.mono (by omega : n ≤ M1 + 6)) (by omega) (by omega)
  obtain ⟨v,hv⟩ : ∃ v,v = parseV t bits := ⟨_,rfl⟩
  obtain ⟨fb,ec,hvv⟩ : ∃ (fb : Nat) (ec : Int),v = .tuple #[.float .f64 fb, .int .i64 ec] := by
    rw [hv]; unfold parseV
    split
    · exact ⟨_,_,rfl⟩
    · split
      · split <;> exact ⟨_,_,rfl⟩
      · exact ⟨_,_,rfl⟩
  rw [← hv,hvv] at rp rq
  have hmin : (if (s.length : Int) < 900 then (s.length : Int) else 900) = (t.length : Int) := by
    rw [ht,List.length_take]; split <;> omega
  have hmin2 : (if (900 : Int) < (s.length : Int) then 900 else (s.length : Int)) = (t.length : Int) := by
    rw [ht,List.length_take]; split <;> omega
  have htt : s.take t.length = t := by
    rw [ht,List.length_take]
    rcases Nat.le_total s.length 900 with h | h
    · rw [Nat.min_eq_right h,List.take_length,List.take_of_length_le h]
    · rw [Nat.min_eq_left h]
  have hwM : WF hG (M2 + 6) := hw.mono (by omega)
  have r1 := less_ret x y hG (M2 + 6)
  have r2 := rless_ret x y hG (M2 + 6)
  have r3 := same_ret x y hG (M2 + 6)
  have r4 := rless_ret y x hG (M2 + 6)
  have r5 := clean_ret x hG (M2 + 6)
  have r6 := rclean_ret x hG (M2 + 6)
  have r7 := alike61_ret (fClean x) hG (M2 + 6)
  have r8 := text_ret hx hwM g.ft (by omega)
  have r9 := rtext_ret hx (hw.mono (by omega : n ≤ M2 + 6 + 3001)) g.ft (by omega)
  have r10 := alike61_ret fb hG (M2 + 6 + 3001 + 3001)
  have r11 := wk61 (n := M2 + 6 + 3001 + 3001) g.wk (hw.mono (by omega)) (by omega)
  generalize textV x = T at *
  generalize fClean x = cx at *
  generalize fLess x y = l1 at *
  generalize fLess y x = l2 at *
  clear p1 p2 hv hvv hw hwM
  simp -dsimp (discharger := omega) [B3]
  refine call_ret ra ?_
  simp -dsimp (discharger := omega) []
  refine call_ret rb ?_
  simp -dsimp (discharger := omega) []
  rw [hmin2,show ((t.length : Int)).toNat = t.length from by omega,htt]
  refine call_ret rp ?_
  simp -dsimp (discharger := omega) []
  refine call_ret rq ?_
  simp -dsimp (discharger := omega) []
  refine call_ret r1 ?_
  simp -dsimp (discharger := omega) []
  refine call_ret r2 ?_
  simp -dsimp (discharger := omega) []
  refine call_ret r3 ?_
  simp -dsimp (discharger := omega) []
  refine call_ret r2 ?_
  cases l1 with
  | true =>
    simp -dsimp (discharger := omega) []
    refine call_ret r5 ?_
    simp -dsimp (discharger := omega) []
    refine call_ret r6 ?_
    simp -dsimp (discharger := omega) []
    refine call_ret r7 ?_
    simp -dsimp (discharger := omega) []
    refine call_ret r8 ?_
    simp -dsimp (discharger := omega) []
    refine call_ret r9 ?_
    simp -dsimp (discharger := omega) []
    refine call_ret r10 ?_
    simp -dsimp (discharger := omega) []
    refine call_ret r11 ?_
    simp -dsimp (discharger := omega) []
  | false =>
    simp -dsimp (discharger := omega) []
    refine call_ret r4 ?_
    simp -dsimp (discharger := omega) []
    refine call_ret r5 ?_
    simp -dsimp (discharger := omega) []
    refine call_ret r6 ?_
    simp -dsimp (discharger := omega) []
    refine call_ret r7 ?_
    simp -dsimp (discharger := omega) []
    refine call_ret r8 ?_
    simp -dsimp (discharger := omega) []
    refine call_ret r9 ?_
    simp -dsimp (discharger := omega) []
    refine call_ret r10 ?_
    simp -dsimp (discharger := omega) []
    refine call_ret r11 ?_
    simp -dsimp (discharger := omega) []
end
end Go.Proofs.YtkdpjaaohddppaaGreatDoor.Am
