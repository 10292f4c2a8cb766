/- The functions of the program, printed by a program of ours as code of the abstract machine (F); that they are is proved in the next text. -/
import Derived.Test.YtkdpjaaohddppaaDoorD
namespace Go.Proofs.YtkdpjaaohddppaaDoor.Am
noncomputable section
def R3_0 : ACode := .region [⟨(some 68), (.fieldAddr 1 (.t 10)), none, []⟩,
    ⟨(some 69), (.load none (.t 68)), none, [0]⟩,
    ⟨(some 70), (.call (.f 14) [(.t 7), (.t 69)]), none, [1]⟩,
    ⟨(some 71), (.fieldAddr 2 (.t 8)), none, []⟩,
    ⟨(some 72), (.load none (.t 71)), none, [3]⟩,
    ⟨(some 73), (.call (.f 13) [(.t 70), (.t 72)]), none, [2, 4, 2]⟩,
    ⟨(some 12), (.mov (.t 73)), none, [5, 5, 0, 1, 2, 3, 4, 5]⟩] (some [(0, 3), (1, 3), (2, 3), (0, 4), (1, 4), (2, 4)])
/-- toll/tolllaw11.RateBuckets -/
def F3L0 : ACode := (.seq (.region [⟨(some 33), (.bin .lss (.t 32) (.t 31)), none, []⟩] none)
  (.seq (.cond (.t 33)
  .skip
  (.exit 0))
  (.seq (.block 1 (.seq (.region [⟨(some 34), (.mov (.t 32)), none, []⟩,
    ⟨(some 35), (.indexAddr 3 (.t 30) (.t 32)), none, []⟩,
    ⟨(some 36), (.load (some 3) (.t 35)), none, []⟩,
    ⟨(some 10), (.alloc 32 [(.int .i64 0), (.int .i64 0), (.int .u64 0)]), none, []⟩,
    ⟨(some 9), (.mov (.t 34)), none, []⟩,
    ⟨none, (.store 3 (.t 10) (.t 36)), none, []⟩] none)
  (.seq (.seq (.region [⟨(some 37), (.mov (.t 9)), none, []⟩,
    ⟨(some 38), (.bin .eql (.t 37) (.c (.int .i64 60))), none, []⟩] none)
  (.cond (.t 38)
  (.exit 0)
  .skip))
  (.seq (.region [⟨(some 39), (.fieldAddr 2 (.t 10)), none, []⟩,
    ⟨(some 40), (.load none (.t 39)), none, []⟩,
    ⟨(some 41), (.call (.f 8) [(.t 40)]), none, []⟩,
    ⟨(some 11), (.mov (.t 41)), none, []⟩] none)
  (.seq (.region [⟨(some 12), (.mov (.c (.bool true))), none, []⟩] none)
  (.seq (.seq (.region [⟨(some 42), (.fieldAddr 0 (.t 10)), none, []⟩,
    ⟨(some 43), (.load none (.t 42)), none, []⟩] none)
  (.block 2 (.seq (.region [⟨(some 45), (.bin .eql (.t 43) (.c (.int .i64 0))), none, []⟩,
    ⟨(some 44), (.mov (.t 45)), none, []⟩] none)
  (.cond (.t 44)
  (.seq (.region [⟨(some 46), (.fieldAddr 1 (.t 10)), none, []⟩,
    ⟨(some 47), (.load none (.t 46)), none, []⟩,
    ⟨(some 48), (.mov (.t 11)), none, []⟩,
    ⟨(some 49), (.call (.f 10) [(.t 7), (.t 47), (.t 48)]), none, []⟩,
    ⟨(some 13), (.mov (.t 49)), none, []⟩] none)
  (.seq (.region [⟨(some 51), (.load (some 4) (.t 8)), none, []⟩,
    ⟨(some 52), (.fieldAddr 1 (.t 10)), none, []⟩,
    ⟨(some 53), (.load none (.t 52)), none, []⟩,
    ⟨(some 54), (.mov (.t 11)), none, []⟩,
    ⟨(some 55), (.call (.f 11) [(.t 51), (.t 53), (.t 54)]), none, []⟩,
    ⟨(some 50), (.mov (.t 55)), none, []⟩,
    ⟨(some 56), (.extract (.t 50) 0), none, []⟩,
    ⟨(some 57), (.extract (.t 50) 1), none, []⟩,
    ⟨(some 14), (.alloc 29 [(.float .f64 0), (.float .f64 0), (.float .f64 0), (.int .i64 0)]), none, []⟩,
    ⟨none, (.store 4 (.t 14) (.t 56)), none, []⟩,
    ⟨(some 15), (.mov (.t 57)), none, []⟩] none)
  (.seq (.region [⟨(some 58), (.load (some 4) (.t 14)), none, []⟩,
    ⟨none, (.store 4 (.t 8) (.t 58)), none, []⟩] none)
  (.region [⟨(some 59), (.mov (.t 13)), none, []⟩,
    ⟨(some 60), (.mov (.t 15)), none, []⟩,
    ⟨(some 61), (.eqv false .bool false (.t 59) (.t 60)), none, []⟩,
    ⟨(some 12), (.mov (.t 61)), none, []⟩] none))))
  (.seq (.region [⟨(some 63), (.bin .eql (.t 43) (.c (.int .i64 1))), none, []⟩,
    ⟨(some 62), (.mov (.t 63)), none, []⟩] none)
  (.cond (.t 62)
  (.seq (.region [⟨(some 64), (.load (some 4) (.t 8)), none, []⟩,
    ⟨(some 65), (.fieldAddr 1 (.t 10)), none, []⟩,
    ⟨(some 66), (.load none (.t 65)), none, []⟩,
    ⟨(some 67), (.call (.f 12) [(.t 64), (.t 66)]), none, []⟩,
    ⟨none, (.store 4 (.t 8) (.t 67)), none, []⟩] none)
  R3_0)
  (.seq (.region [⟨(some 75), (.bin .eql (.t 43) (.c (.int .i64 2))), none, []⟩,
    ⟨(some 74), (.mov (.t 75)), none, []⟩] none)
  (.cond (.t 74)
  (.seq (.region [⟨(some 77), (.mov (.t 11)), none, []⟩,
    ⟨(some 78), (.call (.f 15) [(.t 7), (.t 77)]), none, []⟩,
    ⟨(some 76), (.mov (.t 78)), none, []⟩,
    ⟨(some 79), (.extract (.t 76) 0), none, []⟩,
    ⟨(some 80), (.extract (.t 76) 1), none, []⟩,
    ⟨(some 16), (.mov (.t 79)), none, []⟩,
    ⟨(some 17), (.mov (.t 80)), none, []⟩] none)
  (.seq (.region [⟨(some 82), (.load (some 4) (.t 8)), none, []⟩,
    ⟨(some 83), (.mov (.t 11)), none, []⟩,
    ⟨(some 84), (.call (.f 16) [(.t 82), (.t 83)]), none, []⟩,
    ⟨(some 81), (.mov (.t 84)), none, []⟩,
    ⟨(some 85), (.extract (.t 81) 0), none, []⟩,
    ⟨(some 86), (.extract (.t 81) 1), none, []⟩,
    ⟨(some 18), (.mov (.t 85)), none, []⟩,
    ⟨(some 19), (.mov (.t 86)), none, []⟩] none)
  (.region [⟨(some 87), (.mov (.t 16)), none, []⟩,
    ⟨(some 88), (.mov (.t 18)), none, []⟩,
    ⟨(some 89), (.bin .eql (.t 87) (.t 88)), none, []⟩,
    ⟨(some 90), (.mov (.t 89)), none, []⟩,
    ⟨(some 91), (.mov (.t 17)), (some (90, true)), []⟩,
    ⟨(some 92), (.mov (.t 19)), (some (90, true)), []⟩,
    ⟨(some 93), (.eqv false .bool false (.t 91) (.t 92)), (some (90, true)), []⟩,
    ⟨(some 94), (.pick (.t 90) (.t 93) (.c (.bool false))), none, []⟩,
    ⟨(some 12), (.mov (.t 94)), none, []⟩] none)))
  (.seq (.region [⟨(some 96), (.bin .eql (.t 43) (.c (.int .i64 3))), none, []⟩,
    ⟨(some 95), (.mov (.t 96)), none, []⟩] none)
  (.cond (.t 95)
  (.region [⟨(some 97), (.mov (.t 11)), none, []⟩,
    ⟨(some 98), (.mov (.t 11)), none, []⟩,
    ⟨(some 99), (.fieldAddr 0 (.t 7)), none, []⟩,
    ⟨none, (.store 1 (.t 99) (.t 97)), none, []⟩,
    ⟨(some 100), (.fieldAddr 0 (.t 8)), none, []⟩,
    ⟨none, (.store 1 (.t 100) (.t 98)), none, []⟩] none)
  (.seq (.region [⟨(some 102), (.bin .eql (.t 43) (.c (.int .i64 4))), none, []⟩,
    ⟨(some 101), (.mov (.t 102)), none, []⟩] none)
  (.cond (.t 101)
  (.region [⟨(some 103), (.mov (.t 11)), none, []⟩,
    ⟨(some 104), (.mov (.t 11)), none, []⟩,
    ⟨(some 105), (.fieldAddr 1 (.t 7)), none, []⟩,
    ⟨none, (.store 1 (.t 105) (.t 103)), none, []⟩,
    ⟨(some 106), (.fieldAddr 1 (.t 8)), none, []⟩,
    ⟨none, (.store 1 (.t 106) (.t 104)), none, []⟩] none)
  (.seq (.region [⟨(some 108), (.bin .eql (.t 43) (.c (.int .i64 5))), none, []⟩,
    ⟨(some 107), (.mov (.t 108)), none, []⟩] none)
  (.cond (.t 107)
  (.region [⟨(some 109), (.mov (.t 11)), none, []⟩,
    ⟨(some 110), (.mov (.t 11)), none, []⟩,
    ⟨(some 111), (.fieldAddr 2 (.t 7)), none, []⟩,
    ⟨none, (.store 1 (.t 111) (.t 109)), none, []⟩,
    ⟨(some 112), (.fieldAddr 2 (.t 8)), none, []⟩,
    ⟨none, (.store 1 (.t 112) (.t 110)), none, []⟩] none)
  .skip))))))))))))))
  (.seq (.region [⟨(some 113), (.mov (.t 12)), none, []⟩,
    ⟨(some 114), (.un .not (.t 113)), none, []⟩,
    ⟨(some 115), (.mov (.t 114)), none, []⟩,
    ⟨(some 116), (.load (some 4) (.t 7)), (some (115, false)), []⟩,
    ⟨(some 117), (.load (some 4) (.t 8)), (some (115, false)), []⟩,
    ⟨(some 118), (.call (.f 17) [(.t 116), (.t 117)]), (some (115, false)), []⟩,
    ⟨(some 119), (.un .not (.t 118)), (some (115, false)), []⟩,
    ⟨(some 120), (.pick (.t 115) (.c (.bool true)) (.t 119)), none, []⟩] none)
  (.cond (.t 120)
  (.seq (.region [⟨(some 6), (.mov (.c (.bool false))), none, []⟩] none)
  .ret)
  .skip))))))))
  (.region [⟨(some 121), (.bin .add (.t 32) (.c (.int .i64 1))), none, []⟩,
    ⟨(some 32), (.mov (.t 121)), none, []⟩] none))))
def B3 : ACode := (.seq (.region [⟨(some 6), (.mov (.c (.bool false))), none, []⟩] none)
  (.seq (.region [⟨(some 20), (.mov (.t 0)), none, []⟩,
    ⟨(some 21), (.call (.f 8) [(.t 20)]), none, []⟩,
    ⟨(some 22), (.mov (.t 1)), none, []⟩,
    ⟨(some 23), (.call (.f 8) [(.t 22)]), none, []⟩,
    ⟨(some 24), (.call (.f 7) [(.t 21), (.t 23), (.c (.int .i64 0))]), none, []⟩,
    ⟨(some 7), (.alloc 26 [(.float .f64 0), (.float .f64 0), (.float .f64 0), (.int .i64 0)]), none, []⟩,
    ⟨none, (.store 4 (.t 7) (.t 24)), none, []⟩] none)
  (.seq (.region [⟨(some 25), (.mov (.t 0)), none, []⟩,
    ⟨(some 26), (.call (.f 8) [(.t 25)]), none, []⟩,
    ⟨(some 27), (.mov (.t 1)), none, []⟩,
    ⟨(some 28), (.call (.f 8) [(.t 27)]), none, []⟩,
    ⟨(some 29), (.call (.f 9) [(.t 26), (.t 28), (.c (.int .i64 0))]), none, []⟩,
    ⟨(some 8), (.alloc 29 [(.float .f64 0), (.float .f64 0), (.float .f64 0), (.int .i64 0)]), none, []⟩,
    ⟨none, (.store 4 (.t 8) (.t 29)), none, []⟩] none)
  (.seq (.seq (.region [⟨(some 30), (.mov (.t 2)), none, []⟩,
    ⟨(some 31), (.lenSlice (.t 30)), none, []⟩,
    ⟨(some 32), (.mov (.c (.int .i64 0))), none, []⟩] none)
  (.block 0 (.loop F3L0)))
  (.seq (.region [⟨(some 122), (.call (.f 18) []), none, []⟩,
    ⟨(some 6), (.mov (.t 122)), none, []⟩] none)
  .ret)))))
def F3 : AFunc := ⟨3, 123, [(.tmp 6)], B3⟩
-- F3L0 live: [7, 8, 30, 31, 32]
def R4_0 : ACode := .region [⟨(some 16), (.indexArr 1 3 (.t 2) (.c (.int .i64 0))), none, []⟩,
    ⟨(some 17), (.load none (.t 16)), none, [0]⟩,
    ⟨(some 18), (.indexArr 1 3 (.t 2) (.c (.int .i64 1))), none, []⟩,
    ⟨(some 19), (.load none (.t 18)), none, [2]⟩,
    ⟨(some 20), (.indexArr 1 3 (.t 2) (.c (.int .i64 2))), none, []⟩,
    ⟨(some 21), (.load none (.t 20)), none, [4]⟩,
    ⟨(some 5), (.mov (.t 17)), none, [1, 0, 1]⟩,
    ⟨(some 6), (.mov (.t 19)), none, [3, 6, 0, 1, 2, 3, 6]⟩,
    ⟨(some 7), (.mov (.t 21)), none, [5, 7, 0, 1, 2, 3, 4, 5, 6, 7]⟩] (some [(0, 2), (1, 2), (0, 3), (1, 3), (0, 4), (1, 4), (2, 4), (3, 4), (0, 5), (1, 5), (2, 5), (3, 5), (2, 6), (3, 6), (4, 6), (5, 6), (4, 7), (5, 7)])
def R4_1 : ACode := .region [⟨(some 64), (.load (some 4) (.t 10)), none, []⟩,
    ⟨(some 65), (.load (some 4) (.t 10)), none, []⟩,
    ⟨(some 14), (.alloc 26 [(.float .f64 0), (.float .f64 0), (.float .f64 0), (.int .i64 0)]), none, []⟩,
    ⟨(some 15), (.alloc 26 [(.float .f64 0), (.float .f64 0), (.float .f64 0), (.int .i64 0)]), none, []⟩,
    ⟨none, (.store 4 (.t 14) (.t 64)), none, [2, 0, 0, 2, 3]⟩,
    ⟨none, (.store 4 (.t 15) (.t 65)), none, [3, 1, 4, 0, 1, 2, 3, 4]⟩] (some [(0, 1), (0, 2), (1, 2), (0, 3), (1, 3), (2, 3), (1, 4)])
/-- toll/tolllaw11.RateWaits -/
def B4 : ACode := (.seq (.region [⟨(some 2), (.box 45 (.t 0)), none, []⟩,
    ⟨(some 4), (.mov (.c (.bool false))), none, []⟩] none)
  (.seq R4_0
  (.seq (.region [⟨(some 22), (.mov (.t 5)), none, []⟩,
    ⟨(some 23), (.call (.f 8) [(.t 22)]), none, []⟩,
    ⟨(some 24), (.mov (.t 6)), none, []⟩,
    ⟨(some 25), (.call (.f 8) [(.t 24)]), none, []⟩,
    ⟨(some 26), (.call (.f 7) [(.t 23), (.t 25), (.c (.int .i64 0))]), none, []⟩,
    ⟨(some 8), (.alloc 26 [(.float .f64 0), (.float .f64 0), (.float .f64 0), (.int .i64 0)]), none, []⟩,
    ⟨none, (.store 4 (.t 8) (.t 26)), none, []⟩] none)
  (.seq (.region [⟨(some 27), (.mov (.t 7)), none, []⟩,
    ⟨(some 28), (.call (.f 8) [(.t 27)]), none, []⟩,
    ⟨(some 29), (.fieldAddr 2 (.t 8)), none, []⟩,
    ⟨none, (.store 1 (.t 29) (.t 28)), none, []⟩] none)
  (.seq (.region [⟨(some 30), (.mov (.t 1)), none, []⟩,
    ⟨(some 31), (.call (.f 8) [(.t 30)]), none, []⟩,
    ⟨(some 32), (.call (.f 19) [(.t 31)]), none, []⟩,
    ⟨(some 9), (.mov (.t 32)), none, []⟩] none)
  (.seq (.region [⟨(some 33), (.load (some 4) (.t 8)), none, []⟩,
    ⟨(some 10), (.alloc 26 [(.float .f64 0), (.float .f64 0), (.float .f64 0), (.int .i64 0)]), none, []⟩,
    ⟨none, (.store 4 (.t 10) (.t 33)), none, []⟩] none)
  (.seq (.region [⟨(some 35), (.mov (.t 1)), none, []⟩,
    ⟨(some 36), (.call (.f 8) [(.t 35)]), none, []⟩,
    ⟨(some 37), (.call (.f 15) [(.t 8), (.t 36)]), none, []⟩,
    ⟨(some 34), (.mov (.t 37)), none, []⟩,
    ⟨(some 38), (.extract (.t 34) 0), none, []⟩,
    ⟨(some 39), (.extract (.t 34) 1), none, []⟩,
    ⟨(some 11), (.mov (.t 38)), none, []⟩,
    ⟨(some 12), (.mov (.t 39)), none, []⟩] none)
  (.seq (.seq (.region [⟨(some 40), (.fieldAddr 2 (.t 10)), none, []⟩,
    ⟨(some 41), (.load none (.t 40)), none, []⟩,
    ⟨(some 42), (.fieldAddr 2 (.t 8)), none, []⟩,
    ⟨(some 43), (.load none (.t 42)), none, []⟩,
    ⟨(some 44), (.call (.f 13) [(.t 41), (.t 43)]), none, []⟩,
    ⟨(some 45), (.un .not (.t 44)), none, []⟩,
    ⟨(some 46), (.mov (.t 45)), none, []⟩,
    ⟨(some 47), (.fieldAddr 3 (.t 8)), (some (46, false)), []⟩,
    ⟨(some 48), (.load none (.t 47)), (some (46, false)), []⟩,
    ⟨(some 49), (.bin .neq (.t 48) (.c (.int .i64 0))), (some (46, false)), []⟩,
    ⟨(some 50), (.pick (.t 46) (.c (.bool true)) (.t 49)), none, []⟩] none)
  (.cond (.t 50)
  (.seq (.region [⟨(some 4), (.mov (.c (.bool false))), none, []⟩] none)
  .ret)
  .skip))
  (.seq (.seq (.region [⟨(some 51), (.mov (.t 12)), none, []⟩,
    ⟨(some 52), (.un .not (.t 51)), none, []⟩] none)
  (.cond (.t 52)
  (.seq (.region [⟨(some 53), (.load (some 4) (.t 10)), none, []⟩,
    ⟨(some 13), (.alloc 26 [(.float .f64 0), (.float .f64 0), (.float .f64 0), (.int .i64 0)]), none, []⟩,
    ⟨none, (.store 4 (.t 13) (.t 53)), none, []⟩] none)
  (.seq (.region [⟨(some 54), (.mov (.t 11)), none, []⟩,
    ⟨(some 55), (.bin .eql (.t 54) (.c (.int .i64 0))), none, []⟩,
    ⟨(some 56), (.mov (.t 55)), none, []⟩,
    ⟨(some 57), (.call (.f 14) [(.t 13), (.c (.int .i64 1099511627776))]), (some (56, true)), []⟩,
    ⟨(some 58), (.mov (.t 9)), (some (56, true)), []⟩,
    ⟨(some 59), (.bin .lss (.t 57) (.t 58)), (some (56, true)), []⟩,
    ⟨(some 60), (.pick (.t 56) (.t 59) (.c (.bool false))), none, []⟩,
    ⟨(some 61), (.mov (.t 60)), none, []⟩,
    ⟨(some 62), (.call (.f 18) []), (some (61, true)), []⟩,
    ⟨(some 63), (.pick (.t 61) (.t 62) (.c (.bool false))), none, []⟩,
    ⟨(some 4), (.mov (.t 63)), none, []⟩] none)
  .ret))
  .skip))
  (.seq R4_1
  (.seq (.seq (.region [⟨(some 66), (.mov (.t 11)), none, []⟩,
    ⟨(some 67), (.call (.f 14) [(.t 14), (.t 66)]), none, []⟩,
    ⟨(some 68), (.mov (.t 9)), none, []⟩,
    ⟨(some 69), (.bin .lss (.t 67) (.t 68)), none, []⟩,
    ⟨(some 70), (.mov (.t 69)), none, []⟩,
    ⟨(some 71), (.mov (.t 11)), (some (70, false)), []⟩,
    ⟨(some 72), (.bin .lss (.t 71) (.c (.int .i64 0))), (some (70, false)), []⟩,
    ⟨(some 73), (.pick (.t 70) (.c (.bool true)) (.t 72)), none, []⟩,
    ⟨(some 74), (.mov (.t 73)), none, []⟩,
    ⟨(some 75), (.mov (.t 11)), (some (74, false)), []⟩,
    ⟨(some 76), (.bin .gtr (.t 75) (.c (.int .i64 1099511627776))), (some (74, false)), []⟩,
    ⟨(some 77), (.pick (.t 74) (.c (.bool true)) (.t 76)), none, []⟩] none)
  (.cond (.t 77)
  (.seq (.region [⟨(some 4), (.mov (.c (.bool false))), none, []⟩] none)
  .ret)
  .skip))
  (.seq (.region [⟨(some 78), (.mov (.t 11)), none, []⟩,
    ⟨(some 79), (.bin .eql (.t 78) (.c (.int .i64 0))), none, []⟩,
    ⟨(some 80), (.mov (.t 79)), none, []⟩,
    ⟨(some 81), (.mov (.t 11)), (some (80, false)), []⟩,
    ⟨(some 82), (.bin .sub (.t 81) (.c (.int .i64 1))), (some (80, false)), []⟩,
    ⟨(some 83), (.call (.f 14) [(.t 15), (.t 82)]), (some (80, false)), []⟩,
    ⟨(some 84), (.mov (.t 9)), (some (80, false)), []⟩,
    ⟨(some 85), (.bin .lss (.t 83) (.t 84)), (some (80, false)), []⟩,
    ⟨(some 86), (.pick (.t 80) (.c (.bool true)) (.t 85)), none, []⟩,
    ⟨(some 87), (.mov (.t 86)), none, []⟩,
    ⟨(some 88), (.call (.f 18) []), (some (87, true)), []⟩,
    ⟨(some 89), (.pick (.t 87) (.t 88) (.c (.bool false))), none, []⟩,
    ⟨(some 4), (.mov (.t 89)), none, []⟩] none)
  .ret))))))))))))
def F4 : AFunc := ⟨2, 90, [(.tmp 4)], B4⟩
/-- toll/tolllaw11.RateOrder -/
def F5L0 : ACode := (.seq (.region [⟨(some 33), (.bin .lss (.t 32) (.c (.int .i64 3))), none, []⟩] none)
  (.seq (.cond (.t 33)
  .skip
  (.exit 0))
  (.seq (.block 1 (.seq (.region [⟨(some 34), (.index 1 3 none (.t 31) (.t 32)), none, []⟩,
    ⟨(some 12), (.mov (.t 34)), none, []⟩] none)
  (.seq (.region [⟨(some 35), (.mov (.t 12)), none, []⟩] none)
  (.cond (.t 35)
  (.region [⟨(some 36), (.mov (.t 10)), none, []⟩,
    ⟨(some 37), (.bin .add (.t 36) (.c (.int .i64 1))), none, []⟩,
    ⟨(some 10), (.mov (.t 37)), none, []⟩] none)
  .skip))))
  (.region [⟨(some 38), (.bin .add (.t 32) (.c (.int .i64 1))), none, []⟩,
    ⟨(some 32), (.mov (.t 38)), none, []⟩] none))))
def B5 : ACode := (.seq (.region [⟨(some 6), (.mov (.c (.bool false))), none, []⟩] none)
  (.seq (.region [⟨(some 16), (.mov (.t 0)), none, []⟩,
    ⟨(some 17), (.call (.f 8) [(.t 16)]), none, []⟩,
    ⟨(some 18), (.mov (.t 1)), none, []⟩,
    ⟨(some 19), (.call (.f 8) [(.t 18)]), none, []⟩,
    ⟨(some 20), (.mov (.t 2)), none, []⟩,
    ⟨(some 21), (.call (.f 8) [(.t 20)]), none, []⟩,
    ⟨(some 7), (.mov (.t 17)), none, []⟩,
    ⟨(some 8), (.mov (.t 19)), none, []⟩,
    ⟨(some 9), (.mov (.t 21)), none, []⟩] none)
  (.seq (.region [⟨(some 10), (.mov (.c (.int .i64 0))), none, []⟩] none)
  (.seq (.seq (.region [⟨(some 22), (.mov (.t 7)), none, []⟩,
    ⟨(some 23), (.mov (.t 8)), none, []⟩,
    ⟨(some 24), (.call (.f 20) [(.t 22), (.t 23)]), none, []⟩,
    ⟨(some 25), (.mov (.t 7)), none, []⟩,
    ⟨(some 26), (.mov (.t 8)), none, []⟩,
    ⟨(some 27), (.call (.f 21) [(.t 25), (.t 26)]), none, []⟩,
    ⟨(some 28), (.mov (.t 8)), none, []⟩,
    ⟨(some 29), (.mov (.t 7)), none, []⟩,
    ⟨(some 30), (.call (.f 20) [(.t 28), (.t 29)]), none, []⟩,
    ⟨(some 31), (.build [(.bool false), (.bool false), (.bool false)] [(0, 1, (.t 24)), (1, 1, (.t 27)), (2, 1, (.t 30))]), none, []⟩,
    ⟨(some 32), (.mov (.c (.int .i64 0))), none, []⟩] none)
  (.block 0 (.loop F5L0)))
  (.seq (.region [⟨(some 39), (.mov (.t 7)), none, []⟩,
    ⟨(some 40), (.mov (.t 8)), none, []⟩,
    ⟨(some 41), (.call (.f 20) [(.t 39), (.t 40)]), none, []⟩,
    ⟨(some 42), (.mov (.t 41)), none, []⟩,
    ⟨(some 43), (.mov (.t 8)), (some (42, true)), []⟩,
    ⟨(some 44), (.mov (.t 9)), (some (42, true)), []⟩,
    ⟨(some 45), (.call (.f 20) [(.t 43), (.t 44)]), (some (42, true)), []⟩,
    ⟨(some 46), (.pick (.t 42) (.t 45) (.c (.bool false))), none, []⟩,
    ⟨(some 47), (.un .not (.t 46)), none, []⟩,
    ⟨(some 48), (.mov (.t 47)), none, []⟩,
    ⟨(some 49), (.mov (.t 7)), (some (48, false)), []⟩,
    ⟨(some 50), (.mov (.t 9)), (some (48, false)), []⟩,
    ⟨(some 51), (.call (.f 20) [(.t 49), (.t 50)]), (some (48, false)), []⟩,
    ⟨(some 52), (.pick (.t 48) (.c (.bool true)) (.t 51)), none, []⟩,
    ⟨(some 13), (.mov (.t 52)), none, []⟩] none)
  (.seq (.region [⟨(some 53), (.mov (.t 7)), none, []⟩,
    ⟨(some 54), (.mov (.t 8)), none, []⟩,
    ⟨(some 55), (.call (.f 21) [(.t 53), (.t 54)]), none, []⟩,
    ⟨(some 56), (.mov (.t 55)), none, []⟩,
    ⟨(some 57), (.mov (.t 8)), (some (56, true)), []⟩,
    ⟨(some 58), (.mov (.t 9)), (some (56, true)), []⟩,
    ⟨(some 59), (.call (.f 21) [(.t 57), (.t 58)]), (some (56, true)), []⟩,
    ⟨(some 60), (.pick (.t 56) (.t 59) (.c (.bool false))), none, []⟩,
    ⟨(some 61), (.un .not (.t 60)), none, []⟩,
    ⟨(some 62), (.mov (.t 61)), none, []⟩,
    ⟨(some 63), (.mov (.t 7)), (some (62, false)), []⟩,
    ⟨(some 64), (.mov (.t 9)), (some (62, false)), []⟩,
    ⟨(some 65), (.call (.f 21) [(.t 63), (.t 64)]), (some (62, false)), []⟩,
    ⟨(some 66), (.pick (.t 62) (.c (.bool true)) (.t 65)), none, []⟩,
    ⟨(some 14), (.mov (.t 66)), none, []⟩] none)
  (.seq (.region [⟨(some 67), (.mov (.t 7)), none, []⟩,
    ⟨(some 68), (.call (.f 19) [(.t 67)]), none, []⟩,
    ⟨(some 15), (.mov (.t 68)), none, []⟩] none)
  (.seq (.region [⟨(some 69), (.mov (.t 10)), none, []⟩,
    ⟨(some 70), (.bin .eql (.t 69) (.c (.int .i64 1))), none, []⟩,
    ⟨(some 71), (.mov (.t 70)), none, []⟩,
    ⟨(some 72), (.mov (.t 13)), (some (71, true)), []⟩,
    ⟨(some 73), (.pick (.t 71) (.t 72) (.c (.bool false))), none, []⟩,
    ⟨(some 74), (.mov (.t 73)), none, []⟩,
    ⟨(some 75), (.mov (.t 14)), (some (74, true)), []⟩,
    ⟨(some 76), (.pick (.t 74) (.t 75) (.c (.bool false))), none, []⟩,
    ⟨(some 77), (.mov (.t 76)), none, []⟩,
    ⟨(some 78), (.mov (.t 7)), (some (77, true)), []⟩,
    ⟨(some 79), (.mov (.t 7)), (some (77, true)), []⟩,
    ⟨(some 80), (.call (.f 21) [(.t 78), (.t 79)]), (some (77, true)), []⟩,
    ⟨(some 81), (.pick (.t 77) (.t 80) (.c (.bool false))), none, []⟩,
    ⟨(some 82), (.mov (.t 81)), none, []⟩,
    ⟨(some 83), (.call (.f 22) []), (some (82, true)), []⟩,
    ⟨(some 84), (.mov (.t 7)), (some (82, true)), []⟩,
    ⟨(some 85), (.call (.f 20) [(.t 83), (.t 84)]), (some (82, true)), []⟩,
    ⟨(some 86), (.un .not (.t 85)), (some (82, true)), []⟩,
    ⟨(some 87), (.pick (.t 82) (.t 86) (.c (.bool false))), none, []⟩,
    ⟨(some 88), (.mov (.t 87)), none, []⟩,
    ⟨(some 89), (.mov (.t 7)), (some (88, true)), []⟩,
    ⟨(some 90), (.call (.f 23) [(.c (.int .i64 (-1)))]), (some (88, true)), []⟩,
    ⟨(some 91), (.call (.f 20) [(.t 89), (.t 90)]), (some (88, true)), []⟩,
    ⟨(some 92), (.un .not (.t 91)), (some (88, true)), []⟩,
    ⟨(some 93), (.pick (.t 88) (.t 92) (.c (.bool false))), none, []⟩,
    ⟨(some 94), (.mov (.t 93)), none, []⟩,
    ⟨(some 95), (.mov (.t 15)), (some (94, true)), []⟩,
    ⟨(some 96), (.bin .geq (.t 95) (.c (.float .f64 0))), (some (94, true)), []⟩,
    ⟨(some 97), (.pick (.t 94) (.t 96) (.c (.bool false))), none, []⟩,
    ⟨(some 98), (.mov (.t 97)), none, []⟩,
    ⟨(some 99), (.mov (.t 15)), (some (98, true)), []⟩,
    ⟨(some 100), (.call (.f 24) [(.t 99)]), (some (98, true)), []⟩,
    ⟨(some 101), (.un .not (.t 100)), (some (98, true)), []⟩,
    ⟨(some 102), (.pick (.t 98) (.t 101) (.c (.bool false))), none, []⟩,
    ⟨(some 103), (.mov (.t 102)), none, []⟩,
    ⟨(some 104), (.mov (.t 15)), (some (103, true)), []⟩,
    ⟨(some 105), (.call (.f 19) [(.t 104)]), (some (103, true)), []⟩,
    ⟨(some 106), (.mov (.t 15)), (some (103, true)), []⟩,
    ⟨(some 107), (.call (.f 13) [(.t 105), (.t 106)]), (some (103, true)), []⟩,
    ⟨(some 108), (.pick (.t 103) (.t 107) (.c (.bool false))), none, []⟩,
    ⟨(some 109), (.mov (.t 108)), none, []⟩,
    ⟨(some 110), (.mov (.t 7)), (some (109, true)), []⟩,
    ⟨(some 111), (.bin .gtr (.t 110) (.c (.float .f64 0))), (some (109, true)), []⟩,
    ⟨(some 112), (.mov (.t 15)), (some (109, true)), []⟩,
    ⟨(some 113), (.bin .gtr (.t 112) (.c (.float .f64 0))), (some (109, true)), []⟩,
    ⟨(some 114), (.eqv false .bool false (.t 111) (.t 113)), (some (109, true)), []⟩,
    ⟨(some 115), (.pick (.t 109) (.t 114) (.c (.bool false))), none, []⟩,
    ⟨(some 116), (.mov (.t 115)), none, []⟩,
    ⟨(some 117), (.call (.f 18) []), (some (116, true)), []⟩,
    ⟨(some 118), (.pick (.t 116) (.t 117) (.c (.bool false))), none, []⟩,
    ⟨(some 6), (.mov (.t 118)), none, []⟩] none)
  .ret))))))))
def F5 : AFunc := ⟨3, 119, [(.tmp 6)], B5⟩
-- F5L0 live: [7, 8, 9, 10, 31, 32]
def R6_0 : ACode := .region [⟨(some 20), (.fieldAddr 0 (.t 7)), none, []⟩,
    ⟨(some 21), (.load none (.t 20)), none, [0]⟩,
    ⟨(some 22), (.mov (.t 0)), none, []⟩,
    ⟨(some 23), (.call (.f 8) [(.t 22)]), none, [2]⟩,
    ⟨(some 24), (.call (.f 19) [(.t 23)]), none, [3, 3]⟩,
    ⟨(some 25), (.bin .neq (.t 21) (.t 24)), none, [1, 4]⟩,
    ⟨(some 26), (.mov (.t 25)), none, [5, 4]⟩,
    ⟨(some 27), (.fieldAddr 1 (.t 7)), (some (26, false)), [6]⟩,
    ⟨(some 28), (.load none (.t 27)), (some (26, false)), [7, 6]⟩,
    ⟨(some 29), (.mov (.t 1)), (some (26, false)), [6]⟩,
    ⟨(some 30), (.call (.f 8) [(.t 29)]), (some (26, false)), [9, 6, 6]⟩,
    ⟨(some 31), (.call (.f 19) [(.t 30)]), (some (26, false)), [10, 10, 6]⟩,
    ⟨(some 32), (.bin .neq (.t 28) (.t 31)), (some (26, false)), [8, 11, 6]⟩,
    ⟨(some 33), (.pick (.t 26) (.c (.bool true)) (.t 32)), none, [6, 12]⟩,
    ⟨(some 34), (.mov (.t 33)), none, [13, 11]⟩,
    ⟨(some 35), (.fieldAddr 2 (.t 7)), (some (34, false)), [14]⟩,
    ⟨(some 36), (.load none (.t 35)), (some (34, false)), [15, 14]⟩,
    ⟨(some 37), (.fieldAddr 1 (.t 7)), (some (34, false)), [14]⟩,
    ⟨(some 38), (.load none (.t 37)), (some (34, false)), [17, 14]⟩,
    ⟨(some 39), (.bin .neq (.t 36) (.t 38)), (some (34, false)), [16, 18, 14]⟩,
    ⟨(some 40), (.pick (.t 34) (.c (.bool true)) (.t 39)), none, [14, 19]⟩] (some [(0, 2), (1, 2), (0, 3), (1, 3), (0, 4), (1, 4), (7, 9), (8, 9), (7, 10), (8, 10), (7, 11), (8, 11), (15, 17), (16, 17), (15, 18), (16, 18)])
/-- toll/tolllaw11.RateBounds -/
def F6L0 : ACode := (.seq (.region [⟨(some 44), (.bin .lss (.t 43) (.t 42)), none, []⟩] none)
  (.seq (.cond (.t 44)
  .skip
  (.exit 0))
  (.seq (.block 1 (.seq (.region [⟨(some 45), (.mov (.t 43)), none, []⟩,
    ⟨(some 46), (.indexAddr 2 (.t 41) (.t 43)), none, []⟩,
    ⟨(some 47), (.load (some 2) (.t 46)), none, []⟩,
    ⟨(some 11), (.alloc 56 [(.int .u32 0), (.int .u64 0)]), none, []⟩,
    ⟨(some 10), (.mov (.t 45)), none, []⟩,
    ⟨none, (.store 2 (.t 11) (.t 47)), none, []⟩] none)
  (.seq (.seq (.region [⟨(some 48), (.mov (.t 10)), none, []⟩,
    ⟨(some 49), (.bin .eql (.t 48) (.c (.int .i64 60))), none, []⟩] none)
  (.cond (.t 49)
  (.exit 0)
  .skip))
  (.seq (.region [⟨(some 50), (.mov (.t 8)), none, []⟩,
    ⟨(some 51), (.fieldAddr 0 (.t 11)), none, []⟩,
    ⟨(some 52), (.load none (.t 51)), none, []⟩,
    ⟨(some 53), (.bin .rem (.t 52) (.c (.int .u32 1048576))), none, []⟩,
    ⟨(some 54), (.conv .i64 (.t 53)), none, []⟩,
    ⟨(some 55), (.bin .add (.t 50) (.t 54)), none, []⟩,
    ⟨(some 8), (.mov (.t 55)), none, []⟩] none)
  (.seq (.region [⟨(some 56), (.fieldAddr 1 (.t 11)), none, []⟩,
    ⟨(some 57), (.load none (.t 56)), none, []⟩,
    ⟨(some 58), (.call (.f 8) [(.t 57)]), none, []⟩,
    ⟨(some 12), (.mov (.t 58)), none, []⟩] none)
  (.seq (.region [⟨(some 59), (.mov (.t 8)), none, []⟩,
    ⟨(some 60), (.call (.f 14) [(.t 7), (.t 59)]), none, []⟩,
    ⟨(some 13), (.mov (.t 60)), none, []⟩] none)
  (.seq (.seq (.region [⟨(some 61), (.mov (.t 8)), none, []⟩,
    ⟨(some 62), (.mov (.t 12)), none, []⟩,
    ⟨(some 63), (.call (.f 10) [(.t 7), (.t 61), (.t 62)]), none, []⟩] none)
  (.cond (.t 63)
  (.seq (.region [⟨(some 64), (.mov (.t 9)), none, []⟩,
    ⟨(some 65), (.mov (.t 12)), none, []⟩,
    ⟨(some 66), (.call (.f 19) [(.t 65)]), none, []⟩,
    ⟨(some 67), (.bin .add (.t 64) (.t 66)), none, []⟩,
    ⟨(some 9), (.mov (.t 67)), none, []⟩] none)
  (.seq (.region [⟨(some 68), (.mov (.t 12)), none, []⟩,
    ⟨(some 69), (.call (.f 19) [(.t 68)]), none, []⟩,
    ⟨(some 70), (.mov (.t 13)), none, []⟩,
    ⟨(some 71), (.bin .gtr (.t 69) (.t 70)), none, []⟩] none)
  (.cond (.t 71)
  (.seq (.region [⟨(some 6), (.mov (.c (.bool false))), none, []⟩] none)
  .ret)
  .skip)))
  (.seq (.region [⟨(some 72), (.mov (.t 12)), none, []⟩,
    ⟨(some 73), (.call (.f 19) [(.t 72)]), none, []⟩,
    ⟨(some 74), (.mov (.t 13)), none, []⟩,
    ⟨(some 75), (.bin .leq (.t 73) (.t 74)), none, []⟩] none)
  (.cond (.t 75)
  (.seq (.region [⟨(some 6), (.mov (.c (.bool false))), none, []⟩] none)
  .ret)
  .skip))))
  (.seq (.seq (.region [⟨(some 76), (.fieldAddr 2 (.t 7)), none, []⟩,
    ⟨(some 77), (.load none (.t 76)), none, []⟩,
    ⟨(some 78), (.bin .geq (.t 77) (.c (.float .f64 0))), none, []⟩,
    ⟨(some 79), (.mov (.t 78)), none, []⟩,
    ⟨(some 80), (.fieldAddr 2 (.t 7)), (some (79, true)), []⟩,
    ⟨(some 81), (.load none (.t 80)), (some (79, true)), []⟩,
    ⟨(some 82), (.fieldAddr 1 (.t 7)), (some (79, true)), []⟩,
    ⟨(some 83), (.load none (.t 82)), (some (79, true)), []⟩,
    ⟨(some 84), (.bin .leq (.t 81) (.t 83)), (some (79, true)), []⟩,
    ⟨(some 85), (.pick (.t 79) (.t 84) (.c (.bool false))), none, []⟩,
    ⟨(some 86), (.un .not (.t 85)), none, []⟩,
    ⟨(some 87), (.mov (.t 86)), none, []⟩,
    ⟨(some 88), (.fieldAddr 2 (.t 7)), (some (87, false)), []⟩,
    ⟨(some 89), (.load none (.t 88)), (some (87, false)), []⟩,
    ⟨(some 90), (.call (.f 24) [(.t 89)]), (some (87, false)), []⟩,
    ⟨(some 91), (.pick (.t 87) (.c (.bool true)) (.t 90)), none, []⟩,
    ⟨(some 92), (.mov (.t 91)), none, []⟩,
    ⟨(some 93), (.fieldAddr 3 (.t 7)), (some (92, false)), []⟩,
    ⟨(some 94), (.load none (.t 93)), (some (92, false)), []⟩,
    ⟨(some 95), (.mov (.t 8)), (some (92, false)), []⟩,
    ⟨(some 96), (.bin .neq (.t 94) (.t 95)), (some (92, false)), []⟩,
    ⟨(some 97), (.pick (.t 92) (.c (.bool true)) (.t 96)), none, []⟩] none)
  (.cond (.t 97)
  (.seq (.region [⟨(some 6), (.mov (.c (.bool false))), none, []⟩] none)
  .ret)
  .skip))
  (.seq (.region [⟨(some 98), (.fieldAddr 1 (.t 7)), none, []⟩,
    ⟨(some 99), (.load none (.t 98)), none, []⟩,
    ⟨(some 100), (.fieldAddr 0 (.t 7)), none, []⟩,
    ⟨(some 101), (.load none (.t 100)), none, []⟩,
    ⟨(some 102), (.mov (.t 8)), none, []⟩,
    ⟨(some 103), (.toFloat .f64 (.t 102)), none, []⟩,
    ⟨(some 104), (.bin .mul (.t 101) (.t 103)), none, []⟩,
    ⟨(some 105), (.bin .add (.t 99) (.t 104)), none, []⟩,
    ⟨(some 14), (.mov (.t 105)), none, []⟩] none)
  (.seq (.seq (.region [⟨(some 106), (.mov (.t 8)), none, []⟩,
    ⟨(some 107), (.bin .eql (.t 106) (.c (.int .i64 0))), none, []⟩] none)
  (.cond (.t 107)
  (.region [⟨(some 108), (.fieldAddr 1 (.t 7)), none, []⟩,
    ⟨(some 109), (.load none (.t 108)), none, []⟩,
    ⟨(some 14), (.mov (.t 109)), none, []⟩] none)
  .skip))
  (.seq (.region [⟨(some 110), (.mov (.t 9)), none, []⟩,
    ⟨(some 111), (.mov (.t 14)), none, []⟩,
    ⟨(some 112), (.bin .mul (.t 111) (.c (.float .f64 4607182418804521008))), none, []⟩,
    ⟨(some 113), (.bin .gtr (.t 110) (.t 112)), none, []⟩] none)
  (.cond (.t 113)
  (.seq (.region [⟨(some 6), (.mov (.c (.bool false))), none, []⟩] none)
  .ret)
  .skip))))))))))))
  (.region [⟨(some 114), (.bin .add (.t 43) (.c (.int .i64 1))), none, []⟩,
    ⟨(some 43), (.mov (.t 114)), none, []⟩] none))))
def B6 : ACode := (.seq (.region [⟨(some 6), (.mov (.c (.bool false))), none, []⟩] none)
  (.seq (.region [⟨(some 15), (.mov (.t 0)), none, []⟩,
    ⟨(some 16), (.call (.f 8) [(.t 15)]), none, []⟩,
    ⟨(some 17), (.mov (.t 1)), none, []⟩,
    ⟨(some 18), (.call (.f 8) [(.t 17)]), none, []⟩,
    ⟨(some 19), (.call (.f 7) [(.t 16), (.t 18), (.c (.int .i64 0))]), none, []⟩,
    ⟨(some 7), (.alloc 26 [(.float .f64 0), (.float .f64 0), (.float .f64 0), (.int .i64 0)]), none, []⟩,
    ⟨none, (.store 4 (.t 7) (.t 19)), none, []⟩] none)
  (.seq (.seq R6_0
  (.cond (.t 40)
  (.seq (.region [⟨(some 6), (.mov (.c (.bool false))), none, []⟩] none)
  .ret)
  .skip))
  (.seq (.region [⟨(some 8), (.mov (.c (.int .i64 0))), none, []⟩,
    ⟨(some 9), (.mov (.c (.float .f64 0))), none, []⟩] none)
  (.seq (.seq (.region [⟨(some 41), (.mov (.t 2)), none, []⟩,
    ⟨(some 42), (.lenSlice (.t 41)), none, []⟩,
    ⟨(some 43), (.mov (.c (.int .i64 0))), none, []⟩] none)
  (.block 0 (.loop F6L0)))
  (.seq (.region [⟨(some 115), (.call (.f 18) []), none, []⟩,
    ⟨(some 6), (.mov (.t 115)), none, []⟩] none)
  .ret))))))
def F6 : AFunc := ⟨3, 116, [(.tmp 6)], B6⟩
-- F6L0 live: [7, 8, 9, 41, 42, 43]
/-- toll/rate.New -/
def B7 : ACode := (.seq (.region [⟨(some 6), (.alloc 26 [(.float .f64 0), (.float .f64 0), (.float .f64 0), (.int .i64 0)]), none, []⟩] none)
  (.seq (.region [⟨(some 8), (.mov (.t 0)), none, []⟩,
    ⟨(some 9), (.mov (.t 1)), none, []⟩,
    ⟨(some 10), (.mov (.t 1)), none, []⟩,
    ⟨(some 11), (.mov (.t 2)), none, []⟩,
    ⟨(some 12), (.build [(.float .f64 0), (.float .f64 0), (.float .f64 0), (.int .i64 0)] [(0, 1, (.t 8)), (1, 1, (.t 9)), (2, 1, (.t 10)), (3, 1, (.t 11))]), none, []⟩,
    ⟨(some 7), (.alloc 26 [(.float .f64 0), (.float .f64 0), (.float .f64 0), (.int .i64 0)]), none, []⟩,
    ⟨none, (.store 4 (.t 7) (.t 12)), none, []⟩] none)
  (.seq (.region [⟨(some 13), (.call (.f 25) [(.t 7)]), none, []⟩] none)
  (.seq (.region [⟨(some 14), (.load (some 4) (.t 7)), none, []⟩,
    ⟨none, (.store 4 (.t 6) (.t 14)), none, []⟩] none)
  .ret))))
def F7 : AFunc := ⟨3, 15, [(.cell 6 (some 4))], B7⟩
/-- toll/tollref11.New -/
def B9 : ACode := (.seq (.region [⟨(some 6), (.alloc 29 [(.float .f64 0), (.float .f64 0), (.float .f64 0), (.int .i64 0)]), none, []⟩] none)
  (.seq (.region [⟨(some 7), (.mov (.t 0)), none, []⟩,
    ⟨(some 8), (.mov (.t 1)), none, []⟩,
    ⟨(some 9), (.mov (.t 1)), none, []⟩,
    ⟨(some 10), (.mov (.t 2)), none, []⟩,
    ⟨(some 11), (.build [(.float .f64 0), (.float .f64 0), (.float .f64 0), (.int .i64 0)] [(0, 1, (.t 7)), (1, 1, (.t 8)), (2, 1, (.t 9)), (3, 1, (.t 10))]), none, []⟩,
    ⟨(some 12), (.call (.f 26) [(.t 11)]), none, []⟩,
    ⟨none, (.store 4 (.t 6) (.t 12)), none, []⟩] none)
  .ret))
def F9 : AFunc := ⟨3, 13, [(.cell 6 (some 4))], B9⟩
/-- (*toll/rate.Bucket).Take -/
def B10 : ACode := (.seq (.region [⟨(some 6), (.mov (.c (.bool false))), none, []⟩] none)
  (.seq (.region [⟨(some 7), (.mov (.t 2)), none, []⟩,
    ⟨(some 8), (.call (.f 19) [(.t 7)]), none, []⟩,
    ⟨(some 2), (.mov (.t 8)), none, []⟩] none)
  (.seq (.seq (.region [⟨(some 9), (.mov (.t 0)), none, []⟩,
    ⟨(some 10), (.eqv false .ptr false (.t 9) (.c (.pointer none))), none, []⟩,
    ⟨(some 11), (.mov (.t 10)), none, []⟩,
    ⟨(some 12), (.mov (.t 2)), (some (11, false)), []⟩,
    ⟨(some 13), (.mov (.t 0)), (some (11, false)), []⟩,
    ⟨(some 14), (.mov (.t 1)), (some (11, false)), []⟩,
    ⟨(some 15), (.call (.f 14) [(.t 13), (.t 14)]), (some (11, false)), []⟩,
    ⟨(some 16), (.bin .gtr (.t 12) (.t 15)), (some (11, false)), []⟩,
    ⟨(some 17), (.pick (.t 11) (.c (.bool true)) (.t 16)), none, []⟩] none)
  (.cond (.t 17)
  (.seq (.region [⟨(some 6), (.mov (.c (.bool false))), none, []⟩] none)
  .ret)
  .skip))
  (.seq (.seq (.region [⟨(some 18), (.mov (.t 0)), none, []⟩,
    ⟨(some 19), (.nilCheck (.t 18)), none, []⟩,
    ⟨(some 20), (.fieldAddr 2 (.t 19)), none, []⟩,
    ⟨(some 21), (.load none (.t 20)), none, []⟩,
    ⟨(some 22), (.call (.f 27) [(.t 21), (.c (.int .i64 1))]), none, []⟩,
    ⟨(some 23), (.un .not (.t 22)), none, []⟩] none)
  (.cond (.t 23)
  (.region [⟨(some 24), (.mov (.t 0)), none, []⟩,
    ⟨(some 25), (.mov (.t 0)), none, []⟩,
    ⟨(some 26), (.nilCheck (.t 25)), none, []⟩,
    ⟨(some 27), (.fieldAddr 2 (.t 26)), none, []⟩,
    ⟨(some 28), (.load none (.t 27)), none, []⟩,
    ⟨(some 29), (.mov (.t 2)), none, []⟩,
    ⟨(some 30), (.bin .sub (.t 28) (.t 29)), none, []⟩,
    ⟨(some 31), (.call (.f 19) [(.t 30)]), none, []⟩,
    ⟨(some 32), (.nilCheck (.t 24)), none, []⟩,
    ⟨(some 33), (.fieldAddr 2 (.t 32)), none, []⟩,
    ⟨none, (.store 1 (.t 33) (.t 31)), none, []⟩] none)
  .skip))
  (.seq (.region [⟨(some 6), (.mov (.c (.bool true))), none, []⟩] none)
  .ret)))))
def F10 : AFunc := ⟨3, 34, [(.tmp 6)], B10⟩
/-- toll/tollref11.Take -/
def B11 : ACode := (.seq (.region [⟨(some 3), (.box 29 (.t 0)), none, []⟩,
    ⟨(some 6), (.alloc 29 [(.float .f64 0), (.float .f64 0), (.float .f64 0), (.int .i64 0)]), none, []⟩,
    ⟨(some 7), (.mov (.c (.bool false))), none, []⟩] none)
  (.seq (.region [⟨(some 8), (.load (some 4) (.t 3)), none, []⟩,
    ⟨(some 9), (.mov (.t 1)), none, []⟩,
    ⟨(some 10), (.call (.f 12) [(.t 8), (.t 9)]), none, []⟩,
    ⟨none, (.store 4 (.t 3) (.t 10)), none, []⟩] none)
  (.seq (.region [⟨(some 11), (.mov (.t 2)), none, []⟩,
    ⟨(some 12), (.call (.f 28) [(.t 11)]), none, []⟩,
    ⟨(some 2), (.mov (.t 12)), none, []⟩] none)
  (.seq (.seq (.region [⟨(some 13), (.mov (.t 2)), none, []⟩,
    ⟨(some 14), (.fieldAddr 2 (.t 3)), none, []⟩,
    ⟨(some 15), (.load none (.t 14)), none, []⟩,
    ⟨(some 16), (.bin .gtr (.t 13) (.t 15)), none, []⟩] none)
  (.cond (.t 16)
  (.seq (.region [⟨(some 17), (.load (some 4) (.t 3)), none, []⟩,
    ⟨none, (.store 4 (.t 6) (.t 17)), none, []⟩,
    ⟨(some 7), (.mov (.c (.bool false))), none, []⟩] none)
  .ret)
  .skip))
  (.seq (.seq (.region [⟨(some 18), (.fieldAddr 2 (.t 3)), none, []⟩,
    ⟨(some 19), (.load none (.t 18)), none, []⟩,
    ⟨(some 20), (.call (.f 29) [(.t 19)]), none, []⟩,
    ⟨(some 21), (.bin .eql (.t 20) (.c (.int .i64 1))), none, []⟩] none)
  (.cond (.t 21)
  (.region [⟨(some 22), (.fieldAddr 2 (.t 3)), none, []⟩,
    ⟨(some 23), (.load none (.t 22)), none, []⟩,
    ⟨(some 24), (.mov (.t 2)), none, []⟩,
    ⟨(some 25), (.bin .sub (.t 23) (.t 24)), none, []⟩,
    ⟨(some 26), (.fieldAddr 2 (.t 3)), none, []⟩,
    ⟨none, (.store 1 (.t 26) (.t 25)), none, []⟩] none)
  .skip))
  (.seq (.region [⟨(some 27), (.load (some 4) (.t 3)), none, []⟩,
    ⟨none, (.store 4 (.t 6) (.t 27)), none, []⟩,
    ⟨(some 7), (.mov (.c (.bool true))), none, []⟩] none)
  .ret))))))
def F11 : AFunc := ⟨3, 28, [(.cell 6 (some 4)), (.tmp 7)], B11⟩
/-- toll/tollref11.To -/
def B12 : ACode := (.seq (.region [⟨(some 2), (.box 29 (.t 0)), none, []⟩,
    ⟨(some 4), (.alloc 29 [(.float .f64 0), (.float .f64 0), (.float .f64 0), (.int .i64 0)]), none, []⟩] none)
  (.seq (.region [⟨(some 5), (.load (some 4) (.t 2)), none, []⟩,
    ⟨(some 6), (.call (.f 26) [(.t 5)]), none, []⟩,
    ⟨none, (.store 4 (.t 2) (.t 6)), none, []⟩] none)
  (.seq (.seq (.region [⟨(some 7), (.mov (.t 1)), none, []⟩,
    ⟨(some 8), (.fieldAddr 3 (.t 2)), none, []⟩,
    ⟨(some 9), (.load none (.t 8)), none, []⟩,
    ⟨(some 10), (.bin .gtr (.t 7) (.t 9)), none, []⟩] none)
  (.cond (.t 10)
  (.seq (.region [⟨(some 11), (.load (some 4) (.t 2)), none, []⟩,
    ⟨(some 12), (.mov (.t 1)), none, []⟩,
    ⟨(some 13), (.conv .u64 (.t 12)), none, []⟩,
    ⟨(some 14), (.fieldAddr 3 (.t 2)), none, []⟩,
    ⟨(some 15), (.load none (.t 14)), none, []⟩,
    ⟨(some 16), (.conv .u64 (.t 15)), none, []⟩,
    ⟨(some 17), (.bin .sub (.t 13) (.t 16)), none, []⟩,
    ⟨(some 18), (.call (.f 30) [(.t 11), (.t 17)]), none, []⟩,
    ⟨(some 19), (.fieldAddr 2 (.t 2)), none, []⟩,
    ⟨none, (.store 1 (.t 19) (.t 18)), none, []⟩] none)
  (.region [⟨(some 20), (.mov (.t 1)), none, []⟩,
    ⟨(some 21), (.fieldAddr 3 (.t 2)), none, []⟩,
    ⟨none, (.store 1 (.t 21) (.t 20)), none, []⟩] none))
  .skip))
  (.seq (.region [⟨(some 22), (.load (some 4) (.t 2)), none, []⟩,
    ⟨none, (.store 4 (.t 4) (.t 22)), none, []⟩] none)
  .ret))))
def F12 : AFunc := ⟨2, 23, [(.cell 4 (some 4))], B12⟩
/-- toll/tolllaw11.alike -/
def B13 : ACode := (.seq (.region [⟨(some 4), (.mov (.c (.bool false))), none, []⟩] none)
  (.seq (.region [⟨(some 5), (.mov (.t 0)), none, []⟩,
    ⟨(some 6), (.call (.f 31) [(.t 5)]), none, []⟩,
    ⟨(some 7), (.mov (.t 1)), none, []⟩,
    ⟨(some 8), (.call (.f 31) [(.t 7)]), none, []⟩,
    ⟨(some 9), (.bin .eql (.t 6) (.t 8)), none, []⟩,
    ⟨(some 10), (.mov (.t 9)), none, []⟩,
    ⟨(some 11), (.mov (.t 0)), (some (10, false)), []⟩,
    ⟨(some 12), (.mov (.t 0)), (some (10, false)), []⟩,
    ⟨(some 13), (.bin .neq (.t 11) (.t 12)), (some (10, false)), []⟩,
    ⟨(some 14), (.mov (.t 13)), (some (10, false)), []⟩,
    ⟨(some 15), (.mov (.t 1)), (some (14, true)), []⟩,
    ⟨(some 16), (.mov (.t 1)), (some (14, true)), []⟩,
    ⟨(some 17), (.bin .neq (.t 15) (.t 16)), (some (14, true)), []⟩,
    ⟨(some 18), (.pick (.t 14) (.t 17) (.c (.bool false))), (some (10, false)), []⟩,
    ⟨(some 19), (.pick (.t 10) (.c (.bool true)) (.t 18)), none, []⟩,
    ⟨(some 4), (.mov (.t 19)), none, []⟩] none)
  .ret))
def F13 : AFunc := ⟨2, 20, [(.tmp 4)], B13⟩
/-- (*toll/rate.Bucket).Has -/
def B14 : ACode := (.seq (.region [⟨(some 4), (.mov (.c (.float .f64 0))), none, []⟩] none)
  (.seq (.seq (.region [⟨(some 5), (.mov (.t 0)), none, []⟩,
    ⟨(some 6), (.eqv false .ptr false (.t 5) (.c (.pointer none))), none, []⟩] none)
  (.cond (.t 6)
  (.seq (.region [⟨(some 4), (.mov (.c (.float .f64 0))), none, []⟩] none)
  .ret)
  .skip))
  (.seq (.region [⟨(some 7), (.mov (.t 0)), none, []⟩,
    ⟨(some 8), (.mov (.t 1)), none, []⟩,
    ⟨(some 9), (.call (.f 32) [(.t 7), (.t 8)]), none, []⟩] none)
  (.seq (.region [⟨(some 10), (.mov (.t 0)), none, []⟩,
    ⟨(some 11), (.nilCheck (.t 10)), none, []⟩,
    ⟨(some 12), (.fieldAddr 2 (.t 11)), none, []⟩,
    ⟨(some 13), (.load none (.t 12)), none, []⟩,
    ⟨(some 4), (.mov (.t 13)), none, []⟩] none)
  .ret))))
def F14 : AFunc := ⟨2, 14, [(.tmp 4)], B14⟩
/-- (*toll/rate.Bucket).Wait -/
def B15 : ACode := (.seq (.region [⟨(some 3), (.box 24 (.t 1)), none, []⟩,
    ⟨(some 4), (.mov (.c (.int .i64 0))), none, []⟩,
    ⟨(some 5), (.mov (.c (.bool false))), none, []⟩] none)
  (.seq (.seq (.region [⟨(some 8), (.mov (.t 0)), none, []⟩,
    ⟨(some 9), (.eqv false .ptr false (.t 8) (.c (.pointer none))), none, []⟩] none)
  (.cond (.t 9)
  (.seq (.region [⟨(some 4), (.mov (.c (.int .i64 0))), none, []⟩,
    ⟨(some 5), (.mov (.c (.bool false))), none, []⟩] none)
  .ret)
  .skip))
  (.seq (.region [⟨(some 10), (.mov (.t 0)), none, []⟩,
    ⟨(some 11), (.nilCheck (.t 10)), none, []⟩,
    ⟨(some 12), (.load (some 4) (.t 11)), none, []⟩,
    ⟨(some 6), (.alloc 26 [(.float .f64 0), (.float .f64 0), (.float .f64 0), (.int .i64 0)]), none, []⟩,
    ⟨none, (.store 4 (.t 6) (.t 12)), none, []⟩] none)
  (.seq (.region [⟨(some 13), (.call (.f 25) [(.t 6)]), none, []⟩] none)
  (.seq (.region [⟨(some 14), (.load none (.t 3)), none, []⟩,
    ⟨(some 15), (.call (.f 19) [(.t 14)]), none, []⟩,
    ⟨none, (.store 1 (.t 3) (.t 15)), none, []⟩] none)
  (.seq (.region [⟨(some 16), (.makeFunc 34 [] [(.t 6), (.t 3)]), none, []⟩,
    ⟨(some 17), (.call (.f 33) [(.c (.int .i64 1099511627777)), (.t 16)]), none, []⟩,
    ⟨(some 7), (.mov (.t 17)), none, []⟩] none)
  (.seq (.seq (.region [⟨(some 18), (.mov (.t 7)), none, []⟩,
    ⟨(some 19), (.bin .gtr (.t 18) (.c (.int .i64 1099511627776))), none, []⟩] none)
  (.cond (.t 19)
  (.seq (.region [⟨(some 4), (.mov (.c (.int .i64 0))), none, []⟩,
    ⟨(some 5), (.mov (.c (.bool false))), none, []⟩] none)
  .ret)
  .skip))
  (.seq (.region [⟨(some 20), (.mov (.t 7)), none, []⟩,
    ⟨(some 4), (.mov (.t 20)), none, []⟩,
    ⟨(some 5), (.mov (.c (.bool true))), none, []⟩] none)
  .ret))))))))
def F15 : AFunc := ⟨2, 21, [(.tmp 4), (.tmp 5)], B15⟩
/-- toll/tollref11.Wait -/
def F16L0 : ACode := (.seq (.seq (.region [⟨(some 17), (.mov (.t 6)), none, []⟩,
    ⟨(some 18), (.mov (.t 7)), none, []⟩,
    ⟨(some 19), (.bin .lss (.t 17) (.t 18)), none, []⟩] none)
  (.cond (.t 19)
  .skip
  (.exit 0)))
  (.block 1 (.seq (.region [⟨(some 20), (.mov (.t 6)), none, []⟩,
    ⟨(some 21), (.mov (.t 7)), none, []⟩,
    ⟨(some 22), (.mov (.t 6)), none, []⟩,
    ⟨(some 23), (.bin .sub (.t 21) (.t 22)), none, []⟩,
    ⟨(some 24), (.bin .quo (.t 23) (.c (.int .u64 2))), none, []⟩,
    ⟨(some 25), (.bin .add (.t 20) (.t 24)), none, []⟩,
    ⟨(some 8), (.mov (.t 25)), none, []⟩] none)
  (.seq (.region [⟨(some 26), (.load (some 4) (.t 2)), none, []⟩,
    ⟨(some 27), (.mov (.t 8)), none, []⟩,
    ⟨(some 28), (.call (.f 30) [(.t 26), (.t 27)]), none, []⟩,
    ⟨(some 29), (.mov (.t 1)), none, []⟩,
    ⟨(some 30), (.bin .geq (.t 28) (.t 29)), none, []⟩] none)
  (.cond (.t 30)
  (.region [⟨(some 31), (.mov (.t 8)), none, []⟩,
    ⟨(some 7), (.mov (.t 31)), none, []⟩] none)
  (.region [⟨(some 32), (.mov (.t 8)), none, []⟩,
    ⟨(some 33), (.bin .add (.t 32) (.c (.int .u64 1))), none, []⟩,
    ⟨(some 6), (.mov (.t 33)), none, []⟩] none))))))
def B16 : ACode := (.seq (.region [⟨(some 2), (.box 29 (.t 0)), none, []⟩,
    ⟨(some 4), (.mov (.c (.int .i64 0))), none, []⟩,
    ⟨(some 5), (.mov (.c (.bool false))), none, []⟩] none)
  (.seq (.region [⟨(some 9), (.load (some 4) (.t 2)), none, []⟩,
    ⟨(some 10), (.call (.f 26) [(.t 9)]), none, []⟩,
    ⟨none, (.store 4 (.t 2) (.t 10)), none, []⟩] none)
  (.seq (.region [⟨(some 11), (.mov (.t 1)), none, []⟩,
    ⟨(some 12), (.call (.f 28) [(.t 11)]), none, []⟩,
    ⟨(some 1), (.mov (.t 12)), none, []⟩] none)
  (.seq (.seq (.region [⟨(some 13), (.load (some 4) (.t 2)), none, []⟩,
    ⟨(some 14), (.call (.f 30) [(.t 13), (.c (.int .u64 1099511627776))]), none, []⟩,
    ⟨(some 15), (.mov (.t 1)), none, []⟩,
    ⟨(some 16), (.bin .lss (.t 14) (.t 15)), none, []⟩] none)
  (.cond (.t 16)
  (.seq (.region [⟨(some 4), (.mov (.c (.int .i64 0))), none, []⟩,
    ⟨(some 5), (.mov (.c (.bool false))), none, []⟩] none)
  .ret)
  .skip))
  (.seq (.region [⟨(some 6), (.mov (.c (.int .u64 0))), none, []⟩] none)
  (.seq (.region [⟨(some 7), (.mov (.c (.int .u64 1099511627776))), none, []⟩] none)
  (.seq (.block 0 (.loop F16L0))
  (.seq (.region [⟨(some 34), (.mov (.t 6)), none, []⟩,
    ⟨(some 35), (.conv .i64 (.t 34)), none, []⟩,
    ⟨(some 4), (.mov (.t 35)), none, []⟩,
    ⟨(some 5), (.mov (.c (.bool true))), none, []⟩] none)
  .ret))))))))
def F16 : AFunc := ⟨2, 36, [(.tmp 4), (.tmp 5)], B16⟩
-- F16L0 live: [1, 2, 6, 7]
/-- toll/tolllaw11.same -/
def B17 : ACode := (.seq (.region [⟨(some 2), (.box 26 (.t 0)), none, []⟩,
    ⟨(some 3), (.box 29 (.t 1)), none, []⟩,
    ⟨(some 4), (.mov (.c (.bool false))), none, []⟩] none)
  (.seq (.region [⟨(some 5), (.fieldAddr 0 (.t 2)), none, []⟩,
    ⟨(some 6), (.load none (.t 5)), none, []⟩,
    ⟨(some 7), (.fieldAddr 0 (.t 3)), none, []⟩,
    ⟨(some 8), (.load none (.t 7)), none, []⟩,
    ⟨(some 9), (.call (.f 13) [(.t 6), (.t 8)]), none, []⟩,
    ⟨(some 10), (.mov (.t 9)), none, []⟩,
    ⟨(some 11), (.fieldAddr 1 (.t 2)), (some (10, true)), []⟩,
    ⟨(some 12), (.load none (.t 11)), (some (10, true)), []⟩,
    ⟨(some 13), (.fieldAddr 1 (.t 3)), (some (10, true)), []⟩,
    ⟨(some 14), (.load none (.t 13)), (some (10, true)), []⟩,
    ⟨(some 15), (.call (.f 13) [(.t 12), (.t 14)]), (some (10, true)), []⟩,
    ⟨(some 16), (.pick (.t 10) (.t 15) (.c (.bool false))), none, []⟩,
    ⟨(some 17), (.mov (.t 16)), none, []⟩,
    ⟨(some 18), (.fieldAddr 2 (.t 2)), (some (17, true)), []⟩,
    ⟨(some 19), (.load none (.t 18)), (some (17, true)), []⟩,
    ⟨(some 20), (.fieldAddr 2 (.t 3)), (some (17, true)), []⟩,
    ⟨(some 21), (.load none (.t 20)), (some (17, true)), []⟩,
    ⟨(some 22), (.call (.f 13) [(.t 19), (.t 21)]), (some (17, true)), []⟩,
    ⟨(some 23), (.pick (.t 17) (.t 22) (.c (.bool false))), none, []⟩,
    ⟨(some 24), (.mov (.t 23)), none, []⟩,
    ⟨(some 25), (.fieldAddr 3 (.t 2)), (some (24, true)), []⟩,
    ⟨(some 26), (.load none (.t 25)), (some (24, true)), []⟩,
    ⟨(some 27), (.fieldAddr 3 (.t 3)), (some (24, true)), []⟩,
    ⟨(some 28), (.load none (.t 27)), (some (24, true)), []⟩,
    ⟨(some 29), (.bin .eql (.t 26) (.t 28)), (some (24, true)), []⟩,
    ⟨(some 30), (.pick (.t 24) (.t 29) (.c (.bool false))), none, []⟩,
    ⟨(some 4), (.mov (.t 30)), none, []⟩] none)
  .ret))
def F17 : AFunc := ⟨2, 31, [(.tmp 4)], B17⟩
def R18_0 : ACode := .region [⟨(some 7), (.call (.f 7) [(.c (.float .f64 4602678819172646912)), (.c (.float .f64 4611686018427387904)), (.c (.int .i64 0))]), none, []⟩,
    ⟨(some 8), (.load none (.g 1)), none, []⟩,
    ⟨(some 9), (.call (.f 7) [(.t 8), (.c (.float .f64 4613937818241073152)), (.c (.int .i64 0))]), none, [1, 0]⟩,
    ⟨(some 1), (.alloc 26 [(.float .f64 0), (.float .f64 0), (.float .f64 0), (.int .i64 0)]), none, []⟩,
    ⟨(some 2), (.alloc 26 [(.float .f64 0), (.float .f64 0), (.float .f64 0), (.int .i64 0)]), none, []⟩,
    ⟨none, (.store 4 (.t 1) (.t 7)), none, [3, 0, 2, 0, 1, 2, 3, 4]⟩,
    ⟨none, (.store 4 (.t 2) (.t 9)), none, [4, 2, 5, 0, 1, 2, 3, 4, 5]⟩] (some [(0, 1), (0, 3), (1, 3), (2, 3), (0, 4), (1, 4), (2, 4), (3, 4)])
def R18_1 : ACode := .region [⟨(some 30), (.load none (.g 1)), none, []⟩,
    ⟨(some 31), (.call (.f 22) []), none, []⟩,
    ⟨(some 32), (.call (.f 20) [(.t 30), (.t 31)]), none, [0, 1, 1]⟩,
    ⟨(some 33), (.mov (.t 32)), none, [2, 2]⟩,
    ⟨(some 34), (.call (.f 36) [(.c (.float .f64 0)), (.c (.float .f64 13830554455654793216))]), (some (33, true)), [3, 3]⟩,
    ⟨(some 35), (.call (.f 21) [(.t 34), (.c (.float .f64 0))]), (some (33, true)), [4, 4, 3]⟩,
    ⟨(some 36), (.pick (.t 33) (.t 35) (.c (.bool false))), none, [3, 5]⟩,
    ⟨(some 37), (.mov (.t 36)), none, [6, 5]⟩,
    ⟨(some 38), (.call (.f 22) []), (some (37, true)), [7, 7]⟩,
    ⟨(some 39), (.call (.f 22) []), (some (37, true)), [8, 7]⟩,
    ⟨(some 40), (.call (.f 20) [(.t 38), (.t 39)]), (some (37, true)), [8, 9, 9, 7]⟩,
    ⟨(some 41), (.un .not (.t 40)), (some (37, true)), [10, 7]⟩,
    ⟨(some 42), (.pick (.t 37) (.t 41) (.c (.bool false))), none, [7, 11]⟩,
    ⟨(some 43), (.mov (.t 42)), none, [12, 10]⟩,
    ⟨(some 44), (.call (.f 37) [(.c (.float .f64 4591870180066957722))]), (some (43, true)), [13, 13]⟩,
    ⟨(some 45), (.bin .eql (.t 44) (.c (.string ⟨#[48, 46, 49]⟩))), (some (43, true)), [14, 13]⟩,
    ⟨(some 46), (.pick (.t 43) (.t 45) (.c (.bool false))), none, [13, 15]⟩,
    ⟨(some 47), (.mov (.t 46)), none, [16, 14]⟩,
    ⟨(some 48), (.call (.f 22) []), (some (47, true)), [17, 17]⟩,
    ⟨(some 49), (.call (.f 37) [(.t 48)]), (some (47, true)), [18, 18, 17]⟩,
    ⟨(some 50), (.bin .eql (.t 49) (.c (.string ⟨#[48]⟩))), (some (47, true)), [19, 17]⟩,
    ⟨(some 51), (.pick (.t 47) (.t 50) (.c (.bool false))), none, [17, 20]⟩,
    ⟨(some 52), (.mov (.t 51)), none, [21, 19]⟩,
    ⟨(some 53), (.call (.f 37) [(.c (.float .f64 4921056587992461136))]), (some (52, true)), [22, 22]⟩,
    ⟨(some 54), (.bin .eql (.t 53) (.c (.string ⟨#[49, 48, 48, 48, 48, 48, 48, 48, 48, 48, 48, 48, 48, 48, 48, 48, 48, 48, 48, 48, 48, 48]⟩))), (some (52, true)), [23, 22]⟩,
    ⟨(some 55), (.pick (.t 52) (.t 54) (.c (.bool false))), none, [22, 24]⟩,
    ⟨(some 56), (.mov (.t 55)), none, [25, 23]⟩,
    ⟨(some 57), (.mov (.t 3)), (some (56, true)), [26]⟩,
    ⟨(some 58), (.pick (.t 56) (.t 57) (.c (.bool false))), none, [26, 27]⟩,
    ⟨(some 59), (.mov (.t 58)), none, [28, 26]⟩,
    ⟨(some 60), (.mov (.t 5)), (some (59, true)), [29]⟩,
    ⟨(some 61), (.pick (.t 59) (.t 60) (.c (.bool false))), none, [29, 30]⟩,
    ⟨(some 62), (.mov (.t 61)), none, [31, 29]⟩,
    ⟨(some 63), (.mov (.t 4)), (some (62, true)), [32]⟩,
    ⟨(some 64), (.bin .eql (.t 63) (.c (.int .i64 4))), (some (62, true)), [33, 32]⟩,
    ⟨(some 65), (.pick (.t 62) (.t 64) (.c (.bool false))), none, [32, 34]⟩,
    ⟨(some 66), (.mov (.t 65)), none, [35, 32]⟩,
    ⟨(some 67), (.mov (.t 6)), (some (66, true)), [36]⟩,
    ⟨(some 68), (.pick (.t 66) (.t 67) (.c (.bool false))), none, [36, 37]⟩,
    ⟨(some 0), (.mov (.t 68)), none, [38, 36, 0, 1, 2, 3, 4, 5, 6, 7, 8, 9, 10, 11, 12, 13, 14, 15, 16, 17, 18, 19, 20, 21, 22, 23, 24, 25, 26, 27, 28, 29, 30, 31, 32, 33, 34, 35, 36, 37, 38]⟩] (some [(0, 1)])
/-- toll/tolllaw11.wakes -/
def B18 : ACode := (.seq (.region [⟨(some 0), (.mov (.c (.bool false))), none, []⟩] none)
  (.seq R18_0
  (.seq (.region [⟨(some 10), (.call (.f 10) [(.t 1), (.c (.int .i64 0)), (.c (.float .f64 4611686018427387904))]), none, []⟩,
    ⟨(some 11), (.mov (.t 10)), none, []⟩,
    ⟨(some 12), (.call (.f 10) [(.t 1), (.c (.int .i64 1)), (.c (.float .f64 4607182418800017408))]), (some (11, true)), []⟩,
    ⟨(some 13), (.un .not (.t 12)), (some (11, true)), []⟩,
    ⟨(some 14), (.pick (.t 11) (.t 13) (.c (.bool false))), none, []⟩,
    ⟨(some 15), (.mov (.t 14)), none, []⟩,
    ⟨(some 16), (.call (.f 10) [(.t 1), (.c (.int .i64 2)), (.c (.float .f64 4607182418800017408))]), (some (15, true)), []⟩,
    ⟨(some 17), (.pick (.t 15) (.t 16) (.c (.bool false))), none, []⟩,
    ⟨(some 3), (.mov (.t 17)), none, []⟩] none)
  (.seq (.region [⟨(some 19), (.call (.f 15) [(.t 1), (.c (.float .f64 4611686018427387904))]), none, []⟩,
    ⟨(some 18), (.mov (.t 19)), none, []⟩,
    ⟨(some 20), (.extract (.t 18) 0), none, []⟩,
    ⟨(some 21), (.extract (.t 18) 1), none, []⟩,
    ⟨(some 4), (.mov (.t 20)), none, []⟩,
    ⟨(some 5), (.mov (.t 21)), none, []⟩] none)
  (.seq (.region [⟨(some 22), (.call (.f 10) [(.t 2), (.c (.int .i64 0)), (.c (.float .f64 4613937818241073152))]), none, []⟩,
    ⟨(some 23), (.mov (.t 22)), none, []⟩,
    ⟨(some 24), (.call (.f 10) [(.t 2), (.c (.int .i64 0)), (.c (.float .f64 4607182418800017408))]), (some (23, true)), []⟩,
    ⟨(some 25), (.un .not (.t 24)), (some (23, true)), []⟩,
    ⟨(some 26), (.pick (.t 23) (.t 25) (.c (.bool false))), none, []⟩,
    ⟨(some 27), (.mov (.t 26)), none, []⟩,
    ⟨(some 28), (.call (.f 10) [(.t 2), (.c (.int .i64 1)), (.c (.float .f64 4613937818241073152))]), (some (27, true)), []⟩,
    ⟨(some 29), (.pick (.t 27) (.t 28) (.c (.bool false))), none, []⟩,
    ⟨(some 6), (.mov (.t 29)), none, []⟩] none)
  (.seq R18_1
  .ret))))))
def F18 : AFunc := ⟨0, 69, [(.tmp 0)], B18⟩
/-- toll/rate.Clean -/
def B19 : ACode := (.seq (.region [⟨(some 2), (.mov (.c (.float .f64 0))), none, []⟩] none)
  (.seq (.seq (.region [⟨(some 3), (.mov (.t 0)), none, []⟩,
    ⟨(some 4), (.bin .gtr (.t 3) (.c (.float .f64 0))), none, []⟩] none)
  (.cond (.t 4)
  (.seq (.region [⟨(some 5), (.mov (.t 0)), none, []⟩,
    ⟨(some 2), (.mov (.t 5)), none, []⟩] none)
  .ret)
  .skip))
  (.seq (.region [⟨(some 2), (.mov (.c (.float .f64 0))), none, []⟩] none)
  .ret)))
def F19 : AFunc := ⟨1, 6, [(.tmp 2)], B19⟩
/-- toll/rate.Less -/
def B20 : ACode := (.seq (.region [⟨(some 4), (.mov (.c (.bool false))), none, []⟩] none)
  (.seq (.seq (.region [⟨(some 5), (.mov (.t 0)), none, []⟩,
    ⟨(some 6), (.call (.f 38) [(.t 5)]), none, []⟩,
    ⟨(some 7), (.mov (.t 6)), none, []⟩,
    ⟨(some 8), (.mov (.t 1)), (some (7, false)), []⟩,
    ⟨(some 9), (.call (.f 38) [(.t 8)]), (some (7, false)), []⟩,
    ⟨(some 10), (.pick (.t 7) (.c (.bool true)) (.t 9)), none, []⟩] none)
  (.cond (.t 10)
  (.seq (.region [⟨(some 11), (.mov (.t 0)), none, []⟩,
    ⟨(some 12), (.call (.f 38) [(.t 11)]), none, []⟩,
    ⟨(some 13), (.un .not (.t 12)), none, []⟩,
    ⟨(some 14), (.mov (.t 13)), none, []⟩,
    ⟨(some 15), (.mov (.t 1)), (some (14, true)), []⟩,
    ⟨(some 16), (.call (.f 38) [(.t 15)]), (some (14, true)), []⟩,
    ⟨(some 17), (.pick (.t 14) (.t 16) (.c (.bool false))), none, []⟩,
    ⟨(some 4), (.mov (.t 17)), none, []⟩] none)
  .ret)
  .skip))
  (.seq (.region [⟨(some 18), (.mov (.t 0)), none, []⟩,
    ⟨(some 19), (.mov (.t 1)), none, []⟩,
    ⟨(some 20), (.bin .lss (.t 18) (.t 19)), none, []⟩,
    ⟨(some 4), (.mov (.t 20)), none, []⟩] none)
  .ret)))
def F20 : AFunc := ⟨2, 21, [(.tmp 4)], B20⟩
/-- toll/rate.Same -/
def B21 : ACode := (.seq (.region [⟨(some 4), (.mov (.c (.bool false))), none, []⟩] none)
  (.seq (.region [⟨(some 5), (.mov (.t 0)), none, []⟩,
    ⟨(some 6), (.mov (.t 1)), none, []⟩,
    ⟨(some 7), (.call (.f 20) [(.t 5), (.t 6)]), none, []⟩,
    ⟨(some 8), (.un .not (.t 7)), none, []⟩,
    ⟨(some 9), (.mov (.t 8)), none, []⟩,
    ⟨(some 10), (.mov (.t 1)), (some (9, true)), []⟩,
    ⟨(some 11), (.mov (.t 0)), (some (9, true)), []⟩,
    ⟨(some 12), (.call (.f 20) [(.t 10), (.t 11)]), (some (9, true)), []⟩,
    ⟨(some 13), (.un .not (.t 12)), (some (9, true)), []⟩,
    ⟨(some 14), (.pick (.t 9) (.t 13) (.c (.bool false))), none, []⟩,
    ⟨(some 4), (.mov (.t 14)), none, []⟩] none)
  .ret))
def F21 : AFunc := ⟨2, 15, [(.tmp 4)], B21⟩
/-- math.NaN -/
def B22 : ACode := (.seq (.region [⟨(some 0), (.mov (.c (.float .f64 0))), none, []⟩] none)
  (.seq (.region [⟨(some 1), (.call (.f 8) [(.c (.int .u64 9221120237041090561))]), none, []⟩,
    ⟨(some 0), (.mov (.t 1)), none, []⟩] none)
  .ret))
def F22 : AFunc := ⟨0, 2, [(.tmp 0)], B22⟩
/-- math.Inf -/
def B23 : ACode := (.seq (.region [⟨(some 2), (.mov (.c (.float .f64 0))), none, []⟩] none)
  (.seq (.region [⟨(some 3), (.mov (.c (.int .u64 0))), none, []⟩] none)
  (.seq (.seq (.region [⟨(some 4), (.mov (.t 0)), none, []⟩,
    ⟨(some 5), (.bin .geq (.t 4) (.c (.int .i64 0))), none, []⟩] none)
  (.cond (.t 5)
  (.region [⟨(some 3), (.mov (.c (.int .u64 9218868437227405312))), none, []⟩] none)
  (.region [⟨(some 3), (.mov (.c (.int .u64 18442240474082181120))), none, []⟩] none)))
  (.seq (.region [⟨(some 6), (.mov (.t 3)), none, []⟩,
    ⟨(some 7), (.call (.f 8) [(.t 6)]), none, []⟩,
    ⟨(some 2), (.mov (.t 7)), none, []⟩] none)
  .ret))))
def F23 : AFunc := ⟨1, 8, [(.tmp 2)], B23⟩
/-- math.Signbit -/
def B24 : ACode := (.seq (.region [⟨(some 2), (.mov (.c (.bool false))), none, []⟩] none)
  (.seq (.region [⟨(some 3), (.mov (.t 0)), none, []⟩,
    ⟨(some 4), (.call (.f 31) [(.t 3)]), none, []⟩,
    ⟨(some 5), (.conv .i64 (.t 4)), none, []⟩,
    ⟨(some 6), (.bin .lss (.t 5) (.c (.int .i64 0))), none, []⟩,
    ⟨(some 2), (.mov (.t 6)), none, []⟩] none)
  .ret))
def F24 : AFunc := ⟨1, 7, [(.tmp 2)], B24⟩
def R25_0 : ACode := .region [⟨(some 2), (.mov (.t 0)), none, []⟩,
    ⟨(some 3), (.mov (.t 0)), none, []⟩,
    ⟨(some 4), (.mov (.t 0)), none, []⟩,
    ⟨(some 5), (.nilCheck (.t 4)), none, [2]⟩,
    ⟨(some 6), (.fieldAddr 0 (.t 5)), none, [3]⟩,
    ⟨(some 7), (.load none (.t 6)), none, [4]⟩,
    ⟨(some 8), (.call (.f 19) [(.t 7)]), none, [5]⟩,
    ⟨(some 9), (.mov (.t 0)), none, []⟩,
    ⟨(some 10), (.nilCheck (.t 9)), none, [7]⟩,
    ⟨(some 11), (.fieldAddr 1 (.t 10)), none, [8]⟩,
    ⟨(some 12), (.load none (.t 11)), none, [9]⟩,
    ⟨(some 13), (.call (.f 19) [(.t 12)]), none, [10, 6]⟩,
    ⟨(some 14), (.nilCheck (.t 2)), none, [0, 0, 2, 3, 4, 5, 6, 10, 11]⟩,
    ⟨(some 15), (.fieldAddr 0 (.t 14)), none, [12, 0, 2, 3, 4, 5, 6, 10, 11]⟩,
    ⟨none, (.store 1 (.t 15) (.t 8)), none, [13, 6, 11, 0, 2, 3, 4, 5, 6, 10, 11]⟩,
    ⟨(some 16), (.nilCheck (.t 3)), none, [1, 0, 1, 2, 3, 4, 5, 6, 7, 8, 9, 10, 11, 12, 13, 14]⟩,
    ⟨(some 17), (.fieldAddr 1 (.t 16)), none, [15, 0, 1, 2, 3, 4, 5, 6, 7, 8, 9, 10, 11, 12, 13, 14]⟩,
    ⟨none, (.store 1 (.t 17) (.t 13)), none, [16, 11, 14, 0, 1, 2, 3, 4, 5, 6, 7, 8, 9, 10, 11, 12, 13, 14]⟩] (some [(0, 1), (0, 2), (1, 2), (0, 3), (1, 3), (0, 4), (1, 4), (0, 5), (1, 5), (0, 6), (1, 6), (0, 7), (1, 7), (2, 7), (3, 7), (4, 7), (5, 7), (6, 7), (0, 8), (1, 8), (2, 8), (3, 8), (4, 8), (5, 8), (6, 8), (0, 9), (1, 9), (2, 9), (3, 9), (4, 9), (5, 9), (6, 9), (0, 10), (1, 10), (2, 10), (3, 10), (4, 10), (5, 10), (6, 10), (0, 11), (1, 11), (1, 12), (1, 13), (1, 14)])
def R25_1 : ACode := .region [⟨(some 18), (.mov (.t 0)), none, []⟩,
    ⟨(some 19), (.mov (.t 0)), none, []⟩,
    ⟨(some 20), (.nilCheck (.t 19)), none, [1]⟩,
    ⟨(some 21), (.fieldAddr 2 (.t 20)), none, [2]⟩,
    ⟨(some 22), (.load none (.t 21)), none, [3]⟩,
    ⟨(some 23), (.call (.f 19) [(.t 22)]), none, [4]⟩,
    ⟨(some 24), (.mov (.t 0)), none, []⟩,
    ⟨(some 25), (.nilCheck (.t 24)), none, [6]⟩,
    ⟨(some 26), (.fieldAddr 1 (.t 25)), none, [7]⟩,
    ⟨(some 27), (.load none (.t 26)), none, [8]⟩,
    ⟨(some 28), (.min [(.t 23), (.t 27)]), none, [5, 9]⟩,
    ⟨(some 29), (.nilCheck (.t 18)), none, [0, 0, 1, 2, 3, 4, 5, 6, 7, 8, 9, 10]⟩,
    ⟨(some 30), (.fieldAddr 2 (.t 29)), none, [11, 0, 1, 2, 3, 4, 5, 6, 7, 8, 9, 10]⟩,
    ⟨none, (.store 1 (.t 30) (.t 28)), none, [12, 10, 5, 0, 1, 2, 3, 4, 5, 6, 7, 8, 9, 10]⟩] (some [(0, 1), (0, 2), (0, 3), (0, 4), (0, 5), (0, 6), (1, 6), (2, 6), (3, 6), (4, 6), (5, 6), (0, 7), (1, 7), (2, 7), (3, 7), (4, 7), (5, 7), (0, 8), (1, 8), (2, 8), (3, 8), (4, 8), (5, 8), (0, 9), (1, 9), (2, 9), (3, 9), (4, 9), (5, 9), (0, 10)])
/-- (*toll/rate.Bucket).clean -/
def B25 : ACode := (.seq R25_0
  R25_1)
def F25 : AFunc := ⟨1, 31, [], B25⟩
/-- toll/tollref11.clean -/
def B26 : ACode := (.seq (.region [⟨(some 1), (.box 29 (.t 0)), none, []⟩,
    ⟨(some 2), (.alloc 29 [(.float .f64 0), (.float .f64 0), (.float .f64 0), (.int .i64 0)]), none, []⟩] none)
  (.seq (.region [⟨(some 3), (.fieldAddr 0 (.t 1)), none, []⟩,
    ⟨(some 4), (.load none (.t 3)), none, []⟩,
    ⟨(some 5), (.call (.f 28) [(.t 4)]), none, []⟩,
    ⟨(some 6), (.fieldAddr 0 (.t 1)), none, []⟩,
    ⟨none, (.store 1 (.t 6) (.t 5)), none, []⟩] none)
  (.seq (.region [⟨(some 7), (.fieldAddr 1 (.t 1)), none, []⟩,
    ⟨(some 8), (.load none (.t 7)), none, []⟩,
    ⟨(some 9), (.call (.f 28) [(.t 8)]), none, []⟩,
    ⟨(some 10), (.fieldAddr 1 (.t 1)), none, []⟩,
    ⟨none, (.store 1 (.t 10) (.t 9)), none, []⟩] none)
  (.seq (.region [⟨(some 11), (.fieldAddr 2 (.t 1)), none, []⟩,
    ⟨(some 12), (.load none (.t 11)), none, []⟩,
    ⟨(some 13), (.call (.f 28) [(.t 12)]), none, []⟩,
    ⟨(some 14), (.fieldAddr 2 (.t 1)), none, []⟩,
    ⟨none, (.store 1 (.t 14) (.t 13)), none, []⟩] none)
  (.seq (.seq (.region [⟨(some 15), (.fieldAddr 2 (.t 1)), none, []⟩,
    ⟨(some 16), (.load none (.t 15)), none, []⟩,
    ⟨(some 17), (.fieldAddr 1 (.t 1)), none, []⟩,
    ⟨(some 18), (.load none (.t 17)), none, []⟩,
    ⟨(some 19), (.bin .gtr (.t 16) (.t 18)), none, []⟩] none)
  (.cond (.t 19)
  (.region [⟨(some 20), (.fieldAddr 1 (.t 1)), none, []⟩,
    ⟨(some 21), (.load none (.t 20)), none, []⟩,
    ⟨(some 22), (.fieldAddr 2 (.t 1)), none, []⟩,
    ⟨none, (.store 1 (.t 22) (.t 21)), none, []⟩] none)
  .skip))
  (.seq (.region [⟨(some 23), (.load (some 4) (.t 1)), none, []⟩,
    ⟨none, (.store 4 (.t 2) (.t 23)), none, []⟩] none)
  .ret))))))
def F26 : AFunc := ⟨1, 24, [(.cell 2 (some 4))], B26⟩
/-- math.IsInf -/
def B27 : ACode := (.seq (.region [⟨(some 4), (.mov (.c (.bool false))), none, []⟩] none)
  (.seq (.seq (.region [⟨(some 5), (.mov (.t 1)), none, []⟩,
    ⟨(some 6), (.bin .eql (.t 5) (.c (.int .i64 0))), none, []⟩] none)
  (.cond (.t 6)
  (.region [⟨(some 7), (.mov (.t 0)), none, []⟩,
    ⟨(some 8), (.call (.f 39) [(.t 7)]), none, []⟩,
    ⟨(some 0), (.mov (.t 8)), none, []⟩] none)
  (.seq (.region [⟨(some 9), (.mov (.t 1)), none, []⟩,
    ⟨(some 10), (.bin .lss (.t 9) (.c (.int .i64 0))), none, []⟩] none)
  (.cond (.t 10)
  (.region [⟨(some 11), (.mov (.t 0)), none, []⟩,
    ⟨(some 12), (.un .neg (.t 11)), none, []⟩,
    ⟨(some 0), (.mov (.t 12)), none, []⟩] none)
  .skip))))
  (.seq (.region [⟨(some 13), (.mov (.t 0)), none, []⟩,
    ⟨(some 14), (.bin .gtr (.t 13) (.c (.float .f64 9218868437227405311))), none, []⟩,
    ⟨(some 4), (.mov (.t 14)), none, []⟩] none)
  .ret)))
def F27 : AFunc := ⟨2, 15, [(.tmp 4)], B27⟩
/-- toll/tollref11.Clean -/
def B28 : ACode := (.seq (.region [⟨(some 2), (.mov (.c (.float .f64 0))), none, []⟩] none)
  (.seq (.seq (.region [⟨(some 3), (.mov (.t 0)), none, []⟩,
    ⟨(some 4), (.call (.f 29) [(.t 3)]), none, []⟩,
    ⟨(some 5), (.bin .eql (.t 4) (.c (.int .i64 3))), none, []⟩,
    ⟨(some 6), (.mov (.t 5)), none, []⟩,
    ⟨(some 7), (.mov (.t 0)), (some (6, false)), []⟩,
    ⟨(some 8), (.call (.f 29) [(.t 7)]), (some (6, false)), []⟩,
    ⟨(some 9), (.bin .eql (.t 8) (.c (.int .i64 0))), (some (6, false)), []⟩,
    ⟨(some 10), (.pick (.t 6) (.c (.bool true)) (.t 9)), none, []⟩,
    ⟨(some 11), (.mov (.t 10)), none, []⟩,
    ⟨(some 12), (.mov (.t 0)), (some (11, false)), []⟩,
    ⟨(some 13), (.bin .leq (.t 12) (.c (.float .f64 0))), (some (11, false)), []⟩,
    ⟨(some 14), (.pick (.t 11) (.c (.bool true)) (.t 13)), none, []⟩] none)
  (.cond (.t 14)
  (.seq (.region [⟨(some 2), (.mov (.c (.float .f64 0))), none, []⟩] none)
  .ret)
  .skip))
  (.seq (.region [⟨(some 15), (.mov (.t 0)), none, []⟩,
    ⟨(some 2), (.mov (.t 15)), none, []⟩] none)
  .ret)))
def F28 : AFunc := ⟨1, 16, [(.tmp 2)], B28⟩
/-- toll/tollref11.rank -/
def B29 : ACode := (.seq (.region [⟨(some 2), (.mov (.c (.int .i64 0))), none, []⟩] none)
  (.seq (.seq (.region [⟨(some 3), (.mov (.t 0)), none, []⟩,
    ⟨(some 4), (.mov (.t 0)), none, []⟩,
    ⟨(some 5), (.bin .neq (.t 3) (.t 4)), none, []⟩] none)
  (.cond (.t 5)
  (.seq (.region [⟨(some 2), (.mov (.c (.int .i64 3))), none, []⟩] none)
  .ret)
  .skip))
  (.seq (.seq (.region [⟨(some 6), (.mov (.t 0)), none, []⟩,
    ⟨(some 7), (.bin .gtr (.t 6) (.c (.float .f64 9218868437227405311))), none, []⟩] none)
  (.cond (.t 7)
  (.seq (.region [⟨(some 2), (.mov (.c (.int .i64 2))), none, []⟩] none)
  .ret)
  .skip))
  (.seq (.seq (.region [⟨(some 8), (.mov (.t 0)), none, []⟩,
    ⟨(some 9), (.bin .lss (.t 8) (.c (.float .f64 18442240474082181119))), none, []⟩] none)
  (.cond (.t 9)
  (.seq (.region [⟨(some 2), (.mov (.c (.int .i64 0))), none, []⟩] none)
  .ret)
  .skip))
  (.seq (.region [⟨(some 2), (.mov (.c (.int .i64 1))), none, []⟩] none)
  .ret)))))
def F29 : AFunc := ⟨1, 10, [(.tmp 2)], B29⟩
/-- toll/tollref11.after -/
def B30 : ACode := (.seq (.region [⟨(some 2), (.box 29 (.t 0)), none, []⟩,
    ⟨(some 4), (.mov (.c (.float .f64 0))), none, []⟩] none)
  (.seq (.seq (.region [⟨(some 7), (.mov (.t 1)), none, []⟩,
    ⟨(some 8), (.bin .eql (.t 7) (.c (.int .u64 0))), none, []⟩] none)
  (.cond (.t 8)
  (.seq (.region [⟨(some 9), (.fieldAddr 2 (.t 2)), none, []⟩,
    ⟨(some 10), (.load none (.t 9)), none, []⟩,
    ⟨(some 4), (.mov (.t 10)), none, []⟩] none)
  .ret)
  .skip))
  (.seq (.region [⟨(some 11), (.fieldAddr 0 (.t 2)), none, []⟩,
    ⟨(some 12), (.load none (.t 11)), none, []⟩,
    ⟨(some 13), (.mov (.t 1)), none, []⟩,
    ⟨(some 14), (.toFloat .f64 (.t 13)), none, []⟩,
    ⟨(some 15), (.bin .mul (.t 12) (.t 14)), none, []⟩,
    ⟨(some 5), (.mov (.t 15)), none, []⟩] none)
  (.seq (.region [⟨(some 16), (.fieldAddr 2 (.t 2)), none, []⟩,
    ⟨(some 17), (.load none (.t 16)), none, []⟩,
    ⟨(some 18), (.mov (.t 5)), none, []⟩,
    ⟨(some 19), (.bin .add (.t 17) (.t 18)), none, []⟩,
    ⟨(some 6), (.mov (.t 19)), none, []⟩] none)
  (.seq (.seq (.region [⟨(some 20), (.mov (.t 6)), none, []⟩,
    ⟨(some 21), (.fieldAddr 1 (.t 2)), none, []⟩,
    ⟨(some 22), (.load none (.t 21)), none, []⟩,
    ⟨(some 23), (.bin .gtr (.t 20) (.t 22)), none, []⟩] none)
  (.cond (.t 23)
  (.seq (.region [⟨(some 24), (.fieldAddr 1 (.t 2)), none, []⟩,
    ⟨(some 25), (.load none (.t 24)), none, []⟩,
    ⟨(some 4), (.mov (.t 25)), none, []⟩] none)
  .ret)
  .skip))
  (.seq (.region [⟨(some 26), (.mov (.t 6)), none, []⟩,
    ⟨(some 4), (.mov (.t 26)), none, []⟩] none)
  .ret))))))
def F30 : AFunc := ⟨2, 27, [(.tmp 4)], B30⟩
def R32_0 : ACode := .region [⟨(some 12), (.mov (.t 0)), none, []⟩,
    ⟨(some 13), (.mov (.t 0)), none, []⟩,
    ⟨(some 14), (.nilCheck (.t 13)), none, [1]⟩,
    ⟨(some 15), (.load (some 4) (.t 14)), none, [2]⟩,
    ⟨(some 16), (.mov (.t 1)), none, []⟩,
    ⟨(some 17), (.conv .u64 (.t 16)), none, [4]⟩,
    ⟨(some 18), (.mov (.t 0)), none, []⟩,
    ⟨(some 19), (.nilCheck (.t 18)), none, [6]⟩,
    ⟨(some 20), (.fieldAddr 3 (.t 19)), none, [7]⟩,
    ⟨(some 21), (.load none (.t 20)), none, [8]⟩,
    ⟨(some 22), (.conv .u64 (.t 21)), none, [9]⟩,
    ⟨(some 23), (.bin .sub (.t 17) (.t 22)), none, [5, 10]⟩,
    ⟨(some 24), (.call (.f 35) [(.t 15), (.t 23)]), none, [3, 11]⟩,
    ⟨(some 25), (.nilCheck (.t 12)), none, [0, 0, 1, 2, 3, 4, 5, 6, 7, 8, 9, 10, 11, 12]⟩,
    ⟨(some 26), (.fieldAddr 2 (.t 25)), none, [13, 0, 1, 2, 3, 4, 5, 6, 7, 8, 9, 10, 11, 12]⟩,
    ⟨none, (.store 1 (.t 26) (.t 24)), none, [14, 12, 12, 0, 1, 2, 3, 4, 5, 6, 7, 8, 9, 10, 11, 12]⟩] (some [(0, 1), (0, 2), (0, 3), (0, 4), (1, 4), (2, 4), (3, 4), (0, 5), (1, 5), (2, 5), (3, 5), (0, 6), (1, 6), (2, 6), (3, 6), (4, 6), (5, 6), (0, 7), (1, 7), (2, 7), (3, 7), (4, 7), (5, 7), (0, 8), (1, 8), (2, 8), (3, 8), (4, 8), (5, 8), (0, 9), (1, 9), (2, 9), (3, 9), (4, 9), (5, 9), (0, 10), (1, 10), (2, 10), (3, 10), (4, 10), (5, 10), (0, 11), (1, 11), (2, 11), (3, 11), (0, 12)])
/-- (*toll/rate.Bucket).to -/
def B32 : ACode := (.seq (.region [⟨(some 4), (.mov (.t 0)), none, []⟩,
    ⟨(some 5), (.call (.f 25) [(.t 4)]), none, []⟩] none)
  (.seq (.region [⟨(some 6), (.mov (.t 1)), none, []⟩,
    ⟨(some 7), (.mov (.t 0)), none, []⟩,
    ⟨(some 8), (.nilCheck (.t 7)), none, []⟩,
    ⟨(some 9), (.fieldAddr 3 (.t 8)), none, []⟩,
    ⟨(some 10), (.load none (.t 9)), none, []⟩,
    ⟨(some 11), (.bin .gtr (.t 6) (.t 10)), none, []⟩] none)
  (.cond (.t 11)
  (.seq R32_0
  (.region [⟨(some 27), (.mov (.t 0)), none, []⟩,
    ⟨(some 28), (.mov (.t 1)), none, []⟩,
    ⟨(some 29), (.nilCheck (.t 27)), none, []⟩,
    ⟨(some 30), (.fieldAddr 3 (.t 29)), none, []⟩,
    ⟨none, (.store 1 (.t 30) (.t 28)), none, []⟩] none))
  .skip)))
def F32 : AFunc := ⟨2, 31, [], B32⟩
/-- sort.Search -/
def F33L0 : ACode := (.seq (.seq (.region [⟨(some 9), (.mov (.t 5)), none, []⟩,
    ⟨(some 10), (.mov (.t 6)), none, []⟩,
    ⟨(some 11), (.bin .lss (.t 9) (.t 10)), none, []⟩] none)
  (.cond (.t 11)
  .skip
  (.exit 0)))
  (.block 1 (.seq (.region [⟨(some 12), (.mov (.t 5)), none, []⟩,
    ⟨(some 13), (.mov (.t 6)), none, []⟩,
    ⟨(some 14), (.bin .add (.t 12) (.t 13)), none, []⟩,
    ⟨(some 15), (.conv .u64 (.t 14)), none, []⟩,
    ⟨(some 16), (.bin .shr (.t 15) (.c (.int .u64 1))), none, []⟩,
    ⟨(some 17), (.conv .i64 (.t 16)), none, []⟩,
    ⟨(some 7), (.mov (.t 17)), none, []⟩] none)
  (.seq (.region [⟨(some 18), (.mov (.t 1)), none, []⟩,
    ⟨(some 19), (.mov (.t 7)), none, []⟩,
    ⟨(some 20), (.call (.t 18) [(.t 19)]), none, []⟩,
    ⟨(some 21), (.un .not (.t 20)), none, []⟩] none)
  (.cond (.t 21)
  (.region [⟨(some 22), (.mov (.t 7)), none, []⟩,
    ⟨(some 23), (.bin .add (.t 22) (.c (.int .i64 1))), none, []⟩,
    ⟨(some 5), (.mov (.t 23)), none, []⟩] none)
  (.region [⟨(some 24), (.mov (.t 7)), none, []⟩,
    ⟨(some 6), (.mov (.t 24)), none, []⟩] none))))))
def B33 : ACode := (.seq (.region [⟨(some 4), (.mov (.c (.int .i64 0))), none, []⟩] none)
  (.seq (.region [⟨(some 8), (.mov (.t 0)), none, []⟩,
    ⟨(some 5), (.mov (.c (.int .i64 0))), none, []⟩,
    ⟨(some 6), (.mov (.t 8)), none, []⟩] none)
  (.seq (.block 0 (.loop F33L0))
  (.seq (.region [⟨(some 25), (.mov (.t 5)), none, []⟩,
    ⟨(some 4), (.mov (.t 25)), none, []⟩] none)
  .ret))))
def F33 : AFunc := ⟨2, 26, [(.tmp 4)], B33⟩
-- F33L0 live: [1, 5, 6]
def R34_0 : ACode := .region [⟨(some 5), (.load (some 4) (.t 1)), none, []⟩,
    ⟨(some 6), (.mov (.t 0)), none, []⟩,
    ⟨(some 7), (.conv .u64 (.t 6)), none, [1]⟩,
    ⟨(some 8), (.call (.f 35) [(.t 5), (.t 7)]), none, [0, 2]⟩,
    ⟨(some 9), (.load none (.t 2)), none, []⟩,
    ⟨(some 10), (.bin .geq (.t 8) (.t 9)), none, [3, 4]⟩,
    ⟨(some 4), (.mov (.t 10)), none, [5, 3, 0, 1, 2, 3, 4, 5]⟩] (some [(0, 1), (0, 2), (0, 4), (1, 4), (2, 4), (3, 4)])
/-- (*toll/rate.Bucket).Wait$1 -/
def B34 : ACode := (.seq (.region [⟨(some 4), (.mov (.c (.bool false))), none, []⟩] none)
  (.seq R34_0
  .ret))
def F34 : AFunc := ⟨3, 11, [(.tmp 4)], B34⟩
def R35_0 : ACode := .region [⟨(some 15), (.fieldAddr 1 (.t 2)), none, []⟩,
    ⟨(some 16), (.load none (.t 15)), none, [0]⟩,
    ⟨(some 17), (.fieldAddr 2 (.t 2)), none, []⟩,
    ⟨(some 18), (.load none (.t 17)), none, [2]⟩,
    ⟨(some 19), (.mov (.t 5)), none, []⟩,
    ⟨(some 20), (.bin .add (.t 18) (.t 19)), none, [3, 4]⟩,
    ⟨(some 21), (.call (.f 19) [(.t 20)]), none, [5]⟩,
    ⟨(some 22), (.min [(.t 16), (.t 21)]), none, [1, 6]⟩,
    ⟨(some 4), (.mov (.t 22)), none, [7, 6, 0, 1, 2, 3, 4, 5, 6, 7]⟩] (some [(0, 2), (1, 2), (0, 3), (1, 3), (0, 4), (1, 4), (2, 4), (3, 4), (0, 5), (1, 5), (0, 6), (1, 6)])
/-- (toll/rate.Bucket).after -/
def B35 : ACode := (.seq (.region [⟨(some 2), (.box 26 (.t 0)), none, []⟩,
    ⟨(some 4), (.mov (.c (.float .f64 0))), none, []⟩] none)
  (.seq (.seq (.region [⟨(some 6), (.mov (.t 1)), none, []⟩,
    ⟨(some 7), (.bin .eql (.t 6) (.c (.int .u64 0))), none, []⟩] none)
  (.cond (.t 7)
  (.seq (.region [⟨(some 8), (.fieldAddr 2 (.t 2)), none, []⟩,
    ⟨(some 9), (.load none (.t 8)), none, []⟩,
    ⟨(some 4), (.mov (.t 9)), none, []⟩] none)
  .ret)
  .skip))
  (.seq (.region [⟨(some 10), (.fieldAddr 0 (.t 2)), none, []⟩,
    ⟨(some 11), (.load none (.t 10)), none, []⟩,
    ⟨(some 12), (.mov (.t 1)), none, []⟩,
    ⟨(some 13), (.toFloat .f64 (.t 12)), none, []⟩,
    ⟨(some 14), (.bin .mul (.t 11) (.t 13)), none, []⟩,
    ⟨(some 5), (.mov (.t 14)), none, []⟩] none)
  (.seq R35_0
  .ret))))
def F35 : AFunc := ⟨2, 23, [(.tmp 4)], B35⟩
/-- math.Copysign -/
def B36 : ACode := (.seq (.region [⟨(some 4), (.mov (.c (.float .f64 0))), none, []⟩] none)
  (.seq (.region [⟨(some 5), (.mov (.t 0)), none, []⟩,
    ⟨(some 6), (.call (.f 31) [(.t 5)]), none, []⟩,
    ⟨(some 7), (.bin .andNot (.t 6) (.c (.int .u64 9223372036854775808))), none, []⟩,
    ⟨(some 8), (.mov (.t 1)), none, []⟩,
    ⟨(some 9), (.call (.f 31) [(.t 8)]), none, []⟩,
    ⟨(some 10), (.bin .and (.t 9) (.c (.int .u64 9223372036854775808))), none, []⟩,
    ⟨(some 11), (.bin .or (.t 7) (.t 10)), none, []⟩,
    ⟨(some 12), (.call (.f 8) [(.t 11)]), none, []⟩,
    ⟨(some 4), (.mov (.t 12)), none, []⟩] none)
  .ret))
def F36 : AFunc := ⟨2, 13, [(.tmp 4)], B36⟩
/-- toll/rate.Text -/
def B37 : ACode := (.seq (.region [⟨(some 2), (.mov (.c (.string ⟨#[]⟩))), none, []⟩] none)
  (.seq (.seq (.region [⟨(some 3), (.mov (.t 0)), none, []⟩,
    ⟨(some 4), (.call (.f 19) [(.t 3)]), none, []⟩,
    ⟨(some 0), (.mov (.t 4)), none, []⟩] none)
  (.seq (.region [⟨(some 5), (.mov (.t 0)), none, []⟩,
    ⟨(some 6), (.call (.f 27) [(.t 5), (.c (.int .i64 1))]), none, []⟩] none)
  (.cond (.t 6)
  (.seq (.region [⟨(some 2), (.mov (.c (.string ⟨#[105, 110, 102]⟩))), none, []⟩] none)
  .ret)
  .skip)))
  (.seq (.region [⟨(some 7), (.mov (.t 0)), none, []⟩,
    ⟨(some 8), (.call (.f 40) [(.t 7), (.c (.int .u8 102)), (.c (.int .i64 (-1))), (.c (.int .i64 64))]), none, []⟩,
    ⟨(some 2), (.mov (.t 8)), none, []⟩] none)
  .ret)))
def F37 : AFunc := ⟨1, 9, [(.tmp 2)], B37⟩
/-- math.IsNaN -/
def B38 : ACode := (.seq (.region [⟨(some 2), (.mov (.c (.bool false))), none, []⟩] none)
  (.seq (.region [⟨(some 3), (.mov (.t 0)), none, []⟩,
    ⟨(some 4), (.mov (.t 0)), none, []⟩,
    ⟨(some 5), (.bin .neq (.t 3) (.t 4)), none, []⟩,
    ⟨(some 2), (.mov (.t 5)), none, []⟩] none)
  .ret))
def F38 : AFunc := ⟨1, 6, [(.tmp 2)], B38⟩
/-- math.Abs -/
def B39 : ACode := (.seq (.region [⟨(some 2), (.mov (.c (.float .f64 0))), none, []⟩] none)
  (.seq (.region [⟨(some 3), (.mov (.t 0)), none, []⟩,
    ⟨(some 4), (.call (.f 31) [(.t 3)]), none, []⟩,
    ⟨(some 5), (.bin .andNot (.t 4) (.c (.int .u64 9223372036854775808))), none, []⟩,
    ⟨(some 6), (.call (.f 8) [(.t 5)]), none, []⟩,
    ⟨(some 2), (.mov (.t 6)), none, []⟩] none)
  .ret))
def F39 : AFunc := ⟨1, 7, [(.tmp 2)], B39⟩
/-- strconv.FormatFloat -/
def B40 : ACode := (.seq (.region [⟨(some 8), (.mov (.c (.string ⟨#[]⟩))), none, []⟩] none)
  (.seq (.region [⟨(some 9), (.mov (.t 0)), none, []⟩,
    ⟨(some 10), (.mov (.t 1)), none, []⟩,
    ⟨(some 11), (.mov (.t 2)), none, []⟩,
    ⟨(some 12), (.mov (.t 3)), none, []⟩,
    ⟨(some 13), (.call (.f 41) [(.t 9), (.t 10), (.t 11), (.t 12)]), none, []⟩,
    ⟨(some 8), (.mov (.t 13)), none, []⟩] none)
  .ret))
def F40 : AFunc := ⟨4, 14, [(.tmp 8)], B40⟩
/-- internal/strconv.FormatFloat -/
def B41 : ACode := (.seq (.region [⟨(some 8), (.mov (.c (.string ⟨#[]⟩))), none, []⟩] none)
  (.seq (.seq (.region [⟨(some 9), (.mov (.t 3)), none, []⟩,
    ⟨(some 10), (.bin .eql (.t 9) (.c (.int .i64 32))), none, []⟩] none)
  (.cond (.t 10)
  (.seq (.region [⟨(some 11), (.mov (.t 2)), none, []⟩,
    ⟨(some 12), (.bin .add (.t 11) (.c (.int .i64 4))), none, []⟩,
    ⟨(some 13), (.max [(.t 12), (.c (.int .i64 24))]), none, []⟩,
    ⟨(some 14), (.makeSlice 5 1 1 [(.int .u8 0)] (.c (.int .i64 0)) (.t 13)), none, []⟩,
    ⟨(some 15), (.mov (.t 0)), none, []⟩,
    ⟨(some 16), (.sameF .f32 (.t 15)), none, []⟩,
    ⟨(some 17), (.mov (.t 1)), none, []⟩,
    ⟨(some 18), (.mov (.t 2)), none, []⟩,
    ⟨(some 19), (.call (.f 42) [(.t 14), (.t 16), (.t 17), (.t 18)]), none, []⟩,
    ⟨(some 20), (.strOf (.t 19)), none, []⟩,
    ⟨(some 8), (.mov (.t 20)), none, []⟩] none)
  .ret)
  .skip))
  (.seq (.seq (.region [⟨(some 21), (.mov (.t 3)), none, []⟩,
    ⟨(some 22), (.bin .eql (.t 21) (.c (.int .i64 64))), none, []⟩] none)
  (.cond (.t 22)
  (.seq (.region [⟨(some 23), (.mov (.t 2)), none, []⟩,
    ⟨(some 24), (.bin .add (.t 23) (.c (.int .i64 4))), none, []⟩,
    ⟨(some 25), (.max [(.t 24), (.c (.int .i64 24))]), none, []⟩,
    ⟨(some 26), (.makeSlice 5 1 1 [(.int .u8 0)] (.c (.int .i64 0)) (.t 25)), none, []⟩,
    ⟨(some 27), (.mov (.t 0)), none, []⟩,
    ⟨(some 28), (.mov (.t 1)), none, []⟩,
    ⟨(some 29), (.mov (.t 2)), none, []⟩,
    ⟨(some 30), (.call (.f 43) [(.t 26), (.t 27), (.t 28), (.t 29)]), none, []⟩,
    ⟨(some 31), (.strOf (.t 30)), none, []⟩,
    ⟨(some 8), (.mov (.t 31)), none, []⟩] none)
  .ret)
  .skip))
  (.region [⟨(some 32), (.makeIface 9 (.c (.string ⟨#[115, 116, 114, 99, 111, 110, 118, 58, 32, 105, 108, 108, 101, 103, 97, 108, 32, 70, 111, 114, 109, 97, 116, 70, 108, 111, 97, 116, 32, 98, 105, 116, 83, 105, 122, 101]⟩))), none, []⟩,
    ⟨none, .fail, none, []⟩] none))))
def F41 : AFunc := ⟨4, 33, [(.tmp 8)], B41⟩
def R43_0 : ACode := .region [⟨(some 50), (.mov (.t 9)), none, []⟩,
    ⟨(some 51), (.mov (.t 11)), none, []⟩,
    ⟨(some 52), (.bin .shr (.t 50) (.t 51)), none, [0, 1]⟩,
    ⟨(some 53), (.conv .i64 (.t 52)), none, [2]⟩,
    ⟨(some 54), (.mov (.t 10)), none, []⟩,
    ⟨(some 55), (.bin .shl (.c (.int .i64 1)) (.t 54)), none, [4]⟩,
    ⟨(some 56), (.bin .sub (.t 55) (.c (.int .i64 1))), none, [5]⟩,
    ⟨(some 57), (.bin .and (.t 53) (.t 56)), none, [3, 6]⟩,
    ⟨(some 14), (.mov (.t 57)), none, [7, 0, 1, 2, 3, 4, 5, 6, 7]⟩] (some [(0, 1), (0, 4), (1, 4), (2, 4), (3, 4), (0, 5), (1, 5), (2, 5), (3, 5), (0, 6), (1, 6), (2, 6), (3, 6)])
def R43_1 : ACode := .region [⟨(some 140), (.sliceArr 1 32 (.t 16) none none), none, []⟩,
    ⟨(some 141), (.mov (.t 20)), none, []⟩,
    ⟨(some 142), (.mov (.t 21)), none, []⟩,
    ⟨(some 143), (.mov (.t 20)), none, []⟩,
    ⟨(some 144), (.call (.f 52) [(.t 143)]), none, [3]⟩,
    ⟨(some 145), (.call (.f 51) [(.t 140), (.t 141), (.t 142), (.t 144)]), none, [0, 1, 2, 4, 4]⟩,
    ⟨(some 139), (.mov (.t 145)), none, [5]⟩,
    ⟨(some 146), (.extract (.t 139) 0), none, [6]⟩,
    ⟨(some 147), (.extract (.t 139) 1), none, [6]⟩,
    ⟨(some 22), (.mov (.t 146)), none, [7, 5, 0, 1, 2, 3, 4, 5, 6, 7]⟩,
    ⟨(some 23), (.mov (.t 147)), none, [8, 9, 0, 1, 2, 3, 4, 5, 6, 7, 8, 9]⟩] (some [(0, 1), (0, 2), (1, 2), (0, 3), (1, 3), (2, 3), (0, 4), (1, 4), (2, 4), (7, 8), (8, 9)])
def R43_2 : ACode := .region [⟨(some 230), (.sliceArr 1 24 (.t 25) none none), none, []⟩,
    ⟨(some 231), (.mov (.t 31)), none, []⟩,
    ⟨(some 232), (.mov (.t 32)), none, []⟩,
    ⟨(some 233), (.mov (.t 31)), none, []⟩,
    ⟨(some 234), (.call (.f 52) [(.t 233)]), none, [3]⟩,
    ⟨(some 235), (.call (.f 51) [(.t 230), (.t 231), (.t 232), (.t 234)]), none, [0, 1, 2, 4, 4]⟩,
    ⟨(some 229), (.mov (.t 235)), none, [5]⟩,
    ⟨(some 236), (.extract (.t 229) 0), none, [6]⟩,
    ⟨(some 237), (.extract (.t 229) 1), none, [6]⟩,
    ⟨(some 26), (.mov (.t 236)), none, [7, 5, 0, 1, 2, 3, 4, 5, 6, 7]⟩,
    ⟨(some 27), (.mov (.t 237)), none, [8, 9, 0, 1, 2, 3, 4, 5, 6, 7, 8, 9]⟩] (some [(0, 1), (0, 2), (1, 2), (0, 3), (1, 3), (2, 3), (0, 4), (1, 4), (2, 4), (7, 8), (8, 9)])
def R43_3 : ACode := .region [⟨(some 281), (.mov (.t 0)), none, []⟩,
    ⟨(some 282), (.mov (.t 13)), none, []⟩,
    ⟨(some 283), (.mov (.t 33)), none, []⟩,
    ⟨(some 284), (.nilCheck (.t 283)), none, [2]⟩,
    ⟨(some 285), (.fieldAddr 0 (.t 284)), none, [3]⟩,
    ⟨(some 286), (.sliceArr 1 800 (.t 285) none none), none, [4]⟩,
    ⟨(some 287), (.mov (.t 33)), none, []⟩,
    ⟨(some 288), (.nilCheck (.t 287)), none, [6]⟩,
    ⟨(some 289), (.fieldAddr 801 (.t 288)), none, [7]⟩,
    ⟨(some 290), (.load none (.t 289)), none, [8]⟩,
    ⟨(some 291), (.mov (.t 33)), none, []⟩,
    ⟨(some 292), (.nilCheck (.t 291)), none, [10]⟩,
    ⟨(some 293), (.fieldAddr 800 (.t 292)), none, [11]⟩,
    ⟨(some 294), (.load none (.t 293)), none, [12]⟩,
    ⟨(some 295), (.mov (.t 3)), none, []⟩,
    ⟨(some 296), (.mov (.t 2)), none, []⟩,
    ⟨(some 297), (.call (.f 48) [(.t 281), (.t 282), (.t 286), (.t 290), (.t 294), (.t 295), (.t 296), (.c (.bool false))]), none, [0, 1, 5, 9, 13, 14, 15]⟩,
    ⟨(some 8), (.mov (.t 297)), none, [16, 16, 0, 1, 2, 3, 4, 5, 6, 7, 8, 9, 10, 11, 12, 13, 14, 15, 16]⟩] (some [(0, 1), (0, 2), (1, 2), (0, 3), (1, 3), (0, 4), (1, 4), (0, 5), (1, 5), (0, 6), (1, 6), (2, 6), (3, 6), (4, 6), (5, 6), (0, 7), (1, 7), (2, 7), (3, 7), (4, 7), (5, 7), (0, 8), (1, 8), (2, 8), (3, 8), (4, 8), (5, 8), (0, 9), (1, 9), (2, 9), (3, 9), (4, 9), (5, 9), (0, 10), (1, 10), (2, 10), (3, 10), (4, 10), (5, 10), (6, 10), (7, 10), (8, 10), (9, 10), (0, 11), (1, 11), (2, 11), (3, 11), (4, 11), (5, 11), (6, 11), (7, 11), (8, 11), (9, 11), (0, 12), (1, 12), (2, 12), (3, 12), (4, 12), (5, 12), (6, 12), (7, 12), (8, 12), (9, 12), (0, 13), (1, 13), (2, 13), (3, 13), (4, 13), (5, 13), (6, 13), (7, 13), (8, 13), (9, 13), (0, 14), (1, 14), (2, 14), (3, 14), (4, 14), (5, 14), (6, 14), (7, 14), (8, 14), (9, 14), (10, 14), (11, 14), (12, 14), (13, 14), (0, 15), (1, 15), (2, 15), (3, 15), (4, 15), (5, 15), (6, 15), (7, 15), (8, 15), (9, 15), (10, 15), (11, 15), (12, 15), (13, 15), (14, 15)])
/-- internal/strconv.ftoa64 -/
def B43 : ACode := (.seq (.region [⟨(some 8), (.mov (.c (.slice none 0 0))), none, []⟩] none)
  (.seq (.region [⟨(some 9), (.mov (.c (.int .u64 0))), none, []⟩] none)
  (.seq (.region [⟨(some 10), (.mov (.c (.int .i64 0))), none, []⟩,
    ⟨(some 11), (.mov (.c (.int .i64 0))), none, []⟩,
    ⟨(some 12), (.mov (.c (.int .i64 0))), none, []⟩] none)
  (.seq (.block 0 (.seq (.region [⟨(some 35), (.bin .eql (.c (.int .u64 64)) (.c (.int .u64 32))), none, []⟩,
    ⟨(some 34), (.mov (.t 35)), none, []⟩] none)
  (.cond (.t 34)
  (.seq (.region [⟨(some 36), (.mov (.t 1)), none, []⟩,
    ⟨(some 37), (.sameF .f32 (.t 36)), none, []⟩,
    ⟨(some 38), (.call (.f 44) [(.t 37)]), none, []⟩,
    ⟨(some 39), (.conv .u64 (.t 38)), none, []⟩,
    ⟨(some 9), (.mov (.t 39)), none, []⟩] none)
  (.seq (.region [⟨(some 10), (.mov (.c (.int .i64 8))), none, []⟩] none)
  (.seq (.region [⟨(some 11), (.mov (.c (.int .i64 23))), none, []⟩] none)
  (.region [⟨(some 12), (.mov (.c (.int .i64 (-127)))), none, []⟩] none))))
  (.seq (.region [⟨(some 41), (.bin .eql (.c (.int .u64 64)) (.c (.int .u64 64))), none, []⟩,
    ⟨(some 40), (.mov (.t 41)), none, []⟩] none)
  (.cond (.t 40)
  (.seq (.region [⟨(some 42), (.mov (.t 1)), none, []⟩,
    ⟨(some 43), (.call (.f 45) [(.t 42)]), none, []⟩,
    ⟨(some 9), (.mov (.t 43)), none, []⟩] none)
  (.seq (.region [⟨(some 10), (.mov (.c (.int .i64 11))), none, []⟩] none)
  (.seq (.region [⟨(some 11), (.mov (.c (.int .i64 52))), none, []⟩] none)
  (.region [⟨(some 12), (.mov (.c (.int .i64 (-1023)))), none, []⟩] none))))
  .skip)))))
  (.seq (.region [⟨(some 44), (.mov (.t 9)), none, []⟩,
    ⟨(some 45), (.mov (.t 10)), none, []⟩,
    ⟨(some 46), (.mov (.t 11)), none, []⟩,
    ⟨(some 47), (.bin .add (.t 45) (.t 46)), none, []⟩,
    ⟨(some 48), (.bin .shr (.t 44) (.t 47)), none, []⟩,
    ⟨(some 49), (.bin .neq (.t 48) (.c (.int .u64 0))), none, []⟩,
    ⟨(some 13), (.mov (.t 49)), none, []⟩] none)
  (.seq R43_0
  (.seq (.region [⟨(some 58), (.mov (.t 9)), none, []⟩,
    ⟨(some 59), (.mov (.t 11)), none, []⟩,
    ⟨(some 60), (.bin .shl (.c (.int .u64 1)) (.t 59)), none, []⟩,
    ⟨(some 61), (.bin .sub (.t 60) (.c (.int .u64 1))), none, []⟩,
    ⟨(some 62), (.bin .and (.t 58) (.t 61)), none, []⟩,
    ⟨(some 15), (.mov (.t 62)), none, []⟩] none)
  (.seq (.seq (.region [⟨(some 63), (.mov (.t 14)), none, []⟩,
    ⟨(some 64), (.mov (.t 10)), none, []⟩,
    ⟨(some 65), (.bin .shl (.c (.int .i64 1)) (.t 64)), none, []⟩,
    ⟨(some 66), (.bin .sub (.t 65) (.c (.int .i64 1))), none, []⟩,
    ⟨(some 67), (.bin .eql (.t 63) (.t 66)), none, []⟩] none)
  (.cond (.t 67)
  (.seq (.seq (.region [⟨(some 68), (.mov (.t 15)), none, []⟩,
    ⟨(some 69), (.bin .neq (.t 68) (.c (.int .u64 0))), none, []⟩] none)
  (.cond (.t 69)
  (.seq (.region [⟨(some 70), (.mov (.t 0)), none, []⟩,
    ⟨(some 71), (.append 5 1 1 (.t 70) (.c (.string ⟨#[78, 97, 78]⟩))), none, []⟩,
    ⟨(some 8), (.mov (.t 71)), none, []⟩] none)
  .ret)
  .skip))
  (.seq (.seq (.region [⟨(some 72), (.mov (.t 13)), none, []⟩] none)
  (.cond (.t 72)
  (.seq (.region [⟨(some 73), (.mov (.t 0)), none, []⟩,
    ⟨(some 74), (.append 5 1 1 (.t 73) (.c (.string ⟨#[45, 73, 110, 102]⟩))), none, []⟩,
    ⟨(some 8), (.mov (.t 74)), none, []⟩] none)
  .ret)
  .skip))
  (.seq (.region [⟨(some 75), (.mov (.t 0)), none, []⟩,
    ⟨(some 76), (.append 5 1 1 (.t 75) (.c (.string ⟨#[43, 73, 110, 102]⟩))), none, []⟩,
    ⟨(some 8), (.mov (.t 76)), none, []⟩] none)
  .ret)))
  .skip))
  (.seq (.seq (.region [⟨(some 77), (.mov (.t 14)), none, []⟩,
    ⟨(some 78), (.bin .eql (.t 77) (.c (.int .i64 0))), none, []⟩] none)
  (.cond (.t 78)
  (.region [⟨(some 79), (.mov (.t 14)), none, []⟩,
    ⟨(some 80), (.bin .add (.t 79) (.c (.int .i64 1))), none, []⟩,
    ⟨(some 14), (.mov (.t 80)), none, []⟩] none)
  (.region [⟨(some 81), (.mov (.t 15)), none, []⟩,
    ⟨(some 82), (.mov (.t 11)), none, []⟩,
    ⟨(some 83), (.bin .shl (.c (.int .u64 1)) (.t 82)), none, []⟩,
    ⟨(some 84), (.bin .or (.t 81) (.t 83)), none, []⟩,
    ⟨(some 15), (.mov (.t 84)), none, []⟩] none)))
  (.seq (.region [⟨(some 85), (.mov (.t 14)), none, []⟩,
    ⟨(some 86), (.mov (.t 12)), none, []⟩,
    ⟨(some 87), (.bin .add (.t 85) (.t 86)), none, []⟩,
    ⟨(some 14), (.mov (.t 87)), none, []⟩] none)
  (.seq (.seq (.region [⟨(some 88), (.mov (.t 2)), none, []⟩,
    ⟨(some 89), (.bin .eql (.t 88) (.c (.int .u8 98))), none, []⟩] none)
  (.cond (.t 89)
  (.seq (.region [⟨(some 90), (.mov (.t 0)), none, []⟩,
    ⟨(some 91), (.mov (.t 13)), none, []⟩,
    ⟨(some 92), (.mov (.t 15)), none, []⟩,
    ⟨(some 93), (.mov (.t 14)), none, []⟩,
    ⟨(some 94), (.mov (.t 11)), none, []⟩,
    ⟨(some 95), (.bin .sub (.t 93) (.t 94)), none, []⟩,
    ⟨(some 96), (.call (.f 46) [(.t 90), (.t 91), (.t 92), (.t 95)]), none, []⟩,
    ⟨(some 8), (.mov (.t 96)), none, []⟩] none)
  .ret)
  .skip))
  (.seq (.seq (.region [⟨(some 97), (.mov (.t 2)), none, []⟩,
    ⟨(some 98), (.bin .eql (.t 97) (.c (.int .u8 120))), none, []⟩,
    ⟨(some 99), (.mov (.t 98)), none, []⟩,
    ⟨(some 100), (.mov (.t 2)), (some (99, false)), []⟩,
    ⟨(some 101), (.bin .eql (.t 100) (.c (.int .u8 88))), (some (99, false)), []⟩,
    ⟨(some 102), (.pick (.t 99) (.c (.bool true)) (.t 101)), none, []⟩] none)
  (.cond (.t 102)
  (.seq (.region [⟨(some 103), (.mov (.t 0)), none, []⟩,
    ⟨(some 104), (.mov (.t 3)), none, []⟩,
    ⟨(some 105), (.mov (.t 2)), none, []⟩,
    ⟨(some 106), (.mov (.t 13)), none, []⟩,
    ⟨(some 107), (.mov (.t 15)), none, []⟩,
    ⟨(some 108), (.mov (.t 14)), none, []⟩,
    ⟨(some 109), (.mov (.t 11)), none, []⟩,
    ⟨(some 110), (.call (.f 47) [(.t 103), (.t 104), (.t 105), (.t 106), (.t 107), (.t 108), (.t 109)]), none, []⟩,
    ⟨(some 8), (.mov (.t 110)), none, []⟩] none)
  .ret)
  .skip))
  (.seq (.seq (.region [⟨(some 111), (.mov (.t 15)), none, []⟩,
    ⟨(some 112), (.bin .eql (.t 111) (.c (.int .u64 0))), none, []⟩] none)
  (.cond (.t 112)
  (.seq (.region [⟨(some 113), (.mov (.t 0)), none, []⟩,
    ⟨(some 114), (.mov (.t 13)), none, []⟩,
    ⟨(some 115), (.mov (.t 3)), none, []⟩,
    ⟨(some 116), (.mov (.t 2)), none, []⟩,
    ⟨(some 117), (.mov (.t 3)), none, []⟩,
    ⟨(some 118), (.bin .lss (.t 117) (.c (.int .i64 0))), none, []⟩,
    ⟨(some 119), (.call (.f 48) [(.t 113), (.t 114), (.c (.slice none 0 0)), (.c (.int .i64 0)), (.c (.int .i64 0)), (.t 115), (.t 116), (.t 118)]), none, []⟩,
    ⟨(some 8), (.mov (.t 119)), none, []⟩] none)
  .ret)
  .skip))
  (.seq (.seq (.region [⟨(some 120), (.mov (.t 3)), none, []⟩,
    ⟨(some 121), (.bin .lss (.t 120) (.c (.int .i64 0))), none, []⟩] none)
  (.cond (.t 121)
  (.seq (.region [⟨(some 16), (.alloc 79 [(.int .u8 0), (.int .u8 0), (.int .u8 0), (.int .u8 0), (.int .u8 0), (.int .u8 0), (.int .u8 0), (.int .u8 0), (.int .u8 0), (.int .u8 0), (.int .u8 0), (.int .u8 0), (.int .u8 0), (.int .u8 0), (.int .u8 0), (.int .u8 0), (.int .u8 0), (.int .u8 0), (.int .u8 0), (.int .u8 0), (.int .u8 0), (.int .u8 0), (.int .u8 0), (.int .u8 0), (.int .u8 0), (.int .u8 0), (.int .u8 0), (.int .u8 0), (.int .u8 0), (.int .u8 0), (.int .u8 0), (.int .u8 0)]), none, []⟩] none)
  (.seq (.region [⟨(some 122), (.mov (.t 15)), none, []⟩,
    ⟨(some 123), (.call (.f 49) [(.t 122)]), none, []⟩,
    ⟨(some 124), (.bin .sub (.c (.int .i64 64)) (.t 123)), none, []⟩,
    ⟨(some 17), (.mov (.t 124)), none, []⟩] none)
  (.seq (.region [⟨(some 125), (.mov (.t 15)), none, []⟩,
    ⟨(some 126), (.mov (.t 17)), none, []⟩,
    ⟨(some 127), (.bin .shl (.t 125) (.t 126)), none, []⟩,
    ⟨(some 18), (.mov (.t 127)), none, []⟩] none)
  (.seq (.region [⟨(some 128), (.mov (.t 14)), none, []⟩,
    ⟨(some 129), (.mov (.t 17)), none, []⟩,
    ⟨(some 130), (.bin .sub (.t 128) (.t 129)), none, []⟩,
    ⟨(some 19), (.mov (.t 130)), none, []⟩] none)
  (.seq (.region [⟨(some 132), (.mov (.t 18)), none, []⟩,
    ⟨(some 133), (.mov (.t 19)), none, []⟩,
    ⟨(some 134), (.mov (.t 11)), none, []⟩,
    ⟨(some 135), (.bin .sub (.t 133) (.t 134)), none, []⟩,
    ⟨(some 136), (.call (.f 58) [(.t 132), (.t 135)]), none, []⟩,
    ⟨(some 131), (.mov (.t 136)), none, []⟩,
    ⟨(some 137), (.extract (.t 131) 0), none, []⟩,
    ⟨(some 138), (.extract (.t 131) 1), none, []⟩,
    ⟨(some 20), (.mov (.t 137)), none, []⟩,
    ⟨(some 21), (.mov (.t 138)), none, []⟩] none)
  (.seq R43_1
  (.seq (.seq (.region [⟨(some 148), (.mov (.t 2)), none, []⟩] none)
  (.block 1 (.seq (.seq (.region [⟨(some 150), (.bin .eql (.t 148) (.c (.int .u8 101))), none, []⟩,
    ⟨(some 149), (.mov (.t 150)), none, []⟩] none)
  (.cond (.t 149)
  .skip
  (.region [⟨(some 151), (.bin .eql (.t 148) (.c (.int .u8 69))), none, []⟩,
    ⟨(some 149), (.mov (.t 151)), none, []⟩] none)))
  (.cond (.t 149)
  (.region [⟨(some 152), (.mov (.t 23)), none, []⟩,
    ⟨(some 153), (.bin .sub (.t 152) (.c (.int .i64 1))), none, []⟩,
    ⟨(some 154), (.max [(.t 153), (.c (.int .i64 0))]), none, []⟩,
    ⟨(some 3), (.mov (.t 154)), none, []⟩] none)
  (.seq (.region [⟨(some 156), (.bin .eql (.t 148) (.c (.int .u8 102))), none, []⟩,
    ⟨(some 155), (.mov (.t 156)), none, []⟩] none)
  (.cond (.t 155)
  (.region [⟨(some 157), (.mov (.t 23)), none, []⟩,
    ⟨(some 158), (.mov (.t 22)), none, []⟩,
    ⟨(some 159), (.bin .sub (.t 157) (.t 158)), none, []⟩,
    ⟨(some 160), (.max [(.t 159), (.c (.int .i64 0))]), none, []⟩,
    ⟨(some 3), (.mov (.t 160)), none, []⟩] none)
  (.seq (.seq (.region [⟨(some 162), (.bin .eql (.t 148) (.c (.int .u8 103))), none, []⟩,
    ⟨(some 161), (.mov (.t 162)), none, []⟩] none)
  (.cond (.t 161)
  .skip
  (.region [⟨(some 163), (.bin .eql (.t 148) (.c (.int .u8 71))), none, []⟩,
    ⟨(some 161), (.mov (.t 163)), none, []⟩] none)))
  (.cond (.t 161)
  (.region [⟨(some 164), (.mov (.t 23)), none, []⟩,
    ⟨(some 3), (.mov (.t 164)), none, []⟩] none)
  .skip))))))))
  (.seq (.region [⟨(some 165), (.mov (.t 0)), none, []⟩,
    ⟨(some 166), (.mov (.t 13)), none, []⟩,
    ⟨(some 167), (.sliceArr 1 32 (.t 16) none none), none, []⟩,
    ⟨(some 168), (.mov (.t 22)), none, []⟩,
    ⟨(some 169), (.mov (.t 23)), none, []⟩,
    ⟨(some 170), (.mov (.t 3)), none, []⟩,
    ⟨(some 171), (.mov (.t 2)), none, []⟩,
    ⟨(some 172), (.call (.f 48) [(.t 165), (.t 166), (.t 167), (.t 168), (.t 169), (.t 170), (.t 171), (.c (.bool true))]), none, []⟩,
    ⟨(some 8), (.mov (.t 172)), none, []⟩] none)
  .ret))))))))
  .skip))
  (.seq (.seq (.region [⟨(some 173), (.load none (.g 2)), none, []⟩] none)
  (.cond (.t 173)
  (.seq (.region [⟨(some 174), (.mov (.t 3)), none, []⟩,
    ⟨(some 24), (.mov (.t 174)), none, []⟩] none)
  (.seq (.seq (.region [⟨(some 175), (.mov (.t 2)), none, []⟩] none)
  (.block 2 (.seq (.region [⟨(some 177), (.bin .eql (.t 175) (.c (.int .u8 102))), none, []⟩,
    ⟨(some 176), (.mov (.t 177)), none, []⟩] none)
  (.cond (.t 176)
  (.seq (.region [⟨(some 178), (.mov (.t 14)), none, []⟩,
    ⟨(some 179), (.bin .geq (.t 178) (.c (.int .i64 0))), none, []⟩] none)
  (.cond (.t 179)
  (.region [⟨(some 180), (.mov (.t 14)), none, []⟩,
    ⟨(some 181), (.bin .add (.c (.int .i64 1)) (.t 180)), none, []⟩,
    ⟨(some 182), (.call (.f 53) [(.t 181)]), none, []⟩,
    ⟨(some 183), (.bin .add (.c (.int .i64 1)) (.t 182)), none, []⟩,
    ⟨(some 184), (.mov (.t 3)), none, []⟩,
    ⟨(some 185), (.bin .add (.t 183) (.t 184)), none, []⟩,
    ⟨(some 24), (.mov (.t 185)), none, []⟩] none)
  (.region [⟨(some 186), (.mov (.t 3)), none, []⟩,
    ⟨(some 187), (.bin .add (.c (.int .i64 1)) (.t 186)), none, []⟩,
    ⟨(some 188), (.mov (.t 14)), none, []⟩,
    ⟨(some 189), (.un .neg (.t 188)), none, []⟩,
    ⟨(some 190), (.call (.f 53) [(.t 189)]), none, []⟩,
    ⟨(some 191), (.bin .sub (.t 187) (.t 190)), none, []⟩,
    ⟨(some 24), (.mov (.t 191)), none, []⟩] none)))
  (.seq (.seq (.region [⟨(some 193), (.bin .eql (.t 175) (.c (.int .u8 101))), none, []⟩,
    ⟨(some 192), (.mov (.t 193)), none, []⟩] none)
  (.cond (.t 192)
  .skip
  (.region [⟨(some 194), (.bin .eql (.t 175) (.c (.int .u8 69))), none, []⟩,
    ⟨(some 192), (.mov (.t 194)), none, []⟩] none)))
  (.cond (.t 192)
  (.region [⟨(some 195), (.mov (.t 24)), none, []⟩,
    ⟨(some 196), (.bin .add (.t 195) (.c (.int .i64 1))), none, []⟩,
    ⟨(some 24), (.mov (.t 196)), none, []⟩] none)
  (.seq (.seq (.region [⟨(some 198), (.bin .eql (.t 175) (.c (.int .u8 103))), none, []⟩,
    ⟨(some 197), (.mov (.t 198)), none, []⟩] none)
  (.cond (.t 197)
  .skip
  (.region [⟨(some 199), (.bin .eql (.t 175) (.c (.int .u8 71))), none, []⟩,
    ⟨(some 197), (.mov (.t 199)), none, []⟩] none)))
  (.cond (.t 197)
  (.seq (.seq (.region [⟨(some 200), (.mov (.t 3)), none, []⟩,
    ⟨(some 201), (.bin .eql (.t 200) (.c (.int .i64 0))), none, []⟩] none)
  (.cond (.t 201)
  (.region [⟨(some 3), (.mov (.c (.int .i64 1))), none, []⟩] none)
  .skip))
  (.region [⟨(some 202), (.mov (.t 3)), none, []⟩,
    ⟨(some 24), (.mov (.t 202)), none, []⟩] none))
  (.region [⟨(some 24), (.mov (.c (.int .i64 1))), none, []⟩] none)))))))))
  (.seq (.region [⟨(some 203), (.mov (.t 24)), none, []⟩,
    ⟨(some 204), (.bin .leq (.t 203) (.c (.int .i64 18))), none, []⟩] none)
  (.cond (.t 204)
  (.seq (.region [⟨(some 25), (.alloc 86 [(.int .u8 0), (.int .u8 0), (.int .u8 0), (.int .u8 0), (.int .u8 0), (.int .u8 0), (.int .u8 0), (.int .u8 0), (.int .u8 0), (.int .u8 0), (.int .u8 0), (.int .u8 0), (.int .u8 0), (.int .u8 0), (.int .u8 0), (.int .u8 0), (.int .u8 0), (.int .u8 0), (.int .u8 0), (.int .u8 0), (.int .u8 0), (.int .u8 0), (.int .u8 0), (.int .u8 0)]), none, []⟩] none)
  (.seq (.region [⟨(some 26), (.mov (.c (.int .i64 0))), none, []⟩,
    ⟨(some 27), (.mov (.c (.int .i64 0))), none, []⟩] none)
  (.seq (.seq (.region [⟨(some 205), (.mov (.t 24)), none, []⟩,
    ⟨(some 206), (.bin .gtr (.t 205) (.c (.int .i64 0))), none, []⟩] none)
  (.cond (.t 206)
  (.seq (.region [⟨(some 207), (.mov (.t 15)), none, []⟩,
    ⟨(some 208), (.call (.f 49) [(.t 207)]), none, []⟩,
    ⟨(some 209), (.bin .sub (.c (.int .i64 64)) (.t 208)), none, []⟩,
    ⟨(some 28), (.mov (.t 209)), none, []⟩] none)
  (.seq (.region [⟨(some 210), (.mov (.t 15)), none, []⟩,
    ⟨(some 211), (.mov (.t 28)), none, []⟩,
    ⟨(some 212), (.bin .shl (.t 210) (.t 211)), none, []⟩,
    ⟨(some 29), (.mov (.t 212)), none, []⟩] none)
  (.seq (.region [⟨(some 213), (.mov (.t 14)), none, []⟩,
    ⟨(some 214), (.mov (.t 28)), none, []⟩,
    ⟨(some 215), (.bin .sub (.t 213) (.t 214)), none, []⟩,
    ⟨(some 30), (.mov (.t 215)), none, []⟩] none)
  (.seq (.region [⟨(some 217), (.mov (.t 29)), none, []⟩,
    ⟨(some 218), (.mov (.t 30)), none, []⟩,
    ⟨(some 219), (.mov (.t 11)), none, []⟩,
    ⟨(some 220), (.bin .sub (.t 218) (.t 219)), none, []⟩,
    ⟨(some 221), (.mov (.t 24)), none, []⟩,
    ⟨(some 222), (.mov (.t 3)), none, []⟩,
    ⟨(some 223), (.mov (.t 2)), none, []⟩,
    ⟨(some 224), (.call (.f 54) [(.t 217), (.t 220), (.t 221), (.t 222), (.t 223)]), none, []⟩,
    ⟨(some 216), (.mov (.t 224)), none, []⟩,
    ⟨(some 225), (.extract (.t 216) 0), none, []⟩,
    ⟨(some 226), (.extract (.t 216) 1), none, []⟩,
    ⟨(some 31), (.mov (.t 225)), none, []⟩,
    ⟨(some 32), (.mov (.t 226)), none, []⟩] none)
  (.seq (.region [⟨(some 227), (.mov (.t 31)), none, []⟩,
    ⟨(some 228), (.bin .neq (.t 227) (.c (.int .u64 0))), none, []⟩] none)
  (.cond (.t 228)
  R43_2
  .skip))))))
  .skip))
  (.seq (.region [⟨(some 238), (.mov (.t 0)), none, []⟩,
    ⟨(some 239), (.mov (.t 13)), none, []⟩,
    ⟨(some 240), (.sliceArr 1 24 (.t 25) none none), none, []⟩,
    ⟨(some 241), (.mov (.t 26)), none, []⟩,
    ⟨(some 242), (.mov (.t 27)), none, []⟩,
    ⟨(some 243), (.mov (.t 3)), none, []⟩,
    ⟨(some 244), (.mov (.t 2)), none, []⟩,
    ⟨(some 245), (.call (.f 48) [(.t 238), (.t 239), (.t 240), (.t 241), (.t 242), (.t 243), (.t 244), (.c (.bool false))]), none, []⟩,
    ⟨(some 8), (.mov (.t 245)), none, []⟩] none)
  .ret))))
  .skip))))
  .skip))
  (.seq (.region [⟨(some 246), (.alloc 91 [(.int .u8 0), (.int .u8 0), (.int .u8 0), (.int .u8 0), (.int .u8 0), (.int .u8 0), (.int .u8 0), (.int .u8 0), (.int .u8 0), (.int .u8 0), (.int .u8 0), (.int .u8 0), (.int .u8 0), (.int .u8 0), (.int .u8 0), (.int .u8 0), (.int .u8 0), (.int .u8 0), (.int .u8 0), (.int .u8 0), (.int .u8 0), (.int .u8 0), (.int .u8 0), (.int .u8 0), (.int .u8 0), (.int .u8 0), (.int .u8 0), (.int .u8 0), (.int .u8 0), (.int .u8 0), (.int .u8 0), (.int .u8 0), (.int .u8 0), (.int .u8 0), (.int .u8 0), (.int .u8 0), (.int .u8 0), (.int .u8 0), (.int .u8 0), (.int .u8 0), (.int .u8 0), (.int .u8 0), (.int .u8 0), (.int .u8 0), (.int .u8 0), (.int .u8 0), (.int .u8 0), (.int .u8 0), (.int .u8 0), (.int .u8 0), (.int .u8 0), (.int .u8 0), (.int .u8 0), (.int .u8 0), (.int .u8 0), (.int .u8 0), (.int .u8 0), (.int .u8 0), (.int .u8 0), (.int .u8 0), (.int .u8 0), (.int .u8 0), (.int .u8 0), (.int .u8 0), (.int .u8 0), (.int .u8 0), (.int .u8 0), (.int .u8 0), (.int .u8 0), (.int .u8 0), (.int .u8 0), (.int .u8 0), (.int .u8 0), (.int .u8 0), (.int .u8 0), (.int .u8 0), (.int .u8 0), (.int .u8 0), (.int .u8 0), (.int .u8 0), (.int .u8 0), (.int .u8 0), (.int .u8 0), (.int .u8 0), (.int .u8 0), (.int .u8 0), (.int .u8 0), (.int .u8 0), (.int .u8 0), (.int .u8 0), (.int .u8 0), (.int .u8 0), (.int .u8 0), (.int .u8 0), (.int .u8 0), (.int .u8 0), (.int .u8 0), (.int .u8 0), (.int .u8 0), (.int .u8 0), (.int .u8 0), (.int .u8 0), (.int .u8 0), (.int .u8 0), (.int .u8 0), (.int .u8 0), (.int .u8 0), (.int .u8 0), (.int .u8 0), (.int .u8 0), (.int .u8 0), (.int .u8 0), (.int .u8 0), (.int .u8 0), (.int .u8 0), (.int .u8 0), (.int .u8 0), (.int .u8 0), (.int .u8 0), (.int .u8 0), (.int .u8 0), (.int .u8 0), (.int .u8 0), (.int .u8 0), (.int .u8 0), (.int .u8 0), (.int .u8 0), (.int .u8 0), (.int .u8 0), (.int .u8 0), (.int .u8 0), (.int .u8 0), (.int .u8 0), (.int .u8 0), (.int .u8 0), (.int .u8 0), (.int .u8 0), (.int .u8 0), (.int .u8 0), (.int .u8 0), (.int .u8 0), (.int .u8 0), (.int .u8 0), (.int .u8 0), (.int .u8 0), (.int .u8 0), (.int .u8 0), (.int .u8 0), (.int .u8 0), (.int .u8 0), (.int .u8 0), (.int .u8 0), (.int .u8 0), (.int .u8 0), (.int .u8 0), (.int .u8 0), (.int .u8 0), (.int .u8 0), (.int .u8 0), (.int .u8 0), (.int .u8 0), (.int .u8 0), (.int .u8 0), (.int .u8 0), (.int .u8 0), (.int .u8 0), (.int .u8 0), (.int .u8 0), (.int .u8 0), (.int .u8 0), (.int .u8 0), (.int .u8 0), (.int .u8 0), (.int .u8 0), (.int .u8 0), (.int .u8 0), (.int .u8 0), (.int .u8 0), (.int .u8 0), (.int .u8 0), (.int .u8 0), (.int .u8 0), (.int .u8 0), (.int .u8 0), (.int .u8 0), (.int .u8 0), (.int .u8 0), (.int .u8 0), (.int .u8 0), (.int .u8 0), (.int .u8 0), (.int .u8 0), (.int .u8 0), (.int .u8 0), (.int .u8 0), (.int .u8 0), (.int .u8 0), (.int .u8 0), (.int .u8 0), (.int .u8 0), (.int .u8 0), (.int .u8 0), (.int .u8 0), (.int .u8 0), (.int .u8 0), (.int .u8 0), (.int .u8 0), (.int .u8 0), (.int .u8 0), (.int .u8 0), (.int .u8 0), (.int .u8 0), (.int .u8 0), (.int .u8 0), (.int .u8 0), (.int .u8 0), (.int .u8 0), (.int .u8 0), (.int .u8 0), (.int .u8 0), (.int .u8 0), (.int .u8 0), (.int .u8 0), (.int .u8 0), (.int .u8 0), (.int .u8 0), (.int .u8 0), (.int .u8 0), (.int .u8 0), (.int .u8 0), (.int .u8 0), (.int .u8 0), (.int .u8 0), (.int .u8 0), (.int .u8 0), (.int .u8 0), (.int .u8 0), (.int .u8 0), (.int .u8 0), (.int .u8 0), (.int .u8 0), (.int .u8 0), (.int .u8 0), (.int .u8 0), (.int .u8 0), (.int .u8 0), (.int .u8 0), (.int .u8 0), (.int .u8 0), (.int .u8 0), (.int .u8 0), (.int .u8 0), (.int .u8 0), (.int .u8 0), (.int .u8 0), (.int .u8 0), (.int .u8 0), (.int .u8 0), (.int .u8 0), (.int .u8 0), (.int .u8 0), (.int .u8 0), (.int .u8 0), (.int .u8 0), (.int .u8 0), (.int .u8 0), (.int .u8 0), (.int .u8 0), (.int .u8 0), (.int .u8 0), (.int .u8 0), (.int .u8 0), (.int .u8 0), (.int .u8 0), (.int .u8 0), (.int .u8 0), (.int .u8 0), (.int .u8 0), (.int .u8 0), (.int .u8 0), (.int .u8 0), (.int .u8 0), (.int .u8 0), (.int .u8 0), (.int .u8 0), (.int .u8 0), (.int .u8 0), (.int .u8 0), (.int .u8 0), (.int .u8 0), (.int .u8 0), (.int .u8 0), (.int .u8 0), (.int .u8 0), (.int .u8 0), (.int .u8 0), (.int .u8 0), (.int .u8 0), (.int .u8 0), (.int .u8 0), (.int .u8 0), (.int .u8 0), (.int .u8 0), (.int .u8 0), (.int .u8 0), (.int .u8 0), (.int .u8 0), (.int .u8 0), (.int .u8 0), (.int .u8 0), (.int .u8 0), (.int .u8 0), (.int .u8 0), (.int .u8 0), (.int .u8 0), (.int .u8 0), (.int .u8 0), (.int .u8 0), (.int .u8 0), (.int .u8 0), (.int .u8 0), (.int .u8 0), (.int .u8 0), (.int .u8 0), (.int .u8 0), (.int .u8 0), (.int .u8 0), (.int .u8 0), (.int .u8 0), (.int .u8 0), (.int .u8 0), (.int .u8 0), (.int .u8 0), (.int .u8 0), (.int .u8 0), (.int .u8 0), (.int .u8 0), (.int .u8 0), (.int .u8 0), (.int .u8 0), (.int .u8 0), (.int .u8 0), (.int .u8 0), (.int .u8 0), (.int .u8 0), (.int .u8 0), (.int .u8 0), (.int .u8 0), (.int .u8 0), (.int .u8 0), (.int .u8 0), (.int .u8 0), (.int .u8 0), (.int .u8 0), (.int .u8 0), (.int .u8 0), (.int .u8 0), (.int .u8 0), (.int .u8 0), (.int .u8 0), (.int .u8 0), (.int .u8 0), (.int .u8 0), (.int .u8 0), (.int .u8 0), (.int .u8 0), (.int .u8 0), (.int .u8 0), (.int .u8 0), (.int .u8 0), (.int .u8 0), (.int .u8 0), (.int .u8 0), (.int .u8 0), (.int .u8 0), (.int .u8 0), (.int .u8 0), (.int .u8 0), (.int .u8 0), (.int .u8 0), (.int .u8 0), (.int .u8 0), (.int .u8 0), (.int .u8 0), (.int .u8 0), (.int .u8 0), (.int .u8 0), (.int .u8 0), (.int .u8 0), (.int .u8 0), (.int .u8 0), (.int .u8 0), (.int .u8 0), (.int .u8 0), (.int .u8 0), (.int .u8 0), (.int .u8 0), (.int .u8 0), (.int .u8 0), (.int .u8 0), (.int .u8 0), (.int .u8 0), (.int .u8 0), (.int .u8 0), (.int .u8 0), (.int .u8 0), (.int .u8 0), (.int .u8 0), (.int .u8 0), (.int .u8 0), (.int .u8 0), (.int .u8 0), (.int .u8 0), (.int .u8 0), (.int .u8 0), (.int .u8 0), (.int .u8 0), (.int .u8 0), (.int .u8 0), (.int .u8 0), (.int .u8 0), (.int .u8 0), (.int .u8 0), (.int .u8 0), (.int .u8 0), (.int .u8 0), (.int .u8 0), (.int .u8 0), (.int .u8 0), (.int .u8 0), (.int .u8 0), (.int .u8 0), (.int .u8 0), (.int .u8 0), (.int .u8 0), (.int .u8 0), (.int .u8 0), (.int .u8 0), (.int .u8 0), (.int .u8 0), (.int .u8 0), (.int .u8 0), (.int .u8 0), (.int .u8 0), (.int .u8 0), (.int .u8 0), (.int .u8 0), (.int .u8 0), (.int .u8 0), (.int .u8 0), (.int .u8 0), (.int .u8 0), (.int .u8 0), (.int .u8 0), (.int .u8 0), (.int .u8 0), (.int .u8 0), (.int .u8 0), (.int .u8 0), (.int .u8 0), (.int .u8 0), (.int .u8 0), (.int .u8 0), (.int .u8 0), (.int .u8 0), (.int .u8 0), (.int .u8 0), (.int .u8 0), (.int .u8 0), (.int .u8 0), (.int .u8 0), (.int .u8 0), (.int .u8 0), (.int .u8 0), (.int .u8 0), (.int .u8 0), (.int .u8 0), (.int .u8 0), (.int .u8 0), (.int .u8 0), (.int .u8 0), (.int .u8 0), (.int .u8 0), (.int .u8 0), (.int .u8 0), (.int .u8 0), (.int .u8 0), (.int .u8 0), (.int .u8 0), (.int .u8 0), (.int .u8 0), (.int .u8 0), (.int .u8 0), (.int .u8 0), (.int .u8 0), (.int .u8 0), (.int .u8 0), (.int .u8 0), (.int .u8 0), (.int .u8 0), (.int .u8 0), (.int .u8 0), (.int .u8 0), (.int .u8 0), (.int .u8 0), (.int .u8 0), (.int .u8 0), (.int .u8 0), (.int .u8 0), (.int .u8 0), (.int .u8 0), (.int .u8 0), (.int .u8 0), (.int .u8 0), (.int .u8 0), (.int .u8 0), (.int .u8 0), (.int .u8 0), (.int .u8 0), (.int .u8 0), (.int .u8 0), (.int .u8 0), (.int .u8 0), (.int .u8 0), (.int .u8 0), (.int .u8 0), (.int .u8 0), (.int .u8 0), (.int .u8 0), (.int .u8 0), (.int .u8 0), (.int .u8 0), (.int .u8 0), (.int .u8 0), (.int .u8 0), (.int .u8 0), (.int .u8 0), (.int .u8 0), (.int .u8 0), (.int .u8 0), (.int .u8 0), (.int .u8 0), (.int .u8 0), (.int .u8 0), (.int .u8 0), (.int .u8 0), (.int .u8 0), (.int .u8 0), (.int .u8 0), (.int .u8 0), (.int .u8 0), (.int .u8 0), (.int .u8 0), (.int .u8 0), (.int .u8 0), (.int .u8 0), (.int .u8 0), (.int .u8 0), (.int .u8 0), (.int .u8 0), (.int .u8 0), (.int .u8 0), (.int .u8 0), (.int .u8 0), (.int .u8 0), (.int .u8 0), (.int .u8 0), (.int .u8 0), (.int .u8 0), (.int .u8 0), (.int .u8 0), (.int .u8 0), (.int .u8 0), (.int .u8 0), (.int .u8 0), (.int .u8 0), (.int .u8 0), (.int .u8 0), (.int .u8 0), (.int .u8 0), (.int .u8 0), (.int .u8 0), (.int .u8 0), (.int .u8 0), (.int .u8 0), (.int .u8 0), (.int .u8 0), (.int .u8 0), (.int .u8 0), (.int .u8 0), (.int .u8 0), (.int .u8 0), (.int .u8 0), (.int .u8 0), (.int .u8 0), (.int .u8 0), (.int .u8 0), (.int .u8 0), (.int .u8 0), (.int .u8 0), (.int .u8 0), (.int .u8 0), (.int .u8 0), (.int .u8 0), (.int .u8 0), (.int .u8 0), (.int .u8 0), (.int .u8 0), (.int .u8 0), (.int .u8 0), (.int .u8 0), (.int .u8 0), (.int .u8 0), (.int .u8 0), (.int .u8 0), (.int .u8 0), (.int .u8 0), (.int .u8 0), (.int .u8 0), (.int .u8 0), (.int .u8 0), (.int .u8 0), (.int .u8 0), (.int .u8 0), (.int .u8 0), (.int .u8 0), (.int .u8 0), (.int .u8 0), (.int .u8 0), (.int .u8 0), (.int .u8 0), (.int .u8 0), (.int .u8 0), (.int .u8 0), (.int .u8 0), (.int .u8 0), (.int .u8 0), (.int .u8 0), (.int .u8 0), (.int .u8 0), (.int .u8 0), (.int .u8 0), (.int .u8 0), (.int .u8 0), (.int .u8 0), (.int .u8 0), (.int .u8 0), (.int .u8 0), (.int .u8 0), (.int .u8 0), (.int .u8 0), (.int .u8 0), (.int .u8 0), (.int .u8 0), (.int .u8 0), (.int .u8 0), (.int .u8 0), (.int .u8 0), (.int .u8 0), (.int .u8 0), (.int .u8 0), (.int .u8 0), (.int .u8 0), (.int .u8 0), (.int .u8 0), (.int .u8 0), (.int .u8 0), (.int .u8 0), (.int .u8 0), (.int .u8 0), (.int .u8 0), (.int .u8 0), (.int .u8 0), (.int .u8 0), (.int .u8 0), (.int .u8 0), (.int .u8 0), (.int .u8 0), (.int .u8 0), (.int .u8 0), (.int .u8 0), (.int .u8 0), (.int .u8 0), (.int .u8 0), (.int .u8 0), (.int .u8 0), (.int .u8 0), (.int .u8 0), (.int .u8 0), (.int .u8 0), (.int .u8 0), (.int .u8 0), (.int .u8 0), (.int .u8 0), (.int .u8 0), (.int .u8 0), (.int .u8 0), (.int .u8 0), (.int .u8 0), (.int .u8 0), (.int .u8 0), (.int .u8 0), (.int .u8 0), (.int .u8 0), (.int .u8 0), (.int .u8 0), (.int .u8 0), (.int .u8 0), (.int .u8 0), (.int .u8 0), (.int .u8 0), (.int .u8 0), (.int .u8 0), (.int .u8 0), (.int .u8 0), (.int .u8 0), (.int .u8 0), (.int .u8 0), (.int .u8 0), (.int .u8 0), (.int .u8 0), (.int .u8 0), (.int .u8 0), (.int .u8 0), (.int .u8 0), (.int .u8 0), (.int .u8 0), (.int .u8 0), (.int .u8 0), (.int .u8 0), (.int .u8 0), (.int .u8 0), (.int .u8 0), (.int .u8 0), (.int .u8 0), (.int .u8 0), (.int .u8 0), (.int .u8 0), (.int .u8 0), (.int .u8 0), (.int .u8 0), (.int .u8 0), (.int .u8 0), (.int .u8 0), (.int .u8 0), (.int .u8 0), (.int .u8 0), (.int .u8 0), (.int .u8 0), (.int .u8 0), (.int .u8 0), (.int .u8 0), (.int .u8 0), (.int .u8 0), (.int .u8 0), (.int .u8 0), (.int .u8 0), (.int .u8 0), (.int .u8 0), (.int .u8 0), (.int .u8 0), (.int .u8 0), (.int .u8 0), (.int .u8 0), (.int .u8 0), (.int .u8 0), (.int .u8 0), (.int .u8 0), (.int .u8 0), (.int .u8 0), (.int .u8 0), (.int .u8 0), (.int .u8 0), (.int .u8 0), (.int .u8 0), (.int .u8 0), (.int .u8 0), (.int .u8 0), (.int .u8 0), (.int .u8 0), (.int .u8 0), (.int .u8 0), (.int .u8 0), (.int .u8 0), (.int .u8 0), (.int .u8 0), (.int .u8 0), (.int .u8 0), (.int .u8 0), (.int .u8 0), (.int .u8 0), (.int .u8 0), (.int .u8 0), (.int .u8 0), (.int .u8 0), (.int .u8 0), (.int .u8 0), (.int .u8 0), (.int .u8 0), (.int .u8 0), (.int .i64 0), (.int .i64 0), (.bool false), (.bool false)]), none, []⟩,
    ⟨(some 33), (.mov (.t 246)), none, []⟩] none)
  (.seq (.region [⟨(some 247), (.mov (.t 33)), none, []⟩,
    ⟨(some 248), (.mov (.t 15)), none, []⟩,
    ⟨(some 249), (.call (.f 55) [(.t 247), (.t 248)]), none, []⟩] none)
  (.seq (.region [⟨(some 250), (.mov (.t 33)), none, []⟩,
    ⟨(some 251), (.mov (.t 14)), none, []⟩,
    ⟨(some 252), (.mov (.t 11)), none, []⟩,
    ⟨(some 253), (.bin .sub (.t 251) (.t 252)), none, []⟩,
    ⟨(some 254), (.call (.f 56) [(.t 250), (.t 253)]), none, []⟩] none)
  (.seq (.seq (.region [⟨(some 255), (.mov (.t 2)), none, []⟩] none)
  (.block 3 (.seq (.seq (.region [⟨(some 257), (.bin .eql (.t 255) (.c (.int .u8 101))), none, []⟩,
    ⟨(some 256), (.mov (.t 257)), none, []⟩] none)
  (.cond (.t 256)
  .skip
  (.region [⟨(some 258), (.bin .eql (.t 255) (.c (.int .u8 69))), none, []⟩,
    ⟨(some 256), (.mov (.t 258)), none, []⟩] none)))
  (.cond (.t 256)
  (.region [⟨(some 259), (.mov (.t 33)), none, []⟩,
    ⟨(some 260), (.mov (.t 3)), none, []⟩,
    ⟨(some 261), (.bin .add (.t 260) (.c (.int .i64 1))), none, []⟩,
    ⟨(some 262), (.call (.f 57) [(.t 259), (.t 261)]), none, []⟩] none)
  (.seq (.region [⟨(some 264), (.bin .eql (.t 255) (.c (.int .u8 102))), none, []⟩,
    ⟨(some 263), (.mov (.t 264)), none, []⟩] none)
  (.cond (.t 263)
  (.region [⟨(some 265), (.mov (.t 33)), none, []⟩,
    ⟨(some 266), (.mov (.t 33)), none, []⟩,
    ⟨(some 267), (.nilCheck (.t 266)), none, []⟩,
    ⟨(some 268), (.fieldAddr 801 (.t 267)), none, []⟩,
    ⟨(some 269), (.load none (.t 268)), none, []⟩,
    ⟨(some 270), (.mov (.t 3)), none, []⟩,
    ⟨(some 271), (.bin .add (.t 269) (.t 270)), none, []⟩,
    ⟨(some 272), (.call (.f 57) [(.t 265), (.t 271)]), none, []⟩] none)
  (.seq (.seq (.region [⟨(some 274), (.bin .eql (.t 255) (.c (.int .u8 103))), none, []⟩,
    ⟨(some 273), (.mov (.t 274)), none, []⟩] none)
  (.cond (.t 273)
  .skip
  (.region [⟨(some 275), (.bin .eql (.t 255) (.c (.int .u8 71))), none, []⟩,
    ⟨(some 273), (.mov (.t 275)), none, []⟩] none)))
  (.cond (.t 273)
  (.seq (.seq (.region [⟨(some 276), (.mov (.t 3)), none, []⟩,
    ⟨(some 277), (.bin .eql (.t 276) (.c (.int .i64 0))), none, []⟩] none)
  (.cond (.t 277)
  (.region [⟨(some 3), (.mov (.c (.int .i64 1))), none, []⟩] none)
  .skip))
  (.region [⟨(some 278), (.mov (.t 33)), none, []⟩,
    ⟨(some 279), (.mov (.t 3)), none, []⟩,
    ⟨(some 280), (.call (.f 57) [(.t 278), (.t 279)]), none, []⟩] none))
  .skip))))))))
  (.seq R43_3
  .ret))))))))))))))))))))
def F43 : AFunc := ⟨4, 298, [(.tmp 8)], B43⟩
/-- internal/strconv.fmtEFG -/
def F48L0 : ACode := (.seq (.region [⟨(some 115), (.bin .lss (.t 114) (.t 113)), none, []⟩] none)
  (.seq (.cond (.t 115)
  .skip
  (.exit 1))
  (.seq (.block 2 (.region [⟨(some 116), (.mov (.t 0)), none, []⟩,
    ⟨(some 117), (.buildSlice 5 1 1 [(.int .u8 0)] [(0, 1, (.c (.int .u8 48)))]), none, []⟩,
    ⟨(some 118), (.append 5 1 1 (.t 116) (.t 117)), none, []⟩,
    ⟨(some 0), (.mov (.t 118)), none, []⟩] none))
  (.region [⟨(some 119), (.bin .add (.t 114) (.c (.int .i64 1))), none, []⟩,
    ⟨(some 114), (.mov (.t 119)), none, []⟩] none))))
def F48L1 : ACode := (.seq (.region [⟨(some 192), (.bin .lss (.t 191) (.t 190)), none, []⟩] none)
  (.seq (.cond (.t 192)
  .skip
  (.exit 4))
  (.seq (.block 5 (.seq (.region [⟨(some 193), (.indexAddr 1 (.t 189) (.t 191)), none, []⟩,
    ⟨(some 194), (.load none (.t 193)), none, []⟩,
    ⟨(some 25), (.mov (.t 194)), none, []⟩] none)
  (.region [⟨(some 195), (.mov (.t 0)), none, []⟩,
    ⟨(some 196), (.mov (.t 25)), none, []⟩,
    ⟨(some 197), (.buildSlice 5 1 1 [(.int .u8 0)] [(0, 1, (.t 196))]), none, []⟩,
    ⟨(some 198), (.append 5 1 1 (.t 195) (.t 197)), none, []⟩,
    ⟨(some 0), (.mov (.t 198)), none, []⟩] none)))
  (.region [⟨(some 199), (.bin .add (.t 191) (.c (.int .i64 1))), none, []⟩,
    ⟨(some 191), (.mov (.t 199)), none, []⟩] none))))
def F48L2 : ACode := (.seq (.region [⟨(some 204), (.bin .lss (.t 203) (.t 202)), none, []⟩] none)
  (.seq (.cond (.t 204)
  .skip
  (.exit 6))
  (.seq (.block 7 (.region [⟨(some 205), (.mov (.t 0)), none, []⟩,
    ⟨(some 206), (.buildSlice 5 1 1 [(.int .u8 0)] [(0, 1, (.c (.int .u8 48)))]), none, []⟩,
    ⟨(some 207), (.append 5 1 1 (.t 205) (.t 206)), none, []⟩,
    ⟨(some 0), (.mov (.t 207)), none, []⟩] none))
  (.region [⟨(some 208), (.bin .add (.t 203) (.c (.int .i64 1))), none, []⟩,
    ⟨(some 203), (.mov (.t 208)), none, []⟩] none))))
def F48L3 : ACode := (.seq (.region [⟨(some 241), (.bin .lss (.t 240) (.t 239)), none, []⟩] none)
  (.seq (.cond (.t 241)
  .skip
  (.exit 8))
  (.seq (.block 9 (.region [⟨(some 242), (.mov (.t 0)), none, []⟩,
    ⟨(some 243), (.buildSlice 5 1 1 [(.int .u8 0)] [(0, 1, (.c (.int .u8 48)))]), none, []⟩,
    ⟨(some 244), (.append 5 1 1 (.t 242) (.t 243)), none, []⟩,
    ⟨(some 0), (.mov (.t 244)), none, []⟩] none))
  (.region [⟨(some 245), (.bin .add (.t 240) (.c (.int .i64 1))), none, []⟩,
    ⟨(some 240), (.mov (.t 245)), none, []⟩] none))))
def F48L4 : ACode := (.seq (.region [⟨(some 248), (.bin .lss (.t 247) (.t 246)), none, []⟩] none)
  (.seq (.cond (.t 248)
  .skip
  (.exit 10))
  (.seq (.block 11 (.seq (.region [⟨(some 249), (.mov (.t 247)), none, []⟩,
    ⟨(some 30), (.mov (.t 249)), none, []⟩] none)
  (.region [⟨(some 250), (.mov (.t 0)), none, []⟩,
    ⟨(some 251), (.mov (.t 2)), none, []⟩,
    ⟨(some 252), (.mov (.t 27)), none, []⟩,
    ⟨(some 253), (.mov (.t 30)), none, []⟩,
    ⟨(some 254), (.bin .add (.t 252) (.t 253)), none, []⟩,
    ⟨(some 255), (.indexAddr 1 (.t 251) (.t 254)), none, []⟩,
    ⟨(some 256), (.load none (.t 255)), none, []⟩,
    ⟨(some 257), (.buildSlice 5 1 1 [(.int .u8 0)] [(0, 1, (.t 256))]), none, []⟩,
    ⟨(some 258), (.append 5 1 1 (.t 250) (.t 257)), none, []⟩,
    ⟨(some 0), (.mov (.t 258)), none, []⟩] none)))
  (.region [⟨(some 259), (.bin .add (.t 247) (.c (.int .i64 1))), none, []⟩,
    ⟨(some 247), (.mov (.t 259)), none, []⟩] none))))
def F48L5 : ACode := (.seq (.region [⟨(some 262), (.bin .lss (.t 261) (.t 260)), none, []⟩] none)
  (.seq (.cond (.t 262)
  .skip
  (.exit 12))
  (.seq (.block 13 (.region [⟨(some 263), (.mov (.t 0)), none, []⟩,
    ⟨(some 264), (.buildSlice 5 1 1 [(.int .u8 0)] [(0, 1, (.c (.int .u8 48)))]), none, []⟩,
    ⟨(some 265), (.append 5 1 1 (.t 263) (.t 264)), none, []⟩,
    ⟨(some 0), (.mov (.t 265)), none, []⟩] none))
  (.region [⟨(some 266), (.bin .add (.t 261) (.c (.int .i64 1))), none, []⟩,
    ⟨(some 261), (.mov (.t 266)), none, []⟩] none))))
def B48 : ACode := (.seq (.region [⟨(some 16), (.mov (.c (.slice none 0 0))), none, []⟩] none)
  (.seq (.seq (.region [⟨(some 31), (.mov (.t 6)), none, []⟩,
    ⟨(some 32), (.bin .eql (.t 31) (.c (.int .u8 103))), none, []⟩,
    ⟨(some 33), (.mov (.t 32)), none, []⟩,
    ⟨(some 34), (.mov (.t 6)), (some (33, false)), []⟩,
    ⟨(some 35), (.bin .eql (.t 34) (.c (.int .u8 71))), (some (33, false)), []⟩,
    ⟨(some 36), (.pick (.t 33) (.c (.bool true)) (.t 35)), none, []⟩] none)
  (.cond (.t 36)
  (.seq (.region [⟨(some 37), (.mov (.t 5)), none, []⟩,
    ⟨(some 17), (.mov (.t 37)), none, []⟩] none)
  (.seq (.seq (.region [⟨(some 38), (.mov (.t 17)), none, []⟩,
    ⟨(some 39), (.mov (.t 4)), none, []⟩,
    ⟨(some 40), (.bin .gtr (.t 38) (.t 39)), none, []⟩,
    ⟨(some 41), (.mov (.t 40)), none, []⟩,
    ⟨(some 42), (.mov (.t 4)), (some (41, true)), []⟩,
    ⟨(some 43), (.mov (.t 3)), (some (41, true)), []⟩,
    ⟨(some 44), (.bin .geq (.t 42) (.t 43)), (some (41, true)), []⟩,
    ⟨(some 45), (.pick (.t 41) (.t 44) (.c (.bool false))), none, []⟩] none)
  (.cond (.t 45)
  (.region [⟨(some 46), (.mov (.t 4)), none, []⟩,
    ⟨(some 17), (.mov (.t 46)), none, []⟩] none)
  .skip))
  (.seq (.seq (.region [⟨(some 47), (.mov (.t 7)), none, []⟩] none)
  (.cond (.t 47)
  (.region [⟨(some 17), (.mov (.c (.int .i64 6))), none, []⟩] none)
  .skip))
  (.seq (.region [⟨(some 48), (.mov (.t 3)), none, []⟩,
    ⟨(some 49), (.bin .sub (.t 48) (.c (.int .i64 1))), none, []⟩,
    ⟨(some 18), (.mov (.t 49)), none, []⟩] none)
  (.seq (.region [⟨(some 50), (.mov (.t 18)), none, []⟩,
    ⟨(some 51), (.bin .lss (.t 50) (.c (.int .i64 (-4)))), none, []⟩,
    ⟨(some 52), (.mov (.t 51)), none, []⟩,
    ⟨(some 53), (.mov (.t 18)), (some (52, false)), []⟩,
    ⟨(some 54), (.mov (.t 17)), (some (52, false)), []⟩,
    ⟨(some 55), (.bin .geq (.t 53) (.t 54)), (some (52, false)), []⟩,
    ⟨(some 56), (.pick (.t 52) (.c (.bool true)) (.t 55)), none, []⟩] none)
  (.cond (.t 56)
  (.seq (.seq (.region [⟨(some 57), (.mov (.t 5)), none, []⟩,
    ⟨(some 58), (.mov (.t 4)), none, []⟩,
    ⟨(some 59), (.bin .gtr (.t 57) (.t 58)), none, []⟩] none)
  (.cond (.t 59)
  (.region [⟨(some 60), (.mov (.t 4)), none, []⟩,
    ⟨(some 5), (.mov (.t 60)), none, []⟩] none)
  .skip))
  (.seq (.region [⟨(some 61), (.mov (.t 5)), none, []⟩,
    ⟨(some 62), (.bin .sub (.t 61) (.c (.int .i64 1))), none, []⟩,
    ⟨(some 5), (.mov (.t 62)), none, []⟩] none)
  (.region [⟨(some 63), (.mov (.t 6)), none, []⟩,
    ⟨(some 64), (.bin .add (.t 63) (.c (.int .u8 101))), none, []⟩,
    ⟨(some 65), (.bin .sub (.t 64) (.c (.int .u8 103))), none, []⟩,
    ⟨(some 6), (.mov (.t 65)), none, []⟩] none)))
  (.seq (.seq (.region [⟨(some 66), (.mov (.t 5)), none, []⟩,
    ⟨(some 67), (.mov (.t 3)), none, []⟩,
    ⟨(some 68), (.bin .gtr (.t 66) (.t 67)), none, []⟩] none)
  (.cond (.t 68)
  (.region [⟨(some 69), (.mov (.t 4)), none, []⟩,
    ⟨(some 5), (.mov (.t 69)), none, []⟩] none)
  .skip))
  (.seq (.region [⟨(some 70), (.mov (.t 5)), none, []⟩,
    ⟨(some 71), (.mov (.t 3)), none, []⟩,
    ⟨(some 72), (.bin .sub (.t 70) (.t 71)), none, []⟩,
    ⟨(some 73), (.max [(.t 72), (.c (.int .i64 0))]), none, []⟩,
    ⟨(some 5), (.mov (.t 73)), none, []⟩] none)
  (.region [⟨(some 6), (.mov (.c (.int .u8 102))), none, []⟩] none)))))))))
  .skip))
  (.seq (.seq (.region [⟨(some 74), (.mov (.t 6)), none, []⟩] none)
  (.block 0 (.seq (.seq (.region [⟨(some 76), (.bin .eql (.t 74) (.c (.int .u8 101))), none, []⟩,
    ⟨(some 75), (.mov (.t 76)), none, []⟩] none)
  (.cond (.t 75)
  .skip
  (.region [⟨(some 77), (.bin .eql (.t 74) (.c (.int .u8 69))), none, []⟩,
    ⟨(some 75), (.mov (.t 77)), none, []⟩] none)))
  (.cond (.t 75)
  (.seq (.seq (.region [⟨(some 78), (.mov (.t 1)), none, []⟩] none)
  (.cond (.t 78)
  (.region [⟨(some 79), (.mov (.t 0)), none, []⟩,
    ⟨(some 80), (.buildSlice 5 1 1 [(.int .u8 0)] [(0, 1, (.c (.int .u8 45)))]), none, []⟩,
    ⟨(some 81), (.append 5 1 1 (.t 79) (.t 80)), none, []⟩,
    ⟨(some 0), (.mov (.t 81)), none, []⟩] none)
  .skip))
  (.seq (.region [⟨(some 19), (.mov (.c (.int .u8 48))), none, []⟩] none)
  (.seq (.seq (.region [⟨(some 82), (.mov (.t 4)), none, []⟩,
    ⟨(some 83), (.bin .neq (.t 82) (.c (.int .i64 0))), none, []⟩] none)
  (.cond (.t 83)
  (.region [⟨(some 84), (.mov (.t 2)), none, []⟩,
    ⟨(some 85), (.indexAddr 1 (.t 84) (.c (.int .i64 0))), none, []⟩,
    ⟨(some 86), (.load none (.t 85)), none, []⟩,
    ⟨(some 19), (.mov (.t 86)), none, []⟩] none)
  .skip))
  (.seq (.region [⟨(some 87), (.mov (.t 0)), none, []⟩,
    ⟨(some 88), (.mov (.t 19)), none, []⟩,
    ⟨(some 89), (.buildSlice 5 1 1 [(.int .u8 0)] [(0, 1, (.t 88))]), none, []⟩,
    ⟨(some 90), (.append 5 1 1 (.t 87) (.t 89)), none, []⟩,
    ⟨(some 0), (.mov (.t 90)), none, []⟩] none)
  (.seq (.seq (.region [⟨(some 91), (.mov (.t 5)), none, []⟩,
    ⟨(some 92), (.bin .gtr (.t 91) (.c (.int .i64 0))), none, []⟩] none)
  (.cond (.t 92)
  (.seq (.region [⟨(some 93), (.mov (.t 0)), none, []⟩,
    ⟨(some 94), (.buildSlice 5 1 1 [(.int .u8 0)] [(0, 1, (.c (.int .u8 46)))]), none, []⟩,
    ⟨(some 95), (.append 5 1 1 (.t 93) (.t 94)), none, []⟩,
    ⟨(some 0), (.mov (.t 95)), none, []⟩] none)
  (.seq (.region [⟨(some 20), (.mov (.c (.int .i64 1))), none, []⟩] none)
  (.seq (.region [⟨(some 96), (.mov (.t 4)), none, []⟩,
    ⟨(some 97), (.mov (.t 5)), none, []⟩,
    ⟨(some 98), (.bin .add (.t 97) (.c (.int .i64 1))), none, []⟩,
    ⟨(some 99), (.min [(.t 96), (.t 98)]), none, []⟩,
    ⟨(some 21), (.mov (.t 99)), none, []⟩] none)
  (.seq (.seq (.region [⟨(some 100), (.mov (.t 20)), none, []⟩,
    ⟨(some 101), (.mov (.t 21)), none, []⟩,
    ⟨(some 102), (.bin .lss (.t 100) (.t 101)), none, []⟩] none)
  (.cond (.t 102)
  (.seq (.region [⟨(some 103), (.mov (.t 0)), none, []⟩,
    ⟨(some 104), (.mov (.t 2)), none, []⟩,
    ⟨(some 105), (.mov (.t 20)), none, []⟩,
    ⟨(some 106), (.mov (.t 21)), none, []⟩,
    ⟨(some 107), (.slice 1 (.t 104) (some (.t 105)) (some (.t 106)) none), none, []⟩,
    ⟨(some 108), (.append 5 1 1 (.t 103) (.t 107)), none, []⟩,
    ⟨(some 0), (.mov (.t 108)), none, []⟩] none)
  (.region [⟨(some 109), (.mov (.t 21)), none, []⟩,
    ⟨(some 20), (.mov (.t 109)), none, []⟩] none))
  .skip))
  (.seq (.region [⟨(some 110), (.mov (.t 5)), none, []⟩,
    ⟨(some 111), (.bin .add (.t 110) (.c (.int .i64 1))), none, []⟩,
    ⟨(some 112), (.mov (.t 20)), none, []⟩,
    ⟨(some 113), (.bin .sub (.t 111) (.t 112)), none, []⟩,
    ⟨(some 114), (.mov (.c (.int .i64 0))), none, []⟩] none)
  (.block 1 (.loop F48L0)))))))
  .skip))
  (.seq (.region [⟨(some 120), (.mov (.t 0)), none, []⟩,
    ⟨(some 121), (.mov (.t 6)), none, []⟩,
    ⟨(some 122), (.buildSlice 5 1 1 [(.int .u8 0)] [(0, 1, (.t 121))]), none, []⟩,
    ⟨(some 123), (.append 5 1 1 (.t 120) (.t 122)), none, []⟩,
    ⟨(some 0), (.mov (.t 123)), none, []⟩] none)
  (.seq (.region [⟨(some 124), (.mov (.t 3)), none, []⟩,
    ⟨(some 125), (.bin .sub (.t 124) (.c (.int .i64 1))), none, []⟩,
    ⟨(some 22), (.mov (.t 125)), none, []⟩] none)
  (.seq (.seq (.region [⟨(some 126), (.mov (.t 4)), none, []⟩,
    ⟨(some 127), (.bin .eql (.t 126) (.c (.int .i64 0))), none, []⟩] none)
  (.cond (.t 127)
  (.region [⟨(some 22), (.mov (.c (.int .i64 0))), none, []⟩] none)
  .skip))
  (.seq (.seq (.region [⟨(some 128), (.mov (.t 22)), none, []⟩,
    ⟨(some 129), (.bin .lss (.t 128) (.c (.int .i64 0))), none, []⟩] none)
  (.cond (.t 129)
  (.seq (.region [⟨(some 19), (.mov (.c (.int .u8 45))), none, []⟩] none)
  (.region [⟨(some 130), (.mov (.t 22)), none, []⟩,
    ⟨(some 131), (.un .neg (.t 130)), none, []⟩,
    ⟨(some 22), (.mov (.t 131)), none, []⟩] none))
  (.region [⟨(some 19), (.mov (.c (.int .u8 43))), none, []⟩] none)))
  (.seq (.region [⟨(some 132), (.mov (.t 0)), none, []⟩,
    ⟨(some 133), (.mov (.t 19)), none, []⟩,
    ⟨(some 134), (.buildSlice 5 1 1 [(.int .u8 0)] [(0, 1, (.t 133))]), none, []⟩,
    ⟨(some 135), (.append 5 1 1 (.t 132) (.t 134)), none, []⟩,
    ⟨(some 0), (.mov (.t 135)), none, []⟩] none)
  (.seq (.block 3 (.seq (.region [⟨(some 153), (.mov (.t 22)), none, []⟩,
    ⟨(some 154), (.bin .lss (.t 153) (.c (.int .i64 10))), none, []⟩,
    ⟨(some 152), (.mov (.t 154)), none, []⟩] none)
  (.cond (.t 152)
  (.region [⟨(some 155), (.mov (.t 0)), none, []⟩,
    ⟨(some 156), (.mov (.t 22)), none, []⟩,
    ⟨(some 157), (.conv .u8 (.t 156)), none, []⟩,
    ⟨(some 158), (.bin .add (.t 157) (.c (.int .u8 48))), none, []⟩,
    ⟨(some 159), (.buildSlice 5 1 2 [(.int .u8 0)] [(0, 1, (.c (.int .u8 48))), (1, 1, (.t 158))]), none, []⟩,
    ⟨(some 160), (.append 5 1 1 (.t 155) (.t 159)), none, []⟩,
    ⟨(some 0), (.mov (.t 160)), none, []⟩] none)
  (.seq (.region [⟨(some 162), (.mov (.t 22)), none, []⟩,
    ⟨(some 163), (.bin .lss (.t 162) (.c (.int .i64 100))), none, []⟩,
    ⟨(some 161), (.mov (.t 163)), none, []⟩] none)
  (.cond (.t 161)
  (.region [⟨(some 164), (.mov (.t 0)), none, []⟩,
    ⟨(some 165), (.mov (.t 22)), none, []⟩,
    ⟨(some 166), (.bin .quo (.t 165) (.c (.int .i64 10))), none, []⟩,
    ⟨(some 167), (.conv .u8 (.t 166)), none, []⟩,
    ⟨(some 168), (.bin .add (.t 167) (.c (.int .u8 48))), none, []⟩,
    ⟨(some 169), (.mov (.t 22)), none, []⟩,
    ⟨(some 170), (.bin .rem (.t 169) (.c (.int .i64 10))), none, []⟩,
    ⟨(some 171), (.conv .u8 (.t 170)), none, []⟩,
    ⟨(some 172), (.bin .add (.t 171) (.c (.int .u8 48))), none, []⟩,
    ⟨(some 173), (.buildSlice 5 1 2 [(.int .u8 0)] [(0, 1, (.t 168)), (1, 1, (.t 172))]), none, []⟩,
    ⟨(some 174), (.append 5 1 1 (.t 164) (.t 173)), none, []⟩,
    ⟨(some 0), (.mov (.t 174)), none, []⟩] none)
  (.region [⟨(some 136), (.mov (.t 0)), none, []⟩,
    ⟨(some 137), (.mov (.t 22)), none, []⟩,
    ⟨(some 138), (.bin .quo (.t 137) (.c (.int .i64 100))), none, []⟩,
    ⟨(some 139), (.conv .u8 (.t 138)), none, []⟩,
    ⟨(some 140), (.bin .add (.t 139) (.c (.int .u8 48))), none, []⟩,
    ⟨(some 141), (.mov (.t 22)), none, []⟩,
    ⟨(some 142), (.bin .quo (.t 141) (.c (.int .i64 10))), none, []⟩,
    ⟨(some 143), (.conv .u8 (.t 142)), none, []⟩,
    ⟨(some 144), (.bin .rem (.t 143) (.c (.int .u8 10))), none, []⟩,
    ⟨(some 145), (.bin .add (.t 144) (.c (.int .u8 48))), none, []⟩,
    ⟨(some 146), (.mov (.t 22)), none, []⟩,
    ⟨(some 147), (.bin .rem (.t 146) (.c (.int .i64 10))), none, []⟩,
    ⟨(some 148), (.conv .u8 (.t 147)), none, []⟩,
    ⟨(some 149), (.bin .add (.t 148) (.c (.int .u8 48))), none, []⟩,
    ⟨(some 150), (.buildSlice 5 1 3 [(.int .u8 0)] [(0, 1, (.t 140)), (1, 1, (.t 145)), (2, 1, (.t 149))]), none, []⟩,
    ⟨(some 151), (.append 5 1 1 (.t 136) (.t 150)), none, []⟩,
    ⟨(some 0), (.mov (.t 151)), none, []⟩] none))))))
  (.seq (.region [⟨(some 175), (.mov (.t 0)), none, []⟩,
    ⟨(some 16), (.mov (.t 175)), none, []⟩] none)
  .ret))))))))))))
  (.seq (.region [⟨(some 177), (.bin .eql (.t 74) (.c (.int .u8 102))), none, []⟩,
    ⟨(some 176), (.mov (.t 177)), none, []⟩] none)
  (.cond (.t 176)
  (.seq (.seq (.region [⟨(some 178), (.mov (.t 1)), none, []⟩] none)
  (.cond (.t 178)
  (.region [⟨(some 179), (.mov (.t 0)), none, []⟩,
    ⟨(some 180), (.buildSlice 5 1 1 [(.int .u8 0)] [(0, 1, (.c (.int .u8 45)))]), none, []⟩,
    ⟨(some 181), (.append 5 1 1 (.t 179) (.t 180)), none, []⟩,
    ⟨(some 0), (.mov (.t 181)), none, []⟩] none)
  .skip))
  (.seq (.seq (.region [⟨(some 182), (.mov (.t 3)), none, []⟩,
    ⟨(some 183), (.bin .gtr (.t 182) (.c (.int .i64 0))), none, []⟩] none)
  (.cond (.t 183)
  (.seq (.region [⟨(some 184), (.mov (.t 4)), none, []⟩,
    ⟨(some 185), (.mov (.t 3)), none, []⟩,
    ⟨(some 186), (.min [(.t 184), (.t 185)]), none, []⟩,
    ⟨(some 23), (.mov (.t 186)), none, []⟩] none)
  (.seq (.seq (.region [⟨(some 187), (.mov (.t 2)), none, []⟩,
    ⟨(some 188), (.mov (.t 23)), none, []⟩,
    ⟨(some 189), (.slice 1 (.t 187) none (some (.t 188)) none), none, []⟩,
    ⟨(some 190), (.lenSlice (.t 189)), none, []⟩,
    ⟨(some 191), (.mov (.c (.int .i64 0))), none, []⟩] none)
  (.block 4 (.loop F48L1)))
  (.seq (.region [⟨(some 200), (.mov (.t 3)), none, []⟩,
    ⟨(some 201), (.mov (.t 23)), none, []⟩,
    ⟨(some 202), (.bin .sub (.t 200) (.t 201)), none, []⟩,
    ⟨(some 203), (.mov (.c (.int .i64 0))), none, []⟩] none)
  (.block 6 (.loop F48L2)))))
  (.region [⟨(some 209), (.mov (.t 0)), none, []⟩,
    ⟨(some 210), (.buildSlice 5 1 1 [(.int .u8 0)] [(0, 1, (.c (.int .u8 48)))]), none, []⟩,
    ⟨(some 211), (.append 5 1 1 (.t 209) (.t 210)), none, []⟩,
    ⟨(some 0), (.mov (.t 211)), none, []⟩] none)))
  (.seq (.seq (.region [⟨(some 212), (.mov (.t 5)), none, []⟩,
    ⟨(some 213), (.bin .gtr (.t 212) (.c (.int .i64 0))), none, []⟩] none)
  (.cond (.t 213)
  (.seq (.region [⟨(some 214), (.mov (.t 0)), none, []⟩,
    ⟨(some 215), (.buildSlice 5 1 1 [(.int .u8 0)] [(0, 1, (.c (.int .u8 46)))]), none, []⟩,
    ⟨(some 216), (.append 5 1 1 (.t 214) (.t 215)), none, []⟩,
    ⟨(some 0), (.mov (.t 216)), none, []⟩] none)
  (.seq (.region [⟨(some 217), (.mov (.t 5)), none, []⟩,
    ⟨(some 218), (.mov (.t 3)), none, []⟩,
    ⟨(some 219), (.un .neg (.t 218)), none, []⟩,
    ⟨(some 220), (.max [(.c (.int .i64 0)), (.t 219)]), none, []⟩,
    ⟨(some 221), (.min [(.t 217), (.t 220)]), none, []⟩,
    ⟨(some 26), (.mov (.t 221)), none, []⟩] none)
  (.seq (.region [⟨(some 222), (.mov (.t 3)), none, []⟩,
    ⟨(some 223), (.mov (.t 26)), none, []⟩,
    ⟨(some 224), (.bin .add (.t 222) (.t 223)), none, []⟩,
    ⟨(some 27), (.mov (.t 224)), none, []⟩] none)
  (.seq (.region [⟨(some 225), (.mov (.t 5)), none, []⟩,
    ⟨(some 226), (.mov (.t 26)), none, []⟩,
    ⟨(some 227), (.bin .sub (.t 225) (.t 226)), none, []⟩,
    ⟨(some 228), (.mov (.t 4)), none, []⟩,
    ⟨(some 229), (.mov (.t 27)), none, []⟩,
    ⟨(some 230), (.bin .sub (.t 228) (.t 229)), none, []⟩,
    ⟨(some 231), (.max [(.c (.int .i64 0)), (.t 230)]), none, []⟩,
    ⟨(some 232), (.min [(.t 227), (.t 231)]), none, []⟩,
    ⟨(some 28), (.mov (.t 232)), none, []⟩] none)
  (.seq (.region [⟨(some 233), (.mov (.t 5)), none, []⟩,
    ⟨(some 234), (.mov (.t 26)), none, []⟩,
    ⟨(some 235), (.bin .sub (.t 233) (.t 234)), none, []⟩,
    ⟨(some 236), (.mov (.t 28)), none, []⟩,
    ⟨(some 237), (.bin .sub (.t 235) (.t 236)), none, []⟩,
    ⟨(some 238), (.max [(.c (.int .i64 0)), (.t 237)]), none, []⟩,
    ⟨(some 29), (.mov (.t 238)), none, []⟩] none)
  (.seq (.seq (.region [⟨(some 239), (.mov (.t 26)), none, []⟩,
    ⟨(some 240), (.mov (.c (.int .i64 0))), none, []⟩] none)
  (.block 8 (.loop F48L3)))
  (.seq (.seq (.region [⟨(some 246), (.mov (.t 28)), none, []⟩,
    ⟨(some 247), (.mov (.c (.int .i64 0))), none, []⟩] none)
  (.block 10 (.loop F48L4)))
  (.seq (.region [⟨(some 260), (.mov (.t 29)), none, []⟩,
    ⟨(some 261), (.mov (.c (.int .i64 0))), none, []⟩] none)
  (.block 12 (.loop F48L5))))))))))
  .skip))
  (.seq (.region [⟨(some 267), (.mov (.t 0)), none, []⟩,
    ⟨(some 16), (.mov (.t 267)), none, []⟩] none)
  .ret))))
  .skip))))))
  (.seq (.region [⟨(some 268), (.mov (.t 0)), none, []⟩,
    ⟨(some 269), (.mov (.t 6)), none, []⟩,
    ⟨(some 270), (.buildSlice 5 1 2 [(.int .u8 0)] [(0, 1, (.c (.int .u8 37))), (1, 1, (.t 269))]), none, []⟩,
    ⟨(some 271), (.append 5 1 1 (.t 268) (.t 270)), none, []⟩,
    ⟨(some 16), (.mov (.t 271)), none, []⟩] none)
  .ret))))
def F48 : AFunc := ⟨8, 272, [(.tmp 16)], B48⟩
-- F48L0 live: [0, 3, 4, 6, 113, 114]

-- F48L1 live: [0, 2, 3, 4, 5, 23, 189, 190, 191]

-- F48L2 live: [0, 2, 3, 4, 5, 202, 203]

-- F48L3 live: [0, 2, 27, 28, 29, 239, 240]

-- F48L4 live: [0, 2, 27, 29, 246, 247]

-- F48L5 live: [0, 260, 261]
/-- math/bits.Len64 -/
def B49 : ACode := (.seq (.region [⟨(some 2), (.mov (.c (.int .i64 0))), none, []⟩] none)
  (.seq (.seq (.region [⟨(some 3), (.mov (.t 0)), none, []⟩,
    ⟨(some 4), (.bin .geq (.t 3) (.c (.int .u64 4294967296))), none, []⟩] none)
  (.cond (.t 4)
  (.seq (.region [⟨(some 5), (.mov (.t 0)), none, []⟩,
    ⟨(some 6), (.bin .shr (.t 5) (.c (.int .u64 32))), none, []⟩,
    ⟨(some 0), (.mov (.t 6)), none, []⟩] none)
  (.region [⟨(some 2), (.mov (.c (.int .i64 32))), none, []⟩] none))
  .skip))
  (.seq (.seq (.region [⟨(some 7), (.mov (.t 0)), none, []⟩,
    ⟨(some 8), (.bin .geq (.t 7) (.c (.int .u64 65536))), none, []⟩] none)
  (.cond (.t 8)
  (.seq (.region [⟨(some 9), (.mov (.t 0)), none, []⟩,
    ⟨(some 10), (.bin .shr (.t 9) (.c (.int .u64 16))), none, []⟩,
    ⟨(some 0), (.mov (.t 10)), none, []⟩] none)
  (.region [⟨(some 11), (.mov (.t 2)), none, []⟩,
    ⟨(some 12), (.bin .add (.t 11) (.c (.int .i64 16))), none, []⟩,
    ⟨(some 2), (.mov (.t 12)), none, []⟩] none))
  .skip))
  (.seq (.seq (.region [⟨(some 13), (.mov (.t 0)), none, []⟩,
    ⟨(some 14), (.bin .geq (.t 13) (.c (.int .u64 256))), none, []⟩] none)
  (.cond (.t 14)
  (.seq (.region [⟨(some 15), (.mov (.t 0)), none, []⟩,
    ⟨(some 16), (.bin .shr (.t 15) (.c (.int .u64 8))), none, []⟩,
    ⟨(some 0), (.mov (.t 16)), none, []⟩] none)
  (.region [⟨(some 17), (.mov (.t 2)), none, []⟩,
    ⟨(some 18), (.bin .add (.t 17) (.c (.int .i64 8))), none, []⟩,
    ⟨(some 2), (.mov (.t 18)), none, []⟩] none))
  .skip))
  (.seq (.region [⟨(some 19), (.mov (.t 2)), none, []⟩,
    ⟨(some 20), (.mov (.t 0)), none, []⟩,
    ⟨(some 21), (.conv .u8 (.t 20)), none, []⟩,
    ⟨(some 22), (.indexStr (.c (.string ⟨#[0, 1, 2, 2, 3, 3, 3, 3, 4, 4, 4, 4, 4, 4, 4, 4, 5, 5, 5, 5, 5, 5, 5, 5, 5, 5, 5, 5, 5, 5, 5, 5, 6, 6, 6, 6, 6, 6, 6, 6, 6, 6, 6, 6, 6, 6, 6, 6, 6, 6, 6, 6, 6, 6, 6, 6, 6, 6, 6, 6, 6, 6, 6, 6, 7, 7, 7, 7, 7, 7, 7, 7, 7, 7, 7, 7, 7, 7, 7, 7, 7, 7, 7, 7, 7, 7, 7, 7, 7, 7, 7, 7, 7, 7, 7, 7, 7, 7, 7, 7, 7, 7, 7, 7, 7, 7, 7, 7, 7, 7, 7, 7, 7, 7, 7, 7, 7, 7, 7, 7, 7, 7, 7, 7, 7, 7, 7, 7, 8, 8, 8, 8, 8, 8, 8, 8, 8, 8, 8, 8, 8, 8, 8, 8, 8, 8, 8, 8, 8, 8, 8, 8, 8, 8, 8, 8, 8, 8, 8, 8, 8, 8, 8, 8, 8, 8, 8, 8, 8, 8, 8, 8, 8, 8, 8, 8, 8, 8, 8, 8, 8, 8, 8, 8, 8, 8, 8, 8, 8, 8, 8, 8, 8, 8, 8, 8, 8, 8, 8, 8, 8, 8, 8, 8, 8, 8, 8, 8, 8, 8, 8, 8, 8, 8, 8, 8, 8, 8, 8, 8, 8, 8, 8, 8, 8, 8, 8, 8, 8, 8, 8, 8, 8, 8, 8, 8, 8, 8, 8, 8, 8, 8, 8, 8, 8, 8, 8, 8, 8, 8, 8, 8, 8, 8, 8, 8]⟩)) (.t 21)), none, []⟩,
    ⟨(some 23), (.conv .i64 (.t 22)), none, []⟩,
    ⟨(some 24), (.bin .add (.t 19) (.t 23)), none, []⟩,
    ⟨(some 2), (.mov (.t 24)), none, []⟩] none)
  .ret)))))
def F49 : AFunc := ⟨1, 25, [(.tmp 2)], B49⟩
/-- internal/strconv.setDigits -/
def F51L0 : ACode := (.seq (.seq (.region [⟨(some 22), (.mov (.t 3)), none, []⟩,
    ⟨(some 23), (.bin .gtr (.t 22) (.c (.int .i64 0))), none, []⟩,
    ⟨(some 24), (.mov (.t 23)), none, []⟩,
    ⟨(some 25), (.mov (.t 0)), (some (24, true)), []⟩,
    ⟨(some 26), (.mov (.t 3)), (some (24, true)), []⟩,
    ⟨(some 27), (.bin .sub (.t 26) (.c (.int .i64 1))), (some (24, true)), []⟩,
    ⟨(some 28), (.indexAddr 1 (.t 25) (.t 27)), (some (24, true)), []⟩,
    ⟨(some 29), (.load none (.t 28)), (some (24, true)), []⟩,
    ⟨(some 30), (.bin .eql (.t 29) (.c (.int .u8 48))), (some (24, true)), []⟩,
    ⟨(some 31), (.pick (.t 24) (.t 30) (.c (.bool false))), none, []⟩] none)
  (.cond (.t 31)
  .skip
  (.exit 0)))
  (.block 1 (.region [⟨(some 32), (.mov (.t 3)), none, []⟩,
    ⟨(some 33), (.bin .sub (.t 32) (.c (.int .i64 1))), none, []⟩,
    ⟨(some 3), (.mov (.t 33)), none, []⟩] none)))
def B51 : ACode := (.seq (.region [⟨(some 8), (.mov (.c (.int .i64 0))), none, []⟩,
    ⟨(some 9), (.mov (.c (.int .i64 0))), none, []⟩] none)
  (.seq (.seq (.region [⟨(some 10), (.mov (.t 3)), none, []⟩,
    ⟨(some 11), (.mov (.t 0)), none, []⟩,
    ⟨(some 12), (.lenSlice (.t 11)), none, []⟩,
    ⟨(some 13), (.bin .leq (.t 10) (.t 12)), none, []⟩] none)
  (.cond (.t 13)
  (.seq (.region [⟨(some 14), (.mov (.t 0)), none, []⟩,
    ⟨(some 15), (.mov (.t 3)), none, []⟩,
    ⟨(some 16), (.slice 1 (.t 14) none (some (.t 15)) none), none, []⟩,
    ⟨(some 17), (.mov (.t 1)), none, []⟩,
    ⟨(some 18), (.call (.f 70) [(.t 16), (.t 17)]), none, []⟩] none)
  (.seq (.region [⟨(some 19), (.mov (.t 3)), none, []⟩,
    ⟨(some 20), (.mov (.t 2)), none, []⟩,
    ⟨(some 21), (.bin .add (.t 19) (.t 20)), none, []⟩,
    ⟨(some 8), (.mov (.t 21)), none, []⟩] none)
  (.block 0 (.loop F51L0))))
  .skip))
  (.seq (.region [⟨(some 34), (.mov (.t 8)), none, []⟩,
    ⟨(some 35), (.mov (.t 3)), none, []⟩,
    ⟨(some 8), (.mov (.t 34)), none, []⟩,
    ⟨(some 9), (.mov (.t 35)), none, []⟩] none)
  .ret)))
def F51 : AFunc := ⟨4, 36, [(.tmp 8), (.tmp 9)], B51⟩
-- F51L0 live: [0, 3, 8]
/-- internal/strconv.numDigits -/
def B52 : ACode := (.seq (.region [⟨(some 2), (.mov (.c (.int .i64 0))), none, []⟩] none)
  (.seq (.region [⟨(some 4), (.mov (.t 0)), none, []⟩,
    ⟨(some 5), (.call (.f 49) [(.t 4)]), none, []⟩,
    ⟨(some 6), (.call (.f 53) [(.t 5)]), none, []⟩,
    ⟨(some 3), (.mov (.t 6)), none, []⟩] none)
  (.seq (.region [⟨(some 7), (.mov (.t 3)), none, []⟩,
    ⟨(some 8), (.mov (.t 0)), none, []⟩,
    ⟨(some 9), (.mov (.t 3)), none, []⟩,
    ⟨(some 10), (.indexArr 1 20 (.g 3) (.t 9)), none, []⟩,
    ⟨(some 11), (.load none (.t 10)), none, []⟩,
    ⟨(some 12), (.bin .geq (.t 8) (.t 11)), none, []⟩,
    ⟨(some 13), (.call (.f 71) [(.t 12)]), none, []⟩,
    ⟨(some 14), (.bin .add (.t 7) (.t 13)), none, []⟩,
    ⟨(some 2), (.mov (.t 14)), none, []⟩] none)
  .ret)))
def F52 : AFunc := ⟨1, 15, [(.tmp 2)], B52⟩
/-- internal/strconv.log10Pow2 -/
def B53 : ACode := (.seq (.region [⟨(some 2), (.mov (.c (.int .i64 0))), none, []⟩] none)
  (.seq (.region [⟨(some 3), (.mov (.t 0)), none, []⟩,
    ⟨(some 4), (.bin .mul (.t 3) (.c (.int .i64 78913))), none, []⟩,
    ⟨(some 5), (.bin .shr (.t 4) (.c (.int .u64 18))), none, []⟩,
    ⟨(some 2), (.mov (.t 5)), none, []⟩] none)
  .ret))
def F53 : AFunc := ⟨1, 6, [(.tmp 2)], B53⟩
/-- internal/strconv.fixedWidthFloat -/
def F54L0 : ACode := (.seq (.seq (.region [⟨(some 39), (.mov (.t 11)), none, []⟩,
    ⟨(some 40), (.mov (.t 3)), none, []⟩,
    ⟨(some 41), (.bin .gtr (.t 39) (.t 40)), none, []⟩] none)
  (.cond (.t 41)
  .skip
  (.exit 0)))
  (.block 1 (.seq (.region [⟨(some 42), (.mov (.t 13)), none, []⟩,
    ⟨(some 43), (.call (.f 73) [(.t 42), (.c (.int .u64 10))]), none, []⟩,
    ⟨(some 13), (.mov (.t 43)), none, []⟩] none)
  (.region [⟨(some 44), (.mov (.t 11)), none, []⟩,
    ⟨(some 45), (.bin .sub (.t 44) (.c (.int .i64 1))), none, []⟩,
    ⟨(some 11), (.mov (.t 45)), none, []⟩] none))))
def B54 : ACode := (.seq (.region [⟨(some 10), (.mov (.c (.int .u64 0))), none, []⟩,
    ⟨(some 11), (.mov (.c (.int .i64 0))), none, []⟩] none)
  (.seq (.region [⟨(some 14), (.mov (.t 2)), none, []⟩,
    ⟨(some 15), (.bin .sub (.t 14) (.c (.int .i64 1))), none, []⟩,
    ⟨(some 16), (.mov (.t 1)), none, []⟩,
    ⟨(some 17), (.bin .add (.t 16) (.c (.int .i64 63))), none, []⟩,
    ⟨(some 18), (.call (.f 53) [(.t 17)]), none, []⟩,
    ⟨(some 19), (.bin .sub (.t 15) (.t 18)), none, []⟩,
    ⟨(some 11), (.mov (.t 19)), none, []⟩] none)
  (.seq (.region [⟨(some 12), (.alloc 98 [(.int .u64 0), (.int .u64 0), (.int .i64 0)]), none, []⟩] none)
  (.seq (.region [⟨(some 20), (.mov (.t 1)), none, []⟩,
    ⟨(some 21), (.mov (.t 11)), none, []⟩,
    ⟨(some 22), (.mov (.t 11)), none, []⟩,
    ⟨(some 23), (.call (.f 64) [(.t 22)]), none, []⟩,
    ⟨(some 24), (.call (.f 63) [(.t 12), (.t 20), (.t 21), (.t 23)]), none, []⟩] none)
  (.seq (.region [⟨(some 25), (.mov (.t 0)), none, []⟩,
    ⟨(some 26), (.call (.f 65) [(.t 25), (.t 12)]), none, []⟩,
    ⟨(some 13), (.mov (.t 26)), none, []⟩] none)
  (.seq (.seq (.region [⟨(some 27), (.mov (.t 13)), none, []⟩,
    ⟨(some 28), (.mov (.t 2)), none, []⟩,
    ⟨(some 29), (.indexArr 1 20 (.g 3) (.t 28)), none, []⟩,
    ⟨(some 30), (.load none (.t 29)), none, []⟩,
    ⟨(some 31), (.call (.f 72) [(.t 30)]), none, []⟩,
    ⟨(some 32), (.bin .geq (.t 27) (.t 31)), none, []⟩] none)
  (.cond (.t 32)
  (.seq (.region [⟨(some 33), (.mov (.t 13)), none, []⟩,
    ⟨(some 34), (.call (.f 73) [(.t 33), (.c (.int .u64 10))]), none, []⟩,
    ⟨(some 13), (.mov (.t 34)), none, []⟩] none)
  (.region [⟨(some 35), (.mov (.t 11)), none, []⟩,
    ⟨(some 36), (.bin .sub (.t 35) (.c (.int .i64 1))), none, []⟩,
    ⟨(some 11), (.mov (.t 36)), none, []⟩] none))
  .skip))
  (.seq (.seq (.region [⟨(some 37), (.mov (.t 4)), none, []⟩,
    ⟨(some 38), (.bin .eql (.t 37) (.c (.int .u8 102))), none, []⟩] none)
  (.cond (.t 38)
  (.block 0 (.loop F54L0))
  .skip))
  (.seq (.region [⟨(some 46), (.mov (.t 13)), none, []⟩,
    ⟨(some 47), (.call (.f 69) [(.t 46)]), none, []⟩,
    ⟨(some 48), (.mov (.t 11)), none, []⟩,
    ⟨(some 49), (.un .neg (.t 48)), none, []⟩,
    ⟨(some 10), (.mov (.t 47)), none, []⟩,
    ⟨(some 11), (.mov (.t 49)), none, []⟩] none)
  .ret))))))))
def F54 : AFunc := ⟨5, 50, [(.tmp 10), (.tmp 11)], B54⟩
-- F54L0 live: [3, 11, 13]
def R55_0 : ACode := .region [⟨(some 32), (.mov (.t 0)), none, []⟩,
    ⟨(some 33), (.mov (.t 0)), none, []⟩,
    ⟨(some 34), (.nilCheck (.t 33)), none, [1]⟩,
    ⟨(some 35), (.fieldAddr 800 (.t 34)), none, [2]⟩,
    ⟨(some 36), (.load none (.t 35)), none, [3]⟩,
    ⟨(some 37), (.mov (.t 5)), none, []⟩,
    ⟨(some 38), (.indexArr 1 24 (.t 4) (.t 37)), none, [5]⟩,
    ⟨(some 39), (.load none (.t 38)), none, [6]⟩,
    ⟨(some 40), (.nilCheck (.t 32)), none, [0]⟩,
    ⟨(some 41), (.fieldAddr 0 (.t 40)), none, [8]⟩,
    ⟨(some 42), (.indexArr 1 800 (.t 41) (.t 36)), none, [9, 4, 0, 1, 2, 3, 4, 5, 6, 7]⟩,
    ⟨none, (.store 1 (.t 42) (.t 39)), none, [10, 7, 0, 1, 2, 3, 4, 5, 6, 7]⟩] (some [(0, 1), (0, 2), (0, 3), (0, 4), (0, 5), (1, 5), (2, 5), (3, 5), (4, 5), (0, 6), (1, 6), (2, 6), (3, 6), (4, 6), (0, 7), (1, 7), (2, 7), (3, 7), (4, 7), (1, 8), (2, 8), (3, 8), (4, 8), (5, 8), (6, 8), (7, 8), (1, 9), (2, 9), (3, 9), (4, 9), (5, 9), (6, 9), (7, 9)])
/-- (*internal/strconv.decimal).Assign -/
def F55L0 : ACode := (.seq (.seq (.region [⟨(some 7), (.mov (.t 1)), none, []⟩,
    ⟨(some 8), (.bin .gtr (.t 7) (.c (.int .u64 0))), none, []⟩] none)
  (.cond (.t 8)
  .skip
  (.exit 0)))
  (.block 1 (.seq (.region [⟨(some 9), (.mov (.t 1)), none, []⟩,
    ⟨(some 10), (.bin .quo (.t 9) (.c (.int .u64 10))), none, []⟩,
    ⟨(some 6), (.mov (.t 10)), none, []⟩] none)
  (.seq (.region [⟨(some 11), (.mov (.t 1)), none, []⟩,
    ⟨(some 12), (.mov (.t 6)), none, []⟩,
    ⟨(some 13), (.bin .mul (.c (.int .u64 10)) (.t 12)), none, []⟩,
    ⟨(some 14), (.bin .sub (.t 11) (.t 13)), none, []⟩,
    ⟨(some 1), (.mov (.t 14)), none, []⟩] none)
  (.seq (.region [⟨(some 15), (.mov (.t 5)), none, []⟩,
    ⟨(some 16), (.mov (.t 1)), none, []⟩,
    ⟨(some 17), (.bin .add (.t 16) (.c (.int .u64 48))), none, []⟩,
    ⟨(some 18), (.conv .u8 (.t 17)), none, []⟩,
    ⟨(some 19), (.indexArr 1 24 (.t 4) (.t 15)), none, []⟩,
    ⟨none, (.store 1 (.t 19) (.t 18)), none, []⟩] none)
  (.seq (.region [⟨(some 20), (.mov (.t 5)), none, []⟩,
    ⟨(some 21), (.bin .add (.t 20) (.c (.int .i64 1))), none, []⟩,
    ⟨(some 5), (.mov (.t 21)), none, []⟩] none)
  (.region [⟨(some 22), (.mov (.t 6)), none, []⟩,
    ⟨(some 1), (.mov (.t 22)), none, []⟩] none)))))))
def F55L1 : ACode := (.seq (.seq (.region [⟨(some 28), (.mov (.t 5)), none, []⟩,
    ⟨(some 29), (.bin .geq (.t 28) (.c (.int .i64 0))), none, []⟩] none)
  (.cond (.t 29)
  .skip
  (.exit 2)))
  (.seq (.block 3 (.seq R55_0
  (.region [⟨(some 43), (.mov (.t 0)), none, []⟩,
    ⟨(some 44), (.nilCheck (.t 43)), none, []⟩,
    ⟨(some 45), (.fieldAddr 800 (.t 44)), none, []⟩,
    ⟨(some 46), (.load none (.t 45)), none, []⟩,
    ⟨(some 47), (.bin .add (.t 46) (.c (.int .i64 1))), none, []⟩,
    ⟨(some 48), (.nilCheck (.t 43)), none, []⟩,
    ⟨(some 49), (.fieldAddr 800 (.t 48)), none, []⟩,
    ⟨none, (.store 1 (.t 49) (.t 47)), none, []⟩] none)))
  (.region [⟨(some 30), (.mov (.t 5)), none, []⟩,
    ⟨(some 31), (.bin .sub (.t 30) (.c (.int .i64 1))), none, []⟩,
    ⟨(some 5), (.mov (.t 31)), none, []⟩] none)))
def B55 : ACode := (.seq (.region [⟨(some 4), (.alloc 86 [(.int .u8 0), (.int .u8 0), (.int .u8 0), (.int .u8 0), (.int .u8 0), (.int .u8 0), (.int .u8 0), (.int .u8 0), (.int .u8 0), (.int .u8 0), (.int .u8 0), (.int .u8 0), (.int .u8 0), (.int .u8 0), (.int .u8 0), (.int .u8 0), (.int .u8 0), (.int .u8 0), (.int .u8 0), (.int .u8 0), (.int .u8 0), (.int .u8 0), (.int .u8 0), (.int .u8 0)]), none, []⟩] none)
  (.seq (.region [⟨(some 5), (.mov (.c (.int .i64 0))), none, []⟩] none)
  (.seq (.block 0 (.loop F55L0))
  (.seq (.region [⟨(some 23), (.mov (.t 0)), none, []⟩,
    ⟨(some 24), (.nilCheck (.t 23)), none, []⟩,
    ⟨(some 25), (.fieldAddr 800 (.t 24)), none, []⟩,
    ⟨none, (.store 1 (.t 25) (.c (.int .i64 0))), none, []⟩] none)
  (.seq (.seq (.region [⟨(some 26), (.mov (.t 5)), none, []⟩,
    ⟨(some 27), (.bin .sub (.t 26) (.c (.int .i64 1))), none, []⟩,
    ⟨(some 5), (.mov (.t 27)), none, []⟩] none)
  (.block 2 (.loop F55L1)))
  (.seq (.region [⟨(some 50), (.mov (.t 0)), none, []⟩,
    ⟨(some 51), (.mov (.t 0)), none, []⟩,
    ⟨(some 52), (.nilCheck (.t 51)), none, []⟩,
    ⟨(some 53), (.fieldAddr 800 (.t 52)), none, []⟩,
    ⟨(some 54), (.load none (.t 53)), none, []⟩,
    ⟨(some 55), (.nilCheck (.t 50)), none, []⟩,
    ⟨(some 56), (.fieldAddr 801 (.t 55)), none, []⟩,
    ⟨none, (.store 1 (.t 56) (.t 54)), none, []⟩] none)
  (.region [⟨(some 57), (.mov (.t 0)), none, []⟩,
    ⟨(some 58), (.call (.f 74) [(.t 57)]), none, []⟩] none)))))))
def F55 : AFunc := ⟨2, 59, [], B55⟩
-- F55L0 live: [0, 1, 4, 5]

-- F55L1 live: [0, 4, 5]
/-- (*internal/strconv.decimal).Shift -/
def F56L0 : ACode := (.seq (.seq (.region [⟨(some 13), (.mov (.t 1)), none, []⟩,
    ⟨(some 14), (.bin .gtr (.t 13) (.c (.int .i64 60))), none, []⟩] none)
  (.cond (.t 14)
  .skip
  (.exit 1)))
  (.block 2 (.seq (.region [⟨(some 15), (.mov (.t 0)), none, []⟩,
    ⟨(some 16), (.call (.f 75) [(.t 15), (.c (.int .u64 60))]), none, []⟩] none)
  (.region [⟨(some 17), (.mov (.t 1)), none, []⟩,
    ⟨(some 18), (.bin .sub (.t 17) (.c (.int .i64 60))), none, []⟩,
    ⟨(some 1), (.mov (.t 18)), none, []⟩] none))))
def F56L1 : ACode := (.seq (.seq (.region [⟨(some 26), (.mov (.t 1)), none, []⟩,
    ⟨(some 27), (.bin .lss (.t 26) (.c (.int .i64 (-60)))), none, []⟩] none)
  (.cond (.t 27)
  .skip
  (.exit 3)))
  (.block 4 (.seq (.region [⟨(some 28), (.mov (.t 0)), none, []⟩,
    ⟨(some 29), (.call (.f 76) [(.t 28), (.c (.int .u64 60))]), none, []⟩] none)
  (.region [⟨(some 30), (.mov (.t 1)), none, []⟩,
    ⟨(some 31), (.bin .add (.t 30) (.c (.int .i64 60))), none, []⟩,
    ⟨(some 1), (.mov (.t 31)), none, []⟩] none))))
def B56 : ACode := (.block 0 (.seq (.region [⟨(some 5), (.mov (.t 0)), none, []⟩,
    ⟨(some 6), (.nilCheck (.t 5)), none, []⟩,
    ⟨(some 7), (.fieldAddr 800 (.t 6)), none, []⟩,
    ⟨(some 8), (.load none (.t 7)), none, []⟩,
    ⟨(some 9), (.bin .eql (.t 8) (.c (.int .i64 0))), none, []⟩,
    ⟨(some 4), (.mov (.t 9)), none, []⟩] none)
  (.cond (.t 4)
  .skip
  (.seq (.region [⟨(some 11), (.mov (.t 1)), none, []⟩,
    ⟨(some 12), (.bin .gtr (.t 11) (.c (.int .i64 0))), none, []⟩,
    ⟨(some 10), (.mov (.t 12)), none, []⟩] none)
  (.cond (.t 10)
  (.seq (.block 1 (.loop F56L0))
  (.region [⟨(some 19), (.mov (.t 0)), none, []⟩,
    ⟨(some 20), (.mov (.t 1)), none, []⟩,
    ⟨(some 21), (.conv .u64 (.t 20)), none, []⟩,
    ⟨(some 22), (.call (.f 75) [(.t 19), (.t 21)]), none, []⟩] none))
  (.seq (.region [⟨(some 24), (.mov (.t 1)), none, []⟩,
    ⟨(some 25), (.bin .lss (.t 24) (.c (.int .i64 0))), none, []⟩,
    ⟨(some 23), (.mov (.t 25)), none, []⟩] none)
  (.cond (.t 23)
  (.seq (.block 3 (.loop F56L1))
  (.region [⟨(some 32), (.mov (.t 0)), none, []⟩,
    ⟨(some 33), (.mov (.t 1)), none, []⟩,
    ⟨(some 34), (.un .neg (.t 33)), none, []⟩,
    ⟨(some 35), (.conv .u64 (.t 34)), none, []⟩,
    ⟨(some 36), (.call (.f 76) [(.t 32), (.t 35)]), none, []⟩] none))
  .skip)))))))
def F56 : AFunc := ⟨2, 37, [], B56⟩
-- F56L0 live: [0, 1]

-- F56L1 live: [0, 1]
/-- (*internal/strconv.decimal).Round -/
def B57 : ACode := (.seq (.seq (.region [⟨(some 4), (.mov (.t 1)), none, []⟩,
    ⟨(some 5), (.bin .lss (.t 4) (.c (.int .i64 0))), none, []⟩,
    ⟨(some 6), (.mov (.t 5)), none, []⟩,
    ⟨(some 7), (.mov (.t 1)), (some (6, false)), []⟩,
    ⟨(some 8), (.mov (.t 0)), (some (6, false)), []⟩,
    ⟨(some 9), (.nilCheck (.t 8)), (some (6, false)), []⟩,
    ⟨(some 10), (.fieldAddr 800 (.t 9)), (some (6, false)), []⟩,
    ⟨(some 11), (.load none (.t 10)), (some (6, false)), []⟩,
    ⟨(some 12), (.bin .geq (.t 7) (.t 11)), (some (6, false)), []⟩,
    ⟨(some 13), (.pick (.t 6) (.c (.bool true)) (.t 12)), none, []⟩] none)
  (.cond (.t 13)
  .ret
  .skip))
  (.seq (.region [⟨(some 14), (.mov (.t 0)), none, []⟩,
    ⟨(some 15), (.mov (.t 1)), none, []⟩,
    ⟨(some 16), (.call (.f 77) [(.t 14), (.t 15)]), none, []⟩] none)
  (.cond (.t 16)
  (.region [⟨(some 17), (.mov (.t 0)), none, []⟩,
    ⟨(some 18), (.mov (.t 1)), none, []⟩,
    ⟨(some 19), (.call (.f 78) [(.t 17), (.t 18)]), none, []⟩] none)
  (.region [⟨(some 20), (.mov (.t 0)), none, []⟩,
    ⟨(some 21), (.mov (.t 1)), none, []⟩,
    ⟨(some 22), (.call (.f 79) [(.t 20), (.t 21)]), none, []⟩] none))))
def F57 : AFunc := ⟨2, 23, [], B57⟩
/-- internal/strconv.shortFloat[float64] -/
def B58 : ACode := (.seq (.region [⟨(some 4), (.mov (.c (.int .u64 0))), none, []⟩,
    ⟨(some 5), (.mov (.c (.int .i64 0))), none, []⟩] none)
  (.seq (.region [⟨(some 6), (.mov (.c (.int .i64 0))), none, []⟩,
    ⟨(some 7), (.mov (.c (.int .i64 0))), none, []⟩] none)
  (.seq (.seq (.region [⟨(some 15), (.bin .mul (.c (.int .u64 8)) (.c (.int .u64 8))), none, []⟩] none)
  (.block 0 (.seq (.region [⟨(some 17), (.bin .eql (.t 15) (.c (.int .u64 32))), none, []⟩,
    ⟨(some 16), (.mov (.t 17)), none, []⟩] none)
  (.cond (.t 16)
  (.seq (.region [⟨(some 6), (.mov (.c (.int .i64 23))), none, []⟩] none)
  (.region [⟨(some 7), (.mov (.c (.int .i64 (-189)))), none, []⟩] none))
  (.seq (.region [⟨(some 19), (.bin .eql (.t 15) (.c (.int .u64 64))), none, []⟩,
    ⟨(some 18), (.mov (.t 19)), none, []⟩] none)
  (.cond (.t 18)
  (.seq (.region [⟨(some 6), (.mov (.c (.int .i64 52))), none, []⟩] none)
  (.region [⟨(some 7), (.mov (.c (.int .i64 (-1085)))), none, []⟩] none))
  .skip))))))
  (.seq (.region [⟨(some 8), (.mov (.c (.int .u64 0))), none, []⟩,
    ⟨(some 9), (.mov (.c (.int .u64 0))), none, []⟩] none)
  (.seq (.region [⟨(some 10), (.mov (.c (.int .i64 0))), none, []⟩] none)
  (.seq (.region [⟨(some 20), (.mov (.t 6)), none, []⟩,
    ⟨(some 21), (.bin .sub (.c (.int .i64 63)) (.t 20)), none, []⟩,
    ⟨(some 11), (.mov (.t 21)), none, []⟩] none)
  (.seq (.seq (.region [⟨(some 22), (.mov (.t 0)), none, []⟩,
    ⟨(some 23), (.bin .eql (.t 22) (.c (.int .u64 9223372036854775808))), none, []⟩,
    ⟨(some 24), (.mov (.t 23)), none, []⟩,
    ⟨(some 25), (.mov (.t 1)), (some (24, true)), []⟩,
    ⟨(some 26), (.mov (.t 7)), (some (24, true)), []⟩,
    ⟨(some 27), (.bin .gtr (.t 25) (.t 26)), (some (24, true)), []⟩,
    ⟨(some 28), (.pick (.t 24) (.t 27) (.c (.bool false))), none, []⟩] none)
  (.cond (.t 28)
  (.seq (.region [⟨(some 29), (.mov (.t 1)), none, []⟩,
    ⟨(some 30), (.mov (.t 11)), none, []⟩,
    ⟨(some 31), (.bin .add (.t 29) (.t 30)), none, []⟩,
    ⟨(some 32), (.call (.f 62) [(.t 31)]), none, []⟩,
    ⟨(some 33), (.un .neg (.t 32)), none, []⟩,
    ⟨(some 5), (.mov (.t 33)), none, []⟩] none)
  (.seq (.region [⟨(some 34), (.mov (.t 0)), none, []⟩,
    ⟨(some 35), (.mov (.t 11)), none, []⟩,
    ⟨(some 36), (.bin .sub (.t 35) (.c (.int .i64 2))), none, []⟩,
    ⟨(some 37), (.bin .shl (.c (.int .u64 1)) (.t 36)), none, []⟩,
    ⟨(some 38), (.bin .sub (.t 34) (.t 37)), none, []⟩,
    ⟨(some 8), (.mov (.t 38)), none, []⟩] none)
  (.seq (.region [⟨(some 39), (.mov (.t 0)), none, []⟩,
    ⟨(some 40), (.mov (.t 11)), none, []⟩,
    ⟨(some 41), (.bin .sub (.t 40) (.c (.int .i64 1))), none, []⟩,
    ⟨(some 42), (.bin .shl (.c (.int .u64 1)) (.t 41)), none, []⟩,
    ⟨(some 43), (.bin .add (.t 39) (.t 42)), none, []⟩,
    ⟨(some 9), (.mov (.t 43)), none, []⟩] none)
  (.region [⟨(some 44), (.mov (.t 0)), none, []⟩,
    ⟨(some 45), (.mov (.t 11)), none, []⟩,
    ⟨(some 46), (.bin .shr (.t 44) (.t 45)), none, []⟩,
    ⟨(some 47), (.conv .i64 (.t 46)), none, []⟩,
    ⟨(some 48), (.bin .and (.t 47) (.c (.int .i64 1))), none, []⟩,
    ⟨(some 10), (.mov (.t 48)), none, []⟩] none))))
  (.seq (.region [⟨(some 49), (.mov (.t 1)), none, []⟩,
    ⟨(some 50), (.mov (.t 7)), none, []⟩,
    ⟨(some 51), (.bin .geq (.t 49) (.t 50)), none, []⟩] none)
  (.cond (.t 51)
  (.seq (.region [⟨(some 52), (.mov (.t 1)), none, []⟩,
    ⟨(some 53), (.mov (.t 11)), none, []⟩,
    ⟨(some 54), (.bin .add (.t 52) (.t 53)), none, []⟩,
    ⟨(some 55), (.call (.f 53) [(.t 54)]), none, []⟩,
    ⟨(some 56), (.un .neg (.t 55)), none, []⟩,
    ⟨(some 5), (.mov (.t 56)), none, []⟩] none)
  (.seq (.region [⟨(some 57), (.mov (.t 0)), none, []⟩,
    ⟨(some 58), (.mov (.t 11)), none, []⟩,
    ⟨(some 59), (.bin .sub (.t 58) (.c (.int .i64 1))), none, []⟩,
    ⟨(some 60), (.bin .shl (.c (.int .u64 1)) (.t 59)), none, []⟩,
    ⟨(some 61), (.bin .sub (.t 57) (.t 60)), none, []⟩,
    ⟨(some 8), (.mov (.t 61)), none, []⟩] none)
  (.seq (.region [⟨(some 62), (.mov (.t 0)), none, []⟩,
    ⟨(some 63), (.mov (.t 11)), none, []⟩,
    ⟨(some 64), (.bin .sub (.t 63) (.c (.int .i64 1))), none, []⟩,
    ⟨(some 65), (.bin .shl (.c (.int .u64 1)) (.t 64)), none, []⟩,
    ⟨(some 66), (.bin .add (.t 62) (.t 65)), none, []⟩,
    ⟨(some 9), (.mov (.t 66)), none, []⟩] none)
  (.region [⟨(some 67), (.mov (.t 0)), none, []⟩,
    ⟨(some 68), (.mov (.t 11)), none, []⟩,
    ⟨(some 69), (.bin .shr (.t 67) (.t 68)), none, []⟩,
    ⟨(some 70), (.conv .i64 (.t 69)), none, []⟩,
    ⟨(some 71), (.bin .and (.t 70) (.c (.int .i64 1))), none, []⟩,
    ⟨(some 10), (.mov (.t 71)), none, []⟩] none))))
  (.seq (.region [⟨(some 72), (.mov (.t 11)), none, []⟩,
    ⟨(some 73), (.mov (.t 7)), none, []⟩,
    ⟨(some 74), (.mov (.t 1)), none, []⟩,
    ⟨(some 75), (.bin .sub (.t 73) (.t 74)), none, []⟩,
    ⟨(some 76), (.bin .add (.t 72) (.t 75)), none, []⟩,
    ⟨(some 11), (.mov (.t 76)), none, []⟩] none)
  (.seq (.region [⟨(some 77), (.mov (.t 1)), none, []⟩,
    ⟨(some 78), (.mov (.t 11)), none, []⟩,
    ⟨(some 79), (.bin .add (.t 77) (.t 78)), none, []⟩,
    ⟨(some 80), (.call (.f 53) [(.t 79)]), none, []⟩,
    ⟨(some 81), (.un .neg (.t 80)), none, []⟩,
    ⟨(some 5), (.mov (.t 81)), none, []⟩] none)
  (.seq (.region [⟨(some 82), (.mov (.t 0)), none, []⟩,
    ⟨(some 83), (.mov (.t 11)), none, []⟩,
    ⟨(some 84), (.bin .sub (.t 83) (.c (.int .i64 1))), none, []⟩,
    ⟨(some 85), (.bin .shl (.c (.int .u64 1)) (.t 84)), none, []⟩,
    ⟨(some 86), (.bin .sub (.t 82) (.t 85)), none, []⟩,
    ⟨(some 8), (.mov (.t 86)), none, []⟩] none)
  (.seq (.region [⟨(some 87), (.mov (.t 0)), none, []⟩,
    ⟨(some 88), (.mov (.t 11)), none, []⟩,
    ⟨(some 89), (.bin .sub (.t 88) (.c (.int .i64 1))), none, []⟩,
    ⟨(some 90), (.bin .shl (.c (.int .u64 1)) (.t 89)), none, []⟩,
    ⟨(some 91), (.bin .add (.t 87) (.t 90)), none, []⟩,
    ⟨(some 9), (.mov (.t 91)), none, []⟩] none)
  (.region [⟨(some 92), (.mov (.t 0)), none, []⟩,
    ⟨(some 93), (.mov (.t 11)), none, []⟩,
    ⟨(some 94), (.bin .shr (.t 92) (.t 93)), none, []⟩,
    ⟨(some 95), (.conv .i64 (.t 94)), none, []⟩,
    ⟨(some 96), (.bin .and (.t 95) (.c (.int .i64 1))), none, []⟩,
    ⟨(some 10), (.mov (.t 96)), none, []⟩] none)))))))))
  (.seq (.region [⟨(some 12), (.alloc 98 [(.int .u64 0), (.int .u64 0), (.int .i64 0)]), none, []⟩] none)
  (.seq (.region [⟨(some 97), (.mov (.t 1)), none, []⟩,
    ⟨(some 98), (.mov (.t 5)), none, []⟩,
    ⟨(some 99), (.mov (.t 5)), none, []⟩,
    ⟨(some 100), (.call (.f 64) [(.t 99)]), none, []⟩,
    ⟨(some 101), (.call (.f 63) [(.t 12), (.t 97), (.t 98), (.t 100)]), none, []⟩] none)
  (.seq (.region [⟨(some 102), (.mov (.t 8)), none, []⟩,
    ⟨(some 103), (.call (.f 65) [(.t 102), (.t 12)]), none, []⟩,
    ⟨(some 104), (.mov (.t 10)), none, []⟩,
    ⟨(some 105), (.call (.f 66) [(.t 103), (.t 104)]), none, []⟩,
    ⟨(some 106), (.call (.f 67) [(.t 105)]), none, []⟩,
    ⟨(some 13), (.mov (.t 106)), none, []⟩] none)
  (.seq (.region [⟨(some 107), (.mov (.t 9)), none, []⟩,
    ⟨(some 108), (.call (.f 65) [(.t 107), (.t 12)]), none, []⟩,
    ⟨(some 109), (.mov (.t 10)), none, []⟩,
    ⟨(some 110), (.un .neg (.t 109)), none, []⟩,
    ⟨(some 111), (.call (.f 66) [(.t 108), (.t 110)]), none, []⟩,
    ⟨(some 112), (.call (.f 68) [(.t 111)]), none, []⟩,
    ⟨(some 14), (.mov (.t 112)), none, []⟩] none)
  (.seq (.seq (.region [⟨(some 113), (.mov (.t 14)), none, []⟩,
    ⟨(some 114), (.bin .quo (.t 113) (.c (.int .u64 10))), none, []⟩,
    ⟨(some 4), (.mov (.t 114)), none, []⟩] none)
  (.seq (.region [⟨(some 115), (.mov (.t 4)), none, []⟩,
    ⟨(some 116), (.bin .mul (.t 115) (.c (.int .u64 10))), none, []⟩,
    ⟨(some 117), (.mov (.t 13)), none, []⟩,
    ⟨(some 118), (.bin .geq (.t 116) (.t 117)), none, []⟩] none)
  (.cond (.t 118)
  (.seq (.region [⟨(some 119), (.mov (.t 4)), none, []⟩,
    ⟨(some 120), (.mov (.t 5)), none, []⟩,
    ⟨(some 121), (.bin .sub (.t 120) (.c (.int .i64 1))), none, []⟩,
    ⟨(some 122), (.un .neg (.t 121)), none, []⟩,
    ⟨(some 4), (.mov (.t 119)), none, []⟩,
    ⟨(some 5), (.mov (.t 122)), none, []⟩] none)
  .ret)
  .skip)))
  (.seq (.seq (.region [⟨(some 123), (.mov (.t 13)), none, []⟩,
    ⟨(some 4), (.mov (.t 123)), none, []⟩] none)
  (.seq (.region [⟨(some 124), (.mov (.t 4)), none, []⟩,
    ⟨(some 125), (.mov (.t 14)), none, []⟩,
    ⟨(some 126), (.bin .lss (.t 124) (.t 125)), none, []⟩] none)
  (.cond (.t 126)
  (.region [⟨(some 127), (.mov (.t 0)), none, []⟩,
    ⟨(some 128), (.call (.f 65) [(.t 127), (.t 12)]), none, []⟩,
    ⟨(some 129), (.call (.f 69) [(.t 128)]), none, []⟩,
    ⟨(some 4), (.mov (.t 129)), none, []⟩] none)
  .skip)))
  (.seq (.region [⟨(some 130), (.mov (.t 4)), none, []⟩,
    ⟨(some 131), (.mov (.t 5)), none, []⟩,
    ⟨(some 132), (.un .neg (.t 131)), none, []⟩,
    ⟨(some 4), (.mov (.t 130)), none, []⟩,
    ⟨(some 5), (.mov (.t 132)), none, []⟩] none)
  .ret))))))))))))))
def F58 : AFunc := ⟨2, 133, [(.tmp 4), (.tmp 5)], B58⟩
/-- internal/strconv.skewed -/
def B62 : ACode := (.seq (.region [⟨(some 2), (.mov (.c (.int .i64 0))), none, []⟩] none)
  (.seq (.region [⟨(some 3), (.mov (.t 0)), none, []⟩,
    ⟨(some 4), (.bin .mul (.t 3) (.c (.int .i64 631305))), none, []⟩,
    ⟨(some 5), (.bin .sub (.t 4) (.c (.int .i64 261663))), none, []⟩,
    ⟨(some 6), (.bin .shr (.t 5) (.c (.int .u64 21))), none, []⟩,
    ⟨(some 2), (.mov (.t 6)), none, []⟩] none)
  .ret))
def F62 : AFunc := ⟨1, 7, [(.tmp 2)], B62⟩
/-- internal/strconv.prescale -/
def B63 : ACode := (.seq (.region [⟨(some 8), (.mov (.t 0)), none, []⟩,
    ⟨(some 9), (.mov (.t 2)), none, []⟩,
    ⟨(some 10), (.bin .sub (.t 9) (.c (.int .i64 (-348)))), none, []⟩,
    ⟨(some 11), (.indexArr 2 696 (.g 4) (.t 10)), none, []⟩,
    ⟨(some 12), (.fieldAddr 0 (.t 11)), none, []⟩,
    ⟨(some 13), (.load none (.t 12)), none, []⟩,
    ⟨(some 14), (.nilCheck (.t 8)), none, []⟩,
    ⟨(some 15), (.fieldAddr 0 (.t 14)), none, []⟩,
    ⟨none, (.store 1 (.t 15) (.t 13)), none, []⟩] none)
  (.seq (.region [⟨(some 16), (.mov (.t 0)), none, []⟩,
    ⟨(some 17), (.mov (.t 2)), none, []⟩,
    ⟨(some 18), (.bin .sub (.t 17) (.c (.int .i64 (-348)))), none, []⟩,
    ⟨(some 19), (.indexArr 2 696 (.g 4) (.t 18)), none, []⟩,
    ⟨(some 20), (.fieldAddr 1 (.t 19)), none, []⟩,
    ⟨(some 21), (.load none (.t 20)), none, []⟩,
    ⟨(some 22), (.nilCheck (.t 16)), none, []⟩,
    ⟨(some 23), (.fieldAddr 1 (.t 22)), none, []⟩,
    ⟨none, (.store 1 (.t 23) (.t 21)), none, []⟩] none)
  (.region [⟨(some 24), (.mov (.t 0)), none, []⟩,
    ⟨(some 25), (.mov (.t 1)), none, []⟩,
    ⟨(some 26), (.mov (.t 3)), none, []⟩,
    ⟨(some 27), (.bin .add (.t 25) (.t 26)), none, []⟩,
    ⟨(some 28), (.bin .add (.t 27) (.c (.int .i64 3))), none, []⟩,
    ⟨(some 29), (.un .neg (.t 28)), none, []⟩,
    ⟨(some 30), (.nilCheck (.t 24)), none, []⟩,
    ⟨(some 31), (.fieldAddr 2 (.t 30)), none, []⟩,
    ⟨none, (.store 1 (.t 31) (.t 29)), none, []⟩] none)))
def F63 : AFunc := ⟨4, 32, [], B63⟩
/-- internal/strconv.log2Pow10 -/
def B64 : ACode := (.seq (.region [⟨(some 2), (.mov (.c (.int .i64 0))), none, []⟩] none)
  (.seq (.region [⟨(some 3), (.mov (.t 0)), none, []⟩,
    ⟨(some 4), (.bin .mul (.t 3) (.c (.int .i64 108853))), none, []⟩,
    ⟨(some 5), (.bin .shr (.t 4) (.c (.int .u64 15))), none, []⟩,
    ⟨(some 2), (.mov (.t 5)), none, []⟩] none)
  .ret))
def F64 : AFunc := ⟨1, 6, [(.tmp 2)], B64⟩
def R65_0 : ACode := .region [⟨(some 50), (.mov (.t 5)), none, []⟩,
    ⟨(some 51), (.mov (.t 7)), none, []⟩,
    ⟨(some 52), (.bin .shr (.t 50) (.t 51)), none, [0, 1]⟩,
    ⟨(some 53), (.mov (.t 6)), none, []⟩,
    ⟨(some 54), (.mov (.t 8)), none, []⟩,
    ⟨(some 55), (.bin .sub (.t 53) (.t 54)), none, [3, 4]⟩,
    ⟨(some 56), (.bin .gtr (.t 55) (.c (.int .u64 1))), none, [5]⟩,
    ⟨(some 57), (.call (.f 83) [(.t 56)]), none, [6]⟩,
    ⟨(some 58), (.bin .or (.t 52) (.t 57)), none, [2, 7]⟩,
    ⟨(some 4), (.mov (.t 58)), none, [8, 7, 0, 1, 2, 3, 4, 5, 6, 7, 8]⟩] (some [(0, 1), (0, 3), (1, 3), (2, 3), (0, 4), (1, 4), (2, 4), (3, 4), (0, 5), (1, 5), (2, 5), (0, 6), (1, 6), (2, 6), (0, 7), (1, 7), (2, 7)])
/-- internal/strconv.uscale -/
def B65 : ACode := (.seq (.region [⟨(some 4), (.mov (.c (.int .u64 0))), none, []⟩] none)
  (.seq (.region [⟨(some 11), (.mov (.t 0)), none, []⟩,
    ⟨(some 12), (.mov (.t 1)), none, []⟩,
    ⟨(some 13), (.nilCheck (.t 12)), none, []⟩,
    ⟨(some 14), (.fieldAddr 0 (.t 13)), none, []⟩,
    ⟨(some 15), (.load none (.t 14)), none, []⟩,
    ⟨(some 16), (.call (.f 82) [(.t 11), (.t 15)]), none, []⟩,
    ⟨(some 10), (.mov (.t 16)), none, []⟩,
    ⟨(some 17), (.extract (.t 10) 0), none, []⟩,
    ⟨(some 18), (.extract (.t 10) 1), none, []⟩,
    ⟨(some 5), (.mov (.t 17)), none, []⟩,
    ⟨(some 6), (.mov (.t 18)), none, []⟩] none)
  (.seq (.region [⟨(some 19), (.mov (.t 1)), none, []⟩,
    ⟨(some 20), (.nilCheck (.t 19)), none, []⟩,
    ⟨(some 21), (.fieldAddr 2 (.t 20)), none, []⟩,
    ⟨(some 22), (.load none (.t 21)), none, []⟩,
    ⟨(some 23), (.bin .and (.t 22) (.c (.int .i64 63))), none, []⟩,
    ⟨(some 7), (.mov (.t 23)), none, []⟩] none)
  (.seq (.seq (.region [⟨(some 24), (.mov (.t 5)), none, []⟩,
    ⟨(some 25), (.mov (.t 7)), none, []⟩,
    ⟨(some 26), (.bin .shr (.t 24) (.t 25)), none, []⟩,
    ⟨(some 27), (.mov (.t 7)), none, []⟩,
    ⟨(some 28), (.bin .shl (.t 26) (.t 27)), none, []⟩,
    ⟨(some 29), (.mov (.t 5)), none, []⟩,
    ⟨(some 30), (.bin .neq (.t 28) (.t 29)), none, []⟩] none)
  (.cond (.t 30)
  (.seq (.region [⟨(some 31), (.mov (.t 5)), none, []⟩,
    ⟨(some 32), (.mov (.t 7)), none, []⟩,
    ⟨(some 33), (.bin .shr (.t 31) (.t 32)), none, []⟩,
    ⟨(some 34), (.bin .or (.t 33) (.c (.int .u64 1))), none, []⟩,
    ⟨(some 4), (.mov (.t 34)), none, []⟩] none)
  .ret)
  .skip))
  (.seq (.region [⟨(some 36), (.mov (.t 0)), none, []⟩,
    ⟨(some 37), (.mov (.t 1)), none, []⟩,
    ⟨(some 38), (.nilCheck (.t 37)), none, []⟩,
    ⟨(some 39), (.fieldAddr 1 (.t 38)), none, []⟩,
    ⟨(some 40), (.load none (.t 39)), none, []⟩,
    ⟨(some 41), (.call (.f 82) [(.t 36), (.t 40)]), none, []⟩,
    ⟨(some 35), (.mov (.t 41)), none, []⟩,
    ⟨(some 42), (.extract (.t 35) 0), none, []⟩,
    ⟨(some 43), (.extract (.t 35) 1), none, []⟩,
    ⟨(some 8), (.mov (.t 42)), none, []⟩,
    ⟨(some 9), (.mov (.t 43)), none, []⟩] none)
  (.seq (.region [⟨(some 44), (.mov (.t 5)), none, []⟩,
    ⟨(some 45), (.mov (.t 6)), none, []⟩,
    ⟨(some 46), (.mov (.t 8)), none, []⟩,
    ⟨(some 47), (.bin .lss (.t 45) (.t 46)), none, []⟩,
    ⟨(some 48), (.call (.f 83) [(.t 47)]), none, []⟩,
    ⟨(some 49), (.bin .sub (.t 44) (.t 48)), none, []⟩,
    ⟨(some 5), (.mov (.t 49)), none, []⟩] none)
  (.seq R65_0
  .ret)))))))
def F65 : AFunc := ⟨2, 59, [(.tmp 4)], B65⟩
/-- (internal/strconv.unrounded).nudge -/
def B66 : ACode := (.seq (.region [⟨(some 4), (.mov (.c (.int .u64 0))), none, []⟩] none)
  (.seq (.region [⟨(some 5), (.mov (.t 0)), none, []⟩,
    ⟨(some 6), (.mov (.t 1)), none, []⟩,
    ⟨(some 7), (.conv .u64 (.t 6)), none, []⟩,
    ⟨(some 8), (.bin .add (.t 5) (.t 7)), none, []⟩,
    ⟨(some 4), (.mov (.t 8)), none, []⟩] none)
  .ret))
def F66 : AFunc := ⟨2, 9, [(.tmp 4)], B66⟩
/-- (internal/strconv.unrounded).ceil -/
def B67 : ACode := (.seq (.region [⟨(some 2), (.mov (.c (.int .u64 0))), none, []⟩] none)
  (.seq (.region [⟨(some 3), (.mov (.t 0)), none, []⟩,
    ⟨(some 4), (.bin .add (.t 3) (.c (.int .u64 3))), none, []⟩,
    ⟨(some 5), (.bin .shr (.t 4) (.c (.int .u64 2))), none, []⟩,
    ⟨(some 2), (.mov (.t 5)), none, []⟩] none)
  .ret))
def F67 : AFunc := ⟨1, 6, [(.tmp 2)], B67⟩
/-- (internal/strconv.unrounded).floor -/
def B68 : ACode := (.seq (.region [⟨(some 2), (.mov (.c (.int .u64 0))), none, []⟩] none)
  (.seq (.region [⟨(some 3), (.mov (.t 0)), none, []⟩,
    ⟨(some 4), (.bin .add (.t 3) (.c (.int .u64 0))), none, []⟩,
    ⟨(some 5), (.bin .shr (.t 4) (.c (.int .u64 2))), none, []⟩,
    ⟨(some 2), (.mov (.t 5)), none, []⟩] none)
  .ret))
def F68 : AFunc := ⟨1, 6, [(.tmp 2)], B68⟩
/-- (internal/strconv.unrounded).round -/
def B69 : ACode := (.seq (.region [⟨(some 2), (.mov (.c (.int .u64 0))), none, []⟩] none)
  (.seq (.region [⟨(some 3), (.mov (.t 0)), none, []⟩,
    ⟨(some 4), (.bin .add (.t 3) (.c (.int .u64 1))), none, []⟩,
    ⟨(some 5), (.mov (.t 0)), none, []⟩,
    ⟨(some 6), (.bin .shr (.t 5) (.c (.int .u64 2))), none, []⟩,
    ⟨(some 7), (.bin .and (.t 6) (.c (.int .u64 1))), none, []⟩,
    ⟨(some 8), (.bin .add (.t 4) (.t 7)), none, []⟩,
    ⟨(some 9), (.bin .shr (.t 8) (.c (.int .u64 2))), none, []⟩,
    ⟨(some 2), (.mov (.t 9)), none, []⟩] none)
  .ret))
def F69 : AFunc := ⟨1, 10, [(.tmp 2)], B69⟩
def R70_0 : ACode := .region [⟨(some 42), (.mov (.t 0)), none, []⟩,
    ⟨(some 43), (.mov (.t 4)), none, []⟩,
    ⟨(some 44), (.bin .sub (.t 43) (.c (.int .i64 1))), none, [1]⟩,
    ⟨(some 45), (.mov (.t 0)), none, []⟩,
    ⟨(some 46), (.mov (.t 4)), none, []⟩,
    ⟨(some 47), (.bin .sub (.t 46) (.c (.int .i64 2))), none, [4]⟩,
    ⟨(some 48), (.mov (.t 9)), none, []⟩,
    ⟨(some 49), (.bin .add (.t 48) (.c (.int .u32 1))), none, [6]⟩,
    ⟨(some 50), (.indexStr (.c (.string ⟨#[48, 48, 48, 49, 48, 50, 48, 51, 48, 52, 48, 53, 48, 54, 48, 55, 48, 56, 48, 57, 49, 48, 49, 49, 49, 50, 49, 51, 49, 52, 49, 53, 49, 54, 49, 55, 49, 56, 49, 57, 50, 48, 50, 49, 50, 50, 50, 51, 50, 52, 50, 53, 50, 54, 50, 55, 50, 56, 50, 57, 51, 48, 51, 49, 51, 50, 51, 51, 51, 52, 51, 53, 51, 54, 51, 55, 51, 56, 51, 57, 52, 48, 52, 49, 52, 50, 52, 51, 52, 52, 52, 53, 52, 54, 52, 55, 52, 56, 52, 57, 53, 48, 53, 49, 53, 50, 53, 51, 53, 52, 53, 53, 53, 54, 53, 55, 53, 56, 53, 57, 54, 48, 54, 49, 54, 50, 54, 51, 54, 52, 54, 53, 54, 54, 54, 55, 54, 56, 54, 57, 55, 48, 55, 49, 55, 50, 55, 51, 55, 52, 55, 53, 55, 54, 55, 55, 55, 56, 55, 57, 56, 48, 56, 49, 56, 50, 56, 51, 56, 52, 56, 53, 56, 54, 56, 55, 56, 56, 56, 57, 57, 48, 57, 49, 57, 50, 57, 51, 57, 52, 57, 53, 57, 54, 57, 55, 57, 56, 57, 57]⟩)) (.t 49)), none, [7]⟩,
    ⟨(some 51), (.mov (.t 9)), none, []⟩,
    ⟨(some 52), (.indexStr (.c (.string ⟨#[48, 48, 48, 49, 48, 50, 48, 51, 48, 52, 48, 53, 48, 54, 48, 55, 48, 56, 48, 57, 49, 48, 49, 49, 49, 50, 49, 51, 49, 52, 49, 53, 49, 54, 49, 55, 49, 56, 49, 57, 50, 48, 50, 49, 50, 50, 50, 51, 50, 52, 50, 53, 50, 54, 50, 55, 50, 56, 50, 57, 51, 48, 51, 49, 51, 50, 51, 51, 51, 52, 51, 53, 51, 54, 51, 55, 51, 56, 51, 57, 52, 48, 52, 49, 52, 50, 52, 51, 52, 52, 52, 53, 52, 54, 52, 55, 52, 56, 52, 57, 53, 48, 53, 49, 53, 50, 53, 51, 53, 52, 53, 53, 53, 54, 53, 55, 53, 56, 53, 57, 54, 48, 54, 49, 54, 50, 54, 51, 54, 52, 54, 53, 54, 54, 54, 55, 54, 56, 54, 57, 55, 48, 55, 49, 55, 50, 55, 51, 55, 52, 55, 53, 55, 54, 55, 55, 55, 56, 55, 57, 56, 48, 56, 49, 56, 50, 56, 51, 56, 52, 56, 53, 56, 54, 56, 55, 56, 56, 56, 57, 57, 48, 57, 49, 57, 50, 57, 51, 57, 52, 57, 53, 57, 54, 57, 55, 57, 56, 57, 57]⟩)) (.t 51)), none, [9]⟩,
    ⟨(some 53), (.indexAddr 1 (.t 42) (.t 44)), none, [0, 2, 0, 1, 2, 6, 7, 8]⟩,
    ⟨none, (.store 1 (.t 53) (.t 50)), none, [11, 8, 0, 1, 2, 6, 7, 8]⟩,
    ⟨(some 54), (.indexAddr 1 (.t 45) (.t 47)), none, [3, 5, 0, 1, 2, 3, 4, 5, 6, 7, 8, 9, 10, 11, 12]⟩,
    ⟨none, (.store 1 (.t 54) (.t 52)), none, [13, 10, 12, 0, 1, 2, 3, 4, 5, 6, 7, 8, 9, 10, 11, 12]⟩] (some [(0, 1), (0, 2), (0, 3), (1, 3), (2, 3), (0, 4), (1, 4), (2, 4), (3, 4), (0, 5), (1, 5), (2, 5), (3, 5), (0, 6), (1, 6), (2, 6), (3, 6), (4, 6), (5, 6), (0, 7), (1, 7), (2, 7), (3, 7), (4, 7), (5, 7), (0, 8), (1, 8), (2, 8), (3, 8), (4, 8), (5, 8), (0, 9), (1, 9), (2, 9), (3, 9), (4, 9), (5, 9), (6, 9), (7, 9), (8, 9), (0, 10), (1, 10), (2, 10), (3, 10), (4, 10), (5, 10), (6, 10), (7, 10), (8, 10), (3, 11), (4, 11), (5, 11), (9, 11), (10, 11), (3, 12), (4, 12), (5, 12), (9, 12), (10, 12)])
def R70_1 : ACode := .region [⟨(some 55), (.mov (.t 0)), none, []⟩,
    ⟨(some 56), (.mov (.t 4)), none, []⟩,
    ⟨(some 57), (.bin .sub (.t 56) (.c (.int .i64 3))), none, [1]⟩,
    ⟨(some 58), (.mov (.t 0)), none, []⟩,
    ⟨(some 59), (.mov (.t 4)), none, []⟩,
    ⟨(some 60), (.bin .sub (.t 59) (.c (.int .i64 4))), none, [4]⟩,
    ⟨(some 61), (.mov (.t 8)), none, []⟩,
    ⟨(some 62), (.bin .add (.t 61) (.c (.int .u32 1))), none, [6]⟩,
    ⟨(some 63), (.indexStr (.c (.string ⟨#[48, 48, 48, 49, 48, 50, 48, 51, 48, 52, 48, 53, 48, 54, 48, 55, 48, 56, 48, 57, 49, 48, 49, 49, 49, 50, 49, 51, 49, 52, 49, 53, 49, 54, 49, 55, 49, 56, 49, 57, 50, 48, 50, 49, 50, 50, 50, 51, 50, 52, 50, 53, 50, 54, 50, 55, 50, 56, 50, 57, 51, 48, 51, 49, 51, 50, 51, 51, 51, 52, 51, 53, 51, 54, 51, 55, 51, 56, 51, 57, 52, 48, 52, 49, 52, 50, 52, 51, 52, 52, 52, 53, 52, 54, 52, 55, 52, 56, 52, 57, 53, 48, 53, 49, 53, 50, 53, 51, 53, 52, 53, 53, 53, 54, 53, 55, 53, 56, 53, 57, 54, 48, 54, 49, 54, 50, 54, 51, 54, 52, 54, 53, 54, 54, 54, 55, 54, 56, 54, 57, 55, 48, 55, 49, 55, 50, 55, 51, 55, 52, 55, 53, 55, 54, 55, 55, 55, 56, 55, 57, 56, 48, 56, 49, 56, 50, 56, 51, 56, 52, 56, 53, 56, 54, 56, 55, 56, 56, 56, 57, 57, 48, 57, 49, 57, 50, 57, 51, 57, 52, 57, 53, 57, 54, 57, 55, 57, 56, 57, 57]⟩)) (.t 62)), none, [7]⟩,
    ⟨(some 64), (.mov (.t 8)), none, []⟩,
    ⟨(some 65), (.indexStr (.c (.string ⟨#[48, 48, 48, 49, 48, 50, 48, 51, 48, 52, 48, 53, 48, 54, 48, 55, 48, 56, 48, 57, 49, 48, 49, 49, 49, 50, 49, 51, 49, 52, 49, 53, 49, 54, 49, 55, 49, 56, 49, 57, 50, 48, 50, 49, 50, 50, 50, 51, 50, 52, 50, 53, 50, 54, 50, 55, 50, 56, 50, 57, 51, 48, 51, 49, 51, 50, 51, 51, 51, 52, 51, 53, 51, 54, 51, 55, 51, 56, 51, 57, 52, 48, 52, 49, 52, 50, 52, 51, 52, 52, 52, 53, 52, 54, 52, 55, 52, 56, 52, 57, 53, 48, 53, 49, 53, 50, 53, 51, 53, 52, 53, 53, 53, 54, 53, 55, 53, 56, 53, 57, 54, 48, 54, 49, 54, 50, 54, 51, 54, 52, 54, 53, 54, 54, 54, 55, 54, 56, 54, 57, 55, 48, 55, 49, 55, 50, 55, 51, 55, 52, 55, 53, 55, 54, 55, 55, 55, 56, 55, 57, 56, 48, 56, 49, 56, 50, 56, 51, 56, 52, 56, 53, 56, 54, 56, 55, 56, 56, 56, 57, 57, 48, 57, 49, 57, 50, 57, 51, 57, 52, 57, 53, 57, 54, 57, 55, 57, 56, 57, 57]⟩)) (.t 64)), none, [9]⟩,
    ⟨(some 66), (.indexAddr 1 (.t 55) (.t 57)), none, [0, 2, 0, 1, 2, 6, 7, 8]⟩,
    ⟨none, (.store 1 (.t 66) (.t 63)), none, [11, 8, 0, 1, 2, 6, 7, 8]⟩,
    ⟨(some 67), (.indexAddr 1 (.t 58) (.t 60)), none, [3, 5, 0, 1, 2, 3, 4, 5, 6, 7, 8, 9, 10, 11, 12]⟩,
    ⟨none, (.store 1 (.t 67) (.t 65)), none, [13, 10, 12, 0, 1, 2, 3, 4, 5, 6, 7, 8, 9, 10, 11, 12]⟩] (some [(0, 1), (0, 2), (0, 3), (1, 3), (2, 3), (0, 4), (1, 4), (2, 4), (3, 4), (0, 5), (1, 5), (2, 5), (3, 5), (0, 6), (1, 6), (2, 6), (3, 6), (4, 6), (5, 6), (0, 7), (1, 7), (2, 7), (3, 7), (4, 7), (5, 7), (0, 8), (1, 8), (2, 8), (3, 8), (4, 8), (5, 8), (0, 9), (1, 9), (2, 9), (3, 9), (4, 9), (5, 9), (6, 9), (7, 9), (8, 9), (0, 10), (1, 10), (2, 10), (3, 10), (4, 10), (5, 10), (6, 10), (7, 10), (8, 10), (3, 11), (4, 11), (5, 11), (9, 11), (10, 11), (3, 12), (4, 12), (5, 12), (9, 12), (10, 12)])
def R70_2 : ACode := .region [⟨(some 68), (.mov (.t 0)), none, []⟩,
    ⟨(some 69), (.mov (.t 4)), none, []⟩,
    ⟨(some 70), (.bin .sub (.t 69) (.c (.int .i64 5))), none, [1]⟩,
    ⟨(some 71), (.mov (.t 0)), none, []⟩,
    ⟨(some 72), (.mov (.t 4)), none, []⟩,
    ⟨(some 73), (.bin .sub (.t 72) (.c (.int .i64 6))), none, [4]⟩,
    ⟨(some 74), (.mov (.t 11)), none, []⟩,
    ⟨(some 75), (.bin .add (.t 74) (.c (.int .u32 1))), none, [6]⟩,
    ⟨(some 76), (.indexStr (.c (.string ⟨#[48, 48, 48, 49, 48, 50, 48, 51, 48, 52, 48, 53, 48, 54, 48, 55, 48, 56, 48, 57, 49, 48, 49, 49, 49, 50, 49, 51, 49, 52, 49, 53, 49, 54, 49, 55, 49, 56, 49, 57, 50, 48, 50, 49, 50, 50, 50, 51, 50, 52, 50, 53, 50, 54, 50, 55, 50, 56, 50, 57, 51, 48, 51, 49, 51, 50, 51, 51, 51, 52, 51, 53, 51, 54, 51, 55, 51, 56, 51, 57, 52, 48, 52, 49, 52, 50, 52, 51, 52, 52, 52, 53, 52, 54, 52, 55, 52, 56, 52, 57, 53, 48, 53, 49, 53, 50, 53, 51, 53, 52, 53, 53, 53, 54, 53, 55, 53, 56, 53, 57, 54, 48, 54, 49, 54, 50, 54, 51, 54, 52, 54, 53, 54, 54, 54, 55, 54, 56, 54, 57, 55, 48, 55, 49, 55, 50, 55, 51, 55, 52, 55, 53, 55, 54, 55, 55, 55, 56, 55, 57, 56, 48, 56, 49, 56, 50, 56, 51, 56, 52, 56, 53, 56, 54, 56, 55, 56, 56, 56, 57, 57, 48, 57, 49, 57, 50, 57, 51, 57, 52, 57, 53, 57, 54, 57, 55, 57, 56, 57, 57]⟩)) (.t 75)), none, [7]⟩,
    ⟨(some 77), (.mov (.t 11)), none, []⟩,
    ⟨(some 78), (.indexStr (.c (.string ⟨#[48, 48, 48, 49, 48, 50, 48, 51, 48, 52, 48, 53, 48, 54, 48, 55, 48, 56, 48, 57, 49, 48, 49, 49, 49, 50, 49, 51, 49, 52, 49, 53, 49, 54, 49, 55, 49, 56, 49, 57, 50, 48, 50, 49, 50, 50, 50, 51, 50, 52, 50, 53, 50, 54, 50, 55, 50, 56, 50, 57, 51, 48, 51, 49, 51, 50, 51, 51, 51, 52, 51, 53, 51, 54, 51, 55, 51, 56, 51, 57, 52, 48, 52, 49, 52, 50, 52, 51, 52, 52, 52, 53, 52, 54, 52, 55, 52, 56, 52, 57, 53, 48, 53, 49, 53, 50, 53, 51, 53, 52, 53, 53, 53, 54, 53, 55, 53, 56, 53, 57, 54, 48, 54, 49, 54, 50, 54, 51, 54, 52, 54, 53, 54, 54, 54, 55, 54, 56, 54, 57, 55, 48, 55, 49, 55, 50, 55, 51, 55, 52, 55, 53, 55, 54, 55, 55, 55, 56, 55, 57, 56, 48, 56, 49, 56, 50, 56, 51, 56, 52, 56, 53, 56, 54, 56, 55, 56, 56, 56, 57, 57, 48, 57, 49, 57, 50, 57, 51, 57, 52, 57, 53, 57, 54, 57, 55, 57, 56, 57, 57]⟩)) (.t 77)), none, [9]⟩,
    ⟨(some 79), (.indexAddr 1 (.t 68) (.t 70)), none, [0, 2, 0, 1, 2, 6, 7, 8]⟩,
    ⟨none, (.store 1 (.t 79) (.t 76)), none, [11, 8, 0, 1, 2, 6, 7, 8]⟩,
    ⟨(some 80), (.indexAddr 1 (.t 71) (.t 73)), none, [3, 5, 0, 1, 2, 3, 4, 5, 6, 7, 8, 9, 10, 11, 12]⟩,
    ⟨none, (.store 1 (.t 80) (.t 78)), none, [13, 10, 12, 0, 1, 2, 3, 4, 5, 6, 7, 8, 9, 10, 11, 12]⟩] (some [(0, 1), (0, 2), (0, 3), (1, 3), (2, 3), (0, 4), (1, 4), (2, 4), (3, 4), (0, 5), (1, 5), (2, 5), (3, 5), (0, 6), (1, 6), (2, 6), (3, 6), (4, 6), (5, 6), (0, 7), (1, 7), (2, 7), (3, 7), (4, 7), (5, 7), (0, 8), (1, 8), (2, 8), (3, 8), (4, 8), (5, 8), (0, 9), (1, 9), (2, 9), (3, 9), (4, 9), (5, 9), (6, 9), (7, 9), (8, 9), (0, 10), (1, 10), (2, 10), (3, 10), (4, 10), (5, 10), (6, 10), (7, 10), (8, 10), (3, 11), (4, 11), (5, 11), (9, 11), (10, 11), (3, 12), (4, 12), (5, 12), (9, 12), (10, 12)])
def R70_3 : ACode := .region [⟨(some 81), (.mov (.t 0)), none, []⟩,
    ⟨(some 82), (.mov (.t 4)), none, []⟩,
    ⟨(some 83), (.bin .sub (.t 82) (.c (.int .i64 7))), none, [1]⟩,
    ⟨(some 84), (.mov (.t 0)), none, []⟩,
    ⟨(some 85), (.mov (.t 4)), none, []⟩,
    ⟨(some 86), (.bin .sub (.t 85) (.c (.int .i64 8))), none, [4]⟩,
    ⟨(some 87), (.mov (.t 10)), none, []⟩,
    ⟨(some 88), (.bin .add (.t 87) (.c (.int .u32 1))), none, [6]⟩,
    ⟨(some 89), (.indexStr (.c (.string ⟨#[48, 48, 48, 49, 48, 50, 48, 51, 48, 52, 48, 53, 48, 54, 48, 55, 48, 56, 48, 57, 49, 48, 49, 49, 49, 50, 49, 51, 49, 52, 49, 53, 49, 54, 49, 55, 49, 56, 49, 57, 50, 48, 50, 49, 50, 50, 50, 51, 50, 52, 50, 53, 50, 54, 50, 55, 50, 56, 50, 57, 51, 48, 51, 49, 51, 50, 51, 51, 51, 52, 51, 53, 51, 54, 51, 55, 51, 56, 51, 57, 52, 48, 52, 49, 52, 50, 52, 51, 52, 52, 52, 53, 52, 54, 52, 55, 52, 56, 52, 57, 53, 48, 53, 49, 53, 50, 53, 51, 53, 52, 53, 53, 53, 54, 53, 55, 53, 56, 53, 57, 54, 48, 54, 49, 54, 50, 54, 51, 54, 52, 54, 53, 54, 54, 54, 55, 54, 56, 54, 57, 55, 48, 55, 49, 55, 50, 55, 51, 55, 52, 55, 53, 55, 54, 55, 55, 55, 56, 55, 57, 56, 48, 56, 49, 56, 50, 56, 51, 56, 52, 56, 53, 56, 54, 56, 55, 56, 56, 56, 57, 57, 48, 57, 49, 57, 50, 57, 51, 57, 52, 57, 53, 57, 54, 57, 55, 57, 56, 57, 57]⟩)) (.t 88)), none, [7]⟩,
    ⟨(some 90), (.mov (.t 10)), none, []⟩,
    ⟨(some 91), (.indexStr (.c (.string ⟨#[48, 48, 48, 49, 48, 50, 48, 51, 48, 52, 48, 53, 48, 54, 48, 55, 48, 56, 48, 57, 49, 48, 49, 49, 49, 50, 49, 51, 49, 52, 49, 53, 49, 54, 49, 55, 49, 56, 49, 57, 50, 48, 50, 49, 50, 50, 50, 51, 50, 52, 50, 53, 50, 54, 50, 55, 50, 56, 50, 57, 51, 48, 51, 49, 51, 50, 51, 51, 51, 52, 51, 53, 51, 54, 51, 55, 51, 56, 51, 57, 52, 48, 52, 49, 52, 50, 52, 51, 52, 52, 52, 53, 52, 54, 52, 55, 52, 56, 52, 57, 53, 48, 53, 49, 53, 50, 53, 51, 53, 52, 53, 53, 53, 54, 53, 55, 53, 56, 53, 57, 54, 48, 54, 49, 54, 50, 54, 51, 54, 52, 54, 53, 54, 54, 54, 55, 54, 56, 54, 57, 55, 48, 55, 49, 55, 50, 55, 51, 55, 52, 55, 53, 55, 54, 55, 55, 55, 56, 55, 57, 56, 48, 56, 49, 56, 50, 56, 51, 56, 52, 56, 53, 56, 54, 56, 55, 56, 56, 56, 57, 57, 48, 57, 49, 57, 50, 57, 51, 57, 52, 57, 53, 57, 54, 57, 55, 57, 56, 57, 57]⟩)) (.t 90)), none, [9]⟩,
    ⟨(some 92), (.indexAddr 1 (.t 81) (.t 83)), none, [0, 2, 0, 1, 2, 6, 7, 8]⟩,
    ⟨none, (.store 1 (.t 92) (.t 89)), none, [11, 8, 0, 1, 2, 6, 7, 8]⟩,
    ⟨(some 93), (.indexAddr 1 (.t 84) (.t 86)), none, [3, 5, 0, 1, 2, 3, 4, 5, 6, 7, 8, 9, 10, 11, 12]⟩,
    ⟨none, (.store 1 (.t 93) (.t 91)), none, [13, 10, 12, 0, 1, 2, 3, 4, 5, 6, 7, 8, 9, 10, 11, 12]⟩] (some [(0, 1), (0, 2), (0, 3), (1, 3), (2, 3), (0, 4), (1, 4), (2, 4), (3, 4), (0, 5), (1, 5), (2, 5), (3, 5), (0, 6), (1, 6), (2, 6), (3, 6), (4, 6), (5, 6), (0, 7), (1, 7), (2, 7), (3, 7), (4, 7), (5, 7), (0, 8), (1, 8), (2, 8), (3, 8), (4, 8), (5, 8), (0, 9), (1, 9), (2, 9), (3, 9), (4, 9), (5, 9), (6, 9), (7, 9), (8, 9), (0, 10), (1, 10), (2, 10), (3, 10), (4, 10), (5, 10), (6, 10), (7, 10), (8, 10), (3, 11), (4, 11), (5, 11), (9, 11), (10, 11), (3, 12), (4, 12), (5, 12), (9, 12), (10, 12)])
def R70_4 : ACode := .region [⟨(some 110), (.mov (.t 0)), none, []⟩,
    ⟨(some 111), (.mov (.t 4)), none, []⟩,
    ⟨(some 112), (.bin .sub (.t 111) (.c (.int .i64 1))), none, [1]⟩,
    ⟨(some 113), (.mov (.t 0)), none, []⟩,
    ⟨(some 114), (.mov (.t 4)), none, []⟩,
    ⟨(some 115), (.bin .sub (.t 114) (.c (.int .i64 2))), none, [4]⟩,
    ⟨(some 116), (.mov (.t 15)), none, []⟩,
    ⟨(some 117), (.bin .add (.t 116) (.c (.int .u32 1))), none, [6]⟩,
    ⟨(some 118), (.indexStr (.c (.string ⟨#[48, 48, 48, 49, 48, 50, 48, 51, 48, 52, 48, 53, 48, 54, 48, 55, 48, 56, 48, 57, 49, 48, 49, 49, 49, 50, 49, 51, 49, 52, 49, 53, 49, 54, 49, 55, 49, 56, 49, 57, 50, 48, 50, 49, 50, 50, 50, 51, 50, 52, 50, 53, 50, 54, 50, 55, 50, 56, 50, 57, 51, 48, 51, 49, 51, 50, 51, 51, 51, 52, 51, 53, 51, 54, 51, 55, 51, 56, 51, 57, 52, 48, 52, 49, 52, 50, 52, 51, 52, 52, 52, 53, 52, 54, 52, 55, 52, 56, 52, 57, 53, 48, 53, 49, 53, 50, 53, 51, 53, 52, 53, 53, 53, 54, 53, 55, 53, 56, 53, 57, 54, 48, 54, 49, 54, 50, 54, 51, 54, 52, 54, 53, 54, 54, 54, 55, 54, 56, 54, 57, 55, 48, 55, 49, 55, 50, 55, 51, 55, 52, 55, 53, 55, 54, 55, 55, 55, 56, 55, 57, 56, 48, 56, 49, 56, 50, 56, 51, 56, 52, 56, 53, 56, 54, 56, 55, 56, 56, 56, 57, 57, 48, 57, 49, 57, 50, 57, 51, 57, 52, 57, 53, 57, 54, 57, 55, 57, 56, 57, 57]⟩)) (.t 117)), none, [7]⟩,
    ⟨(some 119), (.mov (.t 15)), none, []⟩,
    ⟨(some 120), (.indexStr (.c (.string ⟨#[48, 48, 48, 49, 48, 50, 48, 51, 48, 52, 48, 53, 48, 54, 48, 55, 48, 56, 48, 57, 49, 48, 49, 49, 49, 50, 49, 51, 49, 52, 49, 53, 49, 54, 49, 55, 49, 56, 49, 57, 50, 48, 50, 49, 50, 50, 50, 51, 50, 52, 50, 53, 50, 54, 50, 55, 50, 56, 50, 57, 51, 48, 51, 49, 51, 50, 51, 51, 51, 52, 51, 53, 51, 54, 51, 55, 51, 56, 51, 57, 52, 48, 52, 49, 52, 50, 52, 51, 52, 52, 52, 53, 52, 54, 52, 55, 52, 56, 52, 57, 53, 48, 53, 49, 53, 50, 53, 51, 53, 52, 53, 53, 53, 54, 53, 55, 53, 56, 53, 57, 54, 48, 54, 49, 54, 50, 54, 51, 54, 52, 54, 53, 54, 54, 54, 55, 54, 56, 54, 57, 55, 48, 55, 49, 55, 50, 55, 51, 55, 52, 55, 53, 55, 54, 55, 55, 55, 56, 55, 57, 56, 48, 56, 49, 56, 50, 56, 51, 56, 52, 56, 53, 56, 54, 56, 55, 56, 56, 56, 57, 57, 48, 57, 49, 57, 50, 57, 51, 57, 52, 57, 53, 57, 54, 57, 55, 57, 56, 57, 57]⟩)) (.t 119)), none, [9]⟩,
    ⟨(some 121), (.indexAddr 1 (.t 110) (.t 112)), none, [0, 2, 0, 1, 2, 6, 7, 8]⟩,
    ⟨none, (.store 1 (.t 121) (.t 118)), none, [11, 8, 0, 1, 2, 6, 7, 8]⟩,
    ⟨(some 122), (.indexAddr 1 (.t 113) (.t 115)), none, [3, 5, 0, 1, 2, 3, 4, 5, 6, 7, 8, 9, 10, 11, 12]⟩,
    ⟨none, (.store 1 (.t 122) (.t 120)), none, [13, 10, 12, 0, 1, 2, 3, 4, 5, 6, 7, 8, 9, 10, 11, 12]⟩] (some [(0, 1), (0, 2), (0, 3), (1, 3), (2, 3), (0, 4), (1, 4), (2, 4), (3, 4), (0, 5), (1, 5), (2, 5), (3, 5), (0, 6), (1, 6), (2, 6), (3, 6), (4, 6), (5, 6), (0, 7), (1, 7), (2, 7), (3, 7), (4, 7), (5, 7), (0, 8), (1, 8), (2, 8), (3, 8), (4, 8), (5, 8), (0, 9), (1, 9), (2, 9), (3, 9), (4, 9), (5, 9), (6, 9), (7, 9), (8, 9), (0, 10), (1, 10), (2, 10), (3, 10), (4, 10), (5, 10), (6, 10), (7, 10), (8, 10), (3, 11), (4, 11), (5, 11), (9, 11), (10, 11), (3, 12), (4, 12), (5, 12), (9, 12), (10, 12)])
def R70_5 : ACode := .region [⟨(some 123), (.mov (.t 0)), none, []⟩,
    ⟨(some 124), (.mov (.t 4)), none, []⟩,
    ⟨(some 125), (.bin .sub (.t 124) (.c (.int .i64 3))), none, [1]⟩,
    ⟨(some 126), (.mov (.t 0)), none, []⟩,
    ⟨(some 127), (.mov (.t 4)), none, []⟩,
    ⟨(some 128), (.bin .sub (.t 127) (.c (.int .i64 4))), none, [4]⟩,
    ⟨(some 129), (.mov (.t 14)), none, []⟩,
    ⟨(some 130), (.bin .add (.t 129) (.c (.int .u32 1))), none, [6]⟩,
    ⟨(some 131), (.indexStr (.c (.string ⟨#[48, 48, 48, 49, 48, 50, 48, 51, 48, 52, 48, 53, 48, 54, 48, 55, 48, 56, 48, 57, 49, 48, 49, 49, 49, 50, 49, 51, 49, 52, 49, 53, 49, 54, 49, 55, 49, 56, 49, 57, 50, 48, 50, 49, 50, 50, 50, 51, 50, 52, 50, 53, 50, 54, 50, 55, 50, 56, 50, 57, 51, 48, 51, 49, 51, 50, 51, 51, 51, 52, 51, 53, 51, 54, 51, 55, 51, 56, 51, 57, 52, 48, 52, 49, 52, 50, 52, 51, 52, 52, 52, 53, 52, 54, 52, 55, 52, 56, 52, 57, 53, 48, 53, 49, 53, 50, 53, 51, 53, 52, 53, 53, 53, 54, 53, 55, 53, 56, 53, 57, 54, 48, 54, 49, 54, 50, 54, 51, 54, 52, 54, 53, 54, 54, 54, 55, 54, 56, 54, 57, 55, 48, 55, 49, 55, 50, 55, 51, 55, 52, 55, 53, 55, 54, 55, 55, 55, 56, 55, 57, 56, 48, 56, 49, 56, 50, 56, 51, 56, 52, 56, 53, 56, 54, 56, 55, 56, 56, 56, 57, 57, 48, 57, 49, 57, 50, 57, 51, 57, 52, 57, 53, 57, 54, 57, 55, 57, 56, 57, 57]⟩)) (.t 130)), none, [7]⟩,
    ⟨(some 132), (.mov (.t 14)), none, []⟩,
    ⟨(some 133), (.indexStr (.c (.string ⟨#[48, 48, 48, 49, 48, 50, 48, 51, 48, 52, 48, 53, 48, 54, 48, 55, 48, 56, 48, 57, 49, 48, 49, 49, 49, 50, 49, 51, 49, 52, 49, 53, 49, 54, 49, 55, 49, 56, 49, 57, 50, 48, 50, 49, 50, 50, 50, 51, 50, 52, 50, 53, 50, 54, 50, 55, 50, 56, 50, 57, 51, 48, 51, 49, 51, 50, 51, 51, 51, 52, 51, 53, 51, 54, 51, 55, 51, 56, 51, 57, 52, 48, 52, 49, 52, 50, 52, 51, 52, 52, 52, 53, 52, 54, 52, 55, 52, 56, 52, 57, 53, 48, 53, 49, 53, 50, 53, 51, 53, 52, 53, 53, 53, 54, 53, 55, 53, 56, 53, 57, 54, 48, 54, 49, 54, 50, 54, 51, 54, 52, 54, 53, 54, 54, 54, 55, 54, 56, 54, 57, 55, 48, 55, 49, 55, 50, 55, 51, 55, 52, 55, 53, 55, 54, 55, 55, 55, 56, 55, 57, 56, 48, 56, 49, 56, 50, 56, 51, 56, 52, 56, 53, 56, 54, 56, 55, 56, 56, 56, 57, 57, 48, 57, 49, 57, 50, 57, 51, 57, 52, 57, 53, 57, 54, 57, 55, 57, 56, 57, 57]⟩)) (.t 132)), none, [9]⟩,
    ⟨(some 134), (.indexAddr 1 (.t 123) (.t 125)), none, [0, 2, 0, 1, 2, 6, 7, 8]⟩,
    ⟨none, (.store 1 (.t 134) (.t 131)), none, [11, 8, 0, 1, 2, 6, 7, 8]⟩,
    ⟨(some 135), (.indexAddr 1 (.t 126) (.t 128)), none, [3, 5, 0, 1, 2, 3, 4, 5, 6, 7, 8, 9, 10, 11, 12]⟩,
    ⟨none, (.store 1 (.t 135) (.t 133)), none, [13, 10, 12, 0, 1, 2, 3, 4, 5, 6, 7, 8, 9, 10, 11, 12]⟩] (some [(0, 1), (0, 2), (0, 3), (1, 3), (2, 3), (0, 4), (1, 4), (2, 4), (3, 4), (0, 5), (1, 5), (2, 5), (3, 5), (0, 6), (1, 6), (2, 6), (3, 6), (4, 6), (5, 6), (0, 7), (1, 7), (2, 7), (3, 7), (4, 7), (5, 7), (0, 8), (1, 8), (2, 8), (3, 8), (4, 8), (5, 8), (0, 9), (1, 9), (2, 9), (3, 9), (4, 9), (5, 9), (6, 9), (7, 9), (8, 9), (0, 10), (1, 10), (2, 10), (3, 10), (4, 10), (5, 10), (6, 10), (7, 10), (8, 10), (3, 11), (4, 11), (5, 11), (9, 11), (10, 11), (3, 12), (4, 12), (5, 12), (9, 12), (10, 12)])
def R70_6 : ACode := .region [⟨(some 145), (.mov (.t 0)), none, []⟩,
    ⟨(some 146), (.mov (.t 4)), none, []⟩,
    ⟨(some 147), (.bin .sub (.t 146) (.c (.int .i64 1))), none, [1]⟩,
    ⟨(some 148), (.mov (.t 0)), none, []⟩,
    ⟨(some 149), (.mov (.t 4)), none, []⟩,
    ⟨(some 150), (.bin .sub (.t 149) (.c (.int .i64 2))), none, [4]⟩,
    ⟨(some 151), (.mov (.t 16)), none, []⟩,
    ⟨(some 152), (.bin .add (.t 151) (.c (.int .u32 1))), none, [6]⟩,
    ⟨(some 153), (.indexStr (.c (.string ⟨#[48, 48, 48, 49, 48, 50, 48, 51, 48, 52, 48, 53, 48, 54, 48, 55, 48, 56, 48, 57, 49, 48, 49, 49, 49, 50, 49, 51, 49, 52, 49, 53, 49, 54, 49, 55, 49, 56, 49, 57, 50, 48, 50, 49, 50, 50, 50, 51, 50, 52, 50, 53, 50, 54, 50, 55, 50, 56, 50, 57, 51, 48, 51, 49, 51, 50, 51, 51, 51, 52, 51, 53, 51, 54, 51, 55, 51, 56, 51, 57, 52, 48, 52, 49, 52, 50, 52, 51, 52, 52, 52, 53, 52, 54, 52, 55, 52, 56, 52, 57, 53, 48, 53, 49, 53, 50, 53, 51, 53, 52, 53, 53, 53, 54, 53, 55, 53, 56, 53, 57, 54, 48, 54, 49, 54, 50, 54, 51, 54, 52, 54, 53, 54, 54, 54, 55, 54, 56, 54, 57, 55, 48, 55, 49, 55, 50, 55, 51, 55, 52, 55, 53, 55, 54, 55, 55, 55, 56, 55, 57, 56, 48, 56, 49, 56, 50, 56, 51, 56, 52, 56, 53, 56, 54, 56, 55, 56, 56, 56, 57, 57, 48, 57, 49, 57, 50, 57, 51, 57, 52, 57, 53, 57, 54, 57, 55, 57, 56, 57, 57]⟩)) (.t 152)), none, [7]⟩,
    ⟨(some 154), (.mov (.t 16)), none, []⟩,
    ⟨(some 155), (.indexStr (.c (.string ⟨#[48, 48, 48, 49, 48, 50, 48, 51, 48, 52, 48, 53, 48, 54, 48, 55, 48, 56, 48, 57, 49, 48, 49, 49, 49, 50, 49, 51, 49, 52, 49, 53, 49, 54, 49, 55, 49, 56, 49, 57, 50, 48, 50, 49, 50, 50, 50, 51, 50, 52, 50, 53, 50, 54, 50, 55, 50, 56, 50, 57, 51, 48, 51, 49, 51, 50, 51, 51, 51, 52, 51, 53, 51, 54, 51, 55, 51, 56, 51, 57, 52, 48, 52, 49, 52, 50, 52, 51, 52, 52, 52, 53, 52, 54, 52, 55, 52, 56, 52, 57, 53, 48, 53, 49, 53, 50, 53, 51, 53, 52, 53, 53, 53, 54, 53, 55, 53, 56, 53, 57, 54, 48, 54, 49, 54, 50, 54, 51, 54, 52, 54, 53, 54, 54, 54, 55, 54, 56, 54, 57, 55, 48, 55, 49, 55, 50, 55, 51, 55, 52, 55, 53, 55, 54, 55, 55, 55, 56, 55, 57, 56, 48, 56, 49, 56, 50, 56, 51, 56, 52, 56, 53, 56, 54, 56, 55, 56, 56, 56, 57, 57, 48, 57, 49, 57, 50, 57, 51, 57, 52, 57, 53, 57, 54, 57, 55, 57, 56, 57, 57]⟩)) (.t 154)), none, [9]⟩,
    ⟨(some 156), (.indexAddr 1 (.t 145) (.t 147)), none, [0, 2, 0, 1, 2, 6, 7, 8]⟩,
    ⟨none, (.store 1 (.t 156) (.t 153)), none, [11, 8, 0, 1, 2, 6, 7, 8]⟩,
    ⟨(some 157), (.indexAddr 1 (.t 148) (.t 150)), none, [3, 5, 0, 1, 2, 3, 4, 5, 6, 7, 8, 9, 10, 11, 12]⟩,
    ⟨none, (.store 1 (.t 157) (.t 155)), none, [13, 10, 12, 0, 1, 2, 3, 4, 5, 6, 7, 8, 9, 10, 11, 12]⟩] (some [(0, 1), (0, 2), (0, 3), (1, 3), (2, 3), (0, 4), (1, 4), (2, 4), (3, 4), (0, 5), (1, 5), (2, 5), (3, 5), (0, 6), (1, 6), (2, 6), (3, 6), (4, 6), (5, 6), (0, 7), (1, 7), (2, 7), (3, 7), (4, 7), (5, 7), (0, 8), (1, 8), (2, 8), (3, 8), (4, 8), (5, 8), (0, 9), (1, 9), (2, 9), (3, 9), (4, 9), (5, 9), (6, 9), (7, 9), (8, 9), (0, 10), (1, 10), (2, 10), (3, 10), (4, 10), (5, 10), (6, 10), (7, 10), (8, 10), (3, 11), (4, 11), (5, 11), (9, 11), (10, 11), (3, 12), (4, 12), (5, 12), (9, 12), (10, 12)])
/-- internal/strconv.formatBase10 -/
def F70L0 : ACode := (.seq (.seq (.region [⟨(some 19), (.mov (.t 4)), none, []⟩,
    ⟨(some 20), (.bin .geq (.t 19) (.c (.int .i64 8))), none, []⟩] none)
  (.cond (.t 20)
  .skip
  (.exit 0)))
  (.block 1 (.seq (.region [⟨(some 21), (.mov (.t 1)), none, []⟩,
    ⟨(some 22), (.bin .rem (.t 21) (.c (.int .u64 100000000))), none, []⟩,
    ⟨(some 23), (.conv .u32 (.t 22)), none, []⟩,
    ⟨(some 5), (.mov (.t 23)), none, []⟩] none)
  (.seq (.region [⟨(some 24), (.mov (.t 1)), none, []⟩,
    ⟨(some 25), (.bin .quo (.t 24) (.c (.int .u64 100000000))), none, []⟩,
    ⟨(some 1), (.mov (.t 25)), none, []⟩] none)
  (.seq (.region [⟨(some 26), (.mov (.t 5)), none, []⟩,
    ⟨(some 27), (.bin .quo (.t 26) (.c (.int .u32 10000))), none, []⟩,
    ⟨(some 28), (.mov (.t 5)), none, []⟩,
    ⟨(some 29), (.bin .rem (.t 28) (.c (.int .u32 10000))), none, []⟩,
    ⟨(some 6), (.mov (.t 27)), none, []⟩,
    ⟨(some 7), (.mov (.t 29)), none, []⟩] none)
  (.seq (.region [⟨(some 30), (.mov (.t 7)), none, []⟩,
    ⟨(some 31), (.bin .quo (.t 30) (.c (.int .u32 100))), none, []⟩,
    ⟨(some 32), (.bin .mul (.t 31) (.c (.int .u32 2))), none, []⟩,
    ⟨(some 33), (.mov (.t 7)), none, []⟩,
    ⟨(some 34), (.bin .rem (.t 33) (.c (.int .u32 100))), none, []⟩,
    ⟨(some 35), (.bin .mul (.t 34) (.c (.int .u32 2))), none, []⟩,
    ⟨(some 8), (.mov (.t 32)), none, []⟩,
    ⟨(some 9), (.mov (.t 35)), none, []⟩] none)
  (.seq (.region [⟨(some 36), (.mov (.t 6)), none, []⟩,
    ⟨(some 37), (.bin .quo (.t 36) (.c (.int .u32 100))), none, []⟩,
    ⟨(some 38), (.bin .mul (.t 37) (.c (.int .u32 2))), none, []⟩,
    ⟨(some 39), (.mov (.t 6)), none, []⟩,
    ⟨(some 40), (.bin .rem (.t 39) (.c (.int .u32 100))), none, []⟩,
    ⟨(some 41), (.bin .mul (.t 40) (.c (.int .u32 2))), none, []⟩,
    ⟨(some 10), (.mov (.t 38)), none, []⟩,
    ⟨(some 11), (.mov (.t 41)), none, []⟩] none)
  (.seq R70_0
  (.seq R70_1
  (.seq R70_2
  (.seq R70_3
  (.region [⟨(some 94), (.mov (.t 4)), none, []⟩,
    ⟨(some 95), (.bin .sub (.t 94) (.c (.int .i64 8))), none, []⟩,
    ⟨(some 4), (.mov (.t 95)), none, []⟩] none))))))))))))
def B70 : ACode := (.seq (.region [⟨(some 17), (.mov (.t 0)), none, []⟩,
    ⟨(some 18), (.lenSlice (.t 17)), none, []⟩,
    ⟨(some 4), (.mov (.t 18)), none, []⟩] none)
  (.seq (.block 0 (.loop F70L0))
  (.seq (.region [⟨(some 96), (.mov (.t 1)), none, []⟩,
    ⟨(some 97), (.conv .u32 (.t 96)), none, []⟩,
    ⟨(some 12), (.mov (.t 97)), none, []⟩] none)
  (.seq (.seq (.region [⟨(some 98), (.mov (.t 4)), none, []⟩,
    ⟨(some 99), (.bin .geq (.t 98) (.c (.int .i64 4))), none, []⟩] none)
  (.cond (.t 99)
  (.seq (.region [⟨(some 100), (.mov (.t 12)), none, []⟩,
    ⟨(some 101), (.bin .rem (.t 100) (.c (.int .u32 10000))), none, []⟩,
    ⟨(some 13), (.mov (.t 101)), none, []⟩] none)
  (.seq (.region [⟨(some 102), (.mov (.t 12)), none, []⟩,
    ⟨(some 103), (.bin .quo (.t 102) (.c (.int .u32 10000))), none, []⟩,
    ⟨(some 12), (.mov (.t 103)), none, []⟩] none)
  (.seq (.region [⟨(some 104), (.mov (.t 13)), none, []⟩,
    ⟨(some 105), (.bin .quo (.t 104) (.c (.int .u32 100))), none, []⟩,
    ⟨(some 106), (.bin .mul (.t 105) (.c (.int .u32 2))), none, []⟩,
    ⟨(some 107), (.mov (.t 13)), none, []⟩,
    ⟨(some 108), (.bin .rem (.t 107) (.c (.int .u32 100))), none, []⟩,
    ⟨(some 109), (.bin .mul (.t 108) (.c (.int .u32 2))), none, []⟩,
    ⟨(some 14), (.mov (.t 106)), none, []⟩,
    ⟨(some 15), (.mov (.t 109)), none, []⟩] none)
  (.seq R70_4
  (.seq R70_5
  (.region [⟨(some 136), (.mov (.t 4)), none, []⟩,
    ⟨(some 137), (.bin .sub (.t 136) (.c (.int .i64 4))), none, []⟩,
    ⟨(some 4), (.mov (.t 137)), none, []⟩] none))))))
  .skip))
  (.seq (.seq (.region [⟨(some 138), (.mov (.t 4)), none, []⟩,
    ⟨(some 139), (.bin .geq (.t 138) (.c (.int .i64 2))), none, []⟩] none)
  (.cond (.t 139)
  (.seq (.region [⟨(some 140), (.mov (.t 12)), none, []⟩,
    ⟨(some 141), (.bin .rem (.t 140) (.c (.int .u32 100))), none, []⟩,
    ⟨(some 142), (.bin .mul (.t 141) (.c (.int .u32 2))), none, []⟩,
    ⟨(some 16), (.mov (.t 142)), none, []⟩] none)
  (.seq (.region [⟨(some 143), (.mov (.t 12)), none, []⟩,
    ⟨(some 144), (.bin .quo (.t 143) (.c (.int .u32 100))), none, []⟩,
    ⟨(some 12), (.mov (.t 144)), none, []⟩] none)
  (.seq R70_6
  (.region [⟨(some 158), (.mov (.t 4)), none, []⟩,
    ⟨(some 159), (.bin .sub (.t 158) (.c (.int .i64 2))), none, []⟩,
    ⟨(some 4), (.mov (.t 159)), none, []⟩] none))))
  .skip))
  (.seq (.region [⟨(some 160), (.mov (.t 4)), none, []⟩,
    ⟨(some 161), (.bin .gtr (.t 160) (.c (.int .i64 0))), none, []⟩] none)
  (.cond (.t 161)
  (.region [⟨(some 162), (.mov (.t 0)), none, []⟩,
    ⟨(some 163), (.mov (.t 12)), none, []⟩,
    ⟨(some 164), (.bin .add (.c (.int .u32 48)) (.t 163)), none, []⟩,
    ⟨(some 165), (.conv .u8 (.t 164)), none, []⟩,
    ⟨(some 166), (.indexAddr 1 (.t 162) (.c (.int .i64 0))), none, []⟩,
    ⟨none, (.store 1 (.t 166) (.t 165)), none, []⟩] none)
  .skip)))))))
def F70 : AFunc := ⟨2, 167, [], B70⟩
-- F70L0 live: [0, 1, 4]
/-- internal/strconv.bool2[int] -/
def B71 : ACode := (.seq (.region [⟨(some 2), (.mov (.c (.int .i64 0))), none, []⟩] none)
  (.seq (.seq (.region [⟨(some 3), (.mov (.t 0)), none, []⟩] none)
  (.cond (.t 3)
  (.seq (.region [⟨(some 2), (.mov (.c (.int .i64 1))), none, []⟩] none)
  .ret)
  .skip))
  (.seq (.region [⟨(some 2), (.mov (.c (.int .i64 0))), none, []⟩] none)
  .ret)))
def F71 : AFunc := ⟨1, 4, [(.tmp 2)], B71⟩
/-- internal/strconv.unmin -/
def B72 : ACode := (.seq (.region [⟨(some 2), (.mov (.c (.int .u64 0))), none, []⟩] none)
  (.seq (.region [⟨(some 3), (.mov (.t 0)), none, []⟩,
    ⟨(some 4), (.bin .shl (.t 3) (.c (.int .u64 2))), none, []⟩,
    ⟨(some 5), (.bin .sub (.t 4) (.c (.int .u64 2))), none, []⟩,
    ⟨(some 2), (.mov (.t 5)), none, []⟩] none)
  .ret))
def F72 : AFunc := ⟨1, 6, [(.tmp 2)], B72⟩
def R73_0 : ACode := .region [⟨(some 7), (.mov (.t 5)), none, []⟩,
    ⟨(some 8), (.mov (.t 1)), none, []⟩,
    ⟨(some 9), (.bin .quo (.t 7) (.t 8)), none, [0, 1]⟩,
    ⟨(some 10), (.mov (.t 0)), none, []⟩,
    ⟨(some 11), (.bin .and (.t 10) (.c (.int .u64 1))), none, [3]⟩,
    ⟨(some 12), (.bin .or (.t 9) (.t 11)), none, [2, 4]⟩,
    ⟨(some 13), (.mov (.t 5)), none, []⟩,
    ⟨(some 14), (.mov (.t 1)), none, []⟩,
    ⟨(some 15), (.bin .rem (.t 13) (.t 14)), none, [6, 7]⟩,
    ⟨(some 16), (.bin .neq (.t 15) (.c (.int .u64 0))), none, [8]⟩,
    ⟨(some 17), (.call (.f 84) [(.t 16)]), none, [9]⟩,
    ⟨(some 18), (.bin .or (.t 12) (.t 17)), none, [5, 10]⟩,
    ⟨(some 4), (.mov (.t 18)), none, [11, 10, 0, 1, 2, 3, 4, 5, 6, 7, 8, 9, 10, 11]⟩] (some [(0, 1), (0, 3), (1, 3), (2, 3), (0, 4), (1, 4), (2, 4), (0, 6), (1, 6), (2, 6), (3, 6), (4, 6), (5, 6), (0, 7), (1, 7), (2, 7), (3, 7), (4, 7), (5, 7), (6, 7), (0, 8), (1, 8), (2, 8), (3, 8), (4, 8), (5, 8), (0, 9), (1, 9), (2, 9), (3, 9), (4, 9), (5, 9), (0, 10), (1, 10), (2, 10), (3, 10), (4, 10), (5, 10)])
/-- (internal/strconv.unrounded).div -/
def B73 : ACode := (.seq (.region [⟨(some 4), (.mov (.c (.int .u64 0))), none, []⟩] none)
  (.seq (.region [⟨(some 6), (.mov (.t 0)), none, []⟩,
    ⟨(some 5), (.mov (.t 6)), none, []⟩] none)
  (.seq R73_0
  .ret)))
def F73 : AFunc := ⟨2, 19, [(.tmp 4)], B73⟩
def R74_0 : ACode := .region [⟨(some 2), (.mov (.t 0)), none, []⟩,
    ⟨(some 3), (.nilCheck (.t 2)), none, [0]⟩,
    ⟨(some 4), (.fieldAddr 800 (.t 3)), none, [1]⟩,
    ⟨(some 5), (.load none (.t 4)), none, [2]⟩,
    ⟨(some 6), (.bin .gtr (.t 5) (.c (.int .i64 0))), none, [3]⟩,
    ⟨(some 7), (.mov (.t 6)), none, [4]⟩,
    ⟨(some 8), (.mov (.t 0)), (some (7, true)), [5]⟩,
    ⟨(some 9), (.mov (.t 0)), (some (7, true)), [5]⟩,
    ⟨(some 10), (.nilCheck (.t 9)), (some (7, true)), [7, 5]⟩,
    ⟨(some 11), (.fieldAddr 800 (.t 10)), (some (7, true)), [8, 5]⟩,
    ⟨(some 12), (.load none (.t 11)), (some (7, true)), [9, 5]⟩,
    ⟨(some 13), (.bin .sub (.t 12) (.c (.int .i64 1))), (some (7, true)), [10, 5]⟩,
    ⟨(some 14), (.nilCheck (.t 8)), (some (7, true)), [6, 5]⟩,
    ⟨(some 15), (.fieldAddr 0 (.t 14)), (some (7, true)), [12, 5]⟩,
    ⟨(some 16), (.indexArr 1 800 (.t 15) (.t 13)), (some (7, true)), [13, 11, 5]⟩,
    ⟨(some 17), (.load none (.t 16)), (some (7, true)), [14, 5]⟩,
    ⟨(some 18), (.bin .eql (.t 17) (.c (.int .u8 48))), (some (7, true)), [15, 5]⟩,
    ⟨(some 19), (.pick (.t 7) (.t 18) (.c (.bool false))), none, [5, 16]⟩] (some [(6, 7), (6, 8), (6, 9), (6, 10), (6, 11), (7, 12), (8, 12), (9, 12), (10, 12), (11, 12), (7, 13), (8, 13), (9, 13), (10, 13), (11, 13)])
/-- internal/strconv.trim -/
def F74L0 : ACode := (.seq (.seq R74_0
  (.cond (.t 19)
  .skip
  (.exit 0)))
  (.block 1 (.region [⟨(some 20), (.mov (.t 0)), none, []⟩,
    ⟨(some 21), (.nilCheck (.t 20)), none, []⟩,
    ⟨(some 22), (.fieldAddr 800 (.t 21)), none, []⟩,
    ⟨(some 23), (.load none (.t 22)), none, []⟩,
    ⟨(some 24), (.bin .sub (.t 23) (.c (.int .i64 1))), none, []⟩,
    ⟨(some 25), (.nilCheck (.t 20)), none, []⟩,
    ⟨(some 26), (.fieldAddr 800 (.t 25)), none, []⟩,
    ⟨none, (.store 1 (.t 26) (.t 24)), none, []⟩] none)))
def B74 : ACode := (.seq (.block 0 (.loop F74L0))
  (.seq (.region [⟨(some 27), (.mov (.t 0)), none, []⟩,
    ⟨(some 28), (.nilCheck (.t 27)), none, []⟩,
    ⟨(some 29), (.fieldAddr 800 (.t 28)), none, []⟩,
    ⟨(some 30), (.load none (.t 29)), none, []⟩,
    ⟨(some 31), (.bin .eql (.t 30) (.c (.int .i64 0))), none, []⟩] none)
  (.cond (.t 31)
  (.region [⟨(some 32), (.mov (.t 0)), none, []⟩,
    ⟨(some 33), (.nilCheck (.t 32)), none, []⟩,
    ⟨(some 34), (.fieldAddr 801 (.t 33)), none, []⟩,
    ⟨none, (.store 1 (.t 34) (.c (.int .i64 0))), none, []⟩] none)
  .skip)))
def F74 : AFunc := ⟨1, 35, [], B74⟩
-- F74L0 live: [0]
def R75_0 : ACode := .region [⟨(some 17), (.mov (.t 0)), none, []⟩,
    ⟨(some 18), (.nilCheck (.t 17)), none, [0]⟩,
    ⟨(some 19), (.fieldAddr 0 (.t 18)), none, [1]⟩,
    ⟨(some 20), (.mov (.t 0)), none, []⟩,
    ⟨(some 21), (.nilCheck (.t 20)), none, [3]⟩,
    ⟨(some 22), (.fieldAddr 800 (.t 21)), none, [4]⟩,
    ⟨(some 23), (.load none (.t 22)), none, [5]⟩,
    ⟨(some 24), (.sliceArr 1 800 (.t 19) (some (.c (.int .i64 0))) (some (.t 23))), none, [2, 6]⟩,
    ⟨(some 25), (.load none (.g 5)), none, []⟩,
    ⟨(some 26), (.mov (.t 1)), none, []⟩,
    ⟨(some 27), (.indexAddr 2 (.t 25) (.t 26)), none, [8, 9]⟩,
    ⟨(some 28), (.fieldAddr 1 (.t 27)), none, [10]⟩,
    ⟨(some 29), (.load none (.t 28)), none, [11]⟩,
    ⟨(some 30), (.call (.f 85) [(.t 24), (.t 29)]), none, [7, 12]⟩] (some [(0, 3), (1, 3), (2, 3), (0, 4), (1, 4), (2, 4), (0, 5), (1, 5), (2, 5), (0, 6), (1, 6), (2, 6), (0, 8), (1, 8), (2, 8), (3, 8), (4, 8), (5, 8), (6, 8), (7, 8), (0, 9), (1, 9), (2, 9), (3, 9), (4, 9), (5, 9), (6, 9), (7, 9), (8, 9), (0, 10), (1, 10), (2, 10), (3, 10), (4, 10), (5, 10), (6, 10), (7, 10), (0, 11), (1, 11), (2, 11), (3, 11), (4, 11), (5, 11), (6, 11), (7, 11), (0, 12), (1, 12), (2, 12), (3, 12), (4, 12), (5, 12), (6, 12), (7, 12)])
/-- internal/strconv.leftShift -/
def F75L0 : ACode := (.seq (.seq (.region [⟨(some 45), (.mov (.t 5)), none, []⟩,
    ⟨(some 46), (.bin .geq (.t 45) (.c (.int .i64 0))), none, []⟩] none)
  (.cond (.t 46)
  .skip
  (.exit 0)))
  (.seq (.block 1 (.seq (.region [⟨(some 49), (.mov (.t 7)), none, []⟩,
    ⟨(some 50), (.mov (.t 0)), none, []⟩,
    ⟨(some 51), (.mov (.t 5)), none, []⟩,
    ⟨(some 52), (.nilCheck (.t 50)), none, []⟩,
    ⟨(some 53), (.fieldAddr 0 (.t 52)), none, []⟩,
    ⟨(some 54), (.indexArr 1 800 (.t 53) (.t 51)), none, []⟩,
    ⟨(some 55), (.load none (.t 54)), none, []⟩,
    ⟨(some 56), (.conv .u64 (.t 55)), none, []⟩,
    ⟨(some 57), (.bin .sub (.t 56) (.c (.int .u64 48))), none, []⟩,
    ⟨(some 58), (.mov (.t 1)), none, []⟩,
    ⟨(some 59), (.bin .shl (.t 57) (.t 58)), none, []⟩,
    ⟨(some 60), (.bin .add (.t 49) (.t 59)), none, []⟩,
    ⟨(some 7), (.mov (.t 60)), none, []⟩] none)
  (.seq (.region [⟨(some 61), (.mov (.t 7)), none, []⟩,
    ⟨(some 62), (.bin .quo (.t 61) (.c (.int .u64 10))), none, []⟩,
    ⟨(some 8), (.mov (.t 62)), none, []⟩] none)
  (.seq (.region [⟨(some 63), (.mov (.t 7)), none, []⟩,
    ⟨(some 64), (.mov (.t 8)), none, []⟩,
    ⟨(some 65), (.bin .mul (.c (.int .u64 10)) (.t 64)), none, []⟩,
    ⟨(some 66), (.bin .sub (.t 63) (.t 65)), none, []⟩,
    ⟨(some 9), (.mov (.t 66)), none, []⟩] none)
  (.seq (.region [⟨(some 67), (.mov (.t 6)), none, []⟩,
    ⟨(some 68), (.bin .sub (.t 67) (.c (.int .i64 1))), none, []⟩,
    ⟨(some 6), (.mov (.t 68)), none, []⟩] none)
  (.seq (.seq (.region [⟨(some 69), (.mov (.t 6)), none, []⟩,
    ⟨(some 70), (.bin .lss (.t 69) (.c (.int .i64 800))), none, []⟩] none)
  (.cond (.t 70)
  (.region [⟨(some 71), (.mov (.t 0)), none, []⟩,
    ⟨(some 72), (.mov (.t 6)), none, []⟩,
    ⟨(some 73), (.mov (.t 9)), none, []⟩,
    ⟨(some 74), (.bin .add (.t 73) (.c (.int .u64 48))), none, []⟩,
    ⟨(some 75), (.conv .u8 (.t 74)), none, []⟩,
    ⟨(some 76), (.nilCheck (.t 71)), none, []⟩,
    ⟨(some 77), (.fieldAddr 0 (.t 76)), none, []⟩,
    ⟨(some 78), (.indexArr 1 800 (.t 77) (.t 72)), none, []⟩,
    ⟨none, (.store 1 (.t 78) (.t 75)), none, []⟩] none)
  (.seq (.region [⟨(some 79), (.mov (.t 9)), none, []⟩,
    ⟨(some 80), (.bin .neq (.t 79) (.c (.int .u64 0))), none, []⟩] none)
  (.cond (.t 80)
  (.region [⟨(some 81), (.mov (.t 0)), none, []⟩,
    ⟨(some 82), (.nilCheck (.t 81)), none, []⟩,
    ⟨(some 83), (.fieldAddr 803 (.t 82)), none, []⟩,
    ⟨none, (.store 1 (.t 83) (.c (.bool true))), none, []⟩] none)
  .skip))))
  (.region [⟨(some 84), (.mov (.t 8)), none, []⟩,
    ⟨(some 7), (.mov (.t 84)), none, []⟩] none)))))))
  (.region [⟨(some 47), (.mov (.t 5)), none, []⟩,
    ⟨(some 48), (.bin .sub (.t 47) (.c (.int .i64 1))), none, []⟩,
    ⟨(some 5), (.mov (.t 48)), none, []⟩] none)))
def F75L1 : ACode := (.seq (.seq (.region [⟨(some 85), (.mov (.t 7)), none, []⟩,
    ⟨(some 86), (.bin .gtr (.t 85) (.c (.int .u64 0))), none, []⟩] none)
  (.cond (.t 86)
  .skip
  (.exit 2)))
  (.block 3 (.seq (.region [⟨(some 87), (.mov (.t 7)), none, []⟩,
    ⟨(some 88), (.bin .quo (.t 87) (.c (.int .u64 10))), none, []⟩,
    ⟨(some 10), (.mov (.t 88)), none, []⟩] none)
  (.seq (.region [⟨(some 89), (.mov (.t 7)), none, []⟩,
    ⟨(some 90), (.mov (.t 10)), none, []⟩,
    ⟨(some 91), (.bin .mul (.c (.int .u64 10)) (.t 90)), none, []⟩,
    ⟨(some 92), (.bin .sub (.t 89) (.t 91)), none, []⟩,
    ⟨(some 11), (.mov (.t 92)), none, []⟩] none)
  (.seq (.region [⟨(some 93), (.mov (.t 6)), none, []⟩,
    ⟨(some 94), (.bin .sub (.t 93) (.c (.int .i64 1))), none, []⟩,
    ⟨(some 6), (.mov (.t 94)), none, []⟩] none)
  (.seq (.seq (.region [⟨(some 95), (.mov (.t 6)), none, []⟩,
    ⟨(some 96), (.bin .lss (.t 95) (.c (.int .i64 800))), none, []⟩] none)
  (.cond (.t 96)
  (.region [⟨(some 97), (.mov (.t 0)), none, []⟩,
    ⟨(some 98), (.mov (.t 6)), none, []⟩,
    ⟨(some 99), (.mov (.t 11)), none, []⟩,
    ⟨(some 100), (.bin .add (.t 99) (.c (.int .u64 48))), none, []⟩,
    ⟨(some 101), (.conv .u8 (.t 100)), none, []⟩,
    ⟨(some 102), (.nilCheck (.t 97)), none, []⟩,
    ⟨(some 103), (.fieldAddr 0 (.t 102)), none, []⟩,
    ⟨(some 104), (.indexArr 1 800 (.t 103) (.t 98)), none, []⟩,
    ⟨none, (.store 1 (.t 104) (.t 101)), none, []⟩] none)
  (.seq (.region [⟨(some 105), (.mov (.t 11)), none, []⟩,
    ⟨(some 106), (.bin .neq (.t 105) (.c (.int .u64 0))), none, []⟩] none)
  (.cond (.t 106)
  (.region [⟨(some 107), (.mov (.t 0)), none, []⟩,
    ⟨(some 108), (.nilCheck (.t 107)), none, []⟩,
    ⟨(some 109), (.fieldAddr 803 (.t 108)), none, []⟩,
    ⟨none, (.store 1 (.t 109) (.c (.bool true))), none, []⟩] none)
  .skip))))
  (.region [⟨(some 110), (.mov (.t 10)), none, []⟩,
    ⟨(some 7), (.mov (.t 110)), none, []⟩] none)))))))
def B75 : ACode := (.seq (.region [⟨(some 12), (.load none (.g 5)), none, []⟩,
    ⟨(some 13), (.mov (.t 1)), none, []⟩,
    ⟨(some 14), (.indexAddr 2 (.t 12) (.t 13)), none, []⟩,
    ⟨(some 15), (.fieldAddr 0 (.t 14)), none, []⟩,
    ⟨(some 16), (.load none (.t 15)), none, []⟩,
    ⟨(some 4), (.mov (.t 16)), none, []⟩] none)
  (.seq (.seq R75_0
  (.cond (.t 30)
  (.region [⟨(some 31), (.mov (.t 4)), none, []⟩,
    ⟨(some 32), (.bin .sub (.t 31) (.c (.int .i64 1))), none, []⟩,
    ⟨(some 4), (.mov (.t 32)), none, []⟩] none)
  .skip))
  (.seq (.region [⟨(some 33), (.mov (.t 0)), none, []⟩,
    ⟨(some 34), (.nilCheck (.t 33)), none, []⟩,
    ⟨(some 35), (.fieldAddr 800 (.t 34)), none, []⟩,
    ⟨(some 36), (.load none (.t 35)), none, []⟩,
    ⟨(some 5), (.mov (.t 36)), none, []⟩] none)
  (.seq (.region [⟨(some 37), (.mov (.t 0)), none, []⟩,
    ⟨(some 38), (.nilCheck (.t 37)), none, []⟩,
    ⟨(some 39), (.fieldAddr 800 (.t 38)), none, []⟩,
    ⟨(some 40), (.load none (.t 39)), none, []⟩,
    ⟨(some 41), (.mov (.t 4)), none, []⟩,
    ⟨(some 42), (.bin .add (.t 40) (.t 41)), none, []⟩,
    ⟨(some 6), (.mov (.t 42)), none, []⟩] none)
  (.seq (.region [⟨(some 7), (.mov (.c (.int .u64 0))), none, []⟩] none)
  (.seq (.seq (.region [⟨(some 43), (.mov (.t 5)), none, []⟩,
    ⟨(some 44), (.bin .sub (.t 43) (.c (.int .i64 1))), none, []⟩,
    ⟨(some 5), (.mov (.t 44)), none, []⟩] none)
  (.block 0 (.loop F75L0)))
  (.seq (.block 2 (.loop F75L1))
  (.seq (.region [⟨(some 111), (.mov (.t 0)), none, []⟩,
    ⟨(some 112), (.nilCheck (.t 111)), none, []⟩,
    ⟨(some 113), (.fieldAddr 800 (.t 112)), none, []⟩,
    ⟨(some 114), (.load none (.t 113)), none, []⟩,
    ⟨(some 115), (.mov (.t 4)), none, []⟩,
    ⟨(some 116), (.bin .add (.t 114) (.t 115)), none, []⟩,
    ⟨(some 117), (.nilCheck (.t 111)), none, []⟩,
    ⟨(some 118), (.fieldAddr 800 (.t 117)), none, []⟩,
    ⟨none, (.store 1 (.t 118) (.t 116)), none, []⟩] none)
  (.seq (.seq (.region [⟨(some 119), (.mov (.t 0)), none, []⟩,
    ⟨(some 120), (.nilCheck (.t 119)), none, []⟩,
    ⟨(some 121), (.fieldAddr 800 (.t 120)), none, []⟩,
    ⟨(some 122), (.load none (.t 121)), none, []⟩,
    ⟨(some 123), (.bin .geq (.t 122) (.c (.int .i64 800))), none, []⟩] none)
  (.cond (.t 123)
  (.region [⟨(some 124), (.mov (.t 0)), none, []⟩,
    ⟨(some 125), (.nilCheck (.t 124)), none, []⟩,
    ⟨(some 126), (.fieldAddr 800 (.t 125)), none, []⟩,
    ⟨none, (.store 1 (.t 126) (.c (.int .i64 800))), none, []⟩] none)
  .skip))
  (.seq (.region [⟨(some 127), (.mov (.t 0)), none, []⟩,
    ⟨(some 128), (.nilCheck (.t 127)), none, []⟩,
    ⟨(some 129), (.fieldAddr 801 (.t 128)), none, []⟩,
    ⟨(some 130), (.load none (.t 129)), none, []⟩,
    ⟨(some 131), (.mov (.t 4)), none, []⟩,
    ⟨(some 132), (.bin .add (.t 130) (.t 131)), none, []⟩,
    ⟨(some 133), (.nilCheck (.t 127)), none, []⟩,
    ⟨(some 134), (.fieldAddr 801 (.t 133)), none, []⟩,
    ⟨none, (.store 1 (.t 134) (.t 132)), none, []⟩] none)
  (.region [⟨(some 135), (.mov (.t 0)), none, []⟩,
    ⟨(some 136), (.call (.f 74) [(.t 135)]), none, []⟩] none)))))))))))
def F75 : AFunc := ⟨2, 137, [], B75⟩
-- F75L0 live: [0, 1, 4, 5, 6, 7]

-- F75L1 live: [0, 4, 6, 7]
/-- internal/strconv.rightShift -/
def F76L0 : ACode := (.seq (.seq (.region [⟨(some 29), (.mov (.t 6)), none, []⟩,
    ⟨(some 30), (.mov (.t 1)), none, []⟩,
    ⟨(some 31), (.bin .shr (.t 29) (.t 30)), none, []⟩,
    ⟨(some 32), (.bin .eql (.t 31) (.c (.int .u64 0))), none, []⟩] none)
  (.cond (.t 32)
  .skip
  (.exit 2)))
  (.block 3 (.seq (.region [⟨(some 33), (.mov (.t 6)), none, []⟩,
    ⟨(some 34), (.bin .mul (.t 33) (.c (.int .u64 10))), none, []⟩,
    ⟨(some 6), (.mov (.t 34)), none, []⟩] none)
  (.region [⟨(some 35), (.mov (.t 4)), none, []⟩,
    ⟨(some 36), (.bin .add (.t 35) (.c (.int .i64 1))), none, []⟩,
    ⟨(some 4), (.mov (.t 36)), none, []⟩] none))))
def F76L1 : ACode := (.seq (.seq (.region [⟨(some 12), (.mov (.t 6)), none, []⟩,
    ⟨(some 13), (.mov (.t 1)), none, []⟩,
    ⟨(some 14), (.bin .shr (.t 12) (.t 13)), none, []⟩,
    ⟨(some 15), (.bin .eql (.t 14) (.c (.int .u64 0))), none, []⟩] none)
  (.cond (.t 15)
  .skip
  (.exit 0)))
  (.seq (.block 1 (.seq (.seq (.region [⟨(some 18), (.mov (.t 4)), none, []⟩,
    ⟨(some 19), (.mov (.t 0)), none, []⟩,
    ⟨(some 20), (.nilCheck (.t 19)), none, []⟩,
    ⟨(some 21), (.fieldAddr 800 (.t 20)), none, []⟩,
    ⟨(some 22), (.load none (.t 21)), none, []⟩,
    ⟨(some 23), (.bin .geq (.t 18) (.t 22)), none, []⟩] none)
  (.cond (.t 23)
  (.seq (.seq (.region [⟨(some 24), (.mov (.t 6)), none, []⟩,
    ⟨(some 25), (.bin .eql (.t 24) (.c (.int .u64 0))), none, []⟩] none)
  (.cond (.t 25)
  (.seq (.region [⟨(some 26), (.mov (.t 0)), none, []⟩,
    ⟨(some 27), (.nilCheck (.t 26)), none, []⟩,
    ⟨(some 28), (.fieldAddr 800 (.t 27)), none, []⟩,
    ⟨none, (.store 1 (.t 28) (.c (.int .i64 0))), none, []⟩] none)
  .ret)
  .skip))
  (.seq (.block 2 (.loop F76L0))
  (.exit 0)))
  .skip))
  (.seq (.region [⟨(some 37), (.mov (.t 0)), none, []⟩,
    ⟨(some 38), (.mov (.t 4)), none, []⟩,
    ⟨(some 39), (.nilCheck (.t 37)), none, []⟩,
    ⟨(some 40), (.fieldAddr 0 (.t 39)), none, []⟩,
    ⟨(some 41), (.indexArr 1 800 (.t 40) (.t 38)), none, []⟩,
    ⟨(some 42), (.load none (.t 41)), none, []⟩,
    ⟨(some 43), (.conv .u64 (.t 42)), none, []⟩,
    ⟨(some 7), (.mov (.t 43)), none, []⟩] none)
  (.region [⟨(some 44), (.mov (.t 6)), none, []⟩,
    ⟨(some 45), (.bin .mul (.t 44) (.c (.int .u64 10))), none, []⟩,
    ⟨(some 46), (.mov (.t 7)), none, []⟩,
    ⟨(some 47), (.bin .add (.t 45) (.t 46)), none, []⟩,
    ⟨(some 48), (.bin .sub (.t 47) (.c (.int .u64 48))), none, []⟩,
    ⟨(some 6), (.mov (.t 48)), none, []⟩] none))))
  (.region [⟨(some 16), (.mov (.t 4)), none, []⟩,
    ⟨(some 17), (.bin .add (.t 16) (.c (.int .i64 1))), none, []⟩,
    ⟨(some 4), (.mov (.t 17)), none, []⟩] none)))
def F76L2 : ACode := (.seq (.seq (.region [⟨(some 61), (.mov (.t 4)), none, []⟩,
    ⟨(some 62), (.mov (.t 0)), none, []⟩,
    ⟨(some 63), (.nilCheck (.t 62)), none, []⟩,
    ⟨(some 64), (.fieldAddr 800 (.t 63)), none, []⟩,
    ⟨(some 65), (.load none (.t 64)), none, []⟩,
    ⟨(some 66), (.bin .lss (.t 61) (.t 65)), none, []⟩] none)
  (.cond (.t 66)
  .skip
  (.exit 4)))
  (.seq (.block 5 (.seq (.region [⟨(some 69), (.mov (.t 0)), none, []⟩,
    ⟨(some 70), (.mov (.t 4)), none, []⟩,
    ⟨(some 71), (.nilCheck (.t 69)), none, []⟩,
    ⟨(some 72), (.fieldAddr 0 (.t 71)), none, []⟩,
    ⟨(some 73), (.indexArr 1 800 (.t 72) (.t 70)), none, []⟩,
    ⟨(some 74), (.load none (.t 73)), none, []⟩,
    ⟨(some 75), (.conv .u64 (.t 74)), none, []⟩,
    ⟨(some 9), (.mov (.t 75)), none, []⟩] none)
  (.seq (.region [⟨(some 76), (.mov (.t 6)), none, []⟩,
    ⟨(some 77), (.mov (.t 1)), none, []⟩,
    ⟨(some 78), (.bin .shr (.t 76) (.t 77)), none, []⟩,
    ⟨(some 10), (.mov (.t 78)), none, []⟩] none)
  (.seq (.region [⟨(some 79), (.mov (.t 6)), none, []⟩,
    ⟨(some 80), (.mov (.t 8)), none, []⟩,
    ⟨(some 81), (.bin .and (.t 79) (.t 80)), none, []⟩,
    ⟨(some 6), (.mov (.t 81)), none, []⟩] none)
  (.seq (.region [⟨(some 82), (.mov (.t 0)), none, []⟩,
    ⟨(some 83), (.mov (.t 5)), none, []⟩,
    ⟨(some 84), (.mov (.t 10)), none, []⟩,
    ⟨(some 85), (.bin .add (.t 84) (.c (.int .u64 48))), none, []⟩,
    ⟨(some 86), (.conv .u8 (.t 85)), none, []⟩,
    ⟨(some 87), (.nilCheck (.t 82)), none, []⟩,
    ⟨(some 88), (.fieldAddr 0 (.t 87)), none, []⟩,
    ⟨(some 89), (.indexArr 1 800 (.t 88) (.t 83)), none, []⟩,
    ⟨none, (.store 1 (.t 89) (.t 86)), none, []⟩] none)
  (.seq (.region [⟨(some 90), (.mov (.t 5)), none, []⟩,
    ⟨(some 91), (.bin .add (.t 90) (.c (.int .i64 1))), none, []⟩,
    ⟨(some 5), (.mov (.t 91)), none, []⟩] none)
  (.region [⟨(some 92), (.mov (.t 6)), none, []⟩,
    ⟨(some 93), (.bin .mul (.t 92) (.c (.int .u64 10))), none, []⟩,
    ⟨(some 94), (.mov (.t 9)), none, []⟩,
    ⟨(some 95), (.bin .add (.t 93) (.t 94)), none, []⟩,
    ⟨(some 96), (.bin .sub (.t 95) (.c (.int .u64 48))), none, []⟩,
    ⟨(some 6), (.mov (.t 96)), none, []⟩] none)))))))
  (.region [⟨(some 67), (.mov (.t 4)), none, []⟩,
    ⟨(some 68), (.bin .add (.t 67) (.c (.int .i64 1))), none, []⟩,
    ⟨(some 4), (.mov (.t 68)), none, []⟩] none)))
def F76L3 : ACode := (.seq (.seq (.region [⟨(some 97), (.mov (.t 6)), none, []⟩,
    ⟨(some 98), (.bin .gtr (.t 97) (.c (.int .u64 0))), none, []⟩] none)
  (.cond (.t 98)
  .skip
  (.exit 6)))
  (.block 7 (.seq (.region [⟨(some 99), (.mov (.t 6)), none, []⟩,
    ⟨(some 100), (.mov (.t 1)), none, []⟩,
    ⟨(some 101), (.bin .shr (.t 99) (.t 100)), none, []⟩,
    ⟨(some 11), (.mov (.t 101)), none, []⟩] none)
  (.seq (.region [⟨(some 102), (.mov (.t 6)), none, []⟩,
    ⟨(some 103), (.mov (.t 8)), none, []⟩,
    ⟨(some 104), (.bin .and (.t 102) (.t 103)), none, []⟩,
    ⟨(some 6), (.mov (.t 104)), none, []⟩] none)
  (.seq (.seq (.region [⟨(some 105), (.mov (.t 5)), none, []⟩,
    ⟨(some 106), (.bin .lss (.t 105) (.c (.int .i64 800))), none, []⟩] none)
  (.cond (.t 106)
  (.seq (.region [⟨(some 107), (.mov (.t 0)), none, []⟩,
    ⟨(some 108), (.mov (.t 5)), none, []⟩,
    ⟨(some 109), (.mov (.t 11)), none, []⟩,
    ⟨(some 110), (.bin .add (.t 109) (.c (.int .u64 48))), none, []⟩,
    ⟨(some 111), (.conv .u8 (.t 110)), none, []⟩,
    ⟨(some 112), (.nilCheck (.t 107)), none, []⟩,
    ⟨(some 113), (.fieldAddr 0 (.t 112)), none, []⟩,
    ⟨(some 114), (.indexArr 1 800 (.t 113) (.t 108)), none, []⟩,
    ⟨none, (.store 1 (.t 114) (.t 111)), none, []⟩] none)
  (.region [⟨(some 115), (.mov (.t 5)), none, []⟩,
    ⟨(some 116), (.bin .add (.t 115) (.c (.int .i64 1))), none, []⟩,
    ⟨(some 5), (.mov (.t 116)), none, []⟩] none))
  (.seq (.region [⟨(some 117), (.mov (.t 11)), none, []⟩,
    ⟨(some 118), (.bin .gtr (.t 117) (.c (.int .u64 0))), none, []⟩] none)
  (.cond (.t 118)
  (.region [⟨(some 119), (.mov (.t 0)), none, []⟩,
    ⟨(some 120), (.nilCheck (.t 119)), none, []⟩,
    ⟨(some 121), (.fieldAddr 803 (.t 120)), none, []⟩,
    ⟨none, (.store 1 (.t 121) (.c (.bool true))), none, []⟩] none)
  .skip))))
  (.region [⟨(some 122), (.mov (.t 6)), none, []⟩,
    ⟨(some 123), (.bin .mul (.t 122) (.c (.int .u64 10))), none, []⟩,
    ⟨(some 6), (.mov (.t 123)), none, []⟩] none))))))
def B76 : ACode := (.seq (.region [⟨(some 4), (.mov (.c (.int .i64 0))), none, []⟩] none)
  (.seq (.region [⟨(some 5), (.mov (.c (.int .i64 0))), none, []⟩] none)
  (.seq (.region [⟨(some 6), (.mov (.c (.int .u64 0))), none, []⟩] none)
  (.seq (.block 0 (.loop F76L1))
  (.seq (.region [⟨(some 49), (.mov (.t 0)), none, []⟩,
    ⟨(some 50), (.nilCheck (.t 49)), none, []⟩,
    ⟨(some 51), (.fieldAddr 801 (.t 50)), none, []⟩,
    ⟨(some 52), (.load none (.t 51)), none, []⟩,
    ⟨(some 53), (.mov (.t 4)), none, []⟩,
    ⟨(some 54), (.bin .sub (.t 53) (.c (.int .i64 1))), none, []⟩,
    ⟨(some 55), (.bin .sub (.t 52) (.t 54)), none, []⟩,
    ⟨(some 56), (.nilCheck (.t 49)), none, []⟩,
    ⟨(some 57), (.fieldAddr 801 (.t 56)), none, []⟩,
    ⟨none, (.store 1 (.t 57) (.t 55)), none, []⟩] none)
  (.seq (.region [⟨(some 58), (.mov (.t 1)), none, []⟩,
    ⟨(some 59), (.bin .shl (.c (.int .u64 1)) (.t 58)), none, []⟩,
    ⟨(some 60), (.bin .sub (.t 59) (.c (.int .u64 1))), none, []⟩,
    ⟨(some 8), (.mov (.t 60)), none, []⟩] none)
  (.seq (.block 4 (.loop F76L2))
  (.seq (.block 6 (.loop F76L3))
  (.seq (.region [⟨(some 124), (.mov (.t 0)), none, []⟩,
    ⟨(some 125), (.mov (.t 5)), none, []⟩,
    ⟨(some 126), (.nilCheck (.t 124)), none, []⟩,
    ⟨(some 127), (.fieldAddr 800 (.t 126)), none, []⟩,
    ⟨none, (.store 1 (.t 127) (.t 125)), none, []⟩] none)
  (.region [⟨(some 128), (.mov (.t 0)), none, []⟩,
    ⟨(some 129), (.call (.f 74) [(.t 128)]), none, []⟩] none))))))))))
def F76 : AFunc := ⟨2, 130, [], B76⟩
-- F76L0 live: [0, 1, 4, 5, 6]

-- F76L1 live: [0, 1, 4, 5, 6]

-- F76L2 live: [0, 1, 4, 5, 6, 8]

-- F76L3 live: [0, 1, 5, 6, 8]
/-- internal/strconv.shouldRoundUp -/
def B77 : ACode := (.seq (.region [⟨(some 4), (.mov (.c (.bool false))), none, []⟩] none)
  (.seq (.seq (.region [⟨(some 5), (.mov (.t 1)), none, []⟩,
    ⟨(some 6), (.bin .lss (.t 5) (.c (.int .i64 0))), none, []⟩,
    ⟨(some 7), (.mov (.t 6)), none, []⟩,
    ⟨(some 8), (.mov (.t 1)), (some (7, false)), []⟩,
    ⟨(some 9), (.mov (.t 0)), (some (7, false)), []⟩,
    ⟨(some 10), (.nilCheck (.t 9)), (some (7, false)), []⟩,
    ⟨(some 11), (.fieldAddr 800 (.t 10)), (some (7, false)), []⟩,
    ⟨(some 12), (.load none (.t 11)), (some (7, false)), []⟩,
    ⟨(some 13), (.bin .geq (.t 8) (.t 12)), (some (7, false)), []⟩,
    ⟨(some 14), (.pick (.t 7) (.c (.bool true)) (.t 13)), none, []⟩] none)
  (.cond (.t 14)
  (.seq (.region [⟨(some 4), (.mov (.c (.bool false))), none, []⟩] none)
  .ret)
  .skip))
  (.seq (.seq (.region [⟨(some 15), (.mov (.t 0)), none, []⟩,
    ⟨(some 16), (.mov (.t 1)), none, []⟩,
    ⟨(some 17), (.nilCheck (.t 15)), none, []⟩,
    ⟨(some 18), (.fieldAddr 0 (.t 17)), none, []⟩,
    ⟨(some 19), (.indexArr 1 800 (.t 18) (.t 16)), none, []⟩,
    ⟨(some 20), (.load none (.t 19)), none, []⟩,
    ⟨(some 21), (.bin .eql (.t 20) (.c (.int .u8 53))), none, []⟩,
    ⟨(some 22), (.mov (.t 21)), none, []⟩,
    ⟨(some 23), (.mov (.t 1)), (some (22, true)), []⟩,
    ⟨(some 24), (.bin .add (.t 23) (.c (.int .i64 1))), (some (22, true)), []⟩,
    ⟨(some 25), (.mov (.t 0)), (some (22, true)), []⟩,
    ⟨(some 26), (.nilCheck (.t 25)), (some (22, true)), []⟩,
    ⟨(some 27), (.fieldAddr 800 (.t 26)), (some (22, true)), []⟩,
    ⟨(some 28), (.load none (.t 27)), (some (22, true)), []⟩,
    ⟨(some 29), (.bin .eql (.t 24) (.t 28)), (some (22, true)), []⟩,
    ⟨(some 30), (.pick (.t 22) (.t 29) (.c (.bool false))), none, []⟩] none)
  (.cond (.t 30)
  (.seq (.seq (.region [⟨(some 31), (.mov (.t 0)), none, []⟩,
    ⟨(some 32), (.nilCheck (.t 31)), none, []⟩,
    ⟨(some 33), (.fieldAddr 803 (.t 32)), none, []⟩,
    ⟨(some 34), (.load none (.t 33)), none, []⟩] none)
  (.cond (.t 34)
  (.seq (.region [⟨(some 4), (.mov (.c (.bool true))), none, []⟩] none)
  .ret)
  .skip))
  (.seq (.region [⟨(some 35), (.mov (.t 1)), none, []⟩,
    ⟨(some 36), (.bin .gtr (.t 35) (.c (.int .i64 0))), none, []⟩,
    ⟨(some 37), (.mov (.t 36)), none, []⟩,
    ⟨(some 38), (.mov (.t 0)), (some (37, true)), []⟩,
    ⟨(some 39), (.mov (.t 1)), (some (37, true)), []⟩,
    ⟨(some 40), (.bin .sub (.t 39) (.c (.int .i64 1))), (some (37, true)), []⟩,
    ⟨(some 41), (.nilCheck (.t 38)), (some (37, true)), []⟩,
    ⟨(some 42), (.fieldAddr 0 (.t 41)), (some (37, true)), []⟩,
    ⟨(some 43), (.indexArr 1 800 (.t 42) (.t 40)), (some (37, true)), []⟩,
    ⟨(some 44), (.load none (.t 43)), (some (37, true)), []⟩,
    ⟨(some 45), (.bin .sub (.t 44) (.c (.int .u8 48))), (some (37, true)), []⟩,
    ⟨(some 46), (.bin .rem (.t 45) (.c (.int .u8 2))), (some (37, true)), []⟩,
    ⟨(some 47), (.bin .neq (.t 46) (.c (.int .u8 0))), (some (37, true)), []⟩,
    ⟨(some 48), (.pick (.t 37) (.t 47) (.c (.bool false))), none, []⟩,
    ⟨(some 4), (.mov (.t 48)), none, []⟩] none)
  .ret))
  .skip))
  (.seq (.region [⟨(some 49), (.mov (.t 0)), none, []⟩,
    ⟨(some 50), (.mov (.t 1)), none, []⟩,
    ⟨(some 51), (.nilCheck (.t 49)), none, []⟩,
    ⟨(some 52), (.fieldAddr 0 (.t 51)), none, []⟩,
    ⟨(some 53), (.indexArr 1 800 (.t 52) (.t 50)), none, []⟩,
    ⟨(some 54), (.load none (.t 53)), none, []⟩,
    ⟨(some 55), (.bin .geq (.t 54) (.c (.int .u8 53))), none, []⟩,
    ⟨(some 4), (.mov (.t 55)), none, []⟩] none)
  .ret))))
def F77 : AFunc := ⟨2, 56, [(.tmp 4)], B77⟩
def R78_0 : ACode := .region [⟨(some 30), (.mov (.t 0)), none, []⟩,
    ⟨(some 31), (.mov (.t 4)), none, []⟩,
    ⟨(some 32), (.nilCheck (.t 30)), none, [0]⟩,
    ⟨(some 33), (.fieldAddr 0 (.t 32)), none, [2]⟩,
    ⟨(some 34), (.indexArr 1 800 (.t 33) (.t 31)), none, [3, 1]⟩,
    ⟨(some 35), (.load none (.t 34)), none, [4]⟩,
    ⟨(some 36), (.bin .add (.t 35) (.c (.int .u8 1))), none, [5]⟩,
    ⟨(some 37), (.nilCheck (.t 30)), none, [0]⟩,
    ⟨(some 38), (.fieldAddr 0 (.t 37)), none, [7]⟩,
    ⟨(some 39), (.indexArr 1 800 (.t 38) (.t 31)), none, [8, 1, 0, 1, 2, 3, 4, 5, 6]⟩,
    ⟨none, (.store 1 (.t 39) (.t 36)), none, [9, 6, 0, 1, 2, 3, 4, 5, 6]⟩] (some [(0, 1), (1, 2), (1, 3), (1, 7), (2, 7), (3, 7), (4, 7), (5, 7), (6, 7), (1, 8), (2, 8), (3, 8), (4, 8), (5, 8), (6, 8)])
/-- (*internal/strconv.decimal).RoundUp -/
def F78L0 : ACode := (.seq (.seq (.region [⟨(some 18), (.mov (.t 4)), none, []⟩,
    ⟨(some 19), (.bin .geq (.t 18) (.c (.int .i64 0))), none, []⟩] none)
  (.cond (.t 19)
  .skip
  (.exit 0)))
  (.seq (.block 1 (.seq (.region [⟨(some 22), (.mov (.t 0)), none, []⟩,
    ⟨(some 23), (.mov (.t 4)), none, []⟩,
    ⟨(some 24), (.nilCheck (.t 22)), none, []⟩,
    ⟨(some 25), (.fieldAddr 0 (.t 24)), none, []⟩,
    ⟨(some 26), (.indexArr 1 800 (.t 25) (.t 23)), none, []⟩,
    ⟨(some 27), (.load none (.t 26)), none, []⟩,
    ⟨(some 5), (.mov (.t 27)), none, []⟩] none)
  (.seq (.region [⟨(some 28), (.mov (.t 5)), none, []⟩,
    ⟨(some 29), (.bin .lss (.t 28) (.c (.int .u8 57))), none, []⟩] none)
  (.cond (.t 29)
  (.seq R78_0
  (.seq (.region [⟨(some 40), (.mov (.t 0)), none, []⟩,
    ⟨(some 41), (.mov (.t 4)), none, []⟩,
    ⟨(some 42), (.bin .add (.t 41) (.c (.int .i64 1))), none, []⟩,
    ⟨(some 43), (.nilCheck (.t 40)), none, []⟩,
    ⟨(some 44), (.fieldAddr 800 (.t 43)), none, []⟩,
    ⟨none, (.store 1 (.t 44) (.t 42)), none, []⟩] none)
  .ret))
  .skip))))
  (.region [⟨(some 20), (.mov (.t 4)), none, []⟩,
    ⟨(some 21), (.bin .sub (.t 20) (.c (.int .i64 1))), none, []⟩,
    ⟨(some 4), (.mov (.t 21)), none, []⟩] none)))
def B78 : ACode := (.seq (.seq (.region [⟨(some 6), (.mov (.t 1)), none, []⟩,
    ⟨(some 7), (.bin .lss (.t 6) (.c (.int .i64 0))), none, []⟩,
    ⟨(some 8), (.mov (.t 7)), none, []⟩,
    ⟨(some 9), (.mov (.t 1)), (some (8, false)), []⟩,
    ⟨(some 10), (.mov (.t 0)), (some (8, false)), []⟩,
    ⟨(some 11), (.nilCheck (.t 10)), (some (8, false)), []⟩,
    ⟨(some 12), (.fieldAddr 800 (.t 11)), (some (8, false)), []⟩,
    ⟨(some 13), (.load none (.t 12)), (some (8, false)), []⟩,
    ⟨(some 14), (.bin .geq (.t 9) (.t 13)), (some (8, false)), []⟩,
    ⟨(some 15), (.pick (.t 8) (.c (.bool true)) (.t 14)), none, []⟩] none)
  (.cond (.t 15)
  .ret
  .skip))
  (.seq (.seq (.region [⟨(some 16), (.mov (.t 1)), none, []⟩,
    ⟨(some 17), (.bin .sub (.t 16) (.c (.int .i64 1))), none, []⟩,
    ⟨(some 4), (.mov (.t 17)), none, []⟩] none)
  (.block 0 (.loop F78L0)))
  (.seq (.region [⟨(some 45), (.mov (.t 0)), none, []⟩,
    ⟨(some 46), (.nilCheck (.t 45)), none, []⟩,
    ⟨(some 47), (.fieldAddr 0 (.t 46)), none, []⟩,
    ⟨(some 48), (.indexArr 1 800 (.t 47) (.c (.int .i64 0))), none, []⟩,
    ⟨none, (.store 1 (.t 48) (.c (.int .u8 49))), none, []⟩] none)
  (.seq (.region [⟨(some 49), (.mov (.t 0)), none, []⟩,
    ⟨(some 50), (.nilCheck (.t 49)), none, []⟩,
    ⟨(some 51), (.fieldAddr 800 (.t 50)), none, []⟩,
    ⟨none, (.store 1 (.t 51) (.c (.int .i64 1))), none, []⟩] none)
  (.region [⟨(some 52), (.mov (.t 0)), none, []⟩,
    ⟨(some 53), (.nilCheck (.t 52)), none, []⟩,
    ⟨(some 54), (.fieldAddr 801 (.t 53)), none, []⟩,
    ⟨(some 55), (.load none (.t 54)), none, []⟩,
    ⟨(some 56), (.bin .add (.t 55) (.c (.int .i64 1))), none, []⟩,
    ⟨(some 57), (.nilCheck (.t 52)), none, []⟩,
    ⟨(some 58), (.fieldAddr 801 (.t 57)), none, []⟩,
    ⟨none, (.store 1 (.t 58) (.t 56)), none, []⟩] none)))))
def F78 : AFunc := ⟨2, 59, [], B78⟩
-- F78L0 live: [0, 4]
/-- (*internal/strconv.decimal).RoundDown -/
def B79 : ACode := (.seq (.seq (.region [⟨(some 4), (.mov (.t 1)), none, []⟩,
    ⟨(some 5), (.bin .lss (.t 4) (.c (.int .i64 0))), none, []⟩,
    ⟨(some 6), (.mov (.t 5)), none, []⟩,
    ⟨(some 7), (.mov (.t 1)), (some (6, false)), []⟩,
    ⟨(some 8), (.mov (.t 0)), (some (6, false)), []⟩,
    ⟨(some 9), (.nilCheck (.t 8)), (some (6, false)), []⟩,
    ⟨(some 10), (.fieldAddr 800 (.t 9)), (some (6, false)), []⟩,
    ⟨(some 11), (.load none (.t 10)), (some (6, false)), []⟩,
    ⟨(some 12), (.bin .geq (.t 7) (.t 11)), (some (6, false)), []⟩,
    ⟨(some 13), (.pick (.t 6) (.c (.bool true)) (.t 12)), none, []⟩] none)
  (.cond (.t 13)
  .ret
  .skip))
  (.seq (.region [⟨(some 14), (.mov (.t 0)), none, []⟩,
    ⟨(some 15), (.mov (.t 1)), none, []⟩,
    ⟨(some 16), (.nilCheck (.t 14)), none, []⟩,
    ⟨(some 17), (.fieldAddr 800 (.t 16)), none, []⟩,
    ⟨none, (.store 1 (.t 17) (.t 15)), none, []⟩] none)
  (.region [⟨(some 18), (.mov (.t 0)), none, []⟩,
    ⟨(some 19), (.call (.f 74) [(.t 18)]), none, []⟩] none)))
def F79 : AFunc := ⟨2, 20, [], B79⟩
/-- math/bits.Mul64 -/
def B82 : ACode := (.seq (.region [⟨(some 4), (.mov (.c (.int .u64 0))), none, []⟩,
    ⟨(some 5), (.mov (.c (.int .u64 0))), none, []⟩] none)
  (.seq (.region [⟨(some 14), (.mov (.t 0)), none, []⟩,
    ⟨(some 15), (.bin .and (.t 14) (.c (.int .u64 4294967295))), none, []⟩,
    ⟨(some 6), (.mov (.t 15)), none, []⟩] none)
  (.seq (.region [⟨(some 16), (.mov (.t 0)), none, []⟩,
    ⟨(some 17), (.bin .shr (.t 16) (.c (.int .u64 32))), none, []⟩,
    ⟨(some 7), (.mov (.t 17)), none, []⟩] none)
  (.seq (.region [⟨(some 18), (.mov (.t 1)), none, []⟩,
    ⟨(some 19), (.bin .and (.t 18) (.c (.int .u64 4294967295))), none, []⟩,
    ⟨(some 8), (.mov (.t 19)), none, []⟩] none)
  (.seq (.region [⟨(some 20), (.mov (.t 1)), none, []⟩,
    ⟨(some 21), (.bin .shr (.t 20) (.c (.int .u64 32))), none, []⟩,
    ⟨(some 9), (.mov (.t 21)), none, []⟩] none)
  (.seq (.region [⟨(some 22), (.mov (.t 6)), none, []⟩,
    ⟨(some 23), (.mov (.t 8)), none, []⟩,
    ⟨(some 24), (.bin .mul (.t 22) (.t 23)), none, []⟩,
    ⟨(some 10), (.mov (.t 24)), none, []⟩] none)
  (.seq (.region [⟨(some 25), (.mov (.t 7)), none, []⟩,
    ⟨(some 26), (.mov (.t 8)), none, []⟩,
    ⟨(some 27), (.bin .mul (.t 25) (.t 26)), none, []⟩,
    ⟨(some 28), (.mov (.t 10)), none, []⟩,
    ⟨(some 29), (.bin .shr (.t 28) (.c (.int .u64 32))), none, []⟩,
    ⟨(some 30), (.bin .add (.t 27) (.t 29)), none, []⟩,
    ⟨(some 11), (.mov (.t 30)), none, []⟩] none)
  (.seq (.region [⟨(some 31), (.mov (.t 11)), none, []⟩,
    ⟨(some 32), (.bin .and (.t 31) (.c (.int .u64 4294967295))), none, []⟩,
    ⟨(some 12), (.mov (.t 32)), none, []⟩] none)
  (.seq (.region [⟨(some 33), (.mov (.t 11)), none, []⟩,
    ⟨(some 34), (.bin .shr (.t 33) (.c (.int .u64 32))), none, []⟩,
    ⟨(some 13), (.mov (.t 34)), none, []⟩] none)
  (.seq (.region [⟨(some 35), (.mov (.t 12)), none, []⟩,
    ⟨(some 36), (.mov (.t 6)), none, []⟩,
    ⟨(some 37), (.mov (.t 9)), none, []⟩,
    ⟨(some 38), (.bin .mul (.t 36) (.t 37)), none, []⟩,
    ⟨(some 39), (.bin .add (.t 35) (.t 38)), none, []⟩,
    ⟨(some 12), (.mov (.t 39)), none, []⟩] none)
  (.seq (.region [⟨(some 40), (.mov (.t 7)), none, []⟩,
    ⟨(some 41), (.mov (.t 9)), none, []⟩,
    ⟨(some 42), (.bin .mul (.t 40) (.t 41)), none, []⟩,
    ⟨(some 43), (.mov (.t 13)), none, []⟩,
    ⟨(some 44), (.bin .add (.t 42) (.t 43)), none, []⟩,
    ⟨(some 45), (.mov (.t 12)), none, []⟩,
    ⟨(some 46), (.bin .shr (.t 45) (.c (.int .u64 32))), none, []⟩,
    ⟨(some 47), (.bin .add (.t 44) (.t 46)), none, []⟩,
    ⟨(some 4), (.mov (.t 47)), none, []⟩] none)
  (.seq (.region [⟨(some 48), (.mov (.t 0)), none, []⟩,
    ⟨(some 49), (.mov (.t 1)), none, []⟩,
    ⟨(some 50), (.bin .mul (.t 48) (.t 49)), none, []⟩,
    ⟨(some 5), (.mov (.t 50)), none, []⟩] none)
  .ret))))))))))))
def F82 : AFunc := ⟨2, 51, [(.tmp 4), (.tmp 5)], B82⟩
/-- internal/strconv.bool2[uint64] -/
def B83 : ACode := (.seq (.region [⟨(some 2), (.mov (.c (.int .u64 0))), none, []⟩] none)
  (.seq (.seq (.region [⟨(some 3), (.mov (.t 0)), none, []⟩] none)
  (.cond (.t 3)
  (.seq (.region [⟨(some 2), (.mov (.c (.int .u64 1))), none, []⟩] none)
  .ret)
  .skip))
  (.seq (.region [⟨(some 2), (.mov (.c (.int .u64 0))), none, []⟩] none)
  .ret)))
def F83 : AFunc := ⟨1, 4, [(.tmp 2)], B83⟩
/-- internal/strconv.bool2[internal/strconv.unrounded] -/
def B84 : ACode := (.seq (.region [⟨(some 2), (.mov (.c (.int .u64 0))), none, []⟩] none)
  (.seq (.seq (.region [⟨(some 3), (.mov (.t 0)), none, []⟩] none)
  (.cond (.t 3)
  (.seq (.region [⟨(some 2), (.mov (.c (.int .u64 1))), none, []⟩] none)
  .ret)
  .skip))
  (.seq (.region [⟨(some 2), (.mov (.c (.int .u64 0))), none, []⟩] none)
  .ret)))
def F84 : AFunc := ⟨1, 4, [(.tmp 2)], B84⟩
def R85_0 : ACode := .region [⟨(some 16), (.mov (.t 0)), none, []⟩,
    ⟨(some 17), (.mov (.t 5)), none, []⟩,
    ⟨(some 18), (.indexAddr 1 (.t 16) (.t 17)), none, [0, 1]⟩,
    ⟨(some 19), (.load none (.t 18)), none, [2]⟩,
    ⟨(some 20), (.mov (.t 1)), none, []⟩,
    ⟨(some 21), (.mov (.t 5)), none, []⟩,
    ⟨(some 22), (.indexStr (.t 20) (.t 21)), none, [4, 5]⟩,
    ⟨(some 23), (.bin .neq (.t 19) (.t 22)), none, [3, 6]⟩] (some [(0, 1), (0, 4), (1, 4), (2, 4), (3, 4), (0, 5), (1, 5), (2, 5), (3, 5), (4, 5), (0, 6), (1, 6), (2, 6), (3, 6)])
def R85_1 : ACode := .region [⟨(some 24), (.mov (.t 0)), none, []⟩,
    ⟨(some 25), (.mov (.t 5)), none, []⟩,
    ⟨(some 26), (.indexAddr 1 (.t 24) (.t 25)), none, [0, 1]⟩,
    ⟨(some 27), (.load none (.t 26)), none, [2]⟩,
    ⟨(some 28), (.mov (.t 1)), none, []⟩,
    ⟨(some 29), (.mov (.t 5)), none, []⟩,
    ⟨(some 30), (.indexStr (.t 28) (.t 29)), none, [4, 5]⟩,
    ⟨(some 31), (.bin .lss (.t 27) (.t 30)), none, [3, 6]⟩,
    ⟨(some 4), (.mov (.t 31)), none, [7, 0, 1, 2, 3, 4, 5, 6, 7]⟩] (some [(0, 1), (0, 4), (1, 4), (2, 4), (3, 4), (0, 5), (1, 5), (2, 5), (3, 5), (4, 5), (0, 6), (1, 6), (2, 6), (3, 6)])
/-- internal/strconv.prefixIsLessThan -/
def F85L0 : ACode := (.seq (.seq (.region [⟨(some 6), (.mov (.t 5)), none, []⟩,
    ⟨(some 7), (.mov (.t 1)), none, []⟩,
    ⟨(some 8), (.lenStr (.t 7)), none, []⟩,
    ⟨(some 9), (.bin .lss (.t 6) (.t 8)), none, []⟩] none)
  (.cond (.t 9)
  .skip
  (.exit 0)))
  (.seq (.block 1 (.seq (.seq (.region [⟨(some 12), (.mov (.t 5)), none, []⟩,
    ⟨(some 13), (.mov (.t 0)), none, []⟩,
    ⟨(some 14), (.lenSlice (.t 13)), none, []⟩,
    ⟨(some 15), (.bin .geq (.t 12) (.t 14)), none, []⟩] none)
  (.cond (.t 15)
  (.seq (.region [⟨(some 4), (.mov (.c (.bool true))), none, []⟩] none)
  .ret)
  .skip))
  (.seq R85_0
  (.cond (.t 23)
  (.seq R85_1
  .ret)
  .skip))))
  (.region [⟨(some 10), (.mov (.t 5)), none, []⟩,
    ⟨(some 11), (.bin .add (.t 10) (.c (.int .i64 1))), none, []⟩,
    ⟨(some 5), (.mov (.t 11)), none, []⟩] none)))
def B85 : ACode := (.seq (.region [⟨(some 4), (.mov (.c (.bool false))), none, []⟩] none)
  (.seq (.seq (.region [⟨(some 5), (.mov (.c (.int .i64 0))), none, []⟩] none)
  (.block 0 (.loop F85L0)))
  (.seq (.region [⟨(some 4), (.mov (.c (.bool false))), none, []⟩] none)
  .ret)))
def F85 : AFunc := ⟨2, 32, [(.tmp 4)], B85⟩
-- F85L0 live: [0, 1, 5]
def fs11 : FT := (.node 40 F40 (.node 21 F21 (.node 12 F12 (.node 7 F7 (.node 5 F5 (.node 4 F4 (.node 3 F3 .leaf .leaf) .leaf) (.node 6 F6 .leaf .leaf)) (.node 10 F10 (.node 9 F9 .leaf .leaf) (.node 11 F11 .leaf .leaf))) (.node 17 F17 (.node 15 F15 (.node 14 F14 (.node 13 F13 .leaf .leaf) .leaf) (.node 16 F16 .leaf .leaf)) (.node 19 F19 (.node 18 F18 .leaf .leaf) (.node 20 F20 .leaf .leaf)))) (.node 30 F30 (.node 26 F26 (.node 24 F24 (.node 23 F23 (.node 22 F22 .leaf .leaf) .leaf) (.node 25 F25 .leaf .leaf)) (.node 28 F28 (.node 27 F27 .leaf .leaf) (.node 29 F29 .leaf .leaf))) (.node 36 F36 (.node 34 F34 (.node 33 F33 (.node 32 F32 .leaf .leaf) .leaf) (.node 35 F35 .leaf .leaf)) (.node 38 F38 (.node 37 F37 .leaf .leaf) (.node 39 F39 .leaf .leaf))))) (.node 67 F67 (.node 55 F55 (.node 51 F51 (.node 48 F48 (.node 43 F43 (.node 41 F41 .leaf .leaf) .leaf) (.node 49 F49 .leaf .leaf)) (.node 53 F53 (.node 52 F52 .leaf .leaf) (.node 54 F54 .leaf .leaf))) (.node 63 F63 (.node 58 F58 (.node 57 F57 (.node 56 F56 .leaf .leaf) .leaf) (.node 62 F62 .leaf .leaf)) (.node 65 F65 (.node 64 F64 .leaf .leaf) (.node 66 F66 .leaf .leaf)))) (.node 76 F76 (.node 72 F72 (.node 70 F70 (.node 69 F69 (.node 68 F68 .leaf .leaf) .leaf) (.node 71 F71 .leaf .leaf)) (.node 74 F74 (.node 73 F73 .leaf .leaf) (.node 75 F75 .leaf .leaf))) (.node 82 F82 (.node 78 F78 (.node 77 F77 .leaf .leaf) (.node 79 F79 .leaf .leaf)) (.node 84 F84 (.node 83 F83 .leaf .leaf) (.node 85 F85 .leaf .leaf))))))
def ps11 : List (Nat × Prim) := [(31, .toBits), (8, .fromBits), (45, .toBits)]
end
end Go.Proofs.YtkdpjaaohddppaaDoor.Am
