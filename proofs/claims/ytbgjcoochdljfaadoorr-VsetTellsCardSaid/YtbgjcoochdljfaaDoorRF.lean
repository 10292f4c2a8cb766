/- The functions of the program, printed by a program of ours as code of the abstract machine (F); that they are is proved in the next text. -/
import Derived.Test.YtbgjcoochdljfaaDoorRD
namespace Go.Proofs.YtbgjcoochdljfaaDoorR.Am
noncomputable section
def R3_0 : ACode := .region [⟨(some 30), (.mov (.t 10)), none, []⟩,
    ⟨(some 31), (.bin .neq (.t 30) (.c (.int .i64 0))), none, [0]⟩,
    ⟨(some 32), (.mov (.t 31)), none, [1]⟩,
    ⟨(some 33), (.load (some 64) (.t 9)), (some (32, false)), [2]⟩,
    ⟨(some 34), (.load (some 64) (.t 7)), (some (32, false)), [2]⟩,
    ⟨(some 35), (.eqAgg true (List.replicate 64 .int) (.t 33) (.t 34)), (some (32, false)), [3, 4, 2]⟩,
    ⟨(some 36), (.pick (.t 32) (.c (.bool true)) (.t 35)), none, [2, 5]⟩,
    ⟨(some 37), (.mov (.t 36)), none, [6, 2]⟩,
    ⟨(some 38), (.load (some 64) (.t 7)), (some (37, false)), [7]⟩,
    ⟨(some 39), (.load (some 64) (.t 8)), (some (37, false)), [7]⟩,
    ⟨(some 40), (.eqAgg false (List.replicate 64 .int) (.t 38) (.t 39)), (some (37, false)), [8, 9, 7]⟩,
    ⟨(some 41), (.load (some 64) (.t 7)), (some (37, false)), [7]⟩,
    ⟨(some 42), (.call (.f 9) [(.t 41)]), (some (37, false)), [11, 7, 7]⟩,
    ⟨(some 43), (.load (some 64) (.t 8)), (some (37, false)), [7]⟩,
    ⟨(some 44), (.call (.f 9) [(.t 43)]), (some (37, false)), [13, 12, 7]⟩,
    ⟨(some 45), (.bin .eql (.t 42) (.t 44)), (some (37, false)), [12, 14, 7]⟩,
    ⟨(some 46), (.eqv true .bool false (.t 40) (.t 45)), (some (37, false)), [10, 15, 7]⟩,
    ⟨(some 47), (.pick (.t 37) (.c (.bool true)) (.t 46)), none, [7, 16]⟩] (some [(3, 4), (8, 9), (8, 11), (9, 11), (10, 11), (8, 12), (9, 12), (10, 12), (8, 13), (9, 13), (10, 13), (11, 13), (12, 13), (8, 14), (9, 14), (10, 14), (8, 15), (9, 15), (10, 15)])
/-- toll/tolllaw14.VsetOnce -/
def F3L0 : ACode := (.seq (.region [⟨(some 52), (.bin .lss (.t 51) (.t 50)), none, []⟩] none)
  (.seq (.cond (.t 52)
  .skip
  (.exit 0))
  (.seq (.block 1 (.seq (.region [⟨(some 53), (.indexAddr 2 (.t 49) (.t 51)), none, []⟩,
    ⟨(some 54), (.load (some 2) (.t 53)), none, []⟩,
    ⟨(some 15), (.alloc 35 [(.int .i64 0), (.int .i64 0)]), none, []⟩,
    ⟨none, (.store 2 (.t 15) (.t 54)), none, []⟩] none)
  (.seq (.seq (.region [⟨(some 55), (.fieldAddr 0 (.t 15)), none, []⟩,
    ⟨(some 56), (.load none (.t 55)), none, []⟩,
    ⟨(some 57), (.mov (.t 12)), none, []⟩,
    ⟨(some 58), (.bin .add (.t 57) (.c (.int .i64 1))), none, []⟩,
    ⟨(some 59), (.bin .leq (.t 56) (.t 58)), none, []⟩,
    ⟨(some 60), (.mov (.t 59)), none, []⟩,
    ⟨(some 61), (.fieldAddr 1 (.t 15)), (some (60, false)), []⟩,
    ⟨(some 62), (.load none (.t 61)), (some (60, false)), []⟩,
    ⟨(some 63), (.fieldAddr 0 (.t 15)), (some (60, false)), []⟩,
    ⟨(some 64), (.load none (.t 63)), (some (60, false)), []⟩,
    ⟨(some 65), (.bin .lss (.t 62) (.t 64)), (some (60, false)), []⟩,
    ⟨(some 66), (.pick (.t 60) (.c (.bool true)) (.t 65)), none, []⟩] none)
  (.cond (.t 66)
  (.seq (.region [⟨(some 6), (.mov (.c (.bool false))), none, []⟩] none)
  .ret)
  .skip))
  (.seq (.region [⟨(some 67), (.mov (.t 11)), none, []⟩,
    ⟨(some 68), (.fieldAddr 1 (.t 15)), none, []⟩,
    ⟨(some 69), (.load none (.t 68)), none, []⟩,
    ⟨(some 70), (.fieldAddr 0 (.t 15)), none, []⟩,
    ⟨(some 71), (.load none (.t 70)), none, []⟩,
    ⟨(some 72), (.bin .sub (.t 69) (.t 71)), none, []⟩,
    ⟨(some 73), (.bin .add (.t 72) (.c (.int .i64 1))), none, []⟩,
    ⟨(some 74), (.bin .add (.t 67) (.t 73)), none, []⟩,
    ⟨(some 11), (.mov (.t 74)), none, []⟩] none)
  (.seq (.region [⟨(some 75), (.fieldAddr 1 (.t 15)), none, []⟩,
    ⟨(some 76), (.load none (.t 75)), none, []⟩,
    ⟨(some 12), (.mov (.t 76)), none, []⟩] none)
  (.region [⟨(some 77), (.load (some 64) (.t 13)), none, []⟩,
    ⟨(some 78), (.fieldAddr 0 (.t 15)), none, []⟩,
    ⟨(some 79), (.load none (.t 78)), none, []⟩,
    ⟨(some 80), (.fieldAddr 1 (.t 15)), none, []⟩,
    ⟨(some 81), (.load none (.t 80)), none, []⟩,
    ⟨(some 82), (.call (.f 11) [(.t 77), (.t 79), (.t 81)]), none, []⟩,
    ⟨none, (.store 64 (.t 13) (.t 82)), none, []⟩] none))))))
  (.region [⟨(some 83), (.bin .add (.t 51) (.c (.int .i64 1))), none, []⟩,
    ⟨(some 51), (.mov (.t 83)), none, []⟩] none))))
def B3 : ACode := (.seq (.region [⟨(some 6), (.mov (.c (.bool false))), none, []⟩] none)
  (.seq (.region [⟨(some 20), (.mov (.t 0)), none, []⟩,
    ⟨(some 21), (.call (.f 7) [(.t 20)]), none, []⟩,
    ⟨(some 22), (.mov (.t 1)), none, []⟩,
    ⟨(some 23), (.call (.f 7) [(.t 22)]), none, []⟩,
    ⟨(some 7), (.alloc 26 (List.replicate 64 (.int .u64 0))), none, []⟩,
    ⟨(some 8), (.alloc 26 (List.replicate 64 (.int .u64 0))), none, []⟩,
    ⟨none, (.store 64 (.t 7) (.t 21)), none, []⟩,
    ⟨none, (.store 64 (.t 8) (.t 23)), none, []⟩] none)
  (.seq (.region [⟨(some 25), (.load (some 64) (.t 7)), none, []⟩,
    ⟨(some 26), (.call (.f 9) [(.t 25)]), none, []⟩,
    ⟨(some 27), (.call (.f 8) [(.t 26)]), none, []⟩,
    ⟨(some 24), (.mov (.t 27)), none, []⟩,
    ⟨(some 28), (.extract (.t 24) 0), none, []⟩,
    ⟨(some 29), (.extract (.t 24) 1), none, []⟩,
    ⟨(some 9), (.alloc 26 (List.replicate 64 (.int .u64 0))), none, []⟩,
    ⟨none, (.store 64 (.t 9) (.t 28)), none, []⟩,
    ⟨(some 10), (.mov (.t 29)), none, []⟩] none)
  (.seq (.seq R3_0
  (.cond (.t 47)
  (.seq (.region [⟨(some 6), (.mov (.c (.bool false))), none, []⟩] none)
  .ret)
  .skip))
  (.seq (.region [⟨(some 11), (.mov (.c (.int .i64 0))), none, []⟩,
    ⟨(some 12), (.mov (.c (.int .i64 (-1)))), none, []⟩] none)
  (.seq (.region [⟨(some 13), (.alloc 26 (List.replicate 64 (.int .u64 0))), none, []⟩] none)
  (.seq (.seq (.region [⟨(some 48), (.load (some 64) (.t 7)), none, []⟩,
    ⟨(some 49), (.call (.f 10) [(.t 48)]), none, []⟩,
    ⟨(some 50), (.lenSlice (.t 49)), none, []⟩,
    ⟨(some 51), (.mov (.c (.int .i64 0))), none, []⟩] none)
  (.block 0 (.loop F3L0)))
  (.seq (.region [⟨(some 85), (.mov (.t 2)), none, []⟩,
    ⟨(some 86), (.mov (.t 2)), none, []⟩,
    ⟨(some 87), (.lenStr (.t 86)), none, []⟩,
    ⟨(some 88), (.min [(.t 87), (.c (.int .i64 100))]), none, []⟩,
    ⟨(some 89), (.sliceStr (.t 85) none (some (.t 88))), none, []⟩,
    ⟨(some 90), (.call (.f 8) [(.t 89)]), none, []⟩,
    ⟨(some 84), (.mov (.t 90)), none, []⟩,
    ⟨(some 91), (.extract (.t 84) 0), none, []⟩,
    ⟨(some 92), (.extract (.t 84) 1), none, []⟩,
    ⟨(some 16), (.alloc 26 (List.replicate 64 (.int .u64 0))), none, []⟩,
    ⟨none, (.store 64 (.t 16) (.t 91)), none, []⟩,
    ⟨(some 17), (.mov (.t 92)), none, []⟩] none)
  (.seq (.region [⟨(some 94), (.load (some 64) (.t 16)), none, []⟩,
    ⟨(some 95), (.call (.f 9) [(.t 94)]), none, []⟩,
    ⟨(some 96), (.call (.f 8) [(.t 95)]), none, []⟩,
    ⟨(some 93), (.mov (.t 96)), none, []⟩,
    ⟨(some 97), (.extract (.t 93) 0), none, []⟩,
    ⟨(some 98), (.extract (.t 93) 1), none, []⟩,
    ⟨(some 18), (.alloc 26 (List.replicate 64 (.int .u64 0))), none, []⟩,
    ⟨none, (.store 64 (.t 18) (.t 97)), none, []⟩,
    ⟨(some 19), (.mov (.t 98)), none, []⟩] none)
  (.seq (.region [⟨(some 99), (.load (some 64) (.t 13)), none, []⟩,
    ⟨(some 100), (.load (some 64) (.t 7)), none, []⟩,
    ⟨(some 101), (.eqAgg false (List.replicate 64 .int) (.t 99) (.t 100)), none, []⟩,
    ⟨(some 102), (.mov (.t 101)), none, []⟩,
    ⟨(some 103), (.mov (.t 11)), (some (102, true)), []⟩,
    ⟨(some 104), (.load (some 64) (.t 7)), (some (102, true)), []⟩,
    ⟨(some 105), (.call (.f 12) [(.t 104)]), (some (102, true)), []⟩,
    ⟨(some 106), (.bin .eql (.t 103) (.t 105)), (some (102, true)), []⟩,
    ⟨(some 107), (.pick (.t 102) (.t 106) (.c (.bool false))), none, []⟩,
    ⟨(some 108), (.mov (.t 107)), none, []⟩,
    ⟨(some 109), (.mov (.t 17)), (some (108, true)), []⟩,
    ⟨(some 110), (.bin .eql (.t 109) (.c (.int .i64 0))), (some (108, true)), []⟩,
    ⟨(some 111), (.mov (.t 110)), (some (108, true)), []⟩,
    ⟨(some 112), (.load (some 64) (.t 16)), (some (111, false)), []⟩,
    ⟨(some 113), (.build (List.replicate 64 (.int .u64 0)) []), (some (111, false)), []⟩,
    ⟨(some 114), (.eqAgg false (List.replicate 64 .int) (.t 112) (.t 113)), (some (111, false)), []⟩,
    ⟨(some 115), (.pick (.t 111) (.c (.bool true)) (.t 114)), (some (108, true)), []⟩,
    ⟨(some 116), (.pick (.t 108) (.t 115) (.c (.bool false))), none, []⟩,
    ⟨(some 117), (.mov (.t 116)), none, []⟩,
    ⟨(some 118), (.mov (.t 19)), (some (117, true)), []⟩,
    ⟨(some 119), (.bin .eql (.t 118) (.c (.int .i64 0))), (some (117, true)), []⟩,
    ⟨(some 120), (.pick (.t 117) (.t 119) (.c (.bool false))), none, []⟩,
    ⟨(some 121), (.mov (.t 120)), none, []⟩,
    ⟨(some 122), (.load (some 64) (.t 18)), (some (121, true)), []⟩,
    ⟨(some 123), (.load (some 64) (.t 16)), (some (121, true)), []⟩,
    ⟨(some 124), (.eqAgg false (List.replicate 64 .int) (.t 122) (.t 123)), (some (121, true)), []⟩,
    ⟨(some 125), (.pick (.t 121) (.t 124) (.c (.bool false))), none, []⟩,
    ⟨(some 126), (.mov (.t 125)), none, []⟩,
    ⟨(some 127), (.call (.f 13) []), (some (126, true)), []⟩,
    ⟨(some 128), (.pick (.t 126) (.t 127) (.c (.bool false))), none, []⟩,
    ⟨(some 6), (.mov (.t 128)), none, []⟩] none)
  .ret))))))))))
def F3 : AFunc := ⟨3, 129, [(.tmp 6)], B3⟩
-- F3L0 live: [2, 7, 11, 12, 13, 49, 50, 51]
def R4_0 : ACode := .region [⟨(some 61), (.mov (.t 10)), none, []⟩,
    ⟨(some 62), (.bin .eql (.t 61) (.c (.int .i64 0))), none, [0]⟩,
    ⟨(some 63), (.mov (.t 62)), none, [1]⟩,
    ⟨(some 64), (.load (some 64) (.t 9)), (some (63, true)), [2]⟩,
    ⟨(some 65), (.call (.f 9) [(.t 64)]), (some (63, true)), [3, 2, 2]⟩,
    ⟨(some 66), (.bin .eql (.t 65) (.c (.string ⟨#[49, 45, 52, 44, 54, 51, 45, 54, 53, 44, 52, 48, 57, 52]⟩))), (some (63, true)), [4, 2]⟩,
    ⟨(some 67), (.pick (.t 63) (.t 66) (.c (.bool false))), none, [2, 5]⟩,
    ⟨(some 68), (.mov (.t 67)), none, [6, 4]⟩,
    ⟨(some 69), (.mov (.t 12)), (some (68, true)), [7]⟩,
    ⟨(some 70), (.bin .eql (.t 69) (.c (.int .i64 0))), (some (68, true)), [8, 7]⟩,
    ⟨(some 71), (.pick (.t 68) (.t 70) (.c (.bool false))), none, [7, 9]⟩,
    ⟨(some 72), (.mov (.t 71)), none, [10, 7]⟩,
    ⟨(some 73), (.load (some 64) (.t 11)), (some (72, true)), [11]⟩,
    ⟨(some 74), (.build (List.replicate 64 (.int .u64 0)) []), (some (72, true)), [11]⟩,
    ⟨(some 75), (.eqAgg false (List.replicate 64 .int) (.t 73) (.t 74)), (some (72, true)), [12, 13, 11]⟩,
    ⟨(some 76), (.pick (.t 72) (.t 75) (.c (.bool false))), none, [11, 14]⟩,
    ⟨(some 77), (.mov (.t 76)), none, [15, 11]⟩,
    ⟨(some 78), (.load (some 64) (.t 11)), (some (77, true)), [16]⟩,
    ⟨(some 79), (.call (.f 9) [(.t 78)]), (some (77, true)), [17, 16, 16]⟩,
    ⟨(some 80), (.bin .eql (.t 79) (.c (.string ⟨#[110, 111, 110, 101]⟩))), (some (77, true)), [18, 16]⟩,
    ⟨(some 81), (.pick (.t 77) (.t 80) (.c (.bool false))), none, [16, 19]⟩,
    ⟨(some 82), (.mov (.t 81)), none, [20, 18]⟩,
    ⟨(some 83), (.mov (.t 14)), (some (82, true)), [21]⟩,
    ⟨(some 84), (.bin .eql (.t 83) (.c (.int .i64 0))), (some (82, true)), [22, 21]⟩,
    ⟨(some 85), (.pick (.t 82) (.t 84) (.c (.bool false))), none, [21, 23]⟩,
    ⟨(some 86), (.mov (.t 85)), none, [24, 21]⟩,
    ⟨(some 87), (.load (some 64) (.t 13)), (some (86, true)), [25]⟩,
    ⟨(some 88), (.call (.f 14) []), (some (86, true)), [25, 25]⟩,
    ⟨(some 89), (.eqAgg false (List.replicate 64 .int) (.t 87) (.t 88)), (some (86, true)), [26, 27, 25]⟩,
    ⟨(some 90), (.pick (.t 86) (.t 89) (.c (.bool false))), none, [25, 28]⟩,
    ⟨(some 91), (.mov (.t 90)), none, [29, 27]⟩,
    ⟨(some 92), (.load (some 64) (.t 13)), (some (91, true)), [30]⟩,
    ⟨(some 93), (.call (.f 12) [(.t 92)]), (some (91, true)), [31, 30, 30]⟩,
    ⟨(some 94), (.bin .eql (.t 93) (.c (.int .i64 4094))), (some (91, true)), [32, 30]⟩,
    ⟨(some 95), (.pick (.t 91) (.t 94) (.c (.bool false))), none, [30, 33]⟩,
    ⟨(some 96), (.mov (.t 95)), none, [34, 32]⟩,
    ⟨(some 97), (.mov (.t 16)), (some (96, true)), [35]⟩,
    ⟨(some 98), (.bin .eql (.t 97) (.c (.int .i64 5))), (some (96, true)), [36, 35]⟩,
    ⟨(some 99), (.pick (.t 96) (.t 98) (.c (.bool false))), none, [35, 37]⟩,
    ⟨(some 100), (.mov (.t 99)), none, [38, 35]⟩,
    ⟨(some 101), (.buildSlice 3 1 4 [(.int .i64 0)] [(0, 1, (.c (.int .i64 0))), (1, 1, (.c (.int .i64 (-1)))), (2, 1, (.c (.int .i64 4095))), (3, 1, (.c (.int .i64 7)))]), (some (100, true)), [39]⟩,
    ⟨(some 102), (.call (.f 15) [(.t 101)]), (some (100, true)), [40, 39, 39]⟩,
    ⟨(some 103), (.buildSlice 3 1 1 [(.int .i64 0)] [(0, 1, (.c (.int .i64 7)))]), (some (100, true)), [39]⟩,
    ⟨(some 104), (.call (.f 15) [(.t 103)]), (some (100, true)), [42, 41, 39]⟩,
    ⟨(some 105), (.eqAgg false (List.replicate 64 .int) (.t 102) (.t 104)), (some (100, true)), [41, 43, 39]⟩,
    ⟨(some 106), (.pick (.t 100) (.t 105) (.c (.bool false))), none, [39, 44]⟩,
    ⟨(some 107), (.mov (.t 106)), none, [45, 43]⟩,
    ⟨(some 108), (.call (.f 15) [(.c (.slice none 0 0))]), (some (107, true)), [46, 46]⟩,
    ⟨(some 109), (.build (List.replicate 64 (.int .u64 0)) []), (some (107, true)), [46]⟩,
    ⟨(some 110), (.eqAgg false (List.replicate 64 .int) (.t 108) (.t 109)), (some (107, true)), [47, 48, 46]⟩,
    ⟨(some 111), (.pick (.t 107) (.t 110) (.c (.bool false))), none, [46, 49]⟩,
    ⟨(some 112), (.mov (.t 111)), none, [50, 47]⟩,
    ⟨(some 113), (.load (some 64) (.t 13)), (some (112, true)), [51]⟩,
    ⟨(some 114), (.call (.f 16) [(.t 113), (.c (.int .i64 0))]), (some (112, true)), [52, 51, 51]⟩,
    ⟨(some 115), (.un .not (.t 114)), (some (112, true)), [53, 51]⟩,
    ⟨(some 116), (.pick (.t 112) (.t 115) (.c (.bool false))), none, [51, 54]⟩,
    ⟨(some 117), (.mov (.t 116)), none, [55, 53]⟩,
    ⟨(some 118), (.load (some 64) (.t 13)), (some (117, true)), [56]⟩,
    ⟨(some 119), (.call (.f 16) [(.t 118), (.c (.int .i64 4095))]), (some (117, true)), [57, 56, 56]⟩,
    ⟨(some 120), (.un .not (.t 119)), (some (117, true)), [58, 56]⟩,
    ⟨(some 121), (.pick (.t 117) (.t 120) (.c (.bool false))), none, [56, 59]⟩,
    ⟨(some 122), (.mov (.t 121)), none, [60, 58]⟩,
    ⟨(some 123), (.load (some 64) (.t 13)), (some (122, true)), [61]⟩,
    ⟨(some 124), (.call (.f 16) [(.t 123), (.c (.int .i64 (-1)))]), (some (122, true)), [62, 61, 61]⟩,
    ⟨(some 125), (.un .not (.t 124)), (some (122, true)), [63, 61]⟩,
    ⟨(some 126), (.pick (.t 122) (.t 125) (.c (.bool false))), none, [61, 64]⟩,
    ⟨(some 127), (.mov (.t 126)), none, [65, 63]⟩,
    ⟨(some 128), (.load (some 64) (.t 13)), (some (127, true)), [66]⟩,
    ⟨(some 129), (.call (.f 16) [(.t 128), (.c (.int .i64 1099511627776))]), (some (127, true)), [67, 66, 66]⟩,
    ⟨(some 130), (.un .not (.t 129)), (some (127, true)), [68, 66]⟩,
    ⟨(some 131), (.pick (.t 127) (.t 130) (.c (.bool false))), none, [66, 69]⟩,
    ⟨(some 132), (.mov (.t 131)), none, [70, 68]⟩,
    ⟨(some 133), (.call (.f 14) []), (some (132, true)), [71, 71]⟩,
    ⟨(some 134), (.call (.f 17) [(.t 133), (.c (.int .i64 (-5))), (.c (.int .i64 1125899906842624))]), (some (132, true)), [72, 72, 71]⟩,
    ⟨(some 135), (.build (List.replicate 64 (.int .u64 0)) []), (some (132, true)), [71]⟩,
    ⟨(some 136), (.eqAgg false (List.replicate 64 .int) (.t 134) (.t 135)), (some (132, true)), [73, 74, 71]⟩,
    ⟨(some 137), (.pick (.t 132) (.t 136) (.c (.bool false))), none, [71, 75]⟩,
    ⟨(some 138), (.mov (.t 137)), none, [76, 73]⟩,
    ⟨(some 139), (.load (some 64) (.t 13)), (some (138, true)), [77]⟩,
    ⟨(some 140), (.call (.f 17) [(.t 139), (.c (.int .i64 1)), (.c (.int .i64 1))]), (some (138, true)), [78, 77, 77]⟩,
    ⟨(some 141), (.call (.f 9) [(.t 140)]), (some (138, true)), [79, 79, 77]⟩,
    ⟨(some 142), (.bin .eql (.t 141) (.c (.string ⟨#[50, 45, 52, 48, 57, 52]⟩))), (some (138, true)), [80, 77]⟩,
    ⟨(some 143), (.pick (.t 138) (.t 142) (.c (.bool false))), none, [77, 81]⟩,
    ⟨(some 144), (.mov (.t 143)), none, [82, 80]⟩,
    ⟨(some 145), (.call (.f 13) []), (some (144, true)), [83, 83]⟩,
    ⟨(some 146), (.pick (.t 144) (.t 145) (.c (.bool false))), none, [83, 84]⟩,
    ⟨(some 0), (.mov (.t 146)), none, [85, 84, 0, 1, 2, 3, 4, 5, 6, 7, 8, 9, 10, 11, 12, 13, 14, 15, 16, 17, 18, 19, 20, 21, 22, 23, 24, 25, 26, 27, 28, 29, 30, 31, 32, 33, 34, 35, 36, 37, 38, 39, 40, 41, 42, 43, 44, 45, 46, 47, 48, 49, 50, 51, 52, 53, 54, 55, 56, 57, 58, 59, 60, 61, 62, 63, 64, 65, 66, 67, 68, 69, 70, 71, 72, 73, 74, 75, 76, 77, 78, 79, 80, 81, 82, 83, 84, 85]⟩] (some [(12, 13), (26, 27), (40, 42), (41, 42), (47, 48), (72, 74), (73, 74)])
/-- toll/tolllaw14.VsetKnown -/
def F4L0 : ACode := (.seq (.region [⟨(some 20), (.bin .lss (.t 19) (.t 18)), none, []⟩] none)
  (.seq (.cond (.t 20)
  .skip
  (.exit 0))
  (.seq (.block 1 (.seq (.region [⟨(some 21), (.indexAddr 1 (.t 17) (.t 19)), none, []⟩,
    ⟨(some 22), (.load none (.t 21)), none, []⟩,
    ⟨(some 2), (.mov (.t 22)), none, []⟩] none)
  (.seq (.region [⟨(some 24), (.mov (.t 2)), none, []⟩,
    ⟨(some 25), (.call (.f 8) [(.t 24)]), none, []⟩,
    ⟨(some 23), (.mov (.t 25)), none, []⟩,
    ⟨(some 26), (.extract (.t 23) 0), none, []⟩,
    ⟨(some 27), (.extract (.t 23) 1), none, []⟩,
    ⟨(some 3), (.alloc 26 (List.replicate 64 (.int .u64 0))), none, []⟩,
    ⟨none, (.store 64 (.t 3) (.t 26)), none, []⟩,
    ⟨(some 4), (.mov (.t 27)), none, []⟩] none)
  (.seq (.region [⟨(some 28), (.mov (.t 4)), none, []⟩,
    ⟨(some 29), (.bin .neq (.t 28) (.c (.int .i64 5))), none, []⟩] none)
  (.cond (.t 29)
  (.seq (.region [⟨(some 0), (.mov (.c (.bool false))), none, []⟩] none)
  .ret)
  .skip)))))
  (.region [⟨(some 30), (.bin .add (.t 19) (.c (.int .i64 1))), none, []⟩,
    ⟨(some 19), (.mov (.t 30)), none, []⟩] none))))
def F4L1 : ACode := (.seq (.region [⟨(some 34), (.bin .lss (.t 33) (.t 32)), none, []⟩] none)
  (.seq (.cond (.t 34)
  .skip
  (.exit 2))
  (.seq (.block 3 (.seq (.region [⟨(some 35), (.indexAddr 1 (.t 31) (.t 33)), none, []⟩,
    ⟨(some 36), (.load none (.t 35)), none, []⟩,
    ⟨(some 6), (.mov (.t 36)), none, []⟩] none)
  (.seq (.region [⟨(some 38), (.mov (.t 6)), none, []⟩,
    ⟨(some 39), (.call (.f 8) [(.t 38)]), none, []⟩,
    ⟨(some 37), (.mov (.t 39)), none, []⟩,
    ⟨(some 40), (.extract (.t 37) 0), none, []⟩,
    ⟨(some 41), (.extract (.t 37) 1), none, []⟩,
    ⟨(some 7), (.alloc 26 (List.replicate 64 (.int .u64 0))), none, []⟩,
    ⟨none, (.store 64 (.t 7) (.t 40)), none, []⟩,
    ⟨(some 8), (.mov (.t 41)), none, []⟩] none)
  (.seq (.region [⟨(some 42), (.mov (.t 8)), none, []⟩,
    ⟨(some 43), (.bin .neq (.t 42) (.c (.int .i64 24))), none, []⟩] none)
  (.cond (.t 43)
  (.seq (.region [⟨(some 0), (.mov (.c (.bool false))), none, []⟩] none)
  .ret)
  .skip)))))
  (.region [⟨(some 44), (.bin .add (.t 33) (.c (.int .i64 1))), none, []⟩,
    ⟨(some 33), (.mov (.t 44)), none, []⟩] none))))
def B4 : ACode := (.seq (.region [⟨(some 0), (.mov (.c (.bool false))), none, []⟩] none)
  (.seq (.seq (.region [⟨(some 17), (.buildSlice 9 1 18 [(.string ⟨#[]⟩)] [(0, 1, (.c (.string ⟨#[]⟩))), (1, 1, (.c (.string ⟨#[44]⟩))), (2, 1, (.c (.string ⟨#[49, 44]⟩))), (3, 1, (.c (.string ⟨#[49, 44, 44, 50]⟩))), (4, 1, (.c (.string ⟨#[97]⟩))), (5, 1, (.c (.string ⟨#[49, 45]⟩))), (6, 1, (.c (.string ⟨#[45, 49]⟩))), (7, 1, (.c (.string ⟨#[49, 45, 50, 45, 51]⟩))), (8, 1, (.c (.string ⟨#[32, 49]⟩))), (9, 1, (.c (.string ⟨#[49, 32]⟩))), (10, 1, (.c (.string ⟨#[48]⟩))), (11, 1, (.c (.string ⟨#[48, 48, 48, 48, 49]⟩))), (12, 1, (.c (.string ⟨#[49, 50, 51, 52, 53]⟩))), (13, 1, (.c (.string ⟨#[43, 49]⟩))), (14, 1, (.c (.string ⟨#[65, 76, 76]⟩))), (15, 1, (.c (.string ⟨#[110, 111, 110, 101, 44, 49]⟩))), (16, 1, (.c (.string ⟨#[49, 95, 48]⟩))), (17, 1, (.c (.string ⟨#[97, 108, 108, 32]⟩)))]), none, []⟩,
    ⟨(some 18), (.lenSlice (.t 17)), none, []⟩,
    ⟨(some 19), (.mov (.c (.int .i64 0))), none, []⟩] none)
  (.block 0 (.loop F4L0)))
  (.seq (.seq (.region [⟨(some 31), (.buildSlice 9 1 6 [(.string ⟨#[]⟩)] [(0, 1, (.c (.string ⟨#[52, 48, 57, 53]⟩))), (1, 1, (.c (.string ⟨#[57, 57, 57, 57]⟩))), (2, 1, (.c (.string ⟨#[49, 45, 52, 48, 57, 53]⟩))), (3, 1, (.c (.string ⟨#[50, 45, 49]⟩))), (4, 1, (.c (.string ⟨#[49, 44, 52, 48, 57, 53]⟩))), (5, 1, (.c (.string ⟨#[52, 48, 57, 53, 45, 52, 48, 57, 54]⟩)))]), none, []⟩,
    ⟨(some 32), (.lenSlice (.t 31)), none, []⟩,
    ⟨(some 33), (.mov (.c (.int .i64 0))), none, []⟩] none)
  (.block 2 (.loop F4L1)))
  (.seq (.region [⟨(some 46), (.call (.f 8) [(.c (.string ⟨#[49, 44, 50, 44, 52, 44, 52, 48, 57, 52, 44, 51, 44, 54, 51, 45, 54, 53]⟩))]), none, []⟩,
    ⟨(some 45), (.mov (.t 46)), none, []⟩,
    ⟨(some 47), (.extract (.t 45) 0), none, []⟩,
    ⟨(some 48), (.extract (.t 45) 1), none, []⟩,
    ⟨(some 9), (.alloc 26 (List.replicate 64 (.int .u64 0))), none, []⟩,
    ⟨none, (.store 64 (.t 9) (.t 47)), none, []⟩,
    ⟨(some 10), (.mov (.t 48)), none, []⟩] none)
  (.seq (.region [⟨(some 50), (.call (.f 8) [(.c (.string ⟨#[110, 111, 110, 101]⟩))]), none, []⟩,
    ⟨(some 49), (.mov (.t 50)), none, []⟩,
    ⟨(some 51), (.extract (.t 49) 0), none, []⟩,
    ⟨(some 52), (.extract (.t 49) 1), none, []⟩,
    ⟨(some 11), (.alloc 26 (List.replicate 64 (.int .u64 0))), none, []⟩,
    ⟨none, (.store 64 (.t 11) (.t 51)), none, []⟩,
    ⟨(some 12), (.mov (.t 52)), none, []⟩] none)
  (.seq (.region [⟨(some 54), (.call (.f 8) [(.c (.string ⟨#[97, 108, 108]⟩))]), none, []⟩,
    ⟨(some 53), (.mov (.t 54)), none, []⟩,
    ⟨(some 55), (.extract (.t 53) 0), none, []⟩,
    ⟨(some 56), (.extract (.t 53) 1), none, []⟩,
    ⟨(some 13), (.alloc 26 (List.replicate 64 (.int .u64 0))), none, []⟩,
    ⟨none, (.store 64 (.t 13) (.t 55)), none, []⟩,
    ⟨(some 14), (.mov (.t 56)), none, []⟩] none)
  (.seq (.region [⟨(some 58), (.call (.f 8) [(.c (.string ⟨#[52, 48, 57, 53, 44, 120]⟩))]), none, []⟩,
    ⟨(some 57), (.mov (.t 58)), none, []⟩,
    ⟨(some 59), (.extract (.t 57) 0), none, []⟩,
    ⟨(some 60), (.extract (.t 57) 1), none, []⟩,
    ⟨(some 15), (.alloc 26 (List.replicate 64 (.int .u64 0))), none, []⟩,
    ⟨none, (.store 64 (.t 15) (.t 59)), none, []⟩,
    ⟨(some 16), (.mov (.t 60)), none, []⟩] none)
  (.seq R4_0
  .ret))))))))
def F4 : AFunc := ⟨0, 147, [(.tmp 0)], B4⟩
-- F4L0 live: [17, 18, 19]

-- F4L1 live: [31, 32, 33]
def R5_0 : ACode := .region [⟨(some 21), (.mov (.t 0)), none, []⟩,
    ⟨(some 22), (.mov (.t 7)), none, []⟩,
    ⟨(some 23), (.indexAddr 3 (.t 21) (.t 22)), none, [0, 1]⟩,
    ⟨(some 24), (.fieldAddr 1 (.t 23)), none, [2]⟩,
    ⟨(some 25), (.load none (.t 24)), none, [3]⟩,
    ⟨(some 26), (.mov (.t 0)), none, []⟩,
    ⟨(some 27), (.mov (.t 7)), none, []⟩,
    ⟨(some 28), (.indexAddr 3 (.t 26) (.t 27)), none, [5, 6]⟩,
    ⟨(some 29), (.fieldAddr 2 (.t 28)), none, [7]⟩,
    ⟨(some 30), (.load none (.t 29)), none, [8]⟩,
    ⟨(some 8), (.mov (.t 25)), none, [4, 0, 1, 2, 3, 4]⟩,
    ⟨(some 9), (.mov (.t 30)), none, [9, 10, 0, 1, 2, 3, 4, 5, 6, 7, 8, 9, 10]⟩] (some [(0, 1), (0, 5), (1, 5), (2, 5), (3, 5), (4, 5), (0, 6), (1, 6), (2, 6), (3, 6), (4, 6), (5, 6), (0, 7), (1, 7), (2, 7), (3, 7), (4, 7), (0, 8), (1, 8), (2, 8), (3, 8), (4, 8), (0, 9), (1, 9), (2, 9), (3, 9), (4, 9), (5, 10), (6, 10), (7, 10), (8, 10), (9, 10)])
def R5_1 : ACode := .region [⟨(some 39), (.load (some 64) (.t 5)), none, []⟩,
    ⟨(some 40), (.mov (.t 8)), none, []⟩,
    ⟨(some 41), (.mov (.t 9)), none, []⟩,
    ⟨(some 42), (.call (.f 11) [(.t 39), (.t 40), (.t 41)]), none, [0, 1, 2]⟩,
    ⟨(some 43), (.load (some 4096) (.t 6)), none, []⟩,
    ⟨(some 44), (.mov (.t 8)), none, []⟩,
    ⟨(some 45), (.mov (.t 9)), none, []⟩,
    ⟨(some 46), (.call (.f 18) [(.t 43), (.t 44), (.t 45), (.c (.bool true))]), none, [4, 5, 6, 3]⟩,
    ⟨none, (.store 64 (.t 5) (.t 42)), none, [3, 7, 0, 1, 2, 3]⟩,
    ⟨none, (.store 4096 (.t 6) (.t 46)), none, [7, 8, 0, 1, 2, 3, 4, 5, 6, 7, 8]⟩] (some [(0, 1), (0, 2), (1, 2), (0, 4), (1, 4), (2, 4), (3, 4), (0, 5), (1, 5), (2, 5), (3, 5), (4, 5), (0, 6), (1, 6), (2, 6), (3, 6), (4, 6), (5, 6)])
def R5_2 : ACode := .region [⟨(some 49), (.load (some 64) (.t 5)), none, []⟩,
    ⟨(some 50), (.mov (.t 8)), none, []⟩,
    ⟨(some 51), (.mov (.t 9)), none, []⟩,
    ⟨(some 52), (.call (.f 17) [(.t 49), (.t 50), (.t 51)]), none, [0, 1, 2]⟩,
    ⟨(some 53), (.load (some 4096) (.t 6)), none, []⟩,
    ⟨(some 54), (.mov (.t 8)), none, []⟩,
    ⟨(some 55), (.mov (.t 9)), none, []⟩,
    ⟨(some 56), (.call (.f 18) [(.t 53), (.t 54), (.t 55), (.c (.bool false))]), none, [4, 5, 6, 3]⟩,
    ⟨none, (.store 64 (.t 5) (.t 52)), none, [3, 7, 0, 1, 2, 3]⟩,
    ⟨none, (.store 4096 (.t 6) (.t 56)), none, [7, 8, 0, 1, 2, 3, 4, 5, 6, 7, 8]⟩] (some [(0, 1), (0, 2), (1, 2), (0, 4), (1, 4), (2, 4), (3, 4), (0, 5), (1, 5), (2, 5), (3, 5), (4, 5), (0, 6), (1, 6), (2, 6), (3, 6), (4, 6), (5, 6)])
def R5_3 : ACode := .region [⟨(some 59), (.load (some 64) (.t 5)), none, []⟩,
    ⟨(some 60), (.build (List.replicate 64 (.int .u64 0)) []), none, []⟩,
    ⟨(some 61), (.mov (.t 8)), none, []⟩,
    ⟨(some 62), (.mov (.t 9)), none, []⟩,
    ⟨(some 63), (.call (.f 11) [(.t 60), (.t 61), (.t 62)]), none, [1, 2, 3]⟩,
    ⟨(some 64), (.call (.f 19) [(.t 59), (.t 63)]), none, [0, 4, 4]⟩,
    ⟨(some 65), (.load (some 4096) (.t 6)), none, []⟩,
    ⟨(some 66), (.build (List.replicate 4096 (.bool false)) []), none, []⟩,
    ⟨(some 67), (.mov (.t 8)), none, []⟩,
    ⟨(some 68), (.mov (.t 9)), none, []⟩,
    ⟨(some 69), (.call (.f 18) [(.t 66), (.t 67), (.t 68), (.c (.bool true))]), none, [7, 8, 9, 5]⟩,
    ⟨(some 70), (.call (.f 20) [(.t 65), (.t 69)]), none, [6, 10, 10]⟩,
    ⟨none, (.store 64 (.t 5) (.t 64)), none, [5, 11, 0, 1, 2, 3, 4, 5]⟩,
    ⟨none, (.store 4096 (.t 6) (.t 70)), none, [11, 12, 0, 1, 2, 3, 4, 5, 6, 7, 8, 9, 10, 11, 12]⟩] (some [(0, 1), (0, 2), (1, 2), (0, 3), (1, 3), (2, 3), (0, 4), (0, 6), (1, 6), (2, 6), (3, 6), (4, 6), (5, 6), (0, 7), (1, 7), (2, 7), (3, 7), (4, 7), (5, 7), (6, 7), (0, 8), (1, 8), (2, 8), (3, 8), (4, 8), (5, 8), (6, 8), (7, 8), (0, 9), (1, 9), (2, 9), (3, 9), (4, 9), (5, 9), (6, 9), (7, 9), (8, 9), (6, 10)])
def R5_4 : ACode := .region [⟨(some 73), (.load (some 64) (.t 5)), none, []⟩,
    ⟨(some 74), (.build (List.replicate 64 (.int .u64 0)) []), none, []⟩,
    ⟨(some 75), (.mov (.t 8)), none, []⟩,
    ⟨(some 76), (.mov (.t 9)), none, []⟩,
    ⟨(some 77), (.call (.f 11) [(.t 74), (.t 75), (.t 76)]), none, [1, 2, 3]⟩,
    ⟨(some 78), (.call (.f 21) [(.t 73), (.t 77)]), none, [0, 4, 4]⟩,
    ⟨(some 79), (.load (some 4096) (.t 6)), none, []⟩,
    ⟨(some 80), (.build (List.replicate 4096 (.bool false)) []), none, []⟩,
    ⟨(some 81), (.mov (.t 8)), none, []⟩,
    ⟨(some 82), (.mov (.t 9)), none, []⟩,
    ⟨(some 83), (.call (.f 18) [(.t 80), (.t 81), (.t 82), (.c (.bool true))]), none, [7, 8, 9, 5]⟩,
    ⟨(some 84), (.call (.f 22) [(.t 79), (.t 83)]), none, [6, 10, 10]⟩,
    ⟨none, (.store 64 (.t 5) (.t 78)), none, [5, 11, 0, 1, 2, 3, 4, 5]⟩,
    ⟨none, (.store 4096 (.t 6) (.t 84)), none, [11, 12, 0, 1, 2, 3, 4, 5, 6, 7, 8, 9, 10, 11, 12]⟩] (some [(0, 1), (0, 2), (1, 2), (0, 3), (1, 3), (2, 3), (0, 4), (0, 6), (1, 6), (2, 6), (3, 6), (4, 6), (5, 6), (0, 7), (1, 7), (2, 7), (3, 7), (4, 7), (5, 7), (6, 7), (0, 8), (1, 8), (2, 8), (3, 8), (4, 8), (5, 8), (6, 8), (7, 8), (0, 9), (1, 9), (2, 9), (3, 9), (4, 9), (5, 9), (6, 9), (7, 9), (8, 9), (6, 10)])
/-- toll/tolllaw14.VsetTells -/
def F5L0 : ACode := (.seq (.seq (.region [⟨(some 11), (.mov (.t 7)), none, []⟩,
    ⟨(some 12), (.mov (.t 0)), none, []⟩,
    ⟨(some 13), (.lenSlice (.t 12)), none, []⟩,
    ⟨(some 14), (.bin .lss (.t 11) (.t 13)), none, []⟩,
    ⟨(some 15), (.mov (.t 14)), none, []⟩,
    ⟨(some 16), (.mov (.t 7)), (some (15, true)), []⟩,
    ⟨(some 17), (.bin .lss (.t 16) (.c (.int .i64 20))), (some (15, true)), []⟩,
    ⟨(some 18), (.pick (.t 15) (.t 17) (.c (.bool false))), none, []⟩] none)
  (.cond (.t 18)
  .skip
  (.exit 0)))
  (.seq (.block 1 (.seq R5_0
  (.seq (.seq (.region [⟨(some 31), (.mov (.t 0)), none, []⟩,
    ⟨(some 32), (.mov (.t 7)), none, []⟩,
    ⟨(some 33), (.indexAddr 3 (.t 31) (.t 32)), none, []⟩,
    ⟨(some 34), (.fieldAddr 0 (.t 33)), none, []⟩,
    ⟨(some 35), (.load none (.t 34)), none, []⟩] none)
  (.block 2 (.seq (.seq (.region [⟨(some 37), (.bin .eql (.t 35) (.c (.int .i64 0))), none, []⟩,
    ⟨(some 36), (.mov (.t 37)), none, []⟩] none)
  (.cond (.t 36)
  .skip
  (.region [⟨(some 38), (.bin .eql (.t 35) (.c (.int .i64 1))), none, []⟩,
    ⟨(some 36), (.mov (.t 38)), none, []⟩] none)))
  (.cond (.t 36)
  R5_1
  (.seq (.region [⟨(some 48), (.bin .eql (.t 35) (.c (.int .i64 2))), none, []⟩,
    ⟨(some 47), (.mov (.t 48)), none, []⟩] none)
  (.cond (.t 47)
  R5_2
  (.seq (.region [⟨(some 58), (.bin .eql (.t 35) (.c (.int .i64 3))), none, []⟩,
    ⟨(some 57), (.mov (.t 58)), none, []⟩] none)
  (.cond (.t 57)
  R5_3
  (.seq (.region [⟨(some 72), (.bin .eql (.t 35) (.c (.int .i64 4))), none, []⟩,
    ⟨(some 71), (.mov (.t 72)), none, []⟩] none)
  (.cond (.t 71)
  R5_4
  (.seq (.region [⟨(some 86), (.bin .eql (.t 35) (.c (.int .i64 5))), none, []⟩,
    ⟨(some 85), (.mov (.t 86)), none, []⟩] none)
  (.cond (.t 85)
  (.region [⟨(some 87), (.mov (.t 8)), none, []⟩,
    ⟨(some 88), (.mov (.t 9)), none, []⟩,
    ⟨(some 89), (.buildSlice 3 1 2 [(.int .i64 0)] [(0, 1, (.t 87)), (1, 1, (.t 88))]), none, []⟩,
    ⟨(some 90), (.call (.f 15) [(.t 89)]), none, []⟩,
    ⟨(some 91), (.build (List.replicate 4096 (.bool false)) []), none, []⟩,
    ⟨(some 92), (.mov (.t 8)), none, []⟩,
    ⟨(some 93), (.mov (.t 8)), none, []⟩,
    ⟨(some 94), (.call (.f 18) [(.t 91), (.t 92), (.t 93), (.c (.bool true))]), none, []⟩,
    ⟨(some 95), (.mov (.t 9)), none, []⟩,
    ⟨(some 96), (.mov (.t 9)), none, []⟩,
    ⟨(some 97), (.call (.f 18) [(.t 94), (.t 95), (.t 96), (.c (.bool true))]), none, []⟩,
    ⟨none, (.store 64 (.t 5) (.t 90)), none, []⟩,
    ⟨none, (.store 4096 (.t 6) (.t 97)), none, []⟩] none)
  .skip))))))))))))
  (.seq (.region [⟨(some 98), (.load (some 64) (.t 5)), none, []⟩,
    ⟨(some 99), (.load (some 4096) (.t 6)), none, []⟩,
    ⟨(some 100), (.call (.f 23) [(.t 98), (.t 99)]), none, []⟩,
    ⟨(some 101), (.un .not (.t 100)), none, []⟩] none)
  (.cond (.t 101)
  (.seq (.region [⟨(some 4), (.mov (.c (.bool false))), none, []⟩] none)
  .ret)
  .skip)))))
  (.region [⟨(some 19), (.mov (.t 7)), none, []⟩,
    ⟨(some 20), (.bin .add (.t 19) (.c (.int .i64 1))), none, []⟩,
    ⟨(some 7), (.mov (.t 20)), none, []⟩] none)))
def B5 : ACode := (.seq (.region [⟨(some 4), (.mov (.c (.bool false))), none, []⟩] none)
  (.seq (.region [⟨(some 5), (.alloc 26 (List.replicate 64 (.int .u64 0))), none, []⟩] none)
  (.seq (.region [⟨(some 6), (.alloc 45 (List.replicate 4096 (.bool false))), none, []⟩] none)
  (.seq (.seq (.region [⟨(some 7), (.mov (.c (.int .i64 0))), none, []⟩] none)
  (.block 0 (.loop F5L0)))
  (.seq (.region [⟨(some 10), (.mov (.c (.bool false))), none, []⟩] none)
  (.seq (.seq (.region [⟨(some 102), (.mov (.t 1)), none, []⟩,
    ⟨(some 103), (.bin .geq (.t 102) (.c (.int .i64 1))), none, []⟩,
    ⟨(some 104), (.mov (.t 103)), none, []⟩,
    ⟨(some 105), (.mov (.t 1)), (some (104, true)), []⟩,
    ⟨(some 106), (.bin .leq (.t 105) (.c (.int .i64 4094))), (some (104, true)), []⟩,
    ⟨(some 107), (.pick (.t 104) (.t 106) (.c (.bool false))), none, []⟩] none)
  (.cond (.t 107)
  (.region [⟨(some 108), (.mov (.t 1)), none, []⟩,
    ⟨(some 109), (.indexArr 1 4096 (.t 6) (.t 108)), none, []⟩,
    ⟨(some 110), (.load none (.t 109)), none, []⟩,
    ⟨(some 10), (.mov (.t 110)), none, []⟩] none)
  .skip))
  (.seq (.region [⟨(some 111), (.load (some 64) (.t 5)), none, []⟩,
    ⟨(some 112), (.mov (.t 1)), none, []⟩,
    ⟨(some 113), (.call (.f 16) [(.t 111), (.t 112)]), none, []⟩,
    ⟨(some 114), (.mov (.t 10)), none, []⟩,
    ⟨(some 115), (.eqv false .bool false (.t 113) (.t 114)), none, []⟩,
    ⟨(some 116), (.mov (.t 115)), none, []⟩,
    ⟨(some 117), (.load (some 64) (.t 5)), (some (116, true)), []⟩,
    ⟨(some 118), (.load (some 4096) (.t 6)), (some (116, true)), []⟩,
    ⟨(some 119), (.call (.f 23) [(.t 117), (.t 118)]), (some (116, true)), []⟩,
    ⟨(some 120), (.pick (.t 116) (.t 119) (.c (.bool false))), none, []⟩,
    ⟨(some 121), (.mov (.t 120)), none, []⟩,
    ⟨(some 122), (.call (.f 13) []), (some (121, true)), []⟩,
    ⟨(some 123), (.pick (.t 121) (.t 122) (.c (.bool false))), none, []⟩,
    ⟨(some 4), (.mov (.t 123)), none, []⟩] none)
  .ret)))))))
def F5 : AFunc := ⟨2, 124, [(.tmp 4)], B5⟩
-- F5L0 live: [0, 1, 5, 6, 7]
def R6_0 : ACode := .region [⟨(some 62), (.load (some 64) (.t 13)), none, []⟩,
    ⟨(some 63), (.mov (.t 18)), none, []⟩,
    ⟨(some 64), (.call (.f 16) [(.t 62), (.t 63)]), none, [0, 1]⟩,
    ⟨(some 65), (.load (some 64) (.t 11)), none, []⟩,
    ⟨(some 66), (.mov (.t 18)), none, []⟩,
    ⟨(some 67), (.call (.f 16) [(.t 65), (.t 66)]), none, [3, 4, 2]⟩,
    ⟨(some 68), (.mov (.t 67)), none, [5, 5]⟩,
    ⟨(some 69), (.mov (.t 19)), (some (68, false)), [6]⟩,
    ⟨(some 70), (.pick (.t 68) (.c (.bool true)) (.t 69)), none, [6, 7]⟩,
    ⟨(some 71), (.eqv true .bool false (.t 64) (.t 70)), none, [2, 8]⟩,
    ⟨(some 72), (.mov (.t 71)), none, [9, 6]⟩,
    ⟨(some 73), (.load (some 64) (.t 14)), (some (72, false)), [10]⟩,
    ⟨(some 74), (.mov (.t 18)), (some (72, false)), [10]⟩,
    ⟨(some 75), (.call (.f 16) [(.t 73), (.t 74)]), (some (72, false)), [11, 12, 10, 10]⟩,
    ⟨(some 76), (.load (some 64) (.t 11)), (some (72, false)), [10]⟩,
    ⟨(some 77), (.mov (.t 18)), (some (72, false)), [10]⟩,
    ⟨(some 78), (.call (.f 16) [(.t 76), (.t 77)]), (some (72, false)), [14, 15, 13, 10]⟩,
    ⟨(some 79), (.mov (.t 78)), (some (72, false)), [16, 16, 10]⟩,
    ⟨(some 80), (.mov (.t 19)), (some (79, true)), [17]⟩,
    ⟨(some 81), (.un .not (.t 80)), (some (79, true)), [18, 17]⟩,
    ⟨(some 82), (.pick (.t 79) (.t 81) (.c (.bool false))), (some (72, false)), [17, 19, 10]⟩,
    ⟨(some 83), (.eqv true .bool false (.t 75) (.t 82)), (some (72, false)), [13, 20, 10]⟩,
    ⟨(some 84), (.pick (.t 72) (.c (.bool true)) (.t 83)), none, [10, 21]⟩,
    ⟨(some 85), (.mov (.t 84)), none, [22, 17]⟩,
    ⟨(some 86), (.load (some 64) (.t 15)), (some (85, false)), [23]⟩,
    ⟨(some 87), (.mov (.t 18)), (some (85, false)), [23]⟩,
    ⟨(some 88), (.call (.f 16) [(.t 86), (.t 87)]), (some (85, false)), [24, 25, 23, 23]⟩,
    ⟨(some 89), (.load (some 64) (.t 11)), (some (85, false)), [23]⟩,
    ⟨(some 90), (.mov (.t 18)), (some (85, false)), [23]⟩,
    ⟨(some 91), (.call (.f 16) [(.t 89), (.t 90)]), (some (85, false)), [27, 28, 26, 23]⟩,
    ⟨(some 92), (.mov (.t 91)), (some (85, false)), [29, 29, 23]⟩,
    ⟨(some 93), (.load (some 64) (.t 12)), (some (92, false)), [30]⟩,
    ⟨(some 94), (.mov (.t 18)), (some (92, false)), [30]⟩,
    ⟨(some 95), (.call (.f 16) [(.t 93), (.t 94)]), (some (92, false)), [31, 32, 30, 30]⟩,
    ⟨(some 96), (.pick (.t 92) (.c (.bool true)) (.t 95)), (some (85, false)), [30, 33, 23]⟩,
    ⟨(some 97), (.eqv true .bool false (.t 88) (.t 96)), (some (85, false)), [26, 34, 23]⟩,
    ⟨(some 98), (.pick (.t 85) (.c (.bool true)) (.t 97)), none, [23, 35]⟩,
    ⟨(some 99), (.mov (.t 98)), none, [36, 33]⟩,
    ⟨(some 100), (.load (some 64) (.t 16)), (some (99, false)), [37]⟩,
    ⟨(some 101), (.mov (.t 18)), (some (99, false)), [37]⟩,
    ⟨(some 102), (.call (.f 16) [(.t 100), (.t 101)]), (some (99, false)), [38, 39, 37, 37]⟩,
    ⟨(some 103), (.load (some 64) (.t 11)), (some (99, false)), [37]⟩,
    ⟨(some 104), (.mov (.t 18)), (some (99, false)), [37]⟩,
    ⟨(some 105), (.call (.f 16) [(.t 103), (.t 104)]), (some (99, false)), [41, 42, 40, 37]⟩,
    ⟨(some 106), (.mov (.t 105)), (some (99, false)), [43, 43, 37]⟩,
    ⟨(some 107), (.load (some 64) (.t 12)), (some (106, true)), [44]⟩,
    ⟨(some 108), (.mov (.t 18)), (some (106, true)), [44]⟩,
    ⟨(some 109), (.call (.f 16) [(.t 107), (.t 108)]), (some (106, true)), [45, 46, 44, 44]⟩,
    ⟨(some 110), (.pick (.t 106) (.t 109) (.c (.bool false))), (some (99, false)), [44, 47, 37]⟩,
    ⟨(some 111), (.eqv true .bool false (.t 102) (.t 110)), (some (99, false)), [40, 48, 37]⟩,
    ⟨(some 112), (.pick (.t 99) (.c (.bool true)) (.t 111)), none, [37, 49]⟩] (some [(0, 1), (0, 3), (1, 3), (2, 3), (0, 4), (1, 4), (2, 4), (3, 4), (11, 12), (11, 14), (12, 14), (13, 14), (11, 15), (12, 15), (13, 15), (14, 15), (24, 25), (24, 27), (25, 27), (26, 27), (24, 28), (25, 28), (26, 28), (27, 28), (31, 32), (38, 39), (38, 41), (39, 41), (40, 41), (38, 42), (39, 42), (40, 42), (41, 42), (45, 46)])
def R6_1 : ACode := .region [⟨(some 28), (.load (some 64) (.t 11)), none, []⟩,
    ⟨(some 29), (.mov (.t 2)), none, []⟩,
    ⟨(some 30), (.mov (.t 3)), none, []⟩,
    ⟨(some 31), (.call (.f 11) [(.t 28), (.t 29), (.t 30)]), none, [0, 1, 2]⟩,
    ⟨(some 32), (.load (some 64) (.t 11)), none, []⟩,
    ⟨(some 33), (.mov (.t 2)), none, []⟩,
    ⟨(some 34), (.mov (.t 3)), none, []⟩,
    ⟨(some 35), (.call (.f 17) [(.t 32), (.t 33), (.t 34)]), none, [4, 5, 6, 3]⟩,
    ⟨(some 36), (.load (some 64) (.t 11)), none, []⟩,
    ⟨(some 37), (.load (some 64) (.t 12)), none, []⟩,
    ⟨(some 38), (.call (.f 19) [(.t 36), (.t 37)]), none, [8, 9, 7]⟩,
    ⟨(some 39), (.load (some 64) (.t 11)), none, []⟩,
    ⟨(some 40), (.load (some 64) (.t 12)), none, []⟩,
    ⟨(some 41), (.call (.f 21) [(.t 39), (.t 40)]), none, [11, 12, 10]⟩,
    ⟨(some 13), (.alloc 26 (List.replicate 64 (.int .u64 0))), none, []⟩,
    ⟨(some 14), (.alloc 26 (List.replicate 64 (.int .u64 0))), none, []⟩,
    ⟨(some 15), (.alloc 26 (List.replicate 64 (.int .u64 0))), none, []⟩,
    ⟨(some 16), (.alloc 26 (List.replicate 64 (.int .u64 0))), none, []⟩,
    ⟨none, (.store 64 (.t 13) (.t 31)), none, [14, 3, 13, 0, 1, 2, 3, 14, 15, 16, 17]⟩,
    ⟨none, (.store 64 (.t 14) (.t 35)), none, [15, 7, 18, 0, 1, 2, 3, 4, 5, 6, 7, 14, 15, 16, 17, 18]⟩,
    ⟨none, (.store 64 (.t 15) (.t 38)), none, [16, 10, 19, 0, 1, 2, 3, 4, 5, 6, 7, 8, 9, 10, 14, 15, 16, 17, 18, 19]⟩,
    ⟨none, (.store 64 (.t 16) (.t 41)), none, [17, 13, 20, 0, 1, 2, 3, 4, 5, 6, 7, 8, 9, 10, 11, 12, 13, 14, 15, 16, 17, 18, 19, 20]⟩] (some [(0, 1), (0, 2), (1, 2), (0, 4), (1, 4), (2, 4), (3, 4), (0, 5), (1, 5), (2, 5), (3, 5), (4, 5), (0, 6), (1, 6), (2, 6), (3, 6), (4, 6), (5, 6), (0, 8), (1, 8), (2, 8), (3, 8), (4, 8), (5, 8), (6, 8), (7, 8), (0, 9), (1, 9), (2, 9), (3, 9), (4, 9), (5, 9), (6, 9), (7, 9), (8, 9), (0, 11), (1, 11), (2, 11), (3, 11), (4, 11), (5, 11), (6, 11), (7, 11), (8, 11), (9, 11), (10, 11), (0, 12), (1, 12), (2, 12), (3, 12), (4, 12), (5, 12), (6, 12), (7, 12), (8, 12), (9, 12), (10, 12), (11, 12), (0, 14), (1, 14), (2, 14), (3, 14), (4, 14), (5, 14), (6, 14), (7, 14), (8, 14), (9, 14), (10, 14), (11, 14), (12, 14), (13, 14), (0, 15), (1, 15), (2, 15), (3, 15), (4, 15), (5, 15), (6, 15), (7, 15), (8, 15), (9, 15), (10, 15), (11, 15), (12, 15), (13, 15), (14, 15), (0, 16), (1, 16), (2, 16), (3, 16), (4, 16), (5, 16), (6, 16), (7, 16), (8, 16), (9, 16), (10, 16), (11, 16), (12, 16), (13, 16), (14, 16), (15, 16), (0, 17), (1, 17), (2, 17), (3, 17), (4, 17), (5, 17), (6, 17), (7, 17), (8, 17), (9, 17), (10, 17), (11, 17), (12, 17), (13, 17), (14, 17), (15, 17), (16, 17)])
def R6_2 : ACode := .region [⟨(some 140), (.mov (.t 17)), none, []⟩,
    ⟨(some 141), (.load (some 64) (.t 11)), none, []⟩,
    ⟨(some 142), (.call (.f 12) [(.t 141)]), none, [1]⟩,
    ⟨(some 143), (.bin .eql (.t 140) (.t 142)), none, [0, 2]⟩,
    ⟨(some 144), (.mov (.t 143)), none, [3, 2]⟩,
    ⟨(some 145), (.load none (.t 21)), (some (144, true)), [4]⟩,
    ⟨(some 146), (.mov (.t 17)), (some (144, true)), [4]⟩,
    ⟨(some 147), (.load none (.t 9)), (some (144, true)), [4]⟩,
    ⟨(some 148), (.conv .i64 (.t 147)), (some (144, true)), [7, 4]⟩,
    ⟨(some 149), (.bin .add (.t 148) (.c (.int .i64 1))), (some (144, true)), [8, 4]⟩,
    ⟨(some 150), (.min [(.t 146), (.t 149)]), (some (144, true)), [6, 9, 4]⟩,
    ⟨(some 151), (.bin .eql (.t 145) (.t 150)), (some (144, true)), [5, 10, 4]⟩,
    ⟨(some 152), (.pick (.t 144) (.t 151) (.c (.bool false))), none, [4, 11]⟩,
    ⟨(some 153), (.mov (.t 152)), none, [12, 4]⟩,
    ⟨(some 154), (.load (some 64) (.t 15)), (some (153, true)), [13]⟩,
    ⟨(some 155), (.call (.f 12) [(.t 154)]), (some (153, true)), [14, 13, 13]⟩,
    ⟨(some 156), (.load (some 64) (.t 16)), (some (153, true)), [13]⟩,
    ⟨(some 157), (.call (.f 12) [(.t 156)]), (some (153, true)), [16, 15, 13]⟩,
    ⟨(some 158), (.bin .add (.t 155) (.t 157)), (some (153, true)), [15, 17, 13]⟩,
    ⟨(some 159), (.load (some 64) (.t 11)), (some (153, true)), [13]⟩,
    ⟨(some 160), (.call (.f 12) [(.t 159)]), (some (153, true)), [19, 17, 13]⟩,
    ⟨(some 161), (.load (some 64) (.t 12)), (some (153, true)), [13]⟩,
    ⟨(some 162), (.call (.f 12) [(.t 161)]), (some (153, true)), [21, 20, 13]⟩,
    ⟨(some 163), (.bin .add (.t 160) (.t 162)), (some (153, true)), [20, 22, 13]⟩,
    ⟨(some 164), (.bin .eql (.t 158) (.t 163)), (some (153, true)), [18, 23, 13]⟩,
    ⟨(some 165), (.pick (.t 153) (.t 164) (.c (.bool false))), none, [13, 24]⟩,
    ⟨(some 166), (.mov (.t 165)), none, [25, 22]⟩,
    ⟨(some 167), (.call (.f 13) []), (some (166, true)), [26, 26]⟩,
    ⟨(some 168), (.pick (.t 166) (.t 167) (.c (.bool false))), none, [26, 27]⟩,
    ⟨none, (.store 1 (.t 10) (.t 168)), none, [28, 27, 0, 1, 2, 3, 4, 5, 6, 7, 8, 9, 10, 11, 12, 13, 14, 15, 16, 17, 18, 19, 20, 21, 22, 23, 24, 25, 26, 27, 28]⟩] (some [(0, 1), (0, 2), (5, 6), (5, 7), (6, 7), (5, 8), (6, 8), (5, 9), (6, 9), (5, 10), (14, 16), (15, 16), (14, 19), (15, 19), (16, 19), (17, 19), (18, 19), (18, 20), (14, 21), (15, 21), (16, 21), (17, 21), (18, 21), (19, 21), (20, 21), (18, 22), (18, 23)])
/-- toll/tolllaw14.VsetNumbers -/
def F6L0 : ACode := (.seq (.seq (.region [⟨(some 42), (.mov (.t 18)), none, []⟩,
    ⟨(some 43), (.bin .leq (.t 42) (.c (.int .i64 4096))), none, []⟩] none)
  (.cond (.t 43)
  .skip
  (.exit 0)))
  (.seq (.block 1 (.seq (.region [⟨(some 46), (.mov (.t 18)), none, []⟩,
    ⟨(some 47), (.mov (.t 2)), none, []⟩,
    ⟨(some 48), (.bin .geq (.t 46) (.t 47)), none, []⟩,
    ⟨(some 49), (.mov (.t 48)), none, []⟩,
    ⟨(some 50), (.mov (.t 18)), (some (49, true)), []⟩,
    ⟨(some 51), (.mov (.t 3)), (some (49, true)), []⟩,
    ⟨(some 52), (.bin .leq (.t 50) (.t 51)), (some (49, true)), []⟩,
    ⟨(some 53), (.pick (.t 49) (.t 52) (.c (.bool false))), none, []⟩,
    ⟨(some 54), (.mov (.t 53)), none, []⟩,
    ⟨(some 55), (.mov (.t 18)), (some (54, true)), []⟩,
    ⟨(some 56), (.bin .geq (.t 55) (.c (.int .i64 1))), (some (54, true)), []⟩,
    ⟨(some 57), (.pick (.t 54) (.t 56) (.c (.bool false))), none, []⟩,
    ⟨(some 58), (.mov (.t 57)), none, []⟩,
    ⟨(some 59), (.mov (.t 18)), (some (58, true)), []⟩,
    ⟨(some 60), (.bin .leq (.t 59) (.c (.int .i64 4094))), (some (58, true)), []⟩,
    ⟨(some 61), (.pick (.t 58) (.t 60) (.c (.bool false))), none, []⟩,
    ⟨(some 19), (.mov (.t 61)), none, []⟩] none)
  (.seq (.seq R6_0
  (.cond (.t 112)
  (.seq (.region [⟨none, (.store 1 (.t 10) (.c (.bool false))), none, []⟩] none)
  .ret)
  .skip))
  (.seq (.region [⟨(some 113), (.load (some 64) (.t 11)), none, []⟩,
    ⟨(some 114), (.mov (.t 18)), none, []⟩,
    ⟨(some 115), (.call (.f 16) [(.t 113), (.t 114)]), none, []⟩] none)
  (.cond (.t 115)
  (.region [⟨(some 116), (.mov (.t 17)), none, []⟩,
    ⟨(some 117), (.bin .add (.t 116) (.c (.int .i64 1))), none, []⟩,
    ⟨(some 17), (.mov (.t 117)), none, []⟩] none)
  .skip)))))
  (.region [⟨(some 44), (.mov (.t 18)), none, []⟩,
    ⟨(some 45), (.bin .add (.t 44) (.c (.int .i64 1))), none, []⟩,
    ⟨(some 18), (.mov (.t 45)), none, []⟩] none)))
def F6L1A : ACode := (.region [⟨(some 23), (.mov (.t 123)), none, []⟩] none)
def F6L1B : ACode := (.block 3 (.seq (.seq (.region [⟨(some 124), (.mov (.t 23)), none, []⟩,
    ⟨(some 125), (.load none (.t 22)), none, []⟩,
    ⟨(some 126), (.bin .leq (.t 124) (.t 125)), none, []⟩,
    ⟨(some 127), (.mov (.t 126)), none, []⟩,
    ⟨(some 128), (.load (some 64) (.t 11)), (some (127, false)), []⟩,
    ⟨(some 129), (.mov (.t 23)), (some (127, false)), []⟩,
    ⟨(some 130), (.call (.f 16) [(.t 128), (.t 129)]), (some (127, false)), []⟩,
    ⟨(some 131), (.un .not (.t 130)), (some (127, false)), []⟩,
    ⟨(some 132), (.pick (.t 127) (.c (.bool true)) (.t 131)), none, []⟩] none)
  (.cond (.t 132)
  (.seq (.region [⟨none, (.store 1 (.t 10) (.c (.bool false))), none, []⟩] none)
  .ret)
  .skip))
  (.seq (.region [⟨(some 133), (.mov (.t 23)), none, []⟩,
    ⟨none, (.store 1 (.t 22) (.t 133)), none, []⟩] none)
  (.seq (.region [⟨(some 134), (.load none (.t 21)), none, []⟩,
    ⟨(some 135), (.bin .add (.t 134) (.c (.int .i64 1))), none, []⟩,
    ⟨none, (.store 1 (.t 21) (.t 135)), none, []⟩] none)
  (.seq (.region [⟨(some 136), (.load none (.t 21)), none, []⟩,
    ⟨(some 137), (.load none (.t 9)), none, []⟩,
    ⟨(some 138), (.conv .i64 (.t 137)), none, []⟩,
    ⟨(some 139), (.bin .gtr (.t 136) (.t 138)), none, []⟩] none)
  (.cond (.t 139)
  (.exit 2)
  .skip))))))
def B6 : ACode := (.seq (.region [⟨(some 9), (.box 53 (.t 4)), none, []⟩,
    ⟨(some 10), (.alloc 4 [(.bool false)]), none, []⟩] none)
  (.seq (.region [⟨(some 24), (.mov (.t 0)), none, []⟩,
    ⟨(some 25), (.call (.f 7) [(.t 24)]), none, []⟩,
    ⟨(some 26), (.mov (.t 1)), none, []⟩,
    ⟨(some 27), (.call (.f 7) [(.t 26)]), none, []⟩,
    ⟨(some 11), (.alloc 26 (List.replicate 64 (.int .u64 0))), none, []⟩,
    ⟨(some 12), (.alloc 26 (List.replicate 64 (.int .u64 0))), none, []⟩,
    ⟨none, (.store 64 (.t 11) (.t 25)), none, []⟩,
    ⟨none, (.store 64 (.t 12) (.t 27)), none, []⟩] none)
  (.seq R6_1
  (.seq (.region [⟨(some 17), (.mov (.c (.int .i64 0))), none, []⟩] none)
  (.seq (.seq (.region [⟨(some 18), (.mov (.c (.int .i64 (-1)))), none, []⟩] none)
  (.block 0 (.loop F6L0)))
  (.seq (.region [⟨(some 118), (.load (some 64) (.t 11)), none, []⟩,
    ⟨(some 119), (.call (.f 24) [(.t 118)]), none, []⟩,
    ⟨(some 20), (.mov (.t 119)), none, []⟩] none)
  (.seq (.seq (.region [⟨(some 120), (.mov (.t 20)), none, []⟩,
    ⟨(some 121), (.eqv false .func false (.t 120) (.c .nilFunc)), none, []⟩] none)
  (.cond (.t 121)
  (.seq (.region [⟨none, (.store 1 (.t 10) (.c (.bool false))), none, []⟩] none)
  .ret)
  .skip))
  (.seq (.region [⟨(some 21), (.alloc 3 [(.int .i64 0)]), none, []⟩,
    ⟨(some 22), (.alloc 3 [(.int .i64 0)]), none, []⟩,
    ⟨none, (.store 1 (.t 21) (.c (.int .i64 0))), none, []⟩,
    ⟨none, (.store 1 (.t 22) (.c (.int .i64 0))), none, []⟩] none)
  (.seq (.seq (.region [⟨(some 122), (.mov (.t 20)), none, []⟩] none)
  (.block 2 (.ranges (.t 122) [123] F6L1A F6L1B)))
  (.seq R6_2
  .ret))))))))))
def F6 : AFunc := ⟨5, 169, [(.cell 10 none)], B6⟩
-- F6L0 live: [2, 3, 9, 10, 11, 12, 13, 14, 15, 16, 17, 18]

-- F6L1 live: [9, 10, 11, 12, 15, 16, 17, 21, 22, 122]
def R7_0 : ACode := .region [⟨(some 37), (.load (some 64) (.t 3)), none, []⟩,
    ⟨(some 38), (.build (List.replicate 64 (.int .u64 0)) []), none, []⟩,
    ⟨(some 39), (.fieldAddr 1 (.t 5)), none, []⟩,
    ⟨(some 40), (.load none (.t 39)), none, [2]⟩,
    ⟨(some 41), (.fieldAddr 2 (.t 5)), none, []⟩,
    ⟨(some 42), (.load none (.t 41)), none, [4]⟩,
    ⟨(some 43), (.call (.f 11) [(.t 38), (.t 40), (.t 42)]), none, [1, 3, 5]⟩,
    ⟨(some 44), (.call (.f 21) [(.t 37), (.t 43)]), none, [0, 6, 6]⟩,
    ⟨none, (.store 64 (.t 3) (.t 44)), none, [7, 7, 0, 1, 2, 3, 4, 5, 6, 7]⟩] (some [(0, 1), (0, 2), (1, 2), (0, 3), (1, 3), (0, 4), (1, 4), (2, 4), (3, 4), (0, 5), (1, 5), (2, 5), (3, 5), (0, 6)])
def R7_1 : ACode := .region [⟨(some 47), (.load (some 64) (.t 3)), none, []⟩,
    ⟨(some 48), (.fieldAddr 1 (.t 5)), none, []⟩,
    ⟨(some 49), (.load none (.t 48)), none, [1]⟩,
    ⟨(some 50), (.fieldAddr 2 (.t 5)), none, []⟩,
    ⟨(some 51), (.load none (.t 50)), none, [3]⟩,
    ⟨(some 52), (.buildSlice 3 1 2 [(.int .i64 0)] [(0, 1, (.t 49)), (1, 1, (.t 51))]), none, [2, 4]⟩,
    ⟨(some 53), (.call (.f 15) [(.t 52)]), none, [5]⟩,
    ⟨(some 54), (.call (.f 19) [(.t 47), (.t 53)]), none, [0, 6, 6]⟩,
    ⟨none, (.store 64 (.t 3) (.t 54)), none, [7, 7, 0, 1, 2, 3, 4, 5, 6, 7]⟩] (some [(0, 1), (0, 2), (0, 3), (1, 3), (2, 3), (0, 4), (1, 4), (2, 4), (0, 5), (0, 6)])
/-- toll/tolllaw14.made -/
def F7L0 : ACode := (.seq (.region [⟨(some 9), (.bin .lss (.t 8) (.t 7)), none, []⟩] none)
  (.seq (.cond (.t 9)
  .skip
  (.exit 0))
  (.seq (.block 1 (.seq (.region [⟨(some 10), (.mov (.t 8)), none, []⟩,
    ⟨(some 11), (.indexAddr 3 (.t 6) (.t 8)), none, []⟩,
    ⟨(some 12), (.load (some 3) (.t 11)), none, []⟩,
    ⟨(some 5), (.alloc 47 [(.int .i64 0), (.int .i64 0), (.int .i64 0)]), none, []⟩,
    ⟨(some 4), (.mov (.t 10)), none, []⟩,
    ⟨none, (.store 3 (.t 5) (.t 12)), none, []⟩] none)
  (.seq (.seq (.region [⟨(some 13), (.mov (.t 4)), none, []⟩,
    ⟨(some 14), (.bin .eql (.t 13) (.c (.int .i64 20))), none, []⟩] none)
  (.cond (.t 14)
  (.exit 0)
  .skip))
  (.seq (.region [⟨(some 15), (.fieldAddr 0 (.t 5)), none, []⟩,
    ⟨(some 16), (.load none (.t 15)), none, []⟩] none)
  (.block 2 (.seq (.seq (.region [⟨(some 18), (.bin .eql (.t 16) (.c (.int .i64 0))), none, []⟩,
    ⟨(some 17), (.mov (.t 18)), none, []⟩] none)
  (.cond (.t 17)
  .skip
  (.seq (.region [⟨(some 19), (.bin .eql (.t 16) (.c (.int .i64 1))), none, []⟩,
    ⟨(some 17), (.mov (.t 19)), none, []⟩] none)
  (.cond (.t 17)
  .skip
  (.region [⟨(some 20), (.bin .eql (.t 16) (.c (.int .i64 3))), none, []⟩,
    ⟨(some 17), (.mov (.t 20)), none, []⟩] none)))))
  (.cond (.t 17)
  (.region [⟨(some 21), (.load (some 64) (.t 3)), none, []⟩,
    ⟨(some 22), (.fieldAddr 1 (.t 5)), none, []⟩,
    ⟨(some 23), (.load none (.t 22)), none, []⟩,
    ⟨(some 24), (.fieldAddr 2 (.t 5)), none, []⟩,
    ⟨(some 25), (.load none (.t 24)), none, []⟩,
    ⟨(some 26), (.call (.f 11) [(.t 21), (.t 23), (.t 25)]), none, []⟩,
    ⟨none, (.store 64 (.t 3) (.t 26)), none, []⟩] none)
  (.seq (.region [⟨(some 28), (.bin .eql (.t 16) (.c (.int .i64 2))), none, []⟩,
    ⟨(some 27), (.mov (.t 28)), none, []⟩] none)
  (.cond (.t 27)
  (.region [⟨(some 29), (.load (some 64) (.t 3)), none, []⟩,
    ⟨(some 30), (.fieldAddr 1 (.t 5)), none, []⟩,
    ⟨(some 31), (.load none (.t 30)), none, []⟩,
    ⟨(some 32), (.fieldAddr 2 (.t 5)), none, []⟩,
    ⟨(some 33), (.load none (.t 32)), none, []⟩,
    ⟨(some 34), (.call (.f 17) [(.t 29), (.t 31), (.t 33)]), none, []⟩,
    ⟨none, (.store 64 (.t 3) (.t 34)), none, []⟩] none)
  (.seq (.region [⟨(some 36), (.bin .eql (.t 16) (.c (.int .i64 4))), none, []⟩,
    ⟨(some 35), (.mov (.t 36)), none, []⟩] none)
  (.cond (.t 35)
  R7_0
  (.seq (.region [⟨(some 46), (.bin .eql (.t 16) (.c (.int .i64 5))), none, []⟩,
    ⟨(some 45), (.mov (.t 46)), none, []⟩] none)
  (.cond (.t 45)
  R7_1
  .skip)))))))))))))
  (.region [⟨(some 55), (.bin .add (.t 8) (.c (.int .i64 1))), none, []⟩,
    ⟨(some 8), (.mov (.t 55)), none, []⟩] none))))
def B7 : ACode := (.seq (.region [⟨(some 2), (.alloc 26 (List.replicate 64 (.int .u64 0))), none, []⟩] none)
  (.seq (.region [⟨(some 3), (.alloc 26 (List.replicate 64 (.int .u64 0))), none, []⟩] none)
  (.seq (.seq (.region [⟨(some 6), (.mov (.t 0)), none, []⟩,
    ⟨(some 7), (.lenSlice (.t 6)), none, []⟩,
    ⟨(some 8), (.mov (.c (.int .i64 0))), none, []⟩] none)
  (.block 0 (.loop F7L0)))
  (.seq (.region [⟨(some 56), (.load (some 64) (.t 3)), none, []⟩,
    ⟨none, (.store 64 (.t 2) (.t 56)), none, []⟩] none)
  .ret))))
def F7 : AFunc := ⟨1, 57, [(.cell 2 (some 64))], B7⟩
-- F7L0 live: [2, 3, 6, 7, 8]
/-- toll/vset.Parse -/
def F8L0 : ACode := (.seq (.region [⟨(some 21), (.bin .lss (.t 20) (.t 19)), none, []⟩] none)
  (.seq (.cond (.t 21)
  .skip
  (.exit 1))
  (.seq (.block 2 (.seq (.region [⟨(some 22), (.indexAddr 1 (.t 18) (.t 20)), none, []⟩,
    ⟨(some 23), (.load none (.t 22)), none, []⟩,
    ⟨(some 7), (.mov (.t 23)), none, []⟩] none)
  (.seq (.region [⟨(some 25), (.mov (.t 7)), none, []⟩,
    ⟨(some 26), (.call (.f 26) [(.t 25)]), none, []⟩,
    ⟨(some 24), (.mov (.t 26)), none, []⟩,
    ⟨(some 27), (.extract (.t 24) 0), none, []⟩,
    ⟨(some 28), (.extract (.t 24) 1), none, []⟩,
    ⟨(some 8), (.alloc 35 [(.int .i64 0), (.int .i64 0)]), none, []⟩,
    ⟨none, (.store 2 (.t 8) (.t 27)), none, []⟩,
    ⟨(some 9), (.mov (.t 28)), none, []⟩] none)
  (.seq (.seq (.region [⟨(some 29), (.mov (.t 9)), none, []⟩,
    ⟨(some 30), (.un .not (.t 29)), none, []⟩] none)
  (.cond (.t 30)
  (.seq (.region [⟨(some 31), (.build (List.replicate 64 (.int .u64 0)) []), none, []⟩,
    ⟨none, (.store 64 (.t 2) (.t 31)), none, []⟩,
    ⟨(some 3), (.mov (.c (.int .i64 5))), none, []⟩] none)
  .ret)
  .skip))
  (.seq (.region [⟨(some 32), (.mov (.t 5)), none, []⟩,
    ⟨(some 33), (.mov (.t 32)), none, []⟩,
    ⟨(some 34), (.fieldAddr 1 (.t 8)), (some (33, false)), []⟩,
    ⟨(some 35), (.load none (.t 34)), (some (33, false)), []⟩,
    ⟨(some 36), (.bin .gtr (.t 35) (.c (.int .i64 4094))), (some (33, false)), []⟩,
    ⟨(some 37), (.pick (.t 33) (.c (.bool true)) (.t 36)), none, []⟩,
    ⟨(some 38), (.mov (.t 37)), none, []⟩,
    ⟨(some 39), (.fieldAddr 0 (.t 8)), (some (38, false)), []⟩,
    ⟨(some 40), (.load none (.t 39)), (some (38, false)), []⟩,
    ⟨(some 41), (.fieldAddr 1 (.t 8)), (some (38, false)), []⟩,
    ⟨(some 42), (.load none (.t 41)), (some (38, false)), []⟩,
    ⟨(some 43), (.bin .gtr (.t 40) (.t 42)), (some (38, false)), []⟩,
    ⟨(some 44), (.pick (.t 38) (.c (.bool true)) (.t 43)), none, []⟩,
    ⟨(some 5), (.mov (.t 44)), none, []⟩] none)
  (.region [⟨(some 45), (.load (some 64) (.t 4)), none, []⟩,
    ⟨(some 46), (.fieldAddr 0 (.t 8)), none, []⟩,
    ⟨(some 47), (.load none (.t 46)), none, []⟩,
    ⟨(some 48), (.fieldAddr 1 (.t 8)), none, []⟩,
    ⟨(some 49), (.load none (.t 48)), none, []⟩,
    ⟨(some 50), (.call (.f 11) [(.t 45), (.t 47), (.t 49)]), none, []⟩,
    ⟨none, (.store 64 (.t 4) (.t 50)), none, []⟩] none))))))
  (.region [⟨(some 51), (.bin .add (.t 20) (.c (.int .i64 1))), none, []⟩,
    ⟨(some 20), (.mov (.t 51)), none, []⟩] none))))
def B8 : ACode := (.seq (.region [⟨(some 2), (.alloc 26 (List.replicate 64 (.int .u64 0))), none, []⟩,
    ⟨(some 3), (.mov (.c (.int .i64 0))), none, []⟩] none)
  (.seq (.seq (.region [⟨(some 10), (.mov (.t 0)), none, []⟩] none)
  (.block 0 (.seq (.region [⟨(some 12), (.bin .eql (.t 10) (.c (.string ⟨#[110, 111, 110, 101]⟩))), none, []⟩,
    ⟨(some 11), (.mov (.t 12)), none, []⟩] none)
  (.cond (.t 11)
  (.seq (.region [⟨(some 13), (.build (List.replicate 64 (.int .u64 0)) []), none, []⟩,
    ⟨none, (.store 64 (.t 2) (.t 13)), none, []⟩,
    ⟨(some 3), (.mov (.c (.int .i64 0))), none, []⟩] none)
  .ret)
  (.seq (.region [⟨(some 15), (.bin .eql (.t 10) (.c (.string ⟨#[97, 108, 108]⟩))), none, []⟩,
    ⟨(some 14), (.mov (.t 15)), none, []⟩] none)
  (.cond (.t 14)
  (.seq (.region [⟨(some 16), (.call (.f 14) []), none, []⟩,
    ⟨none, (.store 64 (.t 2) (.t 16)), none, []⟩,
    ⟨(some 3), (.mov (.c (.int .i64 0))), none, []⟩] none)
  .ret)
  .skip))))))
  (.seq (.region [⟨(some 4), (.alloc 26 (List.replicate 64 (.int .u64 0))), none, []⟩] none)
  (.seq (.region [⟨(some 5), (.mov (.c (.bool false))), none, []⟩] none)
  (.seq (.seq (.region [⟨(some 17), (.mov (.t 0)), none, []⟩,
    ⟨(some 18), (.call (.f 25) [(.t 17), (.c (.string ⟨#[44]⟩))]), none, []⟩,
    ⟨(some 19), (.lenSlice (.t 18)), none, []⟩,
    ⟨(some 20), (.mov (.c (.int .i64 0))), none, []⟩] none)
  (.block 1 (.loop F8L0)))
  (.seq (.seq (.region [⟨(some 52), (.mov (.t 5)), none, []⟩] none)
  (.cond (.t 52)
  (.seq (.region [⟨(some 53), (.build (List.replicate 64 (.int .u64 0)) []), none, []⟩,
    ⟨none, (.store 64 (.t 2) (.t 53)), none, []⟩,
    ⟨(some 3), (.mov (.c (.int .i64 24))), none, []⟩] none)
  .ret)
  .skip))
  (.seq (.region [⟨(some 54), (.load (some 64) (.t 4)), none, []⟩,
    ⟨none, (.store 64 (.t 2) (.t 54)), none, []⟩,
    ⟨(some 3), (.mov (.c (.int .i64 0))), none, []⟩] none)
  .ret)))))))
def F8 : AFunc := ⟨1, 55, [(.cell 2 (some 64)), (.tmp 3)], B8⟩
-- F8L0 live: [2, 4, 5, 18, 19, 20]
def R9_0 : ACode := .region [⟨(some 10), (.load (some 64) (.t 1)), none, []⟩,
    ⟨(some 11), (.call (.f 14) []), none, []⟩,
    ⟨(some 12), (.eqAgg false (List.replicate 64 .int) (.t 10) (.t 11)), none, [0, 1]⟩] (some [(0, 1)])
/-- (toll/vset.Set).Text -/
def F9L0 : ACode := (.seq (.region [⟨(some 17), (.bin .lss (.t 16) (.t 15)), none, []⟩] none)
  (.seq (.cond (.t 17)
  .skip
  (.exit 0))
  (.seq (.block 1 (.seq (.region [⟨(some 18), (.indexAddr 2 (.t 14) (.t 16)), none, []⟩,
    ⟨(some 19), (.load (some 2) (.t 18)), none, []⟩,
    ⟨(some 5), (.alloc 35 [(.int .i64 0), (.int .i64 0)]), none, []⟩,
    ⟨none, (.store 2 (.t 5) (.t 19)), none, []⟩] none)
  (.seq (.region [⟨(some 20), (.fieldAddr 0 (.t 5)), none, []⟩,
    ⟨(some 21), (.load none (.t 20)), none, []⟩,
    ⟨(some 22), (.call (.f 27) [(.t 21)]), none, []⟩,
    ⟨(some 6), (.mov (.t 22)), none, []⟩] none)
  (.seq (.seq (.region [⟨(some 23), (.fieldAddr 1 (.t 5)), none, []⟩,
    ⟨(some 24), (.load none (.t 23)), none, []⟩,
    ⟨(some 25), (.fieldAddr 0 (.t 5)), none, []⟩,
    ⟨(some 26), (.load none (.t 25)), none, []⟩,
    ⟨(some 27), (.bin .gtr (.t 24) (.t 26)), none, []⟩] none)
  (.cond (.t 27)
  (.region [⟨(some 28), (.mov (.t 6)), none, []⟩,
    ⟨(some 29), (.fieldAddr 1 (.t 5)), none, []⟩,
    ⟨(some 30), (.load none (.t 29)), none, []⟩,
    ⟨(some 31), (.call (.f 27) [(.t 30)]), none, []⟩,
    ⟨(some 32), (.bin .add (.c (.string ⟨#[45]⟩)) (.t 31)), none, []⟩,
    ⟨(some 33), (.bin .add (.t 28) (.t 32)), none, []⟩,
    ⟨(some 6), (.mov (.t 33)), none, []⟩] none)
  .skip))
  (.region [⟨(some 34), (.mov (.t 3)), none, []⟩,
    ⟨(some 35), (.mov (.t 6)), none, []⟩,
    ⟨(some 36), (.buildSlice 9 1 1 [(.string ⟨#[]⟩)] [(0, 1, (.t 35))]), none, []⟩,
    ⟨(some 37), (.append 9 1 16 (.t 34) (.t 36)), none, []⟩,
    ⟨(some 3), (.mov (.t 37)), none, []⟩] none)))))
  (.region [⟨(some 38), (.bin .add (.t 16) (.c (.int .i64 1))), none, []⟩,
    ⟨(some 16), (.mov (.t 38)), none, []⟩] none))))
def B9 : ACode := (.seq (.region [⟨(some 1), (.box 26 (.t 0)), none, []⟩,
    ⟨(some 2), (.mov (.c (.string ⟨#[]⟩))), none, []⟩] none)
  (.seq (.seq (.region [⟨(some 7), (.load (some 64) (.t 1)), none, []⟩,
    ⟨(some 8), (.build (List.replicate 64 (.int .u64 0)) []), none, []⟩,
    ⟨(some 9), (.eqAgg false (List.replicate 64 .int) (.t 7) (.t 8)), none, []⟩] none)
  (.cond (.t 9)
  (.seq (.region [⟨(some 2), (.mov (.c (.string ⟨#[110, 111, 110, 101]⟩))), none, []⟩] none)
  .ret)
  .skip))
  (.seq (.seq R9_0
  (.cond (.t 12)
  (.seq (.region [⟨(some 2), (.mov (.c (.string ⟨#[97, 108, 108]⟩))), none, []⟩] none)
  .ret)
  .skip))
  (.seq (.region [⟨(some 3), (.mov (.c (.slice none 0 0))), none, []⟩] none)
  (.seq (.seq (.region [⟨(some 13), (.load (some 64) (.t 1)), none, []⟩,
    ⟨(some 14), (.call (.f 10) [(.t 13)]), none, []⟩,
    ⟨(some 15), (.lenSlice (.t 14)), none, []⟩,
    ⟨(some 16), (.mov (.c (.int .i64 0))), none, []⟩] none)
  (.block 0 (.loop F9L0)))
  (.seq (.region [⟨(some 39), (.mov (.t 3)), none, []⟩,
    ⟨(some 40), (.call (.f 28) [(.t 39), (.c (.string ⟨#[44]⟩))]), none, []⟩,
    ⟨(some 2), (.mov (.t 40)), none, []⟩] none)
  .ret))))))
def F9 : AFunc := ⟨1, 41, [(.tmp 2)], B9⟩
-- F9L0 live: [3, 14, 15, 16]
/-- (toll/vset.Set).Ranges -/
def F10L0A : ACode := (.region [⟨(some 4), (.mov (.t 8)), none, []⟩] none)
def F10L0B : ACode := (.block 1 (.seq (.seq (.region [⟨(some 9), (.load none (.t 3)), none, []⟩,
    ⟨(some 10), (.lenSlice (.t 9)), none, []⟩,
    ⟨(some 11), (.bin .sub (.t 10) (.c (.int .i64 1))), none, []⟩,
    ⟨(some 5), (.mov (.t 11)), none, []⟩] none)
  (.seq (.region [⟨(some 12), (.mov (.t 5)), none, []⟩,
    ⟨(some 13), (.bin .geq (.t 12) (.c (.int .i64 0))), none, []⟩,
    ⟨(some 14), (.mov (.t 13)), none, []⟩,
    ⟨(some 15), (.load none (.t 3)), (some (14, true)), []⟩,
    ⟨(some 16), (.mov (.t 5)), (some (14, true)), []⟩,
    ⟨(some 17), (.indexAddr 2 (.t 15) (.t 16)), (some (14, true)), []⟩,
    ⟨(some 18), (.fieldAddr 1 (.t 17)), (some (14, true)), []⟩,
    ⟨(some 19), (.load none (.t 18)), (some (14, true)), []⟩,
    ⟨(some 20), (.mov (.t 4)), (some (14, true)), []⟩,
    ⟨(some 21), (.bin .sub (.t 20) (.c (.int .i64 1))), (some (14, true)), []⟩,
    ⟨(some 22), (.bin .eql (.t 19) (.t 21)), (some (14, true)), []⟩,
    ⟨(some 23), (.pick (.t 14) (.t 22) (.c (.bool false))), none, []⟩] none)
  (.cond (.t 23)
  (.seq (.region [⟨(some 24), (.load none (.t 3)), none, []⟩,
    ⟨(some 25), (.mov (.t 5)), none, []⟩,
    ⟨(some 26), (.mov (.t 4)), none, []⟩,
    ⟨(some 27), (.indexAddr 2 (.t 24) (.t 25)), none, []⟩,
    ⟨(some 28), (.fieldAddr 1 (.t 27)), none, []⟩,
    ⟨none, (.store 1 (.t 28) (.t 26)), none, []⟩] none)
  (.exit 1))
  .skip)))
  (.region [⟨(some 29), (.load none (.t 3)), none, []⟩,
    ⟨(some 30), (.mov (.t 4)), none, []⟩,
    ⟨(some 31), (.mov (.t 4)), none, []⟩,
    ⟨(some 32), (.build [(.int .i64 0), (.int .i64 0)] [(0, 1, (.t 30)), (1, 1, (.t 31))]), none, []⟩,
    ⟨(some 33), (.buildSlice 35 2 1 [(.int .i64 0), (.int .i64 0)] [(0, 2, (.t 32))]), none, []⟩,
    ⟨(some 34), (.append 35 2 16 (.t 29) (.t 33)), none, []⟩,
    ⟨none, (.store 1 (.t 3) (.t 34)), none, []⟩] none)))
def B10 : ACode := (.seq (.region [⟨(some 1), (.box 26 (.t 0)), none, []⟩,
    ⟨(some 2), (.mov (.c (.slice none 0 0))), none, []⟩] none)
  (.seq (.region [⟨(some 3), (.alloc 32 [(.slice none 0 0)]), none, []⟩] none)
  (.seq (.seq (.region [⟨(some 6), (.load (some 64) (.t 1)), none, []⟩,
    ⟨(some 7), (.call (.f 24) [(.t 6)]), none, []⟩] none)
  (.block 0 (.ranges (.t 7) [8] F10L0A F10L0B)))
  (.seq (.region [⟨(some 35), (.load none (.t 3)), none, []⟩,
    ⟨(some 2), (.mov (.t 35)), none, []⟩] none)
  .ret))))
def F10 : AFunc := ⟨1, 36, [(.tmp 2)], B10⟩
-- F10L0 live: [2, 3, 7]
def R11_0 : ACode := .region [⟨(some 7), (.load (some 64) (.t 3)), none, []⟩,
    ⟨(some 8), (.mov (.t 1)), none, []⟩,
    ⟨(some 9), (.mov (.t 2)), none, []⟩,
    ⟨(some 10), (.call (.f 29) [(.t 8), (.t 9)]), none, [1, 2]⟩,
    ⟨(some 11), (.call (.f 19) [(.t 7), (.t 10)]), none, [0, 3, 3]⟩,
    ⟨none, (.store 64 (.t 6) (.t 11)), none, [4, 4, 0, 1, 2, 3, 4]⟩] (some [(0, 1), (0, 2), (1, 2), (0, 3)])
/-- (toll/vset.Set).With -/
def B11 : ACode := (.seq (.region [⟨(some 3), (.box 26 (.t 0)), none, []⟩,
    ⟨(some 6), (.alloc 26 (List.replicate 64 (.int .u64 0))), none, []⟩] none)
  (.seq R11_0
  .ret))
def F11 : AFunc := ⟨3, 12, [(.cell 6 (some 64))], B11⟩
/-- (toll/vset.Set).Len -/
def F12L0 : ACode := (.seq (.region [⟨(some 9), (.bin .lss (.t 8) (.c (.int .i64 64))), none, []⟩] none)
  (.seq (.cond (.t 9)
  .skip
  (.exit 0))
  (.seq (.block 1 (.seq (.region [⟨(some 10), (.index 1 64 none (.t 7) (.t 8)), none, []⟩,
    ⟨(some 5), (.mov (.t 10)), none, []⟩] none)
  (.region [⟨(some 11), (.mov (.t 3)), none, []⟩,
    ⟨(some 12), (.mov (.t 5)), none, []⟩,
    ⟨(some 13), (.call (.f 30) [(.t 12)]), none, []⟩,
    ⟨(some 14), (.bin .add (.t 11) (.t 13)), none, []⟩,
    ⟨(some 3), (.mov (.t 14)), none, []⟩] none)))
  (.region [⟨(some 15), (.bin .add (.t 8) (.c (.int .i64 1))), none, []⟩,
    ⟨(some 8), (.mov (.t 15)), none, []⟩] none))))
def B12 : ACode := (.seq (.region [⟨(some 1), (.box 26 (.t 0)), none, []⟩,
    ⟨(some 2), (.mov (.c (.int .i64 0))), none, []⟩] none)
  (.seq (.region [⟨(some 3), (.mov (.c (.int .i64 0))), none, []⟩] none)
  (.seq (.seq (.region [⟨(some 6), (.fieldAddr 0 (.t 1)), none, []⟩,
    ⟨(some 7), (.load (some 64) (.t 6)), none, []⟩,
    ⟨(some 8), (.mov (.c (.int .i64 0))), none, []⟩] none)
  (.block 0 (.loop F12L0)))
  (.seq (.region [⟨(some 16), (.mov (.t 3)), none, []⟩,
    ⟨(some 2), (.mov (.t 16)), none, []⟩] none)
  .ret))))
def F12 : AFunc := ⟨1, 17, [(.tmp 2)], B12⟩
-- F12L0 live: [3, 7, 8]
/-- toll/tolllaw14.tells -/
def B13 : ACode := (.seq (.region [⟨(some 0), (.mov (.c (.bool false))), none, []⟩] none)
  (.seq (.region [⟨(some 12), (.call (.f 8) [(.c (.string ⟨#[53, 44, 51, 45, 52, 44, 49, 48]⟩))]), none, []⟩,
    ⟨(some 11), (.mov (.t 12)), none, []⟩,
    ⟨(some 13), (.extract (.t 11) 0), none, []⟩,
    ⟨(some 14), (.extract (.t 11) 1), none, []⟩,
    ⟨(some 1), (.alloc 26 (List.replicate 64 (.int .u64 0))), none, []⟩,
    ⟨none, (.store 64 (.t 1) (.t 13)), none, []⟩,
    ⟨(some 2), (.mov (.t 14)), none, []⟩] none)
  (.seq (.region [⟨(some 16), (.call (.f 8) [(.c (.string ⟨#[49, 45, 52, 48, 57, 52]⟩))]), none, []⟩,
    ⟨(some 15), (.mov (.t 16)), none, []⟩,
    ⟨(some 17), (.extract (.t 15) 0), none, []⟩,
    ⟨(some 18), (.extract (.t 15) 1), none, []⟩,
    ⟨(some 3), (.alloc 26 (List.replicate 64 (.int .u64 0))), none, []⟩,
    ⟨none, (.store 64 (.t 3) (.t 17)), none, []⟩,
    ⟨(some 4), (.mov (.t 18)), none, []⟩] none)
  (.seq (.region [⟨(some 20), (.call (.f 8) [(.c (.string ⟨#[52, 48, 57, 53]⟩))]), none, []⟩,
    ⟨(some 19), (.mov (.t 20)), none, []⟩,
    ⟨(some 21), (.extract (.t 19) 0), none, []⟩,
    ⟨(some 22), (.extract (.t 19) 1), none, []⟩,
    ⟨(some 5), (.alloc 26 (List.replicate 64 (.int .u64 0))), none, []⟩,
    ⟨none, (.store 64 (.t 5) (.t 21)), none, []⟩,
    ⟨(some 6), (.mov (.t 22)), none, []⟩] none)
  (.seq (.region [⟨(some 24), (.call (.f 8) [(.c (.string ⟨#[53, 45, 51]⟩))]), none, []⟩,
    ⟨(some 23), (.mov (.t 24)), none, []⟩,
    ⟨(some 25), (.extract (.t 23) 0), none, []⟩,
    ⟨(some 26), (.extract (.t 23) 1), none, []⟩,
    ⟨(some 7), (.alloc 26 (List.replicate 64 (.int .u64 0))), none, []⟩,
    ⟨none, (.store 64 (.t 7) (.t 25)), none, []⟩,
    ⟨(some 8), (.mov (.t 26)), none, []⟩] none)
  (.seq (.region [⟨(some 28), (.call (.f 8) [(.c (.string ⟨#[48, 53]⟩))]), none, []⟩,
    ⟨(some 27), (.mov (.t 28)), none, []⟩,
    ⟨(some 29), (.extract (.t 27) 0), none, []⟩,
    ⟨(some 30), (.extract (.t 27) 1), none, []⟩,
    ⟨(some 9), (.alloc 26 (List.replicate 64 (.int .u64 0))), none, []⟩,
    ⟨none, (.store 64 (.t 9) (.t 29)), none, []⟩,
    ⟨(some 10), (.mov (.t 30)), none, []⟩] none)
  (.seq (.region [⟨(some 31), (.mov (.t 2)), none, []⟩,
    ⟨(some 32), (.bin .eql (.t 31) (.c (.int .i64 0))), none, []⟩,
    ⟨(some 33), (.mov (.t 32)), none, []⟩,
    ⟨(some 34), (.load (some 64) (.t 1)), (some (33, true)), []⟩,
    ⟨(some 35), (.call (.f 9) [(.t 34)]), (some (33, true)), []⟩,
    ⟨(some 36), (.bin .eql (.t 35) (.c (.string ⟨#[51, 45, 53, 44, 49, 48]⟩))), (some (33, true)), []⟩,
    ⟨(some 37), (.pick (.t 33) (.t 36) (.c (.bool false))), none, []⟩,
    ⟨(some 38), (.mov (.t 37)), none, []⟩,
    ⟨(some 39), (.mov (.t 4)), (some (38, true)), []⟩,
    ⟨(some 40), (.bin .eql (.t 39) (.c (.int .i64 0))), (some (38, true)), []⟩,
    ⟨(some 41), (.pick (.t 38) (.t 40) (.c (.bool false))), none, []⟩,
    ⟨(some 42), (.mov (.t 41)), none, []⟩,
    ⟨(some 43), (.load (some 64) (.t 3)), (some (42, true)), []⟩,
    ⟨(some 44), (.call (.f 9) [(.t 43)]), (some (42, true)), []⟩,
    ⟨(some 45), (.bin .eql (.t 44) (.c (.string ⟨#[97, 108, 108]⟩))), (some (42, true)), []⟩,
    ⟨(some 46), (.pick (.t 42) (.t 45) (.c (.bool false))), none, []⟩,
    ⟨(some 47), (.mov (.t 46)), none, []⟩,
    ⟨(some 48), (.mov (.t 6)), (some (47, true)), []⟩,
    ⟨(some 49), (.bin .eql (.t 48) (.c (.int .i64 24))), (some (47, true)), []⟩,
    ⟨(some 50), (.pick (.t 47) (.t 49) (.c (.bool false))), none, []⟩,
    ⟨(some 51), (.mov (.t 50)), none, []⟩,
    ⟨(some 52), (.mov (.t 8)), (some (51, true)), []⟩,
    ⟨(some 53), (.bin .eql (.t 52) (.c (.int .i64 24))), (some (51, true)), []⟩,
    ⟨(some 54), (.pick (.t 51) (.t 53) (.c (.bool false))), none, []⟩,
    ⟨(some 55), (.mov (.t 54)), none, []⟩,
    ⟨(some 56), (.mov (.t 10)), (some (55, true)), []⟩,
    ⟨(some 57), (.bin .eql (.t 56) (.c (.int .i64 5))), (some (55, true)), []⟩,
    ⟨(some 58), (.pick (.t 55) (.t 57) (.c (.bool false))), none, []⟩,
    ⟨(some 0), (.mov (.t 58)), none, []⟩] none)
  .ret)))))))
def F13 : AFunc := ⟨0, 59, [(.tmp 0)], B13⟩
/-- toll/vset.All -/
def B14 : ACode := (.seq (.region [⟨(some 0), (.alloc 26 (List.replicate 64 (.int .u64 0))), none, []⟩] none)
  (.seq (.region [⟨(some 1), (.build (List.replicate 64 (.int .u64 0)) []), none, []⟩,
    ⟨(some 2), (.call (.f 11) [(.t 1), (.c (.int .i64 1)), (.c (.int .i64 4094))]), none, []⟩,
    ⟨none, (.store 64 (.t 0) (.t 2)), none, []⟩] none)
  .ret))
def F14 : AFunc := ⟨0, 3, [(.cell 0 (some 64))], B14⟩
/-- toll/vset.Of -/
def F15L0 : ACode := (.seq (.region [⟨(some 9), (.bin .lss (.t 8) (.t 7)), none, []⟩] none)
  (.seq (.cond (.t 9)
  .skip
  (.exit 0))
  (.seq (.block 1 (.seq (.region [⟨(some 10), (.indexAddr 1 (.t 6) (.t 8)), none, []⟩,
    ⟨(some 11), (.load none (.t 10)), none, []⟩,
    ⟨(some 5), (.mov (.t 11)), none, []⟩] none)
  (.region [⟨(some 12), (.load (some 64) (.t 3)), none, []⟩,
    ⟨(some 13), (.mov (.t 5)), none, []⟩,
    ⟨(some 14), (.mov (.t 5)), none, []⟩,
    ⟨(some 15), (.call (.f 11) [(.t 12), (.t 13), (.t 14)]), none, []⟩,
    ⟨none, (.store 64 (.t 3) (.t 15)), none, []⟩] none)))
  (.region [⟨(some 16), (.bin .add (.t 8) (.c (.int .i64 1))), none, []⟩,
    ⟨(some 8), (.mov (.t 16)), none, []⟩] none))))
def B15 : ACode := (.seq (.region [⟨(some 2), (.alloc 26 (List.replicate 64 (.int .u64 0))), none, []⟩] none)
  (.seq (.region [⟨(some 3), (.alloc 26 (List.replicate 64 (.int .u64 0))), none, []⟩] none)
  (.seq (.seq (.region [⟨(some 6), (.mov (.t 0)), none, []⟩,
    ⟨(some 7), (.lenSlice (.t 6)), none, []⟩,
    ⟨(some 8), (.mov (.c (.int .i64 0))), none, []⟩] none)
  (.block 0 (.loop F15L0)))
  (.seq (.region [⟨(some 17), (.load (some 64) (.t 3)), none, []⟩,
    ⟨none, (.store 64 (.t 2) (.t 17)), none, []⟩] none)
  .ret))))
def F15 : AFunc := ⟨1, 18, [(.cell 2 (some 64))], B15⟩
-- F15L0 live: [2, 3, 6, 7, 8]
/-- (toll/vset.Set).Has -/
def B16 : ACode := (.seq (.region [⟨(some 2), (.box 26 (.t 0)), none, []⟩,
    ⟨(some 4), (.mov (.c (.bool false))), none, []⟩] none)
  (.seq (.region [⟨(some 5), (.mov (.t 1)), none, []⟩,
    ⟨(some 6), (.bin .geq (.t 5) (.c (.int .i64 1))), none, []⟩,
    ⟨(some 7), (.mov (.t 6)), none, []⟩,
    ⟨(some 8), (.mov (.t 1)), (some (7, true)), []⟩,
    ⟨(some 9), (.bin .leq (.t 8) (.c (.int .i64 4094))), (some (7, true)), []⟩,
    ⟨(some 10), (.pick (.t 7) (.t 9) (.c (.bool false))), none, []⟩,
    ⟨(some 11), (.mov (.t 10)), none, []⟩,
    ⟨(some 12), (.mov (.t 1)), (some (11, true)), []⟩,
    ⟨(some 13), (.bin .quo (.t 12) (.c (.int .i64 64))), (some (11, true)), []⟩,
    ⟨(some 14), (.fieldAddr 0 (.t 2)), (some (11, true)), []⟩,
    ⟨(some 15), (.indexArr 1 64 (.t 14) (.t 13)), (some (11, true)), []⟩,
    ⟨(some 16), (.load none (.t 15)), (some (11, true)), []⟩,
    ⟨(some 17), (.mov (.t 1)), (some (11, true)), []⟩,
    ⟨(some 18), (.bin .rem (.t 17) (.c (.int .i64 64))), (some (11, true)), []⟩,
    ⟨(some 19), (.bin .shr (.t 16) (.t 18)), (some (11, true)), []⟩,
    ⟨(some 20), (.bin .and (.t 19) (.c (.int .u64 1))), (some (11, true)), []⟩,
    ⟨(some 21), (.bin .eql (.t 20) (.c (.int .u64 1))), (some (11, true)), []⟩,
    ⟨(some 22), (.pick (.t 11) (.t 21) (.c (.bool false))), none, []⟩,
    ⟨(some 4), (.mov (.t 22)), none, []⟩] none)
  .ret))
def F16 : AFunc := ⟨2, 23, [(.tmp 4)], B16⟩
def R17_0 : ACode := .region [⟨(some 7), (.load (some 64) (.t 3)), none, []⟩,
    ⟨(some 8), (.mov (.t 1)), none, []⟩,
    ⟨(some 9), (.mov (.t 2)), none, []⟩,
    ⟨(some 10), (.call (.f 29) [(.t 8), (.t 9)]), none, [1, 2]⟩,
    ⟨(some 11), (.call (.f 31) [(.t 7), (.t 10), (.f 32)]), none, [0, 3, 3]⟩,
    ⟨none, (.store 64 (.t 6) (.t 11)), none, [4, 4, 0, 1, 2, 3, 4]⟩] (some [(0, 1), (0, 2), (1, 2), (0, 3)])
/-- (toll/vset.Set).Without -/
def B17 : ACode := (.seq (.region [⟨(some 3), (.box 26 (.t 0)), none, []⟩,
    ⟨(some 6), (.alloc 26 (List.replicate 64 (.int .u64 0))), none, []⟩] none)
  (.seq R17_0
  .ret))
def F17 : AFunc := ⟨3, 12, [(.cell 6 (some 64))], B17⟩
/-- toll/tollref14.With -/
def F18L0 : ACode := (.seq (.seq (.region [⟨(some 10), (.mov (.t 9)), none, []⟩,
    ⟨(some 11), (.bin .leq (.t 10) (.c (.int .i64 4094))), none, []⟩] none)
  (.cond (.t 11)
  .skip
  (.exit 0)))
  (.seq (.block 1 (.seq (.region [⟨(some 14), (.mov (.t 9)), none, []⟩,
    ⟨(some 15), (.mov (.t 1)), none, []⟩,
    ⟨(some 16), (.bin .geq (.t 14) (.t 15)), none, []⟩,
    ⟨(some 17), (.mov (.t 16)), none, []⟩,
    ⟨(some 18), (.mov (.t 9)), (some (17, true)), []⟩,
    ⟨(some 19), (.mov (.t 2)), (some (17, true)), []⟩,
    ⟨(some 20), (.bin .leq (.t 18) (.t 19)), (some (17, true)), []⟩,
    ⟨(some 21), (.pick (.t 17) (.t 20) (.c (.bool false))), none, []⟩] none)
  (.cond (.t 21)
  (.region [⟨(some 22), (.mov (.t 9)), none, []⟩,
    ⟨(some 23), (.mov (.t 3)), none, []⟩,
    ⟨(some 24), (.indexArr 1 4096 (.t 4) (.t 22)), none, []⟩,
    ⟨none, (.store 1 (.t 24) (.t 23)), none, []⟩] none)
  .skip)))
  (.region [⟨(some 12), (.mov (.t 9)), none, []⟩,
    ⟨(some 13), (.bin .add (.t 12) (.c (.int .i64 1))), none, []⟩,
    ⟨(some 9), (.mov (.t 13)), none, []⟩] none)))
def B18 : ACode := (.seq (.region [⟨(some 4), (.box 45 (.t 0)), none, []⟩,
    ⟨(some 8), (.alloc 45 (List.replicate 4096 (.bool false))), none, []⟩] none)
  (.seq (.seq (.region [⟨(some 9), (.mov (.c (.int .i64 1))), none, []⟩] none)
  (.block 0 (.loop F18L0)))
  (.seq (.region [⟨(some 25), (.load (some 4096) (.t 4)), none, []⟩,
    ⟨none, (.store 4096 (.t 8) (.t 25)), none, []⟩] none)
  .ret)))
def F18 : AFunc := ⟨4, 26, [(.cell 8 (some 4096))], B18⟩
-- F18L0 live: [1, 2, 3, 4, 8, 9]
/-- (toll/vset.Set).Union -/
def B19 : ACode := (.seq (.region [⟨(some 2), (.box 26 (.t 0)), none, []⟩,
    ⟨(some 3), (.box 26 (.t 1)), none, []⟩,
    ⟨(some 4), (.alloc 26 (List.replicate 64 (.int .u64 0))), none, []⟩] none)
  (.seq (.region [⟨(some 5), (.load (some 64) (.t 2)), none, []⟩,
    ⟨(some 6), (.load (some 64) (.t 3)), none, []⟩,
    ⟨(some 7), (.call (.f 31) [(.t 5), (.t 6), (.f 33)]), none, []⟩,
    ⟨none, (.store 64 (.t 4) (.t 7)), none, []⟩] none)
  .ret))
def F19 : AFunc := ⟨2, 8, [(.cell 4 (some 64))], B19⟩
/-- toll/tollref14.Union -/
def F20L0 : ACode := (.seq (.seq (.region [⟨(some 6), (.mov (.t 5)), none, []⟩,
    ⟨(some 7), (.bin .leq (.t 6) (.c (.int .i64 4094))), none, []⟩] none)
  (.cond (.t 7)
  .skip
  (.exit 0)))
  (.seq (.block 1 (.region [⟨(some 10), (.mov (.t 5)), none, []⟩,
    ⟨(some 11), (.mov (.t 5)), none, []⟩,
    ⟨(some 12), (.indexArr 1 4096 (.t 2) (.t 11)), none, []⟩,
    ⟨(some 13), (.load none (.t 12)), none, []⟩,
    ⟨(some 14), (.mov (.t 13)), none, []⟩,
    ⟨(some 15), (.mov (.t 5)), (some (14, false)), []⟩,
    ⟨(some 16), (.indexArr 1 4096 (.t 3) (.t 15)), (some (14, false)), []⟩,
    ⟨(some 17), (.load none (.t 16)), (some (14, false)), []⟩,
    ⟨(some 18), (.pick (.t 14) (.c (.bool true)) (.t 17)), none, []⟩,
    ⟨(some 19), (.indexArr 1 4096 (.t 2) (.t 10)), none, []⟩,
    ⟨none, (.store 1 (.t 19) (.t 18)), none, []⟩] none))
  (.region [⟨(some 8), (.mov (.t 5)), none, []⟩,
    ⟨(some 9), (.bin .add (.t 8) (.c (.int .i64 1))), none, []⟩,
    ⟨(some 5), (.mov (.t 9)), none, []⟩] none)))
def B20 : ACode := (.seq (.region [⟨(some 2), (.box 45 (.t 0)), none, []⟩,
    ⟨(some 3), (.box 45 (.t 1)), none, []⟩,
    ⟨(some 4), (.alloc 45 (List.replicate 4096 (.bool false))), none, []⟩] none)
  (.seq (.seq (.region [⟨(some 5), (.mov (.c (.int .i64 1))), none, []⟩] none)
  (.block 0 (.loop F20L0)))
  (.seq (.region [⟨(some 20), (.load (some 4096) (.t 2)), none, []⟩,
    ⟨none, (.store 4096 (.t 4) (.t 20)), none, []⟩] none)
  .ret)))
def F20 : AFunc := ⟨2, 21, [(.cell 4 (some 4096))], B20⟩
-- F20L0 live: [2, 3, 4, 5]
/-- (toll/vset.Set).Meet -/
def B21 : ACode := (.seq (.region [⟨(some 2), (.box 26 (.t 0)), none, []⟩,
    ⟨(some 3), (.box 26 (.t 1)), none, []⟩,
    ⟨(some 4), (.alloc 26 (List.replicate 64 (.int .u64 0))), none, []⟩] none)
  (.seq (.region [⟨(some 5), (.load (some 64) (.t 2)), none, []⟩,
    ⟨(some 6), (.load (some 64) (.t 3)), none, []⟩,
    ⟨(some 7), (.call (.f 31) [(.t 5), (.t 6), (.f 34)]), none, []⟩,
    ⟨none, (.store 64 (.t 4) (.t 7)), none, []⟩] none)
  .ret))
def F21 : AFunc := ⟨2, 8, [(.cell 4 (some 64))], B21⟩
/-- toll/tollref14.Meet -/
def F22L0 : ACode := (.seq (.seq (.region [⟨(some 6), (.mov (.t 5)), none, []⟩,
    ⟨(some 7), (.bin .leq (.t 6) (.c (.int .i64 4094))), none, []⟩] none)
  (.cond (.t 7)
  .skip
  (.exit 0)))
  (.seq (.block 1 (.region [⟨(some 10), (.mov (.t 5)), none, []⟩,
    ⟨(some 11), (.mov (.t 5)), none, []⟩,
    ⟨(some 12), (.indexArr 1 4096 (.t 2) (.t 11)), none, []⟩,
    ⟨(some 13), (.load none (.t 12)), none, []⟩,
    ⟨(some 14), (.mov (.t 13)), none, []⟩,
    ⟨(some 15), (.mov (.t 5)), (some (14, true)), []⟩,
    ⟨(some 16), (.indexArr 1 4096 (.t 3) (.t 15)), (some (14, true)), []⟩,
    ⟨(some 17), (.load none (.t 16)), (some (14, true)), []⟩,
    ⟨(some 18), (.pick (.t 14) (.t 17) (.c (.bool false))), none, []⟩,
    ⟨(some 19), (.indexArr 1 4096 (.t 2) (.t 10)), none, []⟩,
    ⟨none, (.store 1 (.t 19) (.t 18)), none, []⟩] none))
  (.region [⟨(some 8), (.mov (.t 5)), none, []⟩,
    ⟨(some 9), (.bin .add (.t 8) (.c (.int .i64 1))), none, []⟩,
    ⟨(some 5), (.mov (.t 9)), none, []⟩] none)))
def B22 : ACode := (.seq (.region [⟨(some 2), (.box 45 (.t 0)), none, []⟩,
    ⟨(some 3), (.box 45 (.t 1)), none, []⟩,
    ⟨(some 4), (.alloc 45 (List.replicate 4096 (.bool false))), none, []⟩] none)
  (.seq (.seq (.region [⟨(some 5), (.mov (.c (.int .i64 1))), none, []⟩] none)
  (.block 0 (.loop F22L0)))
  (.seq (.region [⟨(some 20), (.load (some 4096) (.t 2)), none, []⟩,
    ⟨none, (.store 4096 (.t 4) (.t 20)), none, []⟩] none)
  .ret)))
def F22 : AFunc := ⟨2, 21, [(.cell 4 (some 4096))], B22⟩
-- F22L0 live: [2, 3, 4, 5]
def R23_0 : ACode := .region [⟨(some 37), (.mov (.t 5)), none, []⟩,
    ⟨(some 38), (.mov (.t 7)), none, []⟩,
    ⟨(some 39), (.indexAddr 2 (.t 37) (.t 38)), none, [0, 1]⟩,
    ⟨(some 40), (.fieldAddr 0 (.t 39)), none, [2]⟩,
    ⟨(some 41), (.load none (.t 40)), none, [3]⟩,
    ⟨(some 42), (.mov (.t 6)), none, []⟩,
    ⟨(some 43), (.mov (.t 7)), none, []⟩,
    ⟨(some 44), (.indexAddr 2 (.t 42) (.t 43)), none, [5, 6]⟩,
    ⟨(some 45), (.indexArr 1 2 (.t 44) (.c (.int .i64 0))), none, [7]⟩,
    ⟨(some 46), (.load none (.t 45)), none, [8]⟩,
    ⟨(some 47), (.bin .neq (.t 41) (.t 46)), none, [4, 9]⟩,
    ⟨(some 48), (.mov (.t 47)), none, [10]⟩,
    ⟨(some 49), (.mov (.t 5)), (some (48, false)), [11]⟩,
    ⟨(some 50), (.mov (.t 7)), (some (48, false)), [11]⟩,
    ⟨(some 51), (.indexAddr 2 (.t 49) (.t 50)), (some (48, false)), [12, 13, 11]⟩,
    ⟨(some 52), (.fieldAddr 1 (.t 51)), (some (48, false)), [14, 11]⟩,
    ⟨(some 53), (.load none (.t 52)), (some (48, false)), [15, 11]⟩,
    ⟨(some 54), (.mov (.t 6)), (some (48, false)), [11]⟩,
    ⟨(some 55), (.mov (.t 7)), (some (48, false)), [11]⟩,
    ⟨(some 56), (.indexAddr 2 (.t 54) (.t 55)), (some (48, false)), [17, 18, 11]⟩,
    ⟨(some 57), (.indexArr 1 2 (.t 56) (.c (.int .i64 1))), (some (48, false)), [19, 11]⟩,
    ⟨(some 58), (.load none (.t 57)), (some (48, false)), [20, 11]⟩,
    ⟨(some 59), (.bin .neq (.t 53) (.t 58)), (some (48, false)), [16, 21, 11]⟩,
    ⟨(some 60), (.pick (.t 48) (.c (.bool true)) (.t 59)), none, [11, 22]⟩] (some [(0, 1), (0, 5), (1, 5), (2, 5), (3, 5), (4, 5), (0, 6), (1, 6), (2, 6), (3, 6), (4, 6), (5, 6), (0, 7), (1, 7), (2, 7), (3, 7), (4, 7), (0, 8), (1, 8), (2, 8), (3, 8), (4, 8), (0, 9), (1, 9), (2, 9), (3, 9), (4, 9), (12, 13), (12, 17), (13, 17), (14, 17), (15, 17), (16, 17), (12, 18), (13, 18), (14, 18), (15, 18), (16, 18), (17, 18), (12, 19), (13, 19), (14, 19), (15, 19), (16, 19), (12, 20), (13, 20), (14, 20), (15, 20), (16, 20), (12, 21), (13, 21), (14, 21), (15, 21), (16, 21)])
def R23_1 : ACode := .region [⟨(some 8), (.load (some 64) (.t 2)), none, []⟩,
    ⟨(some 9), (.call (.f 10) [(.t 8)]), none, [0]⟩,
    ⟨(some 10), (.load (some 4096) (.t 3)), none, []⟩,
    ⟨(some 11), (.call (.f 35) [(.t 10)]), none, [2, 1]⟩,
    ⟨(some 5), (.mov (.t 9)), none, [1, 3, 0, 1]⟩,
    ⟨(some 6), (.mov (.t 11)), none, [3, 4, 0, 1, 2, 3, 4]⟩] (some [(0, 2), (1, 2)])
def R23_2 : ACode := .region [⟨(some 12), (.load (some 64) (.t 2)), none, []⟩,
    ⟨(some 13), (.call (.f 12) [(.t 12)]), none, [0]⟩,
    ⟨(some 14), (.load (some 4096) (.t 3)), none, []⟩,
    ⟨(some 15), (.call (.f 36) [(.t 14)]), none, [2, 1]⟩,
    ⟨(some 16), (.bin .neq (.t 13) (.t 15)), none, [1, 3]⟩,
    ⟨(some 17), (.mov (.t 16)), none, [4, 3]⟩,
    ⟨(some 18), (.load (some 64) (.t 2)), (some (17, false)), [5]⟩,
    ⟨(some 19), (.call (.f 9) [(.t 18)]), (some (17, false)), [6, 5, 5]⟩,
    ⟨(some 20), (.load (some 4096) (.t 3)), (some (17, false)), [5]⟩,
    ⟨(some 21), (.call (.f 37) [(.t 20)]), (some (17, false)), [8, 7, 5]⟩,
    ⟨(some 22), (.bin .neq (.t 19) (.t 21)), (some (17, false)), [7, 9, 5]⟩,
    ⟨(some 23), (.pick (.t 17) (.c (.bool true)) (.t 22)), none, [5, 10]⟩,
    ⟨(some 24), (.mov (.t 23)), none, [11, 9]⟩,
    ⟨(some 25), (.mov (.t 5)), (some (24, false)), [12]⟩,
    ⟨(some 26), (.lenSlice (.t 25)), (some (24, false)), [13, 12]⟩,
    ⟨(some 27), (.mov (.t 6)), (some (24, false)), [12]⟩,
    ⟨(some 28), (.lenSlice (.t 27)), (some (24, false)), [15, 12]⟩,
    ⟨(some 29), (.bin .neq (.t 26) (.t 28)), (some (24, false)), [14, 16, 12]⟩,
    ⟨(some 30), (.pick (.t 24) (.c (.bool true)) (.t 29)), none, [12, 17]⟩] (some [(0, 2), (1, 2), (6, 8), (7, 8), (13, 15), (14, 15), (13, 16), (14, 16)])
/-- toll/tolllaw14.like -/
def F23L0 : ACode := (.seq (.seq (.region [⟨(some 31), (.mov (.t 7)), none, []⟩,
    ⟨(some 32), (.mov (.t 5)), none, []⟩,
    ⟨(some 33), (.lenSlice (.t 32)), none, []⟩,
    ⟨(some 34), (.bin .lss (.t 31) (.t 33)), none, []⟩] none)
  (.cond (.t 34)
  .skip
  (.exit 0)))
  (.seq (.block 1 (.seq R23_0
  (.cond (.t 60)
  (.seq (.region [⟨(some 4), (.mov (.c (.bool false))), none, []⟩] none)
  .ret)
  .skip)))
  (.region [⟨(some 35), (.mov (.t 7)), none, []⟩,
    ⟨(some 36), (.bin .add (.t 35) (.c (.int .i64 1))), none, []⟩,
    ⟨(some 7), (.mov (.t 36)), none, []⟩] none)))
def B23 : ACode := (.seq (.region [⟨(some 2), (.box 26 (.t 0)), none, []⟩,
    ⟨(some 3), (.box 45 (.t 1)), none, []⟩,
    ⟨(some 4), (.mov (.c (.bool false))), none, []⟩] none)
  (.seq R23_1
  (.seq (.seq R23_2
  (.cond (.t 30)
  (.seq (.region [⟨(some 4), (.mov (.c (.bool false))), none, []⟩] none)
  .ret)
  .skip))
  (.seq (.seq (.region [⟨(some 7), (.mov (.c (.int .i64 0))), none, []⟩] none)
  (.block 0 (.loop F23L0)))
  (.seq (.region [⟨(some 4), (.mov (.c (.bool true))), none, []⟩] none)
  .ret)))))
def F23 : AFunc := ⟨2, 61, [(.tmp 4)], B23⟩
-- F23L0 live: [5, 6, 7]
/-- (toll/vset.Set).Each -/
def B24 : ACode := (.seq (.region [⟨(some 1), (.box 26 (.t 0)), none, []⟩,
    ⟨(some 2), (.mov (.c .nilFunc)), none, []⟩] none)
  (.seq (.region [⟨(some 3), (.makeFunc 38 [] [(.t 1)]), none, []⟩,
    ⟨(some 2), (.mov (.t 3)), none, []⟩] none)
  .ret))
def F24 : AFunc := ⟨1, 4, [(.tmp 2)], B24⟩
/-- strings.Split -/
def B25 : ACode := (.seq (.region [⟨(some 4), (.mov (.c (.slice none 0 0))), none, []⟩] none)
  (.seq (.region [⟨(some 5), (.mov (.t 0)), none, []⟩,
    ⟨(some 6), (.mov (.t 1)), none, []⟩,
    ⟨(some 7), (.call (.f 40) [(.t 5), (.t 6), (.c (.int .i64 0)), (.c (.int .i64 (-1)))]), none, []⟩,
    ⟨(some 4), (.mov (.t 7)), none, []⟩] none)
  .ret))
def F25 : AFunc := ⟨2, 8, [(.tmp 4)], B25⟩
/-- toll/vset.part -/
def B26 : ACode := (.seq (.region [⟨(some 2), (.alloc 35 [(.int .i64 0), (.int .i64 0)]), none, []⟩,
    ⟨(some 3), (.mov (.c (.bool false))), none, []⟩] none)
  (.seq (.region [⟨(some 12), (.mov (.t 0)), none, []⟩,
    ⟨(some 13), (.call (.f 41) [(.t 12), (.c (.string ⟨#[45]⟩))]), none, []⟩,
    ⟨(some 11), (.mov (.t 13)), none, []⟩,
    ⟨(some 14), (.extract (.t 11) 0), none, []⟩,
    ⟨(some 15), (.extract (.t 11) 1), none, []⟩,
    ⟨(some 16), (.extract (.t 11) 2), none, []⟩,
    ⟨(some 4), (.mov (.t 14)), none, []⟩,
    ⟨(some 5), (.mov (.t 15)), none, []⟩,
    ⟨(some 6), (.mov (.t 16)), none, []⟩] none)
  (.seq (.region [⟨(some 18), (.mov (.t 4)), none, []⟩,
    ⟨(some 19), (.call (.f 42) [(.t 18)]), none, []⟩,
    ⟨(some 17), (.mov (.t 19)), none, []⟩,
    ⟨(some 20), (.extract (.t 17) 0), none, []⟩,
    ⟨(some 21), (.extract (.t 17) 1), none, []⟩,
    ⟨(some 7), (.mov (.t 20)), none, []⟩,
    ⟨(some 8), (.mov (.t 21)), none, []⟩] none)
  (.seq (.seq (.region [⟨(some 22), (.mov (.t 6)), none, []⟩,
    ⟨(some 23), (.un .not (.t 22)), none, []⟩] none)
  (.cond (.t 23)
  (.seq (.region [⟨(some 24), (.mov (.t 7)), none, []⟩,
    ⟨(some 25), (.mov (.t 7)), none, []⟩,
    ⟨(some 26), (.build [(.int .i64 0), (.int .i64 0)] [(0, 1, (.t 24)), (1, 1, (.t 25))]), none, []⟩,
    ⟨(some 27), (.mov (.t 8)), none, []⟩,
    ⟨none, (.store 2 (.t 2) (.t 26)), none, []⟩,
    ⟨(some 3), (.mov (.t 27)), none, []⟩] none)
  .ret)
  .skip))
  (.seq (.region [⟨(some 29), (.mov (.t 5)), none, []⟩,
    ⟨(some 30), (.call (.f 42) [(.t 29)]), none, []⟩,
    ⟨(some 28), (.mov (.t 30)), none, []⟩,
    ⟨(some 31), (.extract (.t 28) 0), none, []⟩,
    ⟨(some 32), (.extract (.t 28) 1), none, []⟩,
    ⟨(some 9), (.mov (.t 31)), none, []⟩,
    ⟨(some 10), (.mov (.t 32)), none, []⟩] none)
  (.seq (.region [⟨(some 33), (.mov (.t 7)), none, []⟩,
    ⟨(some 34), (.mov (.t 9)), none, []⟩,
    ⟨(some 35), (.build [(.int .i64 0), (.int .i64 0)] [(0, 1, (.t 33)), (1, 1, (.t 34))]), none, []⟩,
    ⟨(some 36), (.mov (.t 8)), none, []⟩,
    ⟨(some 37), (.mov (.t 36)), none, []⟩,
    ⟨(some 38), (.mov (.t 10)), (some (37, true)), []⟩,
    ⟨(some 39), (.pick (.t 37) (.t 38) (.c (.bool false))), none, []⟩,
    ⟨none, (.store 2 (.t 2) (.t 35)), none, []⟩,
    ⟨(some 3), (.mov (.t 39)), none, []⟩] none)
  .ret))))))
def F26 : AFunc := ⟨1, 40, [(.cell 2 (some 2)), (.tmp 3)], B26⟩
/-- strconv.Itoa -/
def B27 : ACode := (.seq (.region [⟨(some 2), (.mov (.c (.string ⟨#[]⟩))), none, []⟩] none)
  (.seq (.region [⟨(some 3), (.mov (.t 0)), none, []⟩,
    ⟨(some 4), (.call (.f 43) [(.t 3)]), none, []⟩,
    ⟨(some 2), (.mov (.t 4)), none, []⟩] none)
  .ret))
def F27 : AFunc := ⟨1, 5, [(.tmp 2)], B27⟩
/-- strings.Join -/
def F28L0 : ACode := (.seq (.region [⟨(some 42), (.bin .lss (.t 41) (.t 40)), none, []⟩] none)
  (.seq (.cond (.t 42)
  .skip
  (.exit 1))
  (.seq (.block 2 (.seq (.region [⟨(some 43), (.indexAddr 1 (.t 39) (.t 41)), none, []⟩,
    ⟨(some 44), (.load none (.t 43)), none, []⟩,
    ⟨(some 7), (.mov (.t 44)), none, []⟩] none)
  (.seq (.seq (.region [⟨(some 45), (.mov (.t 7)), none, []⟩,
    ⟨(some 46), (.lenStr (.t 45)), none, []⟩,
    ⟨(some 47), (.mov (.t 5)), none, []⟩,
    ⟨(some 48), (.bin .sub (.c (.int .i64 9223372036854775807)) (.t 47)), none, []⟩,
    ⟨(some 49), (.bin .gtr (.t 46) (.t 48)), none, []⟩] none)
  (.cond (.t 49)
  (.region [⟨(some 50), (.makeIface 9 (.c (.string ⟨#[115, 116, 114, 105, 110, 103, 115, 58, 32, 74, 111, 105, 110, 32, 111, 117, 116, 112, 117, 116, 32, 108, 101, 110, 103, 116, 104, 32, 111, 118, 101, 114, 102, 108, 111, 119]⟩))), none, []⟩,
    ⟨none, .fail, none, []⟩] none)
  .skip))
  (.region [⟨(some 51), (.mov (.t 5)), none, []⟩,
    ⟨(some 52), (.mov (.t 7)), none, []⟩,
    ⟨(some 53), (.lenStr (.t 52)), none, []⟩,
    ⟨(some 54), (.bin .add (.t 51) (.t 53)), none, []⟩,
    ⟨(some 5), (.mov (.t 54)), none, []⟩] none))))
  (.region [⟨(some 55), (.bin .add (.t 41) (.c (.int .i64 1))), none, []⟩,
    ⟨(some 41), (.mov (.t 55)), none, []⟩] none))))
def F28L1 : ACode := (.seq (.region [⟨(some 66), (.bin .lss (.t 65) (.t 64)), none, []⟩] none)
  (.seq (.cond (.t 66)
  .skip
  (.exit 3))
  (.seq (.block 4 (.seq (.region [⟨(some 67), (.indexAddr 1 (.t 63) (.t 65)), none, []⟩,
    ⟨(some 68), (.load none (.t 67)), none, []⟩,
    ⟨(some 10), (.mov (.t 68)), none, []⟩] none)
  (.seq (.region [⟨(some 69), (.mov (.t 1)), none, []⟩,
    ⟨(some 70), (.call (.f 45) [(.t 8), (.t 69)]), none, []⟩] none)
  (.region [⟨(some 71), (.mov (.t 10)), none, []⟩,
    ⟨(some 72), (.call (.f 45) [(.t 8), (.t 71)]), none, []⟩] none))))
  (.region [⟨(some 73), (.bin .add (.t 65) (.c (.int .i64 1))), none, []⟩,
    ⟨(some 65), (.mov (.t 73)), none, []⟩] none))))
def B28 : ACode := (.seq (.region [⟨(some 4), (.mov (.c (.string ⟨#[]⟩))), none, []⟩] none)
  (.seq (.seq (.region [⟨(some 11), (.mov (.t 0)), none, []⟩,
    ⟨(some 12), (.lenSlice (.t 11)), none, []⟩] none)
  (.block 0 (.seq (.region [⟨(some 14), (.bin .eql (.t 12) (.c (.int .i64 0))), none, []⟩,
    ⟨(some 13), (.mov (.t 14)), none, []⟩] none)
  (.cond (.t 13)
  (.seq (.region [⟨(some 4), (.mov (.c (.string ⟨#[]⟩))), none, []⟩] none)
  .ret)
  (.seq (.region [⟨(some 16), (.bin .eql (.t 12) (.c (.int .i64 1))), none, []⟩,
    ⟨(some 15), (.mov (.t 16)), none, []⟩] none)
  (.cond (.t 15)
  (.seq (.region [⟨(some 17), (.mov (.t 0)), none, []⟩,
    ⟨(some 18), (.indexAddr 1 (.t 17) (.c (.int .i64 0))), none, []⟩,
    ⟨(some 19), (.load none (.t 18)), none, []⟩,
    ⟨(some 4), (.mov (.t 19)), none, []⟩] none)
  .ret)
  .skip))))))
  (.seq (.region [⟨(some 5), (.mov (.c (.int .i64 0))), none, []⟩] none)
  (.seq (.seq (.region [⟨(some 20), (.mov (.t 1)), none, []⟩,
    ⟨(some 21), (.lenStr (.t 20)), none, []⟩,
    ⟨(some 22), (.bin .gtr (.t 21) (.c (.int .i64 0))), none, []⟩] none)
  (.cond (.t 22)
  (.seq (.seq (.region [⟨(some 23), (.mov (.t 1)), none, []⟩,
    ⟨(some 24), (.lenStr (.t 23)), none, []⟩,
    ⟨(some 25), (.mov (.t 0)), none, []⟩,
    ⟨(some 26), (.lenSlice (.t 25)), none, []⟩,
    ⟨(some 27), (.bin .sub (.t 26) (.c (.int .i64 1))), none, []⟩,
    ⟨(some 28), (.bin .quo (.c (.int .i64 9223372036854775807)) (.t 27)), none, []⟩,
    ⟨(some 29), (.bin .geq (.t 24) (.t 28)), none, []⟩] none)
  (.cond (.t 29)
  (.region [⟨(some 30), (.makeIface 9 (.c (.string ⟨#[115, 116, 114, 105, 110, 103, 115, 58, 32, 74, 111, 105, 110, 32, 111, 117, 116, 112, 117, 116, 32, 108, 101, 110, 103, 116, 104, 32, 111, 118, 101, 114, 102, 108, 111, 119]⟩))), none, []⟩,
    ⟨none, .fail, none, []⟩] none)
  .skip))
  (.region [⟨(some 31), (.mov (.t 5)), none, []⟩,
    ⟨(some 32), (.mov (.t 1)), none, []⟩,
    ⟨(some 33), (.lenStr (.t 32)), none, []⟩,
    ⟨(some 34), (.mov (.t 0)), none, []⟩,
    ⟨(some 35), (.lenSlice (.t 34)), none, []⟩,
    ⟨(some 36), (.bin .sub (.t 35) (.c (.int .i64 1))), none, []⟩,
    ⟨(some 37), (.bin .mul (.t 33) (.t 36)), none, []⟩,
    ⟨(some 38), (.bin .add (.t 31) (.t 37)), none, []⟩,
    ⟨(some 5), (.mov (.t 38)), none, []⟩] none))
  .skip))
  (.seq (.seq (.region [⟨(some 39), (.mov (.t 0)), none, []⟩,
    ⟨(some 40), (.lenSlice (.t 39)), none, []⟩,
    ⟨(some 41), (.mov (.c (.int .i64 0))), none, []⟩] none)
  (.block 1 (.loop F28L0)))
  (.seq (.region [⟨(some 8), (.alloc 79 [(.pointer none), (.slice none 0 0)]), none, []⟩] none)
  (.seq (.region [⟨(some 56), (.mov (.t 5)), none, []⟩,
    ⟨(some 57), (.call (.f 44) [(.t 8), (.t 56)]), none, []⟩] none)
  (.seq (.region [⟨(some 58), (.mov (.t 0)), none, []⟩,
    ⟨(some 59), (.indexAddr 1 (.t 58) (.c (.int .i64 0))), none, []⟩,
    ⟨(some 60), (.load none (.t 59)), none, []⟩,
    ⟨(some 61), (.call (.f 45) [(.t 8), (.t 60)]), none, []⟩] none)
  (.seq (.seq (.region [⟨(some 62), (.mov (.t 0)), none, []⟩,
    ⟨(some 63), (.slice 1 (.t 62) (some (.c (.int .i64 1))) none none), none, []⟩,
    ⟨(some 64), (.lenSlice (.t 63)), none, []⟩,
    ⟨(some 65), (.mov (.c (.int .i64 0))), none, []⟩] none)
  (.block 3 (.loop F28L1)))
  (.seq (.region [⟨(some 74), (.call (.f 46) [(.t 8)]), none, []⟩,
    ⟨(some 4), (.mov (.t 74)), none, []⟩] none)
  .ret))))))))))
def F28 : AFunc := ⟨2, 75, [(.tmp 4)], B28⟩
-- F28L0 live: [0, 1, 5, 39, 40, 41]

-- F28L1 live: [1, 8, 63, 64, 65]
def R29_0 : ACode := .region [⟨(some 15), (.mov (.t 6)), none, []⟩,
    ⟨(some 16), (.bin .quo (.t 15) (.c (.int .i64 64))), none, [0]⟩,
    ⟨(some 17), (.fieldAddr 0 (.t 5)), none, []⟩,
    ⟨(some 18), (.indexArr 1 64 (.t 17) (.t 16)), none, [2, 1]⟩,
    ⟨(some 19), (.load none (.t 18)), none, [3]⟩,
    ⟨(some 20), (.mov (.t 6)), none, []⟩,
    ⟨(some 21), (.bin .rem (.t 20) (.c (.int .i64 64))), none, [5]⟩,
    ⟨(some 22), (.bin .shl (.c (.int .u64 1)) (.t 21)), none, [6]⟩,
    ⟨(some 23), (.bin .or (.t 19) (.t 22)), none, [4, 7]⟩,
    ⟨(some 24), (.fieldAddr 0 (.t 5)), none, []⟩,
    ⟨(some 25), (.indexArr 1 64 (.t 24) (.t 16)), none, [9, 1, 0, 1, 2, 3, 4, 5, 6, 7, 8]⟩,
    ⟨none, (.store 1 (.t 25) (.t 23)), none, [10, 8, 0, 1, 2, 3, 4, 5, 6, 7, 8]⟩] (some [(0, 2), (1, 2), (0, 5), (1, 5), (2, 5), (3, 5), (4, 5), (0, 6), (1, 6), (2, 6), (3, 6), (4, 6), (0, 7), (1, 7), (2, 7), (3, 7), (4, 7), (0, 9), (1, 9), (2, 9), (3, 9), (4, 9), (5, 9), (6, 9), (7, 9), (8, 9)])
/-- toll/vset.span -/
def F29L0 : ACode := (.seq (.seq (.region [⟨(some 9), (.mov (.t 6)), none, []⟩,
    ⟨(some 10), (.mov (.t 1)), none, []⟩,
    ⟨(some 11), (.min [(.t 10), (.c (.int .i64 4094))]), none, []⟩,
    ⟨(some 12), (.bin .leq (.t 9) (.t 11)), none, []⟩] none)
  (.cond (.t 12)
  .skip
  (.exit 0)))
  (.seq (.block 1 R29_0)
  (.region [⟨(some 13), (.mov (.t 6)), none, []⟩,
    ⟨(some 14), (.bin .add (.t 13) (.c (.int .i64 1))), none, []⟩,
    ⟨(some 6), (.mov (.t 14)), none, []⟩] none)))
def B29 : ACode := (.seq (.region [⟨(some 4), (.alloc 26 (List.replicate 64 (.int .u64 0))), none, []⟩] none)
  (.seq (.region [⟨(some 5), (.alloc 26 (List.replicate 64 (.int .u64 0))), none, []⟩] none)
  (.seq (.seq (.region [⟨(some 7), (.mov (.t 0)), none, []⟩,
    ⟨(some 8), (.max [(.t 7), (.c (.int .i64 1))]), none, []⟩,
    ⟨(some 6), (.mov (.t 8)), none, []⟩] none)
  (.block 0 (.loop F29L0)))
  (.seq (.region [⟨(some 26), (.load (some 64) (.t 5)), none, []⟩,
    ⟨none, (.store 64 (.t 4) (.t 26)), none, []⟩] none)
  .ret))))
def F29 : AFunc := ⟨2, 27, [(.cell 4 (some 64))], B29⟩
-- F29L0 live: [1, 4, 5, 6]
/-- math/bits.OnesCount64 -/
def B30 : ACode := (.seq (.region [⟨(some 2), (.mov (.c (.int .i64 0))), none, []⟩] none)
  (.seq (.region [⟨(some 3), (.mov (.t 0)), none, []⟩,
    ⟨(some 4), (.bin .shr (.t 3) (.c (.int .u64 1))), none, []⟩,
    ⟨(some 5), (.bin .and (.t 4) (.c (.int .u64 6148914691236517205))), none, []⟩,
    ⟨(some 6), (.mov (.t 0)), none, []⟩,
    ⟨(some 7), (.bin .and (.t 6) (.c (.int .u64 6148914691236517205))), none, []⟩,
    ⟨(some 8), (.bin .add (.t 5) (.t 7)), none, []⟩,
    ⟨(some 0), (.mov (.t 8)), none, []⟩] none)
  (.seq (.region [⟨(some 9), (.mov (.t 0)), none, []⟩,
    ⟨(some 10), (.bin .shr (.t 9) (.c (.int .u64 2))), none, []⟩,
    ⟨(some 11), (.bin .and (.t 10) (.c (.int .u64 3689348814741910323))), none, []⟩,
    ⟨(some 12), (.mov (.t 0)), none, []⟩,
    ⟨(some 13), (.bin .and (.t 12) (.c (.int .u64 3689348814741910323))), none, []⟩,
    ⟨(some 14), (.bin .add (.t 11) (.t 13)), none, []⟩,
    ⟨(some 0), (.mov (.t 14)), none, []⟩] none)
  (.seq (.region [⟨(some 15), (.mov (.t 0)), none, []⟩,
    ⟨(some 16), (.bin .shr (.t 15) (.c (.int .u64 4))), none, []⟩,
    ⟨(some 17), (.mov (.t 0)), none, []⟩,
    ⟨(some 18), (.bin .add (.t 16) (.t 17)), none, []⟩,
    ⟨(some 19), (.bin .and (.t 18) (.c (.int .u64 1085102592571150095))), none, []⟩,
    ⟨(some 0), (.mov (.t 19)), none, []⟩] none)
  (.seq (.region [⟨(some 20), (.mov (.t 0)), none, []⟩,
    ⟨(some 21), (.mov (.t 0)), none, []⟩,
    ⟨(some 22), (.bin .shr (.t 21) (.c (.int .u64 8))), none, []⟩,
    ⟨(some 23), (.bin .add (.t 20) (.t 22)), none, []⟩,
    ⟨(some 0), (.mov (.t 23)), none, []⟩] none)
  (.seq (.region [⟨(some 24), (.mov (.t 0)), none, []⟩,
    ⟨(some 25), (.mov (.t 0)), none, []⟩,
    ⟨(some 26), (.bin .shr (.t 25) (.c (.int .u64 16))), none, []⟩,
    ⟨(some 27), (.bin .add (.t 24) (.t 26)), none, []⟩,
    ⟨(some 0), (.mov (.t 27)), none, []⟩] none)
  (.seq (.region [⟨(some 28), (.mov (.t 0)), none, []⟩,
    ⟨(some 29), (.mov (.t 0)), none, []⟩,
    ⟨(some 30), (.bin .shr (.t 29) (.c (.int .u64 32))), none, []⟩,
    ⟨(some 31), (.bin .add (.t 28) (.t 30)), none, []⟩,
    ⟨(some 0), (.mov (.t 31)), none, []⟩] none)
  (.seq (.region [⟨(some 32), (.mov (.t 0)), none, []⟩,
    ⟨(some 33), (.conv .i64 (.t 32)), none, []⟩,
    ⟨(some 34), (.bin .and (.t 33) (.c (.int .i64 127))), none, []⟩,
    ⟨(some 2), (.mov (.t 34)), none, []⟩] none)
  .ret))))))))
def F30 : AFunc := ⟨1, 35, [(.tmp 2)], B30⟩
/-- toll/vset.both -/
def F31L0 : ACode := (.seq (.region [⟨(some 12), (.bin .lss (.t 11) (.c (.int .i64 64))), none, []⟩] none)
  (.seq (.cond (.t 12)
  .skip
  (.exit 0))
  (.seq (.block 1 (.seq (.region [⟨(some 13), (.mov (.t 11)), none, []⟩,
    ⟨(some 14), (.index 1 64 none (.t 10) (.t 11)), none, []⟩,
    ⟨(some 7), (.mov (.t 13)), none, []⟩,
    ⟨(some 8), (.mov (.t 14)), none, []⟩] none)
  (.region [⟨(some 15), (.mov (.t 7)), none, []⟩,
    ⟨(some 16), (.mov (.t 2)), none, []⟩,
    ⟨(some 17), (.mov (.t 7)), none, []⟩,
    ⟨(some 18), (.fieldAddr 0 (.t 3)), none, []⟩,
    ⟨(some 19), (.indexArr 1 64 (.t 18) (.t 17)), none, []⟩,
    ⟨(some 20), (.load none (.t 19)), none, []⟩,
    ⟨(some 21), (.mov (.t 8)), none, []⟩,
    ⟨(some 22), (.call (.t 16) [(.t 20), (.t 21)]), none, []⟩,
    ⟨(some 23), (.fieldAddr 0 (.t 3)), none, []⟩,
    ⟨(some 24), (.indexArr 1 64 (.t 23) (.t 15)), none, []⟩,
    ⟨none, (.store 1 (.t 24) (.t 22)), none, []⟩] none)))
  (.region [⟨(some 25), (.bin .add (.t 11) (.c (.int .i64 1))), none, []⟩,
    ⟨(some 11), (.mov (.t 25)), none, []⟩] none))))
def B31 : ACode := (.seq (.region [⟨(some 3), (.box 26 (.t 0)), none, []⟩,
    ⟨(some 4), (.box 26 (.t 1)), none, []⟩,
    ⟨(some 6), (.alloc 26 (List.replicate 64 (.int .u64 0))), none, []⟩] none)
  (.seq (.seq (.region [⟨(some 9), (.fieldAddr 0 (.t 4)), none, []⟩,
    ⟨(some 10), (.load (some 64) (.t 9)), none, []⟩,
    ⟨(some 11), (.mov (.c (.int .i64 0))), none, []⟩] none)
  (.block 0 (.loop F31L0)))
  (.seq (.region [⟨(some 26), (.load (some 64) (.t 3)), none, []⟩,
    ⟨none, (.store 64 (.t 6) (.t 26)), none, []⟩] none)
  .ret)))
def F31 : AFunc := ⟨3, 27, [(.cell 6 (some 64))], B31⟩
-- F31L0 live: [2, 3, 6, 10, 11]
/-- (toll/vset.Set).Without$1 -/
def B32 : ACode := (.seq (.region [⟨(some 4), (.mov (.c (.int .u64 0))), none, []⟩] none)
  (.seq (.region [⟨(some 5), (.mov (.t 0)), none, []⟩,
    ⟨(some 6), (.mov (.t 1)), none, []⟩,
    ⟨(some 7), (.bin .andNot (.t 5) (.t 6)), none, []⟩,
    ⟨(some 4), (.mov (.t 7)), none, []⟩] none)
  .ret))
def F32 : AFunc := ⟨2, 8, [(.tmp 4)], B32⟩
/-- (toll/vset.Set).Union$1 -/
def B33 : ACode := (.seq (.region [⟨(some 4), (.mov (.c (.int .u64 0))), none, []⟩] none)
  (.seq (.region [⟨(some 5), (.mov (.t 0)), none, []⟩,
    ⟨(some 6), (.mov (.t 1)), none, []⟩,
    ⟨(some 7), (.bin .or (.t 5) (.t 6)), none, []⟩,
    ⟨(some 4), (.mov (.t 7)), none, []⟩] none)
  .ret))
def F33 : AFunc := ⟨2, 8, [(.tmp 4)], B33⟩
/-- (toll/vset.Set).Meet$1 -/
def B34 : ACode := (.seq (.region [⟨(some 4), (.mov (.c (.int .u64 0))), none, []⟩] none)
  (.seq (.region [⟨(some 5), (.mov (.t 0)), none, []⟩,
    ⟨(some 6), (.mov (.t 1)), none, []⟩,
    ⟨(some 7), (.bin .and (.t 5) (.t 6)), none, []⟩,
    ⟨(some 4), (.mov (.t 7)), none, []⟩] none)
  .ret))
def F34 : AFunc := ⟨2, 8, [(.tmp 4)], B34⟩
/-- toll/tollref14.Ranges -/
def F35L0 : ACode := (.seq (.seq (.region [⟨(some 15), (.mov (.t 4)), none, []⟩,
    ⟨(some 16), (.bin .add (.t 15) (.c (.int .i64 1))), none, []⟩,
    ⟨(some 17), (.indexArr 1 4096 (.t 1) (.t 16)), none, []⟩,
    ⟨(some 18), (.load none (.t 17)), none, []⟩] none)
  (.cond (.t 18)
  .skip
  (.exit 2)))
  (.block 3 (.region [⟨(some 19), (.mov (.t 4)), none, []⟩,
    ⟨(some 20), (.bin .add (.t 19) (.c (.int .i64 1))), none, []⟩,
    ⟨(some 4), (.mov (.t 20)), none, []⟩] none)))
def F35L1 : ACode := (.seq (.seq (.region [⟨(some 6), (.mov (.t 4)), none, []⟩,
    ⟨(some 7), (.bin .leq (.t 6) (.c (.int .i64 4094))), none, []⟩] none)
  (.cond (.t 7)
  .skip
  (.exit 0)))
  (.block 1 (.seq (.seq (.region [⟨(some 8), (.mov (.t 4)), none, []⟩,
    ⟨(some 9), (.indexArr 1 4096 (.t 1) (.t 8)), none, []⟩,
    ⟨(some 10), (.load none (.t 9)), none, []⟩,
    ⟨(some 11), (.un .not (.t 10)), none, []⟩] none)
  (.cond (.t 11)
  (.seq (.region [⟨(some 12), (.mov (.t 4)), none, []⟩,
    ⟨(some 13), (.bin .add (.t 12) (.c (.int .i64 1))), none, []⟩,
    ⟨(some 4), (.mov (.t 13)), none, []⟩] none)
  (.exit 1))
  .skip))
  (.seq (.region [⟨(some 14), (.mov (.t 4)), none, []⟩,
    ⟨(some 5), (.mov (.t 14)), none, []⟩] none)
  (.seq (.block 2 (.loop F35L0))
  (.seq (.region [⟨(some 21), (.mov (.t 3)), none, []⟩,
    ⟨(some 22), (.mov (.t 5)), none, []⟩,
    ⟨(some 23), (.mov (.t 4)), none, []⟩,
    ⟨(some 24), (.build [(.int .i64 0), (.int .i64 0)] [(0, 1, (.t 22)), (1, 1, (.t 23))]), none, []⟩,
    ⟨(some 25), (.buildSlice 70 2 1 [(.int .i64 0), (.int .i64 0)] [(0, 2, (.t 24))]), none, []⟩,
    ⟨(some 26), (.append 70 2 16 (.t 21) (.t 25)), none, []⟩,
    ⟨(some 3), (.mov (.t 26)), none, []⟩] none)
  (.region [⟨(some 27), (.mov (.t 4)), none, []⟩,
    ⟨(some 28), (.bin .add (.t 27) (.c (.int .i64 1))), none, []⟩,
    ⟨(some 4), (.mov (.t 28)), none, []⟩] none)))))))
def B35 : ACode := (.seq (.region [⟨(some 1), (.box 45 (.t 0)), none, []⟩,
    ⟨(some 2), (.mov (.c (.slice none 0 0))), none, []⟩] none)
  (.seq (.region [⟨(some 3), (.mov (.c (.slice none 0 0))), none, []⟩] none)
  (.seq (.region [⟨(some 4), (.mov (.c (.int .i64 1))), none, []⟩] none)
  (.seq (.block 0 (.loop F35L1))
  (.seq (.region [⟨(some 29), (.mov (.t 3)), none, []⟩,
    ⟨(some 2), (.mov (.t 29)), none, []⟩] none)
  .ret)))))
def F35 : AFunc := ⟨1, 30, [(.tmp 2)], B35⟩
-- F35L0 live: [1, 3, 4, 5]

-- F35L1 live: [1, 3, 4]
/-- toll/tollref14.Len -/
def F36L0 : ACode := (.seq (.seq (.region [⟨(some 5), (.mov (.t 4)), none, []⟩,
    ⟨(some 6), (.bin .leq (.t 5) (.c (.int .i64 4094))), none, []⟩] none)
  (.cond (.t 6)
  .skip
  (.exit 0)))
  (.seq (.block 1 (.seq (.region [⟨(some 9), (.mov (.t 4)), none, []⟩,
    ⟨(some 10), (.indexArr 1 4096 (.t 1) (.t 9)), none, []⟩,
    ⟨(some 11), (.load none (.t 10)), none, []⟩] none)
  (.cond (.t 11)
  (.region [⟨(some 12), (.mov (.t 3)), none, []⟩,
    ⟨(some 13), (.bin .add (.t 12) (.c (.int .i64 1))), none, []⟩,
    ⟨(some 3), (.mov (.t 13)), none, []⟩] none)
  .skip)))
  (.region [⟨(some 7), (.mov (.t 4)), none, []⟩,
    ⟨(some 8), (.bin .add (.t 7) (.c (.int .i64 1))), none, []⟩,
    ⟨(some 4), (.mov (.t 8)), none, []⟩] none)))
def B36 : ACode := (.seq (.region [⟨(some 1), (.box 45 (.t 0)), none, []⟩,
    ⟨(some 2), (.mov (.c (.int .i64 0))), none, []⟩] none)
  (.seq (.region [⟨(some 3), (.mov (.c (.int .i64 0))), none, []⟩] none)
  (.seq (.seq (.region [⟨(some 4), (.mov (.c (.int .i64 1))), none, []⟩] none)
  (.block 0 (.loop F36L0)))
  (.seq (.region [⟨(some 14), (.mov (.t 3)), none, []⟩,
    ⟨(some 2), (.mov (.t 14)), none, []⟩] none)
  .ret))))
def F36 : AFunc := ⟨1, 15, [(.tmp 2)], B36⟩
-- F36L0 live: [1, 3, 4]
def R37_0 : ACode := .region [⟨(some 32), (.mov (.t 3)), none, []⟩,
    ⟨(some 33), (.mov (.t 5)), none, []⟩,
    ⟨(some 34), (.indexAddr 2 (.t 32) (.t 33)), none, [0, 1]⟩,
    ⟨(some 35), (.indexArr 1 2 (.t 34) (.c (.int .i64 1))), none, [2]⟩,
    ⟨(some 36), (.load none (.t 35)), none, [3]⟩,
    ⟨(some 37), (.mov (.t 3)), none, []⟩,
    ⟨(some 38), (.mov (.t 5)), none, []⟩,
    ⟨(some 39), (.indexAddr 2 (.t 37) (.t 38)), none, [5, 6]⟩,
    ⟨(some 40), (.indexArr 1 2 (.t 39) (.c (.int .i64 0))), none, [7]⟩,
    ⟨(some 41), (.load none (.t 40)), none, [8]⟩,
    ⟨(some 42), (.bin .gtr (.t 36) (.t 41)), none, [4, 9]⟩] (some [(0, 1), (0, 5), (1, 5), (2, 5), (3, 5), (4, 5), (0, 6), (1, 6), (2, 6), (3, 6), (4, 6), (5, 6), (0, 7), (1, 7), (2, 7), (3, 7), (4, 7), (0, 8), (1, 8), (2, 8), (3, 8), (4, 8), (0, 9), (1, 9), (2, 9), (3, 9), (4, 9)])
/-- toll/tollref14.Text -/
def F37L0 : ACode := (.seq (.seq (.region [⟨(some 14), (.mov (.t 5)), none, []⟩,
    ⟨(some 15), (.mov (.t 3)), none, []⟩,
    ⟨(some 16), (.lenSlice (.t 15)), none, []⟩,
    ⟨(some 17), (.bin .lss (.t 14) (.t 16)), none, []⟩] none)
  (.cond (.t 17)
  .skip
  (.exit 0)))
  (.seq (.block 1 (.seq (.seq (.region [⟨(some 20), (.mov (.t 5)), none, []⟩,
    ⟨(some 21), (.bin .gtr (.t 20) (.c (.int .i64 0))), none, []⟩] none)
  (.cond (.t 21)
  (.region [⟨(some 22), (.mov (.t 4)), none, []⟩,
    ⟨(some 23), (.bin .add (.t 22) (.c (.string ⟨#[44]⟩))), none, []⟩,
    ⟨(some 4), (.mov (.t 23)), none, []⟩] none)
  .skip))
  (.seq (.region [⟨(some 24), (.mov (.t 4)), none, []⟩,
    ⟨(some 25), (.mov (.t 3)), none, []⟩,
    ⟨(some 26), (.mov (.t 5)), none, []⟩,
    ⟨(some 27), (.indexAddr 2 (.t 25) (.t 26)), none, []⟩,
    ⟨(some 28), (.indexArr 1 2 (.t 27) (.c (.int .i64 0))), none, []⟩,
    ⟨(some 29), (.load none (.t 28)), none, []⟩,
    ⟨(some 30), (.call (.f 47) [(.t 29)]), none, []⟩,
    ⟨(some 31), (.bin .add (.t 24) (.t 30)), none, []⟩,
    ⟨(some 4), (.mov (.t 31)), none, []⟩] none)
  (.seq R37_0
  (.cond (.t 42)
  (.region [⟨(some 43), (.mov (.t 4)), none, []⟩,
    ⟨(some 44), (.bin .add (.t 43) (.c (.string ⟨#[45]⟩))), none, []⟩,
    ⟨(some 45), (.mov (.t 3)), none, []⟩,
    ⟨(some 46), (.mov (.t 5)), none, []⟩,
    ⟨(some 47), (.indexAddr 2 (.t 45) (.t 46)), none, []⟩,
    ⟨(some 48), (.indexArr 1 2 (.t 47) (.c (.int .i64 1))), none, []⟩,
    ⟨(some 49), (.load none (.t 48)), none, []⟩,
    ⟨(some 50), (.call (.f 47) [(.t 49)]), none, []⟩,
    ⟨(some 51), (.bin .add (.t 44) (.t 50)), none, []⟩,
    ⟨(some 4), (.mov (.t 51)), none, []⟩] none)
  .skip)))))
  (.region [⟨(some 18), (.mov (.t 5)), none, []⟩,
    ⟨(some 19), (.bin .add (.t 18) (.c (.int .i64 1))), none, []⟩,
    ⟨(some 5), (.mov (.t 19)), none, []⟩] none)))
def B37 : ACode := (.seq (.region [⟨(some 1), (.box 45 (.t 0)), none, []⟩,
    ⟨(some 2), (.mov (.c (.string ⟨#[]⟩))), none, []⟩] none)
  (.seq (.seq (.region [⟨(some 6), (.load (some 4096) (.t 1)), none, []⟩,
    ⟨(some 7), (.call (.f 36) [(.t 6)]), none, []⟩,
    ⟨(some 8), (.bin .eql (.t 7) (.c (.int .i64 0))), none, []⟩] none)
  (.cond (.t 8)
  (.seq (.region [⟨(some 2), (.mov (.c (.string ⟨#[110, 111, 110, 101]⟩))), none, []⟩] none)
  .ret)
  .skip))
  (.seq (.seq (.region [⟨(some 9), (.load (some 4096) (.t 1)), none, []⟩,
    ⟨(some 10), (.call (.f 36) [(.t 9)]), none, []⟩,
    ⟨(some 11), (.bin .eql (.t 10) (.c (.int .i64 4094))), none, []⟩] none)
  (.cond (.t 11)
  (.seq (.region [⟨(some 2), (.mov (.c (.string ⟨#[97, 108, 108]⟩))), none, []⟩] none)
  .ret)
  .skip))
  (.seq (.region [⟨(some 12), (.load (some 4096) (.t 1)), none, []⟩,
    ⟨(some 13), (.call (.f 35) [(.t 12)]), none, []⟩,
    ⟨(some 3), (.mov (.t 13)), none, []⟩] none)
  (.seq (.region [⟨(some 4), (.mov (.c (.string ⟨#[]⟩))), none, []⟩] none)
  (.seq (.seq (.region [⟨(some 5), (.mov (.c (.int .i64 0))), none, []⟩] none)
  (.block 0 (.loop F37L0)))
  (.seq (.region [⟨(some 52), (.mov (.t 4)), none, []⟩,
    ⟨(some 2), (.mov (.t 52)), none, []⟩] none)
  .ret)))))))
def F37 : AFunc := ⟨1, 53, [(.tmp 2)], B37⟩
-- F37L0 live: [3, 4, 5]
/-- (toll/vset.Set).Each$1 -/
def F38L0 : ACode := (.seq (.seq (.region [⟨(some 11), (.mov (.t 4)), none, []⟩,
    ⟨(some 12), (.bin .neq (.t 11) (.c (.int .u64 0))), none, []⟩] none)
  (.cond (.t 12)
  .skip
  (.exit 2)))
  (.seq (.block 3 (.seq (.region [⟨(some 17), (.mov (.t 0)), none, []⟩,
    ⟨(some 18), (.mov (.t 3)), none, []⟩,
    ⟨(some 19), (.bin .mul (.c (.int .i64 64)) (.t 18)), none, []⟩,
    ⟨(some 20), (.mov (.t 4)), none, []⟩,
    ⟨(some 21), (.call (.f 39) [(.t 20)]), none, []⟩,
    ⟨(some 22), (.bin .add (.t 19) (.t 21)), none, []⟩,
    ⟨(some 23), (.call (.t 17) [(.t 22)]), none, []⟩,
    ⟨(some 24), (.un .not (.t 23)), none, []⟩] none)
  (.cond (.t 24)
  .ret
  .skip)))
  (.region [⟨(some 13), (.mov (.t 4)), none, []⟩,
    ⟨(some 14), (.mov (.t 4)), none, []⟩,
    ⟨(some 15), (.bin .sub (.t 14) (.c (.int .u64 1))), none, []⟩,
    ⟨(some 16), (.bin .and (.t 13) (.t 15)), none, []⟩,
    ⟨(some 4), (.mov (.t 16)), none, []⟩] none)))
def F38L1 : ACode := (.seq (.region [⟨(some 8), (.bin .lss (.t 7) (.c (.int .i64 64))), none, []⟩] none)
  (.seq (.cond (.t 8)
  .skip
  (.exit 0))
  (.seq (.block 1 (.seq (.region [⟨(some 9), (.mov (.t 7)), none, []⟩,
    ⟨(some 10), (.index 1 64 none (.t 6) (.t 7)), none, []⟩,
    ⟨(some 3), (.mov (.t 9)), none, []⟩,
    ⟨(some 4), (.mov (.t 10)), none, []⟩] none)
  (.block 2 (.loop F38L0))))
  (.region [⟨(some 25), (.bin .add (.t 7) (.c (.int .i64 1))), none, []⟩,
    ⟨(some 7), (.mov (.t 25)), none, []⟩] none))))
def B38 : ACode := (.seq (.region [⟨(some 5), (.fieldAddr 0 (.t 1)), none, []⟩,
    ⟨(some 6), (.load (some 64) (.t 5)), none, []⟩,
    ⟨(some 7), (.mov (.c (.int .i64 0))), none, []⟩] none)
  (.block 0 (.loop F38L1)))
def F38 : AFunc := ⟨2, 26, [], B38⟩
-- F38L0 live: [0, 3, 4, 6, 7]

-- F38L1 live: [0, 6, 7]
/-- math/bits.TrailingZeros64 -/
def B39 : ACode := (.seq (.region [⟨(some 2), (.mov (.c (.int .i64 0))), none, []⟩] none)
  (.seq (.seq (.region [⟨(some 3), (.mov (.t 0)), none, []⟩,
    ⟨(some 4), (.bin .eql (.t 3) (.c (.int .u64 0))), none, []⟩] none)
  (.cond (.t 4)
  (.seq (.region [⟨(some 2), (.mov (.c (.int .i64 64))), none, []⟩] none)
  .ret)
  .skip))
  (.seq (.region [⟨(some 5), (.mov (.t 0)), none, []⟩,
    ⟨(some 6), (.mov (.t 0)), none, []⟩,
    ⟨(some 7), (.un .neg (.t 6)), none, []⟩,
    ⟨(some 8), (.bin .and (.t 5) (.t 7)), none, []⟩,
    ⟨(some 9), (.bin .mul (.t 8) (.c (.int .u64 285870213051353865))), none, []⟩,
    ⟨(some 10), (.bin .shr (.t 9) (.c (.int .u64 58))), none, []⟩,
    ⟨(some 11), (.indexArr 1 64 (.g 0) (.t 10)), none, []⟩,
    ⟨(some 12), (.load none (.t 11)), none, []⟩,
    ⟨(some 13), (.conv .i64 (.t 12)), none, []⟩,
    ⟨(some 2), (.mov (.t 13)), none, []⟩] none)
  .ret)))
def F39 : AFunc := ⟨1, 14, [(.tmp 2)], B39⟩
/-- strings.genSplit -/
def F40L0 : ACode := (.seq (.seq (.region [⟨(some 34), (.mov (.t 10)), none, []⟩,
    ⟨(some 35), (.mov (.t 3)), none, []⟩,
    ⟨(some 36), (.bin .lss (.t 34) (.t 35)), none, []⟩] none)
  (.cond (.t 36)
  .skip
  (.exit 0)))
  (.block 1 (.seq (.region [⟨(some 37), (.mov (.t 0)), none, []⟩,
    ⟨(some 38), (.mov (.t 1)), none, []⟩,
    ⟨(some 39), (.call (.f 50) [(.t 37), (.t 38)]), none, []⟩,
    ⟨(some 11), (.mov (.t 39)), none, []⟩] none)
  (.seq (.seq (.region [⟨(some 40), (.mov (.t 11)), none, []⟩,
    ⟨(some 41), (.bin .lss (.t 40) (.c (.int .i64 0))), none, []⟩] none)
  (.cond (.t 41)
  (.exit 0)
  .skip))
  (.seq (.region [⟨(some 42), (.mov (.t 9)), none, []⟩,
    ⟨(some 43), (.mov (.t 10)), none, []⟩,
    ⟨(some 44), (.mov (.t 0)), none, []⟩,
    ⟨(some 45), (.mov (.t 11)), none, []⟩,
    ⟨(some 46), (.mov (.t 2)), none, []⟩,
    ⟨(some 47), (.bin .add (.t 45) (.t 46)), none, []⟩,
    ⟨(some 48), (.sliceStr (.t 44) none (some (.t 47))), none, []⟩,
    ⟨(some 49), (.indexAddr 1 (.t 42) (.t 43)), none, []⟩,
    ⟨none, (.store 1 (.t 49) (.t 48)), none, []⟩] none)
  (.seq (.region [⟨(some 50), (.mov (.t 0)), none, []⟩,
    ⟨(some 51), (.mov (.t 11)), none, []⟩,
    ⟨(some 52), (.mov (.t 1)), none, []⟩,
    ⟨(some 53), (.lenStr (.t 52)), none, []⟩,
    ⟨(some 54), (.bin .add (.t 51) (.t 53)), none, []⟩,
    ⟨(some 55), (.sliceStr (.t 50) (some (.t 54)) none), none, []⟩,
    ⟨(some 0), (.mov (.t 55)), none, []⟩] none)
  (.region [⟨(some 56), (.mov (.t 10)), none, []⟩,
    ⟨(some 57), (.bin .add (.t 56) (.c (.int .i64 1))), none, []⟩,
    ⟨(some 10), (.mov (.t 57)), none, []⟩] none)))))))
def B40 : ACode := (.seq (.region [⟨(some 8), (.mov (.c (.slice none 0 0))), none, []⟩] none)
  (.seq (.seq (.region [⟨(some 12), (.mov (.t 3)), none, []⟩,
    ⟨(some 13), (.bin .eql (.t 12) (.c (.int .i64 0))), none, []⟩] none)
  (.cond (.t 13)
  (.seq (.region [⟨(some 8), (.mov (.c (.slice none 0 0))), none, []⟩] none)
  .ret)
  .skip))
  (.seq (.seq (.region [⟨(some 14), (.mov (.t 1)), none, []⟩,
    ⟨(some 15), (.bin .eql (.t 14) (.c (.string ⟨#[]⟩))), none, []⟩] none)
  (.cond (.t 15)
  (.seq (.region [⟨(some 16), (.mov (.t 0)), none, []⟩,
    ⟨(some 17), (.mov (.t 3)), none, []⟩,
    ⟨(some 18), (.call (.f 48) [(.t 16), (.t 17)]), none, []⟩,
    ⟨(some 8), (.mov (.t 18)), none, []⟩] none)
  .ret)
  .skip))
  (.seq (.seq (.region [⟨(some 19), (.mov (.t 3)), none, []⟩,
    ⟨(some 20), (.bin .lss (.t 19) (.c (.int .i64 0))), none, []⟩] none)
  (.cond (.t 20)
  (.region [⟨(some 21), (.mov (.t 0)), none, []⟩,
    ⟨(some 22), (.mov (.t 1)), none, []⟩,
    ⟨(some 23), (.call (.f 49) [(.t 21), (.t 22)]), none, []⟩,
    ⟨(some 24), (.bin .add (.t 23) (.c (.int .i64 1))), none, []⟩,
    ⟨(some 3), (.mov (.t 24)), none, []⟩] none)
  .skip))
  (.seq (.region [⟨(some 25), (.mov (.t 3)), none, []⟩,
    ⟨(some 26), (.mov (.t 0)), none, []⟩,
    ⟨(some 27), (.lenStr (.t 26)), none, []⟩,
    ⟨(some 28), (.bin .add (.t 27) (.c (.int .i64 1))), none, []⟩,
    ⟨(some 29), (.min [(.t 25), (.t 28)]), none, []⟩,
    ⟨(some 3), (.mov (.t 29)), none, []⟩] none)
  (.seq (.region [⟨(some 30), (.mov (.t 3)), none, []⟩,
    ⟨(some 31), (.makeSlice 9 1 16 [(.string ⟨#[]⟩)] (.t 30) (.t 30)), none, []⟩,
    ⟨(some 9), (.mov (.t 31)), none, []⟩] none)
  (.seq (.region [⟨(some 32), (.mov (.t 3)), none, []⟩,
    ⟨(some 33), (.bin .sub (.t 32) (.c (.int .i64 1))), none, []⟩,
    ⟨(some 3), (.mov (.t 33)), none, []⟩] none)
  (.seq (.region [⟨(some 10), (.mov (.c (.int .i64 0))), none, []⟩] none)
  (.seq (.block 0 (.loop F40L0))
  (.seq (.region [⟨(some 58), (.mov (.t 9)), none, []⟩,
    ⟨(some 59), (.mov (.t 10)), none, []⟩,
    ⟨(some 60), (.mov (.t 0)), none, []⟩,
    ⟨(some 61), (.indexAddr 1 (.t 58) (.t 59)), none, []⟩,
    ⟨none, (.store 1 (.t 61) (.t 60)), none, []⟩] none)
  (.seq (.region [⟨(some 62), (.mov (.t 9)), none, []⟩,
    ⟨(some 63), (.mov (.t 10)), none, []⟩,
    ⟨(some 64), (.bin .add (.t 63) (.c (.int .i64 1))), none, []⟩,
    ⟨(some 65), (.slice 1 (.t 62) none (some (.t 64)) none), none, []⟩,
    ⟨(some 8), (.mov (.t 65)), none, []⟩] none)
  .ret)))))))))))
def F40 : AFunc := ⟨4, 66, [(.tmp 8)], B40⟩
-- F40L0 live: [0, 1, 2, 3, 9, 10]
/-- strings.Cut -/
def B41 : ACode := (.seq (.region [⟨(some 4), (.mov (.c (.string ⟨#[]⟩))), none, []⟩,
    ⟨(some 5), (.mov (.c (.string ⟨#[]⟩))), none, []⟩,
    ⟨(some 6), (.mov (.c (.bool false))), none, []⟩] none)
  (.seq (.region [⟨(some 7), (.mov (.t 0)), none, []⟩,
    ⟨(some 8), (.mov (.t 1)), none, []⟩,
    ⟨(some 9), (.call (.f 51) [(.t 7), (.t 8)]), none, []⟩,
    ⟨(some 10), (.extract (.t 9) 0), none, []⟩,
    ⟨(some 11), (.extract (.t 9) 1), none, []⟩,
    ⟨(some 12), (.extract (.t 9) 2), none, []⟩,
    ⟨(some 4), (.mov (.t 10)), none, []⟩,
    ⟨(some 5), (.mov (.t 11)), none, []⟩,
    ⟨(some 6), (.mov (.t 12)), none, []⟩] none)
  .ret))
def F41 : AFunc := ⟨2, 13, [(.tmp 4), (.tmp 5), (.tmp 6)], B41⟩
def R42_0 : ACode := .region [⟨(some 18), (.mov (.t 4)), none, []⟩,
    ⟨(some 19), (.conv .i64 (.t 18)), none, [0]⟩,
    ⟨(some 20), (.mov (.t 5)), none, []⟩,
    ⟨(some 21), (.eqv false .iface true (.t 20) (.c .nilIface)), none, [2]⟩,
    ⟨(some 2), (.mov (.t 19)), none, [1, 0, 1]⟩,
    ⟨(some 3), (.mov (.t 21)), none, [3, 4, 0, 1, 2, 3, 4]⟩] (some [(0, 2), (1, 2), (0, 3), (1, 3), (2, 4), (3, 4)])
/-- toll/vset.number -/
def B42 : ACode := (.seq (.region [⟨(some 2), (.mov (.c (.int .i64 0))), none, []⟩,
    ⟨(some 3), (.mov (.c (.bool false))), none, []⟩] none)
  (.seq (.seq (.region [⟨(some 6), (.mov (.t 0)), none, []⟩,
    ⟨(some 7), (.lenStr (.t 6)), none, []⟩,
    ⟨(some 8), (.bin .gtr (.t 7) (.c (.int .i64 4))), none, []⟩,
    ⟨(some 9), (.mov (.t 8)), none, []⟩,
    ⟨(some 10), (.mov (.t 0)), (some (9, false)), []⟩,
    ⟨(some 11), (.call (.f 52) [(.t 10), (.c (.string ⟨#[48]⟩))]), (some (9, false)), []⟩,
    ⟨(some 12), (.pick (.t 9) (.c (.bool true)) (.t 11)), none, []⟩] none)
  (.cond (.t 12)
  (.seq (.region [⟨(some 2), (.mov (.c (.int .i64 0))), none, []⟩,
    ⟨(some 3), (.mov (.c (.bool false))), none, []⟩] none)
  .ret)
  .skip))
  (.seq (.region [⟨(some 14), (.mov (.t 0)), none, []⟩,
    ⟨(some 15), (.call (.f 53) [(.t 14), (.c (.int .i64 10)), (.c (.int .i64 16))]), none, []⟩,
    ⟨(some 13), (.mov (.t 15)), none, []⟩,
    ⟨(some 16), (.extract (.t 13) 0), none, []⟩,
    ⟨(some 17), (.extract (.t 13) 1), none, []⟩,
    ⟨(some 4), (.mov (.t 16)), none, []⟩,
    ⟨(some 5), (.mov (.t 17)), none, []⟩] none)
  (.seq R42_0
  .ret))))
def F42 : AFunc := ⟨1, 22, [(.tmp 2), (.tmp 3)], B42⟩
/-- internal/strconv.Itoa -/
def B43 : ACode := (.seq (.region [⟨(some 2), (.mov (.c (.string ⟨#[]⟩))), none, []⟩] none)
  (.seq (.region [⟨(some 3), (.mov (.t 0)), none, []⟩,
    ⟨(some 4), (.call (.f 54) [(.t 3), (.c (.int .i64 10))]), none, []⟩,
    ⟨(some 2), (.mov (.t 4)), none, []⟩] none)
  .ret))
def F43 : AFunc := ⟨1, 5, [(.tmp 2)], B43⟩
def R44_0 : ACode := .region [⟨(some 9), (.mov (.t 0)), none, []⟩,
    ⟨(some 10), (.nilCheck (.t 9)), none, [0]⟩,
    ⟨(some 11), (.fieldAddr 1 (.t 10)), none, [1]⟩,
    ⟨(some 12), (.load none (.t 11)), none, [2]⟩,
    ⟨(some 13), (.cap (.t 12)), none, [3]⟩,
    ⟨(some 14), (.mov (.t 0)), none, []⟩,
    ⟨(some 15), (.nilCheck (.t 14)), none, [5]⟩,
    ⟨(some 16), (.fieldAddr 1 (.t 15)), none, [6]⟩,
    ⟨(some 17), (.load none (.t 16)), none, [7]⟩,
    ⟨(some 18), (.lenSlice (.t 17)), none, [8]⟩,
    ⟨(some 19), (.bin .sub (.t 13) (.t 18)), none, [4, 9]⟩,
    ⟨(some 20), (.mov (.t 1)), none, []⟩,
    ⟨(some 21), (.bin .lss (.t 19) (.t 20)), none, [10, 11]⟩] (some [(0, 5), (1, 5), (2, 5), (3, 5), (4, 5), (0, 6), (1, 6), (2, 6), (3, 6), (4, 6), (0, 7), (1, 7), (2, 7), (3, 7), (4, 7), (0, 8), (1, 8), (2, 8), (3, 8), (4, 8), (0, 9), (1, 9), (2, 9), (3, 9), (4, 9), (0, 11), (1, 11), (2, 11), (3, 11), (4, 11), (5, 11), (6, 11), (7, 11), (8, 11), (9, 11), (10, 11)])
/-- (*strings.Builder).Grow -/
def B44 : ACode := (.seq (.region [⟨(some 4), (.mov (.t 0)), none, []⟩,
    ⟨(some 5), (.call (.f 55) [(.t 4)]), none, []⟩] none)
  (.seq (.seq (.region [⟨(some 6), (.mov (.t 1)), none, []⟩,
    ⟨(some 7), (.bin .lss (.t 6) (.c (.int .i64 0))), none, []⟩] none)
  (.cond (.t 7)
  (.region [⟨(some 8), (.makeIface 9 (.c (.string ⟨#[115, 116, 114, 105, 110, 103, 115, 46, 66, 117, 105, 108, 100, 101, 114, 46, 71, 114, 111, 119, 58, 32, 110, 101, 103, 97, 116, 105, 118, 101, 32, 99, 111, 117, 110, 116]⟩))), none, []⟩,
    ⟨none, .fail, none, []⟩] none)
  .skip))
  (.seq R44_0
  (.cond (.t 21)
  (.region [⟨(some 22), (.mov (.t 0)), none, []⟩,
    ⟨(some 23), (.mov (.t 1)), none, []⟩,
    ⟨(some 24), (.call (.f 56) [(.t 22), (.t 23)]), none, []⟩] none)
  .skip))))
def F44 : AFunc := ⟨2, 25, [], B44⟩
/-- (*strings.Builder).WriteString -/
def B45 : ACode := (.seq (.region [⟨(some 4), (.mov (.c (.int .i64 0))), none, []⟩,
    ⟨(some 5), (.mov (.c .nilIface)), none, []⟩] none)
  (.seq (.region [⟨(some 6), (.mov (.t 0)), none, []⟩,
    ⟨(some 7), (.call (.f 55) [(.t 6)]), none, []⟩] none)
  (.seq (.region [⟨(some 8), (.mov (.t 0)), none, []⟩,
    ⟨(some 9), (.mov (.t 0)), none, []⟩,
    ⟨(some 10), (.nilCheck (.t 9)), none, []⟩,
    ⟨(some 11), (.fieldAddr 1 (.t 10)), none, []⟩,
    ⟨(some 12), (.load none (.t 11)), none, []⟩,
    ⟨(some 13), (.mov (.t 1)), none, []⟩,
    ⟨(some 14), (.append 5 1 1 (.t 12) (.t 13)), none, []⟩,
    ⟨(some 15), (.nilCheck (.t 8)), none, []⟩,
    ⟨(some 16), (.fieldAddr 1 (.t 15)), none, []⟩,
    ⟨none, (.store 1 (.t 16) (.t 14)), none, []⟩] none)
  (.seq (.region [⟨(some 17), (.mov (.t 1)), none, []⟩,
    ⟨(some 18), (.lenStr (.t 17)), none, []⟩,
    ⟨(some 4), (.mov (.t 18)), none, []⟩,
    ⟨(some 5), (.mov (.c .nilIface)), none, []⟩] none)
  .ret))))
def F45 : AFunc := ⟨2, 19, [(.tmp 4), (.tmp 5)], B45⟩
def R46_0 : ACode := .region [⟨(some 3), (.mov (.t 0)), none, []⟩,
    ⟨(some 4), (.nilCheck (.t 3)), none, [0]⟩,
    ⟨(some 5), (.fieldAddr 1 (.t 4)), none, [1]⟩,
    ⟨(some 6), (.load none (.t 5)), none, [2]⟩,
    ⟨(some 7), (.sliceData (.t 6)), none, [3]⟩,
    ⟨(some 8), (.mov (.t 0)), none, []⟩,
    ⟨(some 9), (.nilCheck (.t 8)), none, [5]⟩,
    ⟨(some 10), (.fieldAddr 1 (.t 9)), none, [6]⟩,
    ⟨(some 11), (.load none (.t 10)), none, [7]⟩,
    ⟨(some 12), (.lenSlice (.t 11)), none, [8]⟩,
    ⟨(some 13), (.unsafeString 5 (.t 7) (.t 12)), none, [4, 9]⟩,
    ⟨(some 2), (.mov (.t 13)), none, [10, 0, 1, 2, 3, 4, 5, 6, 7, 8, 9, 10]⟩] (some [(0, 5), (1, 5), (2, 5), (3, 5), (4, 5), (0, 6), (1, 6), (2, 6), (3, 6), (4, 6), (0, 7), (1, 7), (2, 7), (3, 7), (4, 7), (0, 8), (1, 8), (2, 8), (3, 8), (4, 8), (0, 9), (1, 9), (2, 9), (3, 9), (4, 9)])
/-- (*strings.Builder).String -/
def B46 : ACode := (.seq (.region [⟨(some 2), (.mov (.c (.string ⟨#[]⟩))), none, []⟩] none)
  (.seq R46_0
  .ret))
def F46 : AFunc := ⟨1, 14, [(.tmp 2)], B46⟩
/-- toll/tollref14.digits -/
def F47L0 : ACode := (.seq (.seq (.region [⟨(some 4), (.mov (.t 0)), none, []⟩,
    ⟨(some 5), (.bin .gtr (.t 4) (.c (.int .i64 0))), none, []⟩] none)
  (.cond (.t 5)
  .skip
  (.exit 0)))
  (.block 1 (.seq (.region [⟨(some 6), (.mov (.t 0)), none, []⟩,
    ⟨(some 7), (.bin .rem (.t 6) (.c (.int .i64 10))), none, []⟩,
    ⟨(some 8), (.bin .add (.c (.int .i64 48)) (.t 7)), none, []⟩,
    ⟨(some 9), (.conv .u8 (.t 8)), none, []⟩,
    ⟨(some 10), (.buildSlice 5 1 1 [(.int .u8 0)] [(0, 1, (.t 9))]), none, []⟩,
    ⟨(some 11), (.strOf (.t 10)), none, []⟩,
    ⟨(some 12), (.mov (.t 3)), none, []⟩,
    ⟨(some 13), (.bin .add (.t 11) (.t 12)), none, []⟩,
    ⟨(some 3), (.mov (.t 13)), none, []⟩] none)
  (.region [⟨(some 14), (.mov (.t 0)), none, []⟩,
    ⟨(some 15), (.bin .quo (.t 14) (.c (.int .i64 10))), none, []⟩,
    ⟨(some 0), (.mov (.t 15)), none, []⟩] none))))
def B47 : ACode := (.seq (.region [⟨(some 2), (.mov (.c (.string ⟨#[]⟩))), none, []⟩] none)
  (.seq (.region [⟨(some 3), (.mov (.c (.string ⟨#[]⟩))), none, []⟩] none)
  (.seq (.block 0 (.loop F47L0))
  (.seq (.region [⟨(some 16), (.mov (.t 3)), none, []⟩,
    ⟨(some 2), (.mov (.t 16)), none, []⟩] none)
  .ret))))
def F47 : AFunc := ⟨1, 17, [(.tmp 2)], B47⟩
-- F47L0 live: [0, 3]
/-- strings.explode -/
def F48L0 : ACode := (.seq (.seq (.region [⟨(some 22), (.mov (.t 7)), none, []⟩,
    ⟨(some 23), (.mov (.t 1)), none, []⟩,
    ⟨(some 24), (.bin .sub (.t 23) (.c (.int .i64 1))), none, []⟩,
    ⟨(some 25), (.bin .lss (.t 22) (.t 24)), none, []⟩] none)
  (.cond (.t 25)
  .skip
  (.exit 0)))
  (.seq (.block 1 (.seq (.region [⟨(some 29), (.mov (.t 0)), none, []⟩,
    ⟨(some 30), (.call (.f 58) [(.t 29)]), none, []⟩,
    ⟨(some 28), (.mov (.t 30)), none, []⟩,
    ⟨(some 31), (.extract (.t 28) 0), none, []⟩,
    ⟨(some 32), (.extract (.t 28) 1), none, []⟩,
    ⟨(some 8), (.mov (.t 31)), none, []⟩,
    ⟨(some 9), (.mov (.t 32)), none, []⟩] none)
  (.seq (.region [⟨(some 33), (.mov (.t 6)), none, []⟩,
    ⟨(some 34), (.mov (.t 7)), none, []⟩,
    ⟨(some 35), (.mov (.t 0)), none, []⟩,
    ⟨(some 36), (.mov (.t 9)), none, []⟩,
    ⟨(some 37), (.sliceStr (.t 35) none (some (.t 36))), none, []⟩,
    ⟨(some 38), (.indexAddr 1 (.t 33) (.t 34)), none, []⟩,
    ⟨none, (.store 1 (.t 38) (.t 37)), none, []⟩] none)
  (.region [⟨(some 39), (.mov (.t 0)), none, []⟩,
    ⟨(some 40), (.mov (.t 9)), none, []⟩,
    ⟨(some 41), (.sliceStr (.t 39) (some (.t 40)) none), none, []⟩,
    ⟨(some 0), (.mov (.t 41)), none, []⟩] none))))
  (.region [⟨(some 26), (.mov (.t 7)), none, []⟩,
    ⟨(some 27), (.bin .add (.t 26) (.c (.int .i64 1))), none, []⟩,
    ⟨(some 7), (.mov (.t 27)), none, []⟩] none)))
def B48 : ACode := (.seq (.region [⟨(some 4), (.mov (.c (.slice none 0 0))), none, []⟩] none)
  (.seq (.region [⟨(some 10), (.mov (.t 0)), none, []⟩,
    ⟨(some 11), (.call (.f 57) [(.t 10)]), none, []⟩,
    ⟨(some 5), (.mov (.t 11)), none, []⟩] none)
  (.seq (.seq (.region [⟨(some 12), (.mov (.t 1)), none, []⟩,
    ⟨(some 13), (.bin .lss (.t 12) (.c (.int .i64 0))), none, []⟩,
    ⟨(some 14), (.mov (.t 13)), none, []⟩,
    ⟨(some 15), (.mov (.t 1)), (some (14, false)), []⟩,
    ⟨(some 16), (.mov (.t 5)), (some (14, false)), []⟩,
    ⟨(some 17), (.bin .gtr (.t 15) (.t 16)), (some (14, false)), []⟩,
    ⟨(some 18), (.pick (.t 14) (.c (.bool true)) (.t 17)), none, []⟩] none)
  (.cond (.t 18)
  (.region [⟨(some 19), (.mov (.t 5)), none, []⟩,
    ⟨(some 1), (.mov (.t 19)), none, []⟩] none)
  .skip))
  (.seq (.region [⟨(some 20), (.mov (.t 1)), none, []⟩,
    ⟨(some 21), (.makeSlice 9 1 16 [(.string ⟨#[]⟩)] (.t 20) (.t 20)), none, []⟩,
    ⟨(some 6), (.mov (.t 21)), none, []⟩] none)
  (.seq (.seq (.region [⟨(some 7), (.mov (.c (.int .i64 0))), none, []⟩] none)
  (.block 0 (.loop F48L0)))
  (.seq (.seq (.region [⟨(some 42), (.mov (.t 1)), none, []⟩,
    ⟨(some 43), (.bin .gtr (.t 42) (.c (.int .i64 0))), none, []⟩] none)
  (.cond (.t 43)
  (.region [⟨(some 44), (.mov (.t 6)), none, []⟩,
    ⟨(some 45), (.mov (.t 1)), none, []⟩,
    ⟨(some 46), (.bin .sub (.t 45) (.c (.int .i64 1))), none, []⟩,
    ⟨(some 47), (.mov (.t 0)), none, []⟩,
    ⟨(some 48), (.indexAddr 1 (.t 44) (.t 46)), none, []⟩,
    ⟨none, (.store 1 (.t 48) (.t 47)), none, []⟩] none)
  .skip))
  (.seq (.region [⟨(some 49), (.mov (.t 6)), none, []⟩,
    ⟨(some 4), (.mov (.t 49)), none, []⟩] none)
  .ret)))))))
def F48 : AFunc := ⟨2, 50, [(.tmp 4)], B48⟩
-- F48L0 live: [0, 1, 6, 7]
/-- strings.Count -/
def F49L0 : ACode := (.block 1 (.seq (.region [⟨(some 20), (.mov (.t 0)), none, []⟩,
    ⟨(some 21), (.mov (.t 1)), none, []⟩,
    ⟨(some 22), (.call (.f 50) [(.t 20), (.t 21)]), none, []⟩,
    ⟨(some 6), (.mov (.t 22)), none, []⟩] none)
  (.seq (.seq (.region [⟨(some 23), (.mov (.t 6)), none, []⟩,
    ⟨(some 24), (.bin .eql (.t 23) (.c (.int .i64 (-1)))), none, []⟩] none)
  (.cond (.t 24)
  (.seq (.region [⟨(some 25), (.mov (.t 5)), none, []⟩,
    ⟨(some 4), (.mov (.t 25)), none, []⟩] none)
  .ret)
  .skip))
  (.seq (.region [⟨(some 26), (.mov (.t 5)), none, []⟩,
    ⟨(some 27), (.bin .add (.t 26) (.c (.int .i64 1))), none, []⟩,
    ⟨(some 5), (.mov (.t 27)), none, []⟩] none)
  (.region [⟨(some 28), (.mov (.t 0)), none, []⟩,
    ⟨(some 29), (.mov (.t 6)), none, []⟩,
    ⟨(some 30), (.mov (.t 1)), none, []⟩,
    ⟨(some 31), (.lenStr (.t 30)), none, []⟩,
    ⟨(some 32), (.bin .add (.t 29) (.t 31)), none, []⟩,
    ⟨(some 33), (.sliceStr (.t 28) (some (.t 32)) none), none, []⟩,
    ⟨(some 0), (.mov (.t 33)), none, []⟩] none)))))
def B49 : ACode := (.seq (.region [⟨(some 4), (.mov (.c (.int .i64 0))), none, []⟩] none)
  (.seq (.seq (.region [⟨(some 7), (.mov (.t 1)), none, []⟩,
    ⟨(some 8), (.lenStr (.t 7)), none, []⟩,
    ⟨(some 9), (.bin .eql (.t 8) (.c (.int .i64 0))), none, []⟩] none)
  (.cond (.t 9)
  (.seq (.region [⟨(some 10), (.mov (.t 0)), none, []⟩,
    ⟨(some 11), (.call (.f 57) [(.t 10)]), none, []⟩,
    ⟨(some 12), (.bin .add (.t 11) (.c (.int .i64 1))), none, []⟩,
    ⟨(some 4), (.mov (.t 12)), none, []⟩] none)
  .ret)
  .skip))
  (.seq (.seq (.region [⟨(some 13), (.mov (.t 1)), none, []⟩,
    ⟨(some 14), (.lenStr (.t 13)), none, []⟩,
    ⟨(some 15), (.bin .eql (.t 14) (.c (.int .i64 1))), none, []⟩] none)
  (.cond (.t 15)
  (.seq (.region [⟨(some 16), (.mov (.t 0)), none, []⟩,
    ⟨(some 17), (.mov (.t 1)), none, []⟩,
    ⟨(some 18), (.indexStr (.t 17) (.c (.int .i64 0))), none, []⟩,
    ⟨(some 19), (.call (.f 59) [(.t 16), (.t 18)]), none, []⟩,
    ⟨(some 4), (.mov (.t 19)), none, []⟩] none)
  .ret)
  .skip))
  (.seq (.region [⟨(some 5), (.mov (.c (.int .i64 0))), none, []⟩] none)
  (.block 0 (.loop F49L0))))))
def F49 : AFunc := ⟨2, 34, [(.tmp 4)], B49⟩
-- F49L0 live: [0, 1, 5]
/-- strings.Index -/
def B50 : ACode := (.seq (.region [⟨(some 4), (.mov (.c (.int .i64 0))), none, []⟩] none)
  (.seq (.region [⟨(some 5), (.mov (.t 0)), none, []⟩,
    ⟨(some 6), (.mov (.t 1)), none, []⟩,
    ⟨(some 7), (.call (.f 60) [(.t 5), (.t 6)]), none, []⟩,
    ⟨(some 4), (.mov (.t 7)), none, []⟩] none)
  .ret))
def F50 : AFunc := ⟨2, 8, [(.tmp 4)], B50⟩
def R51_0 : ACode := .region [⟨(some 13), (.mov (.t 0)), none, []⟩,
    ⟨(some 14), (.mov (.t 7)), none, []⟩,
    ⟨(some 15), (.sliceStr (.t 13) none (some (.t 14))), none, [0, 1]⟩,
    ⟨(some 16), (.mov (.t 0)), none, []⟩,
    ⟨(some 17), (.mov (.t 7)), none, []⟩,
    ⟨(some 18), (.mov (.t 1)), none, []⟩,
    ⟨(some 19), (.lenStr (.t 18)), none, [5]⟩,
    ⟨(some 20), (.bin .add (.t 17) (.t 19)), none, [4, 6]⟩,
    ⟨(some 21), (.sliceStr (.t 16) (some (.t 20)) none), none, [3, 7]⟩,
    ⟨(some 4), (.mov (.t 15)), none, [2, 0, 1, 2]⟩,
    ⟨(some 5), (.mov (.t 21)), none, [8, 9, 0, 1, 2, 3, 4, 5, 6, 7, 8, 9]⟩,
    ⟨(some 6), (.mov (.c (.bool true))), none, [10, 0, 1, 2, 3, 4, 5, 6, 7, 8, 9, 10]⟩] (some [(0, 1), (0, 3), (1, 3), (2, 3), (0, 4), (1, 4), (2, 4), (3, 4), (0, 5), (1, 5), (2, 5), (3, 5), (4, 5), (0, 6), (1, 6), (2, 6), (3, 6), (4, 6), (0, 7), (1, 7), (2, 7), (3, 7), (0, 8), (1, 8), (2, 8), (3, 9), (4, 9), (5, 9), (6, 9), (7, 9), (8, 9)])
/-- internal/stringslite.Cut -/
def B51 : ACode := (.seq (.region [⟨(some 4), (.mov (.c (.string ⟨#[]⟩))), none, []⟩,
    ⟨(some 5), (.mov (.c (.string ⟨#[]⟩))), none, []⟩,
    ⟨(some 6), (.mov (.c (.bool false))), none, []⟩] none)
  (.seq (.seq (.region [⟨(some 8), (.mov (.t 0)), none, []⟩,
    ⟨(some 9), (.mov (.t 1)), none, []⟩,
    ⟨(some 10), (.call (.f 60) [(.t 8), (.t 9)]), none, []⟩,
    ⟨(some 7), (.mov (.t 10)), none, []⟩] none)
  (.seq (.region [⟨(some 11), (.mov (.t 7)), none, []⟩,
    ⟨(some 12), (.bin .geq (.t 11) (.c (.int .i64 0))), none, []⟩] none)
  (.cond (.t 12)
  (.seq R51_0
  .ret)
  .skip)))
  (.seq (.region [⟨(some 22), (.mov (.t 0)), none, []⟩,
    ⟨(some 4), (.mov (.t 22)), none, []⟩,
    ⟨(some 5), (.mov (.c (.string ⟨#[]⟩))), none, []⟩,
    ⟨(some 6), (.mov (.c (.bool false))), none, []⟩] none)
  .ret)))
def F51 : AFunc := ⟨2, 23, [(.tmp 4), (.tmp 5), (.tmp 6)], B51⟩
/-- strings.HasPrefix -/
def B52 : ACode := (.seq (.region [⟨(some 4), (.mov (.c (.bool false))), none, []⟩] none)
  (.seq (.region [⟨(some 5), (.mov (.t 0)), none, []⟩,
    ⟨(some 6), (.mov (.t 1)), none, []⟩,
    ⟨(some 7), (.call (.f 61) [(.t 5), (.t 6)]), none, []⟩,
    ⟨(some 4), (.mov (.t 7)), none, []⟩] none)
  .ret))
def F52 : AFunc := ⟨2, 8, [(.tmp 4)], B52⟩
/-- strconv.ParseUint -/
def B53 : ACode := (.seq (.region [⟨(some 6), (.mov (.c (.int .u64 0))), none, []⟩,
    ⟨(some 7), (.mov (.c .nilIface)), none, []⟩] none)
  (.seq (.region [⟨(some 11), (.mov (.t 0)), none, []⟩,
    ⟨(some 12), (.mov (.t 1)), none, []⟩,
    ⟨(some 13), (.mov (.t 2)), none, []⟩,
    ⟨(some 14), (.call (.f 62) [(.t 11), (.t 12), (.t 13)]), none, []⟩,
    ⟨(some 10), (.mov (.t 14)), none, []⟩,
    ⟨(some 15), (.extract (.t 10) 0), none, []⟩,
    ⟨(some 16), (.extract (.t 10) 1), none, []⟩,
    ⟨(some 8), (.mov (.t 15)), none, []⟩,
    ⟨(some 9), (.mov (.t 16)), none, []⟩] none)
  (.seq (.seq (.region [⟨(some 17), (.mov (.t 9)), none, []⟩,
    ⟨(some 18), (.eqv true .iface true (.t 17) (.c .nilIface)), none, []⟩] none)
  (.cond (.t 18)
  (.seq (.region [⟨(some 19), (.mov (.t 8)), none, []⟩,
    ⟨(some 20), (.mov (.t 0)), none, []⟩,
    ⟨(some 21), (.mov (.t 1)), none, []⟩,
    ⟨(some 22), (.mov (.t 2)), none, []⟩,
    ⟨(some 23), (.mov (.t 9)), none, []⟩,
    ⟨(some 24), (.call (.f 63) [(.c (.string ⟨#[80, 97, 114, 115, 101, 85, 105, 110, 116]⟩)), (.t 20), (.t 21), (.t 22), (.t 23)]), none, []⟩,
    ⟨(some 6), (.mov (.t 19)), none, []⟩,
    ⟨(some 7), (.mov (.t 24)), none, []⟩] none)
  .ret)
  .skip))
  (.seq (.region [⟨(some 25), (.mov (.t 8)), none, []⟩,
    ⟨(some 6), (.mov (.t 25)), none, []⟩,
    ⟨(some 7), (.mov (.c .nilIface)), none, []⟩] none)
  .ret))))
def F53 : AFunc := ⟨3, 26, [(.tmp 6), (.tmp 7)], B53⟩
/-- internal/strconv.FormatInt -/
def B54 : ACode := (.seq (.region [⟨(some 4), (.mov (.c (.string ⟨#[]⟩))), none, []⟩] none)
  (.seq (.seq (.region [⟨(some 10), (.mov (.t 1)), none, []⟩,
    ⟨(some 11), (.bin .eql (.t 10) (.c (.int .i64 10))), none, []⟩] none)
  (.cond (.t 11)
  (.seq (.seq (.region [⟨(some 12), (.mov (.t 0)), none, []⟩,
    ⟨(some 13), (.bin .leq (.c (.int .i64 0)) (.t 12)), none, []⟩,
    ⟨(some 14), (.mov (.t 13)), none, []⟩,
    ⟨(some 15), (.mov (.t 0)), (some (14, true)), []⟩,
    ⟨(some 16), (.bin .lss (.t 15) (.c (.int .i64 100))), (some (14, true)), []⟩,
    ⟨(some 17), (.pick (.t 14) (.t 16) (.c (.bool false))), none, []⟩] none)
  (.cond (.t 17)
  (.seq (.region [⟨(some 18), (.mov (.t 0)), none, []⟩,
    ⟨(some 19), (.call (.f 64) [(.t 18)]), none, []⟩,
    ⟨(some 4), (.mov (.t 19)), none, []⟩] none)
  .ret)
  .skip))
  (.seq (.region [⟨(some 5), (.alloc 99 [(.int .u8 0), (.int .u8 0), (.int .u8 0), (.int .u8 0), (.int .u8 0), (.int .u8 0), (.int .u8 0), (.int .u8 0), (.int .u8 0), (.int .u8 0), (.int .u8 0), (.int .u8 0), (.int .u8 0), (.int .u8 0), (.int .u8 0), (.int .u8 0), (.int .u8 0), (.int .u8 0), (.int .u8 0), (.int .u8 0), (.int .u8 0), (.int .u8 0), (.int .u8 0), (.int .u8 0)]), none, []⟩] none)
  (.seq (.region [⟨(some 20), (.mov (.t 0)), none, []⟩,
    ⟨(some 21), (.conv .u64 (.t 20)), none, []⟩,
    ⟨(some 6), (.mov (.t 21)), none, []⟩] none)
  (.seq (.seq (.region [⟨(some 22), (.mov (.t 0)), none, []⟩,
    ⟨(some 23), (.bin .lss (.t 22) (.c (.int .i64 0))), none, []⟩] none)
  (.cond (.t 23)
  (.region [⟨(some 24), (.mov (.t 6)), none, []⟩,
    ⟨(some 25), (.un .neg (.t 24)), none, []⟩,
    ⟨(some 6), (.mov (.t 25)), none, []⟩] none)
  .skip))
  (.seq (.region [⟨(some 26), (.mov (.t 6)), none, []⟩,
    ⟨(some 27), (.call (.f 65) [(.t 26)]), none, []⟩,
    ⟨(some 7), (.mov (.t 27)), none, []⟩] none)
  (.seq (.region [⟨(some 28), (.mov (.t 7)), none, []⟩,
    ⟨(some 29), (.bin .add (.c (.int .i64 1)) (.t 28)), none, []⟩,
    ⟨(some 30), (.sliceArr 1 24 (.t 5) (some (.c (.int .i64 1))) (some (.t 29))), none, []⟩,
    ⟨(some 31), (.mov (.t 6)), none, []⟩,
    ⟨(some 32), (.call (.f 66) [(.t 30), (.t 31)]), none, []⟩] none)
  (.seq (.seq (.region [⟨(some 33), (.mov (.t 0)), none, []⟩,
    ⟨(some 34), (.bin .lss (.t 33) (.c (.int .i64 0))), none, []⟩] none)
  (.cond (.t 34)
  (.seq (.region [⟨(some 35), (.indexArr 1 24 (.t 5) (.c (.int .i64 0))), none, []⟩,
    ⟨none, (.store 1 (.t 35) (.c (.int .u8 45))), none, []⟩] none)
  (.seq (.region [⟨(some 36), (.mov (.t 7)), none, []⟩,
    ⟨(some 37), (.bin .add (.c (.int .i64 1)) (.t 36)), none, []⟩,
    ⟨(some 38), (.sliceArr 1 24 (.t 5) none (some (.t 37))), none, []⟩,
    ⟨(some 39), (.strOf (.t 38)), none, []⟩,
    ⟨(some 4), (.mov (.t 39)), none, []⟩] none)
  .ret))
  .skip))
  (.seq (.region [⟨(some 40), (.mov (.t 7)), none, []⟩,
    ⟨(some 41), (.bin .add (.c (.int .i64 1)) (.t 40)), none, []⟩,
    ⟨(some 42), (.sliceArr 1 24 (.t 5) (some (.c (.int .i64 1))) (some (.t 41))), none, []⟩,
    ⟨(some 43), (.strOf (.t 42)), none, []⟩,
    ⟨(some 4), (.mov (.t 43)), none, []⟩] none)
  .ret))))))))
  .skip))
  (.seq (.region [⟨(some 45), (.mov (.t 0)), none, []⟩,
    ⟨(some 46), (.conv .u64 (.t 45)), none, []⟩,
    ⟨(some 47), (.mov (.t 1)), none, []⟩,
    ⟨(some 48), (.mov (.t 0)), none, []⟩,
    ⟨(some 49), (.bin .lss (.t 48) (.c (.int .i64 0))), none, []⟩,
    ⟨(some 50), (.call (.f 67) [(.c (.slice none 0 0)), (.t 46), (.t 47), (.t 49), (.c (.bool false))]), none, []⟩,
    ⟨(some 44), (.mov (.t 50)), none, []⟩,
    ⟨(some 51), (.extract (.t 44) 0), none, []⟩,
    ⟨(some 52), (.extract (.t 44) 1), none, []⟩,
    ⟨(some 8), (.mov (.t 51)), none, []⟩,
    ⟨(some 9), (.mov (.t 52)), none, []⟩] none)
  (.seq (.region [⟨(some 53), (.mov (.t 9)), none, []⟩,
    ⟨(some 4), (.mov (.t 53)), none, []⟩] none)
  .ret))))
def F54 : AFunc := ⟨2, 54, [(.tmp 4)], B54⟩
/-- (*strings.Builder).copyCheck -/
def B55 : ACode := (.seq (.region [⟨(some 2), (.mov (.t 0)), none, []⟩,
    ⟨(some 3), (.nilCheck (.t 2)), none, []⟩,
    ⟨(some 4), (.fieldAddr 0 (.t 3)), none, []⟩,
    ⟨(some 5), (.load none (.t 4)), none, []⟩,
    ⟨(some 6), (.eqv false .ptr false (.t 5) (.c (.pointer none))), none, []⟩] none)
  (.cond (.t 6)
  (.region [⟨(some 7), (.mov (.t 0)), none, []⟩,
    ⟨(some 8), (.mov (.t 0)), none, []⟩,
    ⟨(some 9), (.toUnsafe (.t 8)), none, []⟩,
    ⟨(some 10), (.call (.f 68) [(.t 9)]), none, []⟩,
    ⟨(some 11), (.fromUnsafe 79 2 (.t 10)), none, []⟩,
    ⟨(some 12), (.nilCheck (.t 7)), none, []⟩,
    ⟨(some 13), (.fieldAddr 0 (.t 12)), none, []⟩,
    ⟨none, (.store 1 (.t 13) (.t 11)), none, []⟩] none)
  (.seq (.region [⟨(some 14), (.mov (.t 0)), none, []⟩,
    ⟨(some 15), (.nilCheck (.t 14)), none, []⟩,
    ⟨(some 16), (.fieldAddr 0 (.t 15)), none, []⟩,
    ⟨(some 17), (.load none (.t 16)), none, []⟩,
    ⟨(some 18), (.mov (.t 0)), none, []⟩,
    ⟨(some 19), (.eqv true .ptr false (.t 17) (.t 18)), none, []⟩] none)
  (.cond (.t 19)
  .fail
  .skip))))
def F55 : AFunc := ⟨1, 20, [], B55⟩
def R56_0 : ACode := .region [⟨(some 5), (.mov (.t 0)), none, []⟩,
    ⟨(some 6), (.nilCheck (.t 5)), none, [0]⟩,
    ⟨(some 7), (.fieldAddr 1 (.t 6)), none, [1]⟩,
    ⟨(some 8), (.load none (.t 7)), none, [2]⟩,
    ⟨(some 9), (.cap (.t 8)), none, [3]⟩,
    ⟨(some 10), (.bin .mul (.c (.int .i64 2)) (.t 9)), none, [4]⟩,
    ⟨(some 11), (.mov (.t 1)), none, []⟩,
    ⟨(some 12), (.bin .add (.t 10) (.t 11)), none, [5, 6]⟩,
    ⟨(some 13), (.call (.f 69) [(.t 12)]), none, [7]⟩,
    ⟨(some 14), (.mov (.t 0)), none, []⟩,
    ⟨(some 15), (.nilCheck (.t 14)), none, [9]⟩,
    ⟨(some 16), (.fieldAddr 1 (.t 15)), none, [10]⟩,
    ⟨(some 17), (.load none (.t 16)), none, [11]⟩,
    ⟨(some 18), (.lenSlice (.t 17)), none, [12]⟩,
    ⟨(some 19), (.slice 1 (.t 13) none (some (.t 18)) none), none, [8, 13]⟩,
    ⟨(some 4), (.mov (.t 19)), none, [14, 8, 0, 1, 2, 3, 4, 5, 6, 7, 8, 9, 10, 11, 12, 13, 14]⟩] (some [(0, 6), (1, 6), (2, 6), (3, 6), (4, 6), (5, 6), (0, 9), (1, 9), (2, 9), (3, 9), (4, 9), (5, 9), (6, 9), (7, 9), (8, 9), (0, 10), (1, 10), (2, 10), (3, 10), (4, 10), (5, 10), (6, 10), (7, 10), (8, 10), (0, 11), (1, 11), (2, 11), (3, 11), (4, 11), (5, 11), (6, 11), (7, 11), (8, 11), (0, 12), (1, 12), (2, 12), (3, 12), (4, 12), (5, 12), (6, 12), (7, 12), (8, 12), (0, 13), (1, 13), (2, 13), (3, 13), (4, 13), (5, 13), (6, 13), (7, 13), (8, 13)])
/-- (*strings.Builder).grow -/
def B56 : ACode := (.seq R56_0
  (.seq (.region [⟨(some 20), (.mov (.t 4)), none, []⟩,
    ⟨(some 21), (.mov (.t 0)), none, []⟩,
    ⟨(some 22), (.nilCheck (.t 21)), none, []⟩,
    ⟨(some 23), (.fieldAddr 1 (.t 22)), none, []⟩,
    ⟨(some 24), (.load none (.t 23)), none, []⟩,
    ⟨(some 25), (.copy 1 (.t 20) (.t 24)), none, []⟩] none)
  (.region [⟨(some 26), (.mov (.t 0)), none, []⟩,
    ⟨(some 27), (.mov (.t 4)), none, []⟩,
    ⟨(some 28), (.nilCheck (.t 26)), none, []⟩,
    ⟨(some 29), (.fieldAddr 1 (.t 28)), none, []⟩,
    ⟨none, (.store 1 (.t 29) (.t 27)), none, []⟩] none)))
def F56 : AFunc := ⟨2, 30, [], B56⟩
/-- unicode/utf8.RuneCountInString -/
def F57L0 : ACode := (.seq (.region [⟨(some 5), (.nextStr (.t 4)), none, []⟩,
    ⟨(some 6), (.extract (.t 5) 0), none, []⟩] none)
  (.seq (.cond (.t 6)
  .skip
  (.exit 0))
  (.block 1 (.region [⟨(some 7), (.mov (.t 2)), none, []⟩,
    ⟨(some 8), (.bin .add (.t 7) (.c (.int .i64 1))), none, []⟩,
    ⟨(some 2), (.mov (.t 8)), none, []⟩] none))))
def B57 : ACode := (.seq (.region [⟨(some 2), (.mov (.c (.int .i64 0))), none, []⟩] none)
  (.seq (.seq (.region [⟨(some 3), (.mov (.t 0)), none, []⟩,
    ⟨(some 4), (.rangeStr (.t 3)), none, []⟩] none)
  (.block 0 (.loop F57L0)))
  (.seq (.region [⟨(some 9), (.mov (.t 2)), none, []⟩,
    ⟨(some 2), (.mov (.t 9)), none, []⟩] none)
  .ret)))
def F57 : AFunc := ⟨1, 10, [(.tmp 2)], B57⟩
-- F57L0 live: [2, 4]
/-- unicode/utf8.DecodeRuneInString -/
def B58 : ACode := (.seq (.region [⟨(some 2), (.mov (.c (.int .i32 0))), none, []⟩,
    ⟨(some 3), (.mov (.c (.int .i64 0))), none, []⟩] none)
  (.seq (.seq (.region [⟨(some 4), (.mov (.t 0)), none, []⟩,
    ⟨(some 5), (.bin .neq (.t 4) (.c (.string ⟨#[]⟩))), none, []⟩,
    ⟨(some 6), (.mov (.t 5)), none, []⟩,
    ⟨(some 7), (.mov (.t 0)), (some (6, true)), []⟩,
    ⟨(some 8), (.indexStr (.t 7) (.c (.int .i64 0))), (some (6, true)), []⟩,
    ⟨(some 9), (.bin .lss (.t 8) (.c (.int .u8 128))), (some (6, true)), []⟩,
    ⟨(some 10), (.pick (.t 6) (.t 9) (.c (.bool false))), none, []⟩] none)
  (.cond (.t 10)
  (.seq (.region [⟨(some 11), (.mov (.t 0)), none, []⟩,
    ⟨(some 12), (.indexStr (.t 11) (.c (.int .i64 0))), none, []⟩,
    ⟨(some 13), (.conv .i32 (.t 12)), none, []⟩,
    ⟨(some 2), (.mov (.t 13)), none, []⟩,
    ⟨(some 3), (.mov (.c (.int .i64 1))), none, []⟩] none)
  .ret)
  (.region [⟨(some 15), (.mov (.t 0)), none, []⟩,
    ⟨(some 16), (.call (.f 70) [(.t 15)]), none, []⟩,
    ⟨(some 14), (.mov (.t 16)), none, []⟩,
    ⟨(some 17), (.extract (.t 14) 0), none, []⟩,
    ⟨(some 18), (.extract (.t 14) 1), none, []⟩,
    ⟨(some 2), (.mov (.t 17)), none, []⟩,
    ⟨(some 3), (.mov (.t 18)), none, []⟩] none)))
  .ret))
def F58 : AFunc := ⟨1, 19, [(.tmp 2), (.tmp 3)], B58⟩
/-- internal/stringslite.Index -/
def F60L0 : ACode := (.seq (.seq (.region [⟨(some 57), (.mov (.t 8)), none, []⟩,
    ⟨(some 58), (.mov (.t 9)), none, []⟩,
    ⟨(some 59), (.bin .lss (.t 57) (.t 58)), none, []⟩] none)
  (.cond (.t 59)
  .skip
  (.exit 1)))
  (.block 2 (.seq (.seq (.region [⟨(some 60), (.mov (.t 0)), none, []⟩,
    ⟨(some 61), (.mov (.t 8)), none, []⟩,
    ⟨(some 62), (.indexStr (.t 60) (.t 61)), none, []⟩,
    ⟨(some 63), (.mov (.t 6)), none, []⟩,
    ⟨(some 64), (.bin .neq (.t 62) (.t 63)), none, []⟩] none)
  (.cond (.t 64)
  (.seq (.region [⟨(some 65), (.mov (.t 0)), none, []⟩,
    ⟨(some 66), (.mov (.t 8)), none, []⟩,
    ⟨(some 67), (.bin .add (.t 66) (.c (.int .i64 1))), none, []⟩,
    ⟨(some 68), (.mov (.t 9)), none, []⟩,
    ⟨(some 69), (.sliceStr (.t 65) (some (.t 67)) (some (.t 68))), none, []⟩,
    ⟨(some 70), (.mov (.t 6)), none, []⟩,
    ⟨(some 71), (.call (.f 71) [(.t 69), (.t 70)]), none, []⟩,
    ⟨(some 11), (.mov (.t 71)), none, []⟩] none)
  (.seq (.seq (.region [⟨(some 72), (.mov (.t 11)), none, []⟩,
    ⟨(some 73), (.bin .lss (.t 72) (.c (.int .i64 0))), none, []⟩] none)
  (.cond (.t 73)
  (.seq (.region [⟨(some 4), (.mov (.c (.int .i64 (-1)))), none, []⟩] none)
  .ret)
  .skip))
  (.region [⟨(some 74), (.mov (.t 8)), none, []⟩,
    ⟨(some 75), (.mov (.t 11)), none, []⟩,
    ⟨(some 76), (.bin .add (.t 75) (.c (.int .i64 1))), none, []⟩,
    ⟨(some 77), (.bin .add (.t 74) (.t 76)), none, []⟩,
    ⟨(some 8), (.mov (.t 77)), none, []⟩] none)))
  .skip))
  (.seq (.seq (.region [⟨(some 78), (.mov (.t 0)), none, []⟩,
    ⟨(some 79), (.mov (.t 8)), none, []⟩,
    ⟨(some 80), (.bin .add (.t 79) (.c (.int .i64 1))), none, []⟩,
    ⟨(some 81), (.indexStr (.t 78) (.t 80)), none, []⟩,
    ⟨(some 82), (.mov (.t 7)), none, []⟩,
    ⟨(some 83), (.bin .eql (.t 81) (.t 82)), none, []⟩,
    ⟨(some 84), (.mov (.t 83)), none, []⟩,
    ⟨(some 85), (.mov (.t 0)), (some (84, true)), []⟩,
    ⟨(some 86), (.mov (.t 8)), (some (84, true)), []⟩,
    ⟨(some 87), (.mov (.t 8)), (some (84, true)), []⟩,
    ⟨(some 88), (.mov (.t 5)), (some (84, true)), []⟩,
    ⟨(some 89), (.bin .add (.t 87) (.t 88)), (some (84, true)), []⟩,
    ⟨(some 90), (.sliceStr (.t 85) (some (.t 86)) (some (.t 89))), (some (84, true)), []⟩,
    ⟨(some 91), (.mov (.t 1)), (some (84, true)), []⟩,
    ⟨(some 92), (.bin .eql (.t 90) (.t 91)), (some (84, true)), []⟩,
    ⟨(some 93), (.pick (.t 84) (.t 92) (.c (.bool false))), none, []⟩] none)
  (.cond (.t 93)
  (.seq (.region [⟨(some 94), (.mov (.t 8)), none, []⟩,
    ⟨(some 4), (.mov (.t 94)), none, []⟩] none)
  .ret)
  .skip))
  (.seq (.region [⟨(some 95), (.mov (.t 8)), none, []⟩,
    ⟨(some 96), (.bin .add (.t 95) (.c (.int .i64 1))), none, []⟩,
    ⟨(some 8), (.mov (.t 96)), none, []⟩] none)
  (.seq (.region [⟨(some 97), (.mov (.t 10)), none, []⟩,
    ⟨(some 98), (.bin .add (.t 97) (.c (.int .i64 1))), none, []⟩,
    ⟨(some 10), (.mov (.t 98)), none, []⟩] none)
  (.seq (.region [⟨(some 99), (.mov (.t 5)), none, []⟩,
    ⟨(some 100), (.load none (.g 1)), none, []⟩,
    ⟨(some 101), (.bin .leq (.t 99) (.t 100)), none, []⟩,
    ⟨(some 102), (.mov (.t 101)), none, []⟩,
    ⟨(some 103), (.mov (.t 10)), (some (102, true)), []⟩,
    ⟨(some 104), (.mov (.t 8)), (some (102, true)), []⟩,
    ⟨(some 105), (.call (.f 73) [(.t 104)]), (some (102, true)), []⟩,
    ⟨(some 106), (.bin .gtr (.t 103) (.t 105)), (some (102, true)), []⟩,
    ⟨(some 107), (.pick (.t 102) (.t 106) (.c (.bool false))), none, []⟩] none)
  (.cond (.t 107)
  (.seq (.region [⟨(some 108), (.mov (.t 0)), none, []⟩,
    ⟨(some 109), (.mov (.t 8)), none, []⟩,
    ⟨(some 110), (.sliceStr (.t 108) (some (.t 109)) none), none, []⟩,
    ⟨(some 111), (.mov (.t 1)), none, []⟩,
    ⟨(some 112), (.call (.f 72) [(.t 110), (.t 111)]), none, []⟩,
    ⟨(some 12), (.mov (.t 112)), none, []⟩] none)
  (.seq (.seq (.region [⟨(some 113), (.mov (.t 12)), none, []⟩,
    ⟨(some 114), (.bin .geq (.t 113) (.c (.int .i64 0))), none, []⟩] none)
  (.cond (.t 114)
  (.seq (.region [⟨(some 115), (.mov (.t 12)), none, []⟩,
    ⟨(some 116), (.mov (.t 8)), none, []⟩,
    ⟨(some 117), (.bin .add (.t 115) (.t 116)), none, []⟩,
    ⟨(some 4), (.mov (.t 117)), none, []⟩] none)
  .ret)
  .skip))
  (.seq (.region [⟨(some 4), (.mov (.c (.int .i64 (-1)))), none, []⟩] none)
  .ret)))
  (.seq (.region [⟨(some 118), (.mov (.t 5)), none, []⟩,
    ⟨(some 119), (.load none (.g 1)), none, []⟩,
    ⟨(some 120), (.bin .gtr (.t 118) (.t 119)), none, []⟩,
    ⟨(some 121), (.mov (.t 120)), none, []⟩,
    ⟨(some 122), (.mov (.t 10)), (some (121, true)), []⟩,
    ⟨(some 123), (.mov (.t 8)), (some (121, true)), []⟩,
    ⟨(some 124), (.bin .shr (.t 123) (.c (.int .u64 4))), (some (121, true)), []⟩,
    ⟨(some 125), (.bin .add (.c (.int .i64 4)) (.t 124)), (some (121, true)), []⟩,
    ⟨(some 126), (.bin .geq (.t 122) (.t 125)), (some (121, true)), []⟩,
    ⟨(some 127), (.pick (.t 121) (.t 126) (.c (.bool false))), none, []⟩,
    ⟨(some 128), (.mov (.t 127)), none, []⟩,
    ⟨(some 129), (.mov (.t 8)), (some (128, true)), []⟩,
    ⟨(some 130), (.mov (.t 9)), (some (128, true)), []⟩,
    ⟨(some 131), (.bin .lss (.t 129) (.t 130)), (some (128, true)), []⟩,
    ⟨(some 132), (.pick (.t 128) (.t 131) (.c (.bool false))), none, []⟩] none)
  (.cond (.t 132)
  (.seq (.region [⟨(some 133), (.mov (.t 0)), none, []⟩,
    ⟨(some 134), (.mov (.t 8)), none, []⟩,
    ⟨(some 135), (.sliceStr (.t 133) (some (.t 134)) none), none, []⟩,
    ⟨(some 136), (.mov (.t 1)), none, []⟩,
    ⟨(some 137), (.call (.f 74) [(.t 135), (.t 136)]), none, []⟩,
    ⟨(some 13), (.mov (.t 137)), none, []⟩] none)
  (.seq (.seq (.region [⟨(some 138), (.mov (.t 13)), none, []⟩,
    ⟨(some 139), (.bin .lss (.t 138) (.c (.int .i64 0))), none, []⟩] none)
  (.cond (.t 139)
  (.seq (.region [⟨(some 4), (.mov (.c (.int .i64 (-1)))), none, []⟩] none)
  .ret)
  .skip))
  (.seq (.region [⟨(some 140), (.mov (.t 8)), none, []⟩,
    ⟨(some 141), (.mov (.t 13)), none, []⟩,
    ⟨(some 142), (.bin .add (.t 140) (.t 141)), none, []⟩,
    ⟨(some 4), (.mov (.t 142)), none, []⟩] none)
  .ret)))
  .skip))))))))))
def B60 : ACode := (.seq (.region [⟨(some 4), (.mov (.c (.int .i64 0))), none, []⟩] none)
  (.seq (.region [⟨(some 14), (.mov (.t 1)), none, []⟩,
    ⟨(some 15), (.lenStr (.t 14)), none, []⟩,
    ⟨(some 5), (.mov (.t 15)), none, []⟩] none)
  (.seq (.block 0 (.seq (.region [⟨(some 17), (.mov (.t 5)), none, []⟩,
    ⟨(some 18), (.bin .eql (.t 17) (.c (.int .i64 0))), none, []⟩,
    ⟨(some 19), (.mov (.t 18)), none, []⟩,
    ⟨(some 20), (.mov (.t 1)), (some (19, false)), []⟩,
    ⟨(some 21), (.mov (.t 0)), (some (19, false)), []⟩,
    ⟨(some 22), (.bin .eql (.t 20) (.t 21)), (some (19, false)), []⟩,
    ⟨(some 23), (.pick (.t 19) (.c (.bool true)) (.t 22)), none, []⟩,
    ⟨(some 16), (.mov (.t 23)), none, []⟩] none)
  (.cond (.t 16)
  (.seq (.region [⟨(some 4), (.mov (.c (.int .i64 0))), none, []⟩] none)
  .ret)
  (.seq (.region [⟨(some 25), (.mov (.t 5)), none, []⟩,
    ⟨(some 26), (.bin .eql (.t 25) (.c (.int .i64 1))), none, []⟩,
    ⟨(some 24), (.mov (.t 26)), none, []⟩] none)
  (.cond (.t 24)
  (.seq (.region [⟨(some 27), (.mov (.t 0)), none, []⟩,
    ⟨(some 28), (.mov (.t 1)), none, []⟩,
    ⟨(some 29), (.indexStr (.t 28) (.c (.int .i64 0))), none, []⟩,
    ⟨(some 30), (.call (.f 71) [(.t 27), (.t 29)]), none, []⟩,
    ⟨(some 4), (.mov (.t 30)), none, []⟩] none)
  .ret)
  (.seq (.region [⟨(some 32), (.mov (.t 5)), none, []⟩,
    ⟨(some 33), (.mov (.t 0)), none, []⟩,
    ⟨(some 34), (.lenStr (.t 33)), none, []⟩,
    ⟨(some 35), (.bin .geq (.t 32) (.t 34)), none, []⟩,
    ⟨(some 31), (.mov (.t 35)), none, []⟩] none)
  (.cond (.t 31)
  (.seq (.region [⟨(some 4), (.mov (.c (.int .i64 (-1)))), none, []⟩] none)
  .ret)
  (.seq (.region [⟨(some 37), (.mov (.t 5)), none, []⟩,
    ⟨(some 38), (.load none (.g 1)), none, []⟩,
    ⟨(some 39), (.bin .leq (.t 37) (.t 38)), none, []⟩,
    ⟨(some 40), (.mov (.t 39)), none, []⟩,
    ⟨(some 41), (.mov (.t 0)), (some (40, true)), []⟩,
    ⟨(some 42), (.lenStr (.t 41)), (some (40, true)), []⟩,
    ⟨(some 43), (.bin .leq (.t 42) (.c (.int .i64 64))), (some (40, true)), []⟩,
    ⟨(some 44), (.pick (.t 40) (.t 43) (.c (.bool false))), none, []⟩,
    ⟨(some 36), (.mov (.t 44)), none, []⟩] none)
  (.cond (.t 36)
  (.seq (.region [⟨(some 45), (.mov (.t 0)), none, []⟩,
    ⟨(some 46), (.mov (.t 1)), none, []⟩,
    ⟨(some 47), (.call (.f 72) [(.t 45), (.t 46)]), none, []⟩,
    ⟨(some 4), (.mov (.t 47)), none, []⟩] none)
  .ret)
  .skip)))))))))
  (.seq (.region [⟨(some 48), (.mov (.t 1)), none, []⟩,
    ⟨(some 49), (.indexStr (.t 48) (.c (.int .i64 0))), none, []⟩,
    ⟨(some 6), (.mov (.t 49)), none, []⟩] none)
  (.seq (.region [⟨(some 50), (.mov (.t 1)), none, []⟩,
    ⟨(some 51), (.indexStr (.t 50) (.c (.int .i64 1))), none, []⟩,
    ⟨(some 7), (.mov (.t 51)), none, []⟩] none)
  (.seq (.region [⟨(some 8), (.mov (.c (.int .i64 0))), none, []⟩] none)
  (.seq (.region [⟨(some 52), (.mov (.t 0)), none, []⟩,
    ⟨(some 53), (.lenStr (.t 52)), none, []⟩,
    ⟨(some 54), (.mov (.t 5)), none, []⟩,
    ⟨(some 55), (.bin .sub (.t 53) (.t 54)), none, []⟩,
    ⟨(some 56), (.bin .add (.t 55) (.c (.int .i64 1))), none, []⟩,
    ⟨(some 9), (.mov (.t 56)), none, []⟩] none)
  (.seq (.region [⟨(some 10), (.mov (.c (.int .i64 0))), none, []⟩] none)
  (.seq (.block 1 (.loop F60L0))
  (.seq (.region [⟨(some 4), (.mov (.c (.int .i64 (-1)))), none, []⟩] none)
  .ret))))))))))
def F60 : AFunc := ⟨2, 143, [(.tmp 4)], B60⟩
-- F60L0 live: [0, 1, 5, 6, 7, 8, 9, 10]
/-- internal/stringslite.HasPrefix -/
def B61 : ACode := (.seq (.region [⟨(some 4), (.mov (.c (.bool false))), none, []⟩] none)
  (.seq (.region [⟨(some 5), (.mov (.t 0)), none, []⟩,
    ⟨(some 6), (.lenStr (.t 5)), none, []⟩,
    ⟨(some 7), (.mov (.t 1)), none, []⟩,
    ⟨(some 8), (.lenStr (.t 7)), none, []⟩,
    ⟨(some 9), (.bin .geq (.t 6) (.t 8)), none, []⟩,
    ⟨(some 10), (.mov (.t 9)), none, []⟩,
    ⟨(some 11), (.mov (.t 0)), (some (10, true)), []⟩,
    ⟨(some 12), (.mov (.t 1)), (some (10, true)), []⟩,
    ⟨(some 13), (.lenStr (.t 12)), (some (10, true)), []⟩,
    ⟨(some 14), (.sliceStr (.t 11) none (some (.t 13))), (some (10, true)), []⟩,
    ⟨(some 15), (.mov (.t 1)), (some (10, true)), []⟩,
    ⟨(some 16), (.bin .eql (.t 14) (.t 15)), (some (10, true)), []⟩,
    ⟨(some 17), (.pick (.t 10) (.t 16) (.c (.bool false))), none, []⟩,
    ⟨(some 4), (.mov (.t 17)), none, []⟩] none)
  .ret))
def F61 : AFunc := ⟨2, 18, [(.tmp 4)], B61⟩
/-- internal/strconv.ParseUint -/
def F62L0 : ACode := (.seq (.region [⟨(some 102), (.bin .lss (.t 101) (.t 100)), none, []⟩] none)
  (.seq (.cond (.t 102)
  .skip
  (.exit 3))
  (.seq (.block 4 (.seq (.region [⟨(some 103), (.indexAddr 1 (.t 99) (.t 101)), none, []⟩,
    ⟨(some 104), (.load none (.t 103)), none, []⟩,
    ⟨(some 15), (.mov (.t 104)), none, []⟩] none)
  (.seq (.region [⟨(some 16), (.mov (.c (.int .u8 0))), none, []⟩] none)
  (.seq (.block 5 (.seq (.region [⟨(some 107), (.mov (.t 15)), none, []⟩,
    ⟨(some 108), (.bin .eql (.t 107) (.c (.int .u8 95))), none, []⟩,
    ⟨(some 109), (.mov (.t 108)), none, []⟩,
    ⟨(some 110), (.mov (.t 8)), (some (109, true)), []⟩,
    ⟨(some 111), (.pick (.t 109) (.t 110) (.c (.bool false))), none, []⟩,
    ⟨(some 106), (.mov (.t 111)), none, []⟩] none)
  (.cond (.t 106)
  (.seq (.region [⟨(some 12), (.mov (.c (.bool true))), none, []⟩] none)
  (.exit 4))
  (.seq (.region [⟨(some 113), (.mov (.t 15)), none, []⟩,
    ⟨(some 114), (.bin .leq (.c (.int .u8 48)) (.t 113)), none, []⟩,
    ⟨(some 115), (.mov (.t 114)), none, []⟩,
    ⟨(some 116), (.mov (.t 15)), (some (115, true)), []⟩,
    ⟨(some 117), (.bin .leq (.t 116) (.c (.int .u8 57))), (some (115, true)), []⟩,
    ⟨(some 118), (.pick (.t 115) (.t 117) (.c (.bool false))), none, []⟩,
    ⟨(some 112), (.mov (.t 118)), none, []⟩] none)
  (.cond (.t 112)
  (.region [⟨(some 119), (.mov (.t 15)), none, []⟩,
    ⟨(some 120), (.bin .sub (.t 119) (.c (.int .u8 48))), none, []⟩,
    ⟨(some 16), (.mov (.t 120)), none, []⟩] none)
  (.seq (.region [⟨(some 122), (.mov (.t 15)), none, []⟩,
    ⟨(some 123), (.call (.f 75) [(.t 122)]), none, []⟩,
    ⟨(some 124), (.bin .leq (.c (.int .u8 97)) (.t 123)), none, []⟩,
    ⟨(some 125), (.mov (.t 124)), none, []⟩,
    ⟨(some 126), (.mov (.t 15)), (some (125, true)), []⟩,
    ⟨(some 127), (.call (.f 75) [(.t 126)]), (some (125, true)), []⟩,
    ⟨(some 128), (.bin .leq (.t 127) (.c (.int .u8 122))), (some (125, true)), []⟩,
    ⟨(some 129), (.pick (.t 125) (.t 128) (.c (.bool false))), none, []⟩,
    ⟨(some 121), (.mov (.t 129)), none, []⟩] none)
  (.cond (.t 121)
  (.region [⟨(some 130), (.mov (.t 15)), none, []⟩,
    ⟨(some 131), (.call (.f 75) [(.t 130)]), none, []⟩,
    ⟨(some 132), (.bin .sub (.t 131) (.c (.int .u8 97))), none, []⟩,
    ⟨(some 133), (.bin .add (.t 132) (.c (.int .u8 10))), none, []⟩,
    ⟨(some 16), (.mov (.t 133)), none, []⟩] none)
  (.seq (.region [⟨(some 105), (.makeIface 107 (.c (.int .i64 2))), none, []⟩,
    ⟨(some 6), (.mov (.c (.int .u64 0))), none, []⟩,
    ⟨(some 7), (.mov (.t 105)), none, []⟩] none)
  .ret))))))))
  (.seq (.seq (.region [⟨(some 134), (.mov (.t 16)), none, []⟩,
    ⟨(some 135), (.mov (.t 1)), none, []⟩,
    ⟨(some 136), (.conv .u8 (.t 135)), none, []⟩,
    ⟨(some 137), (.bin .geq (.t 134) (.t 136)), none, []⟩] none)
  (.cond (.t 137)
  (.seq (.region [⟨(some 138), (.makeIface 107 (.c (.int .i64 2))), none, []⟩,
    ⟨(some 6), (.mov (.c (.int .u64 0))), none, []⟩,
    ⟨(some 7), (.mov (.t 138)), none, []⟩] none)
  .ret)
  .skip))
  (.seq (.seq (.region [⟨(some 139), (.mov (.t 13)), none, []⟩,
    ⟨(some 140), (.mov (.t 10)), none, []⟩,
    ⟨(some 141), (.bin .geq (.t 139) (.t 140)), none, []⟩] none)
  (.cond (.t 141)
  (.seq (.region [⟨(some 142), (.mov (.t 11)), none, []⟩,
    ⟨(some 143), (.makeIface 107 (.c (.int .i64 1))), none, []⟩,
    ⟨(some 6), (.mov (.t 142)), none, []⟩,
    ⟨(some 7), (.mov (.t 143)), none, []⟩] none)
  .ret)
  .skip))
  (.seq (.region [⟨(some 144), (.mov (.t 13)), none, []⟩,
    ⟨(some 145), (.mov (.t 1)), none, []⟩,
    ⟨(some 146), (.conv .u64 (.t 145)), none, []⟩,
    ⟨(some 147), (.bin .mul (.t 144) (.t 146)), none, []⟩,
    ⟨(some 13), (.mov (.t 147)), none, []⟩] none)
  (.seq (.region [⟨(some 148), (.mov (.t 13)), none, []⟩,
    ⟨(some 149), (.mov (.t 16)), none, []⟩,
    ⟨(some 150), (.conv .u64 (.t 149)), none, []⟩,
    ⟨(some 151), (.bin .add (.t 148) (.t 150)), none, []⟩,
    ⟨(some 17), (.mov (.t 151)), none, []⟩] none)
  (.seq (.seq (.region [⟨(some 152), (.mov (.t 17)), none, []⟩,
    ⟨(some 153), (.mov (.t 13)), none, []⟩,
    ⟨(some 154), (.bin .lss (.t 152) (.t 153)), none, []⟩,
    ⟨(some 155), (.mov (.t 154)), none, []⟩,
    ⟨(some 156), (.mov (.t 17)), (some (155, false)), []⟩,
    ⟨(some 157), (.mov (.t 11)), (some (155, false)), []⟩,
    ⟨(some 158), (.bin .gtr (.t 156) (.t 157)), (some (155, false)), []⟩,
    ⟨(some 159), (.pick (.t 155) (.c (.bool true)) (.t 158)), none, []⟩] none)
  (.cond (.t 159)
  (.seq (.region [⟨(some 160), (.mov (.t 11)), none, []⟩,
    ⟨(some 161), (.makeIface 107 (.c (.int .i64 1))), none, []⟩,
    ⟨(some 6), (.mov (.t 160)), none, []⟩,
    ⟨(some 7), (.mov (.t 161)), none, []⟩] none)
  .ret)
  .skip))
  (.region [⟨(some 162), (.mov (.t 17)), none, []⟩,
    ⟨(some 13), (.mov (.t 162)), none, []⟩] none))))))))))
  (.region [⟨(some 163), (.bin .add (.t 101) (.c (.int .i64 1))), none, []⟩,
    ⟨(some 101), (.mov (.t 163)), none, []⟩] none))))
def B62 : ACode := (.seq (.region [⟨(some 6), (.mov (.c (.int .u64 0))), none, []⟩,
    ⟨(some 7), (.mov (.c .nilIface)), none, []⟩] none)
  (.seq (.seq (.region [⟨(some 18), (.mov (.t 0)), none, []⟩,
    ⟨(some 19), (.bin .eql (.t 18) (.c (.string ⟨#[]⟩))), none, []⟩] none)
  (.cond (.t 19)
  (.seq (.region [⟨(some 20), (.makeIface 107 (.c (.int .i64 2))), none, []⟩,
    ⟨(some 6), (.mov (.c (.int .u64 0))), none, []⟩,
    ⟨(some 7), (.mov (.t 20)), none, []⟩] none)
  .ret)
  .skip))
  (.seq (.region [⟨(some 21), (.mov (.t 1)), none, []⟩,
    ⟨(some 22), (.bin .eql (.t 21) (.c (.int .i64 0))), none, []⟩,
    ⟨(some 8), (.mov (.t 22)), none, []⟩] none)
  (.seq (.region [⟨(some 23), (.mov (.t 0)), none, []⟩,
    ⟨(some 9), (.mov (.t 23)), none, []⟩] none)
  (.seq (.block 0 (.seq (.region [⟨(some 26), (.mov (.t 1)), none, []⟩,
    ⟨(some 27), (.bin .leq (.c (.int .i64 2)) (.t 26)), none, []⟩,
    ⟨(some 28), (.mov (.t 27)), none, []⟩,
    ⟨(some 29), (.mov (.t 1)), (some (28, true)), []⟩,
    ⟨(some 30), (.bin .leq (.t 29) (.c (.int .i64 36))), (some (28, true)), []⟩,
    ⟨(some 31), (.pick (.t 28) (.t 30) (.c (.bool false))), none, []⟩,
    ⟨(some 25), (.mov (.t 31)), none, []⟩] none)
  (.cond (.t 25)
  .skip
  (.seq (.region [⟨(some 33), (.mov (.t 1)), none, []⟩,
    ⟨(some 34), (.bin .eql (.t 33) (.c (.int .i64 0))), none, []⟩,
    ⟨(some 32), (.mov (.t 34)), none, []⟩] none)
  (.cond (.t 32)
  (.seq (.region [⟨(some 1), (.mov (.c (.int .i64 10))), none, []⟩] none)
  (.seq (.region [⟨(some 35), (.mov (.t 0)), none, []⟩,
    ⟨(some 36), (.indexStr (.t 35) (.c (.int .i64 0))), none, []⟩,
    ⟨(some 37), (.bin .eql (.t 36) (.c (.int .u8 48))), none, []⟩] none)
  (.cond (.t 37)
  (.block 1 (.seq (.region [⟨(some 41), (.mov (.t 0)), none, []⟩,
    ⟨(some 42), (.lenStr (.t 41)), none, []⟩,
    ⟨(some 43), (.bin .geq (.t 42) (.c (.int .i64 3))), none, []⟩,
    ⟨(some 44), (.mov (.t 43)), none, []⟩,
    ⟨(some 45), (.mov (.t 0)), (some (44, true)), []⟩,
    ⟨(some 46), (.indexStr (.t 45) (.c (.int .i64 1))), (some (44, true)), []⟩,
    ⟨(some 47), (.call (.f 75) [(.t 46)]), (some (44, true)), []⟩,
    ⟨(some 48), (.bin .eql (.t 47) (.c (.int .u8 98))), (some (44, true)), []⟩,
    ⟨(some 49), (.pick (.t 44) (.t 48) (.c (.bool false))), none, []⟩,
    ⟨(some 40), (.mov (.t 49)), none, []⟩] none)
  (.cond (.t 40)
  (.seq (.region [⟨(some 1), (.mov (.c (.int .i64 2))), none, []⟩] none)
  (.region [⟨(some 50), (.mov (.t 0)), none, []⟩,
    ⟨(some 51), (.sliceStr (.t 50) (some (.c (.int .i64 2))) none), none, []⟩,
    ⟨(some 0), (.mov (.t 51)), none, []⟩] none))
  (.seq (.region [⟨(some 53), (.mov (.t 0)), none, []⟩,
    ⟨(some 54), (.lenStr (.t 53)), none, []⟩,
    ⟨(some 55), (.bin .geq (.t 54) (.c (.int .i64 3))), none, []⟩,
    ⟨(some 56), (.mov (.t 55)), none, []⟩,
    ⟨(some 57), (.mov (.t 0)), (some (56, true)), []⟩,
    ⟨(some 58), (.indexStr (.t 57) (.c (.int .i64 1))), (some (56, true)), []⟩,
    ⟨(some 59), (.call (.f 75) [(.t 58)]), (some (56, true)), []⟩,
    ⟨(some 60), (.bin .eql (.t 59) (.c (.int .u8 111))), (some (56, true)), []⟩,
    ⟨(some 61), (.pick (.t 56) (.t 60) (.c (.bool false))), none, []⟩,
    ⟨(some 52), (.mov (.t 61)), none, []⟩] none)
  (.cond (.t 52)
  (.seq (.region [⟨(some 1), (.mov (.c (.int .i64 8))), none, []⟩] none)
  (.region [⟨(some 62), (.mov (.t 0)), none, []⟩,
    ⟨(some 63), (.sliceStr (.t 62) (some (.c (.int .i64 2))) none), none, []⟩,
    ⟨(some 0), (.mov (.t 63)), none, []⟩] none))
  (.seq (.region [⟨(some 65), (.mov (.t 0)), none, []⟩,
    ⟨(some 66), (.lenStr (.t 65)), none, []⟩,
    ⟨(some 67), (.bin .geq (.t 66) (.c (.int .i64 3))), none, []⟩,
    ⟨(some 68), (.mov (.t 67)), none, []⟩,
    ⟨(some 69), (.mov (.t 0)), (some (68, true)), []⟩,
    ⟨(some 70), (.indexStr (.t 69) (.c (.int .i64 1))), (some (68, true)), []⟩,
    ⟨(some 71), (.call (.f 75) [(.t 70)]), (some (68, true)), []⟩,
    ⟨(some 72), (.bin .eql (.t 71) (.c (.int .u8 120))), (some (68, true)), []⟩,
    ⟨(some 73), (.pick (.t 68) (.t 72) (.c (.bool false))), none, []⟩,
    ⟨(some 64), (.mov (.t 73)), none, []⟩] none)
  (.cond (.t 64)
  (.seq (.region [⟨(some 1), (.mov (.c (.int .i64 16))), none, []⟩] none)
  (.region [⟨(some 74), (.mov (.t 0)), none, []⟩,
    ⟨(some 75), (.sliceStr (.t 74) (some (.c (.int .i64 2))) none), none, []⟩,
    ⟨(some 0), (.mov (.t 75)), none, []⟩] none))
  (.seq (.region [⟨(some 1), (.mov (.c (.int .i64 8))), none, []⟩] none)
  (.region [⟨(some 38), (.mov (.t 0)), none, []⟩,
    ⟨(some 39), (.sliceStr (.t 38) (some (.c (.int .i64 1))) none), none, []⟩,
    ⟨(some 0), (.mov (.t 39)), none, []⟩] none)))))))))
  .skip)))
  (.seq (.region [⟨(some 24), (.makeIface 107 (.c (.int .i64 3))), none, []⟩,
    ⟨(some 6), (.mov (.c (.int .u64 0))), none, []⟩,
    ⟨(some 7), (.mov (.t 24)), none, []⟩] none)
  .ret))))))
  (.seq (.seq (.region [⟨(some 76), (.mov (.t 2)), none, []⟩,
    ⟨(some 77), (.bin .eql (.t 76) (.c (.int .i64 0))), none, []⟩] none)
  (.cond (.t 77)
  (.region [⟨(some 2), (.mov (.c (.int .i64 64))), none, []⟩] none)
  (.seq (.region [⟨(some 78), (.mov (.t 2)), none, []⟩,
    ⟨(some 79), (.bin .lss (.t 78) (.c (.int .i64 0))), none, []⟩,
    ⟨(some 80), (.mov (.t 79)), none, []⟩,
    ⟨(some 81), (.mov (.t 2)), (some (80, false)), []⟩,
    ⟨(some 82), (.bin .gtr (.t 81) (.c (.int .i64 64))), (some (80, false)), []⟩,
    ⟨(some 83), (.pick (.t 80) (.c (.bool true)) (.t 82)), none, []⟩] none)
  (.cond (.t 83)
  (.seq (.region [⟨(some 84), (.makeIface 107 (.c (.int .i64 4))), none, []⟩,
    ⟨(some 6), (.mov (.c (.int .u64 0))), none, []⟩,
    ⟨(some 7), (.mov (.t 84)), none, []⟩] none)
  .ret)
  .skip))))
  (.seq (.region [⟨(some 10), (.mov (.c (.int .u64 0))), none, []⟩] none)
  (.seq (.seq (.region [⟨(some 85), (.mov (.t 1)), none, []⟩] none)
  (.block 2 (.seq (.region [⟨(some 91), (.bin .eql (.t 85) (.c (.int .i64 10))), none, []⟩,
    ⟨(some 90), (.mov (.t 91)), none, []⟩] none)
  (.cond (.t 90)
  (.region [⟨(some 10), (.mov (.c (.int .u64 1844674407370955162))), none, []⟩] none)
  (.seq (.region [⟨(some 93), (.bin .eql (.t 85) (.c (.int .i64 16))), none, []⟩,
    ⟨(some 92), (.mov (.t 93)), none, []⟩] none)
  (.cond (.t 92)
  (.region [⟨(some 10), (.mov (.c (.int .u64 1152921504606846976))), none, []⟩] none)
  (.region [⟨(some 86), (.mov (.t 1)), none, []⟩,
    ⟨(some 87), (.conv .u64 (.t 86)), none, []⟩,
    ⟨(some 88), (.bin .quo (.c (.int .u64 18446744073709551615)) (.t 87)), none, []⟩,
    ⟨(some 89), (.bin .add (.t 88) (.c (.int .u64 1))), none, []⟩,
    ⟨(some 10), (.mov (.t 89)), none, []⟩] none)))))))
  (.seq (.region [⟨(some 94), (.mov (.t 2)), none, []⟩,
    ⟨(some 95), (.conv .u64 (.t 94)), none, []⟩,
    ⟨(some 96), (.bin .shl (.c (.int .u64 1)) (.t 95)), none, []⟩,
    ⟨(some 97), (.bin .sub (.t 96) (.c (.int .u64 1))), none, []⟩,
    ⟨(some 11), (.mov (.t 97)), none, []⟩] none)
  (.seq (.region [⟨(some 12), (.mov (.c (.bool false))), none, []⟩] none)
  (.seq (.region [⟨(some 13), (.mov (.c (.int .u64 0))), none, []⟩] none)
  (.seq (.seq (.region [⟨(some 98), (.mov (.t 0)), none, []⟩,
    ⟨(some 99), (.bytesOf 5 (.t 98)), none, []⟩,
    ⟨(some 100), (.lenSlice (.t 99)), none, []⟩,
    ⟨(some 101), (.mov (.c (.int .i64 0))), none, []⟩] none)
  (.block 3 (.loop F62L0)))
  (.seq (.seq (.region [⟨(some 164), (.mov (.t 12)), none, []⟩,
    ⟨(some 165), (.mov (.t 164)), none, []⟩,
    ⟨(some 166), (.mov (.t 9)), (some (165, true)), []⟩,
    ⟨(some 167), (.call (.f 76) [(.t 166)]), (some (165, true)), []⟩,
    ⟨(some 168), (.un .not (.t 167)), (some (165, true)), []⟩,
    ⟨(some 169), (.pick (.t 165) (.t 168) (.c (.bool false))), none, []⟩] none)
  (.cond (.t 169)
  (.seq (.region [⟨(some 170), (.makeIface 107 (.c (.int .i64 2))), none, []⟩,
    ⟨(some 6), (.mov (.c (.int .u64 0))), none, []⟩,
    ⟨(some 7), (.mov (.t 170)), none, []⟩] none)
  .ret)
  .skip))
  (.seq (.region [⟨(some 171), (.mov (.t 13)), none, []⟩,
    ⟨(some 6), (.mov (.t 171)), none, []⟩,
    ⟨(some 7), (.mov (.c .nilIface)), none, []⟩] none)
  .ret))))))))))))))
def F62 : AFunc := ⟨3, 172, [(.tmp 6), (.tmp 7)], B62⟩
-- F62L0 live: [1, 8, 9, 10, 11, 12, 13, 99, 100, 101]
/-- strconv.toError -/
def B63 : ACode := (.seq (.region [⟨(some 10), (.mov (.c .nilIface)), none, []⟩] none)
  (.seq (.seq (.region [⟨(some 11), (.mov (.t 4)), none, []⟩] none)
  (.block 0 (.seq (.region [⟨(some 13), (.makeIface 107 (.c (.int .i64 2))), none, []⟩,
    ⟨(some 14), (.eqv false (.ifc [2, 3, 5, 6, 12, 21, 23, 28, 53, 85, 107, 115, 138, 139, 141, 142]) false (.t 11) (.t 13)), none, []⟩,
    ⟨(some 12), (.mov (.t 14)), none, []⟩] none)
  (.cond (.t 12)
  (.seq (.region [⟨(some 15), (.mov (.t 0)), none, []⟩,
    ⟨(some 16), (.mov (.t 1)), none, []⟩,
    ⟨(some 17), (.call (.f 77) [(.t 15), (.t 16)]), none, []⟩,
    ⟨(some 18), (.makeIface 110 (.t 17)), none, []⟩,
    ⟨(some 10), (.mov (.t 18)), none, []⟩] none)
  .ret)
  (.seq (.region [⟨(some 20), (.makeIface 107 (.c (.int .i64 1))), none, []⟩,
    ⟨(some 21), (.eqv false (.ifc [2, 3, 5, 6, 12, 21, 23, 28, 53, 85, 107, 115, 138, 139, 141, 142]) false (.t 11) (.t 20)), none, []⟩,
    ⟨(some 19), (.mov (.t 21)), none, []⟩] none)
  (.cond (.t 19)
  (.seq (.region [⟨(some 22), (.mov (.t 0)), none, []⟩,
    ⟨(some 23), (.mov (.t 1)), none, []⟩,
    ⟨(some 24), (.call (.f 78) [(.t 22), (.t 23)]), none, []⟩,
    ⟨(some 25), (.makeIface 110 (.t 24)), none, []⟩,
    ⟨(some 10), (.mov (.t 25)), none, []⟩] none)
  .ret)
  (.seq (.region [⟨(some 27), (.makeIface 107 (.c (.int .i64 3))), none, []⟩,
    ⟨(some 28), (.eqv false (.ifc [2, 3, 5, 6, 12, 21, 23, 28, 53, 85, 107, 115, 138, 139, 141, 142]) false (.t 11) (.t 27)), none, []⟩,
    ⟨(some 26), (.mov (.t 28)), none, []⟩] none)
  (.cond (.t 26)
  (.seq (.region [⟨(some 29), (.mov (.t 0)), none, []⟩,
    ⟨(some 30), (.mov (.t 1)), none, []⟩,
    ⟨(some 31), (.mov (.t 2)), none, []⟩,
    ⟨(some 32), (.call (.f 79) [(.t 29), (.t 30), (.t 31)]), none, []⟩,
    ⟨(some 33), (.makeIface 110 (.t 32)), none, []⟩,
    ⟨(some 10), (.mov (.t 33)), none, []⟩] none)
  .ret)
  (.seq (.region [⟨(some 35), (.makeIface 107 (.c (.int .i64 4))), none, []⟩,
    ⟨(some 36), (.eqv false (.ifc [2, 3, 5, 6, 12, 21, 23, 28, 53, 85, 107, 115, 138, 139, 141, 142]) false (.t 11) (.t 35)), none, []⟩,
    ⟨(some 34), (.mov (.t 36)), none, []⟩] none)
  (.cond (.t 34)
  (.seq (.region [⟨(some 37), (.mov (.t 0)), none, []⟩,
    ⟨(some 38), (.mov (.t 1)), none, []⟩,
    ⟨(some 39), (.mov (.t 3)), none, []⟩,
    ⟨(some 40), (.call (.f 80) [(.t 37), (.t 38), (.t 39)]), none, []⟩,
    ⟨(some 41), (.makeIface 110 (.t 40)), none, []⟩,
    ⟨(some 10), (.mov (.t 41)), none, []⟩] none)
  .ret)
  .skip))))))))))
  (.seq (.region [⟨(some 42), (.mov (.t 4)), none, []⟩,
    ⟨(some 10), (.mov (.t 42)), none, []⟩] none)
  .ret)))
def F63 : AFunc := ⟨5, 43, [(.tmp 10)], B63⟩
/-- internal/strconv.small -/
def B64 : ACode := (.seq (.region [⟨(some 2), (.mov (.c (.string ⟨#[]⟩))), none, []⟩] none)
  (.seq (.seq (.region [⟨(some 3), (.mov (.t 0)), none, []⟩,
    ⟨(some 4), (.bin .lss (.t 3) (.c (.int .i64 10))), none, []⟩] none)
  (.cond (.t 4)
  (.seq (.region [⟨(some 5), (.mov (.t 0)), none, []⟩,
    ⟨(some 6), (.mov (.t 0)), none, []⟩,
    ⟨(some 7), (.bin .add (.t 6) (.c (.int .i64 1))), none, []⟩,
    ⟨(some 8), (.sliceStr (.c (.string ⟨#[48, 49, 50, 51, 52, 53, 54, 55, 56, 57, 97, 98, 99, 100, 101, 102, 103, 104, 105, 106, 107, 108, 109, 110, 111, 112, 113, 114, 115, 116, 117, 118, 119, 120, 121, 122]⟩)) (some (.t 5)) (some (.t 7))), none, []⟩,
    ⟨(some 2), (.mov (.t 8)), none, []⟩] none)
  .ret)
  .skip))
  (.seq (.region [⟨(some 9), (.mov (.t 0)), none, []⟩,
    ⟨(some 10), (.bin .mul (.t 9) (.c (.int .i64 2))), none, []⟩,
    ⟨(some 11), (.mov (.t 0)), none, []⟩,
    ⟨(some 12), (.bin .mul (.t 11) (.c (.int .i64 2))), none, []⟩,
    ⟨(some 13), (.bin .add (.t 12) (.c (.int .i64 2))), none, []⟩,
    ⟨(some 14), (.sliceStr (.c (.string ⟨#[48, 48, 48, 49, 48, 50, 48, 51, 48, 52, 48, 53, 48, 54, 48, 55, 48, 56, 48, 57, 49, 48, 49, 49, 49, 50, 49, 51, 49, 52, 49, 53, 49, 54, 49, 55, 49, 56, 49, 57, 50, 48, 50, 49, 50, 50, 50, 51, 50, 52, 50, 53, 50, 54, 50, 55, 50, 56, 50, 57, 51, 48, 51, 49, 51, 50, 51, 51, 51, 52, 51, 53, 51, 54, 51, 55, 51, 56, 51, 57, 52, 48, 52, 49, 52, 50, 52, 51, 52, 52, 52, 53, 52, 54, 52, 55, 52, 56, 52, 57, 53, 48, 53, 49, 53, 50, 53, 51, 53, 52, 53, 53, 53, 54, 53, 55, 53, 56, 53, 57, 54, 48, 54, 49, 54, 50, 54, 51, 54, 52, 54, 53, 54, 54, 54, 55, 54, 56, 54, 57, 55, 48, 55, 49, 55, 50, 55, 51, 55, 52, 55, 53, 55, 54, 55, 55, 55, 56, 55, 57, 56, 48, 56, 49, 56, 50, 56, 51, 56, 52, 56, 53, 56, 54, 56, 55, 56, 56, 56, 57, 57, 48, 57, 49, 57, 50, 57, 51, 57, 52, 57, 53, 57, 54, 57, 55, 57, 56, 57, 57]⟩)) (some (.t 10)) (some (.t 13))), none, []⟩,
    ⟨(some 2), (.mov (.t 14)), none, []⟩] none)
  .ret)))
def F64 : AFunc := ⟨1, 15, [(.tmp 2)], B64⟩
/-- internal/strconv.numDigits -/
def B65 : ACode := (.seq (.region [⟨(some 2), (.mov (.c (.int .i64 0))), none, []⟩] none)
  (.seq (.region [⟨(some 4), (.mov (.t 0)), none, []⟩,
    ⟨(some 5), (.call (.f 82) [(.t 4)]), none, []⟩,
    ⟨(some 6), (.call (.f 81) [(.t 5)]), none, []⟩,
    ⟨(some 3), (.mov (.t 6)), none, []⟩] none)
  (.seq (.region [⟨(some 7), (.mov (.t 3)), none, []⟩,
    ⟨(some 8), (.mov (.t 0)), none, []⟩,
    ⟨(some 9), (.mov (.t 3)), none, []⟩,
    ⟨(some 10), (.indexArr 1 20 (.g 2) (.t 9)), none, []⟩,
    ⟨(some 11), (.load none (.t 10)), none, []⟩,
    ⟨(some 12), (.bin .geq (.t 8) (.t 11)), none, []⟩,
    ⟨(some 13), (.call (.f 83) [(.t 12)]), none, []⟩,
    ⟨(some 14), (.bin .add (.t 7) (.t 13)), none, []⟩,
    ⟨(some 2), (.mov (.t 14)), none, []⟩] none)
  .ret)))
def F65 : AFunc := ⟨1, 15, [(.tmp 2)], B65⟩
def R66_0 : ACode := .region [⟨(some 42), (.mov (.t 0)), none, []⟩,
    ⟨(some 43), (.mov (.t 4)), none, []⟩,
    ⟨(some 44), (.bin .sub (.t 43) (.c (.int .i64 1))), none, [1]⟩,
    ⟨(some 45), (.mov (.t 0)), none, []⟩,
    ⟨(some 46), (.mov (.t 4)), none, []⟩,
    ⟨(some 47), (.bin .sub (.t 46) (.c (.int .i64 2))), none, [4]⟩,
    ⟨(some 48), (.mov (.t 9)), none, []⟩,
    ⟨(some 49), (.bin .add (.t 48) (.c (.int .u32 1))), none, [6]⟩,
    ⟨(some 50), (.indexStr (.c (.string ⟨#[48, 48, 48, 49, 48, 50, 48, 51, 48, 52, 48, 53, 48, 54, 48, 55, 48, 56, 48, 57, 49, 48, 49, 49, 49, 50, 49, 51, 49, 52, 49, 53, 49, 54, 49, 55, 49, 56, 49, 57, 50, 48, 50, 49, 50, 50, 50, 51, 50, 52, 50, 53, 50, 54, 50, 55, 50, 56, 50, 57, 51, 48, 51, 49, 51, 50, 51, 51, 51, 52, 51, 53, 51, 54, 51, 55, 51, 56, 51, 57, 52, 48, 52, 49, 52, 50, 52, 51, 52, 52, 52, 53, 52, 54, 52, 55, 52, 56, 52, 57, 53, 48, 53, 49, 53, 50, 53, 51, 53, 52, 53, 53, 53, 54, 53, 55, 53, 56, 53, 57, 54, 48, 54, 49, 54, 50, 54, 51, 54, 52, 54, 53, 54, 54, 54, 55, 54, 56, 54, 57, 55, 48, 55, 49, 55, 50, 55, 51, 55, 52, 55, 53, 55, 54, 55, 55, 55, 56, 55, 57, 56, 48, 56, 49, 56, 50, 56, 51, 56, 52, 56, 53, 56, 54, 56, 55, 56, 56, 56, 57, 57, 48, 57, 49, 57, 50, 57, 51, 57, 52, 57, 53, 57, 54, 57, 55, 57, 56, 57, 57]⟩)) (.t 49)), none, [7]⟩,
    ⟨(some 51), (.mov (.t 9)), none, []⟩,
    ⟨(some 52), (.indexStr (.c (.string ⟨#[48, 48, 48, 49, 48, 50, 48, 51, 48, 52, 48, 53, 48, 54, 48, 55, 48, 56, 48, 57, 49, 48, 49, 49, 49, 50, 49, 51, 49, 52, 49, 53, 49, 54, 49, 55, 49, 56, 49, 57, 50, 48, 50, 49, 50, 50, 50, 51, 50, 52, 50, 53, 50, 54, 50, 55, 50, 56, 50, 57, 51, 48, 51, 49, 51, 50, 51, 51, 51, 52, 51, 53, 51, 54, 51, 55, 51, 56, 51, 57, 52, 48, 52, 49, 52, 50, 52, 51, 52, 52, 52, 53, 52, 54, 52, 55, 52, 56, 52, 57, 53, 48, 53, 49, 53, 50, 53, 51, 53, 52, 53, 53, 53, 54, 53, 55, 53, 56, 53, 57, 54, 48, 54, 49, 54, 50, 54, 51, 54, 52, 54, 53, 54, 54, 54, 55, 54, 56, 54, 57, 55, 48, 55, 49, 55, 50, 55, 51, 55, 52, 55, 53, 55, 54, 55, 55, 55, 56, 55, 57, 56, 48, 56, 49, 56, 50, 56, 51, 56, 52, 56, 53, 56, 54, 56, 55, 56, 56, 56, 57, 57, 48, 57, 49, 57, 50, 57, 51, 57, 52, 57, 53, 57, 54, 57, 55, 57, 56, 57, 57]⟩)) (.t 51)), none, [9]⟩,
    ⟨(some 53), (.indexAddr 1 (.t 42) (.t 44)), none, [0, 2, 0, 1, 2, 6, 7, 8]⟩,
    ⟨none, (.store 1 (.t 53) (.t 50)), none, [11, 8, 0, 1, 2, 6, 7, 8]⟩,
    ⟨(some 54), (.indexAddr 1 (.t 45) (.t 47)), none, [3, 5, 0, 1, 2, 3, 4, 5, 6, 7, 8, 9, 10, 11, 12]⟩,
    ⟨none, (.store 1 (.t 54) (.t 52)), none, [13, 10, 12, 0, 1, 2, 3, 4, 5, 6, 7, 8, 9, 10, 11, 12]⟩] (some [(0, 1), (0, 2), (0, 3), (1, 3), (2, 3), (0, 4), (1, 4), (2, 4), (3, 4), (0, 5), (1, 5), (2, 5), (3, 5), (0, 6), (1, 6), (2, 6), (3, 6), (4, 6), (5, 6), (0, 7), (1, 7), (2, 7), (3, 7), (4, 7), (5, 7), (0, 8), (1, 8), (2, 8), (3, 8), (4, 8), (5, 8), (0, 9), (1, 9), (2, 9), (3, 9), (4, 9), (5, 9), (6, 9), (7, 9), (8, 9), (0, 10), (1, 10), (2, 10), (3, 10), (4, 10), (5, 10), (6, 10), (7, 10), (8, 10), (3, 11), (4, 11), (5, 11), (9, 11), (10, 11), (3, 12), (4, 12), (5, 12), (9, 12), (10, 12)])
def R66_1 : ACode := .region [⟨(some 55), (.mov (.t 0)), none, []⟩,
    ⟨(some 56), (.mov (.t 4)), none, []⟩,
    ⟨(some 57), (.bin .sub (.t 56) (.c (.int .i64 3))), none, [1]⟩,
    ⟨(some 58), (.mov (.t 0)), none, []⟩,
    ⟨(some 59), (.mov (.t 4)), none, []⟩,
    ⟨(some 60), (.bin .sub (.t 59) (.c (.int .i64 4))), none, [4]⟩,
    ⟨(some 61), (.mov (.t 8)), none, []⟩,
    ⟨(some 62), (.bin .add (.t 61) (.c (.int .u32 1))), none, [6]⟩,
    ⟨(some 63), (.indexStr (.c (.string ⟨#[48, 48, 48, 49, 48, 50, 48, 51, 48, 52, 48, 53, 48, 54, 48, 55, 48, 56, 48, 57, 49, 48, 49, 49, 49, 50, 49, 51, 49, 52, 49, 53, 49, 54, 49, 55, 49, 56, 49, 57, 50, 48, 50, 49, 50, 50, 50, 51, 50, 52, 50, 53, 50, 54, 50, 55, 50, 56, 50, 57, 51, 48, 51, 49, 51, 50, 51, 51, 51, 52, 51, 53, 51, 54, 51, 55, 51, 56, 51, 57, 52, 48, 52, 49, 52, 50, 52, 51, 52, 52, 52, 53, 52, 54, 52, 55, 52, 56, 52, 57, 53, 48, 53, 49, 53, 50, 53, 51, 53, 52, 53, 53, 53, 54, 53, 55, 53, 56, 53, 57, 54, 48, 54, 49, 54, 50, 54, 51, 54, 52, 54, 53, 54, 54, 54, 55, 54, 56, 54, 57, 55, 48, 55, 49, 55, 50, 55, 51, 55, 52, 55, 53, 55, 54, 55, 55, 55, 56, 55, 57, 56, 48, 56, 49, 56, 50, 56, 51, 56, 52, 56, 53, 56, 54, 56, 55, 56, 56, 56, 57, 57, 48, 57, 49, 57, 50, 57, 51, 57, 52, 57, 53, 57, 54, 57, 55, 57, 56, 57, 57]⟩)) (.t 62)), none, [7]⟩,
    ⟨(some 64), (.mov (.t 8)), none, []⟩,
    ⟨(some 65), (.indexStr (.c (.string ⟨#[48, 48, 48, 49, 48, 50, 48, 51, 48, 52, 48, 53, 48, 54, 48, 55, 48, 56, 48, 57, 49, 48, 49, 49, 49, 50, 49, 51, 49, 52, 49, 53, 49, 54, 49, 55, 49, 56, 49, 57, 50, 48, 50, 49, 50, 50, 50, 51, 50, 52, 50, 53, 50, 54, 50, 55, 50, 56, 50, 57, 51, 48, 51, 49, 51, 50, 51, 51, 51, 52, 51, 53, 51, 54, 51, 55, 51, 56, 51, 57, 52, 48, 52, 49, 52, 50, 52, 51, 52, 52, 52, 53, 52, 54, 52, 55, 52, 56, 52, 57, 53, 48, 53, 49, 53, 50, 53, 51, 53, 52, 53, 53, 53, 54, 53, 55, 53, 56, 53, 57, 54, 48, 54, 49, 54, 50, 54, 51, 54, 52, 54, 53, 54, 54, 54, 55, 54, 56, 54, 57, 55, 48, 55, 49, 55, 50, 55, 51, 55, 52, 55, 53, 55, 54, 55, 55, 55, 56, 55, 57, 56, 48, 56, 49, 56, 50, 56, 51, 56, 52, 56, 53, 56, 54, 56, 55, 56, 56, 56, 57, 57, 48, 57, 49, 57, 50, 57, 51, 57, 52, 57, 53, 57, 54, 57, 55, 57, 56, 57, 57]⟩)) (.t 64)), none, [9]⟩,
    ⟨(some 66), (.indexAddr 1 (.t 55) (.t 57)), none, [0, 2, 0, 1, 2, 6, 7, 8]⟩,
    ⟨none, (.store 1 (.t 66) (.t 63)), none, [11, 8, 0, 1, 2, 6, 7, 8]⟩,
    ⟨(some 67), (.indexAddr 1 (.t 58) (.t 60)), none, [3, 5, 0, 1, 2, 3, 4, 5, 6, 7, 8, 9, 10, 11, 12]⟩,
    ⟨none, (.store 1 (.t 67) (.t 65)), none, [13, 10, 12, 0, 1, 2, 3, 4, 5, 6, 7, 8, 9, 10, 11, 12]⟩] (some [(0, 1), (0, 2), (0, 3), (1, 3), (2, 3), (0, 4), (1, 4), (2, 4), (3, 4), (0, 5), (1, 5), (2, 5), (3, 5), (0, 6), (1, 6), (2, 6), (3, 6), (4, 6), (5, 6), (0, 7), (1, 7), (2, 7), (3, 7), (4, 7), (5, 7), (0, 8), (1, 8), (2, 8), (3, 8), (4, 8), (5, 8), (0, 9), (1, 9), (2, 9), (3, 9), (4, 9), (5, 9), (6, 9), (7, 9), (8, 9), (0, 10), (1, 10), (2, 10), (3, 10), (4, 10), (5, 10), (6, 10), (7, 10), (8, 10), (3, 11), (4, 11), (5, 11), (9, 11), (10, 11), (3, 12), (4, 12), (5, 12), (9, 12), (10, 12)])
def R66_2 : ACode := .region [⟨(some 68), (.mov (.t 0)), none, []⟩,
    ⟨(some 69), (.mov (.t 4)), none, []⟩,
    ⟨(some 70), (.bin .sub (.t 69) (.c (.int .i64 5))), none, [1]⟩,
    ⟨(some 71), (.mov (.t 0)), none, []⟩,
    ⟨(some 72), (.mov (.t 4)), none, []⟩,
    ⟨(some 73), (.bin .sub (.t 72) (.c (.int .i64 6))), none, [4]⟩,
    ⟨(some 74), (.mov (.t 11)), none, []⟩,
    ⟨(some 75), (.bin .add (.t 74) (.c (.int .u32 1))), none, [6]⟩,
    ⟨(some 76), (.indexStr (.c (.string ⟨#[48, 48, 48, 49, 48, 50, 48, 51, 48, 52, 48, 53, 48, 54, 48, 55, 48, 56, 48, 57, 49, 48, 49, 49, 49, 50, 49, 51, 49, 52, 49, 53, 49, 54, 49, 55, 49, 56, 49, 57, 50, 48, 50, 49, 50, 50, 50, 51, 50, 52, 50, 53, 50, 54, 50, 55, 50, 56, 50, 57, 51, 48, 51, 49, 51, 50, 51, 51, 51, 52, 51, 53, 51, 54, 51, 55, 51, 56, 51, 57, 52, 48, 52, 49, 52, 50, 52, 51, 52, 52, 52, 53, 52, 54, 52, 55, 52, 56, 52, 57, 53, 48, 53, 49, 53, 50, 53, 51, 53, 52, 53, 53, 53, 54, 53, 55, 53, 56, 53, 57, 54, 48, 54, 49, 54, 50, 54, 51, 54, 52, 54, 53, 54, 54, 54, 55, 54, 56, 54, 57, 55, 48, 55, 49, 55, 50, 55, 51, 55, 52, 55, 53, 55, 54, 55, 55, 55, 56, 55, 57, 56, 48, 56, 49, 56, 50, 56, 51, 56, 52, 56, 53, 56, 54, 56, 55, 56, 56, 56, 57, 57, 48, 57, 49, 57, 50, 57, 51, 57, 52, 57, 53, 57, 54, 57, 55, 57, 56, 57, 57]⟩)) (.t 75)), none, [7]⟩,
    ⟨(some 77), (.mov (.t 11)), none, []⟩,
    ⟨(some 78), (.indexStr (.c (.string ⟨#[48, 48, 48, 49, 48, 50, 48, 51, 48, 52, 48, 53, 48, 54, 48, 55, 48, 56, 48, 57, 49, 48, 49, 49, 49, 50, 49, 51, 49, 52, 49, 53, 49, 54, 49, 55, 49, 56, 49, 57, 50, 48, 50, 49, 50, 50, 50, 51, 50, 52, 50, 53, 50, 54, 50, 55, 50, 56, 50, 57, 51, 48, 51, 49, 51, 50, 51, 51, 51, 52, 51, 53, 51, 54, 51, 55, 51, 56, 51, 57, 52, 48, 52, 49, 52, 50, 52, 51, 52, 52, 52, 53, 52, 54, 52, 55, 52, 56, 52, 57, 53, 48, 53, 49, 53, 50, 53, 51, 53, 52, 53, 53, 53, 54, 53, 55, 53, 56, 53, 57, 54, 48, 54, 49, 54, 50, 54, 51, 54, 52, 54, 53, 54, 54, 54, 55, 54, 56, 54, 57, 55, 48, 55, 49, 55, 50, 55, 51, 55, 52, 55, 53, 55, 54, 55, 55, 55, 56, 55, 57, 56, 48, 56, 49, 56, 50, 56, 51, 56, 52, 56, 53, 56, 54, 56, 55, 56, 56, 56, 57, 57, 48, 57, 49, 57, 50, 57, 51, 57, 52, 57, 53, 57, 54, 57, 55, 57, 56, 57, 57]⟩)) (.t 77)), none, [9]⟩,
    ⟨(some 79), (.indexAddr 1 (.t 68) (.t 70)), none, [0, 2, 0, 1, 2, 6, 7, 8]⟩,
    ⟨none, (.store 1 (.t 79) (.t 76)), none, [11, 8, 0, 1, 2, 6, 7, 8]⟩,
    ⟨(some 80), (.indexAddr 1 (.t 71) (.t 73)), none, [3, 5, 0, 1, 2, 3, 4, 5, 6, 7, 8, 9, 10, 11, 12]⟩,
    ⟨none, (.store 1 (.t 80) (.t 78)), none, [13, 10, 12, 0, 1, 2, 3, 4, 5, 6, 7, 8, 9, 10, 11, 12]⟩] (some [(0, 1), (0, 2), (0, 3), (1, 3), (2, 3), (0, 4), (1, 4), (2, 4), (3, 4), (0, 5), (1, 5), (2, 5), (3, 5), (0, 6), (1, 6), (2, 6), (3, 6), (4, 6), (5, 6), (0, 7), (1, 7), (2, 7), (3, 7), (4, 7), (5, 7), (0, 8), (1, 8), (2, 8), (3, 8), (4, 8), (5, 8), (0, 9), (1, 9), (2, 9), (3, 9), (4, 9), (5, 9), (6, 9), (7, 9), (8, 9), (0, 10), (1, 10), (2, 10), (3, 10), (4, 10), (5, 10), (6, 10), (7, 10), (8, 10), (3, 11), (4, 11), (5, 11), (9, 11), (10, 11), (3, 12), (4, 12), (5, 12), (9, 12), (10, 12)])
def R66_3 : ACode := .region [⟨(some 81), (.mov (.t 0)), none, []⟩,
    ⟨(some 82), (.mov (.t 4)), none, []⟩,
    ⟨(some 83), (.bin .sub (.t 82) (.c (.int .i64 7))), none, [1]⟩,
    ⟨(some 84), (.mov (.t 0)), none, []⟩,
    ⟨(some 85), (.mov (.t 4)), none, []⟩,
    ⟨(some 86), (.bin .sub (.t 85) (.c (.int .i64 8))), none, [4]⟩,
    ⟨(some 87), (.mov (.t 10)), none, []⟩,
    ⟨(some 88), (.bin .add (.t 87) (.c (.int .u32 1))), none, [6]⟩,
    ⟨(some 89), (.indexStr (.c (.string ⟨#[48, 48, 48, 49, 48, 50, 48, 51, 48, 52, 48, 53, 48, 54, 48, 55, 48, 56, 48, 57, 49, 48, 49, 49, 49, 50, 49, 51, 49, 52, 49, 53, 49, 54, 49, 55, 49, 56, 49, 57, 50, 48, 50, 49, 50, 50, 50, 51, 50, 52, 50, 53, 50, 54, 50, 55, 50, 56, 50, 57, 51, 48, 51, 49, 51, 50, 51, 51, 51, 52, 51, 53, 51, 54, 51, 55, 51, 56, 51, 57, 52, 48, 52, 49, 52, 50, 52, 51, 52, 52, 52, 53, 52, 54, 52, 55, 52, 56, 52, 57, 53, 48, 53, 49, 53, 50, 53, 51, 53, 52, 53, 53, 53, 54, 53, 55, 53, 56, 53, 57, 54, 48, 54, 49, 54, 50, 54, 51, 54, 52, 54, 53, 54, 54, 54, 55, 54, 56, 54, 57, 55, 48, 55, 49, 55, 50, 55, 51, 55, 52, 55, 53, 55, 54, 55, 55, 55, 56, 55, 57, 56, 48, 56, 49, 56, 50, 56, 51, 56, 52, 56, 53, 56, 54, 56, 55, 56, 56, 56, 57, 57, 48, 57, 49, 57, 50, 57, 51, 57, 52, 57, 53, 57, 54, 57, 55, 57, 56, 57, 57]⟩)) (.t 88)), none, [7]⟩,
    ⟨(some 90), (.mov (.t 10)), none, []⟩,
    ⟨(some 91), (.indexStr (.c (.string ⟨#[48, 48, 48, 49, 48, 50, 48, 51, 48, 52, 48, 53, 48, 54, 48, 55, 48, 56, 48, 57, 49, 48, 49, 49, 49, 50, 49, 51, 49, 52, 49, 53, 49, 54, 49, 55, 49, 56, 49, 57, 50, 48, 50, 49, 50, 50, 50, 51, 50, 52, 50, 53, 50, 54, 50, 55, 50, 56, 50, 57, 51, 48, 51, 49, 51, 50, 51, 51, 51, 52, 51, 53, 51, 54, 51, 55, 51, 56, 51, 57, 52, 48, 52, 49, 52, 50, 52, 51, 52, 52, 52, 53, 52, 54, 52, 55, 52, 56, 52, 57, 53, 48, 53, 49, 53, 50, 53, 51, 53, 52, 53, 53, 53, 54, 53, 55, 53, 56, 53, 57, 54, 48, 54, 49, 54, 50, 54, 51, 54, 52, 54, 53, 54, 54, 54, 55, 54, 56, 54, 57, 55, 48, 55, 49, 55, 50, 55, 51, 55, 52, 55, 53, 55, 54, 55, 55, 55, 56, 55, 57, 56, 48, 56, 49, 56, 50, 56, 51, 56, 52, 56, 53, 56, 54, 56, 55, 56, 56, 56, 57, 57, 48, 57, 49, 57, 50, 57, 51, 57, 52, 57, 53, 57, 54, 57, 55, 57, 56, 57, 57]⟩)) (.t 90)), none, [9]⟩,
    ⟨(some 92), (.indexAddr 1 (.t 81) (.t 83)), none, [0, 2, 0, 1, 2, 6, 7, 8]⟩,
    ⟨none, (.store 1 (.t 92) (.t 89)), none, [11, 8, 0, 1, 2, 6, 7, 8]⟩,
    ⟨(some 93), (.indexAddr 1 (.t 84) (.t 86)), none, [3, 5, 0, 1, 2, 3, 4, 5, 6, 7, 8, 9, 10, 11, 12]⟩,
    ⟨none, (.store 1 (.t 93) (.t 91)), none, [13, 10, 12, 0, 1, 2, 3, 4, 5, 6, 7, 8, 9, 10, 11, 12]⟩] (some [(0, 1), (0, 2), (0, 3), (1, 3), (2, 3), (0, 4), (1, 4), (2, 4), (3, 4), (0, 5), (1, 5), (2, 5), (3, 5), (0, 6), (1, 6), (2, 6), (3, 6), (4, 6), (5, 6), (0, 7), (1, 7), (2, 7), (3, 7), (4, 7), (5, 7), (0, 8), (1, 8), (2, 8), (3, 8), (4, 8), (5, 8), (0, 9), (1, 9), (2, 9), (3, 9), (4, 9), (5, 9), (6, 9), (7, 9), (8, 9), (0, 10), (1, 10), (2, 10), (3, 10), (4, 10), (5, 10), (6, 10), (7, 10), (8, 10), (3, 11), (4, 11), (5, 11), (9, 11), (10, 11), (3, 12), (4, 12), (5, 12), (9, 12), (10, 12)])
def R66_4 : ACode := .region [⟨(some 110), (.mov (.t 0)), none, []⟩,
    ⟨(some 111), (.mov (.t 4)), none, []⟩,
    ⟨(some 112), (.bin .sub (.t 111) (.c (.int .i64 1))), none, [1]⟩,
    ⟨(some 113), (.mov (.t 0)), none, []⟩,
    ⟨(some 114), (.mov (.t 4)), none, []⟩,
    ⟨(some 115), (.bin .sub (.t 114) (.c (.int .i64 2))), none, [4]⟩,
    ⟨(some 116), (.mov (.t 15)), none, []⟩,
    ⟨(some 117), (.bin .add (.t 116) (.c (.int .u32 1))), none, [6]⟩,
    ⟨(some 118), (.indexStr (.c (.string ⟨#[48, 48, 48, 49, 48, 50, 48, 51, 48, 52, 48, 53, 48, 54, 48, 55, 48, 56, 48, 57, 49, 48, 49, 49, 49, 50, 49, 51, 49, 52, 49, 53, 49, 54, 49, 55, 49, 56, 49, 57, 50, 48, 50, 49, 50, 50, 50, 51, 50, 52, 50, 53, 50, 54, 50, 55, 50, 56, 50, 57, 51, 48, 51, 49, 51, 50, 51, 51, 51, 52, 51, 53, 51, 54, 51, 55, 51, 56, 51, 57, 52, 48, 52, 49, 52, 50, 52, 51, 52, 52, 52, 53, 52, 54, 52, 55, 52, 56, 52, 57, 53, 48, 53, 49, 53, 50, 53, 51, 53, 52, 53, 53, 53, 54, 53, 55, 53, 56, 53, 57, 54, 48, 54, 49, 54, 50, 54, 51, 54, 52, 54, 53, 54, 54, 54, 55, 54, 56, 54, 57, 55, 48, 55, 49, 55, 50, 55, 51, 55, 52, 55, 53, 55, 54, 55, 55, 55, 56, 55, 57, 56, 48, 56, 49, 56, 50, 56, 51, 56, 52, 56, 53, 56, 54, 56, 55, 56, 56, 56, 57, 57, 48, 57, 49, 57, 50, 57, 51, 57, 52, 57, 53, 57, 54, 57, 55, 57, 56, 57, 57]⟩)) (.t 117)), none, [7]⟩,
    ⟨(some 119), (.mov (.t 15)), none, []⟩,
    ⟨(some 120), (.indexStr (.c (.string ⟨#[48, 48, 48, 49, 48, 50, 48, 51, 48, 52, 48, 53, 48, 54, 48, 55, 48, 56, 48, 57, 49, 48, 49, 49, 49, 50, 49, 51, 49, 52, 49, 53, 49, 54, 49, 55, 49, 56, 49, 57, 50, 48, 50, 49, 50, 50, 50, 51, 50, 52, 50, 53, 50, 54, 50, 55, 50, 56, 50, 57, 51, 48, 51, 49, 51, 50, 51, 51, 51, 52, 51, 53, 51, 54, 51, 55, 51, 56, 51, 57, 52, 48, 52, 49, 52, 50, 52, 51, 52, 52, 52, 53, 52, 54, 52, 55, 52, 56, 52, 57, 53, 48, 53, 49, 53, 50, 53, 51, 53, 52, 53, 53, 53, 54, 53, 55, 53, 56, 53, 57, 54, 48, 54, 49, 54, 50, 54, 51, 54, 52, 54, 53, 54, 54, 54, 55, 54, 56, 54, 57, 55, 48, 55, 49, 55, 50, 55, 51, 55, 52, 55, 53, 55, 54, 55, 55, 55, 56, 55, 57, 56, 48, 56, 49, 56, 50, 56, 51, 56, 52, 56, 53, 56, 54, 56, 55, 56, 56, 56, 57, 57, 48, 57, 49, 57, 50, 57, 51, 57, 52, 57, 53, 57, 54, 57, 55, 57, 56, 57, 57]⟩)) (.t 119)), none, [9]⟩,
    ⟨(some 121), (.indexAddr 1 (.t 110) (.t 112)), none, [0, 2, 0, 1, 2, 6, 7, 8]⟩,
    ⟨none, (.store 1 (.t 121) (.t 118)), none, [11, 8, 0, 1, 2, 6, 7, 8]⟩,
    ⟨(some 122), (.indexAddr 1 (.t 113) (.t 115)), none, [3, 5, 0, 1, 2, 3, 4, 5, 6, 7, 8, 9, 10, 11, 12]⟩,
    ⟨none, (.store 1 (.t 122) (.t 120)), none, [13, 10, 12, 0, 1, 2, 3, 4, 5, 6, 7, 8, 9, 10, 11, 12]⟩] (some [(0, 1), (0, 2), (0, 3), (1, 3), (2, 3), (0, 4), (1, 4), (2, 4), (3, 4), (0, 5), (1, 5), (2, 5), (3, 5), (0, 6), (1, 6), (2, 6), (3, 6), (4, 6), (5, 6), (0, 7), (1, 7), (2, 7), (3, 7), (4, 7), (5, 7), (0, 8), (1, 8), (2, 8), (3, 8), (4, 8), (5, 8), (0, 9), (1, 9), (2, 9), (3, 9), (4, 9), (5, 9), (6, 9), (7, 9), (8, 9), (0, 10), (1, 10), (2, 10), (3, 10), (4, 10), (5, 10), (6, 10), (7, 10), (8, 10), (3, 11), (4, 11), (5, 11), (9, 11), (10, 11), (3, 12), (4, 12), (5, 12), (9, 12), (10, 12)])
def R66_5 : ACode := .region [⟨(some 123), (.mov (.t 0)), none, []⟩,
    ⟨(some 124), (.mov (.t 4)), none, []⟩,
    ⟨(some 125), (.bin .sub (.t 124) (.c (.int .i64 3))), none, [1]⟩,
    ⟨(some 126), (.mov (.t 0)), none, []⟩,
    ⟨(some 127), (.mov (.t 4)), none, []⟩,
    ⟨(some 128), (.bin .sub (.t 127) (.c (.int .i64 4))), none, [4]⟩,
    ⟨(some 129), (.mov (.t 14)), none, []⟩,
    ⟨(some 130), (.bin .add (.t 129) (.c (.int .u32 1))), none, [6]⟩,
    ⟨(some 131), (.indexStr (.c (.string ⟨#[48, 48, 48, 49, 48, 50, 48, 51, 48, 52, 48, 53, 48, 54, 48, 55, 48, 56, 48, 57, 49, 48, 49, 49, 49, 50, 49, 51, 49, 52, 49, 53, 49, 54, 49, 55, 49, 56, 49, 57, 50, 48, 50, 49, 50, 50, 50, 51, 50, 52, 50, 53, 50, 54, 50, 55, 50, 56, 50, 57, 51, 48, 51, 49, 51, 50, 51, 51, 51, 52, 51, 53, 51, 54, 51, 55, 51, 56, 51, 57, 52, 48, 52, 49, 52, 50, 52, 51, 52, 52, 52, 53, 52, 54, 52, 55, 52, 56, 52, 57, 53, 48, 53, 49, 53, 50, 53, 51, 53, 52, 53, 53, 53, 54, 53, 55, 53, 56, 53, 57, 54, 48, 54, 49, 54, 50, 54, 51, 54, 52, 54, 53, 54, 54, 54, 55, 54, 56, 54, 57, 55, 48, 55, 49, 55, 50, 55, 51, 55, 52, 55, 53, 55, 54, 55, 55, 55, 56, 55, 57, 56, 48, 56, 49, 56, 50, 56, 51, 56, 52, 56, 53, 56, 54, 56, 55, 56, 56, 56, 57, 57, 48, 57, 49, 57, 50, 57, 51, 57, 52, 57, 53, 57, 54, 57, 55, 57, 56, 57, 57]⟩)) (.t 130)), none, [7]⟩,
    ⟨(some 132), (.mov (.t 14)), none, []⟩,
    ⟨(some 133), (.indexStr (.c (.string ⟨#[48, 48, 48, 49, 48, 50, 48, 51, 48, 52, 48, 53, 48, 54, 48, 55, 48, 56, 48, 57, 49, 48, 49, 49, 49, 50, 49, 51, 49, 52, 49, 53, 49, 54, 49, 55, 49, 56, 49, 57, 50, 48, 50, 49, 50, 50, 50, 51, 50, 52, 50, 53, 50, 54, 50, 55, 50, 56, 50, 57, 51, 48, 51, 49, 51, 50, 51, 51, 51, 52, 51, 53, 51, 54, 51, 55, 51, 56, 51, 57, 52, 48, 52, 49, 52, 50, 52, 51, 52, 52, 52, 53, 52, 54, 52, 55, 52, 56, 52, 57, 53, 48, 53, 49, 53, 50, 53, 51, 53, 52, 53, 53, 53, 54, 53, 55, 53, 56, 53, 57, 54, 48, 54, 49, 54, 50, 54, 51, 54, 52, 54, 53, 54, 54, 54, 55, 54, 56, 54, 57, 55, 48, 55, 49, 55, 50, 55, 51, 55, 52, 55, 53, 55, 54, 55, 55, 55, 56, 55, 57, 56, 48, 56, 49, 56, 50, 56, 51, 56, 52, 56, 53, 56, 54, 56, 55, 56, 56, 56, 57, 57, 48, 57, 49, 57, 50, 57, 51, 57, 52, 57, 53, 57, 54, 57, 55, 57, 56, 57, 57]⟩)) (.t 132)), none, [9]⟩,
    ⟨(some 134), (.indexAddr 1 (.t 123) (.t 125)), none, [0, 2, 0, 1, 2, 6, 7, 8]⟩,
    ⟨none, (.store 1 (.t 134) (.t 131)), none, [11, 8, 0, 1, 2, 6, 7, 8]⟩,
    ⟨(some 135), (.indexAddr 1 (.t 126) (.t 128)), none, [3, 5, 0, 1, 2, 3, 4, 5, 6, 7, 8, 9, 10, 11, 12]⟩,
    ⟨none, (.store 1 (.t 135) (.t 133)), none, [13, 10, 12, 0, 1, 2, 3, 4, 5, 6, 7, 8, 9, 10, 11, 12]⟩] (some [(0, 1), (0, 2), (0, 3), (1, 3), (2, 3), (0, 4), (1, 4), (2, 4), (3, 4), (0, 5), (1, 5), (2, 5), (3, 5), (0, 6), (1, 6), (2, 6), (3, 6), (4, 6), (5, 6), (0, 7), (1, 7), (2, 7), (3, 7), (4, 7), (5, 7), (0, 8), (1, 8), (2, 8), (3, 8), (4, 8), (5, 8), (0, 9), (1, 9), (2, 9), (3, 9), (4, 9), (5, 9), (6, 9), (7, 9), (8, 9), (0, 10), (1, 10), (2, 10), (3, 10), (4, 10), (5, 10), (6, 10), (7, 10), (8, 10), (3, 11), (4, 11), (5, 11), (9, 11), (10, 11), (3, 12), (4, 12), (5, 12), (9, 12), (10, 12)])
def R66_6 : ACode := .region [⟨(some 145), (.mov (.t 0)), none, []⟩,
    ⟨(some 146), (.mov (.t 4)), none, []⟩,
    ⟨(some 147), (.bin .sub (.t 146) (.c (.int .i64 1))), none, [1]⟩,
    ⟨(some 148), (.mov (.t 0)), none, []⟩,
    ⟨(some 149), (.mov (.t 4)), none, []⟩,
    ⟨(some 150), (.bin .sub (.t 149) (.c (.int .i64 2))), none, [4]⟩,
    ⟨(some 151), (.mov (.t 16)), none, []⟩,
    ⟨(some 152), (.bin .add (.t 151) (.c (.int .u32 1))), none, [6]⟩,
    ⟨(some 153), (.indexStr (.c (.string ⟨#[48, 48, 48, 49, 48, 50, 48, 51, 48, 52, 48, 53, 48, 54, 48, 55, 48, 56, 48, 57, 49, 48, 49, 49, 49, 50, 49, 51, 49, 52, 49, 53, 49, 54, 49, 55, 49, 56, 49, 57, 50, 48, 50, 49, 50, 50, 50, 51, 50, 52, 50, 53, 50, 54, 50, 55, 50, 56, 50, 57, 51, 48, 51, 49, 51, 50, 51, 51, 51, 52, 51, 53, 51, 54, 51, 55, 51, 56, 51, 57, 52, 48, 52, 49, 52, 50, 52, 51, 52, 52, 52, 53, 52, 54, 52, 55, 52, 56, 52, 57, 53, 48, 53, 49, 53, 50, 53, 51, 53, 52, 53, 53, 53, 54, 53, 55, 53, 56, 53, 57, 54, 48, 54, 49, 54, 50, 54, 51, 54, 52, 54, 53, 54, 54, 54, 55, 54, 56, 54, 57, 55, 48, 55, 49, 55, 50, 55, 51, 55, 52, 55, 53, 55, 54, 55, 55, 55, 56, 55, 57, 56, 48, 56, 49, 56, 50, 56, 51, 56, 52, 56, 53, 56, 54, 56, 55, 56, 56, 56, 57, 57, 48, 57, 49, 57, 50, 57, 51, 57, 52, 57, 53, 57, 54, 57, 55, 57, 56, 57, 57]⟩)) (.t 152)), none, [7]⟩,
    ⟨(some 154), (.mov (.t 16)), none, []⟩,
    ⟨(some 155), (.indexStr (.c (.string ⟨#[48, 48, 48, 49, 48, 50, 48, 51, 48, 52, 48, 53, 48, 54, 48, 55, 48, 56, 48, 57, 49, 48, 49, 49, 49, 50, 49, 51, 49, 52, 49, 53, 49, 54, 49, 55, 49, 56, 49, 57, 50, 48, 50, 49, 50, 50, 50, 51, 50, 52, 50, 53, 50, 54, 50, 55, 50, 56, 50, 57, 51, 48, 51, 49, 51, 50, 51, 51, 51, 52, 51, 53, 51, 54, 51, 55, 51, 56, 51, 57, 52, 48, 52, 49, 52, 50, 52, 51, 52, 52, 52, 53, 52, 54, 52, 55, 52, 56, 52, 57, 53, 48, 53, 49, 53, 50, 53, 51, 53, 52, 53, 53, 53, 54, 53, 55, 53, 56, 53, 57, 54, 48, 54, 49, 54, 50, 54, 51, 54, 52, 54, 53, 54, 54, 54, 55, 54, 56, 54, 57, 55, 48, 55, 49, 55, 50, 55, 51, 55, 52, 55, 53, 55, 54, 55, 55, 55, 56, 55, 57, 56, 48, 56, 49, 56, 50, 56, 51, 56, 52, 56, 53, 56, 54, 56, 55, 56, 56, 56, 57, 57, 48, 57, 49, 57, 50, 57, 51, 57, 52, 57, 53, 57, 54, 57, 55, 57, 56, 57, 57]⟩)) (.t 154)), none, [9]⟩,
    ⟨(some 156), (.indexAddr 1 (.t 145) (.t 147)), none, [0, 2, 0, 1, 2, 6, 7, 8]⟩,
    ⟨none, (.store 1 (.t 156) (.t 153)), none, [11, 8, 0, 1, 2, 6, 7, 8]⟩,
    ⟨(some 157), (.indexAddr 1 (.t 148) (.t 150)), none, [3, 5, 0, 1, 2, 3, 4, 5, 6, 7, 8, 9, 10, 11, 12]⟩,
    ⟨none, (.store 1 (.t 157) (.t 155)), none, [13, 10, 12, 0, 1, 2, 3, 4, 5, 6, 7, 8, 9, 10, 11, 12]⟩] (some [(0, 1), (0, 2), (0, 3), (1, 3), (2, 3), (0, 4), (1, 4), (2, 4), (3, 4), (0, 5), (1, 5), (2, 5), (3, 5), (0, 6), (1, 6), (2, 6), (3, 6), (4, 6), (5, 6), (0, 7), (1, 7), (2, 7), (3, 7), (4, 7), (5, 7), (0, 8), (1, 8), (2, 8), (3, 8), (4, 8), (5, 8), (0, 9), (1, 9), (2, 9), (3, 9), (4, 9), (5, 9), (6, 9), (7, 9), (8, 9), (0, 10), (1, 10), (2, 10), (3, 10), (4, 10), (5, 10), (6, 10), (7, 10), (8, 10), (3, 11), (4, 11), (5, 11), (9, 11), (10, 11), (3, 12), (4, 12), (5, 12), (9, 12), (10, 12)])
/-- internal/strconv.formatBase10 -/
def F66L0 : ACode := (.seq (.seq (.region [⟨(some 19), (.mov (.t 4)), none, []⟩,
    ⟨(some 20), (.bin .geq (.t 19) (.c (.int .i64 8))), none, []⟩] none)
  (.cond (.t 20)
  .skip
  (.exit 0)))
  (.block 1 (.seq (.region [⟨(some 21), (.mov (.t 1)), none, []⟩,
    ⟨(some 22), (.bin .rem (.t 21) (.c (.int .u64 100000000))), none, []⟩,
    ⟨(some 23), (.conv .u32 (.t 22)), none, []⟩,
    ⟨(some 5), (.mov (.t 23)), none, []⟩] none)
  (.seq (.region [⟨(some 24), (.mov (.t 1)), none, []⟩,
    ⟨(some 25), (.bin .quo (.t 24) (.c (.int .u64 100000000))), none, []⟩,
    ⟨(some 1), (.mov (.t 25)), none, []⟩] none)
  (.seq (.region [⟨(some 26), (.mov (.t 5)), none, []⟩,
    ⟨(some 27), (.bin .quo (.t 26) (.c (.int .u32 10000))), none, []⟩,
    ⟨(some 28), (.mov (.t 5)), none, []⟩,
    ⟨(some 29), (.bin .rem (.t 28) (.c (.int .u32 10000))), none, []⟩,
    ⟨(some 6), (.mov (.t 27)), none, []⟩,
    ⟨(some 7), (.mov (.t 29)), none, []⟩] none)
  (.seq (.region [⟨(some 30), (.mov (.t 7)), none, []⟩,
    ⟨(some 31), (.bin .quo (.t 30) (.c (.int .u32 100))), none, []⟩,
    ⟨(some 32), (.bin .mul (.t 31) (.c (.int .u32 2))), none, []⟩,
    ⟨(some 33), (.mov (.t 7)), none, []⟩,
    ⟨(some 34), (.bin .rem (.t 33) (.c (.int .u32 100))), none, []⟩,
    ⟨(some 35), (.bin .mul (.t 34) (.c (.int .u32 2))), none, []⟩,
    ⟨(some 8), (.mov (.t 32)), none, []⟩,
    ⟨(some 9), (.mov (.t 35)), none, []⟩] none)
  (.seq (.region [⟨(some 36), (.mov (.t 6)), none, []⟩,
    ⟨(some 37), (.bin .quo (.t 36) (.c (.int .u32 100))), none, []⟩,
    ⟨(some 38), (.bin .mul (.t 37) (.c (.int .u32 2))), none, []⟩,
    ⟨(some 39), (.mov (.t 6)), none, []⟩,
    ⟨(some 40), (.bin .rem (.t 39) (.c (.int .u32 100))), none, []⟩,
    ⟨(some 41), (.bin .mul (.t 40) (.c (.int .u32 2))), none, []⟩,
    ⟨(some 10), (.mov (.t 38)), none, []⟩,
    ⟨(some 11), (.mov (.t 41)), none, []⟩] none)
  (.seq R66_0
  (.seq R66_1
  (.seq R66_2
  (.seq R66_3
  (.region [⟨(some 94), (.mov (.t 4)), none, []⟩,
    ⟨(some 95), (.bin .sub (.t 94) (.c (.int .i64 8))), none, []⟩,
    ⟨(some 4), (.mov (.t 95)), none, []⟩] none))))))))))))
def B66 : ACode := (.seq (.region [⟨(some 17), (.mov (.t 0)), none, []⟩,
    ⟨(some 18), (.lenSlice (.t 17)), none, []⟩,
    ⟨(some 4), (.mov (.t 18)), none, []⟩] none)
  (.seq (.block 0 (.loop F66L0))
  (.seq (.region [⟨(some 96), (.mov (.t 1)), none, []⟩,
    ⟨(some 97), (.conv .u32 (.t 96)), none, []⟩,
    ⟨(some 12), (.mov (.t 97)), none, []⟩] none)
  (.seq (.seq (.region [⟨(some 98), (.mov (.t 4)), none, []⟩,
    ⟨(some 99), (.bin .geq (.t 98) (.c (.int .i64 4))), none, []⟩] none)
  (.cond (.t 99)
  (.seq (.region [⟨(some 100), (.mov (.t 12)), none, []⟩,
    ⟨(some 101), (.bin .rem (.t 100) (.c (.int .u32 10000))), none, []⟩,
    ⟨(some 13), (.mov (.t 101)), none, []⟩] none)
  (.seq (.region [⟨(some 102), (.mov (.t 12)), none, []⟩,
    ⟨(some 103), (.bin .quo (.t 102) (.c (.int .u32 10000))), none, []⟩,
    ⟨(some 12), (.mov (.t 103)), none, []⟩] none)
  (.seq (.region [⟨(some 104), (.mov (.t 13)), none, []⟩,
    ⟨(some 105), (.bin .quo (.t 104) (.c (.int .u32 100))), none, []⟩,
    ⟨(some 106), (.bin .mul (.t 105) (.c (.int .u32 2))), none, []⟩,
    ⟨(some 107), (.mov (.t 13)), none, []⟩,
    ⟨(some 108), (.bin .rem (.t 107) (.c (.int .u32 100))), none, []⟩,
    ⟨(some 109), (.bin .mul (.t 108) (.c (.int .u32 2))), none, []⟩,
    ⟨(some 14), (.mov (.t 106)), none, []⟩,
    ⟨(some 15), (.mov (.t 109)), none, []⟩] none)
  (.seq R66_4
  (.seq R66_5
  (.region [⟨(some 136), (.mov (.t 4)), none, []⟩,
    ⟨(some 137), (.bin .sub (.t 136) (.c (.int .i64 4))), none, []⟩,
    ⟨(some 4), (.mov (.t 137)), none, []⟩] none))))))
  .skip))
  (.seq (.seq (.region [⟨(some 138), (.mov (.t 4)), none, []⟩,
    ⟨(some 139), (.bin .geq (.t 138) (.c (.int .i64 2))), none, []⟩] none)
  (.cond (.t 139)
  (.seq (.region [⟨(some 140), (.mov (.t 12)), none, []⟩,
    ⟨(some 141), (.bin .rem (.t 140) (.c (.int .u32 100))), none, []⟩,
    ⟨(some 142), (.bin .mul (.t 141) (.c (.int .u32 2))), none, []⟩,
    ⟨(some 16), (.mov (.t 142)), none, []⟩] none)
  (.seq (.region [⟨(some 143), (.mov (.t 12)), none, []⟩,
    ⟨(some 144), (.bin .quo (.t 143) (.c (.int .u32 100))), none, []⟩,
    ⟨(some 12), (.mov (.t 144)), none, []⟩] none)
  (.seq R66_6
  (.region [⟨(some 158), (.mov (.t 4)), none, []⟩,
    ⟨(some 159), (.bin .sub (.t 158) (.c (.int .i64 2))), none, []⟩,
    ⟨(some 4), (.mov (.t 159)), none, []⟩] none))))
  .skip))
  (.seq (.region [⟨(some 160), (.mov (.t 4)), none, []⟩,
    ⟨(some 161), (.bin .gtr (.t 160) (.c (.int .i64 0))), none, []⟩] none)
  (.cond (.t 161)
  (.region [⟨(some 162), (.mov (.t 0)), none, []⟩,
    ⟨(some 163), (.mov (.t 12)), none, []⟩,
    ⟨(some 164), (.bin .add (.c (.int .u32 48)) (.t 163)), none, []⟩,
    ⟨(some 165), (.conv .u8 (.t 164)), none, []⟩,
    ⟨(some 166), (.indexAddr 1 (.t 162) (.c (.int .i64 0))), none, []⟩,
    ⟨none, (.store 1 (.t 166) (.t 165)), none, []⟩] none)
  .skip)))))))
def F66 : AFunc := ⟨2, 167, [], B66⟩
-- F66L0 live: [0, 1, 4]
/-- internal/strconv.formatBits -/
def F67L0 : ACode := (.seq (.seq (.region [⟨(some 44), (.mov (.t 1)), none, []⟩,
    ⟨(some 45), (.mov (.t 15)), none, []⟩,
    ⟨(some 46), (.bin .geq (.t 44) (.t 45)), none, []⟩] none)
  (.cond (.t 46)
  .skip
  (.exit 0)))
  (.block 1 (.seq (.region [⟨(some 47), (.mov (.t 13)), none, []⟩,
    ⟨(some 48), (.bin .sub (.t 47) (.c (.int .i64 1))), none, []⟩,
    ⟨(some 13), (.mov (.t 48)), none, []⟩] none)
  (.seq (.region [⟨(some 49), (.mov (.t 13)), none, []⟩,
    ⟨(some 50), (.mov (.t 1)), none, []⟩,
    ⟨(some 51), (.mov (.t 16)), none, []⟩,
    ⟨(some 52), (.bin .and (.t 50) (.t 51)), none, []⟩,
    ⟨(some 53), (.indexStr (.c (.string ⟨#[48, 49, 50, 51, 52, 53, 54, 55, 56, 57, 97, 98, 99, 100, 101, 102, 103, 104, 105, 106, 107, 108, 109, 110, 111, 112, 113, 114, 115, 116, 117, 118, 119, 120, 121, 122]⟩)) (.t 52)), none, []⟩,
    ⟨(some 54), (.indexArr 1 65 (.t 12) (.t 49)), none, []⟩,
    ⟨none, (.store 1 (.t 54) (.t 53)), none, []⟩] none)
  (.region [⟨(some 55), (.mov (.t 1)), none, []⟩,
    ⟨(some 56), (.mov (.t 14)), none, []⟩,
    ⟨(some 57), (.bin .shr (.t 55) (.t 56)), none, []⟩,
    ⟨(some 1), (.mov (.t 57)), none, []⟩] none)))))
def F67L1 : ACode := (.seq (.seq (.region [⟨(some 66), (.mov (.t 1)), none, []⟩,
    ⟨(some 67), (.mov (.t 17)), none, []⟩,
    ⟨(some 68), (.bin .geq (.t 66) (.t 67)), none, []⟩] none)
  (.cond (.t 68)
  .skip
  (.exit 2)))
  (.block 3 (.seq (.region [⟨(some 69), (.mov (.t 13)), none, []⟩,
    ⟨(some 70), (.bin .sub (.t 69) (.c (.int .i64 1))), none, []⟩,
    ⟨(some 13), (.mov (.t 70)), none, []⟩] none)
  (.seq (.region [⟨(some 71), (.mov (.t 1)), none, []⟩,
    ⟨(some 72), (.mov (.t 17)), none, []⟩,
    ⟨(some 73), (.bin .quo (.t 71) (.t 72)), none, []⟩,
    ⟨(some 18), (.mov (.t 73)), none, []⟩] none)
  (.seq (.region [⟨(some 74), (.mov (.t 13)), none, []⟩,
    ⟨(some 75), (.mov (.t 1)), none, []⟩,
    ⟨(some 76), (.mov (.t 18)), none, []⟩,
    ⟨(some 77), (.mov (.t 17)), none, []⟩,
    ⟨(some 78), (.bin .mul (.t 76) (.t 77)), none, []⟩,
    ⟨(some 79), (.bin .sub (.t 75) (.t 78)), none, []⟩,
    ⟨(some 80), (.indexStr (.c (.string ⟨#[48, 49, 50, 51, 52, 53, 54, 55, 56, 57, 97, 98, 99, 100, 101, 102, 103, 104, 105, 106, 107, 108, 109, 110, 111, 112, 113, 114, 115, 116, 117, 118, 119, 120, 121, 122]⟩)) (.t 79)), none, []⟩,
    ⟨(some 81), (.indexArr 1 65 (.t 12) (.t 74)), none, []⟩,
    ⟨none, (.store 1 (.t 81) (.t 80)), none, []⟩] none)
  (.region [⟨(some 82), (.mov (.t 18)), none, []⟩,
    ⟨(some 1), (.mov (.t 82)), none, []⟩] none))))))
def B67 : ACode := (.seq (.region [⟨(some 10), (.mov (.c (.slice none 0 0))), none, []⟩,
    ⟨(some 11), (.mov (.c (.string ⟨#[]⟩))), none, []⟩] none)
  (.seq (.seq (.region [⟨(some 19), (.mov (.t 2)), none, []⟩,
    ⟨(some 20), (.bin .lss (.t 19) (.c (.int .i64 2))), none, []⟩,
    ⟨(some 21), (.mov (.t 20)), none, []⟩,
    ⟨(some 22), (.mov (.t 2)), (some (21, false)), []⟩,
    ⟨(some 23), (.bin .eql (.t 22) (.c (.int .i64 10))), (some (21, false)), []⟩,
    ⟨(some 24), (.pick (.t 21) (.c (.bool true)) (.t 23)), none, []⟩,
    ⟨(some 25), (.mov (.t 24)), none, []⟩,
    ⟨(some 26), (.mov (.t 2)), (some (25, false)), []⟩,
    ⟨(some 27), (.bin .gtr (.t 26) (.c (.int .i64 36))), (some (25, false)), []⟩,
    ⟨(some 28), (.pick (.t 25) (.c (.bool true)) (.t 27)), none, []⟩] none)
  (.cond (.t 28)
  (.region [⟨(some 29), (.makeIface 9 (.c (.string ⟨#[115, 116, 114, 99, 111, 110, 118, 58, 32, 105, 108, 108, 101, 103, 97, 108, 32, 65, 112, 112, 101, 110, 100, 73, 110, 116, 47, 70, 111, 114, 109, 97, 116, 73, 110, 116, 32, 98, 97, 115, 101]⟩))), none, []⟩,
    ⟨none, .fail, none, []⟩] none)
  .skip))
  (.seq (.region [⟨(some 12), (.alloc 116 (List.replicate 65 (.int .u8 0))), none, []⟩] none)
  (.seq (.region [⟨(some 13), (.mov (.c (.int .i64 65))), none, []⟩] none)
  (.seq (.seq (.region [⟨(some 30), (.mov (.t 3)), none, []⟩] none)
  (.cond (.t 30)
  (.region [⟨(some 31), (.mov (.t 1)), none, []⟩,
    ⟨(some 32), (.un .neg (.t 31)), none, []⟩,
    ⟨(some 1), (.mov (.t 32)), none, []⟩] none)
  .skip))
  (.seq (.seq (.region [⟨(some 33), (.mov (.t 2)), none, []⟩,
    ⟨(some 34), (.call (.f 84) [(.t 33)]), none, []⟩] none)
  (.cond (.t 34)
  (.seq (.region [⟨(some 35), (.mov (.t 2)), none, []⟩,
    ⟨(some 36), (.conv .u64 (.t 35)), none, []⟩,
    ⟨(some 37), (.call (.f 85) [(.t 36)]), none, []⟩,
    ⟨(some 38), (.conv .u64 (.t 37)), none, []⟩,
    ⟨(some 14), (.mov (.t 38)), none, []⟩] none)
  (.seq (.region [⟨(some 39), (.mov (.t 2)), none, []⟩,
    ⟨(some 40), (.conv .u64 (.t 39)), none, []⟩,
    ⟨(some 15), (.mov (.t 40)), none, []⟩] none)
  (.seq (.region [⟨(some 41), (.mov (.t 2)), none, []⟩,
    ⟨(some 42), (.conv .u64 (.t 41)), none, []⟩,
    ⟨(some 43), (.bin .sub (.t 42) (.c (.int .u64 1))), none, []⟩,
    ⟨(some 16), (.mov (.t 43)), none, []⟩] none)
  (.seq (.block 0 (.loop F67L0))
  (.seq (.region [⟨(some 58), (.mov (.t 13)), none, []⟩,
    ⟨(some 59), (.bin .sub (.t 58) (.c (.int .i64 1))), none, []⟩,
    ⟨(some 13), (.mov (.t 59)), none, []⟩] none)
  (.region [⟨(some 60), (.mov (.t 13)), none, []⟩,
    ⟨(some 61), (.mov (.t 1)), none, []⟩,
    ⟨(some 62), (.indexStr (.c (.string ⟨#[48, 49, 50, 51, 52, 53, 54, 55, 56, 57, 97, 98, 99, 100, 101, 102, 103, 104, 105, 106, 107, 108, 109, 110, 111, 112, 113, 114, 115, 116, 117, 118, 119, 120, 121, 122]⟩)) (.t 61)), none, []⟩,
    ⟨(some 63), (.indexArr 1 65 (.t 12) (.t 60)), none, []⟩,
    ⟨none, (.store 1 (.t 63) (.t 62)), none, []⟩] none))))))
  (.seq (.region [⟨(some 64), (.mov (.t 2)), none, []⟩,
    ⟨(some 65), (.conv .u64 (.t 64)), none, []⟩,
    ⟨(some 17), (.mov (.t 65)), none, []⟩] none)
  (.seq (.block 2 (.loop F67L1))
  (.seq (.region [⟨(some 83), (.mov (.t 13)), none, []⟩,
    ⟨(some 84), (.bin .sub (.t 83) (.c (.int .i64 1))), none, []⟩,
    ⟨(some 13), (.mov (.t 84)), none, []⟩] none)
  (.region [⟨(some 85), (.mov (.t 13)), none, []⟩,
    ⟨(some 86), (.mov (.t 1)), none, []⟩,
    ⟨(some 87), (.indexStr (.c (.string ⟨#[48, 49, 50, 51, 52, 53, 54, 55, 56, 57, 97, 98, 99, 100, 101, 102, 103, 104, 105, 106, 107, 108, 109, 110, 111, 112, 113, 114, 115, 116, 117, 118, 119, 120, 121, 122]⟩)) (.t 86)), none, []⟩,
    ⟨(some 88), (.indexArr 1 65 (.t 12) (.t 85)), none, []⟩,
    ⟨none, (.store 1 (.t 88) (.t 87)), none, []⟩] none))))))
  (.seq (.seq (.region [⟨(some 89), (.mov (.t 3)), none, []⟩] none)
  (.cond (.t 89)
  (.seq (.region [⟨(some 90), (.mov (.t 13)), none, []⟩,
    ⟨(some 91), (.bin .sub (.t 90) (.c (.int .i64 1))), none, []⟩,
    ⟨(some 13), (.mov (.t 91)), none, []⟩] none)
  (.region [⟨(some 92), (.mov (.t 13)), none, []⟩,
    ⟨(some 93), (.indexArr 1 65 (.t 12) (.t 92)), none, []⟩,
    ⟨none, (.store 1 (.t 93) (.c (.int .u8 45))), none, []⟩] none))
  .skip))
  (.seq (.seq (.region [⟨(some 94), (.mov (.t 4)), none, []⟩] none)
  (.cond (.t 94)
  (.seq (.region [⟨(some 95), (.mov (.t 0)), none, []⟩,
    ⟨(some 96), (.mov (.t 13)), none, []⟩,
    ⟨(some 97), (.sliceArr 1 65 (.t 12) (some (.t 96)) none), none, []⟩,
    ⟨(some 98), (.append 5 1 1 (.t 95) (.t 97)), none, []⟩,
    ⟨(some 10), (.mov (.t 98)), none, []⟩] none)
  .ret)
  .skip))
  (.seq (.region [⟨(some 99), (.mov (.t 13)), none, []⟩,
    ⟨(some 100), (.sliceArr 1 65 (.t 12) (some (.t 99)) none), none, []⟩,
    ⟨(some 101), (.strOf (.t 100)), none, []⟩,
    ⟨(some 11), (.mov (.t 101)), none, []⟩] none)
  .ret)))))))))
def F67 : AFunc := ⟨5, 102, [(.tmp 10), (.tmp 11)], B67⟩
-- F67L0 live: [0, 1, 3, 4, 10, 11, 12, 13, 14, 15, 16]

-- F67L1 live: [0, 1, 3, 4, 10, 11, 12, 13, 17]
/-- unicode/utf8.decodeRuneInStringSlow -/
def B70 : ACode := (.seq (.region [⟨(some 2), (.mov (.c (.int .i32 0))), none, []⟩,
    ⟨(some 3), (.mov (.c (.int .i64 0))), none, []⟩] none)
  (.seq (.region [⟨(some 13), (.mov (.t 0)), none, []⟩,
    ⟨(some 14), (.lenStr (.t 13)), none, []⟩,
    ⟨(some 4), (.mov (.t 14)), none, []⟩] none)
  (.seq (.seq (.region [⟨(some 15), (.mov (.t 4)), none, []⟩,
    ⟨(some 16), (.bin .lss (.t 15) (.c (.int .i64 1))), none, []⟩] none)
  (.cond (.t 16)
  (.seq (.region [⟨(some 2), (.mov (.c (.int .i32 65533))), none, []⟩,
    ⟨(some 3), (.mov (.c (.int .i64 0))), none, []⟩] none)
  .ret)
  .skip))
  (.seq (.region [⟨(some 17), (.mov (.t 0)), none, []⟩,
    ⟨(some 18), (.indexStr (.t 17) (.c (.int .i64 0))), none, []⟩,
    ⟨(some 5), (.mov (.t 18)), none, []⟩] none)
  (.seq (.region [⟨(some 19), (.mov (.t 5)), none, []⟩,
    ⟨(some 20), (.indexArr 1 256 (.g 3) (.t 19)), none, []⟩,
    ⟨(some 21), (.load none (.t 20)), none, []⟩,
    ⟨(some 6), (.mov (.t 21)), none, []⟩] none)
  (.seq (.seq (.region [⟨(some 22), (.mov (.t 6)), none, []⟩,
    ⟨(some 23), (.bin .geq (.t 22) (.c (.int .u8 240))), none, []⟩] none)
  (.cond (.t 23)
  (.seq (.region [⟨(some 24), (.mov (.t 6)), none, []⟩,
    ⟨(some 25), (.conv .i32 (.t 24)), none, []⟩,
    ⟨(some 26), (.bin .shl (.t 25) (.c (.int .u64 31))), none, []⟩,
    ⟨(some 27), (.bin .shr (.t 26) (.c (.int .u64 31))), none, []⟩,
    ⟨(some 7), (.mov (.t 27)), none, []⟩] none)
  (.seq (.region [⟨(some 28), (.mov (.t 0)), none, []⟩,
    ⟨(some 29), (.indexStr (.t 28) (.c (.int .i64 0))), none, []⟩,
    ⟨(some 30), (.conv .i32 (.t 29)), none, []⟩,
    ⟨(some 31), (.mov (.t 7)), none, []⟩,
    ⟨(some 32), (.bin .andNot (.t 30) (.t 31)), none, []⟩,
    ⟨(some 33), (.mov (.t 7)), none, []⟩,
    ⟨(some 34), (.bin .and (.c (.int .i32 65533)) (.t 33)), none, []⟩,
    ⟨(some 35), (.bin .or (.t 32) (.t 34)), none, []⟩,
    ⟨(some 2), (.mov (.t 35)), none, []⟩,
    ⟨(some 3), (.mov (.c (.int .i64 1))), none, []⟩] none)
  .ret))
  .skip))
  (.seq (.region [⟨(some 36), (.mov (.t 6)), none, []⟩,
    ⟨(some 37), (.bin .and (.t 36) (.c (.int .u8 7))), none, []⟩,
    ⟨(some 38), (.conv .i64 (.t 37)), none, []⟩,
    ⟨(some 8), (.mov (.t 38)), none, []⟩] none)
  (.seq (.region [⟨(some 39), (.mov (.t 6)), none, []⟩,
    ⟨(some 40), (.bin .shr (.t 39) (.c (.int .u64 4))), none, []⟩,
    ⟨(some 41), (.indexArr 2 16 (.g 4) (.t 40)), none, []⟩,
    ⟨(some 42), (.load (some 2) (.t 41)), none, []⟩,
    ⟨(some 9), (.alloc 120 [(.int .u8 0), (.int .u8 0)]), none, []⟩,
    ⟨none, (.store 2 (.t 9) (.t 42)), none, []⟩] none)
  (.seq (.seq (.region [⟨(some 43), (.mov (.t 4)), none, []⟩,
    ⟨(some 44), (.mov (.t 8)), none, []⟩,
    ⟨(some 45), (.bin .lss (.t 43) (.t 44)), none, []⟩] none)
  (.cond (.t 45)
  (.seq (.region [⟨(some 2), (.mov (.c (.int .i32 65533))), none, []⟩,
    ⟨(some 3), (.mov (.c (.int .i64 1))), none, []⟩] none)
  .ret)
  .skip))
  (.seq (.region [⟨(some 46), (.mov (.t 0)), none, []⟩,
    ⟨(some 47), (.indexStr (.t 46) (.c (.int .i64 1))), none, []⟩,
    ⟨(some 10), (.mov (.t 47)), none, []⟩] none)
  (.seq (.seq (.region [⟨(some 48), (.mov (.t 10)), none, []⟩,
    ⟨(some 49), (.fieldAddr 0 (.t 9)), none, []⟩,
    ⟨(some 50), (.load none (.t 49)), none, []⟩,
    ⟨(some 51), (.bin .lss (.t 48) (.t 50)), none, []⟩,
    ⟨(some 52), (.mov (.t 51)), none, []⟩,
    ⟨(some 53), (.fieldAddr 1 (.t 9)), (some (52, false)), []⟩,
    ⟨(some 54), (.load none (.t 53)), (some (52, false)), []⟩,
    ⟨(some 55), (.mov (.t 10)), (some (52, false)), []⟩,
    ⟨(some 56), (.bin .lss (.t 54) (.t 55)), (some (52, false)), []⟩,
    ⟨(some 57), (.pick (.t 52) (.c (.bool true)) (.t 56)), none, []⟩] none)
  (.cond (.t 57)
  (.seq (.region [⟨(some 2), (.mov (.c (.int .i32 65533))), none, []⟩,
    ⟨(some 3), (.mov (.c (.int .i64 1))), none, []⟩] none)
  .ret)
  .skip))
  (.seq (.seq (.region [⟨(some 58), (.mov (.t 8)), none, []⟩,
    ⟨(some 59), (.bin .leq (.t 58) (.c (.int .i64 2))), none, []⟩] none)
  (.cond (.t 59)
  (.seq (.region [⟨(some 60), (.mov (.t 5)), none, []⟩,
    ⟨(some 61), (.bin .and (.t 60) (.c (.int .u8 31))), none, []⟩,
    ⟨(some 62), (.conv .i32 (.t 61)), none, []⟩,
    ⟨(some 63), (.bin .shl (.t 62) (.c (.int .u64 6))), none, []⟩,
    ⟨(some 64), (.mov (.t 10)), none, []⟩,
    ⟨(some 65), (.bin .and (.t 64) (.c (.int .u8 63))), none, []⟩,
    ⟨(some 66), (.conv .i32 (.t 65)), none, []⟩,
    ⟨(some 67), (.bin .or (.t 63) (.t 66)), none, []⟩,
    ⟨(some 2), (.mov (.t 67)), none, []⟩,
    ⟨(some 3), (.mov (.c (.int .i64 2))), none, []⟩] none)
  .ret)
  .skip))
  (.seq (.region [⟨(some 68), (.mov (.t 0)), none, []⟩,
    ⟨(some 69), (.indexStr (.t 68) (.c (.int .i64 2))), none, []⟩,
    ⟨(some 11), (.mov (.t 69)), none, []⟩] none)
  (.seq (.seq (.region [⟨(some 70), (.mov (.t 11)), none, []⟩,
    ⟨(some 71), (.bin .lss (.t 70) (.c (.int .u8 128))), none, []⟩,
    ⟨(some 72), (.mov (.t 71)), none, []⟩,
    ⟨(some 73), (.mov (.t 11)), (some (72, false)), []⟩,
    ⟨(some 74), (.bin .lss (.c (.int .u8 191)) (.t 73)), (some (72, false)), []⟩,
    ⟨(some 75), (.pick (.t 72) (.c (.bool true)) (.t 74)), none, []⟩] none)
  (.cond (.t 75)
  (.seq (.region [⟨(some 2), (.mov (.c (.int .i32 65533))), none, []⟩,
    ⟨(some 3), (.mov (.c (.int .i64 1))), none, []⟩] none)
  .ret)
  .skip))
  (.seq (.seq (.region [⟨(some 76), (.mov (.t 8)), none, []⟩,
    ⟨(some 77), (.bin .leq (.t 76) (.c (.int .i64 3))), none, []⟩] none)
  (.cond (.t 77)
  (.seq (.region [⟨(some 78), (.mov (.t 5)), none, []⟩,
    ⟨(some 79), (.bin .and (.t 78) (.c (.int .u8 15))), none, []⟩,
    ⟨(some 80), (.conv .i32 (.t 79)), none, []⟩,
    ⟨(some 81), (.bin .shl (.t 80) (.c (.int .u64 12))), none, []⟩,
    ⟨(some 82), (.mov (.t 10)), none, []⟩,
    ⟨(some 83), (.bin .and (.t 82) (.c (.int .u8 63))), none, []⟩,
    ⟨(some 84), (.conv .i32 (.t 83)), none, []⟩,
    ⟨(some 85), (.bin .shl (.t 84) (.c (.int .u64 6))), none, []⟩,
    ⟨(some 86), (.bin .or (.t 81) (.t 85)), none, []⟩,
    ⟨(some 87), (.mov (.t 11)), none, []⟩,
    ⟨(some 88), (.bin .and (.t 87) (.c (.int .u8 63))), none, []⟩,
    ⟨(some 89), (.conv .i32 (.t 88)), none, []⟩,
    ⟨(some 90), (.bin .or (.t 86) (.t 89)), none, []⟩,
    ⟨(some 2), (.mov (.t 90)), none, []⟩,
    ⟨(some 3), (.mov (.c (.int .i64 3))), none, []⟩] none)
  .ret)
  .skip))
  (.seq (.region [⟨(some 91), (.mov (.t 0)), none, []⟩,
    ⟨(some 92), (.indexStr (.t 91) (.c (.int .i64 3))), none, []⟩,
    ⟨(some 12), (.mov (.t 92)), none, []⟩] none)
  (.seq (.seq (.region [⟨(some 93), (.mov (.t 12)), none, []⟩,
    ⟨(some 94), (.bin .lss (.t 93) (.c (.int .u8 128))), none, []⟩,
    ⟨(some 95), (.mov (.t 94)), none, []⟩,
    ⟨(some 96), (.mov (.t 12)), (some (95, false)), []⟩,
    ⟨(some 97), (.bin .lss (.c (.int .u8 191)) (.t 96)), (some (95, false)), []⟩,
    ⟨(some 98), (.pick (.t 95) (.c (.bool true)) (.t 97)), none, []⟩] none)
  (.cond (.t 98)
  (.seq (.region [⟨(some 2), (.mov (.c (.int .i32 65533))), none, []⟩,
    ⟨(some 3), (.mov (.c (.int .i64 1))), none, []⟩] none)
  .ret)
  .skip))
  (.seq (.region [⟨(some 99), (.mov (.t 5)), none, []⟩,
    ⟨(some 100), (.bin .and (.t 99) (.c (.int .u8 7))), none, []⟩,
    ⟨(some 101), (.conv .i32 (.t 100)), none, []⟩,
    ⟨(some 102), (.bin .shl (.t 101) (.c (.int .u64 18))), none, []⟩,
    ⟨(some 103), (.mov (.t 10)), none, []⟩,
    ⟨(some 104), (.bin .and (.t 103) (.c (.int .u8 63))), none, []⟩,
    ⟨(some 105), (.conv .i32 (.t 104)), none, []⟩,
    ⟨(some 106), (.bin .shl (.t 105) (.c (.int .u64 12))), none, []⟩,
    ⟨(some 107), (.bin .or (.t 102) (.t 106)), none, []⟩,
    ⟨(some 108), (.mov (.t 11)), none, []⟩,
    ⟨(some 109), (.bin .and (.t 108) (.c (.int .u8 63))), none, []⟩,
    ⟨(some 110), (.conv .i32 (.t 109)), none, []⟩,
    ⟨(some 111), (.bin .shl (.t 110) (.c (.int .u64 6))), none, []⟩,
    ⟨(some 112), (.bin .or (.t 107) (.t 111)), none, []⟩,
    ⟨(some 113), (.mov (.t 12)), none, []⟩,
    ⟨(some 114), (.bin .and (.t 113) (.c (.int .u8 63))), none, []⟩,
    ⟨(some 115), (.conv .i32 (.t 114)), none, []⟩,
    ⟨(some 116), (.bin .or (.t 112) (.t 115)), none, []⟩,
    ⟨(some 2), (.mov (.t 116)), none, []⟩,
    ⟨(some 3), (.mov (.c (.int .i64 4))), none, []⟩] none)
  .ret))))))))))))))))))
def F70 : AFunc := ⟨1, 117, [(.tmp 2), (.tmp 3)], B70⟩
/-- internal/stringslite.IndexByte -/
def B71 : ACode := (.seq (.region [⟨(some 4), (.mov (.c (.int .i64 0))), none, []⟩] none)
  (.seq (.region [⟨(some 5), (.mov (.t 0)), none, []⟩,
    ⟨(some 6), (.mov (.t 1)), none, []⟩,
    ⟨(some 7), (.call (.f 86) [(.t 5), (.t 6)]), none, []⟩,
    ⟨(some 4), (.mov (.t 7)), none, []⟩] none)
  .ret))
def F71 : AFunc := ⟨2, 8, [(.tmp 4)], B71⟩
/-- internal/bytealg.Cutover -/
def B73 : ACode := (.seq (.region [⟨(some 2), (.mov (.c (.int .i64 0))), none, []⟩] none)
  (.seq (.region [⟨(some 3), (.mov (.t 0)), none, []⟩,
    ⟨(some 4), (.bin .add (.t 3) (.c (.int .i64 16))), none, []⟩,
    ⟨(some 5), (.bin .quo (.t 4) (.c (.int .i64 8))), none, []⟩,
    ⟨(some 2), (.mov (.t 5)), none, []⟩] none)
  .ret))
def F73 : AFunc := ⟨1, 6, [(.tmp 2)], B73⟩
/-- internal/bytealg.IndexRabinKarp[string] -/
def F74L0 : ACode := (.seq (.seq (.region [⟨(some 18), (.mov (.t 9)), none, []⟩,
    ⟨(some 19), (.mov (.t 7)), none, []⟩,
    ⟨(some 20), (.bin .lss (.t 18) (.t 19)), none, []⟩] none)
  (.cond (.t 20)
  .skip
  (.exit 0)))
  (.seq (.block 1 (.region [⟨(some 23), (.mov (.t 8)), none, []⟩,
    ⟨(some 24), (.bin .mul (.t 23) (.c (.int .u32 16777619))), none, []⟩,
    ⟨(some 25), (.mov (.t 0)), none, []⟩,
    ⟨(some 26), (.mov (.t 9)), none, []⟩,
    ⟨(some 27), (.indexStr (.t 25) (.t 26)), none, []⟩,
    ⟨(some 28), (.conv .u32 (.t 27)), none, []⟩,
    ⟨(some 29), (.bin .add (.t 24) (.t 28)), none, []⟩,
    ⟨(some 8), (.mov (.t 29)), none, []⟩] none))
  (.region [⟨(some 21), (.mov (.t 9)), none, []⟩,
    ⟨(some 22), (.bin .add (.t 21) (.c (.int .i64 1))), none, []⟩,
    ⟨(some 9), (.mov (.t 22)), none, []⟩] none)))
def F74L1 : ACode := (.seq (.seq (.region [⟨(some 41), (.mov (.t 10)), none, []⟩,
    ⟨(some 42), (.mov (.t 0)), none, []⟩,
    ⟨(some 43), (.lenStr (.t 42)), none, []⟩,
    ⟨(some 44), (.bin .lss (.t 41) (.t 43)), none, []⟩] none)
  (.cond (.t 44)
  .skip
  (.exit 2)))
  (.block 3 (.seq (.region [⟨(some 45), (.mov (.t 8)), none, []⟩,
    ⟨(some 46), (.bin .mul (.t 45) (.c (.int .u32 16777619))), none, []⟩,
    ⟨(some 8), (.mov (.t 46)), none, []⟩] none)
  (.seq (.region [⟨(some 47), (.mov (.t 8)), none, []⟩,
    ⟨(some 48), (.mov (.t 0)), none, []⟩,
    ⟨(some 49), (.mov (.t 10)), none, []⟩,
    ⟨(some 50), (.indexStr (.t 48) (.t 49)), none, []⟩,
    ⟨(some 51), (.conv .u32 (.t 50)), none, []⟩,
    ⟨(some 52), (.bin .add (.t 47) (.t 51)), none, []⟩,
    ⟨(some 8), (.mov (.t 52)), none, []⟩] none)
  (.seq (.region [⟨(some 53), (.mov (.t 8)), none, []⟩,
    ⟨(some 54), (.mov (.t 6)), none, []⟩,
    ⟨(some 55), (.mov (.t 0)), none, []⟩,
    ⟨(some 56), (.mov (.t 10)), none, []⟩,
    ⟨(some 57), (.mov (.t 7)), none, []⟩,
    ⟨(some 58), (.bin .sub (.t 56) (.t 57)), none, []⟩,
    ⟨(some 59), (.indexStr (.t 55) (.t 58)), none, []⟩,
    ⟨(some 60), (.conv .u32 (.t 59)), none, []⟩,
    ⟨(some 61), (.bin .mul (.t 54) (.t 60)), none, []⟩,
    ⟨(some 62), (.bin .sub (.t 53) (.t 61)), none, []⟩,
    ⟨(some 8), (.mov (.t 62)), none, []⟩] none)
  (.seq (.region [⟨(some 63), (.mov (.t 10)), none, []⟩,
    ⟨(some 64), (.bin .add (.t 63) (.c (.int .i64 1))), none, []⟩,
    ⟨(some 10), (.mov (.t 64)), none, []⟩] none)
  (.seq (.region [⟨(some 65), (.mov (.t 8)), none, []⟩,
    ⟨(some 66), (.mov (.t 5)), none, []⟩,
    ⟨(some 67), (.bin .eql (.t 65) (.t 66)), none, []⟩,
    ⟨(some 68), (.mov (.t 67)), none, []⟩,
    ⟨(some 69), (.mov (.t 0)), (some (68, true)), []⟩,
    ⟨(some 70), (.mov (.t 10)), (some (68, true)), []⟩,
    ⟨(some 71), (.mov (.t 7)), (some (68, true)), []⟩,
    ⟨(some 72), (.bin .sub (.t 70) (.t 71)), (some (68, true)), []⟩,
    ⟨(some 73), (.mov (.t 10)), (some (68, true)), []⟩,
    ⟨(some 74), (.sliceStr (.t 69) (some (.t 72)) (some (.t 73))), (some (68, true)), []⟩,
    ⟨(some 75), (.mov (.t 1)), (some (68, true)), []⟩,
    ⟨(some 76), (.bin .eql (.t 74) (.t 75)), (some (68, true)), []⟩,
    ⟨(some 77), (.pick (.t 68) (.t 76) (.c (.bool false))), none, []⟩] none)
  (.cond (.t 77)
  (.seq (.region [⟨(some 78), (.mov (.t 10)), none, []⟩,
    ⟨(some 79), (.mov (.t 7)), none, []⟩,
    ⟨(some 80), (.bin .sub (.t 78) (.t 79)), none, []⟩,
    ⟨(some 4), (.mov (.t 80)), none, []⟩] none)
  .ret)
  .skip))))))))
def B74 : ACode := (.seq (.region [⟨(some 4), (.mov (.c (.int .i64 0))), none, []⟩] none)
  (.seq (.region [⟨(some 12), (.mov (.t 1)), none, []⟩,
    ⟨(some 13), (.call (.f 87) [(.t 12)]), none, []⟩,
    ⟨(some 11), (.mov (.t 13)), none, []⟩,
    ⟨(some 14), (.extract (.t 11) 0), none, []⟩,
    ⟨(some 15), (.extract (.t 11) 1), none, []⟩,
    ⟨(some 5), (.mov (.t 14)), none, []⟩,
    ⟨(some 6), (.mov (.t 15)), none, []⟩] none)
  (.seq (.region [⟨(some 16), (.mov (.t 1)), none, []⟩,
    ⟨(some 17), (.lenStr (.t 16)), none, []⟩,
    ⟨(some 7), (.mov (.t 17)), none, []⟩] none)
  (.seq (.region [⟨(some 8), (.mov (.c (.int .u32 0))), none, []⟩] none)
  (.seq (.seq (.region [⟨(some 9), (.mov (.c (.int .i64 0))), none, []⟩] none)
  (.block 0 (.loop F74L0)))
  (.seq (.seq (.region [⟨(some 30), (.mov (.t 8)), none, []⟩,
    ⟨(some 31), (.mov (.t 5)), none, []⟩,
    ⟨(some 32), (.bin .eql (.t 30) (.t 31)), none, []⟩,
    ⟨(some 33), (.mov (.t 32)), none, []⟩,
    ⟨(some 34), (.mov (.t 0)), (some (33, true)), []⟩,
    ⟨(some 35), (.mov (.t 7)), (some (33, true)), []⟩,
    ⟨(some 36), (.sliceStr (.t 34) none (some (.t 35))), (some (33, true)), []⟩,
    ⟨(some 37), (.mov (.t 1)), (some (33, true)), []⟩,
    ⟨(some 38), (.bin .eql (.t 36) (.t 37)), (some (33, true)), []⟩,
    ⟨(some 39), (.pick (.t 33) (.t 38) (.c (.bool false))), none, []⟩] none)
  (.cond (.t 39)
  (.seq (.region [⟨(some 4), (.mov (.c (.int .i64 0))), none, []⟩] none)
  .ret)
  .skip))
  (.seq (.seq (.region [⟨(some 40), (.mov (.t 7)), none, []⟩,
    ⟨(some 10), (.mov (.t 40)), none, []⟩] none)
  (.block 2 (.loop F74L1)))
  (.seq (.region [⟨(some 4), (.mov (.c (.int .i64 (-1)))), none, []⟩] none)
  .ret))))))))
def F74 : AFunc := ⟨2, 81, [(.tmp 4)], B74⟩
-- F74L0 live: [0, 1, 5, 6, 7, 8, 9]

-- F74L1 live: [0, 1, 5, 6, 7, 8, 10]
/-- internal/strconv.lower -/
def B75 : ACode := (.seq (.region [⟨(some 2), (.mov (.c (.int .u8 0))), none, []⟩] none)
  (.seq (.region [⟨(some 3), (.mov (.t 0)), none, []⟩,
    ⟨(some 4), (.bin .or (.t 3) (.c (.int .u8 32))), none, []⟩,
    ⟨(some 2), (.mov (.t 4)), none, []⟩] none)
  .ret))
def F75 : AFunc := ⟨1, 5, [(.tmp 2)], B75⟩
/-- internal/strconv.underscoreOK -/
def F76L0 : ACode := (.seq (.seq (.region [⟨(some 51), (.mov (.t 4)), none, []⟩,
    ⟨(some 52), (.mov (.t 0)), none, []⟩,
    ⟨(some 53), (.lenStr (.t 52)), none, []⟩,
    ⟨(some 54), (.bin .lss (.t 51) (.t 53)), none, []⟩] none)
  (.cond (.t 54)
  .skip
  (.exit 0)))
  (.seq (.block 1 (.seq (.seq (.region [⟨(some 57), (.mov (.t 0)), none, []⟩,
    ⟨(some 58), (.mov (.t 4)), none, []⟩,
    ⟨(some 59), (.indexStr (.t 57) (.t 58)), none, []⟩,
    ⟨(some 60), (.bin .leq (.c (.int .u8 48)) (.t 59)), none, []⟩,
    ⟨(some 61), (.mov (.t 60)), none, []⟩,
    ⟨(some 62), (.mov (.t 0)), (some (61, true)), []⟩,
    ⟨(some 63), (.mov (.t 4)), (some (61, true)), []⟩,
    ⟨(some 64), (.indexStr (.t 62) (.t 63)), (some (61, true)), []⟩,
    ⟨(some 65), (.bin .leq (.t 64) (.c (.int .u8 57))), (some (61, true)), []⟩,
    ⟨(some 66), (.pick (.t 61) (.t 65) (.c (.bool false))), none, []⟩,
    ⟨(some 67), (.mov (.t 66)), none, []⟩,
    ⟨(some 68), (.mov (.t 5)), (some (67, false)), []⟩,
    ⟨(some 69), (.mov (.t 68)), (some (67, false)), []⟩,
    ⟨(some 70), (.mov (.t 0)), (some (69, true)), []⟩,
    ⟨(some 71), (.mov (.t 4)), (some (69, true)), []⟩,
    ⟨(some 72), (.indexStr (.t 70) (.t 71)), (some (69, true)), []⟩,
    ⟨(some 73), (.call (.f 75) [(.t 72)]), (some (69, true)), []⟩,
    ⟨(some 74), (.bin .leq (.c (.int .u8 97)) (.t 73)), (some (69, true)), []⟩,
    ⟨(some 75), (.pick (.t 69) (.t 74) (.c (.bool false))), (some (67, false)), []⟩,
    ⟨(some 76), (.mov (.t 75)), (some (67, false)), []⟩,
    ⟨(some 77), (.mov (.t 0)), (some (76, true)), []⟩,
    ⟨(some 78), (.mov (.t 4)), (some (76, true)), []⟩,
    ⟨(some 79), (.indexStr (.t 77) (.t 78)), (some (76, true)), []⟩,
    ⟨(some 80), (.call (.f 75) [(.t 79)]), (some (76, true)), []⟩,
    ⟨(some 81), (.bin .leq (.t 80) (.c (.int .u8 102))), (some (76, true)), []⟩,
    ⟨(some 82), (.pick (.t 76) (.t 81) (.c (.bool false))), (some (67, false)), []⟩,
    ⟨(some 83), (.pick (.t 67) (.c (.bool true)) (.t 82)), none, []⟩] none)
  (.cond (.t 83)
  (.seq (.region [⟨(some 3), (.mov (.c (.int .i32 48))), none, []⟩] none)
  (.exit 1))
  .skip))
  (.seq (.seq (.region [⟨(some 84), (.mov (.t 0)), none, []⟩,
    ⟨(some 85), (.mov (.t 4)), none, []⟩,
    ⟨(some 86), (.indexStr (.t 84) (.t 85)), none, []⟩,
    ⟨(some 87), (.bin .eql (.t 86) (.c (.int .u8 95))), none, []⟩] none)
  (.cond (.t 87)
  (.seq (.seq (.region [⟨(some 88), (.mov (.t 3)), none, []⟩,
    ⟨(some 89), (.bin .neq (.t 88) (.c (.int .i32 48))), none, []⟩] none)
  (.cond (.t 89)
  (.seq (.region [⟨(some 2), (.mov (.c (.bool false))), none, []⟩] none)
  .ret)
  .skip))
  (.seq (.region [⟨(some 3), (.mov (.c (.int .i32 95))), none, []⟩] none)
  (.exit 1)))
  .skip))
  (.seq (.seq (.region [⟨(some 90), (.mov (.t 3)), none, []⟩,
    ⟨(some 91), (.bin .eql (.t 90) (.c (.int .i32 95))), none, []⟩] none)
  (.cond (.t 91)
  (.seq (.region [⟨(some 2), (.mov (.c (.bool false))), none, []⟩] none)
  .ret)
  .skip))
  (.region [⟨(some 3), (.mov (.c (.int .i32 33))), none, []⟩] none)))))
  (.region [⟨(some 55), (.mov (.t 4)), none, []⟩,
    ⟨(some 56), (.bin .add (.t 55) (.c (.int .i64 1))), none, []⟩,
    ⟨(some 4), (.mov (.t 56)), none, []⟩] none)))
def B76 : ACode := (.seq (.region [⟨(some 2), (.mov (.c (.bool false))), none, []⟩] none)
  (.seq (.region [⟨(some 3), (.mov (.c (.int .i32 94))), none, []⟩] none)
  (.seq (.region [⟨(some 4), (.mov (.c (.int .i64 0))), none, []⟩] none)
  (.seq (.seq (.region [⟨(some 6), (.mov (.t 0)), none, []⟩,
    ⟨(some 7), (.lenStr (.t 6)), none, []⟩,
    ⟨(some 8), (.bin .geq (.t 7) (.c (.int .i64 1))), none, []⟩,
    ⟨(some 9), (.mov (.t 8)), none, []⟩,
    ⟨(some 10), (.mov (.t 0)), (some (9, true)), []⟩,
    ⟨(some 11), (.indexStr (.t 10) (.c (.int .i64 0))), (some (9, true)), []⟩,
    ⟨(some 12), (.bin .eql (.t 11) (.c (.int .u8 45))), (some (9, true)), []⟩,
    ⟨(some 13), (.mov (.t 12)), (some (9, true)), []⟩,
    ⟨(some 14), (.mov (.t 0)), (some (13, false)), []⟩,
    ⟨(some 15), (.indexStr (.t 14) (.c (.int .i64 0))), (some (13, false)), []⟩,
    ⟨(some 16), (.bin .eql (.t 15) (.c (.int .u8 43))), (some (13, false)), []⟩,
    ⟨(some 17), (.pick (.t 13) (.c (.bool true)) (.t 16)), (some (9, true)), []⟩,
    ⟨(some 18), (.pick (.t 9) (.t 17) (.c (.bool false))), none, []⟩] none)
  (.cond (.t 18)
  (.region [⟨(some 19), (.mov (.t 0)), none, []⟩,
    ⟨(some 20), (.sliceStr (.t 19) (some (.c (.int .i64 1))) none), none, []⟩,
    ⟨(some 0), (.mov (.t 20)), none, []⟩] none)
  .skip))
  (.seq (.region [⟨(some 5), (.mov (.c (.bool false))), none, []⟩] none)
  (.seq (.seq (.region [⟨(some 21), (.mov (.t 0)), none, []⟩,
    ⟨(some 22), (.lenStr (.t 21)), none, []⟩,
    ⟨(some 23), (.bin .geq (.t 22) (.c (.int .i64 2))), none, []⟩,
    ⟨(some 24), (.mov (.t 23)), none, []⟩,
    ⟨(some 25), (.mov (.t 0)), (some (24, true)), []⟩,
    ⟨(some 26), (.indexStr (.t 25) (.c (.int .i64 0))), (some (24, true)), []⟩,
    ⟨(some 27), (.bin .eql (.t 26) (.c (.int .u8 48))), (some (24, true)), []⟩,
    ⟨(some 28), (.pick (.t 24) (.t 27) (.c (.bool false))), none, []⟩,
    ⟨(some 29), (.mov (.t 28)), none, []⟩,
    ⟨(some 30), (.mov (.t 0)), (some (29, true)), []⟩,
    ⟨(some 31), (.indexStr (.t 30) (.c (.int .i64 1))), (some (29, true)), []⟩,
    ⟨(some 32), (.call (.f 75) [(.t 31)]), (some (29, true)), []⟩,
    ⟨(some 33), (.bin .eql (.t 32) (.c (.int .u8 98))), (some (29, true)), []⟩,
    ⟨(some 34), (.mov (.t 33)), (some (29, true)), []⟩,
    ⟨(some 35), (.mov (.t 0)), (some (34, false)), []⟩,
    ⟨(some 36), (.indexStr (.t 35) (.c (.int .i64 1))), (some (34, false)), []⟩,
    ⟨(some 37), (.call (.f 75) [(.t 36)]), (some (34, false)), []⟩,
    ⟨(some 38), (.bin .eql (.t 37) (.c (.int .u8 111))), (some (34, false)), []⟩,
    ⟨(some 39), (.pick (.t 34) (.c (.bool true)) (.t 38)), (some (29, true)), []⟩,
    ⟨(some 40), (.mov (.t 39)), (some (29, true)), []⟩,
    ⟨(some 41), (.mov (.t 0)), (some (40, false)), []⟩,
    ⟨(some 42), (.indexStr (.t 41) (.c (.int .i64 1))), (some (40, false)), []⟩,
    ⟨(some 43), (.call (.f 75) [(.t 42)]), (some (40, false)), []⟩,
    ⟨(some 44), (.bin .eql (.t 43) (.c (.int .u8 120))), (some (40, false)), []⟩,
    ⟨(some 45), (.pick (.t 40) (.c (.bool true)) (.t 44)), (some (29, true)), []⟩,
    ⟨(some 46), (.pick (.t 29) (.t 45) (.c (.bool false))), none, []⟩] none)
  (.cond (.t 46)
  (.seq (.region [⟨(some 4), (.mov (.c (.int .i64 2))), none, []⟩] none)
  (.seq (.region [⟨(some 3), (.mov (.c (.int .i32 48))), none, []⟩] none)
  (.region [⟨(some 47), (.mov (.t 0)), none, []⟩,
    ⟨(some 48), (.indexStr (.t 47) (.c (.int .i64 1))), none, []⟩,
    ⟨(some 49), (.call (.f 75) [(.t 48)]), none, []⟩,
    ⟨(some 50), (.bin .eql (.t 49) (.c (.int .u8 120))), none, []⟩,
    ⟨(some 5), (.mov (.t 50)), none, []⟩] none)))
  .skip))
  (.seq (.block 0 (.loop F76L0))
  (.seq (.region [⟨(some 92), (.mov (.t 3)), none, []⟩,
    ⟨(some 93), (.bin .neq (.t 92) (.c (.int .i32 95))), none, []⟩,
    ⟨(some 2), (.mov (.t 93)), none, []⟩] none)
  .ret))))))))
def F76 : AFunc := ⟨1, 94, [(.tmp 2)], B76⟩
-- F76L0 live: [0, 3, 4, 5]
def R77_0 : ACode := .region [⟨(some 5), (.mov (.t 0)), none, []⟩,
    ⟨(some 6), (.mov (.t 1)), none, []⟩,
    ⟨(some 7), (.call (.f 88) [(.t 6)]), none, [1]⟩,
    ⟨(some 8), (.load none (.g 5)), none, []⟩,
    ⟨(some 9), (.build [(.string ⟨#[]⟩), (.string ⟨#[]⟩), .nilIface] [(0, 1, (.t 5)), (1, 1, (.t 7)), (2, 1, (.t 8))]), none, [0, 2, 3]⟩,
    ⟨(some 10), (.box 126 (.t 9)), none, [4]⟩,
    ⟨(some 4), (.mov (.t 10)), none, [5, 2, 0, 1, 2, 3, 4, 5]⟩] (some [(0, 1), (0, 2), (0, 3), (1, 3), (2, 3)])
/-- strconv.syntaxError -/
def B77 : ACode := (.seq (.region [⟨(some 4), (.mov (.c (.pointer none))), none, []⟩] none)
  (.seq R77_0
  .ret))
def F77 : AFunc := ⟨2, 11, [(.tmp 4)], B77⟩
def R78_0 : ACode := .region [⟨(some 5), (.mov (.t 0)), none, []⟩,
    ⟨(some 6), (.mov (.t 1)), none, []⟩,
    ⟨(some 7), (.call (.f 88) [(.t 6)]), none, [1]⟩,
    ⟨(some 8), (.load none (.g 6)), none, []⟩,
    ⟨(some 9), (.build [(.string ⟨#[]⟩), (.string ⟨#[]⟩), .nilIface] [(0, 1, (.t 5)), (1, 1, (.t 7)), (2, 1, (.t 8))]), none, [0, 2, 3]⟩,
    ⟨(some 10), (.box 126 (.t 9)), none, [4]⟩,
    ⟨(some 4), (.mov (.t 10)), none, [5, 2, 0, 1, 2, 3, 4, 5]⟩] (some [(0, 1), (0, 2), (0, 3), (1, 3), (2, 3)])
/-- strconv.rangeError -/
def B78 : ACode := (.seq (.region [⟨(some 4), (.mov (.c (.pointer none))), none, []⟩] none)
  (.seq R78_0
  .ret))
def F78 : AFunc := ⟨2, 11, [(.tmp 4)], B78⟩
/-- strconv.baseError -/
def B79 : ACode := (.seq (.region [⟨(some 6), (.mov (.c (.pointer none))), none, []⟩] none)
  (.seq (.region [⟨(some 7), (.mov (.t 0)), none, []⟩,
    ⟨(some 8), (.mov (.t 1)), none, []⟩,
    ⟨(some 9), (.call (.f 88) [(.t 8)]), none, []⟩,
    ⟨(some 10), (.mov (.t 2)), none, []⟩,
    ⟨(some 11), (.call (.f 27) [(.t 10)]), none, []⟩,
    ⟨(some 12), (.bin .add (.c (.string ⟨#[105, 110, 118, 97, 108, 105, 100, 32, 98, 97, 115, 101, 32]⟩)) (.t 11)), none, []⟩,
    ⟨(some 13), (.call (.f 89) [(.t 12)]), none, []⟩,
    ⟨(some 14), (.build [(.string ⟨#[]⟩), (.string ⟨#[]⟩), .nilIface] [(0, 1, (.t 7)), (1, 1, (.t 9)), (2, 1, (.t 13))]), none, []⟩,
    ⟨(some 15), (.box 126 (.t 14)), none, []⟩,
    ⟨(some 6), (.mov (.t 15)), none, []⟩] none)
  .ret))
def F79 : AFunc := ⟨3, 16, [(.tmp 6)], B79⟩
/-- strconv.bitSizeError -/
def B80 : ACode := (.seq (.region [⟨(some 6), (.mov (.c (.pointer none))), none, []⟩] none)
  (.seq (.region [⟨(some 7), (.mov (.t 0)), none, []⟩,
    ⟨(some 8), (.mov (.t 1)), none, []⟩,
    ⟨(some 9), (.call (.f 88) [(.t 8)]), none, []⟩,
    ⟨(some 10), (.mov (.t 2)), none, []⟩,
    ⟨(some 11), (.call (.f 27) [(.t 10)]), none, []⟩,
    ⟨(some 12), (.bin .add (.c (.string ⟨#[105, 110, 118, 97, 108, 105, 100, 32, 98, 105, 116, 32, 115, 105, 122, 101, 32]⟩)) (.t 11)), none, []⟩,
    ⟨(some 13), (.call (.f 89) [(.t 12)]), none, []⟩,
    ⟨(some 14), (.build [(.string ⟨#[]⟩), (.string ⟨#[]⟩), .nilIface] [(0, 1, (.t 7)), (1, 1, (.t 9)), (2, 1, (.t 13))]), none, []⟩,
    ⟨(some 15), (.box 126 (.t 14)), none, []⟩,
    ⟨(some 6), (.mov (.t 15)), none, []⟩] none)
  .ret))
def F80 : AFunc := ⟨3, 16, [(.tmp 6)], B80⟩
/-- internal/strconv.log10Pow2 -/
def B81 : ACode := (.seq (.region [⟨(some 2), (.mov (.c (.int .i64 0))), none, []⟩] none)
  (.seq (.region [⟨(some 3), (.mov (.t 0)), none, []⟩,
    ⟨(some 4), (.bin .mul (.t 3) (.c (.int .i64 78913))), none, []⟩,
    ⟨(some 5), (.bin .shr (.t 4) (.c (.int .u64 18))), none, []⟩,
    ⟨(some 2), (.mov (.t 5)), none, []⟩] none)
  .ret))
def F81 : AFunc := ⟨1, 6, [(.tmp 2)], B81⟩
/-- math/bits.Len64 -/
def B82 : ACode := (.seq (.region [⟨(some 2), (.mov (.c (.int .i64 0))), none, []⟩] none)
  (.seq (.seq (.region [⟨(some 3), (.mov (.t 0)), none, []⟩,
    ⟨(some 4), (.bin .geq (.t 3) (.c (.int .u64 4294967296))), none, []⟩] none)
  (.cond (.t 4)
  (.seq (.region [⟨(some 5), (.mov (.t 0)), none, []⟩,
    ⟨(some 6), (.bin .shr (.t 5) (.c (.int .u64 32))), none, []⟩,
    ⟨(some 0), (.mov (.t 6)), none, []⟩] none)
  (.region [⟨(some 2), (.mov (.c (.int .i64 32))), none, []⟩] none))
  .skip))
  (.seq (.seq (.region [⟨(some 7), (.mov (.t 0)), none, []⟩,
    ⟨(some 8), (.bin .geq (.t 7) (.c (.int .u64 65536))), none, []⟩] none)
  (.cond (.t 8)
  (.seq (.region [⟨(some 9), (.mov (.t 0)), none, []⟩,
    ⟨(some 10), (.bin .shr (.t 9) (.c (.int .u64 16))), none, []⟩,
    ⟨(some 0), (.mov (.t 10)), none, []⟩] none)
  (.region [⟨(some 11), (.mov (.t 2)), none, []⟩,
    ⟨(some 12), (.bin .add (.t 11) (.c (.int .i64 16))), none, []⟩,
    ⟨(some 2), (.mov (.t 12)), none, []⟩] none))
  .skip))
  (.seq (.seq (.region [⟨(some 13), (.mov (.t 0)), none, []⟩,
    ⟨(some 14), (.bin .geq (.t 13) (.c (.int .u64 256))), none, []⟩] none)
  (.cond (.t 14)
  (.seq (.region [⟨(some 15), (.mov (.t 0)), none, []⟩,
    ⟨(some 16), (.bin .shr (.t 15) (.c (.int .u64 8))), none, []⟩,
    ⟨(some 0), (.mov (.t 16)), none, []⟩] none)
  (.region [⟨(some 17), (.mov (.t 2)), none, []⟩,
    ⟨(some 18), (.bin .add (.t 17) (.c (.int .i64 8))), none, []⟩,
    ⟨(some 2), (.mov (.t 18)), none, []⟩] none))
  .skip))
  (.seq (.region [⟨(some 19), (.mov (.t 2)), none, []⟩,
    ⟨(some 20), (.mov (.t 0)), none, []⟩,
    ⟨(some 21), (.conv .u8 (.t 20)), none, []⟩,
    ⟨(some 22), (.indexStr (.c (.string ⟨#[0, 1, 2, 2, 3, 3, 3, 3, 4, 4, 4, 4, 4, 4, 4, 4, 5, 5, 5, 5, 5, 5, 5, 5, 5, 5, 5, 5, 5, 5, 5, 5, 6, 6, 6, 6, 6, 6, 6, 6, 6, 6, 6, 6, 6, 6, 6, 6, 6, 6, 6, 6, 6, 6, 6, 6, 6, 6, 6, 6, 6, 6, 6, 6, 7, 7, 7, 7, 7, 7, 7, 7, 7, 7, 7, 7, 7, 7, 7, 7, 7, 7, 7, 7, 7, 7, 7, 7, 7, 7, 7, 7, 7, 7, 7, 7, 7, 7, 7, 7, 7, 7, 7, 7, 7, 7, 7, 7, 7, 7, 7, 7, 7, 7, 7, 7, 7, 7, 7, 7, 7, 7, 7, 7, 7, 7, 7, 7, 8, 8, 8, 8, 8, 8, 8, 8, 8, 8, 8, 8, 8, 8, 8, 8, 8, 8, 8, 8, 8, 8, 8, 8, 8, 8, 8, 8, 8, 8, 8, 8, 8, 8, 8, 8, 8, 8, 8, 8, 8, 8, 8, 8, 8, 8, 8, 8, 8, 8, 8, 8, 8, 8, 8, 8, 8, 8, 8, 8, 8, 8, 8, 8, 8, 8, 8, 8, 8, 8, 8, 8, 8, 8, 8, 8, 8, 8, 8, 8, 8, 8, 8, 8, 8, 8, 8, 8, 8, 8, 8, 8, 8, 8, 8, 8, 8, 8, 8, 8, 8, 8, 8, 8, 8, 8, 8, 8, 8, 8, 8, 8, 8, 8, 8, 8, 8, 8, 8, 8, 8, 8, 8, 8, 8, 8, 8, 8]⟩)) (.t 21)), none, []⟩,
    ⟨(some 23), (.conv .i64 (.t 22)), none, []⟩,
    ⟨(some 24), (.bin .add (.t 19) (.t 23)), none, []⟩,
    ⟨(some 2), (.mov (.t 24)), none, []⟩] none)
  .ret)))))
def F82 : AFunc := ⟨1, 25, [(.tmp 2)], B82⟩
/-- internal/strconv.bool2[int] -/
def B83 : ACode := (.seq (.region [⟨(some 2), (.mov (.c (.int .i64 0))), none, []⟩] none)
  (.seq (.seq (.region [⟨(some 3), (.mov (.t 0)), none, []⟩] none)
  (.cond (.t 3)
  (.seq (.region [⟨(some 2), (.mov (.c (.int .i64 1))), none, []⟩] none)
  .ret)
  .skip))
  (.seq (.region [⟨(some 2), (.mov (.c (.int .i64 0))), none, []⟩] none)
  .ret)))
def F83 : AFunc := ⟨1, 4, [(.tmp 2)], B83⟩
/-- internal/strconv.isPowerOfTwo -/
def B84 : ACode := (.seq (.region [⟨(some 2), (.mov (.c (.bool false))), none, []⟩] none)
  (.seq (.region [⟨(some 3), (.mov (.t 0)), none, []⟩,
    ⟨(some 4), (.mov (.t 0)), none, []⟩,
    ⟨(some 5), (.bin .sub (.t 4) (.c (.int .i64 1))), none, []⟩,
    ⟨(some 6), (.bin .and (.t 3) (.t 5)), none, []⟩,
    ⟨(some 7), (.bin .eql (.t 6) (.c (.int .i64 0))), none, []⟩,
    ⟨(some 2), (.mov (.t 7)), none, []⟩] none)
  .ret))
def F84 : AFunc := ⟨1, 8, [(.tmp 2)], B84⟩
/-- math/bits.TrailingZeros -/
def B85 : ACode := (.seq (.region [⟨(some 2), (.mov (.c (.int .i64 0))), none, []⟩] none)
  (.seq (.cond (.c (.bool false))
  (.seq (.region [⟨(some 3), (.mov (.t 0)), none, []⟩,
    ⟨(some 4), (.conv .u32 (.t 3)), none, []⟩,
    ⟨(some 5), (.call (.f 90) [(.t 4)]), none, []⟩,
    ⟨(some 2), (.mov (.t 5)), none, []⟩] none)
  .ret)
  .skip)
  (.seq (.region [⟨(some 6), (.mov (.t 0)), none, []⟩,
    ⟨(some 7), (.call (.f 39) [(.t 6)]), none, []⟩,
    ⟨(some 2), (.mov (.t 7)), none, []⟩] none)
  .ret)))
def F85 : AFunc := ⟨1, 8, [(.tmp 2)], B85⟩
/-- internal/bytealg.hashStr[string] -/
def F87L0 : ACode := (.seq (.seq (.region [⟨(some 9), (.mov (.t 5)), none, []⟩,
    ⟨(some 10), (.mov (.t 0)), none, []⟩,
    ⟨(some 11), (.lenStr (.t 10)), none, []⟩,
    ⟨(some 12), (.bin .lss (.t 9) (.t 11)), none, []⟩] none)
  (.cond (.t 12)
  .skip
  (.exit 0)))
  (.seq (.block 1 (.region [⟨(some 15), (.mov (.t 4)), none, []⟩,
    ⟨(some 16), (.bin .mul (.t 15) (.c (.int .u32 16777619))), none, []⟩,
    ⟨(some 17), (.mov (.t 0)), none, []⟩,
    ⟨(some 18), (.mov (.t 5)), none, []⟩,
    ⟨(some 19), (.indexStr (.t 17) (.t 18)), none, []⟩,
    ⟨(some 20), (.conv .u32 (.t 19)), none, []⟩,
    ⟨(some 21), (.bin .add (.t 16) (.t 20)), none, []⟩,
    ⟨(some 4), (.mov (.t 21)), none, []⟩] none))
  (.region [⟨(some 13), (.mov (.t 5)), none, []⟩,
    ⟨(some 14), (.bin .add (.t 13) (.c (.int .i64 1))), none, []⟩,
    ⟨(some 5), (.mov (.t 14)), none, []⟩] none)))
def F87L1 : ACode := (.seq (.seq (.region [⟨(some 24), (.mov (.t 8)), none, []⟩,
    ⟨(some 25), (.bin .gtr (.t 24) (.c (.int .i64 0))), none, []⟩] none)
  (.cond (.t 25)
  .skip
  (.exit 2)))
  (.seq (.block 3 (.seq (.seq (.region [⟨(some 28), (.mov (.t 8)), none, []⟩,
    ⟨(some 29), (.bin .and (.t 28) (.c (.int .i64 1))), none, []⟩,
    ⟨(some 30), (.bin .neq (.t 29) (.c (.int .i64 0))), none, []⟩] none)
  (.cond (.t 30)
  (.region [⟨(some 31), (.mov (.t 6)), none, []⟩,
    ⟨(some 32), (.mov (.t 7)), none, []⟩,
    ⟨(some 33), (.bin .mul (.t 31) (.t 32)), none, []⟩,
    ⟨(some 6), (.mov (.t 33)), none, []⟩] none)
  .skip))
  (.region [⟨(some 34), (.mov (.t 7)), none, []⟩,
    ⟨(some 35), (.mov (.t 7)), none, []⟩,
    ⟨(some 36), (.bin .mul (.t 34) (.t 35)), none, []⟩,
    ⟨(some 7), (.mov (.t 36)), none, []⟩] none)))
  (.region [⟨(some 26), (.mov (.t 8)), none, []⟩,
    ⟨(some 27), (.bin .shr (.t 26) (.c (.int .u64 1))), none, []⟩,
    ⟨(some 8), (.mov (.t 27)), none, []⟩] none)))
def B87 : ACode := (.seq (.region [⟨(some 2), (.mov (.c (.int .u32 0))), none, []⟩,
    ⟨(some 3), (.mov (.c (.int .u32 0))), none, []⟩] none)
  (.seq (.region [⟨(some 4), (.mov (.c (.int .u32 0))), none, []⟩] none)
  (.seq (.seq (.region [⟨(some 5), (.mov (.c (.int .i64 0))), none, []⟩] none)
  (.block 0 (.loop F87L0)))
  (.seq (.region [⟨(some 6), (.mov (.c (.int .u32 1))), none, []⟩,
    ⟨(some 7), (.mov (.c (.int .u32 16777619))), none, []⟩] none)
  (.seq (.seq (.region [⟨(some 22), (.mov (.t 0)), none, []⟩,
    ⟨(some 23), (.lenStr (.t 22)), none, []⟩,
    ⟨(some 8), (.mov (.t 23)), none, []⟩] none)
  (.block 2 (.loop F87L1)))
  (.seq (.region [⟨(some 37), (.mov (.t 4)), none, []⟩,
    ⟨(some 38), (.mov (.t 6)), none, []⟩,
    ⟨(some 2), (.mov (.t 37)), none, []⟩,
    ⟨(some 3), (.mov (.t 38)), none, []⟩] none)
  .ret))))))
def F87 : AFunc := ⟨1, 39, [(.tmp 2), (.tmp 3)], B87⟩
-- F87L0 live: [0, 4, 5]

-- F87L1 live: [4, 6, 7, 8]
/-- internal/stringslite.Clone -/
def B88 : ACode := (.seq (.region [⟨(some 2), (.mov (.c (.string ⟨#[]⟩))), none, []⟩] none)
  (.seq (.seq (.region [⟨(some 4), (.mov (.t 0)), none, []⟩,
    ⟨(some 5), (.lenStr (.t 4)), none, []⟩,
    ⟨(some 6), (.bin .eql (.t 5) (.c (.int .i64 0))), none, []⟩] none)
  (.cond (.t 6)
  (.seq (.region [⟨(some 2), (.mov (.c (.string ⟨#[]⟩))), none, []⟩] none)
  .ret)
  .skip))
  (.seq (.region [⟨(some 7), (.mov (.t 0)), none, []⟩,
    ⟨(some 8), (.lenStr (.t 7)), none, []⟩,
    ⟨(some 9), (.makeSlice 5 1 1 [(.int .u8 0)] (.t 8) (.t 8)), none, []⟩,
    ⟨(some 3), (.mov (.t 9)), none, []⟩] none)
  (.seq (.region [⟨(some 10), (.mov (.t 3)), none, []⟩,
    ⟨(some 11), (.mov (.t 0)), none, []⟩,
    ⟨(some 12), (.copy 1 (.t 10) (.t 11)), none, []⟩] none)
  (.seq (.region [⟨(some 13), (.mov (.t 3)), none, []⟩,
    ⟨(some 14), (.indexAddr 1 (.t 13) (.c (.int .i64 0))), none, []⟩,
    ⟨(some 15), (.mov (.t 3)), none, []⟩,
    ⟨(some 16), (.lenSlice (.t 15)), none, []⟩,
    ⟨(some 17), (.unsafeString 5 (.t 14) (.t 16)), none, []⟩,
    ⟨(some 2), (.mov (.t 17)), none, []⟩] none)
  .ret)))))
def F88 : AFunc := ⟨1, 18, [(.tmp 2)], B88⟩
/-- errors.New -/
def B89 : ACode := (.seq (.region [⟨(some 2), (.mov (.c .nilIface)), none, []⟩] none)
  (.seq (.region [⟨(some 3), (.mov (.t 0)), none, []⟩,
    ⟨(some 4), (.build [(.string ⟨#[]⟩)] [(0, 1, (.t 3))]), none, []⟩,
    ⟨(some 5), (.box 131 (.t 4)), none, []⟩,
    ⟨(some 6), (.makeIface 129 (.t 5)), none, []⟩,
    ⟨(some 2), (.mov (.t 6)), none, []⟩] none)
  .ret))
def F89 : AFunc := ⟨1, 7, [(.tmp 2)], B89⟩
/-- math/bits.TrailingZeros32 -/
def B90 : ACode := (.seq (.region [⟨(some 2), (.mov (.c (.int .i64 0))), none, []⟩] none)
  (.seq (.seq (.region [⟨(some 3), (.mov (.t 0)), none, []⟩,
    ⟨(some 4), (.bin .eql (.t 3) (.c (.int .u32 0))), none, []⟩] none)
  (.cond (.t 4)
  (.seq (.region [⟨(some 2), (.mov (.c (.int .i64 32))), none, []⟩] none)
  .ret)
  .skip))
  (.seq (.region [⟨(some 5), (.mov (.t 0)), none, []⟩,
    ⟨(some 6), (.mov (.t 0)), none, []⟩,
    ⟨(some 7), (.un .neg (.t 6)), none, []⟩,
    ⟨(some 8), (.bin .and (.t 5) (.t 7)), none, []⟩,
    ⟨(some 9), (.bin .mul (.t 8) (.c (.int .u32 125613361))), none, []⟩,
    ⟨(some 10), (.bin .shr (.t 9) (.c (.int .u64 27))), none, []⟩,
    ⟨(some 11), (.indexArr 1 32 (.g 7) (.t 10)), none, []⟩,
    ⟨(some 12), (.load none (.t 11)), none, []⟩,
    ⟨(some 13), (.conv .i64 (.t 12)), none, []⟩,
    ⟨(some 2), (.mov (.t 13)), none, []⟩] none)
  .ret)))
def F90 : AFunc := ⟨1, 14, [(.tmp 2)], B90⟩
def fs14 : FT := (.node 44 F44 (.node 23 F23 (.node 13 F13 (.node 8 F8 (.node 5 F5 (.node 4 F4 (.node 3 F3 .leaf .leaf) .leaf) (.node 7 F7 (.node 6 F6 .leaf .leaf) .leaf)) (.node 11 F11 (.node 10 F10 (.node 9 F9 .leaf .leaf) .leaf) (.node 12 F12 .leaf .leaf))) (.node 18 F18 (.node 16 F16 (.node 15 F15 (.node 14 F14 .leaf .leaf) .leaf) (.node 17 F17 .leaf .leaf)) (.node 21 F21 (.node 20 F20 (.node 19 F19 .leaf .leaf) .leaf) (.node 22 F22 .leaf .leaf)))) (.node 34 F34 (.node 29 F29 (.node 26 F26 (.node 25 F25 (.node 24 F24 .leaf .leaf) .leaf) (.node 28 F28 (.node 27 F27 .leaf .leaf) .leaf)) (.node 32 F32 (.node 31 F31 (.node 30 F30 .leaf .leaf) .leaf) (.node 33 F33 .leaf .leaf))) (.node 39 F39 (.node 37 F37 (.node 36 F36 (.node 35 F35 .leaf .leaf) .leaf) (.node 38 F38 .leaf .leaf)) (.node 42 F42 (.node 41 F41 (.node 40 F40 .leaf .leaf) .leaf) (.node 43 F43 .leaf .leaf))))) (.node 66 F66 (.node 55 F55 (.node 50 F50 (.node 47 F47 (.node 46 F46 (.node 45 F45 .leaf .leaf) .leaf) (.node 49 F49 (.node 48 F48 .leaf .leaf) .leaf)) (.node 53 F53 (.node 52 F52 (.node 51 F51 .leaf .leaf) .leaf) (.node 54 F54 .leaf .leaf))) (.node 61 F61 (.node 58 F58 (.node 57 F57 (.node 56 F56 .leaf .leaf) .leaf) (.node 60 F60 .leaf .leaf)) (.node 64 F64 (.node 63 F63 (.node 62 F62 .leaf .leaf) .leaf) (.node 65 F65 .leaf .leaf)))) (.node 80 F80 (.node 75 F75 (.node 71 F71 (.node 70 F70 (.node 67 F67 .leaf .leaf) .leaf) (.node 74 F74 (.node 73 F73 .leaf .leaf) .leaf)) (.node 78 F78 (.node 77 F77 (.node 76 F76 .leaf .leaf) .leaf) (.node 79 F79 .leaf .leaf))) (.node 85 F85 (.node 83 F83 (.node 82 F82 (.node 81 F81 .leaf .leaf) .leaf) (.node 84 F84 .leaf .leaf)) (.node 89 F89 (.node 88 F88 (.node 87 F87 .leaf .leaf) .leaf) (.node 90 F90 .leaf .leaf))))))
def ps14 : List (Nat × Prim) := [(68, .noEscape), (69, .makeNoZero 5), (59, .count), (86, .indexByte)]
end
end Go.Proofs.YtbgjcoochdljfaaDoorR.Am
