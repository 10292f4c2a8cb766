/- The functions of the program, printed by a program of ours as code of the abstract machine (F); that they are is proved in the next text. -/
import Derived.Test.YtiemkafpijhlmaaDoorD
namespace Go.Proofs.YtiemkafpijhlmaaDoor.Am
noncomputable section
/-- toll/tolllaw06.InetTexts -/
def B3 : ACode := (.seq (.region [⟨(some 8), (.mov (.c (.bool false))), none, []⟩] none)
  (.seq (.region [⟨(some 19), (.mov (.t 3)), none, []⟩,
    ⟨(some 20), (.mov (.t 3)), none, []⟩,
    ⟨(some 21), (.lenStr (.t 20)), none, []⟩,
    ⟨(some 22), (.min [(.t 21), (.c (.int .i64 30))]), none, []⟩,
    ⟨(some 23), (.sliceStr (.t 19) none (some (.t 22))), none, []⟩,
    ⟨(some 3), (.mov (.t 23)), none, []⟩] none)
  (.seq (.region [⟨(some 24), (.mov (.t 0)), none, []⟩,
    ⟨(some 25), (.mov (.t 2)), none, []⟩,
    ⟨(some 26), (.build [(.int .u32 0), (.int .i64 0)] [(0, 1, (.t 24)), (1, 1, (.t 25))]), none, []⟩,
    ⟨(some 9), (.alloc 25 [(.int .u32 0), (.int .i64 0)]), none, []⟩,
    ⟨none, (.store 2 (.t 9) (.t 26)), none, []⟩] none)
  (.seq (.region [⟨(some 28), (.mov (.t 3)), none, []⟩,
    ⟨(some 29), (.call (.f 9) [(.t 28)]), none, []⟩,
    ⟨(some 27), (.mov (.t 29)), none, []⟩,
    ⟨(some 30), (.extract (.t 27) 0), none, []⟩,
    ⟨(some 31), (.extract (.t 27) 1), none, []⟩,
    ⟨(some 10), (.mov (.t 30)), none, []⟩,
    ⟨(some 11), (.mov (.t 31)), none, []⟩] none)
  (.seq (.region [⟨(some 33), (.mov (.t 3)), none, []⟩,
    ⟨(some 34), (.call (.f 10) [(.t 33)]), none, []⟩,
    ⟨(some 32), (.mov (.t 34)), none, []⟩,
    ⟨(some 35), (.extract (.t 32) 0), none, []⟩,
    ⟨(some 36), (.extract (.t 32) 1), none, []⟩,
    ⟨(some 12), (.mov (.t 35)), none, []⟩,
    ⟨(some 13), (.mov (.t 36)), none, []⟩] none)
  (.seq (.region [⟨(some 38), (.mov (.t 3)), none, []⟩,
    ⟨(some 39), (.call (.f 11) [(.t 38)]), none, []⟩,
    ⟨(some 37), (.mov (.t 39)), none, []⟩,
    ⟨(some 40), (.extract (.t 37) 0), none, []⟩,
    ⟨(some 41), (.extract (.t 37) 1), none, []⟩,
    ⟨(some 14), (.alloc 25 [(.int .u32 0), (.int .i64 0)]), none, []⟩,
    ⟨none, (.store 2 (.t 14) (.t 40)), none, []⟩,
    ⟨(some 15), (.mov (.t 41)), none, []⟩] none)
  (.seq (.region [⟨(some 43), (.mov (.t 3)), none, []⟩,
    ⟨(some 44), (.call (.f 12) [(.t 43)]), none, []⟩,
    ⟨(some 42), (.mov (.t 44)), none, []⟩,
    ⟨(some 45), (.extract (.t 42) 0), none, []⟩,
    ⟨(some 46), (.extract (.t 42) 1), none, []⟩,
    ⟨(some 47), (.extract (.t 42) 2), none, []⟩,
    ⟨(some 16), (.mov (.t 45)), none, []⟩,
    ⟨(some 17), (.mov (.t 46)), none, []⟩,
    ⟨(some 18), (.mov (.t 47)), none, []⟩] none)
  (.seq (.region [⟨(some 48), (.mov (.t 0)), none, []⟩,
    ⟨(some 49), (.call (.f 13) [(.t 48)]), none, []⟩,
    ⟨(some 50), (.mov (.t 0)), none, []⟩,
    ⟨(some 51), (.call (.f 14) [(.t 50)]), none, []⟩,
    ⟨(some 52), (.bin .eql (.t 49) (.t 51)), none, []⟩,
    ⟨(some 53), (.mov (.t 52)), none, []⟩,
    ⟨(some 54), (.load (some 2) (.t 9)), (some (53, true)), []⟩,
    ⟨(some 55), (.call (.f 15) [(.t 54)]), (some (53, true)), []⟩,
    ⟨(some 56), (.mov (.t 0)), (some (53, true)), []⟩,
    ⟨(some 57), (.mov (.t 2)), (some (53, true)), []⟩,
    ⟨(some 58), (.call (.f 16) [(.t 56), (.t 57)]), (some (53, true)), []⟩,
    ⟨(some 59), (.bin .eql (.t 55) (.t 58)), (some (53, true)), []⟩,
    ⟨(some 60), (.pick (.t 53) (.t 59) (.c (.bool false))), none, []⟩,
    ⟨(some 61), (.mov (.t 60)), none, []⟩,
    ⟨(some 62), (.load (some 2) (.t 9)), (some (61, true)), []⟩,
    ⟨(some 63), (.mov (.t 1)), (some (61, true)), []⟩,
    ⟨(some 64), (.call (.f 17) [(.t 62), (.t 63)]), (some (61, true)), []⟩,
    ⟨(some 65), (.mov (.t 0)), (some (61, true)), []⟩,
    ⟨(some 66), (.mov (.t 2)), (some (61, true)), []⟩,
    ⟨(some 67), (.mov (.t 1)), (some (61, true)), []⟩,
    ⟨(some 68), (.call (.f 18) [(.t 65), (.t 66), (.t 67)]), (some (61, true)), []⟩,
    ⟨(some 69), (.eqv false .bool false (.t 64) (.t 68)), (some (61, true)), []⟩,
    ⟨(some 70), (.pick (.t 61) (.t 69) (.c (.bool false))), none, []⟩,
    ⟨(some 71), (.mov (.t 70)), none, []⟩,
    ⟨(some 72), (.mov (.t 10)), (some (71, true)), []⟩,
    ⟨(some 73), (.mov (.t 12)), (some (71, true)), []⟩,
    ⟨(some 74), (.bin .eql (.t 72) (.t 73)), (some (71, true)), []⟩,
    ⟨(some 75), (.pick (.t 71) (.t 74) (.c (.bool false))), none, []⟩,
    ⟨(some 76), (.mov (.t 75)), none, []⟩,
    ⟨(some 77), (.mov (.t 11)), (some (76, true)), []⟩,
    ⟨(some 78), (.mov (.t 13)), (some (76, true)), []⟩,
    ⟨(some 79), (.bin .eql (.t 77) (.t 78)), (some (76, true)), []⟩,
    ⟨(some 80), (.pick (.t 76) (.t 79) (.c (.bool false))), none, []⟩,
    ⟨(some 81), (.mov (.t 80)), none, []⟩,
    ⟨(some 82), (.fieldAddr 0 (.t 14)), (some (81, true)), []⟩,
    ⟨(some 83), (.load none (.t 82)), (some (81, true)), []⟩,
    ⟨(some 84), (.mov (.t 16)), (some (81, true)), []⟩,
    ⟨(some 85), (.bin .eql (.t 83) (.t 84)), (some (81, true)), []⟩,
    ⟨(some 86), (.pick (.t 81) (.t 85) (.c (.bool false))), none, []⟩,
    ⟨(some 87), (.mov (.t 86)), none, []⟩,
    ⟨(some 88), (.fieldAddr 1 (.t 14)), (some (87, true)), []⟩,
    ⟨(some 89), (.load none (.t 88)), (some (87, true)), []⟩,
    ⟨(some 90), (.mov (.t 17)), (some (87, true)), []⟩,
    ⟨(some 91), (.bin .eql (.t 89) (.t 90)), (some (87, true)), []⟩,
    ⟨(some 92), (.pick (.t 87) (.t 91) (.c (.bool false))), none, []⟩,
    ⟨(some 93), (.mov (.t 92)), none, []⟩,
    ⟨(some 94), (.mov (.t 15)), (some (93, true)), []⟩,
    ⟨(some 95), (.mov (.t 18)), (some (93, true)), []⟩,
    ⟨(some 96), (.bin .eql (.t 94) (.t 95)), (some (93, true)), []⟩,
    ⟨(some 97), (.pick (.t 93) (.t 96) (.c (.bool false))), none, []⟩,
    ⟨(some 98), (.mov (.t 97)), none, []⟩,
    ⟨(some 99), (.call (.f 19) []), (some (98, true)), []⟩,
    ⟨(some 100), (.pick (.t 98) (.t 99) (.c (.bool false))), none, []⟩,
    ⟨(some 8), (.mov (.t 100)), none, []⟩] none)
  .ret))))))))
def F3 : AFunc := ⟨4, 101, [(.tmp 8)], B3⟩
def R4_0 : ACode := .region [⟨(some 41), (.mov (.t 12)), none, []⟩,
    ⟨(some 42), (.bin .neq (.t 41) (.c (.int .i64 0))), none, [0]⟩,
    ⟨(some 43), (.mov (.t 42)), none, [1]⟩,
    ⟨(some 44), (.mov (.t 14)), (some (43, false)), [2]⟩,
    ⟨(some 45), (.bin .neq (.t 44) (.c (.int .i64 0))), (some (43, false)), [3, 2]⟩,
    ⟨(some 46), (.pick (.t 43) (.c (.bool true)) (.t 45)), none, [2, 4]⟩,
    ⟨(some 47), (.mov (.t 46)), none, [5, 2]⟩,
    ⟨(some 48), (.mov (.t 13)), (some (47, false)), [6]⟩,
    ⟨(some 49), (.mov (.t 0)), (some (47, false)), [6]⟩,
    ⟨(some 50), (.bin .neq (.t 48) (.t 49)), (some (47, false)), [7, 8, 6]⟩,
    ⟨(some 51), (.pick (.t 47) (.c (.bool true)) (.t 50)), none, [6, 9]⟩,
    ⟨(some 52), (.mov (.t 51)), none, [10, 6]⟩,
    ⟨(some 53), (.fieldAddr 1 (.t 11)), (some (52, false)), [11]⟩,
    ⟨(some 54), (.load none (.t 53)), (some (52, false)), [12, 11]⟩,
    ⟨(some 55), (.mov (.t 9)), (some (52, false)), [11]⟩,
    ⟨(some 56), (.bin .neq (.t 54) (.t 55)), (some (52, false)), [13, 14, 11]⟩,
    ⟨(some 57), (.pick (.t 52) (.c (.bool true)) (.t 56)), none, [11, 15]⟩,
    ⟨(some 58), (.mov (.t 57)), none, [16, 11]⟩,
    ⟨(some 59), (.load (some 2) (.t 11)), (some (58, false)), [17]⟩,
    ⟨(some 60), (.mov (.t 0)), (some (58, false)), [17]⟩,
    ⟨(some 61), (.call (.f 17) [(.t 59), (.t 60)]), (some (58, false)), [18, 19, 17, 17]⟩,
    ⟨(some 62), (.un .not (.t 61)), (some (58, false)), [20, 17]⟩,
    ⟨(some 63), (.pick (.t 58) (.c (.bool true)) (.t 62)), none, [17, 21]⟩,
    ⟨(some 64), (.mov (.t 63)), none, [22, 20]⟩,
    ⟨(some 65), (.load (some 2) (.t 10)), (some (64, false)), [23]⟩,
    ⟨(some 66), (.fieldAddr 0 (.t 11)), (some (64, false)), [23]⟩,
    ⟨(some 67), (.load none (.t 66)), (some (64, false)), [25, 23]⟩,
    ⟨(some 68), (.call (.f 17) [(.t 65), (.t 67)]), (some (64, false)), [24, 26, 23, 23]⟩,
    ⟨(some 69), (.un .not (.t 68)), (some (64, false)), [27, 23]⟩,
    ⟨(some 70), (.pick (.t 64) (.c (.bool true)) (.t 69)), none, [23, 28]⟩,
    ⟨(some 71), (.mov (.t 70)), none, [29, 27]⟩,
    ⟨(some 72), (.load (some 2) (.t 11)), (some (71, false)), [30]⟩,
    ⟨(some 73), (.call (.f 15) [(.t 72)]), (some (71, false)), [31, 30, 30]⟩,
    ⟨(some 74), (.load (some 2) (.t 10)), (some (71, false)), [30]⟩,
    ⟨(some 75), (.call (.f 15) [(.t 74)]), (some (71, false)), [33, 32, 30]⟩,
    ⟨(some 76), (.bin .neq (.t 73) (.t 75)), (some (71, false)), [32, 34, 30]⟩,
    ⟨(some 77), (.pick (.t 71) (.c (.bool true)) (.t 76)), none, [30, 35]⟩] (some [(7, 8), (12, 14), (13, 14), (18, 19), (24, 25), (24, 26), (31, 33), (32, 33)])
/-- toll/tolllaw06.InetPrefixes -/
def B4 : ACode := (.seq (.region [⟨(some 8), (.mov (.c (.bool false))), none, []⟩] none)
  (.seq (.region [⟨(some 23), (.mov (.t 2)), none, []⟩,
    ⟨(some 24), (.bin .rem (.t 23) (.c (.int .u8 33))), none, []⟩,
    ⟨(some 25), (.conv .i64 (.t 24)), none, []⟩,
    ⟨(some 9), (.mov (.t 25)), none, []⟩] none)
  (.seq (.region [⟨(some 26), (.mov (.t 0)), none, []⟩,
    ⟨(some 27), (.mov (.t 9)), none, []⟩,
    ⟨(some 28), (.build [(.int .u32 0), (.int .i64 0)] [(0, 1, (.t 26)), (1, 1, (.t 27))]), none, []⟩,
    ⟨(some 10), (.alloc 25 [(.int .u32 0), (.int .i64 0)]), none, []⟩,
    ⟨none, (.store 2 (.t 10) (.t 28)), none, []⟩] none)
  (.seq (.region [⟨(some 30), (.load (some 2) (.t 10)), none, []⟩,
    ⟨(some 31), (.call (.f 15) [(.t 30)]), none, []⟩,
    ⟨(some 32), (.call (.f 11) [(.t 31)]), none, []⟩,
    ⟨(some 29), (.mov (.t 32)), none, []⟩,
    ⟨(some 33), (.extract (.t 29) 0), none, []⟩,
    ⟨(some 34), (.extract (.t 29) 1), none, []⟩,
    ⟨(some 11), (.alloc 25 [(.int .u32 0), (.int .i64 0)]), none, []⟩,
    ⟨none, (.store 2 (.t 11) (.t 33)), none, []⟩,
    ⟨(some 12), (.mov (.t 34)), none, []⟩] none)
  (.seq (.region [⟨(some 36), (.mov (.t 0)), none, []⟩,
    ⟨(some 37), (.call (.f 13) [(.t 36)]), none, []⟩,
    ⟨(some 38), (.call (.f 9) [(.t 37)]), none, []⟩,
    ⟨(some 35), (.mov (.t 38)), none, []⟩,
    ⟨(some 39), (.extract (.t 35) 0), none, []⟩,
    ⟨(some 40), (.extract (.t 35) 1), none, []⟩,
    ⟨(some 13), (.mov (.t 39)), none, []⟩,
    ⟨(some 14), (.mov (.t 40)), none, []⟩] none)
  (.seq (.seq R4_0
  (.cond (.t 77)
  (.seq (.region [⟨(some 8), (.mov (.c (.bool false))), none, []⟩] none)
  .ret)
  .skip))
  (.seq (.region [⟨(some 78), (.mov (.t 9)), none, []⟩,
    ⟨(some 79), (.bin .lss (.t 78) (.c (.int .i64 32))), none, []⟩,
    ⟨(some 80), (.mov (.t 79)), none, []⟩,
    ⟨(some 81), (.mov (.t 0)), (some (80, true)), []⟩,
    ⟨(some 82), (.mov (.t 1)), (some (80, true)), []⟩,
    ⟨(some 83), (.bin .xor (.t 81) (.t 82)), (some (80, true)), []⟩,
    ⟨(some 84), (.mov (.t 9)), (some (80, true)), []⟩,
    ⟨(some 85), (.bin .sub (.c (.int .i64 32)) (.t 84)), (some (80, true)), []⟩,
    ⟨(some 86), (.bin .shr (.t 83) (.t 85)), (some (80, true)), []⟩,
    ⟨(some 87), (.bin .eql (.t 86) (.c (.int .u32 0))), (some (80, true)), []⟩,
    ⟨(some 88), (.pick (.t 80) (.t 87) (.c (.bool false))), none, []⟩,
    ⟨(some 89), (.mov (.t 88)), none, []⟩,
    ⟨(some 90), (.mov (.t 9)), (some (89, false)), []⟩,
    ⟨(some 91), (.bin .eql (.t 90) (.c (.int .i64 32))), (some (89, false)), []⟩,
    ⟨(some 92), (.mov (.t 91)), (some (89, false)), []⟩,
    ⟨(some 93), (.mov (.t 0)), (some (92, true)), []⟩,
    ⟨(some 94), (.mov (.t 1)), (some (92, true)), []⟩,
    ⟨(some 95), (.bin .eql (.t 93) (.t 94)), (some (92, true)), []⟩,
    ⟨(some 96), (.pick (.t 92) (.t 95) (.c (.bool false))), (some (89, false)), []⟩,
    ⟨(some 97), (.pick (.t 89) (.c (.bool true)) (.t 96)), none, []⟩,
    ⟨(some 98), (.mov (.t 97)), none, []⟩,
    ⟨(some 99), (.mov (.t 9)), (some (98, false)), []⟩,
    ⟨(some 100), (.bin .eql (.t 99) (.c (.int .i64 0))), (some (98, false)), []⟩,
    ⟨(some 101), (.pick (.t 98) (.c (.bool true)) (.t 100)), none, []⟩,
    ⟨(some 15), (.mov (.t 101)), none, []⟩] none)
  (.seq (.region [⟨(some 102), (.mov (.t 0)), none, []⟩,
    ⟨(some 103), (.mov (.t 9)), none, []⟩,
    ⟨(some 104), (.bin .add (.t 103) (.c (.int .i64 1))), none, []⟩,
    ⟨(some 105), (.build [(.int .u32 0), (.int .i64 0)] [(0, 1, (.t 102)), (1, 1, (.t 104))]), none, []⟩,
    ⟨(some 16), (.alloc 25 [(.int .u32 0), (.int .i64 0)]), none, []⟩,
    ⟨none, (.store 2 (.t 16) (.t 105)), none, []⟩] none)
  (.seq (.seq (.region [⟨(some 106), (.load (some 2) (.t 10)), none, []⟩,
    ⟨(some 107), (.mov (.t 1)), none, []⟩,
    ⟨(some 108), (.call (.f 17) [(.t 106), (.t 107)]), none, []⟩,
    ⟨(some 109), (.mov (.t 15)), none, []⟩,
    ⟨(some 110), (.eqv true .bool false (.t 108) (.t 109)), none, []⟩,
    ⟨(some 111), (.mov (.t 110)), none, []⟩,
    ⟨(some 112), (.load (some 2) (.t 16)), (some (111, false)), []⟩,
    ⟨(some 113), (.mov (.t 1)), (some (111, false)), []⟩,
    ⟨(some 114), (.call (.f 17) [(.t 112), (.t 113)]), (some (111, false)), []⟩,
    ⟨(some 115), (.mov (.t 114)), (some (111, false)), []⟩,
    ⟨(some 116), (.load (some 2) (.t 10)), (some (115, true)), []⟩,
    ⟨(some 117), (.mov (.t 1)), (some (115, true)), []⟩,
    ⟨(some 118), (.call (.f 17) [(.t 116), (.t 117)]), (some (115, true)), []⟩,
    ⟨(some 119), (.un .not (.t 118)), (some (115, true)), []⟩,
    ⟨(some 120), (.pick (.t 115) (.t 119) (.c (.bool false))), (some (111, false)), []⟩,
    ⟨(some 121), (.pick (.t 111) (.c (.bool true)) (.t 120)), none, []⟩] none)
  (.cond (.t 121)
  (.seq (.region [⟨(some 8), (.mov (.c (.bool false))), none, []⟩] none)
  .ret)
  .skip))
  (.seq (.region [⟨(some 122), (.mov (.t 3)), none, []⟩,
    ⟨(some 123), (.mov (.t 3)), none, []⟩,
    ⟨(some 124), (.lenStr (.t 123)), none, []⟩,
    ⟨(some 125), (.min [(.t 124), (.c (.int .i64 30))]), none, []⟩,
    ⟨(some 126), (.sliceStr (.t 122) none (some (.t 125))), none, []⟩,
    ⟨(some 3), (.mov (.t 126)), none, []⟩] none)
  (.seq (.region [⟨(some 128), (.mov (.t 3)), none, []⟩,
    ⟨(some 129), (.call (.f 9) [(.t 128)]), none, []⟩,
    ⟨(some 127), (.mov (.t 129)), none, []⟩,
    ⟨(some 130), (.extract (.t 127) 0), none, []⟩,
    ⟨(some 131), (.extract (.t 127) 1), none, []⟩,
    ⟨(some 17), (.mov (.t 130)), none, []⟩,
    ⟨(some 18), (.mov (.t 131)), none, []⟩] none)
  (.seq (.region [⟨(some 133), (.mov (.t 3)), none, []⟩,
    ⟨(some 134), (.call (.f 11) [(.t 133)]), none, []⟩,
    ⟨(some 132), (.mov (.t 134)), none, []⟩,
    ⟨(some 135), (.extract (.t 132) 0), none, []⟩,
    ⟨(some 136), (.extract (.t 132) 1), none, []⟩,
    ⟨(some 19), (.alloc 25 [(.int .u32 0), (.int .i64 0)]), none, []⟩,
    ⟨none, (.store 2 (.t 19) (.t 135)), none, []⟩,
    ⟨(some 20), (.mov (.t 136)), none, []⟩] none)
  (.seq (.seq (.region [⟨(some 137), (.mov (.t 18)), none, []⟩,
    ⟨(some 138), (.bin .eql (.t 137) (.c (.int .i64 0))), none, []⟩,
    ⟨(some 139), (.mov (.t 138)), none, []⟩,
    ⟨(some 140), (.mov (.t 17)), (some (139, true)), []⟩,
    ⟨(some 141), (.call (.f 13) [(.t 140)]), (some (139, true)), []⟩,
    ⟨(some 142), (.mov (.t 3)), (some (139, true)), []⟩,
    ⟨(some 143), (.bin .neq (.t 141) (.t 142)), (some (139, true)), []⟩,
    ⟨(some 144), (.pick (.t 139) (.t 143) (.c (.bool false))), none, []⟩,
    ⟨(some 145), (.mov (.t 144)), none, []⟩,
    ⟨(some 146), (.mov (.t 18)), (some (145, false)), []⟩,
    ⟨(some 147), (.bin .neq (.t 146) (.c (.int .i64 0))), (some (145, false)), []⟩,
    ⟨(some 148), (.mov (.t 147)), (some (145, false)), []⟩,
    ⟨(some 149), (.mov (.t 17)), (some (148, true)), []⟩,
    ⟨(some 150), (.bin .neq (.t 149) (.c (.int .u32 0))), (some (148, true)), []⟩,
    ⟨(some 151), (.pick (.t 148) (.t 150) (.c (.bool false))), (some (145, false)), []⟩,
    ⟨(some 152), (.pick (.t 145) (.c (.bool true)) (.t 151)), none, []⟩,
    ⟨(some 153), (.mov (.t 152)), none, []⟩,
    ⟨(some 154), (.mov (.t 20)), (some (153, false)), []⟩,
    ⟨(some 155), (.bin .neq (.t 154) (.c (.int .i64 0))), (some (153, false)), []⟩,
    ⟨(some 156), (.mov (.t 155)), (some (153, false)), []⟩,
    ⟨(some 157), (.load (some 2) (.t 19)), (some (156, true)), []⟩,
    ⟨(some 158), (.build [(.int .u32 0), (.int .i64 0)] []), (some (156, true)), []⟩,
    ⟨(some 159), (.eqAgg true [.int, .int] (.t 157) (.t 158)), (some (156, true)), []⟩,
    ⟨(some 160), (.pick (.t 156) (.t 159) (.c (.bool false))), (some (153, false)), []⟩,
    ⟨(some 161), (.pick (.t 153) (.c (.bool true)) (.t 160)), none, []⟩] none)
  (.cond (.t 161)
  (.seq (.region [⟨(some 8), (.mov (.c (.bool false))), none, []⟩] none)
  .ret)
  .skip))
  (.seq (.region [⟨(some 163), (.load (some 2) (.t 19)), none, []⟩,
    ⟨(some 164), (.call (.f 15) [(.t 163)]), none, []⟩,
    ⟨(some 165), (.call (.f 11) [(.t 164)]), none, []⟩,
    ⟨(some 162), (.mov (.t 165)), none, []⟩,
    ⟨(some 166), (.extract (.t 162) 0), none, []⟩,
    ⟨(some 167), (.extract (.t 162) 1), none, []⟩,
    ⟨(some 21), (.alloc 25 [(.int .u32 0), (.int .i64 0)]), none, []⟩,
    ⟨none, (.store 2 (.t 21) (.t 166)), none, []⟩,
    ⟨(some 22), (.mov (.t 167)), none, []⟩] none)
  (.seq (.region [⟨(some 168), (.mov (.t 20)), none, []⟩,
    ⟨(some 169), (.bin .neq (.t 168) (.c (.int .i64 0))), none, []⟩,
    ⟨(some 170), (.mov (.t 169)), none, []⟩,
    ⟨(some 171), (.mov (.t 22)), (some (170, false)), []⟩,
    ⟨(some 172), (.bin .eql (.t 171) (.c (.int .i64 0))), (some (170, false)), []⟩,
    ⟨(some 173), (.mov (.t 172)), (some (170, false)), []⟩,
    ⟨(some 174), (.load (some 2) (.t 21)), (some (173, true)), []⟩,
    ⟨(some 175), (.load (some 2) (.t 19)), (some (173, true)), []⟩,
    ⟨(some 176), (.eqAgg false [.int, .int] (.t 174) (.t 175)), (some (173, true)), []⟩,
    ⟨(some 177), (.pick (.t 173) (.t 176) (.c (.bool false))), (some (170, false)), []⟩,
    ⟨(some 178), (.pick (.t 170) (.c (.bool true)) (.t 177)), none, []⟩,
    ⟨(some 179), (.mov (.t 178)), none, []⟩,
    ⟨(some 180), (.call (.f 19) []), (some (179, true)), []⟩,
    ⟨(some 181), (.pick (.t 179) (.t 180) (.c (.bool false))), none, []⟩,
    ⟨(some 8), (.mov (.t 181)), none, []⟩] none)
  .ret)))))))))))))))
def F4 : AFunc := ⟨4, 182, [(.tmp 8)], B4⟩
def R5_0 : ACode := .region [⟨(some 10), (.fieldAddr 10 (.t 2)), none, []⟩,
    ⟨(some 11), (.load none (.t 10)), none, [0]⟩,
    ⟨(some 12), (.fieldAddr 10 (.t 2)), none, []⟩,
    ⟨(some 13), (.load none (.t 12)), none, [2]⟩,
    ⟨(some 14), (.lenSlice (.t 13)), none, [3]⟩,
    ⟨(some 15), (.min [(.t 14), (.c (.int .i64 60))]), none, [4]⟩,
    ⟨(some 16), (.slice 1 (.t 11) none (some (.t 15)) none), none, [1, 5]⟩,
    ⟨(some 17), (.append 5 1 1 (.c (.slice none 0 0)) (.t 16)), none, [6]⟩,
    ⟨(some 18), (.mov (.t 1)), none, []⟩,
    ⟨(some 19), (.mov (.t 1)), none, []⟩,
    ⟨(some 20), (.lenSlice (.t 19)), none, [9]⟩,
    ⟨(some 21), (.min [(.t 20), (.c (.int .i64 300))]), none, [10]⟩,
    ⟨(some 22), (.slice 1 (.t 18) none (some (.t 21)) none), none, [8, 11]⟩,
    ⟨(some 23), (.fieldAddr 10 (.t 2)), none, [0, 1, 2, 3, 4, 5, 6, 7]⟩,
    ⟨none, (.store 1 (.t 23) (.t 17)), none, [13, 7, 7, 0, 1, 2, 3, 4, 5, 6, 7]⟩,
    ⟨(some 1), (.mov (.t 22)), none, [12, 14, 0, 1, 2, 3, 4, 5, 6, 7, 8, 9, 10, 11, 12, 13, 14]⟩] (some [(0, 2), (1, 2), (0, 3), (1, 3), (0, 4), (1, 4), (0, 5), (1, 5), (0, 8), (1, 8), (2, 8), (3, 8), (4, 8), (5, 8), (6, 8), (7, 8), (0, 9), (1, 9), (2, 9), (3, 9), (4, 9), (5, 9), (6, 9), (7, 9), (8, 9), (0, 10), (1, 10), (2, 10), (3, 10), (4, 10), (5, 10), (6, 10), (7, 10), (8, 10), (0, 11), (1, 11), (2, 11), (3, 11), (4, 11), (5, 11), (6, 11), (7, 11), (8, 11), (0, 12), (1, 12), (2, 12), (3, 12), (4, 12), (5, 12), (6, 12), (7, 12), (8, 13), (9, 13), (10, 13), (11, 13), (12, 13), (8, 14), (9, 14), (10, 14), (11, 14), (12, 14)])
def R5_1 : ACode := .region [⟨(some 39), (.mov (.t 6)), none, []⟩,
    ⟨(some 40), (.strOf (.t 39)), none, [0]⟩,
    ⟨(some 41), (.mov (.t 8)), none, []⟩,
    ⟨(some 42), (.strOf (.t 41)), none, [2]⟩,
    ⟨(some 43), (.bin .eql (.t 40) (.t 42)), none, [1, 3]⟩,
    ⟨(some 44), (.mov (.t 43)), none, [4]⟩,
    ⟨(some 45), (.mov (.t 7)), (some (44, true)), [5]⟩,
    ⟨(some 46), (.mov (.t 9)), (some (44, true)), [5]⟩,
    ⟨(some 47), (.bin .eql (.t 45) (.t 46)), (some (44, true)), [6, 7, 5]⟩,
    ⟨(some 48), (.pick (.t 44) (.t 47) (.c (.bool false))), none, [5, 8]⟩,
    ⟨(some 49), (.mov (.t 48)), none, [9, 5]⟩,
    ⟨(some 50), (.mov (.t 5)), (some (49, true)), [10]⟩,
    ⟨(some 51), (.call (.f 23) [(.t 50)]), (some (49, true)), [11, 10, 10]⟩,
    ⟨(some 52), (.mov (.t 1)), (some (49, true)), [10]⟩,
    ⟨(some 53), (.call (.f 24) [(.t 52)]), (some (49, true)), [13, 12, 10]⟩,
    ⟨(some 54), (.bin .eql (.t 51) (.t 53)), (some (49, true)), [12, 14, 10]⟩,
    ⟨(some 55), (.pick (.t 49) (.t 54) (.c (.bool false))), none, [10, 15]⟩,
    ⟨(some 56), (.mov (.t 55)), none, [16, 14]⟩,
    ⟨(some 57), (.mov (.t 5)), (some (56, true)), [17]⟩,
    ⟨(some 58), (.strOf (.t 57)), (some (56, true)), [18, 17]⟩,
    ⟨(some 59), (.mov (.t 1)), (some (56, true)), [17]⟩,
    ⟨(some 60), (.strOf (.t 59)), (some (56, true)), [20, 17]⟩,
    ⟨(some 61), (.bin .eql (.t 58) (.t 60)), (some (56, true)), [19, 21, 17]⟩,
    ⟨(some 62), (.pick (.t 56) (.t 61) (.c (.bool false))), none, [17, 22]⟩,
    ⟨(some 63), (.mov (.t 62)), none, [23, 17]⟩,
    ⟨(some 64), (.load (some 11) (.t 2)), (some (63, true)), [24]⟩,
    ⟨(some 65), (.call (.f 25) [(.t 64)]), (some (63, true)), [25, 24, 24]⟩,
    ⟨(some 66), (.fieldAddr 7 (.t 2)), (some (63, true)), [24]⟩,
    ⟨(some 67), (.load none (.t 66)), (some (63, true)), [27, 24]⟩,
    ⟨(some 68), (.bin .eql (.t 67) (.c (.int .i64 0))), (some (63, true)), [28, 24]⟩,
    ⟨(some 69), (.mov (.t 68)), (some (63, true)), [29, 26, 24]⟩,
    ⟨(some 70), (.fieldAddr 6 (.t 2)), (some (69, true)), [30]⟩,
    ⟨(some 71), (.load none (.t 70)), (some (69, true)), [31, 30]⟩,
    ⟨(some 72), (.pick (.t 69) (.t 71) (.c (.bool false))), (some (63, true)), [30, 32, 24]⟩,
    ⟨(some 73), (.eqv false .bool false (.t 65) (.t 72)), (some (63, true)), [26, 33, 24]⟩,
    ⟨(some 74), (.pick (.t 63) (.t 73) (.c (.bool false))), none, [24, 34]⟩,
    ⟨(some 75), (.mov (.t 74)), none, [35, 30]⟩,
    ⟨(some 76), (.load (some 11) (.t 2)), (some (75, true)), [36]⟩,
    ⟨(some 77), (.call (.f 26) [(.t 76)]), (some (75, true)), [37, 36, 36]⟩,
    ⟨(some 78), (.fieldAddr 7 (.t 2)), (some (75, true)), [36]⟩,
    ⟨(some 79), (.load none (.t 78)), (some (75, true)), [39, 36]⟩,
    ⟨(some 80), (.bin .gtr (.t 79) (.c (.int .i64 0))), (some (75, true)), [40, 36]⟩,
    ⟨(some 81), (.eqv false .bool false (.t 77) (.t 80)), (some (75, true)), [38, 41, 36]⟩,
    ⟨(some 82), (.pick (.t 75) (.t 81) (.c (.bool false))), none, [36, 42]⟩,
    ⟨(some 83), (.mov (.t 82)), none, [43, 38]⟩,
    ⟨(some 84), (.call (.f 19) []), (some (83, true)), [44, 44]⟩,
    ⟨(some 85), (.pick (.t 83) (.t 84) (.c (.bool false))), none, [44, 45]⟩,
    ⟨(some 4), (.mov (.t 85)), none, [46, 45, 0, 1, 2, 3, 4, 5, 6, 7, 8, 9, 10, 11, 12, 13, 14, 15, 16, 17, 18, 19, 20, 21, 22, 23, 24, 25, 26, 27, 28, 29, 30, 31, 32, 33, 34, 35, 36, 37, 38, 39, 40, 41, 42, 43, 44, 45, 46]⟩] (some [(0, 2), (1, 2), (0, 3), (1, 3), (6, 7), (11, 13), (12, 13), (18, 20), (19, 20), (18, 21), (19, 21), (25, 27), (26, 27), (25, 28), (26, 28), (25, 29), (26, 29), (37, 39), (38, 39), (37, 40), (38, 40), (37, 41), (38, 41)])
/-- toll/tolllaw06.InetPuts -/
def B5 : ACode := (.seq (.region [⟨(some 2), (.box 47 (.t 0)), none, []⟩,
    ⟨(some 4), (.mov (.c (.bool false))), none, []⟩] none)
  (.seq R5_0
  (.seq (.region [⟨(some 24), (.mov (.t 1)), none, []⟩,
    ⟨(some 25), (.append 5 1 1 (.c (.slice none 0 0)) (.t 24)), none, []⟩,
    ⟨(some 5), (.mov (.t 25)), none, []⟩] none)
  (.seq (.region [⟨(some 27), (.load (some 11) (.t 2)), none, []⟩,
    ⟨(some 28), (.mov (.t 5)), none, []⟩,
    ⟨(some 29), (.call (.f 20) [(.t 27), (.t 28)]), none, []⟩,
    ⟨(some 26), (.mov (.t 29)), none, []⟩,
    ⟨(some 30), (.extract (.t 26) 0), none, []⟩,
    ⟨(some 31), (.extract (.t 26) 1), none, []⟩,
    ⟨(some 6), (.mov (.t 30)), none, []⟩,
    ⟨(some 7), (.mov (.t 31)), none, []⟩] none)
  (.seq (.region [⟨(some 33), (.load (some 11) (.t 2)), none, []⟩,
    ⟨(some 34), (.call (.f 22) [(.t 33)]), none, []⟩,
    ⟨(some 35), (.mov (.t 1)), none, []⟩,
    ⟨(some 36), (.call (.f 21) [(.t 34), (.t 35)]), none, []⟩,
    ⟨(some 32), (.mov (.t 36)), none, []⟩,
    ⟨(some 37), (.extract (.t 32) 0), none, []⟩,
    ⟨(some 38), (.extract (.t 32) 1), none, []⟩,
    ⟨(some 8), (.mov (.t 37)), none, []⟩,
    ⟨(some 9), (.mov (.t 38)), none, []⟩] none)
  (.seq R5_1
  .ret))))))
def F5 : AFunc := ⟨2, 86, [(.tmp 4)], B5⟩
def R6_0 : ACode := .region [⟨(some 60), (.load (some 11) (.t 4)), none, []⟩,
    ⟨(some 61), (.call (.f 22) [(.t 60)]), none, [0]⟩,
    ⟨(some 62), (.load (some 11) (.t 11)), none, []⟩,
    ⟨(some 63), (.call (.f 30) [(.t 61), (.t 62)]), none, [1, 2, 1]⟩,
    ⟨(some 64), (.mov (.t 63)), none, [3, 3]⟩,
    ⟨(some 65), (.mov (.t 5)), (some (64, true)), [4]⟩,
    ⟨(some 66), (.strOf (.t 65)), (some (64, true)), [5, 4]⟩,
    ⟨(some 67), (.mov (.t 12)), (some (64, true)), [4]⟩,
    ⟨(some 68), (.strOf (.t 67)), (some (64, true)), [7, 4]⟩,
    ⟨(some 69), (.bin .eql (.t 66) (.t 68)), (some (64, true)), [6, 8, 4]⟩,
    ⟨(some 70), (.pick (.t 64) (.t 69) (.c (.bool false))), none, [4, 9]⟩,
    ⟨(some 71), (.mov (.t 70)), none, [10, 4]⟩,
    ⟨(some 72), (.mov (.t 6)), (some (71, true)), [11]⟩,
    ⟨(some 73), (.mov (.t 13)), (some (71, true)), [11]⟩,
    ⟨(some 74), (.bin .eql (.t 72) (.t 73)), (some (71, true)), [12, 13, 11]⟩,
    ⟨(some 75), (.pick (.t 71) (.t 74) (.c (.bool false))), none, [11, 14]⟩,
    ⟨(some 76), (.mov (.t 75)), none, [15, 11]⟩,
    ⟨(some 77), (.load (some 11) (.t 7)), (some (76, true)), [16]⟩,
    ⟨(some 78), (.call (.f 22) [(.t 77)]), (some (76, true)), [17, 16, 16]⟩,
    ⟨(some 79), (.load (some 11) (.t 14)), (some (76, true)), [16]⟩,
    ⟨(some 80), (.call (.f 30) [(.t 78), (.t 79)]), (some (76, true)), [18, 19, 18, 16]⟩,
    ⟨(some 81), (.pick (.t 76) (.t 80) (.c (.bool false))), none, [16, 20]⟩,
    ⟨(some 82), (.mov (.t 81)), none, [21, 20]⟩,
    ⟨(some 83), (.mov (.t 8)), (some (82, true)), [22]⟩,
    ⟨(some 84), (.strOf (.t 83)), (some (82, true)), [23, 22]⟩,
    ⟨(some 85), (.mov (.t 15)), (some (82, true)), [22]⟩,
    ⟨(some 86), (.strOf (.t 85)), (some (82, true)), [25, 22]⟩,
    ⟨(some 87), (.bin .eql (.t 84) (.t 86)), (some (82, true)), [24, 26, 22]⟩,
    ⟨(some 88), (.pick (.t 82) (.t 87) (.c (.bool false))), none, [22, 27]⟩,
    ⟨(some 89), (.mov (.t 88)), none, [28, 22]⟩,
    ⟨(some 90), (.mov (.t 9)), (some (89, true)), [29]⟩,
    ⟨(some 91), (.mov (.t 16)), (some (89, true)), [29]⟩,
    ⟨(some 92), (.bin .eql (.t 90) (.t 91)), (some (89, true)), [30, 31, 29]⟩,
    ⟨(some 93), (.pick (.t 89) (.t 92) (.c (.bool false))), none, [29, 32]⟩,
    ⟨(some 94), (.mov (.t 93)), none, [33, 29]⟩,
    ⟨(some 95), (.call (.f 19) []), (some (94, true)), [34, 34]⟩,
    ⟨(some 96), (.pick (.t 94) (.t 95) (.c (.bool false))), none, [34, 35]⟩,
    ⟨(some 2), (.mov (.t 96)), none, [36, 35, 0, 1, 2, 3, 4, 5, 6, 7, 8, 9, 10, 11, 12, 13, 14, 15, 16, 17, 18, 19, 20, 21, 22, 23, 24, 25, 26, 27, 28, 29, 30, 31, 32, 33, 34, 35, 36]⟩] (some [(0, 2), (1, 2), (5, 7), (6, 7), (5, 8), (6, 8), (12, 13), (17, 19), (18, 19), (23, 25), (24, 25), (23, 26), (24, 26), (30, 31)])
/-- toll/tolllaw06.InetGets -/
def F6L0 : ACode := (.seq (.seq (.region [⟨(some 36), (.mov (.t 10)), none, []⟩,
    ⟨(some 37), (.mov (.t 3)), none, []⟩,
    ⟨(some 38), (.lenSlice (.t 37)), none, []⟩,
    ⟨(some 39), (.bin .lss (.t 36) (.t 38)), none, []⟩] none)
  (.cond (.t 39)
  .skip
  (.exit 0)))
  (.seq (.block 1 (.region [⟨(some 42), (.mov (.t 3)), none, []⟩,
    ⟨(some 43), (.mov (.t 10)), none, []⟩,
    ⟨(some 44), (.indexAddr 1 (.t 42) (.t 43)), none, []⟩,
    ⟨(some 45), (.load none (.t 44)), none, []⟩,
    ⟨(some 46), (.bin .xor (.t 45) (.c (.int .u8 255))), none, []⟩,
    ⟨(some 47), (.indexAddr 1 (.t 42) (.t 43)), none, []⟩,
    ⟨none, (.store 1 (.t 47) (.t 46)), none, []⟩] none))
  (.region [⟨(some 40), (.mov (.t 10)), none, []⟩,
    ⟨(some 41), (.bin .add (.t 40) (.c (.int .i64 1))), none, []⟩,
    ⟨(some 10), (.mov (.t 41)), none, []⟩] none)))
def B6 : ACode := (.seq (.region [⟨(some 2), (.mov (.c (.bool false))), none, []⟩] none)
  (.seq (.region [⟨(some 17), (.mov (.t 0)), none, []⟩,
    ⟨(some 18), (.mov (.t 0)), none, []⟩,
    ⟨(some 19), (.lenSlice (.t 18)), none, []⟩,
    ⟨(some 20), (.min [(.t 19), (.c (.int .i64 400))]), none, []⟩,
    ⟨(some 21), (.slice 1 (.t 17) none (some (.t 20)) none), none, []⟩,
    ⟨(some 0), (.mov (.t 21)), none, []⟩] none)
  (.seq (.region [⟨(some 22), (.mov (.t 0)), none, []⟩,
    ⟨(some 23), (.append 5 1 1 (.c (.slice none 0 0)) (.t 22)), none, []⟩,
    ⟨(some 3), (.mov (.t 23)), none, []⟩] none)
  (.seq (.region [⟨(some 25), (.mov (.t 3)), none, []⟩,
    ⟨(some 26), (.call (.f 27) [(.t 25)]), none, []⟩,
    ⟨(some 24), (.mov (.t 26)), none, []⟩,
    ⟨(some 27), (.extract (.t 24) 0), none, []⟩,
    ⟨(some 28), (.extract (.t 24) 1), none, []⟩,
    ⟨(some 29), (.extract (.t 24) 2), none, []⟩,
    ⟨(some 4), (.alloc 47 [(.int .u8 0), (.int .u8 0), (.int .u8 0), (.int .u16 0), (.bool false), (.bool false), (.bool false), (.int .i64 0), (.int .u32 0), (.int .u32 0), (.slice none 0 0)]), none, []⟩,
    ⟨none, (.store 11 (.t 4) (.t 27)), none, []⟩,
    ⟨(some 5), (.mov (.t 28)), none, []⟩,
    ⟨(some 6), (.mov (.t 29)), none, []⟩] none)
  (.seq (.region [⟨(some 31), (.mov (.t 3)), none, []⟩,
    ⟨(some 32), (.call (.f 28) [(.t 31)]), none, []⟩,
    ⟨(some 30), (.mov (.t 32)), none, []⟩,
    ⟨(some 33), (.extract (.t 30) 0), none, []⟩,
    ⟨(some 34), (.extract (.t 30) 1), none, []⟩,
    ⟨(some 35), (.extract (.t 30) 2), none, []⟩,
    ⟨(some 7), (.alloc 47 [(.int .u8 0), (.int .u8 0), (.int .u8 0), (.int .u16 0), (.bool false), (.bool false), (.bool false), (.int .i64 0), (.int .u32 0), (.int .u32 0), (.slice none 0 0)]), none, []⟩,
    ⟨none, (.store 11 (.t 7) (.t 33)), none, []⟩,
    ⟨(some 8), (.mov (.t 34)), none, []⟩,
    ⟨(some 9), (.mov (.t 35)), none, []⟩] none)
  (.seq (.seq (.region [⟨(some 10), (.mov (.c (.int .i64 0))), none, []⟩] none)
  (.block 0 (.loop F6L0)))
  (.seq (.region [⟨(some 49), (.mov (.t 0)), none, []⟩,
    ⟨(some 50), (.call (.f 29) [(.t 49), (.c (.bool true))]), none, []⟩,
    ⟨(some 48), (.mov (.t 50)), none, []⟩,
    ⟨(some 51), (.extract (.t 48) 0), none, []⟩,
    ⟨(some 52), (.extract (.t 48) 1), none, []⟩,
    ⟨(some 53), (.extract (.t 48) 2), none, []⟩,
    ⟨(some 11), (.alloc 53 [(.int .u8 0), (.int .u8 0), (.int .u8 0), (.int .u16 0), (.bool false), (.bool false), (.bool false), (.int .i64 0), (.int .u32 0), (.int .u32 0), (.slice none 0 0)]), none, []⟩,
    ⟨none, (.store 11 (.t 11) (.t 51)), none, []⟩,
    ⟨(some 12), (.mov (.t 52)), none, []⟩,
    ⟨(some 13), (.mov (.t 53)), none, []⟩] none)
  (.seq (.region [⟨(some 55), (.mov (.t 0)), none, []⟩,
    ⟨(some 56), (.call (.f 29) [(.t 55), (.c (.bool false))]), none, []⟩,
    ⟨(some 54), (.mov (.t 56)), none, []⟩,
    ⟨(some 57), (.extract (.t 54) 0), none, []⟩,
    ⟨(some 58), (.extract (.t 54) 1), none, []⟩,
    ⟨(some 59), (.extract (.t 54) 2), none, []⟩,
    ⟨(some 14), (.alloc 53 [(.int .u8 0), (.int .u8 0), (.int .u8 0), (.int .u16 0), (.bool false), (.bool false), (.bool false), (.int .i64 0), (.int .u32 0), (.int .u32 0), (.slice none 0 0)]), none, []⟩,
    ⟨none, (.store 11 (.t 14) (.t 57)), none, []⟩,
    ⟨(some 15), (.mov (.t 58)), none, []⟩,
    ⟨(some 16), (.mov (.t 59)), none, []⟩] none)
  (.seq R6_0
  .ret)))))))))
def F6 : AFunc := ⟨1, 97, [(.tmp 2)], B6⟩
-- F6L0 live: [0, 3, 4, 5, 6, 7, 8, 9, 10]
def R7_0 : ACode := .region [⟨(some 59), (.mov (.t 9)), none, []⟩,
    ⟨(some 60), (.append 5 1 1 (.c (.slice none 0 0)) (.t 59)), none, [0]⟩,
    ⟨(some 61), (.mov (.t 2)), none, []⟩,
    ⟨(some 62), (.mov (.t 2)), none, []⟩,
    ⟨(some 63), (.lenSlice (.t 62)), none, [3]⟩,
    ⟨(some 64), (.min [(.t 63), (.c (.int .i64 20))]), none, [4]⟩,
    ⟨(some 65), (.slice 1 (.t 61) none (some (.t 64)) none), none, [2, 5]⟩,
    ⟨(some 66), (.append 5 1 1 (.t 60) (.t 65)), none, [1, 6, 1]⟩,
    ⟨(some 67), (.call (.f 27) [(.t 66)]), none, [7, 7]⟩,
    ⟨(some 58), (.mov (.t 67)), none, [8]⟩,
    ⟨(some 68), (.extract (.t 58) 0), none, [9]⟩,
    ⟨(some 69), (.extract (.t 58) 1), none, [9]⟩,
    ⟨(some 70), (.extract (.t 58) 2), none, [9]⟩,
    ⟨(some 11), (.alloc 47 [(.int .u8 0), (.int .u8 0), (.int .u8 0), (.int .u16 0), (.bool false), (.bool false), (.bool false), (.int .i64 0), (.int .u32 0), (.int .u32 0), (.slice none 0 0)]), none, []⟩,
    ⟨none, (.store 11 (.t 11) (.t 68)), none, [13, 10, 8, 0, 1, 2, 3, 4, 5, 6, 7, 8, 9, 10, 13]⟩,
    ⟨(some 12), (.mov (.t 69)), none, [11, 14, 0, 1, 2, 3, 4, 5, 6, 7, 8, 9, 10, 11, 13, 14]⟩,
    ⟨(some 13), (.mov (.t 70)), none, [12, 15, 0, 1, 2, 3, 4, 5, 6, 7, 8, 9, 10, 11, 12, 13, 14, 15]⟩] (some [(0, 2), (1, 2), (0, 3), (1, 3), (2, 3), (0, 4), (1, 4), (2, 4), (0, 5), (1, 5), (2, 5), (0, 6), (1, 6), (10, 11), (10, 12), (11, 12), (0, 13), (1, 13), (2, 13), (3, 13), (4, 13), (5, 13), (6, 13), (7, 13), (8, 13), (9, 13), (10, 13), (11, 13), (12, 13), (11, 14), (12, 14), (12, 15)])
def R7_1 : ACode := .region [⟨(some 71), (.mov (.t 13)), none, []⟩,
    ⟨(some 72), (.bin .neq (.t 71) (.c (.int .i64 0))), none, [0]⟩,
    ⟨(some 73), (.mov (.t 72)), none, [1]⟩,
    ⟨(some 74), (.load (some 11) (.t 11)), (some (73, false)), [2]⟩,
    ⟨(some 75), (.call (.f 22) [(.t 74)]), (some (73, false)), [3, 2, 2]⟩,
    ⟨(some 76), (.load (some 11) (.t 4)), (some (73, false)), [2]⟩,
    ⟨(some 77), (.call (.f 22) [(.t 76)]), (some (73, false)), [5, 4, 2]⟩,
    ⟨(some 78), (.call (.f 30) [(.t 75), (.t 77)]), (some (73, false)), [4, 6, 6, 2]⟩,
    ⟨(some 79), (.un .not (.t 78)), (some (73, false)), [7, 2]⟩,
    ⟨(some 80), (.pick (.t 73) (.c (.bool true)) (.t 79)), none, [2, 8]⟩,
    ⟨(some 81), (.mov (.t 80)), none, [9, 7]⟩,
    ⟨(some 82), (.mov (.t 12)), (some (81, false)), [10]⟩,
    ⟨(some 83), (.strOf (.t 82)), (some (81, false)), [11, 10]⟩,
    ⟨(some 84), (.mov (.t 1)), (some (81, false)), [10]⟩,
    ⟨(some 85), (.strOf (.t 84)), (some (81, false)), [13, 10]⟩,
    ⟨(some 86), (.bin .neq (.t 83) (.t 85)), (some (81, false)), [12, 14, 10]⟩,
    ⟨(some 87), (.pick (.t 81) (.c (.bool true)) (.t 86)), none, [10, 15]⟩] (some [(3, 5), (4, 5), (11, 13), (12, 13), (11, 14), (12, 14)])
def R7_2 : ACode := .region [⟨(some 118), (.mov (.t 20)), none, []⟩,
    ⟨(some 119), (.bin .eql (.t 118) (.c (.int .i64 0))), none, [0]⟩,
    ⟨(some 120), (.mov (.t 119)), none, [1]⟩,
    ⟨(some 121), (.load (some 11) (.t 18)), (some (120, true)), [2]⟩,
    ⟨(some 122), (.call (.f 22) [(.t 121)]), (some (120, true)), [3, 2, 2]⟩,
    ⟨(some 123), (.load (some 11) (.t 4)), (some (120, true)), [2]⟩,
    ⟨(some 124), (.call (.f 22) [(.t 123)]), (some (120, true)), [5, 4, 2]⟩,
    ⟨(some 125), (.call (.f 30) [(.t 122), (.t 124)]), (some (120, true)), [4, 6, 6, 2]⟩,
    ⟨(some 126), (.pick (.t 120) (.t 125) (.c (.bool false))), none, [2, 7]⟩,
    ⟨(some 127), (.mov (.t 126)), none, [8, 7]⟩,
    ⟨(some 128), (.mov (.t 19)), (some (127, true)), [9]⟩,
    ⟨(some 129), (.strOf (.t 128)), (some (127, true)), [10, 9]⟩,
    ⟨(some 130), (.mov (.t 1)), (some (127, true)), [9]⟩,
    ⟨(some 131), (.mov (.t 14)), (some (127, true)), [9]⟩,
    ⟨(some 132), (.mov (.t 21)), (some (127, true)), [9]⟩,
    ⟨(some 133), (.bin .sub (.t 131) (.t 132)), (some (127, true)), [13, 14, 9]⟩,
    ⟨(some 134), (.slice 1 (.t 130) none (some (.t 133)) none), (some (127, true)), [12, 15, 9]⟩,
    ⟨(some 135), (.strOf (.t 134)), (some (127, true)), [16, 9]⟩,
    ⟨(some 136), (.bin .eql (.t 129) (.t 135)), (some (127, true)), [11, 17, 9]⟩,
    ⟨(some 137), (.pick (.t 127) (.t 136) (.c (.bool false))), none, [9, 18]⟩,
    ⟨(some 138), (.mov (.t 137)), none, [19, 9]⟩,
    ⟨(some 139), (.call (.f 19) []), (some (138, true)), [20, 20]⟩,
    ⟨(some 140), (.pick (.t 138) (.t 139) (.c (.bool false))), none, [20, 21]⟩,
    ⟨(some 8), (.mov (.t 140)), none, [22, 21, 0, 1, 2, 3, 4, 5, 6, 7, 8, 9, 10, 11, 12, 13, 14, 15, 16, 17, 18, 19, 20, 21, 22]⟩] (some [(3, 5), (4, 5), (10, 12), (11, 12), (10, 13), (11, 13), (12, 13), (10, 14), (11, 14), (12, 14), (13, 14), (10, 15), (11, 15), (12, 15), (10, 16), (11, 16), (10, 17), (11, 17)])
/-- toll/tolllaw06.InetBack -/
def B7 : ACode := (.seq (.region [⟨(some 4), (.box 47 (.t 0)), none, []⟩,
    ⟨(some 8), (.mov (.c (.bool false))), none, []⟩] none)
  (.seq (.region [⟨(some 23), (.load (some 11) (.t 4)), none, []⟩,
    ⟨(some 24), (.mov (.t 1)), none, []⟩,
    ⟨(some 25), (.call (.f 31) [(.t 23), (.t 24)]), none, []⟩,
    ⟨(some 22), (.mov (.t 25)), none, []⟩,
    ⟨(some 26), (.extract (.t 22) 0), none, []⟩,
    ⟨(some 27), (.extract (.t 22) 1), none, []⟩,
    ⟨none, (.store 11 (.t 4) (.t 26)), none, []⟩,
    ⟨(some 1), (.mov (.t 27)), none, []⟩] none)
  (.seq (.region [⟨(some 29), (.load (some 11) (.t 4)), none, []⟩,
    ⟨(some 30), (.mov (.t 1)), none, []⟩,
    ⟨(some 31), (.call (.f 20) [(.t 29), (.t 30)]), none, []⟩,
    ⟨(some 28), (.mov (.t 31)), none, []⟩,
    ⟨(some 32), (.extract (.t 28) 0), none, []⟩,
    ⟨(some 33), (.extract (.t 28) 1), none, []⟩,
    ⟨(some 9), (.mov (.t 32)), none, []⟩,
    ⟨(some 10), (.mov (.t 33)), none, []⟩] none)
  (.seq (.seq (.region [⟨(some 34), (.mov (.t 10)), none, []⟩,
    ⟨(some 35), (.bin .neq (.t 34) (.c (.int .i64 0))), none, []⟩,
    ⟨(some 36), (.mov (.t 35)), none, []⟩,
    ⟨(some 37), (.mov (.t 9)), (some (36, false)), []⟩,
    ⟨(some 38), (.lenSlice (.t 37)), (some (36, false)), []⟩,
    ⟨(some 39), (.fieldAddr 10 (.t 4)), (some (36, false)), []⟩,
    ⟨(some 40), (.load none (.t 39)), (some (36, false)), []⟩,
    ⟨(some 41), (.lenSlice (.t 40)), (some (36, false)), []⟩,
    ⟨(some 42), (.bin .add (.c (.int .i64 20)) (.t 41)), (some (36, false)), []⟩,
    ⟨(some 43), (.mov (.t 1)), (some (36, false)), []⟩,
    ⟨(some 44), (.lenSlice (.t 43)), (some (36, false)), []⟩,
    ⟨(some 45), (.bin .add (.t 42) (.t 44)), (some (36, false)), []⟩,
    ⟨(some 46), (.bin .neq (.t 38) (.t 45)), (some (36, false)), []⟩,
    ⟨(some 47), (.pick (.t 36) (.c (.bool true)) (.t 46)), none, []⟩,
    ⟨(some 48), (.mov (.t 47)), none, []⟩,
    ⟨(some 49), (.mov (.t 9)), (some (48, false)), []⟩,
    ⟨(some 50), (.fieldAddr 10 (.t 4)), (some (48, false)), []⟩,
    ⟨(some 51), (.load none (.t 50)), (some (48, false)), []⟩,
    ⟨(some 52), (.lenSlice (.t 51)), (some (48, false)), []⟩,
    ⟨(some 53), (.bin .add (.c (.int .i64 20)) (.t 52)), (some (48, false)), []⟩,
    ⟨(some 54), (.slice 1 (.t 49) none (some (.t 53)) none), (some (48, false)), []⟩,
    ⟨(some 55), (.call (.f 23) [(.t 54)]), (some (48, false)), []⟩,
    ⟨(some 56), (.bin .neq (.t 55) (.c (.int .u16 0))), (some (48, false)), []⟩,
    ⟨(some 57), (.pick (.t 48) (.c (.bool true)) (.t 56)), none, []⟩] none)
  (.cond (.t 57)
  (.seq (.region [⟨(some 8), (.mov (.c (.bool false))), none, []⟩] none)
  .ret)
  .skip))
  (.seq R7_0
  (.seq (.seq R7_1
  (.cond (.t 87)
  (.seq (.region [⟨(some 8), (.mov (.c (.bool false))), none, []⟩] none)
  .ret)
  .skip))
  (.seq (.region [⟨(some 88), (.mov (.t 3)), none, []⟩,
    ⟨(some 89), (.conv .i64 (.t 88)), none, []⟩,
    ⟨(some 90), (.mov (.t 9)), none, []⟩,
    ⟨(some 91), (.lenSlice (.t 90)), none, []⟩,
    ⟨(some 92), (.bin .rem (.t 89) (.t 91)), none, []⟩,
    ⟨(some 14), (.mov (.t 92)), none, []⟩] none)
  (.seq (.region [⟨(some 94), (.mov (.t 9)), none, []⟩,
    ⟨(some 95), (.mov (.t 14)), none, []⟩,
    ⟨(some 96), (.slice 1 (.t 94) none (some (.t 95)) none), none, []⟩,
    ⟨(some 97), (.call (.f 27) [(.t 96)]), none, []⟩,
    ⟨(some 93), (.mov (.t 97)), none, []⟩,
    ⟨(some 98), (.extract (.t 93) 0), none, []⟩,
    ⟨(some 99), (.extract (.t 93) 1), none, []⟩,
    ⟨(some 100), (.extract (.t 93) 2), none, []⟩,
    ⟨(some 15), (.alloc 47 [(.int .u8 0), (.int .u8 0), (.int .u8 0), (.int .u16 0), (.bool false), (.bool false), (.bool false), (.int .i64 0), (.int .u32 0), (.int .u32 0), (.slice none 0 0)]), none, []⟩,
    ⟨none, (.store 11 (.t 15) (.t 98)), none, []⟩,
    ⟨(some 16), (.mov (.t 99)), none, []⟩,
    ⟨(some 17), (.mov (.t 100)), none, []⟩] none)
  (.seq (.region [⟨(some 102), (.mov (.t 9)), none, []⟩,
    ⟨(some 103), (.mov (.t 14)), none, []⟩,
    ⟨(some 104), (.slice 1 (.t 102) none (some (.t 103)) none), none, []⟩,
    ⟨(some 105), (.call (.f 28) [(.t 104)]), none, []⟩,
    ⟨(some 101), (.mov (.t 105)), none, []⟩,
    ⟨(some 106), (.extract (.t 101) 0), none, []⟩,
    ⟨(some 107), (.extract (.t 101) 1), none, []⟩,
    ⟨(some 108), (.extract (.t 101) 2), none, []⟩,
    ⟨(some 18), (.alloc 47 [(.int .u8 0), (.int .u8 0), (.int .u8 0), (.int .u16 0), (.bool false), (.bool false), (.bool false), (.int .i64 0), (.int .u32 0), (.int .u32 0), (.slice none 0 0)]), none, []⟩,
    ⟨none, (.store 11 (.t 18) (.t 106)), none, []⟩,
    ⟨(some 19), (.mov (.t 107)), none, []⟩,
    ⟨(some 20), (.mov (.t 108)), none, []⟩] none)
  (.seq (.seq (.region [⟨(some 109), (.mov (.t 17)), none, []⟩,
    ⟨(some 110), (.bin .neq (.t 109) (.c (.int .i64 4))), none, []⟩] none)
  (.cond (.t 110)
  (.seq (.region [⟨(some 8), (.mov (.c (.bool false))), none, []⟩] none)
  .ret)
  .skip))
  (.seq (.seq (.region [⟨(some 111), (.fieldAddr 10 (.t 4)), none, []⟩,
    ⟨(some 112), (.load none (.t 111)), none, []⟩,
    ⟨(some 113), (.lenSlice (.t 112)), none, []⟩,
    ⟨(some 114), (.bin .add (.c (.int .i64 20)) (.t 113)), none, []⟩,
    ⟨(some 21), (.mov (.t 114)), none, []⟩] none)
  (.seq (.region [⟨(some 115), (.mov (.t 14)), none, []⟩,
    ⟨(some 116), (.mov (.t 21)), none, []⟩,
    ⟨(some 117), (.bin .geq (.t 115) (.t 116)), none, []⟩] none)
  (.cond (.t 117)
  (.seq R7_2
  .ret)
  .skip)))
  (.seq (.region [⟨(some 141), (.mov (.t 20)), none, []⟩,
    ⟨(some 142), (.bin .eql (.t 141) (.c (.int .i64 4))), none, []⟩,
    ⟨(some 143), (.mov (.t 142)), none, []⟩,
    ⟨(some 144), (.call (.f 19) []), (some (143, true)), []⟩,
    ⟨(some 145), (.pick (.t 143) (.t 144) (.c (.bool false))), none, []⟩,
    ⟨(some 8), (.mov (.t 145)), none, []⟩] none)
  .ret))))))))))))
def F7 : AFunc := ⟨4, 146, [(.tmp 8)], B7⟩
/-- toll/tolllaw06.InetAgain -/
def B8 : ACode := (.seq (.region [⟨(some 2), (.mov (.c (.bool false))), none, []⟩] none)
  (.seq (.region [⟨(some 8), (.mov (.t 0)), none, []⟩,
    ⟨(some 9), (.mov (.t 0)), none, []⟩,
    ⟨(some 10), (.lenSlice (.t 9)), none, []⟩,
    ⟨(some 11), (.min [(.t 10), (.c (.int .i64 400))]), none, []⟩,
    ⟨(some 12), (.slice 1 (.t 8) none (some (.t 11)) none), none, []⟩,
    ⟨(some 0), (.mov (.t 12)), none, []⟩] none)
  (.seq (.region [⟨(some 14), (.mov (.t 0)), none, []⟩,
    ⟨(some 15), (.call (.f 27) [(.t 14)]), none, []⟩,
    ⟨(some 13), (.mov (.t 15)), none, []⟩,
    ⟨(some 16), (.extract (.t 13) 0), none, []⟩,
    ⟨(some 17), (.extract (.t 13) 1), none, []⟩,
    ⟨(some 18), (.extract (.t 13) 2), none, []⟩,
    ⟨(some 3), (.alloc 47 [(.int .u8 0), (.int .u8 0), (.int .u8 0), (.int .u16 0), (.bool false), (.bool false), (.bool false), (.int .i64 0), (.int .u32 0), (.int .u32 0), (.slice none 0 0)]), none, []⟩,
    ⟨none, (.store 11 (.t 3) (.t 16)), none, []⟩,
    ⟨(some 4), (.mov (.t 17)), none, []⟩,
    ⟨(some 5), (.mov (.t 18)), none, []⟩] none)
  (.seq (.seq (.region [⟨(some 19), (.mov (.t 5)), none, []⟩,
    ⟨(some 20), (.bin .neq (.t 19) (.c (.int .i64 0))), none, []⟩] none)
  (.cond (.t 20)
  (.seq (.region [⟨(some 21), (.mov (.t 4)), none, []⟩,
    ⟨(some 22), (.lenSlice (.t 21)), none, []⟩,
    ⟨(some 23), (.bin .eql (.t 22) (.c (.int .i64 0))), none, []⟩,
    ⟨(some 24), (.mov (.t 23)), none, []⟩,
    ⟨(some 25), (.load (some 11) (.t 3)), (some (24, true)), []⟩,
    ⟨(some 26), (.call (.f 22) [(.t 25)]), (some (24, true)), []⟩,
    ⟨(some 27), (.build [(.int .u8 0), (.int .u8 0), (.int .u8 0), (.int .u16 0), (.bool false), (.bool false), (.bool false), (.int .i64 0), (.int .u32 0), (.int .u32 0), (.slice none 0 0)] []), (some (24, true)), []⟩,
    ⟨(some 28), (.call (.f 22) [(.t 27)]), (some (24, true)), []⟩,
    ⟨(some 29), (.call (.f 30) [(.t 26), (.t 28)]), (some (24, true)), []⟩,
    ⟨(some 30), (.pick (.t 24) (.t 29) (.c (.bool false))), none, []⟩,
    ⟨(some 31), (.mov (.t 30)), none, []⟩,
    ⟨(some 32), (.call (.f 19) []), (some (31, true)), []⟩,
    ⟨(some 33), (.pick (.t 31) (.t 32) (.c (.bool false))), none, []⟩,
    ⟨(some 2), (.mov (.t 33)), none, []⟩] none)
  .ret)
  .skip))
  (.seq (.region [⟨(some 35), (.load (some 11) (.t 3)), none, []⟩,
    ⟨(some 36), (.mov (.t 4)), none, []⟩,
    ⟨(some 37), (.call (.f 20) [(.t 35), (.t 36)]), none, []⟩,
    ⟨(some 34), (.mov (.t 37)), none, []⟩,
    ⟨(some 38), (.extract (.t 34) 0), none, []⟩,
    ⟨(some 39), (.extract (.t 34) 1), none, []⟩,
    ⟨(some 6), (.mov (.t 38)), none, []⟩,
    ⟨(some 7), (.mov (.t 39)), none, []⟩] none)
  (.seq (.region [⟨(some 40), (.mov (.t 7)), none, []⟩,
    ⟨(some 41), (.bin .eql (.t 40) (.c (.int .i64 0))), none, []⟩,
    ⟨(some 42), (.mov (.t 41)), none, []⟩,
    ⟨(some 43), (.mov (.t 6)), (some (42, true)), []⟩,
    ⟨(some 44), (.lenSlice (.t 43)), (some (42, true)), []⟩,
    ⟨(some 45), (.mov (.t 0)), (some (42, true)), []⟩,
    ⟨(some 46), (.lenSlice (.t 45)), (some (42, true)), []⟩,
    ⟨(some 47), (.bin .leq (.t 44) (.t 46)), (some (42, true)), []⟩,
    ⟨(some 48), (.pick (.t 42) (.t 47) (.c (.bool false))), none, []⟩,
    ⟨(some 49), (.mov (.t 48)), none, []⟩,
    ⟨(some 50), (.mov (.t 6)), (some (49, true)), []⟩,
    ⟨(some 51), (.mov (.t 0)), (some (49, true)), []⟩,
    ⟨(some 52), (.mov (.t 6)), (some (49, true)), []⟩,
    ⟨(some 53), (.lenSlice (.t 52)), (some (49, true)), []⟩,
    ⟨(some 54), (.slice 1 (.t 51) none (some (.t 53)) none), (some (49, true)), []⟩,
    ⟨(some 55), (.call (.f 32) [(.t 50), (.t 54)]), (some (49, true)), []⟩,
    ⟨(some 56), (.pick (.t 49) (.t 55) (.c (.bool false))), none, []⟩,
    ⟨(some 57), (.mov (.t 56)), none, []⟩,
    ⟨(some 58), (.call (.f 19) []), (some (57, true)), []⟩,
    ⟨(some 59), (.pick (.t 57) (.t 58) (.c (.bool false))), none, []⟩,
    ⟨(some 2), (.mov (.t 59)), none, []⟩] none)
  .ret))))))
def F8 : AFunc := ⟨1, 60, [(.tmp 2)], B8⟩
/-- toll/inet.Parse -/
def F9L0 : ACode := (.seq (.region [⟨(some 17), (.bin .lss (.t 16) (.t 15)), none, []⟩] none)
  (.seq (.cond (.t 17)
  .skip
  (.exit 0))
  (.seq (.block 1 (.seq (.region [⟨(some 18), (.indexAddr 1 (.t 14) (.t 16)), none, []⟩,
    ⟨(some 19), (.load none (.t 18)), none, []⟩,
    ⟨(some 7), (.mov (.t 19)), none, []⟩] none)
  (.seq (.region [⟨(some 20), (.mov (.t 7)), none, []⟩,
    ⟨(some 21), (.call (.f 34) [(.t 20)]), none, []⟩,
    ⟨(some 8), (.mov (.t 21)), none, []⟩] none)
  (.seq (.seq (.region [⟨(some 22), (.mov (.t 8)), none, []⟩,
    ⟨(some 23), (.bin .lss (.t 22) (.c (.int .i64 0))), none, []⟩,
    ⟨(some 24), (.mov (.t 23)), none, []⟩,
    ⟨(some 25), (.mov (.t 8)), (some (24, false)), []⟩,
    ⟨(some 26), (.bin .gtr (.t 25) (.c (.int .i64 255))), (some (24, false)), []⟩,
    ⟨(some 27), (.pick (.t 24) (.c (.bool true)) (.t 26)), none, []⟩] none)
  (.cond (.t 27)
  (.seq (.region [⟨(some 2), (.mov (.c (.int .u32 0))), none, []⟩,
    ⟨(some 3), (.mov (.c (.int .i64 5))), none, []⟩] none)
  .ret)
  .skip))
  (.region [⟨(some 28), (.mov (.t 5)), none, []⟩,
    ⟨(some 29), (.bin .shl (.t 28) (.c (.int .u64 8))), none, []⟩,
    ⟨(some 30), (.mov (.t 8)), none, []⟩,
    ⟨(some 31), (.conv .u32 (.t 30)), none, []⟩,
    ⟨(some 32), (.bin .or (.t 29) (.t 31)), none, []⟩,
    ⟨(some 5), (.mov (.t 32)), none, []⟩] none)))))
  (.region [⟨(some 33), (.bin .add (.t 16) (.c (.int .i64 1))), none, []⟩,
    ⟨(some 16), (.mov (.t 33)), none, []⟩] none))))
def B9 : ACode := (.seq (.region [⟨(some 2), (.mov (.c (.int .u32 0))), none, []⟩,
    ⟨(some 3), (.mov (.c (.int .i64 0))), none, []⟩] none)
  (.seq (.region [⟨(some 9), (.mov (.t 0)), none, []⟩,
    ⟨(some 10), (.call (.f 33) [(.t 9), (.c (.string ⟨#[46]⟩))]), none, []⟩,
    ⟨(some 4), (.mov (.t 10)), none, []⟩] none)
  (.seq (.seq (.region [⟨(some 11), (.mov (.t 4)), none, []⟩,
    ⟨(some 12), (.lenSlice (.t 11)), none, []⟩,
    ⟨(some 13), (.bin .neq (.t 12) (.c (.int .i64 4))), none, []⟩] none)
  (.cond (.t 13)
  (.seq (.region [⟨(some 2), (.mov (.c (.int .u32 0))), none, []⟩,
    ⟨(some 3), (.mov (.c (.int .i64 5))), none, []⟩] none)
  .ret)
  .skip))
  (.seq (.region [⟨(some 5), (.mov (.c (.int .u32 0))), none, []⟩] none)
  (.seq (.seq (.region [⟨(some 14), (.mov (.t 4)), none, []⟩,
    ⟨(some 15), (.lenSlice (.t 14)), none, []⟩,
    ⟨(some 16), (.mov (.c (.int .i64 0))), none, []⟩] none)
  (.block 0 (.loop F9L0)))
  (.seq (.region [⟨(some 34), (.mov (.t 5)), none, []⟩,
    ⟨(some 2), (.mov (.t 34)), none, []⟩,
    ⟨(some 3), (.mov (.c (.int .i64 0))), none, []⟩] none)
  .ret))))))
def F9 : AFunc := ⟨1, 35, [(.tmp 2), (.tmp 3)], B9⟩
-- F9L0 live: [5, 14, 15, 16]
/-- toll/tollref06.Parse -/
def F10L0 : ACode := (.seq (.seq (.region [⟨(some 28), (.mov (.t 4)), none, []⟩,
    ⟨(some 29), (.mov (.t 0)), none, []⟩,
    ⟨(some 30), (.lenStr (.t 29)), none, []⟩,
    ⟨(some 31), (.bin .lss (.t 28) (.t 30)), none, []⟩,
    ⟨(some 32), (.mov (.t 31)), none, []⟩,
    ⟨(some 33), (.mov (.t 4)), (some (32, true)), []⟩,
    ⟨(some 34), (.mov (.t 7)), (some (32, true)), []⟩,
    ⟨(some 35), (.bin .sub (.t 33) (.t 34)), (some (32, true)), []⟩,
    ⟨(some 36), (.bin .lss (.t 35) (.c (.int .i64 4))), (some (32, true)), []⟩,
    ⟨(some 37), (.pick (.t 32) (.t 36) (.c (.bool false))), none, []⟩,
    ⟨(some 38), (.mov (.t 37)), none, []⟩,
    ⟨(some 39), (.mov (.t 0)), (some (38, true)), []⟩,
    ⟨(some 40), (.mov (.t 4)), (some (38, true)), []⟩,
    ⟨(some 41), (.indexStr (.t 39) (.t 40)), (some (38, true)), []⟩,
    ⟨(some 42), (.bin .geq (.t 41) (.c (.int .u8 48))), (some (38, true)), []⟩,
    ⟨(some 43), (.pick (.t 38) (.t 42) (.c (.bool false))), none, []⟩,
    ⟨(some 44), (.mov (.t 43)), none, []⟩,
    ⟨(some 45), (.mov (.t 0)), (some (44, true)), []⟩,
    ⟨(some 46), (.mov (.t 4)), (some (44, true)), []⟩,
    ⟨(some 47), (.indexStr (.t 45) (.t 46)), (some (44, true)), []⟩,
    ⟨(some 48), (.bin .leq (.t 47) (.c (.int .u8 57))), (some (44, true)), []⟩,
    ⟨(some 49), (.pick (.t 44) (.t 48) (.c (.bool false))), none, []⟩] none)
  (.cond (.t 49)
  .skip
  (.exit 2)))
  (.block 3 (.seq (.region [⟨(some 50), (.mov (.t 8)), none, []⟩,
    ⟨(some 51), (.bin .mul (.c (.int .i64 10)) (.t 50)), none, []⟩,
    ⟨(some 52), (.mov (.t 0)), none, []⟩,
    ⟨(some 53), (.mov (.t 4)), none, []⟩,
    ⟨(some 54), (.indexStr (.t 52) (.t 53)), none, []⟩,
    ⟨(some 55), (.bin .sub (.t 54) (.c (.int .u8 48))), none, []⟩,
    ⟨(some 56), (.conv .i64 (.t 55)), none, []⟩,
    ⟨(some 57), (.bin .add (.t 51) (.t 56)), none, []⟩,
    ⟨(some 8), (.mov (.t 57)), none, []⟩] none)
  (.region [⟨(some 58), (.mov (.t 4)), none, []⟩,
    ⟨(some 59), (.bin .add (.t 58) (.c (.int .i64 1))), none, []⟩,
    ⟨(some 4), (.mov (.t 59)), none, []⟩] none))))
def F10L1 : ACode := (.seq (.seq (.region [⟨(some 9), (.mov (.t 6)), none, []⟩,
    ⟨(some 10), (.bin .lss (.t 9) (.c (.int .i64 4))), none, []⟩] none)
  (.cond (.t 10)
  .skip
  (.exit 0)))
  (.seq (.block 1 (.seq (.seq (.region [⟨(some 13), (.mov (.t 6)), none, []⟩,
    ⟨(some 14), (.bin .gtr (.t 13) (.c (.int .i64 0))), none, []⟩] none)
  (.cond (.t 14)
  (.seq (.seq (.region [⟨(some 15), (.mov (.t 4)), none, []⟩,
    ⟨(some 16), (.mov (.t 0)), none, []⟩,
    ⟨(some 17), (.lenStr (.t 16)), none, []⟩,
    ⟨(some 18), (.bin .geq (.t 15) (.t 17)), none, []⟩,
    ⟨(some 19), (.mov (.t 18)), none, []⟩,
    ⟨(some 20), (.mov (.t 0)), (some (19, false)), []⟩,
    ⟨(some 21), (.mov (.t 4)), (some (19, false)), []⟩,
    ⟨(some 22), (.indexStr (.t 20) (.t 21)), (some (19, false)), []⟩,
    ⟨(some 23), (.bin .neq (.t 22) (.c (.int .u8 46))), (some (19, false)), []⟩,
    ⟨(some 24), (.pick (.t 19) (.c (.bool true)) (.t 23)), none, []⟩] none)
  (.cond (.t 24)
  (.seq (.region [⟨(some 2), (.mov (.c (.int .u32 0))), none, []⟩,
    ⟨(some 3), (.mov (.c (.int .i64 5))), none, []⟩] none)
  .ret)
  .skip))
  (.region [⟨(some 25), (.mov (.t 4)), none, []⟩,
    ⟨(some 26), (.bin .add (.t 25) (.c (.int .i64 1))), none, []⟩,
    ⟨(some 4), (.mov (.t 26)), none, []⟩] none))
  .skip))
  (.seq (.region [⟨(some 27), (.mov (.t 4)), none, []⟩,
    ⟨(some 7), (.mov (.t 27)), none, []⟩] none)
  (.seq (.region [⟨(some 8), (.mov (.c (.int .i64 0))), none, []⟩] none)
  (.seq (.block 2 (.loop F10L0))
  (.seq (.seq (.region [⟨(some 60), (.mov (.t 4)), none, []⟩,
    ⟨(some 61), (.mov (.t 7)), none, []⟩,
    ⟨(some 62), (.bin .eql (.t 60) (.t 61)), none, []⟩,
    ⟨(some 63), (.mov (.t 62)), none, []⟩,
    ⟨(some 64), (.mov (.t 4)), (some (63, false)), []⟩,
    ⟨(some 65), (.mov (.t 7)), (some (63, false)), []⟩,
    ⟨(some 66), (.bin .sub (.t 64) (.t 65)), (some (63, false)), []⟩,
    ⟨(some 67), (.bin .gtr (.t 66) (.c (.int .i64 1))), (some (63, false)), []⟩,
    ⟨(some 68), (.mov (.t 67)), (some (63, false)), []⟩,
    ⟨(some 69), (.mov (.t 0)), (some (68, true)), []⟩,
    ⟨(some 70), (.mov (.t 7)), (some (68, true)), []⟩,
    ⟨(some 71), (.indexStr (.t 69) (.t 70)), (some (68, true)), []⟩,
    ⟨(some 72), (.bin .eql (.t 71) (.c (.int .u8 48))), (some (68, true)), []⟩,
    ⟨(some 73), (.pick (.t 68) (.t 72) (.c (.bool false))), (some (63, false)), []⟩,
    ⟨(some 74), (.pick (.t 63) (.c (.bool true)) (.t 73)), none, []⟩,
    ⟨(some 75), (.mov (.t 74)), none, []⟩,
    ⟨(some 76), (.mov (.t 8)), (some (75, false)), []⟩,
    ⟨(some 77), (.bin .gtr (.t 76) (.c (.int .i64 255))), (some (75, false)), []⟩,
    ⟨(some 78), (.pick (.t 75) (.c (.bool true)) (.t 77)), none, []⟩] none)
  (.cond (.t 78)
  (.seq (.region [⟨(some 2), (.mov (.c (.int .u32 0))), none, []⟩,
    ⟨(some 3), (.mov (.c (.int .i64 5))), none, []⟩] none)
  .ret)
  .skip))
  (.region [⟨(some 79), (.mov (.t 5)), none, []⟩,
    ⟨(some 80), (.bin .mul (.c (.int .i64 256)) (.t 79)), none, []⟩,
    ⟨(some 81), (.mov (.t 8)), none, []⟩,
    ⟨(some 82), (.bin .add (.t 80) (.t 81)), none, []⟩,
    ⟨(some 5), (.mov (.t 82)), none, []⟩] none)))))))
  (.region [⟨(some 11), (.mov (.t 6)), none, []⟩,
    ⟨(some 12), (.bin .add (.t 11) (.c (.int .i64 1))), none, []⟩,
    ⟨(some 6), (.mov (.t 12)), none, []⟩] none)))
def B10 : ACode := (.seq (.region [⟨(some 2), (.mov (.c (.int .u32 0))), none, []⟩,
    ⟨(some 3), (.mov (.c (.int .i64 0))), none, []⟩] none)
  (.seq (.region [⟨(some 4), (.mov (.c (.int .i64 0))), none, []⟩] none)
  (.seq (.region [⟨(some 5), (.mov (.c (.int .i64 0))), none, []⟩] none)
  (.seq (.seq (.region [⟨(some 6), (.mov (.c (.int .i64 0))), none, []⟩] none)
  (.block 0 (.loop F10L1)))
  (.seq (.seq (.region [⟨(some 83), (.mov (.t 4)), none, []⟩,
    ⟨(some 84), (.mov (.t 0)), none, []⟩,
    ⟨(some 85), (.lenStr (.t 84)), none, []⟩,
    ⟨(some 86), (.bin .neq (.t 83) (.t 85)), none, []⟩] none)
  (.cond (.t 86)
  (.seq (.region [⟨(some 2), (.mov (.c (.int .u32 0))), none, []⟩,
    ⟨(some 3), (.mov (.c (.int .i64 5))), none, []⟩] none)
  .ret)
  .skip))
  (.seq (.region [⟨(some 87), (.mov (.t 5)), none, []⟩,
    ⟨(some 88), (.conv .u32 (.t 87)), none, []⟩,
    ⟨(some 2), (.mov (.t 88)), none, []⟩,
    ⟨(some 3), (.mov (.c (.int .i64 0))), none, []⟩] none)
  .ret))))))
def F10 : AFunc := ⟨1, 89, [(.tmp 2), (.tmp 3)], B10⟩
-- F10L0 live: [0, 4, 5, 6, 7, 8]

-- F10L1 live: [0, 4, 5, 6]
/-- toll/inet.ParsePrefix -/
def B11 : ACode := (.seq (.region [⟨(some 2), (.alloc 25 [(.int .u32 0), (.int .i64 0)]), none, []⟩,
    ⟨(some 3), (.mov (.c (.int .i64 0))), none, []⟩] none)
  (.seq (.region [⟨(some 11), (.mov (.t 0)), none, []⟩,
    ⟨(some 12), (.call (.f 35) [(.t 11), (.c (.string ⟨#[47]⟩))]), none, []⟩,
    ⟨(some 10), (.mov (.t 12)), none, []⟩,
    ⟨(some 13), (.extract (.t 10) 0), none, []⟩,
    ⟨(some 14), (.extract (.t 10) 1), none, []⟩,
    ⟨(some 15), (.extract (.t 10) 2), none, []⟩,
    ⟨(some 4), (.mov (.t 13)), none, []⟩,
    ⟨(some 5), (.mov (.t 14)), none, []⟩,
    ⟨(some 6), (.mov (.t 15)), none, []⟩] none)
  (.seq (.region [⟨(some 17), (.mov (.t 4)), none, []⟩,
    ⟨(some 18), (.call (.f 9) [(.t 17)]), none, []⟩,
    ⟨(some 16), (.mov (.t 18)), none, []⟩,
    ⟨(some 19), (.extract (.t 16) 0), none, []⟩,
    ⟨(some 20), (.extract (.t 16) 1), none, []⟩,
    ⟨(some 7), (.mov (.t 19)), none, []⟩,
    ⟨(some 8), (.mov (.t 20)), none, []⟩] none)
  (.seq (.region [⟨(some 9), (.mov (.c (.int .i64 32))), none, []⟩] none)
  (.seq (.seq (.region [⟨(some 21), (.mov (.t 6)), none, []⟩] none)
  (.cond (.t 21)
  (.region [⟨(some 22), (.mov (.t 5)), none, []⟩,
    ⟨(some 23), (.call (.f 34) [(.t 22)]), none, []⟩,
    ⟨(some 9), (.mov (.t 23)), none, []⟩] none)
  .skip))
  (.seq (.block 0 (.seq (.region [⟨(some 25), (.mov (.t 8)), none, []⟩,
    ⟨(some 26), (.bin .neq (.t 25) (.c (.int .i64 0))), none, []⟩,
    ⟨(some 27), (.mov (.t 26)), none, []⟩,
    ⟨(some 28), (.mov (.t 9)), (some (27, false)), []⟩,
    ⟨(some 29), (.bin .lss (.t 28) (.c (.int .i64 0))), (some (27, false)), []⟩,
    ⟨(some 30), (.pick (.t 27) (.c (.bool true)) (.t 29)), none, []⟩,
    ⟨(some 31), (.mov (.t 30)), none, []⟩,
    ⟨(some 32), (.mov (.t 5)), (some (31, false)), []⟩,
    ⟨(some 33), (.lenStr (.t 32)), (some (31, false)), []⟩,
    ⟨(some 34), (.bin .gtr (.t 33) (.c (.int .i64 2))), (some (31, false)), []⟩,
    ⟨(some 35), (.pick (.t 31) (.c (.bool true)) (.t 34)), none, []⟩,
    ⟨(some 24), (.mov (.t 35)), none, []⟩] none)
  (.cond (.t 24)
  (.seq (.region [⟨(some 36), (.build [(.int .u32 0), (.int .i64 0)] []), none, []⟩,
    ⟨none, (.store 2 (.t 2) (.t 36)), none, []⟩,
    ⟨(some 3), (.mov (.c (.int .i64 5))), none, []⟩] none)
  .ret)
  (.seq (.region [⟨(some 38), (.mov (.t 9)), none, []⟩,
    ⟨(some 39), (.bin .gtr (.t 38) (.c (.int .i64 32))), none, []⟩,
    ⟨(some 37), (.mov (.t 39)), none, []⟩] none)
  (.cond (.t 37)
  (.seq (.region [⟨(some 40), (.build [(.int .u32 0), (.int .i64 0)] []), none, []⟩,
    ⟨none, (.store 2 (.t 2) (.t 40)), none, []⟩,
    ⟨(some 3), (.mov (.c (.int .i64 24))), none, []⟩] none)
  .ret)
  .skip)))))
  (.seq (.region [⟨(some 41), (.mov (.t 7)), none, []⟩,
    ⟨(some 42), (.mov (.t 9)), none, []⟩,
    ⟨(some 43), (.call (.f 36) [(.t 42)]), none, []⟩,
    ⟨(some 44), (.bin .and (.t 41) (.t 43)), none, []⟩,
    ⟨(some 45), (.mov (.t 9)), none, []⟩,
    ⟨(some 46), (.build [(.int .u32 0), (.int .i64 0)] [(0, 1, (.t 44)), (1, 1, (.t 45))]), none, []⟩,
    ⟨none, (.store 2 (.t 2) (.t 46)), none, []⟩,
    ⟨(some 3), (.mov (.c (.int .i64 0))), none, []⟩] none)
  .ret)))))))
def F11 : AFunc := ⟨1, 47, [(.cell 2 (some 2)), (.tmp 3)], B11⟩
/-- toll/tollref06.ParsePrefix -/
def F12L0 : ACode := (.seq (.seq (.region [⟨(some 11), (.mov (.t 5)), none, []⟩,
    ⟨(some 12), (.mov (.t 0)), none, []⟩,
    ⟨(some 13), (.lenStr (.t 12)), none, []⟩,
    ⟨(some 14), (.bin .lss (.t 11) (.t 13)), none, []⟩,
    ⟨(some 15), (.mov (.t 14)), none, []⟩,
    ⟨(some 16), (.mov (.t 0)), (some (15, true)), []⟩,
    ⟨(some 17), (.mov (.t 5)), (some (15, true)), []⟩,
    ⟨(some 18), (.indexStr (.t 16) (.t 17)), (some (15, true)), []⟩,
    ⟨(some 19), (.bin .neq (.t 18) (.c (.int .u8 47))), (some (15, true)), []⟩,
    ⟨(some 20), (.pick (.t 15) (.t 19) (.c (.bool false))), none, []⟩] none)
  (.cond (.t 20)
  .skip
  (.exit 0)))
  (.block 1 (.region [⟨(some 21), (.mov (.t 5)), none, []⟩,
    ⟨(some 22), (.bin .add (.t 21) (.c (.int .i64 1))), none, []⟩,
    ⟨(some 5), (.mov (.t 22)), none, []⟩] none)))
def F12L1 : ACode := (.seq (.seq (.region [⟨(some 60), (.mov (.t 10)), none, []⟩,
    ⟨(some 61), (.mov (.t 8)), none, []⟩,
    ⟨(some 62), (.lenStr (.t 61)), none, []⟩,
    ⟨(some 63), (.bin .lss (.t 60) (.t 62)), none, []⟩] none)
  (.cond (.t 63)
  .skip
  (.exit 2)))
  (.seq (.block 3 (.seq (.seq (.region [⟨(some 66), (.mov (.t 8)), none, []⟩,
    ⟨(some 67), (.mov (.t 10)), none, []⟩,
    ⟨(some 68), (.indexStr (.t 66) (.t 67)), none, []⟩,
    ⟨(some 69), (.bin .lss (.t 68) (.c (.int .u8 48))), none, []⟩,
    ⟨(some 70), (.mov (.t 69)), none, []⟩,
    ⟨(some 71), (.mov (.t 8)), (some (70, false)), []⟩,
    ⟨(some 72), (.mov (.t 10)), (some (70, false)), []⟩,
    ⟨(some 73), (.indexStr (.t 71) (.t 72)), (some (70, false)), []⟩,
    ⟨(some 74), (.bin .gtr (.t 73) (.c (.int .u8 57))), (some (70, false)), []⟩,
    ⟨(some 75), (.pick (.t 70) (.c (.bool true)) (.t 74)), none, []⟩] none)
  (.cond (.t 75)
  (.seq (.region [⟨(some 2), (.mov (.c (.int .u32 0))), none, []⟩,
    ⟨(some 3), (.mov (.c (.int .i64 0))), none, []⟩,
    ⟨(some 4), (.mov (.c (.int .i64 5))), none, []⟩] none)
  .ret)
  .skip))
  (.region [⟨(some 76), (.mov (.t 9)), none, []⟩,
    ⟨(some 77), (.bin .mul (.c (.int .i64 10)) (.t 76)), none, []⟩,
    ⟨(some 78), (.mov (.t 8)), none, []⟩,
    ⟨(some 79), (.mov (.t 10)), none, []⟩,
    ⟨(some 80), (.indexStr (.t 78) (.t 79)), none, []⟩,
    ⟨(some 81), (.bin .sub (.t 80) (.c (.int .u8 48))), none, []⟩,
    ⟨(some 82), (.conv .i64 (.t 81)), none, []⟩,
    ⟨(some 83), (.bin .add (.t 77) (.t 82)), none, []⟩,
    ⟨(some 9), (.mov (.t 83)), none, []⟩] none)))
  (.region [⟨(some 64), (.mov (.t 10)), none, []⟩,
    ⟨(some 65), (.bin .add (.t 64) (.c (.int .i64 1))), none, []⟩,
    ⟨(some 10), (.mov (.t 65)), none, []⟩] none)))
def B12 : ACode := (.seq (.region [⟨(some 2), (.mov (.c (.int .u32 0))), none, []⟩,
    ⟨(some 3), (.mov (.c (.int .i64 0))), none, []⟩,
    ⟨(some 4), (.mov (.c (.int .i64 0))), none, []⟩] none)
  (.seq (.region [⟨(some 5), (.mov (.c (.int .i64 0))), none, []⟩] none)
  (.seq (.block 0 (.loop F12L0))
  (.seq (.region [⟨(some 24), (.mov (.t 0)), none, []⟩,
    ⟨(some 25), (.mov (.t 5)), none, []⟩,
    ⟨(some 26), (.sliceStr (.t 24) none (some (.t 25))), none, []⟩,
    ⟨(some 27), (.call (.f 10) [(.t 26)]), none, []⟩,
    ⟨(some 23), (.mov (.t 27)), none, []⟩,
    ⟨(some 28), (.extract (.t 23) 0), none, []⟩,
    ⟨(some 29), (.extract (.t 23) 1), none, []⟩,
    ⟨(some 6), (.mov (.t 28)), none, []⟩,
    ⟨(some 7), (.mov (.t 29)), none, []⟩] none)
  (.seq (.seq (.region [⟨(some 30), (.mov (.t 7)), none, []⟩,
    ⟨(some 31), (.bin .neq (.t 30) (.c (.int .i64 0))), none, []⟩] none)
  (.cond (.t 31)
  (.seq (.region [⟨(some 32), (.mov (.t 7)), none, []⟩,
    ⟨(some 2), (.mov (.c (.int .u32 0))), none, []⟩,
    ⟨(some 3), (.mov (.c (.int .i64 0))), none, []⟩,
    ⟨(some 4), (.mov (.t 32)), none, []⟩] none)
  .ret)
  .skip))
  (.seq (.seq (.region [⟨(some 33), (.mov (.t 5)), none, []⟩,
    ⟨(some 34), (.mov (.t 0)), none, []⟩,
    ⟨(some 35), (.lenStr (.t 34)), none, []⟩,
    ⟨(some 36), (.bin .eql (.t 33) (.t 35)), none, []⟩] none)
  (.cond (.t 36)
  (.seq (.region [⟨(some 37), (.mov (.t 6)), none, []⟩,
    ⟨(some 2), (.mov (.t 37)), none, []⟩,
    ⟨(some 3), (.mov (.c (.int .i64 32))), none, []⟩,
    ⟨(some 4), (.mov (.c (.int .i64 0))), none, []⟩] none)
  .ret)
  .skip))
  (.seq (.region [⟨(some 38), (.mov (.t 0)), none, []⟩,
    ⟨(some 39), (.mov (.t 5)), none, []⟩,
    ⟨(some 40), (.bin .add (.t 39) (.c (.int .i64 1))), none, []⟩,
    ⟨(some 41), (.sliceStr (.t 38) (some (.t 40)) none), none, []⟩,
    ⟨(some 8), (.mov (.t 41)), none, []⟩] none)
  (.seq (.seq (.region [⟨(some 42), (.mov (.t 8)), none, []⟩,
    ⟨(some 43), (.lenStr (.t 42)), none, []⟩,
    ⟨(some 44), (.bin .lss (.t 43) (.c (.int .i64 1))), none, []⟩,
    ⟨(some 45), (.mov (.t 44)), none, []⟩,
    ⟨(some 46), (.mov (.t 8)), (some (45, false)), []⟩,
    ⟨(some 47), (.lenStr (.t 46)), (some (45, false)), []⟩,
    ⟨(some 48), (.bin .gtr (.t 47) (.c (.int .i64 2))), (some (45, false)), []⟩,
    ⟨(some 49), (.pick (.t 45) (.c (.bool true)) (.t 48)), none, []⟩,
    ⟨(some 50), (.mov (.t 49)), none, []⟩,
    ⟨(some 51), (.mov (.t 8)), (some (50, false)), []⟩,
    ⟨(some 52), (.lenStr (.t 51)), (some (50, false)), []⟩,
    ⟨(some 53), (.bin .eql (.t 52) (.c (.int .i64 2))), (some (50, false)), []⟩,
    ⟨(some 54), (.mov (.t 53)), (some (50, false)), []⟩,
    ⟨(some 55), (.mov (.t 8)), (some (54, true)), []⟩,
    ⟨(some 56), (.indexStr (.t 55) (.c (.int .i64 0))), (some (54, true)), []⟩,
    ⟨(some 57), (.bin .eql (.t 56) (.c (.int .u8 48))), (some (54, true)), []⟩,
    ⟨(some 58), (.pick (.t 54) (.t 57) (.c (.bool false))), (some (50, false)), []⟩,
    ⟨(some 59), (.pick (.t 50) (.c (.bool true)) (.t 58)), none, []⟩] none)
  (.cond (.t 59)
  (.seq (.region [⟨(some 2), (.mov (.c (.int .u32 0))), none, []⟩,
    ⟨(some 3), (.mov (.c (.int .i64 0))), none, []⟩,
    ⟨(some 4), (.mov (.c (.int .i64 5))), none, []⟩] none)
  .ret)
  .skip))
  (.seq (.region [⟨(some 9), (.mov (.c (.int .i64 0))), none, []⟩] none)
  (.seq (.seq (.region [⟨(some 10), (.mov (.c (.int .i64 0))), none, []⟩] none)
  (.block 2 (.loop F12L1)))
  (.seq (.seq (.region [⟨(some 84), (.mov (.t 9)), none, []⟩,
    ⟨(some 85), (.bin .gtr (.t 84) (.c (.int .i64 32))), none, []⟩] none)
  (.cond (.t 85)
  (.seq (.region [⟨(some 2), (.mov (.c (.int .u32 0))), none, []⟩,
    ⟨(some 3), (.mov (.c (.int .i64 0))), none, []⟩,
    ⟨(some 4), (.mov (.c (.int .i64 24))), none, []⟩] none)
  .ret)
  .skip))
  (.seq (.region [⟨(some 86), (.mov (.t 6)), none, []⟩,
    ⟨(some 87), (.mov (.t 9)), none, []⟩,
    ⟨(some 88), (.call (.f 37) [(.t 86), (.t 87)]), none, []⟩,
    ⟨(some 89), (.mov (.t 9)), none, []⟩,
    ⟨(some 2), (.mov (.t 88)), none, []⟩,
    ⟨(some 3), (.mov (.t 89)), none, []⟩,
    ⟨(some 4), (.mov (.c (.int .i64 0))), none, []⟩] none)
  .ret))))))))))))
def F12 : AFunc := ⟨1, 90, [(.tmp 2), (.tmp 3), (.tmp 4)], B12⟩
-- F12L0 live: [0, 5]

-- F12L1 live: [6, 8, 9, 10]
/-- toll/inet.Text -/
def F13L0 : ACode := (.seq (.seq (.region [⟨(some 5), (.mov (.t 4)), none, []⟩,
    ⟨(some 6), (.bin .geq (.t 5) (.c (.int .i64 0))), none, []⟩] none)
  (.cond (.t 6)
  .skip
  (.exit 0)))
  (.seq (.block 1 (.region [⟨(some 9), (.mov (.t 3)), none, []⟩,
    ⟨(some 10), (.mov (.t 0)), none, []⟩,
    ⟨(some 11), (.mov (.t 4)), none, []⟩,
    ⟨(some 12), (.bin .shr (.t 10) (.t 11)), none, []⟩,
    ⟨(some 13), (.bin .and (.t 12) (.c (.int .u32 255))), none, []⟩,
    ⟨(some 14), (.conv .i64 (.t 13)), none, []⟩,
    ⟨(some 15), (.call (.f 38) [(.t 14)]), none, []⟩,
    ⟨(some 16), (.buildSlice 9 1 1 [(.string ⟨#[]⟩)] [(0, 1, (.t 15))]), none, []⟩,
    ⟨(some 17), (.append 9 1 16 (.t 9) (.t 16)), none, []⟩,
    ⟨(some 3), (.mov (.t 17)), none, []⟩] none))
  (.region [⟨(some 7), (.mov (.t 4)), none, []⟩,
    ⟨(some 8), (.bin .sub (.t 7) (.c (.int .i64 8))), none, []⟩,
    ⟨(some 4), (.mov (.t 8)), none, []⟩] none)))
def B13 : ACode := (.seq (.region [⟨(some 2), (.mov (.c (.string ⟨#[]⟩))), none, []⟩] none)
  (.seq (.region [⟨(some 3), (.mov (.c (.slice none 0 0))), none, []⟩] none)
  (.seq (.seq (.region [⟨(some 4), (.mov (.c (.int .i64 24))), none, []⟩] none)
  (.block 0 (.loop F13L0)))
  (.seq (.region [⟨(some 18), (.mov (.t 3)), none, []⟩,
    ⟨(some 19), (.call (.f 39) [(.t 18), (.c (.string ⟨#[46]⟩))]), none, []⟩,
    ⟨(some 2), (.mov (.t 19)), none, []⟩] none)
  .ret))))
def F13 : AFunc := ⟨1, 20, [(.tmp 2)], B13⟩
-- F13L0 live: [0, 3, 4]
def R14_0 : ACode := .region [⟨(some 7), (.mov (.t 3)), none, []⟩,
    ⟨(some 8), (.indexAddr 1 (.t 7) (.c (.int .i64 0))), none, [0]⟩,
    ⟨(some 9), (.load none (.t 8)), none, [1]⟩,
    ⟨(some 10), (.conv .i64 (.t 9)), none, [2]⟩,
    ⟨(some 11), (.call (.f 41) [(.t 10)]), none, [3]⟩,
    ⟨(some 12), (.bin .add (.t 11) (.c (.string ⟨#[46]⟩))), none, [4]⟩,
    ⟨(some 13), (.mov (.t 3)), none, []⟩,
    ⟨(some 14), (.indexAddr 1 (.t 13) (.c (.int .i64 1))), none, [6]⟩,
    ⟨(some 15), (.load none (.t 14)), none, [7]⟩,
    ⟨(some 16), (.conv .i64 (.t 15)), none, [8]⟩,
    ⟨(some 17), (.call (.f 41) [(.t 16)]), none, [9, 4]⟩,
    ⟨(some 18), (.bin .add (.t 12) (.t 17)), none, [5, 10]⟩,
    ⟨(some 19), (.bin .add (.t 18) (.c (.string ⟨#[46]⟩))), none, [11]⟩,
    ⟨(some 20), (.mov (.t 3)), none, []⟩,
    ⟨(some 21), (.indexAddr 1 (.t 20) (.c (.int .i64 2))), none, [13]⟩,
    ⟨(some 22), (.load none (.t 21)), none, [14]⟩,
    ⟨(some 23), (.conv .i64 (.t 22)), none, [15]⟩,
    ⟨(some 24), (.call (.f 41) [(.t 23)]), none, [16, 10]⟩,
    ⟨(some 25), (.bin .add (.t 19) (.t 24)), none, [12, 17]⟩,
    ⟨(some 26), (.bin .add (.t 25) (.c (.string ⟨#[46]⟩))), none, [18]⟩,
    ⟨(some 27), (.mov (.t 3)), none, []⟩,
    ⟨(some 28), (.indexAddr 1 (.t 27) (.c (.int .i64 3))), none, [20]⟩,
    ⟨(some 29), (.load none (.t 28)), none, [21]⟩,
    ⟨(some 30), (.conv .i64 (.t 29)), none, [22]⟩,
    ⟨(some 31), (.call (.f 41) [(.t 30)]), none, [23, 17]⟩,
    ⟨(some 32), (.bin .add (.t 26) (.t 31)), none, [19, 24]⟩,
    ⟨(some 2), (.mov (.t 32)), none, [25, 24, 0, 1, 2, 3, 4, 5, 6, 7, 8, 9, 10, 11, 12, 13, 14, 15, 16, 17, 18, 19, 20, 21, 22, 23, 24, 25]⟩] (some [(0, 6), (1, 6), (2, 6), (3, 6), (4, 6), (5, 6), (0, 7), (1, 7), (2, 7), (3, 7), (4, 7), (5, 7), (0, 8), (1, 8), (2, 8), (3, 8), (4, 8), (5, 8), (0, 9), (1, 9), (2, 9), (3, 9), (4, 9), (5, 9), (5, 10), (0, 13), (1, 13), (2, 13), (3, 13), (4, 13), (5, 13), (6, 13), (7, 13), (8, 13), (9, 13), (10, 13), (11, 13), (12, 13), (0, 14), (1, 14), (2, 14), (3, 14), (4, 14), (5, 14), (6, 14), (7, 14), (8, 14), (9, 14), (10, 14), (11, 14), (12, 14), (0, 15), (1, 15), (2, 15), (3, 15), (4, 15), (5, 15), (6, 15), (7, 15), (8, 15), (9, 15), (10, 15), (11, 15), (12, 15), (0, 16), (1, 16), (2, 16), (3, 16), (4, 16), (5, 16), (6, 16), (7, 16), (8, 16), (9, 16), (10, 16), (11, 16), (12, 16), (5, 17), (11, 17), (12, 17), (0, 20), (1, 20), (2, 20), (3, 20), (4, 20), (5, 20), (6, 20), (7, 20), (8, 20), (9, 20), (10, 20), (11, 20), (12, 20), (13, 20), (14, 20), (15, 20), (16, 20), (17, 20), (18, 20), (19, 20), (0, 21), (1, 21), (2, 21), (3, 21), (4, 21), (5, 21), (6, 21), (7, 21), (8, 21), (9, 21), (10, 21), (11, 21), (12, 21), (13, 21), (14, 21), (15, 21), (16, 21), (17, 21), (18, 21), (19, 21), (0, 22), (1, 22), (2, 22), (3, 22), (4, 22), (5, 22), (6, 22), (7, 22), (8, 22), (9, 22), (10, 22), (11, 22), (12, 22), (13, 22), (14, 22), (15, 22), (16, 22), (17, 22), (18, 22), (19, 22), (0, 23), (1, 23), (2, 23), (3, 23), (4, 23), (5, 23), (6, 23), (7, 23), (8, 23), (9, 23), (10, 23), (11, 23), (12, 23), (13, 23), (14, 23), (15, 23), (16, 23), (17, 23), (18, 23), (19, 23), (5, 24), (11, 24), (12, 24), (18, 24), (19, 24)])
/-- toll/tollref06.Text -/
def B14 : ACode := (.seq (.region [⟨(some 2), (.mov (.c (.string ⟨#[]⟩))), none, []⟩] none)
  (.seq (.region [⟨(some 4), (.mov (.t 0)), none, []⟩,
    ⟨(some 5), (.conv .i64 (.t 4)), none, []⟩,
    ⟨(some 6), (.call (.f 40) [(.t 5), (.c (.int .i64 4))]), none, []⟩,
    ⟨(some 3), (.mov (.t 6)), none, []⟩] none)
  (.seq R14_0
  .ret)))
def F14 : AFunc := ⟨1, 33, [(.tmp 2)], B14⟩
def R15_0 : ACode := .region [⟨(some 9), (.fieldAddr 0 (.t 1)), none, []⟩,
    ⟨(some 10), (.load none (.t 9)), none, [0]⟩,
    ⟨(some 11), (.mov (.t 3)), none, []⟩,
    ⟨(some 12), (.call (.f 36) [(.t 11)]), none, [2]⟩,
    ⟨(some 13), (.bin .and (.t 10) (.t 12)), none, [1, 3]⟩,
    ⟨(some 14), (.call (.f 13) [(.t 13)]), none, [4, 3]⟩,
    ⟨(some 4), (.mov (.t 14)), none, [5, 5, 0, 1, 2, 3, 4, 5]⟩] (some [(0, 2), (1, 2), (0, 3), (1, 3)])
/-- (toll/inet.Prefix).Text -/
def B15 : ACode := (.seq (.region [⟨(some 1), (.box 25 (.t 0)), none, []⟩,
    ⟨(some 2), (.mov (.c (.string ⟨#[]⟩))), none, []⟩] none)
  (.seq (.region [⟨(some 5), (.fieldAddr 1 (.t 1)), none, []⟩,
    ⟨(some 6), (.load none (.t 5)), none, []⟩,
    ⟨(some 7), (.min [(.t 6), (.c (.int .i64 32))]), none, []⟩,
    ⟨(some 8), (.max [(.c (.int .i64 0)), (.t 7)]), none, []⟩,
    ⟨(some 3), (.mov (.t 8)), none, []⟩] none)
  (.seq R15_0
  (.seq (.seq (.region [⟨(some 15), (.mov (.t 3)), none, []⟩,
    ⟨(some 16), (.bin .lss (.t 15) (.c (.int .i64 32))), none, []⟩] none)
  (.cond (.t 16)
  (.region [⟨(some 17), (.mov (.t 4)), none, []⟩,
    ⟨(some 18), (.mov (.t 3)), none, []⟩,
    ⟨(some 19), (.call (.f 38) [(.t 18)]), none, []⟩,
    ⟨(some 20), (.bin .add (.c (.string ⟨#[47]⟩)) (.t 19)), none, []⟩,
    ⟨(some 21), (.bin .add (.t 17) (.t 20)), none, []⟩,
    ⟨(some 4), (.mov (.t 21)), none, []⟩] none)
  .skip))
  (.seq (.region [⟨(some 22), (.mov (.t 4)), none, []⟩,
    ⟨(some 2), (.mov (.t 22)), none, []⟩] none)
  .ret)))))
def F15 : AFunc := ⟨1, 23, [(.tmp 2)], B15⟩
/-- toll/tollref06.PrefixText -/
def B16 : ACode := (.seq (.region [⟨(some 4), (.mov (.c (.string ⟨#[]⟩))), none, []⟩] none)
  (.seq (.seq (.region [⟨(some 5), (.mov (.t 1)), none, []⟩,
    ⟨(some 6), (.bin .lss (.t 5) (.c (.int .i64 0))), none, []⟩] none)
  (.cond (.t 6)
  (.region [⟨(some 1), (.mov (.c (.int .i64 0))), none, []⟩] none)
  .skip))
  (.seq (.seq (.region [⟨(some 7), (.mov (.t 1)), none, []⟩,
    ⟨(some 8), (.bin .geq (.t 7) (.c (.int .i64 32))), none, []⟩] none)
  (.cond (.t 8)
  (.seq (.region [⟨(some 9), (.mov (.t 0)), none, []⟩,
    ⟨(some 10), (.call (.f 14) [(.t 9)]), none, []⟩,
    ⟨(some 4), (.mov (.t 10)), none, []⟩] none)
  .ret)
  .skip))
  (.seq (.region [⟨(some 11), (.mov (.t 0)), none, []⟩,
    ⟨(some 12), (.mov (.t 1)), none, []⟩,
    ⟨(some 13), (.call (.f 37) [(.t 11), (.t 12)]), none, []⟩,
    ⟨(some 14), (.call (.f 14) [(.t 13)]), none, []⟩,
    ⟨(some 15), (.bin .add (.t 14) (.c (.string ⟨#[47]⟩))), none, []⟩,
    ⟨(some 16), (.mov (.t 1)), none, []⟩,
    ⟨(some 17), (.call (.f 41) [(.t 16)]), none, []⟩,
    ⟨(some 18), (.bin .add (.t 15) (.t 17)), none, []⟩,
    ⟨(some 4), (.mov (.t 18)), none, []⟩] none)
  .ret))))
def F16 : AFunc := ⟨2, 19, [(.tmp 4)], B16⟩
def R17_0 : ACode := .region [⟨(some 5), (.mov (.t 1)), none, []⟩,
    ⟨(some 6), (.fieldAddr 0 (.t 2)), none, []⟩,
    ⟨(some 7), (.load none (.t 6)), none, [1]⟩,
    ⟨(some 8), (.bin .xor (.t 5) (.t 7)), none, [0, 2]⟩,
    ⟨(some 9), (.fieldAddr 1 (.t 2)), none, []⟩,
    ⟨(some 10), (.load none (.t 9)), none, [4]⟩,
    ⟨(some 11), (.call (.f 36) [(.t 10)]), none, [5]⟩,
    ⟨(some 12), (.bin .and (.t 8) (.t 11)), none, [3, 6]⟩,
    ⟨(some 13), (.bin .eql (.t 12) (.c (.int .u32 0))), none, [7]⟩,
    ⟨(some 4), (.mov (.t 13)), none, [8, 6, 0, 1, 2, 3, 4, 5, 6, 7, 8]⟩] (some [(0, 1), (0, 2), (0, 4), (1, 4), (2, 4), (3, 4), (0, 5), (1, 5), (2, 5), (3, 5), (0, 6), (1, 6), (2, 6), (3, 6)])
/-- (toll/inet.Prefix).Has -/
def B17 : ACode := (.seq (.region [⟨(some 2), (.box 25 (.t 0)), none, []⟩,
    ⟨(some 4), (.mov (.c (.bool false))), none, []⟩] none)
  (.seq R17_0
  .ret))
def F17 : AFunc := ⟨2, 14, [(.tmp 4)], B17⟩
/-- toll/tollref06.Has -/
def B18 : ACode := (.seq (.region [⟨(some 6), (.mov (.c (.bool false))), none, []⟩] none)
  (.seq (.region [⟨(some 7), (.mov (.t 0)), none, []⟩,
    ⟨(some 8), (.mov (.t 1)), none, []⟩,
    ⟨(some 9), (.call (.f 37) [(.t 7), (.t 8)]), none, []⟩,
    ⟨(some 10), (.mov (.t 2)), none, []⟩,
    ⟨(some 11), (.mov (.t 1)), none, []⟩,
    ⟨(some 12), (.call (.f 37) [(.t 10), (.t 11)]), none, []⟩,
    ⟨(some 13), (.bin .eql (.t 9) (.t 12)), none, []⟩,
    ⟨(some 6), (.mov (.t 13)), none, []⟩] none)
  .ret))
def F18 : AFunc := ⟨3, 14, [(.tmp 6)], B18⟩
/-- toll/tolllaw06.tells -/
def B19 : ACode := (.seq (.region [⟨(some 0), (.mov (.c (.bool false))), none, []⟩] none)
  (.seq (.region [⟨(some 4), (.call (.f 11) [(.c (.string ⟨#[49, 48, 46, 49, 46, 50, 46, 51, 47, 56]⟩))]), none, []⟩,
    ⟨(some 3), (.mov (.t 4)), none, []⟩,
    ⟨(some 5), (.extract (.t 3) 0), none, []⟩,
    ⟨(some 6), (.extract (.t 3) 1), none, []⟩,
    ⟨(some 1), (.alloc 25 [(.int .u32 0), (.int .i64 0)]), none, []⟩,
    ⟨none, (.store 2 (.t 1) (.t 5)), none, []⟩,
    ⟨(some 2), (.mov (.t 6)), none, []⟩] none)
  (.seq (.region [⟨(some 7), (.buildSlice 5 1 8 [(.int .u8 0)] [(0, 1, (.c (.int .u8 0))), (1, 1, (.c (.int .u8 1))), (2, 1, (.c (.int .u8 242))), (3, 1, (.c (.int .u8 3))), (4, 1, (.c (.int .u8 244))), (5, 1, (.c (.int .u8 245))), (6, 1, (.c (.int .u8 246))), (7, 1, (.c (.int .u8 247)))]), none, []⟩,
    ⟨(some 8), (.call (.f 23) [(.t 7)]), none, []⟩,
    ⟨(some 9), (.bin .eql (.t 8) (.c (.int .u16 8717))), none, []⟩,
    ⟨(some 10), (.mov (.t 9)), none, []⟩,
    ⟨(some 11), (.mov (.t 2)), (some (10, true)), []⟩,
    ⟨(some 12), (.bin .eql (.t 11) (.c (.int .i64 0))), (some (10, true)), []⟩,
    ⟨(some 13), (.pick (.t 10) (.t 12) (.c (.bool false))), none, []⟩,
    ⟨(some 14), (.mov (.t 13)), none, []⟩,
    ⟨(some 15), (.load (some 2) (.t 1)), (some (14, true)), []⟩,
    ⟨(some 16), (.call (.f 15) [(.t 15)]), (some (14, true)), []⟩,
    ⟨(some 17), (.bin .eql (.t 16) (.c (.string ⟨#[49, 48, 46, 48, 46, 48, 46, 48, 47, 56]⟩))), (some (14, true)), []⟩,
    ⟨(some 18), (.pick (.t 14) (.t 17) (.c (.bool false))), none, []⟩,
    ⟨(some 0), (.mov (.t 18)), none, []⟩] none)
  .ret)))
def F19 : AFunc := ⟨0, 19, [(.tmp 0)], B19⟩
def R20_0 : ACode := .region [⟨(some 65), (.mov (.t 6)), none, []⟩,
    ⟨(some 66), (.bin .quo (.t 65) (.c (.int .i64 4))), none, [0]⟩,
    ⟨(some 67), (.bin .or (.c (.int .i64 64)) (.t 66)), none, [1]⟩,
    ⟨(some 68), (.conv .u8 (.t 67)), none, [2]⟩,
    ⟨(some 69), (.fieldAddr 0 (.t 2)), none, []⟩,
    ⟨(some 70), (.load none (.t 69)), none, [4]⟩,
    ⟨(some 71), (.buildSlice 5 1 2 [(.int .u8 0)] [(0, 1, (.t 68)), (1, 1, (.t 70))]), none, [3, 5]⟩,
    ⟨(some 72), (.mov (.t 6)), none, []⟩,
    ⟨(some 73), (.mov (.t 1)), none, []⟩,
    ⟨(some 74), (.lenSlice (.t 73)), none, [8]⟩,
    ⟨(some 75), (.bin .add (.t 72) (.t 74)), none, [7, 9]⟩,
    ⟨(some 76), (.conv .u16 (.t 75)), none, [10]⟩,
    ⟨(some 77), (.fieldAddr 3 (.t 2)), none, []⟩,
    ⟨(some 78), (.load none (.t 77)), none, [12]⟩,
    ⟨(some 79), (.mov (.t 7)), none, []⟩,
    ⟨(some 80), (.buildSlice 44 1 3 [(.int .u16 0)] [(0, 1, (.t 76)), (1, 1, (.t 78)), (2, 1, (.t 79))]), none, [11, 13, 14]⟩,
    ⟨(some 81), (.call (.f 44) [(.t 80)]), none, [15]⟩,
    ⟨(some 82), (.append 5 1 1 (.t 71) (.t 81)), none, [6, 16, 16]⟩,
    ⟨(some 10), (.mov (.t 82)), none, [17, 17, 0, 1, 2, 3, 4, 5, 6, 7, 8, 9, 10, 11, 12, 13, 14, 15, 16, 17]⟩] (some [(0, 4), (1, 4), (2, 4), (3, 4), (0, 5), (1, 5), (2, 5), (3, 5), (0, 7), (1, 7), (2, 7), (3, 7), (4, 7), (5, 7), (6, 7), (0, 8), (1, 8), (2, 8), (3, 8), (4, 8), (5, 8), (6, 8), (7, 8), (0, 9), (1, 9), (2, 9), (3, 9), (4, 9), (5, 9), (6, 9), (7, 9), (0, 10), (1, 10), (2, 10), (3, 10), (4, 10), (5, 10), (6, 10), (0, 11), (1, 11), (2, 11), (3, 11), (4, 11), (5, 11), (6, 11), (0, 12), (1, 12), (2, 12), (3, 12), (4, 12), (5, 12), (6, 12), (7, 12), (8, 12), (9, 12), (10, 12), (11, 12), (0, 13), (1, 13), (2, 13), (3, 13), (4, 13), (5, 13), (6, 13), (7, 13), (8, 13), (9, 13), (10, 13), (11, 13), (0, 14), (1, 14), (2, 14), (3, 14), (4, 14), (5, 14), (6, 14), (7, 14), (8, 14), (9, 14), (10, 14), (11, 14), (12, 14), (13, 14), (0, 15), (1, 15), (2, 15), (3, 15), (4, 15), (5, 15), (6, 15), (0, 16), (1, 16), (2, 16), (3, 16), (4, 16), (5, 16), (6, 16)])
def R20_1 : ACode := .region [⟨(some 112), (.mov (.t 10)), none, []⟩,
    ⟨(some 113), (.slice 1 (.t 112) (some (.c (.int .i64 10))) none none), none, [0]⟩,
    ⟨(some 114), (.mov (.t 10)), none, []⟩,
    ⟨(some 115), (.call (.f 23) [(.t 114)]), none, [2]⟩,
    ⟨(some 116), (.buildSlice 44 1 1 [(.int .u16 0)] [(0, 1, (.t 115))]), none, [3]⟩,
    ⟨(some 117), (.call (.f 44) [(.t 116)]), none, [4, 3]⟩,
    ⟨(some 118), (.copy 1 (.t 113) (.t 117)), none, [1, 5, 5]⟩] (some [(0, 2), (1, 2), (0, 3), (1, 3), (0, 4), (1, 4), (0, 5), (1, 5)])
/-- toll/inet.Put -/
def F20L0 : ACode := (.seq (.region [⟨(some 56), (.bin .lss (.t 55) (.c (.int .i64 3))), none, []⟩] none)
  (.seq (.cond (.t 56)
  .skip
  (.exit 1))
  (.seq (.block 2 (.seq (.region [⟨(some 57), (.index 2 3 (some 2) (.t 54) (.t 55)), none, []⟩,
    ⟨(some 9), (.alloc 78 [(.bool false), (.int .u16 0)]), none, []⟩,
    ⟨none, (.store 2 (.t 9) (.t 57)), none, []⟩] none)
  (.seq (.region [⟨(some 58), (.fieldAddr 0 (.t 9)), none, []⟩,
    ⟨(some 59), (.load none (.t 58)), none, []⟩] none)
  (.cond (.t 59)
  (.region [⟨(some 60), (.mov (.t 7)), none, []⟩,
    ⟨(some 61), (.fieldAddr 1 (.t 9)), none, []⟩,
    ⟨(some 62), (.load none (.t 61)), none, []⟩,
    ⟨(some 63), (.bin .or (.t 60) (.t 62)), none, []⟩,
    ⟨(some 7), (.mov (.t 63)), none, []⟩] none)
  .skip))))
  (.region [⟨(some 64), (.bin .add (.t 55) (.c (.int .i64 1))), none, []⟩,
    ⟨(some 55), (.mov (.t 64)), none, []⟩] none))))
def B20 : ACode := (.seq (.region [⟨(some 2), (.box 47 (.t 0)), none, []⟩,
    ⟨(some 4), (.mov (.c (.slice none 0 0))), none, []⟩,
    ⟨(some 5), (.mov (.c (.int .i64 0))), none, []⟩] none)
  (.seq (.region [⟨(some 11), (.fieldAddr 10 (.t 2)), none, []⟩,
    ⟨(some 12), (.load none (.t 11)), none, []⟩,
    ⟨(some 13), (.lenSlice (.t 12)), none, []⟩,
    ⟨(some 14), (.bin .add (.c (.int .i64 20)) (.t 13)), none, []⟩,
    ⟨(some 6), (.mov (.t 14)), none, []⟩] none)
  (.seq (.block 0 (.seq (.region [⟨(some 16), (.fieldAddr 7 (.t 2)), none, []⟩,
    ⟨(some 17), (.load none (.t 16)), none, []⟩,
    ⟨(some 18), (.bin .lss (.t 17) (.c (.int .i64 0))), none, []⟩,
    ⟨(some 19), (.mov (.t 18)), none, []⟩,
    ⟨(some 20), (.fieldAddr 7 (.t 2)), (some (19, false)), []⟩,
    ⟨(some 21), (.load none (.t 20)), (some (19, false)), []⟩,
    ⟨(some 22), (.bin .geq (.t 21) (.c (.int .i64 8192))), (some (19, false)), []⟩,
    ⟨(some 23), (.pick (.t 19) (.c (.bool true)) (.t 22)), none, []⟩,
    ⟨(some 24), (.mov (.t 23)), none, []⟩,
    ⟨(some 25), (.fieldAddr 10 (.t 2)), (some (24, false)), []⟩,
    ⟨(some 26), (.load none (.t 25)), (some (24, false)), []⟩,
    ⟨(some 27), (.call (.f 42) [(.t 26)]), (some (24, false)), []⟩,
    ⟨(some 28), (.un .not (.t 27)), (some (24, false)), []⟩,
    ⟨(some 29), (.pick (.t 24) (.c (.bool true)) (.t 28)), none, []⟩,
    ⟨(some 30), (.mov (.t 29)), none, []⟩,
    ⟨(some 31), (.load (some 11) (.t 2)), (some (30, false)), []⟩,
    ⟨(some 32), (.mov (.t 1)), (some (30, false)), []⟩,
    ⟨(some 33), (.call (.f 43) [(.t 31), (.t 32)]), (some (30, false)), []⟩,
    ⟨(some 34), (.un .not (.t 33)), (some (30, false)), []⟩,
    ⟨(some 35), (.pick (.t 30) (.c (.bool true)) (.t 34)), none, []⟩,
    ⟨(some 15), (.mov (.t 35)), none, []⟩] none)
  (.cond (.t 15)
  (.seq (.region [⟨(some 4), (.mov (.c (.slice none 0 0))), none, []⟩,
    ⟨(some 5), (.mov (.c (.int .i64 1))), none, []⟩] none)
  .ret)
  (.seq (.region [⟨(some 37), (.mov (.t 6)), none, []⟩,
    ⟨(some 38), (.mov (.t 1)), none, []⟩,
    ⟨(some 39), (.lenSlice (.t 38)), none, []⟩,
    ⟨(some 40), (.bin .add (.t 37) (.t 39)), none, []⟩,
    ⟨(some 41), (.bin .gtr (.t 40) (.c (.int .i64 65535))), none, []⟩,
    ⟨(some 36), (.mov (.t 41)), none, []⟩] none)
  (.cond (.t 36)
  (.seq (.region [⟨(some 4), (.mov (.c (.slice none 0 0))), none, []⟩,
    ⟨(some 5), (.mov (.c (.int .i64 3))), none, []⟩] none)
  .ret)
  .skip)))))
  (.seq (.region [⟨(some 42), (.fieldAddr 7 (.t 2)), none, []⟩,
    ⟨(some 43), (.load none (.t 42)), none, []⟩,
    ⟨(some 44), (.conv .u16 (.t 43)), none, []⟩,
    ⟨(some 7), (.mov (.t 44)), none, []⟩] none)
  (.seq (.seq (.region [⟨(some 45), (.fieldAddr 4 (.t 2)), none, []⟩,
    ⟨(some 46), (.load none (.t 45)), none, []⟩,
    ⟨(some 47), (.build [(.bool false), (.int .u16 0)] [(0, 1, (.t 46)), (1, 1, (.c (.int .u16 32768)))]), none, []⟩,
    ⟨(some 48), (.fieldAddr 5 (.t 2)), none, []⟩,
    ⟨(some 49), (.load none (.t 48)), none, []⟩,
    ⟨(some 50), (.build [(.bool false), (.int .u16 0)] [(0, 1, (.t 49)), (1, 1, (.c (.int .u16 16384)))]), none, []⟩,
    ⟨(some 51), (.fieldAddr 6 (.t 2)), none, []⟩,
    ⟨(some 52), (.load none (.t 51)), none, []⟩,
    ⟨(some 53), (.build [(.bool false), (.int .u16 0)] [(0, 1, (.t 52)), (1, 1, (.c (.int .u16 8192)))]), none, []⟩,
    ⟨(some 54), (.build [(.bool false), (.int .u16 0), (.bool false), (.int .u16 0), (.bool false), (.int .u16 0)] [(0, 2, (.t 47)), (2, 2, (.t 50)), (4, 2, (.t 53))]), none, []⟩,
    ⟨(some 55), (.mov (.c (.int .i64 0))), none, []⟩] none)
  (.block 1 (.loop F20L0)))
  (.seq R20_0
  (.seq (.region [⟨(some 83), (.mov (.t 10)), none, []⟩,
    ⟨(some 84), (.fieldAddr 1 (.t 2)), none, []⟩,
    ⟨(some 85), (.load none (.t 84)), none, []⟩,
    ⟨(some 86), (.fieldAddr 2 (.t 2)), none, []⟩,
    ⟨(some 87), (.load none (.t 86)), none, []⟩,
    ⟨(some 88), (.buildSlice 5 1 2 [(.int .u8 0)] [(0, 1, (.t 85)), (1, 1, (.t 87))]), none, []⟩,
    ⟨(some 89), (.append 5 1 1 (.t 83) (.t 88)), none, []⟩,
    ⟨(some 10), (.mov (.t 89)), none, []⟩] none)
  (.seq (.region [⟨(some 90), (.mov (.t 10)), none, []⟩,
    ⟨(some 91), (.fieldAddr 8 (.t 2)), none, []⟩,
    ⟨(some 92), (.load none (.t 91)), none, []⟩,
    ⟨(some 93), (.bin .shr (.t 92) (.c (.int .u64 16))), none, []⟩,
    ⟨(some 94), (.conv .u16 (.t 93)), none, []⟩,
    ⟨(some 95), (.fieldAddr 8 (.t 2)), none, []⟩,
    ⟨(some 96), (.load none (.t 95)), none, []⟩,
    ⟨(some 97), (.conv .u16 (.t 96)), none, []⟩,
    ⟨(some 98), (.fieldAddr 9 (.t 2)), none, []⟩,
    ⟨(some 99), (.load none (.t 98)), none, []⟩,
    ⟨(some 100), (.bin .shr (.t 99) (.c (.int .u64 16))), none, []⟩,
    ⟨(some 101), (.conv .u16 (.t 100)), none, []⟩,
    ⟨(some 102), (.fieldAddr 9 (.t 2)), none, []⟩,
    ⟨(some 103), (.load none (.t 102)), none, []⟩,
    ⟨(some 104), (.conv .u16 (.t 103)), none, []⟩,
    ⟨(some 105), (.buildSlice 44 1 5 [(.int .u16 0)] [(0, 1, (.c (.int .u16 0))), (1, 1, (.t 94)), (2, 1, (.t 97)), (3, 1, (.t 101)), (4, 1, (.t 104))]), none, []⟩,
    ⟨(some 106), (.call (.f 44) [(.t 105)]), none, []⟩,
    ⟨(some 107), (.append 5 1 1 (.t 90) (.t 106)), none, []⟩,
    ⟨(some 10), (.mov (.t 107)), none, []⟩] none)
  (.seq (.region [⟨(some 108), (.mov (.t 10)), none, []⟩,
    ⟨(some 109), (.fieldAddr 10 (.t 2)), none, []⟩,
    ⟨(some 110), (.load none (.t 109)), none, []⟩,
    ⟨(some 111), (.append 5 1 1 (.t 108) (.t 110)), none, []⟩,
    ⟨(some 10), (.mov (.t 111)), none, []⟩] none)
  (.seq R20_1
  (.seq (.region [⟨(some 119), (.mov (.t 10)), none, []⟩,
    ⟨(some 120), (.mov (.t 1)), none, []⟩,
    ⟨(some 121), (.append 5 1 1 (.t 119) (.t 120)), none, []⟩,
    ⟨(some 4), (.mov (.t 121)), none, []⟩,
    ⟨(some 5), (.mov (.c (.int .i64 0))), none, []⟩] none)
  .ret)))))))))))
def F20 : AFunc := ⟨2, 122, [(.tmp 4), (.tmp 5)], B20⟩
-- F20L0 live: [1, 2, 6, 7, 54, 55]
/-- toll/tollref06.Put -/
def B21 : ACode := (.seq (.region [⟨(some 2), (.box 53 (.t 0)), none, []⟩,
    ⟨(some 4), (.mov (.c (.slice none 0 0))), none, []⟩,
    ⟨(some 5), (.mov (.c (.int .i64 0))), none, []⟩] none)
  (.seq (.seq (.region [⟨(some 10), (.fieldAddr 7 (.t 2)), none, []⟩,
    ⟨(some 11), (.load none (.t 10)), none, []⟩,
    ⟨(some 12), (.bin .lss (.t 11) (.c (.int .i64 0))), none, []⟩,
    ⟨(some 13), (.mov (.t 12)), none, []⟩,
    ⟨(some 14), (.fieldAddr 7 (.t 2)), (some (13, false)), []⟩,
    ⟨(some 15), (.load none (.t 14)), (some (13, false)), []⟩,
    ⟨(some 16), (.bin .gtr (.t 15) (.c (.int .i64 8191))), (some (13, false)), []⟩,
    ⟨(some 17), (.pick (.t 13) (.c (.bool true)) (.t 16)), none, []⟩,
    ⟨(some 18), (.mov (.t 17)), none, []⟩,
    ⟨(some 19), (.fieldAddr 10 (.t 2)), (some (18, false)), []⟩,
    ⟨(some 20), (.load none (.t 19)), (some (18, false)), []⟩,
    ⟨(some 21), (.call (.f 45) [(.t 20)]), (some (18, false)), []⟩,
    ⟨(some 22), (.un .not (.t 21)), (some (18, false)), []⟩,
    ⟨(some 23), (.pick (.t 18) (.c (.bool true)) (.t 22)), none, []⟩,
    ⟨(some 24), (.mov (.t 23)), none, []⟩,
    ⟨(some 25), (.load (some 11) (.t 2)), (some (24, false)), []⟩,
    ⟨(some 26), (.mov (.t 1)), (some (24, false)), []⟩,
    ⟨(some 27), (.lenSlice (.t 26)), (some (24, false)), []⟩,
    ⟨(some 28), (.call (.f 46) [(.t 25), (.t 27)]), (some (24, false)), []⟩,
    ⟨(some 29), (.un .not (.t 28)), (some (24, false)), []⟩,
    ⟨(some 30), (.pick (.t 24) (.c (.bool true)) (.t 29)), none, []⟩] none)
  (.cond (.t 30)
  (.seq (.region [⟨(some 4), (.mov (.c (.slice none 0 0))), none, []⟩,
    ⟨(some 5), (.mov (.c (.int .i64 1))), none, []⟩] none)
  .ret)
  .skip))
  (.seq (.region [⟨(some 31), (.fieldAddr 10 (.t 2)), none, []⟩,
    ⟨(some 32), (.load none (.t 31)), none, []⟩,
    ⟨(some 33), (.lenSlice (.t 32)), none, []⟩,
    ⟨(some 34), (.bin .add (.c (.int .i64 20)) (.t 33)), none, []⟩,
    ⟨(some 6), (.mov (.t 34)), none, []⟩] none)
  (.seq (.seq (.region [⟨(some 35), (.mov (.t 6)), none, []⟩,
    ⟨(some 36), (.mov (.t 1)), none, []⟩,
    ⟨(some 37), (.lenSlice (.t 36)), none, []⟩,
    ⟨(some 38), (.bin .add (.t 35) (.t 37)), none, []⟩,
    ⟨(some 39), (.bin .gtr (.t 38) (.c (.int .i64 65535))), none, []⟩] none)
  (.cond (.t 39)
  (.seq (.region [⟨(some 4), (.mov (.c (.slice none 0 0))), none, []⟩,
    ⟨(some 5), (.mov (.c (.int .i64 3))), none, []⟩] none)
  .ret)
  .skip))
  (.seq (.region [⟨(some 40), (.fieldAddr 7 (.t 2)), none, []⟩,
    ⟨(some 41), (.load none (.t 40)), none, []⟩,
    ⟨(some 7), (.mov (.t 41)), none, []⟩] none)
  (.seq (.seq (.region [⟨(some 42), (.fieldAddr 4 (.t 2)), none, []⟩,
    ⟨(some 43), (.load none (.t 42)), none, []⟩] none)
  (.cond (.t 43)
  (.region [⟨(some 44), (.mov (.t 7)), none, []⟩,
    ⟨(some 45), (.bin .add (.t 44) (.c (.int .i64 32768))), none, []⟩,
    ⟨(some 7), (.mov (.t 45)), none, []⟩] none)
  .skip))
  (.seq (.seq (.region [⟨(some 46), (.fieldAddr 5 (.t 2)), none, []⟩,
    ⟨(some 47), (.load none (.t 46)), none, []⟩] none)
  (.cond (.t 47)
  (.region [⟨(some 48), (.mov (.t 7)), none, []⟩,
    ⟨(some 49), (.bin .add (.t 48) (.c (.int .i64 16384))), none, []⟩,
    ⟨(some 7), (.mov (.t 49)), none, []⟩] none)
  .skip))
  (.seq (.seq (.region [⟨(some 50), (.fieldAddr 6 (.t 2)), none, []⟩,
    ⟨(some 51), (.load none (.t 50)), none, []⟩] none)
  (.cond (.t 51)
  (.region [⟨(some 52), (.mov (.t 7)), none, []⟩,
    ⟨(some 53), (.bin .add (.t 52) (.c (.int .i64 8192))), none, []⟩,
    ⟨(some 7), (.mov (.t 53)), none, []⟩] none)
  .skip))
  (.seq (.region [⟨(some 54), (.mov (.t 6)), none, []⟩,
    ⟨(some 55), (.bin .quo (.t 54) (.c (.int .i64 4))), none, []⟩,
    ⟨(some 56), (.bin .add (.c (.int .i64 64)) (.t 55)), none, []⟩,
    ⟨(some 57), (.conv .u8 (.t 56)), none, []⟩,
    ⟨(some 58), (.fieldAddr 0 (.t 2)), none, []⟩,
    ⟨(some 59), (.load none (.t 58)), none, []⟩,
    ⟨(some 60), (.buildSlice 5 1 2 [(.int .u8 0)] [(0, 1, (.t 57)), (1, 1, (.t 59))]), none, []⟩,
    ⟨(some 8), (.mov (.t 60)), none, []⟩] none)
  (.seq (.region [⟨(some 61), (.mov (.t 8)), none, []⟩,
    ⟨(some 62), (.mov (.t 6)), none, []⟩,
    ⟨(some 63), (.mov (.t 1)), none, []⟩,
    ⟨(some 64), (.lenSlice (.t 63)), none, []⟩,
    ⟨(some 65), (.bin .add (.t 62) (.t 64)), none, []⟩,
    ⟨(some 66), (.call (.f 40) [(.t 65), (.c (.int .i64 2))]), none, []⟩,
    ⟨(some 67), (.append 5 1 1 (.t 61) (.t 66)), none, []⟩,
    ⟨(some 8), (.mov (.t 67)), none, []⟩] none)
  (.seq (.region [⟨(some 68), (.mov (.t 8)), none, []⟩,
    ⟨(some 69), (.fieldAddr 3 (.t 2)), none, []⟩,
    ⟨(some 70), (.load none (.t 69)), none, []⟩,
    ⟨(some 71), (.conv .i64 (.t 70)), none, []⟩,
    ⟨(some 72), (.call (.f 40) [(.t 71), (.c (.int .i64 2))]), none, []⟩,
    ⟨(some 73), (.append 5 1 1 (.t 68) (.t 72)), none, []⟩,
    ⟨(some 8), (.mov (.t 73)), none, []⟩] none)
  (.seq (.region [⟨(some 74), (.mov (.t 8)), none, []⟩,
    ⟨(some 75), (.mov (.t 7)), none, []⟩,
    ⟨(some 76), (.call (.f 40) [(.t 75), (.c (.int .i64 2))]), none, []⟩,
    ⟨(some 77), (.append 5 1 1 (.t 74) (.t 76)), none, []⟩,
    ⟨(some 8), (.mov (.t 77)), none, []⟩] none)
  (.seq (.region [⟨(some 78), (.mov (.t 8)), none, []⟩,
    ⟨(some 79), (.fieldAddr 1 (.t 2)), none, []⟩,
    ⟨(some 80), (.load none (.t 79)), none, []⟩,
    ⟨(some 81), (.fieldAddr 2 (.t 2)), none, []⟩,
    ⟨(some 82), (.load none (.t 81)), none, []⟩,
    ⟨(some 83), (.buildSlice 5 1 4 [(.int .u8 0)] [(0, 1, (.t 80)), (1, 1, (.t 82)), (2, 1, (.c (.int .u8 0))), (3, 1, (.c (.int .u8 0)))]), none, []⟩,
    ⟨(some 84), (.append 5 1 1 (.t 78) (.t 83)), none, []⟩,
    ⟨(some 8), (.mov (.t 84)), none, []⟩] none)
  (.seq (.region [⟨(some 85), (.mov (.t 8)), none, []⟩,
    ⟨(some 86), (.fieldAddr 8 (.t 2)), none, []⟩,
    ⟨(some 87), (.load none (.t 86)), none, []⟩,
    ⟨(some 88), (.conv .i64 (.t 87)), none, []⟩,
    ⟨(some 89), (.call (.f 40) [(.t 88), (.c (.int .i64 4))]), none, []⟩,
    ⟨(some 90), (.append 5 1 1 (.t 85) (.t 89)), none, []⟩,
    ⟨(some 8), (.mov (.t 90)), none, []⟩] none)
  (.seq (.region [⟨(some 91), (.mov (.t 8)), none, []⟩,
    ⟨(some 92), (.fieldAddr 9 (.t 2)), none, []⟩,
    ⟨(some 93), (.load none (.t 92)), none, []⟩,
    ⟨(some 94), (.conv .i64 (.t 93)), none, []⟩,
    ⟨(some 95), (.call (.f 40) [(.t 94), (.c (.int .i64 4))]), none, []⟩,
    ⟨(some 96), (.append 5 1 1 (.t 91) (.t 95)), none, []⟩,
    ⟨(some 8), (.mov (.t 96)), none, []⟩] none)
  (.seq (.region [⟨(some 97), (.mov (.t 8)), none, []⟩,
    ⟨(some 98), (.fieldAddr 10 (.t 2)), none, []⟩,
    ⟨(some 99), (.load none (.t 98)), none, []⟩,
    ⟨(some 100), (.append 5 1 1 (.t 97) (.t 99)), none, []⟩,
    ⟨(some 8), (.mov (.t 100)), none, []⟩] none)
  (.seq (.region [⟨(some 101), (.mov (.t 8)), none, []⟩,
    ⟨(some 102), (.call (.f 24) [(.t 101)]), none, []⟩,
    ⟨(some 9), (.mov (.t 102)), none, []⟩] none)
  (.seq (.region [⟨(some 103), (.mov (.t 8)), none, []⟩,
    ⟨(some 104), (.mov (.t 9)), none, []⟩,
    ⟨(some 105), (.bin .quo (.t 104) (.c (.int .u16 256))), none, []⟩,
    ⟨(some 106), (.conv .u8 (.t 105)), none, []⟩,
    ⟨(some 107), (.indexAddr 1 (.t 103) (.c (.int .i64 10))), none, []⟩,
    ⟨none, (.store 1 (.t 107) (.t 106)), none, []⟩] none)
  (.seq (.region [⟨(some 108), (.mov (.t 8)), none, []⟩,
    ⟨(some 109), (.mov (.t 9)), none, []⟩,
    ⟨(some 110), (.bin .rem (.t 109) (.c (.int .u16 256))), none, []⟩,
    ⟨(some 111), (.conv .u8 (.t 110)), none, []⟩,
    ⟨(some 112), (.indexAddr 1 (.t 108) (.c (.int .i64 11))), none, []⟩,
    ⟨none, (.store 1 (.t 112) (.t 111)), none, []⟩] none)
  (.seq (.region [⟨(some 113), (.mov (.t 8)), none, []⟩,
    ⟨(some 114), (.mov (.t 1)), none, []⟩,
    ⟨(some 115), (.append 5 1 1 (.t 113) (.t 114)), none, []⟩,
    ⟨(some 4), (.mov (.t 115)), none, []⟩,
    ⟨(some 5), (.mov (.c (.int .i64 0))), none, []⟩] none)
  .ret))))))))))))))))))))
def F21 : AFunc := ⟨2, 116, [(.tmp 4), (.tmp 5)], B21⟩
/-- toll/tolllaw06.of -/
def B22 : ACode := (.seq (.region [⟨(some 1), (.box 47 (.t 0)), none, []⟩,
    ⟨(some 2), (.alloc 53 [(.int .u8 0), (.int .u8 0), (.int .u8 0), (.int .u16 0), (.bool false), (.bool false), (.bool false), (.int .i64 0), (.int .u32 0), (.int .u32 0), (.slice none 0 0)]), none, []⟩] none)
  (.seq (.region [⟨(some 3), (.fieldAddr 0 (.t 1)), none, []⟩,
    ⟨(some 4), (.load none (.t 3)), none, []⟩,
    ⟨(some 5), (.fieldAddr 1 (.t 1)), none, []⟩,
    ⟨(some 6), (.load none (.t 5)), none, []⟩,
    ⟨(some 7), (.fieldAddr 2 (.t 1)), none, []⟩,
    ⟨(some 8), (.load none (.t 7)), none, []⟩,
    ⟨(some 9), (.fieldAddr 3 (.t 1)), none, []⟩,
    ⟨(some 10), (.load none (.t 9)), none, []⟩,
    ⟨(some 11), (.fieldAddr 4 (.t 1)), none, []⟩,
    ⟨(some 12), (.load none (.t 11)), none, []⟩,
    ⟨(some 13), (.fieldAddr 5 (.t 1)), none, []⟩,
    ⟨(some 14), (.load none (.t 13)), none, []⟩,
    ⟨(some 15), (.fieldAddr 6 (.t 1)), none, []⟩,
    ⟨(some 16), (.load none (.t 15)), none, []⟩,
    ⟨(some 17), (.fieldAddr 7 (.t 1)), none, []⟩,
    ⟨(some 18), (.load none (.t 17)), none, []⟩,
    ⟨(some 19), (.fieldAddr 8 (.t 1)), none, []⟩,
    ⟨(some 20), (.load none (.t 19)), none, []⟩,
    ⟨(some 21), (.fieldAddr 9 (.t 1)), none, []⟩,
    ⟨(some 22), (.load none (.t 21)), none, []⟩,
    ⟨(some 23), (.fieldAddr 10 (.t 1)), none, []⟩,
    ⟨(some 24), (.load none (.t 23)), none, []⟩,
    ⟨(some 25), (.build [(.int .u8 0), (.int .u8 0), (.int .u8 0), (.int .u16 0), (.bool false), (.bool false), (.bool false), (.int .i64 0), (.int .u32 0), (.int .u32 0), (.slice none 0 0)] [(0, 1, (.t 4)), (1, 1, (.t 6)), (2, 1, (.t 8)), (3, 1, (.t 10)), (4, 1, (.t 12)), (5, 1, (.t 14)), (6, 1, (.t 16)), (7, 1, (.t 18)), (8, 1, (.t 20)), (9, 1, (.t 22)), (10, 1, (.t 24))]), none, []⟩,
    ⟨none, (.store 11 (.t 2) (.t 25)), none, []⟩] none)
  .ret))
def F22 : AFunc := ⟨1, 26, [(.cell 2 (some 11))], B22⟩
/-- toll/inet.Sum -/
def F23L0 : ACode := (.seq (.region [⟨(some 9), (.bin .lss (.t 8) (.t 7)), none, []⟩] none)
  (.seq (.cond (.t 9)
  .skip
  (.exit 0))
  (.seq (.block 1 (.seq (.region [⟨(some 10), (.mov (.t 8)), none, []⟩,
    ⟨(some 11), (.indexAddr 1 (.t 6) (.t 8)), none, []⟩,
    ⟨(some 12), (.load none (.t 11)), none, []⟩,
    ⟨(some 4), (.mov (.t 10)), none, []⟩,
    ⟨(some 5), (.mov (.t 12)), none, []⟩] none)
  (.seq (.seq (.region [⟨(some 13), (.mov (.t 4)), none, []⟩,
    ⟨(some 14), (.bin .rem (.t 13) (.c (.int .i64 2))), none, []⟩,
    ⟨(some 15), (.bin .eql (.t 14) (.c (.int .i64 0))), none, []⟩] none)
  (.cond (.t 15)
  (.seq (.region [⟨(some 16), (.mov (.t 3)), none, []⟩,
    ⟨(some 17), (.mov (.t 5)), none, []⟩,
    ⟨(some 18), (.conv .u64 (.t 17)), none, []⟩,
    ⟨(some 19), (.bin .shl (.t 18) (.c (.int .u64 8))), none, []⟩,
    ⟨(some 20), (.bin .add (.t 16) (.t 19)), none, []⟩,
    ⟨(some 3), (.mov (.t 20)), none, []⟩] none)
  (.exit 1))
  .skip))
  (.region [⟨(some 21), (.mov (.t 3)), none, []⟩,
    ⟨(some 22), (.mov (.t 5)), none, []⟩,
    ⟨(some 23), (.conv .u64 (.t 22)), none, []⟩,
    ⟨(some 24), (.bin .add (.t 21) (.t 23)), none, []⟩,
    ⟨(some 3), (.mov (.t 24)), none, []⟩] none))))
  (.region [⟨(some 25), (.bin .add (.t 8) (.c (.int .i64 1))), none, []⟩,
    ⟨(some 8), (.mov (.t 25)), none, []⟩] none))))
def F23L1 : ACode := (.seq (.seq (.region [⟨(some 26), (.mov (.t 3)), none, []⟩,
    ⟨(some 27), (.bin .gtr (.t 26) (.c (.int .u64 65535))), none, []⟩] none)
  (.cond (.t 27)
  .skip
  (.exit 2)))
  (.block 3 (.region [⟨(some 28), (.mov (.t 3)), none, []⟩,
    ⟨(some 29), (.bin .and (.t 28) (.c (.int .u64 65535))), none, []⟩,
    ⟨(some 30), (.mov (.t 3)), none, []⟩,
    ⟨(some 31), (.bin .shr (.t 30) (.c (.int .u64 16))), none, []⟩,
    ⟨(some 32), (.bin .add (.t 29) (.t 31)), none, []⟩,
    ⟨(some 3), (.mov (.t 32)), none, []⟩] none)))
def B23 : ACode := (.seq (.region [⟨(some 2), (.mov (.c (.int .u16 0))), none, []⟩] none)
  (.seq (.region [⟨(some 3), (.mov (.c (.int .u64 0))), none, []⟩] none)
  (.seq (.seq (.region [⟨(some 6), (.mov (.t 0)), none, []⟩,
    ⟨(some 7), (.lenSlice (.t 6)), none, []⟩,
    ⟨(some 8), (.mov (.c (.int .i64 0))), none, []⟩] none)
  (.block 0 (.loop F23L0)))
  (.seq (.block 2 (.loop F23L1))
  (.seq (.region [⟨(some 33), (.mov (.t 3)), none, []⟩,
    ⟨(some 34), (.conv .u16 (.t 33)), none, []⟩,
    ⟨(some 35), (.un .xor (.t 34)), none, []⟩,
    ⟨(some 2), (.mov (.t 35)), none, []⟩] none)
  .ret)))))
def F23 : AFunc := ⟨1, 36, [(.tmp 2)], B23⟩
-- F23L0 live: [3, 6, 7, 8]

-- F23L1 live: [3]
/-- toll/tollref06.Sum -/
def F24L0 : ACode := (.seq (.seq (.region [⟨(some 6), (.mov (.t 4)), none, []⟩,
    ⟨(some 7), (.mov (.t 0)), none, []⟩,
    ⟨(some 8), (.lenSlice (.t 7)), none, []⟩,
    ⟨(some 9), (.bin .lss (.t 6) (.t 8)), none, []⟩] none)
  (.cond (.t 9)
  .skip
  (.exit 0)))
  (.seq (.block 1 (.seq (.region [⟨(some 12), (.mov (.t 0)), none, []⟩,
    ⟨(some 13), (.mov (.t 4)), none, []⟩,
    ⟨(some 14), (.indexAddr 1 (.t 12) (.t 13)), none, []⟩,
    ⟨(some 15), (.load none (.t 14)), none, []⟩,
    ⟨(some 16), (.conv .i64 (.t 15)), none, []⟩,
    ⟨(some 17), (.bin .mul (.c (.int .i64 256)) (.t 16)), none, []⟩,
    ⟨(some 5), (.mov (.t 17)), none, []⟩] none)
  (.seq (.seq (.region [⟨(some 18), (.mov (.t 4)), none, []⟩,
    ⟨(some 19), (.bin .add (.t 18) (.c (.int .i64 1))), none, []⟩,
    ⟨(some 20), (.mov (.t 0)), none, []⟩,
    ⟨(some 21), (.lenSlice (.t 20)), none, []⟩,
    ⟨(some 22), (.bin .lss (.t 19) (.t 21)), none, []⟩] none)
  (.cond (.t 22)
  (.region [⟨(some 23), (.mov (.t 5)), none, []⟩,
    ⟨(some 24), (.mov (.t 0)), none, []⟩,
    ⟨(some 25), (.mov (.t 4)), none, []⟩,
    ⟨(some 26), (.bin .add (.t 25) (.c (.int .i64 1))), none, []⟩,
    ⟨(some 27), (.indexAddr 1 (.t 24) (.t 26)), none, []⟩,
    ⟨(some 28), (.load none (.t 27)), none, []⟩,
    ⟨(some 29), (.conv .i64 (.t 28)), none, []⟩,
    ⟨(some 30), (.bin .add (.t 23) (.t 29)), none, []⟩,
    ⟨(some 5), (.mov (.t 30)), none, []⟩] none)
  .skip))
  (.seq (.region [⟨(some 31), (.mov (.t 3)), none, []⟩,
    ⟨(some 32), (.mov (.t 5)), none, []⟩,
    ⟨(some 33), (.bin .add (.t 31) (.t 32)), none, []⟩,
    ⟨(some 3), (.mov (.t 33)), none, []⟩] none)
  (.seq (.region [⟨(some 34), (.mov (.t 3)), none, []⟩,
    ⟨(some 35), (.bin .gtr (.t 34) (.c (.int .i64 65535))), none, []⟩] none)
  (.cond (.t 35)
  (.region [⟨(some 36), (.mov (.t 3)), none, []⟩,
    ⟨(some 37), (.bin .sub (.t 36) (.c (.int .i64 65535))), none, []⟩,
    ⟨(some 3), (.mov (.t 37)), none, []⟩] none)
  .skip))))))
  (.region [⟨(some 10), (.mov (.t 4)), none, []⟩,
    ⟨(some 11), (.bin .add (.t 10) (.c (.int .i64 2))), none, []⟩,
    ⟨(some 4), (.mov (.t 11)), none, []⟩] none)))
def B24 : ACode := (.seq (.region [⟨(some 2), (.mov (.c (.int .u16 0))), none, []⟩] none)
  (.seq (.region [⟨(some 3), (.mov (.c (.int .i64 0))), none, []⟩] none)
  (.seq (.seq (.region [⟨(some 4), (.mov (.c (.int .i64 0))), none, []⟩] none)
  (.block 0 (.loop F24L0)))
  (.seq (.region [⟨(some 38), (.mov (.t 3)), none, []⟩,
    ⟨(some 39), (.bin .sub (.c (.int .i64 65535)) (.t 38)), none, []⟩,
    ⟨(some 40), (.conv .u16 (.t 39)), none, []⟩,
    ⟨(some 2), (.mov (.t 40)), none, []⟩] none)
  .ret))))
def F24 : AFunc := ⟨1, 41, [(.tmp 2)], B24⟩
-- F24L0 live: [0, 3, 4]
/-- (toll/inet.Head).First -/
def B25 : ACode := (.seq (.region [⟨(some 1), (.box 47 (.t 0)), none, []⟩,
    ⟨(some 2), (.mov (.c (.bool false))), none, []⟩] none)
  (.seq (.region [⟨(some 3), (.fieldAddr 7 (.t 1)), none, []⟩,
    ⟨(some 4), (.load none (.t 3)), none, []⟩,
    ⟨(some 5), (.bin .eql (.t 4) (.c (.int .i64 0))), none, []⟩,
    ⟨(some 6), (.mov (.t 5)), none, []⟩,
    ⟨(some 7), (.fieldAddr 6 (.t 1)), (some (6, true)), []⟩,
    ⟨(some 8), (.load none (.t 7)), (some (6, true)), []⟩,
    ⟨(some 9), (.pick (.t 6) (.t 8) (.c (.bool false))), none, []⟩,
    ⟨(some 2), (.mov (.t 9)), none, []⟩] none)
  .ret))
def F25 : AFunc := ⟨1, 10, [(.tmp 2)], B25⟩
/-- (toll/inet.Head).Later -/
def B26 : ACode := (.seq (.region [⟨(some 1), (.box 47 (.t 0)), none, []⟩,
    ⟨(some 2), (.mov (.c (.bool false))), none, []⟩] none)
  (.seq (.region [⟨(some 3), (.fieldAddr 7 (.t 1)), none, []⟩,
    ⟨(some 4), (.load none (.t 3)), none, []⟩,
    ⟨(some 5), (.bin .gtr (.t 4) (.c (.int .i64 0))), none, []⟩,
    ⟨(some 2), (.mov (.t 5)), none, []⟩] none)
  .ret))
def F26 : AFunc := ⟨1, 6, [(.tmp 2)], B26⟩
/-- toll/inet.Get -/
def B27 : ACode := (.seq (.region [⟨(some 2), (.alloc 47 [(.int .u8 0), (.int .u8 0), (.int .u8 0), (.int .u16 0), (.bool false), (.bool false), (.bool false), (.int .i64 0), (.int .u32 0), (.int .u32 0), (.slice none 0 0)]), none, []⟩,
    ⟨(some 3), (.mov (.c (.slice none 0 0))), none, []⟩,
    ⟨(some 4), (.mov (.c (.int .i64 0))), none, []⟩] none)
  (.seq (.region [⟨(some 6), (.mov (.t 0)), none, []⟩,
    ⟨(some 7), (.call (.f 28) [(.t 6)]), none, []⟩,
    ⟨(some 5), (.mov (.t 7)), none, []⟩,
    ⟨(some 8), (.extract (.t 5) 0), none, []⟩,
    ⟨(some 9), (.extract (.t 5) 1), none, []⟩,
    ⟨(some 10), (.extract (.t 5) 2), none, []⟩,
    ⟨none, (.store 11 (.t 2) (.t 8)), none, []⟩,
    ⟨(some 3), (.mov (.t 9)), none, []⟩,
    ⟨(some 4), (.mov (.t 10)), none, []⟩] none)
  (.seq (.block 0 (.seq (.region [⟨(some 12), (.mov (.t 4)), none, []⟩,
    ⟨(some 13), (.bin .neq (.t 12) (.c (.int .i64 0))), none, []⟩,
    ⟨(some 11), (.mov (.t 13)), none, []⟩] none)
  (.cond (.t 11)
  (.seq (.region [⟨(some 14), (.build [(.int .u8 0), (.int .u8 0), (.int .u8 0), (.int .u16 0), (.bool false), (.bool false), (.bool false), (.int .i64 0), (.int .u32 0), (.int .u32 0), (.slice none 0 0)] []), none, []⟩,
    ⟨(some 15), (.mov (.t 4)), none, []⟩,
    ⟨none, (.store 11 (.t 2) (.t 14)), none, []⟩,
    ⟨(some 3), (.mov (.c (.slice none 0 0))), none, []⟩,
    ⟨(some 4), (.mov (.t 15)), none, []⟩] none)
  .ret)
  (.seq (.region [⟨(some 17), (.mov (.t 0)), none, []⟩,
    ⟨(some 18), (.slice 1 (.t 17) (some (.c (.int .i64 2))) none none), none, []⟩,
    ⟨(some 19), (.call (.f 47) [(.t 18)]), none, []⟩,
    ⟨(some 20), (.conv .i64 (.t 19)), none, []⟩,
    ⟨(some 21), (.mov (.t 0)), none, []⟩,
    ⟨(some 22), (.lenSlice (.t 21)), none, []⟩,
    ⟨(some 23), (.bin .gtr (.t 20) (.t 22)), none, []⟩,
    ⟨(some 16), (.mov (.t 23)), none, []⟩] none)
  (.cond (.t 16)
  (.seq (.region [⟨(some 24), (.build [(.int .u8 0), (.int .u8 0), (.int .u8 0), (.int .u16 0), (.bool false), (.bool false), (.bool false), (.int .i64 0), (.int .u32 0), (.int .u32 0), (.slice none 0 0)] []), none, []⟩,
    ⟨none, (.store 11 (.t 2) (.t 24)), none, []⟩,
    ⟨(some 3), (.mov (.c (.slice none 0 0))), none, []⟩,
    ⟨(some 4), (.mov (.c (.int .i64 4))), none, []⟩] none)
  .ret)
  (.seq (.region [⟨(some 26), (.load (some 11) (.t 2)), none, []⟩,
    ⟨(some 27), (.mov (.t 3)), none, []⟩,
    ⟨(some 28), (.call (.f 43) [(.t 26), (.t 27)]), none, []⟩,
    ⟨(some 29), (.un .not (.t 28)), none, []⟩,
    ⟨(some 25), (.mov (.t 29)), none, []⟩] none)
  (.cond (.t 25)
  (.seq (.region [⟨(some 30), (.build [(.int .u8 0), (.int .u8 0), (.int .u8 0), (.int .u16 0), (.bool false), (.bool false), (.bool false), (.int .i64 0), (.int .u32 0), (.int .u32 0), (.slice none 0 0)] []), none, []⟩,
    ⟨none, (.store 11 (.t 2) (.t 30)), none, []⟩,
    ⟨(some 3), (.mov (.c (.slice none 0 0))), none, []⟩,
    ⟨(some 4), (.mov (.c (.int .i64 5))), none, []⟩] none)
  .ret)
  .skip)))))))
  (.seq (.region [⟨(some 31), (.load (some 11) (.t 2)), none, []⟩,
    ⟨(some 32), (.mov (.t 3)), none, []⟩,
    ⟨none, (.store 11 (.t 2) (.t 31)), none, []⟩,
    ⟨(some 3), (.mov (.t 32)), none, []⟩,
    ⟨(some 4), (.mov (.c (.int .i64 0))), none, []⟩] none)
  .ret))))
def F27 : AFunc := ⟨1, 33, [(.cell 2 (some 11)), (.tmp 3), (.tmp 4)], B27⟩
def R28_0 : ACode := .region [⟨(some 36), (.mov (.t 0)), none, []⟩,
    ⟨(some 37), (.indexAddr 1 (.t 36) (.c (.int .i64 1))), none, [0]⟩,
    ⟨(some 38), (.load none (.t 37)), none, [1]⟩,
    ⟨(some 39), (.mov (.t 0)), none, []⟩,
    ⟨(some 40), (.indexAddr 1 (.t 39) (.c (.int .i64 8))), none, [3]⟩,
    ⟨(some 41), (.load none (.t 40)), none, [4]⟩,
    ⟨(some 42), (.mov (.t 0)), none, []⟩,
    ⟨(some 43), (.indexAddr 1 (.t 42) (.c (.int .i64 9))), none, [6]⟩,
    ⟨(some 44), (.load none (.t 43)), none, [7]⟩,
    ⟨(some 45), (.mov (.t 0)), none, []⟩,
    ⟨(some 46), (.slice 1 (.t 45) (some (.c (.int .i64 4))) none none), none, [9]⟩,
    ⟨(some 47), (.call (.f 47) [(.t 46)]), none, [10]⟩,
    ⟨(some 48), (.mov (.t 7)), none, []⟩,
    ⟨(some 49), (.call (.t 48) [(.c (.int .u16 32768))]), none, [12, 11]⟩,
    ⟨(some 50), (.mov (.t 7)), none, []⟩,
    ⟨(some 51), (.call (.t 50) [(.c (.int .u16 16384))]), none, [14, 13]⟩,
    ⟨(some 52), (.mov (.t 7)), none, []⟩,
    ⟨(some 53), (.call (.t 52) [(.c (.int .u16 8192))]), none, [16, 15]⟩,
    ⟨(some 54), (.load none (.t 6)), none, []⟩,
    ⟨(some 55), (.bin .and (.t 54) (.c (.int .u16 8191))), none, [18]⟩,
    ⟨(some 56), (.conv .i64 (.t 55)), none, [19]⟩,
    ⟨(some 57), (.mov (.t 0)), none, []⟩,
    ⟨(some 58), (.slice 1 (.t 57) (some (.c (.int .i64 12))) none none), none, [21]⟩,
    ⟨(some 59), (.call (.f 50) [(.t 58)]), none, [22, 17]⟩,
    ⟨(some 60), (.mov (.t 0)), none, []⟩,
    ⟨(some 61), (.slice 1 (.t 60) (some (.c (.int .i64 16))) none none), none, [24]⟩,
    ⟨(some 62), (.call (.f 50) [(.t 61)]), none, [25, 23]⟩,
    ⟨(some 63), (.build [(.int .u8 0), (.int .u8 0), (.int .u8 0), (.int .u16 0), (.bool false), (.bool false), (.bool false), (.int .i64 0), (.int .u32 0), (.int .u32 0), (.slice none 0 0)] [(0, 1, (.t 38)), (1, 1, (.t 41)), (2, 1, (.t 44)), (3, 1, (.t 47)), (4, 1, (.t 49)), (5, 1, (.t 51)), (6, 1, (.t 53)), (7, 1, (.t 56)), (8, 1, (.t 59)), (9, 1, (.t 62))]), none, [2, 5, 8, 11, 13, 15, 17, 20, 23, 26]⟩,
    ⟨none, (.store 11 (.t 2) (.t 63)), none, [27, 26, 0, 1, 2, 3, 4, 5, 6, 7, 8, 9, 10, 11, 12, 13, 14, 15, 16, 17, 18, 19, 20, 21, 22, 23, 24, 25, 26, 27]⟩] (some [(0, 3), (1, 3), (2, 3), (0, 4), (1, 4), (2, 4), (0, 5), (1, 5), (2, 5), (0, 6), (1, 6), (2, 6), (3, 6), (4, 6), (5, 6), (0, 7), (1, 7), (2, 7), (3, 7), (4, 7), (5, 7), (0, 8), (1, 8), (2, 8), (3, 8), (4, 8), (5, 8), (0, 9), (1, 9), (2, 9), (3, 9), (4, 9), (5, 9), (6, 9), (7, 9), (8, 9), (0, 10), (1, 10), (2, 10), (3, 10), (4, 10), (5, 10), (6, 10), (7, 10), (8, 10), (0, 11), (1, 11), (2, 11), (3, 11), (4, 11), (5, 11), (6, 11), (7, 11), (8, 11), (0, 12), (1, 12), (2, 12), (3, 12), (4, 12), (5, 12), (6, 12), (7, 12), (8, 12), (9, 12), (10, 12), (11, 12), (0, 13), (1, 13), (2, 13), (3, 13), (4, 13), (5, 13), (6, 13), (7, 13), (8, 13), (0, 14), (1, 14), (2, 14), (3, 14), (4, 14), (5, 14), (6, 14), (7, 14), (8, 14), (9, 14), (10, 14), (11, 14), (12, 14), (13, 14), (0, 15), (1, 15), (2, 15), (3, 15), (4, 15), (5, 15), (6, 15), (7, 15), (8, 15), (0, 16), (1, 16), (2, 16), (3, 16), (4, 16), (5, 16), (6, 16), (7, 16), (8, 16), (9, 16), (10, 16), (11, 16), (12, 16), (13, 16), (14, 16), (15, 16), (0, 17), (1, 17), (2, 17), (3, 17), (4, 17), (5, 17), (6, 17), (7, 17), (8, 17), (0, 18), (1, 18), (2, 18), (3, 18), (4, 18), (5, 18), (6, 18), (7, 18), (8, 18), (9, 18), (10, 18), (11, 18), (12, 18), (13, 18), (14, 18), (15, 18), (16, 18), (17, 18), (0, 19), (1, 19), (2, 19), (3, 19), (4, 19), (5, 19), (6, 19), (7, 19), (8, 19), (9, 19), (10, 19), (11, 19), (12, 19), (13, 19), (14, 19), (15, 19), (16, 19), (17, 19), (0, 20), (1, 20), (2, 20), (3, 20), (4, 20), (5, 20), (6, 20), (7, 20), (8, 20), (9, 20), (10, 20), (11, 20), (12, 20), (13, 20), (14, 20), (15, 20), (16, 20), (17, 20), (0, 21), (1, 21), (2, 21), (3, 21), (4, 21), (5, 21), (6, 21), (7, 21), (8, 21), (9, 21), (10, 21), (11, 21), (12, 21), (13, 21), (14, 21), (15, 21), (16, 21), (17, 21), (18, 21), (19, 21), (20, 21), (0, 22), (1, 22), (2, 22), (3, 22), (4, 22), (5, 22), (6, 22), (7, 22), (8, 22), (9, 22), (10, 22), (11, 22), (12, 22), (13, 22), (14, 22), (15, 22), (16, 22), (17, 22), (18, 22), (19, 22), (20, 22), (0, 23), (1, 23), (2, 23), (3, 23), (4, 23), (5, 23), (6, 23), (7, 23), (8, 23), (18, 23), (19, 23), (20, 23), (0, 24), (1, 24), (2, 24), (3, 24), (4, 24), (5, 24), (6, 24), (7, 24), (8, 24), (9, 24), (10, 24), (11, 24), (12, 24), (13, 24), (14, 24), (15, 24), (16, 24), (17, 24), (18, 24), (19, 24), (20, 24), (21, 24), (22, 24), (23, 24), (0, 25), (1, 25), (2, 25), (3, 25), (4, 25), (5, 25), (6, 25), (7, 25), (8, 25), (9, 25), (10, 25), (11, 25), (12, 25), (13, 25), (14, 25), (15, 25), (16, 25), (17, 25), (18, 25), (19, 25), (20, 25), (21, 25), (22, 25), (23, 25), (0, 26), (1, 26), (2, 26), (3, 26), (4, 26), (5, 26), (6, 26), (7, 26), (8, 26), (18, 26), (19, 26), (20, 26)])
def R28_1 : ACode := .region [⟨(some 69), (.load (some 11) (.t 2)), none, []⟩,
    ⟨(some 70), (.mov (.t 0)), none, []⟩,
    ⟨(some 71), (.mov (.t 5)), none, []⟩,
    ⟨(some 72), (.mov (.t 0)), none, []⟩,
    ⟨(some 73), (.slice 1 (.t 72) (some (.c (.int .i64 2))) none none), none, [3]⟩,
    ⟨(some 74), (.call (.f 47) [(.t 73)]), none, [4]⟩,
    ⟨(some 75), (.conv .i64 (.t 74)), none, [5]⟩,
    ⟨(some 76), (.mov (.t 0)), none, []⟩,
    ⟨(some 77), (.lenSlice (.t 76)), none, [7]⟩,
    ⟨(some 78), (.min [(.t 75), (.t 77)]), none, [6, 8]⟩,
    ⟨(some 79), (.slice 1 (.t 70) (some (.t 71)) (some (.t 78)) none), none, [1, 2, 9]⟩,
    ⟨(some 80), (.call (.f 51) [(.t 79)]), none, [10, 5]⟩,
    ⟨none, (.store 11 (.t 2) (.t 69)), none, [0, 11, 0]⟩,
    ⟨(some 3), (.mov (.t 80)), none, [11, 12, 0, 1, 2, 3, 4, 5, 6, 7, 8, 9, 10, 11, 12]⟩,
    ⟨(some 4), (.mov (.c (.int .i64 0))), none, [13, 0, 1, 2, 3, 4, 5, 6, 7, 8, 9, 10, 11, 12, 13]⟩] (some [(0, 1), (0, 2), (1, 2), (0, 3), (1, 3), (2, 3), (0, 4), (1, 4), (2, 4), (0, 5), (1, 5), (2, 5), (0, 6), (1, 6), (2, 6), (0, 7), (1, 7), (2, 7), (3, 7), (4, 7), (5, 7), (6, 7), (0, 8), (1, 8), (2, 8), (3, 8), (4, 8), (5, 8), (6, 8), (0, 9), (1, 9), (2, 9), (0, 10), (0, 11)])
/-- toll/inet.Cut -/
def B28 : ACode := (.seq (.region [⟨(some 2), (.alloc 47 [(.int .u8 0), (.int .u8 0), (.int .u8 0), (.int .u16 0), (.bool false), (.bool false), (.bool false), (.int .i64 0), (.int .u32 0), (.int .u32 0), (.slice none 0 0)]), none, []⟩,
    ⟨(some 3), (.mov (.c (.slice none 0 0))), none, []⟩,
    ⟨(some 4), (.mov (.c (.int .i64 0))), none, []⟩] none)
  (.seq (.region [⟨(some 9), (.mov (.t 0)), none, []⟩,
    ⟨(some 10), (.call (.f 48) [(.t 9)]), none, []⟩,
    ⟨(some 8), (.mov (.t 10)), none, []⟩,
    ⟨(some 11), (.extract (.t 8) 0), none, []⟩,
    ⟨(some 12), (.extract (.t 8) 1), none, []⟩,
    ⟨(some 5), (.mov (.t 11)), none, []⟩,
    ⟨(some 4), (.mov (.t 12)), none, []⟩] none)
  (.seq (.block 0 (.seq (.region [⟨(some 14), (.mov (.t 4)), none, []⟩,
    ⟨(some 15), (.bin .neq (.t 14) (.c (.int .i64 0))), none, []⟩,
    ⟨(some 13), (.mov (.t 15)), none, []⟩] none)
  (.cond (.t 13)
  (.seq (.region [⟨(some 16), (.build [(.int .u8 0), (.int .u8 0), (.int .u8 0), (.int .u16 0), (.bool false), (.bool false), (.bool false), (.int .i64 0), (.int .u32 0), (.int .u32 0), (.slice none 0 0)] []), none, []⟩,
    ⟨(some 17), (.mov (.t 4)), none, []⟩,
    ⟨none, (.store 11 (.t 2) (.t 16)), none, []⟩,
    ⟨(some 3), (.mov (.c (.slice none 0 0))), none, []⟩,
    ⟨(some 4), (.mov (.t 17)), none, []⟩] none)
  .ret)
  (.seq (.region [⟨(some 19), (.mov (.t 0)), none, []⟩,
    ⟨(some 20), (.mov (.t 5)), none, []⟩,
    ⟨(some 21), (.slice 1 (.t 19) none (some (.t 20)) none), none, []⟩,
    ⟨(some 22), (.call (.f 23) [(.t 21)]), none, []⟩,
    ⟨(some 23), (.bin .neq (.t 22) (.c (.int .u16 0))), none, []⟩,
    ⟨(some 18), (.mov (.t 23)), none, []⟩] none)
  (.cond (.t 18)
  (.seq (.region [⟨(some 24), (.build [(.int .u8 0), (.int .u8 0), (.int .u8 0), (.int .u16 0), (.bool false), (.bool false), (.bool false), (.int .i64 0), (.int .u32 0), (.int .u32 0), (.slice none 0 0)] []), none, []⟩,
    ⟨none, (.store 11 (.t 2) (.t 24)), none, []⟩,
    ⟨(some 3), (.mov (.c (.slice none 0 0))), none, []⟩,
    ⟨(some 4), (.mov (.c (.int .i64 21))), none, []⟩] none)
  .ret)
  (.seq (.region [⟨(some 26), (.mov (.t 0)), none, []⟩,
    ⟨(some 27), (.mov (.t 5)), none, []⟩,
    ⟨(some 28), (.slice 1 (.t 26) (some (.c (.int .i64 20))) (some (.t 27)) none), none, []⟩,
    ⟨(some 29), (.call (.f 42) [(.t 28)]), none, []⟩,
    ⟨(some 30), (.un .not (.t 29)), none, []⟩,
    ⟨(some 25), (.mov (.t 30)), none, []⟩] none)
  (.cond (.t 25)
  (.seq (.region [⟨(some 31), (.build [(.int .u8 0), (.int .u8 0), (.int .u8 0), (.int .u16 0), (.bool false), (.bool false), (.bool false), (.int .i64 0), (.int .u32 0), (.int .u32 0), (.slice none 0 0)] []), none, []⟩,
    ⟨none, (.store 11 (.t 2) (.t 31)), none, []⟩,
    ⟨(some 3), (.mov (.c (.slice none 0 0))), none, []⟩,
    ⟨(some 4), (.mov (.c (.int .i64 5))), none, []⟩] none)
  .ret)
  .skip)))))))
  (.seq (.region [⟨(some 32), (.mov (.t 0)), none, []⟩,
    ⟨(some 33), (.slice 1 (.t 32) (some (.c (.int .i64 6))) none none), none, []⟩,
    ⟨(some 34), (.call (.f 47) [(.t 33)]), none, []⟩,
    ⟨(some 6), (.alloc 44 [(.int .u16 0)]), none, []⟩,
    ⟨none, (.store 1 (.t 6) (.t 34)), none, []⟩] none)
  (.seq (.region [⟨(some 35), (.makeFunc 49 [] [(.t 6)]), none, []⟩,
    ⟨(some 7), (.mov (.t 35)), none, []⟩] none)
  (.seq R28_0
  (.seq (.region [⟨(some 64), (.mov (.t 0)), none, []⟩,
    ⟨(some 65), (.mov (.t 5)), none, []⟩,
    ⟨(some 66), (.slice 1 (.t 64) (some (.c (.int .i64 20))) (some (.t 65)) none), none, []⟩,
    ⟨(some 67), (.call (.f 51) [(.t 66)]), none, []⟩,
    ⟨(some 68), (.fieldAddr 10 (.t 2)), none, []⟩,
    ⟨none, (.store 1 (.t 68) (.t 67)), none, []⟩] none)
  (.seq R28_1
  .ret))))))))
def F28 : AFunc := ⟨1, 81, [(.cell 2 (some 11)), (.tmp 3), (.tmp 4)], B28⟩
def R29_0 : ACode := .region [⟨(some 59), (.mov (.t 0)), none, []⟩,
    ⟨(some 60), (.indexAddr 1 (.t 59) (.c (.int .i64 1))), none, [0]⟩,
    ⟨(some 61), (.load none (.t 60)), none, [1]⟩,
    ⟨(some 62), (.mov (.t 0)), none, []⟩,
    ⟨(some 63), (.indexAddr 1 (.t 62) (.c (.int .i64 8))), none, [3]⟩,
    ⟨(some 64), (.load none (.t 63)), none, [4]⟩,
    ⟨(some 65), (.mov (.t 0)), none, []⟩,
    ⟨(some 66), (.indexAddr 1 (.t 65) (.c (.int .i64 9))), none, [6]⟩,
    ⟨(some 67), (.load none (.t 66)), none, [7]⟩,
    ⟨(some 68), (.mov (.t 0)), none, []⟩,
    ⟨(some 69), (.slice 1 (.t 68) (some (.c (.int .i64 4))) (some (.c (.int .i64 6))) none), none, [9]⟩,
    ⟨(some 70), (.call (.f 52) [(.t 69)]), none, [10]⟩,
    ⟨(some 71), (.conv .u16 (.t 70)), none, [11]⟩,
    ⟨(some 72), (.mov (.t 9)), none, []⟩,
    ⟨(some 73), (.bin .rem (.t 72) (.c (.int .i64 8192))), none, [13]⟩,
    ⟨(some 74), (.build [(.int .u8 0), (.int .u8 0), (.int .u8 0), (.int .u16 0), (.bool false), (.bool false), (.bool false), (.int .i64 0), (.int .u32 0), (.int .u32 0), (.slice none 0 0)] [(0, 1, (.t 61)), (1, 1, (.t 64)), (2, 1, (.t 67)), (3, 1, (.t 71)), (7, 1, (.t 73))]), none, [2, 5, 8, 12, 14]⟩,
    ⟨(some 10), (.alloc 53 [(.int .u8 0), (.int .u8 0), (.int .u8 0), (.int .u16 0), (.bool false), (.bool false), (.bool false), (.int .i64 0), (.int .u32 0), (.int .u32 0), (.slice none 0 0)]), none, []⟩,
    ⟨none, (.store 11 (.t 10) (.t 74)), none, [16, 15, 11, 0, 1, 2, 3, 4, 5, 6, 7, 8, 9, 10, 11, 12, 13, 14, 15, 16]⟩] (some [(0, 3), (1, 3), (2, 3), (0, 4), (1, 4), (2, 4), (0, 5), (1, 5), (2, 5), (0, 6), (1, 6), (2, 6), (3, 6), (4, 6), (5, 6), (0, 7), (1, 7), (2, 7), (3, 7), (4, 7), (5, 7), (0, 8), (1, 8), (2, 8), (3, 8), (4, 8), (5, 8), (0, 9), (1, 9), (2, 9), (3, 9), (4, 9), (5, 9), (6, 9), (7, 9), (8, 9), (0, 10), (1, 10), (2, 10), (3, 10), (4, 10), (5, 10), (6, 10), (7, 10), (8, 10), (0, 11), (1, 11), (2, 11), (3, 11), (4, 11), (5, 11), (6, 11), (7, 11), (8, 11), (0, 12), (1, 12), (2, 12), (3, 12), (4, 12), (5, 12), (6, 12), (7, 12), (8, 12), (0, 13), (1, 13), (2, 13), (3, 13), (4, 13), (5, 13), (6, 13), (7, 13), (8, 13), (9, 13), (10, 13), (11, 13), (12, 13), (0, 14), (1, 14), (2, 14), (3, 14), (4, 14), (5, 14), (6, 14), (7, 14), (8, 14), (9, 14), (10, 14), (11, 14), (12, 14), (0, 16), (1, 16), (2, 16), (3, 16), (4, 16), (5, 16), (6, 16), (7, 16), (8, 16), (9, 16), (10, 16), (11, 16), (12, 16), (13, 16), (14, 16), (15, 16)])
def R29_1 : ACode := .region [⟨(some 123), (.load (some 11) (.t 10)), none, []⟩,
    ⟨(some 124), (.mov (.t 0)), none, []⟩,
    ⟨(some 125), (.mov (.t 7)), none, []⟩,
    ⟨(some 126), (.slice 1 (.t 124) (some (.t 125)) none none), none, [1, 2]⟩,
    ⟨none, (.store 11 (.t 4) (.t 123)), none, [0, 0]⟩,
    ⟨(some 5), (.mov (.t 126)), none, [3, 4, 0, 1, 2, 3, 4]⟩,
    ⟨(some 6), (.mov (.c (.int .i64 0))), none, [5, 0, 1, 2, 3, 4, 5]⟩] (some [(0, 1), (0, 2), (1, 2), (0, 3), (1, 4), (2, 4), (3, 4)])
/-- toll/tollref06.Read -/
def B29 : ACode := (.seq (.region [⟨(some 4), (.alloc 53 [(.int .u8 0), (.int .u8 0), (.int .u8 0), (.int .u16 0), (.bool false), (.bool false), (.bool false), (.int .i64 0), (.int .u32 0), (.int .u32 0), (.slice none 0 0)]), none, []⟩,
    ⟨(some 5), (.mov (.c (.slice none 0 0))), none, []⟩,
    ⟨(some 6), (.mov (.c (.int .i64 0))), none, []⟩] none)
  (.seq (.seq (.region [⟨(some 12), (.mov (.t 0)), none, []⟩,
    ⟨(some 13), (.lenSlice (.t 12)), none, []⟩,
    ⟨(some 14), (.bin .lss (.t 13) (.c (.int .i64 20))), none, []⟩] none)
  (.cond (.t 14)
  (.seq (.region [⟨(some 15), (.build [(.int .u8 0), (.int .u8 0), (.int .u8 0), (.int .u16 0), (.bool false), (.bool false), (.bool false), (.int .i64 0), (.int .u32 0), (.int .u32 0), (.slice none 0 0)] []), none, []⟩,
    ⟨none, (.store 11 (.t 4) (.t 15)), none, []⟩,
    ⟨(some 5), (.mov (.c (.slice none 0 0))), none, []⟩,
    ⟨(some 6), (.mov (.c (.int .i64 4))), none, []⟩] none)
  .ret)
  .skip))
  (.seq (.region [⟨(some 16), (.mov (.t 0)), none, []⟩,
    ⟨(some 17), (.indexAddr 1 (.t 16) (.c (.int .i64 0))), none, []⟩,
    ⟨(some 18), (.load none (.t 17)), none, []⟩,
    ⟨(some 19), (.conv .i64 (.t 18)), none, []⟩,
    ⟨(some 20), (.bin .rem (.t 19) (.c (.int .i64 16))), none, []⟩,
    ⟨(some 21), (.bin .mul (.c (.int .i64 4)) (.t 20)), none, []⟩,
    ⟨(some 7), (.mov (.t 21)), none, []⟩] none)
  (.seq (.seq (.region [⟨(some 22), (.mov (.t 0)), none, []⟩,
    ⟨(some 23), (.indexAddr 1 (.t 22) (.c (.int .i64 0))), none, []⟩,
    ⟨(some 24), (.load none (.t 23)), none, []⟩,
    ⟨(some 25), (.bin .quo (.t 24) (.c (.int .u8 16))), none, []⟩,
    ⟨(some 26), (.bin .neq (.t 25) (.c (.int .u8 4))), none, []⟩,
    ⟨(some 27), (.mov (.t 26)), none, []⟩,
    ⟨(some 28), (.mov (.t 7)), (some (27, false)), []⟩,
    ⟨(some 29), (.bin .lss (.t 28) (.c (.int .i64 20))), (some (27, false)), []⟩,
    ⟨(some 30), (.pick (.t 27) (.c (.bool true)) (.t 29)), none, []⟩] none)
  (.cond (.t 30)
  (.seq (.region [⟨(some 31), (.build [(.int .u8 0), (.int .u8 0), (.int .u8 0), (.int .u16 0), (.bool false), (.bool false), (.bool false), (.int .i64 0), (.int .u32 0), (.int .u32 0), (.slice none 0 0)] []), none, []⟩,
    ⟨none, (.store 11 (.t 4) (.t 31)), none, []⟩,
    ⟨(some 5), (.mov (.c (.slice none 0 0))), none, []⟩,
    ⟨(some 6), (.mov (.c (.int .i64 5))), none, []⟩] none)
  .ret)
  .skip))
  (.seq (.seq (.region [⟨(some 32), (.mov (.t 0)), none, []⟩,
    ⟨(some 33), (.lenSlice (.t 32)), none, []⟩,
    ⟨(some 34), (.mov (.t 7)), none, []⟩,
    ⟨(some 35), (.bin .lss (.t 33) (.t 34)), none, []⟩] none)
  (.cond (.t 35)
  (.seq (.region [⟨(some 36), (.build [(.int .u8 0), (.int .u8 0), (.int .u8 0), (.int .u16 0), (.bool false), (.bool false), (.bool false), (.int .i64 0), (.int .u32 0), (.int .u32 0), (.slice none 0 0)] []), none, []⟩,
    ⟨none, (.store 11 (.t 4) (.t 36)), none, []⟩,
    ⟨(some 5), (.mov (.c (.slice none 0 0))), none, []⟩,
    ⟨(some 6), (.mov (.c (.int .i64 4))), none, []⟩] none)
  .ret)
  .skip))
  (.seq (.region [⟨(some 37), (.mov (.t 0)), none, []⟩,
    ⟨(some 38), (.slice 1 (.t 37) (some (.c (.int .i64 2))) (some (.c (.int .i64 4))) none), none, []⟩,
    ⟨(some 39), (.call (.f 52) [(.t 38)]), none, []⟩,
    ⟨(some 8), (.mov (.t 39)), none, []⟩] none)
  (.seq (.seq (.region [⟨(some 40), (.mov (.t 8)), none, []⟩,
    ⟨(some 41), (.mov (.t 7)), none, []⟩,
    ⟨(some 42), (.bin .lss (.t 40) (.t 41)), none, []⟩] none)
  (.cond (.t 42)
  (.seq (.region [⟨(some 43), (.build [(.int .u8 0), (.int .u8 0), (.int .u8 0), (.int .u16 0), (.bool false), (.bool false), (.bool false), (.int .i64 0), (.int .u32 0), (.int .u32 0), (.slice none 0 0)] []), none, []⟩,
    ⟨none, (.store 11 (.t 4) (.t 43)), none, []⟩,
    ⟨(some 5), (.mov (.c (.slice none 0 0))), none, []⟩,
    ⟨(some 6), (.mov (.c (.int .i64 5))), none, []⟩] none)
  .ret)
  .skip))
  (.seq (.seq (.region [⟨(some 44), (.mov (.t 0)), none, []⟩,
    ⟨(some 45), (.mov (.t 7)), none, []⟩,
    ⟨(some 46), (.slice 1 (.t 44) none (some (.t 45)) none), none, []⟩,
    ⟨(some 47), (.call (.f 24) [(.t 46)]), none, []⟩,
    ⟨(some 48), (.bin .neq (.t 47) (.c (.int .u16 0))), none, []⟩] none)
  (.cond (.t 48)
  (.seq (.region [⟨(some 49), (.build [(.int .u8 0), (.int .u8 0), (.int .u8 0), (.int .u16 0), (.bool false), (.bool false), (.bool false), (.int .i64 0), (.int .u32 0), (.int .u32 0), (.slice none 0 0)] []), none, []⟩,
    ⟨none, (.store 11 (.t 4) (.t 49)), none, []⟩,
    ⟨(some 5), (.mov (.c (.slice none 0 0))), none, []⟩,
    ⟨(some 6), (.mov (.c (.int .i64 21))), none, []⟩] none)
  .ret)
  .skip))
  (.seq (.seq (.region [⟨(some 50), (.mov (.t 0)), none, []⟩,
    ⟨(some 51), (.mov (.t 7)), none, []⟩,
    ⟨(some 52), (.slice 1 (.t 50) (some (.c (.int .i64 20))) (some (.t 51)) none), none, []⟩,
    ⟨(some 53), (.call (.f 45) [(.t 52)]), none, []⟩,
    ⟨(some 54), (.un .not (.t 53)), none, []⟩] none)
  (.cond (.t 54)
  (.seq (.region [⟨(some 55), (.build [(.int .u8 0), (.int .u8 0), (.int .u8 0), (.int .u16 0), (.bool false), (.bool false), (.bool false), (.int .i64 0), (.int .u32 0), (.int .u32 0), (.slice none 0 0)] []), none, []⟩,
    ⟨none, (.store 11 (.t 4) (.t 55)), none, []⟩,
    ⟨(some 5), (.mov (.c (.slice none 0 0))), none, []⟩,
    ⟨(some 6), (.mov (.c (.int .i64 5))), none, []⟩] none)
  .ret)
  .skip))
  (.seq (.region [⟨(some 56), (.mov (.t 0)), none, []⟩,
    ⟨(some 57), (.slice 1 (.t 56) (some (.c (.int .i64 6))) (some (.c (.int .i64 8))) none), none, []⟩,
    ⟨(some 58), (.call (.f 52) [(.t 57)]), none, []⟩,
    ⟨(some 9), (.mov (.t 58)), none, []⟩] none)
  (.seq R29_0
  (.seq (.region [⟨(some 75), (.mov (.t 9)), none, []⟩,
    ⟨(some 76), (.bin .geq (.t 75) (.c (.int .i64 32768))), none, []⟩,
    ⟨(some 77), (.fieldAddr 4 (.t 10)), none, []⟩,
    ⟨none, (.store 1 (.t 77) (.t 76)), none, []⟩] none)
  (.seq (.region [⟨(some 78), (.mov (.t 9)), none, []⟩,
    ⟨(some 79), (.bin .quo (.t 78) (.c (.int .i64 16384))), none, []⟩,
    ⟨(some 80), (.bin .rem (.t 79) (.c (.int .i64 2))), none, []⟩,
    ⟨(some 81), (.bin .eql (.t 80) (.c (.int .i64 1))), none, []⟩,
    ⟨(some 82), (.fieldAddr 5 (.t 10)), none, []⟩,
    ⟨none, (.store 1 (.t 82) (.t 81)), none, []⟩] none)
  (.seq (.region [⟨(some 83), (.mov (.t 9)), none, []⟩,
    ⟨(some 84), (.bin .quo (.t 83) (.c (.int .i64 8192))), none, []⟩,
    ⟨(some 85), (.bin .rem (.t 84) (.c (.int .i64 2))), none, []⟩,
    ⟨(some 86), (.bin .eql (.t 85) (.c (.int .i64 1))), none, []⟩,
    ⟨(some 87), (.fieldAddr 6 (.t 10)), none, []⟩,
    ⟨none, (.store 1 (.t 87) (.t 86)), none, []⟩] none)
  (.seq (.region [⟨(some 88), (.mov (.t 0)), none, []⟩,
    ⟨(some 89), (.slice 1 (.t 88) (some (.c (.int .i64 12))) (some (.c (.int .i64 16))) none), none, []⟩,
    ⟨(some 90), (.call (.f 52) [(.t 89)]), none, []⟩,
    ⟨(some 91), (.conv .u32 (.t 90)), none, []⟩,
    ⟨(some 92), (.fieldAddr 8 (.t 10)), none, []⟩,
    ⟨none, (.store 1 (.t 92) (.t 91)), none, []⟩] none)
  (.seq (.region [⟨(some 93), (.mov (.t 0)), none, []⟩,
    ⟨(some 94), (.slice 1 (.t 93) (some (.c (.int .i64 16))) (some (.c (.int .i64 20))) none), none, []⟩,
    ⟨(some 95), (.call (.f 52) [(.t 94)]), none, []⟩,
    ⟨(some 96), (.conv .u32 (.t 95)), none, []⟩,
    ⟨(some 97), (.fieldAddr 9 (.t 10)), none, []⟩,
    ⟨none, (.store 1 (.t 97) (.t 96)), none, []⟩] none)
  (.seq (.region [⟨(some 98), (.mov (.t 0)), none, []⟩,
    ⟨(some 99), (.mov (.t 7)), none, []⟩,
    ⟨(some 100), (.slice 1 (.t 98) (some (.c (.int .i64 20))) (some (.t 99)) none), none, []⟩,
    ⟨(some 101), (.fieldAddr 10 (.t 10)), none, []⟩,
    ⟨none, (.store 1 (.t 101) (.t 100)), none, []⟩] none)
  (.seq (.seq (.region [⟨(some 102), (.mov (.t 8)), none, []⟩,
    ⟨(some 103), (.mov (.t 0)), none, []⟩,
    ⟨(some 104), (.lenSlice (.t 103)), none, []⟩,
    ⟨(some 105), (.bin .leq (.t 102) (.t 104)), none, []⟩] none)
  (.cond (.t 105)
  (.seq (.region [⟨(some 106), (.mov (.t 0)), none, []⟩,
    ⟨(some 107), (.mov (.t 7)), none, []⟩,
    ⟨(some 108), (.mov (.t 8)), none, []⟩,
    ⟨(some 109), (.slice 1 (.t 106) (some (.t 107)) (some (.t 108)) none), none, []⟩,
    ⟨(some 11), (.mov (.t 109)), none, []⟩] none)
  (.seq (.seq (.region [⟨(some 110), (.mov (.t 1)), none, []⟩,
    ⟨(some 111), (.mov (.t 110)), none, []⟩,
    ⟨(some 112), (.load (some 11) (.t 10)), (some (111, true)), []⟩,
    ⟨(some 113), (.mov (.t 11)), (some (111, true)), []⟩,
    ⟨(some 114), (.lenSlice (.t 113)), (some (111, true)), []⟩,
    ⟨(some 115), (.call (.f 46) [(.t 112), (.t 114)]), (some (111, true)), []⟩,
    ⟨(some 116), (.un .not (.t 115)), (some (111, true)), []⟩,
    ⟨(some 117), (.pick (.t 111) (.t 116) (.c (.bool false))), none, []⟩] none)
  (.cond (.t 117)
  (.seq (.region [⟨(some 118), (.build [(.int .u8 0), (.int .u8 0), (.int .u8 0), (.int .u16 0), (.bool false), (.bool false), (.bool false), (.int .i64 0), (.int .u32 0), (.int .u32 0), (.slice none 0 0)] []), none, []⟩,
    ⟨none, (.store 11 (.t 4) (.t 118)), none, []⟩,
    ⟨(some 5), (.mov (.c (.slice none 0 0))), none, []⟩,
    ⟨(some 6), (.mov (.c (.int .i64 5))), none, []⟩] none)
  .ret)
  .skip))
  (.seq (.region [⟨(some 119), (.load (some 11) (.t 10)), none, []⟩,
    ⟨(some 120), (.mov (.t 11)), none, []⟩,
    ⟨none, (.store 11 (.t 4) (.t 119)), none, []⟩,
    ⟨(some 5), (.mov (.t 120)), none, []⟩,
    ⟨(some 6), (.mov (.c (.int .i64 0))), none, []⟩] none)
  .ret)))
  .skip))
  (.seq (.seq (.region [⟨(some 121), (.mov (.t 1)), none, []⟩] none)
  (.cond (.t 121)
  (.seq (.region [⟨(some 122), (.build [(.int .u8 0), (.int .u8 0), (.int .u8 0), (.int .u16 0), (.bool false), (.bool false), (.bool false), (.int .i64 0), (.int .u32 0), (.int .u32 0), (.slice none 0 0)] []), none, []⟩,
    ⟨none, (.store 11 (.t 4) (.t 122)), none, []⟩,
    ⟨(some 5), (.mov (.c (.slice none 0 0))), none, []⟩,
    ⟨(some 6), (.mov (.c (.int .i64 4))), none, []⟩] none)
  .ret)
  .skip))
  (.seq R29_1
  .ret))))))))))))))))))))
def F29 : AFunc := ⟨2, 127, [(.cell 4 (some 11)), (.tmp 5), (.tmp 6)], B29⟩
/-- toll/tolllaw06.same -/
def B30 : ACode := (.seq (.region [⟨(some 2), (.box 53 (.t 0)), none, []⟩,
    ⟨(some 3), (.box 53 (.t 1)), none, []⟩,
    ⟨(some 4), (.mov (.c (.bool false))), none, []⟩] none)
  (.seq (.region [⟨(some 5), (.fieldAddr 0 (.t 2)), none, []⟩,
    ⟨(some 6), (.load none (.t 5)), none, []⟩,
    ⟨(some 7), (.fieldAddr 0 (.t 3)), none, []⟩,
    ⟨(some 8), (.load none (.t 7)), none, []⟩,
    ⟨(some 9), (.bin .eql (.t 6) (.t 8)), none, []⟩,
    ⟨(some 10), (.mov (.t 9)), none, []⟩,
    ⟨(some 11), (.fieldAddr 1 (.t 2)), (some (10, true)), []⟩,
    ⟨(some 12), (.load none (.t 11)), (some (10, true)), []⟩,
    ⟨(some 13), (.fieldAddr 1 (.t 3)), (some (10, true)), []⟩,
    ⟨(some 14), (.load none (.t 13)), (some (10, true)), []⟩,
    ⟨(some 15), (.bin .eql (.t 12) (.t 14)), (some (10, true)), []⟩,
    ⟨(some 16), (.pick (.t 10) (.t 15) (.c (.bool false))), none, []⟩,
    ⟨(some 17), (.mov (.t 16)), none, []⟩,
    ⟨(some 18), (.fieldAddr 2 (.t 2)), (some (17, true)), []⟩,
    ⟨(some 19), (.load none (.t 18)), (some (17, true)), []⟩,
    ⟨(some 20), (.fieldAddr 2 (.t 3)), (some (17, true)), []⟩,
    ⟨(some 21), (.load none (.t 20)), (some (17, true)), []⟩,
    ⟨(some 22), (.bin .eql (.t 19) (.t 21)), (some (17, true)), []⟩,
    ⟨(some 23), (.pick (.t 17) (.t 22) (.c (.bool false))), none, []⟩,
    ⟨(some 24), (.mov (.t 23)), none, []⟩,
    ⟨(some 25), (.fieldAddr 3 (.t 2)), (some (24, true)), []⟩,
    ⟨(some 26), (.load none (.t 25)), (some (24, true)), []⟩,
    ⟨(some 27), (.fieldAddr 3 (.t 3)), (some (24, true)), []⟩,
    ⟨(some 28), (.load none (.t 27)), (some (24, true)), []⟩,
    ⟨(some 29), (.bin .eql (.t 26) (.t 28)), (some (24, true)), []⟩,
    ⟨(some 30), (.pick (.t 24) (.t 29) (.c (.bool false))), none, []⟩,
    ⟨(some 31), (.mov (.t 30)), none, []⟩,
    ⟨(some 32), (.fieldAddr 4 (.t 2)), (some (31, true)), []⟩,
    ⟨(some 33), (.load none (.t 32)), (some (31, true)), []⟩,
    ⟨(some 34), (.fieldAddr 4 (.t 3)), (some (31, true)), []⟩,
    ⟨(some 35), (.load none (.t 34)), (some (31, true)), []⟩,
    ⟨(some 36), (.eqv false .bool false (.t 33) (.t 35)), (some (31, true)), []⟩,
    ⟨(some 37), (.pick (.t 31) (.t 36) (.c (.bool false))), none, []⟩,
    ⟨(some 38), (.mov (.t 37)), none, []⟩,
    ⟨(some 39), (.fieldAddr 5 (.t 2)), (some (38, true)), []⟩,
    ⟨(some 40), (.load none (.t 39)), (some (38, true)), []⟩,
    ⟨(some 41), (.fieldAddr 5 (.t 3)), (some (38, true)), []⟩,
    ⟨(some 42), (.load none (.t 41)), (some (38, true)), []⟩,
    ⟨(some 43), (.eqv false .bool false (.t 40) (.t 42)), (some (38, true)), []⟩,
    ⟨(some 44), (.pick (.t 38) (.t 43) (.c (.bool false))), none, []⟩,
    ⟨(some 45), (.mov (.t 44)), none, []⟩,
    ⟨(some 46), (.fieldAddr 6 (.t 2)), (some (45, true)), []⟩,
    ⟨(some 47), (.load none (.t 46)), (some (45, true)), []⟩,
    ⟨(some 48), (.fieldAddr 6 (.t 3)), (some (45, true)), []⟩,
    ⟨(some 49), (.load none (.t 48)), (some (45, true)), []⟩,
    ⟨(some 50), (.eqv false .bool false (.t 47) (.t 49)), (some (45, true)), []⟩,
    ⟨(some 51), (.pick (.t 45) (.t 50) (.c (.bool false))), none, []⟩,
    ⟨(some 52), (.mov (.t 51)), none, []⟩,
    ⟨(some 53), (.fieldAddr 7 (.t 2)), (some (52, true)), []⟩,
    ⟨(some 54), (.load none (.t 53)), (some (52, true)), []⟩,
    ⟨(some 55), (.fieldAddr 7 (.t 3)), (some (52, true)), []⟩,
    ⟨(some 56), (.load none (.t 55)), (some (52, true)), []⟩,
    ⟨(some 57), (.bin .eql (.t 54) (.t 56)), (some (52, true)), []⟩,
    ⟨(some 58), (.pick (.t 52) (.t 57) (.c (.bool false))), none, []⟩,
    ⟨(some 59), (.mov (.t 58)), none, []⟩,
    ⟨(some 60), (.fieldAddr 8 (.t 2)), (some (59, true)), []⟩,
    ⟨(some 61), (.load none (.t 60)), (some (59, true)), []⟩,
    ⟨(some 62), (.fieldAddr 8 (.t 3)), (some (59, true)), []⟩,
    ⟨(some 63), (.load none (.t 62)), (some (59, true)), []⟩,
    ⟨(some 64), (.bin .eql (.t 61) (.t 63)), (some (59, true)), []⟩,
    ⟨(some 65), (.pick (.t 59) (.t 64) (.c (.bool false))), none, []⟩,
    ⟨(some 66), (.mov (.t 65)), none, []⟩,
    ⟨(some 67), (.fieldAddr 9 (.t 2)), (some (66, true)), []⟩,
    ⟨(some 68), (.load none (.t 67)), (some (66, true)), []⟩,
    ⟨(some 69), (.fieldAddr 9 (.t 3)), (some (66, true)), []⟩,
    ⟨(some 70), (.load none (.t 69)), (some (66, true)), []⟩,
    ⟨(some 71), (.bin .eql (.t 68) (.t 70)), (some (66, true)), []⟩,
    ⟨(some 72), (.pick (.t 66) (.t 71) (.c (.bool false))), none, []⟩,
    ⟨(some 73), (.mov (.t 72)), none, []⟩,
    ⟨(some 74), (.fieldAddr 10 (.t 2)), (some (73, true)), []⟩,
    ⟨(some 75), (.load none (.t 74)), (some (73, true)), []⟩,
    ⟨(some 76), (.strOf (.t 75)), (some (73, true)), []⟩,
    ⟨(some 77), (.fieldAddr 10 (.t 3)), (some (73, true)), []⟩,
    ⟨(some 78), (.load none (.t 77)), (some (73, true)), []⟩,
    ⟨(some 79), (.strOf (.t 78)), (some (73, true)), []⟩,
    ⟨(some 80), (.bin .eql (.t 76) (.t 79)), (some (73, true)), []⟩,
    ⟨(some 81), (.pick (.t 73) (.t 80) (.c (.bool false))), none, []⟩,
    ⟨(some 4), (.mov (.t 81)), none, []⟩] none)
  .ret))
def F30 : AFunc := ⟨2, 82, [(.tmp 4)], B30⟩
/-- toll/tolllaw06.made -/
def F31L0 : ACode := (.seq (.region [⟨(some 21), (.bin .lss (.t 20) (.t 19)), none, []⟩] none)
  (.seq (.cond (.t 21)
  .skip
  (.exit 0))
  (.seq (.block 1 (.region [⟨(some 22), (.mov (.t 7)), none, []⟩,
    ⟨(some 23), (.buildSlice 5 1 1 [(.int .u8 0)] [(0, 1, (.c (.int .u8 1)))]), none, []⟩,
    ⟨(some 24), (.append 5 1 1 (.t 22) (.t 23)), none, []⟩,
    ⟨(some 7), (.mov (.t 24)), none, []⟩] none))
  (.region [⟨(some 25), (.bin .add (.t 20) (.c (.int .i64 1))), none, []⟩,
    ⟨(some 20), (.mov (.t 25)), none, []⟩] none))))
def B31 : ACode := (.seq (.region [⟨(some 2), (.box 47 (.t 0)), none, []⟩,
    ⟨(some 4), (.alloc 47 [(.int .u8 0), (.int .u8 0), (.int .u8 0), (.int .u16 0), (.bool false), (.bool false), (.bool false), (.int .i64 0), (.int .u32 0), (.int .u32 0), (.slice none 0 0)]), none, []⟩,
    ⟨(some 5), (.mov (.c (.slice none 0 0))), none, []⟩] none)
  (.seq (.region [⟨(some 8), (.mov (.t 1)), none, []⟩,
    ⟨(some 9), (.mov (.t 1)), none, []⟩,
    ⟨(some 10), (.lenSlice (.t 9)), none, []⟩,
    ⟨(some 11), (.min [(.t 10), (.c (.int .i64 300))]), none, []⟩,
    ⟨(some 12), (.slice 1 (.t 8) none (some (.t 11)) none), none, []⟩,
    ⟨(some 1), (.mov (.t 12)), none, []⟩] none)
  (.seq (.region [⟨(some 13), (.fieldAddr 10 (.t 2)), none, []⟩,
    ⟨(some 14), (.load none (.t 13)), none, []⟩,
    ⟨(some 15), (.lenSlice (.t 14)), none, []⟩,
    ⟨(some 16), (.min [(.t 15), (.c (.int .i64 40))]), none, []⟩,
    ⟨(some 17), (.bin .quo (.t 16) (.c (.int .i64 4))), none, []⟩,
    ⟨(some 18), (.bin .mul (.t 17) (.c (.int .i64 4))), none, []⟩,
    ⟨(some 6), (.mov (.t 18)), none, []⟩] none)
  (.seq (.region [⟨(some 7), (.mov (.c (.slice none 0 0))), none, []⟩] none)
  (.seq (.seq (.region [⟨(some 19), (.mov (.t 6)), none, []⟩,
    ⟨(some 20), (.mov (.c (.int .i64 0))), none, []⟩] none)
  (.block 0 (.loop F31L0)))
  (.seq (.seq (.region [⟨(some 26), (.mov (.t 6)), none, []⟩,
    ⟨(some 27), (.bin .geq (.t 26) (.c (.int .i64 4))), none, []⟩] none)
  (.cond (.t 27)
  (.region [⟨(some 28), (.mov (.t 7)), none, []⟩,
    ⟨(some 29), (.mov (.t 7)), none, []⟩,
    ⟨(some 30), (.fieldAddr 10 (.t 2)), none, []⟩,
    ⟨(some 31), (.load none (.t 30)), none, []⟩,
    ⟨(some 32), (.indexAddr 1 (.t 31) (.c (.int .i64 0))), none, []⟩,
    ⟨(some 33), (.load none (.t 32)), none, []⟩,
    ⟨(some 34), (.bin .or (.t 33) (.c (.int .u8 2))), none, []⟩,
    ⟨(some 35), (.indexAddr 1 (.t 28) (.c (.int .i64 0))), none, []⟩,
    ⟨none, (.store 1 (.t 35) (.t 34)), none, []⟩,
    ⟨(some 36), (.indexAddr 1 (.t 29) (.c (.int .i64 1))), none, []⟩,
    ⟨none, (.store 1 (.t 36) (.c (.int .u8 4))), none, []⟩] none)
  .skip))
  (.seq (.region [⟨(some 37), (.mov (.t 7)), none, []⟩,
    ⟨(some 38), (.fieldAddr 7 (.t 2)), none, []⟩,
    ⟨(some 39), (.load none (.t 38)), none, []⟩,
    ⟨(some 40), (.conv .u64 (.t 39)), none, []⟩,
    ⟨(some 41), (.bin .rem (.t 40) (.c (.int .u64 8000))), none, []⟩,
    ⟨(some 42), (.conv .i64 (.t 41)), none, []⟩,
    ⟨(some 43), (.fieldAddr 10 (.t 2)), none, []⟩,
    ⟨none, (.store 1 (.t 43) (.t 37)), none, []⟩,
    ⟨(some 44), (.fieldAddr 7 (.t 2)), none, []⟩,
    ⟨none, (.store 1 (.t 44) (.t 42)), none, []⟩] none)
  (.seq (.seq (.region [⟨(some 45), (.fieldAddr 6 (.t 2)), none, []⟩,
    ⟨(some 46), (.load none (.t 45)), none, []⟩] none)
  (.cond (.t 46)
  (.region [⟨(some 47), (.mov (.t 1)), none, []⟩,
    ⟨(some 48), (.mov (.t 1)), none, []⟩,
    ⟨(some 49), (.lenSlice (.t 48)), none, []⟩,
    ⟨(some 50), (.bin .quo (.t 49) (.c (.int .i64 8))), none, []⟩,
    ⟨(some 51), (.bin .mul (.t 50) (.c (.int .i64 8))), none, []⟩,
    ⟨(some 52), (.slice 1 (.t 47) none (some (.t 51)) none), none, []⟩,
    ⟨(some 1), (.mov (.t 52)), none, []⟩] none)
  .skip))
  (.seq (.region [⟨(some 53), (.load (some 11) (.t 2)), none, []⟩,
    ⟨(some 54), (.mov (.t 1)), none, []⟩,
    ⟨none, (.store 11 (.t 4) (.t 53)), none, []⟩,
    ⟨(some 5), (.mov (.t 54)), none, []⟩] none)
  .ret)))))))))
def F31 : AFunc := ⟨2, 55, [(.cell 4 (some 11)), (.tmp 5)], B31⟩
-- F31L0 live: [1, 2, 4, 6, 7, 19, 20]
def R32_0 : ACode := .region [⟨(some 17), (.mov (.t 0)), none, []⟩,
    ⟨(some 18), (.slice 1 (.t 17) none (some (.c (.int .i64 10))) none), none, [0]⟩,
    ⟨(some 19), (.strOf (.t 18)), none, [1]⟩,
    ⟨(some 20), (.mov (.t 0)), none, []⟩,
    ⟨(some 21), (.slice 1 (.t 20) (some (.c (.int .i64 12))) none none), none, [3]⟩,
    ⟨(some 22), (.strOf (.t 21)), none, [4]⟩,
    ⟨(some 23), (.bin .add (.t 19) (.t 22)), none, [2, 5]⟩,
    ⟨(some 24), (.mov (.t 1)), none, []⟩,
    ⟨(some 25), (.slice 1 (.t 24) none (some (.c (.int .i64 10))) none), none, [7]⟩,
    ⟨(some 26), (.strOf (.t 25)), none, [8]⟩,
    ⟨(some 27), (.mov (.t 1)), none, []⟩,
    ⟨(some 28), (.slice 1 (.t 27) (some (.c (.int .i64 12))) none none), none, [10]⟩,
    ⟨(some 29), (.strOf (.t 28)), none, [11]⟩,
    ⟨(some 30), (.bin .add (.t 26) (.t 29)), none, [9, 12]⟩,
    ⟨(some 5), (.mov (.t 23)), none, [6, 0, 1, 2, 3, 4, 5, 6]⟩,
    ⟨(some 6), (.mov (.t 30)), none, [13, 14, 0, 1, 2, 3, 4, 5, 6, 7, 8, 9, 10, 11, 12, 13, 14]⟩] (some [(0, 3), (1, 3), (2, 3), (0, 4), (1, 4), (2, 4), (0, 5), (1, 5), (2, 5), (0, 7), (1, 7), (2, 7), (3, 7), (4, 7), (5, 7), (6, 7), (0, 8), (1, 8), (2, 8), (3, 8), (4, 8), (5, 8), (6, 8), (0, 9), (1, 9), (2, 9), (3, 9), (4, 9), (5, 9), (6, 9), (0, 10), (1, 10), (2, 10), (3, 10), (4, 10), (5, 10), (6, 10), (7, 10), (8, 10), (9, 10), (0, 11), (1, 11), (2, 11), (3, 11), (4, 11), (5, 11), (6, 11), (7, 11), (8, 11), (9, 11), (0, 12), (1, 12), (2, 12), (3, 12), (4, 12), (5, 12), (6, 12), (7, 12), (8, 12), (9, 12), (0, 13), (1, 13), (2, 13), (3, 13), (4, 13), (5, 13), (6, 13), (7, 14), (8, 14), (9, 14), (10, 14), (11, 14), (12, 14), (13, 14)])
def R32_1 : ACode := .region [⟨(some 31), (.mov (.t 5)), none, []⟩,
    ⟨(some 32), (.mov (.t 6)), none, []⟩,
    ⟨(some 33), (.bin .eql (.t 31) (.t 32)), none, [0, 1]⟩,
    ⟨(some 34), (.mov (.t 33)), none, [2]⟩,
    ⟨(some 35), (.mov (.t 0)), (some (34, true)), [3]⟩,
    ⟨(some 36), (.slice 1 (.t 35) (some (.c (.int .i64 10))) (some (.c (.int .i64 12))) none), (some (34, true)), [4, 3]⟩,
    ⟨(some 37), (.strOf (.t 36)), (some (34, true)), [5, 3]⟩,
    ⟨(some 38), (.mov (.t 1)), (some (34, true)), [3]⟩,
    ⟨(some 39), (.slice 1 (.t 38) (some (.c (.int .i64 10))) (some (.c (.int .i64 12))) none), (some (34, true)), [7, 3]⟩,
    ⟨(some 40), (.strOf (.t 39)), (some (34, true)), [8, 3]⟩,
    ⟨(some 41), (.bin .eql (.t 37) (.t 40)), (some (34, true)), [6, 9, 3]⟩,
    ⟨(some 42), (.mov (.t 41)), (some (34, true)), [10, 3, 3]⟩,
    ⟨(some 43), (.mov (.t 0)), (some (42, false)), [11]⟩,
    ⟨(some 44), (.indexAddr 1 (.t 43) (.c (.int .i64 10))), (some (42, false)), [12, 11]⟩,
    ⟨(some 45), (.load none (.t 44)), (some (42, false)), [13, 11]⟩,
    ⟨(some 46), (.mov (.t 0)), (some (42, false)), [11]⟩,
    ⟨(some 47), (.indexAddr 1 (.t 46) (.c (.int .i64 11))), (some (42, false)), [15, 11]⟩,
    ⟨(some 48), (.load none (.t 47)), (some (42, false)), [16, 11]⟩,
    ⟨(some 49), (.bin .eql (.t 45) (.t 48)), (some (42, false)), [14, 17, 11]⟩,
    ⟨(some 50), (.mov (.t 49)), (some (42, false)), [18, 11, 11]⟩,
    ⟨(some 51), (.mov (.t 1)), (some (50, true)), [19]⟩,
    ⟨(some 52), (.indexAddr 1 (.t 51) (.c (.int .i64 10))), (some (50, true)), [20, 19]⟩,
    ⟨(some 53), (.load none (.t 52)), (some (50, true)), [21, 19]⟩,
    ⟨(some 54), (.mov (.t 1)), (some (50, true)), [19]⟩,
    ⟨(some 55), (.indexAddr 1 (.t 54) (.c (.int .i64 11))), (some (50, true)), [23, 19]⟩,
    ⟨(some 56), (.load none (.t 55)), (some (50, true)), [24, 19]⟩,
    ⟨(some 57), (.bin .eql (.t 53) (.t 56)), (some (50, true)), [22, 25, 19]⟩,
    ⟨(some 58), (.pick (.t 50) (.t 57) (.c (.bool false))), (some (42, false)), [19, 26, 11]⟩,
    ⟨(some 59), (.mov (.t 58)), (some (42, false)), [27, 19, 11]⟩,
    ⟨(some 60), (.mov (.t 0)), (some (59, true)), [28]⟩,
    ⟨(some 61), (.indexAddr 1 (.t 60) (.c (.int .i64 10))), (some (59, true)), [29, 28]⟩,
    ⟨(some 62), (.load none (.t 61)), (some (59, true)), [30, 28]⟩,
    ⟨(some 63), (.bin .eql (.t 62) (.c (.int .u8 0))), (some (59, true)), [31, 28]⟩,
    ⟨(some 64), (.mov (.t 63)), (some (59, true)), [32, 28, 28]⟩,
    ⟨(some 65), (.mov (.t 1)), (some (64, true)), [33]⟩,
    ⟨(some 66), (.indexAddr 1 (.t 65) (.c (.int .i64 10))), (some (64, true)), [34, 33]⟩,
    ⟨(some 67), (.load none (.t 66)), (some (64, true)), [35, 33]⟩,
    ⟨(some 68), (.bin .eql (.t 67) (.c (.int .u8 255))), (some (64, true)), [36, 33]⟩,
    ⟨(some 69), (.pick (.t 64) (.t 68) (.c (.bool false))), (some (59, true)), [33, 37, 28]⟩,
    ⟨(some 70), (.mov (.t 69)), (some (59, true)), [38, 33, 28]⟩,
    ⟨(some 71), (.mov (.t 0)), (some (70, false)), [39]⟩,
    ⟨(some 72), (.indexAddr 1 (.t 71) (.c (.int .i64 10))), (some (70, false)), [40, 39]⟩,
    ⟨(some 73), (.load none (.t 72)), (some (70, false)), [41, 39]⟩,
    ⟨(some 74), (.bin .eql (.t 73) (.c (.int .u8 255))), (some (70, false)), [42, 39]⟩,
    ⟨(some 75), (.mov (.t 74)), (some (70, false)), [43, 39, 39]⟩,
    ⟨(some 76), (.mov (.t 1)), (some (75, true)), [44]⟩,
    ⟨(some 77), (.indexAddr 1 (.t 76) (.c (.int .i64 10))), (some (75, true)), [45, 44]⟩,
    ⟨(some 78), (.load none (.t 77)), (some (75, true)), [46, 44]⟩,
    ⟨(some 79), (.bin .eql (.t 78) (.c (.int .u8 0))), (some (75, true)), [47, 44]⟩,
    ⟨(some 80), (.pick (.t 75) (.t 79) (.c (.bool false))), (some (70, false)), [44, 48, 39]⟩,
    ⟨(some 81), (.pick (.t 70) (.c (.bool true)) (.t 80)), (some (59, true)), [39, 49, 28]⟩,
    ⟨(some 82), (.pick (.t 59) (.t 81) (.c (.bool false))), (some (42, false)), [28, 50, 11]⟩,
    ⟨(some 83), (.pick (.t 42) (.c (.bool true)) (.t 82)), (some (34, true)), [11, 51, 3]⟩,
    ⟨(some 84), (.pick (.t 34) (.t 83) (.c (.bool false))), none, [3, 52]⟩,
    ⟨(some 4), (.mov (.t 84)), none, [53, 44, 0, 1, 2, 3, 4, 5, 6, 7, 8, 9, 10, 11, 12, 13, 14, 15, 16, 17, 18, 19, 20, 21, 22, 23, 24, 25, 26, 27, 28, 29, 30, 31, 32, 33, 34, 35, 36, 37, 38, 39, 40, 41, 42, 43, 44, 45, 46, 47, 48, 49, 50, 51, 52, 53]⟩] (some [(0, 1), (4, 7), (5, 7), (6, 7), (4, 8), (5, 8), (6, 8), (4, 9), (5, 9), (6, 9), (12, 15), (13, 15), (14, 15), (12, 16), (13, 16), (14, 16), (12, 17), (13, 17), (14, 17), (20, 23), (21, 23), (22, 23), (20, 24), (21, 24), (22, 24), (20, 25), (21, 25), (22, 25)])
/-- toll/tolllaw06.differ -/
def B32 : ACode := (.seq (.region [⟨(some 4), (.mov (.c (.bool false))), none, []⟩] none)
  (.seq (.seq (.region [⟨(some 7), (.mov (.t 0)), none, []⟩,
    ⟨(some 8), (.lenSlice (.t 7)), none, []⟩,
    ⟨(some 9), (.bin .lss (.t 8) (.c (.int .i64 12))), none, []⟩,
    ⟨(some 10), (.mov (.t 9)), none, []⟩,
    ⟨(some 11), (.mov (.t 0)), (some (10, false)), []⟩,
    ⟨(some 12), (.lenSlice (.t 11)), (some (10, false)), []⟩,
    ⟨(some 13), (.mov (.t 1)), (some (10, false)), []⟩,
    ⟨(some 14), (.lenSlice (.t 13)), (some (10, false)), []⟩,
    ⟨(some 15), (.bin .neq (.t 12) (.t 14)), (some (10, false)), []⟩,
    ⟨(some 16), (.pick (.t 10) (.c (.bool true)) (.t 15)), none, []⟩] none)
  (.cond (.t 16)
  (.seq (.region [⟨(some 4), (.mov (.c (.bool false))), none, []⟩] none)
  .ret)
  .skip))
  (.seq R32_0
  (.seq R32_1
  .ret))))
def F32 : AFunc := ⟨2, 85, [(.tmp 4)], B32⟩
/-- strings.Split -/
def B33 : ACode := (.seq (.region [⟨(some 4), (.mov (.c (.slice none 0 0))), none, []⟩] none)
  (.seq (.region [⟨(some 5), (.mov (.t 0)), none, []⟩,
    ⟨(some 6), (.mov (.t 1)), none, []⟩,
    ⟨(some 7), (.call (.f 53) [(.t 5), (.t 6), (.c (.int .i64 0)), (.c (.int .i64 (-1)))]), none, []⟩,
    ⟨(some 4), (.mov (.t 7)), none, []⟩] none)
  .ret))
def F33 : AFunc := ⟨2, 8, [(.tmp 4)], B33⟩
/-- toll/inet.number -/
def B34 : ACode := (.seq (.region [⟨(some 2), (.mov (.c (.int .i64 0))), none, []⟩] none)
  (.seq (.region [⟨(some 6), (.mov (.t 0)), none, []⟩,
    ⟨(some 7), (.call (.f 54) [(.t 6)]), none, []⟩,
    ⟨(some 5), (.mov (.t 7)), none, []⟩,
    ⟨(some 8), (.extract (.t 5) 0), none, []⟩,
    ⟨(some 9), (.extract (.t 5) 1), none, []⟩,
    ⟨(some 3), (.mov (.t 8)), none, []⟩,
    ⟨(some 4), (.mov (.t 9)), none, []⟩] none)
  (.seq (.seq (.region [⟨(some 10), (.mov (.t 4)), none, []⟩,
    ⟨(some 11), (.eqv true .iface true (.t 10) (.c .nilIface)), none, []⟩,
    ⟨(some 12), (.mov (.t 11)), none, []⟩,
    ⟨(some 13), (.mov (.t 3)), (some (12, false)), []⟩,
    ⟨(some 14), (.bin .lss (.t 13) (.c (.int .i64 0))), (some (12, false)), []⟩,
    ⟨(some 15), (.pick (.t 12) (.c (.bool true)) (.t 14)), none, []⟩,
    ⟨(some 16), (.mov (.t 15)), none, []⟩,
    ⟨(some 17), (.mov (.t 3)), (some (16, false)), []⟩,
    ⟨(some 18), (.call (.f 38) [(.t 17)]), (some (16, false)), []⟩,
    ⟨(some 19), (.mov (.t 0)), (some (16, false)), []⟩,
    ⟨(some 20), (.bin .neq (.t 18) (.t 19)), (some (16, false)), []⟩,
    ⟨(some 21), (.pick (.t 16) (.c (.bool true)) (.t 20)), none, []⟩] none)
  (.cond (.t 21)
  (.seq (.region [⟨(some 2), (.mov (.c (.int .i64 (-1)))), none, []⟩] none)
  .ret)
  .skip))
  (.seq (.region [⟨(some 22), (.mov (.t 3)), none, []⟩,
    ⟨(some 2), (.mov (.t 22)), none, []⟩] none)
  .ret))))
def F34 : AFunc := ⟨1, 23, [(.tmp 2)], B34⟩
/-- strings.Cut -/
def B35 : ACode := (.seq (.region [⟨(some 4), (.mov (.c (.string ⟨#[]⟩))), none, []⟩,
    ⟨(some 5), (.mov (.c (.string ⟨#[]⟩))), none, []⟩,
    ⟨(some 6), (.mov (.c (.bool false))), none, []⟩] none)
  (.seq (.region [⟨(some 7), (.mov (.t 0)), none, []⟩,
    ⟨(some 8), (.mov (.t 1)), none, []⟩,
    ⟨(some 9), (.call (.f 55) [(.t 7), (.t 8)]), none, []⟩,
    ⟨(some 10), (.extract (.t 9) 0), none, []⟩,
    ⟨(some 11), (.extract (.t 9) 1), none, []⟩,
    ⟨(some 12), (.extract (.t 9) 2), none, []⟩,
    ⟨(some 4), (.mov (.t 10)), none, []⟩,
    ⟨(some 5), (.mov (.t 11)), none, []⟩,
    ⟨(some 6), (.mov (.t 12)), none, []⟩] none)
  .ret))
def F35 : AFunc := ⟨2, 13, [(.tmp 4), (.tmp 5), (.tmp 6)], B35⟩
/-- toll/inet.mask -/
def B36 : ACode := (.seq (.region [⟨(some 2), (.mov (.c (.int .u32 0))), none, []⟩] none)
  (.seq (.region [⟨(some 3), (.mov (.t 0)), none, []⟩,
    ⟨(some 4), (.min [(.t 3), (.c (.int .i64 32))]), none, []⟩,
    ⟨(some 5), (.max [(.c (.int .i64 0)), (.t 4)]), none, []⟩,
    ⟨(some 6), (.bin .sub (.c (.int .i64 32)) (.t 5)), none, []⟩,
    ⟨(some 7), (.bin .shl (.c (.int .u64 1)) (.t 6)), none, []⟩,
    ⟨(some 8), (.bin .sub (.t 7) (.c (.int .u64 1))), none, []⟩,
    ⟨(some 9), (.conv .u32 (.t 8)), none, []⟩,
    ⟨(some 10), (.un .xor (.t 9)), none, []⟩,
    ⟨(some 2), (.mov (.t 10)), none, []⟩] none)
  .ret))
def F36 : AFunc := ⟨1, 11, [(.tmp 2)], B36⟩
/-- toll/tollref06.masked -/
def F37L0 : ACode := (.seq (.seq (.region [⟨(some 7), (.mov (.t 6)), none, []⟩,
    ⟨(some 8), (.mov (.t 1)), none, []⟩,
    ⟨(some 9), (.bin .gtr (.t 7) (.t 8)), none, []⟩,
    ⟨(some 10), (.mov (.t 9)), none, []⟩,
    ⟨(some 11), (.mov (.t 6)), (some (10, true)), []⟩,
    ⟨(some 12), (.bin .gtr (.t 11) (.c (.int .i64 0))), (some (10, true)), []⟩,
    ⟨(some 13), (.pick (.t 10) (.t 12) (.c (.bool false))), none, []⟩] none)
  (.cond (.t 13)
  .skip
  (.exit 0)))
  (.seq (.block 1 (.seq (.seq (.region [⟨(some 16), (.mov (.t 0)), none, []⟩,
    ⟨(some 17), (.mov (.t 5)), none, []⟩,
    ⟨(some 18), (.bin .quo (.t 16) (.t 17)), none, []⟩,
    ⟨(some 19), (.bin .rem (.t 18) (.c (.int .u32 2))), none, []⟩,
    ⟨(some 20), (.bin .eql (.t 19) (.c (.int .u32 1))), none, []⟩] none)
  (.cond (.t 20)
  (.region [⟨(some 21), (.mov (.t 0)), none, []⟩,
    ⟨(some 22), (.mov (.t 5)), none, []⟩,
    ⟨(some 23), (.bin .sub (.t 21) (.t 22)), none, []⟩,
    ⟨(some 0), (.mov (.t 23)), none, []⟩] none)
  .skip))
  (.region [⟨(some 24), (.mov (.t 5)), none, []⟩,
    ⟨(some 25), (.bin .mul (.t 24) (.c (.int .u32 2))), none, []⟩,
    ⟨(some 5), (.mov (.t 25)), none, []⟩] none)))
  (.region [⟨(some 14), (.mov (.t 6)), none, []⟩,
    ⟨(some 15), (.bin .sub (.t 14) (.c (.int .i64 1))), none, []⟩,
    ⟨(some 6), (.mov (.t 15)), none, []⟩] none)))
def B37 : ACode := (.seq (.region [⟨(some 4), (.mov (.c (.int .u32 0))), none, []⟩] none)
  (.seq (.region [⟨(some 5), (.mov (.c (.int .u32 1))), none, []⟩] none)
  (.seq (.seq (.region [⟨(some 6), (.mov (.c (.int .i64 32))), none, []⟩] none)
  (.block 0 (.loop F37L0)))
  (.seq (.region [⟨(some 26), (.mov (.t 0)), none, []⟩,
    ⟨(some 4), (.mov (.t 26)), none, []⟩] none)
  .ret))))
def F37 : AFunc := ⟨2, 27, [(.tmp 4)], B37⟩
-- F37L0 live: [0, 1, 5, 6]
/-- strconv.Itoa -/
def B38 : ACode := (.seq (.region [⟨(some 2), (.mov (.c (.string ⟨#[]⟩))), none, []⟩] none)
  (.seq (.region [⟨(some 3), (.mov (.t 0)), none, []⟩,
    ⟨(some 4), (.call (.f 56) [(.t 3)]), none, []⟩,
    ⟨(some 2), (.mov (.t 4)), none, []⟩] none)
  .ret))
def F38 : AFunc := ⟨1, 5, [(.tmp 2)], B38⟩
/-- strings.Join -/
def F39L0 : ACode := (.seq (.region [⟨(some 42), (.bin .lss (.t 41) (.t 40)), none, []⟩] none)
  (.seq (.cond (.t 42)
  .skip
  (.exit 1))
  (.seq (.block 2 (.seq (.region [⟨(some 43), (.indexAddr 1 (.t 39) (.t 41)), none, []⟩,
    ⟨(some 44), (.load none (.t 43)), none, []⟩,
    ⟨(some 7), (.mov (.t 44)), none, []⟩] none)
  (.seq (.seq (.region [⟨(some 45), (.mov (.t 7)), none, []⟩,
    ⟨(some 46), (.lenStr (.t 45)), none, []⟩,
    ⟨(some 47), (.mov (.t 5)), none, []⟩,
    ⟨(some 48), (.bin .sub (.c (.int .i64 9223372036854775807)) (.t 47)), none, []⟩,
    ⟨(some 49), (.bin .gtr (.t 46) (.t 48)), none, []⟩] none)
  (.cond (.t 49)
  (.region [⟨(some 50), (.makeIface 9 (.c (.string ⟨#[115, 116, 114, 105, 110, 103, 115, 58, 32, 74, 111, 105, 110, 32, 111, 117, 116, 112, 117, 116, 32, 108, 101, 110, 103, 116, 104, 32, 111, 118, 101, 114, 102, 108, 111, 119]⟩))), none, []⟩,
    ⟨none, .fail, none, []⟩] none)
  .skip))
  (.region [⟨(some 51), (.mov (.t 5)), none, []⟩,
    ⟨(some 52), (.mov (.t 7)), none, []⟩,
    ⟨(some 53), (.lenStr (.t 52)), none, []⟩,
    ⟨(some 54), (.bin .add (.t 51) (.t 53)), none, []⟩,
    ⟨(some 5), (.mov (.t 54)), none, []⟩] none))))
  (.region [⟨(some 55), (.bin .add (.t 41) (.c (.int .i64 1))), none, []⟩,
    ⟨(some 41), (.mov (.t 55)), none, []⟩] none))))
def F39L1 : ACode := (.seq (.region [⟨(some 66), (.bin .lss (.t 65) (.t 64)), none, []⟩] none)
  (.seq (.cond (.t 66)
  .skip
  (.exit 3))
  (.seq (.block 4 (.seq (.region [⟨(some 67), (.indexAddr 1 (.t 63) (.t 65)), none, []⟩,
    ⟨(some 68), (.load none (.t 67)), none, []⟩,
    ⟨(some 10), (.mov (.t 68)), none, []⟩] none)
  (.seq (.region [⟨(some 69), (.mov (.t 1)), none, []⟩,
    ⟨(some 70), (.call (.f 58) [(.t 8), (.t 69)]), none, []⟩] none)
  (.region [⟨(some 71), (.mov (.t 10)), none, []⟩,
    ⟨(some 72), (.call (.f 58) [(.t 8), (.t 71)]), none, []⟩] none))))
  (.region [⟨(some 73), (.bin .add (.t 65) (.c (.int .i64 1))), none, []⟩,
    ⟨(some 65), (.mov (.t 73)), none, []⟩] none))))
def B39 : ACode := (.seq (.region [⟨(some 4), (.mov (.c (.string ⟨#[]⟩))), none, []⟩] none)
  (.seq (.seq (.region [⟨(some 11), (.mov (.t 0)), none, []⟩,
    ⟨(some 12), (.lenSlice (.t 11)), none, []⟩] none)
  (.block 0 (.seq (.region [⟨(some 14), (.bin .eql (.t 12) (.c (.int .i64 0))), none, []⟩,
    ⟨(some 13), (.mov (.t 14)), none, []⟩] none)
  (.cond (.t 13)
  (.seq (.region [⟨(some 4), (.mov (.c (.string ⟨#[]⟩))), none, []⟩] none)
  .ret)
  (.seq (.region [⟨(some 16), (.bin .eql (.t 12) (.c (.int .i64 1))), none, []⟩,
    ⟨(some 15), (.mov (.t 16)), none, []⟩] none)
  (.cond (.t 15)
  (.seq (.region [⟨(some 17), (.mov (.t 0)), none, []⟩,
    ⟨(some 18), (.indexAddr 1 (.t 17) (.c (.int .i64 0))), none, []⟩,
    ⟨(some 19), (.load none (.t 18)), none, []⟩,
    ⟨(some 4), (.mov (.t 19)), none, []⟩] none)
  .ret)
  .skip))))))
  (.seq (.region [⟨(some 5), (.mov (.c (.int .i64 0))), none, []⟩] none)
  (.seq (.seq (.region [⟨(some 20), (.mov (.t 1)), none, []⟩,
    ⟨(some 21), (.lenStr (.t 20)), none, []⟩,
    ⟨(some 22), (.bin .gtr (.t 21) (.c (.int .i64 0))), none, []⟩] none)
  (.cond (.t 22)
  (.seq (.seq (.region [⟨(some 23), (.mov (.t 1)), none, []⟩,
    ⟨(some 24), (.lenStr (.t 23)), none, []⟩,
    ⟨(some 25), (.mov (.t 0)), none, []⟩,
    ⟨(some 26), (.lenSlice (.t 25)), none, []⟩,
    ⟨(some 27), (.bin .sub (.t 26) (.c (.int .i64 1))), none, []⟩,
    ⟨(some 28), (.bin .quo (.c (.int .i64 9223372036854775807)) (.t 27)), none, []⟩,
    ⟨(some 29), (.bin .geq (.t 24) (.t 28)), none, []⟩] none)
  (.cond (.t 29)
  (.region [⟨(some 30), (.makeIface 9 (.c (.string ⟨#[115, 116, 114, 105, 110, 103, 115, 58, 32, 74, 111, 105, 110, 32, 111, 117, 116, 112, 117, 116, 32, 108, 101, 110, 103, 116, 104, 32, 111, 118, 101, 114, 102, 108, 111, 119]⟩))), none, []⟩,
    ⟨none, .fail, none, []⟩] none)
  .skip))
  (.region [⟨(some 31), (.mov (.t 5)), none, []⟩,
    ⟨(some 32), (.mov (.t 1)), none, []⟩,
    ⟨(some 33), (.lenStr (.t 32)), none, []⟩,
    ⟨(some 34), (.mov (.t 0)), none, []⟩,
    ⟨(some 35), (.lenSlice (.t 34)), none, []⟩,
    ⟨(some 36), (.bin .sub (.t 35) (.c (.int .i64 1))), none, []⟩,
    ⟨(some 37), (.bin .mul (.t 33) (.t 36)), none, []⟩,
    ⟨(some 38), (.bin .add (.t 31) (.t 37)), none, []⟩,
    ⟨(some 5), (.mov (.t 38)), none, []⟩] none))
  .skip))
  (.seq (.seq (.region [⟨(some 39), (.mov (.t 0)), none, []⟩,
    ⟨(some 40), (.lenSlice (.t 39)), none, []⟩,
    ⟨(some 41), (.mov (.c (.int .i64 0))), none, []⟩] none)
  (.block 1 (.loop F39L0)))
  (.seq (.region [⟨(some 8), (.alloc 96 [(.pointer none), (.slice none 0 0)]), none, []⟩] none)
  (.seq (.region [⟨(some 56), (.mov (.t 5)), none, []⟩,
    ⟨(some 57), (.call (.f 57) [(.t 8), (.t 56)]), none, []⟩] none)
  (.seq (.region [⟨(some 58), (.mov (.t 0)), none, []⟩,
    ⟨(some 59), (.indexAddr 1 (.t 58) (.c (.int .i64 0))), none, []⟩,
    ⟨(some 60), (.load none (.t 59)), none, []⟩,
    ⟨(some 61), (.call (.f 58) [(.t 8), (.t 60)]), none, []⟩] none)
  (.seq (.seq (.region [⟨(some 62), (.mov (.t 0)), none, []⟩,
    ⟨(some 63), (.slice 1 (.t 62) (some (.c (.int .i64 1))) none none), none, []⟩,
    ⟨(some 64), (.lenSlice (.t 63)), none, []⟩,
    ⟨(some 65), (.mov (.c (.int .i64 0))), none, []⟩] none)
  (.block 3 (.loop F39L1)))
  (.seq (.region [⟨(some 74), (.call (.f 59) [(.t 8)]), none, []⟩,
    ⟨(some 4), (.mov (.t 74)), none, []⟩] none)
  .ret))))))))))
def F39 : AFunc := ⟨2, 75, [(.tmp 4)], B39⟩
-- F39L0 live: [0, 1, 5, 39, 40, 41]

-- F39L1 live: [1, 8, 63, 64, 65]
/-- toll/tollref06.lay -/
def F40L0 : ACode := (.seq (.seq (.region [⟨(some 11), (.mov (.t 6)), none, []⟩,
    ⟨(some 12), (.bin .geq (.t 11) (.c (.int .i64 0))), none, []⟩] none)
  (.cond (.t 12)
  .skip
  (.exit 0)))
  (.seq (.block 1 (.seq (.region [⟨(some 15), (.mov (.t 5)), none, []⟩,
    ⟨(some 16), (.mov (.t 6)), none, []⟩,
    ⟨(some 17), (.mov (.t 0)), none, []⟩,
    ⟨(some 18), (.bin .rem (.t 17) (.c (.int .i64 256))), none, []⟩,
    ⟨(some 19), (.conv .u8 (.t 18)), none, []⟩,
    ⟨(some 20), (.indexAddr 1 (.t 15) (.t 16)), none, []⟩,
    ⟨none, (.store 1 (.t 20) (.t 19)), none, []⟩] none)
  (.region [⟨(some 21), (.mov (.t 0)), none, []⟩,
    ⟨(some 22), (.bin .quo (.t 21) (.c (.int .i64 256))), none, []⟩,
    ⟨(some 0), (.mov (.t 22)), none, []⟩] none)))
  (.region [⟨(some 13), (.mov (.t 6)), none, []⟩,
    ⟨(some 14), (.bin .sub (.t 13) (.c (.int .i64 1))), none, []⟩,
    ⟨(some 6), (.mov (.t 14)), none, []⟩] none)))
def B40 : ACode := (.seq (.region [⟨(some 4), (.mov (.c (.slice none 0 0))), none, []⟩] none)
  (.seq (.region [⟨(some 7), (.mov (.t 1)), none, []⟩,
    ⟨(some 8), (.makeSlice 5 1 1 [(.int .u8 0)] (.t 7) (.t 7)), none, []⟩,
    ⟨(some 5), (.mov (.t 8)), none, []⟩] none)
  (.seq (.seq (.region [⟨(some 9), (.mov (.t 1)), none, []⟩,
    ⟨(some 10), (.bin .sub (.t 9) (.c (.int .i64 1))), none, []⟩,
    ⟨(some 6), (.mov (.t 10)), none, []⟩] none)
  (.block 0 (.loop F40L0)))
  (.seq (.region [⟨(some 23), (.mov (.t 5)), none, []⟩,
    ⟨(some 4), (.mov (.t 23)), none, []⟩] none)
  .ret))))
def F40 : AFunc := ⟨2, 24, [(.tmp 4)], B40⟩
-- F40L0 live: [0, 5, 6]
/-- toll/tollref06.digits -/
def F41L0 : ACode := (.block 1 (.seq (.region [⟨(some 4), (.mov (.t 0)), none, []⟩,
    ⟨(some 5), (.bin .rem (.t 4) (.c (.int .i64 10))), none, []⟩,
    ⟨(some 6), (.bin .add (.c (.int .i64 48)) (.t 5)), none, []⟩,
    ⟨(some 7), (.conv .u8 (.t 6)), none, []⟩,
    ⟨(some 8), (.buildSlice 5 1 1 [(.int .u8 0)] [(0, 1, (.t 7))]), none, []⟩,
    ⟨(some 9), (.strOf (.t 8)), none, []⟩,
    ⟨(some 10), (.mov (.t 3)), none, []⟩,
    ⟨(some 11), (.bin .add (.t 9) (.t 10)), none, []⟩,
    ⟨(some 3), (.mov (.t 11)), none, []⟩] none)
  (.seq (.region [⟨(some 12), (.mov (.t 0)), none, []⟩,
    ⟨(some 13), (.bin .quo (.t 12) (.c (.int .i64 10))), none, []⟩,
    ⟨(some 0), (.mov (.t 13)), none, []⟩] none)
  (.seq (.region [⟨(some 14), (.mov (.t 0)), none, []⟩,
    ⟨(some 15), (.bin .eql (.t 14) (.c (.int .i64 0))), none, []⟩] none)
  (.cond (.t 15)
  (.seq (.region [⟨(some 16), (.mov (.t 3)), none, []⟩,
    ⟨(some 2), (.mov (.t 16)), none, []⟩] none)
  .ret)
  .skip)))))
def B41 : ACode := (.seq (.region [⟨(some 2), (.mov (.c (.string ⟨#[]⟩))), none, []⟩] none)
  (.seq (.region [⟨(some 3), (.mov (.c (.string ⟨#[]⟩))), none, []⟩] none)
  (.block 0 (.loop F41L0))))
def F41 : AFunc := ⟨1, 17, [(.tmp 2)], B41⟩
-- F41L0 live: [0, 3]
/-- toll/inet.options -/
def F42L0 : ACode := (.seq (.seq (.region [⟨(some 13), (.mov (.t 0)), none, []⟩,
    ⟨(some 14), (.lenSlice (.t 13)), none, []⟩,
    ⟨(some 15), (.bin .gtr (.t 14) (.c (.int .i64 0))), none, []⟩,
    ⟨(some 16), (.mov (.t 15)), none, []⟩,
    ⟨(some 17), (.mov (.t 0)), (some (16, true)), []⟩,
    ⟨(some 18), (.indexAddr 1 (.t 17) (.c (.int .i64 0))), (some (16, true)), []⟩,
    ⟨(some 19), (.load none (.t 18)), (some (16, true)), []⟩,
    ⟨(some 20), (.bin .neq (.t 19) (.c (.int .u8 0))), (some (16, true)), []⟩,
    ⟨(some 21), (.pick (.t 16) (.t 20) (.c (.bool false))), none, []⟩] none)
  (.cond (.t 21)
  .skip
  (.exit 0)))
  (.block 1 (.seq (.region [⟨(some 3), (.mov (.c (.int .i64 1))), none, []⟩] none)
  (.seq (.seq (.region [⟨(some 22), (.mov (.t 0)), none, []⟩,
    ⟨(some 23), (.indexAddr 1 (.t 22) (.c (.int .i64 0))), none, []⟩,
    ⟨(some 24), (.load none (.t 23)), none, []⟩,
    ⟨(some 25), (.bin .neq (.t 24) (.c (.int .u8 1))), none, []⟩] none)
  (.cond (.t 25)
  (.seq (.seq (.region [⟨(some 26), (.mov (.t 0)), none, []⟩,
    ⟨(some 27), (.lenSlice (.t 26)), none, []⟩,
    ⟨(some 28), (.bin .lss (.t 27) (.c (.int .i64 2))), none, []⟩,
    ⟨(some 29), (.mov (.t 28)), none, []⟩,
    ⟨(some 30), (.mov (.t 0)), (some (29, false)), []⟩,
    ⟨(some 31), (.indexAddr 1 (.t 30) (.c (.int .i64 1))), (some (29, false)), []⟩,
    ⟨(some 32), (.load none (.t 31)), (some (29, false)), []⟩,
    ⟨(some 33), (.bin .lss (.t 32) (.c (.int .u8 2))), (some (29, false)), []⟩,
    ⟨(some 34), (.pick (.t 29) (.c (.bool true)) (.t 33)), none, []⟩,
    ⟨(some 35), (.mov (.t 34)), none, []⟩,
    ⟨(some 36), (.mov (.t 0)), (some (35, false)), []⟩,
    ⟨(some 37), (.indexAddr 1 (.t 36) (.c (.int .i64 1))), (some (35, false)), []⟩,
    ⟨(some 38), (.load none (.t 37)), (some (35, false)), []⟩,
    ⟨(some 39), (.conv .i64 (.t 38)), (some (35, false)), []⟩,
    ⟨(some 40), (.mov (.t 0)), (some (35, false)), []⟩,
    ⟨(some 41), (.lenSlice (.t 40)), (some (35, false)), []⟩,
    ⟨(some 42), (.bin .gtr (.t 39) (.t 41)), (some (35, false)), []⟩,
    ⟨(some 43), (.pick (.t 35) (.c (.bool true)) (.t 42)), none, []⟩] none)
  (.cond (.t 43)
  (.seq (.region [⟨(some 2), (.mov (.c (.bool false))), none, []⟩] none)
  .ret)
  .skip))
  (.region [⟨(some 44), (.mov (.t 0)), none, []⟩,
    ⟨(some 45), (.indexAddr 1 (.t 44) (.c (.int .i64 1))), none, []⟩,
    ⟨(some 46), (.load none (.t 45)), none, []⟩,
    ⟨(some 47), (.conv .i64 (.t 46)), none, []⟩,
    ⟨(some 3), (.mov (.t 47)), none, []⟩] none))
  .skip))
  (.region [⟨(some 48), (.mov (.t 0)), none, []⟩,
    ⟨(some 49), (.mov (.t 3)), none, []⟩,
    ⟨(some 50), (.slice 1 (.t 48) (some (.t 49)) none none), none, []⟩,
    ⟨(some 0), (.mov (.t 50)), none, []⟩] none)))))
def B42 : ACode := (.seq (.region [⟨(some 2), (.mov (.c (.bool false))), none, []⟩] none)
  (.seq (.seq (.region [⟨(some 4), (.mov (.t 0)), none, []⟩,
    ⟨(some 5), (.lenSlice (.t 4)), none, []⟩,
    ⟨(some 6), (.bin .gtr (.t 5) (.c (.int .i64 40))), none, []⟩,
    ⟨(some 7), (.mov (.t 6)), none, []⟩,
    ⟨(some 8), (.mov (.t 0)), (some (7, false)), []⟩,
    ⟨(some 9), (.lenSlice (.t 8)), (some (7, false)), []⟩,
    ⟨(some 10), (.bin .rem (.t 9) (.c (.int .i64 4))), (some (7, false)), []⟩,
    ⟨(some 11), (.bin .gtr (.t 10) (.c (.int .i64 0))), (some (7, false)), []⟩,
    ⟨(some 12), (.pick (.t 7) (.c (.bool true)) (.t 11)), none, []⟩] none)
  (.cond (.t 12)
  (.seq (.region [⟨(some 2), (.mov (.c (.bool false))), none, []⟩] none)
  .ret)
  .skip))
  (.seq (.block 0 (.loop F42L0))
  (.seq (.region [⟨(some 2), (.mov (.c (.bool true))), none, []⟩] none)
  .ret))))
def F42 : AFunc := ⟨1, 51, [(.tmp 2)], B42⟩
-- F42L0 live: [0]
/-- (toll/inet.Head).fits -/
def B43 : ACode := (.seq (.region [⟨(some 2), (.box 47 (.t 0)), none, []⟩,
    ⟨(some 4), (.mov (.c (.bool false))), none, []⟩] none)
  (.seq (.region [⟨(some 5), (.fieldAddr 7 (.t 2)), none, []⟩,
    ⟨(some 6), (.load none (.t 5)), none, []⟩,
    ⟨(some 7), (.bin .mul (.c (.int .i64 8)) (.t 6)), none, []⟩,
    ⟨(some 8), (.mov (.t 1)), none, []⟩,
    ⟨(some 9), (.lenSlice (.t 8)), none, []⟩,
    ⟨(some 10), (.bin .add (.t 7) (.t 9)), none, []⟩,
    ⟨(some 11), (.bin .leq (.t 10) (.c (.int .i64 65535))), none, []⟩,
    ⟨(some 12), (.mov (.t 11)), none, []⟩,
    ⟨(some 13), (.fieldAddr 6 (.t 2)), (some (12, true)), []⟩,
    ⟨(some 14), (.load none (.t 13)), (some (12, true)), []⟩,
    ⟨(some 15), (.un .not (.t 14)), (some (12, true)), []⟩,
    ⟨(some 16), (.mov (.t 15)), (some (12, true)), []⟩,
    ⟨(some 17), (.mov (.t 1)), (some (16, false)), []⟩,
    ⟨(some 18), (.lenSlice (.t 17)), (some (16, false)), []⟩,
    ⟨(some 19), (.bin .rem (.t 18) (.c (.int .i64 8))), (some (16, false)), []⟩,
    ⟨(some 20), (.bin .eql (.t 19) (.c (.int .i64 0))), (some (16, false)), []⟩,
    ⟨(some 21), (.pick (.t 16) (.c (.bool true)) (.t 20)), (some (12, true)), []⟩,
    ⟨(some 22), (.pick (.t 12) (.t 21) (.c (.bool false))), none, []⟩,
    ⟨(some 4), (.mov (.t 22)), none, []⟩] none)
  .ret))
def F43 : AFunc := ⟨2, 23, [(.tmp 4)], B43⟩
/-- toll/inet.words -/
def F44L0 : ACode := (.seq (.region [⟨(some 9), (.bin .lss (.t 8) (.t 7)), none, []⟩] none)
  (.seq (.cond (.t 9)
  .skip
  (.exit 0))
  (.seq (.block 1 (.seq (.region [⟨(some 10), (.indexAddr 1 (.t 6) (.t 8)), none, []⟩,
    ⟨(some 11), (.load none (.t 10)), none, []⟩,
    ⟨(some 5), (.mov (.t 11)), none, []⟩] none)
  (.region [⟨(some 12), (.mov (.t 3)), none, []⟩,
    ⟨(some 13), (.mov (.t 5)), none, []⟩,
    ⟨(some 14), (.bin .shr (.t 13) (.c (.int .u64 8))), none, []⟩,
    ⟨(some 15), (.conv .u8 (.t 14)), none, []⟩,
    ⟨(some 16), (.mov (.t 5)), none, []⟩,
    ⟨(some 17), (.conv .u8 (.t 16)), none, []⟩,
    ⟨(some 18), (.buildSlice 5 1 2 [(.int .u8 0)] [(0, 1, (.t 15)), (1, 1, (.t 17))]), none, []⟩,
    ⟨(some 19), (.append 5 1 1 (.t 12) (.t 18)), none, []⟩,
    ⟨(some 3), (.mov (.t 19)), none, []⟩] none)))
  (.region [⟨(some 20), (.bin .add (.t 8) (.c (.int .i64 1))), none, []⟩,
    ⟨(some 8), (.mov (.t 20)), none, []⟩] none))))
def B44 : ACode := (.seq (.region [⟨(some 2), (.mov (.c (.slice none 0 0))), none, []⟩] none)
  (.seq (.region [⟨(some 3), (.mov (.c (.slice none 0 0))), none, []⟩] none)
  (.seq (.seq (.region [⟨(some 6), (.mov (.t 0)), none, []⟩,
    ⟨(some 7), (.lenSlice (.t 6)), none, []⟩,
    ⟨(some 8), (.mov (.c (.int .i64 0))), none, []⟩] none)
  (.block 0 (.loop F44L0)))
  (.seq (.region [⟨(some 21), (.mov (.t 3)), none, []⟩,
    ⟨(some 2), (.mov (.t 21)), none, []⟩] none)
  .ret))))
def F44 : AFunc := ⟨1, 22, [(.tmp 2)], B44⟩
-- F44L0 live: [3, 6, 7, 8]
/-- toll/tollref06.options -/
def F45L0 : ACode := (.seq (.seq (.region [⟨(some 13), (.mov (.t 3)), none, []⟩,
    ⟨(some 14), (.mov (.t 0)), none, []⟩,
    ⟨(some 15), (.lenSlice (.t 14)), none, []⟩,
    ⟨(some 16), (.bin .lss (.t 13) (.t 15)), none, []⟩] none)
  (.cond (.t 16)
  .skip
  (.exit 0)))
  (.block 1 (.seq (.seq (.region [⟨(some 17), (.mov (.t 0)), none, []⟩,
    ⟨(some 18), (.mov (.t 3)), none, []⟩,
    ⟨(some 19), (.indexAddr 1 (.t 17) (.t 18)), none, []⟩,
    ⟨(some 20), (.load none (.t 19)), none, []⟩,
    ⟨(some 21), (.bin .eql (.t 20) (.c (.int .u8 0))), none, []⟩] none)
  (.cond (.t 21)
  (.seq (.region [⟨(some 2), (.mov (.c (.bool true))), none, []⟩] none)
  .ret)
  .skip))
  (.seq (.seq (.region [⟨(some 22), (.mov (.t 0)), none, []⟩,
    ⟨(some 23), (.mov (.t 3)), none, []⟩,
    ⟨(some 24), (.indexAddr 1 (.t 22) (.t 23)), none, []⟩,
    ⟨(some 25), (.load none (.t 24)), none, []⟩,
    ⟨(some 26), (.bin .eql (.t 25) (.c (.int .u8 1))), none, []⟩] none)
  (.cond (.t 26)
  (.seq (.region [⟨(some 27), (.mov (.t 3)), none, []⟩,
    ⟨(some 28), (.bin .add (.t 27) (.c (.int .i64 1))), none, []⟩,
    ⟨(some 3), (.mov (.t 28)), none, []⟩] none)
  (.exit 1))
  .skip))
  (.seq (.seq (.region [⟨(some 29), (.mov (.t 3)), none, []⟩,
    ⟨(some 30), (.bin .add (.t 29) (.c (.int .i64 1))), none, []⟩,
    ⟨(some 31), (.mov (.t 0)), none, []⟩,
    ⟨(some 32), (.lenSlice (.t 31)), none, []⟩,
    ⟨(some 33), (.bin .geq (.t 30) (.t 32)), none, []⟩,
    ⟨(some 34), (.mov (.t 33)), none, []⟩,
    ⟨(some 35), (.mov (.t 0)), (some (34, false)), []⟩,
    ⟨(some 36), (.mov (.t 3)), (some (34, false)), []⟩,
    ⟨(some 37), (.bin .add (.t 36) (.c (.int .i64 1))), (some (34, false)), []⟩,
    ⟨(some 38), (.indexAddr 1 (.t 35) (.t 37)), (some (34, false)), []⟩,
    ⟨(some 39), (.load none (.t 38)), (some (34, false)), []⟩,
    ⟨(some 40), (.bin .lss (.t 39) (.c (.int .u8 2))), (some (34, false)), []⟩,
    ⟨(some 41), (.pick (.t 34) (.c (.bool true)) (.t 40)), none, []⟩,
    ⟨(some 42), (.mov (.t 41)), none, []⟩,
    ⟨(some 43), (.mov (.t 3)), (some (42, false)), []⟩,
    ⟨(some 44), (.mov (.t 0)), (some (42, false)), []⟩,
    ⟨(some 45), (.mov (.t 3)), (some (42, false)), []⟩,
    ⟨(some 46), (.bin .add (.t 45) (.c (.int .i64 1))), (some (42, false)), []⟩,
    ⟨(some 47), (.indexAddr 1 (.t 44) (.t 46)), (some (42, false)), []⟩,
    ⟨(some 48), (.load none (.t 47)), (some (42, false)), []⟩,
    ⟨(some 49), (.conv .i64 (.t 48)), (some (42, false)), []⟩,
    ⟨(some 50), (.bin .add (.t 43) (.t 49)), (some (42, false)), []⟩,
    ⟨(some 51), (.mov (.t 0)), (some (42, false)), []⟩,
    ⟨(some 52), (.lenSlice (.t 51)), (some (42, false)), []⟩,
    ⟨(some 53), (.bin .gtr (.t 50) (.t 52)), (some (42, false)), []⟩,
    ⟨(some 54), (.pick (.t 42) (.c (.bool true)) (.t 53)), none, []⟩] none)
  (.cond (.t 54)
  (.seq (.region [⟨(some 2), (.mov (.c (.bool false))), none, []⟩] none)
  .ret)
  .skip))
  (.region [⟨(some 55), (.mov (.t 3)), none, []⟩,
    ⟨(some 56), (.mov (.t 0)), none, []⟩,
    ⟨(some 57), (.mov (.t 3)), none, []⟩,
    ⟨(some 58), (.bin .add (.t 57) (.c (.int .i64 1))), none, []⟩,
    ⟨(some 59), (.indexAddr 1 (.t 56) (.t 58)), none, []⟩,
    ⟨(some 60), (.load none (.t 59)), none, []⟩,
    ⟨(some 61), (.conv .i64 (.t 60)), none, []⟩,
    ⟨(some 62), (.bin .add (.t 55) (.t 61)), none, []⟩,
    ⟨(some 3), (.mov (.t 62)), none, []⟩] none))))))
def B45 : ACode := (.seq (.region [⟨(some 2), (.mov (.c (.bool false))), none, []⟩] none)
  (.seq (.seq (.region [⟨(some 4), (.mov (.t 0)), none, []⟩,
    ⟨(some 5), (.lenSlice (.t 4)), none, []⟩,
    ⟨(some 6), (.bin .gtr (.t 5) (.c (.int .i64 40))), none, []⟩,
    ⟨(some 7), (.mov (.t 6)), none, []⟩,
    ⟨(some 8), (.mov (.t 0)), (some (7, false)), []⟩,
    ⟨(some 9), (.lenSlice (.t 8)), (some (7, false)), []⟩,
    ⟨(some 10), (.bin .rem (.t 9) (.c (.int .i64 4))), (some (7, false)), []⟩,
    ⟨(some 11), (.bin .neq (.t 10) (.c (.int .i64 0))), (some (7, false)), []⟩,
    ⟨(some 12), (.pick (.t 7) (.c (.bool true)) (.t 11)), none, []⟩] none)
  (.cond (.t 12)
  (.seq (.region [⟨(some 2), (.mov (.c (.bool false))), none, []⟩] none)
  .ret)
  .skip))
  (.seq (.region [⟨(some 3), (.mov (.c (.int .i64 0))), none, []⟩] none)
  (.seq (.block 0 (.loop F45L0))
  (.seq (.region [⟨(some 2), (.mov (.c (.bool true))), none, []⟩] none)
  .ret)))))
def F45 : AFunc := ⟨1, 63, [(.tmp 2)], B45⟩
-- F45L0 live: [0, 3]
/-- toll/tollref06.fits -/
def B46 : ACode := (.seq (.region [⟨(some 2), (.box 53 (.t 0)), none, []⟩,
    ⟨(some 4), (.mov (.c (.bool false))), none, []⟩] none)
  (.seq (.region [⟨(some 5), (.fieldAddr 7 (.t 2)), none, []⟩,
    ⟨(some 6), (.load none (.t 5)), none, []⟩,
    ⟨(some 7), (.bin .mul (.t 6) (.c (.int .i64 8))), none, []⟩,
    ⟨(some 8), (.mov (.t 1)), none, []⟩,
    ⟨(some 9), (.bin .add (.t 7) (.t 8)), none, []⟩,
    ⟨(some 10), (.bin .leq (.t 9) (.c (.int .i64 65535))), none, []⟩,
    ⟨(some 11), (.mov (.t 10)), none, []⟩,
    ⟨(some 12), (.fieldAddr 6 (.t 2)), (some (11, true)), []⟩,
    ⟨(some 13), (.load none (.t 12)), (some (11, true)), []⟩,
    ⟨(some 14), (.mov (.t 13)), (some (11, true)), []⟩,
    ⟨(some 15), (.mov (.t 1)), (some (14, true)), []⟩,
    ⟨(some 16), (.bin .rem (.t 15) (.c (.int .i64 8))), (some (14, true)), []⟩,
    ⟨(some 17), (.bin .neq (.t 16) (.c (.int .i64 0))), (some (14, true)), []⟩,
    ⟨(some 18), (.pick (.t 14) (.t 17) (.c (.bool false))), (some (11, true)), []⟩,
    ⟨(some 19), (.un .not (.t 18)), (some (11, true)), []⟩,
    ⟨(some 20), (.pick (.t 11) (.t 19) (.c (.bool false))), none, []⟩,
    ⟨(some 4), (.mov (.t 20)), none, []⟩] none)
  .ret))
def F46 : AFunc := ⟨2, 21, [(.tmp 4)], B46⟩
def R47_0 : ACode := .region [⟨(some 3), (.mov (.t 0)), none, []⟩,
    ⟨(some 4), (.indexAddr 1 (.t 3) (.c (.int .i64 0))), none, [0]⟩,
    ⟨(some 5), (.load none (.t 4)), none, [1]⟩,
    ⟨(some 6), (.conv .u16 (.t 5)), none, [2]⟩,
    ⟨(some 7), (.bin .shl (.t 6) (.c (.int .u64 8))), none, [3]⟩,
    ⟨(some 8), (.mov (.t 0)), none, []⟩,
    ⟨(some 9), (.indexAddr 1 (.t 8) (.c (.int .i64 1))), none, [5]⟩,
    ⟨(some 10), (.load none (.t 9)), none, [6]⟩,
    ⟨(some 11), (.conv .u16 (.t 10)), none, [7]⟩,
    ⟨(some 12), (.bin .or (.t 7) (.t 11)), none, [4, 8]⟩,
    ⟨(some 2), (.mov (.t 12)), none, [9, 0, 1, 2, 3, 4, 5, 6, 7, 8, 9]⟩] (some [(0, 5), (1, 5), (2, 5), (3, 5), (4, 5), (0, 6), (1, 6), (2, 6), (3, 6), (4, 6), (0, 7), (1, 7), (2, 7), (3, 7), (4, 7), (0, 8), (1, 8), (2, 8), (3, 8), (4, 8)])
/-- toll/inet.word -/
def B47 : ACode := (.seq (.region [⟨(some 2), (.mov (.c (.int .u16 0))), none, []⟩] none)
  (.seq R47_0
  .ret))
def F47 : AFunc := ⟨1, 13, [(.tmp 2)], B47⟩
/-- toll/inet.begin -/
def B48 : ACode := (.seq (.region [⟨(some 2), (.mov (.c (.int .i64 0))), none, []⟩,
    ⟨(some 3), (.mov (.c (.int .i64 0))), none, []⟩] none)
  (.seq (.seq (.region [⟨(some 5), (.mov (.t 0)), none, []⟩,
    ⟨(some 6), (.lenSlice (.t 5)), none, []⟩,
    ⟨(some 7), (.bin .lss (.t 6) (.c (.int .i64 20))), none, []⟩] none)
  (.cond (.t 7)
  (.seq (.region [⟨(some 2), (.mov (.c (.int .i64 0))), none, []⟩,
    ⟨(some 3), (.mov (.c (.int .i64 4))), none, []⟩] none)
  .ret)
  .skip))
  (.seq (.region [⟨(some 8), (.mov (.t 0)), none, []⟩,
    ⟨(some 9), (.indexAddr 1 (.t 8) (.c (.int .i64 0))), none, []⟩,
    ⟨(some 10), (.load none (.t 9)), none, []⟩,
    ⟨(some 11), (.bin .and (.t 10) (.c (.int .u8 15))), none, []⟩,
    ⟨(some 12), (.conv .i64 (.t 11)), none, []⟩,
    ⟨(some 13), (.bin .mul (.c (.int .i64 4)) (.t 12)), none, []⟩,
    ⟨(some 4), (.mov (.t 13)), none, []⟩] none)
  (.seq (.block 0 (.seq (.region [⟨(some 15), (.mov (.t 0)), none, []⟩,
    ⟨(some 16), (.indexAddr 1 (.t 15) (.c (.int .i64 0))), none, []⟩,
    ⟨(some 17), (.load none (.t 16)), none, []⟩,
    ⟨(some 18), (.bin .shr (.t 17) (.c (.int .u64 4))), none, []⟩,
    ⟨(some 19), (.bin .neq (.t 18) (.c (.int .u8 4))), none, []⟩,
    ⟨(some 20), (.mov (.t 19)), none, []⟩,
    ⟨(some 21), (.mov (.t 4)), (some (20, false)), []⟩,
    ⟨(some 22), (.bin .lss (.t 21) (.c (.int .i64 20))), (some (20, false)), []⟩,
    ⟨(some 23), (.pick (.t 20) (.c (.bool true)) (.t 22)), none, []⟩,
    ⟨(some 14), (.mov (.t 23)), none, []⟩] none)
  (.cond (.t 14)
  (.seq (.region [⟨(some 2), (.mov (.c (.int .i64 0))), none, []⟩,
    ⟨(some 3), (.mov (.c (.int .i64 5))), none, []⟩] none)
  .ret)
  (.seq (.region [⟨(some 25), (.mov (.t 4)), none, []⟩,
    ⟨(some 26), (.mov (.t 0)), none, []⟩,
    ⟨(some 27), (.lenSlice (.t 26)), none, []⟩,
    ⟨(some 28), (.bin .gtr (.t 25) (.t 27)), none, []⟩,
    ⟨(some 24), (.mov (.t 28)), none, []⟩] none)
  (.cond (.t 24)
  (.seq (.region [⟨(some 2), (.mov (.c (.int .i64 0))), none, []⟩,
    ⟨(some 3), (.mov (.c (.int .i64 4))), none, []⟩] none)
  .ret)
  (.seq (.region [⟨(some 30), (.mov (.t 0)), none, []⟩,
    ⟨(some 31), (.slice 1 (.t 30) (some (.c (.int .i64 2))) none none), none, []⟩,
    ⟨(some 32), (.call (.f 47) [(.t 31)]), none, []⟩,
    ⟨(some 33), (.conv .i64 (.t 32)), none, []⟩,
    ⟨(some 34), (.mov (.t 4)), none, []⟩,
    ⟨(some 35), (.bin .lss (.t 33) (.t 34)), none, []⟩,
    ⟨(some 29), (.mov (.t 35)), none, []⟩] none)
  (.cond (.t 29)
  (.seq (.region [⟨(some 2), (.mov (.c (.int .i64 0))), none, []⟩,
    ⟨(some 3), (.mov (.c (.int .i64 5))), none, []⟩] none)
  .ret)
  .skip)))))))
  (.seq (.region [⟨(some 36), (.mov (.t 4)), none, []⟩,
    ⟨(some 2), (.mov (.t 36)), none, []⟩,
    ⟨(some 3), (.mov (.c (.int .i64 0))), none, []⟩] none)
  .ret)))))
def F48 : AFunc := ⟨1, 37, [(.tmp 2), (.tmp 3)], B48⟩
/-- toll/inet.Cut$1 -/
def B49 : ACode := (.seq (.region [⟨(some 3), (.mov (.c (.bool false))), none, []⟩] none)
  (.seq (.region [⟨(some 4), (.load none (.t 1)), none, []⟩,
    ⟨(some 5), (.mov (.t 0)), none, []⟩,
    ⟨(some 6), (.bin .and (.t 4) (.t 5)), none, []⟩,
    ⟨(some 7), (.bin .neq (.t 6) (.c (.int .u16 0))), none, []⟩,
    ⟨(some 3), (.mov (.t 7)), none, []⟩] none)
  .ret))
def F49 : AFunc := ⟨2, 8, [(.tmp 3)], B49⟩
def R50_0 : ACode := .region [⟨(some 3), (.mov (.t 0)), none, []⟩,
    ⟨(some 4), (.call (.f 47) [(.t 3)]), none, [0]⟩,
    ⟨(some 5), (.conv .u32 (.t 4)), none, [1]⟩,
    ⟨(some 6), (.bin .shl (.t 5) (.c (.int .u64 16))), none, [2]⟩,
    ⟨(some 7), (.mov (.t 0)), none, []⟩,
    ⟨(some 8), (.slice 1 (.t 7) (some (.c (.int .i64 2))) none none), none, [4]⟩,
    ⟨(some 9), (.call (.f 47) [(.t 8)]), none, [5, 1]⟩,
    ⟨(some 10), (.conv .u32 (.t 9)), none, [6]⟩,
    ⟨(some 11), (.bin .or (.t 6) (.t 10)), none, [3, 7]⟩,
    ⟨(some 2), (.mov (.t 11)), none, [8, 6, 0, 1, 2, 3, 4, 5, 6, 7, 8]⟩] (some [(0, 4), (1, 4), (2, 4), (3, 4), (0, 5), (1, 5), (2, 5), (3, 5), (2, 6), (3, 6), (2, 7), (3, 7)])
/-- toll/inet.address -/
def B50 : ACode := (.seq (.region [⟨(some 2), (.mov (.c (.int .u32 0))), none, []⟩] none)
  (.seq R50_0
  .ret))
def F50 : AFunc := ⟨1, 12, [(.tmp 2)], B50⟩
/-- slices.Clone[[]byte,byte] -/
def B51 : ACode := (.seq (.region [⟨(some 2), (.mov (.c (.slice none 0 0))), none, []⟩] none)
  (.seq (.seq (.region [⟨(some 3), (.mov (.t 0)), none, []⟩,
    ⟨(some 4), (.eqv false .slice false (.t 3) (.c (.slice none 0 0))), none, []⟩] none)
  (.cond (.t 4)
  (.seq (.region [⟨(some 2), (.mov (.c (.slice none 0 0))), none, []⟩] none)
  .ret)
  .skip))
  (.seq (.region [⟨(some 5), (.buildSlice 5 1 0 [(.int .u8 0)] []), none, []⟩,
    ⟨(some 6), (.mov (.t 0)), none, []⟩,
    ⟨(some 7), (.append 5 1 1 (.t 5) (.t 6)), none, []⟩,
    ⟨(some 2), (.mov (.t 7)), none, []⟩] none)
  .ret)))
def F51 : AFunc := ⟨1, 8, [(.tmp 2)], B51⟩
/-- toll/tollref06.number -/
def F52L0 : ACode := (.seq (.seq (.region [⟨(some 5), (.mov (.t 4)), none, []⟩,
    ⟨(some 6), (.mov (.t 0)), none, []⟩,
    ⟨(some 7), (.lenSlice (.t 6)), none, []⟩,
    ⟨(some 8), (.bin .lss (.t 5) (.t 7)), none, []⟩] none)
  (.cond (.t 8)
  .skip
  (.exit 0)))
  (.seq (.block 1 (.region [⟨(some 11), (.mov (.t 3)), none, []⟩,
    ⟨(some 12), (.bin .mul (.c (.int .i64 256)) (.t 11)), none, []⟩,
    ⟨(some 13), (.mov (.t 0)), none, []⟩,
    ⟨(some 14), (.mov (.t 4)), none, []⟩,
    ⟨(some 15), (.indexAddr 1 (.t 13) (.t 14)), none, []⟩,
    ⟨(some 16), (.load none (.t 15)), none, []⟩,
    ⟨(some 17), (.conv .i64 (.t 16)), none, []⟩,
    ⟨(some 18), (.bin .add (.t 12) (.t 17)), none, []⟩,
    ⟨(some 3), (.mov (.t 18)), none, []⟩] none))
  (.region [⟨(some 9), (.mov (.t 4)), none, []⟩,
    ⟨(some 10), (.bin .add (.t 9) (.c (.int .i64 1))), none, []⟩,
    ⟨(some 4), (.mov (.t 10)), none, []⟩] none)))
def B52 : ACode := (.seq (.region [⟨(some 2), (.mov (.c (.int .i64 0))), none, []⟩] none)
  (.seq (.region [⟨(some 3), (.mov (.c (.int .i64 0))), none, []⟩] none)
  (.seq (.seq (.region [⟨(some 4), (.mov (.c (.int .i64 0))), none, []⟩] none)
  (.block 0 (.loop F52L0)))
  (.seq (.region [⟨(some 19), (.mov (.t 3)), none, []⟩,
    ⟨(some 2), (.mov (.t 19)), none, []⟩] none)
  .ret))))
def F52 : AFunc := ⟨1, 20, [(.tmp 2)], B52⟩
-- F52L0 live: [0, 3, 4]
/-- strings.genSplit -/
def F53L0 : ACode := (.seq (.seq (.region [⟨(some 34), (.mov (.t 10)), none, []⟩,
    ⟨(some 35), (.mov (.t 3)), none, []⟩,
    ⟨(some 36), (.bin .lss (.t 34) (.t 35)), none, []⟩] none)
  (.cond (.t 36)
  .skip
  (.exit 0)))
  (.block 1 (.seq (.region [⟨(some 37), (.mov (.t 0)), none, []⟩,
    ⟨(some 38), (.mov (.t 1)), none, []⟩,
    ⟨(some 39), (.call (.f 62) [(.t 37), (.t 38)]), none, []⟩,
    ⟨(some 11), (.mov (.t 39)), none, []⟩] none)
  (.seq (.seq (.region [⟨(some 40), (.mov (.t 11)), none, []⟩,
    ⟨(some 41), (.bin .lss (.t 40) (.c (.int .i64 0))), none, []⟩] none)
  (.cond (.t 41)
  (.exit 0)
  .skip))
  (.seq (.region [⟨(some 42), (.mov (.t 9)), none, []⟩,
    ⟨(some 43), (.mov (.t 10)), none, []⟩,
    ⟨(some 44), (.mov (.t 0)), none, []⟩,
    ⟨(some 45), (.mov (.t 11)), none, []⟩,
    ⟨(some 46), (.mov (.t 2)), none, []⟩,
    ⟨(some 47), (.bin .add (.t 45) (.t 46)), none, []⟩,
    ⟨(some 48), (.sliceStr (.t 44) none (some (.t 47))), none, []⟩,
    ⟨(some 49), (.indexAddr 1 (.t 42) (.t 43)), none, []⟩,
    ⟨none, (.store 1 (.t 49) (.t 48)), none, []⟩] none)
  (.seq (.region [⟨(some 50), (.mov (.t 0)), none, []⟩,
    ⟨(some 51), (.mov (.t 11)), none, []⟩,
    ⟨(some 52), (.mov (.t 1)), none, []⟩,
    ⟨(some 53), (.lenStr (.t 52)), none, []⟩,
    ⟨(some 54), (.bin .add (.t 51) (.t 53)), none, []⟩,
    ⟨(some 55), (.sliceStr (.t 50) (some (.t 54)) none), none, []⟩,
    ⟨(some 0), (.mov (.t 55)), none, []⟩] none)
  (.region [⟨(some 56), (.mov (.t 10)), none, []⟩,
    ⟨(some 57), (.bin .add (.t 56) (.c (.int .i64 1))), none, []⟩,
    ⟨(some 10), (.mov (.t 57)), none, []⟩] none)))))))
def B53 : ACode := (.seq (.region [⟨(some 8), (.mov (.c (.slice none 0 0))), none, []⟩] none)
  (.seq (.seq (.region [⟨(some 12), (.mov (.t 3)), none, []⟩,
    ⟨(some 13), (.bin .eql (.t 12) (.c (.int .i64 0))), none, []⟩] none)
  (.cond (.t 13)
  (.seq (.region [⟨(some 8), (.mov (.c (.slice none 0 0))), none, []⟩] none)
  .ret)
  .skip))
  (.seq (.seq (.region [⟨(some 14), (.mov (.t 1)), none, []⟩,
    ⟨(some 15), (.bin .eql (.t 14) (.c (.string ⟨#[]⟩))), none, []⟩] none)
  (.cond (.t 15)
  (.seq (.region [⟨(some 16), (.mov (.t 0)), none, []⟩,
    ⟨(some 17), (.mov (.t 3)), none, []⟩,
    ⟨(some 18), (.call (.f 60) [(.t 16), (.t 17)]), none, []⟩,
    ⟨(some 8), (.mov (.t 18)), none, []⟩] none)
  .ret)
  .skip))
  (.seq (.seq (.region [⟨(some 19), (.mov (.t 3)), none, []⟩,
    ⟨(some 20), (.bin .lss (.t 19) (.c (.int .i64 0))), none, []⟩] none)
  (.cond (.t 20)
  (.region [⟨(some 21), (.mov (.t 0)), none, []⟩,
    ⟨(some 22), (.mov (.t 1)), none, []⟩,
    ⟨(some 23), (.call (.f 61) [(.t 21), (.t 22)]), none, []⟩,
    ⟨(some 24), (.bin .add (.t 23) (.c (.int .i64 1))), none, []⟩,
    ⟨(some 3), (.mov (.t 24)), none, []⟩] none)
  .skip))
  (.seq (.region [⟨(some 25), (.mov (.t 3)), none, []⟩,
    ⟨(some 26), (.mov (.t 0)), none, []⟩,
    ⟨(some 27), (.lenStr (.t 26)), none, []⟩,
    ⟨(some 28), (.bin .add (.t 27) (.c (.int .i64 1))), none, []⟩,
    ⟨(some 29), (.min [(.t 25), (.t 28)]), none, []⟩,
    ⟨(some 3), (.mov (.t 29)), none, []⟩] none)
  (.seq (.region [⟨(some 30), (.mov (.t 3)), none, []⟩,
    ⟨(some 31), (.makeSlice 9 1 16 [(.string ⟨#[]⟩)] (.t 30) (.t 30)), none, []⟩,
    ⟨(some 9), (.mov (.t 31)), none, []⟩] none)
  (.seq (.region [⟨(some 32), (.mov (.t 3)), none, []⟩,
    ⟨(some 33), (.bin .sub (.t 32) (.c (.int .i64 1))), none, []⟩,
    ⟨(some 3), (.mov (.t 33)), none, []⟩] none)
  (.seq (.region [⟨(some 10), (.mov (.c (.int .i64 0))), none, []⟩] none)
  (.seq (.block 0 (.loop F53L0))
  (.seq (.region [⟨(some 58), (.mov (.t 9)), none, []⟩,
    ⟨(some 59), (.mov (.t 10)), none, []⟩,
    ⟨(some 60), (.mov (.t 0)), none, []⟩,
    ⟨(some 61), (.indexAddr 1 (.t 58) (.t 59)), none, []⟩,
    ⟨none, (.store 1 (.t 61) (.t 60)), none, []⟩] none)
  (.seq (.region [⟨(some 62), (.mov (.t 9)), none, []⟩,
    ⟨(some 63), (.mov (.t 10)), none, []⟩,
    ⟨(some 64), (.bin .add (.t 63) (.c (.int .i64 1))), none, []⟩,
    ⟨(some 65), (.slice 1 (.t 62) none (some (.t 64)) none), none, []⟩,
    ⟨(some 8), (.mov (.t 65)), none, []⟩] none)
  .ret)))))))))))
def F53 : AFunc := ⟨4, 66, [(.tmp 8)], B53⟩
-- F53L0 live: [0, 1, 2, 3, 9, 10]
/-- strconv.Atoi -/
def B54 : ACode := (.seq (.region [⟨(some 2), (.mov (.c (.int .i64 0))), none, []⟩,
    ⟨(some 3), (.mov (.c .nilIface)), none, []⟩] none)
  (.seq (.region [⟨(some 7), (.mov (.t 0)), none, []⟩,
    ⟨(some 8), (.call (.f 63) [(.t 7)]), none, []⟩,
    ⟨(some 6), (.mov (.t 8)), none, []⟩,
    ⟨(some 9), (.extract (.t 6) 0), none, []⟩,
    ⟨(some 10), (.extract (.t 6) 1), none, []⟩,
    ⟨(some 4), (.mov (.t 9)), none, []⟩,
    ⟨(some 5), (.mov (.t 10)), none, []⟩] none)
  (.seq (.seq (.region [⟨(some 11), (.mov (.t 5)), none, []⟩,
    ⟨(some 12), (.eqv true .iface true (.t 11) (.c .nilIface)), none, []⟩] none)
  (.cond (.t 12)
  (.seq (.region [⟨(some 13), (.mov (.t 4)), none, []⟩,
    ⟨(some 14), (.mov (.t 0)), none, []⟩,
    ⟨(some 15), (.mov (.t 5)), none, []⟩,
    ⟨(some 16), (.call (.f 64) [(.c (.string ⟨#[65, 116, 111, 105]⟩)), (.t 14), (.c (.int .i64 0)), (.c (.int .i64 0)), (.t 15)]), none, []⟩,
    ⟨(some 2), (.mov (.t 13)), none, []⟩,
    ⟨(some 3), (.mov (.t 16)), none, []⟩] none)
  .ret)
  .skip))
  (.seq (.region [⟨(some 17), (.mov (.t 4)), none, []⟩,
    ⟨(some 2), (.mov (.t 17)), none, []⟩,
    ⟨(some 3), (.mov (.c .nilIface)), none, []⟩] none)
  .ret))))
def F54 : AFunc := ⟨1, 18, [(.tmp 2), (.tmp 3)], B54⟩
def R55_0 : ACode := .region [⟨(some 13), (.mov (.t 0)), none, []⟩,
    ⟨(some 14), (.mov (.t 7)), none, []⟩,
    ⟨(some 15), (.sliceStr (.t 13) none (some (.t 14))), none, [0, 1]⟩,
    ⟨(some 16), (.mov (.t 0)), none, []⟩,
    ⟨(some 17), (.mov (.t 7)), none, []⟩,
    ⟨(some 18), (.mov (.t 1)), none, []⟩,
    ⟨(some 19), (.lenStr (.t 18)), none, [5]⟩,
    ⟨(some 20), (.bin .add (.t 17) (.t 19)), none, [4, 6]⟩,
    ⟨(some 21), (.sliceStr (.t 16) (some (.t 20)) none), none, [3, 7]⟩,
    ⟨(some 4), (.mov (.t 15)), none, [2, 0, 1, 2]⟩,
    ⟨(some 5), (.mov (.t 21)), none, [8, 9, 0, 1, 2, 3, 4, 5, 6, 7, 8, 9]⟩,
    ⟨(some 6), (.mov (.c (.bool true))), none, [10, 0, 1, 2, 3, 4, 5, 6, 7, 8, 9, 10]⟩] (some [(0, 1), (0, 3), (1, 3), (2, 3), (0, 4), (1, 4), (2, 4), (3, 4), (0, 5), (1, 5), (2, 5), (3, 5), (4, 5), (0, 6), (1, 6), (2, 6), (3, 6), (4, 6), (0, 7), (1, 7), (2, 7), (3, 7), (0, 8), (1, 8), (2, 8), (3, 9), (4, 9), (5, 9), (6, 9), (7, 9), (8, 9)])
/-- internal/stringslite.Cut -/
def B55 : ACode := (.seq (.region [⟨(some 4), (.mov (.c (.string ⟨#[]⟩))), none, []⟩,
    ⟨(some 5), (.mov (.c (.string ⟨#[]⟩))), none, []⟩,
    ⟨(some 6), (.mov (.c (.bool false))), none, []⟩] none)
  (.seq (.seq (.region [⟨(some 8), (.mov (.t 0)), none, []⟩,
    ⟨(some 9), (.mov (.t 1)), none, []⟩,
    ⟨(some 10), (.call (.f 65) [(.t 8), (.t 9)]), none, []⟩,
    ⟨(some 7), (.mov (.t 10)), none, []⟩] none)
  (.seq (.region [⟨(some 11), (.mov (.t 7)), none, []⟩,
    ⟨(some 12), (.bin .geq (.t 11) (.c (.int .i64 0))), none, []⟩] none)
  (.cond (.t 12)
  (.seq R55_0
  .ret)
  .skip)))
  (.seq (.region [⟨(some 22), (.mov (.t 0)), none, []⟩,
    ⟨(some 4), (.mov (.t 22)), none, []⟩,
    ⟨(some 5), (.mov (.c (.string ⟨#[]⟩))), none, []⟩,
    ⟨(some 6), (.mov (.c (.bool false))), none, []⟩] none)
  .ret)))
def F55 : AFunc := ⟨2, 23, [(.tmp 4), (.tmp 5), (.tmp 6)], B55⟩
/-- internal/strconv.Itoa -/
def B56 : ACode := (.seq (.region [⟨(some 2), (.mov (.c (.string ⟨#[]⟩))), none, []⟩] none)
  (.seq (.region [⟨(some 3), (.mov (.t 0)), none, []⟩,
    ⟨(some 4), (.call (.f 66) [(.t 3), (.c (.int .i64 10))]), none, []⟩,
    ⟨(some 2), (.mov (.t 4)), none, []⟩] none)
  .ret))
def F56 : AFunc := ⟨1, 5, [(.tmp 2)], B56⟩
def R57_0 : ACode := .region [⟨(some 9), (.mov (.t 0)), none, []⟩,
    ⟨(some 10), (.nilCheck (.t 9)), none, [0]⟩,
    ⟨(some 11), (.fieldAddr 1 (.t 10)), none, [1]⟩,
    ⟨(some 12), (.load none (.t 11)), none, [2]⟩,
    ⟨(some 13), (.cap (.t 12)), none, [3]⟩,
    ⟨(some 14), (.mov (.t 0)), none, []⟩,
    ⟨(some 15), (.nilCheck (.t 14)), none, [5]⟩,
    ⟨(some 16), (.fieldAddr 1 (.t 15)), none, [6]⟩,
    ⟨(some 17), (.load none (.t 16)), none, [7]⟩,
    ⟨(some 18), (.lenSlice (.t 17)), none, [8]⟩,
    ⟨(some 19), (.bin .sub (.t 13) (.t 18)), none, [4, 9]⟩,
    ⟨(some 20), (.mov (.t 1)), none, []⟩,
    ⟨(some 21), (.bin .lss (.t 19) (.t 20)), none, [10, 11]⟩] (some [(0, 5), (1, 5), (2, 5), (3, 5), (4, 5), (0, 6), (1, 6), (2, 6), (3, 6), (4, 6), (0, 7), (1, 7), (2, 7), (3, 7), (4, 7), (0, 8), (1, 8), (2, 8), (3, 8), (4, 8), (0, 9), (1, 9), (2, 9), (3, 9), (4, 9), (0, 11), (1, 11), (2, 11), (3, 11), (4, 11), (5, 11), (6, 11), (7, 11), (8, 11), (9, 11), (10, 11)])
/-- (*strings.Builder).Grow -/
def B57 : ACode := (.seq (.region [⟨(some 4), (.mov (.t 0)), none, []⟩,
    ⟨(some 5), (.call (.f 67) [(.t 4)]), none, []⟩] none)
  (.seq (.seq (.region [⟨(some 6), (.mov (.t 1)), none, []⟩,
    ⟨(some 7), (.bin .lss (.t 6) (.c (.int .i64 0))), none, []⟩] none)
  (.cond (.t 7)
  (.region [⟨(some 8), (.makeIface 9 (.c (.string ⟨#[115, 116, 114, 105, 110, 103, 115, 46, 66, 117, 105, 108, 100, 101, 114, 46, 71, 114, 111, 119, 58, 32, 110, 101, 103, 97, 116, 105, 118, 101, 32, 99, 111, 117, 110, 116]⟩))), none, []⟩,
    ⟨none, .fail, none, []⟩] none)
  .skip))
  (.seq R57_0
  (.cond (.t 21)
  (.region [⟨(some 22), (.mov (.t 0)), none, []⟩,
    ⟨(some 23), (.mov (.t 1)), none, []⟩,
    ⟨(some 24), (.call (.f 68) [(.t 22), (.t 23)]), none, []⟩] none)
  .skip))))
def F57 : AFunc := ⟨2, 25, [], B57⟩
/-- (*strings.Builder).WriteString -/
def B58 : ACode := (.seq (.region [⟨(some 4), (.mov (.c (.int .i64 0))), none, []⟩,
    ⟨(some 5), (.mov (.c .nilIface)), none, []⟩] none)
  (.seq (.region [⟨(some 6), (.mov (.t 0)), none, []⟩,
    ⟨(some 7), (.call (.f 67) [(.t 6)]), none, []⟩] none)
  (.seq (.region [⟨(some 8), (.mov (.t 0)), none, []⟩,
    ⟨(some 9), (.mov (.t 0)), none, []⟩,
    ⟨(some 10), (.nilCheck (.t 9)), none, []⟩,
    ⟨(some 11), (.fieldAddr 1 (.t 10)), none, []⟩,
    ⟨(some 12), (.load none (.t 11)), none, []⟩,
    ⟨(some 13), (.mov (.t 1)), none, []⟩,
    ⟨(some 14), (.append 5 1 1 (.t 12) (.t 13)), none, []⟩,
    ⟨(some 15), (.nilCheck (.t 8)), none, []⟩,
    ⟨(some 16), (.fieldAddr 1 (.t 15)), none, []⟩,
    ⟨none, (.store 1 (.t 16) (.t 14)), none, []⟩] none)
  (.seq (.region [⟨(some 17), (.mov (.t 1)), none, []⟩,
    ⟨(some 18), (.lenStr (.t 17)), none, []⟩,
    ⟨(some 4), (.mov (.t 18)), none, []⟩,
    ⟨(some 5), (.mov (.c .nilIface)), none, []⟩] none)
  .ret))))
def F58 : AFunc := ⟨2, 19, [(.tmp 4), (.tmp 5)], B58⟩
def R59_0 : ACode := .region [⟨(some 3), (.mov (.t 0)), none, []⟩,
    ⟨(some 4), (.nilCheck (.t 3)), none, [0]⟩,
    ⟨(some 5), (.fieldAddr 1 (.t 4)), none, [1]⟩,
    ⟨(some 6), (.load none (.t 5)), none, [2]⟩,
    ⟨(some 7), (.sliceData (.t 6)), none, [3]⟩,
    ⟨(some 8), (.mov (.t 0)), none, []⟩,
    ⟨(some 9), (.nilCheck (.t 8)), none, [5]⟩,
    ⟨(some 10), (.fieldAddr 1 (.t 9)), none, [6]⟩,
    ⟨(some 11), (.load none (.t 10)), none, [7]⟩,
    ⟨(some 12), (.lenSlice (.t 11)), none, [8]⟩,
    ⟨(some 13), (.unsafeString 5 (.t 7) (.t 12)), none, [4, 9]⟩,
    ⟨(some 2), (.mov (.t 13)), none, [10, 0, 1, 2, 3, 4, 5, 6, 7, 8, 9, 10]⟩] (some [(0, 5), (1, 5), (2, 5), (3, 5), (4, 5), (0, 6), (1, 6), (2, 6), (3, 6), (4, 6), (0, 7), (1, 7), (2, 7), (3, 7), (4, 7), (0, 8), (1, 8), (2, 8), (3, 8), (4, 8), (0, 9), (1, 9), (2, 9), (3, 9), (4, 9)])
/-- (*strings.Builder).String -/
def B59 : ACode := (.seq (.region [⟨(some 2), (.mov (.c (.string ⟨#[]⟩))), none, []⟩] none)
  (.seq R59_0
  .ret))
def F59 : AFunc := ⟨1, 14, [(.tmp 2)], B59⟩
/-- strings.explode -/
def F60L0 : ACode := (.seq (.seq (.region [⟨(some 22), (.mov (.t 7)), none, []⟩,
    ⟨(some 23), (.mov (.t 1)), none, []⟩,
    ⟨(some 24), (.bin .sub (.t 23) (.c (.int .i64 1))), none, []⟩,
    ⟨(some 25), (.bin .lss (.t 22) (.t 24)), none, []⟩] none)
  (.cond (.t 25)
  .skip
  (.exit 0)))
  (.seq (.block 1 (.seq (.region [⟨(some 29), (.mov (.t 0)), none, []⟩,
    ⟨(some 30), (.call (.f 70) [(.t 29)]), none, []⟩,
    ⟨(some 28), (.mov (.t 30)), none, []⟩,
    ⟨(some 31), (.extract (.t 28) 0), none, []⟩,
    ⟨(some 32), (.extract (.t 28) 1), none, []⟩,
    ⟨(some 8), (.mov (.t 31)), none, []⟩,
    ⟨(some 9), (.mov (.t 32)), none, []⟩] none)
  (.seq (.region [⟨(some 33), (.mov (.t 6)), none, []⟩,
    ⟨(some 34), (.mov (.t 7)), none, []⟩,
    ⟨(some 35), (.mov (.t 0)), none, []⟩,
    ⟨(some 36), (.mov (.t 9)), none, []⟩,
    ⟨(some 37), (.sliceStr (.t 35) none (some (.t 36))), none, []⟩,
    ⟨(some 38), (.indexAddr 1 (.t 33) (.t 34)), none, []⟩,
    ⟨none, (.store 1 (.t 38) (.t 37)), none, []⟩] none)
  (.region [⟨(some 39), (.mov (.t 0)), none, []⟩,
    ⟨(some 40), (.mov (.t 9)), none, []⟩,
    ⟨(some 41), (.sliceStr (.t 39) (some (.t 40)) none), none, []⟩,
    ⟨(some 0), (.mov (.t 41)), none, []⟩] none))))
  (.region [⟨(some 26), (.mov (.t 7)), none, []⟩,
    ⟨(some 27), (.bin .add (.t 26) (.c (.int .i64 1))), none, []⟩,
    ⟨(some 7), (.mov (.t 27)), none, []⟩] none)))
def B60 : ACode := (.seq (.region [⟨(some 4), (.mov (.c (.slice none 0 0))), none, []⟩] none)
  (.seq (.region [⟨(some 10), (.mov (.t 0)), none, []⟩,
    ⟨(some 11), (.call (.f 69) [(.t 10)]), none, []⟩,
    ⟨(some 5), (.mov (.t 11)), none, []⟩] none)
  (.seq (.seq (.region [⟨(some 12), (.mov (.t 1)), none, []⟩,
    ⟨(some 13), (.bin .lss (.t 12) (.c (.int .i64 0))), none, []⟩,
    ⟨(some 14), (.mov (.t 13)), none, []⟩,
    ⟨(some 15), (.mov (.t 1)), (some (14, false)), []⟩,
    ⟨(some 16), (.mov (.t 5)), (some (14, false)), []⟩,
    ⟨(some 17), (.bin .gtr (.t 15) (.t 16)), (some (14, false)), []⟩,
    ⟨(some 18), (.pick (.t 14) (.c (.bool true)) (.t 17)), none, []⟩] none)
  (.cond (.t 18)
  (.region [⟨(some 19), (.mov (.t 5)), none, []⟩,
    ⟨(some 1), (.mov (.t 19)), none, []⟩] none)
  .skip))
  (.seq (.region [⟨(some 20), (.mov (.t 1)), none, []⟩,
    ⟨(some 21), (.makeSlice 9 1 16 [(.string ⟨#[]⟩)] (.t 20) (.t 20)), none, []⟩,
    ⟨(some 6), (.mov (.t 21)), none, []⟩] none)
  (.seq (.seq (.region [⟨(some 7), (.mov (.c (.int .i64 0))), none, []⟩] none)
  (.block 0 (.loop F60L0)))
  (.seq (.seq (.region [⟨(some 42), (.mov (.t 1)), none, []⟩,
    ⟨(some 43), (.bin .gtr (.t 42) (.c (.int .i64 0))), none, []⟩] none)
  (.cond (.t 43)
  (.region [⟨(some 44), (.mov (.t 6)), none, []⟩,
    ⟨(some 45), (.mov (.t 1)), none, []⟩,
    ⟨(some 46), (.bin .sub (.t 45) (.c (.int .i64 1))), none, []⟩,
    ⟨(some 47), (.mov (.t 0)), none, []⟩,
    ⟨(some 48), (.indexAddr 1 (.t 44) (.t 46)), none, []⟩,
    ⟨none, (.store 1 (.t 48) (.t 47)), none, []⟩] none)
  .skip))
  (.seq (.region [⟨(some 49), (.mov (.t 6)), none, []⟩,
    ⟨(some 4), (.mov (.t 49)), none, []⟩] none)
  .ret)))))))
def F60 : AFunc := ⟨2, 50, [(.tmp 4)], B60⟩
-- F60L0 live: [0, 1, 6, 7]
/-- strings.Count -/
def F61L0 : ACode := (.block 1 (.seq (.region [⟨(some 20), (.mov (.t 0)), none, []⟩,
    ⟨(some 21), (.mov (.t 1)), none, []⟩,
    ⟨(some 22), (.call (.f 62) [(.t 20), (.t 21)]), none, []⟩,
    ⟨(some 6), (.mov (.t 22)), none, []⟩] none)
  (.seq (.seq (.region [⟨(some 23), (.mov (.t 6)), none, []⟩,
    ⟨(some 24), (.bin .eql (.t 23) (.c (.int .i64 (-1)))), none, []⟩] none)
  (.cond (.t 24)
  (.seq (.region [⟨(some 25), (.mov (.t 5)), none, []⟩,
    ⟨(some 4), (.mov (.t 25)), none, []⟩] none)
  .ret)
  .skip))
  (.seq (.region [⟨(some 26), (.mov (.t 5)), none, []⟩,
    ⟨(some 27), (.bin .add (.t 26) (.c (.int .i64 1))), none, []⟩,
    ⟨(some 5), (.mov (.t 27)), none, []⟩] none)
  (.region [⟨(some 28), (.mov (.t 0)), none, []⟩,
    ⟨(some 29), (.mov (.t 6)), none, []⟩,
    ⟨(some 30), (.mov (.t 1)), none, []⟩,
    ⟨(some 31), (.lenStr (.t 30)), none, []⟩,
    ⟨(some 32), (.bin .add (.t 29) (.t 31)), none, []⟩,
    ⟨(some 33), (.sliceStr (.t 28) (some (.t 32)) none), none, []⟩,
    ⟨(some 0), (.mov (.t 33)), none, []⟩] none)))))
def B61 : ACode := (.seq (.region [⟨(some 4), (.mov (.c (.int .i64 0))), none, []⟩] none)
  (.seq (.seq (.region [⟨(some 7), (.mov (.t 1)), none, []⟩,
    ⟨(some 8), (.lenStr (.t 7)), none, []⟩,
    ⟨(some 9), (.bin .eql (.t 8) (.c (.int .i64 0))), none, []⟩] none)
  (.cond (.t 9)
  (.seq (.region [⟨(some 10), (.mov (.t 0)), none, []⟩,
    ⟨(some 11), (.call (.f 69) [(.t 10)]), none, []⟩,
    ⟨(some 12), (.bin .add (.t 11) (.c (.int .i64 1))), none, []⟩,
    ⟨(some 4), (.mov (.t 12)), none, []⟩] none)
  .ret)
  .skip))
  (.seq (.seq (.region [⟨(some 13), (.mov (.t 1)), none, []⟩,
    ⟨(some 14), (.lenStr (.t 13)), none, []⟩,
    ⟨(some 15), (.bin .eql (.t 14) (.c (.int .i64 1))), none, []⟩] none)
  (.cond (.t 15)
  (.seq (.region [⟨(some 16), (.mov (.t 0)), none, []⟩,
    ⟨(some 17), (.mov (.t 1)), none, []⟩,
    ⟨(some 18), (.indexStr (.t 17) (.c (.int .i64 0))), none, []⟩,
    ⟨(some 19), (.call (.f 71) [(.t 16), (.t 18)]), none, []⟩,
    ⟨(some 4), (.mov (.t 19)), none, []⟩] none)
  .ret)
  .skip))
  (.seq (.region [⟨(some 5), (.mov (.c (.int .i64 0))), none, []⟩] none)
  (.block 0 (.loop F61L0))))))
def F61 : AFunc := ⟨2, 34, [(.tmp 4)], B61⟩
-- F61L0 live: [0, 1, 5]
/-- strings.Index -/
def B62 : ACode := (.seq (.region [⟨(some 4), (.mov (.c (.int .i64 0))), none, []⟩] none)
  (.seq (.region [⟨(some 5), (.mov (.t 0)), none, []⟩,
    ⟨(some 6), (.mov (.t 1)), none, []⟩,
    ⟨(some 7), (.call (.f 65) [(.t 5), (.t 6)]), none, []⟩,
    ⟨(some 4), (.mov (.t 7)), none, []⟩] none)
  .ret))
def F62 : AFunc := ⟨2, 8, [(.tmp 4)], B62⟩
/-- internal/strconv.Atoi -/
def F63L0 : ACode := (.seq (.region [⟨(some 50), (.bin .lss (.t 49) (.t 48)), none, []⟩] none)
  (.seq (.cond (.t 50)
  .skip
  (.exit 0))
  (.seq (.block 1 (.seq (.region [⟨(some 51), (.indexAddr 1 (.t 47) (.t 49)), none, []⟩,
    ⟨(some 52), (.load none (.t 51)), none, []⟩,
    ⟨(some 8), (.mov (.t 52)), none, []⟩] none)
  (.seq (.region [⟨(some 53), (.mov (.t 8)), none, []⟩,
    ⟨(some 54), (.bin .sub (.t 53) (.c (.int .u8 48))), none, []⟩,
    ⟨(some 8), (.mov (.t 54)), none, []⟩] none)
  (.seq (.seq (.region [⟨(some 55), (.mov (.t 8)), none, []⟩,
    ⟨(some 56), (.bin .gtr (.t 55) (.c (.int .u8 9))), none, []⟩] none)
  (.cond (.t 56)
  (.seq (.region [⟨(some 57), (.makeIface 107 (.c (.int .i64 2))), none, []⟩,
    ⟨(some 2), (.mov (.c (.int .i64 0))), none, []⟩,
    ⟨(some 3), (.mov (.t 57)), none, []⟩] none)
  .ret)
  .skip))
  (.region [⟨(some 58), (.mov (.t 6)), none, []⟩,
    ⟨(some 59), (.bin .mul (.t 58) (.c (.int .i64 10))), none, []⟩,
    ⟨(some 60), (.mov (.t 8)), none, []⟩,
    ⟨(some 61), (.conv .i64 (.t 60)), none, []⟩,
    ⟨(some 62), (.bin .add (.t 59) (.t 61)), none, []⟩,
    ⟨(some 6), (.mov (.t 62)), none, []⟩] none)))))
  (.region [⟨(some 63), (.bin .add (.t 49) (.c (.int .i64 1))), none, []⟩,
    ⟨(some 49), (.mov (.t 63)), none, []⟩] none))))
def B63 : ACode := (.seq (.region [⟨(some 2), (.mov (.c (.int .i64 0))), none, []⟩,
    ⟨(some 3), (.mov (.c .nilIface)), none, []⟩] none)
  (.seq (.region [⟨(some 11), (.mov (.t 0)), none, []⟩,
    ⟨(some 12), (.lenStr (.t 11)), none, []⟩,
    ⟨(some 4), (.mov (.t 12)), none, []⟩] none)
  (.seq (.seq (.region [⟨(some 13), (.mov (.c (.bool false))), none, []⟩,
    ⟨(some 14), (.mov (.t 4)), (some (13, true)), []⟩,
    ⟨(some 15), (.bin .lss (.c (.int .i64 0)) (.t 14)), (some (13, true)), []⟩,
    ⟨(some 16), (.mov (.t 15)), (some (13, true)), []⟩,
    ⟨(some 17), (.mov (.t 4)), (some (16, true)), []⟩,
    ⟨(some 18), (.bin .lss (.t 17) (.c (.int .i64 10))), (some (16, true)), []⟩,
    ⟨(some 19), (.pick (.t 16) (.t 18) (.c (.bool false))), (some (13, true)), []⟩,
    ⟨(some 20), (.pick (.t 13) (.t 19) (.c (.bool false))), none, []⟩,
    ⟨(some 21), (.mov (.t 20)), none, []⟩,
    ⟨(some 22), (.mov (.c (.bool true))), (some (21, false)), []⟩,
    ⟨(some 23), (.mov (.t 4)), (some (22, true)), []⟩,
    ⟨(some 24), (.bin .lss (.c (.int .i64 0)) (.t 23)), (some (22, true)), []⟩,
    ⟨(some 25), (.mov (.t 24)), (some (22, true)), []⟩,
    ⟨(some 26), (.mov (.t 4)), (some (25, true)), []⟩,
    ⟨(some 27), (.bin .lss (.t 26) (.c (.int .i64 19))), (some (25, true)), []⟩,
    ⟨(some 28), (.pick (.t 25) (.t 27) (.c (.bool false))), (some (22, true)), []⟩,
    ⟨(some 29), (.pick (.t 22) (.t 28) (.c (.bool false))), (some (21, false)), []⟩,
    ⟨(some 30), (.pick (.t 21) (.c (.bool true)) (.t 29)), none, []⟩] none)
  (.cond (.t 30)
  (.seq (.region [⟨(some 31), (.mov (.t 0)), none, []⟩,
    ⟨(some 5), (.mov (.t 31)), none, []⟩] none)
  (.seq (.seq (.region [⟨(some 32), (.mov (.t 0)), none, []⟩,
    ⟨(some 33), (.indexStr (.t 32) (.c (.int .i64 0))), none, []⟩,
    ⟨(some 34), (.bin .eql (.t 33) (.c (.int .u8 45))), none, []⟩,
    ⟨(some 35), (.mov (.t 34)), none, []⟩,
    ⟨(some 36), (.mov (.t 0)), (some (35, false)), []⟩,
    ⟨(some 37), (.indexStr (.t 36) (.c (.int .i64 0))), (some (35, false)), []⟩,
    ⟨(some 38), (.bin .eql (.t 37) (.c (.int .u8 43))), (some (35, false)), []⟩,
    ⟨(some 39), (.pick (.t 35) (.c (.bool true)) (.t 38)), none, []⟩] none)
  (.cond (.t 39)
  (.seq (.region [⟨(some 40), (.mov (.t 0)), none, []⟩,
    ⟨(some 41), (.sliceStr (.t 40) (some (.c (.int .i64 1))) none), none, []⟩,
    ⟨(some 0), (.mov (.t 41)), none, []⟩] none)
  (.seq (.region [⟨(some 42), (.mov (.t 0)), none, []⟩,
    ⟨(some 43), (.lenStr (.t 42)), none, []⟩,
    ⟨(some 44), (.bin .lss (.t 43) (.c (.int .i64 1))), none, []⟩] none)
  (.cond (.t 44)
  (.seq (.region [⟨(some 45), (.makeIface 107 (.c (.int .i64 2))), none, []⟩,
    ⟨(some 2), (.mov (.c (.int .i64 0))), none, []⟩,
    ⟨(some 3), (.mov (.t 45)), none, []⟩] none)
  .ret)
  .skip)))
  .skip))
  (.seq (.region [⟨(some 6), (.mov (.c (.int .i64 0))), none, []⟩] none)
  (.seq (.seq (.region [⟨(some 46), (.mov (.t 0)), none, []⟩,
    ⟨(some 47), (.bytesOf 5 (.t 46)), none, []⟩,
    ⟨(some 48), (.lenSlice (.t 47)), none, []⟩,
    ⟨(some 49), (.mov (.c (.int .i64 0))), none, []⟩] none)
  (.block 0 (.loop F63L0)))
  (.seq (.seq (.region [⟨(some 64), (.mov (.t 5)), none, []⟩,
    ⟨(some 65), (.indexStr (.t 64) (.c (.int .i64 0))), none, []⟩,
    ⟨(some 66), (.bin .eql (.t 65) (.c (.int .u8 45))), none, []⟩] none)
  (.cond (.t 66)
  (.region [⟨(some 67), (.mov (.t 6)), none, []⟩,
    ⟨(some 68), (.un .neg (.t 67)), none, []⟩,
    ⟨(some 6), (.mov (.t 68)), none, []⟩] none)
  .skip))
  (.seq (.region [⟨(some 69), (.mov (.t 6)), none, []⟩,
    ⟨(some 2), (.mov (.t 69)), none, []⟩,
    ⟨(some 3), (.mov (.c .nilIface)), none, []⟩] none)
  .ret))))))
  .skip))
  (.seq (.region [⟨(some 71), (.mov (.t 0)), none, []⟩,
    ⟨(some 72), (.call (.f 72) [(.t 71), (.c (.int .i64 10)), (.c (.int .i64 0))]), none, []⟩,
    ⟨(some 70), (.mov (.t 72)), none, []⟩,
    ⟨(some 73), (.extract (.t 70) 0), none, []⟩,
    ⟨(some 74), (.extract (.t 70) 1), none, []⟩,
    ⟨(some 9), (.mov (.t 73)), none, []⟩,
    ⟨(some 10), (.mov (.t 74)), none, []⟩] none)
  (.seq (.region [⟨(some 75), (.mov (.t 9)), none, []⟩,
    ⟨(some 76), (.mov (.t 10)), none, []⟩,
    ⟨(some 2), (.mov (.t 75)), none, []⟩,
    ⟨(some 3), (.mov (.t 76)), none, []⟩] none)
  .ret)))))
def F63 : AFunc := ⟨1, 77, [(.tmp 2), (.tmp 3)], B63⟩
-- F63L0 live: [5, 6, 47, 48, 49]
/-- strconv.toError -/
def B64 : ACode := (.seq (.region [⟨(some 10), (.mov (.c .nilIface)), none, []⟩] none)
  (.seq (.seq (.region [⟨(some 11), (.mov (.t 4)), none, []⟩] none)
  (.block 0 (.seq (.region [⟨(some 13), (.makeIface 107 (.c (.int .i64 2))), none, []⟩,
    ⟨(some 14), (.eqv false (.ifc [2, 3, 5, 6, 12, 21, 22, 23, 26, 44, 70, 82, 107, 153, 154, 156, 157]) false (.t 11) (.t 13)), none, []⟩,
    ⟨(some 12), (.mov (.t 14)), none, []⟩] none)
  (.cond (.t 12)
  (.seq (.region [⟨(some 15), (.mov (.t 0)), none, []⟩,
    ⟨(some 16), (.mov (.t 1)), none, []⟩,
    ⟨(some 17), (.call (.f 73) [(.t 15), (.t 16)]), none, []⟩,
    ⟨(some 18), (.makeIface 110 (.t 17)), none, []⟩,
    ⟨(some 10), (.mov (.t 18)), none, []⟩] none)
  .ret)
  (.seq (.region [⟨(some 20), (.makeIface 107 (.c (.int .i64 1))), none, []⟩,
    ⟨(some 21), (.eqv false (.ifc [2, 3, 5, 6, 12, 21, 22, 23, 26, 44, 70, 82, 107, 153, 154, 156, 157]) false (.t 11) (.t 20)), none, []⟩,
    ⟨(some 19), (.mov (.t 21)), none, []⟩] none)
  (.cond (.t 19)
  (.seq (.region [⟨(some 22), (.mov (.t 0)), none, []⟩,
    ⟨(some 23), (.mov (.t 1)), none, []⟩,
    ⟨(some 24), (.call (.f 74) [(.t 22), (.t 23)]), none, []⟩,
    ⟨(some 25), (.makeIface 110 (.t 24)), none, []⟩,
    ⟨(some 10), (.mov (.t 25)), none, []⟩] none)
  .ret)
  (.seq (.region [⟨(some 27), (.makeIface 107 (.c (.int .i64 3))), none, []⟩,
    ⟨(some 28), (.eqv false (.ifc [2, 3, 5, 6, 12, 21, 22, 23, 26, 44, 70, 82, 107, 153, 154, 156, 157]) false (.t 11) (.t 27)), none, []⟩,
    ⟨(some 26), (.mov (.t 28)), none, []⟩] none)
  (.cond (.t 26)
  (.seq (.region [⟨(some 29), (.mov (.t 0)), none, []⟩,
    ⟨(some 30), (.mov (.t 1)), none, []⟩,
    ⟨(some 31), (.mov (.t 2)), none, []⟩,
    ⟨(some 32), (.call (.f 75) [(.t 29), (.t 30), (.t 31)]), none, []⟩,
    ⟨(some 33), (.makeIface 110 (.t 32)), none, []⟩,
    ⟨(some 10), (.mov (.t 33)), none, []⟩] none)
  .ret)
  (.seq (.region [⟨(some 35), (.makeIface 107 (.c (.int .i64 4))), none, []⟩,
    ⟨(some 36), (.eqv false (.ifc [2, 3, 5, 6, 12, 21, 22, 23, 26, 44, 70, 82, 107, 153, 154, 156, 157]) false (.t 11) (.t 35)), none, []⟩,
    ⟨(some 34), (.mov (.t 36)), none, []⟩] none)
  (.cond (.t 34)
  (.seq (.region [⟨(some 37), (.mov (.t 0)), none, []⟩,
    ⟨(some 38), (.mov (.t 1)), none, []⟩,
    ⟨(some 39), (.mov (.t 3)), none, []⟩,
    ⟨(some 40), (.call (.f 76) [(.t 37), (.t 38), (.t 39)]), none, []⟩,
    ⟨(some 41), (.makeIface 110 (.t 40)), none, []⟩,
    ⟨(some 10), (.mov (.t 41)), none, []⟩] none)
  .ret)
  .skip))))))))))
  (.seq (.region [⟨(some 42), (.mov (.t 4)), none, []⟩,
    ⟨(some 10), (.mov (.t 42)), none, []⟩] none)
  .ret)))
def F64 : AFunc := ⟨5, 43, [(.tmp 10)], B64⟩
/-- internal/stringslite.Index -/
def F65L0 : ACode := (.seq (.seq (.region [⟨(some 57), (.mov (.t 8)), none, []⟩,
    ⟨(some 58), (.mov (.t 9)), none, []⟩,
    ⟨(some 59), (.bin .lss (.t 57) (.t 58)), none, []⟩] none)
  (.cond (.t 59)
  .skip
  (.exit 1)))
  (.block 2 (.seq (.seq (.region [⟨(some 60), (.mov (.t 0)), none, []⟩,
    ⟨(some 61), (.mov (.t 8)), none, []⟩,
    ⟨(some 62), (.indexStr (.t 60) (.t 61)), none, []⟩,
    ⟨(some 63), (.mov (.t 6)), none, []⟩,
    ⟨(some 64), (.bin .neq (.t 62) (.t 63)), none, []⟩] none)
  (.cond (.t 64)
  (.seq (.region [⟨(some 65), (.mov (.t 0)), none, []⟩,
    ⟨(some 66), (.mov (.t 8)), none, []⟩,
    ⟨(some 67), (.bin .add (.t 66) (.c (.int .i64 1))), none, []⟩,
    ⟨(some 68), (.mov (.t 9)), none, []⟩,
    ⟨(some 69), (.sliceStr (.t 65) (some (.t 67)) (some (.t 68))), none, []⟩,
    ⟨(some 70), (.mov (.t 6)), none, []⟩,
    ⟨(some 71), (.call (.f 77) [(.t 69), (.t 70)]), none, []⟩,
    ⟨(some 11), (.mov (.t 71)), none, []⟩] none)
  (.seq (.seq (.region [⟨(some 72), (.mov (.t 11)), none, []⟩,
    ⟨(some 73), (.bin .lss (.t 72) (.c (.int .i64 0))), none, []⟩] none)
  (.cond (.t 73)
  (.seq (.region [⟨(some 4), (.mov (.c (.int .i64 (-1)))), none, []⟩] none)
  .ret)
  .skip))
  (.region [⟨(some 74), (.mov (.t 8)), none, []⟩,
    ⟨(some 75), (.mov (.t 11)), none, []⟩,
    ⟨(some 76), (.bin .add (.t 75) (.c (.int .i64 1))), none, []⟩,
    ⟨(some 77), (.bin .add (.t 74) (.t 76)), none, []⟩,
    ⟨(some 8), (.mov (.t 77)), none, []⟩] none)))
  .skip))
  (.seq (.seq (.region [⟨(some 78), (.mov (.t 0)), none, []⟩,
    ⟨(some 79), (.mov (.t 8)), none, []⟩,
    ⟨(some 80), (.bin .add (.t 79) (.c (.int .i64 1))), none, []⟩,
    ⟨(some 81), (.indexStr (.t 78) (.t 80)), none, []⟩,
    ⟨(some 82), (.mov (.t 7)), none, []⟩,
    ⟨(some 83), (.bin .eql (.t 81) (.t 82)), none, []⟩,
    ⟨(some 84), (.mov (.t 83)), none, []⟩,
    ⟨(some 85), (.mov (.t 0)), (some (84, true)), []⟩,
    ⟨(some 86), (.mov (.t 8)), (some (84, true)), []⟩,
    ⟨(some 87), (.mov (.t 8)), (some (84, true)), []⟩,
    ⟨(some 88), (.mov (.t 5)), (some (84, true)), []⟩,
    ⟨(some 89), (.bin .add (.t 87) (.t 88)), (some (84, true)), []⟩,
    ⟨(some 90), (.sliceStr (.t 85) (some (.t 86)) (some (.t 89))), (some (84, true)), []⟩,
    ⟨(some 91), (.mov (.t 1)), (some (84, true)), []⟩,
    ⟨(some 92), (.bin .eql (.t 90) (.t 91)), (some (84, true)), []⟩,
    ⟨(some 93), (.pick (.t 84) (.t 92) (.c (.bool false))), none, []⟩] none)
  (.cond (.t 93)
  (.seq (.region [⟨(some 94), (.mov (.t 8)), none, []⟩,
    ⟨(some 4), (.mov (.t 94)), none, []⟩] none)
  .ret)
  .skip))
  (.seq (.region [⟨(some 95), (.mov (.t 8)), none, []⟩,
    ⟨(some 96), (.bin .add (.t 95) (.c (.int .i64 1))), none, []⟩,
    ⟨(some 8), (.mov (.t 96)), none, []⟩] none)
  (.seq (.region [⟨(some 97), (.mov (.t 10)), none, []⟩,
    ⟨(some 98), (.bin .add (.t 97) (.c (.int .i64 1))), none, []⟩,
    ⟨(some 10), (.mov (.t 98)), none, []⟩] none)
  (.seq (.region [⟨(some 99), (.mov (.t 5)), none, []⟩,
    ⟨(some 100), (.load none (.g 0)), none, []⟩,
    ⟨(some 101), (.bin .leq (.t 99) (.t 100)), none, []⟩,
    ⟨(some 102), (.mov (.t 101)), none, []⟩,
    ⟨(some 103), (.mov (.t 10)), (some (102, true)), []⟩,
    ⟨(some 104), (.mov (.t 8)), (some (102, true)), []⟩,
    ⟨(some 105), (.call (.f 79) [(.t 104)]), (some (102, true)), []⟩,
    ⟨(some 106), (.bin .gtr (.t 103) (.t 105)), (some (102, true)), []⟩,
    ⟨(some 107), (.pick (.t 102) (.t 106) (.c (.bool false))), none, []⟩] none)
  (.cond (.t 107)
  (.seq (.region [⟨(some 108), (.mov (.t 0)), none, []⟩,
    ⟨(some 109), (.mov (.t 8)), none, []⟩,
    ⟨(some 110), (.sliceStr (.t 108) (some (.t 109)) none), none, []⟩,
    ⟨(some 111), (.mov (.t 1)), none, []⟩,
    ⟨(some 112), (.call (.f 78) [(.t 110), (.t 111)]), none, []⟩,
    ⟨(some 12), (.mov (.t 112)), none, []⟩] none)
  (.seq (.seq (.region [⟨(some 113), (.mov (.t 12)), none, []⟩,
    ⟨(some 114), (.bin .geq (.t 113) (.c (.int .i64 0))), none, []⟩] none)
  (.cond (.t 114)
  (.seq (.region [⟨(some 115), (.mov (.t 12)), none, []⟩,
    ⟨(some 116), (.mov (.t 8)), none, []⟩,
    ⟨(some 117), (.bin .add (.t 115) (.t 116)), none, []⟩,
    ⟨(some 4), (.mov (.t 117)), none, []⟩] none)
  .ret)
  .skip))
  (.seq (.region [⟨(some 4), (.mov (.c (.int .i64 (-1)))), none, []⟩] none)
  .ret)))
  (.seq (.region [⟨(some 118), (.mov (.t 5)), none, []⟩,
    ⟨(some 119), (.load none (.g 0)), none, []⟩,
    ⟨(some 120), (.bin .gtr (.t 118) (.t 119)), none, []⟩,
    ⟨(some 121), (.mov (.t 120)), none, []⟩,
    ⟨(some 122), (.mov (.t 10)), (some (121, true)), []⟩,
    ⟨(some 123), (.mov (.t 8)), (some (121, true)), []⟩,
    ⟨(some 124), (.bin .shr (.t 123) (.c (.int .u64 4))), (some (121, true)), []⟩,
    ⟨(some 125), (.bin .add (.c (.int .i64 4)) (.t 124)), (some (121, true)), []⟩,
    ⟨(some 126), (.bin .geq (.t 122) (.t 125)), (some (121, true)), []⟩,
    ⟨(some 127), (.pick (.t 121) (.t 126) (.c (.bool false))), none, []⟩,
    ⟨(some 128), (.mov (.t 127)), none, []⟩,
    ⟨(some 129), (.mov (.t 8)), (some (128, true)), []⟩,
    ⟨(some 130), (.mov (.t 9)), (some (128, true)), []⟩,
    ⟨(some 131), (.bin .lss (.t 129) (.t 130)), (some (128, true)), []⟩,
    ⟨(some 132), (.pick (.t 128) (.t 131) (.c (.bool false))), none, []⟩] none)
  (.cond (.t 132)
  (.seq (.region [⟨(some 133), (.mov (.t 0)), none, []⟩,
    ⟨(some 134), (.mov (.t 8)), none, []⟩,
    ⟨(some 135), (.sliceStr (.t 133) (some (.t 134)) none), none, []⟩,
    ⟨(some 136), (.mov (.t 1)), none, []⟩,
    ⟨(some 137), (.call (.f 80) [(.t 135), (.t 136)]), none, []⟩,
    ⟨(some 13), (.mov (.t 137)), none, []⟩] none)
  (.seq (.seq (.region [⟨(some 138), (.mov (.t 13)), none, []⟩,
    ⟨(some 139), (.bin .lss (.t 138) (.c (.int .i64 0))), none, []⟩] none)
  (.cond (.t 139)
  (.seq (.region [⟨(some 4), (.mov (.c (.int .i64 (-1)))), none, []⟩] none)
  .ret)
  .skip))
  (.seq (.region [⟨(some 140), (.mov (.t 8)), none, []⟩,
    ⟨(some 141), (.mov (.t 13)), none, []⟩,
    ⟨(some 142), (.bin .add (.t 140) (.t 141)), none, []⟩,
    ⟨(some 4), (.mov (.t 142)), none, []⟩] none)
  .ret)))
  .skip))))))))))
def B65 : ACode := (.seq (.region [⟨(some 4), (.mov (.c (.int .i64 0))), none, []⟩] none)
  (.seq (.region [⟨(some 14), (.mov (.t 1)), none, []⟩,
    ⟨(some 15), (.lenStr (.t 14)), none, []⟩,
    ⟨(some 5), (.mov (.t 15)), none, []⟩] none)
  (.seq (.block 0 (.seq (.region [⟨(some 17), (.mov (.t 5)), none, []⟩,
    ⟨(some 18), (.bin .eql (.t 17) (.c (.int .i64 0))), none, []⟩,
    ⟨(some 19), (.mov (.t 18)), none, []⟩,
    ⟨(some 20), (.mov (.t 1)), (some (19, false)), []⟩,
    ⟨(some 21), (.mov (.t 0)), (some (19, false)), []⟩,
    ⟨(some 22), (.bin .eql (.t 20) (.t 21)), (some (19, false)), []⟩,
    ⟨(some 23), (.pick (.t 19) (.c (.bool true)) (.t 22)), none, []⟩,
    ⟨(some 16), (.mov (.t 23)), none, []⟩] none)
  (.cond (.t 16)
  (.seq (.region [⟨(some 4), (.mov (.c (.int .i64 0))), none, []⟩] none)
  .ret)
  (.seq (.region [⟨(some 25), (.mov (.t 5)), none, []⟩,
    ⟨(some 26), (.bin .eql (.t 25) (.c (.int .i64 1))), none, []⟩,
    ⟨(some 24), (.mov (.t 26)), none, []⟩] none)
  (.cond (.t 24)
  (.seq (.region [⟨(some 27), (.mov (.t 0)), none, []⟩,
    ⟨(some 28), (.mov (.t 1)), none, []⟩,
    ⟨(some 29), (.indexStr (.t 28) (.c (.int .i64 0))), none, []⟩,
    ⟨(some 30), (.call (.f 77) [(.t 27), (.t 29)]), none, []⟩,
    ⟨(some 4), (.mov (.t 30)), none, []⟩] none)
  .ret)
  (.seq (.region [⟨(some 32), (.mov (.t 5)), none, []⟩,
    ⟨(some 33), (.mov (.t 0)), none, []⟩,
    ⟨(some 34), (.lenStr (.t 33)), none, []⟩,
    ⟨(some 35), (.bin .geq (.t 32) (.t 34)), none, []⟩,
    ⟨(some 31), (.mov (.t 35)), none, []⟩] none)
  (.cond (.t 31)
  (.seq (.region [⟨(some 4), (.mov (.c (.int .i64 (-1)))), none, []⟩] none)
  .ret)
  (.seq (.region [⟨(some 37), (.mov (.t 5)), none, []⟩,
    ⟨(some 38), (.load none (.g 0)), none, []⟩,
    ⟨(some 39), (.bin .leq (.t 37) (.t 38)), none, []⟩,
    ⟨(some 40), (.mov (.t 39)), none, []⟩,
    ⟨(some 41), (.mov (.t 0)), (some (40, true)), []⟩,
    ⟨(some 42), (.lenStr (.t 41)), (some (40, true)), []⟩,
    ⟨(some 43), (.bin .leq (.t 42) (.c (.int .i64 64))), (some (40, true)), []⟩,
    ⟨(some 44), (.pick (.t 40) (.t 43) (.c (.bool false))), none, []⟩,
    ⟨(some 36), (.mov (.t 44)), none, []⟩] none)
  (.cond (.t 36)
  (.seq (.region [⟨(some 45), (.mov (.t 0)), none, []⟩,
    ⟨(some 46), (.mov (.t 1)), none, []⟩,
    ⟨(some 47), (.call (.f 78) [(.t 45), (.t 46)]), none, []⟩,
    ⟨(some 4), (.mov (.t 47)), none, []⟩] none)
  .ret)
  .skip)))))))))
  (.seq (.region [⟨(some 48), (.mov (.t 1)), none, []⟩,
    ⟨(some 49), (.indexStr (.t 48) (.c (.int .i64 0))), none, []⟩,
    ⟨(some 6), (.mov (.t 49)), none, []⟩] none)
  (.seq (.region [⟨(some 50), (.mov (.t 1)), none, []⟩,
    ⟨(some 51), (.indexStr (.t 50) (.c (.int .i64 1))), none, []⟩,
    ⟨(some 7), (.mov (.t 51)), none, []⟩] none)
  (.seq (.region [⟨(some 8), (.mov (.c (.int .i64 0))), none, []⟩] none)
  (.seq (.region [⟨(some 52), (.mov (.t 0)), none, []⟩,
    ⟨(some 53), (.lenStr (.t 52)), none, []⟩,
    ⟨(some 54), (.mov (.t 5)), none, []⟩,
    ⟨(some 55), (.bin .sub (.t 53) (.t 54)), none, []⟩,
    ⟨(some 56), (.bin .add (.t 55) (.c (.int .i64 1))), none, []⟩,
    ⟨(some 9), (.mov (.t 56)), none, []⟩] none)
  (.seq (.region [⟨(some 10), (.mov (.c (.int .i64 0))), none, []⟩] none)
  (.seq (.block 1 (.loop F65L0))
  (.seq (.region [⟨(some 4), (.mov (.c (.int .i64 (-1)))), none, []⟩] none)
  .ret))))))))))
def F65 : AFunc := ⟨2, 143, [(.tmp 4)], B65⟩
-- F65L0 live: [0, 1, 5, 6, 7, 8, 9, 10]
/-- internal/strconv.FormatInt -/
def B66 : ACode := (.seq (.region [⟨(some 4), (.mov (.c (.string ⟨#[]⟩))), none, []⟩] none)
  (.seq (.seq (.region [⟨(some 10), (.mov (.t 1)), none, []⟩,
    ⟨(some 11), (.bin .eql (.t 10) (.c (.int .i64 10))), none, []⟩] none)
  (.cond (.t 11)
  (.seq (.seq (.region [⟨(some 12), (.mov (.t 0)), none, []⟩,
    ⟨(some 13), (.bin .leq (.c (.int .i64 0)) (.t 12)), none, []⟩,
    ⟨(some 14), (.mov (.t 13)), none, []⟩,
    ⟨(some 15), (.mov (.t 0)), (some (14, true)), []⟩,
    ⟨(some 16), (.bin .lss (.t 15) (.c (.int .i64 100))), (some (14, true)), []⟩,
    ⟨(some 17), (.pick (.t 14) (.t 16) (.c (.bool false))), none, []⟩] none)
  (.cond (.t 17)
  (.seq (.region [⟨(some 18), (.mov (.t 0)), none, []⟩,
    ⟨(some 19), (.call (.f 81) [(.t 18)]), none, []⟩,
    ⟨(some 4), (.mov (.t 19)), none, []⟩] none)
  .ret)
  .skip))
  (.seq (.region [⟨(some 5), (.alloc 114 [(.int .u8 0), (.int .u8 0), (.int .u8 0), (.int .u8 0), (.int .u8 0), (.int .u8 0), (.int .u8 0), (.int .u8 0), (.int .u8 0), (.int .u8 0), (.int .u8 0), (.int .u8 0), (.int .u8 0), (.int .u8 0), (.int .u8 0), (.int .u8 0), (.int .u8 0), (.int .u8 0), (.int .u8 0), (.int .u8 0), (.int .u8 0), (.int .u8 0), (.int .u8 0), (.int .u8 0)]), none, []⟩] none)
  (.seq (.region [⟨(some 20), (.mov (.t 0)), none, []⟩,
    ⟨(some 21), (.conv .u64 (.t 20)), none, []⟩,
    ⟨(some 6), (.mov (.t 21)), none, []⟩] none)
  (.seq (.seq (.region [⟨(some 22), (.mov (.t 0)), none, []⟩,
    ⟨(some 23), (.bin .lss (.t 22) (.c (.int .i64 0))), none, []⟩] none)
  (.cond (.t 23)
  (.region [⟨(some 24), (.mov (.t 6)), none, []⟩,
    ⟨(some 25), (.un .neg (.t 24)), none, []⟩,
    ⟨(some 6), (.mov (.t 25)), none, []⟩] none)
  .skip))
  (.seq (.region [⟨(some 26), (.mov (.t 6)), none, []⟩,
    ⟨(some 27), (.call (.f 82) [(.t 26)]), none, []⟩,
    ⟨(some 7), (.mov (.t 27)), none, []⟩] none)
  (.seq (.region [⟨(some 28), (.mov (.t 7)), none, []⟩,
    ⟨(some 29), (.bin .add (.c (.int .i64 1)) (.t 28)), none, []⟩,
    ⟨(some 30), (.sliceArr 1 24 (.t 5) (some (.c (.int .i64 1))) (some (.t 29))), none, []⟩,
    ⟨(some 31), (.mov (.t 6)), none, []⟩,
    ⟨(some 32), (.call (.f 83) [(.t 30), (.t 31)]), none, []⟩] none)
  (.seq (.seq (.region [⟨(some 33), (.mov (.t 0)), none, []⟩,
    ⟨(some 34), (.bin .lss (.t 33) (.c (.int .i64 0))), none, []⟩] none)
  (.cond (.t 34)
  (.seq (.region [⟨(some 35), (.indexArr 1 24 (.t 5) (.c (.int .i64 0))), none, []⟩,
    ⟨none, (.store 1 (.t 35) (.c (.int .u8 45))), none, []⟩] none)
  (.seq (.region [⟨(some 36), (.mov (.t 7)), none, []⟩,
    ⟨(some 37), (.bin .add (.c (.int .i64 1)) (.t 36)), none, []⟩,
    ⟨(some 38), (.sliceArr 1 24 (.t 5) none (some (.t 37))), none, []⟩,
    ⟨(some 39), (.strOf (.t 38)), none, []⟩,
    ⟨(some 4), (.mov (.t 39)), none, []⟩] none)
  .ret))
  .skip))
  (.seq (.region [⟨(some 40), (.mov (.t 7)), none, []⟩,
    ⟨(some 41), (.bin .add (.c (.int .i64 1)) (.t 40)), none, []⟩,
    ⟨(some 42), (.sliceArr 1 24 (.t 5) (some (.c (.int .i64 1))) (some (.t 41))), none, []⟩,
    ⟨(some 43), (.strOf (.t 42)), none, []⟩,
    ⟨(some 4), (.mov (.t 43)), none, []⟩] none)
  .ret))))))))
  .skip))
  (.seq (.region [⟨(some 45), (.mov (.t 0)), none, []⟩,
    ⟨(some 46), (.conv .u64 (.t 45)), none, []⟩,
    ⟨(some 47), (.mov (.t 1)), none, []⟩,
    ⟨(some 48), (.mov (.t 0)), none, []⟩,
    ⟨(some 49), (.bin .lss (.t 48) (.c (.int .i64 0))), none, []⟩,
    ⟨(some 50), (.call (.f 84) [(.c (.slice none 0 0)), (.t 46), (.t 47), (.t 49), (.c (.bool false))]), none, []⟩,
    ⟨(some 44), (.mov (.t 50)), none, []⟩,
    ⟨(some 51), (.extract (.t 44) 0), none, []⟩,
    ⟨(some 52), (.extract (.t 44) 1), none, []⟩,
    ⟨(some 8), (.mov (.t 51)), none, []⟩,
    ⟨(some 9), (.mov (.t 52)), none, []⟩] none)
  (.seq (.region [⟨(some 53), (.mov (.t 9)), none, []⟩,
    ⟨(some 4), (.mov (.t 53)), none, []⟩] none)
  .ret))))
def F66 : AFunc := ⟨2, 54, [(.tmp 4)], B66⟩
/-- (*strings.Builder).copyCheck -/
def B67 : ACode := (.seq (.region [⟨(some 2), (.mov (.t 0)), none, []⟩,
    ⟨(some 3), (.nilCheck (.t 2)), none, []⟩,
    ⟨(some 4), (.fieldAddr 0 (.t 3)), none, []⟩,
    ⟨(some 5), (.load none (.t 4)), none, []⟩,
    ⟨(some 6), (.eqv false .ptr false (.t 5) (.c (.pointer none))), none, []⟩] none)
  (.cond (.t 6)
  (.region [⟨(some 7), (.mov (.t 0)), none, []⟩,
    ⟨(some 8), (.mov (.t 0)), none, []⟩,
    ⟨(some 9), (.toUnsafe (.t 8)), none, []⟩,
    ⟨(some 10), (.call (.f 85) [(.t 9)]), none, []⟩,
    ⟨(some 11), (.fromUnsafe 96 2 (.t 10)), none, []⟩,
    ⟨(some 12), (.nilCheck (.t 7)), none, []⟩,
    ⟨(some 13), (.fieldAddr 0 (.t 12)), none, []⟩,
    ⟨none, (.store 1 (.t 13) (.t 11)), none, []⟩] none)
  (.seq (.region [⟨(some 14), (.mov (.t 0)), none, []⟩,
    ⟨(some 15), (.nilCheck (.t 14)), none, []⟩,
    ⟨(some 16), (.fieldAddr 0 (.t 15)), none, []⟩,
    ⟨(some 17), (.load none (.t 16)), none, []⟩,
    ⟨(some 18), (.mov (.t 0)), none, []⟩,
    ⟨(some 19), (.eqv true .ptr false (.t 17) (.t 18)), none, []⟩] none)
  (.cond (.t 19)
  .fail
  .skip))))
def F67 : AFunc := ⟨1, 20, [], B67⟩
def R68_0 : ACode := .region [⟨(some 5), (.mov (.t 0)), none, []⟩,
    ⟨(some 6), (.nilCheck (.t 5)), none, [0]⟩,
    ⟨(some 7), (.fieldAddr 1 (.t 6)), none, [1]⟩,
    ⟨(some 8), (.load none (.t 7)), none, [2]⟩,
    ⟨(some 9), (.cap (.t 8)), none, [3]⟩,
    ⟨(some 10), (.bin .mul (.c (.int .i64 2)) (.t 9)), none, [4]⟩,
    ⟨(some 11), (.mov (.t 1)), none, []⟩,
    ⟨(some 12), (.bin .add (.t 10) (.t 11)), none, [5, 6]⟩,
    ⟨(some 13), (.call (.f 86) [(.t 12)]), none, [7]⟩,
    ⟨(some 14), (.mov (.t 0)), none, []⟩,
    ⟨(some 15), (.nilCheck (.t 14)), none, [9]⟩,
    ⟨(some 16), (.fieldAddr 1 (.t 15)), none, [10]⟩,
    ⟨(some 17), (.load none (.t 16)), none, [11]⟩,
    ⟨(some 18), (.lenSlice (.t 17)), none, [12]⟩,
    ⟨(some 19), (.slice 1 (.t 13) none (some (.t 18)) none), none, [8, 13]⟩,
    ⟨(some 4), (.mov (.t 19)), none, [14, 8, 0, 1, 2, 3, 4, 5, 6, 7, 8, 9, 10, 11, 12, 13, 14]⟩] (some [(0, 6), (1, 6), (2, 6), (3, 6), (4, 6), (5, 6), (0, 9), (1, 9), (2, 9), (3, 9), (4, 9), (5, 9), (6, 9), (7, 9), (8, 9), (0, 10), (1, 10), (2, 10), (3, 10), (4, 10), (5, 10), (6, 10), (7, 10), (8, 10), (0, 11), (1, 11), (2, 11), (3, 11), (4, 11), (5, 11), (6, 11), (7, 11), (8, 11), (0, 12), (1, 12), (2, 12), (3, 12), (4, 12), (5, 12), (6, 12), (7, 12), (8, 12), (0, 13), (1, 13), (2, 13), (3, 13), (4, 13), (5, 13), (6, 13), (7, 13), (8, 13)])
/-- (*strings.Builder).grow -/
def B68 : ACode := (.seq R68_0
  (.seq (.region [⟨(some 20), (.mov (.t 4)), none, []⟩,
    ⟨(some 21), (.mov (.t 0)), none, []⟩,
    ⟨(some 22), (.nilCheck (.t 21)), none, []⟩,
    ⟨(some 23), (.fieldAddr 1 (.t 22)), none, []⟩,
    ⟨(some 24), (.load none (.t 23)), none, []⟩,
    ⟨(some 25), (.copy 1 (.t 20) (.t 24)), none, []⟩] none)
  (.region [⟨(some 26), (.mov (.t 0)), none, []⟩,
    ⟨(some 27), (.mov (.t 4)), none, []⟩,
    ⟨(some 28), (.nilCheck (.t 26)), none, []⟩,
    ⟨(some 29), (.fieldAddr 1 (.t 28)), none, []⟩,
    ⟨none, (.store 1 (.t 29) (.t 27)), none, []⟩] none)))
def F68 : AFunc := ⟨2, 30, [], B68⟩
/-- unicode/utf8.DecodeRuneInString -/
def B70 : ACode := (.seq (.region [⟨(some 2), (.mov (.c (.int .i32 0))), none, []⟩,
    ⟨(some 3), (.mov (.c (.int .i64 0))), none, []⟩] none)
  (.seq (.seq (.region [⟨(some 4), (.mov (.t 0)), none, []⟩,
    ⟨(some 5), (.bin .neq (.t 4) (.c (.string ⟨#[]⟩))), none, []⟩,
    ⟨(some 6), (.mov (.t 5)), none, []⟩,
    ⟨(some 7), (.mov (.t 0)), (some (6, true)), []⟩,
    ⟨(some 8), (.indexStr (.t 7) (.c (.int .i64 0))), (some (6, true)), []⟩,
    ⟨(some 9), (.bin .lss (.t 8) (.c (.int .u8 128))), (some (6, true)), []⟩,
    ⟨(some 10), (.pick (.t 6) (.t 9) (.c (.bool false))), none, []⟩] none)
  (.cond (.t 10)
  (.seq (.region [⟨(some 11), (.mov (.t 0)), none, []⟩,
    ⟨(some 12), (.indexStr (.t 11) (.c (.int .i64 0))), none, []⟩,
    ⟨(some 13), (.conv .i32 (.t 12)), none, []⟩,
    ⟨(some 2), (.mov (.t 13)), none, []⟩,
    ⟨(some 3), (.mov (.c (.int .i64 1))), none, []⟩] none)
  .ret)
  (.region [⟨(some 15), (.mov (.t 0)), none, []⟩,
    ⟨(some 16), (.call (.f 87) [(.t 15)]), none, []⟩,
    ⟨(some 14), (.mov (.t 16)), none, []⟩,
    ⟨(some 17), (.extract (.t 14) 0), none, []⟩,
    ⟨(some 18), (.extract (.t 14) 1), none, []⟩,
    ⟨(some 2), (.mov (.t 17)), none, []⟩,
    ⟨(some 3), (.mov (.t 18)), none, []⟩] none)))
  .ret))
def F70 : AFunc := ⟨1, 19, [(.tmp 2), (.tmp 3)], B70⟩
/-- internal/strconv.ParseInt -/
def B72 : ACode := (.seq (.region [⟨(some 6), (.mov (.c (.int .i64 0))), none, []⟩,
    ⟨(some 7), (.mov (.c .nilIface)), none, []⟩] none)
  (.seq (.seq (.region [⟨(some 12), (.mov (.t 0)), none, []⟩,
    ⟨(some 13), (.bin .eql (.t 12) (.c (.string ⟨#[]⟩))), none, []⟩] none)
  (.cond (.t 13)
  (.seq (.region [⟨(some 14), (.makeIface 107 (.c (.int .i64 2))), none, []⟩,
    ⟨(some 6), (.mov (.c (.int .i64 0))), none, []⟩,
    ⟨(some 7), (.mov (.t 14)), none, []⟩] none)
  .ret)
  .skip))
  (.seq (.region [⟨(some 8), (.mov (.c (.bool false))), none, []⟩] none)
  (.seq (.seq (.region [⟨(some 15), (.mov (.t 0)), none, []⟩,
    ⟨(some 16), (.indexStr (.t 15) (.c (.int .i64 0))), none, []⟩] none)
  (.block 0 (.seq (.region [⟨(some 18), (.bin .eql (.t 16) (.c (.int .u8 43))), none, []⟩,
    ⟨(some 17), (.mov (.t 18)), none, []⟩] none)
  (.cond (.t 17)
  (.region [⟨(some 19), (.mov (.t 0)), none, []⟩,
    ⟨(some 20), (.sliceStr (.t 19) (some (.c (.int .i64 1))) none), none, []⟩,
    ⟨(some 0), (.mov (.t 20)), none, []⟩] none)
  (.seq (.region [⟨(some 22), (.bin .eql (.t 16) (.c (.int .u8 45))), none, []⟩,
    ⟨(some 21), (.mov (.t 22)), none, []⟩] none)
  (.cond (.t 21)
  (.seq (.region [⟨(some 23), (.mov (.t 0)), none, []⟩,
    ⟨(some 24), (.sliceStr (.t 23) (some (.c (.int .i64 1))) none), none, []⟩,
    ⟨(some 0), (.mov (.t 24)), none, []⟩] none)
  (.region [⟨(some 8), (.mov (.c (.bool true))), none, []⟩] none))
  .skip))))))
  (.seq (.region [⟨(some 9), (.mov (.c (.int .u64 0))), none, []⟩] none)
  (.seq (.region [⟨(some 26), (.mov (.t 0)), none, []⟩,
    ⟨(some 27), (.mov (.t 1)), none, []⟩,
    ⟨(some 28), (.mov (.t 2)), none, []⟩,
    ⟨(some 29), (.call (.f 88) [(.t 26), (.t 27), (.t 28)]), none, []⟩,
    ⟨(some 25), (.mov (.t 29)), none, []⟩,
    ⟨(some 30), (.extract (.t 25) 0), none, []⟩,
    ⟨(some 31), (.extract (.t 25) 1), none, []⟩,
    ⟨(some 9), (.mov (.t 30)), none, []⟩,
    ⟨(some 7), (.mov (.t 31)), none, []⟩] none)
  (.seq (.seq (.region [⟨(some 32), (.mov (.t 7)), none, []⟩,
    ⟨(some 33), (.eqv true .iface true (.t 32) (.c .nilIface)), none, []⟩,
    ⟨(some 34), (.mov (.t 33)), none, []⟩,
    ⟨(some 35), (.mov (.t 7)), (some (34, true)), []⟩,
    ⟨(some 36), (.makeIface 107 (.c (.int .i64 1))), (some (34, true)), []⟩,
    ⟨(some 37), (.eqv true (.ifc [2, 3, 5, 6, 12, 21, 22, 23, 26, 44, 70, 82, 107, 153, 154, 156, 157]) false (.t 35) (.t 36)), (some (34, true)), []⟩,
    ⟨(some 38), (.pick (.t 34) (.t 37) (.c (.bool false))), none, []⟩] none)
  (.cond (.t 38)
  (.seq (.region [⟨(some 39), (.mov (.t 7)), none, []⟩,
    ⟨(some 6), (.mov (.c (.int .i64 0))), none, []⟩,
    ⟨(some 7), (.mov (.t 39)), none, []⟩] none)
  .ret)
  .skip))
  (.seq (.seq (.region [⟨(some 40), (.mov (.t 2)), none, []⟩,
    ⟨(some 41), (.bin .eql (.t 40) (.c (.int .i64 0))), none, []⟩] none)
  (.cond (.t 41)
  (.region [⟨(some 2), (.mov (.c (.int .i64 64))), none, []⟩] none)
  .skip))
  (.seq (.region [⟨(some 42), (.mov (.t 2)), none, []⟩,
    ⟨(some 43), (.bin .sub (.t 42) (.c (.int .i64 1))), none, []⟩,
    ⟨(some 44), (.conv .u64 (.t 43)), none, []⟩,
    ⟨(some 45), (.bin .shl (.c (.int .u64 1)) (.t 44)), none, []⟩,
    ⟨(some 10), (.mov (.t 45)), none, []⟩] none)
  (.seq (.seq (.region [⟨(some 46), (.mov (.t 8)), none, []⟩,
    ⟨(some 47), (.un .not (.t 46)), none, []⟩,
    ⟨(some 48), (.mov (.t 47)), none, []⟩,
    ⟨(some 49), (.mov (.t 9)), (some (48, true)), []⟩,
    ⟨(some 50), (.mov (.t 10)), (some (48, true)), []⟩,
    ⟨(some 51), (.bin .geq (.t 49) (.t 50)), (some (48, true)), []⟩,
    ⟨(some 52), (.pick (.t 48) (.t 51) (.c (.bool false))), none, []⟩] none)
  (.cond (.t 52)
  (.seq (.region [⟨(some 53), (.mov (.t 10)), none, []⟩,
    ⟨(some 54), (.bin .sub (.t 53) (.c (.int .u64 1))), none, []⟩,
    ⟨(some 55), (.conv .i64 (.t 54)), none, []⟩,
    ⟨(some 56), (.makeIface 107 (.c (.int .i64 1))), none, []⟩,
    ⟨(some 6), (.mov (.t 55)), none, []⟩,
    ⟨(some 7), (.mov (.t 56)), none, []⟩] none)
  .ret)
  .skip))
  (.seq (.seq (.region [⟨(some 57), (.mov (.t 8)), none, []⟩,
    ⟨(some 58), (.mov (.t 57)), none, []⟩,
    ⟨(some 59), (.mov (.t 9)), (some (58, true)), []⟩,
    ⟨(some 60), (.mov (.t 10)), (some (58, true)), []⟩,
    ⟨(some 61), (.bin .gtr (.t 59) (.t 60)), (some (58, true)), []⟩,
    ⟨(some 62), (.pick (.t 58) (.t 61) (.c (.bool false))), none, []⟩] none)
  (.cond (.t 62)
  (.seq (.region [⟨(some 63), (.mov (.t 10)), none, []⟩,
    ⟨(some 64), (.conv .i64 (.t 63)), none, []⟩,
    ⟨(some 65), (.un .neg (.t 64)), none, []⟩,
    ⟨(some 66), (.makeIface 107 (.c (.int .i64 1))), none, []⟩,
    ⟨(some 6), (.mov (.t 65)), none, []⟩,
    ⟨(some 7), (.mov (.t 66)), none, []⟩] none)
  .ret)
  .skip))
  (.seq (.region [⟨(some 67), (.mov (.t 9)), none, []⟩,
    ⟨(some 68), (.conv .i64 (.t 67)), none, []⟩,
    ⟨(some 11), (.mov (.t 68)), none, []⟩] none)
  (.seq (.seq (.region [⟨(some 69), (.mov (.t 8)), none, []⟩] none)
  (.cond (.t 69)
  (.region [⟨(some 70), (.mov (.t 11)), none, []⟩,
    ⟨(some 71), (.un .neg (.t 70)), none, []⟩,
    ⟨(some 11), (.mov (.t 71)), none, []⟩] none)
  .skip))
  (.seq (.region [⟨(some 72), (.mov (.t 11)), none, []⟩,
    ⟨(some 6), (.mov (.t 72)), none, []⟩,
    ⟨(some 7), (.mov (.c .nilIface)), none, []⟩] none)
  .ret))))))))))))))
def F72 : AFunc := ⟨3, 73, [(.tmp 6), (.tmp 7)], B72⟩
def R73_0 : ACode := .region [⟨(some 5), (.mov (.t 0)), none, []⟩,
    ⟨(some 6), (.mov (.t 1)), none, []⟩,
    ⟨(some 7), (.call (.f 89) [(.t 6)]), none, [1]⟩,
    ⟨(some 8), (.load none (.g 1)), none, []⟩,
    ⟨(some 9), (.build [(.string ⟨#[]⟩), (.string ⟨#[]⟩), .nilIface] [(0, 1, (.t 5)), (1, 1, (.t 7)), (2, 1, (.t 8))]), none, [0, 2, 3]⟩,
    ⟨(some 10), (.box 126 (.t 9)), none, [4]⟩,
    ⟨(some 4), (.mov (.t 10)), none, [5, 2, 0, 1, 2, 3, 4, 5]⟩] (some [(0, 1), (0, 2), (0, 3), (1, 3), (2, 3)])
/-- strconv.syntaxError -/
def B73 : ACode := (.seq (.region [⟨(some 4), (.mov (.c (.pointer none))), none, []⟩] none)
  (.seq R73_0
  .ret))
def F73 : AFunc := ⟨2, 11, [(.tmp 4)], B73⟩
def R74_0 : ACode := .region [⟨(some 5), (.mov (.t 0)), none, []⟩,
    ⟨(some 6), (.mov (.t 1)), none, []⟩,
    ⟨(some 7), (.call (.f 89) [(.t 6)]), none, [1]⟩,
    ⟨(some 8), (.load none (.g 2)), none, []⟩,
    ⟨(some 9), (.build [(.string ⟨#[]⟩), (.string ⟨#[]⟩), .nilIface] [(0, 1, (.t 5)), (1, 1, (.t 7)), (2, 1, (.t 8))]), none, [0, 2, 3]⟩,
    ⟨(some 10), (.box 126 (.t 9)), none, [4]⟩,
    ⟨(some 4), (.mov (.t 10)), none, [5, 2, 0, 1, 2, 3, 4, 5]⟩] (some [(0, 1), (0, 2), (0, 3), (1, 3), (2, 3)])
end
end Go.Proofs.YtiemkafpijhlmaaDoor.Am
