/- The functions of the program, printed by a program of ours as code of the abstract machine (F); that they are is proved in the next text. -/
import Derived.Test.YtmmcnholpnediaaDoorD
namespace Go.Proofs.YtmmcnholpnediaaDoor.Am
noncomputable section
/-- toll/tolllaw15.WordsBlanks -/
def F3L0 : ACode := (.seq (.region [⟨(some 25), (.bin .lss (.t 24) (.t 23)), none, []⟩] none)
  (.seq (.cond (.t 25)
  .skip
  (.exit 0))
  (.seq (.block 1 (.seq (.region [⟨(some 26), (.mov (.t 24)), none, []⟩,
    ⟨(some 27), (.indexAddr 1 (.t 22) (.t 24)), none, []⟩,
    ⟨(some 28), (.load none (.t 27)), none, []⟩,
    ⟨(some 6), (.mov (.t 26)), none, []⟩,
    ⟨(some 7), (.mov (.t 28)), none, []⟩] none)
  (.seq (.seq (.region [⟨(some 29), (.mov (.t 6)), none, []⟩,
    ⟨(some 30), (.bin .eql (.t 29) (.c (.int .i64 8))), none, []⟩] none)
  (.cond (.t 30)
  (.exit 0)
  .skip))
  (.seq (.region [⟨(some 32), (.mov (.t 7)), none, []⟩,
    ⟨(some 33), (.mov (.t 7)), none, []⟩,
    ⟨(some 34), (.lenStr (.t 33)), none, []⟩,
    ⟨(some 35), (.min [(.t 34), (.c (.int .i64 16))]), none, []⟩,
    ⟨(some 36), (.sliceStr (.t 32) none (some (.t 35))), none, []⟩,
    ⟨(some 37), (.call (.f 5) [(.t 36)]), none, []⟩,
    ⟨(some 31), (.mov (.t 37)), none, []⟩,
    ⟨(some 38), (.extract (.t 31) 0), none, []⟩,
    ⟨(some 39), (.extract (.t 31) 1), none, []⟩,
    ⟨(some 8), (.mov (.t 38)), none, []⟩,
    ⟨(some 9), (.mov (.t 39)), none, []⟩] none)
  (.seq (.region [⟨(some 40), (.mov (.t 9)), none, []⟩,
    ⟨(some 41), (.bin .eql (.t 40) (.c (.int .i64 0))), none, []⟩,
    ⟨(some 42), (.mov (.t 41)), none, []⟩,
    ⟨(some 43), (.mov (.t 8)), (some (42, true)), []⟩,
    ⟨(some 44), (.lenSlice (.t 43)), (some (42, true)), []⟩,
    ⟨(some 45), (.bin .gtr (.t 44) (.c (.int .i64 0))), (some (42, true)), []⟩,
    ⟨(some 46), (.pick (.t 42) (.t 45) (.c (.bool false))), none, []⟩] none)
  (.cond (.t 46)
  (.region [⟨(some 47), (.mov (.t 5)), none, []⟩,
    ⟨(some 48), (.mov (.t 8)), none, []⟩,
    ⟨(some 49), (.indexAddr 1 (.t 48) (.c (.int .i64 0))), none, []⟩,
    ⟨(some 50), (.load none (.t 49)), none, []⟩,
    ⟨(some 51), (.buildSlice 9 1 1 [(.string ⟨#[]⟩)] [(0, 1, (.t 50))]), none, []⟩,
    ⟨(some 52), (.append 9 1 16 (.t 47) (.t 51)), none, []⟩,
    ⟨(some 5), (.mov (.t 52)), none, []⟩] none)
  .skip))))))
  (.region [⟨(some 53), (.bin .add (.t 24) (.c (.int .i64 1))), none, []⟩,
    ⟨(some 24), (.mov (.t 53)), none, []⟩] none))))
def F3L1 : ACode := (.seq (.region [⟨(some 59), (.bin .lss (.t 58) (.t 57)), none, []⟩] none)
  (.seq (.cond (.t 59)
  .skip
  (.exit 2))
  (.seq (.block 3 (.seq (.region [⟨(some 60), (.mov (.t 58)), none, []⟩,
    ⟨(some 61), (.indexAddr 1 (.t 56) (.t 58)), none, []⟩,
    ⟨(some 62), (.load none (.t 61)), none, []⟩,
    ⟨(some 12), (.mov (.t 60)), none, []⟩,
    ⟨(some 13), (.mov (.t 62)), none, []⟩] none)
  (.seq (.region [⟨(some 63), (.mov (.t 11)), none, []⟩,
    ⟨(some 64), (.mov (.t 13)), none, []⟩,
    ⟨(some 65), (.bin .add (.t 64) (.c (.string ⟨#[32]⟩))), none, []⟩,
    ⟨(some 66), (.bin .add (.t 63) (.t 65)), none, []⟩,
    ⟨(some 11), (.mov (.t 66)), none, []⟩] none)
  (.seq (.region [⟨(some 67), (.mov (.t 1)), none, []⟩,
    ⟨(some 68), (.mov (.t 12)), none, []⟩,
    ⟨(some 69), (.bin .shr (.t 67) (.t 68)), none, []⟩,
    ⟨(some 70), (.bin .and (.t 69) (.c (.int .u32 1))), none, []⟩,
    ⟨(some 71), (.bin .eql (.t 70) (.c (.int .u32 1))), none, []⟩] none)
  (.cond (.t 71)
  (.region [⟨(some 72), (.mov (.t 11)), none, []⟩,
    ⟨(some 73), (.bin .add (.t 72) (.c (.string ⟨#[32, 9, 32]⟩))), none, []⟩,
    ⟨(some 11), (.mov (.t 73)), none, []⟩] none)
  .skip)))))
  (.region [⟨(some 74), (.bin .add (.t 58) (.c (.int .i64 1))), none, []⟩,
    ⟨(some 58), (.mov (.t 74)), none, []⟩] none))))
def F3L2 : ACode := (.seq (.region [⟨(some 94), (.bin .lss (.t 93) (.t 92)), none, []⟩] none)
  (.seq (.cond (.t 94)
  .skip
  (.exit 4))
  (.seq (.block 5 (.seq (.region [⟨(some 95), (.indexAddr 1 (.t 91) (.t 93)), none, []⟩,
    ⟨(some 96), (.load none (.t 95)), none, []⟩,
    ⟨(some 21), (.mov (.t 96)), none, []⟩] none)
  (.seq (.region [⟨(some 97), (.mov (.t 21)), none, []⟩,
    ⟨(some 98), (.bin .eql (.t 97) (.c (.string ⟨#[]⟩))), none, []⟩,
    ⟨(some 99), (.mov (.t 98)), none, []⟩,
    ⟨(some 100), (.mov (.t 21)), (some (99, false)), []⟩,
    ⟨(some 101), (.call (.f 7) [(.t 100), (.c (.string ⟨#[32, 9, 35]⟩))]), (some (99, false)), []⟩,
    ⟨(some 102), (.pick (.t 99) (.c (.bool true)) (.t 101)), none, []⟩] none)
  (.cond (.t 102)
  (.seq (.region [⟨(some 4), (.mov (.c (.bool false))), none, []⟩] none)
  .ret)
  .skip))))
  (.region [⟨(some 103), (.bin .add (.t 93) (.c (.int .i64 1))), none, []⟩,
    ⟨(some 93), (.mov (.t 103)), none, []⟩] none))))
def B3 : ACode := (.seq (.region [⟨(some 4), (.mov (.c (.bool false))), none, []⟩] none)
  (.seq (.region [⟨(some 5), (.mov (.c (.slice none 0 0))), none, []⟩] none)
  (.seq (.seq (.region [⟨(some 22), (.mov (.t 0)), none, []⟩,
    ⟨(some 23), (.lenSlice (.t 22)), none, []⟩,
    ⟨(some 24), (.mov (.c (.int .i64 0))), none, []⟩] none)
  (.block 0 (.loop F3L0)))
  (.seq (.region [⟨(some 54), (.mov (.t 5)), none, []⟩,
    ⟨(some 55), (.call (.f 6) [(.t 54), (.c (.string ⟨#[32]⟩))]), none, []⟩,
    ⟨(some 10), (.mov (.t 55)), none, []⟩,
    ⟨(some 11), (.mov (.c (.string ⟨#[9]⟩))), none, []⟩] none)
  (.seq (.seq (.region [⟨(some 56), (.mov (.t 5)), none, []⟩,
    ⟨(some 57), (.lenSlice (.t 56)), none, []⟩,
    ⟨(some 58), (.mov (.c (.int .i64 0))), none, []⟩] none)
  (.block 2 (.loop F3L1)))
  (.seq (.region [⟨(some 76), (.mov (.t 10)), none, []⟩,
    ⟨(some 77), (.call (.f 5) [(.t 76)]), none, []⟩,
    ⟨(some 75), (.mov (.t 77)), none, []⟩,
    ⟨(some 78), (.extract (.t 75) 0), none, []⟩,
    ⟨(some 79), (.extract (.t 75) 1), none, []⟩,
    ⟨(some 14), (.mov (.t 78)), none, []⟩,
    ⟨(some 15), (.mov (.t 79)), none, []⟩] none)
  (.seq (.region [⟨(some 81), (.mov (.t 11)), none, []⟩,
    ⟨(some 82), (.call (.f 5) [(.t 81)]), none, []⟩,
    ⟨(some 80), (.mov (.t 82)), none, []⟩,
    ⟨(some 83), (.extract (.t 80) 0), none, []⟩,
    ⟨(some 84), (.extract (.t 80) 1), none, []⟩,
    ⟨(some 16), (.mov (.t 83)), none, []⟩,
    ⟨(some 17), (.mov (.t 84)), none, []⟩] none)
  (.seq (.region [⟨(some 86), (.mov (.t 10)), none, []⟩,
    ⟨(some 87), (.bin .add (.t 86) (.c (.string ⟨#[32, 35, 32, 109, 111, 114, 101, 32, 119, 111, 114, 100, 115]⟩))), none, []⟩,
    ⟨(some 88), (.call (.f 5) [(.t 87)]), none, []⟩,
    ⟨(some 85), (.mov (.t 88)), none, []⟩,
    ⟨(some 89), (.extract (.t 85) 0), none, []⟩,
    ⟨(some 90), (.extract (.t 85) 1), none, []⟩,
    ⟨(some 18), (.mov (.t 89)), none, []⟩,
    ⟨(some 19), (.mov (.t 90)), none, []⟩] none)
  (.seq (.seq (.region [⟨(some 91), (.mov (.t 5)), none, []⟩,
    ⟨(some 92), (.lenSlice (.t 91)), none, []⟩,
    ⟨(some 93), (.mov (.c (.int .i64 0))), none, []⟩] none)
  (.block 4 (.loop F3L2)))
  (.seq (.region [⟨(some 104), (.mov (.t 15)), none, []⟩,
    ⟨(some 105), (.bin .eql (.t 104) (.c (.int .i64 0))), none, []⟩,
    ⟨(some 106), (.mov (.t 105)), none, []⟩,
    ⟨(some 107), (.mov (.t 17)), (some (106, true)), []⟩,
    ⟨(some 108), (.bin .eql (.t 107) (.c (.int .i64 0))), (some (106, true)), []⟩,
    ⟨(some 109), (.pick (.t 106) (.t 108) (.c (.bool false))), none, []⟩,
    ⟨(some 110), (.mov (.t 109)), none, []⟩,
    ⟨(some 111), (.mov (.t 19)), (some (110, true)), []⟩,
    ⟨(some 112), (.bin .eql (.t 111) (.c (.int .i64 0))), (some (110, true)), []⟩,
    ⟨(some 113), (.pick (.t 110) (.t 112) (.c (.bool false))), none, []⟩,
    ⟨(some 114), (.mov (.t 113)), none, []⟩,
    ⟨(some 115), (.mov (.t 14)), (some (114, true)), []⟩,
    ⟨(some 116), (.mov (.t 5)), (some (114, true)), []⟩,
    ⟨(some 117), (.call (.f 8) [(.t 115), (.t 116)]), (some (114, true)), []⟩,
    ⟨(some 118), (.pick (.t 114) (.t 117) (.c (.bool false))), none, []⟩,
    ⟨(some 119), (.mov (.t 118)), none, []⟩,
    ⟨(some 120), (.mov (.t 16)), (some (119, true)), []⟩,
    ⟨(some 121), (.mov (.t 5)), (some (119, true)), []⟩,
    ⟨(some 122), (.call (.f 8) [(.t 120), (.t 121)]), (some (119, true)), []⟩,
    ⟨(some 123), (.pick (.t 119) (.t 122) (.c (.bool false))), none, []⟩,
    ⟨(some 124), (.mov (.t 123)), none, []⟩,
    ⟨(some 125), (.mov (.t 18)), (some (124, true)), []⟩,
    ⟨(some 126), (.mov (.t 5)), (some (124, true)), []⟩,
    ⟨(some 127), (.call (.f 8) [(.t 125), (.t 126)]), (some (124, true)), []⟩,
    ⟨(some 128), (.pick (.t 124) (.t 127) (.c (.bool false))), none, []⟩,
    ⟨(some 129), (.mov (.t 128)), none, []⟩,
    ⟨(some 130), (.call (.f 9) []), (some (129, true)), []⟩,
    ⟨(some 131), (.pick (.t 129) (.t 130) (.c (.bool false))), none, []⟩,
    ⟨(some 4), (.mov (.t 131)), none, []⟩] none)
  .ret))))))))))
def F3 : AFunc := ⟨2, 132, [(.tmp 4)], B3⟩
-- F3L0 live: [1, 5, 22, 23, 24]

-- F3L1 live: [1, 5, 10, 11, 56, 57, 58]

-- F3L2 live: [5, 14, 15, 16, 17, 18, 19, 91, 92, 93]
def R4_0 : ACode := .region [⟨(some 32), (.indexArr 1 3 (.t 4) (.c (.int .i64 1))), none, []⟩,
    ⟨(some 33), (.load none (.t 32)), none, [0]⟩,
    ⟨(some 34), (.indexArr 1 3 (.t 4) (.c (.int .i64 2))), none, []⟩,
    ⟨(some 35), (.load none (.t 34)), none, [2]⟩,
    ⟨(some 36), (.min [(.t 33), (.t 35)]), none, [1, 3]⟩,
    ⟨(some 37), (.conv .i64 (.t 36)), none, [4]⟩,
    ⟨(some 38), (.indexArr 1 3 (.t 4) (.c (.int .i64 1))), none, []⟩,
    ⟨(some 39), (.load none (.t 38)), none, [6]⟩,
    ⟨(some 40), (.indexArr 1 3 (.t 4) (.c (.int .i64 2))), none, []⟩,
    ⟨(some 41), (.load none (.t 40)), none, [8]⟩,
    ⟨(some 42), (.max [(.t 39), (.t 41)]), none, [7, 9]⟩,
    ⟨(some 43), (.conv .i64 (.t 42)), none, [10]⟩,
    ⟨(some 8), (.mov (.t 37)), none, [5, 0, 1, 2, 3, 4, 5]⟩,
    ⟨(some 9), (.mov (.t 43)), none, [11, 12, 0, 1, 2, 3, 4, 5, 6, 7, 8, 9, 10, 11, 12]⟩] (some [(0, 2), (1, 2), (0, 3), (1, 3), (0, 6), (1, 6), (2, 6), (3, 6), (4, 6), (5, 6), (0, 7), (1, 7), (2, 7), (3, 7), (4, 7), (5, 7), (0, 8), (1, 8), (2, 8), (3, 8), (4, 8), (5, 8), (6, 8), (7, 8), (0, 9), (1, 9), (2, 9), (3, 9), (4, 9), (5, 9), (6, 9), (7, 9), (0, 10), (1, 10), (2, 10), (3, 10), (4, 10), (5, 10), (0, 11), (1, 11), (2, 11), (3, 11), (4, 11), (5, 11), (6, 12), (7, 12), (8, 12), (9, 12), (10, 12), (11, 12)])
def R4_1 : ACode := .region [⟨(some 127), (.mov (.t 16)), none, []⟩,
    ⟨(some 128), (.indexAddr 1 (.t 127) (.c (.int .i64 0))), none, [0]⟩,
    ⟨(some 129), (.load none (.t 128)), none, [1]⟩,
    ⟨(some 130), (.call (.f 10) [(.t 129)]), none, [2]⟩,
    ⟨(some 131), (.mov (.t 16)), none, []⟩,
    ⟨(some 132), (.indexAddr 1 (.t 131) (.c (.int .i64 0))), none, [4]⟩,
    ⟨(some 133), (.load none (.t 132)), none, [5]⟩,
    ⟨(some 134), (.call (.f 10) [(.t 133)]), none, [6, 3]⟩,
    ⟨(some 135), (.mov (.t 16)), none, []⟩,
    ⟨(some 136), (.indexAddr 1 (.t 135) (.c (.int .i64 0))), none, [8]⟩,
    ⟨(some 137), (.load none (.t 136)), none, [9]⟩,
    ⟨(some 138), (.call (.f 10) [(.t 137)]), none, [10, 7]⟩,
    ⟨(some 18), (.mov (.t 130)), none, [3, 11, 0, 1, 2, 3]⟩,
    ⟨(some 19), (.mov (.t 134)), none, [7, 12, 0, 1, 2, 3, 4, 5, 6, 7, 12]⟩,
    ⟨(some 20), (.mov (.t 138)), none, [11, 13, 0, 1, 2, 3, 4, 5, 6, 7, 8, 9, 10, 11, 12, 13]⟩] (some [(0, 4), (1, 4), (2, 4), (3, 4), (0, 5), (1, 5), (2, 5), (3, 5), (0, 6), (1, 6), (2, 6), (3, 6), (0, 8), (1, 8), (2, 8), (3, 8), (4, 8), (5, 8), (6, 8), (7, 8), (0, 9), (1, 9), (2, 9), (3, 9), (4, 9), (5, 9), (6, 9), (7, 9), (0, 10), (1, 10), (2, 10), (3, 10), (4, 10), (5, 10), (6, 10), (7, 10)])
def R4_2 : ACode := .region [⟨(some 141), (.mov (.t 18)), none, []⟩,
    ⟨(some 142), (.call (.f 18) [(.t 141)]), none, [0]⟩,
    ⟨(some 143), (.bin .eql (.t 142) (.c (.int .i64 0))), none, [1]⟩,
    ⟨(some 144), (.mov (.t 143)), none, [2, 1]⟩,
    ⟨(some 145), (.mov (.t 21)), (some (144, true)), [3]⟩,
    ⟨(some 146), (.call (.f 11) [(.t 145)]), (some (144, true)), [4, 3, 3]⟩,
    ⟨(some 147), (.mov (.t 16)), (some (144, true)), [3]⟩,
    ⟨(some 148), (.indexAddr 1 (.t 147) (.c (.int .i64 0))), (some (144, true)), [6, 3]⟩,
    ⟨(some 149), (.load none (.t 148)), (some (144, true)), [7, 3]⟩,
    ⟨(some 150), (.bin .neq (.t 146) (.t 149)), (some (144, true)), [5, 8, 3]⟩,
    ⟨(some 151), (.pick (.t 144) (.t 150) (.c (.bool false))), none, [3, 9]⟩] (some [(4, 6), (5, 6), (4, 7), (5, 7), (4, 8), (5, 8)])
/-- toll/tolllaw15.WordsBack -/
def B4 : ACode := (.seq (.region [⟨(some 4), (.box 34 (.t 1)), none, []⟩,
    ⟨(some 6), (.mov (.c (.bool false))), none, []⟩] none)
  (.seq (.region [⟨(some 28), (.indexArr 1 3 (.t 4) (.c (.int .i64 0))), none, []⟩,
    ⟨(some 29), (.load none (.t 28)), none, []⟩,
    ⟨(some 30), (.bin .rem (.t 29) (.c (.int .u16 33))), none, []⟩,
    ⟨(some 31), (.conv .i64 (.t 30)), none, []⟩,
    ⟨(some 7), (.mov (.t 31)), none, []⟩] none)
  (.seq R4_0
  (.seq (.region [⟨(some 44), (.mov (.t 0)), none, []⟩,
    ⟨(some 45), (.call (.f 11) [(.t 44)]), none, []⟩,
    ⟨(some 46), (.bin .add (.t 45) (.c (.string ⟨#[32]⟩))), none, []⟩,
    ⟨(some 47), (.mov (.t 0)), none, []⟩,
    ⟨(some 48), (.mov (.t 7)), none, []⟩,
    ⟨(some 49), (.call (.f 12) [(.t 47), (.t 48)]), none, []⟩,
    ⟨(some 50), (.bin .add (.t 46) (.t 49)), none, []⟩,
    ⟨(some 51), (.bin .add (.t 50) (.c (.string ⟨#[32]⟩))), none, []⟩,
    ⟨(some 52), (.mov (.t 8)), none, []⟩,
    ⟨(some 53), (.mov (.t 9)), none, []⟩,
    ⟨(some 54), (.call (.f 13) [(.t 52), (.t 53)]), none, []⟩,
    ⟨(some 55), (.bin .add (.t 51) (.t 54)), none, []⟩,
    ⟨(some 56), (.call (.f 10) [(.t 55)]), none, []⟩,
    ⟨(some 10), (.mov (.t 56)), none, []⟩] none)
  (.seq (.region [⟨(some 57), (.mov (.t 10)), none, []⟩,
    ⟨(some 58), (.call (.f 14) [(.t 57)]), none, []⟩,
    ⟨(some 11), (.mov (.t 58)), none, []⟩] none)
  (.seq (.region [⟨(some 60), (.mov (.t 10)), none, []⟩,
    ⟨(some 61), (.call (.f 15) [(.t 60)]), none, []⟩,
    ⟨(some 59), (.mov (.t 61)), none, []⟩,
    ⟨(some 62), (.extract (.t 59) 0), none, []⟩,
    ⟨(some 63), (.extract (.t 59) 1), none, []⟩,
    ⟨(some 12), (.mov (.t 62)), none, []⟩,
    ⟨(some 13), (.mov (.t 63)), none, []⟩] none)
  (.seq (.region [⟨(some 65), (.mov (.t 10)), none, []⟩,
    ⟨(some 66), (.call (.f 16) [(.t 65), (.c (.int .i64 0)), (.c (.int .i64 65535))]), none, []⟩,
    ⟨(some 64), (.mov (.t 66)), none, []⟩,
    ⟨(some 67), (.extract (.t 64) 0), none, []⟩,
    ⟨(some 68), (.extract (.t 64) 1), none, []⟩,
    ⟨(some 14), (.mov (.t 67)), none, []⟩,
    ⟨(some 15), (.mov (.t 68)), none, []⟩] none)
  (.seq (.seq (.region [⟨(some 69), (.mov (.t 10)), none, []⟩,
    ⟨(some 70), (.call (.f 17) [(.t 69)]), none, []⟩,
    ⟨(some 71), (.bin .neq (.t 70) (.c (.int .i64 0))), none, []⟩,
    ⟨(some 72), (.mov (.t 71)), none, []⟩,
    ⟨(some 73), (.mov (.t 11)), (some (72, false)), []⟩,
    ⟨(some 74), (.mov (.t 0)), (some (72, false)), []⟩,
    ⟨(some 75), (.bin .neq (.t 73) (.t 74)), (some (72, false)), []⟩,
    ⟨(some 76), (.pick (.t 72) (.c (.bool true)) (.t 75)), none, []⟩,
    ⟨(some 77), (.mov (.t 76)), none, []⟩,
    ⟨(some 78), (.mov (.t 13)), (some (77, false)), []⟩,
    ⟨(some 79), (.mov (.t 7)), (some (77, false)), []⟩,
    ⟨(some 80), (.bin .neq (.t 78) (.t 79)), (some (77, false)), []⟩,
    ⟨(some 81), (.pick (.t 77) (.c (.bool true)) (.t 80)), none, []⟩,
    ⟨(some 82), (.mov (.t 81)), none, []⟩,
    ⟨(some 83), (.mov (.t 14)), (some (82, false)), []⟩,
    ⟨(some 84), (.mov (.t 8)), (some (82, false)), []⟩,
    ⟨(some 85), (.bin .neq (.t 83) (.t 84)), (some (82, false)), []⟩,
    ⟨(some 86), (.pick (.t 82) (.c (.bool true)) (.t 85)), none, []⟩,
    ⟨(some 87), (.mov (.t 86)), none, []⟩,
    ⟨(some 88), (.mov (.t 15)), (some (87, false)), []⟩,
    ⟨(some 89), (.mov (.t 9)), (some (87, false)), []⟩,
    ⟨(some 90), (.bin .neq (.t 88) (.t 89)), (some (87, false)), []⟩,
    ⟨(some 91), (.pick (.t 87) (.c (.bool true)) (.t 90)), none, []⟩,
    ⟨(some 92), (.mov (.t 91)), none, []⟩,
    ⟨(some 93), (.mov (.t 7)), (some (92, false)), []⟩,
    ⟨(some 94), (.bin .eql (.t 93) (.c (.int .i64 32))), (some (92, false)), []⟩,
    ⟨(some 95), (.mov (.t 94)), (some (92, false)), []⟩,
    ⟨(some 96), (.mov (.t 12)), (some (95, true)), []⟩,
    ⟨(some 97), (.mov (.t 0)), (some (95, true)), []⟩,
    ⟨(some 98), (.bin .neq (.t 96) (.t 97)), (some (95, true)), []⟩,
    ⟨(some 99), (.pick (.t 95) (.t 98) (.c (.bool false))), (some (92, false)), []⟩,
    ⟨(some 100), (.pick (.t 92) (.c (.bool true)) (.t 99)), none, []⟩,
    ⟨(some 101), (.mov (.t 100)), none, []⟩,
    ⟨(some 102), (.mov (.t 12)), (some (101, false)), []⟩,
    ⟨(some 103), (.mov (.t 13)), (some (101, false)), []⟩,
    ⟨(some 104), (.call (.f 12) [(.t 102), (.t 103)]), (some (101, false)), []⟩,
    ⟨(some 105), (.mov (.t 0)), (some (101, false)), []⟩,
    ⟨(some 106), (.mov (.t 7)), (some (101, false)), []⟩,
    ⟨(some 107), (.call (.f 12) [(.t 105), (.t 106)]), (some (101, false)), []⟩,
    ⟨(some 108), (.bin .neq (.t 104) (.t 107)), (some (101, false)), []⟩,
    ⟨(some 109), (.pick (.t 101) (.c (.bool true)) (.t 108)), none, []⟩] none)
  (.cond (.t 109)
  (.seq (.region [⟨(some 6), (.mov (.c (.bool false))), none, []⟩] none)
  .ret)
  .skip))
  (.seq (.region [⟨(some 111), (.mov (.t 2)), none, []⟩,
    ⟨(some 112), (.mov (.t 2)), none, []⟩,
    ⟨(some 113), (.lenStr (.t 112)), none, []⟩,
    ⟨(some 114), (.min [(.t 113), (.c (.int .i64 60))]), none, []⟩,
    ⟨(some 115), (.sliceStr (.t 111) none (some (.t 114))), none, []⟩,
    ⟨(some 116), (.call (.f 5) [(.t 115)]), none, []⟩,
    ⟨(some 110), (.mov (.t 116)), none, []⟩,
    ⟨(some 117), (.extract (.t 110) 0), none, []⟩,
    ⟨(some 118), (.extract (.t 110) 1), none, []⟩,
    ⟨(some 16), (.mov (.t 117)), none, []⟩,
    ⟨(some 17), (.mov (.t 118)), none, []⟩] none)
  (.seq (.seq (.region [⟨(some 119), (.mov (.t 17)), none, []⟩,
    ⟨(some 120), (.bin .neq (.t 119) (.c (.int .i64 0))), none, []⟩,
    ⟨(some 121), (.mov (.t 120)), none, []⟩,
    ⟨(some 122), (.mov (.t 16)), (some (121, false)), []⟩,
    ⟨(some 123), (.lenSlice (.t 122)), (some (121, false)), []⟩,
    ⟨(some 124), (.bin .eql (.t 123) (.c (.int .i64 0))), (some (121, false)), []⟩,
    ⟨(some 125), (.pick (.t 121) (.c (.bool true)) (.t 124)), none, []⟩] none)
  (.cond (.t 125)
  (.seq (.region [⟨(some 126), (.call (.f 9) []), none, []⟩,
    ⟨(some 6), (.mov (.t 126)), none, []⟩] none)
  .ret)
  .skip))
  (.seq R4_1
  (.seq (.seq (.region [⟨(some 139), (.mov (.t 18)), none, []⟩,
    ⟨(some 140), (.call (.f 14) [(.t 139)]), none, []⟩,
    ⟨(some 21), (.mov (.t 140)), none, []⟩] none)
  (.seq R4_2
  (.cond (.t 151)
  (.seq (.region [⟨(some 6), (.mov (.c (.bool false))), none, []⟩] none)
  .ret)
  .skip)))
  (.seq (.region [⟨(some 153), (.mov (.t 19)), none, []⟩,
    ⟨(some 154), (.call (.f 15) [(.t 153)]), none, []⟩,
    ⟨(some 152), (.mov (.t 154)), none, []⟩,
    ⟨(some 155), (.extract (.t 152) 0), none, []⟩,
    ⟨(some 156), (.extract (.t 152) 1), none, []⟩,
    ⟨(some 22), (.mov (.t 155)), none, []⟩,
    ⟨(some 23), (.mov (.t 156)), none, []⟩] none)
  (.seq (.seq (.region [⟨(some 157), (.mov (.t 22)), none, []⟩,
    ⟨(some 158), (.mov (.t 23)), none, []⟩,
    ⟨(some 159), (.call (.f 12) [(.t 157), (.t 158)]), none, []⟩,
    ⟨(some 24), (.mov (.t 159)), none, []⟩] none)
  (.seq (.region [⟨(some 160), (.mov (.t 19)), none, []⟩,
    ⟨(some 161), (.call (.f 18) [(.t 160)]), none, []⟩,
    ⟨(some 162), (.bin .eql (.t 161) (.c (.int .i64 0))), none, []⟩,
    ⟨(some 163), (.mov (.t 162)), none, []⟩,
    ⟨(some 164), (.mov (.t 24)), (some (163, true)), []⟩,
    ⟨(some 165), (.mov (.t 16)), (some (163, true)), []⟩,
    ⟨(some 166), (.indexAddr 1 (.t 165) (.c (.int .i64 0))), (some (163, true)), []⟩,
    ⟨(some 167), (.load none (.t 166)), (some (163, true)), []⟩,
    ⟨(some 168), (.bin .neq (.t 164) (.t 167)), (some (163, true)), []⟩,
    ⟨(some 169), (.pick (.t 163) (.t 168) (.c (.bool false))), none, []⟩,
    ⟨(some 170), (.mov (.t 169)), none, []⟩,
    ⟨(some 171), (.mov (.t 23)), (some (170, true)), []⟩,
    ⟨(some 172), (.bin .eql (.t 171) (.c (.int .i64 32))), (some (170, true)), []⟩,
    ⟨(some 173), (.mov (.t 172)), (some (170, true)), []⟩,
    ⟨(some 174), (.mov (.t 24)), (some (173, true)), []⟩,
    ⟨(some 175), (.bin .add (.t 174) (.c (.string ⟨#[47, 51, 50]⟩))), (some (173, true)), []⟩,
    ⟨(some 176), (.mov (.t 16)), (some (173, true)), []⟩,
    ⟨(some 177), (.indexAddr 1 (.t 176) (.c (.int .i64 0))), (some (173, true)), []⟩,
    ⟨(some 178), (.load none (.t 177)), (some (173, true)), []⟩,
    ⟨(some 179), (.bin .eql (.t 175) (.t 178)), (some (173, true)), []⟩,
    ⟨(some 180), (.pick (.t 173) (.t 179) (.c (.bool false))), (some (170, true)), []⟩,
    ⟨(some 181), (.un .not (.t 180)), (some (170, true)), []⟩,
    ⟨(some 182), (.pick (.t 170) (.t 181) (.c (.bool false))), none, []⟩] none)
  (.cond (.t 182)
  (.seq (.region [⟨(some 6), (.mov (.c (.bool false))), none, []⟩] none)
  .ret)
  .skip)))
  (.seq (.region [⟨(some 184), (.mov (.t 20)), none, []⟩,
    ⟨(some 185), (.call (.f 16) [(.t 184), (.c (.int .i64 0)), (.c (.int .i64 1099511627776))]), none, []⟩,
    ⟨(some 183), (.mov (.t 185)), none, []⟩,
    ⟨(some 186), (.extract (.t 183) 0), none, []⟩,
    ⟨(some 187), (.extract (.t 183) 1), none, []⟩,
    ⟨(some 25), (.mov (.t 186)), none, []⟩,
    ⟨(some 26), (.mov (.t 187)), none, []⟩] none)
  (.seq (.seq (.region [⟨(some 188), (.mov (.t 25)), none, []⟩,
    ⟨(some 189), (.mov (.t 26)), none, []⟩,
    ⟨(some 190), (.call (.f 13) [(.t 188), (.t 189)]), none, []⟩,
    ⟨(some 27), (.mov (.t 190)), none, []⟩] none)
  (.seq (.region [⟨(some 191), (.mov (.t 20)), none, []⟩,
    ⟨(some 192), (.call (.f 18) [(.t 191)]), none, []⟩,
    ⟨(some 193), (.bin .eql (.t 192) (.c (.int .i64 0))), none, []⟩,
    ⟨(some 194), (.mov (.t 193)), none, []⟩,
    ⟨(some 195), (.mov (.t 27)), (some (194, true)), []⟩,
    ⟨(some 196), (.mov (.t 16)), (some (194, true)), []⟩,
    ⟨(some 197), (.indexAddr 1 (.t 196) (.c (.int .i64 0))), (some (194, true)), []⟩,
    ⟨(some 198), (.load none (.t 197)), (some (194, true)), []⟩,
    ⟨(some 199), (.bin .neq (.t 195) (.t 198)), (some (194, true)), []⟩,
    ⟨(some 200), (.pick (.t 194) (.t 199) (.c (.bool false))), none, []⟩,
    ⟨(some 201), (.mov (.t 200)), none, []⟩,
    ⟨(some 202), (.mov (.t 25)), (some (201, true)), []⟩,
    ⟨(some 203), (.mov (.t 26)), (some (201, true)), []⟩,
    ⟨(some 204), (.bin .eql (.t 202) (.t 203)), (some (201, true)), []⟩,
    ⟨(some 205), (.mov (.t 204)), (some (201, true)), []⟩,
    ⟨(some 206), (.mov (.t 27)), (some (205, true)), []⟩,
    ⟨(some 207), (.bin .add (.t 206) (.c (.string ⟨#[45]⟩))), (some (205, true)), []⟩,
    ⟨(some 208), (.mov (.t 27)), (some (205, true)), []⟩,
    ⟨(some 209), (.bin .add (.t 207) (.t 208)), (some (205, true)), []⟩,
    ⟨(some 210), (.mov (.t 16)), (some (205, true)), []⟩,
    ⟨(some 211), (.indexAddr 1 (.t 210) (.c (.int .i64 0))), (some (205, true)), []⟩,
    ⟨(some 212), (.load none (.t 211)), (some (205, true)), []⟩,
    ⟨(some 213), (.bin .eql (.t 209) (.t 212)), (some (205, true)), []⟩,
    ⟨(some 214), (.pick (.t 205) (.t 213) (.c (.bool false))), (some (201, true)), []⟩,
    ⟨(some 215), (.un .not (.t 214)), (some (201, true)), []⟩,
    ⟨(some 216), (.pick (.t 201) (.t 215) (.c (.bool false))), none, []⟩] none)
  (.cond (.t 216)
  (.seq (.region [⟨(some 6), (.mov (.c (.bool false))), none, []⟩] none)
  .ret)
  .skip)))
  (.seq (.region [⟨(some 217), (.call (.f 9) []), none, []⟩,
    ⟨(some 6), (.mov (.t 217)), none, []⟩] none)
  .ret)))))))))))))))))
def F4 : AFunc := ⟨3, 218, [(.tmp 6)], B4⟩
/-- toll/words.Split -/
def B5 : ACode := (.seq (.region [⟨(some 2), (.mov (.c (.slice none 0 0))), none, []⟩,
    ⟨(some 3), (.mov (.c (.int .i64 0))), none, []⟩] none)
  (.seq (.seq (.region [⟨(some 5), (.mov (.t 0)), none, []⟩,
    ⟨(some 6), (.lenStr (.t 5)), none, []⟩,
    ⟨(some 7), (.bin .gtr (.t 6) (.c (.int .i64 200))), none, []⟩] none)
  (.cond (.t 7)
  (.seq (.region [⟨(some 2), (.mov (.c (.slice none 0 0))), none, []⟩,
    ⟨(some 3), (.mov (.c (.int .i64 3))), none, []⟩] none)
  .ret)
  .skip))
  (.seq (.region [⟨(some 4), (.mov (.f 19)), none, []⟩] none)
  (.seq (.seq (.region [⟨(some 8), (.mov (.t 0)), none, []⟩,
    ⟨(some 9), (.bytesOf 5 (.t 8)), none, []⟩,
    ⟨(some 10), (.mov (.t 4)), none, []⟩,
    ⟨(some 11), (.call (.f 20) [(.t 9), (.t 10)]), none, []⟩] none)
  (.cond (.t 11)
  (.seq (.region [⟨(some 2), (.mov (.c (.slice none 0 0))), none, []⟩,
    ⟨(some 3), (.mov (.c (.int .i64 5))), none, []⟩] none)
  .ret)
  .skip))
  (.seq (.region [⟨(some 13), (.mov (.t 0)), none, []⟩,
    ⟨(some 14), (.call (.f 21) [(.t 13), (.c (.string ⟨#[35]⟩))]), none, []⟩,
    ⟨(some 12), (.mov (.t 14)), none, []⟩,
    ⟨(some 15), (.extract (.t 12) 0), none, []⟩,
    ⟨(some 16), (.extract (.t 12) 1), none, []⟩,
    ⟨(some 17), (.extract (.t 12) 2), none, []⟩,
    ⟨(some 0), (.mov (.t 15)), none, []⟩] none)
  (.seq (.region [⟨(some 18), (.mov (.t 0)), none, []⟩,
    ⟨(some 19), (.call (.f 22) [(.t 18), (.f 23)]), none, []⟩,
    ⟨(some 2), (.mov (.t 19)), none, []⟩,
    ⟨(some 3), (.mov (.c (.int .i64 0))), none, []⟩] none)
  .ret))))))
def F5 : AFunc := ⟨1, 20, [(.tmp 2), (.tmp 3)], B5⟩
/-- strings.Join -/
def F6L0 : ACode := (.seq (.region [⟨(some 42), (.bin .lss (.t 41) (.t 40)), none, []⟩] none)
  (.seq (.cond (.t 42)
  .skip
  (.exit 1))
  (.seq (.block 2 (.seq (.region [⟨(some 43), (.indexAddr 1 (.t 39) (.t 41)), none, []⟩,
    ⟨(some 44), (.load none (.t 43)), none, []⟩,
    ⟨(some 7), (.mov (.t 44)), none, []⟩] none)
  (.seq (.seq (.region [⟨(some 45), (.mov (.t 7)), none, []⟩,
    ⟨(some 46), (.lenStr (.t 45)), none, []⟩,
    ⟨(some 47), (.mov (.t 5)), none, []⟩,
    ⟨(some 48), (.bin .sub (.c (.int .i64 9223372036854775807)) (.t 47)), none, []⟩,
    ⟨(some 49), (.bin .gtr (.t 46) (.t 48)), none, []⟩] none)
  (.cond (.t 49)
  (.region [⟨(some 50), (.makeIface 9 (.c (.string ⟨#[115, 116, 114, 105, 110, 103, 115, 58, 32, 74, 111, 105, 110, 32, 111, 117, 116, 112, 117, 116, 32, 108, 101, 110, 103, 116, 104, 32, 111, 118, 101, 114, 102, 108, 111, 119]⟩))), none, []⟩,
    ⟨none, .fail, none, []⟩] none)
  .skip))
  (.region [⟨(some 51), (.mov (.t 5)), none, []⟩,
    ⟨(some 52), (.mov (.t 7)), none, []⟩,
    ⟨(some 53), (.lenStr (.t 52)), none, []⟩,
    ⟨(some 54), (.bin .add (.t 51) (.t 53)), none, []⟩,
    ⟨(some 5), (.mov (.t 54)), none, []⟩] none))))
  (.region [⟨(some 55), (.bin .add (.t 41) (.c (.int .i64 1))), none, []⟩,
    ⟨(some 41), (.mov (.t 55)), none, []⟩] none))))
def F6L1 : ACode := (.seq (.region [⟨(some 66), (.bin .lss (.t 65) (.t 64)), none, []⟩] none)
  (.seq (.cond (.t 66)
  .skip
  (.exit 3))
  (.seq (.block 4 (.seq (.region [⟨(some 67), (.indexAddr 1 (.t 63) (.t 65)), none, []⟩,
    ⟨(some 68), (.load none (.t 67)), none, []⟩,
    ⟨(some 10), (.mov (.t 68)), none, []⟩] none)
  (.seq (.region [⟨(some 69), (.mov (.t 1)), none, []⟩,
    ⟨(some 70), (.call (.f 26) [(.t 8), (.t 69)]), none, []⟩] none)
  (.region [⟨(some 71), (.mov (.t 10)), none, []⟩,
    ⟨(some 72), (.call (.f 26) [(.t 8), (.t 71)]), none, []⟩] none))))
  (.region [⟨(some 73), (.bin .add (.t 65) (.c (.int .i64 1))), none, []⟩,
    ⟨(some 65), (.mov (.t 73)), none, []⟩] none))))
def B6 : ACode := (.seq (.region [⟨(some 4), (.mov (.c (.string ⟨#[]⟩))), none, []⟩] none)
  (.seq (.seq (.region [⟨(some 11), (.mov (.t 0)), none, []⟩,
    ⟨(some 12), (.lenSlice (.t 11)), none, []⟩] none)
  (.block 0 (.seq (.region [⟨(some 14), (.bin .eql (.t 12) (.c (.int .i64 0))), none, []⟩,
    ⟨(some 13), (.mov (.t 14)), none, []⟩] none)
  (.cond (.t 13)
  (.seq (.region [⟨(some 4), (.mov (.c (.string ⟨#[]⟩))), none, []⟩] none)
  .ret)
  (.seq (.region [⟨(some 16), (.bin .eql (.t 12) (.c (.int .i64 1))), none, []⟩,
    ⟨(some 15), (.mov (.t 16)), none, []⟩] none)
  (.cond (.t 15)
  (.seq (.region [⟨(some 17), (.mov (.t 0)), none, []⟩,
    ⟨(some 18), (.indexAddr 1 (.t 17) (.c (.int .i64 0))), none, []⟩,
    ⟨(some 19), (.load none (.t 18)), none, []⟩,
    ⟨(some 4), (.mov (.t 19)), none, []⟩] none)
  .ret)
  .skip))))))
  (.seq (.region [⟨(some 5), (.mov (.c (.int .i64 0))), none, []⟩] none)
  (.seq (.seq (.region [⟨(some 20), (.mov (.t 1)), none, []⟩,
    ⟨(some 21), (.lenStr (.t 20)), none, []⟩,
    ⟨(some 22), (.bin .gtr (.t 21) (.c (.int .i64 0))), none, []⟩] none)
  (.cond (.t 22)
  (.seq (.seq (.region [⟨(some 23), (.mov (.t 1)), none, []⟩,
    ⟨(some 24), (.lenStr (.t 23)), none, []⟩,
    ⟨(some 25), (.mov (.t 0)), none, []⟩,
    ⟨(some 26), (.lenSlice (.t 25)), none, []⟩,
    ⟨(some 27), (.bin .sub (.t 26) (.c (.int .i64 1))), none, []⟩,
    ⟨(some 28), (.bin .quo (.c (.int .i64 9223372036854775807)) (.t 27)), none, []⟩,
    ⟨(some 29), (.bin .geq (.t 24) (.t 28)), none, []⟩] none)
  (.cond (.t 29)
  (.region [⟨(some 30), (.makeIface 9 (.c (.string ⟨#[115, 116, 114, 105, 110, 103, 115, 58, 32, 74, 111, 105, 110, 32, 111, 117, 116, 112, 117, 116, 32, 108, 101, 110, 103, 116, 104, 32, 111, 118, 101, 114, 102, 108, 111, 119]⟩))), none, []⟩,
    ⟨none, .fail, none, []⟩] none)
  .skip))
  (.region [⟨(some 31), (.mov (.t 5)), none, []⟩,
    ⟨(some 32), (.mov (.t 1)), none, []⟩,
    ⟨(some 33), (.lenStr (.t 32)), none, []⟩,
    ⟨(some 34), (.mov (.t 0)), none, []⟩,
    ⟨(some 35), (.lenSlice (.t 34)), none, []⟩,
    ⟨(some 36), (.bin .sub (.t 35) (.c (.int .i64 1))), none, []⟩,
    ⟨(some 37), (.bin .mul (.t 33) (.t 36)), none, []⟩,
    ⟨(some 38), (.bin .add (.t 31) (.t 37)), none, []⟩,
    ⟨(some 5), (.mov (.t 38)), none, []⟩] none))
  .skip))
  (.seq (.seq (.region [⟨(some 39), (.mov (.t 0)), none, []⟩,
    ⟨(some 40), (.lenSlice (.t 39)), none, []⟩,
    ⟨(some 41), (.mov (.c (.int .i64 0))), none, []⟩] none)
  (.block 1 (.loop F6L0)))
  (.seq (.region [⟨(some 8), (.alloc 57 [(.pointer none), (.slice none 0 0)]), none, []⟩] none)
  (.seq (.region [⟨(some 56), (.mov (.t 5)), none, []⟩,
    ⟨(some 57), (.call (.f 25) [(.t 8), (.t 56)]), none, []⟩] none)
  (.seq (.region [⟨(some 58), (.mov (.t 0)), none, []⟩,
    ⟨(some 59), (.indexAddr 1 (.t 58) (.c (.int .i64 0))), none, []⟩,
    ⟨(some 60), (.load none (.t 59)), none, []⟩,
    ⟨(some 61), (.call (.f 26) [(.t 8), (.t 60)]), none, []⟩] none)
  (.seq (.seq (.region [⟨(some 62), (.mov (.t 0)), none, []⟩,
    ⟨(some 63), (.slice 1 (.t 62) (some (.c (.int .i64 1))) none none), none, []⟩,
    ⟨(some 64), (.lenSlice (.t 63)), none, []⟩,
    ⟨(some 65), (.mov (.c (.int .i64 0))), none, []⟩] none)
  (.block 3 (.loop F6L1)))
  (.seq (.region [⟨(some 74), (.call (.f 27) [(.t 8)]), none, []⟩,
    ⟨(some 4), (.mov (.t 74)), none, []⟩] none)
  .ret))))))))))
def F6 : AFunc := ⟨2, 75, [(.tmp 4)], B6⟩
-- F6L0 live: [0, 1, 5, 39, 40, 41]

-- F6L1 live: [1, 8, 63, 64, 65]
/-- strings.ContainsAny -/
def B7 : ACode := (.seq (.region [⟨(some 4), (.mov (.c (.bool false))), none, []⟩] none)
  (.seq (.region [⟨(some 5), (.mov (.t 0)), none, []⟩,
    ⟨(some 6), (.mov (.t 1)), none, []⟩,
    ⟨(some 7), (.call (.f 28) [(.t 5), (.t 6)]), none, []⟩,
    ⟨(some 8), (.bin .geq (.t 7) (.c (.int .i64 0))), none, []⟩,
    ⟨(some 4), (.mov (.t 8)), none, []⟩] none)
  .ret))
def F7 : AFunc := ⟨2, 9, [(.tmp 4)], B7⟩
def R8_0 : ACode := .region [⟨(some 16), (.mov (.t 0)), none, []⟩,
    ⟨(some 17), (.mov (.t 5)), none, []⟩,
    ⟨(some 18), (.indexAddr 1 (.t 16) (.t 17)), none, [0, 1]⟩,
    ⟨(some 19), (.load none (.t 18)), none, [2]⟩,
    ⟨(some 20), (.mov (.t 1)), none, []⟩,
    ⟨(some 21), (.mov (.t 5)), none, []⟩,
    ⟨(some 22), (.indexAddr 1 (.t 20) (.t 21)), none, [4, 5]⟩,
    ⟨(some 23), (.load none (.t 22)), none, [6]⟩,
    ⟨(some 24), (.bin .neq (.t 19) (.t 23)), none, [3, 7]⟩] (some [(0, 1), (0, 4), (1, 4), (2, 4), (3, 4), (0, 5), (1, 5), (2, 5), (3, 5), (4, 5), (0, 6), (1, 6), (2, 6), (3, 6), (0, 7), (1, 7), (2, 7), (3, 7)])
/-- slices.Equal[[]string,string] -/
def F8L0 : ACode := (.seq (.region [⟨(some 14), (.bin .lss (.t 13) (.t 12)), none, []⟩] none)
  (.seq (.cond (.t 14)
  .skip
  (.exit 0))
  (.seq (.block 1 (.seq (.region [⟨(some 15), (.mov (.t 13)), none, []⟩,
    ⟨(some 5), (.mov (.t 15)), none, []⟩] none)
  (.seq R8_0
  (.cond (.t 24)
  (.seq (.region [⟨(some 4), (.mov (.c (.bool false))), none, []⟩] none)
  .ret)
  .skip))))
  (.region [⟨(some 25), (.bin .add (.t 13) (.c (.int .i64 1))), none, []⟩,
    ⟨(some 13), (.mov (.t 25)), none, []⟩] none))))
def B8 : ACode := (.seq (.region [⟨(some 4), (.mov (.c (.bool false))), none, []⟩] none)
  (.seq (.seq (.region [⟨(some 6), (.mov (.t 0)), none, []⟩,
    ⟨(some 7), (.lenSlice (.t 6)), none, []⟩,
    ⟨(some 8), (.mov (.t 1)), none, []⟩,
    ⟨(some 9), (.lenSlice (.t 8)), none, []⟩,
    ⟨(some 10), (.bin .neq (.t 7) (.t 9)), none, []⟩] none)
  (.cond (.t 10)
  (.seq (.region [⟨(some 4), (.mov (.c (.bool false))), none, []⟩] none)
  .ret)
  .skip))
  (.seq (.seq (.region [⟨(some 11), (.mov (.t 0)), none, []⟩,
    ⟨(some 12), (.lenSlice (.t 11)), none, []⟩,
    ⟨(some 13), (.mov (.c (.int .i64 0))), none, []⟩] none)
  (.block 0 (.loop F8L0)))
  (.seq (.region [⟨(some 4), (.mov (.c (.bool true))), none, []⟩] none)
  .ret))))
def F8 : AFunc := ⟨2, 26, [(.tmp 4)], B8⟩
-- F8L0 live: [0, 1, 12, 13]
/-- toll/tolllaw15.wakes -/
def B9 : ACode := (.seq (.region [⟨(some 0), (.mov (.c (.bool false))), none, []⟩] none)
  (.seq (.region [⟨(some 11), (.call (.f 5) [(.c (.string ⟨#[32, 32, 112, 111, 114, 116, 32, 51, 9, 97, 99, 99, 101, 115, 115, 32, 49, 48, 32, 35, 32, 120]⟩))]), none, []⟩,
    ⟨(some 10), (.mov (.t 11)), none, []⟩,
    ⟨(some 12), (.extract (.t 10) 0), none, []⟩,
    ⟨(some 13), (.extract (.t 10) 1), none, []⟩,
    ⟨(some 1), (.mov (.t 12)), none, []⟩,
    ⟨(some 2), (.mov (.t 13)), none, []⟩] none)
  (.seq (.region [⟨(some 14), (.call (.f 10) [(.c (.string ⟨#[112, 111, 114, 116, 32, 57, 57]⟩))]), none, []⟩,
    ⟨(some 3), (.mov (.t 14)), none, []⟩] none)
  (.seq (.region [⟨(some 15), (.mov (.t 3)), none, []⟩,
    ⟨(some 16), (.call (.f 29) [(.t 15)]), none, []⟩,
    ⟨(some 17), (.bin .eql (.t 16) (.c (.string ⟨#[112, 111, 114, 116]⟩))), none, []⟩,
    ⟨(some 18), (.mov (.t 17)), none, []⟩,
    ⟨(some 19), (.mov (.t 3)), (some (18, true)), []⟩,
    ⟨(some 20), (.call (.f 30) [(.t 19), (.c (.int .i64 0)), (.c (.int .i64 15))]), (some (18, true)), []⟩,
    ⟨(some 21), (.bin .eql (.t 20) (.c (.int .i64 0))), (some (18, true)), []⟩,
    ⟨(some 22), (.pick (.t 18) (.t 21) (.c (.bool false))), none, []⟩,
    ⟨(some 23), (.mov (.t 22)), none, []⟩,
    ⟨(some 24), (.mov (.t 3)), (some (23, true)), []⟩,
    ⟨(some 25), (.call (.f 29) [(.t 24)]), (some (23, true)), []⟩,
    ⟨(some 26), (.bin .eql (.t 25) (.c (.string ⟨#[]⟩))), (some (23, true)), []⟩,
    ⟨(some 27), (.pick (.t 23) (.t 26) (.c (.bool false))), none, []⟩,
    ⟨(some 28), (.mov (.t 27)), none, []⟩,
    ⟨(some 29), (.mov (.t 3)), (some (28, true)), []⟩,
    ⟨(some 30), (.call (.f 18) [(.t 29)]), (some (28, true)), []⟩,
    ⟨(some 31), (.bin .eql (.t 30) (.c (.int .i64 24))), (some (28, true)), []⟩,
    ⟨(some 32), (.pick (.t 28) (.t 31) (.c (.bool false))), none, []⟩,
    ⟨(some 33), (.mov (.t 32)), none, []⟩,
    ⟨(some 34), (.mov (.t 3)), (some (33, true)), []⟩,
    ⟨(some 35), (.call (.f 31) [(.t 34)]), (some (33, true)), []⟩,
    ⟨(some 36), (.bin .eql (.t 35) (.c (.int .i64 2))), (some (33, true)), []⟩,
    ⟨(some 37), (.pick (.t 33) (.t 36) (.c (.bool false))), none, []⟩,
    ⟨(some 4), (.mov (.t 37)), none, []⟩] none)
  (.seq (.region [⟨(some 38), (.call (.f 10) [(.c (.string ⟨#[49, 48, 46, 48, 46, 48, 46, 48, 47, 56]⟩))]), none, []⟩,
    ⟨(some 39), (.call (.f 10) [(.c (.string ⟨#[49, 48, 46, 48, 46, 48, 46, 49, 47, 56]⟩))]), none, []⟩,
    ⟨(some 40), (.call (.f 10) [(.c (.string ⟨#[49, 48, 46, 48, 46, 48, 46, 50, 53, 54]⟩))]), none, []⟩,
    ⟨(some 5), (.mov (.t 38)), none, []⟩,
    ⟨(some 6), (.mov (.t 39)), none, []⟩,
    ⟨(some 7), (.mov (.t 40)), none, []⟩] none)
  (.seq (.region [⟨(some 42), (.mov (.t 5)), none, []⟩,
    ⟨(some 43), (.call (.f 15) [(.t 42)]), none, []⟩,
    ⟨(some 41), (.mov (.t 43)), none, []⟩,
    ⟨(some 44), (.extract (.t 41) 0), none, []⟩,
    ⟨(some 45), (.extract (.t 41) 1), none, []⟩,
    ⟨(some 8), (.mov (.t 44)), none, []⟩,
    ⟨(some 9), (.mov (.t 45)), none, []⟩] none)
  (.seq (.region [⟨(some 46), (.mov (.t 6)), none, []⟩,
    ⟨(some 47), (.call (.f 15) [(.t 46)]), none, []⟩] none)
  (.seq (.region [⟨(some 48), (.mov (.t 7)), none, []⟩,
    ⟨(some 49), (.call (.f 15) [(.t 48)]), none, []⟩] none)
  (.seq (.region [⟨(some 50), (.mov (.t 2)), none, []⟩,
    ⟨(some 51), (.bin .eql (.t 50) (.c (.int .i64 0))), none, []⟩,
    ⟨(some 52), (.mov (.t 51)), none, []⟩,
    ⟨(some 53), (.mov (.t 1)), (some (52, true)), []⟩,
    ⟨(some 54), (.buildSlice 9 1 4 [(.string ⟨#[]⟩)] [(0, 1, (.c (.string ⟨#[112, 111, 114, 116]⟩))), (1, 1, (.c (.string ⟨#[51]⟩))), (2, 1, (.c (.string ⟨#[97, 99, 99, 101, 115, 115]⟩))), (3, 1, (.c (.string ⟨#[49, 48]⟩)))]), (some (52, true)), []⟩,
    ⟨(some 55), (.call (.f 8) [(.t 53), (.t 54)]), (some (52, true)), []⟩,
    ⟨(some 56), (.pick (.t 52) (.t 55) (.c (.bool false))), none, []⟩,
    ⟨(some 57), (.mov (.t 56)), none, []⟩,
    ⟨(some 58), (.mov (.t 4)), (some (57, true)), []⟩,
    ⟨(some 59), (.pick (.t 57) (.t 58) (.c (.bool false))), none, []⟩,
    ⟨(some 60), (.mov (.t 59)), none, []⟩,
    ⟨(some 61), (.mov (.t 8)), (some (60, true)), []⟩,
    ⟨(some 62), (.bin .eql (.t 61) (.c (.int .u32 167772160))), (some (60, true)), []⟩,
    ⟨(some 63), (.pick (.t 60) (.t 62) (.c (.bool false))), none, []⟩,
    ⟨(some 64), (.mov (.t 63)), none, []⟩,
    ⟨(some 65), (.mov (.t 9)), (some (64, true)), []⟩,
    ⟨(some 66), (.bin .eql (.t 65) (.c (.int .i64 8))), (some (64, true)), []⟩,
    ⟨(some 67), (.pick (.t 64) (.t 66) (.c (.bool false))), none, []⟩,
    ⟨(some 68), (.mov (.t 67)), none, []⟩,
    ⟨(some 69), (.mov (.t 6)), (some (68, true)), []⟩,
    ⟨(some 70), (.call (.f 18) [(.t 69)]), (some (68, true)), []⟩,
    ⟨(some 71), (.bin .eql (.t 70) (.c (.int .i64 24))), (some (68, true)), []⟩,
    ⟨(some 72), (.pick (.t 68) (.t 71) (.c (.bool false))), none, []⟩,
    ⟨(some 73), (.mov (.t 72)), none, []⟩,
    ⟨(some 74), (.mov (.t 7)), (some (73, true)), []⟩,
    ⟨(some 75), (.call (.f 18) [(.t 74)]), (some (73, true)), []⟩,
    ⟨(some 76), (.bin .eql (.t 75) (.c (.int .i64 24))), (some (73, true)), []⟩,
    ⟨(some 77), (.pick (.t 73) (.t 76) (.c (.bool false))), none, []⟩,
    ⟨(some 0), (.mov (.t 77)), none, []⟩] none)
  .ret)))))))))
def F9 : AFunc := ⟨0, 78, [(.tmp 0)], B9⟩
/-- toll/words.New -/
def B10 : ACode := (.seq (.region [⟨(some 2), (.mov (.c (.pointer none))), none, []⟩] none)
  (.seq (.region [⟨(some 6), (.mov (.t 0)), none, []⟩,
    ⟨(some 7), (.call (.f 5) [(.t 6)]), none, []⟩,
    ⟨(some 5), (.mov (.t 7)), none, []⟩,
    ⟨(some 8), (.extract (.t 5) 0), none, []⟩,
    ⟨(some 9), (.extract (.t 5) 1), none, []⟩,
    ⟨(some 3), (.mov (.t 8)), none, []⟩,
    ⟨(some 4), (.mov (.t 9)), none, []⟩] none)
  (.seq (.region [⟨(some 10), (.mov (.t 3)), none, []⟩,
    ⟨(some 11), (.mov (.t 4)), none, []⟩,
    ⟨(some 12), (.build [(.slice none 0 0), (.int .i64 0), (.int .i64 0), (.bool false)] [(0, 1, (.t 10)), (2, 1, (.t 11)), (3, 1, (.c (.bool true)))]), none, []⟩,
    ⟨(some 13), (.box 68 (.t 12)), none, []⟩,
    ⟨(some 2), (.mov (.t 13)), none, []⟩] none)
  .ret)))
def F10 : AFunc := ⟨1, 14, [(.tmp 2)], B10⟩
/-- toll/words.IPText -/
def F11L0 : ACode := (.seq (.seq (.region [⟨(some 5), (.mov (.t 4)), none, []⟩,
    ⟨(some 6), (.bin .geq (.t 5) (.c (.int .i64 0))), none, []⟩] none)
  (.cond (.t 6)
  .skip
  (.exit 0)))
  (.seq (.block 1 (.region [⟨(some 9), (.mov (.t 3)), none, []⟩,
    ⟨(some 10), (.mov (.t 0)), none, []⟩,
    ⟨(some 11), (.mov (.t 4)), none, []⟩,
    ⟨(some 12), (.bin .mul (.c (.int .i64 8)) (.t 11)), none, []⟩,
    ⟨(some 13), (.bin .shr (.t 10) (.t 12)), none, []⟩,
    ⟨(some 14), (.bin .and (.t 13) (.c (.int .u32 255))), none, []⟩,
    ⟨(some 15), (.conv .i64 (.t 14)), none, []⟩,
    ⟨(some 16), (.call (.f 32) [(.t 15)]), none, []⟩,
    ⟨(some 17), (.buildSlice 9 1 1 [(.string ⟨#[]⟩)] [(0, 1, (.t 16))]), none, []⟩,
    ⟨(some 18), (.append 9 1 16 (.t 9) (.t 17)), none, []⟩,
    ⟨(some 3), (.mov (.t 18)), none, []⟩] none))
  (.region [⟨(some 7), (.mov (.t 4)), none, []⟩,
    ⟨(some 8), (.bin .sub (.t 7) (.c (.int .i64 1))), none, []⟩,
    ⟨(some 4), (.mov (.t 8)), none, []⟩] none)))
def B11 : ACode := (.seq (.region [⟨(some 2), (.mov (.c (.string ⟨#[]⟩))), none, []⟩] none)
  (.seq (.region [⟨(some 3), (.mov (.c (.slice none 0 0))), none, []⟩] none)
  (.seq (.seq (.region [⟨(some 4), (.mov (.c (.int .i64 3))), none, []⟩] none)
  (.block 0 (.loop F11L0)))
  (.seq (.region [⟨(some 19), (.mov (.t 3)), none, []⟩,
    ⟨(some 20), (.call (.f 6) [(.t 19), (.c (.string ⟨#[46]⟩))]), none, []⟩,
    ⟨(some 2), (.mov (.t 20)), none, []⟩] none)
  .ret))))
def F11 : AFunc := ⟨1, 21, [(.tmp 2)], B11⟩
-- F11L0 live: [0, 3, 4]
/-- toll/words.PrefixText -/
def B12 : ACode := (.seq (.region [⟨(some 4), (.mov (.c (.string ⟨#[]⟩))), none, []⟩] none)
  (.seq (.seq (.region [⟨(some 5), (.mov (.t 1)), none, []⟩,
    ⟨(some 6), (.bin .geq (.t 5) (.c (.int .i64 32))), none, []⟩] none)
  (.cond (.t 6)
  (.seq (.region [⟨(some 7), (.mov (.t 0)), none, []⟩,
    ⟨(some 8), (.call (.f 11) [(.t 7)]), none, []⟩,
    ⟨(some 4), (.mov (.t 8)), none, []⟩] none)
  .ret)
  .skip))
  (.seq (.region [⟨(some 9), (.mov (.t 1)), none, []⟩,
    ⟨(some 10), (.max [(.t 9), (.c (.int .i64 0))]), none, []⟩,
    ⟨(some 1), (.mov (.t 10)), none, []⟩] none)
  (.seq (.region [⟨(some 11), (.mov (.t 0)), none, []⟩,
    ⟨(some 12), (.mov (.t 1)), none, []⟩,
    ⟨(some 13), (.call (.f 33) [(.t 11), (.t 12)]), none, []⟩,
    ⟨(some 14), (.call (.f 11) [(.t 13)]), none, []⟩,
    ⟨(some 15), (.bin .add (.t 14) (.c (.string ⟨#[47]⟩))), none, []⟩,
    ⟨(some 16), (.mov (.t 1)), none, []⟩,
    ⟨(some 17), (.call (.f 32) [(.t 16)]), none, []⟩,
    ⟨(some 18), (.bin .add (.t 15) (.t 17)), none, []⟩,
    ⟨(some 4), (.mov (.t 18)), none, []⟩] none)
  .ret))))
def F12 : AFunc := ⟨2, 19, [(.tmp 4)], B12⟩
/-- toll/words.RangeText -/
def B13 : ACode := (.seq (.region [⟨(some 4), (.mov (.c (.string ⟨#[]⟩))), none, []⟩] none)
  (.seq (.seq (.region [⟨(some 5), (.mov (.t 1)), none, []⟩,
    ⟨(some 6), (.mov (.t 0)), none, []⟩,
    ⟨(some 7), (.bin .leq (.t 5) (.t 6)), none, []⟩] none)
  (.cond (.t 7)
  (.seq (.region [⟨(some 8), (.mov (.t 0)), none, []⟩,
    ⟨(some 9), (.call (.f 32) [(.t 8)]), none, []⟩,
    ⟨(some 4), (.mov (.t 9)), none, []⟩] none)
  .ret)
  .skip))
  (.seq (.region [⟨(some 10), (.mov (.t 0)), none, []⟩,
    ⟨(some 11), (.call (.f 32) [(.t 10)]), none, []⟩,
    ⟨(some 12), (.bin .add (.t 11) (.c (.string ⟨#[45]⟩))), none, []⟩,
    ⟨(some 13), (.mov (.t 1)), none, []⟩,
    ⟨(some 14), (.call (.f 32) [(.t 13)]), none, []⟩,
    ⟨(some 15), (.bin .add (.t 12) (.t 14)), none, []⟩,
    ⟨(some 4), (.mov (.t 15)), none, []⟩] none)
  .ret)))
def F13 : AFunc := ⟨2, 16, [(.tmp 4)], B13⟩
/-- (*toll/words.Row).IP -/
def B14 : ACode := (.seq (.region [⟨(some 2), (.mov (.c (.int .u32 0))), none, []⟩] none)
  (.seq (.region [⟨(some 6), (.mov (.t 0)), none, []⟩,
    ⟨(some 7), (.call (.f 29) [(.t 6)]), none, []⟩,
    ⟨(some 8), (.call (.f 34) [(.t 7)]), none, []⟩,
    ⟨(some 5), (.mov (.t 8)), none, []⟩,
    ⟨(some 9), (.extract (.t 5) 0), none, []⟩,
    ⟨(some 10), (.extract (.t 5) 1), none, []⟩,
    ⟨(some 3), (.mov (.t 9)), none, []⟩,
    ⟨(some 4), (.mov (.t 10)), none, []⟩] none)
  (.seq (.region [⟨(some 11), (.mov (.t 0)), none, []⟩,
    ⟨(some 12), (.mov (.t 4)), none, []⟩,
    ⟨(some 13), (.call (.f 35) [(.t 11), (.t 12)]), none, []⟩] none)
  (.seq (.seq (.region [⟨(some 14), (.mov (.t 0)), none, []⟩,
    ⟨(some 15), (.call (.f 18) [(.t 14)]), none, []⟩,
    ⟨(some 16), (.bin .neq (.t 15) (.c (.int .i64 0))), none, []⟩] none)
  (.cond (.t 16)
  (.seq (.region [⟨(some 2), (.mov (.c (.int .u32 0))), none, []⟩] none)
  .ret)
  .skip))
  (.seq (.region [⟨(some 17), (.mov (.t 3)), none, []⟩,
    ⟨(some 2), (.mov (.t 17)), none, []⟩] none)
  .ret)))))
def F14 : AFunc := ⟨1, 18, [(.tmp 2)], B14⟩
/-- (*toll/words.Row).Prefix -/
def B15 : ACode := (.seq (.region [⟨(some 2), (.mov (.c (.int .u32 0))), none, []⟩,
    ⟨(some 3), (.mov (.c (.int .i64 0))), none, []⟩] none)
  (.seq (.region [⟨(some 12), (.mov (.t 0)), none, []⟩,
    ⟨(some 13), (.call (.f 29) [(.t 12)]), none, []⟩,
    ⟨(some 14), (.call (.f 21) [(.t 13), (.c (.string ⟨#[47]⟩))]), none, []⟩,
    ⟨(some 11), (.mov (.t 14)), none, []⟩,
    ⟨(some 15), (.extract (.t 11) 0), none, []⟩,
    ⟨(some 16), (.extract (.t 11) 1), none, []⟩,
    ⟨(some 17), (.extract (.t 11) 2), none, []⟩,
    ⟨(some 4), (.mov (.t 15)), none, []⟩,
    ⟨(some 5), (.mov (.t 16)), none, []⟩,
    ⟨(some 6), (.mov (.t 17)), none, []⟩] none)
  (.seq (.region [⟨(some 19), (.mov (.t 4)), none, []⟩,
    ⟨(some 20), (.call (.f 34) [(.t 19)]), none, []⟩,
    ⟨(some 18), (.mov (.t 20)), none, []⟩,
    ⟨(some 21), (.extract (.t 18) 0), none, []⟩,
    ⟨(some 22), (.extract (.t 18) 1), none, []⟩,
    ⟨(some 7), (.mov (.t 21)), none, []⟩,
    ⟨(some 8), (.mov (.t 22)), none, []⟩] none)
  (.seq (.region [⟨(some 9), (.mov (.c (.int .i64 32))), none, []⟩,
    ⟨(some 10), (.mov (.c (.bool true))), none, []⟩] none)
  (.seq (.seq (.region [⟨(some 23), (.mov (.t 6)), none, []⟩] none)
  (.cond (.t 23)
  (.region [⟨(some 25), (.mov (.t 5)), none, []⟩,
    ⟨(some 26), (.call (.f 36) [(.t 25)]), none, []⟩,
    ⟨(some 24), (.mov (.t 26)), none, []⟩,
    ⟨(some 27), (.extract (.t 24) 0), none, []⟩,
    ⟨(some 28), (.extract (.t 24) 1), none, []⟩,
    ⟨(some 9), (.mov (.t 27)), none, []⟩,
    ⟨(some 10), (.mov (.t 28)), none, []⟩] none)
  .skip))
  (.seq (.seq (.region [⟨(some 29), (.mov (.t 8)), none, []⟩,
    ⟨(some 30), (.bin .eql (.t 29) (.c (.int .i64 5))), none, []⟩,
    ⟨(some 31), (.mov (.t 30)), none, []⟩,
    ⟨(some 32), (.mov (.t 10)), (some (31, false)), []⟩,
    ⟨(some 33), (.un .not (.t 32)), (some (31, false)), []⟩,
    ⟨(some 34), (.pick (.t 31) (.c (.bool true)) (.t 33)), none, []⟩] none)
  (.cond (.t 34)
  (.region [⟨(some 8), (.mov (.c (.int .i64 5))), none, []⟩] none)
  (.seq (.region [⟨(some 35), (.mov (.t 8)), none, []⟩,
    ⟨(some 36), (.bin .eql (.t 35) (.c (.int .i64 0))), none, []⟩,
    ⟨(some 37), (.mov (.t 36)), none, []⟩,
    ⟨(some 38), (.mov (.t 9)), (some (37, true)), []⟩,
    ⟨(some 39), (.bin .gtr (.t 38) (.c (.int .i64 32))), (some (37, true)), []⟩,
    ⟨(some 40), (.mov (.t 39)), (some (37, true)), []⟩,
    ⟨(some 41), (.mov (.t 7)), (some (40, false)), []⟩,
    ⟨(some 42), (.mov (.t 9)), (some (40, false)), []⟩,
    ⟨(some 43), (.call (.f 33) [(.t 41), (.t 42)]), (some (40, false)), []⟩,
    ⟨(some 44), (.mov (.t 7)), (some (40, false)), []⟩,
    ⟨(some 45), (.bin .neq (.t 43) (.t 44)), (some (40, false)), []⟩,
    ⟨(some 46), (.pick (.t 40) (.c (.bool true)) (.t 45)), (some (37, true)), []⟩,
    ⟨(some 47), (.pick (.t 37) (.t 46) (.c (.bool false))), none, []⟩] none)
  (.cond (.t 47)
  (.region [⟨(some 8), (.mov (.c (.int .i64 24))), none, []⟩] none)
  .skip))))
  (.seq (.region [⟨(some 48), (.mov (.t 0)), none, []⟩,
    ⟨(some 49), (.mov (.t 8)), none, []⟩,
    ⟨(some 50), (.call (.f 35) [(.t 48), (.t 49)]), none, []⟩] none)
  (.seq (.seq (.region [⟨(some 51), (.mov (.t 0)), none, []⟩,
    ⟨(some 52), (.call (.f 18) [(.t 51)]), none, []⟩,
    ⟨(some 53), (.bin .neq (.t 52) (.c (.int .i64 0))), none, []⟩] none)
  (.cond (.t 53)
  (.seq (.region [⟨(some 2), (.mov (.c (.int .u32 0))), none, []⟩,
    ⟨(some 3), (.mov (.c (.int .i64 0))), none, []⟩] none)
  .ret)
  .skip))
  (.seq (.region [⟨(some 54), (.mov (.t 7)), none, []⟩,
    ⟨(some 55), (.mov (.t 9)), none, []⟩,
    ⟨(some 2), (.mov (.t 54)), none, []⟩,
    ⟨(some 3), (.mov (.t 55)), none, []⟩] none)
  .ret)))))))))
def F15 : AFunc := ⟨1, 56, [(.tmp 2), (.tmp 3)], B15⟩
/-- (*toll/words.Row).Range -/
def B16 : ACode := (.seq (.region [⟨(some 6), (.mov (.c (.int .i64 0))), none, []⟩,
    ⟨(some 7), (.mov (.c (.int .i64 0))), none, []⟩] none)
  (.seq (.region [⟨(some 16), (.mov (.t 0)), none, []⟩,
    ⟨(some 17), (.call (.f 29) [(.t 16)]), none, []⟩,
    ⟨(some 18), (.call (.f 21) [(.t 17), (.c (.string ⟨#[45]⟩))]), none, []⟩,
    ⟨(some 15), (.mov (.t 18)), none, []⟩,
    ⟨(some 19), (.extract (.t 15) 0), none, []⟩,
    ⟨(some 20), (.extract (.t 15) 1), none, []⟩,
    ⟨(some 21), (.extract (.t 15) 2), none, []⟩,
    ⟨(some 8), (.mov (.t 19)), none, []⟩,
    ⟨(some 9), (.mov (.t 20)), none, []⟩,
    ⟨(some 10), (.mov (.t 21)), none, []⟩] none)
  (.seq (.region [⟨(some 23), (.mov (.t 8)), none, []⟩,
    ⟨(some 24), (.call (.f 36) [(.t 23)]), none, []⟩,
    ⟨(some 22), (.mov (.t 24)), none, []⟩,
    ⟨(some 25), (.extract (.t 22) 0), none, []⟩,
    ⟨(some 26), (.extract (.t 22) 1), none, []⟩,
    ⟨(some 11), (.mov (.t 25)), none, []⟩,
    ⟨(some 12), (.mov (.t 26)), none, []⟩] none)
  (.seq (.region [⟨(some 27), (.mov (.t 11)), none, []⟩,
    ⟨(some 28), (.mov (.t 12)), none, []⟩,
    ⟨(some 13), (.mov (.t 27)), none, []⟩,
    ⟨(some 14), (.mov (.t 28)), none, []⟩] none)
  (.seq (.seq (.region [⟨(some 29), (.mov (.t 10)), none, []⟩] none)
  (.cond (.t 29)
  (.region [⟨(some 31), (.mov (.t 9)), none, []⟩,
    ⟨(some 32), (.call (.f 36) [(.t 31)]), none, []⟩,
    ⟨(some 30), (.mov (.t 32)), none, []⟩,
    ⟨(some 33), (.extract (.t 30) 0), none, []⟩,
    ⟨(some 34), (.extract (.t 30) 1), none, []⟩,
    ⟨(some 13), (.mov (.t 33)), none, []⟩,
    ⟨(some 14), (.mov (.t 34)), none, []⟩] none)
  .skip))
  (.seq (.seq (.region [⟨(some 35), (.mov (.t 0)), none, []⟩,
    ⟨(some 36), (.mov (.t 12)), none, []⟩,
    ⟨(some 37), (.mov (.t 36)), none, []⟩,
    ⟨(some 38), (.mov (.t 14)), (some (37, true)), []⟩,
    ⟨(some 39), (.pick (.t 37) (.t 38) (.c (.bool false))), none, []⟩,
    ⟨(some 40), (.call (.f 37) [(.t 35), (.t 39), (.c (.int .i64 5))]), none, []⟩,
    ⟨(some 41), (.un .not (.t 40)), none, []⟩,
    ⟨(some 42), (.mov (.t 41)), none, []⟩,
    ⟨(some 43), (.mov (.t 0)), (some (42, false)), []⟩,
    ⟨(some 44), (.mov (.t 11)), (some (42, false)), []⟩,
    ⟨(some 45), (.mov (.t 1)), (some (42, false)), []⟩,
    ⟨(some 46), (.bin .geq (.t 44) (.t 45)), (some (42, false)), []⟩,
    ⟨(some 47), (.mov (.t 46)), (some (42, false)), []⟩,
    ⟨(some 48), (.mov (.t 11)), (some (47, true)), []⟩,
    ⟨(some 49), (.mov (.t 13)), (some (47, true)), []⟩,
    ⟨(some 50), (.bin .leq (.t 48) (.t 49)), (some (47, true)), []⟩,
    ⟨(some 51), (.pick (.t 47) (.t 50) (.c (.bool false))), (some (42, false)), []⟩,
    ⟨(some 52), (.mov (.t 51)), (some (42, false)), []⟩,
    ⟨(some 53), (.mov (.t 13)), (some (52, true)), []⟩,
    ⟨(some 54), (.mov (.t 2)), (some (52, true)), []⟩,
    ⟨(some 55), (.bin .leq (.t 53) (.t 54)), (some (52, true)), []⟩,
    ⟨(some 56), (.pick (.t 52) (.t 55) (.c (.bool false))), (some (42, false)), []⟩,
    ⟨(some 57), (.call (.f 37) [(.t 43), (.t 56), (.c (.int .i64 24))]), (some (42, false)), []⟩,
    ⟨(some 58), (.un .not (.t 57)), (some (42, false)), []⟩,
    ⟨(some 59), (.pick (.t 42) (.c (.bool true)) (.t 58)), none, []⟩] none)
  (.cond (.t 59)
  (.seq (.region [⟨(some 6), (.mov (.c (.int .i64 0))), none, []⟩,
    ⟨(some 7), (.mov (.c (.int .i64 0))), none, []⟩] none)
  .ret)
  .skip))
  (.seq (.region [⟨(some 60), (.mov (.t 11)), none, []⟩,
    ⟨(some 61), (.mov (.t 13)), none, []⟩,
    ⟨(some 6), (.mov (.t 60)), none, []⟩,
    ⟨(some 7), (.mov (.t 61)), none, []⟩] none)
  .ret)))))))
def F16 : AFunc := ⟨3, 62, [(.tmp 6), (.tmp 7)], B16⟩
/-- (*toll/words.Row).End -/
def B17 : ACode := (.seq (.region [⟨(some 2), (.mov (.c (.int .i64 0))), none, []⟩] none)
  (.seq (.seq (.region [⟨(some 3), (.mov (.t 0)), none, []⟩,
    ⟨(some 4), (.call (.f 38) [(.t 3)]), none, []⟩] none)
  (.cond (.t 4)
  (.seq (.region [⟨(some 2), (.mov (.c (.int .i64 5))), none, []⟩] none)
  .ret)
  .skip))
  (.seq (.region [⟨(some 5), (.mov (.t 0)), none, []⟩,
    ⟨(some 6), (.call (.f 18) [(.t 5)]), none, []⟩,
    ⟨(some 2), (.mov (.t 6)), none, []⟩] none)
  .ret)))
def F17 : AFunc := ⟨1, 7, [(.tmp 2)], B17⟩
/-- (*toll/words.Row).Err -/
def B18 : ACode := (.seq (.region [⟨(some 2), (.mov (.c (.int .i64 0))), none, []⟩] none)
  (.seq (.seq (.region [⟨(some 3), (.mov (.t 0)), none, []⟩,
    ⟨(some 4), (.eqv false .ptr false (.t 3) (.c (.pointer none))), none, []⟩,
    ⟨(some 5), (.mov (.t 4)), none, []⟩,
    ⟨(some 6), (.mov (.t 0)), (some (5, false)), []⟩,
    ⟨(some 7), (.nilCheck (.t 6)), (some (5, false)), []⟩,
    ⟨(some 8), (.fieldAddr 3 (.t 7)), (some (5, false)), []⟩,
    ⟨(some 9), (.load none (.t 8)), (some (5, false)), []⟩,
    ⟨(some 10), (.un .not (.t 9)), (some (5, false)), []⟩,
    ⟨(some 11), (.pick (.t 5) (.c (.bool true)) (.t 10)), none, []⟩] none)
  (.cond (.t 11)
  (.seq (.region [⟨(some 2), (.mov (.c (.int .i64 2))), none, []⟩] none)
  .ret)
  .skip))
  (.seq (.region [⟨(some 12), (.mov (.t 0)), none, []⟩,
    ⟨(some 13), (.nilCheck (.t 12)), none, []⟩,
    ⟨(some 14), (.fieldAddr 2 (.t 13)), none, []⟩,
    ⟨(some 15), (.load none (.t 14)), none, []⟩,
    ⟨(some 2), (.mov (.t 15)), none, []⟩] none)
  .ret)))
def F18 : AFunc := ⟨1, 16, [(.tmp 2)], B18⟩
/-- toll/words.Split$1 -/
def B19 : ACode := (.seq (.region [⟨(some 2), (.mov (.c (.bool false))), none, []⟩] none)
  (.seq (.region [⟨(some 3), (.mov (.t 0)), none, []⟩,
    ⟨(some 4), (.bin .lss (.t 3) (.c (.int .u8 32))), none, []⟩,
    ⟨(some 5), (.mov (.t 4)), none, []⟩,
    ⟨(some 6), (.mov (.t 0)), (some (5, false)), []⟩,
    ⟨(some 7), (.bin .gtr (.t 6) (.c (.int .u8 126))), (some (5, false)), []⟩,
    ⟨(some 8), (.pick (.t 5) (.c (.bool true)) (.t 7)), none, []⟩,
    ⟨(some 9), (.mov (.t 8)), none, []⟩,
    ⟨(some 10), (.mov (.t 0)), (some (9, true)), []⟩,
    ⟨(some 11), (.bin .neq (.t 10) (.c (.int .u8 9))), (some (9, true)), []⟩,
    ⟨(some 12), (.pick (.t 9) (.t 11) (.c (.bool false))), none, []⟩,
    ⟨(some 2), (.mov (.t 12)), none, []⟩] none)
  .ret))
def F19 : AFunc := ⟨1, 13, [(.tmp 2)], B19⟩
/-- slices.ContainsFunc[[]byte,byte] -/
def B20 : ACode := (.seq (.region [⟨(some 4), (.mov (.c (.bool false))), none, []⟩] none)
  (.seq (.region [⟨(some 5), (.mov (.t 0)), none, []⟩,
    ⟨(some 6), (.mov (.t 1)), none, []⟩,
    ⟨(some 7), (.call (.f 39) [(.t 5), (.t 6)]), none, []⟩,
    ⟨(some 8), (.bin .geq (.t 7) (.c (.int .i64 0))), none, []⟩,
    ⟨(some 4), (.mov (.t 8)), none, []⟩] none)
  .ret))
def F20 : AFunc := ⟨2, 9, [(.tmp 4)], B20⟩
/-- strings.Cut -/
def B21 : ACode := (.seq (.region [⟨(some 4), (.mov (.c (.string ⟨#[]⟩))), none, []⟩,
    ⟨(some 5), (.mov (.c (.string ⟨#[]⟩))), none, []⟩,
    ⟨(some 6), (.mov (.c (.bool false))), none, []⟩] none)
  (.seq (.region [⟨(some 7), (.mov (.t 0)), none, []⟩,
    ⟨(some 8), (.mov (.t 1)), none, []⟩,
    ⟨(some 9), (.call (.f 40) [(.t 7), (.t 8)]), none, []⟩,
    ⟨(some 10), (.extract (.t 9) 0), none, []⟩,
    ⟨(some 11), (.extract (.t 9) 1), none, []⟩,
    ⟨(some 12), (.extract (.t 9) 2), none, []⟩,
    ⟨(some 4), (.mov (.t 10)), none, []⟩,
    ⟨(some 5), (.mov (.t 11)), none, []⟩,
    ⟨(some 6), (.mov (.t 12)), none, []⟩] none)
  .ret))
def F21 : AFunc := ⟨2, 13, [(.tmp 4), (.tmp 5), (.tmp 6)], B21⟩
/-- strings.FieldsFunc -/
def F22L0 : ACode := (.seq (.region [⟨(some 15), (.nextStr (.t 14)), none, []⟩,
    ⟨(some 16), (.extract (.t 15) 0), none, []⟩] none)
  (.seq (.cond (.t 16)
  .skip
  (.exit 0))
  (.block 1 (.seq (.region [⟨(some 17), (.extract (.t 15) 1), none, []⟩,
    ⟨(some 18), (.extract (.t 15) 2), none, []⟩,
    ⟨(some 7), (.mov (.t 17)), none, []⟩,
    ⟨(some 8), (.mov (.t 18)), none, []⟩] none)
  (.seq (.region [⟨(some 19), (.mov (.t 1)), none, []⟩,
    ⟨(some 20), (.mov (.t 8)), none, []⟩,
    ⟨(some 21), (.call (.t 19) [(.t 20)]), none, []⟩] none)
  (.cond (.t 21)
  (.seq (.region [⟨(some 22), (.mov (.t 6)), none, []⟩,
    ⟨(some 23), (.bin .geq (.t 22) (.c (.int .i64 0))), none, []⟩] none)
  (.cond (.t 23)
  (.seq (.region [⟨(some 24), (.mov (.t 5)), none, []⟩,
    ⟨(some 25), (.mov (.t 6)), none, []⟩,
    ⟨(some 26), (.mov (.t 7)), none, []⟩,
    ⟨(some 27), (.build [(.int .i64 0), (.int .i64 0)] [(0, 1, (.t 25)), (1, 1, (.t 26))]), none, []⟩,
    ⟨(some 28), (.buildSlice 80 2 1 [(.int .i64 0), (.int .i64 0)] [(0, 2, (.t 27))]), none, []⟩,
    ⟨(some 29), (.append 80 2 16 (.t 24) (.t 28)), none, []⟩,
    ⟨(some 5), (.mov (.t 29)), none, []⟩] none)
  (.region [⟨(some 30), (.mov (.t 6)), none, []⟩,
    ⟨(some 31), (.un .xor (.t 30)), none, []⟩,
    ⟨(some 6), (.mov (.t 31)), none, []⟩] none))
  .skip))
  (.seq (.region [⟨(some 32), (.mov (.t 6)), none, []⟩,
    ⟨(some 33), (.bin .lss (.t 32) (.c (.int .i64 0))), none, []⟩] none)
  (.cond (.t 33)
  (.region [⟨(some 34), (.mov (.t 7)), none, []⟩,
    ⟨(some 6), (.mov (.t 34)), none, []⟩] none)
  .skip))))))))
def F22L1 : ACode := (.seq (.region [⟨(some 50), (.bin .lss (.t 49) (.t 48)), none, []⟩] none)
  (.seq (.cond (.t 50)
  .skip
  (.exit 2))
  (.seq (.block 3 (.seq (.region [⟨(some 51), (.mov (.t 49)), none, []⟩,
    ⟨(some 52), (.indexAddr 2 (.t 47) (.t 49)), none, []⟩,
    ⟨(some 53), (.load (some 2) (.t 52)), none, []⟩,
    ⟨(some 11), (.alloc 80 [(.int .i64 0), (.int .i64 0)]), none, []⟩,
    ⟨(some 10), (.mov (.t 51)), none, []⟩,
    ⟨none, (.store 2 (.t 11) (.t 53)), none, []⟩] none)
  (.region [⟨(some 54), (.mov (.t 9)), none, []⟩,
    ⟨(some 55), (.mov (.t 10)), none, []⟩,
    ⟨(some 56), (.mov (.t 0)), none, []⟩,
    ⟨(some 57), (.fieldAddr 0 (.t 11)), none, []⟩,
    ⟨(some 58), (.load none (.t 57)), none, []⟩,
    ⟨(some 59), (.fieldAddr 1 (.t 11)), none, []⟩,
    ⟨(some 60), (.load none (.t 59)), none, []⟩,
    ⟨(some 61), (.sliceStr (.t 56) (some (.t 58)) (some (.t 60))), none, []⟩,
    ⟨(some 62), (.indexAddr 1 (.t 54) (.t 55)), none, []⟩,
    ⟨none, (.store 1 (.t 62) (.t 61)), none, []⟩] none)))
  (.region [⟨(some 63), (.bin .add (.t 49) (.c (.int .i64 1))), none, []⟩,
    ⟨(some 49), (.mov (.t 63)), none, []⟩] none))))
def B22 : ACode := (.seq (.region [⟨(some 4), (.mov (.c (.slice none 0 0))), none, []⟩] none)
  (.seq (.region [⟨(some 12), (.makeSlice 80 2 16 [(.int .i64 0), (.int .i64 0)] (.c (.int .i64 0)) (.c (.int .i64 32))), none, []⟩,
    ⟨(some 5), (.mov (.t 12)), none, []⟩] none)
  (.seq (.region [⟨(some 6), (.mov (.c (.int .i64 (-1)))), none, []⟩] none)
  (.seq (.seq (.region [⟨(some 13), (.mov (.t 0)), none, []⟩,
    ⟨(some 14), (.rangeStr (.t 13)), none, []⟩] none)
  (.block 0 (.loop F22L0)))
  (.seq (.seq (.region [⟨(some 35), (.mov (.t 6)), none, []⟩,
    ⟨(some 36), (.bin .geq (.t 35) (.c (.int .i64 0))), none, []⟩] none)
  (.cond (.t 36)
  (.region [⟨(some 37), (.mov (.t 5)), none, []⟩,
    ⟨(some 38), (.mov (.t 6)), none, []⟩,
    ⟨(some 39), (.mov (.t 0)), none, []⟩,
    ⟨(some 40), (.lenStr (.t 39)), none, []⟩,
    ⟨(some 41), (.build [(.int .i64 0), (.int .i64 0)] [(0, 1, (.t 38)), (1, 1, (.t 40))]), none, []⟩,
    ⟨(some 42), (.buildSlice 80 2 1 [(.int .i64 0), (.int .i64 0)] [(0, 2, (.t 41))]), none, []⟩,
    ⟨(some 43), (.append 80 2 16 (.t 37) (.t 42)), none, []⟩,
    ⟨(some 5), (.mov (.t 43)), none, []⟩] none)
  .skip))
  (.seq (.region [⟨(some 44), (.mov (.t 5)), none, []⟩,
    ⟨(some 45), (.lenSlice (.t 44)), none, []⟩,
    ⟨(some 46), (.makeSlice 9 1 16 [(.string ⟨#[]⟩)] (.t 45) (.t 45)), none, []⟩,
    ⟨(some 9), (.mov (.t 46)), none, []⟩] none)
  (.seq (.seq (.region [⟨(some 47), (.mov (.t 5)), none, []⟩,
    ⟨(some 48), (.lenSlice (.t 47)), none, []⟩,
    ⟨(some 49), (.mov (.c (.int .i64 0))), none, []⟩] none)
  (.block 2 (.loop F22L1)))
  (.seq (.region [⟨(some 64), (.mov (.t 9)), none, []⟩,
    ⟨(some 4), (.mov (.t 64)), none, []⟩] none)
  .ret))))))))
def F22 : AFunc := ⟨2, 65, [(.tmp 4)], B22⟩
-- F22L0 live: [0, 1, 5, 6, 14]

-- F22L1 live: [0, 9, 47, 48, 49]
/-- toll/words.Split$2 -/
def B23 : ACode := (.seq (.region [⟨(some 2), (.mov (.c (.bool false))), none, []⟩] none)
  (.seq (.region [⟨(some 3), (.mov (.t 0)), none, []⟩,
    ⟨(some 4), (.call (.f 24) [(.c (.string ⟨#[32, 9]⟩)), (.t 3)]), none, []⟩,
    ⟨(some 2), (.mov (.t 4)), none, []⟩] none)
  .ret))
def F23 : AFunc := ⟨1, 5, [(.tmp 2)], B23⟩
/-- strings.ContainsRune -/
def B24 : ACode := (.seq (.region [⟨(some 4), (.mov (.c (.bool false))), none, []⟩] none)
  (.seq (.region [⟨(some 5), (.mov (.t 0)), none, []⟩,
    ⟨(some 6), (.mov (.t 1)), none, []⟩,
    ⟨(some 7), (.call (.f 41) [(.t 5), (.t 6)]), none, []⟩,
    ⟨(some 8), (.bin .geq (.t 7) (.c (.int .i64 0))), none, []⟩,
    ⟨(some 4), (.mov (.t 8)), none, []⟩] none)
  .ret))
def F24 : AFunc := ⟨2, 9, [(.tmp 4)], B24⟩
def R25_0 : ACode := .region [⟨(some 9), (.mov (.t 0)), none, []⟩,
    ⟨(some 10), (.nilCheck (.t 9)), none, [0]⟩,
    ⟨(some 11), (.fieldAddr 1 (.t 10)), none, [1]⟩,
    ⟨(some 12), (.load none (.t 11)), none, [2]⟩,
    ⟨(some 13), (.cap (.t 12)), none, [3]⟩,
    ⟨(some 14), (.mov (.t 0)), none, []⟩,
    ⟨(some 15), (.nilCheck (.t 14)), none, [5]⟩,
    ⟨(some 16), (.fieldAddr 1 (.t 15)), none, [6]⟩,
    ⟨(some 17), (.load none (.t 16)), none, [7]⟩,
    ⟨(some 18), (.lenSlice (.t 17)), none, [8]⟩,
    ⟨(some 19), (.bin .sub (.t 13) (.t 18)), none, [4, 9]⟩,
    ⟨(some 20), (.mov (.t 1)), none, []⟩,
    ⟨(some 21), (.bin .lss (.t 19) (.t 20)), none, [10, 11]⟩] (some [(0, 5), (1, 5), (2, 5), (3, 5), (4, 5), (0, 6), (1, 6), (2, 6), (3, 6), (4, 6), (0, 7), (1, 7), (2, 7), (3, 7), (4, 7), (0, 8), (1, 8), (2, 8), (3, 8), (4, 8), (0, 9), (1, 9), (2, 9), (3, 9), (4, 9), (0, 11), (1, 11), (2, 11), (3, 11), (4, 11), (5, 11), (6, 11), (7, 11), (8, 11), (9, 11), (10, 11)])
/-- (*strings.Builder).Grow -/
def B25 : ACode := (.seq (.region [⟨(some 4), (.mov (.t 0)), none, []⟩,
    ⟨(some 5), (.call (.f 42) [(.t 4)]), none, []⟩] none)
  (.seq (.seq (.region [⟨(some 6), (.mov (.t 1)), none, []⟩,
    ⟨(some 7), (.bin .lss (.t 6) (.c (.int .i64 0))), none, []⟩] none)
  (.cond (.t 7)
  (.region [⟨(some 8), (.makeIface 9 (.c (.string ⟨#[115, 116, 114, 105, 110, 103, 115, 46, 66, 117, 105, 108, 100, 101, 114, 46, 71, 114, 111, 119, 58, 32, 110, 101, 103, 97, 116, 105, 118, 101, 32, 99, 111, 117, 110, 116]⟩))), none, []⟩,
    ⟨none, .fail, none, []⟩] none)
  .skip))
  (.seq R25_0
  (.cond (.t 21)
  (.region [⟨(some 22), (.mov (.t 0)), none, []⟩,
    ⟨(some 23), (.mov (.t 1)), none, []⟩,
    ⟨(some 24), (.call (.f 43) [(.t 22), (.t 23)]), none, []⟩] none)
  .skip))))
def F25 : AFunc := ⟨2, 25, [], B25⟩
/-- (*strings.Builder).WriteString -/
def B26 : ACode := (.seq (.region [⟨(some 4), (.mov (.c (.int .i64 0))), none, []⟩,
    ⟨(some 5), (.mov (.c .nilIface)), none, []⟩] none)
  (.seq (.region [⟨(some 6), (.mov (.t 0)), none, []⟩,
    ⟨(some 7), (.call (.f 42) [(.t 6)]), none, []⟩] none)
  (.seq (.region [⟨(some 8), (.mov (.t 0)), none, []⟩,
    ⟨(some 9), (.mov (.t 0)), none, []⟩,
    ⟨(some 10), (.nilCheck (.t 9)), none, []⟩,
    ⟨(some 11), (.fieldAddr 1 (.t 10)), none, []⟩,
    ⟨(some 12), (.load none (.t 11)), none, []⟩,
    ⟨(some 13), (.mov (.t 1)), none, []⟩,
    ⟨(some 14), (.append 5 1 1 (.t 12) (.t 13)), none, []⟩,
    ⟨(some 15), (.nilCheck (.t 8)), none, []⟩,
    ⟨(some 16), (.fieldAddr 1 (.t 15)), none, []⟩,
    ⟨none, (.store 1 (.t 16) (.t 14)), none, []⟩] none)
  (.seq (.region [⟨(some 17), (.mov (.t 1)), none, []⟩,
    ⟨(some 18), (.lenStr (.t 17)), none, []⟩,
    ⟨(some 4), (.mov (.t 18)), none, []⟩,
    ⟨(some 5), (.mov (.c .nilIface)), none, []⟩] none)
  .ret))))
def F26 : AFunc := ⟨2, 19, [(.tmp 4), (.tmp 5)], B26⟩
def R27_0 : ACode := .region [⟨(some 3), (.mov (.t 0)), none, []⟩,
    ⟨(some 4), (.nilCheck (.t 3)), none, [0]⟩,
    ⟨(some 5), (.fieldAddr 1 (.t 4)), none, [1]⟩,
    ⟨(some 6), (.load none (.t 5)), none, [2]⟩,
    ⟨(some 7), (.sliceData (.t 6)), none, [3]⟩,
    ⟨(some 8), (.mov (.t 0)), none, []⟩,
    ⟨(some 9), (.nilCheck (.t 8)), none, [5]⟩,
    ⟨(some 10), (.fieldAddr 1 (.t 9)), none, [6]⟩,
    ⟨(some 11), (.load none (.t 10)), none, [7]⟩,
    ⟨(some 12), (.lenSlice (.t 11)), none, [8]⟩,
    ⟨(some 13), (.unsafeString 5 (.t 7) (.t 12)), none, [4, 9]⟩,
    ⟨(some 2), (.mov (.t 13)), none, [10, 0, 1, 2, 3, 4, 5, 6, 7, 8, 9, 10]⟩] (some [(0, 5), (1, 5), (2, 5), (3, 5), (4, 5), (0, 6), (1, 6), (2, 6), (3, 6), (4, 6), (0, 7), (1, 7), (2, 7), (3, 7), (4, 7), (0, 8), (1, 8), (2, 8), (3, 8), (4, 8), (0, 9), (1, 9), (2, 9), (3, 9), (4, 9)])
/-- (*strings.Builder).String -/
def B27 : ACode := (.seq (.region [⟨(some 2), (.mov (.c (.string ⟨#[]⟩))), none, []⟩] none)
  (.seq R27_0
  .ret))
def F27 : AFunc := ⟨1, 14, [(.tmp 2)], B27⟩
/-- strings.IndexAny -/
def F28L0 : ACode := (.seq (.seq (.region [⟨(some 33), (.mov (.t 8)), none, []⟩,
    ⟨(some 34), (.mov (.t 0)), none, []⟩,
    ⟨(some 35), (.lenStr (.t 34)), none, []⟩,
    ⟨(some 36), (.bin .lss (.t 33) (.t 35)), none, []⟩] none)
  (.cond (.t 36)
  .skip
  (.exit 0)))
  (.seq (.block 1 (.seq (.region [⟨(some 39), (.mov (.t 0)), none, []⟩,
    ⟨(some 40), (.mov (.t 8)), none, []⟩,
    ⟨(some 41), (.indexStr (.t 39) (.t 40)), none, []⟩,
    ⟨(some 42), (.call (.f 46) [(.t 6), (.t 41)]), none, []⟩] none)
  (.cond (.t 42)
  (.seq (.region [⟨(some 43), (.mov (.t 8)), none, []⟩,
    ⟨(some 4), (.mov (.t 43)), none, []⟩] none)
  .ret)
  .skip)))
  (.region [⟨(some 37), (.mov (.t 8)), none, []⟩,
    ⟨(some 38), (.bin .add (.t 37) (.c (.int .i64 1))), none, []⟩,
    ⟨(some 8), (.mov (.t 38)), none, []⟩] none)))
def F28L1 : ACode := (.seq (.region [⟨(some 46), (.nextStr (.t 45)), none, []⟩,
    ⟨(some 47), (.extract (.t 46) 0), none, []⟩] none)
  (.seq (.cond (.t 47)
  .skip
  (.exit 2))
  (.block 3 (.seq (.region [⟨(some 48), (.extract (.t 46) 1), none, []⟩,
    ⟨(some 49), (.extract (.t 46) 2), none, []⟩,
    ⟨(some 9), (.mov (.t 48)), none, []⟩,
    ⟨(some 10), (.mov (.t 49)), none, []⟩] none)
  (.seq (.region [⟨(some 50), (.mov (.t 1)), none, []⟩,
    ⟨(some 51), (.mov (.t 10)), none, []⟩,
    ⟨(some 52), (.call (.f 41) [(.t 50), (.t 51)]), none, []⟩,
    ⟨(some 53), (.bin .geq (.t 52) (.c (.int .i64 0))), none, []⟩] none)
  (.cond (.t 53)
  (.seq (.region [⟨(some 54), (.mov (.t 9)), none, []⟩,
    ⟨(some 4), (.mov (.t 54)), none, []⟩] none)
  .ret)
  .skip))))))
def B28 : ACode := (.seq (.region [⟨(some 4), (.mov (.c (.int .i64 0))), none, []⟩] none)
  (.seq (.seq (.region [⟨(some 11), (.mov (.t 1)), none, []⟩,
    ⟨(some 12), (.bin .eql (.t 11) (.c (.string ⟨#[]⟩))), none, []⟩] none)
  (.cond (.t 12)
  (.seq (.region [⟨(some 4), (.mov (.c (.int .i64 (-1)))), none, []⟩] none)
  .ret)
  .skip))
  (.seq (.seq (.region [⟨(some 13), (.mov (.t 1)), none, []⟩,
    ⟨(some 14), (.lenStr (.t 13)), none, []⟩,
    ⟨(some 15), (.bin .eql (.t 14) (.c (.int .i64 1))), none, []⟩] none)
  (.cond (.t 15)
  (.seq (.region [⟨(some 16), (.mov (.t 1)), none, []⟩,
    ⟨(some 17), (.indexStr (.t 16) (.c (.int .i64 0))), none, []⟩,
    ⟨(some 18), (.conv .i32 (.t 17)), none, []⟩,
    ⟨(some 5), (.mov (.t 18)), none, []⟩] none)
  (.seq (.seq (.region [⟨(some 19), (.mov (.t 5)), none, []⟩,
    ⟨(some 20), (.bin .geq (.t 19) (.c (.int .i32 128))), none, []⟩] none)
  (.cond (.t 20)
  (.region [⟨(some 5), (.mov (.c (.int .i32 65533))), none, []⟩] none)
  .skip))
  (.seq (.region [⟨(some 21), (.mov (.t 0)), none, []⟩,
    ⟨(some 22), (.mov (.t 5)), none, []⟩,
    ⟨(some 23), (.call (.f 41) [(.t 21), (.t 22)]), none, []⟩,
    ⟨(some 4), (.mov (.t 23)), none, []⟩] none)
  .ret)))
  .skip))
  (.seq (.seq (.region [⟨(some 24), (.mov (.t 0)), none, []⟩,
    ⟨(some 25), (.lenStr (.t 24)), none, []⟩,
    ⟨(some 26), (.call (.f 44) [(.t 25)]), none, []⟩] none)
  (.cond (.t 26)
  (.seq (.region [⟨(some 28), (.mov (.t 1)), none, []⟩,
    ⟨(some 29), (.call (.f 45) [(.t 28)]), none, []⟩,
    ⟨(some 27), (.mov (.t 29)), none, []⟩,
    ⟨(some 30), (.extract (.t 27) 0), none, []⟩,
    ⟨(some 31), (.extract (.t 27) 1), none, []⟩,
    ⟨(some 6), (.alloc 85 [(.bool false), (.bool false), (.bool false), (.bool false), (.bool false), (.bool false), (.bool false), (.bool false), (.bool false), (.bool false), (.bool false), (.bool false), (.bool false), (.bool false), (.bool false), (.bool false), (.bool false), (.bool false), (.bool false), (.bool false), (.bool false), (.bool false), (.bool false), (.bool false), (.bool false), (.bool false), (.bool false), (.bool false), (.bool false), (.bool false), (.bool false), (.bool false), (.bool false), (.bool false), (.bool false), (.bool false), (.bool false), (.bool false), (.bool false), (.bool false), (.bool false), (.bool false), (.bool false), (.bool false), (.bool false), (.bool false), (.bool false), (.bool false), (.bool false), (.bool false), (.bool false), (.bool false), (.bool false), (.bool false), (.bool false), (.bool false), (.bool false), (.bool false), (.bool false), (.bool false), (.bool false), (.bool false), (.bool false), (.bool false), (.bool false), (.bool false), (.bool false), (.bool false), (.bool false), (.bool false), (.bool false), (.bool false), (.bool false), (.bool false), (.bool false), (.bool false), (.bool false), (.bool false), (.bool false), (.bool false), (.bool false), (.bool false), (.bool false), (.bool false), (.bool false), (.bool false), (.bool false), (.bool false), (.bool false), (.bool false), (.bool false), (.bool false), (.bool false), (.bool false), (.bool false), (.bool false), (.bool false), (.bool false), (.bool false), (.bool false), (.bool false), (.bool false), (.bool false), (.bool false), (.bool false), (.bool false), (.bool false), (.bool false), (.bool false), (.bool false), (.bool false), (.bool false), (.bool false), (.bool false), (.bool false), (.bool false), (.bool false), (.bool false), (.bool false), (.bool false), (.bool false), (.bool false), (.bool false), (.bool false), (.bool false), (.bool false), (.bool false), (.bool false), (.bool false), (.bool false), (.bool false), (.bool false), (.bool false), (.bool false), (.bool false), (.bool false), (.bool false), (.bool false), (.bool false), (.bool false), (.bool false), (.bool false), (.bool false), (.bool false), (.bool false), (.bool false), (.bool false), (.bool false), (.bool false), (.bool false), (.bool false), (.bool false), (.bool false), (.bool false), (.bool false), (.bool false), (.bool false), (.bool false), (.bool false), (.bool false), (.bool false), (.bool false), (.bool false), (.bool false), (.bool false), (.bool false), (.bool false), (.bool false), (.bool false), (.bool false), (.bool false), (.bool false), (.bool false), (.bool false), (.bool false), (.bool false), (.bool false), (.bool false), (.bool false), (.bool false), (.bool false), (.bool false), (.bool false), (.bool false), (.bool false), (.bool false), (.bool false), (.bool false), (.bool false), (.bool false), (.bool false), (.bool false), (.bool false), (.bool false), (.bool false), (.bool false), (.bool false), (.bool false), (.bool false), (.bool false), (.bool false), (.bool false), (.bool false), (.bool false), (.bool false), (.bool false), (.bool false), (.bool false), (.bool false), (.bool false), (.bool false), (.bool false), (.bool false), (.bool false), (.bool false), (.bool false), (.bool false), (.bool false), (.bool false), (.bool false), (.bool false), (.bool false), (.bool false), (.bool false), (.bool false), (.bool false), (.bool false), (.bool false), (.bool false), (.bool false), (.bool false), (.bool false), (.bool false), (.bool false), (.bool false), (.bool false), (.bool false), (.bool false), (.bool false), (.bool false), (.bool false), (.bool false), (.bool false), (.bool false), (.bool false), (.bool false), (.bool false), (.bool false), (.bool false), (.bool false), (.bool false), (.bool false), (.bool false), (.bool false), (.bool false), (.bool false)]), none, []⟩,
    ⟨none, (.store 256 (.t 6) (.t 30)), none, []⟩,
    ⟨(some 7), (.mov (.t 31)), none, []⟩] none)
  (.seq (.region [⟨(some 32), (.mov (.t 7)), none, []⟩] none)
  (.cond (.t 32)
  (.seq (.seq (.region [⟨(some 8), (.mov (.c (.int .i64 0))), none, []⟩] none)
  (.block 0 (.loop F28L0)))
  (.seq (.region [⟨(some 4), (.mov (.c (.int .i64 (-1)))), none, []⟩] none)
  .ret))
  .skip)))
  .skip))
  (.seq (.seq (.region [⟨(some 44), (.mov (.t 0)), none, []⟩,
    ⟨(some 45), (.rangeStr (.t 44)), none, []⟩] none)
  (.block 2 (.loop F28L1)))
  (.seq (.region [⟨(some 4), (.mov (.c (.int .i64 (-1)))), none, []⟩] none)
  .ret))))))
def F28 : AFunc := ⟨2, 55, [(.tmp 4)], B28⟩
-- F28L0 live: [0, 6, 8]

-- F28L1 live: [1, 45]
def R29_0 : ACode := .region [⟨(some 15), (.mov (.t 0)), none, []⟩,
    ⟨(some 16), (.nilCheck (.t 15)), none, [0]⟩,
    ⟨(some 17), (.fieldAddr 0 (.t 16)), none, [1]⟩,
    ⟨(some 18), (.load none (.t 17)), none, [2]⟩,
    ⟨(some 19), (.mov (.t 0)), none, []⟩,
    ⟨(some 20), (.nilCheck (.t 19)), none, [4]⟩,
    ⟨(some 21), (.fieldAddr 1 (.t 20)), none, [5]⟩,
    ⟨(some 22), (.load none (.t 21)), none, [6]⟩,
    ⟨(some 23), (.bin .sub (.t 22) (.c (.int .i64 1))), none, [7]⟩,
    ⟨(some 24), (.indexAddr 1 (.t 18) (.t 23)), none, [3, 8]⟩,
    ⟨(some 25), (.load none (.t 24)), none, [9]⟩,
    ⟨(some 2), (.mov (.t 25)), none, [10, 0, 1, 2, 3, 4, 5, 6, 7, 8, 9, 10]⟩] (some [(0, 4), (1, 4), (2, 4), (3, 4), (0, 5), (1, 5), (2, 5), (3, 5), (0, 6), (1, 6), (2, 6), (3, 6), (0, 7), (1, 7), (2, 7), (3, 7), (0, 8), (1, 8), (2, 8), (3, 8)])
/-- (*toll/words.Row).Word -/
def B29 : ACode := (.seq (.region [⟨(some 2), (.mov (.c (.string ⟨#[]⟩))), none, []⟩] none)
  (.seq (.seq (.region [⟨(some 3), (.mov (.t 0)), none, []⟩,
    ⟨(some 4), (.call (.f 38) [(.t 3)]), none, []⟩,
    ⟨(some 5), (.un .not (.t 4)), none, []⟩] none)
  (.cond (.t 5)
  (.seq (.region [⟨(some 6), (.mov (.t 0)), none, []⟩,
    ⟨(some 7), (.call (.f 35) [(.t 6), (.c (.int .i64 4))]), none, []⟩] none)
  (.seq (.region [⟨(some 2), (.mov (.c (.string ⟨#[]⟩))), none, []⟩] none)
  .ret))
  .skip))
  (.seq (.region [⟨(some 8), (.mov (.t 0)), none, []⟩,
    ⟨(some 9), (.nilCheck (.t 8)), none, []⟩,
    ⟨(some 10), (.fieldAddr 1 (.t 9)), none, []⟩,
    ⟨(some 11), (.load none (.t 10)), none, []⟩,
    ⟨(some 12), (.bin .add (.t 11) (.c (.int .i64 1))), none, []⟩,
    ⟨(some 13), (.nilCheck (.t 8)), none, []⟩,
    ⟨(some 14), (.fieldAddr 1 (.t 13)), none, []⟩,
    ⟨none, (.store 1 (.t 14) (.t 12)), none, []⟩] none)
  (.seq R29_0
  .ret))))
def F29 : AFunc := ⟨1, 26, [(.tmp 2)], B29⟩
/-- (*toll/words.Row).Number -/
def B30 : ACode := (.seq (.region [⟨(some 6), (.mov (.c (.int .i64 0))), none, []⟩] none)
  (.seq (.region [⟨(some 10), (.mov (.t 0)), none, []⟩,
    ⟨(some 11), (.call (.f 29) [(.t 10)]), none, []⟩,
    ⟨(some 12), (.call (.f 36) [(.t 11)]), none, []⟩,
    ⟨(some 9), (.mov (.t 12)), none, []⟩,
    ⟨(some 13), (.extract (.t 9) 0), none, []⟩,
    ⟨(some 14), (.extract (.t 9) 1), none, []⟩,
    ⟨(some 7), (.mov (.t 13)), none, []⟩,
    ⟨(some 8), (.mov (.t 14)), none, []⟩] none)
  (.seq (.seq (.region [⟨(some 15), (.mov (.t 0)), none, []⟩,
    ⟨(some 16), (.mov (.t 8)), none, []⟩,
    ⟨(some 17), (.call (.f 37) [(.t 15), (.t 16), (.c (.int .i64 5))]), none, []⟩,
    ⟨(some 18), (.un .not (.t 17)), none, []⟩,
    ⟨(some 19), (.mov (.t 18)), none, []⟩,
    ⟨(some 20), (.mov (.t 0)), (some (19, false)), []⟩,
    ⟨(some 21), (.mov (.t 7)), (some (19, false)), []⟩,
    ⟨(some 22), (.mov (.t 1)), (some (19, false)), []⟩,
    ⟨(some 23), (.bin .geq (.t 21) (.t 22)), (some (19, false)), []⟩,
    ⟨(some 24), (.mov (.t 23)), (some (19, false)), []⟩,
    ⟨(some 25), (.mov (.t 7)), (some (24, true)), []⟩,
    ⟨(some 26), (.mov (.t 2)), (some (24, true)), []⟩,
    ⟨(some 27), (.bin .leq (.t 25) (.t 26)), (some (24, true)), []⟩,
    ⟨(some 28), (.pick (.t 24) (.t 27) (.c (.bool false))), (some (19, false)), []⟩,
    ⟨(some 29), (.call (.f 37) [(.t 20), (.t 28), (.c (.int .i64 24))]), (some (19, false)), []⟩,
    ⟨(some 30), (.un .not (.t 29)), (some (19, false)), []⟩,
    ⟨(some 31), (.pick (.t 19) (.c (.bool true)) (.t 30)), none, []⟩] none)
  (.cond (.t 31)
  (.seq (.region [⟨(some 6), (.mov (.c (.int .i64 0))), none, []⟩] none)
  .ret)
  .skip))
  (.seq (.region [⟨(some 32), (.mov (.t 7)), none, []⟩,
    ⟨(some 6), (.mov (.t 32)), none, []⟩] none)
  .ret))))
def F30 : AFunc := ⟨3, 33, [(.tmp 6)], B30⟩
/-- (*toll/words.Row).At -/
def B31 : ACode := (.seq (.region [⟨(some 2), (.mov (.c (.int .i64 0))), none, []⟩] none)
  (.seq (.seq (.region [⟨(some 3), (.mov (.t 0)), none, []⟩,
    ⟨(some 4), (.eqv false .ptr false (.t 3) (.c (.pointer none))), none, []⟩] none)
  (.cond (.t 4)
  (.seq (.region [⟨(some 2), (.mov (.c (.int .i64 0))), none, []⟩] none)
  .ret)
  .skip))
  (.seq (.region [⟨(some 5), (.mov (.t 0)), none, []⟩,
    ⟨(some 6), (.nilCheck (.t 5)), none, []⟩,
    ⟨(some 7), (.fieldAddr 1 (.t 6)), none, []⟩,
    ⟨(some 8), (.load none (.t 7)), none, []⟩,
    ⟨(some 2), (.mov (.t 8)), none, []⟩] none)
  .ret)))
def F31 : AFunc := ⟨1, 9, [(.tmp 2)], B31⟩
/-- strconv.Itoa -/
def B32 : ACode := (.seq (.region [⟨(some 2), (.mov (.c (.string ⟨#[]⟩))), none, []⟩] none)
  (.seq (.region [⟨(some 3), (.mov (.t 0)), none, []⟩,
    ⟨(some 4), (.call (.f 47) [(.t 3)]), none, []⟩,
    ⟨(some 2), (.mov (.t 4)), none, []⟩] none)
  .ret))
def F32 : AFunc := ⟨1, 5, [(.tmp 2)], B32⟩
/-- toll/words.masked -/
def B33 : ACode := (.seq (.region [⟨(some 4), (.mov (.c (.int .u32 0))), none, []⟩] none)
  (.seq (.region [⟨(some 5), (.mov (.t 0)), none, []⟩,
    ⟨(some 6), (.mov (.t 1)), none, []⟩,
    ⟨(some 7), (.bin .sub (.c (.int .i64 32)) (.t 6)), none, []⟩,
    ⟨(some 8), (.conv .u64 (.t 7)), none, []⟩,
    ⟨(some 9), (.bin .shl (.c (.int .u32 1)) (.t 8)), none, []⟩,
    ⟨(some 10), (.bin .sub (.t 9) (.c (.int .u32 1))), none, []⟩,
    ⟨(some 11), (.bin .andNot (.t 5) (.t 10)), none, []⟩,
    ⟨(some 4), (.mov (.t 11)), none, []⟩] none)
  .ret))
def F33 : AFunc := ⟨2, 12, [(.tmp 4)], B33⟩
/-- toll/words.ip -/
def F34L0 : ACode := (.seq (.region [⟨(some 19), (.bin .lss (.t 18) (.t 17)), none, []⟩] none)
  (.seq (.cond (.t 19)
  .skip
  (.exit 0))
  (.seq (.block 1 (.seq (.region [⟨(some 20), (.indexAddr 1 (.t 16) (.t 18)), none, []⟩,
    ⟨(some 21), (.load none (.t 20)), none, []⟩,
    ⟨(some 8), (.mov (.t 21)), none, []⟩] none)
  (.seq (.region [⟨(some 23), (.mov (.t 8)), none, []⟩,
    ⟨(some 24), (.call (.f 36) [(.t 23)]), none, []⟩,
    ⟨(some 22), (.mov (.t 24)), none, []⟩,
    ⟨(some 25), (.extract (.t 22) 0), none, []⟩,
    ⟨(some 26), (.extract (.t 22) 1), none, []⟩,
    ⟨(some 9), (.mov (.t 25)), none, []⟩,
    ⟨(some 10), (.mov (.t 26)), none, []⟩] none)
  (.seq (.block 2 (.seq (.region [⟨(some 28), (.mov (.t 10)), none, []⟩,
    ⟨(some 29), (.un .not (.t 28)), none, []⟩,
    ⟨(some 27), (.mov (.t 29)), none, []⟩] none)
  (.cond (.t 27)
  (.seq (.region [⟨(some 2), (.mov (.c (.int .u32 0))), none, []⟩,
    ⟨(some 3), (.mov (.c (.int .i64 5))), none, []⟩] none)
  .ret)
  (.seq (.region [⟨(some 31), (.mov (.t 9)), none, []⟩,
    ⟨(some 32), (.bin .gtr (.t 31) (.c (.int .i64 255))), none, []⟩,
    ⟨(some 30), (.mov (.t 32)), none, []⟩] none)
  (.cond (.t 30)
  (.region [⟨(some 6), (.mov (.c (.int .i64 24))), none, []⟩] none)
  .skip)))))
  (.region [⟨(some 33), (.mov (.t 5)), none, []⟩,
    ⟨(some 34), (.bin .shl (.t 33) (.c (.int .u64 8))), none, []⟩,
    ⟨(some 35), (.mov (.t 9)), none, []⟩,
    ⟨(some 36), (.bin .and (.t 35) (.c (.int .i64 255))), none, []⟩,
    ⟨(some 37), (.conv .u32 (.t 36)), none, []⟩,
    ⟨(some 38), (.bin .or (.t 34) (.t 37)), none, []⟩,
    ⟨(some 5), (.mov (.t 38)), none, []⟩] none)))))
  (.region [⟨(some 39), (.bin .add (.t 18) (.c (.int .i64 1))), none, []⟩,
    ⟨(some 18), (.mov (.t 39)), none, []⟩] none))))
def B34 : ACode := (.seq (.region [⟨(some 2), (.mov (.c (.int .u32 0))), none, []⟩,
    ⟨(some 3), (.mov (.c (.int .i64 0))), none, []⟩] none)
  (.seq (.region [⟨(some 11), (.mov (.t 0)), none, []⟩,
    ⟨(some 12), (.call (.f 48) [(.t 11), (.c (.string ⟨#[46]⟩))]), none, []⟩,
    ⟨(some 4), (.mov (.t 12)), none, []⟩] none)
  (.seq (.seq (.region [⟨(some 13), (.mov (.t 4)), none, []⟩,
    ⟨(some 14), (.lenSlice (.t 13)), none, []⟩,
    ⟨(some 15), (.bin .neq (.t 14) (.c (.int .i64 4))), none, []⟩] none)
  (.cond (.t 15)
  (.seq (.region [⟨(some 2), (.mov (.c (.int .u32 0))), none, []⟩,
    ⟨(some 3), (.mov (.c (.int .i64 5))), none, []⟩] none)
  .ret)
  .skip))
  (.seq (.region [⟨(some 5), (.mov (.c (.int .u32 0))), none, []⟩,
    ⟨(some 6), (.mov (.c (.int .i64 0))), none, []⟩] none)
  (.seq (.seq (.region [⟨(some 16), (.mov (.t 4)), none, []⟩,
    ⟨(some 17), (.lenSlice (.t 16)), none, []⟩,
    ⟨(some 18), (.mov (.c (.int .i64 0))), none, []⟩] none)
  (.block 0 (.loop F34L0)))
  (.seq (.region [⟨(some 40), (.mov (.t 5)), none, []⟩,
    ⟨(some 41), (.mov (.t 6)), none, []⟩,
    ⟨(some 2), (.mov (.t 40)), none, []⟩,
    ⟨(some 3), (.mov (.t 41)), none, []⟩] none)
  .ret))))))
def F34 : AFunc := ⟨1, 42, [(.tmp 2), (.tmp 3)], B34⟩
-- F34L0 live: [5, 6, 16, 17, 18]
/-- (*toll/words.Row).Fail -/
def B35 : ACode := (.seq (.region [⟨(some 4), (.mov (.t 0)), none, []⟩,
    ⟨(some 5), (.call (.f 18) [(.t 4)]), none, []⟩,
    ⟨(some 6), (.bin .eql (.t 5) (.c (.int .i64 0))), none, []⟩] none)
  (.cond (.t 6)
  (.region [⟨(some 7), (.mov (.t 0)), none, []⟩,
    ⟨(some 8), (.mov (.t 1)), none, []⟩,
    ⟨(some 9), (.nilCheck (.t 7)), none, []⟩,
    ⟨(some 10), (.fieldAddr 2 (.t 9)), none, []⟩,
    ⟨none, (.store 1 (.t 10) (.t 8)), none, []⟩] none)
  .skip))
def F35 : AFunc := ⟨2, 11, [], B35⟩
def R36_0 : ACode := .region [⟨(some 33), (.mov (.t 4)), none, []⟩,
    ⟨(some 34), (.mov (.t 5)), none, []⟩,
    ⟨(some 35), (.eqv false .iface true (.t 34) (.c .nilIface)), none, [1]⟩,
    ⟨(some 2), (.mov (.t 33)), none, [0, 0]⟩,
    ⟨(some 3), (.mov (.t 35)), none, [2, 3, 0, 1, 2, 3]⟩] (some [(0, 1), (0, 2), (1, 3), (2, 3)])
/-- toll/words.number -/
def B36 : ACode := (.seq (.region [⟨(some 2), (.mov (.c (.int .i64 0))), none, []⟩,
    ⟨(some 3), (.mov (.c (.bool false))), none, []⟩] none)
  (.seq (.seq (.region [⟨(some 6), (.mov (.t 0)), none, []⟩,
    ⟨(some 7), (.bin .eql (.t 6) (.c (.string ⟨#[]⟩))), none, []⟩,
    ⟨(some 8), (.mov (.t 7)), none, []⟩,
    ⟨(some 9), (.mov (.t 0)), (some (8, false)), []⟩,
    ⟨(some 10), (.lenStr (.t 9)), (some (8, false)), []⟩,
    ⟨(some 11), (.bin .gtr (.t 10) (.c (.int .i64 10))), (some (8, false)), []⟩,
    ⟨(some 12), (.pick (.t 8) (.c (.bool true)) (.t 11)), none, []⟩,
    ⟨(some 13), (.mov (.t 12)), none, []⟩,
    ⟨(some 14), (.mov (.t 0)), (some (13, false)), []⟩,
    ⟨(some 15), (.call (.f 49) [(.t 14), (.c (.string ⟨#[48, 49, 50, 51, 52, 53, 54, 55, 56, 57]⟩))]), (some (13, false)), []⟩,
    ⟨(some 16), (.bin .neq (.t 15) (.c (.string ⟨#[]⟩))), (some (13, false)), []⟩,
    ⟨(some 17), (.pick (.t 13) (.c (.bool true)) (.t 16)), none, []⟩,
    ⟨(some 18), (.mov (.t 17)), none, []⟩,
    ⟨(some 19), (.mov (.t 0)), (some (18, false)), []⟩,
    ⟨(some 20), (.lenStr (.t 19)), (some (18, false)), []⟩,
    ⟨(some 21), (.bin .gtr (.t 20) (.c (.int .i64 1))), (some (18, false)), []⟩,
    ⟨(some 22), (.mov (.t 21)), (some (18, false)), []⟩,
    ⟨(some 23), (.mov (.t 0)), (some (22, true)), []⟩,
    ⟨(some 24), (.indexStr (.t 23) (.c (.int .i64 0))), (some (22, true)), []⟩,
    ⟨(some 25), (.bin .eql (.t 24) (.c (.int .u8 48))), (some (22, true)), []⟩,
    ⟨(some 26), (.pick (.t 22) (.t 25) (.c (.bool false))), (some (18, false)), []⟩,
    ⟨(some 27), (.pick (.t 18) (.c (.bool true)) (.t 26)), none, []⟩] none)
  (.cond (.t 27)
  (.seq (.region [⟨(some 2), (.mov (.c (.int .i64 0))), none, []⟩,
    ⟨(some 3), (.mov (.c (.bool false))), none, []⟩] none)
  .ret)
  .skip))
  (.seq (.region [⟨(some 29), (.mov (.t 0)), none, []⟩,
    ⟨(some 30), (.call (.f 50) [(.t 29)]), none, []⟩,
    ⟨(some 28), (.mov (.t 30)), none, []⟩,
    ⟨(some 31), (.extract (.t 28) 0), none, []⟩,
    ⟨(some 32), (.extract (.t 28) 1), none, []⟩,
    ⟨(some 4), (.mov (.t 31)), none, []⟩,
    ⟨(some 5), (.mov (.t 32)), none, []⟩] none)
  (.seq R36_0
  .ret))))
def F36 : AFunc := ⟨1, 36, [(.tmp 2), (.tmp 3)], B36⟩
/-- (*toll/words.Row).wants -/
def B37 : ACode := (.seq (.region [⟨(some 6), (.mov (.c (.bool false))), none, []⟩] none)
  (.seq (.seq (.region [⟨(some 7), (.mov (.t 1)), none, []⟩,
    ⟨(some 8), (.un .not (.t 7)), none, []⟩] none)
  (.cond (.t 8)
  (.region [⟨(some 9), (.mov (.t 0)), none, []⟩,
    ⟨(some 10), (.mov (.t 2)), none, []⟩,
    ⟨(some 11), (.call (.f 35) [(.t 9), (.t 10)]), none, []⟩] none)
  .skip))
  (.seq (.region [⟨(some 12), (.mov (.t 0)), none, []⟩,
    ⟨(some 13), (.call (.f 18) [(.t 12)]), none, []⟩,
    ⟨(some 14), (.bin .eql (.t 13) (.c (.int .i64 0))), none, []⟩,
    ⟨(some 6), (.mov (.t 14)), none, []⟩] none)
  .ret)))
def F37 : AFunc := ⟨3, 15, [(.tmp 6)], B37⟩
def R38_0 : ACode := .region [⟨(some 3), (.mov (.t 0)), none, []⟩,
    ⟨(some 4), (.call (.f 18) [(.t 3)]), none, [0]⟩,
    ⟨(some 5), (.bin .eql (.t 4) (.c (.int .i64 0))), none, [1]⟩,
    ⟨(some 6), (.mov (.t 5)), none, [2, 1]⟩,
    ⟨(some 7), (.mov (.t 0)), (some (6, true)), [3]⟩,
    ⟨(some 8), (.nilCheck (.t 7)), (some (6, true)), [4, 3]⟩,
    ⟨(some 9), (.fieldAddr 1 (.t 8)), (some (6, true)), [5, 3]⟩,
    ⟨(some 10), (.load none (.t 9)), (some (6, true)), [6, 3]⟩,
    ⟨(some 11), (.mov (.t 0)), (some (6, true)), [3]⟩,
    ⟨(some 12), (.nilCheck (.t 11)), (some (6, true)), [8, 3]⟩,
    ⟨(some 13), (.fieldAddr 0 (.t 12)), (some (6, true)), [9, 3]⟩,
    ⟨(some 14), (.load none (.t 13)), (some (6, true)), [10, 3]⟩,
    ⟨(some 15), (.lenSlice (.t 14)), (some (6, true)), [11, 3]⟩,
    ⟨(some 16), (.bin .lss (.t 10) (.t 15)), (some (6, true)), [7, 12, 3]⟩,
    ⟨(some 17), (.pick (.t 6) (.t 16) (.c (.bool false))), none, [3, 13]⟩,
    ⟨(some 2), (.mov (.t 17)), none, [14, 3, 0, 1, 2, 3, 4, 5, 6, 7, 8, 9, 10, 11, 12, 13, 14]⟩] (some [(4, 8), (5, 8), (6, 8), (7, 8), (4, 9), (5, 9), (6, 9), (7, 9), (4, 10), (5, 10), (6, 10), (7, 10), (4, 11), (5, 11), (6, 11), (7, 11), (4, 12), (5, 12), (6, 12), (7, 12)])
/-- (*toll/words.Row).More -/
def B38 : ACode := (.seq (.region [⟨(some 2), (.mov (.c (.bool false))), none, []⟩] none)
  (.seq R38_0
  .ret))
def F38 : AFunc := ⟨1, 18, [(.tmp 2)], B38⟩
/-- slices.IndexFunc[[]byte,byte] -/
def F39L0 : ACode := (.seq (.region [⟨(some 9), (.bin .lss (.t 8) (.t 7)), none, []⟩] none)
  (.seq (.cond (.t 9)
  .skip
  (.exit 0))
  (.seq (.block 1 (.seq (.region [⟨(some 10), (.mov (.t 8)), none, []⟩,
    ⟨(some 5), (.mov (.t 10)), none, []⟩] none)
  (.seq (.region [⟨(some 11), (.mov (.t 1)), none, []⟩,
    ⟨(some 12), (.mov (.t 0)), none, []⟩,
    ⟨(some 13), (.mov (.t 5)), none, []⟩,
    ⟨(some 14), (.indexAddr 1 (.t 12) (.t 13)), none, []⟩,
    ⟨(some 15), (.load none (.t 14)), none, []⟩,
    ⟨(some 16), (.call (.t 11) [(.t 15)]), none, []⟩] none)
  (.cond (.t 16)
  (.seq (.region [⟨(some 17), (.mov (.t 5)), none, []⟩,
    ⟨(some 4), (.mov (.t 17)), none, []⟩] none)
  .ret)
  .skip))))
  (.region [⟨(some 18), (.bin .add (.t 8) (.c (.int .i64 1))), none, []⟩,
    ⟨(some 8), (.mov (.t 18)), none, []⟩] none))))
def B39 : ACode := (.seq (.region [⟨(some 4), (.mov (.c (.int .i64 0))), none, []⟩] none)
  (.seq (.seq (.region [⟨(some 6), (.mov (.t 0)), none, []⟩,
    ⟨(some 7), (.lenSlice (.t 6)), none, []⟩,
    ⟨(some 8), (.mov (.c (.int .i64 0))), none, []⟩] none)
  (.block 0 (.loop F39L0)))
  (.seq (.region [⟨(some 4), (.mov (.c (.int .i64 (-1)))), none, []⟩] none)
  .ret)))
def F39 : AFunc := ⟨2, 19, [(.tmp 4)], B39⟩
-- F39L0 live: [0, 1, 7, 8]
def R40_0 : ACode := .region [⟨(some 13), (.mov (.t 0)), none, []⟩,
    ⟨(some 14), (.mov (.t 7)), none, []⟩,
    ⟨(some 15), (.sliceStr (.t 13) none (some (.t 14))), none, [0, 1]⟩,
    ⟨(some 16), (.mov (.t 0)), none, []⟩,
    ⟨(some 17), (.mov (.t 7)), none, []⟩,
    ⟨(some 18), (.mov (.t 1)), none, []⟩,
    ⟨(some 19), (.lenStr (.t 18)), none, [5]⟩,
    ⟨(some 20), (.bin .add (.t 17) (.t 19)), none, [4, 6]⟩,
    ⟨(some 21), (.sliceStr (.t 16) (some (.t 20)) none), none, [3, 7]⟩,
    ⟨(some 4), (.mov (.t 15)), none, [2, 0, 1, 2]⟩,
    ⟨(some 5), (.mov (.t 21)), none, [8, 9, 0, 1, 2, 3, 4, 5, 6, 7, 8, 9]⟩,
    ⟨(some 6), (.mov (.c (.bool true))), none, [10, 0, 1, 2, 3, 4, 5, 6, 7, 8, 9, 10]⟩] (some [(0, 1), (0, 3), (1, 3), (2, 3), (0, 4), (1, 4), (2, 4), (3, 4), (0, 5), (1, 5), (2, 5), (3, 5), (4, 5), (0, 6), (1, 6), (2, 6), (3, 6), (4, 6), (0, 7), (1, 7), (2, 7), (3, 7), (0, 8), (1, 8), (2, 8), (3, 9), (4, 9), (5, 9), (6, 9), (7, 9), (8, 9)])
/-- internal/stringslite.Cut -/
def B40 : ACode := (.seq (.region [⟨(some 4), (.mov (.c (.string ⟨#[]⟩))), none, []⟩,
    ⟨(some 5), (.mov (.c (.string ⟨#[]⟩))), none, []⟩,
    ⟨(some 6), (.mov (.c (.bool false))), none, []⟩] none)
  (.seq (.seq (.region [⟨(some 8), (.mov (.t 0)), none, []⟩,
    ⟨(some 9), (.mov (.t 1)), none, []⟩,
    ⟨(some 10), (.call (.f 51) [(.t 8), (.t 9)]), none, []⟩,
    ⟨(some 7), (.mov (.t 10)), none, []⟩] none)
  (.seq (.region [⟨(some 11), (.mov (.t 7)), none, []⟩,
    ⟨(some 12), (.bin .geq (.t 11) (.c (.int .i64 0))), none, []⟩] none)
  (.cond (.t 12)
  (.seq R40_0
  .ret)
  .skip)))
  (.seq (.region [⟨(some 22), (.mov (.t 0)), none, []⟩,
    ⟨(some 4), (.mov (.t 22)), none, []⟩,
    ⟨(some 5), (.mov (.c (.string ⟨#[]⟩))), none, []⟩,
    ⟨(some 6), (.mov (.c (.bool false))), none, []⟩] none)
  .ret)))
def F40 : AFunc := ⟨2, 23, [(.tmp 4), (.tmp 5), (.tmp 6)], B40⟩
/-- strings.IndexRune -/
def F41L0 : ACode := (.seq (.region [⟨(some 176), (.nextStr (.t 175)), none, []⟩,
    ⟨(some 177), (.extract (.t 176) 0), none, []⟩] none)
  (.seq (.cond (.t 177)
  .skip
  (.exit 9))
  (.block 10 (.seq (.region [⟨(some 178), (.extract (.t 176) 1), none, []⟩,
    ⟨(some 179), (.extract (.t 176) 2), none, []⟩,
    ⟨(some 5), (.mov (.t 178)), none, []⟩,
    ⟨(some 6), (.mov (.t 179)), none, []⟩] none)
  (.seq (.region [⟨(some 180), (.mov (.t 6)), none, []⟩,
    ⟨(some 181), (.bin .eql (.t 180) (.c (.int .i32 65533))), none, []⟩] none)
  (.cond (.t 181)
  (.seq (.region [⟨(some 182), (.mov (.t 5)), none, []⟩,
    ⟨(some 4), (.mov (.t 182)), none, []⟩] none)
  .ret)
  .skip))))))
def B41 : ACode := (.seq (.region [⟨(some 4), (.mov (.c (.int .i64 0))), none, []⟩] none)
  (.block 0 (.seq (.region [⟨(some 161), (.mov (.t 1)), none, []⟩,
    ⟨(some 162), (.bin .leq (.c (.int .i32 0)) (.t 161)), none, []⟩,
    ⟨(some 163), (.mov (.t 162)), none, []⟩,
    ⟨(some 164), (.mov (.t 1)), (some (163, true)), []⟩,
    ⟨(some 165), (.bin .lss (.t 164) (.c (.int .i32 128))), (some (163, true)), []⟩,
    ⟨(some 166), (.pick (.t 163) (.t 165) (.c (.bool false))), none, []⟩,
    ⟨(some 160), (.mov (.t 166)), none, []⟩] none)
  (.cond (.t 160)
  (.seq (.region [⟨(some 167), (.mov (.t 0)), none, []⟩,
    ⟨(some 168), (.mov (.t 1)), none, []⟩,
    ⟨(some 169), (.conv .u8 (.t 168)), none, []⟩,
    ⟨(some 170), (.call (.f 52) [(.t 167), (.t 169)]), none, []⟩,
    ⟨(some 4), (.mov (.t 170)), none, []⟩] none)
  .ret)
  (.seq (.region [⟨(some 172), (.mov (.t 1)), none, []⟩,
    ⟨(some 173), (.bin .eql (.t 172) (.c (.int .i32 65533))), none, []⟩,
    ⟨(some 171), (.mov (.t 173)), none, []⟩] none)
  (.cond (.t 171)
  (.seq (.seq (.region [⟨(some 174), (.mov (.t 0)), none, []⟩,
    ⟨(some 175), (.rangeStr (.t 174)), none, []⟩] none)
  (.block 9 (.loop F41L0)))
  (.seq (.region [⟨(some 4), (.mov (.c (.int .i64 (-1)))), none, []⟩] none)
  .ret))
  (.seq (.region [⟨(some 184), (.mov (.t 1)), none, []⟩,
    ⟨(some 185), (.call (.f 53) [(.t 184)]), none, []⟩,
    ⟨(some 186), (.un .not (.t 185)), none, []⟩,
    ⟨(some 183), (.mov (.t 186)), none, []⟩] none)
  (.cond (.t 183)
  (.seq (.region [⟨(some 4), (.mov (.c (.int .i64 (-1)))), none, []⟩] none)
  .ret)
  .fail))))))))
def F41 : AFunc := ⟨2, 187, [(.tmp 4)], B41⟩
-- F41L0 live: [175]
/-- (*strings.Builder).copyCheck -/
def B42 : ACode := (.seq (.region [⟨(some 2), (.mov (.t 0)), none, []⟩,
    ⟨(some 3), (.nilCheck (.t 2)), none, []⟩,
    ⟨(some 4), (.fieldAddr 0 (.t 3)), none, []⟩,
    ⟨(some 5), (.load none (.t 4)), none, []⟩,
    ⟨(some 6), (.eqv false .ptr false (.t 5) (.c (.pointer none))), none, []⟩] none)
  (.cond (.t 6)
  (.region [⟨(some 7), (.mov (.t 0)), none, []⟩,
    ⟨(some 8), (.mov (.t 0)), none, []⟩,
    ⟨(some 9), (.toUnsafe (.t 8)), none, []⟩,
    ⟨(some 10), (.call (.f 56) [(.t 9)]), none, []⟩,
    ⟨(some 11), (.fromUnsafe 57 2 (.t 10)), none, []⟩,
    ⟨(some 12), (.nilCheck (.t 7)), none, []⟩,
    ⟨(some 13), (.fieldAddr 0 (.t 12)), none, []⟩,
    ⟨none, (.store 1 (.t 13) (.t 11)), none, []⟩] none)
  (.seq (.region [⟨(some 14), (.mov (.t 0)), none, []⟩,
    ⟨(some 15), (.nilCheck (.t 14)), none, []⟩,
    ⟨(some 16), (.fieldAddr 0 (.t 15)), none, []⟩,
    ⟨(some 17), (.load none (.t 16)), none, []⟩,
    ⟨(some 18), (.mov (.t 0)), none, []⟩,
    ⟨(some 19), (.eqv true .ptr false (.t 17) (.t 18)), none, []⟩] none)
  (.cond (.t 19)
  .fail
  .skip))))
def F42 : AFunc := ⟨1, 20, [], B42⟩
def R43_0 : ACode := .region [⟨(some 5), (.mov (.t 0)), none, []⟩,
    ⟨(some 6), (.nilCheck (.t 5)), none, [0]⟩,
    ⟨(some 7), (.fieldAddr 1 (.t 6)), none, [1]⟩,
    ⟨(some 8), (.load none (.t 7)), none, [2]⟩,
    ⟨(some 9), (.cap (.t 8)), none, [3]⟩,
    ⟨(some 10), (.bin .mul (.c (.int .i64 2)) (.t 9)), none, [4]⟩,
    ⟨(some 11), (.mov (.t 1)), none, []⟩,
    ⟨(some 12), (.bin .add (.t 10) (.t 11)), none, [5, 6]⟩,
    ⟨(some 13), (.call (.f 57) [(.t 12)]), none, [7]⟩,
    ⟨(some 14), (.mov (.t 0)), none, []⟩,
    ⟨(some 15), (.nilCheck (.t 14)), none, [9]⟩,
    ⟨(some 16), (.fieldAddr 1 (.t 15)), none, [10]⟩,
    ⟨(some 17), (.load none (.t 16)), none, [11]⟩,
    ⟨(some 18), (.lenSlice (.t 17)), none, [12]⟩,
    ⟨(some 19), (.slice 1 (.t 13) none (some (.t 18)) none), none, [8, 13]⟩,
    ⟨(some 4), (.mov (.t 19)), none, [14, 8, 0, 1, 2, 3, 4, 5, 6, 7, 8, 9, 10, 11, 12, 13, 14]⟩] (some [(0, 6), (1, 6), (2, 6), (3, 6), (4, 6), (5, 6), (0, 9), (1, 9), (2, 9), (3, 9), (4, 9), (5, 9), (6, 9), (7, 9), (8, 9), (0, 10), (1, 10), (2, 10), (3, 10), (4, 10), (5, 10), (6, 10), (7, 10), (8, 10), (0, 11), (1, 11), (2, 11), (3, 11), (4, 11), (5, 11), (6, 11), (7, 11), (8, 11), (0, 12), (1, 12), (2, 12), (3, 12), (4, 12), (5, 12), (6, 12), (7, 12), (8, 12), (0, 13), (1, 13), (2, 13), (3, 13), (4, 13), (5, 13), (6, 13), (7, 13), (8, 13)])
/-- (*strings.Builder).grow -/
def B43 : ACode := (.seq R43_0
  (.seq (.region [⟨(some 20), (.mov (.t 4)), none, []⟩,
    ⟨(some 21), (.mov (.t 0)), none, []⟩,
    ⟨(some 22), (.nilCheck (.t 21)), none, []⟩,
    ⟨(some 23), (.fieldAddr 1 (.t 22)), none, []⟩,
    ⟨(some 24), (.load none (.t 23)), none, []⟩,
    ⟨(some 25), (.copy 1 (.t 20) (.t 24)), none, []⟩] none)
  (.region [⟨(some 26), (.mov (.t 0)), none, []⟩,
    ⟨(some 27), (.mov (.t 4)), none, []⟩,
    ⟨(some 28), (.nilCheck (.t 26)), none, []⟩,
    ⟨(some 29), (.fieldAddr 1 (.t 28)), none, []⟩,
    ⟨none, (.store 1 (.t 29) (.t 27)), none, []⟩] none)))
def F43 : AFunc := ⟨2, 30, [], B43⟩
/-- strings.shouldUseASCIISet -/
def B44 : ACode := (.seq (.region [⟨(some 2), (.mov (.c (.bool false))), none, []⟩] none)
  (.seq (.region [⟨(some 3), (.mov (.t 0)), none, []⟩,
    ⟨(some 4), (.bin .gtr (.t 3) (.c (.int .i64 8))), none, []⟩,
    ⟨(some 2), (.mov (.t 4)), none, []⟩] none)
  .ret))
def F44 : AFunc := ⟨1, 5, [(.tmp 2)], B44⟩
/-- strings.makeASCIISet -/
def F45L0 : ACode := (.seq (.seq (.region [⟨(some 6), (.mov (.t 4)), none, []⟩,
    ⟨(some 7), (.mov (.t 0)), none, []⟩,
    ⟨(some 8), (.lenStr (.t 7)), none, []⟩,
    ⟨(some 9), (.bin .lss (.t 6) (.t 8)), none, []⟩] none)
  (.cond (.t 9)
  .skip
  (.exit 0)))
  (.seq (.block 1 (.seq (.region [⟨(some 12), (.mov (.t 0)), none, []⟩,
    ⟨(some 13), (.mov (.t 4)), none, []⟩,
    ⟨(some 14), (.indexStr (.t 12) (.t 13)), none, []⟩,
    ⟨(some 5), (.mov (.t 14)), none, []⟩] none)
  (.seq (.seq (.region [⟨(some 15), (.mov (.t 5)), none, []⟩,
    ⟨(some 16), (.bin .geq (.t 15) (.c (.int .u8 128))), none, []⟩] none)
  (.cond (.t 16)
  (.seq (.region [⟨(some 17), (.load (some 256) (.t 2)), none, []⟩,
    ⟨none, (.store 256 (.t 2) (.t 17)), none, []⟩,
    ⟨(some 3), (.mov (.c (.bool false))), none, []⟩] none)
  .ret)
  .skip))
  (.region [⟨(some 18), (.mov (.t 5)), none, []⟩,
    ⟨(some 19), (.indexArr 1 256 (.t 2) (.t 18)), none, []⟩,
    ⟨none, (.store 1 (.t 19) (.c (.bool true))), none, []⟩] none))))
  (.region [⟨(some 10), (.mov (.t 4)), none, []⟩,
    ⟨(some 11), (.bin .add (.t 10) (.c (.int .i64 1))), none, []⟩,
    ⟨(some 4), (.mov (.t 11)), none, []⟩] none)))
def B45 : ACode := (.seq (.region [⟨(some 2), (.alloc 85 [(.bool false), (.bool false), (.bool false), (.bool false), (.bool false), (.bool false), (.bool false), (.bool false), (.bool false), (.bool false), (.bool false), (.bool false), (.bool false), (.bool false), (.bool false), (.bool false), (.bool false), (.bool false), (.bool false), (.bool false), (.bool false), (.bool false), (.bool false), (.bool false), (.bool false), (.bool false), (.bool false), (.bool false), (.bool false), (.bool false), (.bool false), (.bool false), (.bool false), (.bool false), (.bool false), (.bool false), (.bool false), (.bool false), (.bool false), (.bool false), (.bool false), (.bool false), (.bool false), (.bool false), (.bool false), (.bool false), (.bool false), (.bool false), (.bool false), (.bool false), (.bool false), (.bool false), (.bool false), (.bool false), (.bool false), (.bool false), (.bool false), (.bool false), (.bool false), (.bool false), (.bool false), (.bool false), (.bool false), (.bool false), (.bool false), (.bool false), (.bool false), (.bool false), (.bool false), (.bool false), (.bool false), (.bool false), (.bool false), (.bool false), (.bool false), (.bool false), (.bool false), (.bool false), (.bool false), (.bool false), (.bool false), (.bool false), (.bool false), (.bool false), (.bool false), (.bool false), (.bool false), (.bool false), (.bool false), (.bool false), (.bool false), (.bool false), (.bool false), (.bool false), (.bool false), (.bool false), (.bool false), (.bool false), (.bool false), (.bool false), (.bool false), (.bool false), (.bool false), (.bool false), (.bool false), (.bool false), (.bool false), (.bool false), (.bool false), (.bool false), (.bool false), (.bool false), (.bool false), (.bool false), (.bool false), (.bool false), (.bool false), (.bool false), (.bool false), (.bool false), (.bool false), (.bool false), (.bool false), (.bool false), (.bool false), (.bool false), (.bool false), (.bool false), (.bool false), (.bool false), (.bool false), (.bool false), (.bool false), (.bool false), (.bool false), (.bool false), (.bool false), (.bool false), (.bool false), (.bool false), (.bool false), (.bool false), (.bool false), (.bool false), (.bool false), (.bool false), (.bool false), (.bool false), (.bool false), (.bool false), (.bool false), (.bool false), (.bool false), (.bool false), (.bool false), (.bool false), (.bool false), (.bool false), (.bool false), (.bool false), (.bool false), (.bool false), (.bool false), (.bool false), (.bool false), (.bool false), (.bool false), (.bool false), (.bool false), (.bool false), (.bool false), (.bool false), (.bool false), (.bool false), (.bool false), (.bool false), (.bool false), (.bool false), (.bool false), (.bool false), (.bool false), (.bool false), (.bool false), (.bool false), (.bool false), (.bool false), (.bool false), (.bool false), (.bool false), (.bool false), (.bool false), (.bool false), (.bool false), (.bool false), (.bool false), (.bool false), (.bool false), (.bool false), (.bool false), (.bool false), (.bool false), (.bool false), (.bool false), (.bool false), (.bool false), (.bool false), (.bool false), (.bool false), (.bool false), (.bool false), (.bool false), (.bool false), (.bool false), (.bool false), (.bool false), (.bool false), (.bool false), (.bool false), (.bool false), (.bool false), (.bool false), (.bool false), (.bool false), (.bool false), (.bool false), (.bool false), (.bool false), (.bool false), (.bool false), (.bool false), (.bool false), (.bool false), (.bool false), (.bool false), (.bool false), (.bool false), (.bool false), (.bool false), (.bool false), (.bool false), (.bool false), (.bool false), (.bool false), (.bool false), (.bool false), (.bool false), (.bool false), (.bool false), (.bool false), (.bool false), (.bool false), (.bool false), (.bool false), (.bool false), (.bool false), (.bool false)]), none, []⟩,
    ⟨(some 3), (.mov (.c (.bool false))), none, []⟩] none)
  (.seq (.seq (.region [⟨(some 4), (.mov (.c (.int .i64 0))), none, []⟩] none)
  (.block 0 (.loop F45L0)))
  (.seq (.region [⟨(some 20), (.load (some 256) (.t 2)), none, []⟩,
    ⟨none, (.store 256 (.t 2) (.t 20)), none, []⟩,
    ⟨(some 3), (.mov (.c (.bool true))), none, []⟩] none)
  .ret)))
def F45 : AFunc := ⟨1, 21, [(.cell 2 (some 256)), (.tmp 3)], B45⟩
-- F45L0 live: [0, 2, 4]
/-- (*strings.asciiSet).contains -/
def B46 : ACode := (.seq (.region [⟨(some 4), (.mov (.c (.bool false))), none, []⟩] none)
  (.seq (.region [⟨(some 5), (.mov (.t 0)), none, []⟩,
    ⟨(some 6), (.mov (.t 1)), none, []⟩,
    ⟨(some 7), (.nilCheck (.t 5)), none, []⟩,
    ⟨(some 8), (.indexArr 1 256 (.t 7) (.t 6)), none, []⟩,
    ⟨(some 9), (.load none (.t 8)), none, []⟩,
    ⟨(some 4), (.mov (.t 9)), none, []⟩] none)
  .ret))
def F46 : AFunc := ⟨2, 10, [(.tmp 4)], B46⟩
/-- internal/strconv.Itoa -/
def B47 : ACode := (.seq (.region [⟨(some 2), (.mov (.c (.string ⟨#[]⟩))), none, []⟩] none)
  (.seq (.region [⟨(some 3), (.mov (.t 0)), none, []⟩,
    ⟨(some 4), (.call (.f 58) [(.t 3), (.c (.int .i64 10))]), none, []⟩,
    ⟨(some 2), (.mov (.t 4)), none, []⟩] none)
  .ret))
def F47 : AFunc := ⟨1, 5, [(.tmp 2)], B47⟩
/-- strings.Split -/
def B48 : ACode := (.seq (.region [⟨(some 4), (.mov (.c (.slice none 0 0))), none, []⟩] none)
  (.seq (.region [⟨(some 5), (.mov (.t 0)), none, []⟩,
    ⟨(some 6), (.mov (.t 1)), none, []⟩,
    ⟨(some 7), (.call (.f 59) [(.t 5), (.t 6), (.c (.int .i64 0)), (.c (.int .i64 (-1)))]), none, []⟩,
    ⟨(some 4), (.mov (.t 7)), none, []⟩] none)
  .ret))
def F48 : AFunc := ⟨2, 8, [(.tmp 4)], B48⟩
def R49_0 : ACode := .region [⟨(some 22), (.mov (.t 0)), none, []⟩,
    ⟨(some 23), (.mov (.t 1)), none, []⟩,
    ⟨(some 24), (.indexStr (.t 23) (.c (.int .i64 0))), none, [1]⟩,
    ⟨(some 25), (.call (.f 61) [(.t 22), (.t 24)]), none, [0, 2]⟩,
    ⟨(some 26), (.mov (.t 1)), none, []⟩,
    ⟨(some 27), (.indexStr (.t 26) (.c (.int .i64 0))), none, [4]⟩,
    ⟨(some 28), (.call (.f 60) [(.t 25), (.t 27)]), none, [3, 5, 3]⟩,
    ⟨(some 4), (.mov (.t 28)), none, [6, 6, 0, 1, 2, 3, 4, 5, 6]⟩] (some [(0, 1), (0, 2), (0, 4), (1, 4), (2, 4), (3, 4), (0, 5), (1, 5), (2, 5), (3, 5)])
/-- strings.Trim -/
def B49 : ACode := (.seq (.region [⟨(some 4), (.mov (.c (.string ⟨#[]⟩))), none, []⟩] none)
  (.seq (.seq (.region [⟨(some 7), (.mov (.t 0)), none, []⟩,
    ⟨(some 8), (.bin .eql (.t 7) (.c (.string ⟨#[]⟩))), none, []⟩,
    ⟨(some 9), (.mov (.t 8)), none, []⟩,
    ⟨(some 10), (.mov (.t 1)), (some (9, false)), []⟩,
    ⟨(some 11), (.bin .eql (.t 10) (.c (.string ⟨#[]⟩))), (some (9, false)), []⟩,
    ⟨(some 12), (.pick (.t 9) (.c (.bool true)) (.t 11)), none, []⟩] none)
  (.cond (.t 12)
  (.seq (.region [⟨(some 13), (.mov (.t 0)), none, []⟩,
    ⟨(some 4), (.mov (.t 13)), none, []⟩] none)
  .ret)
  .skip))
  (.seq (.seq (.region [⟨(some 14), (.mov (.t 1)), none, []⟩,
    ⟨(some 15), (.lenStr (.t 14)), none, []⟩,
    ⟨(some 16), (.bin .eql (.t 15) (.c (.int .i64 1))), none, []⟩,
    ⟨(some 17), (.mov (.t 16)), none, []⟩,
    ⟨(some 18), (.mov (.t 1)), (some (17, true)), []⟩,
    ⟨(some 19), (.indexStr (.t 18) (.c (.int .i64 0))), (some (17, true)), []⟩,
    ⟨(some 20), (.bin .lss (.t 19) (.c (.int .u8 128))), (some (17, true)), []⟩,
    ⟨(some 21), (.pick (.t 17) (.t 20) (.c (.bool false))), none, []⟩] none)
  (.cond (.t 21)
  (.seq R49_0
  .ret)
  .skip))
  (.seq (.seq (.region [⟨(some 30), (.mov (.t 1)), none, []⟩,
    ⟨(some 31), (.call (.f 45) [(.t 30)]), none, []⟩,
    ⟨(some 29), (.mov (.t 31)), none, []⟩,
    ⟨(some 32), (.extract (.t 29) 0), none, []⟩,
    ⟨(some 33), (.extract (.t 29) 1), none, []⟩,
    ⟨(some 5), (.alloc 85 [(.bool false), (.bool false), (.bool false), (.bool false), (.bool false), (.bool false), (.bool false), (.bool false), (.bool false), (.bool false), (.bool false), (.bool false), (.bool false), (.bool false), (.bool false), (.bool false), (.bool false), (.bool false), (.bool false), (.bool false), (.bool false), (.bool false), (.bool false), (.bool false), (.bool false), (.bool false), (.bool false), (.bool false), (.bool false), (.bool false), (.bool false), (.bool false), (.bool false), (.bool false), (.bool false), (.bool false), (.bool false), (.bool false), (.bool false), (.bool false), (.bool false), (.bool false), (.bool false), (.bool false), (.bool false), (.bool false), (.bool false), (.bool false), (.bool false), (.bool false), (.bool false), (.bool false), (.bool false), (.bool false), (.bool false), (.bool false), (.bool false), (.bool false), (.bool false), (.bool false), (.bool false), (.bool false), (.bool false), (.bool false), (.bool false), (.bool false), (.bool false), (.bool false), (.bool false), (.bool false), (.bool false), (.bool false), (.bool false), (.bool false), (.bool false), (.bool false), (.bool false), (.bool false), (.bool false), (.bool false), (.bool false), (.bool false), (.bool false), (.bool false), (.bool false), (.bool false), (.bool false), (.bool false), (.bool false), (.bool false), (.bool false), (.bool false), (.bool false), (.bool false), (.bool false), (.bool false), (.bool false), (.bool false), (.bool false), (.bool false), (.bool false), (.bool false), (.bool false), (.bool false), (.bool false), (.bool false), (.bool false), (.bool false), (.bool false), (.bool false), (.bool false), (.bool false), (.bool false), (.bool false), (.bool false), (.bool false), (.bool false), (.bool false), (.bool false), (.bool false), (.bool false), (.bool false), (.bool false), (.bool false), (.bool false), (.bool false), (.bool false), (.bool false), (.bool false), (.bool false), (.bool false), (.bool false), (.bool false), (.bool false), (.bool false), (.bool false), (.bool false), (.bool false), (.bool false), (.bool false), (.bool false), (.bool false), (.bool false), (.bool false), (.bool false), (.bool false), (.bool false), (.bool false), (.bool false), (.bool false), (.bool false), (.bool false), (.bool false), (.bool false), (.bool false), (.bool false), (.bool false), (.bool false), (.bool false), (.bool false), (.bool false), (.bool false), (.bool false), (.bool false), (.bool false), (.bool false), (.bool false), (.bool false), (.bool false), (.bool false), (.bool false), (.bool false), (.bool false), (.bool false), (.bool false), (.bool false), (.bool false), (.bool false), (.bool false), (.bool false), (.bool false), (.bool false), (.bool false), (.bool false), (.bool false), (.bool false), (.bool false), (.bool false), (.bool false), (.bool false), (.bool false), (.bool false), (.bool false), (.bool false), (.bool false), (.bool false), (.bool false), (.bool false), (.bool false), (.bool false), (.bool false), (.bool false), (.bool false), (.bool false), (.bool false), (.bool false), (.bool false), (.bool false), (.bool false), (.bool false), (.bool false), (.bool false), (.bool false), (.bool false), (.bool false), (.bool false), (.bool false), (.bool false), (.bool false), (.bool false), (.bool false), (.bool false), (.bool false), (.bool false), (.bool false), (.bool false), (.bool false), (.bool false), (.bool false), (.bool false), (.bool false), (.bool false), (.bool false), (.bool false), (.bool false), (.bool false), (.bool false), (.bool false), (.bool false), (.bool false), (.bool false), (.bool false), (.bool false), (.bool false), (.bool false), (.bool false), (.bool false), (.bool false), (.bool false), (.bool false), (.bool false), (.bool false), (.bool false), (.bool false), (.bool false), (.bool false)]), none, []⟩,
    ⟨none, (.store 256 (.t 5) (.t 32)), none, []⟩,
    ⟨(some 6), (.mov (.t 33)), none, []⟩] none)
  (.seq (.region [⟨(some 34), (.mov (.t 6)), none, []⟩] none)
  (.cond (.t 34)
  (.seq (.region [⟨(some 35), (.mov (.t 0)), none, []⟩,
    ⟨(some 36), (.call (.f 63) [(.t 35), (.t 5)]), none, []⟩,
    ⟨(some 37), (.call (.f 62) [(.t 36), (.t 5)]), none, []⟩,
    ⟨(some 4), (.mov (.t 37)), none, []⟩] none)
  .ret)
  .skip)))
  (.seq (.region [⟨(some 38), (.mov (.t 0)), none, []⟩,
    ⟨(some 39), (.mov (.t 1)), none, []⟩,
    ⟨(some 40), (.call (.f 65) [(.t 38), (.t 39)]), none, []⟩,
    ⟨(some 41), (.mov (.t 1)), none, []⟩,
    ⟨(some 42), (.call (.f 64) [(.t 40), (.t 41)]), none, []⟩,
    ⟨(some 4), (.mov (.t 42)), none, []⟩] none)
  .ret)))))
def F49 : AFunc := ⟨2, 43, [(.tmp 4)], B49⟩
/-- strconv.Atoi -/
def B50 : ACode := (.seq (.region [⟨(some 2), (.mov (.c (.int .i64 0))), none, []⟩,
    ⟨(some 3), (.mov (.c .nilIface)), none, []⟩] none)
  (.seq (.region [⟨(some 7), (.mov (.t 0)), none, []⟩,
    ⟨(some 8), (.call (.f 66) [(.t 7)]), none, []⟩,
    ⟨(some 6), (.mov (.t 8)), none, []⟩,
    ⟨(some 9), (.extract (.t 6) 0), none, []⟩,
    ⟨(some 10), (.extract (.t 6) 1), none, []⟩,
    ⟨(some 4), (.mov (.t 9)), none, []⟩,
    ⟨(some 5), (.mov (.t 10)), none, []⟩] none)
  (.seq (.seq (.region [⟨(some 11), (.mov (.t 5)), none, []⟩,
    ⟨(some 12), (.eqv true .iface true (.t 11) (.c .nilIface)), none, []⟩] none)
  (.cond (.t 12)
  (.seq (.region [⟨(some 13), (.mov (.t 4)), none, []⟩,
    ⟨(some 14), (.mov (.t 0)), none, []⟩,
    ⟨(some 15), (.mov (.t 5)), none, []⟩,
    ⟨(some 16), (.call (.f 67) [(.c (.string ⟨#[65, 116, 111, 105]⟩)), (.t 14), (.c (.int .i64 0)), (.c (.int .i64 0)), (.t 15)]), none, []⟩,
    ⟨(some 2), (.mov (.t 13)), none, []⟩,
    ⟨(some 3), (.mov (.t 16)), none, []⟩] none)
  .ret)
  .skip))
  (.seq (.region [⟨(some 17), (.mov (.t 4)), none, []⟩,
    ⟨(some 2), (.mov (.t 17)), none, []⟩,
    ⟨(some 3), (.mov (.c .nilIface)), none, []⟩] none)
  .ret))))
def F50 : AFunc := ⟨1, 18, [(.tmp 2), (.tmp 3)], B50⟩
/-- internal/stringslite.Index -/
def F51L0 : ACode := (.seq (.seq (.region [⟨(some 57), (.mov (.t 8)), none, []⟩,
    ⟨(some 58), (.mov (.t 9)), none, []⟩,
    ⟨(some 59), (.bin .lss (.t 57) (.t 58)), none, []⟩] none)
  (.cond (.t 59)
  .skip
  (.exit 1)))
  (.block 2 (.seq (.seq (.region [⟨(some 60), (.mov (.t 0)), none, []⟩,
    ⟨(some 61), (.mov (.t 8)), none, []⟩,
    ⟨(some 62), (.indexStr (.t 60) (.t 61)), none, []⟩,
    ⟨(some 63), (.mov (.t 6)), none, []⟩,
    ⟨(some 64), (.bin .neq (.t 62) (.t 63)), none, []⟩] none)
  (.cond (.t 64)
  (.seq (.region [⟨(some 65), (.mov (.t 0)), none, []⟩,
    ⟨(some 66), (.mov (.t 8)), none, []⟩,
    ⟨(some 67), (.bin .add (.t 66) (.c (.int .i64 1))), none, []⟩,
    ⟨(some 68), (.mov (.t 9)), none, []⟩,
    ⟨(some 69), (.sliceStr (.t 65) (some (.t 67)) (some (.t 68))), none, []⟩,
    ⟨(some 70), (.mov (.t 6)), none, []⟩,
    ⟨(some 71), (.call (.f 68) [(.t 69), (.t 70)]), none, []⟩,
    ⟨(some 11), (.mov (.t 71)), none, []⟩] none)
  (.seq (.seq (.region [⟨(some 72), (.mov (.t 11)), none, []⟩,
    ⟨(some 73), (.bin .lss (.t 72) (.c (.int .i64 0))), none, []⟩] none)
  (.cond (.t 73)
  (.seq (.region [⟨(some 4), (.mov (.c (.int .i64 (-1)))), none, []⟩] none)
  .ret)
  .skip))
  (.region [⟨(some 74), (.mov (.t 8)), none, []⟩,
    ⟨(some 75), (.mov (.t 11)), none, []⟩,
    ⟨(some 76), (.bin .add (.t 75) (.c (.int .i64 1))), none, []⟩,
    ⟨(some 77), (.bin .add (.t 74) (.t 76)), none, []⟩,
    ⟨(some 8), (.mov (.t 77)), none, []⟩] none)))
  .skip))
  (.seq (.seq (.region [⟨(some 78), (.mov (.t 0)), none, []⟩,
    ⟨(some 79), (.mov (.t 8)), none, []⟩,
    ⟨(some 80), (.bin .add (.t 79) (.c (.int .i64 1))), none, []⟩,
    ⟨(some 81), (.indexStr (.t 78) (.t 80)), none, []⟩,
    ⟨(some 82), (.mov (.t 7)), none, []⟩,
    ⟨(some 83), (.bin .eql (.t 81) (.t 82)), none, []⟩,
    ⟨(some 84), (.mov (.t 83)), none, []⟩,
    ⟨(some 85), (.mov (.t 0)), (some (84, true)), []⟩,
    ⟨(some 86), (.mov (.t 8)), (some (84, true)), []⟩,
    ⟨(some 87), (.mov (.t 8)), (some (84, true)), []⟩,
    ⟨(some 88), (.mov (.t 5)), (some (84, true)), []⟩,
    ⟨(some 89), (.bin .add (.t 87) (.t 88)), (some (84, true)), []⟩,
    ⟨(some 90), (.sliceStr (.t 85) (some (.t 86)) (some (.t 89))), (some (84, true)), []⟩,
    ⟨(some 91), (.mov (.t 1)), (some (84, true)), []⟩,
    ⟨(some 92), (.bin .eql (.t 90) (.t 91)), (some (84, true)), []⟩,
    ⟨(some 93), (.pick (.t 84) (.t 92) (.c (.bool false))), none, []⟩] none)
  (.cond (.t 93)
  (.seq (.region [⟨(some 94), (.mov (.t 8)), none, []⟩,
    ⟨(some 4), (.mov (.t 94)), none, []⟩] none)
  .ret)
  .skip))
  (.seq (.region [⟨(some 95), (.mov (.t 8)), none, []⟩,
    ⟨(some 96), (.bin .add (.t 95) (.c (.int .i64 1))), none, []⟩,
    ⟨(some 8), (.mov (.t 96)), none, []⟩] none)
  (.seq (.region [⟨(some 97), (.mov (.t 10)), none, []⟩,
    ⟨(some 98), (.bin .add (.t 97) (.c (.int .i64 1))), none, []⟩,
    ⟨(some 10), (.mov (.t 98)), none, []⟩] none)
  (.seq (.region [⟨(some 99), (.mov (.t 5)), none, []⟩,
    ⟨(some 100), (.load none (.g 0)), none, []⟩,
    ⟨(some 101), (.bin .leq (.t 99) (.t 100)), none, []⟩,
    ⟨(some 102), (.mov (.t 101)), none, []⟩,
    ⟨(some 103), (.mov (.t 10)), (some (102, true)), []⟩,
    ⟨(some 104), (.mov (.t 8)), (some (102, true)), []⟩,
    ⟨(some 105), (.call (.f 54) [(.t 104)]), (some (102, true)), []⟩,
    ⟨(some 106), (.bin .gtr (.t 103) (.t 105)), (some (102, true)), []⟩,
    ⟨(some 107), (.pick (.t 102) (.t 106) (.c (.bool false))), none, []⟩] none)
  (.cond (.t 107)
  (.seq (.region [⟨(some 108), (.mov (.t 0)), none, []⟩,
    ⟨(some 109), (.mov (.t 8)), none, []⟩,
    ⟨(some 110), (.sliceStr (.t 108) (some (.t 109)) none), none, []⟩,
    ⟨(some 111), (.mov (.t 1)), none, []⟩,
    ⟨(some 112), (.call (.f 55) [(.t 110), (.t 111)]), none, []⟩,
    ⟨(some 12), (.mov (.t 112)), none, []⟩] none)
  (.seq (.seq (.region [⟨(some 113), (.mov (.t 12)), none, []⟩,
    ⟨(some 114), (.bin .geq (.t 113) (.c (.int .i64 0))), none, []⟩] none)
  (.cond (.t 114)
  (.seq (.region [⟨(some 115), (.mov (.t 12)), none, []⟩,
    ⟨(some 116), (.mov (.t 8)), none, []⟩,
    ⟨(some 117), (.bin .add (.t 115) (.t 116)), none, []⟩,
    ⟨(some 4), (.mov (.t 117)), none, []⟩] none)
  .ret)
  .skip))
  (.seq (.region [⟨(some 4), (.mov (.c (.int .i64 (-1)))), none, []⟩] none)
  .ret)))
  (.seq (.region [⟨(some 118), (.mov (.t 5)), none, []⟩,
    ⟨(some 119), (.load none (.g 0)), none, []⟩,
    ⟨(some 120), (.bin .gtr (.t 118) (.t 119)), none, []⟩,
    ⟨(some 121), (.mov (.t 120)), none, []⟩,
    ⟨(some 122), (.mov (.t 10)), (some (121, true)), []⟩,
    ⟨(some 123), (.mov (.t 8)), (some (121, true)), []⟩,
    ⟨(some 124), (.bin .shr (.t 123) (.c (.int .u64 4))), (some (121, true)), []⟩,
    ⟨(some 125), (.bin .add (.c (.int .i64 4)) (.t 124)), (some (121, true)), []⟩,
    ⟨(some 126), (.bin .geq (.t 122) (.t 125)), (some (121, true)), []⟩,
    ⟨(some 127), (.pick (.t 121) (.t 126) (.c (.bool false))), none, []⟩,
    ⟨(some 128), (.mov (.t 127)), none, []⟩,
    ⟨(some 129), (.mov (.t 8)), (some (128, true)), []⟩,
    ⟨(some 130), (.mov (.t 9)), (some (128, true)), []⟩,
    ⟨(some 131), (.bin .lss (.t 129) (.t 130)), (some (128, true)), []⟩,
    ⟨(some 132), (.pick (.t 128) (.t 131) (.c (.bool false))), none, []⟩] none)
  (.cond (.t 132)
  (.seq (.region [⟨(some 133), (.mov (.t 0)), none, []⟩,
    ⟨(some 134), (.mov (.t 8)), none, []⟩,
    ⟨(some 135), (.sliceStr (.t 133) (some (.t 134)) none), none, []⟩,
    ⟨(some 136), (.mov (.t 1)), none, []⟩,
    ⟨(some 137), (.call (.f 69) [(.t 135), (.t 136)]), none, []⟩,
    ⟨(some 13), (.mov (.t 137)), none, []⟩] none)
  (.seq (.seq (.region [⟨(some 138), (.mov (.t 13)), none, []⟩,
    ⟨(some 139), (.bin .lss (.t 138) (.c (.int .i64 0))), none, []⟩] none)
  (.cond (.t 139)
  (.seq (.region [⟨(some 4), (.mov (.c (.int .i64 (-1)))), none, []⟩] none)
  .ret)
  .skip))
  (.seq (.region [⟨(some 140), (.mov (.t 8)), none, []⟩,
    ⟨(some 141), (.mov (.t 13)), none, []⟩,
    ⟨(some 142), (.bin .add (.t 140) (.t 141)), none, []⟩,
    ⟨(some 4), (.mov (.t 142)), none, []⟩] none)
  .ret)))
  .skip))))))))))
def B51 : ACode := (.seq (.region [⟨(some 4), (.mov (.c (.int .i64 0))), none, []⟩] none)
  (.seq (.region [⟨(some 14), (.mov (.t 1)), none, []⟩,
    ⟨(some 15), (.lenStr (.t 14)), none, []⟩,
    ⟨(some 5), (.mov (.t 15)), none, []⟩] none)
  (.seq (.block 0 (.seq (.region [⟨(some 17), (.mov (.t 5)), none, []⟩,
    ⟨(some 18), (.bin .eql (.t 17) (.c (.int .i64 0))), none, []⟩,
    ⟨(some 19), (.mov (.t 18)), none, []⟩,
    ⟨(some 20), (.mov (.t 1)), (some (19, false)), []⟩,
    ⟨(some 21), (.mov (.t 0)), (some (19, false)), []⟩,
    ⟨(some 22), (.bin .eql (.t 20) (.t 21)), (some (19, false)), []⟩,
    ⟨(some 23), (.pick (.t 19) (.c (.bool true)) (.t 22)), none, []⟩,
    ⟨(some 16), (.mov (.t 23)), none, []⟩] none)
  (.cond (.t 16)
  (.seq (.region [⟨(some 4), (.mov (.c (.int .i64 0))), none, []⟩] none)
  .ret)
  (.seq (.region [⟨(some 25), (.mov (.t 5)), none, []⟩,
    ⟨(some 26), (.bin .eql (.t 25) (.c (.int .i64 1))), none, []⟩,
    ⟨(some 24), (.mov (.t 26)), none, []⟩] none)
  (.cond (.t 24)
  (.seq (.region [⟨(some 27), (.mov (.t 0)), none, []⟩,
    ⟨(some 28), (.mov (.t 1)), none, []⟩,
    ⟨(some 29), (.indexStr (.t 28) (.c (.int .i64 0))), none, []⟩,
    ⟨(some 30), (.call (.f 68) [(.t 27), (.t 29)]), none, []⟩,
    ⟨(some 4), (.mov (.t 30)), none, []⟩] none)
  .ret)
  (.seq (.region [⟨(some 32), (.mov (.t 5)), none, []⟩,
    ⟨(some 33), (.mov (.t 0)), none, []⟩,
    ⟨(some 34), (.lenStr (.t 33)), none, []⟩,
    ⟨(some 35), (.bin .geq (.t 32) (.t 34)), none, []⟩,
    ⟨(some 31), (.mov (.t 35)), none, []⟩] none)
  (.cond (.t 31)
  (.seq (.region [⟨(some 4), (.mov (.c (.int .i64 (-1)))), none, []⟩] none)
  .ret)
  (.seq (.region [⟨(some 37), (.mov (.t 5)), none, []⟩,
    ⟨(some 38), (.load none (.g 0)), none, []⟩,
    ⟨(some 39), (.bin .leq (.t 37) (.t 38)), none, []⟩,
    ⟨(some 40), (.mov (.t 39)), none, []⟩,
    ⟨(some 41), (.mov (.t 0)), (some (40, true)), []⟩,
    ⟨(some 42), (.lenStr (.t 41)), (some (40, true)), []⟩,
    ⟨(some 43), (.bin .leq (.t 42) (.c (.int .i64 64))), (some (40, true)), []⟩,
    ⟨(some 44), (.pick (.t 40) (.t 43) (.c (.bool false))), none, []⟩,
    ⟨(some 36), (.mov (.t 44)), none, []⟩] none)
  (.cond (.t 36)
  (.seq (.region [⟨(some 45), (.mov (.t 0)), none, []⟩,
    ⟨(some 46), (.mov (.t 1)), none, []⟩,
    ⟨(some 47), (.call (.f 55) [(.t 45), (.t 46)]), none, []⟩,
    ⟨(some 4), (.mov (.t 47)), none, []⟩] none)
  .ret)
  .skip)))))))))
  (.seq (.region [⟨(some 48), (.mov (.t 1)), none, []⟩,
    ⟨(some 49), (.indexStr (.t 48) (.c (.int .i64 0))), none, []⟩,
    ⟨(some 6), (.mov (.t 49)), none, []⟩] none)
  (.seq (.region [⟨(some 50), (.mov (.t 1)), none, []⟩,
    ⟨(some 51), (.indexStr (.t 50) (.c (.int .i64 1))), none, []⟩,
    ⟨(some 7), (.mov (.t 51)), none, []⟩] none)
  (.seq (.region [⟨(some 8), (.mov (.c (.int .i64 0))), none, []⟩] none)
  (.seq (.region [⟨(some 52), (.mov (.t 0)), none, []⟩,
    ⟨(some 53), (.lenStr (.t 52)), none, []⟩,
    ⟨(some 54), (.mov (.t 5)), none, []⟩,
    ⟨(some 55), (.bin .sub (.t 53) (.t 54)), none, []⟩,
    ⟨(some 56), (.bin .add (.t 55) (.c (.int .i64 1))), none, []⟩,
    ⟨(some 9), (.mov (.t 56)), none, []⟩] none)
  (.seq (.region [⟨(some 10), (.mov (.c (.int .i64 0))), none, []⟩] none)
  (.seq (.block 1 (.loop F51L0))
  (.seq (.region [⟨(some 4), (.mov (.c (.int .i64 (-1)))), none, []⟩] none)
  .ret))))))))))
def F51 : AFunc := ⟨2, 143, [(.tmp 4)], B51⟩
-- F51L0 live: [0, 1, 5, 6, 7, 8, 9, 10]
/-- strings.IndexByte -/
def B52 : ACode := (.seq (.region [⟨(some 4), (.mov (.c (.int .i64 0))), none, []⟩] none)
  (.seq (.region [⟨(some 5), (.mov (.t 0)), none, []⟩,
    ⟨(some 6), (.mov (.t 1)), none, []⟩,
    ⟨(some 7), (.call (.f 68) [(.t 5), (.t 6)]), none, []⟩,
    ⟨(some 4), (.mov (.t 7)), none, []⟩] none)
  .ret))
def F52 : AFunc := ⟨2, 8, [(.tmp 4)], B52⟩
/-- unicode/utf8.ValidRune -/
def B53 : ACode := (.seq (.region [⟨(some 2), (.mov (.c (.bool false))), none, []⟩] none)
  (.seq (.block 0 (.seq (.region [⟨(some 4), (.mov (.t 0)), none, []⟩,
    ⟨(some 5), (.bin .leq (.c (.int .i32 0)) (.t 4)), none, []⟩,
    ⟨(some 6), (.mov (.t 5)), none, []⟩,
    ⟨(some 7), (.mov (.t 0)), (some (6, true)), []⟩,
    ⟨(some 8), (.bin .lss (.t 7) (.c (.int .i32 55296))), (some (6, true)), []⟩,
    ⟨(some 9), (.pick (.t 6) (.t 8) (.c (.bool false))), none, []⟩,
    ⟨(some 3), (.mov (.t 9)), none, []⟩] none)
  (.cond (.t 3)
  (.seq (.region [⟨(some 2), (.mov (.c (.bool true))), none, []⟩] none)
  .ret)
  (.seq (.region [⟨(some 11), (.mov (.t 0)), none, []⟩,
    ⟨(some 12), (.bin .lss (.c (.int .i32 57343)) (.t 11)), none, []⟩,
    ⟨(some 13), (.mov (.t 12)), none, []⟩,
    ⟨(some 14), (.mov (.t 0)), (some (13, true)), []⟩,
    ⟨(some 15), (.bin .leq (.t 14) (.c (.int .i32 1114111))), (some (13, true)), []⟩,
    ⟨(some 16), (.pick (.t 13) (.t 15) (.c (.bool false))), none, []⟩,
    ⟨(some 10), (.mov (.t 16)), none, []⟩] none)
  (.cond (.t 10)
  (.seq (.region [⟨(some 2), (.mov (.c (.bool true))), none, []⟩] none)
  .ret)
  .skip)))))
  (.seq (.region [⟨(some 2), (.mov (.c (.bool false))), none, []⟩] none)
  .ret)))
def F53 : AFunc := ⟨1, 17, [(.tmp 2)], B53⟩
/-- internal/bytealg.Cutover -/
def B54 : ACode := (.seq (.region [⟨(some 2), (.mov (.c (.int .i64 0))), none, []⟩] none)
  (.seq (.region [⟨(some 3), (.mov (.t 0)), none, []⟩,
    ⟨(some 4), (.bin .add (.t 3) (.c (.int .i64 16))), none, []⟩,
    ⟨(some 5), (.bin .quo (.t 4) (.c (.int .i64 8))), none, []⟩,
    ⟨(some 2), (.mov (.t 5)), none, []⟩] none)
  .ret))
def F54 : AFunc := ⟨1, 6, [(.tmp 2)], B54⟩
/-- internal/strconv.FormatInt -/
def B58 : ACode := (.seq (.region [⟨(some 4), (.mov (.c (.string ⟨#[]⟩))), none, []⟩] none)
  (.seq (.seq (.region [⟨(some 10), (.mov (.t 1)), none, []⟩,
    ⟨(some 11), (.bin .eql (.t 10) (.c (.int .i64 10))), none, []⟩] none)
  (.cond (.t 11)
  (.seq (.seq (.region [⟨(some 12), (.mov (.t 0)), none, []⟩,
    ⟨(some 13), (.bin .leq (.c (.int .i64 0)) (.t 12)), none, []⟩,
    ⟨(some 14), (.mov (.t 13)), none, []⟩,
    ⟨(some 15), (.mov (.t 0)), (some (14, true)), []⟩,
    ⟨(some 16), (.bin .lss (.t 15) (.c (.int .i64 100))), (some (14, true)), []⟩,
    ⟨(some 17), (.pick (.t 14) (.t 16) (.c (.bool false))), none, []⟩] none)
  (.cond (.t 17)
  (.seq (.region [⟨(some 18), (.mov (.t 0)), none, []⟩,
    ⟨(some 19), (.call (.f 70) [(.t 18)]), none, []⟩,
    ⟨(some 4), (.mov (.t 19)), none, []⟩] none)
  .ret)
  .skip))
  (.seq (.region [⟨(some 5), (.alloc 102 [(.int .u8 0), (.int .u8 0), (.int .u8 0), (.int .u8 0), (.int .u8 0), (.int .u8 0), (.int .u8 0), (.int .u8 0), (.int .u8 0), (.int .u8 0), (.int .u8 0), (.int .u8 0), (.int .u8 0), (.int .u8 0), (.int .u8 0), (.int .u8 0), (.int .u8 0), (.int .u8 0), (.int .u8 0), (.int .u8 0), (.int .u8 0), (.int .u8 0), (.int .u8 0), (.int .u8 0)]), none, []⟩] none)
  (.seq (.region [⟨(some 20), (.mov (.t 0)), none, []⟩,
    ⟨(some 21), (.conv .u64 (.t 20)), none, []⟩,
    ⟨(some 6), (.mov (.t 21)), none, []⟩] none)
  (.seq (.seq (.region [⟨(some 22), (.mov (.t 0)), none, []⟩,
    ⟨(some 23), (.bin .lss (.t 22) (.c (.int .i64 0))), none, []⟩] none)
  (.cond (.t 23)
  (.region [⟨(some 24), (.mov (.t 6)), none, []⟩,
    ⟨(some 25), (.un .neg (.t 24)), none, []⟩,
    ⟨(some 6), (.mov (.t 25)), none, []⟩] none)
  .skip))
  (.seq (.region [⟨(some 26), (.mov (.t 6)), none, []⟩,
    ⟨(some 27), (.call (.f 71) [(.t 26)]), none, []⟩,
    ⟨(some 7), (.mov (.t 27)), none, []⟩] none)
  (.seq (.region [⟨(some 28), (.mov (.t 7)), none, []⟩,
    ⟨(some 29), (.bin .add (.c (.int .i64 1)) (.t 28)), none, []⟩,
    ⟨(some 30), (.sliceArr 1 24 (.t 5) (some (.c (.int .i64 1))) (some (.t 29))), none, []⟩,
    ⟨(some 31), (.mov (.t 6)), none, []⟩,
    ⟨(some 32), (.call (.f 72) [(.t 30), (.t 31)]), none, []⟩] none)
  (.seq (.seq (.region [⟨(some 33), (.mov (.t 0)), none, []⟩,
    ⟨(some 34), (.bin .lss (.t 33) (.c (.int .i64 0))), none, []⟩] none)
  (.cond (.t 34)
  (.seq (.region [⟨(some 35), (.indexArr 1 24 (.t 5) (.c (.int .i64 0))), none, []⟩,
    ⟨none, (.store 1 (.t 35) (.c (.int .u8 45))), none, []⟩] none)
  (.seq (.region [⟨(some 36), (.mov (.t 7)), none, []⟩,
    ⟨(some 37), (.bin .add (.c (.int .i64 1)) (.t 36)), none, []⟩,
    ⟨(some 38), (.sliceArr 1 24 (.t 5) none (some (.t 37))), none, []⟩,
    ⟨(some 39), (.strOf (.t 38)), none, []⟩,
    ⟨(some 4), (.mov (.t 39)), none, []⟩] none)
  .ret))
  .skip))
  (.seq (.region [⟨(some 40), (.mov (.t 7)), none, []⟩,
    ⟨(some 41), (.bin .add (.c (.int .i64 1)) (.t 40)), none, []⟩,
    ⟨(some 42), (.sliceArr 1 24 (.t 5) (some (.c (.int .i64 1))) (some (.t 41))), none, []⟩,
    ⟨(some 43), (.strOf (.t 42)), none, []⟩,
    ⟨(some 4), (.mov (.t 43)), none, []⟩] none)
  .ret))))))))
  .skip))
  (.seq (.region [⟨(some 45), (.mov (.t 0)), none, []⟩,
    ⟨(some 46), (.conv .u64 (.t 45)), none, []⟩,
    ⟨(some 47), (.mov (.t 1)), none, []⟩,
    ⟨(some 48), (.mov (.t 0)), none, []⟩,
    ⟨(some 49), (.bin .lss (.t 48) (.c (.int .i64 0))), none, []⟩,
    ⟨(some 50), (.call (.f 73) [(.c (.slice none 0 0)), (.t 46), (.t 47), (.t 49), (.c (.bool false))]), none, []⟩,
    ⟨(some 44), (.mov (.t 50)), none, []⟩,
    ⟨(some 51), (.extract (.t 44) 0), none, []⟩,
    ⟨(some 52), (.extract (.t 44) 1), none, []⟩,
    ⟨(some 8), (.mov (.t 51)), none, []⟩,
    ⟨(some 9), (.mov (.t 52)), none, []⟩] none)
  (.seq (.region [⟨(some 53), (.mov (.t 9)), none, []⟩,
    ⟨(some 4), (.mov (.t 53)), none, []⟩] none)
  .ret))))
def F58 : AFunc := ⟨2, 54, [(.tmp 4)], B58⟩
/-- strings.genSplit -/
def F59L0 : ACode := (.seq (.seq (.region [⟨(some 34), (.mov (.t 10)), none, []⟩,
    ⟨(some 35), (.mov (.t 3)), none, []⟩,
    ⟨(some 36), (.bin .lss (.t 34) (.t 35)), none, []⟩] none)
  (.cond (.t 36)
  .skip
  (.exit 0)))
  (.block 1 (.seq (.region [⟨(some 37), (.mov (.t 0)), none, []⟩,
    ⟨(some 38), (.mov (.t 1)), none, []⟩,
    ⟨(some 39), (.call (.f 76) [(.t 37), (.t 38)]), none, []⟩,
    ⟨(some 11), (.mov (.t 39)), none, []⟩] none)
  (.seq (.seq (.region [⟨(some 40), (.mov (.t 11)), none, []⟩,
    ⟨(some 41), (.bin .lss (.t 40) (.c (.int .i64 0))), none, []⟩] none)
  (.cond (.t 41)
  (.exit 0)
  .skip))
  (.seq (.region [⟨(some 42), (.mov (.t 9)), none, []⟩,
    ⟨(some 43), (.mov (.t 10)), none, []⟩,
    ⟨(some 44), (.mov (.t 0)), none, []⟩,
    ⟨(some 45), (.mov (.t 11)), none, []⟩,
    ⟨(some 46), (.mov (.t 2)), none, []⟩,
    ⟨(some 47), (.bin .add (.t 45) (.t 46)), none, []⟩,
    ⟨(some 48), (.sliceStr (.t 44) none (some (.t 47))), none, []⟩,
    ⟨(some 49), (.indexAddr 1 (.t 42) (.t 43)), none, []⟩,
    ⟨none, (.store 1 (.t 49) (.t 48)), none, []⟩] none)
  (.seq (.region [⟨(some 50), (.mov (.t 0)), none, []⟩,
    ⟨(some 51), (.mov (.t 11)), none, []⟩,
    ⟨(some 52), (.mov (.t 1)), none, []⟩,
    ⟨(some 53), (.lenStr (.t 52)), none, []⟩,
    ⟨(some 54), (.bin .add (.t 51) (.t 53)), none, []⟩,
    ⟨(some 55), (.sliceStr (.t 50) (some (.t 54)) none), none, []⟩,
    ⟨(some 0), (.mov (.t 55)), none, []⟩] none)
  (.region [⟨(some 56), (.mov (.t 10)), none, []⟩,
    ⟨(some 57), (.bin .add (.t 56) (.c (.int .i64 1))), none, []⟩,
    ⟨(some 10), (.mov (.t 57)), none, []⟩] none)))))))
def B59 : ACode := (.seq (.region [⟨(some 8), (.mov (.c (.slice none 0 0))), none, []⟩] none)
  (.seq (.seq (.region [⟨(some 12), (.mov (.t 3)), none, []⟩,
    ⟨(some 13), (.bin .eql (.t 12) (.c (.int .i64 0))), none, []⟩] none)
  (.cond (.t 13)
  (.seq (.region [⟨(some 8), (.mov (.c (.slice none 0 0))), none, []⟩] none)
  .ret)
  .skip))
  (.seq (.seq (.region [⟨(some 14), (.mov (.t 1)), none, []⟩,
    ⟨(some 15), (.bin .eql (.t 14) (.c (.string ⟨#[]⟩))), none, []⟩] none)
  (.cond (.t 15)
  (.seq (.region [⟨(some 16), (.mov (.t 0)), none, []⟩,
    ⟨(some 17), (.mov (.t 3)), none, []⟩,
    ⟨(some 18), (.call (.f 74) [(.t 16), (.t 17)]), none, []⟩,
    ⟨(some 8), (.mov (.t 18)), none, []⟩] none)
  .ret)
  .skip))
  (.seq (.seq (.region [⟨(some 19), (.mov (.t 3)), none, []⟩,
    ⟨(some 20), (.bin .lss (.t 19) (.c (.int .i64 0))), none, []⟩] none)
  (.cond (.t 20)
  (.region [⟨(some 21), (.mov (.t 0)), none, []⟩,
    ⟨(some 22), (.mov (.t 1)), none, []⟩,
    ⟨(some 23), (.call (.f 75) [(.t 21), (.t 22)]), none, []⟩,
    ⟨(some 24), (.bin .add (.t 23) (.c (.int .i64 1))), none, []⟩,
    ⟨(some 3), (.mov (.t 24)), none, []⟩] none)
  .skip))
  (.seq (.region [⟨(some 25), (.mov (.t 3)), none, []⟩,
    ⟨(some 26), (.mov (.t 0)), none, []⟩,
    ⟨(some 27), (.lenStr (.t 26)), none, []⟩,
    ⟨(some 28), (.bin .add (.t 27) (.c (.int .i64 1))), none, []⟩,
    ⟨(some 29), (.min [(.t 25), (.t 28)]), none, []⟩,
    ⟨(some 3), (.mov (.t 29)), none, []⟩] none)
  (.seq (.region [⟨(some 30), (.mov (.t 3)), none, []⟩,
    ⟨(some 31), (.makeSlice 9 1 16 [(.string ⟨#[]⟩)] (.t 30) (.t 30)), none, []⟩,
    ⟨(some 9), (.mov (.t 31)), none, []⟩] none)
  (.seq (.region [⟨(some 32), (.mov (.t 3)), none, []⟩,
    ⟨(some 33), (.bin .sub (.t 32) (.c (.int .i64 1))), none, []⟩,
    ⟨(some 3), (.mov (.t 33)), none, []⟩] none)
  (.seq (.region [⟨(some 10), (.mov (.c (.int .i64 0))), none, []⟩] none)
  (.seq (.block 0 (.loop F59L0))
  (.seq (.region [⟨(some 58), (.mov (.t 9)), none, []⟩,
    ⟨(some 59), (.mov (.t 10)), none, []⟩,
    ⟨(some 60), (.mov (.t 0)), none, []⟩,
    ⟨(some 61), (.indexAddr 1 (.t 58) (.t 59)), none, []⟩,
    ⟨none, (.store 1 (.t 61) (.t 60)), none, []⟩] none)
  (.seq (.region [⟨(some 62), (.mov (.t 9)), none, []⟩,
    ⟨(some 63), (.mov (.t 10)), none, []⟩,
    ⟨(some 64), (.bin .add (.t 63) (.c (.int .i64 1))), none, []⟩,
    ⟨(some 65), (.slice 1 (.t 62) none (some (.t 64)) none), none, []⟩,
    ⟨(some 8), (.mov (.t 65)), none, []⟩] none)
  .ret)))))))))))
def F59 : AFunc := ⟨4, 66, [(.tmp 8)], B59⟩
-- F59L0 live: [0, 1, 2, 3, 9, 10]
/-- strings.trimLeftByte -/
def F60L0 : ACode := (.seq (.seq (.region [⟨(some 5), (.mov (.t 0)), none, []⟩,
    ⟨(some 6), (.lenStr (.t 5)), none, []⟩,
    ⟨(some 7), (.bin .gtr (.t 6) (.c (.int .i64 0))), none, []⟩,
    ⟨(some 8), (.mov (.t 7)), none, []⟩,
    ⟨(some 9), (.mov (.t 0)), (some (8, true)), []⟩,
    ⟨(some 10), (.indexStr (.t 9) (.c (.int .i64 0))), (some (8, true)), []⟩,
    ⟨(some 11), (.mov (.t 1)), (some (8, true)), []⟩,
    ⟨(some 12), (.bin .eql (.t 10) (.t 11)), (some (8, true)), []⟩,
    ⟨(some 13), (.pick (.t 8) (.t 12) (.c (.bool false))), none, []⟩] none)
  (.cond (.t 13)
  .skip
  (.exit 0)))
  (.block 1 (.region [⟨(some 14), (.mov (.t 0)), none, []⟩,
    ⟨(some 15), (.sliceStr (.t 14) (some (.c (.int .i64 1))) none), none, []⟩,
    ⟨(some 0), (.mov (.t 15)), none, []⟩] none)))
def B60 : ACode := (.seq (.region [⟨(some 4), (.mov (.c (.string ⟨#[]⟩))), none, []⟩] none)
  (.seq (.block 0 (.loop F60L0))
  (.seq (.region [⟨(some 16), (.mov (.t 0)), none, []⟩,
    ⟨(some 4), (.mov (.t 16)), none, []⟩] none)
  .ret)))
def F60 : AFunc := ⟨2, 17, [(.tmp 4)], B60⟩
-- F60L0 live: [0, 1]
/-- strings.trimRightByte -/
def F61L0 : ACode := (.seq (.seq (.region [⟨(some 5), (.mov (.t 0)), none, []⟩,
    ⟨(some 6), (.lenStr (.t 5)), none, []⟩,
    ⟨(some 7), (.bin .gtr (.t 6) (.c (.int .i64 0))), none, []⟩,
    ⟨(some 8), (.mov (.t 7)), none, []⟩,
    ⟨(some 9), (.mov (.t 0)), (some (8, true)), []⟩,
    ⟨(some 10), (.mov (.t 0)), (some (8, true)), []⟩,
    ⟨(some 11), (.lenStr (.t 10)), (some (8, true)), []⟩,
    ⟨(some 12), (.bin .sub (.t 11) (.c (.int .i64 1))), (some (8, true)), []⟩,
    ⟨(some 13), (.indexStr (.t 9) (.t 12)), (some (8, true)), []⟩,
    ⟨(some 14), (.mov (.t 1)), (some (8, true)), []⟩,
    ⟨(some 15), (.bin .eql (.t 13) (.t 14)), (some (8, true)), []⟩,
    ⟨(some 16), (.pick (.t 8) (.t 15) (.c (.bool false))), none, []⟩] none)
  (.cond (.t 16)
  .skip
  (.exit 0)))
  (.block 1 (.region [⟨(some 17), (.mov (.t 0)), none, []⟩,
    ⟨(some 18), (.mov (.t 0)), none, []⟩,
    ⟨(some 19), (.lenStr (.t 18)), none, []⟩,
    ⟨(some 20), (.bin .sub (.t 19) (.c (.int .i64 1))), none, []⟩,
    ⟨(some 21), (.sliceStr (.t 17) none (some (.t 20))), none, []⟩,
    ⟨(some 0), (.mov (.t 21)), none, []⟩] none)))
def B61 : ACode := (.seq (.region [⟨(some 4), (.mov (.c (.string ⟨#[]⟩))), none, []⟩] none)
  (.seq (.block 0 (.loop F61L0))
  (.seq (.region [⟨(some 22), (.mov (.t 0)), none, []⟩,
    ⟨(some 4), (.mov (.t 22)), none, []⟩] none)
  .ret)))
def F61 : AFunc := ⟨2, 23, [(.tmp 4)], B61⟩
-- F61L0 live: [0, 1]
/-- strings.trimLeftASCII -/
def F62L0 : ACode := (.seq (.seq (.region [⟨(some 5), (.mov (.t 0)), none, []⟩,
    ⟨(some 6), (.lenStr (.t 5)), none, []⟩,
    ⟨(some 7), (.bin .gtr (.t 6) (.c (.int .i64 0))), none, []⟩] none)
  (.cond (.t 7)
  .skip
  (.exit 0)))
  (.block 1 (.seq (.seq (.region [⟨(some 8), (.mov (.t 1)), none, []⟩,
    ⟨(some 9), (.mov (.t 0)), none, []⟩,
    ⟨(some 10), (.indexStr (.t 9) (.c (.int .i64 0))), none, []⟩,
    ⟨(some 11), (.call (.f 46) [(.t 8), (.t 10)]), none, []⟩,
    ⟨(some 12), (.un .not (.t 11)), none, []⟩] none)
  (.cond (.t 12)
  (.exit 0)
  .skip))
  (.region [⟨(some 13), (.mov (.t 0)), none, []⟩,
    ⟨(some 14), (.sliceStr (.t 13) (some (.c (.int .i64 1))) none), none, []⟩,
    ⟨(some 0), (.mov (.t 14)), none, []⟩] none))))
def B62 : ACode := (.seq (.region [⟨(some 4), (.mov (.c (.string ⟨#[]⟩))), none, []⟩] none)
  (.seq (.block 0 (.loop F62L0))
  (.seq (.region [⟨(some 15), (.mov (.t 0)), none, []⟩,
    ⟨(some 4), (.mov (.t 15)), none, []⟩] none)
  .ret)))
def F62 : AFunc := ⟨2, 16, [(.tmp 4)], B62⟩
-- F62L0 live: [0, 1]
/-- strings.trimRightASCII -/
def F63L0 : ACode := (.seq (.seq (.region [⟨(some 5), (.mov (.t 0)), none, []⟩,
    ⟨(some 6), (.lenStr (.t 5)), none, []⟩,
    ⟨(some 7), (.bin .gtr (.t 6) (.c (.int .i64 0))), none, []⟩] none)
  (.cond (.t 7)
  .skip
  (.exit 0)))
  (.block 1 (.seq (.seq (.region [⟨(some 8), (.mov (.t 1)), none, []⟩,
    ⟨(some 9), (.mov (.t 0)), none, []⟩,
    ⟨(some 10), (.mov (.t 0)), none, []⟩,
    ⟨(some 11), (.lenStr (.t 10)), none, []⟩,
    ⟨(some 12), (.bin .sub (.t 11) (.c (.int .i64 1))), none, []⟩,
    ⟨(some 13), (.indexStr (.t 9) (.t 12)), none, []⟩,
    ⟨(some 14), (.call (.f 46) [(.t 8), (.t 13)]), none, []⟩,
    ⟨(some 15), (.un .not (.t 14)), none, []⟩] none)
  (.cond (.t 15)
  (.exit 0)
  .skip))
  (.region [⟨(some 16), (.mov (.t 0)), none, []⟩,
    ⟨(some 17), (.mov (.t 0)), none, []⟩,
    ⟨(some 18), (.lenStr (.t 17)), none, []⟩,
    ⟨(some 19), (.bin .sub (.t 18) (.c (.int .i64 1))), none, []⟩,
    ⟨(some 20), (.sliceStr (.t 16) none (some (.t 19))), none, []⟩,
    ⟨(some 0), (.mov (.t 20)), none, []⟩] none))))
def B63 : ACode := (.seq (.region [⟨(some 4), (.mov (.c (.string ⟨#[]⟩))), none, []⟩] none)
  (.seq (.block 0 (.loop F63L0))
  (.seq (.region [⟨(some 21), (.mov (.t 0)), none, []⟩,
    ⟨(some 4), (.mov (.t 21)), none, []⟩] none)
  .ret)))
def F63 : AFunc := ⟨2, 22, [(.tmp 4)], B63⟩
-- F63L0 live: [0, 1]
/-- internal/strconv.Atoi -/
def F66L0 : ACode := (.seq (.region [⟨(some 50), (.bin .lss (.t 49) (.t 48)), none, []⟩] none)
  (.seq (.cond (.t 50)
  .skip
  (.exit 0))
  (.seq (.block 1 (.seq (.region [⟨(some 51), (.indexAddr 1 (.t 47) (.t 49)), none, []⟩,
    ⟨(some 52), (.load none (.t 51)), none, []⟩,
    ⟨(some 8), (.mov (.t 52)), none, []⟩] none)
  (.seq (.region [⟨(some 53), (.mov (.t 8)), none, []⟩,
    ⟨(some 54), (.bin .sub (.t 53) (.c (.int .u8 48))), none, []⟩,
    ⟨(some 8), (.mov (.t 54)), none, []⟩] none)
  (.seq (.seq (.region [⟨(some 55), (.mov (.t 8)), none, []⟩,
    ⟨(some 56), (.bin .gtr (.t 55) (.c (.int .u8 9))), none, []⟩] none)
  (.cond (.t 56)
  (.seq (.region [⟨(some 57), (.makeIface 111 (.c (.int .i64 2))), none, []⟩,
    ⟨(some 2), (.mov (.c (.int .i64 0))), none, []⟩,
    ⟨(some 3), (.mov (.t 57)), none, []⟩] none)
  .ret)
  .skip))
  (.region [⟨(some 58), (.mov (.t 6)), none, []⟩,
    ⟨(some 59), (.bin .mul (.t 58) (.c (.int .i64 10))), none, []⟩,
    ⟨(some 60), (.mov (.t 8)), none, []⟩,
    ⟨(some 61), (.conv .i64 (.t 60)), none, []⟩,
    ⟨(some 62), (.bin .add (.t 59) (.t 61)), none, []⟩,
    ⟨(some 6), (.mov (.t 62)), none, []⟩] none)))))
  (.region [⟨(some 63), (.bin .add (.t 49) (.c (.int .i64 1))), none, []⟩,
    ⟨(some 49), (.mov (.t 63)), none, []⟩] none))))
def B66 : ACode := (.seq (.region [⟨(some 2), (.mov (.c (.int .i64 0))), none, []⟩,
    ⟨(some 3), (.mov (.c .nilIface)), none, []⟩] none)
  (.seq (.region [⟨(some 11), (.mov (.t 0)), none, []⟩,
    ⟨(some 12), (.lenStr (.t 11)), none, []⟩,
    ⟨(some 4), (.mov (.t 12)), none, []⟩] none)
  (.seq (.seq (.region [⟨(some 13), (.mov (.c (.bool false))), none, []⟩,
    ⟨(some 14), (.mov (.t 4)), (some (13, true)), []⟩,
    ⟨(some 15), (.bin .lss (.c (.int .i64 0)) (.t 14)), (some (13, true)), []⟩,
    ⟨(some 16), (.mov (.t 15)), (some (13, true)), []⟩,
    ⟨(some 17), (.mov (.t 4)), (some (16, true)), []⟩,
    ⟨(some 18), (.bin .lss (.t 17) (.c (.int .i64 10))), (some (16, true)), []⟩,
    ⟨(some 19), (.pick (.t 16) (.t 18) (.c (.bool false))), (some (13, true)), []⟩,
    ⟨(some 20), (.pick (.t 13) (.t 19) (.c (.bool false))), none, []⟩,
    ⟨(some 21), (.mov (.t 20)), none, []⟩,
    ⟨(some 22), (.mov (.c (.bool true))), (some (21, false)), []⟩,
    ⟨(some 23), (.mov (.t 4)), (some (22, true)), []⟩,
    ⟨(some 24), (.bin .lss (.c (.int .i64 0)) (.t 23)), (some (22, true)), []⟩,
    ⟨(some 25), (.mov (.t 24)), (some (22, true)), []⟩,
    ⟨(some 26), (.mov (.t 4)), (some (25, true)), []⟩,
    ⟨(some 27), (.bin .lss (.t 26) (.c (.int .i64 19))), (some (25, true)), []⟩,
    ⟨(some 28), (.pick (.t 25) (.t 27) (.c (.bool false))), (some (22, true)), []⟩,
    ⟨(some 29), (.pick (.t 22) (.t 28) (.c (.bool false))), (some (21, false)), []⟩,
    ⟨(some 30), (.pick (.t 21) (.c (.bool true)) (.t 29)), none, []⟩] none)
  (.cond (.t 30)
  (.seq (.region [⟨(some 31), (.mov (.t 0)), none, []⟩,
    ⟨(some 5), (.mov (.t 31)), none, []⟩] none)
  (.seq (.seq (.region [⟨(some 32), (.mov (.t 0)), none, []⟩,
    ⟨(some 33), (.indexStr (.t 32) (.c (.int .i64 0))), none, []⟩,
    ⟨(some 34), (.bin .eql (.t 33) (.c (.int .u8 45))), none, []⟩,
    ⟨(some 35), (.mov (.t 34)), none, []⟩,
    ⟨(some 36), (.mov (.t 0)), (some (35, false)), []⟩,
    ⟨(some 37), (.indexStr (.t 36) (.c (.int .i64 0))), (some (35, false)), []⟩,
    ⟨(some 38), (.bin .eql (.t 37) (.c (.int .u8 43))), (some (35, false)), []⟩,
    ⟨(some 39), (.pick (.t 35) (.c (.bool true)) (.t 38)), none, []⟩] none)
  (.cond (.t 39)
  (.seq (.region [⟨(some 40), (.mov (.t 0)), none, []⟩,
    ⟨(some 41), (.sliceStr (.t 40) (some (.c (.int .i64 1))) none), none, []⟩,
    ⟨(some 0), (.mov (.t 41)), none, []⟩] none)
  (.seq (.region [⟨(some 42), (.mov (.t 0)), none, []⟩,
    ⟨(some 43), (.lenStr (.t 42)), none, []⟩,
    ⟨(some 44), (.bin .lss (.t 43) (.c (.int .i64 1))), none, []⟩] none)
  (.cond (.t 44)
  (.seq (.region [⟨(some 45), (.makeIface 111 (.c (.int .i64 2))), none, []⟩,
    ⟨(some 2), (.mov (.c (.int .i64 0))), none, []⟩,
    ⟨(some 3), (.mov (.t 45)), none, []⟩] none)
  .ret)
  .skip)))
  .skip))
  (.seq (.region [⟨(some 6), (.mov (.c (.int .i64 0))), none, []⟩] none)
  (.seq (.seq (.region [⟨(some 46), (.mov (.t 0)), none, []⟩,
    ⟨(some 47), (.bytesOf 5 (.t 46)), none, []⟩,
    ⟨(some 48), (.lenSlice (.t 47)), none, []⟩,
    ⟨(some 49), (.mov (.c (.int .i64 0))), none, []⟩] none)
  (.block 0 (.loop F66L0)))
  (.seq (.seq (.region [⟨(some 64), (.mov (.t 5)), none, []⟩,
    ⟨(some 65), (.indexStr (.t 64) (.c (.int .i64 0))), none, []⟩,
    ⟨(some 66), (.bin .eql (.t 65) (.c (.int .u8 45))), none, []⟩] none)
  (.cond (.t 66)
  (.region [⟨(some 67), (.mov (.t 6)), none, []⟩,
    ⟨(some 68), (.un .neg (.t 67)), none, []⟩,
    ⟨(some 6), (.mov (.t 68)), none, []⟩] none)
  .skip))
  (.seq (.region [⟨(some 69), (.mov (.t 6)), none, []⟩,
    ⟨(some 2), (.mov (.t 69)), none, []⟩,
    ⟨(some 3), (.mov (.c .nilIface)), none, []⟩] none)
  .ret))))))
  .skip))
  (.seq (.region [⟨(some 71), (.mov (.t 0)), none, []⟩,
    ⟨(some 72), (.call (.f 79) [(.t 71), (.c (.int .i64 10)), (.c (.int .i64 0))]), none, []⟩,
    ⟨(some 70), (.mov (.t 72)), none, []⟩,
    ⟨(some 73), (.extract (.t 70) 0), none, []⟩,
    ⟨(some 74), (.extract (.t 70) 1), none, []⟩,
    ⟨(some 9), (.mov (.t 73)), none, []⟩,
    ⟨(some 10), (.mov (.t 74)), none, []⟩] none)
  (.seq (.region [⟨(some 75), (.mov (.t 9)), none, []⟩,
    ⟨(some 76), (.mov (.t 10)), none, []⟩,
    ⟨(some 2), (.mov (.t 75)), none, []⟩,
    ⟨(some 3), (.mov (.t 76)), none, []⟩] none)
  .ret)))))
def F66 : AFunc := ⟨1, 77, [(.tmp 2), (.tmp 3)], B66⟩
-- F66L0 live: [5, 6, 47, 48, 49]
/-- strconv.toError -/
def B67 : ACode := (.seq (.region [⟨(some 10), (.mov (.c .nilIface)), none, []⟩] none)
  (.seq (.seq (.region [⟨(some 11), (.mov (.t 4)), none, []⟩] none)
  (.block 0 (.seq (.region [⟨(some 13), (.makeIface 111 (.c (.int .i64 2))), none, []⟩,
    ⟨(some 14), (.eqv false (.ifc [2, 3, 5, 6, 12, 21, 23, 24, 32, 33, 88, 103, 111, 147, 148, 150, 151]) false (.t 11) (.t 13)), none, []⟩,
    ⟨(some 12), (.mov (.t 14)), none, []⟩] none)
  (.cond (.t 12)
  (.seq (.region [⟨(some 15), (.mov (.t 0)), none, []⟩,
    ⟨(some 16), (.mov (.t 1)), none, []⟩,
    ⟨(some 17), (.call (.f 80) [(.t 15), (.t 16)]), none, []⟩,
    ⟨(some 18), (.makeIface 114 (.t 17)), none, []⟩,
    ⟨(some 10), (.mov (.t 18)), none, []⟩] none)
  .ret)
  (.seq (.region [⟨(some 20), (.makeIface 111 (.c (.int .i64 1))), none, []⟩,
    ⟨(some 21), (.eqv false (.ifc [2, 3, 5, 6, 12, 21, 23, 24, 32, 33, 88, 103, 111, 147, 148, 150, 151]) false (.t 11) (.t 20)), none, []⟩,
    ⟨(some 19), (.mov (.t 21)), none, []⟩] none)
  (.cond (.t 19)
  (.seq (.region [⟨(some 22), (.mov (.t 0)), none, []⟩,
    ⟨(some 23), (.mov (.t 1)), none, []⟩,
    ⟨(some 24), (.call (.f 81) [(.t 22), (.t 23)]), none, []⟩,
    ⟨(some 25), (.makeIface 114 (.t 24)), none, []⟩,
    ⟨(some 10), (.mov (.t 25)), none, []⟩] none)
  .ret)
  (.seq (.region [⟨(some 27), (.makeIface 111 (.c (.int .i64 3))), none, []⟩,
    ⟨(some 28), (.eqv false (.ifc [2, 3, 5, 6, 12, 21, 23, 24, 32, 33, 88, 103, 111, 147, 148, 150, 151]) false (.t 11) (.t 27)), none, []⟩,
    ⟨(some 26), (.mov (.t 28)), none, []⟩] none)
  (.cond (.t 26)
  (.seq (.region [⟨(some 29), (.mov (.t 0)), none, []⟩,
    ⟨(some 30), (.mov (.t 1)), none, []⟩,
    ⟨(some 31), (.mov (.t 2)), none, []⟩,
    ⟨(some 32), (.call (.f 82) [(.t 29), (.t 30), (.t 31)]), none, []⟩,
    ⟨(some 33), (.makeIface 114 (.t 32)), none, []⟩,
    ⟨(some 10), (.mov (.t 33)), none, []⟩] none)
  .ret)
  (.seq (.region [⟨(some 35), (.makeIface 111 (.c (.int .i64 4))), none, []⟩,
    ⟨(some 36), (.eqv false (.ifc [2, 3, 5, 6, 12, 21, 23, 24, 32, 33, 88, 103, 111, 147, 148, 150, 151]) false (.t 11) (.t 35)), none, []⟩,
    ⟨(some 34), (.mov (.t 36)), none, []⟩] none)
  (.cond (.t 34)
  (.seq (.region [⟨(some 37), (.mov (.t 0)), none, []⟩,
    ⟨(some 38), (.mov (.t 1)), none, []⟩,
    ⟨(some 39), (.mov (.t 3)), none, []⟩,
    ⟨(some 40), (.call (.f 83) [(.t 37), (.t 38), (.t 39)]), none, []⟩,
    ⟨(some 41), (.makeIface 114 (.t 40)), none, []⟩,
    ⟨(some 10), (.mov (.t 41)), none, []⟩] none)
  .ret)
  .skip))))))))))
  (.seq (.region [⟨(some 42), (.mov (.t 4)), none, []⟩,
    ⟨(some 10), (.mov (.t 42)), none, []⟩] none)
  .ret)))
def F67 : AFunc := ⟨5, 43, [(.tmp 10)], B67⟩
/-- internal/stringslite.IndexByte -/
def B68 : ACode := (.seq (.region [⟨(some 4), (.mov (.c (.int .i64 0))), none, []⟩] none)
  (.seq (.region [⟨(some 5), (.mov (.t 0)), none, []⟩,
    ⟨(some 6), (.mov (.t 1)), none, []⟩,
    ⟨(some 7), (.call (.f 84) [(.t 5), (.t 6)]), none, []⟩,
    ⟨(some 4), (.mov (.t 7)), none, []⟩] none)
  .ret))
def F68 : AFunc := ⟨2, 8, [(.tmp 4)], B68⟩
/-- internal/strconv.small -/
def B70 : ACode := (.seq (.region [⟨(some 2), (.mov (.c (.string ⟨#[]⟩))), none, []⟩] none)
  (.seq (.seq (.region [⟨(some 3), (.mov (.t 0)), none, []⟩,
    ⟨(some 4), (.bin .lss (.t 3) (.c (.int .i64 10))), none, []⟩] none)
  (.cond (.t 4)
  (.seq (.region [⟨(some 5), (.mov (.t 0)), none, []⟩,
    ⟨(some 6), (.mov (.t 0)), none, []⟩,
    ⟨(some 7), (.bin .add (.t 6) (.c (.int .i64 1))), none, []⟩,
    ⟨(some 8), (.sliceStr (.c (.string ⟨#[48, 49, 50, 51, 52, 53, 54, 55, 56, 57, 97, 98, 99, 100, 101, 102, 103, 104, 105, 106, 107, 108, 109, 110, 111, 112, 113, 114, 115, 116, 117, 118, 119, 120, 121, 122]⟩)) (some (.t 5)) (some (.t 7))), none, []⟩,
    ⟨(some 2), (.mov (.t 8)), none, []⟩] none)
  .ret)
  .skip))
  (.seq (.region [⟨(some 9), (.mov (.t 0)), none, []⟩,
    ⟨(some 10), (.bin .mul (.t 9) (.c (.int .i64 2))), none, []⟩,
    ⟨(some 11), (.mov (.t 0)), none, []⟩,
    ⟨(some 12), (.bin .mul (.t 11) (.c (.int .i64 2))), none, []⟩,
    ⟨(some 13), (.bin .add (.t 12) (.c (.int .i64 2))), none, []⟩,
    ⟨(some 14), (.sliceStr (.c (.string ⟨#[48, 48, 48, 49, 48, 50, 48, 51, 48, 52, 48, 53, 48, 54, 48, 55, 48, 56, 48, 57, 49, 48, 49, 49, 49, 50, 49, 51, 49, 52, 49, 53, 49, 54, 49, 55, 49, 56, 49, 57, 50, 48, 50, 49, 50, 50, 50, 51, 50, 52, 50, 53, 50, 54, 50, 55, 50, 56, 50, 57, 51, 48, 51, 49, 51, 50, 51, 51, 51, 52, 51, 53, 51, 54, 51, 55, 51, 56, 51, 57, 52, 48, 52, 49, 52, 50, 52, 51, 52, 52, 52, 53, 52, 54, 52, 55, 52, 56, 52, 57, 53, 48, 53, 49, 53, 50, 53, 51, 53, 52, 53, 53, 53, 54, 53, 55, 53, 56, 53, 57, 54, 48, 54, 49, 54, 50, 54, 51, 54, 52, 54, 53, 54, 54, 54, 55, 54, 56, 54, 57, 55, 48, 55, 49, 55, 50, 55, 51, 55, 52, 55, 53, 55, 54, 55, 55, 55, 56, 55, 57, 56, 48, 56, 49, 56, 50, 56, 51, 56, 52, 56, 53, 56, 54, 56, 55, 56, 56, 56, 57, 57, 48, 57, 49, 57, 50, 57, 51, 57, 52, 57, 53, 57, 54, 57, 55, 57, 56, 57, 57]⟩)) (some (.t 10)) (some (.t 13))), none, []⟩,
    ⟨(some 2), (.mov (.t 14)), none, []⟩] none)
  .ret)))
def F70 : AFunc := ⟨1, 15, [(.tmp 2)], B70⟩
/-- internal/strconv.numDigits -/
def B71 : ACode := (.seq (.region [⟨(some 2), (.mov (.c (.int .i64 0))), none, []⟩] none)
  (.seq (.region [⟨(some 4), (.mov (.t 0)), none, []⟩,
    ⟨(some 5), (.call (.f 87) [(.t 4)]), none, []⟩,
    ⟨(some 6), (.call (.f 86) [(.t 5)]), none, []⟩,
    ⟨(some 3), (.mov (.t 6)), none, []⟩] none)
  (.seq (.region [⟨(some 7), (.mov (.t 3)), none, []⟩,
    ⟨(some 8), (.mov (.t 0)), none, []⟩,
    ⟨(some 9), (.mov (.t 3)), none, []⟩,
    ⟨(some 10), (.indexArr 1 20 (.g 1) (.t 9)), none, []⟩,
    ⟨(some 11), (.load none (.t 10)), none, []⟩,
    ⟨(some 12), (.bin .geq (.t 8) (.t 11)), none, []⟩,
    ⟨(some 13), (.call (.f 88) [(.t 12)]), none, []⟩,
    ⟨(some 14), (.bin .add (.t 7) (.t 13)), none, []⟩,
    ⟨(some 2), (.mov (.t 14)), none, []⟩] none)
  .ret)))
def F71 : AFunc := ⟨1, 15, [(.tmp 2)], B71⟩
def R72_0 : ACode := .region [⟨(some 42), (.mov (.t 0)), none, []⟩,
    ⟨(some 43), (.mov (.t 4)), none, []⟩,
    ⟨(some 44), (.bin .sub (.t 43) (.c (.int .i64 1))), none, [1]⟩,
    ⟨(some 45), (.mov (.t 0)), none, []⟩,
    ⟨(some 46), (.mov (.t 4)), none, []⟩,
    ⟨(some 47), (.bin .sub (.t 46) (.c (.int .i64 2))), none, [4]⟩,
    ⟨(some 48), (.mov (.t 9)), none, []⟩,
    ⟨(some 49), (.bin .add (.t 48) (.c (.int .u32 1))), none, [6]⟩,
    ⟨(some 50), (.indexStr (.c (.string ⟨#[48, 48, 48, 49, 48, 50, 48, 51, 48, 52, 48, 53, 48, 54, 48, 55, 48, 56, 48, 57, 49, 48, 49, 49, 49, 50, 49, 51, 49, 52, 49, 53, 49, 54, 49, 55, 49, 56, 49, 57, 50, 48, 50, 49, 50, 50, 50, 51, 50, 52, 50, 53, 50, 54, 50, 55, 50, 56, 50, 57, 51, 48, 51, 49, 51, 50, 51, 51, 51, 52, 51, 53, 51, 54, 51, 55, 51, 56, 51, 57, 52, 48, 52, 49, 52, 50, 52, 51, 52, 52, 52, 53, 52, 54, 52, 55, 52, 56, 52, 57, 53, 48, 53, 49, 53, 50, 53, 51, 53, 52, 53, 53, 53, 54, 53, 55, 53, 56, 53, 57, 54, 48, 54, 49, 54, 50, 54, 51, 54, 52, 54, 53, 54, 54, 54, 55, 54, 56, 54, 57, 55, 48, 55, 49, 55, 50, 55, 51, 55, 52, 55, 53, 55, 54, 55, 55, 55, 56, 55, 57, 56, 48, 56, 49, 56, 50, 56, 51, 56, 52, 56, 53, 56, 54, 56, 55, 56, 56, 56, 57, 57, 48, 57, 49, 57, 50, 57, 51, 57, 52, 57, 53, 57, 54, 57, 55, 57, 56, 57, 57]⟩)) (.t 49)), none, [7]⟩,
    ⟨(some 51), (.mov (.t 9)), none, []⟩,
    ⟨(some 52), (.indexStr (.c (.string ⟨#[48, 48, 48, 49, 48, 50, 48, 51, 48, 52, 48, 53, 48, 54, 48, 55, 48, 56, 48, 57, 49, 48, 49, 49, 49, 50, 49, 51, 49, 52, 49, 53, 49, 54, 49, 55, 49, 56, 49, 57, 50, 48, 50, 49, 50, 50, 50, 51, 50, 52, 50, 53, 50, 54, 50, 55, 50, 56, 50, 57, 51, 48, 51, 49, 51, 50, 51, 51, 51, 52, 51, 53, 51, 54, 51, 55, 51, 56, 51, 57, 52, 48, 52, 49, 52, 50, 52, 51, 52, 52, 52, 53, 52, 54, 52, 55, 52, 56, 52, 57, 53, 48, 53, 49, 53, 50, 53, 51, 53, 52, 53, 53, 53, 54, 53, 55, 53, 56, 53, 57, 54, 48, 54, 49, 54, 50, 54, 51, 54, 52, 54, 53, 54, 54, 54, 55, 54, 56, 54, 57, 55, 48, 55, 49, 55, 50, 55, 51, 55, 52, 55, 53, 55, 54, 55, 55, 55, 56, 55, 57, 56, 48, 56, 49, 56, 50, 56, 51, 56, 52, 56, 53, 56, 54, 56, 55, 56, 56, 56, 57, 57, 48, 57, 49, 57, 50, 57, 51, 57, 52, 57, 53, 57, 54, 57, 55, 57, 56, 57, 57]⟩)) (.t 51)), none, [9]⟩,
    ⟨(some 53), (.indexAddr 1 (.t 42) (.t 44)), none, [0, 2, 0, 1, 2, 6, 7, 8]⟩,
    ⟨none, (.store 1 (.t 53) (.t 50)), none, [11, 8, 0, 1, 2, 6, 7, 8]⟩,
    ⟨(some 54), (.indexAddr 1 (.t 45) (.t 47)), none, [3, 5, 0, 1, 2, 3, 4, 5, 6, 7, 8, 9, 10, 11, 12]⟩,
    ⟨none, (.store 1 (.t 54) (.t 52)), none, [13, 10, 12, 0, 1, 2, 3, 4, 5, 6, 7, 8, 9, 10, 11, 12]⟩] (some [(0, 1), (0, 2), (0, 3), (1, 3), (2, 3), (0, 4), (1, 4), (2, 4), (3, 4), (0, 5), (1, 5), (2, 5), (3, 5), (0, 6), (1, 6), (2, 6), (3, 6), (4, 6), (5, 6), (0, 7), (1, 7), (2, 7), (3, 7), (4, 7), (5, 7), (0, 8), (1, 8), (2, 8), (3, 8), (4, 8), (5, 8), (0, 9), (1, 9), (2, 9), (3, 9), (4, 9), (5, 9), (6, 9), (7, 9), (8, 9), (0, 10), (1, 10), (2, 10), (3, 10), (4, 10), (5, 10), (6, 10), (7, 10), (8, 10), (3, 11), (4, 11), (5, 11), (9, 11), (10, 11), (3, 12), (4, 12), (5, 12), (9, 12), (10, 12)])
def R72_1 : ACode := .region [⟨(some 55), (.mov (.t 0)), none, []⟩,
    ⟨(some 56), (.mov (.t 4)), none, []⟩,
    ⟨(some 57), (.bin .sub (.t 56) (.c (.int .i64 3))), none, [1]⟩,
    ⟨(some 58), (.mov (.t 0)), none, []⟩,
    ⟨(some 59), (.mov (.t 4)), none, []⟩,
    ⟨(some 60), (.bin .sub (.t 59) (.c (.int .i64 4))), none, [4]⟩,
    ⟨(some 61), (.mov (.t 8)), none, []⟩,
    ⟨(some 62), (.bin .add (.t 61) (.c (.int .u32 1))), none, [6]⟩,
    ⟨(some 63), (.indexStr (.c (.string ⟨#[48, 48, 48, 49, 48, 50, 48, 51, 48, 52, 48, 53, 48, 54, 48, 55, 48, 56, 48, 57, 49, 48, 49, 49, 49, 50, 49, 51, 49, 52, 49, 53, 49, 54, 49, 55, 49, 56, 49, 57, 50, 48, 50, 49, 50, 50, 50, 51, 50, 52, 50, 53, 50, 54, 50, 55, 50, 56, 50, 57, 51, 48, 51, 49, 51, 50, 51, 51, 51, 52, 51, 53, 51, 54, 51, 55, 51, 56, 51, 57, 52, 48, 52, 49, 52, 50, 52, 51, 52, 52, 52, 53, 52, 54, 52, 55, 52, 56, 52, 57, 53, 48, 53, 49, 53, 50, 53, 51, 53, 52, 53, 53, 53, 54, 53, 55, 53, 56, 53, 57, 54, 48, 54, 49, 54, 50, 54, 51, 54, 52, 54, 53, 54, 54, 54, 55, 54, 56, 54, 57, 55, 48, 55, 49, 55, 50, 55, 51, 55, 52, 55, 53, 55, 54, 55, 55, 55, 56, 55, 57, 56, 48, 56, 49, 56, 50, 56, 51, 56, 52, 56, 53, 56, 54, 56, 55, 56, 56, 56, 57, 57, 48, 57, 49, 57, 50, 57, 51, 57, 52, 57, 53, 57, 54, 57, 55, 57, 56, 57, 57]⟩)) (.t 62)), none, [7]⟩,
    ⟨(some 64), (.mov (.t 8)), none, []⟩,
    ⟨(some 65), (.indexStr (.c (.string ⟨#[48, 48, 48, 49, 48, 50, 48, 51, 48, 52, 48, 53, 48, 54, 48, 55, 48, 56, 48, 57, 49, 48, 49, 49, 49, 50, 49, 51, 49, 52, 49, 53, 49, 54, 49, 55, 49, 56, 49, 57, 50, 48, 50, 49, 50, 50, 50, 51, 50, 52, 50, 53, 50, 54, 50, 55, 50, 56, 50, 57, 51, 48, 51, 49, 51, 50, 51, 51, 51, 52, 51, 53, 51, 54, 51, 55, 51, 56, 51, 57, 52, 48, 52, 49, 52, 50, 52, 51, 52, 52, 52, 53, 52, 54, 52, 55, 52, 56, 52, 57, 53, 48, 53, 49, 53, 50, 53, 51, 53, 52, 53, 53, 53, 54, 53, 55, 53, 56, 53, 57, 54, 48, 54, 49, 54, 50, 54, 51, 54, 52, 54, 53, 54, 54, 54, 55, 54, 56, 54, 57, 55, 48, 55, 49, 55, 50, 55, 51, 55, 52, 55, 53, 55, 54, 55, 55, 55, 56, 55, 57, 56, 48, 56, 49, 56, 50, 56, 51, 56, 52, 56, 53, 56, 54, 56, 55, 56, 56, 56, 57, 57, 48, 57, 49, 57, 50, 57, 51, 57, 52, 57, 53, 57, 54, 57, 55, 57, 56, 57, 57]⟩)) (.t 64)), none, [9]⟩,
    ⟨(some 66), (.indexAddr 1 (.t 55) (.t 57)), none, [0, 2, 0, 1, 2, 6, 7, 8]⟩,
    ⟨none, (.store 1 (.t 66) (.t 63)), none, [11, 8, 0, 1, 2, 6, 7, 8]⟩,
    ⟨(some 67), (.indexAddr 1 (.t 58) (.t 60)), none, [3, 5, 0, 1, 2, 3, 4, 5, 6, 7, 8, 9, 10, 11, 12]⟩,
    ⟨none, (.store 1 (.t 67) (.t 65)), none, [13, 10, 12, 0, 1, 2, 3, 4, 5, 6, 7, 8, 9, 10, 11, 12]⟩] (some [(0, 1), (0, 2), (0, 3), (1, 3), (2, 3), (0, 4), (1, 4), (2, 4), (3, 4), (0, 5), (1, 5), (2, 5), (3, 5), (0, 6), (1, 6), (2, 6), (3, 6), (4, 6), (5, 6), (0, 7), (1, 7), (2, 7), (3, 7), (4, 7), (5, 7), (0, 8), (1, 8), (2, 8), (3, 8), (4, 8), (5, 8), (0, 9), (1, 9), (2, 9), (3, 9), (4, 9), (5, 9), (6, 9), (7, 9), (8, 9), (0, 10), (1, 10), (2, 10), (3, 10), (4, 10), (5, 10), (6, 10), (7, 10), (8, 10), (3, 11), (4, 11), (5, 11), (9, 11), (10, 11), (3, 12), (4, 12), (5, 12), (9, 12), (10, 12)])
def R72_2 : ACode := .region [⟨(some 68), (.mov (.t 0)), none, []⟩,
    ⟨(some 69), (.mov (.t 4)), none, []⟩,
    ⟨(some 70), (.bin .sub (.t 69) (.c (.int .i64 5))), none, [1]⟩,
    ⟨(some 71), (.mov (.t 0)), none, []⟩,
    ⟨(some 72), (.mov (.t 4)), none, []⟩,
    ⟨(some 73), (.bin .sub (.t 72) (.c (.int .i64 6))), none, [4]⟩,
    ⟨(some 74), (.mov (.t 11)), none, []⟩,
    ⟨(some 75), (.bin .add (.t 74) (.c (.int .u32 1))), none, [6]⟩,
    ⟨(some 76), (.indexStr (.c (.string ⟨#[48, 48, 48, 49, 48, 50, 48, 51, 48, 52, 48, 53, 48, 54, 48, 55, 48, 56, 48, 57, 49, 48, 49, 49, 49, 50, 49, 51, 49, 52, 49, 53, 49, 54, 49, 55, 49, 56, 49, 57, 50, 48, 50, 49, 50, 50, 50, 51, 50, 52, 50, 53, 50, 54, 50, 55, 50, 56, 50, 57, 51, 48, 51, 49, 51, 50, 51, 51, 51, 52, 51, 53, 51, 54, 51, 55, 51, 56, 51, 57, 52, 48, 52, 49, 52, 50, 52, 51, 52, 52, 52, 53, 52, 54, 52, 55, 52, 56, 52, 57, 53, 48, 53, 49, 53, 50, 53, 51, 53, 52, 53, 53, 53, 54, 53, 55, 53, 56, 53, 57, 54, 48, 54, 49, 54, 50, 54, 51, 54, 52, 54, 53, 54, 54, 54, 55, 54, 56, 54, 57, 55, 48, 55, 49, 55, 50, 55, 51, 55, 52, 55, 53, 55, 54, 55, 55, 55, 56, 55, 57, 56, 48, 56, 49, 56, 50, 56, 51, 56, 52, 56, 53, 56, 54, 56, 55, 56, 56, 56, 57, 57, 48, 57, 49, 57, 50, 57, 51, 57, 52, 57, 53, 57, 54, 57, 55, 57, 56, 57, 57]⟩)) (.t 75)), none, [7]⟩,
    ⟨(some 77), (.mov (.t 11)), none, []⟩,
    ⟨(some 78), (.indexStr (.c (.string ⟨#[48, 48, 48, 49, 48, 50, 48, 51, 48, 52, 48, 53, 48, 54, 48, 55, 48, 56, 48, 57, 49, 48, 49, 49, 49, 50, 49, 51, 49, 52, 49, 53, 49, 54, 49, 55, 49, 56, 49, 57, 50, 48, 50, 49, 50, 50, 50, 51, 50, 52, 50, 53, 50, 54, 50, 55, 50, 56, 50, 57, 51, 48, 51, 49, 51, 50, 51, 51, 51, 52, 51, 53, 51, 54, 51, 55, 51, 56, 51, 57, 52, 48, 52, 49, 52, 50, 52, 51, 52, 52, 52, 53, 52, 54, 52, 55, 52, 56, 52, 57, 53, 48, 53, 49, 53, 50, 53, 51, 53, 52, 53, 53, 53, 54, 53, 55, 53, 56, 53, 57, 54, 48, 54, 49, 54, 50, 54, 51, 54, 52, 54, 53, 54, 54, 54, 55, 54, 56, 54, 57, 55, 48, 55, 49, 55, 50, 55, 51, 55, 52, 55, 53, 55, 54, 55, 55, 55, 56, 55, 57, 56, 48, 56, 49, 56, 50, 56, 51, 56, 52, 56, 53, 56, 54, 56, 55, 56, 56, 56, 57, 57, 48, 57, 49, 57, 50, 57, 51, 57, 52, 57, 53, 57, 54, 57, 55, 57, 56, 57, 57]⟩)) (.t 77)), none, [9]⟩,
    ⟨(some 79), (.indexAddr 1 (.t 68) (.t 70)), none, [0, 2, 0, 1, 2, 6, 7, 8]⟩,
    ⟨none, (.store 1 (.t 79) (.t 76)), none, [11, 8, 0, 1, 2, 6, 7, 8]⟩,
    ⟨(some 80), (.indexAddr 1 (.t 71) (.t 73)), none, [3, 5, 0, 1, 2, 3, 4, 5, 6, 7, 8, 9, 10, 11, 12]⟩,
    ⟨none, (.store 1 (.t 80) (.t 78)), none, [13, 10, 12, 0, 1, 2, 3, 4, 5, 6, 7, 8, 9, 10, 11, 12]⟩] (some [(0, 1), (0, 2), (0, 3), (1, 3), (2, 3), (0, 4), (1, 4), (2, 4), (3, 4), (0, 5), (1, 5), (2, 5), (3, 5), (0, 6), (1, 6), (2, 6), (3, 6), (4, 6), (5, 6), (0, 7), (1, 7), (2, 7), (3, 7), (4, 7), (5, 7), (0, 8), (1, 8), (2, 8), (3, 8), (4, 8), (5, 8), (0, 9), (1, 9), (2, 9), (3, 9), (4, 9), (5, 9), (6, 9), (7, 9), (8, 9), (0, 10), (1, 10), (2, 10), (3, 10), (4, 10), (5, 10), (6, 10), (7, 10), (8, 10), (3, 11), (4, 11), (5, 11), (9, 11), (10, 11), (3, 12), (4, 12), (5, 12), (9, 12), (10, 12)])
def R72_3 : ACode := .region [⟨(some 81), (.mov (.t 0)), none, []⟩,
    ⟨(some 82), (.mov (.t 4)), none, []⟩,
    ⟨(some 83), (.bin .sub (.t 82) (.c (.int .i64 7))), none, [1]⟩,
    ⟨(some 84), (.mov (.t 0)), none, []⟩,
    ⟨(some 85), (.mov (.t 4)), none, []⟩,
    ⟨(some 86), (.bin .sub (.t 85) (.c (.int .i64 8))), none, [4]⟩,
    ⟨(some 87), (.mov (.t 10)), none, []⟩,
    ⟨(some 88), (.bin .add (.t 87) (.c (.int .u32 1))), none, [6]⟩,
    ⟨(some 89), (.indexStr (.c (.string ⟨#[48, 48, 48, 49, 48, 50, 48, 51, 48, 52, 48, 53, 48, 54, 48, 55, 48, 56, 48, 57, 49, 48, 49, 49, 49, 50, 49, 51, 49, 52, 49, 53, 49, 54, 49, 55, 49, 56, 49, 57, 50, 48, 50, 49, 50, 50, 50, 51, 50, 52, 50, 53, 50, 54, 50, 55, 50, 56, 50, 57, 51, 48, 51, 49, 51, 50, 51, 51, 51, 52, 51, 53, 51, 54, 51, 55, 51, 56, 51, 57, 52, 48, 52, 49, 52, 50, 52, 51, 52, 52, 52, 53, 52, 54, 52, 55, 52, 56, 52, 57, 53, 48, 53, 49, 53, 50, 53, 51, 53, 52, 53, 53, 53, 54, 53, 55, 53, 56, 53, 57, 54, 48, 54, 49, 54, 50, 54, 51, 54, 52, 54, 53, 54, 54, 54, 55, 54, 56, 54, 57, 55, 48, 55, 49, 55, 50, 55, 51, 55, 52, 55, 53, 55, 54, 55, 55, 55, 56, 55, 57, 56, 48, 56, 49, 56, 50, 56, 51, 56, 52, 56, 53, 56, 54, 56, 55, 56, 56, 56, 57, 57, 48, 57, 49, 57, 50, 57, 51, 57, 52, 57, 53, 57, 54, 57, 55, 57, 56, 57, 57]⟩)) (.t 88)), none, [7]⟩,
    ⟨(some 90), (.mov (.t 10)), none, []⟩,
    ⟨(some 91), (.indexStr (.c (.string ⟨#[48, 48, 48, 49, 48, 50, 48, 51, 48, 52, 48, 53, 48, 54, 48, 55, 48, 56, 48, 57, 49, 48, 49, 49, 49, 50, 49, 51, 49, 52, 49, 53, 49, 54, 49, 55, 49, 56, 49, 57, 50, 48, 50, 49, 50, 50, 50, 51, 50, 52, 50, 53, 50, 54, 50, 55, 50, 56, 50, 57, 51, 48, 51, 49, 51, 50, 51, 51, 51, 52, 51, 53, 51, 54, 51, 55, 51, 56, 51, 57, 52, 48, 52, 49, 52, 50, 52, 51, 52, 52, 52, 53, 52, 54, 52, 55, 52, 56, 52, 57, 53, 48, 53, 49, 53, 50, 53, 51, 53, 52, 53, 53, 53, 54, 53, 55, 53, 56, 53, 57, 54, 48, 54, 49, 54, 50, 54, 51, 54, 52, 54, 53, 54, 54, 54, 55, 54, 56, 54, 57, 55, 48, 55, 49, 55, 50, 55, 51, 55, 52, 55, 53, 55, 54, 55, 55, 55, 56, 55, 57, 56, 48, 56, 49, 56, 50, 56, 51, 56, 52, 56, 53, 56, 54, 56, 55, 56, 56, 56, 57, 57, 48, 57, 49, 57, 50, 57, 51, 57, 52, 57, 53, 57, 54, 57, 55, 57, 56, 57, 57]⟩)) (.t 90)), none, [9]⟩,
    ⟨(some 92), (.indexAddr 1 (.t 81) (.t 83)), none, [0, 2, 0, 1, 2, 6, 7, 8]⟩,
    ⟨none, (.store 1 (.t 92) (.t 89)), none, [11, 8, 0, 1, 2, 6, 7, 8]⟩,
    ⟨(some 93), (.indexAddr 1 (.t 84) (.t 86)), none, [3, 5, 0, 1, 2, 3, 4, 5, 6, 7, 8, 9, 10, 11, 12]⟩,
    ⟨none, (.store 1 (.t 93) (.t 91)), none, [13, 10, 12, 0, 1, 2, 3, 4, 5, 6, 7, 8, 9, 10, 11, 12]⟩] (some [(0, 1), (0, 2), (0, 3), (1, 3), (2, 3), (0, 4), (1, 4), (2, 4), (3, 4), (0, 5), (1, 5), (2, 5), (3, 5), (0, 6), (1, 6), (2, 6), (3, 6), (4, 6), (5, 6), (0, 7), (1, 7), (2, 7), (3, 7), (4, 7), (5, 7), (0, 8), (1, 8), (2, 8), (3, 8), (4, 8), (5, 8), (0, 9), (1, 9), (2, 9), (3, 9), (4, 9), (5, 9), (6, 9), (7, 9), (8, 9), (0, 10), (1, 10), (2, 10), (3, 10), (4, 10), (5, 10), (6, 10), (7, 10), (8, 10), (3, 11), (4, 11), (5, 11), (9, 11), (10, 11), (3, 12), (4, 12), (5, 12), (9, 12), (10, 12)])
def R72_4 : ACode := .region [⟨(some 110), (.mov (.t 0)), none, []⟩,
    ⟨(some 111), (.mov (.t 4)), none, []⟩,
    ⟨(some 112), (.bin .sub (.t 111) (.c (.int .i64 1))), none, [1]⟩,
    ⟨(some 113), (.mov (.t 0)), none, []⟩,
    ⟨(some 114), (.mov (.t 4)), none, []⟩,
    ⟨(some 115), (.bin .sub (.t 114) (.c (.int .i64 2))), none, [4]⟩,
    ⟨(some 116), (.mov (.t 15)), none, []⟩,
    ⟨(some 117), (.bin .add (.t 116) (.c (.int .u32 1))), none, [6]⟩,
    ⟨(some 118), (.indexStr (.c (.string ⟨#[48, 48, 48, 49, 48, 50, 48, 51, 48, 52, 48, 53, 48, 54, 48, 55, 48, 56, 48, 57, 49, 48, 49, 49, 49, 50, 49, 51, 49, 52, 49, 53, 49, 54, 49, 55, 49, 56, 49, 57, 50, 48, 50, 49, 50, 50, 50, 51, 50, 52, 50, 53, 50, 54, 50, 55, 50, 56, 50, 57, 51, 48, 51, 49, 51, 50, 51, 51, 51, 52, 51, 53, 51, 54, 51, 55, 51, 56, 51, 57, 52, 48, 52, 49, 52, 50, 52, 51, 52, 52, 52, 53, 52, 54, 52, 55, 52, 56, 52, 57, 53, 48, 53, 49, 53, 50, 53, 51, 53, 52, 53, 53, 53, 54, 53, 55, 53, 56, 53, 57, 54, 48, 54, 49, 54, 50, 54, 51, 54, 52, 54, 53, 54, 54, 54, 55, 54, 56, 54, 57, 55, 48, 55, 49, 55, 50, 55, 51, 55, 52, 55, 53, 55, 54, 55, 55, 55, 56, 55, 57, 56, 48, 56, 49, 56, 50, 56, 51, 56, 52, 56, 53, 56, 54, 56, 55, 56, 56, 56, 57, 57, 48, 57, 49, 57, 50, 57, 51, 57, 52, 57, 53, 57, 54, 57, 55, 57, 56, 57, 57]⟩)) (.t 117)), none, [7]⟩,
    ⟨(some 119), (.mov (.t 15)), none, []⟩,
    ⟨(some 120), (.indexStr (.c (.string ⟨#[48, 48, 48, 49, 48, 50, 48, 51, 48, 52, 48, 53, 48, 54, 48, 55, 48, 56, 48, 57, 49, 48, 49, 49, 49, 50, 49, 51, 49, 52, 49, 53, 49, 54, 49, 55, 49, 56, 49, 57, 50, 48, 50, 49, 50, 50, 50, 51, 50, 52, 50, 53, 50, 54, 50, 55, 50, 56, 50, 57, 51, 48, 51, 49, 51, 50, 51, 51, 51, 52, 51, 53, 51, 54, 51, 55, 51, 56, 51, 57, 52, 48, 52, 49, 52, 50, 52, 51, 52, 52, 52, 53, 52, 54, 52, 55, 52, 56, 52, 57, 53, 48, 53, 49, 53, 50, 53, 51, 53, 52, 53, 53, 53, 54, 53, 55, 53, 56, 53, 57, 54, 48, 54, 49, 54, 50, 54, 51, 54, 52, 54, 53, 54, 54, 54, 55, 54, 56, 54, 57, 55, 48, 55, 49, 55, 50, 55, 51, 55, 52, 55, 53, 55, 54, 55, 55, 55, 56, 55, 57, 56, 48, 56, 49, 56, 50, 56, 51, 56, 52, 56, 53, 56, 54, 56, 55, 56, 56, 56, 57, 57, 48, 57, 49, 57, 50, 57, 51, 57, 52, 57, 53, 57, 54, 57, 55, 57, 56, 57, 57]⟩)) (.t 119)), none, [9]⟩,
    ⟨(some 121), (.indexAddr 1 (.t 110) (.t 112)), none, [0, 2, 0, 1, 2, 6, 7, 8]⟩,
    ⟨none, (.store 1 (.t 121) (.t 118)), none, [11, 8, 0, 1, 2, 6, 7, 8]⟩,
    ⟨(some 122), (.indexAddr 1 (.t 113) (.t 115)), none, [3, 5, 0, 1, 2, 3, 4, 5, 6, 7, 8, 9, 10, 11, 12]⟩,
    ⟨none, (.store 1 (.t 122) (.t 120)), none, [13, 10, 12, 0, 1, 2, 3, 4, 5, 6, 7, 8, 9, 10, 11, 12]⟩] (some [(0, 1), (0, 2), (0, 3), (1, 3), (2, 3), (0, 4), (1, 4), (2, 4), (3, 4), (0, 5), (1, 5), (2, 5), (3, 5), (0, 6), (1, 6), (2, 6), (3, 6), (4, 6), (5, 6), (0, 7), (1, 7), (2, 7), (3, 7), (4, 7), (5, 7), (0, 8), (1, 8), (2, 8), (3, 8), (4, 8), (5, 8), (0, 9), (1, 9), (2, 9), (3, 9), (4, 9), (5, 9), (6, 9), (7, 9), (8, 9), (0, 10), (1, 10), (2, 10), (3, 10), (4, 10), (5, 10), (6, 10), (7, 10), (8, 10), (3, 11), (4, 11), (5, 11), (9, 11), (10, 11), (3, 12), (4, 12), (5, 12), (9, 12), (10, 12)])
def R72_5 : ACode := .region [⟨(some 123), (.mov (.t 0)), none, []⟩,
    ⟨(some 124), (.mov (.t 4)), none, []⟩,
    ⟨(some 125), (.bin .sub (.t 124) (.c (.int .i64 3))), none, [1]⟩,
    ⟨(some 126), (.mov (.t 0)), none, []⟩,
    ⟨(some 127), (.mov (.t 4)), none, []⟩,
    ⟨(some 128), (.bin .sub (.t 127) (.c (.int .i64 4))), none, [4]⟩,
    ⟨(some 129), (.mov (.t 14)), none, []⟩,
    ⟨(some 130), (.bin .add (.t 129) (.c (.int .u32 1))), none, [6]⟩,
    ⟨(some 131), (.indexStr (.c (.string ⟨#[48, 48, 48, 49, 48, 50, 48, 51, 48, 52, 48, 53, 48, 54, 48, 55, 48, 56, 48, 57, 49, 48, 49, 49, 49, 50, 49, 51, 49, 52, 49, 53, 49, 54, 49, 55, 49, 56, 49, 57, 50, 48, 50, 49, 50, 50, 50, 51, 50, 52, 50, 53, 50, 54, 50, 55, 50, 56, 50, 57, 51, 48, 51, 49, 51, 50, 51, 51, 51, 52, 51, 53, 51, 54, 51, 55, 51, 56, 51, 57, 52, 48, 52, 49, 52, 50, 52, 51, 52, 52, 52, 53, 52, 54, 52, 55, 52, 56, 52, 57, 53, 48, 53, 49, 53, 50, 53, 51, 53, 52, 53, 53, 53, 54, 53, 55, 53, 56, 53, 57, 54, 48, 54, 49, 54, 50, 54, 51, 54, 52, 54, 53, 54, 54, 54, 55, 54, 56, 54, 57, 55, 48, 55, 49, 55, 50, 55, 51, 55, 52, 55, 53, 55, 54, 55, 55, 55, 56, 55, 57, 56, 48, 56, 49, 56, 50, 56, 51, 56, 52, 56, 53, 56, 54, 56, 55, 56, 56, 56, 57, 57, 48, 57, 49, 57, 50, 57, 51, 57, 52, 57, 53, 57, 54, 57, 55, 57, 56, 57, 57]⟩)) (.t 130)), none, [7]⟩,
    ⟨(some 132), (.mov (.t 14)), none, []⟩,
    ⟨(some 133), (.indexStr (.c (.string ⟨#[48, 48, 48, 49, 48, 50, 48, 51, 48, 52, 48, 53, 48, 54, 48, 55, 48, 56, 48, 57, 49, 48, 49, 49, 49, 50, 49, 51, 49, 52, 49, 53, 49, 54, 49, 55, 49, 56, 49, 57, 50, 48, 50, 49, 50, 50, 50, 51, 50, 52, 50, 53, 50, 54, 50, 55, 50, 56, 50, 57, 51, 48, 51, 49, 51, 50, 51, 51, 51, 52, 51, 53, 51, 54, 51, 55, 51, 56, 51, 57, 52, 48, 52, 49, 52, 50, 52, 51, 52, 52, 52, 53, 52, 54, 52, 55, 52, 56, 52, 57, 53, 48, 53, 49, 53, 50, 53, 51, 53, 52, 53, 53, 53, 54, 53, 55, 53, 56, 53, 57, 54, 48, 54, 49, 54, 50, 54, 51, 54, 52, 54, 53, 54, 54, 54, 55, 54, 56, 54, 57, 55, 48, 55, 49, 55, 50, 55, 51, 55, 52, 55, 53, 55, 54, 55, 55, 55, 56, 55, 57, 56, 48, 56, 49, 56, 50, 56, 51, 56, 52, 56, 53, 56, 54, 56, 55, 56, 56, 56, 57, 57, 48, 57, 49, 57, 50, 57, 51, 57, 52, 57, 53, 57, 54, 57, 55, 57, 56, 57, 57]⟩)) (.t 132)), none, [9]⟩,
    ⟨(some 134), (.indexAddr 1 (.t 123) (.t 125)), none, [0, 2, 0, 1, 2, 6, 7, 8]⟩,
    ⟨none, (.store 1 (.t 134) (.t 131)), none, [11, 8, 0, 1, 2, 6, 7, 8]⟩,
    ⟨(some 135), (.indexAddr 1 (.t 126) (.t 128)), none, [3, 5, 0, 1, 2, 3, 4, 5, 6, 7, 8, 9, 10, 11, 12]⟩,
    ⟨none, (.store 1 (.t 135) (.t 133)), none, [13, 10, 12, 0, 1, 2, 3, 4, 5, 6, 7, 8, 9, 10, 11, 12]⟩] (some [(0, 1), (0, 2), (0, 3), (1, 3), (2, 3), (0, 4), (1, 4), (2, 4), (3, 4), (0, 5), (1, 5), (2, 5), (3, 5), (0, 6), (1, 6), (2, 6), (3, 6), (4, 6), (5, 6), (0, 7), (1, 7), (2, 7), (3, 7), (4, 7), (5, 7), (0, 8), (1, 8), (2, 8), (3, 8), (4, 8), (5, 8), (0, 9), (1, 9), (2, 9), (3, 9), (4, 9), (5, 9), (6, 9), (7, 9), (8, 9), (0, 10), (1, 10), (2, 10), (3, 10), (4, 10), (5, 10), (6, 10), (7, 10), (8, 10), (3, 11), (4, 11), (5, 11), (9, 11), (10, 11), (3, 12), (4, 12), (5, 12), (9, 12), (10, 12)])
def R72_6 : ACode := .region [⟨(some 145), (.mov (.t 0)), none, []⟩,
    ⟨(some 146), (.mov (.t 4)), none, []⟩,
    ⟨(some 147), (.bin .sub (.t 146) (.c (.int .i64 1))), none, [1]⟩,
    ⟨(some 148), (.mov (.t 0)), none, []⟩,
    ⟨(some 149), (.mov (.t 4)), none, []⟩,
    ⟨(some 150), (.bin .sub (.t 149) (.c (.int .i64 2))), none, [4]⟩,
    ⟨(some 151), (.mov (.t 16)), none, []⟩,
    ⟨(some 152), (.bin .add (.t 151) (.c (.int .u32 1))), none, [6]⟩,
    ⟨(some 153), (.indexStr (.c (.string ⟨#[48, 48, 48, 49, 48, 50, 48, 51, 48, 52, 48, 53, 48, 54, 48, 55, 48, 56, 48, 57, 49, 48, 49, 49, 49, 50, 49, 51, 49, 52, 49, 53, 49, 54, 49, 55, 49, 56, 49, 57, 50, 48, 50, 49, 50, 50, 50, 51, 50, 52, 50, 53, 50, 54, 50, 55, 50, 56, 50, 57, 51, 48, 51, 49, 51, 50, 51, 51, 51, 52, 51, 53, 51, 54, 51, 55, 51, 56, 51, 57, 52, 48, 52, 49, 52, 50, 52, 51, 52, 52, 52, 53, 52, 54, 52, 55, 52, 56, 52, 57, 53, 48, 53, 49, 53, 50, 53, 51, 53, 52, 53, 53, 53, 54, 53, 55, 53, 56, 53, 57, 54, 48, 54, 49, 54, 50, 54, 51, 54, 52, 54, 53, 54, 54, 54, 55, 54, 56, 54, 57, 55, 48, 55, 49, 55, 50, 55, 51, 55, 52, 55, 53, 55, 54, 55, 55, 55, 56, 55, 57, 56, 48, 56, 49, 56, 50, 56, 51, 56, 52, 56, 53, 56, 54, 56, 55, 56, 56, 56, 57, 57, 48, 57, 49, 57, 50, 57, 51, 57, 52, 57, 53, 57, 54, 57, 55, 57, 56, 57, 57]⟩)) (.t 152)), none, [7]⟩,
    ⟨(some 154), (.mov (.t 16)), none, []⟩,
    ⟨(some 155), (.indexStr (.c (.string ⟨#[48, 48, 48, 49, 48, 50, 48, 51, 48, 52, 48, 53, 48, 54, 48, 55, 48, 56, 48, 57, 49, 48, 49, 49, 49, 50, 49, 51, 49, 52, 49, 53, 49, 54, 49, 55, 49, 56, 49, 57, 50, 48, 50, 49, 50, 50, 50, 51, 50, 52, 50, 53, 50, 54, 50, 55, 50, 56, 50, 57, 51, 48, 51, 49, 51, 50, 51, 51, 51, 52, 51, 53, 51, 54, 51, 55, 51, 56, 51, 57, 52, 48, 52, 49, 52, 50, 52, 51, 52, 52, 52, 53, 52, 54, 52, 55, 52, 56, 52, 57, 53, 48, 53, 49, 53, 50, 53, 51, 53, 52, 53, 53, 53, 54, 53, 55, 53, 56, 53, 57, 54, 48, 54, 49, 54, 50, 54, 51, 54, 52, 54, 53, 54, 54, 54, 55, 54, 56, 54, 57, 55, 48, 55, 49, 55, 50, 55, 51, 55, 52, 55, 53, 55, 54, 55, 55, 55, 56, 55, 57, 56, 48, 56, 49, 56, 50, 56, 51, 56, 52, 56, 53, 56, 54, 56, 55, 56, 56, 56, 57, 57, 48, 57, 49, 57, 50, 57, 51, 57, 52, 57, 53, 57, 54, 57, 55, 57, 56, 57, 57]⟩)) (.t 154)), none, [9]⟩,
    ⟨(some 156), (.indexAddr 1 (.t 145) (.t 147)), none, [0, 2, 0, 1, 2, 6, 7, 8]⟩,
    ⟨none, (.store 1 (.t 156) (.t 153)), none, [11, 8, 0, 1, 2, 6, 7, 8]⟩,
    ⟨(some 157), (.indexAddr 1 (.t 148) (.t 150)), none, [3, 5, 0, 1, 2, 3, 4, 5, 6, 7, 8, 9, 10, 11, 12]⟩,
    ⟨none, (.store 1 (.t 157) (.t 155)), none, [13, 10, 12, 0, 1, 2, 3, 4, 5, 6, 7, 8, 9, 10, 11, 12]⟩] (some [(0, 1), (0, 2), (0, 3), (1, 3), (2, 3), (0, 4), (1, 4), (2, 4), (3, 4), (0, 5), (1, 5), (2, 5), (3, 5), (0, 6), (1, 6), (2, 6), (3, 6), (4, 6), (5, 6), (0, 7), (1, 7), (2, 7), (3, 7), (4, 7), (5, 7), (0, 8), (1, 8), (2, 8), (3, 8), (4, 8), (5, 8), (0, 9), (1, 9), (2, 9), (3, 9), (4, 9), (5, 9), (6, 9), (7, 9), (8, 9), (0, 10), (1, 10), (2, 10), (3, 10), (4, 10), (5, 10), (6, 10), (7, 10), (8, 10), (3, 11), (4, 11), (5, 11), (9, 11), (10, 11), (3, 12), (4, 12), (5, 12), (9, 12), (10, 12)])
/-- internal/strconv.formatBase10 -/
def F72L0 : ACode := (.seq (.seq (.region [⟨(some 19), (.mov (.t 4)), none, []⟩,
    ⟨(some 20), (.bin .geq (.t 19) (.c (.int .i64 8))), none, []⟩] none)
  (.cond (.t 20)
  .skip
  (.exit 0)))
  (.block 1 (.seq (.region [⟨(some 21), (.mov (.t 1)), none, []⟩,
    ⟨(some 22), (.bin .rem (.t 21) (.c (.int .u64 100000000))), none, []⟩,
    ⟨(some 23), (.conv .u32 (.t 22)), none, []⟩,
    ⟨(some 5), (.mov (.t 23)), none, []⟩] none)
  (.seq (.region [⟨(some 24), (.mov (.t 1)), none, []⟩,
    ⟨(some 25), (.bin .quo (.t 24) (.c (.int .u64 100000000))), none, []⟩,
    ⟨(some 1), (.mov (.t 25)), none, []⟩] none)
  (.seq (.region [⟨(some 26), (.mov (.t 5)), none, []⟩,
    ⟨(some 27), (.bin .quo (.t 26) (.c (.int .u32 10000))), none, []⟩,
    ⟨(some 28), (.mov (.t 5)), none, []⟩,
    ⟨(some 29), (.bin .rem (.t 28) (.c (.int .u32 10000))), none, []⟩,
    ⟨(some 6), (.mov (.t 27)), none, []⟩,
    ⟨(some 7), (.mov (.t 29)), none, []⟩] none)
  (.seq (.region [⟨(some 30), (.mov (.t 7)), none, []⟩,
    ⟨(some 31), (.bin .quo (.t 30) (.c (.int .u32 100))), none, []⟩,
    ⟨(some 32), (.bin .mul (.t 31) (.c (.int .u32 2))), none, []⟩,
    ⟨(some 33), (.mov (.t 7)), none, []⟩,
    ⟨(some 34), (.bin .rem (.t 33) (.c (.int .u32 100))), none, []⟩,
    ⟨(some 35), (.bin .mul (.t 34) (.c (.int .u32 2))), none, []⟩,
    ⟨(some 8), (.mov (.t 32)), none, []⟩,
    ⟨(some 9), (.mov (.t 35)), none, []⟩] none)
  (.seq (.region [⟨(some 36), (.mov (.t 6)), none, []⟩,
    ⟨(some 37), (.bin .quo (.t 36) (.c (.int .u32 100))), none, []⟩,
    ⟨(some 38), (.bin .mul (.t 37) (.c (.int .u32 2))), none, []⟩,
    ⟨(some 39), (.mov (.t 6)), none, []⟩,
    ⟨(some 40), (.bin .rem (.t 39) (.c (.int .u32 100))), none, []⟩,
    ⟨(some 41), (.bin .mul (.t 40) (.c (.int .u32 2))), none, []⟩,
    ⟨(some 10), (.mov (.t 38)), none, []⟩,
    ⟨(some 11), (.mov (.t 41)), none, []⟩] none)
  (.seq R72_0
  (.seq R72_1
  (.seq R72_2
  (.seq R72_3
  (.region [⟨(some 94), (.mov (.t 4)), none, []⟩,
    ⟨(some 95), (.bin .sub (.t 94) (.c (.int .i64 8))), none, []⟩,
    ⟨(some 4), (.mov (.t 95)), none, []⟩] none))))))))))))
def B72 : ACode := (.seq (.region [⟨(some 17), (.mov (.t 0)), none, []⟩,
    ⟨(some 18), (.lenSlice (.t 17)), none, []⟩,
    ⟨(some 4), (.mov (.t 18)), none, []⟩] none)
  (.seq (.block 0 (.loop F72L0))
  (.seq (.region [⟨(some 96), (.mov (.t 1)), none, []⟩,
    ⟨(some 97), (.conv .u32 (.t 96)), none, []⟩,
    ⟨(some 12), (.mov (.t 97)), none, []⟩] none)
  (.seq (.seq (.region [⟨(some 98), (.mov (.t 4)), none, []⟩,
    ⟨(some 99), (.bin .geq (.t 98) (.c (.int .i64 4))), none, []⟩] none)
  (.cond (.t 99)
  (.seq (.region [⟨(some 100), (.mov (.t 12)), none, []⟩,
    ⟨(some 101), (.bin .rem (.t 100) (.c (.int .u32 10000))), none, []⟩,
    ⟨(some 13), (.mov (.t 101)), none, []⟩] none)
  (.seq (.region [⟨(some 102), (.mov (.t 12)), none, []⟩,
    ⟨(some 103), (.bin .quo (.t 102) (.c (.int .u32 10000))), none, []⟩,
    ⟨(some 12), (.mov (.t 103)), none, []⟩] none)
  (.seq (.region [⟨(some 104), (.mov (.t 13)), none, []⟩,
    ⟨(some 105), (.bin .quo (.t 104) (.c (.int .u32 100))), none, []⟩,
    ⟨(some 106), (.bin .mul (.t 105) (.c (.int .u32 2))), none, []⟩,
    ⟨(some 107), (.mov (.t 13)), none, []⟩,
    ⟨(some 108), (.bin .rem (.t 107) (.c (.int .u32 100))), none, []⟩,
    ⟨(some 109), (.bin .mul (.t 108) (.c (.int .u32 2))), none, []⟩,
    ⟨(some 14), (.mov (.t 106)), none, []⟩,
    ⟨(some 15), (.mov (.t 109)), none, []⟩] none)
  (.seq R72_4
  (.seq R72_5
  (.region [⟨(some 136), (.mov (.t 4)), none, []⟩,
    ⟨(some 137), (.bin .sub (.t 136) (.c (.int .i64 4))), none, []⟩,
    ⟨(some 4), (.mov (.t 137)), none, []⟩] none))))))
  .skip))
  (.seq (.seq (.region [⟨(some 138), (.mov (.t 4)), none, []⟩,
    ⟨(some 139), (.bin .geq (.t 138) (.c (.int .i64 2))), none, []⟩] none)
  (.cond (.t 139)
  (.seq (.region [⟨(some 140), (.mov (.t 12)), none, []⟩,
    ⟨(some 141), (.bin .rem (.t 140) (.c (.int .u32 100))), none, []⟩,
    ⟨(some 142), (.bin .mul (.t 141) (.c (.int .u32 2))), none, []⟩,
    ⟨(some 16), (.mov (.t 142)), none, []⟩] none)
  (.seq (.region [⟨(some 143), (.mov (.t 12)), none, []⟩,
    ⟨(some 144), (.bin .quo (.t 143) (.c (.int .u32 100))), none, []⟩,
    ⟨(some 12), (.mov (.t 144)), none, []⟩] none)
  (.seq R72_6
  (.region [⟨(some 158), (.mov (.t 4)), none, []⟩,
    ⟨(some 159), (.bin .sub (.t 158) (.c (.int .i64 2))), none, []⟩,
    ⟨(some 4), (.mov (.t 159)), none, []⟩] none))))
  .skip))
  (.seq (.region [⟨(some 160), (.mov (.t 4)), none, []⟩,
    ⟨(some 161), (.bin .gtr (.t 160) (.c (.int .i64 0))), none, []⟩] none)
  (.cond (.t 161)
  (.region [⟨(some 162), (.mov (.t 0)), none, []⟩,
    ⟨(some 163), (.mov (.t 12)), none, []⟩,
    ⟨(some 164), (.bin .add (.c (.int .u32 48)) (.t 163)), none, []⟩,
    ⟨(some 165), (.conv .u8 (.t 164)), none, []⟩,
    ⟨(some 166), (.indexAddr 1 (.t 162) (.c (.int .i64 0))), none, []⟩,
    ⟨none, (.store 1 (.t 166) (.t 165)), none, []⟩] none)
  .skip)))))))
def F72 : AFunc := ⟨2, 167, [], B72⟩
-- F72L0 live: [0, 1, 4]
/-- internal/strconv.formatBits -/
def F73L0 : ACode := (.seq (.seq (.region [⟨(some 44), (.mov (.t 1)), none, []⟩,
    ⟨(some 45), (.mov (.t 15)), none, []⟩,
    ⟨(some 46), (.bin .geq (.t 44) (.t 45)), none, []⟩] none)
  (.cond (.t 46)
  .skip
  (.exit 0)))
  (.block 1 (.seq (.region [⟨(some 47), (.mov (.t 13)), none, []⟩,
    ⟨(some 48), (.bin .sub (.t 47) (.c (.int .i64 1))), none, []⟩,
    ⟨(some 13), (.mov (.t 48)), none, []⟩] none)
  (.seq (.region [⟨(some 49), (.mov (.t 13)), none, []⟩,
    ⟨(some 50), (.mov (.t 1)), none, []⟩,
    ⟨(some 51), (.mov (.t 16)), none, []⟩,
    ⟨(some 52), (.bin .and (.t 50) (.t 51)), none, []⟩,
    ⟨(some 53), (.indexStr (.c (.string ⟨#[48, 49, 50, 51, 52, 53, 54, 55, 56, 57, 97, 98, 99, 100, 101, 102, 103, 104, 105, 106, 107, 108, 109, 110, 111, 112, 113, 114, 115, 116, 117, 118, 119, 120, 121, 122]⟩)) (.t 52)), none, []⟩,
    ⟨(some 54), (.indexArr 1 65 (.t 12) (.t 49)), none, []⟩,
    ⟨none, (.store 1 (.t 54) (.t 53)), none, []⟩] none)
  (.region [⟨(some 55), (.mov (.t 1)), none, []⟩,
    ⟨(some 56), (.mov (.t 14)), none, []⟩,
    ⟨(some 57), (.bin .shr (.t 55) (.t 56)), none, []⟩,
    ⟨(some 1), (.mov (.t 57)), none, []⟩] none)))))
def F73L1 : ACode := (.seq (.seq (.region [⟨(some 66), (.mov (.t 1)), none, []⟩,
    ⟨(some 67), (.mov (.t 17)), none, []⟩,
    ⟨(some 68), (.bin .geq (.t 66) (.t 67)), none, []⟩] none)
  (.cond (.t 68)
  .skip
  (.exit 2)))
  (.block 3 (.seq (.region [⟨(some 69), (.mov (.t 13)), none, []⟩,
    ⟨(some 70), (.bin .sub (.t 69) (.c (.int .i64 1))), none, []⟩,
    ⟨(some 13), (.mov (.t 70)), none, []⟩] none)
  (.seq (.region [⟨(some 71), (.mov (.t 1)), none, []⟩,
    ⟨(some 72), (.mov (.t 17)), none, []⟩,
    ⟨(some 73), (.bin .quo (.t 71) (.t 72)), none, []⟩,
    ⟨(some 18), (.mov (.t 73)), none, []⟩] none)
  (.seq (.region [⟨(some 74), (.mov (.t 13)), none, []⟩,
    ⟨(some 75), (.mov (.t 1)), none, []⟩,
    ⟨(some 76), (.mov (.t 18)), none, []⟩,
    ⟨(some 77), (.mov (.t 17)), none, []⟩,
    ⟨(some 78), (.bin .mul (.t 76) (.t 77)), none, []⟩,
    ⟨(some 79), (.bin .sub (.t 75) (.t 78)), none, []⟩,
    ⟨(some 80), (.indexStr (.c (.string ⟨#[48, 49, 50, 51, 52, 53, 54, 55, 56, 57, 97, 98, 99, 100, 101, 102, 103, 104, 105, 106, 107, 108, 109, 110, 111, 112, 113, 114, 115, 116, 117, 118, 119, 120, 121, 122]⟩)) (.t 79)), none, []⟩,
    ⟨(some 81), (.indexArr 1 65 (.t 12) (.t 74)), none, []⟩,
    ⟨none, (.store 1 (.t 81) (.t 80)), none, []⟩] none)
  (.region [⟨(some 82), (.mov (.t 18)), none, []⟩,
    ⟨(some 1), (.mov (.t 82)), none, []⟩] none))))))
def B73 : ACode := (.seq (.region [⟨(some 10), (.mov (.c (.slice none 0 0))), none, []⟩,
    ⟨(some 11), (.mov (.c (.string ⟨#[]⟩))), none, []⟩] none)
  (.seq (.seq (.region [⟨(some 19), (.mov (.t 2)), none, []⟩,
    ⟨(some 20), (.bin .lss (.t 19) (.c (.int .i64 2))), none, []⟩,
    ⟨(some 21), (.mov (.t 20)), none, []⟩,
    ⟨(some 22), (.mov (.t 2)), (some (21, false)), []⟩,
    ⟨(some 23), (.bin .eql (.t 22) (.c (.int .i64 10))), (some (21, false)), []⟩,
    ⟨(some 24), (.pick (.t 21) (.c (.bool true)) (.t 23)), none, []⟩,
    ⟨(some 25), (.mov (.t 24)), none, []⟩,
    ⟨(some 26), (.mov (.t 2)), (some (25, false)), []⟩,
    ⟨(some 27), (.bin .gtr (.t 26) (.c (.int .i64 36))), (some (25, false)), []⟩,
    ⟨(some 28), (.pick (.t 25) (.c (.bool true)) (.t 27)), none, []⟩] none)
  (.cond (.t 28)
  (.region [⟨(some 29), (.makeIface 9 (.c (.string ⟨#[115, 116, 114, 99, 111, 110, 118, 58, 32, 105, 108, 108, 101, 103, 97, 108, 32, 65, 112, 112, 101, 110, 100, 73, 110, 116, 47, 70, 111, 114, 109, 97, 116, 73, 110, 116, 32, 98, 97, 115, 101]⟩))), none, []⟩,
    ⟨none, .fail, none, []⟩] none)
  .skip))
  (.seq (.region [⟨(some 12), (.alloc 121 [(.int .u8 0), (.int .u8 0), (.int .u8 0), (.int .u8 0), (.int .u8 0), (.int .u8 0), (.int .u8 0), (.int .u8 0), (.int .u8 0), (.int .u8 0), (.int .u8 0), (.int .u8 0), (.int .u8 0), (.int .u8 0), (.int .u8 0), (.int .u8 0), (.int .u8 0), (.int .u8 0), (.int .u8 0), (.int .u8 0), (.int .u8 0), (.int .u8 0), (.int .u8 0), (.int .u8 0), (.int .u8 0), (.int .u8 0), (.int .u8 0), (.int .u8 0), (.int .u8 0), (.int .u8 0), (.int .u8 0), (.int .u8 0), (.int .u8 0), (.int .u8 0), (.int .u8 0), (.int .u8 0), (.int .u8 0), (.int .u8 0), (.int .u8 0), (.int .u8 0), (.int .u8 0), (.int .u8 0), (.int .u8 0), (.int .u8 0), (.int .u8 0), (.int .u8 0), (.int .u8 0), (.int .u8 0), (.int .u8 0), (.int .u8 0), (.int .u8 0), (.int .u8 0), (.int .u8 0), (.int .u8 0), (.int .u8 0), (.int .u8 0), (.int .u8 0), (.int .u8 0), (.int .u8 0), (.int .u8 0), (.int .u8 0), (.int .u8 0), (.int .u8 0), (.int .u8 0), (.int .u8 0)]), none, []⟩] none)
  (.seq (.region [⟨(some 13), (.mov (.c (.int .i64 65))), none, []⟩] none)
  (.seq (.seq (.region [⟨(some 30), (.mov (.t 3)), none, []⟩] none)
  (.cond (.t 30)
  (.region [⟨(some 31), (.mov (.t 1)), none, []⟩,
    ⟨(some 32), (.un .neg (.t 31)), none, []⟩,
    ⟨(some 1), (.mov (.t 32)), none, []⟩] none)
  .skip))
  (.seq (.seq (.region [⟨(some 33), (.mov (.t 2)), none, []⟩,
    ⟨(some 34), (.call (.f 89) [(.t 33)]), none, []⟩] none)
  (.cond (.t 34)
  (.seq (.region [⟨(some 35), (.mov (.t 2)), none, []⟩,
    ⟨(some 36), (.conv .u64 (.t 35)), none, []⟩,
    ⟨(some 37), (.call (.f 90) [(.t 36)]), none, []⟩,
    ⟨(some 38), (.conv .u64 (.t 37)), none, []⟩,
    ⟨(some 14), (.mov (.t 38)), none, []⟩] none)
  (.seq (.region [⟨(some 39), (.mov (.t 2)), none, []⟩,
    ⟨(some 40), (.conv .u64 (.t 39)), none, []⟩,
    ⟨(some 15), (.mov (.t 40)), none, []⟩] none)
  (.seq (.region [⟨(some 41), (.mov (.t 2)), none, []⟩,
    ⟨(some 42), (.conv .u64 (.t 41)), none, []⟩,
    ⟨(some 43), (.bin .sub (.t 42) (.c (.int .u64 1))), none, []⟩,
    ⟨(some 16), (.mov (.t 43)), none, []⟩] none)
  (.seq (.block 0 (.loop F73L0))
  (.seq (.region [⟨(some 58), (.mov (.t 13)), none, []⟩,
    ⟨(some 59), (.bin .sub (.t 58) (.c (.int .i64 1))), none, []⟩,
    ⟨(some 13), (.mov (.t 59)), none, []⟩] none)
  (.region [⟨(some 60), (.mov (.t 13)), none, []⟩,
    ⟨(some 61), (.mov (.t 1)), none, []⟩,
    ⟨(some 62), (.indexStr (.c (.string ⟨#[48, 49, 50, 51, 52, 53, 54, 55, 56, 57, 97, 98, 99, 100, 101, 102, 103, 104, 105, 106, 107, 108, 109, 110, 111, 112, 113, 114, 115, 116, 117, 118, 119, 120, 121, 122]⟩)) (.t 61)), none, []⟩,
    ⟨(some 63), (.indexArr 1 65 (.t 12) (.t 60)), none, []⟩,
    ⟨none, (.store 1 (.t 63) (.t 62)), none, []⟩] none))))))
  (.seq (.region [⟨(some 64), (.mov (.t 2)), none, []⟩,
    ⟨(some 65), (.conv .u64 (.t 64)), none, []⟩,
    ⟨(some 17), (.mov (.t 65)), none, []⟩] none)
  (.seq (.block 2 (.loop F73L1))
  (.seq (.region [⟨(some 83), (.mov (.t 13)), none, []⟩,
    ⟨(some 84), (.bin .sub (.t 83) (.c (.int .i64 1))), none, []⟩,
    ⟨(some 13), (.mov (.t 84)), none, []⟩] none)
  (.region [⟨(some 85), (.mov (.t 13)), none, []⟩,
    ⟨(some 86), (.mov (.t 1)), none, []⟩,
    ⟨(some 87), (.indexStr (.c (.string ⟨#[48, 49, 50, 51, 52, 53, 54, 55, 56, 57, 97, 98, 99, 100, 101, 102, 103, 104, 105, 106, 107, 108, 109, 110, 111, 112, 113, 114, 115, 116, 117, 118, 119, 120, 121, 122]⟩)) (.t 86)), none, []⟩,
    ⟨(some 88), (.indexArr 1 65 (.t 12) (.t 85)), none, []⟩,
    ⟨none, (.store 1 (.t 88) (.t 87)), none, []⟩] none))))))
  (.seq (.seq (.region [⟨(some 89), (.mov (.t 3)), none, []⟩] none)
  (.cond (.t 89)
  (.seq (.region [⟨(some 90), (.mov (.t 13)), none, []⟩,
    ⟨(some 91), (.bin .sub (.t 90) (.c (.int .i64 1))), none, []⟩,
    ⟨(some 13), (.mov (.t 91)), none, []⟩] none)
  (.region [⟨(some 92), (.mov (.t 13)), none, []⟩,
    ⟨(some 93), (.indexArr 1 65 (.t 12) (.t 92)), none, []⟩,
    ⟨none, (.store 1 (.t 93) (.c (.int .u8 45))), none, []⟩] none))
  .skip))
  (.seq (.seq (.region [⟨(some 94), (.mov (.t 4)), none, []⟩] none)
  (.cond (.t 94)
  (.seq (.region [⟨(some 95), (.mov (.t 0)), none, []⟩,
    ⟨(some 96), (.mov (.t 13)), none, []⟩,
    ⟨(some 97), (.sliceArr 1 65 (.t 12) (some (.t 96)) none), none, []⟩,
    ⟨(some 98), (.append 5 1 1 (.t 95) (.t 97)), none, []⟩,
    ⟨(some 10), (.mov (.t 98)), none, []⟩] none)
  .ret)
  .skip))
  (.seq (.region [⟨(some 99), (.mov (.t 13)), none, []⟩,
    ⟨(some 100), (.sliceArr 1 65 (.t 12) (some (.t 99)) none), none, []⟩,
    ⟨(some 101), (.strOf (.t 100)), none, []⟩,
    ⟨(some 11), (.mov (.t 101)), none, []⟩] none)
  .ret)))))))))
def F73 : AFunc := ⟨5, 102, [(.tmp 10), (.tmp 11)], B73⟩
-- F73L0 live: [0, 1, 3, 4, 10, 11, 12, 13, 14, 15, 16]

-- F73L1 live: [0, 1, 3, 4, 10, 11, 12, 13, 17]
/-- strings.Count -/
def F75L0 : ACode := (.block 1 (.seq (.region [⟨(some 20), (.mov (.t 0)), none, []⟩,
    ⟨(some 21), (.mov (.t 1)), none, []⟩,
    ⟨(some 22), (.call (.f 76) [(.t 20), (.t 21)]), none, []⟩,
    ⟨(some 6), (.mov (.t 22)), none, []⟩] none)
  (.seq (.seq (.region [⟨(some 23), (.mov (.t 6)), none, []⟩,
    ⟨(some 24), (.bin .eql (.t 23) (.c (.int .i64 (-1)))), none, []⟩] none)
  (.cond (.t 24)
  (.seq (.region [⟨(some 25), (.mov (.t 5)), none, []⟩,
    ⟨(some 4), (.mov (.t 25)), none, []⟩] none)
  .ret)
  .skip))
  (.seq (.region [⟨(some 26), (.mov (.t 5)), none, []⟩,
    ⟨(some 27), (.bin .add (.t 26) (.c (.int .i64 1))), none, []⟩,
    ⟨(some 5), (.mov (.t 27)), none, []⟩] none)
  (.region [⟨(some 28), (.mov (.t 0)), none, []⟩,
    ⟨(some 29), (.mov (.t 6)), none, []⟩,
    ⟨(some 30), (.mov (.t 1)), none, []⟩,
    ⟨(some 31), (.lenStr (.t 30)), none, []⟩,
    ⟨(some 32), (.bin .add (.t 29) (.t 31)), none, []⟩,
    ⟨(some 33), (.sliceStr (.t 28) (some (.t 32)) none), none, []⟩,
    ⟨(some 0), (.mov (.t 33)), none, []⟩] none)))))
def B75 : ACode := (.seq (.region [⟨(some 4), (.mov (.c (.int .i64 0))), none, []⟩] none)
  (.seq (.seq (.region [⟨(some 7), (.mov (.t 1)), none, []⟩,
    ⟨(some 8), (.lenStr (.t 7)), none, []⟩,
    ⟨(some 9), (.bin .eql (.t 8) (.c (.int .i64 0))), none, []⟩] none)
  (.cond (.t 9)
  (.seq (.region [⟨(some 10), (.mov (.t 0)), none, []⟩,
    ⟨(some 11), (.call (.f 91) [(.t 10)]), none, []⟩,
    ⟨(some 12), (.bin .add (.t 11) (.c (.int .i64 1))), none, []⟩,
    ⟨(some 4), (.mov (.t 12)), none, []⟩] none)
  .ret)
  .skip))
  (.seq (.seq (.region [⟨(some 13), (.mov (.t 1)), none, []⟩,
    ⟨(some 14), (.lenStr (.t 13)), none, []⟩,
    ⟨(some 15), (.bin .eql (.t 14) (.c (.int .i64 1))), none, []⟩] none)
  (.cond (.t 15)
  (.seq (.region [⟨(some 16), (.mov (.t 0)), none, []⟩,
    ⟨(some 17), (.mov (.t 1)), none, []⟩,
    ⟨(some 18), (.indexStr (.t 17) (.c (.int .i64 0))), none, []⟩,
    ⟨(some 19), (.call (.f 92) [(.t 16), (.t 18)]), none, []⟩,
    ⟨(some 4), (.mov (.t 19)), none, []⟩] none)
  .ret)
  .skip))
  (.seq (.region [⟨(some 5), (.mov (.c (.int .i64 0))), none, []⟩] none)
  (.block 0 (.loop F75L0))))))
def F75 : AFunc := ⟨2, 34, [(.tmp 4)], B75⟩
-- F75L0 live: [0, 1, 5]
/-- strings.Index -/
def B76 : ACode := (.seq (.region [⟨(some 4), (.mov (.c (.int .i64 0))), none, []⟩] none)
  (.seq (.region [⟨(some 5), (.mov (.t 0)), none, []⟩,
    ⟨(some 6), (.mov (.t 1)), none, []⟩,
    ⟨(some 7), (.call (.f 51) [(.t 5), (.t 6)]), none, []⟩,
    ⟨(some 4), (.mov (.t 7)), none, []⟩] none)
  .ret))
def F76 : AFunc := ⟨2, 8, [(.tmp 4)], B76⟩
/-- internal/strconv.ParseInt -/
def B79 : ACode := (.seq (.region [⟨(some 6), (.mov (.c (.int .i64 0))), none, []⟩,
    ⟨(some 7), (.mov (.c .nilIface)), none, []⟩] none)
  (.seq (.seq (.region [⟨(some 12), (.mov (.t 0)), none, []⟩,
    ⟨(some 13), (.bin .eql (.t 12) (.c (.string ⟨#[]⟩))), none, []⟩] none)
  (.cond (.t 13)
  (.seq (.region [⟨(some 14), (.makeIface 111 (.c (.int .i64 2))), none, []⟩,
    ⟨(some 6), (.mov (.c (.int .i64 0))), none, []⟩,
    ⟨(some 7), (.mov (.t 14)), none, []⟩] none)
  .ret)
  .skip))
  (.seq (.region [⟨(some 8), (.mov (.c (.bool false))), none, []⟩] none)
  (.seq (.seq (.region [⟨(some 15), (.mov (.t 0)), none, []⟩,
    ⟨(some 16), (.indexStr (.t 15) (.c (.int .i64 0))), none, []⟩] none)
  (.block 0 (.seq (.region [⟨(some 18), (.bin .eql (.t 16) (.c (.int .u8 43))), none, []⟩,
    ⟨(some 17), (.mov (.t 18)), none, []⟩] none)
  (.cond (.t 17)
  (.region [⟨(some 19), (.mov (.t 0)), none, []⟩,
    ⟨(some 20), (.sliceStr (.t 19) (some (.c (.int .i64 1))) none), none, []⟩,
    ⟨(some 0), (.mov (.t 20)), none, []⟩] none)
  (.seq (.region [⟨(some 22), (.bin .eql (.t 16) (.c (.int .u8 45))), none, []⟩,
    ⟨(some 21), (.mov (.t 22)), none, []⟩] none)
  (.cond (.t 21)
  (.seq (.region [⟨(some 23), (.mov (.t 0)), none, []⟩,
    ⟨(some 24), (.sliceStr (.t 23) (some (.c (.int .i64 1))) none), none, []⟩,
    ⟨(some 0), (.mov (.t 24)), none, []⟩] none)
  (.region [⟨(some 8), (.mov (.c (.bool true))), none, []⟩] none))
  .skip))))))
  (.seq (.region [⟨(some 9), (.mov (.c (.int .u64 0))), none, []⟩] none)
  (.seq (.region [⟨(some 26), (.mov (.t 0)), none, []⟩,
    ⟨(some 27), (.mov (.t 1)), none, []⟩,
    ⟨(some 28), (.mov (.t 2)), none, []⟩,
    ⟨(some 29), (.call (.f 95) [(.t 26), (.t 27), (.t 28)]), none, []⟩,
    ⟨(some 25), (.mov (.t 29)), none, []⟩,
    ⟨(some 30), (.extract (.t 25) 0), none, []⟩,
    ⟨(some 31), (.extract (.t 25) 1), none, []⟩,
    ⟨(some 9), (.mov (.t 30)), none, []⟩,
    ⟨(some 7), (.mov (.t 31)), none, []⟩] none)
  (.seq (.seq (.region [⟨(some 32), (.mov (.t 7)), none, []⟩,
    ⟨(some 33), (.eqv true .iface true (.t 32) (.c .nilIface)), none, []⟩,
    ⟨(some 34), (.mov (.t 33)), none, []⟩,
    ⟨(some 35), (.mov (.t 7)), (some (34, true)), []⟩,
    ⟨(some 36), (.makeIface 111 (.c (.int .i64 1))), (some (34, true)), []⟩,
    ⟨(some 37), (.eqv true (.ifc [2, 3, 5, 6, 12, 21, 23, 24, 32, 33, 88, 103, 111, 147, 148, 150, 151]) false (.t 35) (.t 36)), (some (34, true)), []⟩,
    ⟨(some 38), (.pick (.t 34) (.t 37) (.c (.bool false))), none, []⟩] none)
  (.cond (.t 38)
  (.seq (.region [⟨(some 39), (.mov (.t 7)), none, []⟩,
    ⟨(some 6), (.mov (.c (.int .i64 0))), none, []⟩,
    ⟨(some 7), (.mov (.t 39)), none, []⟩] none)
  .ret)
  .skip))
  (.seq (.seq (.region [⟨(some 40), (.mov (.t 2)), none, []⟩,
    ⟨(some 41), (.bin .eql (.t 40) (.c (.int .i64 0))), none, []⟩] none)
  (.cond (.t 41)
  (.region [⟨(some 2), (.mov (.c (.int .i64 64))), none, []⟩] none)
  .skip))
  (.seq (.region [⟨(some 42), (.mov (.t 2)), none, []⟩,
    ⟨(some 43), (.bin .sub (.t 42) (.c (.int .i64 1))), none, []⟩,
    ⟨(some 44), (.conv .u64 (.t 43)), none, []⟩,
    ⟨(some 45), (.bin .shl (.c (.int .u64 1)) (.t 44)), none, []⟩,
    ⟨(some 10), (.mov (.t 45)), none, []⟩] none)
  (.seq (.seq (.region [⟨(some 46), (.mov (.t 8)), none, []⟩,
    ⟨(some 47), (.un .not (.t 46)), none, []⟩,
    ⟨(some 48), (.mov (.t 47)), none, []⟩,
    ⟨(some 49), (.mov (.t 9)), (some (48, true)), []⟩,
    ⟨(some 50), (.mov (.t 10)), (some (48, true)), []⟩,
    ⟨(some 51), (.bin .geq (.t 49) (.t 50)), (some (48, true)), []⟩,
    ⟨(some 52), (.pick (.t 48) (.t 51) (.c (.bool false))), none, []⟩] none)
  (.cond (.t 52)
  (.seq (.region [⟨(some 53), (.mov (.t 10)), none, []⟩,
    ⟨(some 54), (.bin .sub (.t 53) (.c (.int .u64 1))), none, []⟩,
    ⟨(some 55), (.conv .i64 (.t 54)), none, []⟩,
    ⟨(some 56), (.makeIface 111 (.c (.int .i64 1))), none, []⟩,
    ⟨(some 6), (.mov (.t 55)), none, []⟩,
    ⟨(some 7), (.mov (.t 56)), none, []⟩] none)
  .ret)
  .skip))
  (.seq (.seq (.region [⟨(some 57), (.mov (.t 8)), none, []⟩,
    ⟨(some 58), (.mov (.t 57)), none, []⟩,
    ⟨(some 59), (.mov (.t 9)), (some (58, true)), []⟩,
    ⟨(some 60), (.mov (.t 10)), (some (58, true)), []⟩,
    ⟨(some 61), (.bin .gtr (.t 59) (.t 60)), (some (58, true)), []⟩,
    ⟨(some 62), (.pick (.t 58) (.t 61) (.c (.bool false))), none, []⟩] none)
  (.cond (.t 62)
  (.seq (.region [⟨(some 63), (.mov (.t 10)), none, []⟩,
    ⟨(some 64), (.conv .i64 (.t 63)), none, []⟩,
    ⟨(some 65), (.un .neg (.t 64)), none, []⟩,
    ⟨(some 66), (.makeIface 111 (.c (.int .i64 1))), none, []⟩,
    ⟨(some 6), (.mov (.t 65)), none, []⟩,
    ⟨(some 7), (.mov (.t 66)), none, []⟩] none)
  .ret)
  .skip))
  (.seq (.region [⟨(some 67), (.mov (.t 9)), none, []⟩,
    ⟨(some 68), (.conv .i64 (.t 67)), none, []⟩,
    ⟨(some 11), (.mov (.t 68)), none, []⟩] none)
  (.seq (.seq (.region [⟨(some 69), (.mov (.t 8)), none, []⟩] none)
  (.cond (.t 69)
  (.region [⟨(some 70), (.mov (.t 11)), none, []⟩,
    ⟨(some 71), (.un .neg (.t 70)), none, []⟩,
    ⟨(some 11), (.mov (.t 71)), none, []⟩] none)
  .skip))
  (.seq (.region [⟨(some 72), (.mov (.t 11)), none, []⟩,
    ⟨(some 6), (.mov (.t 72)), none, []⟩,
    ⟨(some 7), (.mov (.c .nilIface)), none, []⟩] none)
  .ret))))))))))))))
def F79 : AFunc := ⟨3, 73, [(.tmp 6), (.tmp 7)], B79⟩
def R80_0 : ACode := .region [⟨(some 5), (.mov (.t 0)), none, []⟩,
    ⟨(some 6), (.mov (.t 1)), none, []⟩,
    ⟨(some 7), (.call (.f 96) [(.t 6)]), none, [1]⟩,
    ⟨(some 8), (.load none (.g 2)), none, []⟩,
    ⟨(some 9), (.build [(.string ⟨#[]⟩), (.string ⟨#[]⟩), .nilIface] [(0, 1, (.t 5)), (1, 1, (.t 7)), (2, 1, (.t 8))]), none, [0, 2, 3]⟩,
    ⟨(some 10), (.box 128 (.t 9)), none, [4]⟩,
    ⟨(some 4), (.mov (.t 10)), none, [5, 2, 0, 1, 2, 3, 4, 5]⟩] (some [(0, 1), (0, 2), (0, 3), (1, 3), (2, 3)])
/-- strconv.syntaxError -/
def B80 : ACode := (.seq (.region [⟨(some 4), (.mov (.c (.pointer none))), none, []⟩] none)
  (.seq R80_0
  .ret))
def F80 : AFunc := ⟨2, 11, [(.tmp 4)], B80⟩
def R81_0 : ACode := .region [⟨(some 5), (.mov (.t 0)), none, []⟩,
    ⟨(some 6), (.mov (.t 1)), none, []⟩,
    ⟨(some 7), (.call (.f 96) [(.t 6)]), none, [1]⟩,
    ⟨(some 8), (.load none (.g 3)), none, []⟩,
    ⟨(some 9), (.build [(.string ⟨#[]⟩), (.string ⟨#[]⟩), .nilIface] [(0, 1, (.t 5)), (1, 1, (.t 7)), (2, 1, (.t 8))]), none, [0, 2, 3]⟩,
    ⟨(some 10), (.box 128 (.t 9)), none, [4]⟩,
    ⟨(some 4), (.mov (.t 10)), none, [5, 2, 0, 1, 2, 3, 4, 5]⟩] (some [(0, 1), (0, 2), (0, 3), (1, 3), (2, 3)])
/-- strconv.rangeError -/
def B81 : ACode := (.seq (.region [⟨(some 4), (.mov (.c (.pointer none))), none, []⟩] none)
  (.seq R81_0
  .ret))
def F81 : AFunc := ⟨2, 11, [(.tmp 4)], B81⟩
/-- strconv.baseError -/
def B82 : ACode := (.seq (.region [⟨(some 6), (.mov (.c (.pointer none))), none, []⟩] none)
  (.seq (.region [⟨(some 7), (.mov (.t 0)), none, []⟩,
    ⟨(some 8), (.mov (.t 1)), none, []⟩,
    ⟨(some 9), (.call (.f 96) [(.t 8)]), none, []⟩,
    ⟨(some 10), (.mov (.t 2)), none, []⟩,
    ⟨(some 11), (.call (.f 32) [(.t 10)]), none, []⟩,
    ⟨(some 12), (.bin .add (.c (.string ⟨#[105, 110, 118, 97, 108, 105, 100, 32, 98, 97, 115, 101, 32]⟩)) (.t 11)), none, []⟩,
    ⟨(some 13), (.call (.f 97) [(.t 12)]), none, []⟩,
    ⟨(some 14), (.build [(.string ⟨#[]⟩), (.string ⟨#[]⟩), .nilIface] [(0, 1, (.t 7)), (1, 1, (.t 9)), (2, 1, (.t 13))]), none, []⟩,
    ⟨(some 15), (.box 128 (.t 14)), none, []⟩,
    ⟨(some 6), (.mov (.t 15)), none, []⟩] none)
  .ret))
def F82 : AFunc := ⟨3, 16, [(.tmp 6)], B82⟩
/-- strconv.bitSizeError -/
def B83 : ACode := (.seq (.region [⟨(some 6), (.mov (.c (.pointer none))), none, []⟩] none)
  (.seq (.region [⟨(some 7), (.mov (.t 0)), none, []⟩,
    ⟨(some 8), (.mov (.t 1)), none, []⟩,
    ⟨(some 9), (.call (.f 96) [(.t 8)]), none, []⟩,
    ⟨(some 10), (.mov (.t 2)), none, []⟩,
    ⟨(some 11), (.call (.f 32) [(.t 10)]), none, []⟩,
    ⟨(some 12), (.bin .add (.c (.string ⟨#[105, 110, 118, 97, 108, 105, 100, 32, 98, 105, 116, 32, 115, 105, 122, 101, 32]⟩)) (.t 11)), none, []⟩,
    ⟨(some 13), (.call (.f 97) [(.t 12)]), none, []⟩,
    ⟨(some 14), (.build [(.string ⟨#[]⟩), (.string ⟨#[]⟩), .nilIface] [(0, 1, (.t 7)), (1, 1, (.t 9)), (2, 1, (.t 13))]), none, []⟩,
    ⟨(some 15), (.box 128 (.t 14)), none, []⟩,
    ⟨(some 6), (.mov (.t 15)), none, []⟩] none)
  .ret))
def F83 : AFunc := ⟨3, 16, [(.tmp 6)], B83⟩
/-- internal/strconv.log10Pow2 -/
def B86 : ACode := (.seq (.region [⟨(some 2), (.mov (.c (.int .i64 0))), none, []⟩] none)
  (.seq (.region [⟨(some 3), (.mov (.t 0)), none, []⟩,
    ⟨(some 4), (.bin .mul (.t 3) (.c (.int .i64 78913))), none, []⟩,
    ⟨(some 5), (.bin .shr (.t 4) (.c (.int .u64 18))), none, []⟩,
    ⟨(some 2), (.mov (.t 5)), none, []⟩] none)
  .ret))
def F86 : AFunc := ⟨1, 6, [(.tmp 2)], B86⟩
/-- math/bits.Len64 -/
def B87 : ACode := (.seq (.region [⟨(some 2), (.mov (.c (.int .i64 0))), none, []⟩] none)
  (.seq (.seq (.region [⟨(some 3), (.mov (.t 0)), none, []⟩,
    ⟨(some 4), (.bin .geq (.t 3) (.c (.int .u64 4294967296))), none, []⟩] none)
  (.cond (.t 4)
  (.seq (.region [⟨(some 5), (.mov (.t 0)), none, []⟩,
    ⟨(some 6), (.bin .shr (.t 5) (.c (.int .u64 32))), none, []⟩,
    ⟨(some 0), (.mov (.t 6)), none, []⟩] none)
  (.region [⟨(some 2), (.mov (.c (.int .i64 32))), none, []⟩] none))
  .skip))
  (.seq (.seq (.region [⟨(some 7), (.mov (.t 0)), none, []⟩,
    ⟨(some 8), (.bin .geq (.t 7) (.c (.int .u64 65536))), none, []⟩] none)
  (.cond (.t 8)
  (.seq (.region [⟨(some 9), (.mov (.t 0)), none, []⟩,
    ⟨(some 10), (.bin .shr (.t 9) (.c (.int .u64 16))), none, []⟩,
    ⟨(some 0), (.mov (.t 10)), none, []⟩] none)
  (.region [⟨(some 11), (.mov (.t 2)), none, []⟩,
    ⟨(some 12), (.bin .add (.t 11) (.c (.int .i64 16))), none, []⟩,
    ⟨(some 2), (.mov (.t 12)), none, []⟩] none))
  .skip))
  (.seq (.seq (.region [⟨(some 13), (.mov (.t 0)), none, []⟩,
    ⟨(some 14), (.bin .geq (.t 13) (.c (.int .u64 256))), none, []⟩] none)
  (.cond (.t 14)
  (.seq (.region [⟨(some 15), (.mov (.t 0)), none, []⟩,
    ⟨(some 16), (.bin .shr (.t 15) (.c (.int .u64 8))), none, []⟩,
    ⟨(some 0), (.mov (.t 16)), none, []⟩] none)
  (.region [⟨(some 17), (.mov (.t 2)), none, []⟩,
    ⟨(some 18), (.bin .add (.t 17) (.c (.int .i64 8))), none, []⟩,
    ⟨(some 2), (.mov (.t 18)), none, []⟩] none))
  .skip))
  (.seq (.region [⟨(some 19), (.mov (.t 2)), none, []⟩,
    ⟨(some 20), (.mov (.t 0)), none, []⟩,
    ⟨(some 21), (.conv .u8 (.t 20)), none, []⟩,
    ⟨(some 22), (.indexStr (.c (.string ⟨#[0, 1, 2, 2, 3, 3, 3, 3, 4, 4, 4, 4, 4, 4, 4, 4, 5, 5, 5, 5, 5, 5, 5, 5, 5, 5, 5, 5, 5, 5, 5, 5, 6, 6, 6, 6, 6, 6, 6, 6, 6, 6, 6, 6, 6, 6, 6, 6, 6, 6, 6, 6, 6, 6, 6, 6, 6, 6, 6, 6, 6, 6, 6, 6, 7, 7, 7, 7, 7, 7, 7, 7, 7, 7, 7, 7, 7, 7, 7, 7, 7, 7, 7, 7, 7, 7, 7, 7, 7, 7, 7, 7, 7, 7, 7, 7, 7, 7, 7, 7, 7, 7, 7, 7, 7, 7, 7, 7, 7, 7, 7, 7, 7, 7, 7, 7, 7, 7, 7, 7, 7, 7, 7, 7, 7, 7, 7, 7, 8, 8, 8, 8, 8, 8, 8, 8, 8, 8, 8, 8, 8, 8, 8, 8, 8, 8, 8, 8, 8, 8, 8, 8, 8, 8, 8, 8, 8, 8, 8, 8, 8, 8, 8, 8, 8, 8, 8, 8, 8, 8, 8, 8, 8, 8, 8, 8, 8, 8, 8, 8, 8, 8, 8, 8, 8, 8, 8, 8, 8, 8, 8, 8, 8, 8, 8, 8, 8, 8, 8, 8, 8, 8, 8, 8, 8, 8, 8, 8, 8, 8, 8, 8, 8, 8, 8, 8, 8, 8, 8, 8, 8, 8, 8, 8, 8, 8, 8, 8, 8, 8, 8, 8, 8, 8, 8, 8, 8, 8, 8, 8, 8, 8, 8, 8, 8, 8, 8, 8, 8, 8, 8, 8, 8, 8, 8, 8]⟩)) (.t 21)), none, []⟩,
    ⟨(some 23), (.conv .i64 (.t 22)), none, []⟩,
    ⟨(some 24), (.bin .add (.t 19) (.t 23)), none, []⟩,
    ⟨(some 2), (.mov (.t 24)), none, []⟩] none)
  .ret)))))
def F87 : AFunc := ⟨1, 25, [(.tmp 2)], B87⟩
/-- internal/strconv.bool2[int] -/
def B88 : ACode := (.seq (.region [⟨(some 2), (.mov (.c (.int .i64 0))), none, []⟩] none)
  (.seq (.seq (.region [⟨(some 3), (.mov (.t 0)), none, []⟩] none)
  (.cond (.t 3)
  (.seq (.region [⟨(some 2), (.mov (.c (.int .i64 1))), none, []⟩] none)
  .ret)
  .skip))
  (.seq (.region [⟨(some 2), (.mov (.c (.int .i64 0))), none, []⟩] none)
  .ret)))
def F88 : AFunc := ⟨1, 4, [(.tmp 2)], B88⟩
/-- internal/strconv.isPowerOfTwo -/
def B89 : ACode := (.seq (.region [⟨(some 2), (.mov (.c (.bool false))), none, []⟩] none)
  (.seq (.region [⟨(some 3), (.mov (.t 0)), none, []⟩,
    ⟨(some 4), (.mov (.t 0)), none, []⟩,
    ⟨(some 5), (.bin .sub (.t 4) (.c (.int .i64 1))), none, []⟩,
    ⟨(some 6), (.bin .and (.t 3) (.t 5)), none, []⟩,
    ⟨(some 7), (.bin .eql (.t 6) (.c (.int .i64 0))), none, []⟩,
    ⟨(some 2), (.mov (.t 7)), none, []⟩] none)
  .ret))
def F89 : AFunc := ⟨1, 8, [(.tmp 2)], B89⟩
/-- math/bits.TrailingZeros -/
def B90 : ACode := (.seq (.region [⟨(some 2), (.mov (.c (.int .i64 0))), none, []⟩] none)
  (.seq (.cond (.c (.bool false))
  (.seq (.region [⟨(some 3), (.mov (.t 0)), none, []⟩,
    ⟨(some 4), (.conv .u32 (.t 3)), none, []⟩,
    ⟨(some 5), (.call (.f 98) [(.t 4)]), none, []⟩,
    ⟨(some 2), (.mov (.t 5)), none, []⟩] none)
  .ret)
  .skip)
  (.seq (.region [⟨(some 6), (.mov (.t 0)), none, []⟩,
    ⟨(some 7), (.call (.f 99) [(.t 6)]), none, []⟩,
    ⟨(some 2), (.mov (.t 7)), none, []⟩] none)
  .ret)))
def F90 : AFunc := ⟨1, 8, [(.tmp 2)], B90⟩
/-- unicode/utf8.RuneCountInString -/
def F91L0 : ACode := (.seq (.region [⟨(some 5), (.nextStr (.t 4)), none, []⟩,
    ⟨(some 6), (.extract (.t 5) 0), none, []⟩] none)
  (.seq (.cond (.t 6)
  .skip
  (.exit 0))
  (.block 1 (.region [⟨(some 7), (.mov (.t 2)), none, []⟩,
    ⟨(some 8), (.bin .add (.t 7) (.c (.int .i64 1))), none, []⟩,
    ⟨(some 2), (.mov (.t 8)), none, []⟩] none))))
def B91 : ACode := (.seq (.region [⟨(some 2), (.mov (.c (.int .i64 0))), none, []⟩] none)
  (.seq (.seq (.region [⟨(some 3), (.mov (.t 0)), none, []⟩,
    ⟨(some 4), (.rangeStr (.t 3)), none, []⟩] none)
  (.block 0 (.loop F91L0)))
  (.seq (.region [⟨(some 9), (.mov (.t 2)), none, []⟩,
    ⟨(some 2), (.mov (.t 9)), none, []⟩] none)
  .ret)))
def F91 : AFunc := ⟨1, 10, [(.tmp 2)], B91⟩
-- F91L0 live: [2, 4]
/-- internal/strconv.ParseUint -/
def F95L0 : ACode := (.seq (.region [⟨(some 102), (.bin .lss (.t 101) (.t 100)), none, []⟩] none)
  (.seq (.cond (.t 102)
  .skip
  (.exit 3))
  (.seq (.block 4 (.seq (.region [⟨(some 103), (.indexAddr 1 (.t 99) (.t 101)), none, []⟩,
    ⟨(some 104), (.load none (.t 103)), none, []⟩,
    ⟨(some 15), (.mov (.t 104)), none, []⟩] none)
  (.seq (.region [⟨(some 16), (.mov (.c (.int .u8 0))), none, []⟩] none)
  (.seq (.block 5 (.seq (.region [⟨(some 107), (.mov (.t 15)), none, []⟩,
    ⟨(some 108), (.bin .eql (.t 107) (.c (.int .u8 95))), none, []⟩,
    ⟨(some 109), (.mov (.t 108)), none, []⟩,
    ⟨(some 110), (.mov (.t 8)), (some (109, true)), []⟩,
    ⟨(some 111), (.pick (.t 109) (.t 110) (.c (.bool false))), none, []⟩,
    ⟨(some 106), (.mov (.t 111)), none, []⟩] none)
  (.cond (.t 106)
  (.seq (.region [⟨(some 12), (.mov (.c (.bool true))), none, []⟩] none)
  (.exit 4))
  (.seq (.region [⟨(some 113), (.mov (.t 15)), none, []⟩,
    ⟨(some 114), (.bin .leq (.c (.int .u8 48)) (.t 113)), none, []⟩,
    ⟨(some 115), (.mov (.t 114)), none, []⟩,
    ⟨(some 116), (.mov (.t 15)), (some (115, true)), []⟩,
    ⟨(some 117), (.bin .leq (.t 116) (.c (.int .u8 57))), (some (115, true)), []⟩,
    ⟨(some 118), (.pick (.t 115) (.t 117) (.c (.bool false))), none, []⟩,
    ⟨(some 112), (.mov (.t 118)), none, []⟩] none)
  (.cond (.t 112)
  (.region [⟨(some 119), (.mov (.t 15)), none, []⟩,
    ⟨(some 120), (.bin .sub (.t 119) (.c (.int .u8 48))), none, []⟩,
    ⟨(some 16), (.mov (.t 120)), none, []⟩] none)
  (.seq (.region [⟨(some 122), (.mov (.t 15)), none, []⟩,
    ⟨(some 123), (.call (.f 100) [(.t 122)]), none, []⟩,
    ⟨(some 124), (.bin .leq (.c (.int .u8 97)) (.t 123)), none, []⟩,
    ⟨(some 125), (.mov (.t 124)), none, []⟩,
    ⟨(some 126), (.mov (.t 15)), (some (125, true)), []⟩,
    ⟨(some 127), (.call (.f 100) [(.t 126)]), (some (125, true)), []⟩,
    ⟨(some 128), (.bin .leq (.t 127) (.c (.int .u8 122))), (some (125, true)), []⟩,
    ⟨(some 129), (.pick (.t 125) (.t 128) (.c (.bool false))), none, []⟩,
    ⟨(some 121), (.mov (.t 129)), none, []⟩] none)
  (.cond (.t 121)
  (.region [⟨(some 130), (.mov (.t 15)), none, []⟩,
    ⟨(some 131), (.call (.f 100) [(.t 130)]), none, []⟩,
    ⟨(some 132), (.bin .sub (.t 131) (.c (.int .u8 97))), none, []⟩,
    ⟨(some 133), (.bin .add (.t 132) (.c (.int .u8 10))), none, []⟩,
    ⟨(some 16), (.mov (.t 133)), none, []⟩] none)
  (.seq (.region [⟨(some 105), (.makeIface 111 (.c (.int .i64 2))), none, []⟩,
    ⟨(some 6), (.mov (.c (.int .u64 0))), none, []⟩,
    ⟨(some 7), (.mov (.t 105)), none, []⟩] none)
  .ret))))))))
  (.seq (.seq (.region [⟨(some 134), (.mov (.t 16)), none, []⟩,
    ⟨(some 135), (.mov (.t 1)), none, []⟩,
    ⟨(some 136), (.conv .u8 (.t 135)), none, []⟩,
    ⟨(some 137), (.bin .geq (.t 134) (.t 136)), none, []⟩] none)
  (.cond (.t 137)
  (.seq (.region [⟨(some 138), (.makeIface 111 (.c (.int .i64 2))), none, []⟩,
    ⟨(some 6), (.mov (.c (.int .u64 0))), none, []⟩,
    ⟨(some 7), (.mov (.t 138)), none, []⟩] none)
  .ret)
  .skip))
  (.seq (.seq (.region [⟨(some 139), (.mov (.t 13)), none, []⟩,
    ⟨(some 140), (.mov (.t 10)), none, []⟩,
    ⟨(some 141), (.bin .geq (.t 139) (.t 140)), none, []⟩] none)
  (.cond (.t 141)
  (.seq (.region [⟨(some 142), (.mov (.t 11)), none, []⟩,
    ⟨(some 143), (.makeIface 111 (.c (.int .i64 1))), none, []⟩,
    ⟨(some 6), (.mov (.t 142)), none, []⟩,
    ⟨(some 7), (.mov (.t 143)), none, []⟩] none)
  .ret)
  .skip))
  (.seq (.region [⟨(some 144), (.mov (.t 13)), none, []⟩,
    ⟨(some 145), (.mov (.t 1)), none, []⟩,
    ⟨(some 146), (.conv .u64 (.t 145)), none, []⟩,
    ⟨(some 147), (.bin .mul (.t 144) (.t 146)), none, []⟩,
    ⟨(some 13), (.mov (.t 147)), none, []⟩] none)
  (.seq (.region [⟨(some 148), (.mov (.t 13)), none, []⟩,
    ⟨(some 149), (.mov (.t 16)), none, []⟩,
    ⟨(some 150), (.conv .u64 (.t 149)), none, []⟩,
    ⟨(some 151), (.bin .add (.t 148) (.t 150)), none, []⟩,
    ⟨(some 17), (.mov (.t 151)), none, []⟩] none)
  (.seq (.seq (.region [⟨(some 152), (.mov (.t 17)), none, []⟩,
    ⟨(some 153), (.mov (.t 13)), none, []⟩,
    ⟨(some 154), (.bin .lss (.t 152) (.t 153)), none, []⟩,
    ⟨(some 155), (.mov (.t 154)), none, []⟩,
    ⟨(some 156), (.mov (.t 17)), (some (155, false)), []⟩,
    ⟨(some 157), (.mov (.t 11)), (some (155, false)), []⟩,
    ⟨(some 158), (.bin .gtr (.t 156) (.t 157)), (some (155, false)), []⟩,
    ⟨(some 159), (.pick (.t 155) (.c (.bool true)) (.t 158)), none, []⟩] none)
  (.cond (.t 159)
  (.seq (.region [⟨(some 160), (.mov (.t 11)), none, []⟩,
    ⟨(some 161), (.makeIface 111 (.c (.int .i64 1))), none, []⟩,
    ⟨(some 6), (.mov (.t 160)), none, []⟩,
    ⟨(some 7), (.mov (.t 161)), none, []⟩] none)
  .ret)
  .skip))
  (.region [⟨(some 162), (.mov (.t 17)), none, []⟩,
    ⟨(some 13), (.mov (.t 162)), none, []⟩] none))))))))))
  (.region [⟨(some 163), (.bin .add (.t 101) (.c (.int .i64 1))), none, []⟩,
    ⟨(some 101), (.mov (.t 163)), none, []⟩] none))))
def B95 : ACode := (.seq (.region [⟨(some 6), (.mov (.c (.int .u64 0))), none, []⟩,
    ⟨(some 7), (.mov (.c .nilIface)), none, []⟩] none)
  (.seq (.seq (.region [⟨(some 18), (.mov (.t 0)), none, []⟩,
    ⟨(some 19), (.bin .eql (.t 18) (.c (.string ⟨#[]⟩))), none, []⟩] none)
  (.cond (.t 19)
  (.seq (.region [⟨(some 20), (.makeIface 111 (.c (.int .i64 2))), none, []⟩,
    ⟨(some 6), (.mov (.c (.int .u64 0))), none, []⟩,
    ⟨(some 7), (.mov (.t 20)), none, []⟩] none)
  .ret)
  .skip))
  (.seq (.region [⟨(some 21), (.mov (.t 1)), none, []⟩,
    ⟨(some 22), (.bin .eql (.t 21) (.c (.int .i64 0))), none, []⟩,
    ⟨(some 8), (.mov (.t 22)), none, []⟩] none)
  (.seq (.region [⟨(some 23), (.mov (.t 0)), none, []⟩,
    ⟨(some 9), (.mov (.t 23)), none, []⟩] none)
  (.seq (.block 0 (.seq (.region [⟨(some 26), (.mov (.t 1)), none, []⟩,
    ⟨(some 27), (.bin .leq (.c (.int .i64 2)) (.t 26)), none, []⟩,
    ⟨(some 28), (.mov (.t 27)), none, []⟩,
    ⟨(some 29), (.mov (.t 1)), (some (28, true)), []⟩,
    ⟨(some 30), (.bin .leq (.t 29) (.c (.int .i64 36))), (some (28, true)), []⟩,
    ⟨(some 31), (.pick (.t 28) (.t 30) (.c (.bool false))), none, []⟩,
    ⟨(some 25), (.mov (.t 31)), none, []⟩] none)
  (.cond (.t 25)
  .skip
  (.seq (.region [⟨(some 33), (.mov (.t 1)), none, []⟩,
    ⟨(some 34), (.bin .eql (.t 33) (.c (.int .i64 0))), none, []⟩,
    ⟨(some 32), (.mov (.t 34)), none, []⟩] none)
  (.cond (.t 32)
  (.seq (.region [⟨(some 1), (.mov (.c (.int .i64 10))), none, []⟩] none)
  (.seq (.region [⟨(some 35), (.mov (.t 0)), none, []⟩,
    ⟨(some 36), (.indexStr (.t 35) (.c (.int .i64 0))), none, []⟩,
    ⟨(some 37), (.bin .eql (.t 36) (.c (.int .u8 48))), none, []⟩] none)
  (.cond (.t 37)
  (.block 1 (.seq (.region [⟨(some 41), (.mov (.t 0)), none, []⟩,
    ⟨(some 42), (.lenStr (.t 41)), none, []⟩,
    ⟨(some 43), (.bin .geq (.t 42) (.c (.int .i64 3))), none, []⟩,
    ⟨(some 44), (.mov (.t 43)), none, []⟩,
    ⟨(some 45), (.mov (.t 0)), (some (44, true)), []⟩,
    ⟨(some 46), (.indexStr (.t 45) (.c (.int .i64 1))), (some (44, true)), []⟩,
    ⟨(some 47), (.call (.f 100) [(.t 46)]), (some (44, true)), []⟩,
    ⟨(some 48), (.bin .eql (.t 47) (.c (.int .u8 98))), (some (44, true)), []⟩,
    ⟨(some 49), (.pick (.t 44) (.t 48) (.c (.bool false))), none, []⟩,
    ⟨(some 40), (.mov (.t 49)), none, []⟩] none)
  (.cond (.t 40)
  (.seq (.region [⟨(some 1), (.mov (.c (.int .i64 2))), none, []⟩] none)
  (.region [⟨(some 50), (.mov (.t 0)), none, []⟩,
    ⟨(some 51), (.sliceStr (.t 50) (some (.c (.int .i64 2))) none), none, []⟩,
    ⟨(some 0), (.mov (.t 51)), none, []⟩] none))
  (.seq (.region [⟨(some 53), (.mov (.t 0)), none, []⟩,
    ⟨(some 54), (.lenStr (.t 53)), none, []⟩,
    ⟨(some 55), (.bin .geq (.t 54) (.c (.int .i64 3))), none, []⟩,
    ⟨(some 56), (.mov (.t 55)), none, []⟩,
    ⟨(some 57), (.mov (.t 0)), (some (56, true)), []⟩,
    ⟨(some 58), (.indexStr (.t 57) (.c (.int .i64 1))), (some (56, true)), []⟩,
    ⟨(some 59), (.call (.f 100) [(.t 58)]), (some (56, true)), []⟩,
    ⟨(some 60), (.bin .eql (.t 59) (.c (.int .u8 111))), (some (56, true)), []⟩,
    ⟨(some 61), (.pick (.t 56) (.t 60) (.c (.bool false))), none, []⟩,
    ⟨(some 52), (.mov (.t 61)), none, []⟩] none)
  (.cond (.t 52)
  (.seq (.region [⟨(some 1), (.mov (.c (.int .i64 8))), none, []⟩] none)
  (.region [⟨(some 62), (.mov (.t 0)), none, []⟩,
    ⟨(some 63), (.sliceStr (.t 62) (some (.c (.int .i64 2))) none), none, []⟩,
    ⟨(some 0), (.mov (.t 63)), none, []⟩] none))
  (.seq (.region [⟨(some 65), (.mov (.t 0)), none, []⟩,
    ⟨(some 66), (.lenStr (.t 65)), none, []⟩,
    ⟨(some 67), (.bin .geq (.t 66) (.c (.int .i64 3))), none, []⟩,
    ⟨(some 68), (.mov (.t 67)), none, []⟩,
    ⟨(some 69), (.mov (.t 0)), (some (68, true)), []⟩,
    ⟨(some 70), (.indexStr (.t 69) (.c (.int .i64 1))), (some (68, true)), []⟩,
    ⟨(some 71), (.call (.f 100) [(.t 70)]), (some (68, true)), []⟩,
    ⟨(some 72), (.bin .eql (.t 71) (.c (.int .u8 120))), (some (68, true)), []⟩,
    ⟨(some 73), (.pick (.t 68) (.t 72) (.c (.bool false))), none, []⟩,
    ⟨(some 64), (.mov (.t 73)), none, []⟩] none)
  (.cond (.t 64)
  (.seq (.region [⟨(some 1), (.mov (.c (.int .i64 16))), none, []⟩] none)
  (.region [⟨(some 74), (.mov (.t 0)), none, []⟩,
    ⟨(some 75), (.sliceStr (.t 74) (some (.c (.int .i64 2))) none), none, []⟩,
    ⟨(some 0), (.mov (.t 75)), none, []⟩] none))
  (.seq (.region [⟨(some 1), (.mov (.c (.int .i64 8))), none, []⟩] none)
  (.region [⟨(some 38), (.mov (.t 0)), none, []⟩,
    ⟨(some 39), (.sliceStr (.t 38) (some (.c (.int .i64 1))) none), none, []⟩,
    ⟨(some 0), (.mov (.t 39)), none, []⟩] none)))))))))
  .skip)))
  (.seq (.region [⟨(some 24), (.makeIface 111 (.c (.int .i64 3))), none, []⟩,
    ⟨(some 6), (.mov (.c (.int .u64 0))), none, []⟩,
    ⟨(some 7), (.mov (.t 24)), none, []⟩] none)
  .ret))))))
  (.seq (.seq (.region [⟨(some 76), (.mov (.t 2)), none, []⟩,
    ⟨(some 77), (.bin .eql (.t 76) (.c (.int .i64 0))), none, []⟩] none)
  (.cond (.t 77)
  (.region [⟨(some 2), (.mov (.c (.int .i64 64))), none, []⟩] none)
  (.seq (.region [⟨(some 78), (.mov (.t 2)), none, []⟩,
    ⟨(some 79), (.bin .lss (.t 78) (.c (.int .i64 0))), none, []⟩,
    ⟨(some 80), (.mov (.t 79)), none, []⟩,
    ⟨(some 81), (.mov (.t 2)), (some (80, false)), []⟩,
    ⟨(some 82), (.bin .gtr (.t 81) (.c (.int .i64 64))), (some (80, false)), []⟩,
    ⟨(some 83), (.pick (.t 80) (.c (.bool true)) (.t 82)), none, []⟩] none)
  (.cond (.t 83)
  (.seq (.region [⟨(some 84), (.makeIface 111 (.c (.int .i64 4))), none, []⟩,
    ⟨(some 6), (.mov (.c (.int .u64 0))), none, []⟩,
    ⟨(some 7), (.mov (.t 84)), none, []⟩] none)
  .ret)
  .skip))))
  (.seq (.region [⟨(some 10), (.mov (.c (.int .u64 0))), none, []⟩] none)
  (.seq (.seq (.region [⟨(some 85), (.mov (.t 1)), none, []⟩] none)
  (.block 2 (.seq (.region [⟨(some 91), (.bin .eql (.t 85) (.c (.int .i64 10))), none, []⟩,
    ⟨(some 90), (.mov (.t 91)), none, []⟩] none)
  (.cond (.t 90)
  (.region [⟨(some 10), (.mov (.c (.int .u64 1844674407370955162))), none, []⟩] none)
  (.seq (.region [⟨(some 93), (.bin .eql (.t 85) (.c (.int .i64 16))), none, []⟩,
    ⟨(some 92), (.mov (.t 93)), none, []⟩] none)
  (.cond (.t 92)
  (.region [⟨(some 10), (.mov (.c (.int .u64 1152921504606846976))), none, []⟩] none)
  (.region [⟨(some 86), (.mov (.t 1)), none, []⟩,
    ⟨(some 87), (.conv .u64 (.t 86)), none, []⟩,
    ⟨(some 88), (.bin .quo (.c (.int .u64 18446744073709551615)) (.t 87)), none, []⟩,
    ⟨(some 89), (.bin .add (.t 88) (.c (.int .u64 1))), none, []⟩,
    ⟨(some 10), (.mov (.t 89)), none, []⟩] none)))))))
  (.seq (.region [⟨(some 94), (.mov (.t 2)), none, []⟩,
    ⟨(some 95), (.conv .u64 (.t 94)), none, []⟩,
    ⟨(some 96), (.bin .shl (.c (.int .u64 1)) (.t 95)), none, []⟩,
    ⟨(some 97), (.bin .sub (.t 96) (.c (.int .u64 1))), none, []⟩,
    ⟨(some 11), (.mov (.t 97)), none, []⟩] none)
  (.seq (.region [⟨(some 12), (.mov (.c (.bool false))), none, []⟩] none)
  (.seq (.region [⟨(some 13), (.mov (.c (.int .u64 0))), none, []⟩] none)
  (.seq (.seq (.region [⟨(some 98), (.mov (.t 0)), none, []⟩,
    ⟨(some 99), (.bytesOf 5 (.t 98)), none, []⟩,
    ⟨(some 100), (.lenSlice (.t 99)), none, []⟩,
    ⟨(some 101), (.mov (.c (.int .i64 0))), none, []⟩] none)
  (.block 3 (.loop F95L0)))
  (.seq (.seq (.region [⟨(some 164), (.mov (.t 12)), none, []⟩,
    ⟨(some 165), (.mov (.t 164)), none, []⟩,
    ⟨(some 166), (.mov (.t 9)), (some (165, true)), []⟩,
    ⟨(some 167), (.call (.f 101) [(.t 166)]), (some (165, true)), []⟩,
    ⟨(some 168), (.un .not (.t 167)), (some (165, true)), []⟩,
    ⟨(some 169), (.pick (.t 165) (.t 168) (.c (.bool false))), none, []⟩] none)
  (.cond (.t 169)
  (.seq (.region [⟨(some 170), (.makeIface 111 (.c (.int .i64 2))), none, []⟩,
    ⟨(some 6), (.mov (.c (.int .u64 0))), none, []⟩,
    ⟨(some 7), (.mov (.t 170)), none, []⟩] none)
  .ret)
  .skip))
  (.seq (.region [⟨(some 171), (.mov (.t 13)), none, []⟩,
    ⟨(some 6), (.mov (.t 171)), none, []⟩,
    ⟨(some 7), (.mov (.c .nilIface)), none, []⟩] none)
  .ret))))))))))))))
def F95 : AFunc := ⟨3, 172, [(.tmp 6), (.tmp 7)], B95⟩
-- F95L0 live: [1, 8, 9, 10, 11, 12, 13, 99, 100, 101]
/-- internal/stringslite.Clone -/
def B96 : ACode := (.seq (.region [⟨(some 2), (.mov (.c (.string ⟨#[]⟩))), none, []⟩] none)
  (.seq (.seq (.region [⟨(some 4), (.mov (.t 0)), none, []⟩,
    ⟨(some 5), (.lenStr (.t 4)), none, []⟩,
    ⟨(some 6), (.bin .eql (.t 5) (.c (.int .i64 0))), none, []⟩] none)
  (.cond (.t 6)
  (.seq (.region [⟨(some 2), (.mov (.c (.string ⟨#[]⟩))), none, []⟩] none)
  .ret)
  .skip))
  (.seq (.region [⟨(some 7), (.mov (.t 0)), none, []⟩,
    ⟨(some 8), (.lenStr (.t 7)), none, []⟩,
    ⟨(some 9), (.makeSlice 5 1 1 [(.int .u8 0)] (.t 8) (.t 8)), none, []⟩,
    ⟨(some 3), (.mov (.t 9)), none, []⟩] none)
  (.seq (.region [⟨(some 10), (.mov (.t 3)), none, []⟩,
    ⟨(some 11), (.mov (.t 0)), none, []⟩,
    ⟨(some 12), (.copy 1 (.t 10) (.t 11)), none, []⟩] none)
  (.seq (.region [⟨(some 13), (.mov (.t 3)), none, []⟩,
    ⟨(some 14), (.indexAddr 1 (.t 13) (.c (.int .i64 0))), none, []⟩,
    ⟨(some 15), (.mov (.t 3)), none, []⟩,
    ⟨(some 16), (.lenSlice (.t 15)), none, []⟩,
    ⟨(some 17), (.unsafeString 5 (.t 14) (.t 16)), none, []⟩,
    ⟨(some 2), (.mov (.t 17)), none, []⟩] none)
  .ret)))))
def F96 : AFunc := ⟨1, 18, [(.tmp 2)], B96⟩
/-- errors.New -/
def B97 : ACode := (.seq (.region [⟨(some 2), (.mov (.c .nilIface)), none, []⟩] none)
  (.seq (.region [⟨(some 3), (.mov (.t 0)), none, []⟩,
    ⟨(some 4), (.build [(.string ⟨#[]⟩)] [(0, 1, (.t 3))]), none, []⟩,
    ⟨(some 5), (.box 139 (.t 4)), none, []⟩,
    ⟨(some 6), (.makeIface 137 (.t 5)), none, []⟩,
    ⟨(some 2), (.mov (.t 6)), none, []⟩] none)
  .ret))
def F97 : AFunc := ⟨1, 7, [(.tmp 2)], B97⟩
/-- math/bits.TrailingZeros32 -/
def B98 : ACode := (.seq (.region [⟨(some 2), (.mov (.c (.int .i64 0))), none, []⟩] none)
  (.seq (.seq (.region [⟨(some 3), (.mov (.t 0)), none, []⟩,
    ⟨(some 4), (.bin .eql (.t 3) (.c (.int .u32 0))), none, []⟩] none)
  (.cond (.t 4)
  (.seq (.region [⟨(some 2), (.mov (.c (.int .i64 32))), none, []⟩] none)
  .ret)
  .skip))
  (.seq (.region [⟨(some 5), (.mov (.t 0)), none, []⟩,
    ⟨(some 6), (.mov (.t 0)), none, []⟩,
    ⟨(some 7), (.un .neg (.t 6)), none, []⟩,
    ⟨(some 8), (.bin .and (.t 5) (.t 7)), none, []⟩,
    ⟨(some 9), (.bin .mul (.t 8) (.c (.int .u32 125613361))), none, []⟩,
    ⟨(some 10), (.bin .shr (.t 9) (.c (.int .u64 27))), none, []⟩,
    ⟨(some 11), (.indexArr 1 32 (.g 6) (.t 10)), none, []⟩,
    ⟨(some 12), (.load none (.t 11)), none, []⟩,
    ⟨(some 13), (.conv .i64 (.t 12)), none, []⟩,
    ⟨(some 2), (.mov (.t 13)), none, []⟩] none)
  .ret)))
def F98 : AFunc := ⟨1, 14, [(.tmp 2)], B98⟩
/-- math/bits.TrailingZeros64 -/
def B99 : ACode := (.seq (.region [⟨(some 2), (.mov (.c (.int .i64 0))), none, []⟩] none)
  (.seq (.seq (.region [⟨(some 3), (.mov (.t 0)), none, []⟩,
    ⟨(some 4), (.bin .eql (.t 3) (.c (.int .u64 0))), none, []⟩] none)
  (.cond (.t 4)
  (.seq (.region [⟨(some 2), (.mov (.c (.int .i64 64))), none, []⟩] none)
  .ret)
  .skip))
  (.seq (.region [⟨(some 5), (.mov (.t 0)), none, []⟩,
    ⟨(some 6), (.mov (.t 0)), none, []⟩,
    ⟨(some 7), (.un .neg (.t 6)), none, []⟩,
    ⟨(some 8), (.bin .and (.t 5) (.t 7)), none, []⟩,
    ⟨(some 9), (.bin .mul (.t 8) (.c (.int .u64 285870213051353865))), none, []⟩,
    ⟨(some 10), (.bin .shr (.t 9) (.c (.int .u64 58))), none, []⟩,
    ⟨(some 11), (.indexArr 1 64 (.g 7) (.t 10)), none, []⟩,
    ⟨(some 12), (.load none (.t 11)), none, []⟩,
    ⟨(some 13), (.conv .i64 (.t 12)), none, []⟩,
    ⟨(some 2), (.mov (.t 13)), none, []⟩] none)
  .ret)))
def F99 : AFunc := ⟨1, 14, [(.tmp 2)], B99⟩
/-- internal/strconv.lower -/
def B100 : ACode := (.seq (.region [⟨(some 2), (.mov (.c (.int .u8 0))), none, []⟩] none)
  (.seq (.region [⟨(some 3), (.mov (.t 0)), none, []⟩,
    ⟨(some 4), (.bin .or (.t 3) (.c (.int .u8 32))), none, []⟩,
    ⟨(some 2), (.mov (.t 4)), none, []⟩] none)
  .ret))
def F100 : AFunc := ⟨1, 5, [(.tmp 2)], B100⟩
/-- internal/strconv.underscoreOK -/
def F101L0 : ACode := (.seq (.seq (.region [⟨(some 51), (.mov (.t 4)), none, []⟩,
    ⟨(some 52), (.mov (.t 0)), none, []⟩,
    ⟨(some 53), (.lenStr (.t 52)), none, []⟩,
    ⟨(some 54), (.bin .lss (.t 51) (.t 53)), none, []⟩] none)
  (.cond (.t 54)
  .skip
  (.exit 0)))
  (.seq (.block 1 (.seq (.seq (.region [⟨(some 57), (.mov (.t 0)), none, []⟩,
    ⟨(some 58), (.mov (.t 4)), none, []⟩,
    ⟨(some 59), (.indexStr (.t 57) (.t 58)), none, []⟩,
    ⟨(some 60), (.bin .leq (.c (.int .u8 48)) (.t 59)), none, []⟩,
    ⟨(some 61), (.mov (.t 60)), none, []⟩,
    ⟨(some 62), (.mov (.t 0)), (some (61, true)), []⟩,
    ⟨(some 63), (.mov (.t 4)), (some (61, true)), []⟩,
    ⟨(some 64), (.indexStr (.t 62) (.t 63)), (some (61, true)), []⟩,
    ⟨(some 65), (.bin .leq (.t 64) (.c (.int .u8 57))), (some (61, true)), []⟩,
    ⟨(some 66), (.pick (.t 61) (.t 65) (.c (.bool false))), none, []⟩,
    ⟨(some 67), (.mov (.t 66)), none, []⟩,
    ⟨(some 68), (.mov (.t 5)), (some (67, false)), []⟩,
    ⟨(some 69), (.mov (.t 68)), (some (67, false)), []⟩,
    ⟨(some 70), (.mov (.t 0)), (some (69, true)), []⟩,
    ⟨(some 71), (.mov (.t 4)), (some (69, true)), []⟩,
    ⟨(some 72), (.indexStr (.t 70) (.t 71)), (some (69, true)), []⟩,
    ⟨(some 73), (.call (.f 100) [(.t 72)]), (some (69, true)), []⟩,
    ⟨(some 74), (.bin .leq (.c (.int .u8 97)) (.t 73)), (some (69, true)), []⟩,
    ⟨(some 75), (.pick (.t 69) (.t 74) (.c (.bool false))), (some (67, false)), []⟩,
    ⟨(some 76), (.mov (.t 75)), (some (67, false)), []⟩,
    ⟨(some 77), (.mov (.t 0)), (some (76, true)), []⟩,
    ⟨(some 78), (.mov (.t 4)), (some (76, true)), []⟩,
    ⟨(some 79), (.indexStr (.t 77) (.t 78)), (some (76, true)), []⟩,
    ⟨(some 80), (.call (.f 100) [(.t 79)]), (some (76, true)), []⟩,
    ⟨(some 81), (.bin .leq (.t 80) (.c (.int .u8 102))), (some (76, true)), []⟩,
    ⟨(some 82), (.pick (.t 76) (.t 81) (.c (.bool false))), (some (67, false)), []⟩,
    ⟨(some 83), (.pick (.t 67) (.c (.bool true)) (.t 82)), none, []⟩] none)
  (.cond (.t 83)
  (.seq (.region [⟨(some 3), (.mov (.c (.int .i32 48))), none, []⟩] none)
  (.exit 1))
  .skip))
  (.seq (.seq (.region [⟨(some 84), (.mov (.t 0)), none, []⟩,
    ⟨(some 85), (.mov (.t 4)), none, []⟩,
    ⟨(some 86), (.indexStr (.t 84) (.t 85)), none, []⟩,
    ⟨(some 87), (.bin .eql (.t 86) (.c (.int .u8 95))), none, []⟩] none)
  (.cond (.t 87)
  (.seq (.seq (.region [⟨(some 88), (.mov (.t 3)), none, []⟩,
    ⟨(some 89), (.bin .neq (.t 88) (.c (.int .i32 48))), none, []⟩] none)
  (.cond (.t 89)
  (.seq (.region [⟨(some 2), (.mov (.c (.bool false))), none, []⟩] none)
  .ret)
  .skip))
  (.seq (.region [⟨(some 3), (.mov (.c (.int .i32 95))), none, []⟩] none)
  (.exit 1)))
  .skip))
  (.seq (.seq (.region [⟨(some 90), (.mov (.t 3)), none, []⟩,
    ⟨(some 91), (.bin .eql (.t 90) (.c (.int .i32 95))), none, []⟩] none)
  (.cond (.t 91)
  (.seq (.region [⟨(some 2), (.mov (.c (.bool false))), none, []⟩] none)
  .ret)
  .skip))
  (.region [⟨(some 3), (.mov (.c (.int .i32 33))), none, []⟩] none)))))
  (.region [⟨(some 55), (.mov (.t 4)), none, []⟩,
    ⟨(some 56), (.bin .add (.t 55) (.c (.int .i64 1))), none, []⟩,
    ⟨(some 4), (.mov (.t 56)), none, []⟩] none)))
def B101 : ACode := (.seq (.region [⟨(some 2), (.mov (.c (.bool false))), none, []⟩] none)
  (.seq (.region [⟨(some 3), (.mov (.c (.int .i32 94))), none, []⟩] none)
  (.seq (.region [⟨(some 4), (.mov (.c (.int .i64 0))), none, []⟩] none)
  (.seq (.seq (.region [⟨(some 6), (.mov (.t 0)), none, []⟩,
    ⟨(some 7), (.lenStr (.t 6)), none, []⟩,
    ⟨(some 8), (.bin .geq (.t 7) (.c (.int .i64 1))), none, []⟩,
    ⟨(some 9), (.mov (.t 8)), none, []⟩,
    ⟨(some 10), (.mov (.t 0)), (some (9, true)), []⟩,
    ⟨(some 11), (.indexStr (.t 10) (.c (.int .i64 0))), (some (9, true)), []⟩,
    ⟨(some 12), (.bin .eql (.t 11) (.c (.int .u8 45))), (some (9, true)), []⟩,
    ⟨(some 13), (.mov (.t 12)), (some (9, true)), []⟩,
    ⟨(some 14), (.mov (.t 0)), (some (13, false)), []⟩,
    ⟨(some 15), (.indexStr (.t 14) (.c (.int .i64 0))), (some (13, false)), []⟩,
    ⟨(some 16), (.bin .eql (.t 15) (.c (.int .u8 43))), (some (13, false)), []⟩,
    ⟨(some 17), (.pick (.t 13) (.c (.bool true)) (.t 16)), (some (9, true)), []⟩,
    ⟨(some 18), (.pick (.t 9) (.t 17) (.c (.bool false))), none, []⟩] none)
  (.cond (.t 18)
  (.region [⟨(some 19), (.mov (.t 0)), none, []⟩,
    ⟨(some 20), (.sliceStr (.t 19) (some (.c (.int .i64 1))) none), none, []⟩,
    ⟨(some 0), (.mov (.t 20)), none, []⟩] none)
  .skip))
  (.seq (.region [⟨(some 5), (.mov (.c (.bool false))), none, []⟩] none)
  (.seq (.seq (.region [⟨(some 21), (.mov (.t 0)), none, []⟩,
    ⟨(some 22), (.lenStr (.t 21)), none, []⟩,
    ⟨(some 23), (.bin .geq (.t 22) (.c (.int .i64 2))), none, []⟩,
    ⟨(some 24), (.mov (.t 23)), none, []⟩,
    ⟨(some 25), (.mov (.t 0)), (some (24, true)), []⟩,
    ⟨(some 26), (.indexStr (.t 25) (.c (.int .i64 0))), (some (24, true)), []⟩,
    ⟨(some 27), (.bin .eql (.t 26) (.c (.int .u8 48))), (some (24, true)), []⟩,
    ⟨(some 28), (.pick (.t 24) (.t 27) (.c (.bool false))), none, []⟩,
    ⟨(some 29), (.mov (.t 28)), none, []⟩,
    ⟨(some 30), (.mov (.t 0)), (some (29, true)), []⟩,
    ⟨(some 31), (.indexStr (.t 30) (.c (.int .i64 1))), (some (29, true)), []⟩,
    ⟨(some 32), (.call (.f 100) [(.t 31)]), (some (29, true)), []⟩,
    ⟨(some 33), (.bin .eql (.t 32) (.c (.int .u8 98))), (some (29, true)), []⟩,
    ⟨(some 34), (.mov (.t 33)), (some (29, true)), []⟩,
    ⟨(some 35), (.mov (.t 0)), (some (34, false)), []⟩,
    ⟨(some 36), (.indexStr (.t 35) (.c (.int .i64 1))), (some (34, false)), []⟩,
    ⟨(some 37), (.call (.f 100) [(.t 36)]), (some (34, false)), []⟩,
    ⟨(some 38), (.bin .eql (.t 37) (.c (.int .u8 111))), (some (34, false)), []⟩,
    ⟨(some 39), (.pick (.t 34) (.c (.bool true)) (.t 38)), (some (29, true)), []⟩,
    ⟨(some 40), (.mov (.t 39)), (some (29, true)), []⟩,
    ⟨(some 41), (.mov (.t 0)), (some (40, false)), []⟩,
    ⟨(some 42), (.indexStr (.t 41) (.c (.int .i64 1))), (some (40, false)), []⟩,
    ⟨(some 43), (.call (.f 100) [(.t 42)]), (some (40, false)), []⟩,
    ⟨(some 44), (.bin .eql (.t 43) (.c (.int .u8 120))), (some (40, false)), []⟩,
    ⟨(some 45), (.pick (.t 40) (.c (.bool true)) (.t 44)), (some (29, true)), []⟩,
    ⟨(some 46), (.pick (.t 29) (.t 45) (.c (.bool false))), none, []⟩] none)
  (.cond (.t 46)
  (.seq (.region [⟨(some 4), (.mov (.c (.int .i64 2))), none, []⟩] none)
  (.seq (.region [⟨(some 3), (.mov (.c (.int .i32 48))), none, []⟩] none)
  (.region [⟨(some 47), (.mov (.t 0)), none, []⟩,
    ⟨(some 48), (.indexStr (.t 47) (.c (.int .i64 1))), none, []⟩,
    ⟨(some 49), (.call (.f 100) [(.t 48)]), none, []⟩,
    ⟨(some 50), (.bin .eql (.t 49) (.c (.int .u8 120))), none, []⟩,
    ⟨(some 5), (.mov (.t 50)), none, []⟩] none)))
  .skip))
  (.seq (.block 0 (.loop F101L0))
  (.seq (.region [⟨(some 92), (.mov (.t 3)), none, []⟩,
    ⟨(some 93), (.bin .neq (.t 92) (.c (.int .i32 95))), none, []⟩,
    ⟨(some 2), (.mov (.t 93)), none, []⟩] none)
  .ret))))))))
def F101 : AFunc := ⟨1, 94, [(.tmp 2)], B101⟩
-- F101L0 live: [0, 3, 4, 5]
def fs15 : FT := (.node 45 F45 (.node 24 F24 (.node 13 F13 (.node 8 F8 (.node 5 F5 (.node 4 F4 (.node 3 F3 .leaf .leaf) .leaf) (.node 7 F7 (.node 6 F6 .leaf .leaf) .leaf)) (.node 11 F11 (.node 10 F10 (.node 9 F9 .leaf .leaf) .leaf) (.node 12 F12 .leaf .leaf))) (.node 19 F19 (.node 16 F16 (.node 15 F15 (.node 14 F14 .leaf .leaf) .leaf) (.node 18 F18 (.node 17 F17 .leaf .leaf) .leaf)) (.node 22 F22 (.node 21 F21 (.node 20 F20 .leaf .leaf) .leaf) (.node 23 F23 .leaf .leaf)))) (.node 35 F35 (.node 30 F30 (.node 27 F27 (.node 26 F26 (.node 25 F25 .leaf .leaf) .leaf) (.node 29 F29 (.node 28 F28 .leaf .leaf) .leaf)) (.node 33 F33 (.node 32 F32 (.node 31 F31 .leaf .leaf) .leaf) (.node 34 F34 .leaf .leaf))) (.node 40 F40 (.node 38 F38 (.node 37 F37 (.node 36 F36 .leaf .leaf) .leaf) (.node 39 F39 .leaf .leaf)) (.node 43 F43 (.node 42 F42 (.node 41 F41 .leaf .leaf) .leaf) (.node 44 F44 .leaf .leaf))))) (.node 73 F73 (.node 59 F59 (.node 51 F51 (.node 48 F48 (.node 47 F47 (.node 46 F46 .leaf .leaf) .leaf) (.node 50 F50 (.node 49 F49 .leaf .leaf) .leaf)) (.node 54 F54 (.node 53 F53 (.node 52 F52 .leaf .leaf) .leaf) (.node 58 F58 .leaf .leaf))) (.node 67 F67 (.node 62 F62 (.node 61 F61 (.node 60 F60 .leaf .leaf) .leaf) (.node 66 F66 (.node 63 F63 .leaf .leaf) .leaf)) (.node 71 F71 (.node 70 F70 (.node 68 F68 .leaf .leaf) .leaf) (.node 72 F72 .leaf .leaf)))) (.node 89 F89 (.node 82 F82 (.node 79 F79 (.node 76 F76 (.node 75 F75 .leaf .leaf) .leaf) (.node 81 F81 (.node 80 F80 .leaf .leaf) .leaf)) (.node 87 F87 (.node 86 F86 (.node 83 F83 .leaf .leaf) .leaf) (.node 88 F88 .leaf .leaf))) (.node 97 F97 (.node 95 F95 (.node 91 F91 (.node 90 F90 .leaf .leaf) .leaf) (.node 96 F96 .leaf .leaf)) (.node 100 F100 (.node 99 F99 (.node 98 F98 .leaf .leaf) .leaf) (.node 101 F101 .leaf .leaf))))))
def ps15 : List (Nat × Prim) := [(56, .noEscape), (57, .makeNoZero 5), (92, .count), (84, .indexByte)]
end
end Go.Proofs.YtmmcnholpnediaaDoor.Am
