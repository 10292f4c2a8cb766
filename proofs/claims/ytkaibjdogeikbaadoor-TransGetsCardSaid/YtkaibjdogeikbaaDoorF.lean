/- The functions of the program, printed by a program of ours as code of the abstract machine (F); that they are is proved in the next text. -/
import Derived.Test.YtkaibjdogeikbaaDoorD
namespace Go.Proofs.YtkaibjdogeikbaaDoor.Am
noncomputable section
def R3_0 : ACode := .region [⟨(some 51), (.mov (.t 8)), none, []⟩,
    ⟨(some 52), (.mov (.t 9)), none, []⟩,
    ⟨(some 53), (.mov (.t 8)), none, []⟩,
    ⟨(some 54), (.mov (.t 10)), none, []⟩,
    ⟨(some 55), (.mov (.t 8)), none, []⟩,
    ⟨(some 56), (.mov (.t 10)), none, []⟩,
    ⟨(some 57), (.indexAddr 1 (.t 55) (.t 56)), none, [4, 5]⟩,
    ⟨(some 58), (.load none (.t 57)), none, [6]⟩,
    ⟨(some 59), (.mov (.t 8)), none, []⟩,
    ⟨(some 60), (.mov (.t 9)), none, []⟩,
    ⟨(some 61), (.indexAddr 1 (.t 59) (.t 60)), none, [8, 9]⟩,
    ⟨(some 62), (.load none (.t 61)), none, [10]⟩,
    ⟨(some 63), (.indexAddr 1 (.t 51) (.t 52)), none, [0, 1, 0, 1, 4, 5, 6, 7, 11]⟩,
    ⟨none, (.store 1 (.t 63) (.t 58)), none, [12, 7, 0, 1, 4, 5, 6, 7, 11]⟩,
    ⟨(some 64), (.indexAddr 1 (.t 53) (.t 54)), none, [2, 3, 0, 1, 2, 3, 4, 5, 6, 7, 8, 9, 10, 11, 12, 13]⟩,
    ⟨none, (.store 1 (.t 64) (.t 62)), none, [14, 11, 13, 0, 1, 2, 3, 4, 5, 6, 7, 8, 9, 10, 11, 12, 13]⟩] (some [(0, 1), (0, 2), (1, 2), (0, 3), (1, 3), (2, 3), (0, 4), (1, 4), (2, 4), (3, 4), (0, 5), (1, 5), (2, 5), (3, 5), (4, 5), (0, 6), (1, 6), (2, 6), (3, 6), (0, 7), (1, 7), (2, 7), (3, 7), (0, 8), (1, 8), (2, 8), (3, 8), (4, 8), (5, 8), (6, 8), (7, 8), (0, 9), (1, 9), (2, 9), (3, 9), (4, 9), (5, 9), (6, 9), (7, 9), (8, 9), (0, 10), (1, 10), (2, 10), (3, 10), (4, 10), (5, 10), (6, 10), (7, 10), (0, 11), (1, 11), (2, 11), (3, 11), (4, 11), (5, 11), (6, 11), (7, 11), (2, 12), (3, 12), (2, 13), (3, 13)])
/-- toll/tolllaw07.TransFlags -/
def F3L0 : ACode := (.seq (.seq (.region [⟨(some 44), (.mov (.t 9)), none, []⟩,
    ⟨(some 45), (.mov (.t 10)), none, []⟩,
    ⟨(some 46), (.bin .lss (.t 44) (.t 45)), none, []⟩] none)
  (.cond (.t 46)
  .skip
  (.exit 0)))
  (.seq (.block 1 R3_0)
  (.region [⟨(some 47), (.mov (.t 9)), none, []⟩,
    ⟨(some 48), (.bin .add (.t 47) (.c (.int .i64 1))), none, []⟩,
    ⟨(some 49), (.mov (.t 10)), none, []⟩,
    ⟨(some 50), (.bin .sub (.t 49) (.c (.int .i64 1))), none, []⟩,
    ⟨(some 9), (.mov (.t 48)), none, []⟩,
    ⟨(some 10), (.mov (.t 50)), none, []⟩] none)))
def B3 : ACode := (.seq (.region [⟨(some 4), (.mov (.c (.bool false))), none, []⟩] none)
  (.seq (.region [⟨(some 20), (.mov (.t 1)), none, []⟩,
    ⟨(some 21), (.mov (.t 1)), none, []⟩,
    ⟨(some 22), (.lenStr (.t 21)), none, []⟩,
    ⟨(some 23), (.min [(.t 22), (.c (.int .i64 60))]), none, []⟩,
    ⟨(some 24), (.sliceStr (.t 20) none (some (.t 23))), none, []⟩,
    ⟨(some 1), (.mov (.t 24)), none, []⟩] none)
  (.seq (.region [⟨(some 25), (.mov (.t 0)), none, []⟩,
    ⟨(some 26), (.call (.f 9) [(.t 25)]), none, []⟩,
    ⟨(some 5), (.mov (.t 26)), none, []⟩] none)
  (.seq (.region [⟨(some 28), (.mov (.t 5)), none, []⟩,
    ⟨(some 29), (.call (.f 10) [(.t 28)]), none, []⟩,
    ⟨(some 27), (.mov (.t 29)), none, []⟩,
    ⟨(some 30), (.extract (.t 27) 0), none, []⟩,
    ⟨(some 31), (.extract (.t 27) 1), none, []⟩,
    ⟨(some 6), (.mov (.t 30)), none, []⟩,
    ⟨(some 7), (.mov (.t 31)), none, []⟩] none)
  (.seq (.seq (.region [⟨(some 32), (.mov (.t 7)), none, []⟩,
    ⟨(some 33), (.bin .neq (.t 32) (.c (.int .i64 0))), none, []⟩,
    ⟨(some 34), (.mov (.t 33)), none, []⟩,
    ⟨(some 35), (.mov (.t 6)), (some (34, false)), []⟩,
    ⟨(some 36), (.mov (.t 0)), (some (34, false)), []⟩,
    ⟨(some 37), (.bin .neq (.t 35) (.t 36)), (some (34, false)), []⟩,
    ⟨(some 38), (.pick (.t 34) (.c (.bool true)) (.t 37)), none, []⟩] none)
  (.cond (.t 38)
  (.seq (.region [⟨(some 4), (.mov (.c (.bool false))), none, []⟩] none)
  .ret)
  .skip))
  (.seq (.region [⟨(some 39), (.mov (.t 5)), none, []⟩,
    ⟨(some 40), (.call (.f 11) [(.t 39), (.c (.string ⟨#[44]⟩))]), none, []⟩,
    ⟨(some 8), (.mov (.t 40)), none, []⟩] none)
  (.seq (.seq (.region [⟨(some 41), (.mov (.t 8)), none, []⟩,
    ⟨(some 42), (.lenSlice (.t 41)), none, []⟩,
    ⟨(some 43), (.bin .sub (.t 42) (.c (.int .i64 1))), none, []⟩,
    ⟨(some 9), (.mov (.c (.int .i64 0))), none, []⟩,
    ⟨(some 10), (.mov (.t 43)), none, []⟩] none)
  (.block 0 (.loop F3L0)))
  (.seq (.region [⟨(some 66), (.mov (.t 8)), none, []⟩,
    ⟨(some 67), (.call (.f 12) [(.t 66), (.c (.string ⟨#[44]⟩))]), none, []⟩,
    ⟨(some 68), (.call (.f 10) [(.t 67)]), none, []⟩,
    ⟨(some 65), (.mov (.t 68)), none, []⟩,
    ⟨(some 69), (.extract (.t 65) 0), none, []⟩,
    ⟨(some 70), (.extract (.t 65) 1), none, []⟩,
    ⟨(some 11), (.mov (.t 69)), none, []⟩,
    ⟨(some 12), (.mov (.t 70)), none, []⟩] none)
  (.seq (.region [⟨(some 72), (.mov (.t 5)), none, []⟩,
    ⟨(some 73), (.bin .add (.t 72) (.c (.string ⟨#[44]⟩))), none, []⟩,
    ⟨(some 74), (.mov (.t 8)), none, []⟩,
    ⟨(some 75), (.indexAddr 1 (.t 74) (.c (.int .i64 0))), none, []⟩,
    ⟨(some 76), (.load none (.t 75)), none, []⟩,
    ⟨(some 77), (.bin .add (.t 73) (.t 76)), none, []⟩,
    ⟨(some 78), (.call (.f 10) [(.t 77)]), none, []⟩,
    ⟨(some 71), (.mov (.t 78)), none, []⟩,
    ⟨(some 79), (.extract (.t 71) 0), none, []⟩,
    ⟨(some 80), (.extract (.t 71) 1), none, []⟩,
    ⟨(some 13), (.mov (.t 79)), none, []⟩,
    ⟨(some 14), (.mov (.t 80)), none, []⟩] none)
  (.seq (.region [⟨(some 82), (.mov (.t 5)), none, []⟩,
    ⟨(some 83), (.bin .add (.t 82) (.c (.string ⟨#[44, 83, 89, 78]⟩))), none, []⟩,
    ⟨(some 84), (.call (.f 10) [(.t 83)]), none, []⟩,
    ⟨(some 81), (.mov (.t 84)), none, []⟩,
    ⟨(some 85), (.extract (.t 81) 0), none, []⟩,
    ⟨(some 86), (.extract (.t 81) 1), none, []⟩,
    ⟨(some 15), (.mov (.t 85)), none, []⟩,
    ⟨(some 16), (.mov (.t 86)), none, []⟩] none)
  (.seq (.region [⟨(some 17), (.mov (.c (.int .i64 9))), none, []⟩] none)
  (.seq (.seq (.region [⟨(some 87), (.mov (.t 0)), none, []⟩,
    ⟨(some 88), (.bin .eql (.t 87) (.c (.int .u8 0))), none, []⟩] none)
  (.cond (.t 88)
  (.region [⟨(some 17), (.mov (.c (.int .i64 23))), none, []⟩] none)
  .skip))
  (.seq (.seq (.region [⟨(some 89), (.mov (.t 12)), none, []⟩,
    ⟨(some 90), (.bin .neq (.t 89) (.c (.int .i64 0))), none, []⟩,
    ⟨(some 91), (.mov (.t 90)), none, []⟩,
    ⟨(some 92), (.mov (.t 11)), (some (91, false)), []⟩,
    ⟨(some 93), (.mov (.t 0)), (some (91, false)), []⟩,
    ⟨(some 94), (.bin .neq (.t 92) (.t 93)), (some (91, false)), []⟩,
    ⟨(some 95), (.pick (.t 91) (.c (.bool true)) (.t 94)), none, []⟩,
    ⟨(some 96), (.mov (.t 95)), none, []⟩,
    ⟨(some 97), (.mov (.t 14)), (some (96, false)), []⟩,
    ⟨(some 98), (.mov (.t 17)), (some (96, false)), []⟩,
    ⟨(some 99), (.bin .neq (.t 97) (.t 98)), (some (96, false)), []⟩,
    ⟨(some 100), (.pick (.t 96) (.c (.bool true)) (.t 99)), none, []⟩,
    ⟨(some 101), (.mov (.t 100)), none, []⟩,
    ⟨(some 102), (.mov (.t 16)), (some (101, false)), []⟩,
    ⟨(some 103), (.bin .neq (.t 102) (.c (.int .i64 23))), (some (101, false)), []⟩,
    ⟨(some 104), (.pick (.t 101) (.c (.bool true)) (.t 103)), none, []⟩] none)
  (.cond (.t 104)
  (.seq (.region [⟨(some 4), (.mov (.c (.bool false))), none, []⟩] none)
  .ret)
  .skip))
  (.seq (.region [⟨(some 106), (.mov (.t 1)), none, []⟩,
    ⟨(some 107), (.call (.f 10) [(.t 106)]), none, []⟩,
    ⟨(some 105), (.mov (.t 107)), none, []⟩,
    ⟨(some 108), (.extract (.t 105) 0), none, []⟩,
    ⟨(some 109), (.extract (.t 105) 1), none, []⟩,
    ⟨(some 18), (.mov (.t 108)), none, []⟩,
    ⟨(some 19), (.mov (.t 109)), none, []⟩] none)
  (.seq (.region [⟨(some 110), (.mov (.t 19)), none, []⟩,
    ⟨(some 111), (.bin .eql (.t 110) (.c (.int .i64 0))), none, []⟩,
    ⟨(some 112), (.mov (.t 111)), none, []⟩,
    ⟨(some 113), (.mov (.t 18)), (some (112, true)), []⟩,
    ⟨(some 114), (.call (.f 9) [(.t 113)]), (some (112, true)), []⟩,
    ⟨(some 115), (.lenStr (.t 114)), (some (112, true)), []⟩,
    ⟨(some 116), (.mov (.t 1)), (some (112, true)), []⟩,
    ⟨(some 117), (.lenStr (.t 116)), (some (112, true)), []⟩,
    ⟨(some 118), (.bin .eql (.t 115) (.t 117)), (some (112, true)), []⟩,
    ⟨(some 119), (.pick (.t 112) (.t 118) (.c (.bool false))), none, []⟩,
    ⟨(some 120), (.mov (.t 119)), none, []⟩,
    ⟨(some 121), (.mov (.t 19)), (some (120, false)), []⟩,
    ⟨(some 122), (.bin .neq (.t 121) (.c (.int .i64 0))), (some (120, false)), []⟩,
    ⟨(some 123), (.mov (.t 122)), (some (120, false)), []⟩,
    ⟨(some 124), (.mov (.t 18)), (some (123, true)), []⟩,
    ⟨(some 125), (.bin .eql (.t 124) (.c (.int .u8 0))), (some (123, true)), []⟩,
    ⟨(some 126), (.pick (.t 123) (.t 125) (.c (.bool false))), (some (120, false)), []⟩,
    ⟨(some 127), (.pick (.t 120) (.c (.bool true)) (.t 126)), none, []⟩,
    ⟨(some 128), (.mov (.t 127)), none, []⟩,
    ⟨(some 129), (.call (.f 13) []), (some (128, true)), []⟩,
    ⟨(some 130), (.pick (.t 128) (.t 129) (.c (.bool false))), none, []⟩,
    ⟨(some 4), (.mov (.t 130)), none, []⟩] none)
  .ret)))))))))))))))
def F3 : AFunc := ⟨2, 131, [(.tmp 4)], B3⟩
-- F3L0 live: [0, 1, 5, 8, 9, 10]
def R4_0 : ACode := .region [⟨(some 19), (.fieldAddr 9 (.t 3)), none, []⟩,
    ⟨(some 20), (.load none (.t 19)), none, [0]⟩,
    ⟨(some 21), (.fieldAddr 9 (.t 3)), none, []⟩,
    ⟨(some 22), (.load none (.t 21)), none, [2]⟩,
    ⟨(some 23), (.lenSlice (.t 22)), none, [3]⟩,
    ⟨(some 24), (.min [(.t 23), (.c (.int .i64 60))]), none, [4]⟩,
    ⟨(some 25), (.slice 1 (.t 20) none (some (.t 24)) none), none, [1, 5]⟩,
    ⟨(some 26), (.fieldAddr 10 (.t 3)), none, []⟩,
    ⟨(some 27), (.load none (.t 26)), none, [7]⟩,
    ⟨(some 28), (.fieldAddr 10 (.t 3)), none, []⟩,
    ⟨(some 29), (.load none (.t 28)), none, [9]⟩,
    ⟨(some 30), (.lenSlice (.t 29)), none, [10]⟩,
    ⟨(some 31), (.min [(.t 30), (.c (.int .i64 60))]), none, [11]⟩,
    ⟨(some 32), (.slice 1 (.t 27) none (some (.t 31)) none), none, [8, 12]⟩,
    ⟨(some 33), (.fieldAddr 4 (.t 4)), none, []⟩,
    ⟨(some 34), (.load none (.t 33)), none, [14]⟩,
    ⟨(some 35), (.fieldAddr 4 (.t 4)), none, []⟩,
    ⟨(some 36), (.load none (.t 35)), none, [16]⟩,
    ⟨(some 37), (.lenSlice (.t 36)), none, [17]⟩,
    ⟨(some 38), (.min [(.t 37), (.c (.int .i64 60))]), none, [18]⟩,
    ⟨(some 39), (.slice 1 (.t 34) none (some (.t 38)) none), none, [15, 19]⟩,
    ⟨(some 40), (.mov (.t 2)), none, []⟩,
    ⟨(some 41), (.mov (.t 2)), none, []⟩,
    ⟨(some 42), (.lenStr (.t 41)), none, [22]⟩,
    ⟨(some 43), (.min [(.t 42), (.c (.int .i64 60))]), none, [23]⟩,
    ⟨(some 44), (.sliceStr (.t 40) none (some (.t 43))), none, [21, 24]⟩,
    ⟨(some 45), (.fieldAddr 9 (.t 3)), none, [0, 1, 2, 3, 4, 5, 6, 7, 8, 9, 10]⟩,
    ⟨none, (.store 1 (.t 45) (.t 25)), none, [26, 6, 0, 1, 2, 3, 4, 5, 6, 7, 8, 9, 10]⟩,
    ⟨(some 46), (.fieldAddr 10 (.t 3)), none, [0, 1, 2, 3, 4, 5, 6, 7, 8, 9, 10, 11, 12, 13, 26, 27]⟩,
    ⟨none, (.store 1 (.t 46) (.t 32)), none, [28, 13, 27, 0, 1, 2, 3, 4, 5, 6, 7, 8, 9, 10, 11, 12, 13, 26, 27]⟩,
    ⟨(some 47), (.fieldAddr 4 (.t 4)), none, [0, 1, 2, 3, 4, 5, 6, 7, 8, 9, 10, 11, 12, 13, 14, 15, 16, 17, 18, 19, 20, 26, 27, 28, 29]⟩,
    ⟨none, (.store 1 (.t 47) (.t 39)), none, [30, 20, 29, 0, 1, 2, 3, 4, 5, 6, 7, 8, 9, 10, 11, 12, 13, 14, 15, 16, 17, 18, 19, 20, 26, 27, 28, 29]⟩,
    ⟨(some 2), (.mov (.t 44)), none, [25, 31, 0, 1, 2, 3, 4, 5, 6, 7, 8, 9, 10, 11, 12, 13, 14, 15, 16, 17, 18, 19, 20, 21, 22, 23, 24, 25, 26, 27, 28, 29, 30, 31]⟩] (some [(0, 2), (1, 2), (0, 3), (1, 3), (0, 4), (1, 4), (0, 5), (1, 5), (0, 7), (1, 7), (2, 7), (3, 7), (4, 7), (5, 7), (6, 7), (0, 8), (1, 8), (2, 8), (3, 8), (4, 8), (5, 8), (6, 8), (0, 9), (1, 9), (2, 9), (3, 9), (4, 9), (5, 9), (6, 9), (7, 9), (8, 9), (0, 10), (1, 10), (2, 10), (3, 10), (4, 10), (5, 10), (6, 10), (7, 10), (8, 10), (0, 11), (1, 11), (2, 11), (3, 11), (4, 11), (5, 11), (6, 11), (7, 11), (8, 11), (0, 12), (1, 12), (2, 12), (3, 12), (4, 12), (5, 12), (6, 12), (7, 12), (8, 12), (0, 13), (1, 13), (2, 13), (3, 13), (4, 13), (5, 13), (6, 13), (0, 14), (1, 14), (2, 14), (3, 14), (4, 14), (5, 14), (6, 14), (7, 14), (8, 14), (9, 14), (10, 14), (11, 14), (12, 14), (13, 14), (0, 15), (1, 15), (2, 15), (3, 15), (4, 15), (5, 15), (6, 15), (7, 15), (8, 15), (9, 15), (10, 15), (11, 15), (12, 15), (13, 15), (0, 16), (1, 16), (2, 16), (3, 16), (4, 16), (5, 16), (6, 16), (7, 16), (8, 16), (9, 16), (10, 16), (11, 16), (12, 16), (13, 16), (14, 16), (15, 16), (0, 17), (1, 17), (2, 17), (3, 17), (4, 17), (5, 17), (6, 17), (7, 17), (8, 17), (9, 17), (10, 17), (11, 17), (12, 17), (13, 17), (14, 17), (15, 17), (0, 18), (1, 18), (2, 18), (3, 18), (4, 18), (5, 18), (6, 18), (7, 18), (8, 18), (9, 18), (10, 18), (11, 18), (12, 18), (13, 18), (14, 18), (15, 18), (0, 19), (1, 19), (2, 19), (3, 19), (4, 19), (5, 19), (6, 19), (7, 19), (8, 19), (9, 19), (10, 19), (11, 19), (12, 19), (13, 19), (14, 19), (15, 19), (0, 20), (1, 20), (2, 20), (3, 20), (4, 20), (5, 20), (6, 20), (7, 20), (8, 20), (9, 20), (10, 20), (11, 20), (12, 20), (13, 20), (0, 21), (1, 21), (2, 21), (3, 21), (4, 21), (5, 21), (6, 21), (7, 21), (8, 21), (9, 21), (10, 21), (11, 21), (12, 21), (13, 21), (14, 21), (15, 21), (16, 21), (17, 21), (18, 21), (19, 21), (20, 21), (0, 22), (1, 22), (2, 22), (3, 22), (4, 22), (5, 22), (6, 22), (7, 22), (8, 22), (9, 22), (10, 22), (11, 22), (12, 22), (13, 22), (14, 22), (15, 22), (16, 22), (17, 22), (18, 22), (19, 22), (20, 22), (21, 22), (0, 23), (1, 23), (2, 23), (3, 23), (4, 23), (5, 23), (6, 23), (7, 23), (8, 23), (9, 23), (10, 23), (11, 23), (12, 23), (13, 23), (14, 23), (15, 23), (16, 23), (17, 23), (18, 23), (19, 23), (20, 23), (21, 23), (0, 24), (1, 24), (2, 24), (3, 24), (4, 24), (5, 24), (6, 24), (7, 24), (8, 24), (9, 24), (10, 24), (11, 24), (12, 24), (13, 24), (14, 24), (15, 24), (16, 24), (17, 24), (18, 24), (19, 24), (20, 24), (21, 24), (0, 25), (1, 25), (2, 25), (3, 25), (4, 25), (5, 25), (6, 25), (7, 25), (8, 25), (9, 25), (10, 25), (11, 25), (12, 25), (13, 25), (14, 25), (15, 25), (16, 25), (17, 25), (18, 25), (19, 25), (20, 25), (11, 26), (12, 26), (13, 26), (14, 26), (15, 26), (16, 26), (17, 26), (18, 26), (19, 26), (20, 26), (21, 26), (22, 26), (23, 26), (24, 26), (25, 26), (11, 27), (12, 27), (13, 27), (14, 27), (15, 27), (16, 27), (17, 27), (18, 27), (19, 27), (20, 27), (21, 27), (22, 27), (23, 27), (24, 27), (25, 27), (14, 28), (15, 28), (16, 28), (17, 28), (18, 28), (19, 28), (20, 28), (21, 28), (22, 28), (23, 28), (24, 28), (25, 28), (14, 29), (15, 29), (16, 29), (17, 29), (18, 29), (19, 29), (20, 29), (21, 29), (22, 29), (23, 29), (24, 29), (25, 29), (21, 30), (22, 30), (23, 30), (24, 30), (25, 30), (21, 31), (22, 31), (23, 31), (24, 31), (25, 31)])
def R4_1 : ACode := .region [⟨(some 80), (.mov (.t 7)), none, []⟩,
    ⟨(some 81), (.mov (.t 9)), none, []⟩,
    ⟨(some 82), (.call (.f 21) [(.t 80), (.t 81)]), none, [0, 1]⟩,
    ⟨(some 83), (.mov (.t 82)), none, [2, 2]⟩,
    ⟨(some 84), (.mov (.t 8)), (some (83, true)), [3]⟩,
    ⟨(some 85), (.mov (.t 10)), (some (83, true)), [3]⟩,
    ⟨(some 86), (.bin .eql (.t 84) (.t 85)), (some (83, true)), [4, 5, 3]⟩,
    ⟨(some 87), (.pick (.t 83) (.t 86) (.c (.bool false))), none, [3, 6]⟩,
    ⟨(some 88), (.mov (.t 87)), none, [7, 3]⟩,
    ⟨(some 89), (.mov (.t 11)), (some (88, true)), [8]⟩,
    ⟨(some 90), (.mov (.t 13)), (some (88, true)), [8]⟩,
    ⟨(some 91), (.call (.f 21) [(.t 89), (.t 90)]), (some (88, true)), [9, 10, 8, 8]⟩,
    ⟨(some 92), (.pick (.t 88) (.t 91) (.c (.bool false))), none, [8, 11]⟩,
    ⟨(some 93), (.mov (.t 92)), none, [12, 11]⟩,
    ⟨(some 94), (.mov (.t 12)), (some (93, true)), [13]⟩,
    ⟨(some 95), (.mov (.t 14)), (some (93, true)), [13]⟩,
    ⟨(some 96), (.bin .eql (.t 94) (.t 95)), (some (93, true)), [14, 15, 13]⟩,
    ⟨(some 97), (.pick (.t 93) (.t 96) (.c (.bool false))), none, [13, 16]⟩,
    ⟨(some 98), (.mov (.t 97)), none, [17, 13]⟩,
    ⟨(some 99), (.mov (.t 15)), (some (98, true)), [18]⟩,
    ⟨(some 100), (.conv .i64 (.t 99)), (some (98, true)), [19, 18]⟩,
    ⟨(some 101), (.mov (.t 17)), (some (98, true)), [18]⟩,
    ⟨(some 102), (.bin .eql (.t 100) (.t 101)), (some (98, true)), [20, 21, 18]⟩,
    ⟨(some 103), (.pick (.t 98) (.t 102) (.c (.bool false))), none, [18, 22]⟩,
    ⟨(some 104), (.mov (.t 103)), none, [23, 18]⟩,
    ⟨(some 105), (.mov (.t 16)), (some (104, true)), [24]⟩,
    ⟨(some 106), (.mov (.t 18)), (some (104, true)), [24]⟩,
    ⟨(some 107), (.bin .eql (.t 105) (.t 106)), (some (104, true)), [25, 26, 24]⟩,
    ⟨(some 108), (.pick (.t 104) (.t 107) (.c (.bool false))), none, [24, 27]⟩,
    ⟨(some 109), (.mov (.t 108)), none, [28, 24]⟩,
    ⟨(some 110), (.fieldAddr 5 (.t 3)), (some (109, true)), [29]⟩,
    ⟨(some 111), (.load none (.t 110)), (some (109, true)), [30, 29]⟩,
    ⟨(some 112), (.call (.f 9) [(.t 111)]), (some (109, true)), [31, 29, 29]⟩,
    ⟨(some 113), (.fieldAddr 5 (.t 3)), (some (109, true)), [29]⟩,
    ⟨(some 114), (.load none (.t 113)), (some (109, true)), [33, 29]⟩,
    ⟨(some 115), (.conv .i64 (.t 114)), (some (109, true)), [34, 29]⟩,
    ⟨(some 116), (.call (.f 22) [(.t 115)]), (some (109, true)), [35, 32, 29]⟩,
    ⟨(some 117), (.bin .eql (.t 112) (.t 116)), (some (109, true)), [32, 36, 29]⟩,
    ⟨(some 118), (.pick (.t 109) (.t 117) (.c (.bool false))), none, [29, 37]⟩,
    ⟨(some 119), (.mov (.t 118)), none, [38, 36]⟩,
    ⟨(some 120), (.call (.f 13) []), (some (119, true)), [39, 39]⟩,
    ⟨(some 121), (.pick (.t 119) (.t 120) (.c (.bool false))), none, [39, 40]⟩,
    ⟨(some 6), (.mov (.t 121)), none, [41, 40, 0, 1, 2, 3, 4, 5, 6, 7, 8, 9, 10, 11, 12, 13, 14, 15, 16, 17, 18, 19, 20, 21, 22, 23, 24, 25, 26, 27, 28, 29, 30, 31, 32, 33, 34, 35, 36, 37, 38, 39, 40, 41]⟩] (some [(0, 1), (4, 5), (9, 10), (14, 15), (19, 21), (20, 21), (25, 26), (30, 33), (31, 33), (32, 33), (30, 34), (31, 34), (32, 34), (30, 35), (31, 35), (32, 35)])
/-- toll/tolllaw07.TransTells -/
def B4 : ACode := (.seq (.region [⟨(some 3), (.box 35 (.t 0)), none, []⟩,
    ⟨(some 4), (.box 37 (.t 1)), none, []⟩,
    ⟨(some 6), (.mov (.c (.bool false))), none, []⟩] none)
  (.seq R4_0
  (.seq (.region [⟨(some 49), (.load (some 11) (.t 3)), none, []⟩,
    ⟨(some 50), (.call (.f 14) [(.t 49)]), none, []⟩,
    ⟨(some 48), (.mov (.t 50)), none, []⟩,
    ⟨(some 51), (.extract (.t 48) 0), none, []⟩,
    ⟨(some 52), (.extract (.t 48) 1), none, []⟩,
    ⟨(some 7), (.mov (.t 51)), none, []⟩,
    ⟨(some 8), (.mov (.t 52)), none, []⟩] none)
  (.seq (.region [⟨(some 54), (.load (some 11) (.t 3)), none, []⟩,
    ⟨(some 55), (.call (.f 16) [(.t 54)]), none, []⟩,
    ⟨(some 56), (.call (.f 15) [(.t 55)]), none, []⟩,
    ⟨(some 53), (.mov (.t 56)), none, []⟩,
    ⟨(some 57), (.extract (.t 53) 0), none, []⟩,
    ⟨(some 58), (.extract (.t 53) 1), none, []⟩,
    ⟨(some 9), (.mov (.t 57)), none, []⟩,
    ⟨(some 10), (.mov (.t 58)), none, []⟩] none)
  (.seq (.region [⟨(some 60), (.load (some 5) (.t 4)), none, []⟩,
    ⟨(some 61), (.call (.f 17) [(.t 60)]), none, []⟩,
    ⟨(some 59), (.mov (.t 61)), none, []⟩,
    ⟨(some 62), (.extract (.t 59) 0), none, []⟩,
    ⟨(some 63), (.extract (.t 59) 1), none, []⟩,
    ⟨(some 11), (.mov (.t 62)), none, []⟩,
    ⟨(some 12), (.mov (.t 63)), none, []⟩] none)
  (.seq (.region [⟨(some 65), (.load (some 5) (.t 4)), none, []⟩,
    ⟨(some 66), (.call (.f 19) [(.t 65)]), none, []⟩,
    ⟨(some 67), (.call (.f 18) [(.t 66)]), none, []⟩,
    ⟨(some 64), (.mov (.t 67)), none, []⟩,
    ⟨(some 68), (.extract (.t 64) 0), none, []⟩,
    ⟨(some 69), (.extract (.t 64) 1), none, []⟩,
    ⟨(some 13), (.mov (.t 68)), none, []⟩,
    ⟨(some 14), (.mov (.t 69)), none, []⟩] none)
  (.seq (.region [⟨(some 71), (.mov (.t 2)), none, []⟩,
    ⟨(some 72), (.call (.f 10) [(.t 71)]), none, []⟩,
    ⟨(some 70), (.mov (.t 72)), none, []⟩,
    ⟨(some 73), (.extract (.t 70) 0), none, []⟩,
    ⟨(some 74), (.extract (.t 70) 1), none, []⟩,
    ⟨(some 15), (.mov (.t 73)), none, []⟩,
    ⟨(some 16), (.mov (.t 74)), none, []⟩] none)
  (.seq (.region [⟨(some 76), (.mov (.t 2)), none, []⟩,
    ⟨(some 77), (.call (.f 20) [(.t 76)]), none, []⟩,
    ⟨(some 75), (.mov (.t 77)), none, []⟩,
    ⟨(some 78), (.extract (.t 75) 0), none, []⟩,
    ⟨(some 79), (.extract (.t 75) 1), none, []⟩,
    ⟨(some 17), (.mov (.t 78)), none, []⟩,
    ⟨(some 18), (.mov (.t 79)), none, []⟩] none)
  (.seq R4_1
  .ret)))))))))
def F4 : AFunc := ⟨3, 122, [(.tmp 6)], B4⟩
def R5_0 : ACode := .region [⟨(some 33), (.fieldAddr 9 (.t 3)), none, []⟩,
    ⟨(some 34), (.load none (.t 33)), none, [0]⟩,
    ⟨(some 35), (.fieldAddr 9 (.t 3)), none, []⟩,
    ⟨(some 36), (.load none (.t 35)), none, [2]⟩,
    ⟨(some 37), (.lenSlice (.t 36)), none, [3]⟩,
    ⟨(some 38), (.min [(.t 37), (.c (.int .i64 40))]), none, [4]⟩,
    ⟨(some 39), (.bin .andNot (.t 38) (.c (.int .i64 3))), none, [5]⟩,
    ⟨(some 40), (.slice 1 (.t 34) none (some (.t 39)) none), none, [1, 6]⟩,
    ⟨(some 41), (.fieldAddr 10 (.t 3)), none, []⟩,
    ⟨(some 42), (.load none (.t 41)), none, [8]⟩,
    ⟨(some 43), (.fieldAddr 10 (.t 3)), none, []⟩,
    ⟨(some 44), (.load none (.t 43)), none, [10]⟩,
    ⟨(some 45), (.lenSlice (.t 44)), none, [11]⟩,
    ⟨(some 46), (.min [(.t 45), (.c (.int .i64 60))]), none, [12]⟩,
    ⟨(some 47), (.slice 1 (.t 42) none (some (.t 46)) none), none, [9, 13]⟩,
    ⟨(some 48), (.fieldAddr 9 (.t 3)), none, [0, 1, 2, 3, 4, 5, 6, 7, 8, 9, 10, 11]⟩,
    ⟨none, (.store 1 (.t 48) (.t 40)), none, [15, 7, 0, 1, 2, 3, 4, 5, 6, 7, 8, 9, 10, 11]⟩,
    ⟨(some 49), (.fieldAddr 10 (.t 3)), none, [0, 1, 2, 3, 4, 5, 6, 7, 8, 9, 10, 11, 12, 13, 14, 15, 16]⟩,
    ⟨none, (.store 1 (.t 49) (.t 47)), none, [17, 14, 16, 0, 1, 2, 3, 4, 5, 6, 7, 8, 9, 10, 11, 12, 13, 14, 15, 16]⟩] (some [(0, 2), (1, 2), (0, 3), (1, 3), (0, 4), (1, 4), (0, 5), (1, 5), (0, 6), (1, 6), (0, 8), (1, 8), (2, 8), (3, 8), (4, 8), (5, 8), (6, 8), (7, 8), (0, 9), (1, 9), (2, 9), (3, 9), (4, 9), (5, 9), (6, 9), (7, 9), (0, 10), (1, 10), (2, 10), (3, 10), (4, 10), (5, 10), (6, 10), (7, 10), (8, 10), (9, 10), (0, 11), (1, 11), (2, 11), (3, 11), (4, 11), (5, 11), (6, 11), (7, 11), (8, 11), (9, 11), (0, 12), (1, 12), (2, 12), (3, 12), (4, 12), (5, 12), (6, 12), (7, 12), (8, 12), (9, 12), (0, 13), (1, 13), (2, 13), (3, 13), (4, 13), (5, 13), (6, 13), (7, 13), (8, 13), (9, 13), (0, 14), (1, 14), (2, 14), (3, 14), (4, 14), (5, 14), (6, 14), (7, 14), (12, 15), (13, 15), (14, 15), (12, 16), (13, 16), (14, 16)])
def R5_1 : ACode := .region [⟨(some 92), (.mov (.t 8)), none, []⟩,
    ⟨(some 93), (.bin .neq (.t 92) (.c (.int .i64 0))), none, [0]⟩,
    ⟨(some 94), (.mov (.t 93)), none, [1]⟩,
    ⟨(some 95), (.mov (.t 10)), (some (94, false)), [2]⟩,
    ⟨(some 96), (.bin .neq (.t 95) (.c (.int .i64 0))), (some (94, false)), [3, 2]⟩,
    ⟨(some 97), (.pick (.t 94) (.c (.bool true)) (.t 96)), none, [2, 4]⟩,
    ⟨(some 98), (.mov (.t 97)), none, [5, 2]⟩,
    ⟨(some 99), (.mov (.t 12)), (some (98, false)), [6]⟩,
    ⟨(some 100), (.bin .neq (.t 99) (.c (.int .i64 0))), (some (98, false)), [7, 6]⟩,
    ⟨(some 101), (.pick (.t 98) (.c (.bool true)) (.t 100)), none, [6, 8]⟩,
    ⟨(some 102), (.mov (.t 101)), none, [9, 6]⟩,
    ⟨(some 103), (.mov (.t 14)), (some (102, false)), [10]⟩,
    ⟨(some 104), (.bin .neq (.t 103) (.c (.int .i64 0))), (some (102, false)), [11, 10]⟩,
    ⟨(some 105), (.pick (.t 102) (.c (.bool true)) (.t 104)), none, [10, 12]⟩,
    ⟨(some 106), (.mov (.t 105)), none, [13, 10]⟩,
    ⟨(some 107), (.load (some 11) (.t 11)), (some (106, false)), [14]⟩,
    ⟨(some 108), (.call (.f 16) [(.t 107)]), (some (106, false)), [15, 14, 14]⟩,
    ⟨(some 109), (.load (some 11) (.t 3)), (some (106, false)), [14]⟩,
    ⟨(some 110), (.call (.f 16) [(.t 109)]), (some (106, false)), [17, 16, 14]⟩,
    ⟨(some 111), (.call (.f 26) [(.t 108), (.t 110)]), (some (106, false)), [16, 18, 18, 14]⟩,
    ⟨(some 112), (.un .not (.t 111)), (some (106, false)), [19, 14]⟩,
    ⟨(some 113), (.pick (.t 106) (.c (.bool true)) (.t 112)), none, [14, 20]⟩,
    ⟨(some 114), (.mov (.t 113)), none, [21, 19]⟩,
    ⟨(some 115), (.load (some 5) (.t 13)), (some (114, false)), [22]⟩,
    ⟨(some 116), (.call (.f 19) [(.t 115)]), (some (114, false)), [23, 22, 22]⟩,
    ⟨(some 117), (.load (some 5) (.t 4)), (some (114, false)), [22]⟩,
    ⟨(some 118), (.call (.f 19) [(.t 117)]), (some (114, false)), [25, 24, 22]⟩,
    ⟨(some 119), (.call (.f 27) [(.t 116), (.t 118)]), (some (114, false)), [24, 26, 26, 22]⟩,
    ⟨(some 120), (.un .not (.t 119)), (some (114, false)), [27, 22]⟩,
    ⟨(some 121), (.pick (.t 114) (.c (.bool true)) (.t 120)), none, [22, 28]⟩,
    ⟨(some 122), (.mov (.t 121)), none, [29, 27]⟩,
    ⟨(some 123), (.mov (.t 7)), (some (122, false)), [30]⟩,
    ⟨(some 124), (.lenSlice (.t 123)), (some (122, false)), [31, 30]⟩,
    ⟨(some 125), (.fieldAddr 9 (.t 3)), (some (122, false)), [30]⟩,
    ⟨(some 126), (.load none (.t 125)), (some (122, false)), [33, 30]⟩,
    ⟨(some 127), (.lenSlice (.t 126)), (some (122, false)), [34, 30]⟩,
    ⟨(some 128), (.bin .add (.c (.int .i64 20)) (.t 127)), (some (122, false)), [35, 30]⟩,
    ⟨(some 129), (.fieldAddr 10 (.t 3)), (some (122, false)), [30]⟩,
    ⟨(some 130), (.load none (.t 129)), (some (122, false)), [37, 30]⟩,
    ⟨(some 131), (.lenSlice (.t 130)), (some (122, false)), [38, 30]⟩,
    ⟨(some 132), (.bin .add (.t 128) (.t 131)), (some (122, false)), [36, 39, 30]⟩,
    ⟨(some 133), (.bin .neq (.t 124) (.t 132)), (some (122, false)), [32, 40, 30]⟩,
    ⟨(some 134), (.pick (.t 122) (.c (.bool true)) (.t 133)), none, [30, 41]⟩] (some [(15, 17), (16, 17), (23, 25), (24, 25), (31, 33), (32, 33), (31, 34), (32, 34), (31, 35), (32, 35), (31, 36), (32, 36), (31, 37), (32, 37), (33, 37), (34, 37), (35, 37), (36, 37), (31, 38), (32, 38), (33, 38), (34, 38), (35, 38), (36, 38), (31, 39), (32, 39), (33, 39), (34, 39), (35, 39), (36, 39), (31, 40), (32, 40)])
/-- toll/tolllaw07.TransBack -/
def B5 : ACode := (.seq (.region [⟨(some 3), (.box 35 (.t 0)), none, []⟩,
    ⟨(some 4), (.box 37 (.t 1)), none, []⟩,
    ⟨(some 6), (.mov (.c (.bool false))), none, []⟩] none)
  (.seq (.region [⟨(some 29), (.fieldAddr 4 (.t 3)), none, []⟩,
    ⟨(some 30), (.load none (.t 29)), none, []⟩,
    ⟨(some 31), (.bin .rem (.t 30) (.c (.int .u8 16))), none, []⟩,
    ⟨(some 32), (.fieldAddr 4 (.t 3)), none, []⟩,
    ⟨none, (.store 1 (.t 32) (.t 31)), none, []⟩] none)
  (.seq R5_0
  (.seq (.region [⟨(some 50), (.fieldAddr 4 (.t 4)), none, []⟩,
    ⟨(some 51), (.load none (.t 50)), none, []⟩,
    ⟨(some 52), (.fieldAddr 4 (.t 4)), none, []⟩,
    ⟨(some 53), (.load none (.t 52)), none, []⟩,
    ⟨(some 54), (.lenSlice (.t 53)), none, []⟩,
    ⟨(some 55), (.min [(.t 54), (.c (.int .i64 60))]), none, []⟩,
    ⟨(some 56), (.slice 1 (.t 51) none (some (.t 55)) none), none, []⟩,
    ⟨(some 57), (.fieldAddr 4 (.t 4)), none, []⟩,
    ⟨none, (.store 1 (.t 57) (.t 56)), none, []⟩] none)
  (.seq (.region [⟨(some 58), (.fieldAddr 4 (.t 4)), none, []⟩,
    ⟨(some 59), (.load none (.t 58)), none, []⟩,
    ⟨(some 60), (.lenSlice (.t 59)), none, []⟩,
    ⟨(some 61), (.bin .add (.c (.int .i64 8)) (.t 60)), none, []⟩,
    ⟨(some 62), (.conv .u16 (.t 61)), none, []⟩,
    ⟨(some 63), (.fieldAddr 2 (.t 4)), none, []⟩,
    ⟨none, (.store 1 (.t 63) (.t 62)), none, []⟩] none)
  (.seq (.region [⟨(some 64), (.mov (.t 2)), none, []⟩,
    ⟨(some 65), (.mov (.t 2)), none, []⟩,
    ⟨(some 66), (.lenSlice (.t 65)), none, []⟩,
    ⟨(some 67), (.min [(.t 66), (.c (.int .i64 200))]), none, []⟩,
    ⟨(some 68), (.slice 1 (.t 64) none (some (.t 67)) none), none, []⟩,
    ⟨(some 2), (.mov (.t 68)), none, []⟩] none)
  (.seq (.region [⟨(some 70), (.load (some 11) (.t 3)), none, []⟩,
    ⟨(some 71), (.call (.f 14) [(.t 70)]), none, []⟩,
    ⟨(some 69), (.mov (.t 71)), none, []⟩,
    ⟨(some 72), (.extract (.t 69) 0), none, []⟩,
    ⟨(some 73), (.extract (.t 69) 1), none, []⟩,
    ⟨(some 7), (.mov (.t 72)), none, []⟩,
    ⟨(some 8), (.mov (.t 73)), none, []⟩] none)
  (.seq (.region [⟨(some 75), (.load (some 5) (.t 4)), none, []⟩,
    ⟨(some 76), (.call (.f 17) [(.t 75)]), none, []⟩,
    ⟨(some 74), (.mov (.t 76)), none, []⟩,
    ⟨(some 77), (.extract (.t 74) 0), none, []⟩,
    ⟨(some 78), (.extract (.t 74) 1), none, []⟩,
    ⟨(some 9), (.mov (.t 77)), none, []⟩,
    ⟨(some 10), (.mov (.t 78)), none, []⟩] none)
  (.seq (.region [⟨(some 80), (.mov (.t 7)), none, []⟩,
    ⟨(some 81), (.call (.f 23) [(.t 80)]), none, []⟩,
    ⟨(some 79), (.mov (.t 81)), none, []⟩,
    ⟨(some 82), (.extract (.t 79) 0), none, []⟩,
    ⟨(some 83), (.extract (.t 79) 1), none, []⟩,
    ⟨(some 11), (.alloc 35 [(.int .u16 0), (.int .u16 0), (.int .u32 0), (.int .u32 0), (.int .u8 0), (.int .u8 0), (.int .u16 0), (.int .u16 0), (.int .u16 0), (.slice none 0 0), (.slice none 0 0)]), none, []⟩,
    ⟨none, (.store 11 (.t 11) (.t 82)), none, []⟩,
    ⟨(some 12), (.mov (.t 83)), none, []⟩] none)
  (.seq (.region [⟨(some 85), (.mov (.t 9)), none, []⟩,
    ⟨(some 86), (.call (.f 25) [(.t 85)]), none, []⟩,
    ⟨(some 87), (.mov (.t 2)), none, []⟩,
    ⟨(some 88), (.append 5 1 1 (.t 86) (.t 87)), none, []⟩,
    ⟨(some 89), (.call (.f 24) [(.t 88)]), none, []⟩,
    ⟨(some 84), (.mov (.t 89)), none, []⟩,
    ⟨(some 90), (.extract (.t 84) 0), none, []⟩,
    ⟨(some 91), (.extract (.t 84) 1), none, []⟩,
    ⟨(some 13), (.alloc 37 [(.int .u16 0), (.int .u16 0), (.int .u16 0), (.int .u16 0), (.slice none 0 0)]), none, []⟩,
    ⟨none, (.store 5 (.t 13) (.t 90)), none, []⟩,
    ⟨(some 14), (.mov (.t 91)), none, []⟩] none)
  (.seq (.seq R5_1
  (.cond (.t 134)
  (.seq (.region [⟨(some 6), (.mov (.c (.bool false))), none, []⟩] none)
  .ret)
  .skip))
  (.seq (.region [⟨(some 136), (.mov (.t 7)), none, []⟩,
    ⟨(some 137), (.call (.f 28) [(.c (.int .u8 6)), (.t 136)]), none, []⟩,
    ⟨(some 135), (.mov (.t 137)), none, []⟩,
    ⟨(some 138), (.extract (.t 135) 0), none, []⟩,
    ⟨(some 139), (.extract (.t 135) 1), none, []⟩,
    ⟨(some 140), (.extract (.t 135) 2), none, []⟩,
    ⟨(some 15), (.mov (.t 138)), none, []⟩,
    ⟨(some 16), (.mov (.t 139)), none, []⟩,
    ⟨(some 17), (.mov (.t 140)), none, []⟩] none)
  (.seq (.region [⟨(some 142), (.mov (.t 9)), none, []⟩,
    ⟨(some 143), (.call (.f 28) [(.c (.int .u8 17)), (.t 142)]), none, []⟩,
    ⟨(some 141), (.mov (.t 143)), none, []⟩,
    ⟨(some 144), (.extract (.t 141) 0), none, []⟩,
    ⟨(some 145), (.extract (.t 141) 1), none, []⟩,
    ⟨(some 146), (.extract (.t 141) 2), none, []⟩,
    ⟨(some 18), (.mov (.t 144)), none, []⟩,
    ⟨(some 19), (.mov (.t 145)), none, []⟩,
    ⟨(some 20), (.mov (.t 146)), none, []⟩] none)
  (.seq (.seq (.region [⟨(some 147), (.mov (.t 17)), none, []⟩,
    ⟨(some 148), (.un .not (.t 147)), none, []⟩,
    ⟨(some 149), (.mov (.t 148)), none, []⟩,
    ⟨(some 150), (.mov (.t 20)), (some (149, false)), []⟩,
    ⟨(some 151), (.un .not (.t 150)), (some (149, false)), []⟩,
    ⟨(some 152), (.pick (.t 149) (.c (.bool true)) (.t 151)), none, []⟩,
    ⟨(some 153), (.mov (.t 152)), none, []⟩,
    ⟨(some 154), (.mov (.t 15)), (some (153, false)), []⟩,
    ⟨(some 155), (.fieldAddr 0 (.t 3)), (some (153, false)), []⟩,
    ⟨(some 156), (.load none (.t 155)), (some (153, false)), []⟩,
    ⟨(some 157), (.bin .neq (.t 154) (.t 156)), (some (153, false)), []⟩,
    ⟨(some 158), (.pick (.t 153) (.c (.bool true)) (.t 157)), none, []⟩,
    ⟨(some 159), (.mov (.t 158)), none, []⟩,
    ⟨(some 160), (.mov (.t 16)), (some (159, false)), []⟩,
    ⟨(some 161), (.fieldAddr 1 (.t 3)), (some (159, false)), []⟩,
    ⟨(some 162), (.load none (.t 161)), (some (159, false)), []⟩,
    ⟨(some 163), (.bin .neq (.t 160) (.t 162)), (some (159, false)), []⟩,
    ⟨(some 164), (.pick (.t 159) (.c (.bool true)) (.t 163)), none, []⟩,
    ⟨(some 165), (.mov (.t 164)), none, []⟩,
    ⟨(some 166), (.mov (.t 18)), (some (165, false)), []⟩,
    ⟨(some 167), (.fieldAddr 0 (.t 4)), (some (165, false)), []⟩,
    ⟨(some 168), (.load none (.t 167)), (some (165, false)), []⟩,
    ⟨(some 169), (.bin .neq (.t 166) (.t 168)), (some (165, false)), []⟩,
    ⟨(some 170), (.pick (.t 165) (.c (.bool true)) (.t 169)), none, []⟩,
    ⟨(some 171), (.mov (.t 170)), none, []⟩,
    ⟨(some 172), (.mov (.t 19)), (some (171, false)), []⟩,
    ⟨(some 173), (.fieldAddr 1 (.t 4)), (some (171, false)), []⟩,
    ⟨(some 174), (.load none (.t 173)), (some (171, false)), []⟩,
    ⟨(some 175), (.bin .neq (.t 172) (.t 174)), (some (171, false)), []⟩,
    ⟨(some 176), (.pick (.t 171) (.c (.bool true)) (.t 175)), none, []⟩] none)
  (.cond (.t 176)
  (.seq (.region [⟨(some 6), (.mov (.c (.bool false))), none, []⟩] none)
  .ret)
  .skip))
  (.seq (.seq (.region [⟨(some 178), (.mov (.t 2)), none, []⟩,
    ⟨(some 179), (.call (.f 23) [(.t 178)]), none, []⟩,
    ⟨(some 177), (.mov (.t 179)), none, []⟩,
    ⟨(some 180), (.extract (.t 177) 0), none, []⟩,
    ⟨(some 181), (.extract (.t 177) 1), none, []⟩,
    ⟨(some 21), (.alloc 35 [(.int .u16 0), (.int .u16 0), (.int .u32 0), (.int .u32 0), (.int .u8 0), (.int .u8 0), (.int .u16 0), (.int .u16 0), (.int .u16 0), (.slice none 0 0), (.slice none 0 0)]), none, []⟩,
    ⟨none, (.store 11 (.t 21) (.t 180)), none, []⟩,
    ⟨(some 22), (.mov (.t 181)), none, []⟩] none)
  (.seq (.region [⟨(some 182), (.mov (.t 22)), none, []⟩,
    ⟨(some 183), (.bin .eql (.t 182) (.c (.int .i64 0))), none, []⟩] none)
  (.cond (.t 183)
  (.seq (.region [⟨(some 185), (.load (some 11) (.t 21)), none, []⟩,
    ⟨(some 186), (.call (.f 14) [(.t 185)]), none, []⟩,
    ⟨(some 184), (.mov (.t 186)), none, []⟩,
    ⟨(some 187), (.extract (.t 184) 0), none, []⟩,
    ⟨(some 188), (.extract (.t 184) 1), none, []⟩,
    ⟨(some 23), (.mov (.t 187)), none, []⟩,
    ⟨(some 24), (.mov (.t 188)), none, []⟩] none)
  (.seq (.region [⟨(some 189), (.mov (.t 24)), none, []⟩,
    ⟨(some 190), (.bin .neq (.t 189) (.c (.int .i64 0))), none, []⟩,
    ⟨(some 191), (.mov (.t 190)), none, []⟩,
    ⟨(some 192), (.mov (.t 23)), (some (191, false)), []⟩,
    ⟨(some 193), (.mov (.t 2)), (some (191, false)), []⟩,
    ⟨(some 194), (.call (.f 21) [(.t 192), (.t 193)]), (some (191, false)), []⟩,
    ⟨(some 195), (.un .not (.t 194)), (some (191, false)), []⟩,
    ⟨(some 196), (.pick (.t 191) (.c (.bool true)) (.t 195)), none, []⟩] none)
  (.cond (.t 196)
  (.seq (.region [⟨(some 6), (.mov (.c (.bool false))), none, []⟩] none)
  .ret)
  .skip)))
  .skip)))
  (.seq (.seq (.region [⟨(some 198), (.mov (.t 2)), none, []⟩,
    ⟨(some 199), (.call (.f 24) [(.t 198)]), none, []⟩,
    ⟨(some 197), (.mov (.t 199)), none, []⟩,
    ⟨(some 200), (.extract (.t 197) 0), none, []⟩,
    ⟨(some 201), (.extract (.t 197) 1), none, []⟩,
    ⟨(some 25), (.alloc 37 [(.int .u16 0), (.int .u16 0), (.int .u16 0), (.int .u16 0), (.slice none 0 0)]), none, []⟩,
    ⟨none, (.store 5 (.t 25) (.t 200)), none, []⟩,
    ⟨(some 26), (.mov (.t 201)), none, []⟩] none)
  (.seq (.region [⟨(some 202), (.mov (.t 26)), none, []⟩,
    ⟨(some 203), (.bin .eql (.t 202) (.c (.int .i64 0))), none, []⟩] none)
  (.cond (.t 203)
  (.seq (.region [⟨(some 205), (.load (some 5) (.t 25)), none, []⟩,
    ⟨(some 206), (.call (.f 17) [(.t 205)]), none, []⟩,
    ⟨(some 204), (.mov (.t 206)), none, []⟩,
    ⟨(some 207), (.extract (.t 204) 0), none, []⟩,
    ⟨(some 208), (.extract (.t 204) 1), none, []⟩,
    ⟨(some 27), (.mov (.t 207)), none, []⟩,
    ⟨(some 28), (.mov (.t 208)), none, []⟩] none)
  (.seq (.region [⟨(some 209), (.mov (.t 28)), none, []⟩,
    ⟨(some 210), (.bin .neq (.t 209) (.c (.int .i64 0))), none, []⟩,
    ⟨(some 211), (.mov (.t 210)), none, []⟩,
    ⟨(some 212), (.mov (.t 27)), (some (211, false)), []⟩,
    ⟨(some 213), (.lenSlice (.t 212)), (some (211, false)), []⟩,
    ⟨(some 214), (.mov (.t 2)), (some (211, false)), []⟩,
    ⟨(some 215), (.lenSlice (.t 214)), (some (211, false)), []⟩,
    ⟨(some 216), (.bin .gtr (.t 213) (.t 215)), (some (211, false)), []⟩,
    ⟨(some 217), (.pick (.t 211) (.c (.bool true)) (.t 216)), none, []⟩,
    ⟨(some 218), (.mov (.t 217)), none, []⟩,
    ⟨(some 219), (.mov (.t 27)), (some (218, false)), []⟩,
    ⟨(some 220), (.mov (.t 2)), (some (218, false)), []⟩,
    ⟨(some 221), (.mov (.t 27)), (some (218, false)), []⟩,
    ⟨(some 222), (.lenSlice (.t 221)), (some (218, false)), []⟩,
    ⟨(some 223), (.slice 1 (.t 220) none (some (.t 222)) none), (some (218, false)), []⟩,
    ⟨(some 224), (.call (.f 21) [(.t 219), (.t 223)]), (some (218, false)), []⟩,
    ⟨(some 225), (.un .not (.t 224)), (some (218, false)), []⟩,
    ⟨(some 226), (.pick (.t 218) (.c (.bool true)) (.t 225)), none, []⟩,
    ⟨(some 227), (.mov (.t 226)), none, []⟩,
    ⟨(some 228), (.mov (.t 27)), (some (227, false)), []⟩,
    ⟨(some 229), (.lenSlice (.t 228)), (some (227, false)), []⟩,
    ⟨(some 230), (.fieldAddr 2 (.t 25)), (some (227, false)), []⟩,
    ⟨(some 231), (.load none (.t 230)), (some (227, false)), []⟩,
    ⟨(some 232), (.conv .i64 (.t 231)), (some (227, false)), []⟩,
    ⟨(some 233), (.bin .neq (.t 229) (.t 232)), (some (227, false)), []⟩,
    ⟨(some 234), (.pick (.t 227) (.c (.bool true)) (.t 233)), none, []⟩] none)
  (.cond (.t 234)
  (.seq (.region [⟨(some 6), (.mov (.c (.bool false))), none, []⟩] none)
  .ret)
  .skip)))
  .skip)))
  (.seq (.region [⟨(some 235), (.call (.f 13) []), none, []⟩,
    ⟨(some 6), (.mov (.t 235)), none, []⟩] none)
  .ret)))))))))))))))))
def F5 : AFunc := ⟨3, 236, [(.tmp 6)], B5⟩
def R6_0 : ACode := .region [⟨(some 62), (.mov (.t 12)), none, []⟩,
    ⟨(some 63), (.bin .neq (.t 62) (.c (.int .i64 0))), none, [0]⟩,
    ⟨(some 64), (.mov (.t 63)), none, [1]⟩,
    ⟨(some 65), (.mov (.t 11)), (some (64, false)), [2]⟩,
    ⟨(some 66), (.mov (.t 9)), (some (64, false)), [2]⟩,
    ⟨(some 67), (.call (.f 21) [(.t 65), (.t 66)]), (some (64, false)), [3, 4, 2, 2]⟩,
    ⟨(some 68), (.un .not (.t 67)), (some (64, false)), [5, 2]⟩,
    ⟨(some 69), (.pick (.t 64) (.c (.bool true)) (.t 68)), none, [2, 6]⟩,
    ⟨(some 70), (.mov (.t 69)), none, [7, 5]⟩,
    ⟨(some 71), (.mov (.t 9)), (some (70, false)), [8]⟩,
    ⟨(some 72), (.lenSlice (.t 71)), (some (70, false)), [9, 8]⟩,
    ⟨(some 73), (.mov (.t 0)), (some (70, false)), [8]⟩,
    ⟨(some 74), (.lenSlice (.t 73)), (some (70, false)), [11, 8]⟩,
    ⟨(some 75), (.bin .neq (.t 72) (.t 74)), (some (70, false)), [10, 12, 8]⟩,
    ⟨(some 76), (.pick (.t 70) (.c (.bool true)) (.t 75)), none, [8, 13]⟩,
    ⟨(some 77), (.mov (.t 76)), none, [14, 8]⟩,
    ⟨(some 78), (.mov (.t 9)), (some (77, false)), [15]⟩,
    ⟨(some 79), (.mov (.t 8)), (some (77, false)), [15]⟩,
    ⟨(some 80), (.slice 1 (.t 78) none (some (.t 79)) none), (some (77, false)), [16, 17, 15]⟩,
    ⟨(some 81), (.mov (.t 0)), (some (77, false)), [15]⟩,
    ⟨(some 82), (.mov (.t 8)), (some (77, false)), [15]⟩,
    ⟨(some 83), (.slice 1 (.t 81) none (some (.t 82)) none), (some (77, false)), [19, 20, 15]⟩,
    ⟨(some 84), (.call (.f 21) [(.t 80), (.t 83)]), (some (77, false)), [18, 21, 15, 15]⟩,
    ⟨(some 85), (.un .not (.t 84)), (some (77, false)), [22, 15]⟩,
    ⟨(some 86), (.pick (.t 77) (.c (.bool true)) (.t 85)), none, [15, 23]⟩,
    ⟨(some 87), (.mov (.t 86)), none, [24, 22]⟩,
    ⟨(some 88), (.mov (.t 9)), (some (87, false)), [25]⟩,
    ⟨(some 89), (.mov (.t 8)), (some (87, false)), [25]⟩,
    ⟨(some 90), (.bin .add (.t 89) (.c (.int .i64 2))), (some (87, false)), [27, 25]⟩,
    ⟨(some 91), (.slice 1 (.t 88) (some (.t 90)) none none), (some (87, false)), [26, 28, 25]⟩,
    ⟨(some 92), (.mov (.t 0)), (some (87, false)), [25]⟩,
    ⟨(some 93), (.mov (.t 8)), (some (87, false)), [25]⟩,
    ⟨(some 94), (.bin .add (.t 93) (.c (.int .i64 2))), (some (87, false)), [31, 25]⟩,
    ⟨(some 95), (.slice 1 (.t 92) (some (.t 94)) none none), (some (87, false)), [30, 32, 25]⟩,
    ⟨(some 96), (.call (.f 21) [(.t 91), (.t 95)]), (some (87, false)), [29, 33, 25, 25]⟩,
    ⟨(some 97), (.un .not (.t 96)), (some (87, false)), [34, 25]⟩,
    ⟨(some 98), (.pick (.t 87) (.c (.bool true)) (.t 97)), none, [25, 35]⟩,
    ⟨(some 99), (.mov (.t 98)), none, [36, 34]⟩,
    ⟨(some 100), (.indexArr 1 2 (.t 4) (.c (.int .i64 0))), (some (99, false)), [37]⟩,
    ⟨(some 101), (.load none (.t 100)), (some (99, false)), [38, 37]⟩,
    ⟨(some 102), (.indexArr 1 2 (.t 4) (.c (.int .i64 1))), (some (99, false)), [37]⟩,
    ⟨(some 103), (.load none (.t 102)), (some (99, false)), [40, 37]⟩,
    ⟨(some 104), (.mov (.t 7)), (some (99, false)), [37]⟩,
    ⟨(some 105), (.mov (.t 9)), (some (99, false)), [37]⟩,
    ⟨(some 106), (.call (.f 30) [(.t 101), (.t 103), (.t 104), (.t 105)]), (some (99, false)), [39, 41, 42, 43, 37, 37]⟩,
    ⟨(some 107), (.un .not (.t 106)), (some (99, false)), [44, 37]⟩,
    ⟨(some 108), (.pick (.t 99) (.c (.bool true)) (.t 107)), none, [37, 45]⟩,
    ⟨(some 109), (.mov (.t 108)), none, [46, 44]⟩,
    ⟨(some 110), (.fieldAddr 2 (.t 5)), (some (109, false)), [47]⟩,
    ⟨(some 111), (.load none (.t 110)), (some (109, false)), [48, 47]⟩,
    ⟨(some 112), (.mov (.t 111)), (some (109, false)), [49, 47, 47]⟩,
    ⟨(some 113), (.mov (.t 9)), (some (112, true)), [50]⟩,
    ⟨(some 114), (.mov (.t 8)), (some (112, true)), [50]⟩,
    ⟨(some 115), (.indexAddr 1 (.t 113) (.t 114)), (some (112, true)), [51, 52, 50]⟩,
    ⟨(some 116), (.load none (.t 115)), (some (112, true)), [53, 50]⟩,
    ⟨(some 117), (.bin .eql (.t 116) (.c (.int .u8 0))), (some (112, true)), [54, 50]⟩,
    ⟨(some 118), (.pick (.t 112) (.t 117) (.c (.bool false))), (some (109, false)), [50, 55, 47]⟩,
    ⟨(some 119), (.mov (.t 118)), (some (109, false)), [56, 50, 47]⟩,
    ⟨(some 120), (.mov (.t 9)), (some (119, true)), [57]⟩,
    ⟨(some 121), (.mov (.t 8)), (some (119, true)), [57]⟩,
    ⟨(some 122), (.bin .add (.t 121) (.c (.int .i64 1))), (some (119, true)), [59, 57]⟩,
    ⟨(some 123), (.indexAddr 1 (.t 120) (.t 122)), (some (119, true)), [58, 60, 57]⟩,
    ⟨(some 124), (.load none (.t 123)), (some (119, true)), [61, 57]⟩,
    ⟨(some 125), (.bin .eql (.t 124) (.c (.int .u8 0))), (some (119, true)), [62, 57]⟩,
    ⟨(some 126), (.pick (.t 119) (.t 125) (.c (.bool false))), (some (109, false)), [57, 63, 47]⟩,
    ⟨(some 127), (.pick (.t 109) (.c (.bool true)) (.t 126)), none, [47, 64]⟩] (some [(3, 4), (9, 11), (10, 11), (9, 12), (10, 12), (16, 17), (16, 19), (17, 19), (18, 19), (16, 20), (17, 20), (18, 20), (19, 20), (16, 21), (17, 21), (18, 21), (26, 27), (26, 28), (26, 30), (27, 30), (28, 30), (29, 30), (26, 31), (27, 31), (28, 31), (29, 31), (30, 31), (26, 32), (27, 32), (28, 32), (29, 32), (30, 32), (26, 33), (27, 33), (28, 33), (29, 33), (38, 40), (39, 40), (38, 41), (39, 41), (38, 42), (39, 42), (40, 42), (41, 42), (38, 43), (39, 43), (40, 43), (41, 43), (42, 43), (51, 52), (58, 59), (58, 60)])
def R6_1 : ACode := .region [⟨(some 136), (.mov (.t 14)), none, []⟩,
    ⟨(some 137), (.mov (.t 13)), none, []⟩,
    ⟨(some 138), (.indexAddr 1 (.t 136) (.t 137)), none, [0, 1]⟩,
    ⟨(some 139), (.load none (.t 138)), none, [2]⟩,
    ⟨(some 140), (.fieldAddr 1 (.t 5)), none, []⟩,
    ⟨(some 141), (.load none (.t 140)), none, [4]⟩,
    ⟨(some 142), (.bin .rem (.t 141) (.c (.int .u8 255))), none, [5]⟩,
    ⟨(some 143), (.bin .add (.c (.int .u8 1)) (.t 142)), none, [6]⟩,
    ⟨(some 144), (.bin .xor (.t 139) (.t 143)), none, [3, 7]⟩,
    ⟨(some 145), (.indexAddr 1 (.t 136) (.t 137)), none, [0, 1, 0, 1, 2, 3, 4, 5, 6, 7, 8]⟩,
    ⟨none, (.store 1 (.t 145) (.t 144)), none, [9, 8, 0, 1, 2, 3, 4, 5, 6, 7, 8]⟩] (some [(0, 1), (0, 4), (1, 4), (2, 4), (3, 4), (0, 5), (1, 5), (2, 5), (3, 5), (0, 6), (1, 6), (2, 6), (3, 6), (0, 7), (1, 7), (2, 7), (3, 7)])
/-- toll/tolllaw07.TransSeals -/
def B6 : ACode := (.seq (.region [⟨(some 4), (.box 65 (.t 1)), none, []⟩,
    ⟨(some 5), (.box 67 (.t 2)), none, []⟩,
    ⟨(some 6), (.mov (.c (.bool false))), none, []⟩] none)
  (.seq (.region [⟨(some 16), (.mov (.t 0)), none, []⟩,
    ⟨(some 17), (.mov (.t 0)), none, []⟩,
    ⟨(some 18), (.lenSlice (.t 17)), none, []⟩,
    ⟨(some 19), (.min [(.t 18), (.c (.int .i64 200))]), none, []⟩,
    ⟨(some 20), (.slice 1 (.t 16) none (some (.t 19)) none), none, []⟩,
    ⟨(some 0), (.mov (.t 20)), none, []⟩] none)
  (.seq (.region [⟨(some 7), (.mov (.c (.int .u8 6))), none, []⟩,
    ⟨(some 8), (.mov (.c (.int .i64 16))), none, []⟩] none)
  (.seq (.seq (.region [⟨(some 21), (.fieldAddr 2 (.t 5)), none, []⟩,
    ⟨(some 22), (.load none (.t 21)), none, []⟩] none)
  (.cond (.t 22)
  (.region [⟨(some 7), (.mov (.c (.int .u8 17))), none, []⟩,
    ⟨(some 8), (.mov (.c (.int .i64 6))), none, []⟩] none)
  .skip))
  (.seq (.region [⟨(some 24), (.indexArr 1 2 (.t 4) (.c (.int .i64 0))), none, []⟩,
    ⟨(some 25), (.load none (.t 24)), none, []⟩,
    ⟨(some 26), (.indexArr 1 2 (.t 4) (.c (.int .i64 1))), none, []⟩,
    ⟨(some 27), (.load none (.t 26)), none, []⟩,
    ⟨(some 28), (.mov (.t 7)), none, []⟩,
    ⟨(some 29), (.mov (.t 0)), none, []⟩,
    ⟨(some 30), (.call (.f 29) [(.t 25), (.t 27), (.t 28), (.t 29)]), none, []⟩,
    ⟨(some 23), (.mov (.t 30)), none, []⟩,
    ⟨(some 31), (.extract (.t 23) 0), none, []⟩,
    ⟨(some 32), (.extract (.t 23) 1), none, []⟩,
    ⟨(some 9), (.mov (.t 31)), none, []⟩,
    ⟨(some 10), (.mov (.t 32)), none, []⟩] none)
  (.seq (.seq (.region [⟨(some 33), (.mov (.t 10)), none, []⟩,
    ⟨(some 34), (.bin .neq (.t 33) (.c (.int .i64 0))), none, []⟩] none)
  (.cond (.t 34)
  (.seq (.region [⟨(some 35), (.mov (.t 10)), none, []⟩,
    ⟨(some 36), (.bin .eql (.t 35) (.c (.int .i64 4))), none, []⟩,
    ⟨(some 37), (.mov (.t 36)), none, []⟩,
    ⟨(some 38), (.mov (.t 0)), (some (37, true)), []⟩,
    ⟨(some 39), (.lenSlice (.t 38)), (some (37, true)), []⟩,
    ⟨(some 40), (.mov (.t 8)), (some (37, true)), []⟩,
    ⟨(some 41), (.bin .add (.t 40) (.c (.int .i64 2))), (some (37, true)), []⟩,
    ⟨(some 42), (.bin .lss (.t 39) (.t 41)), (some (37, true)), []⟩,
    ⟨(some 43), (.pick (.t 37) (.t 42) (.c (.bool false))), none, []⟩,
    ⟨(some 44), (.mov (.t 43)), none, []⟩,
    ⟨(some 45), (.mov (.t 9)), (some (44, true)), []⟩,
    ⟨(some 46), (.lenSlice (.t 45)), (some (44, true)), []⟩,
    ⟨(some 47), (.bin .eql (.t 46) (.c (.int .i64 0))), (some (44, true)), []⟩,
    ⟨(some 48), (.pick (.t 44) (.t 47) (.c (.bool false))), none, []⟩,
    ⟨(some 49), (.mov (.t 48)), none, []⟩,
    ⟨(some 50), (.call (.f 13) []), (some (49, true)), []⟩,
    ⟨(some 51), (.pick (.t 49) (.t 50) (.c (.bool false))), none, []⟩,
    ⟨(some 6), (.mov (.t 51)), none, []⟩] none)
  .ret)
  .skip))
  (.seq (.region [⟨(some 53), (.indexArr 1 2 (.t 4) (.c (.int .i64 0))), none, []⟩,
    ⟨(some 54), (.load none (.t 53)), none, []⟩,
    ⟨(some 55), (.indexArr 1 2 (.t 4) (.c (.int .i64 1))), none, []⟩,
    ⟨(some 56), (.load none (.t 55)), none, []⟩,
    ⟨(some 57), (.mov (.t 7)), none, []⟩,
    ⟨(some 58), (.mov (.t 9)), none, []⟩,
    ⟨(some 59), (.call (.f 29) [(.t 54), (.t 56), (.t 57), (.t 58)]), none, []⟩,
    ⟨(some 52), (.mov (.t 59)), none, []⟩,
    ⟨(some 60), (.extract (.t 52) 0), none, []⟩,
    ⟨(some 61), (.extract (.t 52) 1), none, []⟩,
    ⟨(some 11), (.mov (.t 60)), none, []⟩,
    ⟨(some 12), (.mov (.t 61)), none, []⟩] none)
  (.seq (.seq R6_0
  (.cond (.t 127)
  (.seq (.region [⟨(some 6), (.mov (.c (.bool false))), none, []⟩] none)
  .ret)
  .skip))
  (.seq (.region [⟨(some 128), (.fieldAddr 0 (.t 5)), none, []⟩,
    ⟨(some 129), (.load none (.t 128)), none, []⟩,
    ⟨(some 130), (.conv .i64 (.t 129)), none, []⟩,
    ⟨(some 131), (.mov (.t 9)), none, []⟩,
    ⟨(some 132), (.lenSlice (.t 131)), none, []⟩,
    ⟨(some 133), (.bin .rem (.t 130) (.t 132)), none, []⟩,
    ⟨(some 13), (.mov (.t 133)), none, []⟩] none)
  (.seq (.region [⟨(some 134), (.mov (.t 9)), none, []⟩,
    ⟨(some 135), (.call (.f 25) [(.t 134)]), none, []⟩,
    ⟨(some 14), (.mov (.t 135)), none, []⟩] none)
  (.seq R6_1
  (.seq (.region [⟨(some 146), (.fieldAddr 2 (.t 5)), none, []⟩,
    ⟨(some 147), (.load none (.t 146)), none, []⟩,
    ⟨(some 148), (.mov (.t 147)), none, []⟩,
    ⟨(some 149), (.mov (.t 14)), (some (148, true)), []⟩,
    ⟨(some 150), (.mov (.t 8)), (some (148, true)), []⟩,
    ⟨(some 151), (.indexAddr 1 (.t 149) (.t 150)), (some (148, true)), []⟩,
    ⟨(some 152), (.load none (.t 151)), (some (148, true)), []⟩,
    ⟨(some 153), (.bin .eql (.t 152) (.c (.int .u8 0))), (some (148, true)), []⟩,
    ⟨(some 154), (.pick (.t 148) (.t 153) (.c (.bool false))), none, []⟩,
    ⟨(some 155), (.mov (.t 154)), none, []⟩,
    ⟨(some 156), (.mov (.t 14)), (some (155, true)), []⟩,
    ⟨(some 157), (.mov (.t 8)), (some (155, true)), []⟩,
    ⟨(some 158), (.bin .add (.t 157) (.c (.int .i64 1))), (some (155, true)), []⟩,
    ⟨(some 159), (.indexAddr 1 (.t 156) (.t 158)), (some (155, true)), []⟩,
    ⟨(some 160), (.load none (.t 159)), (some (155, true)), []⟩,
    ⟨(some 161), (.bin .eql (.t 160) (.c (.int .u8 0))), (some (155, true)), []⟩,
    ⟨(some 162), (.pick (.t 155) (.t 161) (.c (.bool false))), none, []⟩,
    ⟨(some 15), (.mov (.t 162)), none, []⟩] none)
  (.seq (.seq (.region [⟨(some 163), (.indexArr 1 2 (.t 4) (.c (.int .i64 0))), none, []⟩,
    ⟨(some 164), (.load none (.t 163)), none, []⟩,
    ⟨(some 165), (.indexArr 1 2 (.t 4) (.c (.int .i64 1))), none, []⟩,
    ⟨(some 166), (.load none (.t 165)), none, []⟩,
    ⟨(some 167), (.mov (.t 7)), none, []⟩,
    ⟨(some 168), (.mov (.t 14)), none, []⟩,
    ⟨(some 169), (.call (.f 30) [(.t 164), (.t 166), (.t 167), (.t 168)]), none, []⟩,
    ⟨(some 170), (.mov (.t 15)), none, []⟩,
    ⟨(some 171), (.eqv true .bool false (.t 169) (.t 170)), none, []⟩] none)
  (.cond (.t 171)
  (.seq (.region [⟨(some 6), (.mov (.c (.bool false))), none, []⟩] none)
  .ret)
  .skip))
  (.seq (.region [⟨(some 172), (.indexArr 1 2 (.t 4) (.c (.int .i64 1))), none, []⟩,
    ⟨(some 173), (.load none (.t 172)), none, []⟩,
    ⟨(some 174), (.indexArr 1 2 (.t 4) (.c (.int .i64 0))), none, []⟩,
    ⟨(some 175), (.load none (.t 174)), none, []⟩,
    ⟨(some 176), (.mov (.t 7)), none, []⟩,
    ⟨(some 177), (.mov (.t 9)), none, []⟩,
    ⟨(some 178), (.call (.f 30) [(.t 173), (.t 175), (.t 176), (.t 177)]), none, []⟩,
    ⟨(some 179), (.mov (.t 178)), none, []⟩,
    ⟨(some 180), (.indexArr 1 2 (.t 4) (.c (.int .i64 0))), (some (179, true)), []⟩,
    ⟨(some 181), (.load none (.t 180)), (some (179, true)), []⟩,
    ⟨(some 182), (.fieldAddr 1 (.t 5)), (some (179, true)), []⟩,
    ⟨(some 183), (.load none (.t 182)), (some (179, true)), []⟩,
    ⟨(some 184), (.bin .rem (.t 183) (.c (.int .u8 32))), (some (179, true)), []⟩,
    ⟨(some 185), (.bin .shl (.c (.int .u32 1)) (.t 184)), (some (179, true)), []⟩,
    ⟨(some 186), (.bin .xor (.t 181) (.t 185)), (some (179, true)), []⟩,
    ⟨(some 187), (.indexArr 1 2 (.t 4) (.c (.int .i64 1))), (some (179, true)), []⟩,
    ⟨(some 188), (.load none (.t 187)), (some (179, true)), []⟩,
    ⟨(some 189), (.mov (.t 7)), (some (179, true)), []⟩,
    ⟨(some 190), (.mov (.t 9)), (some (179, true)), []⟩,
    ⟨(some 191), (.call (.f 30) [(.t 186), (.t 188), (.t 189), (.t 190)]), (some (179, true)), []⟩,
    ⟨(some 192), (.un .not (.t 191)), (some (179, true)), []⟩,
    ⟨(some 193), (.pick (.t 179) (.t 192) (.c (.bool false))), none, []⟩,
    ⟨(some 194), (.mov (.t 193)), none, []⟩,
    ⟨(some 195), (.call (.f 13) []), (some (194, true)), []⟩,
    ⟨(some 196), (.pick (.t 194) (.t 195) (.c (.bool false))), none, []⟩,
    ⟨(some 6), (.mov (.t 196)), none, []⟩] none)
  .ret))))))))))))))
def F6 : AFunc := ⟨3, 197, [(.tmp 6)], B6⟩
def R7_0 : ACode := .region [⟨(some 28), (.indexArr 1 2 (.t 4) (.c (.int .i64 0))), none, []⟩,
    ⟨(some 29), (.load none (.t 28)), none, [0]⟩,
    ⟨(some 30), (.indexArr 1 2 (.t 4) (.c (.int .i64 1))), none, []⟩,
    ⟨(some 31), (.load none (.t 30)), none, [2]⟩,
    ⟨(some 7), (.mov (.t 29)), none, [1, 0, 1]⟩,
    ⟨(some 8), (.mov (.t 31)), none, [3, 4, 0, 1, 2, 3, 4]⟩] (some [(0, 2), (1, 2), (0, 3), (1, 3), (2, 4), (3, 4)])
def R7_1 : ACode := .region [⟨(some 91), (.load (some 11) (.t 10)), none, []⟩,
    ⟨(some 92), (.call (.f 16) [(.t 91)]), none, [0]⟩,
    ⟨(some 93), (.load (some 11) (.t 12)), none, []⟩,
    ⟨(some 94), (.call (.f 26) [(.t 92), (.t 93)]), none, [1, 2, 1]⟩,
    ⟨(some 95), (.mov (.t 94)), none, [3, 3]⟩,
    ⟨(some 96), (.mov (.t 11)), (some (95, true)), [4]⟩,
    ⟨(some 97), (.mov (.t 13)), (some (95, true)), [4]⟩,
    ⟨(some 98), (.bin .eql (.t 96) (.t 97)), (some (95, true)), [5, 6, 4]⟩,
    ⟨(some 99), (.pick (.t 95) (.t 98) (.c (.bool false))), none, [4, 7]⟩,
    ⟨(some 100), (.mov (.t 99)), none, [8, 4]⟩,
    ⟨(some 101), (.load (some 5) (.t 14)), (some (100, true)), [9]⟩,
    ⟨(some 102), (.call (.f 19) [(.t 101)]), (some (100, true)), [10, 9, 9]⟩,
    ⟨(some 103), (.load (some 5) (.t 16)), (some (100, true)), [9]⟩,
    ⟨(some 104), (.call (.f 27) [(.t 102), (.t 103)]), (some (100, true)), [11, 12, 11, 9]⟩,
    ⟨(some 105), (.pick (.t 100) (.t 104) (.c (.bool false))), none, [9, 13]⟩,
    ⟨(some 106), (.mov (.t 105)), none, [14, 13]⟩,
    ⟨(some 107), (.mov (.t 15)), (some (106, true)), [15]⟩,
    ⟨(some 108), (.mov (.t 17)), (some (106, true)), [15]⟩,
    ⟨(some 109), (.bin .eql (.t 107) (.t 108)), (some (106, true)), [16, 17, 15]⟩,
    ⟨(some 110), (.pick (.t 106) (.t 109) (.c (.bool false))), none, [15, 18]⟩,
    ⟨(some 111), (.mov (.t 110)), none, [19, 15]⟩,
    ⟨(some 112), (.mov (.t 18)), (some (111, true)), [20]⟩,
    ⟨(some 113), (.conv .i64 (.t 112)), (some (111, true)), [21, 20]⟩,
    ⟨(some 114), (.mov (.t 21)), (some (111, true)), [20]⟩,
    ⟨(some 115), (.bin .eql (.t 113) (.t 114)), (some (111, true)), [22, 23, 20]⟩,
    ⟨(some 116), (.pick (.t 111) (.t 115) (.c (.bool false))), none, [20, 24]⟩,
    ⟨(some 117), (.mov (.t 116)), none, [25, 20]⟩,
    ⟨(some 118), (.mov (.t 19)), (some (117, true)), [26]⟩,
    ⟨(some 119), (.conv .i64 (.t 118)), (some (117, true)), [27, 26]⟩,
    ⟨(some 120), (.mov (.t 22)), (some (117, true)), [26]⟩,
    ⟨(some 121), (.bin .eql (.t 119) (.t 120)), (some (117, true)), [28, 29, 26]⟩,
    ⟨(some 122), (.pick (.t 117) (.t 121) (.c (.bool false))), none, [26, 30]⟩,
    ⟨(some 123), (.mov (.t 122)), none, [31, 26]⟩,
    ⟨(some 124), (.mov (.t 20)), (some (123, true)), [32]⟩,
    ⟨(some 125), (.mov (.t 23)), (some (123, true)), [32]⟩,
    ⟨(some 126), (.eqv false .bool false (.t 124) (.t 125)), (some (123, true)), [33, 34, 32]⟩,
    ⟨(some 127), (.pick (.t 123) (.t 126) (.c (.bool false))), none, [32, 35]⟩,
    ⟨(some 128), (.mov (.t 127)), none, [36, 32]⟩,
    ⟨(some 129), (.mov (.t 24)), (some (128, true)), [37]⟩,
    ⟨(some 130), (.mov (.t 26)), (some (128, true)), [37]⟩,
    ⟨(some 131), (.call (.f 21) [(.t 129), (.t 130)]), (some (128, true)), [38, 39, 37, 37]⟩,
    ⟨(some 132), (.pick (.t 128) (.t 131) (.c (.bool false))), none, [37, 40]⟩,
    ⟨(some 133), (.mov (.t 132)), none, [41, 40]⟩,
    ⟨(some 134), (.mov (.t 25)), (some (133, true)), [42]⟩,
    ⟨(some 135), (.mov (.t 27)), (some (133, true)), [42]⟩,
    ⟨(some 136), (.bin .eql (.t 134) (.t 135)), (some (133, true)), [43, 44, 42]⟩,
    ⟨(some 137), (.pick (.t 133) (.t 136) (.c (.bool false))), none, [42, 45]⟩,
    ⟨(some 138), (.mov (.t 137)), none, [46, 42]⟩,
    ⟨(some 139), (.mov (.t 7)), (some (138, true)), [47]⟩,
    ⟨(some 140), (.mov (.t 8)), (some (138, true)), [47]⟩,
    ⟨(some 141), (.mov (.t 2)), (some (138, true)), [47]⟩,
    ⟨(some 142), (.mov (.t 9)), (some (138, true)), [47]⟩,
    ⟨(some 143), (.call (.f 30) [(.t 139), (.t 140), (.t 141), (.t 142)]), (some (138, true)), [48, 49, 50, 51, 47, 47]⟩,
    ⟨(some 144), (.mov (.t 7)), (some (138, true)), [47]⟩,
    ⟨(some 145), (.mov (.t 8)), (some (138, true)), [47]⟩,
    ⟨(some 146), (.mov (.t 2)), (some (138, true)), [47]⟩,
    ⟨(some 147), (.conv .i64 (.t 146)), (some (138, true)), [55, 47]⟩,
    ⟨(some 148), (.mov (.t 0)), (some (138, true)), [47]⟩,
    ⟨(some 149), (.call (.f 35) [(.t 144), (.t 145), (.t 147), (.t 148)]), (some (138, true)), [53, 54, 56, 57, 52, 47]⟩,
    ⟨(some 150), (.eqv false .bool false (.t 143) (.t 149)), (some (138, true)), [52, 58, 47]⟩,
    ⟨(some 151), (.pick (.t 138) (.t 150) (.c (.bool false))), none, [47, 59]⟩,
    ⟨(some 152), (.mov (.t 151)), none, [60, 58]⟩,
    ⟨(some 153), (.mov (.t 9)), (some (152, true)), [61]⟩,
    ⟨(some 154), (.mov (.t 0)), (some (152, true)), [61]⟩,
    ⟨(some 155), (.call (.f 21) [(.t 153), (.t 154)]), (some (152, true)), [62, 63, 61, 61]⟩,
    ⟨(some 156), (.pick (.t 152) (.t 155) (.c (.bool false))), none, [61, 64]⟩,
    ⟨(some 157), (.mov (.t 156)), none, [65, 64]⟩,
    ⟨(some 158), (.call (.f 13) []), (some (157, true)), [66, 66]⟩,
    ⟨(some 159), (.pick (.t 157) (.t 158) (.c (.bool false))), none, [66, 67]⟩,
    ⟨(some 6), (.mov (.t 159)), none, [68, 67, 0, 1, 2, 3, 4, 5, 6, 7, 8, 9, 10, 11, 12, 13, 14, 15, 16, 17, 18, 19, 20, 21, 22, 23, 24, 25, 26, 27, 28, 29, 30, 31, 32, 33, 34, 35, 36, 37, 38, 39, 40, 41, 42, 43, 44, 45, 46, 47, 48, 49, 50, 51, 52, 53, 54, 55, 56, 57, 58, 59, 60, 61, 62, 63, 64, 65, 66, 67, 68]⟩] (some [(0, 2), (1, 2), (5, 6), (10, 12), (11, 12), (16, 17), (21, 23), (22, 23), (27, 29), (28, 29), (33, 34), (38, 39), (43, 44), (48, 49), (48, 50), (49, 50), (48, 51), (49, 51), (50, 51), (48, 53), (49, 53), (50, 53), (51, 53), (52, 53), (48, 54), (49, 54), (50, 54), (51, 54), (52, 54), (53, 54), (48, 55), (49, 55), (50, 55), (51, 55), (52, 55), (53, 55), (54, 55), (48, 56), (49, 56), (50, 56), (51, 56), (52, 56), (53, 56), (54, 56), (48, 57), (49, 57), (50, 57), (51, 57), (52, 57), (53, 57), (54, 57), (55, 57), (56, 57), (62, 63)])
/-- toll/tolllaw07.TransGets -/
def B7 : ACode := (.seq (.region [⟨(some 4), (.box 65 (.t 1)), none, []⟩,
    ⟨(some 6), (.mov (.c (.bool false))), none, []⟩] none)
  (.seq R7_0
  (.seq (.region [⟨(some 32), (.mov (.t 0)), none, []⟩,
    ⟨(some 33), (.mov (.t 0)), none, []⟩,
    ⟨(some 34), (.lenSlice (.t 33)), none, []⟩,
    ⟨(some 35), (.min [(.t 34), (.c (.int .i64 200))]), none, []⟩,
    ⟨(some 36), (.slice 1 (.t 32) none (some (.t 35)) none), none, []⟩,
    ⟨(some 0), (.mov (.t 36)), none, []⟩] none)
  (.seq (.region [⟨(some 37), (.mov (.t 0)), none, []⟩,
    ⟨(some 38), (.call (.f 25) [(.t 37)]), none, []⟩,
    ⟨(some 9), (.mov (.t 38)), none, []⟩] none)
  (.seq (.region [⟨(some 40), (.mov (.t 9)), none, []⟩,
    ⟨(some 41), (.call (.f 23) [(.t 40)]), none, []⟩,
    ⟨(some 39), (.mov (.t 41)), none, []⟩,
    ⟨(some 42), (.extract (.t 39) 0), none, []⟩,
    ⟨(some 43), (.extract (.t 39) 1), none, []⟩,
    ⟨(some 10), (.alloc 35 [(.int .u16 0), (.int .u16 0), (.int .u32 0), (.int .u32 0), (.int .u8 0), (.int .u8 0), (.int .u16 0), (.int .u16 0), (.int .u16 0), (.slice none 0 0), (.slice none 0 0)]), none, []⟩,
    ⟨none, (.store 11 (.t 10) (.t 42)), none, []⟩,
    ⟨(some 11), (.mov (.t 43)), none, []⟩] none)
  (.seq (.region [⟨(some 45), (.mov (.t 0)), none, []⟩,
    ⟨(some 46), (.call (.f 31) [(.t 45)]), none, []⟩,
    ⟨(some 44), (.mov (.t 46)), none, []⟩,
    ⟨(some 47), (.extract (.t 44) 0), none, []⟩,
    ⟨(some 48), (.extract (.t 44) 1), none, []⟩,
    ⟨(some 12), (.alloc 43 [(.int .i64 0), (.int .i64 0), (.int .i64 0), (.int .i64 0), (.int .i64 0), (.int .i64 0), (.int .i64 0), (.int .u32 0), (.int .u32 0), (.slice none 0 0), (.slice none 0 0)]), none, []⟩,
    ⟨none, (.store 11 (.t 12) (.t 47)), none, []⟩,
    ⟨(some 13), (.mov (.t 48)), none, []⟩] none)
  (.seq (.region [⟨(some 50), (.mov (.t 9)), none, []⟩,
    ⟨(some 51), (.call (.f 24) [(.t 50)]), none, []⟩,
    ⟨(some 49), (.mov (.t 51)), none, []⟩,
    ⟨(some 52), (.extract (.t 49) 0), none, []⟩,
    ⟨(some 53), (.extract (.t 49) 1), none, []⟩,
    ⟨(some 14), (.alloc 37 [(.int .u16 0), (.int .u16 0), (.int .u16 0), (.int .u16 0), (.slice none 0 0)]), none, []⟩,
    ⟨none, (.store 5 (.t 14) (.t 52)), none, []⟩,
    ⟨(some 15), (.mov (.t 53)), none, []⟩] none)
  (.seq (.region [⟨(some 55), (.mov (.t 0)), none, []⟩,
    ⟨(some 56), (.call (.f 32) [(.t 55)]), none, []⟩,
    ⟨(some 54), (.mov (.t 56)), none, []⟩,
    ⟨(some 57), (.extract (.t 54) 0), none, []⟩,
    ⟨(some 58), (.extract (.t 54) 1), none, []⟩,
    ⟨(some 16), (.alloc 47 [(.int .i64 0), (.int .i64 0), (.int .i64 0), (.int .i64 0), (.slice none 0 0)]), none, []⟩,
    ⟨none, (.store 5 (.t 16) (.t 57)), none, []⟩,
    ⟨(some 17), (.mov (.t 58)), none, []⟩] none)
  (.seq (.region [⟨(some 60), (.mov (.t 2)), none, []⟩,
    ⟨(some 61), (.mov (.t 9)), none, []⟩,
    ⟨(some 62), (.call (.f 28) [(.t 60), (.t 61)]), none, []⟩,
    ⟨(some 59), (.mov (.t 62)), none, []⟩,
    ⟨(some 63), (.extract (.t 59) 0), none, []⟩,
    ⟨(some 64), (.extract (.t 59) 1), none, []⟩,
    ⟨(some 65), (.extract (.t 59) 2), none, []⟩,
    ⟨(some 18), (.mov (.t 63)), none, []⟩,
    ⟨(some 19), (.mov (.t 64)), none, []⟩,
    ⟨(some 20), (.mov (.t 65)), none, []⟩] none)
  (.seq (.region [⟨(some 67), (.mov (.t 2)), none, []⟩,
    ⟨(some 68), (.conv .i64 (.t 67)), none, []⟩,
    ⟨(some 69), (.mov (.t 0)), none, []⟩,
    ⟨(some 70), (.call (.f 33) [(.t 68), (.t 69)]), none, []⟩,
    ⟨(some 66), (.mov (.t 70)), none, []⟩,
    ⟨(some 71), (.extract (.t 66) 0), none, []⟩,
    ⟨(some 72), (.extract (.t 66) 1), none, []⟩,
    ⟨(some 73), (.extract (.t 66) 2), none, []⟩,
    ⟨(some 21), (.mov (.t 71)), none, []⟩,
    ⟨(some 22), (.mov (.t 72)), none, []⟩,
    ⟨(some 23), (.mov (.t 73)), none, []⟩] none)
  (.seq (.region [⟨(some 75), (.mov (.t 7)), none, []⟩,
    ⟨(some 76), (.mov (.t 8)), none, []⟩,
    ⟨(some 77), (.mov (.t 2)), none, []⟩,
    ⟨(some 78), (.mov (.t 9)), none, []⟩,
    ⟨(some 79), (.call (.f 29) [(.t 75), (.t 76), (.t 77), (.t 78)]), none, []⟩,
    ⟨(some 74), (.mov (.t 79)), none, []⟩,
    ⟨(some 80), (.extract (.t 74) 0), none, []⟩,
    ⟨(some 81), (.extract (.t 74) 1), none, []⟩,
    ⟨(some 24), (.mov (.t 80)), none, []⟩,
    ⟨(some 25), (.mov (.t 81)), none, []⟩] none)
  (.seq (.region [⟨(some 83), (.mov (.t 7)), none, []⟩,
    ⟨(some 84), (.mov (.t 8)), none, []⟩,
    ⟨(some 85), (.mov (.t 2)), none, []⟩,
    ⟨(some 86), (.conv .i64 (.t 85)), none, []⟩,
    ⟨(some 87), (.mov (.t 0)), none, []⟩,
    ⟨(some 88), (.call (.f 34) [(.t 83), (.t 84), (.t 86), (.t 87)]), none, []⟩,
    ⟨(some 82), (.mov (.t 88)), none, []⟩,
    ⟨(some 89), (.extract (.t 82) 0), none, []⟩,
    ⟨(some 90), (.extract (.t 82) 1), none, []⟩,
    ⟨(some 26), (.mov (.t 89)), none, []⟩,
    ⟨(some 27), (.mov (.t 90)), none, []⟩] none)
  (.seq R7_1
  .ret)))))))))))))
def F7 : AFunc := ⟨3, 160, [(.tmp 6)], B7⟩
/-- toll/tolllaw07.TransKnown -/
def B8 : ACode := (.seq (.region [⟨(some 0), (.mov (.c (.bool false))), none, []⟩] none)
  (.seq (.region [⟨(some 39), (.makeSlice 5 1 1 [(.int .u8 0)] (.c (.int .i64 19)) (.c (.int .i64 19))), none, []⟩,
    ⟨(some 40), (.call (.f 23) [(.t 39)]), none, []⟩,
    ⟨(some 38), (.mov (.t 40)), none, []⟩,
    ⟨(some 41), (.extract (.t 38) 0), none, []⟩,
    ⟨(some 42), (.extract (.t 38) 1), none, []⟩,
    ⟨(some 1), (.alloc 35 [(.int .u16 0), (.int .u16 0), (.int .u32 0), (.int .u32 0), (.int .u8 0), (.int .u8 0), (.int .u16 0), (.int .u16 0), (.int .u16 0), (.slice none 0 0), (.slice none 0 0)]), none, []⟩,
    ⟨none, (.store 11 (.t 1) (.t 41)), none, []⟩,
    ⟨(some 2), (.mov (.t 42)), none, []⟩] none)
  (.seq (.region [⟨(some 44), (.makeSlice 5 1 1 [(.int .u8 0)] (.c (.int .i64 7)) (.c (.int .i64 7))), none, []⟩,
    ⟨(some 45), (.call (.f 24) [(.t 44)]), none, []⟩,
    ⟨(some 43), (.mov (.t 45)), none, []⟩,
    ⟨(some 46), (.extract (.t 43) 0), none, []⟩,
    ⟨(some 47), (.extract (.t 43) 1), none, []⟩,
    ⟨(some 3), (.alloc 37 [(.int .u16 0), (.int .u16 0), (.int .u16 0), (.int .u16 0), (.slice none 0 0)]), none, []⟩,
    ⟨none, (.store 5 (.t 3) (.t 46)), none, []⟩,
    ⟨(some 4), (.mov (.t 47)), none, []⟩] none)
  (.seq (.region [⟨(some 49), (.makeSlice 5 1 1 [(.int .u8 0)] (.c (.int .i64 8)) (.c (.int .i64 8))), none, []⟩,
    ⟨(some 50), (.call (.f 24) [(.t 49)]), none, []⟩,
    ⟨(some 48), (.mov (.t 50)), none, []⟩,
    ⟨(some 51), (.extract (.t 48) 0), none, []⟩,
    ⟨(some 52), (.extract (.t 48) 1), none, []⟩,
    ⟨(some 5), (.alloc 37 [(.int .u16 0), (.int .u16 0), (.int .u16 0), (.int .u16 0), (.slice none 0 0)]), none, []⟩,
    ⟨none, (.store 5 (.t 5) (.t 51)), none, []⟩,
    ⟨(some 6), (.mov (.t 52)), none, []⟩] none)
  (.seq (.region [⟨(some 54), (.buildSlice 5 1 8 [(.int .u8 0)] [(0, 1, (.c (.int .u8 0))), (1, 1, (.c (.int .u8 1))), (2, 1, (.c (.int .u8 0))), (3, 1, (.c (.int .u8 2))), (4, 1, (.c (.int .u8 0))), (5, 1, (.c (.int .u8 9))), (6, 1, (.c (.int .u8 0))), (7, 1, (.c (.int .u8 0)))]), none, []⟩,
    ⟨(some 55), (.call (.f 24) [(.t 54)]), none, []⟩,
    ⟨(some 53), (.mov (.t 55)), none, []⟩,
    ⟨(some 56), (.extract (.t 53) 0), none, []⟩,
    ⟨(some 57), (.extract (.t 53) 1), none, []⟩,
    ⟨(some 7), (.alloc 37 [(.int .u16 0), (.int .u16 0), (.int .u16 0), (.int .u16 0), (.slice none 0 0)]), none, []⟩,
    ⟨none, (.store 5 (.t 7) (.t 56)), none, []⟩,
    ⟨(some 8), (.mov (.t 57)), none, []⟩] none)
  (.seq (.region [⟨(some 59), (.buildSlice 5 1 10 [(.int .u8 0)] [(0, 1, (.c (.int .u8 0))), (1, 1, (.c (.int .u8 1))), (2, 1, (.c (.int .u8 0))), (3, 1, (.c (.int .u8 2))), (4, 1, (.c (.int .u8 0))), (5, 1, (.c (.int .u8 9))), (6, 1, (.c (.int .u8 0))), (7, 1, (.c (.int .u8 0))), (8, 1, (.c (.int .u8 7))), (9, 1, (.c (.int .u8 8)))]), none, []⟩,
    ⟨(some 60), (.call (.f 24) [(.t 59)]), none, []⟩,
    ⟨(some 58), (.mov (.t 60)), none, []⟩,
    ⟨(some 61), (.extract (.t 58) 0), none, []⟩,
    ⟨(some 62), (.extract (.t 58) 1), none, []⟩,
    ⟨(some 9), (.alloc 37 [(.int .u16 0), (.int .u16 0), (.int .u16 0), (.int .u16 0), (.slice none 0 0)]), none, []⟩,
    ⟨none, (.store 5 (.t 9) (.t 61)), none, []⟩,
    ⟨(some 10), (.mov (.t 62)), none, []⟩] none)
  (.seq (.region [⟨(some 64), (.build [(.int .u16 0), (.int .u16 0), (.int .u32 0), (.int .u32 0), (.int .u8 0), (.int .u8 0), (.int .u16 0), (.int .u16 0), (.int .u16 0), (.slice none 0 0), (.slice none 0 0)] [(4, 1, (.c (.int .u8 16)))]), none, []⟩,
    ⟨(some 65), (.call (.f 14) [(.t 64)]), none, []⟩,
    ⟨(some 63), (.mov (.t 65)), none, []⟩,
    ⟨(some 66), (.extract (.t 63) 0), none, []⟩,
    ⟨(some 67), (.extract (.t 63) 1), none, []⟩,
    ⟨(some 11), (.mov (.t 66)), none, []⟩,
    ⟨(some 12), (.mov (.t 67)), none, []⟩] none)
  (.seq (.region [⟨(some 69), (.makeSlice 5 1 1 [(.int .u8 0)] (.c (.int .i64 3)) (.c (.int .i64 3))), none, []⟩,
    ⟨(some 70), (.build [(.int .u16 0), (.int .u16 0), (.int .u32 0), (.int .u32 0), (.int .u8 0), (.int .u8 0), (.int .u16 0), (.int .u16 0), (.int .u16 0), (.slice none 0 0), (.slice none 0 0)] [(9, 1, (.t 69))]), none, []⟩,
    ⟨(some 71), (.call (.f 14) [(.t 70)]), none, []⟩,
    ⟨(some 68), (.mov (.t 71)), none, []⟩,
    ⟨(some 72), (.extract (.t 68) 0), none, []⟩,
    ⟨(some 73), (.extract (.t 68) 1), none, []⟩,
    ⟨(some 13), (.mov (.t 72)), none, []⟩,
    ⟨(some 14), (.mov (.t 73)), none, []⟩] none)
  (.seq (.region [⟨(some 75), (.makeSlice 5 1 1 [(.int .u8 0)] (.c (.int .i64 44)) (.c (.int .i64 44))), none, []⟩,
    ⟨(some 76), (.build [(.int .u16 0), (.int .u16 0), (.int .u32 0), (.int .u32 0), (.int .u8 0), (.int .u8 0), (.int .u16 0), (.int .u16 0), (.int .u16 0), (.slice none 0 0), (.slice none 0 0)] [(9, 1, (.t 75))]), none, []⟩,
    ⟨(some 77), (.call (.f 14) [(.t 76)]), none, []⟩,
    ⟨(some 74), (.mov (.t 77)), none, []⟩,
    ⟨(some 78), (.extract (.t 74) 0), none, []⟩,
    ⟨(some 79), (.extract (.t 74) 1), none, []⟩,
    ⟨(some 15), (.mov (.t 78)), none, []⟩,
    ⟨(some 16), (.mov (.t 79)), none, []⟩] none)
  (.seq (.region [⟨(some 81), (.build [(.int .u16 0), (.int .u16 0), (.int .u16 0), (.int .u16 0), (.slice none 0 0)] [(2, 1, (.c (.int .u16 9)))]), none, []⟩,
    ⟨(some 82), (.call (.f 17) [(.t 81)]), none, []⟩,
    ⟨(some 80), (.mov (.t 82)), none, []⟩,
    ⟨(some 83), (.extract (.t 80) 0), none, []⟩,
    ⟨(some 84), (.extract (.t 80) 1), none, []⟩,
    ⟨(some 17), (.mov (.t 83)), none, []⟩,
    ⟨(some 18), (.mov (.t 84)), none, []⟩] none)
  (.seq (.region [⟨(some 86), (.makeSlice 5 1 1 [(.int .u8 0)] (.c (.int .i64 40)) (.c (.int .i64 40))), none, []⟩,
    ⟨(some 87), (.call (.f 29) [(.c (.int .u32 0)), (.c (.int .u32 0)), (.c (.int .u8 1)), (.t 86)]), none, []⟩,
    ⟨(some 85), (.mov (.t 87)), none, []⟩,
    ⟨(some 88), (.extract (.t 85) 0), none, []⟩,
    ⟨(some 89), (.extract (.t 85) 1), none, []⟩,
    ⟨(some 19), (.mov (.t 88)), none, []⟩,
    ⟨(some 20), (.mov (.t 89)), none, []⟩] none)
  (.seq (.region [⟨(some 91), (.makeSlice 5 1 1 [(.int .u8 0)] (.c (.int .i64 17)) (.c (.int .i64 17))), none, []⟩,
    ⟨(some 92), (.call (.f 29) [(.c (.int .u32 0)), (.c (.int .u32 0)), (.c (.int .u8 6)), (.t 91)]), none, []⟩,
    ⟨(some 90), (.mov (.t 92)), none, []⟩,
    ⟨(some 93), (.extract (.t 90) 0), none, []⟩,
    ⟨(some 94), (.extract (.t 90) 1), none, []⟩,
    ⟨(some 21), (.mov (.t 93)), none, []⟩,
    ⟨(some 22), (.mov (.t 94)), none, []⟩] none)
  (.seq (.region [⟨(some 96), (.makeSlice 5 1 1 [(.int .u8 0)] (.c (.int .i64 65536)) (.c (.int .i64 65536))), none, []⟩,
    ⟨(some 97), (.call (.f 29) [(.c (.int .u32 0)), (.c (.int .u32 0)), (.c (.int .u8 17)), (.t 96)]), none, []⟩,
    ⟨(some 95), (.mov (.t 97)), none, []⟩,
    ⟨(some 98), (.extract (.t 95) 0), none, []⟩,
    ⟨(some 99), (.extract (.t 95) 1), none, []⟩,
    ⟨(some 23), (.mov (.t 98)), none, []⟩,
    ⟨(some 24), (.mov (.t 99)), none, []⟩] none)
  (.seq (.region [⟨(some 101), (.call (.f 10) [(.c (.string ⟨#[]⟩))]), none, []⟩,
    ⟨(some 100), (.mov (.t 101)), none, []⟩,
    ⟨(some 102), (.extract (.t 100) 0), none, []⟩,
    ⟨(some 103), (.extract (.t 100) 1), none, []⟩,
    ⟨(some 25), (.mov (.t 102)), none, []⟩,
    ⟨(some 26), (.mov (.t 103)), none, []⟩] none)
  (.seq (.region [⟨(some 105), (.call (.f 10) [(.c (.string ⟨#[115, 121, 110, 44, 45]⟩))]), none, []⟩,
    ⟨(some 104), (.mov (.t 105)), none, []⟩,
    ⟨(some 106), (.extract (.t 104) 0), none, []⟩,
    ⟨(some 107), (.extract (.t 104) 1), none, []⟩,
    ⟨(some 27), (.mov (.t 106)), none, []⟩,
    ⟨(some 28), (.mov (.t 107)), none, []⟩] none)
  (.seq (.region [⟨(some 109), (.call (.f 10) [(.c (.string ⟨#[115, 121, 110, 44, 97, 99, 107, 44, 115, 121, 110]⟩))]), none, []⟩,
    ⟨(some 108), (.mov (.t 109)), none, []⟩,
    ⟨(some 110), (.extract (.t 108) 0), none, []⟩,
    ⟨(some 111), (.extract (.t 108) 1), none, []⟩,
    ⟨(some 29), (.mov (.t 110)), none, []⟩,
    ⟨(some 30), (.mov (.t 111)), none, []⟩] none)
  (.seq (.region [⟨(some 113), (.call (.f 10) [(.c (.string ⟨#[115, 121, 110, 44, 115, 121, 110, 44, 120]⟩))]), none, []⟩,
    ⟨(some 112), (.mov (.t 113)), none, []⟩,
    ⟨(some 114), (.extract (.t 112) 0), none, []⟩,
    ⟨(some 115), (.extract (.t 112) 1), none, []⟩,
    ⟨(some 31), (.mov (.t 114)), none, []⟩,
    ⟨(some 32), (.mov (.t 115)), none, []⟩] none)
  (.seq (.region [⟨(some 117), (.makeSlice 5 1 1 [(.int .u8 0)] (.c (.int .i64 60)) (.c (.int .i64 60))), none, []⟩,
    ⟨(some 118), (.call (.f 28) [(.c (.int .u8 1)), (.t 117)]), none, []⟩,
    ⟨(some 116), (.mov (.t 118)), none, []⟩,
    ⟨(some 119), (.extract (.t 116) 0), none, []⟩,
    ⟨(some 120), (.extract (.t 116) 1), none, []⟩,
    ⟨(some 121), (.extract (.t 116) 2), none, []⟩,
    ⟨(some 33), (.mov (.t 119)), none, []⟩,
    ⟨(some 34), (.mov (.t 120)), none, []⟩,
    ⟨(some 35), (.mov (.t 121)), none, []⟩] none)
  (.seq (.region [⟨(some 123), (.buildSlice 5 1 8 [(.int .u8 0)] [(0, 1, (.c (.int .u8 0))), (1, 1, (.c (.int .u8 0))), (2, 1, (.c (.int .u8 0))), (3, 1, (.c (.int .u8 0))), (4, 1, (.c (.int .u8 0))), (5, 1, (.c (.int .u8 8))), (6, 1, (.c (.int .u8 0))), (7, 1, (.c (.int .u8 0)))]), none, []⟩,
    ⟨(some 124), (.call (.f 29) [(.c (.int .u32 0)), (.c (.int .u32 0)), (.c (.int .u8 17)), (.t 123)]), none, []⟩,
    ⟨(some 122), (.mov (.t 124)), none, []⟩,
    ⟨(some 125), (.extract (.t 122) 0), none, []⟩,
    ⟨(some 126), (.extract (.t 122) 1), none, []⟩,
    ⟨(some 36), (.mov (.t 125)), none, []⟩,
    ⟨(some 37), (.mov (.t 126)), none, []⟩] none)
  (.seq (.region [⟨(some 127), (.mov (.c (.bool true))), none, []⟩,
    ⟨(some 128), (.mov (.t 2)), (some (127, true)), []⟩,
    ⟨(some 129), (.bin .eql (.t 128) (.c (.int .i64 4))), (some (127, true)), []⟩,
    ⟨(some 130), (.pick (.t 127) (.t 129) (.c (.bool false))), none, []⟩,
    ⟨(some 131), (.mov (.t 130)), none, []⟩,
    ⟨(some 132), (.mov (.t 4)), (some (131, true)), []⟩,
    ⟨(some 133), (.bin .eql (.t 132) (.c (.int .i64 4))), (some (131, true)), []⟩,
    ⟨(some 134), (.pick (.t 131) (.t 133) (.c (.bool false))), none, []⟩,
    ⟨(some 135), (.mov (.t 134)), none, []⟩,
    ⟨(some 136), (.mov (.t 6)), (some (135, true)), []⟩,
    ⟨(some 137), (.bin .eql (.t 136) (.c (.int .i64 5))), (some (135, true)), []⟩,
    ⟨(some 138), (.pick (.t 135) (.t 137) (.c (.bool false))), none, []⟩,
    ⟨(some 139), (.mov (.t 138)), none, []⟩,
    ⟨(some 140), (.mov (.t 8)), (some (139, true)), []⟩,
    ⟨(some 141), (.bin .eql (.t 140) (.c (.int .i64 4))), (some (139, true)), []⟩,
    ⟨(some 142), (.pick (.t 139) (.t 141) (.c (.bool false))), none, []⟩,
    ⟨(some 143), (.mov (.t 142)), none, []⟩,
    ⟨(some 144), (.mov (.t 10)), (some (143, true)), []⟩,
    ⟨(some 145), (.bin .eql (.t 144) (.c (.int .i64 0))), (some (143, true)), []⟩,
    ⟨(some 146), (.pick (.t 143) (.t 145) (.c (.bool false))), none, []⟩,
    ⟨(some 147), (.mov (.t 146)), none, []⟩,
    ⟨(some 148), (.fieldAddr 4 (.t 9)), (some (147, true)), []⟩,
    ⟨(some 149), (.load none (.t 148)), (some (147, true)), []⟩,
    ⟨(some 150), (.lenSlice (.t 149)), (some (147, true)), []⟩,
    ⟨(some 151), (.bin .eql (.t 150) (.c (.int .i64 1))), (some (147, true)), []⟩,
    ⟨(some 152), (.pick (.t 147) (.t 151) (.c (.bool false))), none, []⟩,
    ⟨(some 153), (.mov (.t 152)), none, []⟩,
    ⟨(some 154), (.fieldAddr 4 (.t 9)), (some (153, true)), []⟩,
    ⟨(some 155), (.load none (.t 154)), (some (153, true)), []⟩,
    ⟨(some 156), (.indexAddr 1 (.t 155) (.c (.int .i64 0))), (some (153, true)), []⟩,
    ⟨(some 157), (.load none (.t 156)), (some (153, true)), []⟩,
    ⟨(some 158), (.bin .eql (.t 157) (.c (.int .u8 7))), (some (153, true)), []⟩,
    ⟨(some 159), (.pick (.t 153) (.t 158) (.c (.bool false))), none, []⟩,
    ⟨(some 160), (.mov (.t 159)), none, []⟩,
    ⟨(some 161), (.mov (.t 12)), (some (160, true)), []⟩,
    ⟨(some 162), (.bin .eql (.t 161) (.c (.int .i64 1))), (some (160, true)), []⟩,
    ⟨(some 163), (.pick (.t 160) (.t 162) (.c (.bool false))), none, []⟩,
    ⟨(some 164), (.mov (.t 163)), none, []⟩,
    ⟨(some 165), (.mov (.t 14)), (some (164, true)), []⟩,
    ⟨(some 166), (.bin .eql (.t 165) (.c (.int .i64 1))), (some (164, true)), []⟩,
    ⟨(some 167), (.pick (.t 164) (.t 166) (.c (.bool false))), none, []⟩,
    ⟨(some 168), (.mov (.t 167)), none, []⟩,
    ⟨(some 169), (.mov (.t 16)), (some (168, true)), []⟩,
    ⟨(some 170), (.bin .eql (.t 169) (.c (.int .i64 1))), (some (168, true)), []⟩,
    ⟨(some 171), (.pick (.t 168) (.t 170) (.c (.bool false))), none, []⟩,
    ⟨(some 172), (.mov (.t 171)), none, []⟩,
    ⟨(some 173), (.mov (.t 18)), (some (172, true)), []⟩,
    ⟨(some 174), (.bin .eql (.t 173) (.c (.int .i64 1))), (some (172, true)), []⟩,
    ⟨(some 175), (.pick (.t 172) (.t 174) (.c (.bool false))), none, []⟩,
    ⟨(some 176), (.mov (.t 175)), none, []⟩,
    ⟨(some 177), (.mov (.t 20)), (some (176, true)), []⟩,
    ⟨(some 178), (.bin .eql (.t 177) (.c (.int .i64 1))), (some (176, true)), []⟩,
    ⟨(some 179), (.pick (.t 176) (.t 178) (.c (.bool false))), none, []⟩,
    ⟨(some 180), (.mov (.t 179)), none, []⟩,
    ⟨(some 181), (.mov (.t 22)), (some (180, true)), []⟩,
    ⟨(some 182), (.bin .eql (.t 181) (.c (.int .i64 4))), (some (180, true)), []⟩,
    ⟨(some 183), (.pick (.t 180) (.t 182) (.c (.bool false))), none, []⟩,
    ⟨(some 184), (.mov (.t 183)), none, []⟩,
    ⟨(some 185), (.mov (.t 24)), (some (184, true)), []⟩,
    ⟨(some 186), (.bin .eql (.t 185) (.c (.int .i64 1))), (some (184, true)), []⟩,
    ⟨(some 187), (.pick (.t 184) (.t 186) (.c (.bool false))), none, []⟩,
    ⟨(some 188), (.mov (.t 187)), none, []⟩,
    ⟨(some 189), (.mov (.t 26)), (some (188, true)), []⟩,
    ⟨(some 190), (.bin .eql (.t 189) (.c (.int .i64 23))), (some (188, true)), []⟩,
    ⟨(some 191), (.pick (.t 188) (.t 190) (.c (.bool false))), none, []⟩,
    ⟨(some 192), (.mov (.t 191)), none, []⟩,
    ⟨(some 193), (.mov (.t 28)), (some (192, true)), []⟩,
    ⟨(some 194), (.bin .eql (.t 193) (.c (.int .i64 23))), (some (192, true)), []⟩,
    ⟨(some 195), (.pick (.t 192) (.t 194) (.c (.bool false))), none, []⟩,
    ⟨(some 196), (.mov (.t 195)), none, []⟩,
    ⟨(some 197), (.mov (.t 30)), (some (196, true)), []⟩,
    ⟨(some 198), (.bin .eql (.t 197) (.c (.int .i64 9))), (some (196, true)), []⟩,
    ⟨(some 199), (.pick (.t 196) (.t 198) (.c (.bool false))), none, []⟩,
    ⟨(some 200), (.mov (.t 199)), none, []⟩,
    ⟨(some 201), (.mov (.t 32)), (some (200, true)), []⟩,
    ⟨(some 202), (.bin .eql (.t 201) (.c (.int .i64 23))), (some (200, true)), []⟩,
    ⟨(some 203), (.pick (.t 200) (.t 202) (.c (.bool false))), none, []⟩,
    ⟨(some 204), (.mov (.t 203)), none, []⟩,
    ⟨(some 205), (.mov (.t 35)), (some (204, true)), []⟩,
    ⟨(some 206), (.un .not (.t 205)), (some (204, true)), []⟩,
    ⟨(some 207), (.pick (.t 204) (.t 206) (.c (.bool false))), none, []⟩,
    ⟨(some 208), (.mov (.t 207)), none, []⟩,
    ⟨(some 209), (.mov (.t 37)), (some (208, true)), []⟩,
    ⟨(some 210), (.bin .eql (.t 209) (.c (.int .i64 0))), (some (208, true)), []⟩,
    ⟨(some 211), (.pick (.t 208) (.t 210) (.c (.bool false))), none, []⟩,
    ⟨(some 212), (.mov (.t 211)), none, []⟩,
    ⟨(some 213), (.mov (.t 36)), (some (212, true)), []⟩,
    ⟨(some 214), (.slice 1 (.t 213) (some (.c (.int .i64 6))) none none), (some (212, true)), []⟩,
    ⟨(some 215), (.buildSlice 5 1 2 [(.int .u8 0)] [(0, 1, (.c (.int .u8 255))), (1, 1, (.c (.int .u8 222)))]), (some (212, true)), []⟩,
    ⟨(some 216), (.call (.f 21) [(.t 214), (.t 215)]), (some (212, true)), []⟩,
    ⟨(some 217), (.pick (.t 212) (.t 216) (.c (.bool false))), none, []⟩,
    ⟨(some 218), (.mov (.t 217)), none, []⟩,
    ⟨(some 219), (.call (.f 9) [(.c (.int .u8 255))]), (some (218, true)), []⟩,
    ⟨(some 220), (.bin .eql (.t 219) (.c (.string ⟨#[102, 105, 110, 44, 115, 121, 110, 44, 114, 115, 116, 44, 112, 115, 104, 44, 97, 99, 107, 44, 117, 114, 103, 44, 101, 99, 101, 44, 99, 119, 114]⟩))), (some (218, true)), []⟩,
    ⟨(some 221), (.pick (.t 218) (.t 220) (.c (.bool false))), none, []⟩,
    ⟨(some 222), (.mov (.t 221)), none, []⟩,
    ⟨(some 223), (.makeSlice 5 1 1 [(.int .u8 0)] (.c (.int .i64 65536)) (.c (.int .i64 65536))), (some (222, true)), []⟩,
    ⟨(some 224), (.call (.f 30) [(.c (.int .u32 0)), (.c (.int .u32 0)), (.c (.int .u8 6)), (.t 223)]), (some (222, true)), []⟩,
    ⟨(some 225), (.un .not (.t 224)), (some (222, true)), []⟩,
    ⟨(some 226), (.pick (.t 222) (.t 225) (.c (.bool false))), none, []⟩,
    ⟨(some 227), (.mov (.t 226)), none, []⟩,
    ⟨(some 228), (.pick (.t 227) (.c (.bool true)) (.c (.bool false))), none, []⟩,
    ⟨(some 229), (.mov (.t 228)), none, []⟩,
    ⟨(some 230), (.pick (.t 229) (.c (.bool true)) (.c (.bool false))), none, []⟩,
    ⟨(some 231), (.mov (.t 230)), none, []⟩,
    ⟨(some 232), (.call (.f 13) []), (some (231, true)), []⟩,
    ⟨(some 233), (.pick (.t 231) (.t 232) (.c (.bool false))), none, []⟩,
    ⟨(some 0), (.mov (.t 233)), none, []⟩] none)
  .ret))))))))))))))))))))
def F8 : AFunc := ⟨0, 234, [(.tmp 0)], B8⟩
/-- toll/trans.Text -/
def F9L0 : ACode := (.seq (.region [⟨(some 8), (.bin .lss (.t 7) (.c (.int .i64 8))), none, []⟩] none)
  (.seq (.cond (.t 8)
  .skip
  (.exit 0))
  (.seq (.block 1 (.seq (.region [⟨(some 9), (.mov (.t 7)), none, []⟩,
    ⟨(some 10), (.index 1 8 none (.t 6) (.t 7)), none, []⟩,
    ⟨(some 4), (.mov (.t 9)), none, []⟩,
    ⟨(some 5), (.mov (.t 10)), none, []⟩] none)
  (.seq (.region [⟨(some 11), (.mov (.t 0)), none, []⟩,
    ⟨(some 12), (.mov (.t 4)), none, []⟩,
    ⟨(some 13), (.bin .shr (.t 11) (.t 12)), none, []⟩,
    ⟨(some 14), (.bin .and (.t 13) (.c (.int .u8 1))), none, []⟩,
    ⟨(some 15), (.bin .eql (.t 14) (.c (.int .u8 1))), none, []⟩] none)
  (.cond (.t 15)
  (.region [⟨(some 16), (.mov (.t 3)), none, []⟩,
    ⟨(some 17), (.mov (.t 5)), none, []⟩,
    ⟨(some 18), (.buildSlice 9 1 1 [(.string ⟨#[]⟩)] [(0, 1, (.t 17))]), none, []⟩,
    ⟨(some 19), (.append 9 1 16 (.t 16) (.t 18)), none, []⟩,
    ⟨(some 3), (.mov (.t 19)), none, []⟩] none)
  .skip))))
  (.region [⟨(some 20), (.bin .add (.t 7) (.c (.int .i64 1))), none, []⟩,
    ⟨(some 7), (.mov (.t 20)), none, []⟩] none))))
def B9 : ACode := (.seq (.region [⟨(some 2), (.mov (.c (.string ⟨#[]⟩))), none, []⟩] none)
  (.seq (.region [⟨(some 3), (.mov (.c (.slice none 0 0))), none, []⟩] none)
  (.seq (.seq (.region [⟨(some 6), (.load (some 8) (.g 0)), none, []⟩,
    ⟨(some 7), (.mov (.c (.int .i64 0))), none, []⟩] none)
  (.block 0 (.loop F9L0)))
  (.seq (.seq (.region [⟨(some 21), (.mov (.t 3)), none, []⟩,
    ⟨(some 22), (.lenSlice (.t 21)), none, []⟩,
    ⟨(some 23), (.bin .eql (.t 22) (.c (.int .i64 0))), none, []⟩] none)
  (.cond (.t 23)
  (.seq (.region [⟨(some 2), (.mov (.c (.string ⟨#[45]⟩))), none, []⟩] none)
  .ret)
  .skip))
  (.seq (.region [⟨(some 24), (.mov (.t 3)), none, []⟩,
    ⟨(some 25), (.call (.f 12) [(.t 24), (.c (.string ⟨#[44]⟩))]), none, []⟩,
    ⟨(some 2), (.mov (.t 25)), none, []⟩] none)
  .ret)))))
def F9 : AFunc := ⟨1, 26, [(.tmp 2)], B9⟩
-- F9L0 live: [0, 3, 6, 7]
/-- toll/trans.Parse -/
def F10L0 : ACode := (.seq (.region [⟨(some 15), (.bin .lss (.t 14) (.t 13)), none, []⟩] none)
  (.seq (.cond (.t 15)
  .skip
  (.exit 0))
  (.seq (.block 1 (.seq (.region [⟨(some 16), (.indexAddr 1 (.t 12) (.t 14)), none, []⟩,
    ⟨(some 17), (.load none (.t 16)), none, []⟩,
    ⟨(some 7), (.mov (.t 17)), none, []⟩] none)
  (.seq (.region [⟨(some 18), (.sliceArr 1 8 (.g 0) none none), none, []⟩,
    ⟨(some 19), (.mov (.t 7)), none, []⟩,
    ⟨(some 20), (.call (.f 36) [(.t 18), (.t 19)]), none, []⟩,
    ⟨(some 8), (.mov (.t 20)), none, []⟩] none)
  (.seq (.seq (.region [⟨(some 21), (.mov (.t 8)), none, []⟩,
    ⟨(some 22), (.bin .lss (.t 21) (.c (.int .i64 0))), none, []⟩] none)
  (.cond (.t 22)
  (.seq (.region [⟨(some 2), (.mov (.c (.int .u8 0))), none, []⟩,
    ⟨(some 3), (.mov (.c (.int .i64 23))), none, []⟩] none)
  .ret)
  .skip))
  (.seq (.region [⟨(some 23), (.mov (.t 5)), none, []⟩,
    ⟨(some 24), (.mov (.t 23)), none, []⟩,
    ⟨(some 25), (.mov (.t 4)), (some (24, false)), []⟩,
    ⟨(some 26), (.mov (.t 8)), (some (24, false)), []⟩,
    ⟨(some 27), (.bin .shr (.t 25) (.t 26)), (some (24, false)), []⟩,
    ⟨(some 28), (.bin .and (.t 27) (.c (.int .u8 1))), (some (24, false)), []⟩,
    ⟨(some 29), (.bin .eql (.t 28) (.c (.int .u8 1))), (some (24, false)), []⟩,
    ⟨(some 30), (.pick (.t 24) (.c (.bool true)) (.t 29)), none, []⟩,
    ⟨(some 5), (.mov (.t 30)), none, []⟩] none)
  (.region [⟨(some 31), (.mov (.t 4)), none, []⟩,
    ⟨(some 32), (.mov (.t 8)), none, []⟩,
    ⟨(some 33), (.bin .shl (.c (.int .u8 1)) (.t 32)), none, []⟩,
    ⟨(some 34), (.bin .or (.t 31) (.t 33)), none, []⟩,
    ⟨(some 4), (.mov (.t 34)), none, []⟩] none))))))
  (.region [⟨(some 35), (.bin .add (.t 14) (.c (.int .i64 1))), none, []⟩,
    ⟨(some 14), (.mov (.t 35)), none, []⟩] none))))
def B10 : ACode := (.seq (.region [⟨(some 2), (.mov (.c (.int .u8 0))), none, []⟩,
    ⟨(some 3), (.mov (.c (.int .i64 0))), none, []⟩] none)
  (.seq (.seq (.region [⟨(some 9), (.mov (.t 0)), none, []⟩,
    ⟨(some 10), (.bin .eql (.t 9) (.c (.string ⟨#[45]⟩))), none, []⟩] none)
  (.cond (.t 10)
  (.seq (.region [⟨(some 2), (.mov (.c (.int .u8 0))), none, []⟩,
    ⟨(some 3), (.mov (.c (.int .i64 0))), none, []⟩] none)
  .ret)
  .skip))
  (.seq (.region [⟨(some 4), (.mov (.c (.int .u8 0))), none, []⟩,
    ⟨(some 5), (.mov (.c (.bool false))), none, []⟩] none)
  (.seq (.seq (.region [⟨(some 11), (.mov (.t 0)), none, []⟩,
    ⟨(some 12), (.call (.f 11) [(.t 11), (.c (.string ⟨#[44]⟩))]), none, []⟩,
    ⟨(some 13), (.lenSlice (.t 12)), none, []⟩,
    ⟨(some 14), (.mov (.c (.int .i64 0))), none, []⟩] none)
  (.block 0 (.loop F10L0)))
  (.seq (.seq (.region [⟨(some 36), (.mov (.t 5)), none, []⟩] none)
  (.cond (.t 36)
  (.seq (.region [⟨(some 2), (.mov (.c (.int .u8 0))), none, []⟩,
    ⟨(some 3), (.mov (.c (.int .i64 9))), none, []⟩] none)
  .ret)
  .skip))
  (.seq (.region [⟨(some 37), (.mov (.t 4)), none, []⟩,
    ⟨(some 2), (.mov (.t 37)), none, []⟩,
    ⟨(some 3), (.mov (.c (.int .i64 0))), none, []⟩] none)
  .ret))))))
def F10 : AFunc := ⟨1, 38, [(.tmp 2), (.tmp 3)], B10⟩
-- F10L0 live: [4, 5, 12, 13, 14]
/-- strings.Split -/
def B11 : ACode := (.seq (.region [⟨(some 4), (.mov (.c (.slice none 0 0))), none, []⟩] none)
  (.seq (.region [⟨(some 5), (.mov (.t 0)), none, []⟩,
    ⟨(some 6), (.mov (.t 1)), none, []⟩,
    ⟨(some 7), (.call (.f 37) [(.t 5), (.t 6), (.c (.int .i64 0)), (.c (.int .i64 (-1)))]), none, []⟩,
    ⟨(some 4), (.mov (.t 7)), none, []⟩] none)
  .ret))
def F11 : AFunc := ⟨2, 8, [(.tmp 4)], B11⟩
/-- strings.Join -/
def F12L0 : ACode := (.seq (.region [⟨(some 42), (.bin .lss (.t 41) (.t 40)), none, []⟩] none)
  (.seq (.cond (.t 42)
  .skip
  (.exit 1))
  (.seq (.block 2 (.seq (.region [⟨(some 43), (.indexAddr 1 (.t 39) (.t 41)), none, []⟩,
    ⟨(some 44), (.load none (.t 43)), none, []⟩,
    ⟨(some 7), (.mov (.t 44)), none, []⟩] none)
  (.seq (.seq (.region [⟨(some 45), (.mov (.t 7)), none, []⟩,
    ⟨(some 46), (.lenStr (.t 45)), none, []⟩,
    ⟨(some 47), (.mov (.t 5)), none, []⟩,
    ⟨(some 48), (.bin .sub (.c (.int .i64 9223372036854775807)) (.t 47)), none, []⟩,
    ⟨(some 49), (.bin .gtr (.t 46) (.t 48)), none, []⟩] none)
  (.cond (.t 49)
  (.region [⟨(some 50), (.makeIface 9 (.c (.string ⟨#[115, 116, 114, 105, 110, 103, 115, 58, 32, 74, 111, 105, 110, 32, 111, 117, 116, 112, 117, 116, 32, 108, 101, 110, 103, 116, 104, 32, 111, 118, 101, 114, 102, 108, 111, 119]⟩))), none, []⟩,
    ⟨none, .fail, none, []⟩] none)
  .skip))
  (.region [⟨(some 51), (.mov (.t 5)), none, []⟩,
    ⟨(some 52), (.mov (.t 7)), none, []⟩,
    ⟨(some 53), (.lenStr (.t 52)), none, []⟩,
    ⟨(some 54), (.bin .add (.t 51) (.t 53)), none, []⟩,
    ⟨(some 5), (.mov (.t 54)), none, []⟩] none))))
  (.region [⟨(some 55), (.bin .add (.t 41) (.c (.int .i64 1))), none, []⟩,
    ⟨(some 41), (.mov (.t 55)), none, []⟩] none))))
def F12L1 : ACode := (.seq (.region [⟨(some 66), (.bin .lss (.t 65) (.t 64)), none, []⟩] none)
  (.seq (.cond (.t 66)
  .skip
  (.exit 3))
  (.seq (.block 4 (.seq (.region [⟨(some 67), (.indexAddr 1 (.t 63) (.t 65)), none, []⟩,
    ⟨(some 68), (.load none (.t 67)), none, []⟩,
    ⟨(some 10), (.mov (.t 68)), none, []⟩] none)
  (.seq (.region [⟨(some 69), (.mov (.t 1)), none, []⟩,
    ⟨(some 70), (.call (.f 39) [(.t 8), (.t 69)]), none, []⟩] none)
  (.region [⟨(some 71), (.mov (.t 10)), none, []⟩,
    ⟨(some 72), (.call (.f 39) [(.t 8), (.t 71)]), none, []⟩] none))))
  (.region [⟨(some 73), (.bin .add (.t 65) (.c (.int .i64 1))), none, []⟩,
    ⟨(some 65), (.mov (.t 73)), none, []⟩] none))))
def B12 : ACode := (.seq (.region [⟨(some 4), (.mov (.c (.string ⟨#[]⟩))), none, []⟩] none)
  (.seq (.seq (.region [⟨(some 11), (.mov (.t 0)), none, []⟩,
    ⟨(some 12), (.lenSlice (.t 11)), none, []⟩] none)
  (.block 0 (.seq (.region [⟨(some 14), (.bin .eql (.t 12) (.c (.int .i64 0))), none, []⟩,
    ⟨(some 13), (.mov (.t 14)), none, []⟩] none)
  (.cond (.t 13)
  (.seq (.region [⟨(some 4), (.mov (.c (.string ⟨#[]⟩))), none, []⟩] none)
  .ret)
  (.seq (.region [⟨(some 16), (.bin .eql (.t 12) (.c (.int .i64 1))), none, []⟩,
    ⟨(some 15), (.mov (.t 16)), none, []⟩] none)
  (.cond (.t 15)
  (.seq (.region [⟨(some 17), (.mov (.t 0)), none, []⟩,
    ⟨(some 18), (.indexAddr 1 (.t 17) (.c (.int .i64 0))), none, []⟩,
    ⟨(some 19), (.load none (.t 18)), none, []⟩,
    ⟨(some 4), (.mov (.t 19)), none, []⟩] none)
  .ret)
  .skip))))))
  (.seq (.region [⟨(some 5), (.mov (.c (.int .i64 0))), none, []⟩] none)
  (.seq (.seq (.region [⟨(some 20), (.mov (.t 1)), none, []⟩,
    ⟨(some 21), (.lenStr (.t 20)), none, []⟩,
    ⟨(some 22), (.bin .gtr (.t 21) (.c (.int .i64 0))), none, []⟩] none)
  (.cond (.t 22)
  (.seq (.seq (.region [⟨(some 23), (.mov (.t 1)), none, []⟩,
    ⟨(some 24), (.lenStr (.t 23)), none, []⟩,
    ⟨(some 25), (.mov (.t 0)), none, []⟩,
    ⟨(some 26), (.lenSlice (.t 25)), none, []⟩,
    ⟨(some 27), (.bin .sub (.t 26) (.c (.int .i64 1))), none, []⟩,
    ⟨(some 28), (.bin .quo (.c (.int .i64 9223372036854775807)) (.t 27)), none, []⟩,
    ⟨(some 29), (.bin .geq (.t 24) (.t 28)), none, []⟩] none)
  (.cond (.t 29)
  (.region [⟨(some 30), (.makeIface 9 (.c (.string ⟨#[115, 116, 114, 105, 110, 103, 115, 58, 32, 74, 111, 105, 110, 32, 111, 117, 116, 112, 117, 116, 32, 108, 101, 110, 103, 116, 104, 32, 111, 118, 101, 114, 102, 108, 111, 119]⟩))), none, []⟩,
    ⟨none, .fail, none, []⟩] none)
  .skip))
  (.region [⟨(some 31), (.mov (.t 5)), none, []⟩,
    ⟨(some 32), (.mov (.t 1)), none, []⟩,
    ⟨(some 33), (.lenStr (.t 32)), none, []⟩,
    ⟨(some 34), (.mov (.t 0)), none, []⟩,
    ⟨(some 35), (.lenSlice (.t 34)), none, []⟩,
    ⟨(some 36), (.bin .sub (.t 35) (.c (.int .i64 1))), none, []⟩,
    ⟨(some 37), (.bin .mul (.t 33) (.t 36)), none, []⟩,
    ⟨(some 38), (.bin .add (.t 31) (.t 37)), none, []⟩,
    ⟨(some 5), (.mov (.t 38)), none, []⟩] none))
  .skip))
  (.seq (.seq (.region [⟨(some 39), (.mov (.t 0)), none, []⟩,
    ⟨(some 40), (.lenSlice (.t 39)), none, []⟩,
    ⟨(some 41), (.mov (.c (.int .i64 0))), none, []⟩] none)
  (.block 1 (.loop F12L0)))
  (.seq (.region [⟨(some 8), (.alloc 85 [(.pointer none), (.slice none 0 0)]), none, []⟩] none)
  (.seq (.region [⟨(some 56), (.mov (.t 5)), none, []⟩,
    ⟨(some 57), (.call (.f 38) [(.t 8), (.t 56)]), none, []⟩] none)
  (.seq (.region [⟨(some 58), (.mov (.t 0)), none, []⟩,
    ⟨(some 59), (.indexAddr 1 (.t 58) (.c (.int .i64 0))), none, []⟩,
    ⟨(some 60), (.load none (.t 59)), none, []⟩,
    ⟨(some 61), (.call (.f 39) [(.t 8), (.t 60)]), none, []⟩] none)
  (.seq (.seq (.region [⟨(some 62), (.mov (.t 0)), none, []⟩,
    ⟨(some 63), (.slice 1 (.t 62) (some (.c (.int .i64 1))) none none), none, []⟩,
    ⟨(some 64), (.lenSlice (.t 63)), none, []⟩,
    ⟨(some 65), (.mov (.c (.int .i64 0))), none, []⟩] none)
  (.block 3 (.loop F12L1)))
  (.seq (.region [⟨(some 74), (.call (.f 40) [(.t 8)]), none, []⟩,
    ⟨(some 4), (.mov (.t 74)), none, []⟩] none)
  .ret))))))))))
def F12 : AFunc := ⟨2, 75, [(.tmp 4)], B12⟩
-- F12L0 live: [0, 1, 5, 39, 40, 41]

-- F12L1 live: [1, 8, 63, 64, 65]
/-- toll/tolllaw07.wakes -/
def B13 : ACode := (.seq (.region [⟨(some 0), (.mov (.c (.bool false))), none, []⟩] none)
  (.seq (.region [⟨(some 10), (.makeSlice 5 1 1 [(.int .u8 0)] (.c (.int .i64 20)) (.c (.int .i64 20))), none, []⟩,
    ⟨(some 1), (.mov (.t 10)), none, []⟩] none)
  (.seq (.region [⟨(some 11), (.mov (.t 1)), none, []⟩,
    ⟨(some 12), (.indexAddr 1 (.t 11) (.c (.int .i64 12))), none, []⟩,
    ⟨none, (.store 1 (.t 12) (.c (.int .u8 80))), none, []⟩] none)
  (.seq (.region [⟨(some 14), (.mov (.t 1)), none, []⟩,
    ⟨(some 15), (.call (.f 23) [(.t 14)]), none, []⟩,
    ⟨(some 13), (.mov (.t 15)), none, []⟩,
    ⟨(some 16), (.extract (.t 13) 0), none, []⟩,
    ⟨(some 17), (.extract (.t 13) 1), none, []⟩,
    ⟨(some 2), (.alloc 35 [(.int .u16 0), (.int .u16 0), (.int .u32 0), (.int .u32 0), (.int .u8 0), (.int .u8 0), (.int .u16 0), (.int .u16 0), (.int .u16 0), (.slice none 0 0), (.slice none 0 0)]), none, []⟩,
    ⟨none, (.store 11 (.t 2) (.t 16)), none, []⟩,
    ⟨(some 3), (.mov (.t 17)), none, []⟩] none)
  (.seq (.region [⟨(some 18), (.mov (.t 1)), none, []⟩,
    ⟨(some 19), (.indexAddr 1 (.t 18) (.c (.int .i64 12))), none, []⟩,
    ⟨none, (.store 1 (.t 19) (.c (.int .u8 64))), none, []⟩] none)
  (.seq (.region [⟨(some 21), (.mov (.t 1)), none, []⟩,
    ⟨(some 22), (.call (.f 23) [(.t 21)]), none, []⟩,
    ⟨(some 20), (.mov (.t 22)), none, []⟩,
    ⟨(some 23), (.extract (.t 20) 0), none, []⟩,
    ⟨(some 24), (.extract (.t 20) 1), none, []⟩,
    ⟨(some 4), (.alloc 35 [(.int .u16 0), (.int .u16 0), (.int .u32 0), (.int .u32 0), (.int .u8 0), (.int .u8 0), (.int .u16 0), (.int .u16 0), (.int .u16 0), (.slice none 0 0), (.slice none 0 0)]), none, []⟩,
    ⟨none, (.store 11 (.t 4) (.t 23)), none, []⟩,
    ⟨(some 5), (.mov (.t 24)), none, []⟩] none)
  (.seq (.region [⟨(some 25), (.mov (.t 1)), none, []⟩,
    ⟨(some 26), (.indexAddr 1 (.t 25) (.c (.int .i64 12))), none, []⟩,
    ⟨none, (.store 1 (.t 26) (.c (.int .u8 96))), none, []⟩] none)
  (.seq (.region [⟨(some 28), (.mov (.t 1)), none, []⟩,
    ⟨(some 29), (.call (.f 23) [(.t 28)]), none, []⟩,
    ⟨(some 27), (.mov (.t 29)), none, []⟩,
    ⟨(some 30), (.extract (.t 27) 0), none, []⟩,
    ⟨(some 31), (.extract (.t 27) 1), none, []⟩,
    ⟨(some 6), (.alloc 35 [(.int .u16 0), (.int .u16 0), (.int .u32 0), (.int .u32 0), (.int .u8 0), (.int .u8 0), (.int .u16 0), (.int .u16 0), (.int .u16 0), (.slice none 0 0), (.slice none 0 0)]), none, []⟩,
    ⟨none, (.store 11 (.t 6) (.t 30)), none, []⟩,
    ⟨(some 7), (.mov (.t 31)), none, []⟩] none)
  (.seq (.region [⟨(some 33), (.call (.f 10) [(.c (.string ⟨#[97, 99, 107, 44, 115, 121, 110]⟩))]), none, []⟩,
    ⟨(some 32), (.mov (.t 33)), none, []⟩,
    ⟨(some 34), (.extract (.t 32) 0), none, []⟩,
    ⟨(some 35), (.extract (.t 32) 1), none, []⟩,
    ⟨(some 8), (.mov (.t 34)), none, []⟩,
    ⟨(some 9), (.mov (.t 35)), none, []⟩] none)
  (.seq (.region [⟨(some 36), (.mov (.t 3)), none, []⟩,
    ⟨(some 37), (.bin .eql (.t 36) (.c (.int .i64 0))), none, []⟩,
    ⟨(some 38), (.mov (.t 37)), none, []⟩,
    ⟨(some 39), (.fieldAddr 9 (.t 2)), (some (38, true)), []⟩,
    ⟨(some 40), (.load none (.t 39)), (some (38, true)), []⟩,
    ⟨(some 41), (.lenSlice (.t 40)), (some (38, true)), []⟩,
    ⟨(some 42), (.bin .eql (.t 41) (.c (.int .i64 0))), (some (38, true)), []⟩,
    ⟨(some 43), (.pick (.t 38) (.t 42) (.c (.bool false))), none, []⟩,
    ⟨(some 44), (.mov (.t 43)), none, []⟩,
    ⟨(some 45), (.mov (.t 5)), (some (44, true)), []⟩,
    ⟨(some 46), (.bin .eql (.t 45) (.c (.int .i64 5))), (some (44, true)), []⟩,
    ⟨(some 47), (.pick (.t 44) (.t 46) (.c (.bool false))), none, []⟩,
    ⟨(some 48), (.mov (.t 47)), none, []⟩,
    ⟨(some 49), (.mov (.t 7)), (some (48, true)), []⟩,
    ⟨(some 50), (.bin .eql (.t 49) (.c (.int .i64 4))), (some (48, true)), []⟩,
    ⟨(some 51), (.pick (.t 48) (.t 50) (.c (.bool false))), none, []⟩,
    ⟨(some 52), (.mov (.t 51)), none, []⟩,
    ⟨(some 53), (.call (.f 9) [(.c (.int .u8 18))]), (some (52, true)), []⟩,
    ⟨(some 54), (.bin .eql (.t 53) (.c (.string ⟨#[115, 121, 110, 44, 97, 99, 107]⟩))), (some (52, true)), []⟩,
    ⟨(some 55), (.pick (.t 52) (.t 54) (.c (.bool false))), none, []⟩,
    ⟨(some 56), (.mov (.t 55)), none, []⟩,
    ⟨(some 57), (.call (.f 9) [(.c (.int .u8 0))]), (some (56, true)), []⟩,
    ⟨(some 58), (.bin .eql (.t 57) (.c (.string ⟨#[45]⟩))), (some (56, true)), []⟩,
    ⟨(some 59), (.pick (.t 56) (.t 58) (.c (.bool false))), none, []⟩,
    ⟨(some 60), (.mov (.t 59)), none, []⟩,
    ⟨(some 61), (.mov (.t 9)), (some (60, true)), []⟩,
    ⟨(some 62), (.bin .eql (.t 61) (.c (.int .i64 0))), (some (60, true)), []⟩,
    ⟨(some 63), (.pick (.t 60) (.t 62) (.c (.bool false))), none, []⟩,
    ⟨(some 64), (.mov (.t 63)), none, []⟩,
    ⟨(some 65), (.mov (.t 8)), (some (64, true)), []⟩,
    ⟨(some 66), (.bin .eql (.t 65) (.c (.int .u8 18))), (some (64, true)), []⟩,
    ⟨(some 67), (.pick (.t 64) (.t 66) (.c (.bool false))), none, []⟩,
    ⟨(some 0), (.mov (.t 67)), none, []⟩] none)
  .ret))))))))))
def F13 : AFunc := ⟨0, 68, [(.tmp 0)], B13⟩
def R14_0 : ACode := .region [⟨(some 30), (.call (.f 41) []), none, []⟩,
    ⟨(some 31), (.fieldAddr 0 (.t 1)), none, []⟩,
    ⟨(some 32), (.load none (.t 31)), none, [1]⟩,
    ⟨(some 33), (.fieldAddr 1 (.t 1)), none, []⟩,
    ⟨(some 34), (.load none (.t 33)), none, [3]⟩,
    ⟨(some 35), (.buildSlice 31 1 2 [(.int .u16 0)] [(0, 1, (.t 32)), (1, 1, (.t 34))]), none, [2, 4]⟩,
    ⟨(some 36), (.call (.f 42) [(.t 30), (.t 35)]), none, [0, 5, 0]⟩,
    ⟨(some 37), (.fieldAddr 2 (.t 1)), none, []⟩,
    ⟨(some 38), (.load none (.t 37)), none, [7]⟩,
    ⟨(some 39), (.fieldAddr 3 (.t 1)), none, []⟩,
    ⟨(some 40), (.load none (.t 39)), none, [9]⟩,
    ⟨(some 41), (.buildSlice 32 1 2 [(.int .u32 0)] [(0, 1, (.t 38)), (1, 1, (.t 40))]), none, [8, 10]⟩,
    ⟨(some 42), (.call (.f 43) [(.t 36), (.t 41)]), none, [6, 11, 6]⟩,
    ⟨(some 43), (.mov (.t 5)), none, []⟩,
    ⟨(some 44), (.fieldAddr 5 (.t 1)), none, []⟩,
    ⟨(some 45), (.load none (.t 44)), none, [14]⟩,
    ⟨(some 46), (.buildSlice 5 1 2 [(.int .u8 0)] [(0, 1, (.t 43)), (1, 1, (.t 45))]), none, [13, 15]⟩,
    ⟨(some 47), (.call (.f 44) [(.t 42), (.t 46)]), none, [12, 16, 12]⟩,
    ⟨(some 48), (.fieldAddr 6 (.t 1)), none, []⟩,
    ⟨(some 49), (.load none (.t 48)), none, [18]⟩,
    ⟨(some 50), (.fieldAddr 7 (.t 1)), none, []⟩,
    ⟨(some 51), (.load none (.t 50)), none, [20]⟩,
    ⟨(some 52), (.fieldAddr 8 (.t 1)), none, []⟩,
    ⟨(some 53), (.load none (.t 52)), none, [22]⟩,
    ⟨(some 54), (.buildSlice 31 1 3 [(.int .u16 0)] [(0, 1, (.t 49)), (1, 1, (.t 51)), (2, 1, (.t 53))]), none, [19, 21, 23]⟩,
    ⟨(some 55), (.call (.f 42) [(.t 47), (.t 54)]), none, [17, 24, 17]⟩,
    ⟨(some 6), (.mov (.t 55)), none, [25, 25, 0, 1, 2, 3, 4, 5, 6, 7, 8, 9, 10, 11, 12, 13, 14, 15, 16, 17, 18, 19, 20, 21, 22, 23, 24, 25]⟩] (some [(0, 1), (0, 2), (0, 3), (1, 3), (2, 3), (0, 4), (1, 4), (2, 4), (0, 5), (0, 7), (1, 7), (2, 7), (3, 7), (4, 7), (5, 7), (6, 7), (0, 8), (1, 8), (2, 8), (3, 8), (4, 8), (5, 8), (6, 8), (0, 9), (1, 9), (2, 9), (3, 9), (4, 9), (5, 9), (6, 9), (7, 9), (8, 9), (0, 10), (1, 10), (2, 10), (3, 10), (4, 10), (5, 10), (6, 10), (7, 10), (8, 10), (0, 11), (1, 11), (2, 11), (3, 11), (4, 11), (5, 11), (6, 11), (0, 13), (1, 13), (2, 13), (3, 13), (4, 13), (5, 13), (6, 13), (7, 13), (8, 13), (9, 13), (10, 13), (11, 13), (12, 13), (0, 14), (1, 14), (2, 14), (3, 14), (4, 14), (5, 14), (6, 14), (7, 14), (8, 14), (9, 14), (10, 14), (11, 14), (12, 14), (13, 14), (0, 15), (1, 15), (2, 15), (3, 15), (4, 15), (5, 15), (6, 15), (7, 15), (8, 15), (9, 15), (10, 15), (11, 15), (12, 15), (13, 15), (0, 16), (1, 16), (2, 16), (3, 16), (4, 16), (5, 16), (6, 16), (7, 16), (8, 16), (9, 16), (10, 16), (11, 16), (12, 16), (0, 18), (1, 18), (2, 18), (3, 18), (4, 18), (5, 18), (6, 18), (7, 18), (8, 18), (9, 18), (10, 18), (11, 18), (12, 18), (13, 18), (14, 18), (15, 18), (16, 18), (17, 18), (0, 19), (1, 19), (2, 19), (3, 19), (4, 19), (5, 19), (6, 19), (7, 19), (8, 19), (9, 19), (10, 19), (11, 19), (12, 19), (13, 19), (14, 19), (15, 19), (16, 19), (17, 19), (0, 20), (1, 20), (2, 20), (3, 20), (4, 20), (5, 20), (6, 20), (7, 20), (8, 20), (9, 20), (10, 20), (11, 20), (12, 20), (13, 20), (14, 20), (15, 20), (16, 20), (17, 20), (18, 20), (19, 20), (0, 21), (1, 21), (2, 21), (3, 21), (4, 21), (5, 21), (6, 21), (7, 21), (8, 21), (9, 21), (10, 21), (11, 21), (12, 21), (13, 21), (14, 21), (15, 21), (16, 21), (17, 21), (18, 21), (19, 21), (0, 22), (1, 22), (2, 22), (3, 22), (4, 22), (5, 22), (6, 22), (7, 22), (8, 22), (9, 22), (10, 22), (11, 22), (12, 22), (13, 22), (14, 22), (15, 22), (16, 22), (17, 22), (18, 22), (19, 22), (20, 22), (21, 22), (0, 23), (1, 23), (2, 23), (3, 23), (4, 23), (5, 23), (6, 23), (7, 23), (8, 23), (9, 23), (10, 23), (11, 23), (12, 23), (13, 23), (14, 23), (15, 23), (16, 23), (17, 23), (18, 23), (19, 23), (20, 23), (21, 23), (0, 24), (1, 24), (2, 24), (3, 24), (4, 24), (5, 24), (6, 24), (7, 24), (8, 24), (9, 24), (10, 24), (11, 24), (12, 24), (13, 24), (14, 24), (15, 24), (16, 24), (17, 24)])
def R14_1 : ACode := .region [⟨(some 56), (.mov (.t 6)), none, []⟩,
    ⟨(some 57), (.fieldAddr 9 (.t 1)), none, []⟩,
    ⟨(some 58), (.load none (.t 57)), none, [1]⟩,
    ⟨(some 59), (.call (.f 44) [(.t 56), (.t 58)]), none, [0, 2]⟩,
    ⟨(some 60), (.fieldAddr 10 (.t 1)), none, []⟩,
    ⟨(some 61), (.load none (.t 60)), none, [4]⟩,
    ⟨(some 62), (.call (.f 44) [(.t 59), (.t 61)]), none, [3, 5, 3]⟩,
    ⟨(some 63), (.call (.f 45) [(.t 62)]), none, [6, 6]⟩,
    ⟨(some 2), (.mov (.t 63)), none, [7, 7, 0, 1, 2, 3, 4, 5, 6, 7]⟩,
    ⟨(some 3), (.mov (.c (.int .i64 0))), none, [8, 0, 1, 2, 3, 4, 5, 6, 7, 8]⟩] (some [(0, 1), (0, 2), (0, 4), (1, 4), (2, 4), (3, 4), (0, 5), (1, 5), (2, 5), (3, 5)])
/-- (toll/trans.Tcp).Bytes -/
def B14 : ACode := (.seq (.region [⟨(some 1), (.box 35 (.t 0)), none, []⟩,
    ⟨(some 2), (.mov (.c (.slice none 0 0))), none, []⟩,
    ⟨(some 3), (.mov (.c (.int .i64 0))), none, []⟩] none)
  (.seq (.region [⟨(some 7), (.fieldAddr 9 (.t 1)), none, []⟩,
    ⟨(some 8), (.load none (.t 7)), none, []⟩,
    ⟨(some 9), (.lenSlice (.t 8)), none, []⟩,
    ⟨(some 4), (.mov (.t 9)), none, []⟩] none)
  (.seq (.seq (.region [⟨(some 10), (.fieldAddr 4 (.t 1)), none, []⟩,
    ⟨(some 11), (.load none (.t 10)), none, []⟩,
    ⟨(some 12), (.bin .gtr (.t 11) (.c (.int .u8 15))), none, []⟩,
    ⟨(some 13), (.mov (.t 12)), none, []⟩,
    ⟨(some 14), (.mov (.t 4)), (some (13, false)), []⟩,
    ⟨(some 15), (.bin .gtr (.t 14) (.c (.int .i64 40))), (some (13, false)), []⟩,
    ⟨(some 16), (.pick (.t 13) (.c (.bool true)) (.t 15)), none, []⟩,
    ⟨(some 17), (.mov (.t 16)), none, []⟩,
    ⟨(some 18), (.mov (.t 4)), (some (17, false)), []⟩,
    ⟨(some 19), (.bin .rem (.t 18) (.c (.int .i64 4))), (some (17, false)), []⟩,
    ⟨(some 20), (.bin .neq (.t 19) (.c (.int .i64 0))), (some (17, false)), []⟩,
    ⟨(some 21), (.pick (.t 17) (.c (.bool true)) (.t 20)), none, []⟩] none)
  (.cond (.t 21)
  (.seq (.region [⟨(some 2), (.mov (.c (.slice none 0 0))), none, []⟩,
    ⟨(some 3), (.mov (.c (.int .i64 1))), none, []⟩] none)
  .ret)
  .skip))
  (.seq (.region [⟨(some 22), (.mov (.t 4)), none, []⟩,
    ⟨(some 23), (.bin .quo (.t 22) (.c (.int .i64 4))), none, []⟩,
    ⟨(some 24), (.bin .add (.c (.int .i64 5)) (.t 23)), none, []⟩,
    ⟨(some 25), (.conv .u8 (.t 24)), none, []⟩,
    ⟨(some 26), (.bin .shl (.t 25) (.c (.int .u64 4))), none, []⟩,
    ⟨(some 27), (.fieldAddr 4 (.t 1)), none, []⟩,
    ⟨(some 28), (.load none (.t 27)), none, []⟩,
    ⟨(some 29), (.bin .or (.t 26) (.t 28)), none, []⟩,
    ⟨(some 5), (.mov (.t 29)), none, []⟩] none)
  (.seq R14_0
  (.seq R14_1
  .ret))))))
def F14 : AFunc := ⟨1, 64, [(.tmp 2), (.tmp 3)], B14⟩
/-- toll/tollref07.TcpBytes -/
def B15 : ACode := (.seq (.region [⟨(some 1), (.box 43 (.t 0)), none, []⟩,
    ⟨(some 2), (.mov (.c (.slice none 0 0))), none, []⟩,
    ⟨(some 3), (.mov (.c (.int .i64 0))), none, []⟩] none)
  (.seq (.region [⟨(some 6), (.fieldAddr 9 (.t 1)), none, []⟩,
    ⟨(some 7), (.load none (.t 6)), none, []⟩,
    ⟨(some 8), (.lenSlice (.t 7)), none, []⟩,
    ⟨(some 4), (.mov (.t 8)), none, []⟩] none)
  (.seq (.seq (.region [⟨(some 9), (.fieldAddr 2 (.t 1)), none, []⟩,
    ⟨(some 10), (.load none (.t 9)), none, []⟩,
    ⟨(some 11), (.bin .gtr (.t 10) (.c (.int .i64 15))), none, []⟩,
    ⟨(some 12), (.mov (.t 11)), none, []⟩,
    ⟨(some 13), (.mov (.t 4)), (some (12, false)), []⟩,
    ⟨(some 14), (.bin .gtr (.t 13) (.c (.int .i64 40))), (some (12, false)), []⟩,
    ⟨(some 15), (.pick (.t 12) (.c (.bool true)) (.t 14)), none, []⟩,
    ⟨(some 16), (.mov (.t 15)), none, []⟩,
    ⟨(some 17), (.mov (.t 4)), (some (16, false)), []⟩,
    ⟨(some 18), (.bin .rem (.t 17) (.c (.int .i64 4))), (some (16, false)), []⟩,
    ⟨(some 19), (.bin .neq (.t 18) (.c (.int .i64 0))), (some (16, false)), []⟩,
    ⟨(some 20), (.pick (.t 16) (.c (.bool true)) (.t 19)), none, []⟩] none)
  (.cond (.t 20)
  (.seq (.region [⟨(some 2), (.mov (.c (.slice none 0 0))), none, []⟩,
    ⟨(some 3), (.mov (.c (.int .i64 1))), none, []⟩] none)
  .ret)
  .skip))
  (.seq (.region [⟨(some 5), (.mov (.c (.slice none 0 0))), none, []⟩] none)
  (.seq (.region [⟨(some 21), (.mov (.t 5)), none, []⟩,
    ⟨(some 22), (.fieldAddr 0 (.t 1)), none, []⟩,
    ⟨(some 23), (.load none (.t 22)), none, []⟩,
    ⟨(some 24), (.call (.f 46) [(.t 21), (.t 23)]), none, []⟩,
    ⟨(some 5), (.mov (.t 24)), none, []⟩] none)
  (.seq (.region [⟨(some 25), (.mov (.t 5)), none, []⟩,
    ⟨(some 26), (.fieldAddr 1 (.t 1)), none, []⟩,
    ⟨(some 27), (.load none (.t 26)), none, []⟩,
    ⟨(some 28), (.call (.f 46) [(.t 25), (.t 27)]), none, []⟩,
    ⟨(some 5), (.mov (.t 28)), none, []⟩] none)
  (.seq (.region [⟨(some 29), (.mov (.t 5)), none, []⟩,
    ⟨(some 30), (.fieldAddr 7 (.t 1)), none, []⟩,
    ⟨(some 31), (.load none (.t 30)), none, []⟩,
    ⟨(some 32), (.bin .quo (.t 31) (.c (.int .u32 65536))), none, []⟩,
    ⟨(some 33), (.conv .i64 (.t 32)), none, []⟩,
    ⟨(some 34), (.call (.f 46) [(.t 29), (.t 33)]), none, []⟩,
    ⟨(some 5), (.mov (.t 34)), none, []⟩] none)
  (.seq (.region [⟨(some 35), (.mov (.t 5)), none, []⟩,
    ⟨(some 36), (.fieldAddr 7 (.t 1)), none, []⟩,
    ⟨(some 37), (.load none (.t 36)), none, []⟩,
    ⟨(some 38), (.bin .rem (.t 37) (.c (.int .u32 65536))), none, []⟩,
    ⟨(some 39), (.conv .i64 (.t 38)), none, []⟩,
    ⟨(some 40), (.call (.f 46) [(.t 35), (.t 39)]), none, []⟩,
    ⟨(some 5), (.mov (.t 40)), none, []⟩] none)
  (.seq (.region [⟨(some 41), (.mov (.t 5)), none, []⟩,
    ⟨(some 42), (.fieldAddr 8 (.t 1)), none, []⟩,
    ⟨(some 43), (.load none (.t 42)), none, []⟩,
    ⟨(some 44), (.bin .quo (.t 43) (.c (.int .u32 65536))), none, []⟩,
    ⟨(some 45), (.conv .i64 (.t 44)), none, []⟩,
    ⟨(some 46), (.call (.f 46) [(.t 41), (.t 45)]), none, []⟩,
    ⟨(some 5), (.mov (.t 46)), none, []⟩] none)
  (.seq (.region [⟨(some 47), (.mov (.t 5)), none, []⟩,
    ⟨(some 48), (.fieldAddr 8 (.t 1)), none, []⟩,
    ⟨(some 49), (.load none (.t 48)), none, []⟩,
    ⟨(some 50), (.bin .rem (.t 49) (.c (.int .u32 65536))), none, []⟩,
    ⟨(some 51), (.conv .i64 (.t 50)), none, []⟩,
    ⟨(some 52), (.call (.f 46) [(.t 47), (.t 51)]), none, []⟩,
    ⟨(some 5), (.mov (.t 52)), none, []⟩] none)
  (.seq (.region [⟨(some 53), (.mov (.t 5)), none, []⟩,
    ⟨(some 54), (.mov (.t 4)), none, []⟩,
    ⟨(some 55), (.bin .quo (.t 54) (.c (.int .i64 4))), none, []⟩,
    ⟨(some 56), (.bin .add (.c (.int .i64 5)) (.t 55)), none, []⟩,
    ⟨(some 57), (.bin .mul (.t 56) (.c (.int .i64 16))), none, []⟩,
    ⟨(some 58), (.fieldAddr 2 (.t 1)), none, []⟩,
    ⟨(some 59), (.load none (.t 58)), none, []⟩,
    ⟨(some 60), (.bin .add (.t 57) (.t 59)), none, []⟩,
    ⟨(some 61), (.conv .u8 (.t 60)), none, []⟩,
    ⟨(some 62), (.fieldAddr 3 (.t 1)), none, []⟩,
    ⟨(some 63), (.load none (.t 62)), none, []⟩,
    ⟨(some 64), (.conv .u8 (.t 63)), none, []⟩,
    ⟨(some 65), (.buildSlice 5 1 2 [(.int .u8 0)] [(0, 1, (.t 61)), (1, 1, (.t 64))]), none, []⟩,
    ⟨(some 66), (.append 5 1 1 (.t 53) (.t 65)), none, []⟩,
    ⟨(some 5), (.mov (.t 66)), none, []⟩] none)
  (.seq (.region [⟨(some 67), (.mov (.t 5)), none, []⟩,
    ⟨(some 68), (.fieldAddr 4 (.t 1)), none, []⟩,
    ⟨(some 69), (.load none (.t 68)), none, []⟩,
    ⟨(some 70), (.call (.f 46) [(.t 67), (.t 69)]), none, []⟩,
    ⟨(some 5), (.mov (.t 70)), none, []⟩] none)
  (.seq (.region [⟨(some 71), (.mov (.t 5)), none, []⟩,
    ⟨(some 72), (.fieldAddr 5 (.t 1)), none, []⟩,
    ⟨(some 73), (.load none (.t 72)), none, []⟩,
    ⟨(some 74), (.call (.f 46) [(.t 71), (.t 73)]), none, []⟩,
    ⟨(some 5), (.mov (.t 74)), none, []⟩] none)
  (.seq (.region [⟨(some 75), (.mov (.t 5)), none, []⟩,
    ⟨(some 76), (.fieldAddr 6 (.t 1)), none, []⟩,
    ⟨(some 77), (.load none (.t 76)), none, []⟩,
    ⟨(some 78), (.call (.f 46) [(.t 75), (.t 77)]), none, []⟩,
    ⟨(some 5), (.mov (.t 78)), none, []⟩] none)
  (.seq (.region [⟨(some 79), (.mov (.t 5)), none, []⟩,
    ⟨(some 80), (.fieldAddr 9 (.t 1)), none, []⟩,
    ⟨(some 81), (.load none (.t 80)), none, []⟩,
    ⟨(some 82), (.append 5 1 1 (.t 79) (.t 81)), none, []⟩,
    ⟨(some 5), (.mov (.t 82)), none, []⟩] none)
  (.seq (.region [⟨(some 83), (.mov (.t 5)), none, []⟩,
    ⟨(some 84), (.fieldAddr 10 (.t 1)), none, []⟩,
    ⟨(some 85), (.load none (.t 84)), none, []⟩,
    ⟨(some 86), (.append 5 1 1 (.t 83) (.t 85)), none, []⟩,
    ⟨(some 2), (.mov (.t 86)), none, []⟩,
    ⟨(some 3), (.mov (.c (.int .i64 0))), none, []⟩] none)
  .ret))))))))))))))))
def F15 : AFunc := ⟨1, 87, [(.tmp 2), (.tmp 3)], B15⟩
/-- toll/tolllaw07.ofTcp -/
def B16 : ACode := (.seq (.region [⟨(some 1), (.box 35 (.t 0)), none, []⟩,
    ⟨(some 2), (.alloc 43 [(.int .i64 0), (.int .i64 0), (.int .i64 0), (.int .i64 0), (.int .i64 0), (.int .i64 0), (.int .i64 0), (.int .u32 0), (.int .u32 0), (.slice none 0 0), (.slice none 0 0)]), none, []⟩] none)
  (.seq (.region [⟨(some 3), (.fieldAddr 0 (.t 1)), none, []⟩,
    ⟨(some 4), (.load none (.t 3)), none, []⟩,
    ⟨(some 5), (.conv .i64 (.t 4)), none, []⟩,
    ⟨(some 6), (.fieldAddr 1 (.t 1)), none, []⟩,
    ⟨(some 7), (.load none (.t 6)), none, []⟩,
    ⟨(some 8), (.conv .i64 (.t 7)), none, []⟩,
    ⟨(some 9), (.fieldAddr 4 (.t 1)), none, []⟩,
    ⟨(some 10), (.load none (.t 9)), none, []⟩,
    ⟨(some 11), (.conv .i64 (.t 10)), none, []⟩,
    ⟨(some 12), (.fieldAddr 5 (.t 1)), none, []⟩,
    ⟨(some 13), (.load none (.t 12)), none, []⟩,
    ⟨(some 14), (.conv .i64 (.t 13)), none, []⟩,
    ⟨(some 15), (.fieldAddr 6 (.t 1)), none, []⟩,
    ⟨(some 16), (.load none (.t 15)), none, []⟩,
    ⟨(some 17), (.conv .i64 (.t 16)), none, []⟩,
    ⟨(some 18), (.fieldAddr 7 (.t 1)), none, []⟩,
    ⟨(some 19), (.load none (.t 18)), none, []⟩,
    ⟨(some 20), (.conv .i64 (.t 19)), none, []⟩,
    ⟨(some 21), (.fieldAddr 8 (.t 1)), none, []⟩,
    ⟨(some 22), (.load none (.t 21)), none, []⟩,
    ⟨(some 23), (.conv .i64 (.t 22)), none, []⟩,
    ⟨(some 24), (.fieldAddr 2 (.t 1)), none, []⟩,
    ⟨(some 25), (.load none (.t 24)), none, []⟩,
    ⟨(some 26), (.fieldAddr 3 (.t 1)), none, []⟩,
    ⟨(some 27), (.load none (.t 26)), none, []⟩,
    ⟨(some 28), (.fieldAddr 9 (.t 1)), none, []⟩,
    ⟨(some 29), (.load none (.t 28)), none, []⟩,
    ⟨(some 30), (.fieldAddr 10 (.t 1)), none, []⟩,
    ⟨(some 31), (.load none (.t 30)), none, []⟩,
    ⟨(some 32), (.build [(.int .i64 0), (.int .i64 0), (.int .i64 0), (.int .i64 0), (.int .i64 0), (.int .i64 0), (.int .i64 0), (.int .u32 0), (.int .u32 0), (.slice none 0 0), (.slice none 0 0)] [(0, 1, (.t 5)), (1, 1, (.t 8)), (2, 1, (.t 11)), (3, 1, (.t 14)), (4, 1, (.t 17)), (5, 1, (.t 20)), (6, 1, (.t 23)), (7, 1, (.t 25)), (8, 1, (.t 27)), (9, 1, (.t 29)), (10, 1, (.t 31))]), none, []⟩,
    ⟨none, (.store 11 (.t 2) (.t 32)), none, []⟩] none)
  .ret))
def F16 : AFunc := ⟨1, 33, [(.cell 2 (some 11))], B16⟩
def R17_0 : ACode := .region [⟨(some 12), (.call (.f 41) []), none, []⟩,
    ⟨(some 13), (.fieldAddr 0 (.t 1)), none, []⟩,
    ⟨(some 14), (.load none (.t 13)), none, [1]⟩,
    ⟨(some 15), (.fieldAddr 1 (.t 1)), none, []⟩,
    ⟨(some 16), (.load none (.t 15)), none, [3]⟩,
    ⟨(some 17), (.fieldAddr 2 (.t 1)), none, []⟩,
    ⟨(some 18), (.load none (.t 17)), none, [5]⟩,
    ⟨(some 19), (.fieldAddr 3 (.t 1)), none, []⟩,
    ⟨(some 20), (.load none (.t 19)), none, [7]⟩,
    ⟨(some 21), (.buildSlice 31 1 4 [(.int .u16 0)] [(0, 1, (.t 14)), (1, 1, (.t 16)), (2, 1, (.t 18)), (3, 1, (.t 20))]), none, [2, 4, 6, 8]⟩,
    ⟨(some 22), (.call (.f 42) [(.t 12), (.t 21)]), none, [0, 9, 0]⟩,
    ⟨(some 23), (.fieldAddr 4 (.t 1)), none, []⟩,
    ⟨(some 24), (.load none (.t 23)), none, [11]⟩,
    ⟨(some 25), (.call (.f 44) [(.t 22), (.t 24)]), none, [10, 12, 10]⟩,
    ⟨(some 26), (.call (.f 45) [(.t 25)]), none, [13, 13]⟩,
    ⟨(some 2), (.mov (.t 26)), none, [14, 14, 0, 1, 2, 3, 4, 5, 6, 7, 8, 9, 10, 11, 12, 13, 14]⟩,
    ⟨(some 3), (.mov (.c (.int .i64 0))), none, [15, 0, 1, 2, 3, 4, 5, 6, 7, 8, 9, 10, 11, 12, 13, 14, 15]⟩] (some [(0, 1), (0, 2), (0, 3), (1, 3), (2, 3), (0, 4), (1, 4), (2, 4), (0, 5), (1, 5), (2, 5), (3, 5), (4, 5), (0, 6), (1, 6), (2, 6), (3, 6), (4, 6), (0, 7), (1, 7), (2, 7), (3, 7), (4, 7), (5, 7), (6, 7), (0, 8), (1, 8), (2, 8), (3, 8), (4, 8), (5, 8), (6, 8), (0, 9), (0, 11), (1, 11), (2, 11), (3, 11), (4, 11), (5, 11), (6, 11), (7, 11), (8, 11), (9, 11), (10, 11), (0, 12), (1, 12), (2, 12), (3, 12), (4, 12), (5, 12), (6, 12), (7, 12), (8, 12), (9, 12), (10, 12)])
/-- (toll/trans.Udp).Bytes -/
def B17 : ACode := (.seq (.region [⟨(some 1), (.box 37 (.t 0)), none, []⟩,
    ⟨(some 2), (.mov (.c (.slice none 0 0))), none, []⟩,
    ⟨(some 3), (.mov (.c (.int .i64 0))), none, []⟩] none)
  (.seq (.seq (.region [⟨(some 4), (.fieldAddr 2 (.t 1)), none, []⟩,
    ⟨(some 5), (.load none (.t 4)), none, []⟩,
    ⟨(some 6), (.conv .i64 (.t 5)), none, []⟩,
    ⟨(some 7), (.fieldAddr 4 (.t 1)), none, []⟩,
    ⟨(some 8), (.load none (.t 7)), none, []⟩,
    ⟨(some 9), (.lenSlice (.t 8)), none, []⟩,
    ⟨(some 10), (.bin .add (.c (.int .i64 8)) (.t 9)), none, []⟩,
    ⟨(some 11), (.bin .neq (.t 6) (.t 10)), none, []⟩] none)
  (.cond (.t 11)
  (.seq (.region [⟨(some 2), (.mov (.c (.slice none 0 0))), none, []⟩,
    ⟨(some 3), (.mov (.c (.int .i64 1))), none, []⟩] none)
  .ret)
  .skip))
  (.seq R17_0
  .ret)))
def F17 : AFunc := ⟨1, 27, [(.tmp 2), (.tmp 3)], B17⟩
/-- toll/tollref07.UdpBytes -/
def B18 : ACode := (.seq (.region [⟨(some 1), (.box 47 (.t 0)), none, []⟩,
    ⟨(some 2), (.mov (.c (.slice none 0 0))), none, []⟩,
    ⟨(some 3), (.mov (.c (.int .i64 0))), none, []⟩] none)
  (.seq (.seq (.region [⟨(some 5), (.fieldAddr 2 (.t 1)), none, []⟩,
    ⟨(some 6), (.load none (.t 5)), none, []⟩,
    ⟨(some 7), (.fieldAddr 4 (.t 1)), none, []⟩,
    ⟨(some 8), (.load none (.t 7)), none, []⟩,
    ⟨(some 9), (.lenSlice (.t 8)), none, []⟩,
    ⟨(some 10), (.bin .add (.c (.int .i64 8)) (.t 9)), none, []⟩,
    ⟨(some 11), (.bin .neq (.t 6) (.t 10)), none, []⟩] none)
  (.cond (.t 11)
  (.seq (.region [⟨(some 2), (.mov (.c (.slice none 0 0))), none, []⟩,
    ⟨(some 3), (.mov (.c (.int .i64 1))), none, []⟩] none)
  .ret)
  .skip))
  (.seq (.region [⟨(some 4), (.mov (.c (.slice none 0 0))), none, []⟩] none)
  (.seq (.region [⟨(some 12), (.mov (.t 4)), none, []⟩,
    ⟨(some 13), (.fieldAddr 0 (.t 1)), none, []⟩,
    ⟨(some 14), (.load none (.t 13)), none, []⟩,
    ⟨(some 15), (.call (.f 46) [(.t 12), (.t 14)]), none, []⟩,
    ⟨(some 4), (.mov (.t 15)), none, []⟩] none)
  (.seq (.region [⟨(some 16), (.mov (.t 4)), none, []⟩,
    ⟨(some 17), (.fieldAddr 1 (.t 1)), none, []⟩,
    ⟨(some 18), (.load none (.t 17)), none, []⟩,
    ⟨(some 19), (.call (.f 46) [(.t 16), (.t 18)]), none, []⟩,
    ⟨(some 4), (.mov (.t 19)), none, []⟩] none)
  (.seq (.region [⟨(some 20), (.mov (.t 4)), none, []⟩,
    ⟨(some 21), (.fieldAddr 2 (.t 1)), none, []⟩,
    ⟨(some 22), (.load none (.t 21)), none, []⟩,
    ⟨(some 23), (.call (.f 46) [(.t 20), (.t 22)]), none, []⟩,
    ⟨(some 4), (.mov (.t 23)), none, []⟩] none)
  (.seq (.region [⟨(some 24), (.mov (.t 4)), none, []⟩,
    ⟨(some 25), (.fieldAddr 3 (.t 1)), none, []⟩,
    ⟨(some 26), (.load none (.t 25)), none, []⟩,
    ⟨(some 27), (.call (.f 46) [(.t 24), (.t 26)]), none, []⟩,
    ⟨(some 4), (.mov (.t 27)), none, []⟩] none)
  (.seq (.region [⟨(some 28), (.mov (.t 4)), none, []⟩,
    ⟨(some 29), (.fieldAddr 4 (.t 1)), none, []⟩,
    ⟨(some 30), (.load none (.t 29)), none, []⟩,
    ⟨(some 31), (.append 5 1 1 (.t 28) (.t 30)), none, []⟩,
    ⟨(some 2), (.mov (.t 31)), none, []⟩,
    ⟨(some 3), (.mov (.c (.int .i64 0))), none, []⟩] none)
  .ret))))))))
def F18 : AFunc := ⟨1, 32, [(.tmp 2), (.tmp 3)], B18⟩
/-- toll/tolllaw07.ofUdp -/
def B19 : ACode := (.seq (.region [⟨(some 1), (.box 37 (.t 0)), none, []⟩,
    ⟨(some 2), (.alloc 47 [(.int .i64 0), (.int .i64 0), (.int .i64 0), (.int .i64 0), (.slice none 0 0)]), none, []⟩] none)
  (.seq (.region [⟨(some 3), (.fieldAddr 0 (.t 1)), none, []⟩,
    ⟨(some 4), (.load none (.t 3)), none, []⟩,
    ⟨(some 5), (.conv .i64 (.t 4)), none, []⟩,
    ⟨(some 6), (.fieldAddr 1 (.t 1)), none, []⟩,
    ⟨(some 7), (.load none (.t 6)), none, []⟩,
    ⟨(some 8), (.conv .i64 (.t 7)), none, []⟩,
    ⟨(some 9), (.fieldAddr 2 (.t 1)), none, []⟩,
    ⟨(some 10), (.load none (.t 9)), none, []⟩,
    ⟨(some 11), (.conv .i64 (.t 10)), none, []⟩,
    ⟨(some 12), (.fieldAddr 3 (.t 1)), none, []⟩,
    ⟨(some 13), (.load none (.t 12)), none, []⟩,
    ⟨(some 14), (.conv .i64 (.t 13)), none, []⟩,
    ⟨(some 15), (.fieldAddr 4 (.t 1)), none, []⟩,
    ⟨(some 16), (.load none (.t 15)), none, []⟩,
    ⟨(some 17), (.build [(.int .i64 0), (.int .i64 0), (.int .i64 0), (.int .i64 0), (.slice none 0 0)] [(0, 1, (.t 5)), (1, 1, (.t 8)), (2, 1, (.t 11)), (3, 1, (.t 14)), (4, 1, (.t 16))]), none, []⟩,
    ⟨none, (.store 5 (.t 2) (.t 17)), none, []⟩] none)
  .ret))
def F19 : AFunc := ⟨1, 18, [(.cell 2 (some 5))], B19⟩
def R20_0 : ACode := .region [⟨(some 35), (.mov (.t 4)), none, []⟩,
    ⟨(some 36), (.mov (.t 9)), none, []⟩,
    ⟨(some 37), (.indexAddr 1 (.t 35) (.t 36)), none, [0, 1]⟩,
    ⟨(some 38), (.load none (.t 37)), none, [2]⟩,
    ⟨(some 39), (.mov (.t 0)), none, []⟩,
    ⟨(some 40), (.mov (.t 6)), none, []⟩,
    ⟨(some 41), (.mov (.t 7)), none, []⟩,
    ⟨(some 42), (.sliceStr (.t 39) (some (.t 40)) (some (.t 41))), none, [4, 5, 6]⟩,
    ⟨(some 43), (.bin .eql (.t 38) (.t 42)), none, [3, 7]⟩] (some [(0, 1), (0, 4), (1, 4), (2, 4), (3, 4), (0, 5), (1, 5), (2, 5), (3, 5), (4, 5), (0, 6), (1, 6), (2, 6), (3, 6), (4, 6), (5, 6), (0, 7), (1, 7), (2, 7), (3, 7)])
/-- toll/tollref07.Parse -/
def F20L0 : ACode := (.seq (.seq (.region [⟨(some 31), (.mov (.t 9)), none, []⟩,
    ⟨(some 32), (.bin .lss (.t 31) (.c (.int .i64 8))), none, []⟩] none)
  (.cond (.t 32)
  .skip
  (.exit 2)))
  (.seq (.block 3 (.seq R20_0
  (.cond (.t 43)
  (.region [⟨(some 44), (.mov (.t 9)), none, []⟩,
    ⟨(some 8), (.mov (.t 44)), none, []⟩] none)
  .skip)))
  (.region [⟨(some 33), (.mov (.t 9)), none, []⟩,
    ⟨(some 34), (.bin .add (.t 33) (.c (.int .i64 1))), none, []⟩,
    ⟨(some 9), (.mov (.t 34)), none, []⟩] none)))
def F20L1 : ACode := (.seq (.seq (.region [⟨(some 15), (.mov (.t 7)), none, []⟩,
    ⟨(some 16), (.mov (.t 0)), none, []⟩,
    ⟨(some 17), (.lenStr (.t 16)), none, []⟩,
    ⟨(some 18), (.bin .leq (.t 15) (.t 17)), none, []⟩] none)
  (.cond (.t 18)
  .skip
  (.exit 0)))
  (.seq (.block 1 (.seq (.seq (.region [⟨(some 21), (.mov (.t 7)), none, []⟩,
    ⟨(some 22), (.mov (.t 0)), none, []⟩,
    ⟨(some 23), (.lenStr (.t 22)), none, []⟩,
    ⟨(some 24), (.bin .lss (.t 21) (.t 23)), none, []⟩,
    ⟨(some 25), (.mov (.t 24)), none, []⟩,
    ⟨(some 26), (.mov (.t 0)), (some (25, true)), []⟩,
    ⟨(some 27), (.mov (.t 7)), (some (25, true)), []⟩,
    ⟨(some 28), (.indexStr (.t 26) (.t 27)), (some (25, true)), []⟩,
    ⟨(some 29), (.bin .neq (.t 28) (.c (.int .u8 44))), (some (25, true)), []⟩,
    ⟨(some 30), (.pick (.t 25) (.t 29) (.c (.bool false))), none, []⟩] none)
  (.cond (.t 30)
  (.exit 1)
  .skip))
  (.seq (.region [⟨(some 8), (.mov (.c (.int .i64 (-1)))), none, []⟩] none)
  (.seq (.seq (.region [⟨(some 9), (.mov (.c (.int .i64 0))), none, []⟩] none)
  (.block 2 (.loop F20L0)))
  (.seq (.seq (.region [⟨(some 45), (.mov (.t 8)), none, []⟩,
    ⟨(some 46), (.bin .lss (.t 45) (.c (.int .i64 0))), none, []⟩] none)
  (.cond (.t 46)
  (.seq (.region [⟨(some 2), (.mov (.c (.int .i64 0))), none, []⟩,
    ⟨(some 3), (.mov (.c (.int .i64 23))), none, []⟩] none)
  .ret)
  .skip))
  (.seq (.region [⟨(some 47), (.mov (.t 8)), none, []⟩,
    ⟨(some 48), (.indexArr 1 8 (.t 5) (.t 47)), none, []⟩,
    ⟨(some 49), (.load none (.t 48)), none, []⟩,
    ⟨(some 50), (.bin .add (.t 49) (.c (.int .i64 1))), none, []⟩,
    ⟨(some 51), (.indexArr 1 8 (.t 5) (.t 47)), none, []⟩,
    ⟨none, (.store 1 (.t 51) (.t 50)), none, []⟩] none)
  (.region [⟨(some 52), (.mov (.t 7)), none, []⟩,
    ⟨(some 53), (.bin .add (.t 52) (.c (.int .i64 1))), none, []⟩,
    ⟨(some 6), (.mov (.t 53)), none, []⟩] none)))))))
  (.region [⟨(some 19), (.mov (.t 7)), none, []⟩,
    ⟨(some 20), (.bin .add (.t 19) (.c (.int .i64 1))), none, []⟩,
    ⟨(some 7), (.mov (.t 20)), none, []⟩] none)))
def F20L2 : ACode := (.seq (.seq (.region [⟨(some 54), (.mov (.t 11)), none, []⟩,
    ⟨(some 55), (.bin .geq (.t 54) (.c (.int .i64 0))), none, []⟩] none)
  (.cond (.t 55)
  .skip
  (.exit 4)))
  (.seq (.block 5 (.seq (.seq (.region [⟨(some 58), (.mov (.t 11)), none, []⟩,
    ⟨(some 59), (.indexArr 1 8 (.t 5) (.t 58)), none, []⟩,
    ⟨(some 60), (.load none (.t 59)), none, []⟩,
    ⟨(some 61), (.bin .gtr (.t 60) (.c (.int .i64 1))), none, []⟩] none)
  (.cond (.t 61)
  (.seq (.region [⟨(some 2), (.mov (.c (.int .i64 0))), none, []⟩,
    ⟨(some 3), (.mov (.c (.int .i64 9))), none, []⟩] none)
  .ret)
  .skip))
  (.region [⟨(some 62), (.mov (.t 10)), none, []⟩,
    ⟨(some 63), (.bin .mul (.c (.int .i64 2)) (.t 62)), none, []⟩,
    ⟨(some 64), (.mov (.t 11)), none, []⟩,
    ⟨(some 65), (.indexArr 1 8 (.t 5) (.t 64)), none, []⟩,
    ⟨(some 66), (.load none (.t 65)), none, []⟩,
    ⟨(some 67), (.bin .add (.t 63) (.t 66)), none, []⟩,
    ⟨(some 10), (.mov (.t 67)), none, []⟩] none)))
  (.region [⟨(some 56), (.mov (.t 11)), none, []⟩,
    ⟨(some 57), (.bin .sub (.t 56) (.c (.int .i64 1))), none, []⟩,
    ⟨(some 11), (.mov (.t 57)), none, []⟩] none)))
def B20 : ACode := (.seq (.region [⟨(some 2), (.mov (.c (.int .i64 0))), none, []⟩,
    ⟨(some 3), (.mov (.c (.int .i64 0))), none, []⟩] none)
  (.seq (.seq (.region [⟨(some 12), (.mov (.t 0)), none, []⟩,
    ⟨(some 13), (.bin .eql (.t 12) (.c (.string ⟨#[45]⟩))), none, []⟩] none)
  (.cond (.t 13)
  (.seq (.region [⟨(some 2), (.mov (.c (.int .i64 0))), none, []⟩,
    ⟨(some 3), (.mov (.c (.int .i64 0))), none, []⟩] none)
  .ret)
  .skip))
  (.seq (.region [⟨(some 14), (.call (.f 47) []), none, []⟩,
    ⟨(some 4), (.mov (.t 14)), none, []⟩] none)
  (.seq (.region [⟨(some 5), (.alloc 101 [(.int .i64 0), (.int .i64 0), (.int .i64 0), (.int .i64 0), (.int .i64 0), (.int .i64 0), (.int .i64 0), (.int .i64 0)]), none, []⟩] none)
  (.seq (.region [⟨(some 6), (.mov (.c (.int .i64 0))), none, []⟩] none)
  (.seq (.seq (.region [⟨(some 7), (.mov (.c (.int .i64 0))), none, []⟩] none)
  (.block 0 (.loop F20L1)))
  (.seq (.region [⟨(some 10), (.mov (.c (.int .i64 0))), none, []⟩] none)
  (.seq (.seq (.region [⟨(some 11), (.mov (.c (.int .i64 7))), none, []⟩] none)
  (.block 4 (.loop F20L2)))
  (.seq (.region [⟨(some 68), (.mov (.t 10)), none, []⟩,
    ⟨(some 2), (.mov (.t 68)), none, []⟩,
    ⟨(some 3), (.mov (.c (.int .i64 0))), none, []⟩] none)
  .ret)))))))))
def F20 : AFunc := ⟨1, 69, [(.tmp 2), (.tmp 3)], B20⟩
-- F20L0 live: [0, 4, 5, 6, 7, 8, 9]

-- F20L1 live: [0, 4, 5, 6, 7]

-- F20L2 live: [5, 10, 11]
/-- bytes.Equal -/
def B21 : ACode := (.seq (.region [⟨(some 4), (.mov (.c (.bool false))), none, []⟩] none)
  (.seq (.region [⟨(some 5), (.mov (.t 0)), none, []⟩,
    ⟨(some 6), (.strOf (.t 5)), none, []⟩,
    ⟨(some 7), (.mov (.t 1)), none, []⟩,
    ⟨(some 8), (.strOf (.t 7)), none, []⟩,
    ⟨(some 9), (.bin .eql (.t 6) (.t 8)), none, []⟩,
    ⟨(some 4), (.mov (.t 9)), none, []⟩] none)
  .ret))
def F21 : AFunc := ⟨2, 10, [(.tmp 4)], B21⟩
/-- toll/tollref07.Text -/
def F22L0 : ACode := (.seq (.seq (.region [⟨(some 7), (.mov (.t 5)), none, []⟩,
    ⟨(some 8), (.bin .lss (.t 7) (.c (.int .i64 8))), none, []⟩] none)
  (.cond (.t 8)
  .skip
  (.exit 0)))
  (.seq (.block 1 (.seq (.seq (.region [⟨(some 11), (.mov (.t 0)), none, []⟩,
    ⟨(some 12), (.bin .rem (.t 11) (.c (.int .i64 2))), none, []⟩,
    ⟨(some 13), (.bin .eql (.t 12) (.c (.int .i64 1))), none, []⟩] none)
  (.cond (.t 13)
  (.seq (.seq (.region [⟨(some 14), (.mov (.t 3)), none, []⟩,
    ⟨(some 15), (.bin .neq (.t 14) (.c (.string ⟨#[]⟩))), none, []⟩] none)
  (.cond (.t 15)
  (.region [⟨(some 16), (.mov (.t 3)), none, []⟩,
    ⟨(some 17), (.bin .add (.t 16) (.c (.string ⟨#[44]⟩))), none, []⟩,
    ⟨(some 3), (.mov (.t 17)), none, []⟩] none)
  .skip))
  (.region [⟨(some 18), (.mov (.t 3)), none, []⟩,
    ⟨(some 19), (.mov (.t 4)), none, []⟩,
    ⟨(some 20), (.mov (.t 5)), none, []⟩,
    ⟨(some 21), (.indexAddr 1 (.t 19) (.t 20)), none, []⟩,
    ⟨(some 22), (.load none (.t 21)), none, []⟩,
    ⟨(some 23), (.bin .add (.t 18) (.t 22)), none, []⟩,
    ⟨(some 3), (.mov (.t 23)), none, []⟩] none))
  .skip))
  (.region [⟨(some 24), (.mov (.t 0)), none, []⟩,
    ⟨(some 25), (.bin .quo (.t 24) (.c (.int .i64 2))), none, []⟩,
    ⟨(some 0), (.mov (.t 25)), none, []⟩] none)))
  (.region [⟨(some 9), (.mov (.t 5)), none, []⟩,
    ⟨(some 10), (.bin .add (.t 9) (.c (.int .i64 1))), none, []⟩,
    ⟨(some 5), (.mov (.t 10)), none, []⟩] none)))
def B22 : ACode := (.seq (.region [⟨(some 2), (.mov (.c (.string ⟨#[]⟩))), none, []⟩] none)
  (.seq (.region [⟨(some 3), (.mov (.c (.string ⟨#[]⟩))), none, []⟩] none)
  (.seq (.region [⟨(some 6), (.call (.f 47) []), none, []⟩,
    ⟨(some 4), (.mov (.t 6)), none, []⟩] none)
  (.seq (.seq (.region [⟨(some 5), (.mov (.c (.int .i64 0))), none, []⟩] none)
  (.block 0 (.loop F22L0)))
  (.seq (.seq (.region [⟨(some 26), (.mov (.t 3)), none, []⟩,
    ⟨(some 27), (.bin .eql (.t 26) (.c (.string ⟨#[]⟩))), none, []⟩] none)
  (.cond (.t 27)
  (.seq (.region [⟨(some 2), (.mov (.c (.string ⟨#[45]⟩))), none, []⟩] none)
  .ret)
  .skip))
  (.seq (.region [⟨(some 28), (.mov (.t 3)), none, []⟩,
    ⟨(some 2), (.mov (.t 28)), none, []⟩] none)
  .ret))))))
def F22 : AFunc := ⟨1, 29, [(.tmp 2)], B22⟩
-- F22L0 live: [0, 3, 4, 5]
/-- toll/trans.GetTcp -/
def B23 : ACode := (.seq (.region [⟨(some 2), (.alloc 35 [(.int .u16 0), (.int .u16 0), (.int .u32 0), (.int .u32 0), (.int .u8 0), (.int .u8 0), (.int .u16 0), (.int .u16 0), (.int .u16 0), (.slice none 0 0), (.slice none 0 0)]), none, []⟩,
    ⟨(some 3), (.mov (.c (.int .i64 0))), none, []⟩] none)
  (.seq (.region [⟨(some 8), (.mov (.t 0)), none, []⟩,
    ⟨(some 9), (.call (.f 48) [(.t 8)]), none, []⟩,
    ⟨(some 4), (.mov (.t 9)), none, []⟩] none)
  (.seq (.region [⟨(some 10), (.mov (.t 4)), none, []⟩,
    ⟨(some 11), (.call (.f 49) [(.t 10)]), none, []⟩,
    ⟨(some 12), (.mov (.t 4)), none, []⟩,
    ⟨(some 13), (.call (.f 49) [(.t 12)]), none, []⟩,
    ⟨(some 14), (.mov (.t 4)), none, []⟩,
    ⟨(some 15), (.call (.f 50) [(.t 14)]), none, []⟩,
    ⟨(some 16), (.mov (.t 4)), none, []⟩,
    ⟨(some 17), (.call (.f 50) [(.t 16)]), none, []⟩,
    ⟨(some 18), (.build [(.int .u16 0), (.int .u16 0), (.int .u32 0), (.int .u32 0), (.int .u8 0), (.int .u8 0), (.int .u16 0), (.int .u16 0), (.int .u16 0), (.slice none 0 0), (.slice none 0 0)] [(0, 1, (.t 11)), (1, 1, (.t 13)), (2, 1, (.t 15)), (3, 1, (.t 17))]), none, []⟩,
    ⟨(some 5), (.alloc 35 [(.int .u16 0), (.int .u16 0), (.int .u32 0), (.int .u32 0), (.int .u8 0), (.int .u8 0), (.int .u16 0), (.int .u16 0), (.int .u16 0), (.slice none 0 0), (.slice none 0 0)]), none, []⟩,
    ⟨none, (.store 11 (.t 5) (.t 18)), none, []⟩] none)
  (.seq (.region [⟨(some 19), (.mov (.t 4)), none, []⟩,
    ⟨(some 20), (.call (.f 51) [(.t 19)]), none, []⟩,
    ⟨(some 21), (.conv .i64 (.t 20)), none, []⟩,
    ⟨(some 6), (.mov (.t 21)), none, []⟩] none)
  (.seq (.region [⟨(some 22), (.mov (.t 6)), none, []⟩,
    ⟨(some 23), (.bin .and (.t 22) (.c (.int .i64 15))), none, []⟩,
    ⟨(some 24), (.conv .u8 (.t 23)), none, []⟩,
    ⟨(some 25), (.fieldAddr 4 (.t 5)), none, []⟩,
    ⟨none, (.store 1 (.t 25) (.t 24)), none, []⟩] none)
  (.seq (.region [⟨(some 26), (.mov (.t 4)), none, []⟩,
    ⟨(some 27), (.call (.f 51) [(.t 26)]), none, []⟩,
    ⟨(some 28), (.mov (.t 4)), none, []⟩,
    ⟨(some 29), (.call (.f 49) [(.t 28)]), none, []⟩,
    ⟨(some 30), (.mov (.t 4)), none, []⟩,
    ⟨(some 31), (.call (.f 49) [(.t 30)]), none, []⟩,
    ⟨(some 32), (.mov (.t 4)), none, []⟩,
    ⟨(some 33), (.call (.f 49) [(.t 32)]), none, []⟩,
    ⟨(some 34), (.fieldAddr 5 (.t 5)), none, []⟩,
    ⟨none, (.store 1 (.t 34) (.t 27)), none, []⟩,
    ⟨(some 35), (.fieldAddr 6 (.t 5)), none, []⟩,
    ⟨none, (.store 1 (.t 35) (.t 29)), none, []⟩,
    ⟨(some 36), (.fieldAddr 7 (.t 5)), none, []⟩,
    ⟨none, (.store 1 (.t 36) (.t 31)), none, []⟩,
    ⟨(some 37), (.fieldAddr 8 (.t 5)), none, []⟩,
    ⟨none, (.store 1 (.t 37) (.t 33)), none, []⟩] none)
  (.seq (.seq (.region [⟨(some 38), (.mov (.t 6)), none, []⟩,
    ⟨(some 39), (.bin .shr (.t 38) (.c (.int .u64 4))), none, []⟩,
    ⟨(some 6), (.mov (.t 39)), none, []⟩] none)
  (.seq (.region [⟨(some 40), (.mov (.t 4)), none, []⟩,
    ⟨(some 41), (.call (.f 52) [(.t 40)]), none, []⟩,
    ⟨(some 42), (.bin .eql (.t 41) (.c (.int .i64 0))), none, []⟩,
    ⟨(some 43), (.mov (.t 42)), none, []⟩,
    ⟨(some 44), (.mov (.t 6)), (some (43, true)), []⟩,
    ⟨(some 45), (.bin .lss (.t 44) (.c (.int .i64 5))), (some (43, true)), []⟩,
    ⟨(some 46), (.pick (.t 43) (.t 45) (.c (.bool false))), none, []⟩] none)
  (.cond (.t 46)
  (.region [⟨(some 47), (.mov (.t 4)), none, []⟩,
    ⟨(some 48), (.call (.f 53) [(.t 47), (.c (.int .i64 5))]), none, []⟩] none)
  .skip)))
  (.seq (.region [⟨(some 49), (.mov (.t 4)), none, []⟩,
    ⟨(some 50), (.mov (.t 6)), none, []⟩,
    ⟨(some 51), (.bin .sub (.t 50) (.c (.int .i64 5))), none, []⟩,
    ⟨(some 52), (.max [(.t 51), (.c (.int .i64 0))]), none, []⟩,
    ⟨(some 53), (.bin .mul (.t 52) (.c (.int .i64 4))), none, []⟩,
    ⟨(some 54), (.call (.f 54) [(.t 49), (.t 53)]), none, []⟩,
    ⟨(some 55), (.fieldAddr 9 (.t 5)), none, []⟩,
    ⟨none, (.store 1 (.t 55) (.t 54)), none, []⟩] none)
  (.seq (.region [⟨(some 56), (.mov (.t 4)), none, []⟩,
    ⟨(some 57), (.call (.f 55) [(.t 56)]), none, []⟩,
    ⟨(some 58), (.fieldAddr 10 (.t 5)), none, []⟩,
    ⟨none, (.store 1 (.t 58) (.t 57)), none, []⟩] none)
  (.seq (.seq (.region [⟨(some 59), (.mov (.t 4)), none, []⟩,
    ⟨(some 60), (.call (.f 52) [(.t 59)]), none, []⟩,
    ⟨(some 7), (.mov (.t 60)), none, []⟩] none)
  (.seq (.region [⟨(some 61), (.mov (.t 7)), none, []⟩,
    ⟨(some 62), (.bin .neq (.t 61) (.c (.int .i64 0))), none, []⟩] none)
  (.cond (.t 62)
  (.seq (.region [⟨(some 63), (.build [(.int .u16 0), (.int .u16 0), (.int .u32 0), (.int .u32 0), (.int .u8 0), (.int .u8 0), (.int .u16 0), (.int .u16 0), (.int .u16 0), (.slice none 0 0), (.slice none 0 0)] []), none, []⟩,
    ⟨(some 64), (.mov (.t 7)), none, []⟩,
    ⟨none, (.store 11 (.t 2) (.t 63)), none, []⟩,
    ⟨(some 3), (.mov (.t 64)), none, []⟩] none)
  .ret)
  .skip)))
  (.seq (.region [⟨(some 65), (.load (some 11) (.t 5)), none, []⟩,
    ⟨none, (.store 11 (.t 2) (.t 65)), none, []⟩,
    ⟨(some 3), (.mov (.c (.int .i64 0))), none, []⟩] none)
  .ret)))))))))))
def F23 : AFunc := ⟨1, 66, [(.cell 2 (some 11)), (.tmp 3)], B23⟩
/-- toll/trans.GetUdp -/
def B24 : ACode := (.seq (.region [⟨(some 2), (.alloc 37 [(.int .u16 0), (.int .u16 0), (.int .u16 0), (.int .u16 0), (.slice none 0 0)]), none, []⟩,
    ⟨(some 3), (.mov (.c (.int .i64 0))), none, []⟩] none)
  (.seq (.region [⟨(some 7), (.mov (.t 0)), none, []⟩,
    ⟨(some 8), (.call (.f 48) [(.t 7)]), none, []⟩,
    ⟨(some 4), (.mov (.t 8)), none, []⟩] none)
  (.seq (.region [⟨(some 9), (.mov (.t 4)), none, []⟩,
    ⟨(some 10), (.call (.f 49) [(.t 9)]), none, []⟩,
    ⟨(some 11), (.mov (.t 4)), none, []⟩,
    ⟨(some 12), (.call (.f 49) [(.t 11)]), none, []⟩,
    ⟨(some 13), (.mov (.t 4)), none, []⟩,
    ⟨(some 14), (.call (.f 49) [(.t 13)]), none, []⟩,
    ⟨(some 15), (.mov (.t 4)), none, []⟩,
    ⟨(some 16), (.call (.f 49) [(.t 15)]), none, []⟩,
    ⟨(some 17), (.build [(.int .u16 0), (.int .u16 0), (.int .u16 0), (.int .u16 0), (.slice none 0 0)] [(0, 1, (.t 10)), (1, 1, (.t 12)), (2, 1, (.t 14)), (3, 1, (.t 16))]), none, []⟩,
    ⟨(some 5), (.alloc 37 [(.int .u16 0), (.int .u16 0), (.int .u16 0), (.int .u16 0), (.slice none 0 0)]), none, []⟩,
    ⟨none, (.store 5 (.t 5) (.t 17)), none, []⟩] none)
  (.seq (.seq (.region [⟨(some 18), (.mov (.t 4)), none, []⟩,
    ⟨(some 19), (.call (.f 52) [(.t 18)]), none, []⟩,
    ⟨(some 20), (.bin .eql (.t 19) (.c (.int .i64 0))), none, []⟩,
    ⟨(some 21), (.mov (.t 20)), none, []⟩,
    ⟨(some 22), (.fieldAddr 2 (.t 5)), (some (21, true)), []⟩,
    ⟨(some 23), (.load none (.t 22)), (some (21, true)), []⟩,
    ⟨(some 24), (.bin .lss (.t 23) (.c (.int .u16 8))), (some (21, true)), []⟩,
    ⟨(some 25), (.pick (.t 21) (.t 24) (.c (.bool false))), none, []⟩] none)
  (.cond (.t 25)
  (.region [⟨(some 26), (.mov (.t 4)), none, []⟩,
    ⟨(some 27), (.call (.f 53) [(.t 26), (.c (.int .i64 5))]), none, []⟩] none)
  .skip))
  (.seq (.region [⟨(some 28), (.mov (.t 4)), none, []⟩,
    ⟨(some 29), (.fieldAddr 2 (.t 5)), none, []⟩,
    ⟨(some 30), (.load none (.t 29)), none, []⟩,
    ⟨(some 31), (.conv .i64 (.t 30)), none, []⟩,
    ⟨(some 32), (.bin .sub (.t 31) (.c (.int .i64 8))), none, []⟩,
    ⟨(some 33), (.max [(.t 32), (.c (.int .i64 0))]), none, []⟩,
    ⟨(some 34), (.call (.f 54) [(.t 28), (.t 33)]), none, []⟩,
    ⟨(some 35), (.fieldAddr 4 (.t 5)), none, []⟩,
    ⟨none, (.store 1 (.t 35) (.t 34)), none, []⟩] none)
  (.seq (.seq (.region [⟨(some 36), (.mov (.t 4)), none, []⟩,
    ⟨(some 37), (.call (.f 52) [(.t 36)]), none, []⟩,
    ⟨(some 6), (.mov (.t 37)), none, []⟩] none)
  (.seq (.region [⟨(some 38), (.mov (.t 6)), none, []⟩,
    ⟨(some 39), (.bin .neq (.t 38) (.c (.int .i64 0))), none, []⟩] none)
  (.cond (.t 39)
  (.seq (.region [⟨(some 40), (.build [(.int .u16 0), (.int .u16 0), (.int .u16 0), (.int .u16 0), (.slice none 0 0)] []), none, []⟩,
    ⟨(some 41), (.mov (.t 6)), none, []⟩,
    ⟨none, (.store 5 (.t 2) (.t 40)), none, []⟩,
    ⟨(some 3), (.mov (.t 41)), none, []⟩] none)
  .ret)
  .skip)))
  (.seq (.region [⟨(some 42), (.load (some 5) (.t 5)), none, []⟩,
    ⟨none, (.store 5 (.t 2) (.t 42)), none, []⟩,
    ⟨(some 3), (.mov (.c (.int .i64 0))), none, []⟩] none)
  .ret)))))))
def F24 : AFunc := ⟨1, 43, [(.cell 2 (some 5)), (.tmp 3)], B24⟩
/-- bytes.Clone -/
def B25 : ACode := (.seq (.region [⟨(some 2), (.mov (.c (.slice none 0 0))), none, []⟩] none)
  (.seq (.seq (.region [⟨(some 3), (.mov (.t 0)), none, []⟩,
    ⟨(some 4), (.eqv false .slice false (.t 3) (.c (.slice none 0 0))), none, []⟩] none)
  (.cond (.t 4)
  (.seq (.region [⟨(some 2), (.mov (.c (.slice none 0 0))), none, []⟩] none)
  .ret)
  .skip))
  (.seq (.region [⟨(some 5), (.buildSlice 5 1 0 [(.int .u8 0)] []), none, []⟩,
    ⟨(some 6), (.mov (.t 0)), none, []⟩,
    ⟨(some 7), (.append 5 1 1 (.t 5) (.t 6)), none, []⟩,
    ⟨(some 2), (.mov (.t 7)), none, []⟩] none)
  .ret)))
def F25 : AFunc := ⟨1, 8, [(.tmp 2)], B25⟩
/-- toll/tolllaw07.same -/
def B26 : ACode := (.seq (.region [⟨(some 2), (.box 43 (.t 0)), none, []⟩,
    ⟨(some 3), (.box 43 (.t 1)), none, []⟩,
    ⟨(some 4), (.mov (.c (.bool false))), none, []⟩] none)
  (.seq (.region [⟨(some 6), (.fieldAddr 0 (.t 2)), none, []⟩,
    ⟨(some 7), (.load none (.t 6)), none, []⟩,
    ⟨(some 8), (.fieldAddr 0 (.t 3)), none, []⟩,
    ⟨(some 9), (.load none (.t 8)), none, []⟩,
    ⟨(some 10), (.bin .eql (.t 7) (.t 9)), none, []⟩,
    ⟨(some 11), (.mov (.t 10)), none, []⟩,
    ⟨(some 12), (.fieldAddr 1 (.t 2)), (some (11, true)), []⟩,
    ⟨(some 13), (.load none (.t 12)), (some (11, true)), []⟩,
    ⟨(some 14), (.fieldAddr 1 (.t 3)), (some (11, true)), []⟩,
    ⟨(some 15), (.load none (.t 14)), (some (11, true)), []⟩,
    ⟨(some 16), (.bin .eql (.t 13) (.t 15)), (some (11, true)), []⟩,
    ⟨(some 17), (.pick (.t 11) (.t 16) (.c (.bool false))), none, []⟩,
    ⟨(some 18), (.mov (.t 17)), none, []⟩,
    ⟨(some 19), (.fieldAddr 2 (.t 2)), (some (18, true)), []⟩,
    ⟨(some 20), (.load none (.t 19)), (some (18, true)), []⟩,
    ⟨(some 21), (.fieldAddr 2 (.t 3)), (some (18, true)), []⟩,
    ⟨(some 22), (.load none (.t 21)), (some (18, true)), []⟩,
    ⟨(some 23), (.bin .eql (.t 20) (.t 22)), (some (18, true)), []⟩,
    ⟨(some 24), (.pick (.t 18) (.t 23) (.c (.bool false))), none, []⟩,
    ⟨(some 25), (.mov (.t 24)), none, []⟩,
    ⟨(some 26), (.fieldAddr 3 (.t 2)), (some (25, true)), []⟩,
    ⟨(some 27), (.load none (.t 26)), (some (25, true)), []⟩,
    ⟨(some 28), (.fieldAddr 3 (.t 3)), (some (25, true)), []⟩,
    ⟨(some 29), (.load none (.t 28)), (some (25, true)), []⟩,
    ⟨(some 30), (.bin .eql (.t 27) (.t 29)), (some (25, true)), []⟩,
    ⟨(some 31), (.pick (.t 25) (.t 30) (.c (.bool false))), none, []⟩,
    ⟨(some 32), (.mov (.t 31)), none, []⟩,
    ⟨(some 33), (.fieldAddr 4 (.t 2)), (some (32, true)), []⟩,
    ⟨(some 34), (.load none (.t 33)), (some (32, true)), []⟩,
    ⟨(some 35), (.fieldAddr 4 (.t 3)), (some (32, true)), []⟩,
    ⟨(some 36), (.load none (.t 35)), (some (32, true)), []⟩,
    ⟨(some 37), (.bin .eql (.t 34) (.t 36)), (some (32, true)), []⟩,
    ⟨(some 38), (.pick (.t 32) (.t 37) (.c (.bool false))), none, []⟩,
    ⟨(some 39), (.mov (.t 38)), none, []⟩,
    ⟨(some 40), (.fieldAddr 5 (.t 2)), (some (39, true)), []⟩,
    ⟨(some 41), (.load none (.t 40)), (some (39, true)), []⟩,
    ⟨(some 42), (.fieldAddr 5 (.t 3)), (some (39, true)), []⟩,
    ⟨(some 43), (.load none (.t 42)), (some (39, true)), []⟩,
    ⟨(some 44), (.bin .eql (.t 41) (.t 43)), (some (39, true)), []⟩,
    ⟨(some 45), (.pick (.t 39) (.t 44) (.c (.bool false))), none, []⟩,
    ⟨(some 46), (.mov (.t 45)), none, []⟩,
    ⟨(some 47), (.fieldAddr 6 (.t 2)), (some (46, true)), []⟩,
    ⟨(some 48), (.load none (.t 47)), (some (46, true)), []⟩,
    ⟨(some 49), (.fieldAddr 6 (.t 3)), (some (46, true)), []⟩,
    ⟨(some 50), (.load none (.t 49)), (some (46, true)), []⟩,
    ⟨(some 51), (.bin .eql (.t 48) (.t 50)), (some (46, true)), []⟩,
    ⟨(some 52), (.pick (.t 46) (.t 51) (.c (.bool false))), none, []⟩,
    ⟨(some 5), (.mov (.t 52)), none, []⟩] none)
  (.seq (.region [⟨(some 53), (.mov (.t 5)), none, []⟩,
    ⟨(some 54), (.mov (.t 53)), none, []⟩,
    ⟨(some 55), (.fieldAddr 7 (.t 2)), (some (54, true)), []⟩,
    ⟨(some 56), (.load none (.t 55)), (some (54, true)), []⟩,
    ⟨(some 57), (.fieldAddr 7 (.t 3)), (some (54, true)), []⟩,
    ⟨(some 58), (.load none (.t 57)), (some (54, true)), []⟩,
    ⟨(some 59), (.bin .eql (.t 56) (.t 58)), (some (54, true)), []⟩,
    ⟨(some 60), (.pick (.t 54) (.t 59) (.c (.bool false))), none, []⟩,
    ⟨(some 61), (.mov (.t 60)), none, []⟩,
    ⟨(some 62), (.fieldAddr 8 (.t 2)), (some (61, true)), []⟩,
    ⟨(some 63), (.load none (.t 62)), (some (61, true)), []⟩,
    ⟨(some 64), (.fieldAddr 8 (.t 3)), (some (61, true)), []⟩,
    ⟨(some 65), (.load none (.t 64)), (some (61, true)), []⟩,
    ⟨(some 66), (.bin .eql (.t 63) (.t 65)), (some (61, true)), []⟩,
    ⟨(some 67), (.pick (.t 61) (.t 66) (.c (.bool false))), none, []⟩,
    ⟨(some 68), (.mov (.t 67)), none, []⟩,
    ⟨(some 69), (.fieldAddr 9 (.t 2)), (some (68, true)), []⟩,
    ⟨(some 70), (.load none (.t 69)), (some (68, true)), []⟩,
    ⟨(some 71), (.fieldAddr 9 (.t 3)), (some (68, true)), []⟩,
    ⟨(some 72), (.load none (.t 71)), (some (68, true)), []⟩,
    ⟨(some 73), (.call (.f 21) [(.t 70), (.t 72)]), (some (68, true)), []⟩,
    ⟨(some 74), (.pick (.t 68) (.t 73) (.c (.bool false))), none, []⟩,
    ⟨(some 75), (.mov (.t 74)), none, []⟩,
    ⟨(some 76), (.fieldAddr 10 (.t 2)), (some (75, true)), []⟩,
    ⟨(some 77), (.load none (.t 76)), (some (75, true)), []⟩,
    ⟨(some 78), (.fieldAddr 10 (.t 3)), (some (75, true)), []⟩,
    ⟨(some 79), (.load none (.t 78)), (some (75, true)), []⟩,
    ⟨(some 80), (.call (.f 21) [(.t 77), (.t 79)]), (some (75, true)), []⟩,
    ⟨(some 81), (.pick (.t 75) (.t 80) (.c (.bool false))), none, []⟩,
    ⟨(some 4), (.mov (.t 81)), none, []⟩] none)
  .ret)))
def F26 : AFunc := ⟨2, 82, [(.tmp 4)], B26⟩
/-- toll/tolllaw07.like -/
def B27 : ACode := (.seq (.region [⟨(some 2), (.box 47 (.t 0)), none, []⟩,
    ⟨(some 3), (.box 47 (.t 1)), none, []⟩,
    ⟨(some 4), (.mov (.c (.bool false))), none, []⟩] none)
  (.seq (.region [⟨(some 5), (.fieldAddr 0 (.t 2)), none, []⟩,
    ⟨(some 6), (.load none (.t 5)), none, []⟩,
    ⟨(some 7), (.fieldAddr 0 (.t 3)), none, []⟩,
    ⟨(some 8), (.load none (.t 7)), none, []⟩,
    ⟨(some 9), (.bin .eql (.t 6) (.t 8)), none, []⟩,
    ⟨(some 10), (.mov (.t 9)), none, []⟩,
    ⟨(some 11), (.fieldAddr 1 (.t 2)), (some (10, true)), []⟩,
    ⟨(some 12), (.load none (.t 11)), (some (10, true)), []⟩,
    ⟨(some 13), (.fieldAddr 1 (.t 3)), (some (10, true)), []⟩,
    ⟨(some 14), (.load none (.t 13)), (some (10, true)), []⟩,
    ⟨(some 15), (.bin .eql (.t 12) (.t 14)), (some (10, true)), []⟩,
    ⟨(some 16), (.pick (.t 10) (.t 15) (.c (.bool false))), none, []⟩,
    ⟨(some 17), (.mov (.t 16)), none, []⟩,
    ⟨(some 18), (.fieldAddr 2 (.t 2)), (some (17, true)), []⟩,
    ⟨(some 19), (.load none (.t 18)), (some (17, true)), []⟩,
    ⟨(some 20), (.fieldAddr 2 (.t 3)), (some (17, true)), []⟩,
    ⟨(some 21), (.load none (.t 20)), (some (17, true)), []⟩,
    ⟨(some 22), (.bin .eql (.t 19) (.t 21)), (some (17, true)), []⟩,
    ⟨(some 23), (.pick (.t 17) (.t 22) (.c (.bool false))), none, []⟩,
    ⟨(some 24), (.mov (.t 23)), none, []⟩,
    ⟨(some 25), (.fieldAddr 3 (.t 2)), (some (24, true)), []⟩,
    ⟨(some 26), (.load none (.t 25)), (some (24, true)), []⟩,
    ⟨(some 27), (.fieldAddr 3 (.t 3)), (some (24, true)), []⟩,
    ⟨(some 28), (.load none (.t 27)), (some (24, true)), []⟩,
    ⟨(some 29), (.bin .eql (.t 26) (.t 28)), (some (24, true)), []⟩,
    ⟨(some 30), (.pick (.t 24) (.t 29) (.c (.bool false))), none, []⟩,
    ⟨(some 31), (.mov (.t 30)), none, []⟩,
    ⟨(some 32), (.fieldAddr 4 (.t 2)), (some (31, true)), []⟩,
    ⟨(some 33), (.load none (.t 32)), (some (31, true)), []⟩,
    ⟨(some 34), (.fieldAddr 4 (.t 3)), (some (31, true)), []⟩,
    ⟨(some 35), (.load none (.t 34)), (some (31, true)), []⟩,
    ⟨(some 36), (.call (.f 21) [(.t 33), (.t 35)]), (some (31, true)), []⟩,
    ⟨(some 37), (.pick (.t 31) (.t 36) (.c (.bool false))), none, []⟩,
    ⟨(some 4), (.mov (.t 37)), none, []⟩] none)
  .ret))
def F27 : AFunc := ⟨2, 38, [(.tmp 4)], B27⟩
def R28_0 : ACode := .region [⟨(some 19), (.fieldAddr 0 (.t 7)), none, []⟩,
    ⟨(some 20), (.load none (.t 19)), none, [0]⟩,
    ⟨(some 21), (.fieldAddr 1 (.t 7)), none, []⟩,
    ⟨(some 22), (.load none (.t 21)), none, [2]⟩,
    ⟨(some 23), (.mov (.t 8)), none, []⟩,
    ⟨(some 24), (.bin .eql (.t 23) (.c (.int .i64 0))), none, [4]⟩,
    ⟨(some 4), (.mov (.t 20)), none, [1, 0, 1]⟩,
    ⟨(some 5), (.mov (.t 22)), none, [3, 6, 0, 1, 2, 3, 6]⟩,
    ⟨(some 6), (.mov (.t 24)), none, [5, 7, 0, 1, 2, 3, 4, 5, 6, 7]⟩] (some [(0, 2), (1, 2), (0, 3), (1, 3), (0, 4), (1, 4), (2, 4), (3, 4), (0, 5), (1, 5), (2, 5), (3, 5), (2, 6), (3, 6), (4, 6), (5, 6), (4, 7), (5, 7)])
def R28_1 : ACode := .region [⟨(some 32), (.fieldAddr 0 (.t 9)), none, []⟩,
    ⟨(some 33), (.load none (.t 32)), none, [0]⟩,
    ⟨(some 34), (.fieldAddr 1 (.t 9)), none, []⟩,
    ⟨(some 35), (.load none (.t 34)), none, [2]⟩,
    ⟨(some 36), (.mov (.t 10)), none, []⟩,
    ⟨(some 37), (.bin .eql (.t 36) (.c (.int .i64 0))), none, [4]⟩,
    ⟨(some 4), (.mov (.t 33)), none, [1, 0, 1]⟩,
    ⟨(some 5), (.mov (.t 35)), none, [3, 6, 0, 1, 2, 3, 6]⟩,
    ⟨(some 6), (.mov (.t 37)), none, [5, 7, 0, 1, 2, 3, 4, 5, 6, 7]⟩] (some [(0, 2), (1, 2), (0, 3), (1, 3), (0, 4), (1, 4), (2, 4), (3, 4), (0, 5), (1, 5), (2, 5), (3, 5), (2, 6), (3, 6), (4, 6), (5, 6), (4, 7), (5, 7)])
/-- toll/trans.Ports -/
def B28 : ACode := (.seq (.region [⟨(some 4), (.mov (.c (.int .u16 0))), none, []⟩,
    ⟨(some 5), (.mov (.c (.int .u16 0))), none, []⟩,
    ⟨(some 6), (.mov (.c (.bool false))), none, []⟩] none)
  (.seq (.seq (.region [⟨(some 11), (.mov (.t 0)), none, []⟩] none)
  (.block 0 (.seq (.region [⟨(some 13), (.bin .eql (.t 11) (.c (.int .u8 6))), none, []⟩,
    ⟨(some 12), (.mov (.t 13)), none, []⟩] none)
  (.cond (.t 12)
  (.seq (.region [⟨(some 15), (.mov (.t 1)), none, []⟩,
    ⟨(some 16), (.call (.f 23) [(.t 15)]), none, []⟩,
    ⟨(some 14), (.mov (.t 16)), none, []⟩,
    ⟨(some 17), (.extract (.t 14) 0), none, []⟩,
    ⟨(some 18), (.extract (.t 14) 1), none, []⟩,
    ⟨(some 7), (.alloc 35 [(.int .u16 0), (.int .u16 0), (.int .u32 0), (.int .u32 0), (.int .u8 0), (.int .u8 0), (.int .u16 0), (.int .u16 0), (.int .u16 0), (.slice none 0 0), (.slice none 0 0)]), none, []⟩,
    ⟨none, (.store 11 (.t 7) (.t 17)), none, []⟩,
    ⟨(some 8), (.mov (.t 18)), none, []⟩] none)
  (.seq R28_0
  .ret))
  (.seq (.region [⟨(some 26), (.bin .eql (.t 11) (.c (.int .u8 17))), none, []⟩,
    ⟨(some 25), (.mov (.t 26)), none, []⟩] none)
  (.cond (.t 25)
  (.seq (.region [⟨(some 28), (.mov (.t 1)), none, []⟩,
    ⟨(some 29), (.call (.f 24) [(.t 28)]), none, []⟩,
    ⟨(some 27), (.mov (.t 29)), none, []⟩,
    ⟨(some 30), (.extract (.t 27) 0), none, []⟩,
    ⟨(some 31), (.extract (.t 27) 1), none, []⟩,
    ⟨(some 9), (.alloc 37 [(.int .u16 0), (.int .u16 0), (.int .u16 0), (.int .u16 0), (.slice none 0 0)]), none, []⟩,
    ⟨none, (.store 5 (.t 9) (.t 30)), none, []⟩,
    ⟨(some 10), (.mov (.t 31)), none, []⟩] none)
  (.seq R28_1
  .ret))
  .skip))))))
  (.seq (.region [⟨(some 4), (.mov (.c (.int .u16 0))), none, []⟩,
    ⟨(some 5), (.mov (.c (.int .u16 0))), none, []⟩,
    ⟨(some 6), (.mov (.c (.bool false))), none, []⟩] none)
  .ret)))
def F28 : AFunc := ⟨2, 38, [(.tmp 4), (.tmp 5), (.tmp 6)], B28⟩
/-- toll/trans.Seal -/
def B29 : ACode := (.seq (.region [⟨(some 8), (.mov (.c (.slice none 0 0))), none, []⟩,
    ⟨(some 9), (.mov (.c (.int .i64 0))), none, []⟩] none)
  (.seq (.region [⟨(some 15), (.load none (.g 1)), none, []⟩,
    ⟨(some 16), (.mov (.t 2)), none, []⟩,
    ⟨(some 17), (.lookup false true (.int .i64 0) (.t 15) (.t 16)), none, []⟩,
    ⟨(some 14), (.mov (.t 17)), none, []⟩,
    ⟨(some 18), (.extract (.t 14) 0), none, []⟩,
    ⟨(some 19), (.extract (.t 14) 1), none, []⟩,
    ⟨(some 10), (.mov (.t 18)), none, []⟩,
    ⟨(some 11), (.mov (.t 19)), none, []⟩] none)
  (.seq (.block 0 (.seq (.region [⟨(some 21), (.mov (.t 11)), none, []⟩,
    ⟨(some 22), (.un .not (.t 21)), none, []⟩,
    ⟨(some 23), (.mov (.t 22)), none, []⟩,
    ⟨(some 24), (.mov (.t 3)), (some (23, false)), []⟩,
    ⟨(some 25), (.lenSlice (.t 24)), (some (23, false)), []⟩,
    ⟨(some 26), (.bin .gtr (.t 25) (.c (.int .i64 65535))), (some (23, false)), []⟩,
    ⟨(some 27), (.pick (.t 23) (.c (.bool true)) (.t 26)), none, []⟩,
    ⟨(some 20), (.mov (.t 27)), none, []⟩] none)
  (.cond (.t 20)
  (.seq (.region [⟨(some 8), (.mov (.c (.slice none 0 0))), none, []⟩,
    ⟨(some 9), (.mov (.c (.int .i64 1))), none, []⟩] none)
  .ret)
  (.seq (.region [⟨(some 29), (.mov (.t 3)), none, []⟩,
    ⟨(some 30), (.lenSlice (.t 29)), none, []⟩,
    ⟨(some 31), (.mov (.t 10)), none, []⟩,
    ⟨(some 32), (.bin .add (.t 31) (.c (.int .i64 2))), none, []⟩,
    ⟨(some 33), (.bin .lss (.t 30) (.t 32)), none, []⟩,
    ⟨(some 28), (.mov (.t 33)), none, []⟩] none)
  (.cond (.t 28)
  (.seq (.region [⟨(some 8), (.mov (.c (.slice none 0 0))), none, []⟩,
    ⟨(some 9), (.mov (.c (.int .i64 4))), none, []⟩] none)
  .ret)
  .skip)))))
  (.seq (.region [⟨(some 34), (.mov (.t 3)), none, []⟩,
    ⟨(some 35), (.call (.f 56) [(.t 34)]), none, []⟩,
    ⟨(some 12), (.mov (.t 35)), none, []⟩] none)
  (.seq (.region [⟨(some 36), (.mov (.t 12)), none, []⟩,
    ⟨(some 37), (.mov (.t 10)), none, []⟩,
    ⟨(some 38), (.mov (.t 12)), none, []⟩,
    ⟨(some 39), (.mov (.t 10)), none, []⟩,
    ⟨(some 40), (.bin .add (.t 39) (.c (.int .i64 1))), none, []⟩,
    ⟨(some 41), (.indexAddr 1 (.t 36) (.t 37)), none, []⟩,
    ⟨none, (.store 1 (.t 41) (.c (.int .u8 0))), none, []⟩,
    ⟨(some 42), (.indexAddr 1 (.t 38) (.t 40)), none, []⟩,
    ⟨none, (.store 1 (.t 42) (.c (.int .u8 0))), none, []⟩] none)
  (.seq (.region [⟨(some 43), (.mov (.t 0)), none, []⟩,
    ⟨(some 44), (.mov (.t 1)), none, []⟩,
    ⟨(some 45), (.mov (.t 2)), none, []⟩,
    ⟨(some 46), (.mov (.t 12)), none, []⟩,
    ⟨(some 47), (.call (.f 57) [(.t 43), (.t 44), (.t 45), (.t 46)]), none, []⟩,
    ⟨(some 13), (.mov (.t 47)), none, []⟩] none)
  (.seq (.seq (.region [⟨(some 48), (.mov (.t 2)), none, []⟩,
    ⟨(some 49), (.bin .eql (.t 48) (.c (.int .u8 17))), none, []⟩,
    ⟨(some 50), (.mov (.t 49)), none, []⟩,
    ⟨(some 51), (.mov (.t 13)), (some (50, true)), []⟩,
    ⟨(some 52), (.bin .eql (.t 51) (.c (.int .u16 0))), (some (50, true)), []⟩,
    ⟨(some 53), (.pick (.t 50) (.t 52) (.c (.bool false))), none, []⟩] none)
  (.cond (.t 53)
  (.region [⟨(some 13), (.mov (.c (.int .u16 65535))), none, []⟩] none)
  .skip))
  (.seq (.region [⟨(some 54), (.mov (.t 12)), none, []⟩,
    ⟨(some 55), (.mov (.t 10)), none, []⟩,
    ⟨(some 56), (.mov (.t 12)), none, []⟩,
    ⟨(some 57), (.mov (.t 10)), none, []⟩,
    ⟨(some 58), (.bin .add (.t 57) (.c (.int .i64 1))), none, []⟩,
    ⟨(some 59), (.mov (.t 13)), none, []⟩,
    ⟨(some 60), (.bin .shr (.t 59) (.c (.int .u64 8))), none, []⟩,
    ⟨(some 61), (.conv .u8 (.t 60)), none, []⟩,
    ⟨(some 62), (.mov (.t 13)), none, []⟩,
    ⟨(some 63), (.conv .u8 (.t 62)), none, []⟩,
    ⟨(some 64), (.indexAddr 1 (.t 54) (.t 55)), none, []⟩,
    ⟨none, (.store 1 (.t 64) (.t 61)), none, []⟩,
    ⟨(some 65), (.indexAddr 1 (.t 56) (.t 58)), none, []⟩,
    ⟨none, (.store 1 (.t 65) (.t 63)), none, []⟩] none)
  (.seq (.region [⟨(some 66), (.mov (.t 12)), none, []⟩,
    ⟨(some 8), (.mov (.t 66)), none, []⟩,
    ⟨(some 9), (.mov (.c (.int .i64 0))), none, []⟩] none)
  .ret)))))))))
def F29 : AFunc := ⟨4, 67, [(.tmp 8), (.tmp 9)], B29⟩
/-- toll/trans.Right -/
def B30 : ACode := (.seq (.region [⟨(some 8), (.mov (.c (.bool false))), none, []⟩] none)
  (.seq (.seq (.region [⟨(some 11), (.mov (.t 3)), none, []⟩,
    ⟨(some 12), (.lenSlice (.t 11)), none, []⟩,
    ⟨(some 13), (.bin .gtr (.t 12) (.c (.int .i64 65535))), none, []⟩] none)
  (.cond (.t 13)
  (.seq (.region [⟨(some 8), (.mov (.c (.bool false))), none, []⟩] none)
  .ret)
  .skip))
  (.seq (.region [⟨(some 14), (.load none (.g 1)), none, []⟩,
    ⟨(some 15), (.lookup false false (.int .i64 0) (.t 14) (.c (.int .u8 17))), none, []⟩,
    ⟨(some 9), (.mov (.t 15)), none, []⟩] none)
  (.seq (.region [⟨(some 16), (.mov (.t 2)), none, []⟩,
    ⟨(some 17), (.bin .eql (.t 16) (.c (.int .u8 17))), none, []⟩,
    ⟨(some 18), (.mov (.t 17)), none, []⟩,
    ⟨(some 19), (.mov (.t 3)), (some (18, true)), []⟩,
    ⟨(some 20), (.lenSlice (.t 19)), (some (18, true)), []⟩,
    ⟨(some 21), (.mov (.t 9)), (some (18, true)), []⟩,
    ⟨(some 22), (.bin .add (.t 21) (.c (.int .i64 2))), (some (18, true)), []⟩,
    ⟨(some 23), (.bin .geq (.t 20) (.t 22)), (some (18, true)), []⟩,
    ⟨(some 24), (.pick (.t 18) (.t 23) (.c (.bool false))), none, []⟩,
    ⟨(some 25), (.mov (.t 24)), none, []⟩,
    ⟨(some 26), (.mov (.t 3)), (some (25, true)), []⟩,
    ⟨(some 27), (.mov (.t 9)), (some (25, true)), []⟩,
    ⟨(some 28), (.indexAddr 1 (.t 26) (.t 27)), (some (25, true)), []⟩,
    ⟨(some 29), (.load none (.t 28)), (some (25, true)), []⟩,
    ⟨(some 30), (.bin .eql (.t 29) (.c (.int .u8 0))), (some (25, true)), []⟩,
    ⟨(some 31), (.pick (.t 25) (.t 30) (.c (.bool false))), none, []⟩,
    ⟨(some 32), (.mov (.t 31)), none, []⟩,
    ⟨(some 33), (.mov (.t 3)), (some (32, true)), []⟩,
    ⟨(some 34), (.mov (.t 9)), (some (32, true)), []⟩,
    ⟨(some 35), (.bin .add (.t 34) (.c (.int .i64 1))), (some (32, true)), []⟩,
    ⟨(some 36), (.indexAddr 1 (.t 33) (.t 35)), (some (32, true)), []⟩,
    ⟨(some 37), (.load none (.t 36)), (some (32, true)), []⟩,
    ⟨(some 38), (.bin .eql (.t 37) (.c (.int .u8 0))), (some (32, true)), []⟩,
    ⟨(some 39), (.pick (.t 32) (.t 38) (.c (.bool false))), none, []⟩,
    ⟨(some 10), (.mov (.t 39)), none, []⟩] none)
  (.seq (.region [⟨(some 40), (.mov (.t 10)), none, []⟩,
    ⟨(some 41), (.mov (.t 40)), none, []⟩,
    ⟨(some 42), (.mov (.t 0)), (some (41, false)), []⟩,
    ⟨(some 43), (.mov (.t 1)), (some (41, false)), []⟩,
    ⟨(some 44), (.mov (.t 2)), (some (41, false)), []⟩,
    ⟨(some 45), (.mov (.t 3)), (some (41, false)), []⟩,
    ⟨(some 46), (.call (.f 57) [(.t 42), (.t 43), (.t 44), (.t 45)]), (some (41, false)), []⟩,
    ⟨(some 47), (.bin .eql (.t 46) (.c (.int .u16 0))), (some (41, false)), []⟩,
    ⟨(some 48), (.pick (.t 41) (.c (.bool true)) (.t 47)), none, []⟩,
    ⟨(some 8), (.mov (.t 48)), none, []⟩] none)
  .ret)))))
def F30 : AFunc := ⟨4, 49, [(.tmp 8)], B30⟩
def R31_0 : ACode := .region [⟨(some 24), (.mov (.t 0)), none, []⟩,
    ⟨(some 25), (.call (.f 58) [(.t 24), (.c (.int .i64 0))]), none, [0]⟩,
    ⟨(some 26), (.mov (.t 0)), none, []⟩,
    ⟨(some 27), (.call (.f 58) [(.t 26), (.c (.int .i64 2))]), none, [2, 1]⟩,
    ⟨(some 28), (.mov (.t 0)), none, []⟩,
    ⟨(some 29), (.call (.f 59) [(.t 28), (.c (.int .i64 4))]), none, [4, 3]⟩,
    ⟨(some 30), (.mov (.t 0)), none, []⟩,
    ⟨(some 31), (.call (.f 59) [(.t 30), (.c (.int .i64 8))]), none, [6, 5]⟩,
    ⟨(some 32), (.mov (.t 0)), none, []⟩,
    ⟨(some 33), (.indexAddr 1 (.t 32) (.c (.int .i64 12))), none, [8]⟩,
    ⟨(some 34), (.load none (.t 33)), none, [9]⟩,
    ⟨(some 35), (.bin .rem (.t 34) (.c (.int .u8 16))), none, [10]⟩,
    ⟨(some 36), (.conv .i64 (.t 35)), none, [11]⟩,
    ⟨(some 37), (.mov (.t 0)), none, []⟩,
    ⟨(some 38), (.indexAddr 1 (.t 37) (.c (.int .i64 13))), none, [13]⟩,
    ⟨(some 39), (.load none (.t 38)), none, [14]⟩,
    ⟨(some 40), (.conv .i64 (.t 39)), none, [15]⟩,
    ⟨(some 41), (.mov (.t 0)), none, []⟩,
    ⟨(some 42), (.call (.f 58) [(.t 41), (.c (.int .i64 14))]), none, [17, 7]⟩,
    ⟨(some 43), (.mov (.t 0)), none, []⟩,
    ⟨(some 44), (.call (.f 58) [(.t 43), (.c (.int .i64 16))]), none, [19, 18]⟩,
    ⟨(some 45), (.mov (.t 0)), none, []⟩,
    ⟨(some 46), (.call (.f 58) [(.t 45), (.c (.int .i64 18))]), none, [21, 20]⟩,
    ⟨(some 47), (.build [(.int .i64 0), (.int .i64 0), (.int .i64 0), (.int .i64 0), (.int .i64 0), (.int .i64 0), (.int .i64 0), (.int .u32 0), (.int .u32 0), (.slice none 0 0), (.slice none 0 0)] [(0, 1, (.t 25)), (1, 1, (.t 27)), (7, 1, (.t 29)), (8, 1, (.t 31)), (2, 1, (.t 36)), (3, 1, (.t 40)), (4, 1, (.t 42)), (5, 1, (.t 44)), (6, 1, (.t 46))]), none, [1, 3, 5, 7, 12, 16, 18, 20, 22]⟩,
    ⟨(some 5), (.alloc 43 [(.int .i64 0), (.int .i64 0), (.int .i64 0), (.int .i64 0), (.int .i64 0), (.int .i64 0), (.int .i64 0), (.int .u32 0), (.int .u32 0), (.slice none 0 0), (.slice none 0 0)]), none, []⟩,
    ⟨none, (.store 11 (.t 5) (.t 47)), none, [24, 23, 22, 0, 1, 2, 3, 4, 5, 6, 7, 8, 9, 10, 11, 12, 13, 14, 15, 16, 17, 18, 19, 20, 21, 22, 23, 24]⟩] (some [(0, 2), (1, 2), (0, 4), (1, 4), (2, 4), (3, 4), (0, 6), (1, 6), (2, 6), (3, 6), (4, 6), (5, 6), (0, 8), (1, 8), (2, 8), (3, 8), (4, 8), (5, 8), (6, 8), (7, 8), (0, 9), (1, 9), (2, 9), (3, 9), (4, 9), (5, 9), (6, 9), (7, 9), (0, 10), (1, 10), (2, 10), (3, 10), (4, 10), (5, 10), (6, 10), (7, 10), (0, 11), (1, 11), (2, 11), (3, 11), (4, 11), (5, 11), (6, 11), (7, 11), (0, 12), (1, 12), (2, 12), (3, 12), (4, 12), (5, 12), (6, 12), (7, 12), (0, 13), (1, 13), (2, 13), (3, 13), (4, 13), (5, 13), (6, 13), (7, 13), (8, 13), (9, 13), (10, 13), (11, 13), (12, 13), (0, 14), (1, 14), (2, 14), (3, 14), (4, 14), (5, 14), (6, 14), (7, 14), (8, 14), (9, 14), (10, 14), (11, 14), (12, 14), (0, 15), (1, 15), (2, 15), (3, 15), (4, 15), (5, 15), (6, 15), (7, 15), (8, 15), (9, 15), (10, 15), (11, 15), (12, 15), (0, 16), (1, 16), (2, 16), (3, 16), (4, 16), (5, 16), (6, 16), (7, 16), (8, 16), (9, 16), (10, 16), (11, 16), (12, 16), (0, 17), (1, 17), (2, 17), (3, 17), (4, 17), (5, 17), (6, 17), (7, 17), (8, 17), (9, 17), (10, 17), (11, 17), (12, 17), (13, 17), (14, 17), (15, 17), (16, 17), (8, 18), (9, 18), (10, 18), (11, 18), (12, 18), (13, 18), (14, 18), (15, 18), (16, 18), (0, 19), (1, 19), (2, 19), (3, 19), (4, 19), (5, 19), (6, 19), (7, 19), (8, 19), (9, 19), (10, 19), (11, 19), (12, 19), (13, 19), (14, 19), (15, 19), (16, 19), (17, 19), (18, 19), (8, 20), (9, 20), (10, 20), (11, 20), (12, 20), (13, 20), (14, 20), (15, 20), (16, 20), (0, 21), (1, 21), (2, 21), (3, 21), (4, 21), (5, 21), (6, 21), (7, 21), (8, 21), (9, 21), (10, 21), (11, 21), (12, 21), (13, 21), (14, 21), (15, 21), (16, 21), (17, 21), (18, 21), (19, 21), (20, 21), (8, 22), (9, 22), (10, 22), (11, 22), (12, 22), (13, 22), (14, 22), (15, 22), (16, 22), (0, 24), (1, 24), (2, 24), (3, 24), (4, 24), (5, 24), (6, 24), (7, 24), (8, 24), (9, 24), (10, 24), (11, 24), (12, 24), (13, 24), (14, 24), (15, 24), (16, 24), (17, 24), (18, 24), (19, 24), (20, 24), (21, 24), (22, 24), (23, 24)])
/-- toll/tollref07.GetTcp -/
def B31 : ACode := (.seq (.region [⟨(some 2), (.alloc 43 [(.int .i64 0), (.int .i64 0), (.int .i64 0), (.int .i64 0), (.int .i64 0), (.int .i64 0), (.int .i64 0), (.int .u32 0), (.int .u32 0), (.slice none 0 0), (.slice none 0 0)]), none, []⟩,
    ⟨(some 3), (.mov (.c (.int .i64 0))), none, []⟩] none)
  (.seq (.seq (.region [⟨(some 6), (.mov (.t 0)), none, []⟩,
    ⟨(some 7), (.lenSlice (.t 6)), none, []⟩,
    ⟨(some 8), (.bin .lss (.t 7) (.c (.int .i64 20))), none, []⟩] none)
  (.cond (.t 8)
  (.seq (.region [⟨(some 9), (.build [(.int .i64 0), (.int .i64 0), (.int .i64 0), (.int .i64 0), (.int .i64 0), (.int .i64 0), (.int .i64 0), (.int .u32 0), (.int .u32 0), (.slice none 0 0), (.slice none 0 0)] []), none, []⟩,
    ⟨none, (.store 11 (.t 2) (.t 9)), none, []⟩,
    ⟨(some 3), (.mov (.c (.int .i64 4))), none, []⟩] none)
  .ret)
  .skip))
  (.seq (.region [⟨(some 10), (.mov (.t 0)), none, []⟩,
    ⟨(some 11), (.indexAddr 1 (.t 10) (.c (.int .i64 12))), none, []⟩,
    ⟨(some 12), (.load none (.t 11)), none, []⟩,
    ⟨(some 13), (.bin .quo (.t 12) (.c (.int .u8 16))), none, []⟩,
    ⟨(some 14), (.conv .i64 (.t 13)), none, []⟩,
    ⟨(some 15), (.bin .mul (.t 14) (.c (.int .i64 4))), none, []⟩,
    ⟨(some 4), (.mov (.t 15)), none, []⟩] none)
  (.seq (.seq (.region [⟨(some 16), (.mov (.t 4)), none, []⟩,
    ⟨(some 17), (.bin .lss (.t 16) (.c (.int .i64 20))), none, []⟩] none)
  (.cond (.t 17)
  (.seq (.region [⟨(some 18), (.build [(.int .i64 0), (.int .i64 0), (.int .i64 0), (.int .i64 0), (.int .i64 0), (.int .i64 0), (.int .i64 0), (.int .u32 0), (.int .u32 0), (.slice none 0 0), (.slice none 0 0)] []), none, []⟩,
    ⟨none, (.store 11 (.t 2) (.t 18)), none, []⟩,
    ⟨(some 3), (.mov (.c (.int .i64 5))), none, []⟩] none)
  .ret)
  .skip))
  (.seq (.seq (.region [⟨(some 19), (.mov (.t 4)), none, []⟩,
    ⟨(some 20), (.mov (.t 0)), none, []⟩,
    ⟨(some 21), (.lenSlice (.t 20)), none, []⟩,
    ⟨(some 22), (.bin .gtr (.t 19) (.t 21)), none, []⟩] none)
  (.cond (.t 22)
  (.seq (.region [⟨(some 23), (.build [(.int .i64 0), (.int .i64 0), (.int .i64 0), (.int .i64 0), (.int .i64 0), (.int .i64 0), (.int .i64 0), (.int .u32 0), (.int .u32 0), (.slice none 0 0), (.slice none 0 0)] []), none, []⟩,
    ⟨none, (.store 11 (.t 2) (.t 23)), none, []⟩,
    ⟨(some 3), (.mov (.c (.int .i64 4))), none, []⟩] none)
  .ret)
  .skip))
  (.seq R31_0
  (.seq (.region [⟨(some 48), (.mov (.t 0)), none, []⟩,
    ⟨(some 49), (.mov (.t 4)), none, []⟩,
    ⟨(some 50), (.slice 1 (.t 48) (some (.c (.int .i64 20))) (some (.t 49)) none), none, []⟩,
    ⟨(some 51), (.fieldAddr 9 (.t 5)), none, []⟩,
    ⟨none, (.store 1 (.t 51) (.t 50)), none, []⟩] none)
  (.seq (.region [⟨(some 52), (.mov (.t 0)), none, []⟩,
    ⟨(some 53), (.mov (.t 4)), none, []⟩,
    ⟨(some 54), (.slice 1 (.t 52) (some (.t 53)) none none), none, []⟩,
    ⟨(some 55), (.fieldAddr 10 (.t 5)), none, []⟩,
    ⟨none, (.store 1 (.t 55) (.t 54)), none, []⟩] none)
  (.seq (.region [⟨(some 56), (.load (some 11) (.t 5)), none, []⟩,
    ⟨none, (.store 11 (.t 2) (.t 56)), none, []⟩,
    ⟨(some 3), (.mov (.c (.int .i64 0))), none, []⟩] none)
  .ret)))))))))
def F31 : AFunc := ⟨1, 57, [(.cell 2 (some 11)), (.tmp 3)], B31⟩
def R32_0 : ACode := .region [⟨(some 19), (.mov (.t 0)), none, []⟩,
    ⟨(some 20), (.call (.f 58) [(.t 19), (.c (.int .i64 0))]), none, [0]⟩,
    ⟨(some 21), (.mov (.t 0)), none, []⟩,
    ⟨(some 22), (.call (.f 58) [(.t 21), (.c (.int .i64 2))]), none, [2, 1]⟩,
    ⟨(some 23), (.mov (.t 4)), none, []⟩,
    ⟨(some 24), (.mov (.t 0)), none, []⟩,
    ⟨(some 25), (.call (.f 58) [(.t 24), (.c (.int .i64 6))]), none, [5, 3]⟩,
    ⟨(some 26), (.mov (.t 0)), none, []⟩,
    ⟨(some 27), (.mov (.t 4)), none, []⟩,
    ⟨(some 28), (.slice 1 (.t 26) (some (.c (.int .i64 8))) (some (.t 27)) none), none, [7, 8]⟩,
    ⟨(some 29), (.build [(.int .i64 0), (.int .i64 0), (.int .i64 0), (.int .i64 0), (.slice none 0 0)] [(0, 1, (.t 20)), (1, 1, (.t 22)), (2, 1, (.t 23)), (3, 1, (.t 25)), (4, 1, (.t 28))]), none, [1, 3, 4, 6, 9]⟩,
    ⟨none, (.store 5 (.t 2) (.t 29)), none, [10, 6, 0, 1, 2, 3, 4, 5, 6, 7, 8, 9, 10]⟩,
    ⟨(some 3), (.mov (.c (.int .i64 0))), none, [11, 0, 1, 2, 3, 4, 5, 6, 7, 8, 9, 10, 11]⟩] (some [(0, 2), (1, 2), (0, 4), (1, 4), (2, 4), (3, 4), (0, 5), (1, 5), (2, 5), (3, 5), (4, 5), (4, 6), (0, 7), (1, 7), (2, 7), (3, 7), (4, 7), (5, 7), (6, 7), (0, 8), (1, 8), (2, 8), (3, 8), (4, 8), (5, 8), (6, 8), (7, 8), (0, 9), (1, 9), (2, 9), (3, 9), (4, 9), (5, 9), (6, 9)])
/-- toll/tollref07.GetUdp -/
def B32 : ACode := (.seq (.region [⟨(some 2), (.alloc 47 [(.int .i64 0), (.int .i64 0), (.int .i64 0), (.int .i64 0), (.slice none 0 0)]), none, []⟩,
    ⟨(some 3), (.mov (.c (.int .i64 0))), none, []⟩] none)
  (.seq (.seq (.region [⟨(some 5), (.mov (.t 0)), none, []⟩,
    ⟨(some 6), (.lenSlice (.t 5)), none, []⟩,
    ⟨(some 7), (.bin .lss (.t 6) (.c (.int .i64 8))), none, []⟩] none)
  (.cond (.t 7)
  (.seq (.region [⟨(some 8), (.build [(.int .i64 0), (.int .i64 0), (.int .i64 0), (.int .i64 0), (.slice none 0 0)] []), none, []⟩,
    ⟨none, (.store 5 (.t 2) (.t 8)), none, []⟩,
    ⟨(some 3), (.mov (.c (.int .i64 4))), none, []⟩] none)
  .ret)
  .skip))
  (.seq (.region [⟨(some 9), (.mov (.t 0)), none, []⟩,
    ⟨(some 10), (.call (.f 58) [(.t 9), (.c (.int .i64 4))]), none, []⟩,
    ⟨(some 4), (.mov (.t 10)), none, []⟩] none)
  (.seq (.seq (.region [⟨(some 11), (.mov (.t 4)), none, []⟩,
    ⟨(some 12), (.bin .lss (.t 11) (.c (.int .i64 8))), none, []⟩] none)
  (.cond (.t 12)
  (.seq (.region [⟨(some 13), (.build [(.int .i64 0), (.int .i64 0), (.int .i64 0), (.int .i64 0), (.slice none 0 0)] []), none, []⟩,
    ⟨none, (.store 5 (.t 2) (.t 13)), none, []⟩,
    ⟨(some 3), (.mov (.c (.int .i64 5))), none, []⟩] none)
  .ret)
  .skip))
  (.seq (.seq (.region [⟨(some 14), (.mov (.t 4)), none, []⟩,
    ⟨(some 15), (.mov (.t 0)), none, []⟩,
    ⟨(some 16), (.lenSlice (.t 15)), none, []⟩,
    ⟨(some 17), (.bin .gtr (.t 14) (.t 16)), none, []⟩] none)
  (.cond (.t 17)
  (.seq (.region [⟨(some 18), (.build [(.int .i64 0), (.int .i64 0), (.int .i64 0), (.int .i64 0), (.slice none 0 0)] []), none, []⟩,
    ⟨none, (.store 5 (.t 2) (.t 18)), none, []⟩,
    ⟨(some 3), (.mov (.c (.int .i64 4))), none, []⟩] none)
  .ret)
  .skip))
  (.seq R32_0
  .ret))))))
def F32 : AFunc := ⟨1, 30, [(.cell 2 (some 5)), (.tmp 3)], B32⟩
def R33_0 : ACode := .region [⟨(some 18), (.fieldAddr 0 (.t 7)), none, []⟩,
    ⟨(some 19), (.load none (.t 18)), none, [0]⟩,
    ⟨(some 20), (.fieldAddr 1 (.t 7)), none, []⟩,
    ⟨(some 21), (.load none (.t 20)), none, [2]⟩,
    ⟨(some 22), (.mov (.t 8)), none, []⟩,
    ⟨(some 23), (.bin .eql (.t 22) (.c (.int .i64 0))), none, [4]⟩,
    ⟨(some 4), (.mov (.t 19)), none, [1, 0, 1]⟩,
    ⟨(some 5), (.mov (.t 21)), none, [3, 6, 0, 1, 2, 3, 6]⟩,
    ⟨(some 6), (.mov (.t 23)), none, [5, 7, 0, 1, 2, 3, 4, 5, 6, 7]⟩] (some [(0, 2), (1, 2), (0, 3), (1, 3), (0, 4), (1, 4), (2, 4), (3, 4), (0, 5), (1, 5), (2, 5), (3, 5), (2, 6), (3, 6), (4, 6), (5, 6), (4, 7), (5, 7)])
def R33_1 : ACode := .region [⟨(some 31), (.fieldAddr 0 (.t 9)), none, []⟩,
    ⟨(some 32), (.load none (.t 31)), none, [0]⟩,
    ⟨(some 33), (.fieldAddr 1 (.t 9)), none, []⟩,
    ⟨(some 34), (.load none (.t 33)), none, [2]⟩,
    ⟨(some 35), (.mov (.t 10)), none, []⟩,
    ⟨(some 36), (.bin .eql (.t 35) (.c (.int .i64 0))), none, [4]⟩,
    ⟨(some 4), (.mov (.t 32)), none, [1, 0, 1]⟩,
    ⟨(some 5), (.mov (.t 34)), none, [3, 6, 0, 1, 2, 3, 6]⟩,
    ⟨(some 6), (.mov (.t 36)), none, [5, 7, 0, 1, 2, 3, 4, 5, 6, 7]⟩] (some [(0, 2), (1, 2), (0, 3), (1, 3), (0, 4), (1, 4), (2, 4), (3, 4), (0, 5), (1, 5), (2, 5), (3, 5), (2, 6), (3, 6), (4, 6), (5, 6), (4, 7), (5, 7)])
/-- toll/tollref07.Ports -/
def B33 : ACode := (.seq (.region [⟨(some 4), (.mov (.c (.int .i64 0))), none, []⟩,
    ⟨(some 5), (.mov (.c (.int .i64 0))), none, []⟩,
    ⟨(some 6), (.mov (.c (.bool false))), none, []⟩] none)
  (.seq (.seq (.region [⟨(some 11), (.mov (.t 0)), none, []⟩,
    ⟨(some 12), (.bin .eql (.t 11) (.c (.int .i64 6))), none, []⟩] none)
  (.cond (.t 12)
  (.seq (.region [⟨(some 14), (.mov (.t 1)), none, []⟩,
    ⟨(some 15), (.call (.f 31) [(.t 14)]), none, []⟩,
    ⟨(some 13), (.mov (.t 15)), none, []⟩,
    ⟨(some 16), (.extract (.t 13) 0), none, []⟩,
    ⟨(some 17), (.extract (.t 13) 1), none, []⟩,
    ⟨(some 7), (.alloc 43 [(.int .i64 0), (.int .i64 0), (.int .i64 0), (.int .i64 0), (.int .i64 0), (.int .i64 0), (.int .i64 0), (.int .u32 0), (.int .u32 0), (.slice none 0 0), (.slice none 0 0)]), none, []⟩,
    ⟨none, (.store 11 (.t 7) (.t 16)), none, []⟩,
    ⟨(some 8), (.mov (.t 17)), none, []⟩] none)
  (.seq R33_0
  .ret))
  .skip))
  (.seq (.seq (.region [⟨(some 24), (.mov (.t 0)), none, []⟩,
    ⟨(some 25), (.bin .eql (.t 24) (.c (.int .i64 17))), none, []⟩] none)
  (.cond (.t 25)
  (.seq (.region [⟨(some 27), (.mov (.t 1)), none, []⟩,
    ⟨(some 28), (.call (.f 32) [(.t 27)]), none, []⟩,
    ⟨(some 26), (.mov (.t 28)), none, []⟩,
    ⟨(some 29), (.extract (.t 26) 0), none, []⟩,
    ⟨(some 30), (.extract (.t 26) 1), none, []⟩,
    ⟨(some 9), (.alloc 47 [(.int .i64 0), (.int .i64 0), (.int .i64 0), (.int .i64 0), (.slice none 0 0)]), none, []⟩,
    ⟨none, (.store 5 (.t 9) (.t 29)), none, []⟩,
    ⟨(some 10), (.mov (.t 30)), none, []⟩] none)
  (.seq R33_1
  .ret))
  .skip))
  (.seq (.region [⟨(some 4), (.mov (.c (.int .i64 0))), none, []⟩,
    ⟨(some 5), (.mov (.c (.int .i64 0))), none, []⟩,
    ⟨(some 6), (.mov (.c (.bool false))), none, []⟩] none)
  .ret))))
def F33 : AFunc := ⟨2, 37, [(.tmp 4), (.tmp 5), (.tmp 6)], B33⟩
/-- toll/tollref07.Seal -/
def B34 : ACode := (.seq (.region [⟨(some 8), (.mov (.c (.slice none 0 0))), none, []⟩,
    ⟨(some 9), (.mov (.c (.int .i64 0))), none, []⟩] none)
  (.seq (.seq (.region [⟨(some 13), (.mov (.t 2)), none, []⟩,
    ⟨(some 14), (.bin .neq (.t 13) (.c (.int .i64 6))), none, []⟩,
    ⟨(some 15), (.mov (.t 14)), none, []⟩,
    ⟨(some 16), (.mov (.t 2)), (some (15, true)), []⟩,
    ⟨(some 17), (.bin .neq (.t 16) (.c (.int .i64 17))), (some (15, true)), []⟩,
    ⟨(some 18), (.pick (.t 15) (.t 17) (.c (.bool false))), none, []⟩,
    ⟨(some 19), (.mov (.t 18)), none, []⟩,
    ⟨(some 20), (.mov (.t 3)), (some (19, false)), []⟩,
    ⟨(some 21), (.lenSlice (.t 20)), (some (19, false)), []⟩,
    ⟨(some 22), (.bin .gtr (.t 21) (.c (.int .i64 65535))), (some (19, false)), []⟩,
    ⟨(some 23), (.pick (.t 19) (.c (.bool true)) (.t 22)), none, []⟩] none)
  (.cond (.t 23)
  (.seq (.region [⟨(some 8), (.mov (.c (.slice none 0 0))), none, []⟩,
    ⟨(some 9), (.mov (.c (.int .i64 1))), none, []⟩] none)
  .ret)
  .skip))
  (.seq (.region [⟨(some 10), (.mov (.c (.int .i64 16))), none, []⟩] none)
  (.seq (.seq (.region [⟨(some 24), (.mov (.t 2)), none, []⟩,
    ⟨(some 25), (.bin .eql (.t 24) (.c (.int .i64 17))), none, []⟩] none)
  (.cond (.t 25)
  (.region [⟨(some 10), (.mov (.c (.int .i64 6))), none, []⟩] none)
  .skip))
  (.seq (.seq (.region [⟨(some 26), (.mov (.t 3)), none, []⟩,
    ⟨(some 27), (.lenSlice (.t 26)), none, []⟩,
    ⟨(some 28), (.mov (.t 10)), none, []⟩,
    ⟨(some 29), (.bin .add (.t 28) (.c (.int .i64 2))), none, []⟩,
    ⟨(some 30), (.bin .lss (.t 27) (.t 29)), none, []⟩] none)
  (.cond (.t 30)
  (.seq (.region [⟨(some 8), (.mov (.c (.slice none 0 0))), none, []⟩,
    ⟨(some 9), (.mov (.c (.int .i64 4))), none, []⟩] none)
  .ret)
  .skip))
  (.seq (.region [⟨(some 11), (.mov (.c (.slice none 0 0))), none, []⟩] none)
  (.seq (.region [⟨(some 31), (.mov (.t 11)), none, []⟩,
    ⟨(some 32), (.mov (.t 3)), none, []⟩,
    ⟨(some 33), (.append 5 1 1 (.t 31) (.t 32)), none, []⟩,
    ⟨(some 11), (.mov (.t 33)), none, []⟩] none)
  (.seq (.region [⟨(some 34), (.mov (.t 11)), none, []⟩,
    ⟨(some 35), (.mov (.t 10)), none, []⟩,
    ⟨(some 36), (.indexAddr 1 (.t 34) (.t 35)), none, []⟩,
    ⟨none, (.store 1 (.t 36) (.c (.int .u8 0))), none, []⟩] none)
  (.seq (.region [⟨(some 37), (.mov (.t 11)), none, []⟩,
    ⟨(some 38), (.mov (.t 10)), none, []⟩,
    ⟨(some 39), (.bin .add (.t 38) (.c (.int .i64 1))), none, []⟩,
    ⟨(some 40), (.indexAddr 1 (.t 37) (.t 39)), none, []⟩,
    ⟨none, (.store 1 (.t 40) (.c (.int .u8 0))), none, []⟩] none)
  (.seq (.region [⟨(some 41), (.mov (.t 0)), none, []⟩,
    ⟨(some 42), (.mov (.t 1)), none, []⟩,
    ⟨(some 43), (.mov (.t 2)), none, []⟩,
    ⟨(some 44), (.mov (.t 11)), none, []⟩,
    ⟨(some 45), (.call (.f 61) [(.t 41), (.t 42), (.t 43), (.t 44)]), none, []⟩,
    ⟨(some 46), (.call (.f 60) [(.t 45)]), none, []⟩,
    ⟨(some 47), (.bin .sub (.c (.int .i64 65535)) (.t 46)), none, []⟩,
    ⟨(some 12), (.mov (.t 47)), none, []⟩] none)
  (.seq (.seq (.region [⟨(some 48), (.mov (.t 2)), none, []⟩,
    ⟨(some 49), (.bin .eql (.t 48) (.c (.int .i64 17))), none, []⟩,
    ⟨(some 50), (.mov (.t 49)), none, []⟩,
    ⟨(some 51), (.mov (.t 12)), (some (50, true)), []⟩,
    ⟨(some 52), (.bin .eql (.t 51) (.c (.int .i64 0))), (some (50, true)), []⟩,
    ⟨(some 53), (.pick (.t 50) (.t 52) (.c (.bool false))), none, []⟩] none)
  (.cond (.t 53)
  (.region [⟨(some 12), (.mov (.c (.int .i64 65535))), none, []⟩] none)
  .skip))
  (.seq (.region [⟨(some 54), (.mov (.t 11)), none, []⟩,
    ⟨(some 55), (.mov (.t 10)), none, []⟩,
    ⟨(some 56), (.mov (.t 12)), none, []⟩,
    ⟨(some 57), (.bin .quo (.t 56) (.c (.int .i64 256))), none, []⟩,
    ⟨(some 58), (.conv .u8 (.t 57)), none, []⟩,
    ⟨(some 59), (.indexAddr 1 (.t 54) (.t 55)), none, []⟩,
    ⟨none, (.store 1 (.t 59) (.t 58)), none, []⟩] none)
  (.seq (.region [⟨(some 60), (.mov (.t 11)), none, []⟩,
    ⟨(some 61), (.mov (.t 10)), none, []⟩,
    ⟨(some 62), (.bin .add (.t 61) (.c (.int .i64 1))), none, []⟩,
    ⟨(some 63), (.mov (.t 12)), none, []⟩,
    ⟨(some 64), (.bin .rem (.t 63) (.c (.int .i64 256))), none, []⟩,
    ⟨(some 65), (.conv .u8 (.t 64)), none, []⟩,
    ⟨(some 66), (.indexAddr 1 (.t 60) (.t 62)), none, []⟩,
    ⟨none, (.store 1 (.t 66) (.t 65)), none, []⟩] none)
  (.seq (.region [⟨(some 67), (.mov (.t 11)), none, []⟩,
    ⟨(some 8), (.mov (.t 67)), none, []⟩,
    ⟨(some 9), (.mov (.c (.int .i64 0))), none, []⟩] none)
  .ret))))))))))))))
def F34 : AFunc := ⟨4, 68, [(.tmp 8), (.tmp 9)], B34⟩
/-- toll/tollref07.Right -/
def B35 : ACode := (.seq (.region [⟨(some 8), (.mov (.c (.bool false))), none, []⟩] none)
  (.seq (.seq (.region [⟨(some 9), (.mov (.t 3)), none, []⟩,
    ⟨(some 10), (.lenSlice (.t 9)), none, []⟩,
    ⟨(some 11), (.bin .gtr (.t 10) (.c (.int .i64 65535))), none, []⟩] none)
  (.cond (.t 11)
  (.seq (.region [⟨(some 8), (.mov (.c (.bool false))), none, []⟩] none)
  .ret)
  .skip))
  (.seq (.seq (.region [⟨(some 12), (.mov (.t 2)), none, []⟩,
    ⟨(some 13), (.bin .eql (.t 12) (.c (.int .i64 17))), none, []⟩,
    ⟨(some 14), (.mov (.t 13)), none, []⟩,
    ⟨(some 15), (.mov (.t 3)), (some (14, true)), []⟩,
    ⟨(some 16), (.lenSlice (.t 15)), (some (14, true)), []⟩,
    ⟨(some 17), (.bin .geq (.t 16) (.c (.int .i64 8))), (some (14, true)), []⟩,
    ⟨(some 18), (.pick (.t 14) (.t 17) (.c (.bool false))), none, []⟩,
    ⟨(some 19), (.mov (.t 18)), none, []⟩,
    ⟨(some 20), (.mov (.t 3)), (some (19, true)), []⟩,
    ⟨(some 21), (.call (.f 58) [(.t 20), (.c (.int .i64 6))]), (some (19, true)), []⟩,
    ⟨(some 22), (.bin .eql (.t 21) (.c (.int .i64 0))), (some (19, true)), []⟩,
    ⟨(some 23), (.pick (.t 19) (.t 22) (.c (.bool false))), none, []⟩] none)
  (.cond (.t 23)
  (.seq (.region [⟨(some 8), (.mov (.c (.bool true))), none, []⟩] none)
  .ret)
  .skip))
  (.seq (.region [⟨(some 24), (.mov (.t 0)), none, []⟩,
    ⟨(some 25), (.mov (.t 1)), none, []⟩,
    ⟨(some 26), (.mov (.t 2)), none, []⟩,
    ⟨(some 27), (.mov (.t 3)), none, []⟩,
    ⟨(some 28), (.call (.f 61) [(.t 24), (.t 25), (.t 26), (.t 27)]), none, []⟩,
    ⟨(some 29), (.call (.f 60) [(.t 28)]), none, []⟩,
    ⟨(some 30), (.bin .eql (.t 29) (.c (.int .i64 65535))), none, []⟩,
    ⟨(some 8), (.mov (.t 30)), none, []⟩] none)
  .ret))))
def F35 : AFunc := ⟨4, 31, [(.tmp 8)], B35⟩
/-- slices.Index[[]string,string] -/
def F36L0 : ACode := (.seq (.region [⟨(some 9), (.bin .lss (.t 8) (.t 7)), none, []⟩] none)
  (.seq (.cond (.t 9)
  .skip
  (.exit 0))
  (.seq (.block 1 (.seq (.region [⟨(some 10), (.mov (.t 8)), none, []⟩,
    ⟨(some 5), (.mov (.t 10)), none, []⟩] none)
  (.seq (.region [⟨(some 11), (.mov (.t 1)), none, []⟩,
    ⟨(some 12), (.mov (.t 0)), none, []⟩,
    ⟨(some 13), (.mov (.t 5)), none, []⟩,
    ⟨(some 14), (.indexAddr 1 (.t 12) (.t 13)), none, []⟩,
    ⟨(some 15), (.load none (.t 14)), none, []⟩,
    ⟨(some 16), (.bin .eql (.t 11) (.t 15)), none, []⟩] none)
  (.cond (.t 16)
  (.seq (.region [⟨(some 17), (.mov (.t 5)), none, []⟩,
    ⟨(some 4), (.mov (.t 17)), none, []⟩] none)
  .ret)
  .skip))))
  (.region [⟨(some 18), (.bin .add (.t 8) (.c (.int .i64 1))), none, []⟩,
    ⟨(some 8), (.mov (.t 18)), none, []⟩] none))))
def B36 : ACode := (.seq (.region [⟨(some 4), (.mov (.c (.int .i64 0))), none, []⟩] none)
  (.seq (.seq (.region [⟨(some 6), (.mov (.t 0)), none, []⟩,
    ⟨(some 7), (.lenSlice (.t 6)), none, []⟩,
    ⟨(some 8), (.mov (.c (.int .i64 0))), none, []⟩] none)
  (.block 0 (.loop F36L0)))
  (.seq (.region [⟨(some 4), (.mov (.c (.int .i64 (-1)))), none, []⟩] none)
  .ret)))
def F36 : AFunc := ⟨2, 19, [(.tmp 4)], B36⟩
-- F36L0 live: [0, 1, 7, 8]
/-- strings.genSplit -/
def F37L0 : ACode := (.seq (.seq (.region [⟨(some 34), (.mov (.t 10)), none, []⟩,
    ⟨(some 35), (.mov (.t 3)), none, []⟩,
    ⟨(some 36), (.bin .lss (.t 34) (.t 35)), none, []⟩] none)
  (.cond (.t 36)
  .skip
  (.exit 0)))
  (.block 1 (.seq (.region [⟨(some 37), (.mov (.t 0)), none, []⟩,
    ⟨(some 38), (.mov (.t 1)), none, []⟩,
    ⟨(some 39), (.call (.f 64) [(.t 37), (.t 38)]), none, []⟩,
    ⟨(some 11), (.mov (.t 39)), none, []⟩] none)
  (.seq (.seq (.region [⟨(some 40), (.mov (.t 11)), none, []⟩,
    ⟨(some 41), (.bin .lss (.t 40) (.c (.int .i64 0))), none, []⟩] none)
  (.cond (.t 41)
  (.exit 0)
  .skip))
  (.seq (.region [⟨(some 42), (.mov (.t 9)), none, []⟩,
    ⟨(some 43), (.mov (.t 10)), none, []⟩,
    ⟨(some 44), (.mov (.t 0)), none, []⟩,
    ⟨(some 45), (.mov (.t 11)), none, []⟩,
    ⟨(some 46), (.mov (.t 2)), none, []⟩,
    ⟨(some 47), (.bin .add (.t 45) (.t 46)), none, []⟩,
    ⟨(some 48), (.sliceStr (.t 44) none (some (.t 47))), none, []⟩,
    ⟨(some 49), (.indexAddr 1 (.t 42) (.t 43)), none, []⟩,
    ⟨none, (.store 1 (.t 49) (.t 48)), none, []⟩] none)
  (.seq (.region [⟨(some 50), (.mov (.t 0)), none, []⟩,
    ⟨(some 51), (.mov (.t 11)), none, []⟩,
    ⟨(some 52), (.mov (.t 1)), none, []⟩,
    ⟨(some 53), (.lenStr (.t 52)), none, []⟩,
    ⟨(some 54), (.bin .add (.t 51) (.t 53)), none, []⟩,
    ⟨(some 55), (.sliceStr (.t 50) (some (.t 54)) none), none, []⟩,
    ⟨(some 0), (.mov (.t 55)), none, []⟩] none)
  (.region [⟨(some 56), (.mov (.t 10)), none, []⟩,
    ⟨(some 57), (.bin .add (.t 56) (.c (.int .i64 1))), none, []⟩,
    ⟨(some 10), (.mov (.t 57)), none, []⟩] none)))))))
def B37 : ACode := (.seq (.region [⟨(some 8), (.mov (.c (.slice none 0 0))), none, []⟩] none)
  (.seq (.seq (.region [⟨(some 12), (.mov (.t 3)), none, []⟩,
    ⟨(some 13), (.bin .eql (.t 12) (.c (.int .i64 0))), none, []⟩] none)
  (.cond (.t 13)
  (.seq (.region [⟨(some 8), (.mov (.c (.slice none 0 0))), none, []⟩] none)
  .ret)
  .skip))
  (.seq (.seq (.region [⟨(some 14), (.mov (.t 1)), none, []⟩,
    ⟨(some 15), (.bin .eql (.t 14) (.c (.string ⟨#[]⟩))), none, []⟩] none)
  (.cond (.t 15)
  (.seq (.region [⟨(some 16), (.mov (.t 0)), none, []⟩,
    ⟨(some 17), (.mov (.t 3)), none, []⟩,
    ⟨(some 18), (.call (.f 62) [(.t 16), (.t 17)]), none, []⟩,
    ⟨(some 8), (.mov (.t 18)), none, []⟩] none)
  .ret)
  .skip))
  (.seq (.seq (.region [⟨(some 19), (.mov (.t 3)), none, []⟩,
    ⟨(some 20), (.bin .lss (.t 19) (.c (.int .i64 0))), none, []⟩] none)
  (.cond (.t 20)
  (.region [⟨(some 21), (.mov (.t 0)), none, []⟩,
    ⟨(some 22), (.mov (.t 1)), none, []⟩,
    ⟨(some 23), (.call (.f 63) [(.t 21), (.t 22)]), none, []⟩,
    ⟨(some 24), (.bin .add (.t 23) (.c (.int .i64 1))), none, []⟩,
    ⟨(some 3), (.mov (.t 24)), none, []⟩] none)
  .skip))
  (.seq (.region [⟨(some 25), (.mov (.t 3)), none, []⟩,
    ⟨(some 26), (.mov (.t 0)), none, []⟩,
    ⟨(some 27), (.lenStr (.t 26)), none, []⟩,
    ⟨(some 28), (.bin .add (.t 27) (.c (.int .i64 1))), none, []⟩,
    ⟨(some 29), (.min [(.t 25), (.t 28)]), none, []⟩,
    ⟨(some 3), (.mov (.t 29)), none, []⟩] none)
  (.seq (.region [⟨(some 30), (.mov (.t 3)), none, []⟩,
    ⟨(some 31), (.makeSlice 9 1 16 [(.string ⟨#[]⟩)] (.t 30) (.t 30)), none, []⟩,
    ⟨(some 9), (.mov (.t 31)), none, []⟩] none)
  (.seq (.region [⟨(some 32), (.mov (.t 3)), none, []⟩,
    ⟨(some 33), (.bin .sub (.t 32) (.c (.int .i64 1))), none, []⟩,
    ⟨(some 3), (.mov (.t 33)), none, []⟩] none)
  (.seq (.region [⟨(some 10), (.mov (.c (.int .i64 0))), none, []⟩] none)
  (.seq (.block 0 (.loop F37L0))
  (.seq (.region [⟨(some 58), (.mov (.t 9)), none, []⟩,
    ⟨(some 59), (.mov (.t 10)), none, []⟩,
    ⟨(some 60), (.mov (.t 0)), none, []⟩,
    ⟨(some 61), (.indexAddr 1 (.t 58) (.t 59)), none, []⟩,
    ⟨none, (.store 1 (.t 61) (.t 60)), none, []⟩] none)
  (.seq (.region [⟨(some 62), (.mov (.t 9)), none, []⟩,
    ⟨(some 63), (.mov (.t 10)), none, []⟩,
    ⟨(some 64), (.bin .add (.t 63) (.c (.int .i64 1))), none, []⟩,
    ⟨(some 65), (.slice 1 (.t 62) none (some (.t 64)) none), none, []⟩,
    ⟨(some 8), (.mov (.t 65)), none, []⟩] none)
  .ret)))))))))))
def F37 : AFunc := ⟨4, 66, [(.tmp 8)], B37⟩
-- F37L0 live: [0, 1, 2, 3, 9, 10]
def R38_0 : ACode := .region [⟨(some 9), (.mov (.t 0)), none, []⟩,
    ⟨(some 10), (.nilCheck (.t 9)), none, [0]⟩,
    ⟨(some 11), (.fieldAddr 1 (.t 10)), none, [1]⟩,
    ⟨(some 12), (.load none (.t 11)), none, [2]⟩,
    ⟨(some 13), (.cap (.t 12)), none, [3]⟩,
    ⟨(some 14), (.mov (.t 0)), none, []⟩,
    ⟨(some 15), (.nilCheck (.t 14)), none, [5]⟩,
    ⟨(some 16), (.fieldAddr 1 (.t 15)), none, [6]⟩,
    ⟨(some 17), (.load none (.t 16)), none, [7]⟩,
    ⟨(some 18), (.lenSlice (.t 17)), none, [8]⟩,
    ⟨(some 19), (.bin .sub (.t 13) (.t 18)), none, [4, 9]⟩,
    ⟨(some 20), (.mov (.t 1)), none, []⟩,
    ⟨(some 21), (.bin .lss (.t 19) (.t 20)), none, [10, 11]⟩] (some [(0, 5), (1, 5), (2, 5), (3, 5), (4, 5), (0, 6), (1, 6), (2, 6), (3, 6), (4, 6), (0, 7), (1, 7), (2, 7), (3, 7), (4, 7), (0, 8), (1, 8), (2, 8), (3, 8), (4, 8), (0, 9), (1, 9), (2, 9), (3, 9), (4, 9), (0, 11), (1, 11), (2, 11), (3, 11), (4, 11), (5, 11), (6, 11), (7, 11), (8, 11), (9, 11), (10, 11)])
/-- (*strings.Builder).Grow -/
def B38 : ACode := (.seq (.region [⟨(some 4), (.mov (.t 0)), none, []⟩,
    ⟨(some 5), (.call (.f 65) [(.t 4)]), none, []⟩] none)
  (.seq (.seq (.region [⟨(some 6), (.mov (.t 1)), none, []⟩,
    ⟨(some 7), (.bin .lss (.t 6) (.c (.int .i64 0))), none, []⟩] none)
  (.cond (.t 7)
  (.region [⟨(some 8), (.makeIface 9 (.c (.string ⟨#[115, 116, 114, 105, 110, 103, 115, 46, 66, 117, 105, 108, 100, 101, 114, 46, 71, 114, 111, 119, 58, 32, 110, 101, 103, 97, 116, 105, 118, 101, 32, 99, 111, 117, 110, 116]⟩))), none, []⟩,
    ⟨none, .fail, none, []⟩] none)
  .skip))
  (.seq R38_0
  (.cond (.t 21)
  (.region [⟨(some 22), (.mov (.t 0)), none, []⟩,
    ⟨(some 23), (.mov (.t 1)), none, []⟩,
    ⟨(some 24), (.call (.f 66) [(.t 22), (.t 23)]), none, []⟩] none)
  .skip))))
def F38 : AFunc := ⟨2, 25, [], B38⟩
/-- (*strings.Builder).WriteString -/
def B39 : ACode := (.seq (.region [⟨(some 4), (.mov (.c (.int .i64 0))), none, []⟩,
    ⟨(some 5), (.mov (.c .nilIface)), none, []⟩] none)
  (.seq (.region [⟨(some 6), (.mov (.t 0)), none, []⟩,
    ⟨(some 7), (.call (.f 65) [(.t 6)]), none, []⟩] none)
  (.seq (.region [⟨(some 8), (.mov (.t 0)), none, []⟩,
    ⟨(some 9), (.mov (.t 0)), none, []⟩,
    ⟨(some 10), (.nilCheck (.t 9)), none, []⟩,
    ⟨(some 11), (.fieldAddr 1 (.t 10)), none, []⟩,
    ⟨(some 12), (.load none (.t 11)), none, []⟩,
    ⟨(some 13), (.mov (.t 1)), none, []⟩,
    ⟨(some 14), (.append 5 1 1 (.t 12) (.t 13)), none, []⟩,
    ⟨(some 15), (.nilCheck (.t 8)), none, []⟩,
    ⟨(some 16), (.fieldAddr 1 (.t 15)), none, []⟩,
    ⟨none, (.store 1 (.t 16) (.t 14)), none, []⟩] none)
  (.seq (.region [⟨(some 17), (.mov (.t 1)), none, []⟩,
    ⟨(some 18), (.lenStr (.t 17)), none, []⟩,
    ⟨(some 4), (.mov (.t 18)), none, []⟩,
    ⟨(some 5), (.mov (.c .nilIface)), none, []⟩] none)
  .ret))))
def F39 : AFunc := ⟨2, 19, [(.tmp 4), (.tmp 5)], B39⟩
def R40_0 : ACode := .region [⟨(some 3), (.mov (.t 0)), none, []⟩,
    ⟨(some 4), (.nilCheck (.t 3)), none, [0]⟩,
    ⟨(some 5), (.fieldAddr 1 (.t 4)), none, [1]⟩,
    ⟨(some 6), (.load none (.t 5)), none, [2]⟩,
    ⟨(some 7), (.sliceData (.t 6)), none, [3]⟩,
    ⟨(some 8), (.mov (.t 0)), none, []⟩,
    ⟨(some 9), (.nilCheck (.t 8)), none, [5]⟩,
    ⟨(some 10), (.fieldAddr 1 (.t 9)), none, [6]⟩,
    ⟨(some 11), (.load none (.t 10)), none, [7]⟩,
    ⟨(some 12), (.lenSlice (.t 11)), none, [8]⟩,
    ⟨(some 13), (.unsafeString 5 (.t 7) (.t 12)), none, [4, 9]⟩,
    ⟨(some 2), (.mov (.t 13)), none, [10, 0, 1, 2, 3, 4, 5, 6, 7, 8, 9, 10]⟩] (some [(0, 5), (1, 5), (2, 5), (3, 5), (4, 5), (0, 6), (1, 6), (2, 6), (3, 6), (4, 6), (0, 7), (1, 7), (2, 7), (3, 7), (4, 7), (0, 8), (1, 8), (2, 8), (3, 8), (4, 8), (0, 9), (1, 9), (2, 9), (3, 9), (4, 9)])
/-- (*strings.Builder).String -/
def B40 : ACode := (.seq (.region [⟨(some 2), (.mov (.c (.string ⟨#[]⟩))), none, []⟩] none)
  (.seq R40_0
  .ret))
def F40 : AFunc := ⟨1, 14, [(.tmp 2)], B40⟩
/-- toll/cut.Lay -/
def B41 : ACode := (.seq (.region [⟨(some 0), (.mov (.c (.pointer none))), none, []⟩] none)
  (.seq (.region [⟨(some 1), (.build [(.slice none 0 0), (.bool false)] [(1, 1, (.c (.bool true)))]), none, []⟩,
    ⟨(some 2), (.box 121 (.t 1)), none, []⟩,
    ⟨(some 0), (.mov (.t 2)), none, []⟩] none)
  .ret))
def F41 : AFunc := ⟨0, 3, [(.tmp 0)], B41⟩
/-- (*toll/cut.Pad).Two -/
def F42L0 : ACode := (.seq (.region [⟨(some 10), (.bin .lss (.t 9) (.t 8)), none, []⟩] none)
  (.seq (.cond (.t 10)
  .skip
  (.exit 0))
  (.seq (.block 1 (.seq (.region [⟨(some 11), (.indexAddr 1 (.t 7) (.t 9)), none, []⟩,
    ⟨(some 12), (.load none (.t 11)), none, []⟩,
    ⟨(some 6), (.mov (.t 12)), none, []⟩] none)
  (.region [⟨(some 13), (.mov (.t 0)), none, []⟩,
    ⟨(some 14), (.mov (.t 6)), none, []⟩,
    ⟨(some 15), (.bin .shr (.t 14) (.c (.int .u64 8))), none, []⟩,
    ⟨(some 16), (.conv .u8 (.t 15)), none, []⟩,
    ⟨(some 17), (.mov (.t 6)), none, []⟩,
    ⟨(some 18), (.conv .u8 (.t 17)), none, []⟩,
    ⟨(some 19), (.buildSlice 5 1 2 [(.int .u8 0)] [(0, 1, (.t 16)), (1, 1, (.t 18))]), none, []⟩,
    ⟨(some 20), (.call (.f 44) [(.t 13), (.t 19)]), none, []⟩] none)))
  (.region [⟨(some 21), (.bin .add (.t 9) (.c (.int .i64 1))), none, []⟩,
    ⟨(some 9), (.mov (.t 21)), none, []⟩] none))))
def B42 : ACode := (.seq (.region [⟨(some 4), (.mov (.c (.pointer none))), none, []⟩] none)
  (.seq (.seq (.region [⟨(some 7), (.mov (.t 1)), none, []⟩,
    ⟨(some 8), (.lenSlice (.t 7)), none, []⟩,
    ⟨(some 9), (.mov (.c (.int .i64 0))), none, []⟩] none)
  (.block 0 (.loop F42L0)))
  (.seq (.region [⟨(some 22), (.mov (.t 0)), none, []⟩,
    ⟨(some 4), (.mov (.t 22)), none, []⟩] none)
  .ret)))
def F42 : AFunc := ⟨2, 23, [(.tmp 4)], B42⟩
-- F42L0 live: [0, 7, 8, 9]
/-- (*toll/cut.Pad).Four -/
def F43L0 : ACode := (.seq (.region [⟨(some 10), (.bin .lss (.t 9) (.t 8)), none, []⟩] none)
  (.seq (.cond (.t 10)
  .skip
  (.exit 0))
  (.seq (.block 1 (.seq (.region [⟨(some 11), (.indexAddr 1 (.t 7) (.t 9)), none, []⟩,
    ⟨(some 12), (.load none (.t 11)), none, []⟩,
    ⟨(some 6), (.mov (.t 12)), none, []⟩] none)
  (.region [⟨(some 13), (.mov (.t 0)), none, []⟩,
    ⟨(some 14), (.mov (.t 6)), none, []⟩,
    ⟨(some 15), (.bin .shr (.t 14) (.c (.int .u64 16))), none, []⟩,
    ⟨(some 16), (.conv .u16 (.t 15)), none, []⟩,
    ⟨(some 17), (.mov (.t 6)), none, []⟩,
    ⟨(some 18), (.conv .u16 (.t 17)), none, []⟩,
    ⟨(some 19), (.buildSlice 31 1 2 [(.int .u16 0)] [(0, 1, (.t 16)), (1, 1, (.t 18))]), none, []⟩,
    ⟨(some 20), (.call (.f 42) [(.t 13), (.t 19)]), none, []⟩] none)))
  (.region [⟨(some 21), (.bin .add (.t 9) (.c (.int .i64 1))), none, []⟩,
    ⟨(some 9), (.mov (.t 21)), none, []⟩] none))))
def B43 : ACode := (.seq (.region [⟨(some 4), (.mov (.c (.pointer none))), none, []⟩] none)
  (.seq (.seq (.region [⟨(some 7), (.mov (.t 1)), none, []⟩,
    ⟨(some 8), (.lenSlice (.t 7)), none, []⟩,
    ⟨(some 9), (.mov (.c (.int .i64 0))), none, []⟩] none)
  (.block 0 (.loop F43L0)))
  (.seq (.region [⟨(some 22), (.mov (.t 0)), none, []⟩,
    ⟨(some 4), (.mov (.t 22)), none, []⟩] none)
  .ret)))
def F43 : AFunc := ⟨2, 23, [(.tmp 4)], B43⟩
-- F43L0 live: [0, 7, 8, 9]
/-- (*toll/cut.Pad).Byte -/
def B44 : ACode := (.seq (.region [⟨(some 4), (.mov (.c (.pointer none))), none, []⟩] none)
  (.seq (.seq (.region [⟨(some 5), (.mov (.t 0)), none, []⟩,
    ⟨(some 6), (.call (.f 67) [(.t 5)]), none, []⟩,
    ⟨(some 7), (.un .not (.t 6)), none, []⟩] none)
  (.cond (.t 7)
  (.region [⟨(some 8), (.mov (.t 0)), none, []⟩,
    ⟨(some 9), (.mov (.t 0)), none, []⟩,
    ⟨(some 10), (.nilCheck (.t 9)), none, []⟩,
    ⟨(some 11), (.fieldAddr 0 (.t 10)), none, []⟩,
    ⟨(some 12), (.load none (.t 11)), none, []⟩,
    ⟨(some 13), (.mov (.t 1)), none, []⟩,
    ⟨(some 14), (.append 5 1 1 (.t 12) (.t 13)), none, []⟩,
    ⟨(some 15), (.nilCheck (.t 8)), none, []⟩,
    ⟨(some 16), (.fieldAddr 0 (.t 15)), none, []⟩,
    ⟨none, (.store 1 (.t 16) (.t 14)), none, []⟩] none)
  .skip))
  (.seq (.region [⟨(some 17), (.mov (.t 0)), none, []⟩,
    ⟨(some 4), (.mov (.t 17)), none, []⟩] none)
  .ret)))
def F44 : AFunc := ⟨2, 18, [(.tmp 4)], B44⟩
/-- (*toll/cut.Pad).Done -/
def B45 : ACode := (.seq (.region [⟨(some 2), (.mov (.c (.slice none 0 0))), none, []⟩] none)
  (.seq (.seq (.region [⟨(some 3), (.mov (.t 0)), none, []⟩,
    ⟨(some 4), (.call (.f 67) [(.t 3)]), none, []⟩] none)
  (.cond (.t 4)
  (.seq (.region [⟨(some 2), (.mov (.c (.slice none 0 0))), none, []⟩] none)
  .ret)
  .skip))
  (.seq (.region [⟨(some 5), (.mov (.t 0)), none, []⟩,
    ⟨(some 6), (.nilCheck (.t 5)), none, []⟩,
    ⟨(some 7), (.fieldAddr 0 (.t 6)), none, []⟩,
    ⟨(some 8), (.load none (.t 7)), none, []⟩,
    ⟨(some 9), (.call (.f 56) [(.t 8)]), none, []⟩,
    ⟨(some 2), (.mov (.t 9)), none, []⟩] none)
  .ret)))
def F45 : AFunc := ⟨1, 10, [(.tmp 2)], B45⟩
/-- toll/tollref07.lay -/
def B46 : ACode := (.seq (.region [⟨(some 4), (.mov (.c (.slice none 0 0))), none, []⟩] none)
  (.seq (.region [⟨(some 5), (.mov (.t 0)), none, []⟩,
    ⟨(some 6), (.mov (.t 1)), none, []⟩,
    ⟨(some 7), (.bin .quo (.t 6) (.c (.int .i64 256))), none, []⟩,
    ⟨(some 8), (.conv .u8 (.t 7)), none, []⟩,
    ⟨(some 9), (.mov (.t 1)), none, []⟩,
    ⟨(some 10), (.bin .rem (.t 9) (.c (.int .i64 256))), none, []⟩,
    ⟨(some 11), (.conv .u8 (.t 10)), none, []⟩,
    ⟨(some 12), (.buildSlice 5 1 2 [(.int .u8 0)] [(0, 1, (.t 8)), (1, 1, (.t 11))]), none, []⟩,
    ⟨(some 13), (.append 5 1 1 (.t 5) (.t 12)), none, []⟩,
    ⟨(some 4), (.mov (.t 13)), none, []⟩] none)
  .ret))
def F46 : AFunc := ⟨2, 14, [(.tmp 4)], B46⟩
/-- toll/tollref07.names -/
def B47 : ACode := (.seq (.region [⟨(some 0), (.mov (.c (.slice none 0 0))), none, []⟩] none)
  (.seq (.region [⟨(some 1), (.buildSlice 9 1 8 [(.string ⟨#[]⟩)] [(0, 1, (.c (.string ⟨#[102, 105, 110]⟩))), (1, 1, (.c (.string ⟨#[115, 121, 110]⟩))), (2, 1, (.c (.string ⟨#[114, 115, 116]⟩))), (3, 1, (.c (.string ⟨#[112, 115, 104]⟩))), (4, 1, (.c (.string ⟨#[97, 99, 107]⟩))), (5, 1, (.c (.string ⟨#[117, 114, 103]⟩))), (6, 1, (.c (.string ⟨#[101, 99, 101]⟩))), (7, 1, (.c (.string ⟨#[99, 119, 114]⟩)))]), none, []⟩,
    ⟨(some 0), (.mov (.t 1)), none, []⟩] none)
  .ret))
def F47 : AFunc := ⟨0, 2, [(.tmp 0)], B47⟩
/-- toll/cut.New -/
def B48 : ACode := (.seq (.region [⟨(some 2), (.mov (.c (.pointer none))), none, []⟩] none)
  (.seq (.region [⟨(some 3), (.mov (.t 0)), none, []⟩,
    ⟨(some 4), (.call (.f 56) [(.t 3)]), none, []⟩,
    ⟨(some 5), (.build [(.slice none 0 0), (.int .i64 0), (.int .i64 0), (.bool false)] [(0, 1, (.t 4)), (3, 1, (.c (.bool true)))]), none, []⟩,
    ⟨(some 6), (.box 125 (.t 5)), none, []⟩,
    ⟨(some 2), (.mov (.t 6)), none, []⟩] none)
  .ret))
def F48 : AFunc := ⟨1, 7, [(.tmp 2)], B48⟩
/-- (*toll/cut.Cutter).Two -/
def B49 : ACode := (.seq (.region [⟨(some 2), (.mov (.c (.int .u16 0))), none, []⟩] none)
  (.seq (.region [⟨(some 3), (.mov (.t 0)), none, []⟩,
    ⟨(some 4), (.call (.f 68) [(.t 3), (.c (.int .i64 2))]), none, []⟩,
    ⟨(some 2), (.mov (.t 4)), none, []⟩] none)
  .ret))
def F49 : AFunc := ⟨1, 5, [(.tmp 2)], B49⟩
/-- (*toll/cut.Cutter).Four -/
def B50 : ACode := (.seq (.region [⟨(some 2), (.mov (.c (.int .u32 0))), none, []⟩] none)
  (.seq (.region [⟨(some 3), (.mov (.t 0)), none, []⟩,
    ⟨(some 4), (.call (.f 69) [(.t 3), (.c (.int .i64 4))]), none, []⟩,
    ⟨(some 2), (.mov (.t 4)), none, []⟩] none)
  .ret))
def F50 : AFunc := ⟨1, 5, [(.tmp 2)], B50⟩
/-- (*toll/cut.Cutter).Byte -/
def B51 : ACode := (.seq (.region [⟨(some 2), (.mov (.c (.int .u8 0))), none, []⟩] none)
  (.seq (.region [⟨(some 3), (.mov (.t 0)), none, []⟩,
    ⟨(some 4), (.call (.f 70) [(.t 3), (.c (.int .i64 1))]), none, []⟩,
    ⟨(some 2), (.mov (.t 4)), none, []⟩] none)
  .ret))
def F51 : AFunc := ⟨1, 5, [(.tmp 2)], B51⟩
/-- (*toll/cut.Cutter).Err -/
def B52 : ACode := (.seq (.region [⟨(some 2), (.mov (.c (.int .i64 0))), none, []⟩] none)
  (.seq (.seq (.region [⟨(some 3), (.mov (.t 0)), none, []⟩,
    ⟨(some 4), (.call (.f 71) [(.t 3)]), none, []⟩] none)
  (.cond (.t 4)
  (.seq (.region [⟨(some 2), (.mov (.c (.int .i64 2))), none, []⟩] none)
  .ret)
  .skip))
  (.seq (.region [⟨(some 5), (.mov (.t 0)), none, []⟩,
    ⟨(some 6), (.nilCheck (.t 5)), none, []⟩,
    ⟨(some 7), (.fieldAddr 2 (.t 6)), none, []⟩,
    ⟨(some 8), (.load none (.t 7)), none, []⟩,
    ⟨(some 2), (.mov (.t 8)), none, []⟩] none)
  .ret)))
def F52 : AFunc := ⟨1, 9, [(.tmp 2)], B52⟩
/-- (*toll/cut.Cutter).Fail -/
def B53 : ACode := (.seq (.region [⟨(some 4), (.mov (.t 0)), none, []⟩,
    ⟨(some 5), (.call (.f 71) [(.t 4)]), none, []⟩,
    ⟨(some 6), (.un .not (.t 5)), none, []⟩,
    ⟨(some 7), (.mov (.t 6)), none, []⟩,
    ⟨(some 8), (.mov (.t 0)), (some (7, true)), []⟩,
    ⟨(some 9), (.nilCheck (.t 8)), (some (7, true)), []⟩,
    ⟨(some 10), (.fieldAddr 2 (.t 9)), (some (7, true)), []⟩,
    ⟨(some 11), (.load none (.t 10)), (some (7, true)), []⟩,
    ⟨(some 12), (.bin .eql (.t 11) (.c (.int .i64 0))), (some (7, true)), []⟩,
    ⟨(some 13), (.pick (.t 7) (.t 12) (.c (.bool false))), none, []⟩] none)
  (.cond (.t 13)
  (.region [⟨(some 14), (.mov (.t 0)), none, []⟩,
    ⟨(some 15), (.mov (.t 1)), none, []⟩,
    ⟨(some 16), (.nilCheck (.t 14)), none, []⟩,
    ⟨(some 17), (.fieldAddr 2 (.t 16)), none, []⟩,
    ⟨none, (.store 1 (.t 17) (.t 15)), none, []⟩] none)
  .skip))
def F53 : AFunc := ⟨2, 18, [], B53⟩
def R54_0 : ACode := .region [⟨(some 29), (.mov (.t 0)), none, []⟩,
    ⟨(some 30), (.nilCheck (.t 29)), none, [0]⟩,
    ⟨(some 31), (.fieldAddr 0 (.t 30)), none, [1]⟩,
    ⟨(some 32), (.load none (.t 31)), none, [2]⟩,
    ⟨(some 33), (.mov (.t 0)), none, []⟩,
    ⟨(some 34), (.nilCheck (.t 33)), none, [4]⟩,
    ⟨(some 35), (.fieldAddr 1 (.t 34)), none, [5]⟩,
    ⟨(some 36), (.load none (.t 35)), none, [6]⟩,
    ⟨(some 37), (.mov (.t 1)), none, []⟩,
    ⟨(some 38), (.bin .sub (.t 36) (.t 37)), none, [7, 8]⟩,
    ⟨(some 39), (.mov (.t 0)), none, []⟩,
    ⟨(some 40), (.nilCheck (.t 39)), none, [10]⟩,
    ⟨(some 41), (.fieldAddr 1 (.t 40)), none, [11]⟩,
    ⟨(some 42), (.load none (.t 41)), none, [12]⟩,
    ⟨(some 43), (.slice 1 (.t 32) (some (.t 38)) (some (.t 42)) none), none, [3, 9, 13]⟩,
    ⟨(some 44), (.call (.f 56) [(.t 43)]), none, [14]⟩,
    ⟨(some 4), (.mov (.t 44)), none, [15, 15, 0, 1, 2, 3, 4, 5, 6, 7, 8, 9, 10, 11, 12, 13, 14, 15]⟩] (some [(0, 4), (1, 4), (2, 4), (3, 4), (0, 5), (1, 5), (2, 5), (3, 5), (0, 6), (1, 6), (2, 6), (3, 6), (0, 7), (1, 7), (2, 7), (3, 7), (0, 8), (1, 8), (2, 8), (3, 8), (4, 8), (5, 8), (6, 8), (7, 8), (0, 9), (1, 9), (2, 9), (3, 9), (0, 10), (1, 10), (2, 10), (3, 10), (4, 10), (5, 10), (6, 10), (7, 10), (8, 10), (9, 10), (0, 11), (1, 11), (2, 11), (3, 11), (4, 11), (5, 11), (6, 11), (7, 11), (8, 11), (9, 11), (0, 12), (1, 12), (2, 12), (3, 12), (4, 12), (5, 12), (6, 12), (7, 12), (8, 12), (9, 12), (0, 13), (1, 13), (2, 13), (3, 13), (4, 13), (5, 13), (6, 13), (7, 13), (8, 13), (9, 13)])
/-- (*toll/cut.Cutter).Take -/
def B54 : ACode := (.seq (.region [⟨(some 4), (.mov (.c (.slice none 0 0))), none, []⟩] none)
  (.seq (.block 0 (.seq (.region [⟨(some 6), (.mov (.t 0)), none, []⟩,
    ⟨(some 7), (.call (.f 52) [(.t 6)]), none, []⟩,
    ⟨(some 8), (.bin .neq (.t 7) (.c (.int .i64 0))), none, []⟩,
    ⟨(some 5), (.mov (.t 8)), none, []⟩] none)
  (.cond (.t 5)
  (.seq (.region [⟨(some 4), (.mov (.c (.slice none 0 0))), none, []⟩] none)
  .ret)
  (.seq (.region [⟨(some 10), (.mov (.t 1)), none, []⟩,
    ⟨(some 11), (.bin .lss (.t 10) (.c (.int .i64 0))), none, []⟩,
    ⟨(some 9), (.mov (.t 11)), none, []⟩] none)
  (.cond (.t 9)
  (.seq (.region [⟨(some 12), (.mov (.t 0)), none, []⟩,
    ⟨(some 13), (.call (.f 53) [(.t 12), (.c (.int .i64 1))]), none, []⟩] none)
  (.seq (.region [⟨(some 4), (.mov (.c (.slice none 0 0))), none, []⟩] none)
  .ret))
  (.seq (.region [⟨(some 15), (.mov (.t 1)), none, []⟩,
    ⟨(some 16), (.mov (.t 0)), none, []⟩,
    ⟨(some 17), (.call (.f 72) [(.t 16)]), none, []⟩,
    ⟨(some 18), (.bin .gtr (.t 15) (.t 17)), none, []⟩,
    ⟨(some 14), (.mov (.t 18)), none, []⟩] none)
  (.cond (.t 14)
  (.seq (.region [⟨(some 19), (.mov (.t 0)), none, []⟩,
    ⟨(some 20), (.call (.f 53) [(.t 19), (.c (.int .i64 4))]), none, []⟩] none)
  (.seq (.region [⟨(some 4), (.mov (.c (.slice none 0 0))), none, []⟩] none)
  .ret))
  .skip)))))))
  (.seq (.region [⟨(some 21), (.mov (.t 0)), none, []⟩,
    ⟨(some 22), (.nilCheck (.t 21)), none, []⟩,
    ⟨(some 23), (.fieldAddr 1 (.t 22)), none, []⟩,
    ⟨(some 24), (.load none (.t 23)), none, []⟩,
    ⟨(some 25), (.mov (.t 1)), none, []⟩,
    ⟨(some 26), (.bin .add (.t 24) (.t 25)), none, []⟩,
    ⟨(some 27), (.nilCheck (.t 21)), none, []⟩,
    ⟨(some 28), (.fieldAddr 1 (.t 27)), none, []⟩,
    ⟨none, (.store 1 (.t 28) (.t 26)), none, []⟩] none)
  (.seq R54_0
  .ret))))
def F54 : AFunc := ⟨2, 45, [(.tmp 4)], B54⟩
/-- (*toll/cut.Cutter).Rest -/
def B55 : ACode := (.seq (.region [⟨(some 2), (.mov (.c (.slice none 0 0))), none, []⟩] none)
  (.seq (.region [⟨(some 3), (.mov (.t 0)), none, []⟩,
    ⟨(some 4), (.mov (.t 0)), none, []⟩,
    ⟨(some 5), (.call (.f 72) [(.t 4)]), none, []⟩,
    ⟨(some 6), (.call (.f 54) [(.t 3), (.t 5)]), none, []⟩,
    ⟨(some 2), (.mov (.t 6)), none, []⟩] none)
  .ret))
def F55 : AFunc := ⟨1, 7, [(.tmp 2)], B55⟩
/-- slices.Clone[[]byte,byte] -/
def B56 : ACode := (.seq (.region [⟨(some 2), (.mov (.c (.slice none 0 0))), none, []⟩] none)
  (.seq (.seq (.region [⟨(some 3), (.mov (.t 0)), none, []⟩,
    ⟨(some 4), (.eqv false .slice false (.t 3) (.c (.slice none 0 0))), none, []⟩] none)
  (.cond (.t 4)
  (.seq (.region [⟨(some 2), (.mov (.c (.slice none 0 0))), none, []⟩] none)
  .ret)
  .skip))
  (.seq (.region [⟨(some 5), (.buildSlice 5 1 0 [(.int .u8 0)] []), none, []⟩,
    ⟨(some 6), (.mov (.t 0)), none, []⟩,
    ⟨(some 7), (.append 5 1 1 (.t 5) (.t 6)), none, []⟩,
    ⟨(some 2), (.mov (.t 7)), none, []⟩] none)
  .ret)))
def F56 : AFunc := ⟨1, 8, [(.tmp 2)], B56⟩
/-- toll/trans.sum -/
def B57 : ACode := (.seq (.region [⟨(some 8), (.mov (.c (.int .u16 0))), none, []⟩] none)
  (.seq (.region [⟨(some 10), (.call (.f 41) []), none, []⟩,
    ⟨(some 11), (.mov (.t 0)), none, []⟩,
    ⟨(some 12), (.mov (.t 1)), none, []⟩,
    ⟨(some 13), (.buildSlice 32 1 2 [(.int .u32 0)] [(0, 1, (.t 11)), (1, 1, (.t 12))]), none, []⟩,
    ⟨(some 14), (.call (.f 43) [(.t 10), (.t 13)]), none, []⟩,
    ⟨(some 15), (.mov (.t 2)), none, []⟩,
    ⟨(some 16), (.buildSlice 5 1 2 [(.int .u8 0)] [(0, 1, (.c (.int .u8 0))), (1, 1, (.t 15))]), none, []⟩,
    ⟨(some 17), (.call (.f 44) [(.t 14), (.t 16)]), none, []⟩,
    ⟨(some 18), (.mov (.t 3)), none, []⟩,
    ⟨(some 19), (.lenSlice (.t 18)), none, []⟩,
    ⟨(some 20), (.conv .u16 (.t 19)), none, []⟩,
    ⟨(some 21), (.buildSlice 31 1 1 [(.int .u16 0)] [(0, 1, (.t 20))]), none, []⟩,
    ⟨(some 22), (.call (.f 42) [(.t 17), (.t 21)]), none, []⟩,
    ⟨(some 23), (.call (.f 45) [(.t 22)]), none, []⟩,
    ⟨(some 9), (.mov (.t 23)), none, []⟩] none)
  (.seq (.region [⟨(some 24), (.mov (.t 9)), none, []⟩,
    ⟨(some 25), (.mov (.t 3)), none, []⟩,
    ⟨(some 26), (.buildSlice 33 1 2 [(.slice none 0 0)] [(0, 1, (.t 24)), (1, 1, (.t 25))]), none, []⟩,
    ⟨(some 27), (.call (.f 73) [(.t 26)]), none, []⟩,
    ⟨(some 8), (.mov (.t 27)), none, []⟩] none)
  .ret)))
def F57 : AFunc := ⟨4, 28, [(.tmp 8)], B57⟩
def R58_0 : ACode := .region [⟨(some 5), (.mov (.t 0)), none, []⟩,
    ⟨(some 6), (.mov (.t 1)), none, []⟩,
    ⟨(some 7), (.indexAddr 1 (.t 5) (.t 6)), none, [0, 1]⟩,
    ⟨(some 8), (.load none (.t 7)), none, [2]⟩,
    ⟨(some 9), (.conv .i64 (.t 8)), none, [3]⟩,
    ⟨(some 10), (.bin .mul (.c (.int .i64 256)) (.t 9)), none, [4]⟩,
    ⟨(some 11), (.mov (.t 0)), none, []⟩,
    ⟨(some 12), (.mov (.t 1)), none, []⟩,
    ⟨(some 13), (.bin .add (.t 12) (.c (.int .i64 1))), none, [7]⟩,
    ⟨(some 14), (.indexAddr 1 (.t 11) (.t 13)), none, [6, 8]⟩,
    ⟨(some 15), (.load none (.t 14)), none, [9]⟩,
    ⟨(some 16), (.conv .i64 (.t 15)), none, [10]⟩,
    ⟨(some 17), (.bin .add (.t 10) (.t 16)), none, [5, 11]⟩,
    ⟨(some 4), (.mov (.t 17)), none, [12, 0, 1, 2, 3, 4, 5, 6, 7, 8, 9, 10, 11, 12]⟩] (some [(0, 1), (0, 6), (1, 6), (2, 6), (3, 6), (4, 6), (5, 6), (0, 7), (1, 7), (2, 7), (3, 7), (4, 7), (5, 7), (6, 7), (0, 8), (1, 8), (2, 8), (3, 8), (4, 8), (5, 8), (6, 8), (0, 9), (1, 9), (2, 9), (3, 9), (4, 9), (5, 9), (0, 10), (1, 10), (2, 10), (3, 10), (4, 10), (5, 10), (0, 11), (1, 11), (2, 11), (3, 11), (4, 11), (5, 11)])
/-- toll/tollref07.two -/
def B58 : ACode := (.seq (.region [⟨(some 4), (.mov (.c (.int .i64 0))), none, []⟩] none)
  (.seq R58_0
  .ret))
def F58 : AFunc := ⟨2, 18, [(.tmp 4)], B58⟩
/-- toll/tollref07.four -/
def B59 : ACode := (.seq (.region [⟨(some 4), (.mov (.c (.int .u32 0))), none, []⟩] none)
  (.seq (.region [⟨(some 5), (.mov (.t 0)), none, []⟩,
    ⟨(some 6), (.mov (.t 1)), none, []⟩,
    ⟨(some 7), (.call (.f 58) [(.t 5), (.t 6)]), none, []⟩,
    ⟨(some 8), (.conv .u32 (.t 7)), none, []⟩,
    ⟨(some 9), (.bin .mul (.c (.int .u32 65536)) (.t 8)), none, []⟩,
    ⟨(some 10), (.mov (.t 0)), none, []⟩,
    ⟨(some 11), (.mov (.t 1)), none, []⟩,
    ⟨(some 12), (.bin .add (.t 11) (.c (.int .i64 2))), none, []⟩,
    ⟨(some 13), (.call (.f 58) [(.t 10), (.t 12)]), none, []⟩,
    ⟨(some 14), (.conv .u32 (.t 13)), none, []⟩,
    ⟨(some 15), (.bin .add (.t 9) (.t 14)), none, []⟩,
    ⟨(some 4), (.mov (.t 15)), none, []⟩] none)
  .ret))
def F59 : AFunc := ⟨2, 16, [(.tmp 4)], B59⟩
/-- toll/tollref07.words -/
def F60L0 : ACode := (.seq (.seq (.region [⟨(some 5), (.mov (.t 4)), none, []⟩,
    ⟨(some 6), (.mov (.t 0)), none, []⟩,
    ⟨(some 7), (.lenSlice (.t 6)), none, []⟩,
    ⟨(some 8), (.bin .lss (.t 5) (.t 7)), none, []⟩] none)
  (.cond (.t 8)
  .skip
  (.exit 0)))
  (.seq (.block 1 (.seq (.seq (.region [⟨(some 11), (.mov (.t 4)), none, []⟩,
    ⟨(some 12), (.bin .rem (.t 11) (.c (.int .i64 2))), none, []⟩,
    ⟨(some 13), (.bin .eql (.t 12) (.c (.int .i64 0))), none, []⟩] none)
  (.cond (.t 13)
  (.region [⟨(some 14), (.mov (.t 3)), none, []⟩,
    ⟨(some 15), (.mov (.t 0)), none, []⟩,
    ⟨(some 16), (.mov (.t 4)), none, []⟩,
    ⟨(some 17), (.indexAddr 1 (.t 15) (.t 16)), none, []⟩,
    ⟨(some 18), (.load none (.t 17)), none, []⟩,
    ⟨(some 19), (.conv .i64 (.t 18)), none, []⟩,
    ⟨(some 20), (.bin .mul (.c (.int .i64 256)) (.t 19)), none, []⟩,
    ⟨(some 21), (.bin .add (.t 14) (.t 20)), none, []⟩,
    ⟨(some 3), (.mov (.t 21)), none, []⟩] none)
  (.region [⟨(some 22), (.mov (.t 3)), none, []⟩,
    ⟨(some 23), (.mov (.t 0)), none, []⟩,
    ⟨(some 24), (.mov (.t 4)), none, []⟩,
    ⟨(some 25), (.indexAddr 1 (.t 23) (.t 24)), none, []⟩,
    ⟨(some 26), (.load none (.t 25)), none, []⟩,
    ⟨(some 27), (.conv .i64 (.t 26)), none, []⟩,
    ⟨(some 28), (.bin .add (.t 22) (.t 27)), none, []⟩,
    ⟨(some 3), (.mov (.t 28)), none, []⟩] none)))
  (.seq (.region [⟨(some 29), (.mov (.t 3)), none, []⟩,
    ⟨(some 30), (.bin .gtr (.t 29) (.c (.int .i64 65535))), none, []⟩] none)
  (.cond (.t 30)
  (.region [⟨(some 31), (.mov (.t 3)), none, []⟩,
    ⟨(some 32), (.bin .sub (.t 31) (.c (.int .i64 65535))), none, []⟩,
    ⟨(some 3), (.mov (.t 32)), none, []⟩] none)
  .skip))))
  (.region [⟨(some 9), (.mov (.t 4)), none, []⟩,
    ⟨(some 10), (.bin .add (.t 9) (.c (.int .i64 1))), none, []⟩,
    ⟨(some 4), (.mov (.t 10)), none, []⟩] none)))
def B60 : ACode := (.seq (.region [⟨(some 2), (.mov (.c (.int .i64 0))), none, []⟩] none)
  (.seq (.region [⟨(some 3), (.mov (.c (.int .i64 0))), none, []⟩] none)
  (.seq (.seq (.region [⟨(some 4), (.mov (.c (.int .i64 0))), none, []⟩] none)
  (.block 0 (.loop F60L0)))
  (.seq (.region [⟨(some 33), (.mov (.t 3)), none, []⟩,
    ⟨(some 2), (.mov (.t 33)), none, []⟩] none)
  .ret))))
def F60 : AFunc := ⟨1, 34, [(.tmp 2)], B60⟩
-- F60L0 live: [0, 3, 4]
/-- toll/tollref07.all -/
def B61 : ACode := (.seq (.region [⟨(some 8), (.mov (.c (.slice none 0 0))), none, []⟩] none)
  (.seq (.region [⟨(some 9), (.mov (.c (.slice none 0 0))), none, []⟩] none)
  (.seq (.region [⟨(some 10), (.mov (.t 9)), none, []⟩,
    ⟨(some 11), (.mov (.t 0)), none, []⟩,
    ⟨(some 12), (.bin .quo (.t 11) (.c (.int .u32 65536))), none, []⟩,
    ⟨(some 13), (.conv .i64 (.t 12)), none, []⟩,
    ⟨(some 14), (.call (.f 46) [(.t 10), (.t 13)]), none, []⟩,
    ⟨(some 9), (.mov (.t 14)), none, []⟩] none)
  (.seq (.region [⟨(some 15), (.mov (.t 9)), none, []⟩,
    ⟨(some 16), (.mov (.t 0)), none, []⟩,
    ⟨(some 17), (.bin .rem (.t 16) (.c (.int .u32 65536))), none, []⟩,
    ⟨(some 18), (.conv .i64 (.t 17)), none, []⟩,
    ⟨(some 19), (.call (.f 46) [(.t 15), (.t 18)]), none, []⟩,
    ⟨(some 9), (.mov (.t 19)), none, []⟩] none)
  (.seq (.region [⟨(some 20), (.mov (.t 9)), none, []⟩,
    ⟨(some 21), (.mov (.t 1)), none, []⟩,
    ⟨(some 22), (.bin .quo (.t 21) (.c (.int .u32 65536))), none, []⟩,
    ⟨(some 23), (.conv .i64 (.t 22)), none, []⟩,
    ⟨(some 24), (.call (.f 46) [(.t 20), (.t 23)]), none, []⟩,
    ⟨(some 9), (.mov (.t 24)), none, []⟩] none)
  (.seq (.region [⟨(some 25), (.mov (.t 9)), none, []⟩,
    ⟨(some 26), (.mov (.t 1)), none, []⟩,
    ⟨(some 27), (.bin .rem (.t 26) (.c (.int .u32 65536))), none, []⟩,
    ⟨(some 28), (.conv .i64 (.t 27)), none, []⟩,
    ⟨(some 29), (.call (.f 46) [(.t 25), (.t 28)]), none, []⟩,
    ⟨(some 9), (.mov (.t 29)), none, []⟩] none)
  (.seq (.region [⟨(some 30), (.mov (.t 9)), none, []⟩,
    ⟨(some 31), (.mov (.t 2)), none, []⟩,
    ⟨(some 32), (.conv .u8 (.t 31)), none, []⟩,
    ⟨(some 33), (.buildSlice 5 1 2 [(.int .u8 0)] [(0, 1, (.c (.int .u8 0))), (1, 1, (.t 32))]), none, []⟩,
    ⟨(some 34), (.append 5 1 1 (.t 30) (.t 33)), none, []⟩,
    ⟨(some 9), (.mov (.t 34)), none, []⟩] none)
  (.seq (.region [⟨(some 35), (.mov (.t 9)), none, []⟩,
    ⟨(some 36), (.mov (.t 3)), none, []⟩,
    ⟨(some 37), (.lenSlice (.t 36)), none, []⟩,
    ⟨(some 38), (.call (.f 46) [(.t 35), (.t 37)]), none, []⟩,
    ⟨(some 9), (.mov (.t 38)), none, []⟩] none)
  (.seq (.region [⟨(some 39), (.mov (.t 9)), none, []⟩,
    ⟨(some 40), (.mov (.t 3)), none, []⟩,
    ⟨(some 41), (.append 5 1 1 (.t 39) (.t 40)), none, []⟩,
    ⟨(some 8), (.mov (.t 41)), none, []⟩] none)
  .ret)))))))))
def F61 : AFunc := ⟨4, 42, [(.tmp 8)], B61⟩
/-- strings.explode -/
def F62L0 : ACode := (.seq (.seq (.region [⟨(some 22), (.mov (.t 7)), none, []⟩,
    ⟨(some 23), (.mov (.t 1)), none, []⟩,
    ⟨(some 24), (.bin .sub (.t 23) (.c (.int .i64 1))), none, []⟩,
    ⟨(some 25), (.bin .lss (.t 22) (.t 24)), none, []⟩] none)
  (.cond (.t 25)
  .skip
  (.exit 0)))
  (.seq (.block 1 (.seq (.region [⟨(some 29), (.mov (.t 0)), none, []⟩,
    ⟨(some 30), (.call (.f 75) [(.t 29)]), none, []⟩,
    ⟨(some 28), (.mov (.t 30)), none, []⟩,
    ⟨(some 31), (.extract (.t 28) 0), none, []⟩,
    ⟨(some 32), (.extract (.t 28) 1), none, []⟩,
    ⟨(some 8), (.mov (.t 31)), none, []⟩,
    ⟨(some 9), (.mov (.t 32)), none, []⟩] none)
  (.seq (.region [⟨(some 33), (.mov (.t 6)), none, []⟩,
    ⟨(some 34), (.mov (.t 7)), none, []⟩,
    ⟨(some 35), (.mov (.t 0)), none, []⟩,
    ⟨(some 36), (.mov (.t 9)), none, []⟩,
    ⟨(some 37), (.sliceStr (.t 35) none (some (.t 36))), none, []⟩,
    ⟨(some 38), (.indexAddr 1 (.t 33) (.t 34)), none, []⟩,
    ⟨none, (.store 1 (.t 38) (.t 37)), none, []⟩] none)
  (.region [⟨(some 39), (.mov (.t 0)), none, []⟩,
    ⟨(some 40), (.mov (.t 9)), none, []⟩,
    ⟨(some 41), (.sliceStr (.t 39) (some (.t 40)) none), none, []⟩,
    ⟨(some 0), (.mov (.t 41)), none, []⟩] none))))
  (.region [⟨(some 26), (.mov (.t 7)), none, []⟩,
    ⟨(some 27), (.bin .add (.t 26) (.c (.int .i64 1))), none, []⟩,
    ⟨(some 7), (.mov (.t 27)), none, []⟩] none)))
def B62 : ACode := (.seq (.region [⟨(some 4), (.mov (.c (.slice none 0 0))), none, []⟩] none)
  (.seq (.region [⟨(some 10), (.mov (.t 0)), none, []⟩,
    ⟨(some 11), (.call (.f 74) [(.t 10)]), none, []⟩,
    ⟨(some 5), (.mov (.t 11)), none, []⟩] none)
  (.seq (.seq (.region [⟨(some 12), (.mov (.t 1)), none, []⟩,
    ⟨(some 13), (.bin .lss (.t 12) (.c (.int .i64 0))), none, []⟩,
    ⟨(some 14), (.mov (.t 13)), none, []⟩,
    ⟨(some 15), (.mov (.t 1)), (some (14, false)), []⟩,
    ⟨(some 16), (.mov (.t 5)), (some (14, false)), []⟩,
    ⟨(some 17), (.bin .gtr (.t 15) (.t 16)), (some (14, false)), []⟩,
    ⟨(some 18), (.pick (.t 14) (.c (.bool true)) (.t 17)), none, []⟩] none)
  (.cond (.t 18)
  (.region [⟨(some 19), (.mov (.t 5)), none, []⟩,
    ⟨(some 1), (.mov (.t 19)), none, []⟩] none)
  .skip))
  (.seq (.region [⟨(some 20), (.mov (.t 1)), none, []⟩,
    ⟨(some 21), (.makeSlice 9 1 16 [(.string ⟨#[]⟩)] (.t 20) (.t 20)), none, []⟩,
    ⟨(some 6), (.mov (.t 21)), none, []⟩] none)
  (.seq (.seq (.region [⟨(some 7), (.mov (.c (.int .i64 0))), none, []⟩] none)
  (.block 0 (.loop F62L0)))
  (.seq (.seq (.region [⟨(some 42), (.mov (.t 1)), none, []⟩,
    ⟨(some 43), (.bin .gtr (.t 42) (.c (.int .i64 0))), none, []⟩] none)
  (.cond (.t 43)
  (.region [⟨(some 44), (.mov (.t 6)), none, []⟩,
    ⟨(some 45), (.mov (.t 1)), none, []⟩,
    ⟨(some 46), (.bin .sub (.t 45) (.c (.int .i64 1))), none, []⟩,
    ⟨(some 47), (.mov (.t 0)), none, []⟩,
    ⟨(some 48), (.indexAddr 1 (.t 44) (.t 46)), none, []⟩,
    ⟨none, (.store 1 (.t 48) (.t 47)), none, []⟩] none)
  .skip))
  (.seq (.region [⟨(some 49), (.mov (.t 6)), none, []⟩,
    ⟨(some 4), (.mov (.t 49)), none, []⟩] none)
  .ret)))))))
def F62 : AFunc := ⟨2, 50, [(.tmp 4)], B62⟩
-- F62L0 live: [0, 1, 6, 7]
/-- strings.Count -/
def F63L0 : ACode := (.block 1 (.seq (.region [⟨(some 20), (.mov (.t 0)), none, []⟩,
    ⟨(some 21), (.mov (.t 1)), none, []⟩,
    ⟨(some 22), (.call (.f 64) [(.t 20), (.t 21)]), none, []⟩,
    ⟨(some 6), (.mov (.t 22)), none, []⟩] none)
  (.seq (.seq (.region [⟨(some 23), (.mov (.t 6)), none, []⟩,
    ⟨(some 24), (.bin .eql (.t 23) (.c (.int .i64 (-1)))), none, []⟩] none)
  (.cond (.t 24)
  (.seq (.region [⟨(some 25), (.mov (.t 5)), none, []⟩,
    ⟨(some 4), (.mov (.t 25)), none, []⟩] none)
  .ret)
  .skip))
  (.seq (.region [⟨(some 26), (.mov (.t 5)), none, []⟩,
    ⟨(some 27), (.bin .add (.t 26) (.c (.int .i64 1))), none, []⟩,
    ⟨(some 5), (.mov (.t 27)), none, []⟩] none)
  (.region [⟨(some 28), (.mov (.t 0)), none, []⟩,
    ⟨(some 29), (.mov (.t 6)), none, []⟩,
    ⟨(some 30), (.mov (.t 1)), none, []⟩,
    ⟨(some 31), (.lenStr (.t 30)), none, []⟩,
    ⟨(some 32), (.bin .add (.t 29) (.t 31)), none, []⟩,
    ⟨(some 33), (.sliceStr (.t 28) (some (.t 32)) none), none, []⟩,
    ⟨(some 0), (.mov (.t 33)), none, []⟩] none)))))
def B63 : ACode := (.seq (.region [⟨(some 4), (.mov (.c (.int .i64 0))), none, []⟩] none)
  (.seq (.seq (.region [⟨(some 7), (.mov (.t 1)), none, []⟩,
    ⟨(some 8), (.lenStr (.t 7)), none, []⟩,
    ⟨(some 9), (.bin .eql (.t 8) (.c (.int .i64 0))), none, []⟩] none)
  (.cond (.t 9)
  (.seq (.region [⟨(some 10), (.mov (.t 0)), none, []⟩,
    ⟨(some 11), (.call (.f 74) [(.t 10)]), none, []⟩,
    ⟨(some 12), (.bin .add (.t 11) (.c (.int .i64 1))), none, []⟩,
    ⟨(some 4), (.mov (.t 12)), none, []⟩] none)
  .ret)
  .skip))
  (.seq (.seq (.region [⟨(some 13), (.mov (.t 1)), none, []⟩,
    ⟨(some 14), (.lenStr (.t 13)), none, []⟩,
    ⟨(some 15), (.bin .eql (.t 14) (.c (.int .i64 1))), none, []⟩] none)
  (.cond (.t 15)
  (.seq (.region [⟨(some 16), (.mov (.t 0)), none, []⟩,
    ⟨(some 17), (.mov (.t 1)), none, []⟩,
    ⟨(some 18), (.indexStr (.t 17) (.c (.int .i64 0))), none, []⟩,
    ⟨(some 19), (.call (.f 76) [(.t 16), (.t 18)]), none, []⟩,
    ⟨(some 4), (.mov (.t 19)), none, []⟩] none)
  .ret)
  .skip))
  (.seq (.region [⟨(some 5), (.mov (.c (.int .i64 0))), none, []⟩] none)
  (.block 0 (.loop F63L0))))))
def F63 : AFunc := ⟨2, 34, [(.tmp 4)], B63⟩
-- F63L0 live: [0, 1, 5]
/-- strings.Index -/
def B64 : ACode := (.seq (.region [⟨(some 4), (.mov (.c (.int .i64 0))), none, []⟩] none)
  (.seq (.region [⟨(some 5), (.mov (.t 0)), none, []⟩,
    ⟨(some 6), (.mov (.t 1)), none, []⟩,
    ⟨(some 7), (.call (.f 77) [(.t 5), (.t 6)]), none, []⟩,
    ⟨(some 4), (.mov (.t 7)), none, []⟩] none)
  .ret))
def F64 : AFunc := ⟨2, 8, [(.tmp 4)], B64⟩
/-- (*strings.Builder).copyCheck -/
def B65 : ACode := (.seq (.region [⟨(some 2), (.mov (.t 0)), none, []⟩,
    ⟨(some 3), (.nilCheck (.t 2)), none, []⟩,
    ⟨(some 4), (.fieldAddr 0 (.t 3)), none, []⟩,
    ⟨(some 5), (.load none (.t 4)), none, []⟩,
    ⟨(some 6), (.eqv false .ptr false (.t 5) (.c (.pointer none))), none, []⟩] none)
  (.cond (.t 6)
  (.region [⟨(some 7), (.mov (.t 0)), none, []⟩,
    ⟨(some 8), (.mov (.t 0)), none, []⟩,
    ⟨(some 9), (.toUnsafe (.t 8)), none, []⟩,
    ⟨(some 10), (.call (.f 78) [(.t 9)]), none, []⟩,
    ⟨(some 11), (.fromUnsafe 85 2 (.t 10)), none, []⟩,
    ⟨(some 12), (.nilCheck (.t 7)), none, []⟩,
    ⟨(some 13), (.fieldAddr 0 (.t 12)), none, []⟩,
    ⟨none, (.store 1 (.t 13) (.t 11)), none, []⟩] none)
  (.seq (.region [⟨(some 14), (.mov (.t 0)), none, []⟩,
    ⟨(some 15), (.nilCheck (.t 14)), none, []⟩,
    ⟨(some 16), (.fieldAddr 0 (.t 15)), none, []⟩,
    ⟨(some 17), (.load none (.t 16)), none, []⟩,
    ⟨(some 18), (.mov (.t 0)), none, []⟩,
    ⟨(some 19), (.eqv true .ptr false (.t 17) (.t 18)), none, []⟩] none)
  (.cond (.t 19)
  .fail
  .skip))))
def F65 : AFunc := ⟨1, 20, [], B65⟩
def R66_0 : ACode := .region [⟨(some 5), (.mov (.t 0)), none, []⟩,
    ⟨(some 6), (.nilCheck (.t 5)), none, [0]⟩,
    ⟨(some 7), (.fieldAddr 1 (.t 6)), none, [1]⟩,
    ⟨(some 8), (.load none (.t 7)), none, [2]⟩,
    ⟨(some 9), (.cap (.t 8)), none, [3]⟩,
    ⟨(some 10), (.bin .mul (.c (.int .i64 2)) (.t 9)), none, [4]⟩,
    ⟨(some 11), (.mov (.t 1)), none, []⟩,
    ⟨(some 12), (.bin .add (.t 10) (.t 11)), none, [5, 6]⟩,
    ⟨(some 13), (.call (.f 79) [(.t 12)]), none, [7]⟩,
    ⟨(some 14), (.mov (.t 0)), none, []⟩,
    ⟨(some 15), (.nilCheck (.t 14)), none, [9]⟩,
    ⟨(some 16), (.fieldAddr 1 (.t 15)), none, [10]⟩,
    ⟨(some 17), (.load none (.t 16)), none, [11]⟩,
    ⟨(some 18), (.lenSlice (.t 17)), none, [12]⟩,
    ⟨(some 19), (.slice 1 (.t 13) none (some (.t 18)) none), none, [8, 13]⟩,
    ⟨(some 4), (.mov (.t 19)), none, [14, 8, 0, 1, 2, 3, 4, 5, 6, 7, 8, 9, 10, 11, 12, 13, 14]⟩] (some [(0, 6), (1, 6), (2, 6), (3, 6), (4, 6), (5, 6), (0, 9), (1, 9), (2, 9), (3, 9), (4, 9), (5, 9), (6, 9), (7, 9), (8, 9), (0, 10), (1, 10), (2, 10), (3, 10), (4, 10), (5, 10), (6, 10), (7, 10), (8, 10), (0, 11), (1, 11), (2, 11), (3, 11), (4, 11), (5, 11), (6, 11), (7, 11), (8, 11), (0, 12), (1, 12), (2, 12), (3, 12), (4, 12), (5, 12), (6, 12), (7, 12), (8, 12), (0, 13), (1, 13), (2, 13), (3, 13), (4, 13), (5, 13), (6, 13), (7, 13), (8, 13)])
/-- (*strings.Builder).grow -/
def B66 : ACode := (.seq R66_0
  (.seq (.region [⟨(some 20), (.mov (.t 4)), none, []⟩,
    ⟨(some 21), (.mov (.t 0)), none, []⟩,
    ⟨(some 22), (.nilCheck (.t 21)), none, []⟩,
    ⟨(some 23), (.fieldAddr 1 (.t 22)), none, []⟩,
    ⟨(some 24), (.load none (.t 23)), none, []⟩,
    ⟨(some 25), (.copy 1 (.t 20) (.t 24)), none, []⟩] none)
  (.region [⟨(some 26), (.mov (.t 0)), none, []⟩,
    ⟨(some 27), (.mov (.t 4)), none, []⟩,
    ⟨(some 28), (.nilCheck (.t 26)), none, []⟩,
    ⟨(some 29), (.fieldAddr 1 (.t 28)), none, []⟩,
    ⟨none, (.store 1 (.t 29) (.t 27)), none, []⟩] none)))
def F66 : AFunc := ⟨2, 30, [], B66⟩
/-- (*toll/cut.Pad).none -/
def B67 : ACode := (.seq (.region [⟨(some 2), (.mov (.c (.bool false))), none, []⟩] none)
  (.seq (.region [⟨(some 3), (.mov (.t 0)), none, []⟩,
    ⟨(some 4), (.eqv false .ptr false (.t 3) (.c (.pointer none))), none, []⟩,
    ⟨(some 5), (.mov (.t 4)), none, []⟩,
    ⟨(some 6), (.mov (.t 0)), (some (5, false)), []⟩,
    ⟨(some 7), (.nilCheck (.t 6)), (some (5, false)), []⟩,
    ⟨(some 8), (.fieldAddr 1 (.t 7)), (some (5, false)), []⟩,
    ⟨(some 9), (.load none (.t 8)), (some (5, false)), []⟩,
    ⟨(some 10), (.un .not (.t 9)), (some (5, false)), []⟩,
    ⟨(some 11), (.pick (.t 5) (.c (.bool true)) (.t 10)), none, []⟩,
    ⟨(some 2), (.mov (.t 11)), none, []⟩] none)
  .ret))
def F67 : AFunc := ⟨1, 12, [(.tmp 2)], B67⟩
/-- toll/cut.number[uint16] -/
def F68L0 : ACode := (.seq (.region [⟨(some 13), (.bin .lss (.t 12) (.t 11)), none, []⟩] none)
  (.seq (.cond (.t 13)
  .skip
  (.exit 0))
  (.seq (.block 1 (.seq (.region [⟨(some 14), (.indexAddr 1 (.t 10) (.t 12)), none, []⟩,
    ⟨(some 15), (.load none (.t 14)), none, []⟩,
    ⟨(some 7), (.mov (.t 15)), none, []⟩] none)
  (.region [⟨(some 16), (.mov (.t 5)), none, []⟩,
    ⟨(some 17), (.bin .shl (.t 16) (.c (.int .u64 8))), none, []⟩,
    ⟨(some 18), (.mov (.t 7)), none, []⟩,
    ⟨(some 19), (.conv .u32 (.t 18)), none, []⟩,
    ⟨(some 20), (.bin .or (.t 17) (.t 19)), none, []⟩,
    ⟨(some 5), (.mov (.t 20)), none, []⟩] none)))
  (.region [⟨(some 21), (.bin .add (.t 12) (.c (.int .i64 1))), none, []⟩,
    ⟨(some 12), (.mov (.t 21)), none, []⟩] none))))
def B68 : ACode := (.seq (.region [⟨(some 4), (.mov (.c (.int .u16 0))), none, []⟩] none)
  (.seq (.region [⟨(some 5), (.mov (.c (.int .u32 0))), none, []⟩] none)
  (.seq (.seq (.region [⟨(some 8), (.mov (.t 0)), none, []⟩,
    ⟨(some 9), (.mov (.t 1)), none, []⟩,
    ⟨(some 10), (.call (.f 54) [(.t 8), (.t 9)]), none, []⟩,
    ⟨(some 11), (.lenSlice (.t 10)), none, []⟩,
    ⟨(some 12), (.mov (.c (.int .i64 0))), none, []⟩] none)
  (.block 0 (.loop F68L0)))
  (.seq (.region [⟨(some 22), (.mov (.t 5)), none, []⟩,
    ⟨(some 23), (.conv .u16 (.t 22)), none, []⟩,
    ⟨(some 4), (.mov (.t 23)), none, []⟩] none)
  .ret))))
def F68 : AFunc := ⟨2, 24, [(.tmp 4)], B68⟩
-- F68L0 live: [5, 10, 11, 12]
/-- toll/cut.number[uint32] -/
def F69L0 : ACode := (.seq (.region [⟨(some 13), (.bin .lss (.t 12) (.t 11)), none, []⟩] none)
  (.seq (.cond (.t 13)
  .skip
  (.exit 0))
  (.seq (.block 1 (.seq (.region [⟨(some 14), (.indexAddr 1 (.t 10) (.t 12)), none, []⟩,
    ⟨(some 15), (.load none (.t 14)), none, []⟩,
    ⟨(some 7), (.mov (.t 15)), none, []⟩] none)
  (.region [⟨(some 16), (.mov (.t 5)), none, []⟩,
    ⟨(some 17), (.bin .shl (.t 16) (.c (.int .u64 8))), none, []⟩,
    ⟨(some 18), (.mov (.t 7)), none, []⟩,
    ⟨(some 19), (.conv .u32 (.t 18)), none, []⟩,
    ⟨(some 20), (.bin .or (.t 17) (.t 19)), none, []⟩,
    ⟨(some 5), (.mov (.t 20)), none, []⟩] none)))
  (.region [⟨(some 21), (.bin .add (.t 12) (.c (.int .i64 1))), none, []⟩,
    ⟨(some 12), (.mov (.t 21)), none, []⟩] none))))
def B69 : ACode := (.seq (.region [⟨(some 4), (.mov (.c (.int .u32 0))), none, []⟩] none)
  (.seq (.region [⟨(some 5), (.mov (.c (.int .u32 0))), none, []⟩] none)
  (.seq (.seq (.region [⟨(some 8), (.mov (.t 0)), none, []⟩,
    ⟨(some 9), (.mov (.t 1)), none, []⟩,
    ⟨(some 10), (.call (.f 54) [(.t 8), (.t 9)]), none, []⟩,
    ⟨(some 11), (.lenSlice (.t 10)), none, []⟩,
    ⟨(some 12), (.mov (.c (.int .i64 0))), none, []⟩] none)
  (.block 0 (.loop F69L0)))
  (.seq (.region [⟨(some 22), (.mov (.t 5)), none, []⟩,
    ⟨(some 4), (.mov (.t 22)), none, []⟩] none)
  .ret))))
def F69 : AFunc := ⟨2, 23, [(.tmp 4)], B69⟩
-- F69L0 live: [5, 10, 11, 12]
/-- toll/cut.number[byte] -/
def F70L0 : ACode := (.seq (.region [⟨(some 13), (.bin .lss (.t 12) (.t 11)), none, []⟩] none)
  (.seq (.cond (.t 13)
  .skip
  (.exit 0))
  (.seq (.block 1 (.seq (.region [⟨(some 14), (.indexAddr 1 (.t 10) (.t 12)), none, []⟩,
    ⟨(some 15), (.load none (.t 14)), none, []⟩,
    ⟨(some 7), (.mov (.t 15)), none, []⟩] none)
  (.region [⟨(some 16), (.mov (.t 5)), none, []⟩,
    ⟨(some 17), (.bin .shl (.t 16) (.c (.int .u64 8))), none, []⟩,
    ⟨(some 18), (.mov (.t 7)), none, []⟩,
    ⟨(some 19), (.conv .u32 (.t 18)), none, []⟩,
    ⟨(some 20), (.bin .or (.t 17) (.t 19)), none, []⟩,
    ⟨(some 5), (.mov (.t 20)), none, []⟩] none)))
  (.region [⟨(some 21), (.bin .add (.t 12) (.c (.int .i64 1))), none, []⟩,
    ⟨(some 12), (.mov (.t 21)), none, []⟩] none))))
def B70 : ACode := (.seq (.region [⟨(some 4), (.mov (.c (.int .u8 0))), none, []⟩] none)
  (.seq (.region [⟨(some 5), (.mov (.c (.int .u32 0))), none, []⟩] none)
  (.seq (.seq (.region [⟨(some 8), (.mov (.t 0)), none, []⟩,
    ⟨(some 9), (.mov (.t 1)), none, []⟩,
    ⟨(some 10), (.call (.f 54) [(.t 8), (.t 9)]), none, []⟩,
    ⟨(some 11), (.lenSlice (.t 10)), none, []⟩,
    ⟨(some 12), (.mov (.c (.int .i64 0))), none, []⟩] none)
  (.block 0 (.loop F70L0)))
  (.seq (.region [⟨(some 22), (.mov (.t 5)), none, []⟩,
    ⟨(some 23), (.conv .u8 (.t 22)), none, []⟩,
    ⟨(some 4), (.mov (.t 23)), none, []⟩] none)
  .ret))))
def F70 : AFunc := ⟨2, 24, [(.tmp 4)], B70⟩
-- F70L0 live: [5, 10, 11, 12]
/-- (*toll/cut.Cutter).none -/
def B71 : ACode := (.seq (.region [⟨(some 2), (.mov (.c (.bool false))), none, []⟩] none)
  (.seq (.region [⟨(some 3), (.mov (.t 0)), none, []⟩,
    ⟨(some 4), (.eqv false .ptr false (.t 3) (.c (.pointer none))), none, []⟩,
    ⟨(some 5), (.mov (.t 4)), none, []⟩,
    ⟨(some 6), (.mov (.t 0)), (some (5, false)), []⟩,
    ⟨(some 7), (.nilCheck (.t 6)), (some (5, false)), []⟩,
    ⟨(some 8), (.fieldAddr 3 (.t 7)), (some (5, false)), []⟩,
    ⟨(some 9), (.load none (.t 8)), (some (5, false)), []⟩,
    ⟨(some 10), (.un .not (.t 9)), (some (5, false)), []⟩,
    ⟨(some 11), (.pick (.t 5) (.c (.bool true)) (.t 10)), none, []⟩,
    ⟨(some 2), (.mov (.t 11)), none, []⟩] none)
  .ret))
def F71 : AFunc := ⟨1, 12, [(.tmp 2)], B71⟩
def R72_0 : ACode := .region [⟨(some 6), (.mov (.t 0)), none, []⟩,
    ⟨(some 7), (.nilCheck (.t 6)), none, [0]⟩,
    ⟨(some 8), (.fieldAddr 0 (.t 7)), none, [1]⟩,
    ⟨(some 9), (.load none (.t 8)), none, [2]⟩,
    ⟨(some 10), (.lenSlice (.t 9)), none, [3]⟩,
    ⟨(some 11), (.mov (.t 0)), none, []⟩,
    ⟨(some 12), (.nilCheck (.t 11)), none, [5]⟩,
    ⟨(some 13), (.fieldAddr 1 (.t 12)), none, [6]⟩,
    ⟨(some 14), (.load none (.t 13)), none, [7]⟩,
    ⟨(some 15), (.bin .sub (.t 10) (.t 14)), none, [4, 8]⟩,
    ⟨(some 2), (.mov (.t 15)), none, [9, 0, 1, 2, 3, 4, 5, 6, 7, 8, 9]⟩] (some [(0, 5), (1, 5), (2, 5), (3, 5), (4, 5), (0, 6), (1, 6), (2, 6), (3, 6), (4, 6), (0, 7), (1, 7), (2, 7), (3, 7), (4, 7), (0, 8), (1, 8), (2, 8), (3, 8), (4, 8)])
/-- (*toll/cut.Cutter).Left -/
def B72 : ACode := (.seq (.region [⟨(some 2), (.mov (.c (.int .i64 0))), none, []⟩] none)
  (.seq (.seq (.region [⟨(some 3), (.mov (.t 0)), none, []⟩,
    ⟨(some 4), (.call (.f 52) [(.t 3)]), none, []⟩,
    ⟨(some 5), (.bin .neq (.t 4) (.c (.int .i64 0))), none, []⟩] none)
  (.cond (.t 5)
  (.seq (.region [⟨(some 2), (.mov (.c (.int .i64 0))), none, []⟩] none)
  .ret)
  .skip))
  (.seq R72_0
  .ret)))
def F72 : AFunc := ⟨1, 16, [(.tmp 2)], B72⟩
/-- toll/cut.Sum -/
def F73L0 : ACode := (.seq (.region [⟨(some 18), (.bin .lss (.t 17) (.t 16)), none, []⟩] none)
  (.seq (.cond (.t 18)
  .skip
  (.exit 2))
  (.seq (.block 3 (.seq (.region [⟨(some 19), (.indexAddr 1 (.t 15) (.t 17)), none, []⟩,
    ⟨(some 20), (.load none (.t 19)), none, []⟩,
    ⟨(some 8), (.mov (.t 20)), none, []⟩] none)
  (.seq (.seq (.region [⟨(some 21), (.mov (.t 4)), none, []⟩] none)
  (.cond (.t 21)
  (.region [⟨(some 22), (.mov (.t 3)), none, []⟩,
    ⟨(some 23), (.mov (.t 8)), none, []⟩,
    ⟨(some 24), (.conv .u64 (.t 23)), none, []⟩,
    ⟨(some 25), (.bin .shl (.t 24) (.c (.int .u64 8))), none, []⟩,
    ⟨(some 26), (.bin .add (.t 22) (.t 25)), none, []⟩,
    ⟨(some 3), (.mov (.t 26)), none, []⟩] none)
  (.region [⟨(some 27), (.mov (.t 3)), none, []⟩,
    ⟨(some 28), (.mov (.t 8)), none, []⟩,
    ⟨(some 29), (.conv .u64 (.t 28)), none, []⟩,
    ⟨(some 30), (.bin .add (.t 27) (.t 29)), none, []⟩,
    ⟨(some 3), (.mov (.t 30)), none, []⟩] none)))
  (.region [⟨(some 31), (.mov (.t 4)), none, []⟩,
    ⟨(some 32), (.un .not (.t 31)), none, []⟩,
    ⟨(some 4), (.mov (.t 32)), none, []⟩] none))))
  (.region [⟨(some 33), (.bin .add (.t 17) (.c (.int .i64 1))), none, []⟩,
    ⟨(some 17), (.mov (.t 33)), none, []⟩] none))))
def F73L1 : ACode := (.seq (.region [⟨(some 12), (.bin .lss (.t 11) (.t 10)), none, []⟩] none)
  (.seq (.cond (.t 12)
  .skip
  (.exit 0))
  (.seq (.block 1 (.seq (.region [⟨(some 13), (.indexAddr 1 (.t 9) (.t 11)), none, []⟩,
    ⟨(some 14), (.load none (.t 13)), none, []⟩,
    ⟨(some 6), (.mov (.t 14)), none, []⟩] none)
  (.seq (.region [⟨(some 15), (.mov (.t 6)), none, []⟩,
    ⟨(some 16), (.lenSlice (.t 15)), none, []⟩,
    ⟨(some 17), (.mov (.c (.int .i64 0))), none, []⟩] none)
  (.block 2 (.loop F73L0)))))
  (.region [⟨(some 34), (.bin .add (.t 11) (.c (.int .i64 1))), none, []⟩,
    ⟨(some 11), (.mov (.t 34)), none, []⟩] none))))
def F73L2 : ACode := (.seq (.seq (.region [⟨(some 35), (.mov (.t 3)), none, []⟩,
    ⟨(some 36), (.bin .gtr (.t 35) (.c (.int .u64 65535))), none, []⟩] none)
  (.cond (.t 36)
  .skip
  (.exit 4)))
  (.block 5 (.region [⟨(some 37), (.mov (.t 3)), none, []⟩,
    ⟨(some 38), (.bin .shr (.t 37) (.c (.int .u64 16))), none, []⟩,
    ⟨(some 39), (.mov (.t 3)), none, []⟩,
    ⟨(some 40), (.bin .and (.t 39) (.c (.int .u64 65535))), none, []⟩,
    ⟨(some 41), (.bin .add (.t 38) (.t 40)), none, []⟩,
    ⟨(some 3), (.mov (.t 41)), none, []⟩] none)))
def B73 : ACode := (.seq (.region [⟨(some 2), (.mov (.c (.int .u16 0))), none, []⟩] none)
  (.seq (.region [⟨(some 3), (.mov (.c (.int .u64 0))), none, []⟩,
    ⟨(some 4), (.mov (.c (.bool true))), none, []⟩] none)
  (.seq (.seq (.region [⟨(some 9), (.mov (.t 0)), none, []⟩,
    ⟨(some 10), (.lenSlice (.t 9)), none, []⟩,
    ⟨(some 11), (.mov (.c (.int .i64 0))), none, []⟩] none)
  (.block 0 (.loop F73L1)))
  (.seq (.block 4 (.loop F73L2))
  (.seq (.region [⟨(some 42), (.mov (.t 3)), none, []⟩,
    ⟨(some 43), (.conv .u16 (.t 42)), none, []⟩,
    ⟨(some 44), (.un .xor (.t 43)), none, []⟩,
    ⟨(some 2), (.mov (.t 44)), none, []⟩] none)
  .ret)))))
def F73 : AFunc := ⟨1, 45, [(.tmp 2)], B73⟩
-- F73L0 live: [3, 4, 9, 10, 11, 15, 16, 17]

-- F73L1 live: [3, 4, 9, 10, 11]

-- F73L2 live: [3]
/-- unicode/utf8.DecodeRuneInString -/
def B75 : ACode := (.seq (.region [⟨(some 2), (.mov (.c (.int .i32 0))), none, []⟩,
    ⟨(some 3), (.mov (.c (.int .i64 0))), none, []⟩] none)
  (.seq (.seq (.region [⟨(some 4), (.mov (.t 0)), none, []⟩,
    ⟨(some 5), (.bin .neq (.t 4) (.c (.string ⟨#[]⟩))), none, []⟩,
    ⟨(some 6), (.mov (.t 5)), none, []⟩,
    ⟨(some 7), (.mov (.t 0)), (some (6, true)), []⟩,
    ⟨(some 8), (.indexStr (.t 7) (.c (.int .i64 0))), (some (6, true)), []⟩,
    ⟨(some 9), (.bin .lss (.t 8) (.c (.int .u8 128))), (some (6, true)), []⟩,
    ⟨(some 10), (.pick (.t 6) (.t 9) (.c (.bool false))), none, []⟩] none)
  (.cond (.t 10)
  (.seq (.region [⟨(some 11), (.mov (.t 0)), none, []⟩,
    ⟨(some 12), (.indexStr (.t 11) (.c (.int .i64 0))), none, []⟩,
    ⟨(some 13), (.conv .i32 (.t 12)), none, []⟩,
    ⟨(some 2), (.mov (.t 13)), none, []⟩,
    ⟨(some 3), (.mov (.c (.int .i64 1))), none, []⟩] none)
  .ret)
  (.region [⟨(some 15), (.mov (.t 0)), none, []⟩,
    ⟨(some 16), (.call (.f 80) [(.t 15)]), none, []⟩,
    ⟨(some 14), (.mov (.t 16)), none, []⟩,
    ⟨(some 17), (.extract (.t 14) 0), none, []⟩,
    ⟨(some 18), (.extract (.t 14) 1), none, []⟩,
    ⟨(some 2), (.mov (.t 17)), none, []⟩,
    ⟨(some 3), (.mov (.t 18)), none, []⟩] none)))
  .ret))
def F75 : AFunc := ⟨1, 19, [(.tmp 2), (.tmp 3)], B75⟩
/-- internal/stringslite.Index -/
def F77L0 : ACode := (.seq (.seq (.region [⟨(some 57), (.mov (.t 8)), none, []⟩,
    ⟨(some 58), (.mov (.t 9)), none, []⟩,
    ⟨(some 59), (.bin .lss (.t 57) (.t 58)), none, []⟩] none)
  (.cond (.t 59)
  .skip
  (.exit 1)))
  (.block 2 (.seq (.seq (.region [⟨(some 60), (.mov (.t 0)), none, []⟩,
    ⟨(some 61), (.mov (.t 8)), none, []⟩,
    ⟨(some 62), (.indexStr (.t 60) (.t 61)), none, []⟩,
    ⟨(some 63), (.mov (.t 6)), none, []⟩,
    ⟨(some 64), (.bin .neq (.t 62) (.t 63)), none, []⟩] none)
  (.cond (.t 64)
  (.seq (.region [⟨(some 65), (.mov (.t 0)), none, []⟩,
    ⟨(some 66), (.mov (.t 8)), none, []⟩,
    ⟨(some 67), (.bin .add (.t 66) (.c (.int .i64 1))), none, []⟩,
    ⟨(some 68), (.mov (.t 9)), none, []⟩,
    ⟨(some 69), (.sliceStr (.t 65) (some (.t 67)) (some (.t 68))), none, []⟩,
    ⟨(some 70), (.mov (.t 6)), none, []⟩,
    ⟨(some 71), (.call (.f 81) [(.t 69), (.t 70)]), none, []⟩,
    ⟨(some 11), (.mov (.t 71)), none, []⟩] none)
  (.seq (.seq (.region [⟨(some 72), (.mov (.t 11)), none, []⟩,
    ⟨(some 73), (.bin .lss (.t 72) (.c (.int .i64 0))), none, []⟩] none)
  (.cond (.t 73)
  (.seq (.region [⟨(some 4), (.mov (.c (.int .i64 (-1)))), none, []⟩] none)
  .ret)
  .skip))
  (.region [⟨(some 74), (.mov (.t 8)), none, []⟩,
    ⟨(some 75), (.mov (.t 11)), none, []⟩,
    ⟨(some 76), (.bin .add (.t 75) (.c (.int .i64 1))), none, []⟩,
    ⟨(some 77), (.bin .add (.t 74) (.t 76)), none, []⟩,
    ⟨(some 8), (.mov (.t 77)), none, []⟩] none)))
  .skip))
  (.seq (.seq (.region [⟨(some 78), (.mov (.t 0)), none, []⟩,
    ⟨(some 79), (.mov (.t 8)), none, []⟩,
    ⟨(some 80), (.bin .add (.t 79) (.c (.int .i64 1))), none, []⟩,
    ⟨(some 81), (.indexStr (.t 78) (.t 80)), none, []⟩,
    ⟨(some 82), (.mov (.t 7)), none, []⟩,
    ⟨(some 83), (.bin .eql (.t 81) (.t 82)), none, []⟩,
    ⟨(some 84), (.mov (.t 83)), none, []⟩,
    ⟨(some 85), (.mov (.t 0)), (some (84, true)), []⟩,
    ⟨(some 86), (.mov (.t 8)), (some (84, true)), []⟩,
    ⟨(some 87), (.mov (.t 8)), (some (84, true)), []⟩,
    ⟨(some 88), (.mov (.t 5)), (some (84, true)), []⟩,
    ⟨(some 89), (.bin .add (.t 87) (.t 88)), (some (84, true)), []⟩,
    ⟨(some 90), (.sliceStr (.t 85) (some (.t 86)) (some (.t 89))), (some (84, true)), []⟩,
    ⟨(some 91), (.mov (.t 1)), (some (84, true)), []⟩,
    ⟨(some 92), (.bin .eql (.t 90) (.t 91)), (some (84, true)), []⟩,
    ⟨(some 93), (.pick (.t 84) (.t 92) (.c (.bool false))), none, []⟩] none)
  (.cond (.t 93)
  (.seq (.region [⟨(some 94), (.mov (.t 8)), none, []⟩,
    ⟨(some 4), (.mov (.t 94)), none, []⟩] none)
  .ret)
  .skip))
  (.seq (.region [⟨(some 95), (.mov (.t 8)), none, []⟩,
    ⟨(some 96), (.bin .add (.t 95) (.c (.int .i64 1))), none, []⟩,
    ⟨(some 8), (.mov (.t 96)), none, []⟩] none)
  (.seq (.region [⟨(some 97), (.mov (.t 10)), none, []⟩,
    ⟨(some 98), (.bin .add (.t 97) (.c (.int .i64 1))), none, []⟩,
    ⟨(some 10), (.mov (.t 98)), none, []⟩] none)
  (.seq (.region [⟨(some 99), (.mov (.t 5)), none, []⟩,
    ⟨(some 100), (.load none (.g 2)), none, []⟩,
    ⟨(some 101), (.bin .leq (.t 99) (.t 100)), none, []⟩,
    ⟨(some 102), (.mov (.t 101)), none, []⟩,
    ⟨(some 103), (.mov (.t 10)), (some (102, true)), []⟩,
    ⟨(some 104), (.mov (.t 8)), (some (102, true)), []⟩,
    ⟨(some 105), (.call (.f 83) [(.t 104)]), (some (102, true)), []⟩,
    ⟨(some 106), (.bin .gtr (.t 103) (.t 105)), (some (102, true)), []⟩,
    ⟨(some 107), (.pick (.t 102) (.t 106) (.c (.bool false))), none, []⟩] none)
  (.cond (.t 107)
  (.seq (.region [⟨(some 108), (.mov (.t 0)), none, []⟩,
    ⟨(some 109), (.mov (.t 8)), none, []⟩,
    ⟨(some 110), (.sliceStr (.t 108) (some (.t 109)) none), none, []⟩,
    ⟨(some 111), (.mov (.t 1)), none, []⟩,
    ⟨(some 112), (.call (.f 82) [(.t 110), (.t 111)]), none, []⟩,
    ⟨(some 12), (.mov (.t 112)), none, []⟩] none)
  (.seq (.seq (.region [⟨(some 113), (.mov (.t 12)), none, []⟩,
    ⟨(some 114), (.bin .geq (.t 113) (.c (.int .i64 0))), none, []⟩] none)
  (.cond (.t 114)
  (.seq (.region [⟨(some 115), (.mov (.t 12)), none, []⟩,
    ⟨(some 116), (.mov (.t 8)), none, []⟩,
    ⟨(some 117), (.bin .add (.t 115) (.t 116)), none, []⟩,
    ⟨(some 4), (.mov (.t 117)), none, []⟩] none)
  .ret)
  .skip))
  (.seq (.region [⟨(some 4), (.mov (.c (.int .i64 (-1)))), none, []⟩] none)
  .ret)))
  (.seq (.region [⟨(some 118), (.mov (.t 5)), none, []⟩,
    ⟨(some 119), (.load none (.g 2)), none, []⟩,
    ⟨(some 120), (.bin .gtr (.t 118) (.t 119)), none, []⟩,
    ⟨(some 121), (.mov (.t 120)), none, []⟩,
    ⟨(some 122), (.mov (.t 10)), (some (121, true)), []⟩,
    ⟨(some 123), (.mov (.t 8)), (some (121, true)), []⟩,
    ⟨(some 124), (.bin .shr (.t 123) (.c (.int .u64 4))), (some (121, true)), []⟩,
    ⟨(some 125), (.bin .add (.c (.int .i64 4)) (.t 124)), (some (121, true)), []⟩,
    ⟨(some 126), (.bin .geq (.t 122) (.t 125)), (some (121, true)), []⟩,
    ⟨(some 127), (.pick (.t 121) (.t 126) (.c (.bool false))), none, []⟩,
    ⟨(some 128), (.mov (.t 127)), none, []⟩,
    ⟨(some 129), (.mov (.t 8)), (some (128, true)), []⟩,
    ⟨(some 130), (.mov (.t 9)), (some (128, true)), []⟩,
    ⟨(some 131), (.bin .lss (.t 129) (.t 130)), (some (128, true)), []⟩,
    ⟨(some 132), (.pick (.t 128) (.t 131) (.c (.bool false))), none, []⟩] none)
  (.cond (.t 132)
  (.seq (.region [⟨(some 133), (.mov (.t 0)), none, []⟩,
    ⟨(some 134), (.mov (.t 8)), none, []⟩,
    ⟨(some 135), (.sliceStr (.t 133) (some (.t 134)) none), none, []⟩,
    ⟨(some 136), (.mov (.t 1)), none, []⟩,
    ⟨(some 137), (.call (.f 84) [(.t 135), (.t 136)]), none, []⟩,
    ⟨(some 13), (.mov (.t 137)), none, []⟩] none)
  (.seq (.seq (.region [⟨(some 138), (.mov (.t 13)), none, []⟩,
    ⟨(some 139), (.bin .lss (.t 138) (.c (.int .i64 0))), none, []⟩] none)
  (.cond (.t 139)
  (.seq (.region [⟨(some 4), (.mov (.c (.int .i64 (-1)))), none, []⟩] none)
  .ret)
  .skip))
  (.seq (.region [⟨(some 140), (.mov (.t 8)), none, []⟩,
    ⟨(some 141), (.mov (.t 13)), none, []⟩,
    ⟨(some 142), (.bin .add (.t 140) (.t 141)), none, []⟩,
    ⟨(some 4), (.mov (.t 142)), none, []⟩] none)
  .ret)))
  .skip))))))))))
def B77 : ACode := (.seq (.region [⟨(some 4), (.mov (.c (.int .i64 0))), none, []⟩] none)
  (.seq (.region [⟨(some 14), (.mov (.t 1)), none, []⟩,
    ⟨(some 15), (.lenStr (.t 14)), none, []⟩,
    ⟨(some 5), (.mov (.t 15)), none, []⟩] none)
  (.seq (.block 0 (.seq (.region [⟨(some 17), (.mov (.t 5)), none, []⟩,
    ⟨(some 18), (.bin .eql (.t 17) (.c (.int .i64 0))), none, []⟩,
    ⟨(some 19), (.mov (.t 18)), none, []⟩,
    ⟨(some 20), (.mov (.t 1)), (some (19, false)), []⟩,
    ⟨(some 21), (.mov (.t 0)), (some (19, false)), []⟩,
    ⟨(some 22), (.bin .eql (.t 20) (.t 21)), (some (19, false)), []⟩,
    ⟨(some 23), (.pick (.t 19) (.c (.bool true)) (.t 22)), none, []⟩,
    ⟨(some 16), (.mov (.t 23)), none, []⟩] none)
  (.cond (.t 16)
  (.seq (.region [⟨(some 4), (.mov (.c (.int .i64 0))), none, []⟩] none)
  .ret)
  (.seq (.region [⟨(some 25), (.mov (.t 5)), none, []⟩,
    ⟨(some 26), (.bin .eql (.t 25) (.c (.int .i64 1))), none, []⟩,
    ⟨(some 24), (.mov (.t 26)), none, []⟩] none)
  (.cond (.t 24)
  (.seq (.region [⟨(some 27), (.mov (.t 0)), none, []⟩,
    ⟨(some 28), (.mov (.t 1)), none, []⟩,
    ⟨(some 29), (.indexStr (.t 28) (.c (.int .i64 0))), none, []⟩,
    ⟨(some 30), (.call (.f 81) [(.t 27), (.t 29)]), none, []⟩,
    ⟨(some 4), (.mov (.t 30)), none, []⟩] none)
  .ret)
  (.seq (.region [⟨(some 32), (.mov (.t 5)), none, []⟩,
    ⟨(some 33), (.mov (.t 0)), none, []⟩,
    ⟨(some 34), (.lenStr (.t 33)), none, []⟩,
    ⟨(some 35), (.bin .geq (.t 32) (.t 34)), none, []⟩,
    ⟨(some 31), (.mov (.t 35)), none, []⟩] none)
  (.cond (.t 31)
  (.seq (.region [⟨(some 4), (.mov (.c (.int .i64 (-1)))), none, []⟩] none)
  .ret)
  (.seq (.region [⟨(some 37), (.mov (.t 5)), none, []⟩,
    ⟨(some 38), (.load none (.g 2)), none, []⟩,
    ⟨(some 39), (.bin .leq (.t 37) (.t 38)), none, []⟩,
    ⟨(some 40), (.mov (.t 39)), none, []⟩,
    ⟨(some 41), (.mov (.t 0)), (some (40, true)), []⟩,
    ⟨(some 42), (.lenStr (.t 41)), (some (40, true)), []⟩,
    ⟨(some 43), (.bin .leq (.t 42) (.c (.int .i64 64))), (some (40, true)), []⟩,
    ⟨(some 44), (.pick (.t 40) (.t 43) (.c (.bool false))), none, []⟩,
    ⟨(some 36), (.mov (.t 44)), none, []⟩] none)
  (.cond (.t 36)
  (.seq (.region [⟨(some 45), (.mov (.t 0)), none, []⟩,
    ⟨(some 46), (.mov (.t 1)), none, []⟩,
    ⟨(some 47), (.call (.f 82) [(.t 45), (.t 46)]), none, []⟩,
    ⟨(some 4), (.mov (.t 47)), none, []⟩] none)
  .ret)
  .skip)))))))))
  (.seq (.region [⟨(some 48), (.mov (.t 1)), none, []⟩,
    ⟨(some 49), (.indexStr (.t 48) (.c (.int .i64 0))), none, []⟩,
    ⟨(some 6), (.mov (.t 49)), none, []⟩] none)
  (.seq (.region [⟨(some 50), (.mov (.t 1)), none, []⟩,
    ⟨(some 51), (.indexStr (.t 50) (.c (.int .i64 1))), none, []⟩,
    ⟨(some 7), (.mov (.t 51)), none, []⟩] none)
  (.seq (.region [⟨(some 8), (.mov (.c (.int .i64 0))), none, []⟩] none)
  (.seq (.region [⟨(some 52), (.mov (.t 0)), none, []⟩,
    ⟨(some 53), (.lenStr (.t 52)), none, []⟩,
    ⟨(some 54), (.mov (.t 5)), none, []⟩,
    ⟨(some 55), (.bin .sub (.t 53) (.t 54)), none, []⟩,
    ⟨(some 56), (.bin .add (.t 55) (.c (.int .i64 1))), none, []⟩,
    ⟨(some 9), (.mov (.t 56)), none, []⟩] none)
  (.seq (.region [⟨(some 10), (.mov (.c (.int .i64 0))), none, []⟩] none)
  (.seq (.block 1 (.loop F77L0))
  (.seq (.region [⟨(some 4), (.mov (.c (.int .i64 (-1)))), none, []⟩] none)
  .ret))))))))))
def F77 : AFunc := ⟨2, 143, [(.tmp 4)], B77⟩
-- F77L0 live: [0, 1, 5, 6, 7, 8, 9, 10]
/-- unicode/utf8.decodeRuneInStringSlow -/
def B80 : ACode := (.seq (.region [⟨(some 2), (.mov (.c (.int .i32 0))), none, []⟩,
    ⟨(some 3), (.mov (.c (.int .i64 0))), none, []⟩] none)
  (.seq (.region [⟨(some 13), (.mov (.t 0)), none, []⟩,
    ⟨(some 14), (.lenStr (.t 13)), none, []⟩,
    ⟨(some 4), (.mov (.t 14)), none, []⟩] none)
  (.seq (.seq (.region [⟨(some 15), (.mov (.t 4)), none, []⟩,
    ⟨(some 16), (.bin .lss (.t 15) (.c (.int .i64 1))), none, []⟩] none)
  (.cond (.t 16)
  (.seq (.region [⟨(some 2), (.mov (.c (.int .i32 65533))), none, []⟩,
    ⟨(some 3), (.mov (.c (.int .i64 0))), none, []⟩] none)
  .ret)
  .skip))
  (.seq (.region [⟨(some 17), (.mov (.t 0)), none, []⟩,
    ⟨(some 18), (.indexStr (.t 17) (.c (.int .i64 0))), none, []⟩,
    ⟨(some 5), (.mov (.t 18)), none, []⟩] none)
  (.seq (.region [⟨(some 19), (.mov (.t 5)), none, []⟩,
    ⟨(some 20), (.indexArr 1 256 (.g 3) (.t 19)), none, []⟩,
    ⟨(some 21), (.load none (.t 20)), none, []⟩,
    ⟨(some 6), (.mov (.t 21)), none, []⟩] none)
  (.seq (.seq (.region [⟨(some 22), (.mov (.t 6)), none, []⟩,
    ⟨(some 23), (.bin .geq (.t 22) (.c (.int .u8 240))), none, []⟩] none)
  (.cond (.t 23)
  (.seq (.region [⟨(some 24), (.mov (.t 6)), none, []⟩,
    ⟨(some 25), (.conv .i32 (.t 24)), none, []⟩,
    ⟨(some 26), (.bin .shl (.t 25) (.c (.int .u64 31))), none, []⟩,
    ⟨(some 27), (.bin .shr (.t 26) (.c (.int .u64 31))), none, []⟩,
    ⟨(some 7), (.mov (.t 27)), none, []⟩] none)
  (.seq (.region [⟨(some 28), (.mov (.t 0)), none, []⟩,
    ⟨(some 29), (.indexStr (.t 28) (.c (.int .i64 0))), none, []⟩,
    ⟨(some 30), (.conv .i32 (.t 29)), none, []⟩,
    ⟨(some 31), (.mov (.t 7)), none, []⟩,
    ⟨(some 32), (.bin .andNot (.t 30) (.t 31)), none, []⟩,
    ⟨(some 33), (.mov (.t 7)), none, []⟩,
    ⟨(some 34), (.bin .and (.c (.int .i32 65533)) (.t 33)), none, []⟩,
    ⟨(some 35), (.bin .or (.t 32) (.t 34)), none, []⟩,
    ⟨(some 2), (.mov (.t 35)), none, []⟩,
    ⟨(some 3), (.mov (.c (.int .i64 1))), none, []⟩] none)
  .ret))
  .skip))
  (.seq (.region [⟨(some 36), (.mov (.t 6)), none, []⟩,
    ⟨(some 37), (.bin .and (.t 36) (.c (.int .u8 7))), none, []⟩,
    ⟨(some 38), (.conv .i64 (.t 37)), none, []⟩,
    ⟨(some 8), (.mov (.t 38)), none, []⟩] none)
  (.seq (.region [⟨(some 39), (.mov (.t 6)), none, []⟩,
    ⟨(some 40), (.bin .shr (.t 39) (.c (.int .u64 4))), none, []⟩,
    ⟨(some 41), (.indexArr 2 16 (.g 4) (.t 40)), none, []⟩,
    ⟨(some 42), (.load (some 2) (.t 41)), none, []⟩,
    ⟨(some 9), (.alloc 142 [(.int .u8 0), (.int .u8 0)]), none, []⟩,
    ⟨none, (.store 2 (.t 9) (.t 42)), none, []⟩] none)
  (.seq (.seq (.region [⟨(some 43), (.mov (.t 4)), none, []⟩,
    ⟨(some 44), (.mov (.t 8)), none, []⟩,
    ⟨(some 45), (.bin .lss (.t 43) (.t 44)), none, []⟩] none)
  (.cond (.t 45)
  (.seq (.region [⟨(some 2), (.mov (.c (.int .i32 65533))), none, []⟩,
    ⟨(some 3), (.mov (.c (.int .i64 1))), none, []⟩] none)
  .ret)
  .skip))
  (.seq (.region [⟨(some 46), (.mov (.t 0)), none, []⟩,
    ⟨(some 47), (.indexStr (.t 46) (.c (.int .i64 1))), none, []⟩,
    ⟨(some 10), (.mov (.t 47)), none, []⟩] none)
  (.seq (.seq (.region [⟨(some 48), (.mov (.t 10)), none, []⟩,
    ⟨(some 49), (.fieldAddr 0 (.t 9)), none, []⟩,
    ⟨(some 50), (.load none (.t 49)), none, []⟩,
    ⟨(some 51), (.bin .lss (.t 48) (.t 50)), none, []⟩,
    ⟨(some 52), (.mov (.t 51)), none, []⟩,
    ⟨(some 53), (.fieldAddr 1 (.t 9)), (some (52, false)), []⟩,
    ⟨(some 54), (.load none (.t 53)), (some (52, false)), []⟩,
    ⟨(some 55), (.mov (.t 10)), (some (52, false)), []⟩,
    ⟨(some 56), (.bin .lss (.t 54) (.t 55)), (some (52, false)), []⟩,
    ⟨(some 57), (.pick (.t 52) (.c (.bool true)) (.t 56)), none, []⟩] none)
  (.cond (.t 57)
  (.seq (.region [⟨(some 2), (.mov (.c (.int .i32 65533))), none, []⟩,
    ⟨(some 3), (.mov (.c (.int .i64 1))), none, []⟩] none)
  .ret)
  .skip))
  (.seq (.seq (.region [⟨(some 58), (.mov (.t 8)), none, []⟩,
    ⟨(some 59), (.bin .leq (.t 58) (.c (.int .i64 2))), none, []⟩] none)
  (.cond (.t 59)
  (.seq (.region [⟨(some 60), (.mov (.t 5)), none, []⟩,
    ⟨(some 61), (.bin .and (.t 60) (.c (.int .u8 31))), none, []⟩,
    ⟨(some 62), (.conv .i32 (.t 61)), none, []⟩,
    ⟨(some 63), (.bin .shl (.t 62) (.c (.int .u64 6))), none, []⟩,
    ⟨(some 64), (.mov (.t 10)), none, []⟩,
    ⟨(some 65), (.bin .and (.t 64) (.c (.int .u8 63))), none, []⟩,
    ⟨(some 66), (.conv .i32 (.t 65)), none, []⟩,
    ⟨(some 67), (.bin .or (.t 63) (.t 66)), none, []⟩,
    ⟨(some 2), (.mov (.t 67)), none, []⟩,
    ⟨(some 3), (.mov (.c (.int .i64 2))), none, []⟩] none)
  .ret)
  .skip))
  (.seq (.region [⟨(some 68), (.mov (.t 0)), none, []⟩,
    ⟨(some 69), (.indexStr (.t 68) (.c (.int .i64 2))), none, []⟩,
    ⟨(some 11), (.mov (.t 69)), none, []⟩] none)
  (.seq (.seq (.region [⟨(some 70), (.mov (.t 11)), none, []⟩,
    ⟨(some 71), (.bin .lss (.t 70) (.c (.int .u8 128))), none, []⟩,
    ⟨(some 72), (.mov (.t 71)), none, []⟩,
    ⟨(some 73), (.mov (.t 11)), (some (72, false)), []⟩,
    ⟨(some 74), (.bin .lss (.c (.int .u8 191)) (.t 73)), (some (72, false)), []⟩,
    ⟨(some 75), (.pick (.t 72) (.c (.bool true)) (.t 74)), none, []⟩] none)
  (.cond (.t 75)
  (.seq (.region [⟨(some 2), (.mov (.c (.int .i32 65533))), none, []⟩,
    ⟨(some 3), (.mov (.c (.int .i64 1))), none, []⟩] none)
  .ret)
  .skip))
  (.seq (.seq (.region [⟨(some 76), (.mov (.t 8)), none, []⟩,
    ⟨(some 77), (.bin .leq (.t 76) (.c (.int .i64 3))), none, []⟩] none)
  (.cond (.t 77)
  (.seq (.region [⟨(some 78), (.mov (.t 5)), none, []⟩,
    ⟨(some 79), (.bin .and (.t 78) (.c (.int .u8 15))), none, []⟩,
    ⟨(some 80), (.conv .i32 (.t 79)), none, []⟩,
    ⟨(some 81), (.bin .shl (.t 80) (.c (.int .u64 12))), none, []⟩,
    ⟨(some 82), (.mov (.t 10)), none, []⟩,
    ⟨(some 83), (.bin .and (.t 82) (.c (.int .u8 63))), none, []⟩,
    ⟨(some 84), (.conv .i32 (.t 83)), none, []⟩,
    ⟨(some 85), (.bin .shl (.t 84) (.c (.int .u64 6))), none, []⟩,
    ⟨(some 86), (.bin .or (.t 81) (.t 85)), none, []⟩,
    ⟨(some 87), (.mov (.t 11)), none, []⟩,
    ⟨(some 88), (.bin .and (.t 87) (.c (.int .u8 63))), none, []⟩,
    ⟨(some 89), (.conv .i32 (.t 88)), none, []⟩,
    ⟨(some 90), (.bin .or (.t 86) (.t 89)), none, []⟩,
    ⟨(some 2), (.mov (.t 90)), none, []⟩,
    ⟨(some 3), (.mov (.c (.int .i64 3))), none, []⟩] none)
  .ret)
  .skip))
  (.seq (.region [⟨(some 91), (.mov (.t 0)), none, []⟩,
    ⟨(some 92), (.indexStr (.t 91) (.c (.int .i64 3))), none, []⟩,
    ⟨(some 12), (.mov (.t 92)), none, []⟩] none)
  (.seq (.seq (.region [⟨(some 93), (.mov (.t 12)), none, []⟩,
    ⟨(some 94), (.bin .lss (.t 93) (.c (.int .u8 128))), none, []⟩,
    ⟨(some 95), (.mov (.t 94)), none, []⟩,
    ⟨(some 96), (.mov (.t 12)), (some (95, false)), []⟩,
    ⟨(some 97), (.bin .lss (.c (.int .u8 191)) (.t 96)), (some (95, false)), []⟩,
    ⟨(some 98), (.pick (.t 95) (.c (.bool true)) (.t 97)), none, []⟩] none)
  (.cond (.t 98)
  (.seq (.region [⟨(some 2), (.mov (.c (.int .i32 65533))), none, []⟩,
    ⟨(some 3), (.mov (.c (.int .i64 1))), none, []⟩] none)
  .ret)
  .skip))
  (.seq (.region [⟨(some 99), (.mov (.t 5)), none, []⟩,
    ⟨(some 100), (.bin .and (.t 99) (.c (.int .u8 7))), none, []⟩,
    ⟨(some 101), (.conv .i32 (.t 100)), none, []⟩,
    ⟨(some 102), (.bin .shl (.t 101) (.c (.int .u64 18))), none, []⟩,
    ⟨(some 103), (.mov (.t 10)), none, []⟩,
    ⟨(some 104), (.bin .and (.t 103) (.c (.int .u8 63))), none, []⟩,
    ⟨(some 105), (.conv .i32 (.t 104)), none, []⟩,
    ⟨(some 106), (.bin .shl (.t 105) (.c (.int .u64 12))), none, []⟩,
    ⟨(some 107), (.bin .or (.t 102) (.t 106)), none, []⟩,
    ⟨(some 108), (.mov (.t 11)), none, []⟩,
    ⟨(some 109), (.bin .and (.t 108) (.c (.int .u8 63))), none, []⟩,
    ⟨(some 110), (.conv .i32 (.t 109)), none, []⟩,
    ⟨(some 111), (.bin .shl (.t 110) (.c (.int .u64 6))), none, []⟩,
    ⟨(some 112), (.bin .or (.t 107) (.t 111)), none, []⟩,
    ⟨(some 113), (.mov (.t 12)), none, []⟩,
    ⟨(some 114), (.bin .and (.t 113) (.c (.int .u8 63))), none, []⟩,
    ⟨(some 115), (.conv .i32 (.t 114)), none, []⟩,
    ⟨(some 116), (.bin .or (.t 112) (.t 115)), none, []⟩,
    ⟨(some 2), (.mov (.t 116)), none, []⟩,
    ⟨(some 3), (.mov (.c (.int .i64 4))), none, []⟩] none)
  .ret))))))))))))))))))
def F80 : AFunc := ⟨1, 117, [(.tmp 2), (.tmp 3)], B80⟩
/-- internal/stringslite.IndexByte -/
def B81 : ACode := (.seq (.region [⟨(some 4), (.mov (.c (.int .i64 0))), none, []⟩] none)
  (.seq (.region [⟨(some 5), (.mov (.t 0)), none, []⟩,
    ⟨(some 6), (.mov (.t 1)), none, []⟩,
    ⟨(some 7), (.call (.f 85) [(.t 5), (.t 6)]), none, []⟩,
    ⟨(some 4), (.mov (.t 7)), none, []⟩] none)
  .ret))
def F81 : AFunc := ⟨2, 8, [(.tmp 4)], B81⟩
/-- internal/bytealg.Cutover -/
def B83 : ACode := (.seq (.region [⟨(some 2), (.mov (.c (.int .i64 0))), none, []⟩] none)
  (.seq (.region [⟨(some 3), (.mov (.t 0)), none, []⟩,
    ⟨(some 4), (.bin .add (.t 3) (.c (.int .i64 16))), none, []⟩,
    ⟨(some 5), (.bin .quo (.t 4) (.c (.int .i64 8))), none, []⟩,
    ⟨(some 2), (.mov (.t 5)), none, []⟩] none)
  .ret))
def F83 : AFunc := ⟨1, 6, [(.tmp 2)], B83⟩
/-- internal/bytealg.IndexRabinKarp[string] -/
def F84L0 : ACode := (.seq (.seq (.region [⟨(some 18), (.mov (.t 9)), none, []⟩,
    ⟨(some 19), (.mov (.t 7)), none, []⟩,
    ⟨(some 20), (.bin .lss (.t 18) (.t 19)), none, []⟩] none)
  (.cond (.t 20)
  .skip
  (.exit 0)))
  (.seq (.block 1 (.region [⟨(some 23), (.mov (.t 8)), none, []⟩,
    ⟨(some 24), (.bin .mul (.t 23) (.c (.int .u32 16777619))), none, []⟩,
    ⟨(some 25), (.mov (.t 0)), none, []⟩,
    ⟨(some 26), (.mov (.t 9)), none, []⟩,
    ⟨(some 27), (.indexStr (.t 25) (.t 26)), none, []⟩,
    ⟨(some 28), (.conv .u32 (.t 27)), none, []⟩,
    ⟨(some 29), (.bin .add (.t 24) (.t 28)), none, []⟩,
    ⟨(some 8), (.mov (.t 29)), none, []⟩] none))
  (.region [⟨(some 21), (.mov (.t 9)), none, []⟩,
    ⟨(some 22), (.bin .add (.t 21) (.c (.int .i64 1))), none, []⟩,
    ⟨(some 9), (.mov (.t 22)), none, []⟩] none)))
def F84L1 : ACode := (.seq (.seq (.region [⟨(some 41), (.mov (.t 10)), none, []⟩,
    ⟨(some 42), (.mov (.t 0)), none, []⟩,
    ⟨(some 43), (.lenStr (.t 42)), none, []⟩,
    ⟨(some 44), (.bin .lss (.t 41) (.t 43)), none, []⟩] none)
  (.cond (.t 44)
  .skip
  (.exit 2)))
  (.block 3 (.seq (.region [⟨(some 45), (.mov (.t 8)), none, []⟩,
    ⟨(some 46), (.bin .mul (.t 45) (.c (.int .u32 16777619))), none, []⟩,
    ⟨(some 8), (.mov (.t 46)), none, []⟩] none)
  (.seq (.region [⟨(some 47), (.mov (.t 8)), none, []⟩,
    ⟨(some 48), (.mov (.t 0)), none, []⟩,
    ⟨(some 49), (.mov (.t 10)), none, []⟩,
    ⟨(some 50), (.indexStr (.t 48) (.t 49)), none, []⟩,
    ⟨(some 51), (.conv .u32 (.t 50)), none, []⟩,
    ⟨(some 52), (.bin .add (.t 47) (.t 51)), none, []⟩,
    ⟨(some 8), (.mov (.t 52)), none, []⟩] none)
  (.seq (.region [⟨(some 53), (.mov (.t 8)), none, []⟩,
    ⟨(some 54), (.mov (.t 6)), none, []⟩,
    ⟨(some 55), (.mov (.t 0)), none, []⟩,
    ⟨(some 56), (.mov (.t 10)), none, []⟩,
    ⟨(some 57), (.mov (.t 7)), none, []⟩,
    ⟨(some 58), (.bin .sub (.t 56) (.t 57)), none, []⟩,
    ⟨(some 59), (.indexStr (.t 55) (.t 58)), none, []⟩,
    ⟨(some 60), (.conv .u32 (.t 59)), none, []⟩,
    ⟨(some 61), (.bin .mul (.t 54) (.t 60)), none, []⟩,
    ⟨(some 62), (.bin .sub (.t 53) (.t 61)), none, []⟩,
    ⟨(some 8), (.mov (.t 62)), none, []⟩] none)
  (.seq (.region [⟨(some 63), (.mov (.t 10)), none, []⟩,
    ⟨(some 64), (.bin .add (.t 63) (.c (.int .i64 1))), none, []⟩,
    ⟨(some 10), (.mov (.t 64)), none, []⟩] none)
  (.seq (.region [⟨(some 65), (.mov (.t 8)), none, []⟩,
    ⟨(some 66), (.mov (.t 5)), none, []⟩,
    ⟨(some 67), (.bin .eql (.t 65) (.t 66)), none, []⟩,
    ⟨(some 68), (.mov (.t 67)), none, []⟩,
    ⟨(some 69), (.mov (.t 0)), (some (68, true)), []⟩,
    ⟨(some 70), (.mov (.t 10)), (some (68, true)), []⟩,
    ⟨(some 71), (.mov (.t 7)), (some (68, true)), []⟩,
    ⟨(some 72), (.bin .sub (.t 70) (.t 71)), (some (68, true)), []⟩,
    ⟨(some 73), (.mov (.t 10)), (some (68, true)), []⟩,
    ⟨(some 74), (.sliceStr (.t 69) (some (.t 72)) (some (.t 73))), (some (68, true)), []⟩,
    ⟨(some 75), (.mov (.t 1)), (some (68, true)), []⟩,
    ⟨(some 76), (.bin .eql (.t 74) (.t 75)), (some (68, true)), []⟩,
    ⟨(some 77), (.pick (.t 68) (.t 76) (.c (.bool false))), none, []⟩] none)
  (.cond (.t 77)
  (.seq (.region [⟨(some 78), (.mov (.t 10)), none, []⟩,
    ⟨(some 79), (.mov (.t 7)), none, []⟩,
    ⟨(some 80), (.bin .sub (.t 78) (.t 79)), none, []⟩,
    ⟨(some 4), (.mov (.t 80)), none, []⟩] none)
  .ret)
  .skip))))))))
def B84 : ACode := (.seq (.region [⟨(some 4), (.mov (.c (.int .i64 0))), none, []⟩] none)
  (.seq (.region [⟨(some 12), (.mov (.t 1)), none, []⟩,
    ⟨(some 13), (.call (.f 86) [(.t 12)]), none, []⟩,
    ⟨(some 11), (.mov (.t 13)), none, []⟩,
    ⟨(some 14), (.extract (.t 11) 0), none, []⟩,
    ⟨(some 15), (.extract (.t 11) 1), none, []⟩,
    ⟨(some 5), (.mov (.t 14)), none, []⟩,
    ⟨(some 6), (.mov (.t 15)), none, []⟩] none)
  (.seq (.region [⟨(some 16), (.mov (.t 1)), none, []⟩,
    ⟨(some 17), (.lenStr (.t 16)), none, []⟩,
    ⟨(some 7), (.mov (.t 17)), none, []⟩] none)
  (.seq (.region [⟨(some 8), (.mov (.c (.int .u32 0))), none, []⟩] none)
  (.seq (.seq (.region [⟨(some 9), (.mov (.c (.int .i64 0))), none, []⟩] none)
  (.block 0 (.loop F84L0)))
  (.seq (.seq (.region [⟨(some 30), (.mov (.t 8)), none, []⟩,
    ⟨(some 31), (.mov (.t 5)), none, []⟩,
    ⟨(some 32), (.bin .eql (.t 30) (.t 31)), none, []⟩,
    ⟨(some 33), (.mov (.t 32)), none, []⟩,
    ⟨(some 34), (.mov (.t 0)), (some (33, true)), []⟩,
    ⟨(some 35), (.mov (.t 7)), (some (33, true)), []⟩,
    ⟨(some 36), (.sliceStr (.t 34) none (some (.t 35))), (some (33, true)), []⟩,
    ⟨(some 37), (.mov (.t 1)), (some (33, true)), []⟩,
    ⟨(some 38), (.bin .eql (.t 36) (.t 37)), (some (33, true)), []⟩,
    ⟨(some 39), (.pick (.t 33) (.t 38) (.c (.bool false))), none, []⟩] none)
  (.cond (.t 39)
  (.seq (.region [⟨(some 4), (.mov (.c (.int .i64 0))), none, []⟩] none)
  .ret)
  .skip))
  (.seq (.seq (.region [⟨(some 40), (.mov (.t 7)), none, []⟩,
    ⟨(some 10), (.mov (.t 40)), none, []⟩] none)
  (.block 2 (.loop F84L1)))
  (.seq (.region [⟨(some 4), (.mov (.c (.int .i64 (-1)))), none, []⟩] none)
  .ret))))))))
def F84 : AFunc := ⟨2, 81, [(.tmp 4)], B84⟩
-- F84L0 live: [0, 1, 5, 6, 7, 8, 9]

-- F84L1 live: [0, 1, 5, 6, 7, 8, 10]
/-- internal/bytealg.hashStr[string] -/
def F86L0 : ACode := (.seq (.seq (.region [⟨(some 9), (.mov (.t 5)), none, []⟩,
    ⟨(some 10), (.mov (.t 0)), none, []⟩,
    ⟨(some 11), (.lenStr (.t 10)), none, []⟩,
    ⟨(some 12), (.bin .lss (.t 9) (.t 11)), none, []⟩] none)
  (.cond (.t 12)
  .skip
  (.exit 0)))
  (.seq (.block 1 (.region [⟨(some 15), (.mov (.t 4)), none, []⟩,
    ⟨(some 16), (.bin .mul (.t 15) (.c (.int .u32 16777619))), none, []⟩,
    ⟨(some 17), (.mov (.t 0)), none, []⟩,
    ⟨(some 18), (.mov (.t 5)), none, []⟩,
    ⟨(some 19), (.indexStr (.t 17) (.t 18)), none, []⟩,
    ⟨(some 20), (.conv .u32 (.t 19)), none, []⟩,
    ⟨(some 21), (.bin .add (.t 16) (.t 20)), none, []⟩,
    ⟨(some 4), (.mov (.t 21)), none, []⟩] none))
  (.region [⟨(some 13), (.mov (.t 5)), none, []⟩,
    ⟨(some 14), (.bin .add (.t 13) (.c (.int .i64 1))), none, []⟩,
    ⟨(some 5), (.mov (.t 14)), none, []⟩] none)))
def F86L1 : ACode := (.seq (.seq (.region [⟨(some 24), (.mov (.t 8)), none, []⟩,
    ⟨(some 25), (.bin .gtr (.t 24) (.c (.int .i64 0))), none, []⟩] none)
  (.cond (.t 25)
  .skip
  (.exit 2)))
  (.seq (.block 3 (.seq (.seq (.region [⟨(some 28), (.mov (.t 8)), none, []⟩,
    ⟨(some 29), (.bin .and (.t 28) (.c (.int .i64 1))), none, []⟩,
    ⟨(some 30), (.bin .neq (.t 29) (.c (.int .i64 0))), none, []⟩] none)
  (.cond (.t 30)
  (.region [⟨(some 31), (.mov (.t 6)), none, []⟩,
    ⟨(some 32), (.mov (.t 7)), none, []⟩,
    ⟨(some 33), (.bin .mul (.t 31) (.t 32)), none, []⟩,
    ⟨(some 6), (.mov (.t 33)), none, []⟩] none)
  .skip))
  (.region [⟨(some 34), (.mov (.t 7)), none, []⟩,
    ⟨(some 35), (.mov (.t 7)), none, []⟩,
    ⟨(some 36), (.bin .mul (.t 34) (.t 35)), none, []⟩,
    ⟨(some 7), (.mov (.t 36)), none, []⟩] none)))
  (.region [⟨(some 26), (.mov (.t 8)), none, []⟩,
    ⟨(some 27), (.bin .shr (.t 26) (.c (.int .u64 1))), none, []⟩,
    ⟨(some 8), (.mov (.t 27)), none, []⟩] none)))
def B86 : ACode := (.seq (.region [⟨(some 2), (.mov (.c (.int .u32 0))), none, []⟩,
    ⟨(some 3), (.mov (.c (.int .u32 0))), none, []⟩] none)
  (.seq (.region [⟨(some 4), (.mov (.c (.int .u32 0))), none, []⟩] none)
  (.seq (.seq (.region [⟨(some 5), (.mov (.c (.int .i64 0))), none, []⟩] none)
  (.block 0 (.loop F86L0)))
  (.seq (.region [⟨(some 6), (.mov (.c (.int .u32 1))), none, []⟩,
    ⟨(some 7), (.mov (.c (.int .u32 16777619))), none, []⟩] none)
  (.seq (.seq (.region [⟨(some 22), (.mov (.t 0)), none, []⟩,
    ⟨(some 23), (.lenStr (.t 22)), none, []⟩,
    ⟨(some 8), (.mov (.t 23)), none, []⟩] none)
  (.block 2 (.loop F86L1)))
  (.seq (.region [⟨(some 37), (.mov (.t 4)), none, []⟩,
    ⟨(some 38), (.mov (.t 6)), none, []⟩,
    ⟨(some 2), (.mov (.t 37)), none, []⟩,
    ⟨(some 3), (.mov (.t 38)), none, []⟩] none)
  .ret))))))
def F86 : AFunc := ⟨1, 39, [(.tmp 2), (.tmp 3)], B86⟩
-- F86L0 live: [0, 4, 5]

-- F86L1 live: [4, 6, 7, 8]
def fs07 : FT := (.node 42 F42 (.node 22 F22 (.node 12 F12 (.node 7 F7 (.node 5 F5 (.node 4 F4 (.node 3 F3 .leaf .leaf) .leaf) (.node 6 F6 .leaf .leaf)) (.node 10 F10 (.node 9 F9 (.node 8 F8 .leaf .leaf) .leaf) (.node 11 F11 .leaf .leaf))) (.node 17 F17 (.node 15 F15 (.node 14 F14 (.node 13 F13 .leaf .leaf) .leaf) (.node 16 F16 .leaf .leaf)) (.node 20 F20 (.node 19 F19 (.node 18 F18 .leaf .leaf) .leaf) (.node 21 F21 .leaf .leaf)))) (.node 32 F32 (.node 27 F27 (.node 25 F25 (.node 24 F24 (.node 23 F23 .leaf .leaf) .leaf) (.node 26 F26 .leaf .leaf)) (.node 30 F30 (.node 29 F29 (.node 28 F28 .leaf .leaf) .leaf) (.node 31 F31 .leaf .leaf))) (.node 37 F37 (.node 35 F35 (.node 34 F34 (.node 33 F33 .leaf .leaf) .leaf) (.node 36 F36 .leaf .leaf)) (.node 40 F40 (.node 39 F39 (.node 38 F38 .leaf .leaf) .leaf) (.node 41 F41 .leaf .leaf))))) (.node 62 F62 (.node 52 F52 (.node 47 F47 (.node 45 F45 (.node 44 F44 (.node 43 F43 .leaf .leaf) .leaf) (.node 46 F46 .leaf .leaf)) (.node 50 F50 (.node 49 F49 (.node 48 F48 .leaf .leaf) .leaf) (.node 51 F51 .leaf .leaf))) (.node 57 F57 (.node 55 F55 (.node 54 F54 (.node 53 F53 .leaf .leaf) .leaf) (.node 56 F56 .leaf .leaf)) (.node 60 F60 (.node 59 F59 (.node 58 F58 .leaf .leaf) .leaf) (.node 61 F61 .leaf .leaf)))) (.node 72 F72 (.node 67 F67 (.node 65 F65 (.node 64 F64 (.node 63 F63 .leaf .leaf) .leaf) (.node 66 F66 .leaf .leaf)) (.node 70 F70 (.node 69 F69 (.node 68 F68 .leaf .leaf) .leaf) (.node 71 F71 .leaf .leaf))) (.node 81 F81 (.node 77 F77 (.node 75 F75 (.node 73 F73 .leaf .leaf) .leaf) (.node 80 F80 .leaf .leaf)) (.node 84 F84 (.node 83 F83 .leaf .leaf) (.node 86 F86 .leaf .leaf))))))
def ps07 : List (Nat × Prim) := [(78, .noEscape), (79, .makeNoZero 5), (76, .count), (85, .indexByte)]
end
end Go.Proofs.YtkaibjdogeikbaaDoor.Am
