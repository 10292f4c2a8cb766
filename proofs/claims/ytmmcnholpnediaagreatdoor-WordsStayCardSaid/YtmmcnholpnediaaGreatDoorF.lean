/- The functions of the program, printed by a program of ours as code of the abstract machine (F); that they are is proved in the next text. -/
import Derived.Test.YtmmcnholpnediaaGreatDoorD
namespace Go.Proofs.YtmmcnholpnediaaGreatDoor.Am
noncomputable section
def R3_0 : ACode := .region [⟨(some 21), (.mov (.t 7)), none, []⟩,
    ⟨(some 22), (.mov (.t 9)), none, []⟩,
    ⟨(some 23), (.call (.f 9) [(.t 21), (.t 22)]), none, [0, 1]⟩,
    ⟨(some 24), (.mov (.t 23)), none, [2, 2]⟩,
    ⟨(some 25), (.mov (.t 8)), (some (24, true)), [3]⟩,
    ⟨(some 26), (.mov (.t 10)), (some (24, true)), [3]⟩,
    ⟨(some 27), (.bin .eql (.t 25) (.t 26)), (some (24, true)), [4, 5, 3]⟩,
    ⟨(some 28), (.pick (.t 24) (.t 27) (.c (.bool false))), none, [3, 6]⟩,
    ⟨(some 29), (.mov (.t 28)), none, [7, 3]⟩,
    ⟨(some 30), (.mov (.t 1)), (some (29, true)), [8]⟩,
    ⟨(some 31), (.call (.f 10) [(.t 30)]), (some (29, true)), [9, 8, 8]⟩,
    ⟨(some 32), (.mov (.t 1)), (some (29, true)), [8]⟩,
    ⟨(some 33), (.call (.f 11) [(.t 32)]), (some (29, true)), [11, 10, 8]⟩,
    ⟨(some 34), (.bin .eql (.t 31) (.t 33)), (some (29, true)), [10, 12, 8]⟩,
    ⟨(some 35), (.pick (.t 29) (.t 34) (.c (.bool false))), none, [8, 13]⟩,
    ⟨(some 36), (.mov (.t 35)), none, [14, 12]⟩,
    ⟨(some 37), (.mov (.t 1)), (some (36, true)), [15]⟩,
    ⟨(some 38), (.indexArr 1 2 (.t 5) (.c (.int .i64 0))), (some (36, true)), [15]⟩,
    ⟨(some 39), (.load none (.t 38)), (some (36, true)), [17, 15]⟩,
    ⟨(some 40), (.call (.f 12) [(.t 37), (.t 39)]), (some (36, true)), [16, 18, 15, 15]⟩,
    ⟨(some 41), (.mov (.t 1)), (some (36, true)), [15]⟩,
    ⟨(some 42), (.indexArr 1 2 (.t 5) (.c (.int .i64 0))), (some (36, true)), [15]⟩,
    ⟨(some 43), (.load none (.t 42)), (some (36, true)), [21, 15]⟩,
    ⟨(some 44), (.call (.f 13) [(.t 41), (.t 43)]), (some (36, true)), [20, 22, 19, 15]⟩,
    ⟨(some 45), (.bin .eql (.t 40) (.t 44)), (some (36, true)), [19, 23, 15]⟩,
    ⟨(some 46), (.pick (.t 36) (.t 45) (.c (.bool false))), none, [15, 24]⟩,
    ⟨(some 47), (.mov (.t 46)), none, [25, 23]⟩,
    ⟨(some 48), (.indexArr 1 2 (.t 5) (.c (.int .i64 0))), (some (47, true)), [26]⟩,
    ⟨(some 49), (.load none (.t 48)), (some (47, true)), [27, 26]⟩,
    ⟨(some 50), (.indexArr 1 2 (.t 5) (.c (.int .i64 1))), (some (47, true)), [26]⟩,
    ⟨(some 51), (.load none (.t 50)), (some (47, true)), [29, 26]⟩,
    ⟨(some 52), (.call (.f 14) [(.t 49), (.t 51)]), (some (47, true)), [28, 30, 26, 26]⟩,
    ⟨(some 53), (.indexArr 1 2 (.t 5) (.c (.int .i64 0))), (some (47, true)), [26]⟩,
    ⟨(some 54), (.load none (.t 53)), (some (47, true)), [32, 26]⟩,
    ⟨(some 55), (.indexArr 1 2 (.t 5) (.c (.int .i64 1))), (some (47, true)), [26]⟩,
    ⟨(some 56), (.load none (.t 55)), (some (47, true)), [34, 26]⟩,
    ⟨(some 57), (.call (.f 15) [(.t 54), (.t 56)]), (some (47, true)), [33, 35, 31, 26]⟩,
    ⟨(some 58), (.bin .eql (.t 52) (.t 57)), (some (47, true)), [31, 36, 26]⟩,
    ⟨(some 59), (.pick (.t 47) (.t 58) (.c (.bool false))), none, [26, 37]⟩,
    ⟨(some 60), (.mov (.t 59)), none, [38, 36]⟩,
    ⟨(some 61), (.call (.f 16) []), (some (60, true)), [39, 39]⟩,
    ⟨(some 62), (.pick (.t 60) (.t 61) (.c (.bool false))), none, [39, 40]⟩,
    ⟨(some 6), (.mov (.t 62)), none, [41, 40, 0, 1, 2, 3, 4, 5, 6, 7, 8, 9, 10, 11, 12, 13, 14, 15, 16, 17, 18, 19, 20, 21, 22, 23, 24, 25, 26, 27, 28, 29, 30, 31, 32, 33, 34, 35, 36, 37, 38, 39, 40, 41]⟩] (some [(0, 1), (4, 5), (9, 11), (10, 11), (16, 17), (16, 18), (16, 20), (17, 20), (18, 20), (19, 20), (16, 21), (17, 21), (18, 21), (19, 21), (20, 21), (16, 22), (17, 22), (18, 22), (19, 22), (20, 22), (27, 29), (28, 29), (27, 30), (28, 30), (27, 32), (28, 32), (29, 32), (30, 32), (31, 32), (27, 33), (28, 33), (29, 33), (30, 33), (31, 33), (27, 34), (28, 34), (29, 34), (30, 34), (31, 34), (32, 34), (33, 34), (27, 35), (28, 35), (29, 35), (30, 35), (31, 35), (32, 35), (33, 35)])
/-- toll/tolllaw15.WordsSplits -/
def B3 : ACode := (.seq (.region [⟨(some 5), (.box 24 (.t 2)), none, []⟩,
    ⟨(some 6), (.mov (.c (.bool false))), none, []⟩] none)
  (.seq (.region [⟨(some 12), (.mov (.t 0)), none, []⟩,
    ⟨(some 13), (.call (.f 7) [(.t 12)]), none, []⟩,
    ⟨(some 11), (.mov (.t 13)), none, []⟩,
    ⟨(some 14), (.extract (.t 11) 0), none, []⟩,
    ⟨(some 15), (.extract (.t 11) 1), none, []⟩,
    ⟨(some 7), (.mov (.t 14)), none, []⟩,
    ⟨(some 8), (.mov (.t 15)), none, []⟩] none)
  (.seq (.region [⟨(some 17), (.mov (.t 0)), none, []⟩,
    ⟨(some 18), (.call (.f 8) [(.t 17)]), none, []⟩,
    ⟨(some 16), (.mov (.t 18)), none, []⟩,
    ⟨(some 19), (.extract (.t 16) 0), none, []⟩,
    ⟨(some 20), (.extract (.t 16) 1), none, []⟩,
    ⟨(some 9), (.mov (.t 19)), none, []⟩,
    ⟨(some 10), (.mov (.t 20)), none, []⟩] none)
  (.seq R3_0
  .ret))))
def F3 : AFunc := ⟨3, 63, [(.tmp 6)], B3⟩
/-- toll/tolllaw15.WordsKnown -/
def B4 : ACode := (.seq (.region [⟨(some 0), (.mov (.c (.bool false))), none, []⟩] none)
  (.seq (.region [⟨(some 1), (.mov (.c (.pointer none))), none, []⟩] none)
  (.seq (.region [⟨(some 17), (.build [(.slice none 0 0), (.int .i64 0), (.int .i64 0), (.bool false)] []), none, []⟩,
    ⟨(some 18), (.box 41 (.t 17)), none, []⟩,
    ⟨(some 2), (.mov (.t 18)), none, []⟩] none)
  (.seq (.region [⟨(some 19), (.mov (.t 1)), none, []⟩,
    ⟨(some 20), (.call (.f 17) [(.t 19), (.c (.int .i64 1))]), none, []⟩] none)
  (.seq (.seq (.region [⟨(some 21), (.mov (.t 1)), none, []⟩,
    ⟨(some 22), (.call (.f 18) [(.t 21)]), none, []⟩,
    ⟨(some 23), (.bin .neq (.t 22) (.c (.int .i64 2))), none, []⟩,
    ⟨(some 24), (.mov (.t 23)), none, []⟩,
    ⟨(some 25), (.mov (.t 2)), (some (24, false)), []⟩,
    ⟨(some 26), (.call (.f 18) [(.t 25)]), (some (24, false)), []⟩,
    ⟨(some 27), (.bin .neq (.t 26) (.c (.int .i64 2))), (some (24, false)), []⟩,
    ⟨(some 28), (.pick (.t 24) (.c (.bool true)) (.t 27)), none, []⟩,
    ⟨(some 29), (.mov (.t 28)), none, []⟩,
    ⟨(some 30), (.mov (.t 1)), (some (29, false)), []⟩,
    ⟨(some 31), (.call (.f 19) [(.t 30)]), (some (29, false)), []⟩,
    ⟨(some 32), (.bin .neq (.t 31) (.c (.string ⟨#[]⟩))), (some (29, false)), []⟩,
    ⟨(some 33), (.pick (.t 29) (.c (.bool true)) (.t 32)), none, []⟩,
    ⟨(some 34), (.mov (.t 33)), none, []⟩,
    ⟨(some 35), (.mov (.t 2)), (some (34, false)), []⟩,
    ⟨(some 36), (.call (.f 20) [(.t 35), (.c (.int .i64 0)), (.c (.int .i64 1))]), (some (34, false)), []⟩,
    ⟨(some 37), (.bin .neq (.t 36) (.c (.int .i64 0))), (some (34, false)), []⟩,
    ⟨(some 38), (.pick (.t 34) (.c (.bool true)) (.t 37)), none, []⟩,
    ⟨(some 39), (.mov (.t 38)), none, []⟩,
    ⟨(some 40), (.mov (.t 1)), (some (39, false)), []⟩,
    ⟨(some 41), (.call (.f 21) [(.t 40)]), (some (39, false)), []⟩,
    ⟨(some 42), (.bin .neq (.t 41) (.c (.int .i64 0))), (some (39, false)), []⟩,
    ⟨(some 43), (.pick (.t 39) (.c (.bool true)) (.t 42)), none, []⟩,
    ⟨(some 44), (.mov (.t 43)), none, []⟩,
    ⟨(some 45), (.mov (.t 2)), (some (44, false)), []⟩,
    ⟨(some 46), (.call (.f 22) [(.t 45)]), (some (44, false)), []⟩,
    ⟨(some 47), (.pick (.t 44) (.c (.bool true)) (.t 46)), none, []⟩,
    ⟨(some 48), (.mov (.t 47)), none, []⟩,
    ⟨(some 49), (.mov (.t 1)), (some (48, false)), []⟩,
    ⟨(some 50), (.call (.f 23) [(.t 49), (.c (.string ⟨#[97]⟩))]), (some (48, false)), []⟩,
    ⟨(some 51), (.pick (.t 48) (.c (.bool true)) (.t 50)), none, []⟩,
    ⟨(some 52), (.mov (.t 51)), none, []⟩,
    ⟨(some 53), (.mov (.t 1)), (some (52, false)), []⟩,
    ⟨(some 54), (.call (.f 24) [(.t 53)]), (some (52, false)), []⟩,
    ⟨(some 55), (.bin .neq (.t 54) (.c (.int .i64 2))), (some (52, false)), []⟩,
    ⟨(some 56), (.pick (.t 52) (.c (.bool true)) (.t 55)), none, []⟩,
    ⟨(some 57), (.mov (.t 56)), none, []⟩,
    ⟨(some 58), (.mov (.t 1)), (some (57, false)), []⟩,
    ⟨(some 59), (.buildSlice 9 1 1 [(.string ⟨#[]⟩)] [(0, 1, (.c (.string ⟨#[97]⟩)))]), (some (57, false)), []⟩,
    ⟨(some 60), (.call (.f 25) [(.t 58), (.t 59)]), (some (57, false)), []⟩,
    ⟨(some 61), (.bin .neq (.t 60) (.c (.int .i64 (-1)))), (some (57, false)), []⟩,
    ⟨(some 62), (.pick (.t 57) (.c (.bool true)) (.t 61)), none, []⟩] none)
  (.cond (.t 62)
  (.seq (.region [⟨(some 0), (.mov (.c (.bool false))), none, []⟩] none)
  .ret)
  .skip))
  (.seq (.region [⟨(some 64), (.call (.f 26) [(.c (.string ⟨#[120]⟩)), (.c (.int .i64 201))]), none, []⟩,
    ⟨(some 65), (.call (.f 7) [(.t 64)]), none, []⟩,
    ⟨(some 63), (.mov (.t 65)), none, []⟩,
    ⟨(some 66), (.extract (.t 63) 0), none, []⟩,
    ⟨(some 67), (.extract (.t 63) 1), none, []⟩,
    ⟨(some 3), (.mov (.t 66)), none, []⟩,
    ⟨(some 4), (.mov (.t 67)), none, []⟩] none)
  (.seq (.region [⟨(some 69), (.call (.f 26) [(.c (.string ⟨#[120]⟩)), (.c (.int .i64 200))]), none, []⟩,
    ⟨(some 70), (.call (.f 7) [(.t 69)]), none, []⟩,
    ⟨(some 68), (.mov (.t 70)), none, []⟩,
    ⟨(some 71), (.extract (.t 68) 0), none, []⟩,
    ⟨(some 72), (.extract (.t 68) 1), none, []⟩,
    ⟨(some 5), (.mov (.t 71)), none, []⟩,
    ⟨(some 6), (.mov (.t 72)), none, []⟩] none)
  (.seq (.region [⟨(some 74), (.call (.f 7) [(.c (.string ⟨#[97, 0]⟩))]), none, []⟩,
    ⟨(some 73), (.mov (.t 74)), none, []⟩,
    ⟨(some 75), (.extract (.t 73) 0), none, []⟩,
    ⟨(some 76), (.extract (.t 73) 1), none, []⟩,
    ⟨(some 7), (.mov (.t 75)), none, []⟩,
    ⟨(some 8), (.mov (.t 76)), none, []⟩] none)
  (.seq (.region [⟨(some 78), (.call (.f 7) [(.c (.string ⟨#[195, 169]⟩))]), none, []⟩,
    ⟨(some 77), (.mov (.t 78)), none, []⟩,
    ⟨(some 79), (.extract (.t 77) 0), none, []⟩,
    ⟨(some 80), (.extract (.t 77) 1), none, []⟩,
    ⟨(some 9), (.mov (.t 79)), none, []⟩,
    ⟨(some 10), (.mov (.t 80)), none, []⟩] none)
  (.seq (.region [⟨(some 11), (.mov (.f 27)), none, []⟩] none)
  (.seq (.region [⟨(some 12), (.mov (.f 29)), none, []⟩] none)
  (.seq (.region [⟨(some 13), (.mov (.f 31)), none, []⟩] none)
  (.seq (.region [⟨(some 14), (.mov (.f 33)), none, []⟩] none)
  (.seq (.region [⟨(some 81), (.call (.f 28) [(.c (.string ⟨#[98, 32, 99]⟩))]), none, []⟩,
    ⟨(some 15), (.mov (.t 81)), none, []⟩] none)
  (.seq (.region [⟨(some 82), (.mov (.t 15)), none, []⟩,
    ⟨(some 83), (.buildSlice 9 1 2 [(.string ⟨#[]⟩)] [(0, 1, (.c (.string ⟨#[97]⟩))), (1, 1, (.c (.string ⟨#[98]⟩)))]), none, []⟩,
    ⟨(some 84), (.call (.f 25) [(.t 82), (.t 83)]), none, []⟩,
    ⟨(some 85), (.bin .eql (.t 84) (.c (.int .i64 1))), none, []⟩,
    ⟨(some 86), (.mov (.t 85)), none, []⟩,
    ⟨(some 87), (.mov (.t 15)), (some (86, true)), []⟩,
    ⟨(some 88), (.buildSlice 9 1 2 [(.string ⟨#[]⟩)] [(0, 1, (.c (.string ⟨#[97]⟩))), (1, 1, (.c (.string ⟨#[98]⟩)))]), (some (86, true)), []⟩,
    ⟨(some 89), (.call (.f 25) [(.t 87), (.t 88)]), (some (86, true)), []⟩,
    ⟨(some 90), (.bin .eql (.t 89) (.c (.int .i64 (-1)))), (some (86, true)), []⟩,
    ⟨(some 91), (.pick (.t 86) (.t 90) (.c (.bool false))), none, []⟩,
    ⟨(some 92), (.mov (.t 91)), none, []⟩,
    ⟨(some 93), (.mov (.t 15)), (some (92, true)), []⟩,
    ⟨(some 94), (.call (.f 18) [(.t 93)]), (some (92, true)), []⟩,
    ⟨(some 95), (.bin .eql (.t 94) (.c (.int .i64 23))), (some (92, true)), []⟩,
    ⟨(some 96), (.pick (.t 92) (.t 95) (.c (.bool false))), none, []⟩,
    ⟨(some 16), (.mov (.t 96)), none, []⟩] none)
  (.seq (.region [⟨(some 97), (.mov (.t 4)), none, []⟩,
    ⟨(some 98), (.bin .eql (.t 97) (.c (.int .i64 3))), none, []⟩,
    ⟨(some 99), (.mov (.t 98)), none, []⟩,
    ⟨(some 100), (.mov (.t 6)), (some (99, true)), []⟩,
    ⟨(some 101), (.bin .eql (.t 100) (.c (.int .i64 0))), (some (99, true)), []⟩,
    ⟨(some 102), (.pick (.t 99) (.t 101) (.c (.bool false))), none, []⟩,
    ⟨(some 103), (.mov (.t 102)), none, []⟩,
    ⟨(some 104), (.mov (.t 5)), (some (103, true)), []⟩,
    ⟨(some 105), (.lenSlice (.t 104)), (some (103, true)), []⟩,
    ⟨(some 106), (.bin .eql (.t 105) (.c (.int .i64 1))), (some (103, true)), []⟩,
    ⟨(some 107), (.pick (.t 103) (.t 106) (.c (.bool false))), none, []⟩,
    ⟨(some 108), (.mov (.t 107)), none, []⟩,
    ⟨(some 109), (.mov (.t 8)), (some (108, true)), []⟩,
    ⟨(some 110), (.bin .eql (.t 109) (.c (.int .i64 5))), (some (108, true)), []⟩,
    ⟨(some 111), (.pick (.t 108) (.t 110) (.c (.bool false))), none, []⟩,
    ⟨(some 112), (.mov (.t 111)), none, []⟩,
    ⟨(some 113), (.mov (.t 10)), (some (112, true)), []⟩,
    ⟨(some 114), (.bin .eql (.t 113) (.c (.int .i64 5))), (some (112, true)), []⟩,
    ⟨(some 115), (.pick (.t 112) (.t 114) (.c (.bool false))), none, []⟩,
    ⟨(some 116), (.mov (.t 115)), none, []⟩,
    ⟨(some 117), (.mov (.t 11)), (some (116, true)), []⟩,
    ⟨(some 118), (.call (.t 117) [(.c (.string ⟨#[]⟩))]), (some (116, true)), []⟩,
    ⟨(some 119), (.bin .eql (.t 118) (.c (.int .i64 4))), (some (116, true)), []⟩,
    ⟨(some 120), (.pick (.t 116) (.t 119) (.c (.bool false))), none, []⟩,
    ⟨(some 121), (.mov (.t 120)), none, []⟩,
    ⟨(some 122), (.mov (.t 11)), (some (121, true)), []⟩,
    ⟨(some 123), (.call (.t 122) [(.c (.string ⟨#[48]⟩))]), (some (121, true)), []⟩,
    ⟨(some 124), (.bin .eql (.t 123) (.c (.int .i64 24))), (some (121, true)), []⟩,
    ⟨(some 125), (.pick (.t 121) (.t 124) (.c (.bool false))), none, []⟩,
    ⟨(some 126), (.mov (.t 125)), none, []⟩,
    ⟨(some 127), (.mov (.t 11)), (some (126, true)), []⟩,
    ⟨(some 128), (.call (.t 127) [(.c (.string ⟨#[48, 49]⟩))]), (some (126, true)), []⟩,
    ⟨(some 129), (.bin .eql (.t 128) (.c (.int .i64 5))), (some (126, true)), []⟩,
    ⟨(some 130), (.pick (.t 126) (.t 129) (.c (.bool false))), none, []⟩,
    ⟨(some 131), (.mov (.t 130)), none, []⟩,
    ⟨(some 132), (.mov (.t 11)), (some (131, true)), []⟩,
    ⟨(some 133), (.call (.t 132) [(.c (.string ⟨#[52, 50, 57, 52, 57, 54, 55, 50, 57, 54]⟩))]), (some (131, true)), []⟩,
    ⟨(some 134), (.bin .eql (.t 133) (.c (.int .i64 0))), (some (131, true)), []⟩,
    ⟨(some 135), (.pick (.t 131) (.t 134) (.c (.bool false))), none, []⟩,
    ⟨(some 136), (.mov (.t 135)), none, []⟩,
    ⟨(some 137), (.mov (.t 11)), (some (136, true)), []⟩,
    ⟨(some 138), (.call (.t 137) [(.c (.string ⟨#[52, 50, 57, 52, 57, 54, 55, 50, 57, 54, 48]⟩))]), (some (136, true)), []⟩,
    ⟨(some 139), (.bin .eql (.t 138) (.c (.int .i64 5))), (some (136, true)), []⟩,
    ⟨(some 140), (.pick (.t 136) (.t 139) (.c (.bool false))), none, []⟩,
    ⟨(some 141), (.mov (.t 140)), none, []⟩,
    ⟨(some 142), (.mov (.t 11)), (some (141, true)), []⟩,
    ⟨(some 143), (.call (.t 142) [(.c (.string ⟨#[43, 49]⟩))]), (some (141, true)), []⟩,
    ⟨(some 144), (.bin .eql (.t 143) (.c (.int .i64 5))), (some (141, true)), []⟩,
    ⟨(some 145), (.pick (.t 141) (.t 144) (.c (.bool false))), none, []⟩,
    ⟨(some 146), (.mov (.t 145)), none, []⟩,
    ⟨(some 147), (.mov (.t 12)), (some (146, true)), []⟩,
    ⟨(some 148), (.call (.t 147) [(.c (.string ⟨#[97]⟩))]), (some (146, true)), []⟩,
    ⟨(some 149), (.pick (.t 146) (.t 148) (.c (.bool false))), none, []⟩,
    ⟨(some 150), (.mov (.t 149)), none, []⟩,
    ⟨(some 151), (.mov (.t 12)), (some (150, true)), []⟩,
    ⟨(some 152), (.call (.t 151) [(.c (.string ⟨#[90, 57, 45, 95]⟩))]), (some (150, true)), []⟩,
    ⟨(some 153), (.pick (.t 150) (.t 152) (.c (.bool false))), none, []⟩,
    ⟨(some 154), (.mov (.t 153)), none, []⟩,
    ⟨(some 155), (.mov (.t 12)), (some (154, true)), []⟩,
    ⟨(some 156), (.call (.t 155) [(.c (.string ⟨#[57, 97]⟩))]), (some (154, true)), []⟩,
    ⟨(some 157), (.un .not (.t 156)), (some (154, true)), []⟩,
    ⟨(some 158), (.pick (.t 154) (.t 157) (.c (.bool false))), none, []⟩,
    ⟨(some 159), (.mov (.t 158)), none, []⟩,
    ⟨(some 160), (.mov (.t 12)), (some (159, true)), []⟩,
    ⟨(some 161), (.call (.t 160) [(.c (.string ⟨#[45]⟩))]), (some (159, true)), []⟩,
    ⟨(some 162), (.un .not (.t 161)), (some (159, true)), []⟩,
    ⟨(some 163), (.pick (.t 159) (.t 162) (.c (.bool false))), none, []⟩,
    ⟨(some 164), (.mov (.t 163)), none, []⟩,
    ⟨(some 165), (.mov (.t 12)), (some (164, true)), []⟩,
    ⟨(some 166), (.call (.t 165) [(.c (.string ⟨#[97, 46, 98]⟩))]), (some (164, true)), []⟩,
    ⟨(some 167), (.un .not (.t 166)), (some (164, true)), []⟩,
    ⟨(some 168), (.pick (.t 164) (.t 167) (.c (.bool false))), none, []⟩,
    ⟨(some 169), (.mov (.t 168)), none, []⟩,
    ⟨(some 170), (.mov (.t 12)), (some (169, true)), []⟩,
    ⟨(some 171), (.call (.t 170) [(.c (.string ⟨#[97, 50, 51, 52, 53, 54, 55, 56, 57, 48, 49, 50, 51, 52, 53, 54]⟩))]), (some (169, true)), []⟩,
    ⟨(some 172), (.pick (.t 169) (.t 171) (.c (.bool false))), none, []⟩,
    ⟨(some 173), (.mov (.t 172)), none, []⟩,
    ⟨(some 174), (.mov (.t 12)), (some (173, true)), []⟩,
    ⟨(some 175), (.call (.t 174) [(.c (.string ⟨#[97, 50, 51, 52, 53, 54, 55, 56, 57, 48, 49, 50, 51, 52, 53, 54, 55]⟩))]), (some (173, true)), []⟩,
    ⟨(some 176), (.un .not (.t 175)), (some (173, true)), []⟩,
    ⟨(some 177), (.pick (.t 173) (.t 176) (.c (.bool false))), none, []⟩,
    ⟨(some 178), (.mov (.t 177)), none, []⟩,
    ⟨(some 179), (.mov (.t 13)), (some (178, true)), []⟩,
    ⟨(some 180), (.call (.t 179) [(.c (.string ⟨#[49, 46, 50, 46, 51]⟩))]), (some (178, true)), []⟩,
    ⟨(some 181), (.bin .eql (.t 180) (.c (.int .i64 5))), (some (178, true)), []⟩,
    ⟨(some 182), (.pick (.t 178) (.t 181) (.c (.bool false))), none, []⟩,
    ⟨(some 183), (.mov (.t 182)), none, []⟩,
    ⟨(some 184), (.mov (.t 13)), (some (183, true)), []⟩,
    ⟨(some 185), (.call (.t 184) [(.c (.string ⟨#[49, 46, 50, 46, 51, 46, 52, 46, 53]⟩))]), (some (183, true)), []⟩,
    ⟨(some 186), (.bin .eql (.t 185) (.c (.int .i64 5))), (some (183, true)), []⟩,
    ⟨(some 187), (.pick (.t 183) (.t 186) (.c (.bool false))), none, []⟩,
    ⟨(some 188), (.mov (.t 187)), none, []⟩,
    ⟨(some 189), (.mov (.t 13)), (some (188, true)), []⟩,
    ⟨(some 190), (.call (.t 189) [(.c (.string ⟨#[49, 46, 50, 46, 51, 46, 48, 52]⟩))]), (some (188, true)), []⟩,
    ⟨(some 191), (.bin .eql (.t 190) (.c (.int .i64 5))), (some (188, true)), []⟩,
    ⟨(some 192), (.pick (.t 188) (.t 191) (.c (.bool false))), none, []⟩,
    ⟨(some 193), (.mov (.t 192)), none, []⟩,
    ⟨(some 194), (.mov (.t 13)), (some (193, true)), []⟩,
    ⟨(some 195), (.call (.t 194) [(.c (.string ⟨#[49, 46, 50, 46, 51, 46, 57, 57, 57, 47, 56]⟩))]), (some (193, true)), []⟩,
    ⟨(some 196), (.bin .eql (.t 195) (.c (.int .i64 24))), (some (193, true)), []⟩,
    ⟨(some 197), (.pick (.t 193) (.t 196) (.c (.bool false))), none, []⟩,
    ⟨(some 198), (.mov (.t 197)), none, []⟩,
    ⟨(some 199), (.mov (.t 13)), (some (198, true)), []⟩,
    ⟨(some 200), (.call (.t 199) [(.c (.string ⟨#[49, 46, 50, 46, 51, 46, 52, 47, 51, 51]⟩))]), (some (198, true)), []⟩,
    ⟨(some 201), (.bin .eql (.t 200) (.c (.int .i64 24))), (some (198, true)), []⟩,
    ⟨(some 202), (.pick (.t 198) (.t 201) (.c (.bool false))), none, []⟩,
    ⟨(some 203), (.mov (.t 202)), none, []⟩,
    ⟨(some 204), (.mov (.t 13)), (some (203, true)), []⟩,
    ⟨(some 205), (.call (.t 204) [(.c (.string ⟨#[49, 46, 50, 46, 51, 46, 52, 47]⟩))]), (some (203, true)), []⟩,
    ⟨(some 206), (.bin .eql (.t 205) (.c (.int .i64 5))), (some (203, true)), []⟩,
    ⟨(some 207), (.pick (.t 203) (.t 206) (.c (.bool false))), none, []⟩,
    ⟨(some 208), (.mov (.t 207)), none, []⟩,
    ⟨(some 209), (.mov (.t 13)), (some (208, true)), []⟩,
    ⟨(some 210), (.call (.t 209) [(.c (.string ⟨#[51, 48, 48, 46, 50, 46, 51, 46, 120]⟩))]), (some (208, true)), []⟩,
    ⟨(some 211), (.bin .eql (.t 210) (.c (.int .i64 5))), (some (208, true)), []⟩,
    ⟨(some 212), (.pick (.t 208) (.t 211) (.c (.bool false))), none, []⟩,
    ⟨(some 213), (.mov (.t 212)), none, []⟩,
    ⟨(some 214), (.mov (.t 13)), (some (213, true)), []⟩,
    ⟨(some 215), (.call (.t 214) [(.c (.string ⟨#[48, 46, 48, 46, 48, 46, 48, 47, 48]⟩))]), (some (213, true)), []⟩,
    ⟨(some 216), (.bin .eql (.t 215) (.c (.int .i64 0))), (some (213, true)), []⟩,
    ⟨(some 217), (.pick (.t 213) (.t 216) (.c (.bool false))), none, []⟩,
    ⟨(some 218), (.mov (.t 217)), none, []⟩,
    ⟨(some 219), (.mov (.t 13)), (some (218, true)), []⟩,
    ⟨(some 220), (.call (.t 219) [(.c (.string ⟨#[49, 46, 50, 46, 51, 46, 52, 47, 51, 50]⟩))]), (some (218, true)), []⟩,
    ⟨(some 221), (.bin .eql (.t 220) (.c (.int .i64 0))), (some (218, true)), []⟩,
    ⟨(some 222), (.pick (.t 218) (.t 221) (.c (.bool false))), none, []⟩,
    ⟨(some 223), (.mov (.t 222)), none, []⟩,
    ⟨(some 224), (.mov (.t 13)), (some (223, true)), []⟩,
    ⟨(some 225), (.call (.t 224) [(.c (.string ⟨#[49, 50, 56, 46, 48, 46, 48, 46, 48, 47, 48]⟩))]), (some (223, true)), []⟩,
    ⟨(some 226), (.bin .eql (.t 225) (.c (.int .i64 24))), (some (223, true)), []⟩,
    ⟨(some 227), (.pick (.t 223) (.t 226) (.c (.bool false))), none, []⟩,
    ⟨(some 228), (.mov (.t 227)), none, []⟩,
    ⟨(some 229), (.mov (.t 14)), (some (228, true)), []⟩,
    ⟨(some 230), (.call (.t 229) [(.c (.string ⟨#[49, 45, 57]⟩))]), (some (228, true)), []⟩,
    ⟨(some 231), (.bin .eql (.t 230) (.c (.int .i64 0))), (some (228, true)), []⟩,
    ⟨(some 232), (.pick (.t 228) (.t 231) (.c (.bool false))), none, []⟩,
    ⟨(some 233), (.mov (.t 232)), none, []⟩,
    ⟨(some 234), (.mov (.t 14)), (some (233, true)), []⟩,
    ⟨(some 235), (.call (.t 234) [(.c (.string ⟨#[53]⟩))]), (some (233, true)), []⟩,
    ⟨(some 236), (.bin .eql (.t 235) (.c (.int .i64 0))), (some (233, true)), []⟩,
    ⟨(some 237), (.pick (.t 233) (.t 236) (.c (.bool false))), none, []⟩,
    ⟨(some 238), (.mov (.t 237)), none, []⟩,
    ⟨(some 239), (.mov (.t 14)), (some (238, true)), []⟩,
    ⟨(some 240), (.call (.t 239) [(.c (.string ⟨#[53, 45, 52]⟩))]), (some (238, true)), []⟩,
    ⟨(some 241), (.bin .eql (.t 240) (.c (.int .i64 24))), (some (238, true)), []⟩,
    ⟨(some 242), (.pick (.t 238) (.t 241) (.c (.bool false))), none, []⟩,
    ⟨(some 243), (.mov (.t 242)), none, []⟩,
    ⟨(some 244), (.mov (.t 14)), (some (243, true)), []⟩,
    ⟨(some 245), (.call (.t 244) [(.c (.string ⟨#[48, 45, 52]⟩))]), (some (243, true)), []⟩,
    ⟨(some 246), (.bin .eql (.t 245) (.c (.int .i64 24))), (some (243, true)), []⟩,
    ⟨(some 247), (.pick (.t 243) (.t 246) (.c (.bool false))), none, []⟩,
    ⟨(some 248), (.mov (.t 247)), none, []⟩,
    ⟨(some 249), (.mov (.t 14)), (some (248, true)), []⟩,
    ⟨(some 250), (.call (.t 249) [(.c (.string ⟨#[49, 45, 49, 48]⟩))]), (some (248, true)), []⟩,
    ⟨(some 251), (.bin .eql (.t 250) (.c (.int .i64 24))), (some (248, true)), []⟩,
    ⟨(some 252), (.pick (.t 248) (.t 251) (.c (.bool false))), none, []⟩,
    ⟨(some 253), (.mov (.t 252)), none, []⟩,
    ⟨(some 254), (.mov (.t 14)), (some (253, true)), []⟩,
    ⟨(some 255), (.call (.t 254) [(.c (.string ⟨#[45, 52]⟩))]), (some (253, true)), []⟩,
    ⟨(some 256), (.bin .eql (.t 255) (.c (.int .i64 5))), (some (253, true)), []⟩,
    ⟨(some 257), (.pick (.t 253) (.t 256) (.c (.bool false))), none, []⟩,
    ⟨(some 258), (.mov (.t 257)), none, []⟩,
    ⟨(some 259), (.mov (.t 14)), (some (258, true)), []⟩,
    ⟨(some 260), (.call (.t 259) [(.c (.string ⟨#[49, 45, 50, 45, 51]⟩))]), (some (258, true)), []⟩,
    ⟨(some 261), (.bin .eql (.t 260) (.c (.int .i64 5))), (some (258, true)), []⟩,
    ⟨(some 262), (.pick (.t 258) (.t 261) (.c (.bool false))), none, []⟩,
    ⟨(some 263), (.mov (.t 262)), none, []⟩,
    ⟨(some 264), (.mov (.t 16)), (some (263, true)), []⟩,
    ⟨(some 265), (.pick (.t 263) (.t 264) (.c (.bool false))), none, []⟩,
    ⟨(some 266), (.mov (.t 265)), none, []⟩,
    ⟨(some 267), (.call (.f 10) [(.c (.int .u32 4294967295))]), (some (266, true)), []⟩,
    ⟨(some 268), (.bin .eql (.t 267) (.c (.string ⟨#[50, 53, 53, 46, 50, 53, 53, 46, 50, 53, 53, 46, 50, 53, 53]⟩))), (some (266, true)), []⟩,
    ⟨(some 269), (.pick (.t 266) (.t 268) (.c (.bool false))), none, []⟩,
    ⟨(some 270), (.mov (.t 269)), none, []⟩,
    ⟨(some 271), (.call (.f 12) [(.c (.int .u32 4294967295)), (.c (.int .i64 1))]), (some (270, true)), []⟩,
    ⟨(some 272), (.bin .eql (.t 271) (.c (.string ⟨#[49, 50, 56, 46, 48, 46, 48, 46, 48, 47, 49]⟩))), (some (270, true)), []⟩,
    ⟨(some 273), (.pick (.t 270) (.t 272) (.c (.bool false))), none, []⟩,
    ⟨(some 274), (.mov (.t 273)), none, []⟩,
    ⟨(some 275), (.call (.f 12) [(.c (.int .u32 5)), (.c (.int .i64 (-3)))]), (some (274, true)), []⟩,
    ⟨(some 276), (.bin .eql (.t 275) (.c (.string ⟨#[48, 46, 48, 46, 48, 46, 48, 47, 48]⟩))), (some (274, true)), []⟩,
    ⟨(some 277), (.pick (.t 274) (.t 276) (.c (.bool false))), none, []⟩,
    ⟨(some 278), (.mov (.t 277)), none, []⟩,
    ⟨(some 279), (.call (.f 14) [(.c (.int .i64 (-2))), (.c (.int .i64 3))]), (some (278, true)), []⟩,
    ⟨(some 280), (.bin .eql (.t 279) (.c (.string ⟨#[45, 50, 45, 51]⟩))), (some (278, true)), []⟩,
    ⟨(some 281), (.pick (.t 278) (.t 280) (.c (.bool false))), none, []⟩,
    ⟨(some 282), (.mov (.t 281)), none, []⟩,
    ⟨(some 283), (.call (.f 14) [(.c (.int .i64 3)), (.c (.int .i64 3))]), (some (282, true)), []⟩,
    ⟨(some 284), (.bin .eql (.t 283) (.c (.string ⟨#[51]⟩))), (some (282, true)), []⟩,
    ⟨(some 285), (.pick (.t 282) (.t 284) (.c (.bool false))), none, []⟩,
    ⟨(some 286), (.mov (.t 285)), none, []⟩,
    ⟨(some 287), (.call (.f 16) []), (some (286, true)), []⟩,
    ⟨(some 288), (.pick (.t 286) (.t 287) (.c (.bool false))), none, []⟩,
    ⟨(some 0), (.mov (.t 288)), none, []⟩] none)
  .ret))))))))))))))))
def F4 : AFunc := ⟨0, 289, [(.tmp 0)], B4⟩
def R6_0 : ACode := .region [⟨(some 42), (.mov (.t 7)), none, []⟩,
    ⟨(some 43), (.call (.f 23) [(.t 42), (.c (.string ⟨#[110, 111, 32, 115, 117, 99, 104, 32, 119, 111, 114, 100]⟩))]), none, [0]⟩,
    ⟨(some 44), (.mov (.t 43)), none, [1, 1]⟩,
    ⟨(some 45), (.mov (.t 7)), (some (44, false)), [2]⟩,
    ⟨(some 46), (.call (.f 21) [(.t 45)]), (some (44, false)), [3, 2, 2]⟩,
    ⟨(some 47), (.mov (.t 8)), (some (44, false)), [2]⟩,
    ⟨(some 48), (.bin .neq (.t 46) (.t 47)), (some (44, false)), [4, 5, 2]⟩,
    ⟨(some 49), (.pick (.t 44) (.c (.bool true)) (.t 48)), none, [2, 6]⟩,
    ⟨(some 50), (.mov (.t 49)), none, [7, 4]⟩,
    ⟨(some 51), (.mov (.t 7)), (some (50, false)), [8]⟩,
    ⟨(some 52), (.call (.f 19) [(.t 51)]), (some (50, false)), [9, 8, 8]⟩,
    ⟨(some 53), (.mov (.t 5)), (some (50, false)), [8]⟩,
    ⟨(some 54), (.mov (.t 8)), (some (50, false)), [8]⟩,
    ⟨(some 55), (.indexAddr 1 (.t 53) (.t 54)), (some (50, false)), [11, 12, 8]⟩,
    ⟨(some 56), (.load none (.t 55)), (some (50, false)), [13, 8]⟩,
    ⟨(some 57), (.bin .neq (.t 52) (.t 56)), (some (50, false)), [10, 14, 8]⟩,
    ⟨(some 58), (.pick (.t 50) (.c (.bool true)) (.t 57)), none, [8, 15]⟩] (some [(3, 5), (4, 5), (9, 11), (10, 11), (9, 12), (10, 12), (11, 12), (9, 13), (10, 13), (9, 14), (10, 14)])
/-- toll/tolllaw15.WordsStay -/
def F6L0 : ACode := (.seq (.region [⟨(some 33), (.bin .lss (.t 32) (.t 31)), none, []⟩] none)
  (.seq (.cond (.t 33)
  .skip
  (.exit 0))
  (.seq (.block 1 (.seq (.region [⟨(some 34), (.mov (.t 32)), none, []⟩,
    ⟨(some 8), (.mov (.t 34)), none, []⟩] none)
  (.seq (.seq (.region [⟨(some 35), (.mov (.t 8)), none, []⟩,
    ⟨(some 36), (.mov (.t 1)), none, []⟩,
    ⟨(some 37), (.bin .rem (.t 36) (.c (.int .u8 8))), none, []⟩,
    ⟨(some 38), (.conv .i64 (.t 37)), none, []⟩,
    ⟨(some 39), (.bin .eql (.t 35) (.t 38)), none, []⟩] none)
  (.cond (.t 39)
  (.seq (.region [⟨(some 40), (.mov (.t 7)), none, []⟩,
    ⟨(some 41), (.call (.f 17) [(.t 40), (.c (.int .i64 26))]), none, []⟩] none)
  (.exit 0))
  .skip))
  (.seq R6_0
  (.cond (.t 58)
  (.seq (.region [⟨(some 4), (.mov (.c (.bool false))), none, []⟩] none)
  .ret)
  .skip)))))
  (.region [⟨(some 59), (.bin .add (.t 32) (.c (.int .i64 1))), none, []⟩,
    ⟨(some 32), (.mov (.t 59)), none, []⟩] none))))
def B6 : ACode := (.seq (.region [⟨(some 4), (.mov (.c (.bool false))), none, []⟩] none)
  (.seq (.region [⟨(some 20), (.mov (.t 0)), none, []⟩,
    ⟨(some 21), (.call (.f 7) [(.t 20)]), none, []⟩,
    ⟨(some 19), (.mov (.t 21)), none, []⟩,
    ⟨(some 22), (.extract (.t 19) 0), none, []⟩,
    ⟨(some 23), (.extract (.t 19) 1), none, []⟩,
    ⟨(some 5), (.mov (.t 22)), none, []⟩,
    ⟨(some 6), (.mov (.t 23)), none, []⟩] none)
  (.seq (.region [⟨(some 24), (.mov (.t 0)), none, []⟩,
    ⟨(some 25), (.call (.f 28) [(.t 24)]), none, []⟩,
    ⟨(some 7), (.mov (.t 25)), none, []⟩] none)
  (.seq (.seq (.region [⟨(some 26), (.mov (.t 7)), none, []⟩,
    ⟨(some 27), (.call (.f 18) [(.t 26)]), none, []⟩,
    ⟨(some 28), (.mov (.t 6)), none, []⟩,
    ⟨(some 29), (.bin .neq (.t 27) (.t 28)), none, []⟩] none)
  (.cond (.t 29)
  (.seq (.region [⟨(some 4), (.mov (.c (.bool false))), none, []⟩] none)
  .ret)
  .skip))
  (.seq (.seq (.region [⟨(some 30), (.mov (.t 5)), none, []⟩,
    ⟨(some 31), (.lenSlice (.t 30)), none, []⟩,
    ⟨(some 32), (.mov (.c (.int .i64 0))), none, []⟩] none)
  (.block 0 (.loop F6L0)))
  (.seq (.seq (.region [⟨(some 60), (.mov (.t 7)), none, []⟩,
    ⟨(some 61), (.call (.f 18) [(.t 60)]), none, []⟩,
    ⟨(some 62), (.bin .eql (.t 61) (.c (.int .i64 0))), none, []⟩] none)
  (.cond (.t 62)
  (.seq (.region [⟨(some 63), (.mov (.t 7)), none, []⟩,
    ⟨(some 64), (.call (.f 24) [(.t 63)]), none, []⟩,
    ⟨(some 65), (.mov (.t 7)), none, []⟩,
    ⟨(some 66), (.call (.f 22) [(.t 65)]), none, []⟩,
    ⟨(some 9), (.mov (.t 64)), none, []⟩,
    ⟨(some 10), (.mov (.t 66)), none, []⟩] none)
  (.seq (.region [⟨(some 67), (.mov (.t 7)), none, []⟩,
    ⟨(some 68), (.call (.f 19) [(.t 67)]), none, []⟩,
    ⟨(some 11), (.mov (.t 68)), none, []⟩] none)
  (.seq (.region [⟨(some 69), (.mov (.t 9)), none, []⟩,
    ⟨(some 70), (.bin .eql (.t 69) (.c (.int .i64 0))), none, []⟩,
    ⟨(some 71), (.mov (.t 70)), none, []⟩,
    ⟨(some 72), (.mov (.t 10)), (some (71, true)), []⟩,
    ⟨(some 73), (.un .not (.t 72)), (some (71, true)), []⟩,
    ⟨(some 74), (.pick (.t 71) (.t 73) (.c (.bool false))), none, []⟩,
    ⟨(some 75), (.mov (.t 74)), none, []⟩,
    ⟨(some 76), (.mov (.t 11)), (some (75, true)), []⟩,
    ⟨(some 77), (.bin .eql (.t 76) (.c (.string ⟨#[]⟩))), (some (75, true)), []⟩,
    ⟨(some 78), (.pick (.t 75) (.t 77) (.c (.bool false))), none, []⟩,
    ⟨(some 79), (.mov (.t 78)), none, []⟩,
    ⟨(some 80), (.mov (.t 7)), (some (79, true)), []⟩,
    ⟨(some 81), (.call (.f 18) [(.t 80)]), (some (79, true)), []⟩,
    ⟨(some 82), (.bin .eql (.t 81) (.c (.int .i64 4))), (some (79, true)), []⟩,
    ⟨(some 83), (.pick (.t 79) (.t 82) (.c (.bool false))), none, []⟩,
    ⟨(some 84), (.mov (.t 83)), none, []⟩,
    ⟨(some 85), (.mov (.t 7)), (some (84, true)), []⟩,
    ⟨(some 86), (.call (.f 21) [(.t 85)]), (some (84, true)), []⟩,
    ⟨(some 87), (.mov (.t 5)), (some (84, true)), []⟩,
    ⟨(some 88), (.lenSlice (.t 87)), (some (84, true)), []⟩,
    ⟨(some 89), (.bin .eql (.t 86) (.t 88)), (some (84, true)), []⟩,
    ⟨(some 90), (.pick (.t 84) (.t 89) (.c (.bool false))), none, []⟩,
    ⟨(some 91), (.mov (.t 90)), none, []⟩,
    ⟨(some 92), (.call (.f 16) []), (some (91, true)), []⟩,
    ⟨(some 93), (.pick (.t 91) (.t 92) (.c (.bool false))), none, []⟩,
    ⟨(some 4), (.mov (.t 93)), none, []⟩] none)
  .ret)))
  .skip))
  (.seq (.region [⟨(some 94), (.mov (.t 7)), none, []⟩,
    ⟨(some 95), (.call (.f 18) [(.t 94)]), none, []⟩,
    ⟨(some 96), (.mov (.t 7)), none, []⟩,
    ⟨(some 97), (.call (.f 21) [(.t 96)]), none, []⟩,
    ⟨(some 12), (.mov (.t 95)), none, []⟩,
    ⟨(some 13), (.mov (.t 97)), none, []⟩] none)
  (.seq (.region [⟨(some 99), (.mov (.t 7)), none, []⟩,
    ⟨(some 100), (.call (.f 32) [(.t 99)]), none, []⟩,
    ⟨(some 98), (.mov (.t 100)), none, []⟩,
    ⟨(some 101), (.extract (.t 98) 0), none, []⟩,
    ⟨(some 102), (.extract (.t 98) 1), none, []⟩,
    ⟨(some 14), (.mov (.t 101)), none, []⟩,
    ⟨(some 15), (.mov (.t 102)), none, []⟩] none)
  (.seq (.region [⟨(some 104), (.mov (.t 7)), none, []⟩,
    ⟨(some 105), (.call (.f 34) [(.t 104), (.c (.int .i64 0)), (.c (.int .i64 9))]), none, []⟩,
    ⟨(some 103), (.mov (.t 105)), none, []⟩,
    ⟨(some 106), (.extract (.t 103) 0), none, []⟩,
    ⟨(some 107), (.extract (.t 103) 1), none, []⟩,
    ⟨(some 16), (.mov (.t 106)), none, []⟩,
    ⟨(some 17), (.mov (.t 107)), none, []⟩] none)
  (.seq (.region [⟨(some 108), (.mov (.t 7)), none, []⟩,
    ⟨(some 109), (.call (.f 19) [(.t 108)]), none, []⟩,
    ⟨(some 110), (.bin .eql (.t 109) (.c (.string ⟨#[]⟩))), none, []⟩,
    ⟨(some 111), (.mov (.t 110)), none, []⟩,
    ⟨(some 112), (.mov (.t 7)), (some (111, true)), []⟩,
    ⟨(some 113), (.call (.f 23) [(.t 112), (.c (.string ⟨#[97]⟩))]), (some (111, true)), []⟩,
    ⟨(some 114), (.un .not (.t 113)), (some (111, true)), []⟩,
    ⟨(some 115), (.pick (.t 111) (.t 114) (.c (.bool false))), none, []⟩,
    ⟨(some 116), (.mov (.t 115)), none, []⟩,
    ⟨(some 117), (.mov (.t 7)), (some (116, true)), []⟩,
    ⟨(some 118), (.buildSlice 9 1 1 [(.string ⟨#[]⟩)] [(0, 1, (.c (.string ⟨#[97]⟩)))]), (some (116, true)), []⟩,
    ⟨(some 119), (.call (.f 25) [(.t 117), (.t 118)]), (some (116, true)), []⟩,
    ⟨(some 120), (.bin .eql (.t 119) (.c (.int .i64 (-1)))), (some (116, true)), []⟩,
    ⟨(some 121), (.pick (.t 116) (.t 120) (.c (.bool false))), none, []⟩,
    ⟨(some 122), (.mov (.t 121)), none, []⟩,
    ⟨(some 123), (.mov (.t 7)), (some (122, true)), []⟩,
    ⟨(some 124), (.call (.f 20) [(.t 123), (.c (.int .i64 0)), (.c (.int .i64 9))]), (some (122, true)), []⟩,
    ⟨(some 125), (.bin .eql (.t 124) (.c (.int .i64 0))), (some (122, true)), []⟩,
    ⟨(some 126), (.pick (.t 122) (.t 125) (.c (.bool false))), none, []⟩,
    ⟨(some 127), (.mov (.t 126)), none, []⟩,
    ⟨(some 128), (.mov (.t 7)), (some (127, true)), []⟩,
    ⟨(some 129), (.call (.f 30) [(.t 128)]), (some (127, true)), []⟩,
    ⟨(some 130), (.bin .eql (.t 129) (.c (.string ⟨#[]⟩))), (some (127, true)), []⟩,
    ⟨(some 131), (.pick (.t 127) (.t 130) (.c (.bool false))), none, []⟩,
    ⟨(some 132), (.mov (.t 131)), none, []⟩,
    ⟨(some 133), (.mov (.t 7)), (some (132, true)), []⟩,
    ⟨(some 134), (.call (.f 39) [(.t 133)]), (some (132, true)), []⟩,
    ⟨(some 135), (.bin .eql (.t 134) (.c (.int .u32 0))), (some (132, true)), []⟩,
    ⟨(some 136), (.pick (.t 132) (.t 135) (.c (.bool false))), none, []⟩,
    ⟨(some 137), (.mov (.t 136)), none, []⟩,
    ⟨(some 138), (.mov (.t 7)), (some (137, true)), []⟩,
    ⟨(some 139), (.call (.f 40) [(.t 138)]), (some (137, true)), []⟩,
    ⟨(some 140), (.bin .eql (.t 139) (.c (.float .f64 0))), (some (137, true)), []⟩,
    ⟨(some 141), (.pick (.t 137) (.t 140) (.c (.bool false))), none, []⟩,
    ⟨(some 142), (.mov (.t 141)), none, []⟩,
    ⟨(some 143), (.mov (.t 14)), (some (142, true)), []⟩,
    ⟨(some 144), (.bin .eql (.t 143) (.c (.int .u32 0))), (some (142, true)), []⟩,
    ⟨(some 145), (.pick (.t 142) (.t 144) (.c (.bool false))), none, []⟩,
    ⟨(some 146), (.mov (.t 145)), none, []⟩,
    ⟨(some 147), (.mov (.t 15)), (some (146, true)), []⟩,
    ⟨(some 148), (.bin .eql (.t 147) (.c (.int .i64 0))), (some (146, true)), []⟩,
    ⟨(some 149), (.pick (.t 146) (.t 148) (.c (.bool false))), none, []⟩,
    ⟨(some 150), (.mov (.t 149)), none, []⟩,
    ⟨(some 151), (.mov (.t 16)), (some (150, true)), []⟩,
    ⟨(some 152), (.bin .eql (.t 151) (.c (.int .i64 0))), (some (150, true)), []⟩,
    ⟨(some 153), (.pick (.t 150) (.t 152) (.c (.bool false))), none, []⟩,
    ⟨(some 154), (.mov (.t 153)), none, []⟩,
    ⟨(some 155), (.mov (.t 17)), (some (154, true)), []⟩,
    ⟨(some 156), (.bin .eql (.t 155) (.c (.int .i64 0))), (some (154, true)), []⟩,
    ⟨(some 157), (.pick (.t 154) (.t 156) (.c (.bool false))), none, []⟩,
    ⟨(some 18), (.mov (.t 157)), none, []⟩] none)
  (.seq (.region [⟨(some 158), (.mov (.t 18)), none, []⟩,
    ⟨(some 159), (.mov (.t 158)), none, []⟩,
    ⟨(some 160), (.mov (.t 7)), (some (159, true)), []⟩,
    ⟨(some 161), (.call (.f 18) [(.t 160)]), (some (159, true)), []⟩,
    ⟨(some 162), (.mov (.t 12)), (some (159, true)), []⟩,
    ⟨(some 163), (.bin .eql (.t 161) (.t 162)), (some (159, true)), []⟩,
    ⟨(some 164), (.pick (.t 159) (.t 163) (.c (.bool false))), none, []⟩,
    ⟨(some 165), (.mov (.t 164)), none, []⟩,
    ⟨(some 166), (.mov (.t 7)), (some (165, true)), []⟩,
    ⟨(some 167), (.call (.f 21) [(.t 166)]), (some (165, true)), []⟩,
    ⟨(some 168), (.mov (.t 13)), (some (165, true)), []⟩,
    ⟨(some 169), (.bin .eql (.t 167) (.t 168)), (some (165, true)), []⟩,
    ⟨(some 170), (.pick (.t 165) (.t 169) (.c (.bool false))), none, []⟩,
    ⟨(some 171), (.mov (.t 170)), none, []⟩,
    ⟨(some 172), (.mov (.t 7)), (some (171, true)), []⟩,
    ⟨(some 173), (.call (.f 22) [(.t 172)]), (some (171, true)), []⟩,
    ⟨(some 174), (.un .not (.t 173)), (some (171, true)), []⟩,
    ⟨(some 175), (.pick (.t 171) (.t 174) (.c (.bool false))), none, []⟩,
    ⟨(some 176), (.mov (.t 175)), none, []⟩,
    ⟨(some 177), (.mov (.t 7)), (some (176, true)), []⟩,
    ⟨(some 178), (.call (.f 24) [(.t 177)]), (some (176, true)), []⟩,
    ⟨(some 179), (.mov (.t 12)), (some (176, true)), []⟩,
    ⟨(some 180), (.bin .eql (.t 178) (.t 179)), (some (176, true)), []⟩,
    ⟨(some 181), (.pick (.t 176) (.t 180) (.c (.bool false))), none, []⟩,
    ⟨(some 182), (.mov (.t 181)), none, []⟩,
    ⟨(some 183), (.call (.f 16) []), (some (182, true)), []⟩,
    ⟨(some 184), (.pick (.t 182) (.t 183) (.c (.bool false))), none, []⟩,
    ⟨(some 4), (.mov (.t 184)), none, []⟩] none)
  .ret)))))))))))
def F6 : AFunc := ⟨2, 185, [(.tmp 4)], B6⟩
-- F6L0 live: [1, 5, 7, 31, 32]
/-- toll/words.Split -/
def B7 : ACode := (.seq (.region [⟨(some 2), (.mov (.c (.slice none 0 0))), none, []⟩,
    ⟨(some 3), (.mov (.c (.int .i64 0))), none, []⟩] none)
  (.seq (.seq (.region [⟨(some 5), (.mov (.t 0)), none, []⟩,
    ⟨(some 6), (.lenStr (.t 5)), none, []⟩,
    ⟨(some 7), (.bin .gtr (.t 6) (.c (.int .i64 200))), none, []⟩] none)
  (.cond (.t 7)
  (.seq (.region [⟨(some 2), (.mov (.c (.slice none 0 0))), none, []⟩,
    ⟨(some 3), (.mov (.c (.int .i64 3))), none, []⟩] none)
  .ret)
  .skip))
  (.seq (.region [⟨(some 4), (.mov (.f 41)), none, []⟩] none)
  (.seq (.seq (.region [⟨(some 8), (.mov (.t 0)), none, []⟩,
    ⟨(some 9), (.bytesOf 5 (.t 8)), none, []⟩,
    ⟨(some 10), (.mov (.t 4)), none, []⟩,
    ⟨(some 11), (.call (.f 42) [(.t 9), (.t 10)]), none, []⟩] none)
  (.cond (.t 11)
  (.seq (.region [⟨(some 2), (.mov (.c (.slice none 0 0))), none, []⟩,
    ⟨(some 3), (.mov (.c (.int .i64 5))), none, []⟩] none)
  .ret)
  .skip))
  (.seq (.region [⟨(some 13), (.mov (.t 0)), none, []⟩,
    ⟨(some 14), (.call (.f 43) [(.t 13), (.c (.string ⟨#[35]⟩))]), none, []⟩,
    ⟨(some 12), (.mov (.t 14)), none, []⟩,
    ⟨(some 15), (.extract (.t 12) 0), none, []⟩,
    ⟨(some 16), (.extract (.t 12) 1), none, []⟩,
    ⟨(some 17), (.extract (.t 12) 2), none, []⟩,
    ⟨(some 0), (.mov (.t 15)), none, []⟩] none)
  (.seq (.region [⟨(some 18), (.mov (.t 0)), none, []⟩,
    ⟨(some 19), (.call (.f 44) [(.t 18), (.f 45)]), none, []⟩,
    ⟨(some 2), (.mov (.t 19)), none, []⟩,
    ⟨(some 3), (.mov (.c (.int .i64 0))), none, []⟩] none)
  .ret))))))
def F7 : AFunc := ⟨1, 20, [(.tmp 2), (.tmp 3)], B7⟩
/-- toll/tollref15.Split -/
def F8L0 : ACode := (.seq (.seq (.region [⟨(some 11), (.mov (.t 4)), none, []⟩,
    ⟨(some 12), (.mov (.t 0)), none, []⟩,
    ⟨(some 13), (.lenStr (.t 12)), none, []⟩,
    ⟨(some 14), (.bin .lss (.t 11) (.t 13)), none, []⟩] none)
  (.cond (.t 14)
  .skip
  (.exit 0)))
  (.seq (.block 1 (.seq (.region [⟨(some 17), (.mov (.t 0)), none, []⟩,
    ⟨(some 18), (.mov (.t 4)), none, []⟩,
    ⟨(some 19), (.indexStr (.t 17) (.t 18)), none, []⟩,
    ⟨(some 20), (.bin .neq (.t 19) (.c (.int .u8 9))), none, []⟩,
    ⟨(some 21), (.mov (.t 20)), none, []⟩,
    ⟨(some 22), (.mov (.t 0)), (some (21, true)), []⟩,
    ⟨(some 23), (.mov (.t 4)), (some (21, true)), []⟩,
    ⟨(some 24), (.indexStr (.t 22) (.t 23)), (some (21, true)), []⟩,
    ⟨(some 25), (.bin .lss (.t 24) (.c (.int .u8 32))), (some (21, true)), []⟩,
    ⟨(some 26), (.mov (.t 25)), (some (21, true)), []⟩,
    ⟨(some 27), (.mov (.t 0)), (some (26, false)), []⟩,
    ⟨(some 28), (.mov (.t 4)), (some (26, false)), []⟩,
    ⟨(some 29), (.indexStr (.t 27) (.t 28)), (some (26, false)), []⟩,
    ⟨(some 30), (.bin .gtr (.t 29) (.c (.int .u8 126))), (some (26, false)), []⟩,
    ⟨(some 31), (.pick (.t 26) (.c (.bool true)) (.t 30)), (some (21, true)), []⟩,
    ⟨(some 32), (.pick (.t 21) (.t 31) (.c (.bool false))), none, []⟩] none)
  (.cond (.t 32)
  (.seq (.region [⟨(some 2), (.mov (.c (.slice none 0 0))), none, []⟩,
    ⟨(some 3), (.mov (.c (.int .i64 5))), none, []⟩] none)
  .ret)
  .skip)))
  (.region [⟨(some 15), (.mov (.t 4)), none, []⟩,
    ⟨(some 16), (.bin .add (.t 15) (.c (.int .i64 1))), none, []⟩,
    ⟨(some 4), (.mov (.t 16)), none, []⟩] none)))
def F8L1 : ACode := (.seq (.seq (.region [⟨(some 33), (.mov (.t 7)), none, []⟩,
    ⟨(some 34), (.mov (.t 0)), none, []⟩,
    ⟨(some 35), (.lenStr (.t 34)), none, []⟩,
    ⟨(some 36), (.bin .lss (.t 33) (.t 35)), none, []⟩] none)
  (.cond (.t 36)
  .skip
  (.exit 2)))
  (.seq (.block 3 (.seq (.seq (.region [⟨(some 39), (.mov (.t 0)), none, []⟩,
    ⟨(some 40), (.mov (.t 7)), none, []⟩,
    ⟨(some 41), (.indexStr (.t 39) (.t 40)), none, []⟩,
    ⟨(some 42), (.bin .eql (.t 41) (.c (.int .u8 35))), none, []⟩] none)
  (.cond (.t 42)
  (.exit 2)
  .skip))
  (.seq (.seq (.region [⟨(some 43), (.mov (.t 0)), none, []⟩,
    ⟨(some 44), (.mov (.t 7)), none, []⟩,
    ⟨(some 45), (.indexStr (.t 43) (.t 44)), none, []⟩,
    ⟨(some 46), (.bin .eql (.t 45) (.c (.int .u8 32))), none, []⟩,
    ⟨(some 47), (.mov (.t 46)), none, []⟩,
    ⟨(some 48), (.mov (.t 0)), (some (47, false)), []⟩,
    ⟨(some 49), (.mov (.t 7)), (some (47, false)), []⟩,
    ⟨(some 50), (.indexStr (.t 48) (.t 49)), (some (47, false)), []⟩,
    ⟨(some 51), (.bin .eql (.t 50) (.c (.int .u8 9))), (some (47, false)), []⟩,
    ⟨(some 52), (.pick (.t 47) (.c (.bool true)) (.t 51)), none, []⟩] none)
  (.cond (.t 52)
  (.seq (.seq (.region [⟨(some 53), (.mov (.t 6)), none, []⟩,
    ⟨(some 54), (.bin .neq (.t 53) (.c (.string ⟨#[]⟩))), none, []⟩] none)
  (.cond (.t 54)
  (.region [⟨(some 55), (.mov (.t 5)), none, []⟩,
    ⟨(some 56), (.mov (.t 6)), none, []⟩,
    ⟨(some 57), (.buildSlice 9 1 1 [(.string ⟨#[]⟩)] [(0, 1, (.t 56))]), none, []⟩,
    ⟨(some 58), (.append 9 1 16 (.t 55) (.t 57)), none, []⟩,
    ⟨(some 5), (.mov (.t 58)), none, []⟩] none)
  .skip))
  (.seq (.region [⟨(some 6), (.mov (.c (.string ⟨#[]⟩))), none, []⟩] none)
  (.exit 3)))
  .skip))
  (.region [⟨(some 59), (.mov (.t 6)), none, []⟩,
    ⟨(some 60), (.mov (.t 0)), none, []⟩,
    ⟨(some 61), (.mov (.t 7)), none, []⟩,
    ⟨(some 62), (.mov (.t 7)), none, []⟩,
    ⟨(some 63), (.bin .add (.t 62) (.c (.int .i64 1))), none, []⟩,
    ⟨(some 64), (.sliceStr (.t 60) (some (.t 61)) (some (.t 63))), none, []⟩,
    ⟨(some 65), (.bin .add (.t 59) (.t 64)), none, []⟩,
    ⟨(some 6), (.mov (.t 65)), none, []⟩] none))))
  (.region [⟨(some 37), (.mov (.t 7)), none, []⟩,
    ⟨(some 38), (.bin .add (.t 37) (.c (.int .i64 1))), none, []⟩,
    ⟨(some 7), (.mov (.t 38)), none, []⟩] none)))
def B8 : ACode := (.seq (.region [⟨(some 2), (.mov (.c (.slice none 0 0))), none, []⟩,
    ⟨(some 3), (.mov (.c (.int .i64 0))), none, []⟩] none)
  (.seq (.seq (.region [⟨(some 8), (.mov (.t 0)), none, []⟩,
    ⟨(some 9), (.lenStr (.t 8)), none, []⟩,
    ⟨(some 10), (.bin .gtr (.t 9) (.c (.int .i64 200))), none, []⟩] none)
  (.cond (.t 10)
  (.seq (.region [⟨(some 2), (.mov (.c (.slice none 0 0))), none, []⟩,
    ⟨(some 3), (.mov (.c (.int .i64 3))), none, []⟩] none)
  .ret)
  .skip))
  (.seq (.seq (.region [⟨(some 4), (.mov (.c (.int .i64 0))), none, []⟩] none)
  (.block 0 (.loop F8L0)))
  (.seq (.region [⟨(some 5), (.mov (.c (.slice none 0 0))), none, []⟩] none)
  (.seq (.region [⟨(some 6), (.mov (.c (.string ⟨#[]⟩))), none, []⟩] none)
  (.seq (.seq (.region [⟨(some 7), (.mov (.c (.int .i64 0))), none, []⟩] none)
  (.block 2 (.loop F8L1)))
  (.seq (.seq (.region [⟨(some 66), (.mov (.t 6)), none, []⟩,
    ⟨(some 67), (.bin .neq (.t 66) (.c (.string ⟨#[]⟩))), none, []⟩] none)
  (.cond (.t 67)
  (.region [⟨(some 68), (.mov (.t 5)), none, []⟩,
    ⟨(some 69), (.mov (.t 6)), none, []⟩,
    ⟨(some 70), (.buildSlice 9 1 1 [(.string ⟨#[]⟩)] [(0, 1, (.t 69))]), none, []⟩,
    ⟨(some 71), (.append 9 1 16 (.t 68) (.t 70)), none, []⟩,
    ⟨(some 5), (.mov (.t 71)), none, []⟩] none)
  .skip))
  (.seq (.region [⟨(some 72), (.mov (.t 5)), none, []⟩,
    ⟨(some 2), (.mov (.t 72)), none, []⟩,
    ⟨(some 3), (.mov (.c (.int .i64 0))), none, []⟩] none)
  .ret))))))))
def F8 : AFunc := ⟨1, 73, [(.tmp 2), (.tmp 3)], B8⟩
-- F8L0 live: [0, 4]

-- F8L1 live: [0, 5, 6, 7]
def R9_0 : ACode := .region [⟨(some 16), (.mov (.t 0)), none, []⟩,
    ⟨(some 17), (.mov (.t 5)), none, []⟩,
    ⟨(some 18), (.indexAddr 1 (.t 16) (.t 17)), none, [0, 1]⟩,
    ⟨(some 19), (.load none (.t 18)), none, [2]⟩,
    ⟨(some 20), (.mov (.t 1)), none, []⟩,
    ⟨(some 21), (.mov (.t 5)), none, []⟩,
    ⟨(some 22), (.indexAddr 1 (.t 20) (.t 21)), none, [4, 5]⟩,
    ⟨(some 23), (.load none (.t 22)), none, [6]⟩,
    ⟨(some 24), (.bin .neq (.t 19) (.t 23)), none, [3, 7]⟩] (some [(0, 1), (0, 4), (1, 4), (2, 4), (3, 4), (0, 5), (1, 5), (2, 5), (3, 5), (4, 5), (0, 6), (1, 6), (2, 6), (3, 6), (0, 7), (1, 7), (2, 7), (3, 7)])
/-- slices.Equal[[]string,string] -/
def F9L0 : ACode := (.seq (.region [⟨(some 14), (.bin .lss (.t 13) (.t 12)), none, []⟩] none)
  (.seq (.cond (.t 14)
  .skip
  (.exit 0))
  (.seq (.block 1 (.seq (.region [⟨(some 15), (.mov (.t 13)), none, []⟩,
    ⟨(some 5), (.mov (.t 15)), none, []⟩] none)
  (.seq R9_0
  (.cond (.t 24)
  (.seq (.region [⟨(some 4), (.mov (.c (.bool false))), none, []⟩] none)
  .ret)
  .skip))))
  (.region [⟨(some 25), (.bin .add (.t 13) (.c (.int .i64 1))), none, []⟩,
    ⟨(some 13), (.mov (.t 25)), none, []⟩] none))))
def B9 : ACode := (.seq (.region [⟨(some 4), (.mov (.c (.bool false))), none, []⟩] none)
  (.seq (.seq (.region [⟨(some 6), (.mov (.t 0)), none, []⟩,
    ⟨(some 7), (.lenSlice (.t 6)), none, []⟩,
    ⟨(some 8), (.mov (.t 1)), none, []⟩,
    ⟨(some 9), (.lenSlice (.t 8)), none, []⟩,
    ⟨(some 10), (.bin .neq (.t 7) (.t 9)), none, []⟩] none)
  (.cond (.t 10)
  (.seq (.region [⟨(some 4), (.mov (.c (.bool false))), none, []⟩] none)
  .ret)
  .skip))
  (.seq (.seq (.region [⟨(some 11), (.mov (.t 0)), none, []⟩,
    ⟨(some 12), (.lenSlice (.t 11)), none, []⟩,
    ⟨(some 13), (.mov (.c (.int .i64 0))), none, []⟩] none)
  (.block 0 (.loop F9L0)))
  (.seq (.region [⟨(some 4), (.mov (.c (.bool true))), none, []⟩] none)
  .ret))))
def F9 : AFunc := ⟨2, 26, [(.tmp 4)], B9⟩
-- F9L0 live: [0, 1, 12, 13]
/-- toll/words.IPText -/
def F10L0 : ACode := (.seq (.seq (.region [⟨(some 5), (.mov (.t 4)), none, []⟩,
    ⟨(some 6), (.bin .geq (.t 5) (.c (.int .i64 0))), none, []⟩] none)
  (.cond (.t 6)
  .skip
  (.exit 0)))
  (.seq (.block 1 (.region [⟨(some 9), (.mov (.t 3)), none, []⟩,
    ⟨(some 10), (.mov (.t 0)), none, []⟩,
    ⟨(some 11), (.mov (.t 4)), none, []⟩,
    ⟨(some 12), (.bin .mul (.c (.int .i64 8)) (.t 11)), none, []⟩,
    ⟨(some 13), (.bin .shr (.t 10) (.t 12)), none, []⟩,
    ⟨(some 14), (.bin .and (.t 13) (.c (.int .u32 255))), none, []⟩,
    ⟨(some 15), (.conv .i64 (.t 14)), none, []⟩,
    ⟨(some 16), (.call (.f 47) [(.t 15)]), none, []⟩,
    ⟨(some 17), (.buildSlice 9 1 1 [(.string ⟨#[]⟩)] [(0, 1, (.t 16))]), none, []⟩,
    ⟨(some 18), (.append 9 1 16 (.t 9) (.t 17)), none, []⟩,
    ⟨(some 3), (.mov (.t 18)), none, []⟩] none))
  (.region [⟨(some 7), (.mov (.t 4)), none, []⟩,
    ⟨(some 8), (.bin .sub (.t 7) (.c (.int .i64 1))), none, []⟩,
    ⟨(some 4), (.mov (.t 8)), none, []⟩] none)))
def B10 : ACode := (.seq (.region [⟨(some 2), (.mov (.c (.string ⟨#[]⟩))), none, []⟩] none)
  (.seq (.region [⟨(some 3), (.mov (.c (.slice none 0 0))), none, []⟩] none)
  (.seq (.seq (.region [⟨(some 4), (.mov (.c (.int .i64 3))), none, []⟩] none)
  (.block 0 (.loop F10L0)))
  (.seq (.region [⟨(some 19), (.mov (.t 3)), none, []⟩,
    ⟨(some 20), (.call (.f 48) [(.t 19), (.c (.string ⟨#[46]⟩))]), none, []⟩,
    ⟨(some 2), (.mov (.t 20)), none, []⟩] none)
  .ret))))
def F10 : AFunc := ⟨1, 21, [(.tmp 2)], B10⟩
-- F10L0 live: [0, 3, 4]
/-- toll/tollref15.IPText -/
def B11 : ACode := (.seq (.region [⟨(some 2), (.mov (.c (.string ⟨#[]⟩))), none, []⟩] none)
  (.seq (.region [⟨(some 3), (.mov (.t 0)), none, []⟩,
    ⟨(some 4), (.bin .quo (.t 3) (.c (.int .u32 16777216))), none, []⟩,
    ⟨(some 5), (.conv .i64 (.t 4)), none, []⟩,
    ⟨(some 6), (.call (.f 49) [(.t 5)]), none, []⟩,
    ⟨(some 7), (.bin .add (.t 6) (.c (.string ⟨#[46]⟩))), none, []⟩,
    ⟨(some 8), (.mov (.t 0)), none, []⟩,
    ⟨(some 9), (.bin .quo (.t 8) (.c (.int .u32 65536))), none, []⟩,
    ⟨(some 10), (.bin .rem (.t 9) (.c (.int .u32 256))), none, []⟩,
    ⟨(some 11), (.conv .i64 (.t 10)), none, []⟩,
    ⟨(some 12), (.call (.f 49) [(.t 11)]), none, []⟩,
    ⟨(some 13), (.bin .add (.t 7) (.t 12)), none, []⟩,
    ⟨(some 14), (.bin .add (.t 13) (.c (.string ⟨#[46]⟩))), none, []⟩,
    ⟨(some 15), (.mov (.t 0)), none, []⟩,
    ⟨(some 16), (.bin .quo (.t 15) (.c (.int .u32 256))), none, []⟩,
    ⟨(some 17), (.bin .rem (.t 16) (.c (.int .u32 256))), none, []⟩,
    ⟨(some 18), (.conv .i64 (.t 17)), none, []⟩,
    ⟨(some 19), (.call (.f 49) [(.t 18)]), none, []⟩,
    ⟨(some 20), (.bin .add (.t 14) (.t 19)), none, []⟩,
    ⟨(some 21), (.bin .add (.t 20) (.c (.string ⟨#[46]⟩))), none, []⟩,
    ⟨(some 22), (.mov (.t 0)), none, []⟩,
    ⟨(some 23), (.bin .rem (.t 22) (.c (.int .u32 256))), none, []⟩,
    ⟨(some 24), (.conv .i64 (.t 23)), none, []⟩,
    ⟨(some 25), (.call (.f 49) [(.t 24)]), none, []⟩,
    ⟨(some 26), (.bin .add (.t 21) (.t 25)), none, []⟩,
    ⟨(some 2), (.mov (.t 26)), none, []⟩] none)
  .ret))
def F11 : AFunc := ⟨1, 27, [(.tmp 2)], B11⟩
/-- toll/words.PrefixText -/
def B12 : ACode := (.seq (.region [⟨(some 4), (.mov (.c (.string ⟨#[]⟩))), none, []⟩] none)
  (.seq (.seq (.region [⟨(some 5), (.mov (.t 1)), none, []⟩,
    ⟨(some 6), (.bin .geq (.t 5) (.c (.int .i64 32))), none, []⟩] none)
  (.cond (.t 6)
  (.seq (.region [⟨(some 7), (.mov (.t 0)), none, []⟩,
    ⟨(some 8), (.call (.f 10) [(.t 7)]), none, []⟩,
    ⟨(some 4), (.mov (.t 8)), none, []⟩] none)
  .ret)
  .skip))
  (.seq (.region [⟨(some 9), (.mov (.t 1)), none, []⟩,
    ⟨(some 10), (.max [(.t 9), (.c (.int .i64 0))]), none, []⟩,
    ⟨(some 1), (.mov (.t 10)), none, []⟩] none)
  (.seq (.region [⟨(some 11), (.mov (.t 0)), none, []⟩,
    ⟨(some 12), (.mov (.t 1)), none, []⟩,
    ⟨(some 13), (.call (.f 50) [(.t 11), (.t 12)]), none, []⟩,
    ⟨(some 14), (.call (.f 10) [(.t 13)]), none, []⟩,
    ⟨(some 15), (.bin .add (.t 14) (.c (.string ⟨#[47]⟩))), none, []⟩,
    ⟨(some 16), (.mov (.t 1)), none, []⟩,
    ⟨(some 17), (.call (.f 47) [(.t 16)]), none, []⟩,
    ⟨(some 18), (.bin .add (.t 15) (.t 17)), none, []⟩,
    ⟨(some 4), (.mov (.t 18)), none, []⟩] none)
  .ret))))
def F12 : AFunc := ⟨2, 19, [(.tmp 4)], B12⟩
/-- toll/tollref15.PrefixText -/
def B13 : ACode := (.seq (.region [⟨(some 4), (.mov (.c (.string ⟨#[]⟩))), none, []⟩] none)
  (.seq (.seq (.region [⟨(some 5), (.mov (.t 1)), none, []⟩,
    ⟨(some 6), (.bin .geq (.t 5) (.c (.int .i64 32))), none, []⟩] none)
  (.cond (.t 6)
  (.seq (.region [⟨(some 7), (.mov (.t 0)), none, []⟩,
    ⟨(some 8), (.call (.f 11) [(.t 7)]), none, []⟩,
    ⟨(some 4), (.mov (.t 8)), none, []⟩] none)
  .ret)
  .skip))
  (.seq (.seq (.region [⟨(some 9), (.mov (.t 1)), none, []⟩,
    ⟨(some 10), (.bin .lss (.t 9) (.c (.int .i64 0))), none, []⟩] none)
  (.cond (.t 10)
  (.region [⟨(some 1), (.mov (.c (.int .i64 0))), none, []⟩] none)
  .skip))
  (.seq (.region [⟨(some 11), (.mov (.t 0)), none, []⟩,
    ⟨(some 12), (.mov (.t 1)), none, []⟩,
    ⟨(some 13), (.call (.f 51) [(.t 11), (.t 12)]), none, []⟩,
    ⟨(some 14), (.call (.f 11) [(.t 13)]), none, []⟩,
    ⟨(some 15), (.bin .add (.t 14) (.c (.string ⟨#[47]⟩))), none, []⟩,
    ⟨(some 16), (.mov (.t 1)), none, []⟩,
    ⟨(some 17), (.call (.f 49) [(.t 16)]), none, []⟩,
    ⟨(some 18), (.bin .add (.t 15) (.t 17)), none, []⟩,
    ⟨(some 4), (.mov (.t 18)), none, []⟩] none)
  .ret))))
def F13 : AFunc := ⟨2, 19, [(.tmp 4)], B13⟩
/-- toll/words.RangeText -/
def B14 : ACode := (.seq (.region [⟨(some 4), (.mov (.c (.string ⟨#[]⟩))), none, []⟩] none)
  (.seq (.seq (.region [⟨(some 5), (.mov (.t 1)), none, []⟩,
    ⟨(some 6), (.mov (.t 0)), none, []⟩,
    ⟨(some 7), (.bin .leq (.t 5) (.t 6)), none, []⟩] none)
  (.cond (.t 7)
  (.seq (.region [⟨(some 8), (.mov (.t 0)), none, []⟩,
    ⟨(some 9), (.call (.f 47) [(.t 8)]), none, []⟩,
    ⟨(some 4), (.mov (.t 9)), none, []⟩] none)
  .ret)
  .skip))
  (.seq (.region [⟨(some 10), (.mov (.t 0)), none, []⟩,
    ⟨(some 11), (.call (.f 47) [(.t 10)]), none, []⟩,
    ⟨(some 12), (.bin .add (.t 11) (.c (.string ⟨#[45]⟩))), none, []⟩,
    ⟨(some 13), (.mov (.t 1)), none, []⟩,
    ⟨(some 14), (.call (.f 47) [(.t 13)]), none, []⟩,
    ⟨(some 15), (.bin .add (.t 12) (.t 14)), none, []⟩,
    ⟨(some 4), (.mov (.t 15)), none, []⟩] none)
  .ret)))
def F14 : AFunc := ⟨2, 16, [(.tmp 4)], B14⟩
/-- toll/tollref15.RangeText -/
def B15 : ACode := (.seq (.region [⟨(some 4), (.mov (.c (.string ⟨#[]⟩))), none, []⟩] none)
  (.seq (.seq (.region [⟨(some 5), (.mov (.t 1)), none, []⟩,
    ⟨(some 6), (.mov (.t 0)), none, []⟩,
    ⟨(some 7), (.bin .leq (.t 5) (.t 6)), none, []⟩] none)
  (.cond (.t 7)
  (.seq (.region [⟨(some 8), (.mov (.t 0)), none, []⟩,
    ⟨(some 9), (.call (.f 49) [(.t 8)]), none, []⟩,
    ⟨(some 4), (.mov (.t 9)), none, []⟩] none)
  .ret)
  .skip))
  (.seq (.region [⟨(some 10), (.mov (.t 0)), none, []⟩,
    ⟨(some 11), (.call (.f 49) [(.t 10)]), none, []⟩,
    ⟨(some 12), (.bin .add (.t 11) (.c (.string ⟨#[45]⟩))), none, []⟩,
    ⟨(some 13), (.mov (.t 1)), none, []⟩,
    ⟨(some 14), (.call (.f 49) [(.t 13)]), none, []⟩,
    ⟨(some 15), (.bin .add (.t 12) (.t 14)), none, []⟩,
    ⟨(some 4), (.mov (.t 15)), none, []⟩] none)
  .ret)))
def F15 : AFunc := ⟨2, 16, [(.tmp 4)], B15⟩
/-- toll/tolllaw15.wakes -/
def B16 : ACode := (.seq (.region [⟨(some 0), (.mov (.c (.bool false))), none, []⟩] none)
  (.seq (.region [⟨(some 11), (.call (.f 7) [(.c (.string ⟨#[32, 32, 112, 111, 114, 116, 32, 51, 9, 97, 99, 99, 101, 115, 115, 32, 49, 48, 32, 35, 32, 120]⟩))]), none, []⟩,
    ⟨(some 10), (.mov (.t 11)), none, []⟩,
    ⟨(some 12), (.extract (.t 10) 0), none, []⟩,
    ⟨(some 13), (.extract (.t 10) 1), none, []⟩,
    ⟨(some 1), (.mov (.t 12)), none, []⟩,
    ⟨(some 2), (.mov (.t 13)), none, []⟩] none)
  (.seq (.region [⟨(some 14), (.call (.f 28) [(.c (.string ⟨#[112, 111, 114, 116, 32, 57, 57]⟩))]), none, []⟩,
    ⟨(some 3), (.mov (.t 14)), none, []⟩] none)
  (.seq (.region [⟨(some 15), (.mov (.t 3)), none, []⟩,
    ⟨(some 16), (.call (.f 19) [(.t 15)]), none, []⟩,
    ⟨(some 17), (.bin .eql (.t 16) (.c (.string ⟨#[112, 111, 114, 116]⟩))), none, []⟩,
    ⟨(some 18), (.mov (.t 17)), none, []⟩,
    ⟨(some 19), (.mov (.t 3)), (some (18, true)), []⟩,
    ⟨(some 20), (.call (.f 20) [(.t 19), (.c (.int .i64 0)), (.c (.int .i64 15))]), (some (18, true)), []⟩,
    ⟨(some 21), (.bin .eql (.t 20) (.c (.int .i64 0))), (some (18, true)), []⟩,
    ⟨(some 22), (.pick (.t 18) (.t 21) (.c (.bool false))), none, []⟩,
    ⟨(some 23), (.mov (.t 22)), none, []⟩,
    ⟨(some 24), (.mov (.t 3)), (some (23, true)), []⟩,
    ⟨(some 25), (.call (.f 19) [(.t 24)]), (some (23, true)), []⟩,
    ⟨(some 26), (.bin .eql (.t 25) (.c (.string ⟨#[]⟩))), (some (23, true)), []⟩,
    ⟨(some 27), (.pick (.t 23) (.t 26) (.c (.bool false))), none, []⟩,
    ⟨(some 28), (.mov (.t 27)), none, []⟩,
    ⟨(some 29), (.mov (.t 3)), (some (28, true)), []⟩,
    ⟨(some 30), (.call (.f 18) [(.t 29)]), (some (28, true)), []⟩,
    ⟨(some 31), (.bin .eql (.t 30) (.c (.int .i64 24))), (some (28, true)), []⟩,
    ⟨(some 32), (.pick (.t 28) (.t 31) (.c (.bool false))), none, []⟩,
    ⟨(some 33), (.mov (.t 32)), none, []⟩,
    ⟨(some 34), (.mov (.t 3)), (some (33, true)), []⟩,
    ⟨(some 35), (.call (.f 21) [(.t 34)]), (some (33, true)), []⟩,
    ⟨(some 36), (.bin .eql (.t 35) (.c (.int .i64 2))), (some (33, true)), []⟩,
    ⟨(some 37), (.pick (.t 33) (.t 36) (.c (.bool false))), none, []⟩,
    ⟨(some 4), (.mov (.t 37)), none, []⟩] none)
  (.seq (.region [⟨(some 38), (.call (.f 28) [(.c (.string ⟨#[49, 48, 46, 48, 46, 48, 46, 48, 47, 56]⟩))]), none, []⟩,
    ⟨(some 39), (.call (.f 28) [(.c (.string ⟨#[49, 48, 46, 48, 46, 48, 46, 49, 47, 56]⟩))]), none, []⟩,
    ⟨(some 40), (.call (.f 28) [(.c (.string ⟨#[49, 48, 46, 48, 46, 48, 46, 50, 53, 54]⟩))]), none, []⟩,
    ⟨(some 5), (.mov (.t 38)), none, []⟩,
    ⟨(some 6), (.mov (.t 39)), none, []⟩,
    ⟨(some 7), (.mov (.t 40)), none, []⟩] none)
  (.seq (.region [⟨(some 42), (.mov (.t 5)), none, []⟩,
    ⟨(some 43), (.call (.f 32) [(.t 42)]), none, []⟩,
    ⟨(some 41), (.mov (.t 43)), none, []⟩,
    ⟨(some 44), (.extract (.t 41) 0), none, []⟩,
    ⟨(some 45), (.extract (.t 41) 1), none, []⟩,
    ⟨(some 8), (.mov (.t 44)), none, []⟩,
    ⟨(some 9), (.mov (.t 45)), none, []⟩] none)
  (.seq (.region [⟨(some 46), (.mov (.t 6)), none, []⟩,
    ⟨(some 47), (.call (.f 32) [(.t 46)]), none, []⟩] none)
  (.seq (.region [⟨(some 48), (.mov (.t 7)), none, []⟩,
    ⟨(some 49), (.call (.f 32) [(.t 48)]), none, []⟩] none)
  (.seq (.region [⟨(some 50), (.mov (.t 2)), none, []⟩,
    ⟨(some 51), (.bin .eql (.t 50) (.c (.int .i64 0))), none, []⟩,
    ⟨(some 52), (.mov (.t 51)), none, []⟩,
    ⟨(some 53), (.mov (.t 1)), (some (52, true)), []⟩,
    ⟨(some 54), (.buildSlice 9 1 4 [(.string ⟨#[]⟩)] [(0, 1, (.c (.string ⟨#[112, 111, 114, 116]⟩))), (1, 1, (.c (.string ⟨#[51]⟩))), (2, 1, (.c (.string ⟨#[97, 99, 99, 101, 115, 115]⟩))), (3, 1, (.c (.string ⟨#[49, 48]⟩)))]), (some (52, true)), []⟩,
    ⟨(some 55), (.call (.f 9) [(.t 53), (.t 54)]), (some (52, true)), []⟩,
    ⟨(some 56), (.pick (.t 52) (.t 55) (.c (.bool false))), none, []⟩,
    ⟨(some 57), (.mov (.t 56)), none, []⟩,
    ⟨(some 58), (.mov (.t 4)), (some (57, true)), []⟩,
    ⟨(some 59), (.pick (.t 57) (.t 58) (.c (.bool false))), none, []⟩,
    ⟨(some 60), (.mov (.t 59)), none, []⟩,
    ⟨(some 61), (.mov (.t 8)), (some (60, true)), []⟩,
    ⟨(some 62), (.bin .eql (.t 61) (.c (.int .u32 167772160))), (some (60, true)), []⟩,
    ⟨(some 63), (.pick (.t 60) (.t 62) (.c (.bool false))), none, []⟩,
    ⟨(some 64), (.mov (.t 63)), none, []⟩,
    ⟨(some 65), (.mov (.t 9)), (some (64, true)), []⟩,
    ⟨(some 66), (.bin .eql (.t 65) (.c (.int .i64 8))), (some (64, true)), []⟩,
    ⟨(some 67), (.pick (.t 64) (.t 66) (.c (.bool false))), none, []⟩,
    ⟨(some 68), (.mov (.t 67)), none, []⟩,
    ⟨(some 69), (.mov (.t 6)), (some (68, true)), []⟩,
    ⟨(some 70), (.call (.f 18) [(.t 69)]), (some (68, true)), []⟩,
    ⟨(some 71), (.bin .eql (.t 70) (.c (.int .i64 24))), (some (68, true)), []⟩,
    ⟨(some 72), (.pick (.t 68) (.t 71) (.c (.bool false))), none, []⟩,
    ⟨(some 73), (.mov (.t 72)), none, []⟩,
    ⟨(some 74), (.mov (.t 7)), (some (73, true)), []⟩,
    ⟨(some 75), (.call (.f 18) [(.t 74)]), (some (73, true)), []⟩,
    ⟨(some 76), (.bin .eql (.t 75) (.c (.int .i64 24))), (some (73, true)), []⟩,
    ⟨(some 77), (.pick (.t 73) (.t 76) (.c (.bool false))), none, []⟩,
    ⟨(some 0), (.mov (.t 77)), none, []⟩] none)
  .ret)))))))))
def F16 : AFunc := ⟨0, 78, [(.tmp 0)], B16⟩
/-- (*toll/words.Row).Fail -/
def B17 : ACode := (.seq (.region [⟨(some 4), (.mov (.t 0)), none, []⟩,
    ⟨(some 5), (.call (.f 18) [(.t 4)]), none, []⟩,
    ⟨(some 6), (.bin .eql (.t 5) (.c (.int .i64 0))), none, []⟩] none)
  (.cond (.t 6)
  (.region [⟨(some 7), (.mov (.t 0)), none, []⟩,
    ⟨(some 8), (.mov (.t 1)), none, []⟩,
    ⟨(some 9), (.nilCheck (.t 7)), none, []⟩,
    ⟨(some 10), (.fieldAddr 2 (.t 9)), none, []⟩,
    ⟨none, (.store 1 (.t 10) (.t 8)), none, []⟩] none)
  .skip))
def F17 : AFunc := ⟨2, 11, [], B17⟩
/-- (*toll/words.Row).Err -/
def B18 : ACode := (.seq (.region [⟨(some 2), (.mov (.c (.int .i64 0))), none, []⟩] none)
  (.seq (.seq (.region [⟨(some 3), (.mov (.t 0)), none, []⟩,
    ⟨(some 4), (.eqv false .ptr false (.t 3) (.c (.pointer none))), none, []⟩,
    ⟨(some 5), (.mov (.t 4)), none, []⟩,
    ⟨(some 6), (.mov (.t 0)), (some (5, false)), []⟩,
    ⟨(some 7), (.nilCheck (.t 6)), (some (5, false)), []⟩,
    ⟨(some 8), (.fieldAddr 3 (.t 7)), (some (5, false)), []⟩,
    ⟨(some 9), (.load none (.t 8)), (some (5, false)), []⟩,
    ⟨(some 10), (.un .not (.t 9)), (some (5, false)), []⟩,
    ⟨(some 11), (.pick (.t 5) (.c (.bool true)) (.t 10)), none, []⟩] none)
  (.cond (.t 11)
  (.seq (.region [⟨(some 2), (.mov (.c (.int .i64 2))), none, []⟩] none)
  .ret)
  .skip))
  (.seq (.region [⟨(some 12), (.mov (.t 0)), none, []⟩,
    ⟨(some 13), (.nilCheck (.t 12)), none, []⟩,
    ⟨(some 14), (.fieldAddr 2 (.t 13)), none, []⟩,
    ⟨(some 15), (.load none (.t 14)), none, []⟩,
    ⟨(some 2), (.mov (.t 15)), none, []⟩] none)
  .ret)))
def F18 : AFunc := ⟨1, 16, [(.tmp 2)], B18⟩
def R19_0 : ACode := .region [⟨(some 15), (.mov (.t 0)), none, []⟩,
    ⟨(some 16), (.nilCheck (.t 15)), none, [0]⟩,
    ⟨(some 17), (.fieldAddr 0 (.t 16)), none, [1]⟩,
    ⟨(some 18), (.load none (.t 17)), none, [2]⟩,
    ⟨(some 19), (.mov (.t 0)), none, []⟩,
    ⟨(some 20), (.nilCheck (.t 19)), none, [4]⟩,
    ⟨(some 21), (.fieldAddr 1 (.t 20)), none, [5]⟩,
    ⟨(some 22), (.load none (.t 21)), none, [6]⟩,
    ⟨(some 23), (.bin .sub (.t 22) (.c (.int .i64 1))), none, [7]⟩,
    ⟨(some 24), (.indexAddr 1 (.t 18) (.t 23)), none, [3, 8]⟩,
    ⟨(some 25), (.load none (.t 24)), none, [9]⟩,
    ⟨(some 2), (.mov (.t 25)), none, [10, 0, 1, 2, 3, 4, 5, 6, 7, 8, 9, 10]⟩] (some [(0, 4), (1, 4), (2, 4), (3, 4), (0, 5), (1, 5), (2, 5), (3, 5), (0, 6), (1, 6), (2, 6), (3, 6), (0, 7), (1, 7), (2, 7), (3, 7), (0, 8), (1, 8), (2, 8), (3, 8)])
/-- (*toll/words.Row).Word -/
def B19 : ACode := (.seq (.region [⟨(some 2), (.mov (.c (.string ⟨#[]⟩))), none, []⟩] none)
  (.seq (.seq (.region [⟨(some 3), (.mov (.t 0)), none, []⟩,
    ⟨(some 4), (.call (.f 22) [(.t 3)]), none, []⟩,
    ⟨(some 5), (.un .not (.t 4)), none, []⟩] none)
  (.cond (.t 5)
  (.seq (.region [⟨(some 6), (.mov (.t 0)), none, []⟩,
    ⟨(some 7), (.call (.f 17) [(.t 6), (.c (.int .i64 4))]), none, []⟩] none)
  (.seq (.region [⟨(some 2), (.mov (.c (.string ⟨#[]⟩))), none, []⟩] none)
  .ret))
  .skip))
  (.seq (.region [⟨(some 8), (.mov (.t 0)), none, []⟩,
    ⟨(some 9), (.nilCheck (.t 8)), none, []⟩,
    ⟨(some 10), (.fieldAddr 1 (.t 9)), none, []⟩,
    ⟨(some 11), (.load none (.t 10)), none, []⟩,
    ⟨(some 12), (.bin .add (.t 11) (.c (.int .i64 1))), none, []⟩,
    ⟨(some 13), (.nilCheck (.t 8)), none, []⟩,
    ⟨(some 14), (.fieldAddr 1 (.t 13)), none, []⟩,
    ⟨none, (.store 1 (.t 14) (.t 12)), none, []⟩] none)
  (.seq R19_0
  .ret))))
def F19 : AFunc := ⟨1, 26, [(.tmp 2)], B19⟩
/-- (*toll/words.Row).Number -/
def B20 : ACode := (.seq (.region [⟨(some 6), (.mov (.c (.int .i64 0))), none, []⟩] none)
  (.seq (.region [⟨(some 10), (.mov (.t 0)), none, []⟩,
    ⟨(some 11), (.call (.f 19) [(.t 10)]), none, []⟩,
    ⟨(some 12), (.call (.f 52) [(.t 11)]), none, []⟩,
    ⟨(some 9), (.mov (.t 12)), none, []⟩,
    ⟨(some 13), (.extract (.t 9) 0), none, []⟩,
    ⟨(some 14), (.extract (.t 9) 1), none, []⟩,
    ⟨(some 7), (.mov (.t 13)), none, []⟩,
    ⟨(some 8), (.mov (.t 14)), none, []⟩] none)
  (.seq (.seq (.region [⟨(some 15), (.mov (.t 0)), none, []⟩,
    ⟨(some 16), (.mov (.t 8)), none, []⟩,
    ⟨(some 17), (.call (.f 53) [(.t 15), (.t 16), (.c (.int .i64 5))]), none, []⟩,
    ⟨(some 18), (.un .not (.t 17)), none, []⟩,
    ⟨(some 19), (.mov (.t 18)), none, []⟩,
    ⟨(some 20), (.mov (.t 0)), (some (19, false)), []⟩,
    ⟨(some 21), (.mov (.t 7)), (some (19, false)), []⟩,
    ⟨(some 22), (.mov (.t 1)), (some (19, false)), []⟩,
    ⟨(some 23), (.bin .geq (.t 21) (.t 22)), (some (19, false)), []⟩,
    ⟨(some 24), (.mov (.t 23)), (some (19, false)), []⟩,
    ⟨(some 25), (.mov (.t 7)), (some (24, true)), []⟩,
    ⟨(some 26), (.mov (.t 2)), (some (24, true)), []⟩,
    ⟨(some 27), (.bin .leq (.t 25) (.t 26)), (some (24, true)), []⟩,
    ⟨(some 28), (.pick (.t 24) (.t 27) (.c (.bool false))), (some (19, false)), []⟩,
    ⟨(some 29), (.call (.f 53) [(.t 20), (.t 28), (.c (.int .i64 24))]), (some (19, false)), []⟩,
    ⟨(some 30), (.un .not (.t 29)), (some (19, false)), []⟩,
    ⟨(some 31), (.pick (.t 19) (.c (.bool true)) (.t 30)), none, []⟩] none)
  (.cond (.t 31)
  (.seq (.region [⟨(some 6), (.mov (.c (.int .i64 0))), none, []⟩] none)
  .ret)
  .skip))
  (.seq (.region [⟨(some 32), (.mov (.t 7)), none, []⟩,
    ⟨(some 6), (.mov (.t 32)), none, []⟩] none)
  .ret))))
def F20 : AFunc := ⟨3, 33, [(.tmp 6)], B20⟩
/-- (*toll/words.Row).At -/
def B21 : ACode := (.seq (.region [⟨(some 2), (.mov (.c (.int .i64 0))), none, []⟩] none)
  (.seq (.seq (.region [⟨(some 3), (.mov (.t 0)), none, []⟩,
    ⟨(some 4), (.eqv false .ptr false (.t 3) (.c (.pointer none))), none, []⟩] none)
  (.cond (.t 4)
  (.seq (.region [⟨(some 2), (.mov (.c (.int .i64 0))), none, []⟩] none)
  .ret)
  .skip))
  (.seq (.region [⟨(some 5), (.mov (.t 0)), none, []⟩,
    ⟨(some 6), (.nilCheck (.t 5)), none, []⟩,
    ⟨(some 7), (.fieldAddr 1 (.t 6)), none, []⟩,
    ⟨(some 8), (.load none (.t 7)), none, []⟩,
    ⟨(some 2), (.mov (.t 8)), none, []⟩] none)
  .ret)))
def F21 : AFunc := ⟨1, 9, [(.tmp 2)], B21⟩
def R22_0 : ACode := .region [⟨(some 3), (.mov (.t 0)), none, []⟩,
    ⟨(some 4), (.call (.f 18) [(.t 3)]), none, [0]⟩,
    ⟨(some 5), (.bin .eql (.t 4) (.c (.int .i64 0))), none, [1]⟩,
    ⟨(some 6), (.mov (.t 5)), none, [2, 1]⟩,
    ⟨(some 7), (.mov (.t 0)), (some (6, true)), [3]⟩,
    ⟨(some 8), (.nilCheck (.t 7)), (some (6, true)), [4, 3]⟩,
    ⟨(some 9), (.fieldAddr 1 (.t 8)), (some (6, true)), [5, 3]⟩,
    ⟨(some 10), (.load none (.t 9)), (some (6, true)), [6, 3]⟩,
    ⟨(some 11), (.mov (.t 0)), (some (6, true)), [3]⟩,
    ⟨(some 12), (.nilCheck (.t 11)), (some (6, true)), [8, 3]⟩,
    ⟨(some 13), (.fieldAddr 0 (.t 12)), (some (6, true)), [9, 3]⟩,
    ⟨(some 14), (.load none (.t 13)), (some (6, true)), [10, 3]⟩,
    ⟨(some 15), (.lenSlice (.t 14)), (some (6, true)), [11, 3]⟩,
    ⟨(some 16), (.bin .lss (.t 10) (.t 15)), (some (6, true)), [7, 12, 3]⟩,
    ⟨(some 17), (.pick (.t 6) (.t 16) (.c (.bool false))), none, [3, 13]⟩,
    ⟨(some 2), (.mov (.t 17)), none, [14, 3, 0, 1, 2, 3, 4, 5, 6, 7, 8, 9, 10, 11, 12, 13, 14]⟩] (some [(4, 8), (5, 8), (6, 8), (7, 8), (4, 9), (5, 9), (6, 9), (7, 9), (4, 10), (5, 10), (6, 10), (7, 10), (4, 11), (5, 11), (6, 11), (7, 11), (4, 12), (5, 12), (6, 12), (7, 12)])
/-- (*toll/words.Row).More -/
def B22 : ACode := (.seq (.region [⟨(some 2), (.mov (.c (.bool false))), none, []⟩] none)
  (.seq R22_0
  .ret))
def F22 : AFunc := ⟨1, 18, [(.tmp 2)], B22⟩
def R23_0 : ACode := .region [⟨(some 6), (.mov (.t 0)), none, []⟩,
    ⟨(some 7), (.call (.f 22) [(.t 6)]), none, [0]⟩,
    ⟨(some 8), (.mov (.t 7)), none, [1, 1]⟩,
    ⟨(some 9), (.mov (.t 0)), (some (8, true)), [2]⟩,
    ⟨(some 10), (.nilCheck (.t 9)), (some (8, true)), [3, 2]⟩,
    ⟨(some 11), (.fieldAddr 0 (.t 10)), (some (8, true)), [4, 2]⟩,
    ⟨(some 12), (.load none (.t 11)), (some (8, true)), [5, 2]⟩,
    ⟨(some 13), (.mov (.t 0)), (some (8, true)), [2]⟩,
    ⟨(some 14), (.nilCheck (.t 13)), (some (8, true)), [7, 2]⟩,
    ⟨(some 15), (.fieldAddr 1 (.t 14)), (some (8, true)), [8, 2]⟩,
    ⟨(some 16), (.load none (.t 15)), (some (8, true)), [9, 2]⟩,
    ⟨(some 17), (.indexAddr 1 (.t 12) (.t 16)), (some (8, true)), [6, 10, 2]⟩,
    ⟨(some 18), (.load none (.t 17)), (some (8, true)), [11, 2]⟩,
    ⟨(some 19), (.mov (.t 1)), (some (8, true)), [2]⟩,
    ⟨(some 20), (.bin .eql (.t 18) (.t 19)), (some (8, true)), [12, 13, 2]⟩,
    ⟨(some 21), (.pick (.t 8) (.t 20) (.c (.bool false))), none, [2, 14]⟩,
    ⟨(some 5), (.mov (.t 21)), none, [15, 2, 0, 1, 2, 3, 4, 5, 6, 7, 8, 9, 10, 11, 12, 13, 14, 15]⟩] (some [(3, 7), (4, 7), (5, 7), (6, 7), (3, 8), (4, 8), (5, 8), (6, 8), (3, 9), (4, 9), (5, 9), (6, 9), (3, 10), (4, 10), (5, 10), (6, 10), (3, 13), (4, 13), (5, 13), (6, 13), (7, 13), (8, 13), (9, 13), (10, 13), (11, 13), (12, 13)])
/-- (*toll/words.Row).Is -/
def B23 : ACode := (.seq (.region [⟨(some 4), (.mov (.c (.bool false))), none, []⟩] none)
  (.seq R23_0
  (.seq (.seq (.region [⟨(some 22), (.mov (.t 5)), none, []⟩] none)
  (.cond (.t 22)
  (.region [⟨(some 23), (.mov (.t 0)), none, []⟩,
    ⟨(some 24), (.nilCheck (.t 23)), none, []⟩,
    ⟨(some 25), (.fieldAddr 1 (.t 24)), none, []⟩,
    ⟨(some 26), (.load none (.t 25)), none, []⟩,
    ⟨(some 27), (.bin .add (.t 26) (.c (.int .i64 1))), none, []⟩,
    ⟨(some 28), (.nilCheck (.t 23)), none, []⟩,
    ⟨(some 29), (.fieldAddr 1 (.t 28)), none, []⟩,
    ⟨none, (.store 1 (.t 29) (.t 27)), none, []⟩] none)
  .skip))
  (.seq (.region [⟨(some 30), (.mov (.t 5)), none, []⟩,
    ⟨(some 4), (.mov (.t 30)), none, []⟩] none)
  .ret))))
def F23 : AFunc := ⟨2, 31, [(.tmp 4)], B23⟩
/-- (*toll/words.Row).End -/
def B24 : ACode := (.seq (.region [⟨(some 2), (.mov (.c (.int .i64 0))), none, []⟩] none)
  (.seq (.seq (.region [⟨(some 3), (.mov (.t 0)), none, []⟩,
    ⟨(some 4), (.call (.f 22) [(.t 3)]), none, []⟩] none)
  (.cond (.t 4)
  (.seq (.region [⟨(some 2), (.mov (.c (.int .i64 5))), none, []⟩] none)
  .ret)
  .skip))
  (.seq (.region [⟨(some 5), (.mov (.t 0)), none, []⟩,
    ⟨(some 6), (.call (.f 18) [(.t 5)]), none, []⟩,
    ⟨(some 2), (.mov (.t 6)), none, []⟩] none)
  .ret)))
def F24 : AFunc := ⟨1, 7, [(.tmp 2)], B24⟩
/-- (*toll/words.Row).One -/
def B25 : ACode := (.seq (.region [⟨(some 4), (.mov (.c (.int .i64 0))), none, []⟩] none)
  (.seq (.region [⟨(some 7), (.mov (.t 0)), none, []⟩,
    ⟨(some 8), (.call (.f 19) [(.t 7)]), none, []⟩,
    ⟨(some 5), (.mov (.t 8)), none, []⟩] none)
  (.seq (.seq (.region [⟨(some 9), (.mov (.t 0)), none, []⟩,
    ⟨(some 10), (.call (.f 18) [(.t 9)]), none, []⟩,
    ⟨(some 11), (.bin .neq (.t 10) (.c (.int .i64 0))), none, []⟩] none)
  (.cond (.t 11)
  (.seq (.region [⟨(some 4), (.mov (.c (.int .i64 (-1)))), none, []⟩] none)
  .ret)
  .skip))
  (.seq (.region [⟨(some 12), (.mov (.t 1)), none, []⟩,
    ⟨(some 13), (.mov (.t 5)), none, []⟩,
    ⟨(some 14), (.call (.f 54) [(.t 12), (.t 13)]), none, []⟩,
    ⟨(some 6), (.mov (.t 14)), none, []⟩] none)
  (.seq (.seq (.region [⟨(some 15), (.mov (.t 6)), none, []⟩,
    ⟨(some 16), (.bin .lss (.t 15) (.c (.int .i64 0))), none, []⟩] none)
  (.cond (.t 16)
  (.region [⟨(some 17), (.mov (.t 0)), none, []⟩,
    ⟨(some 18), (.call (.f 17) [(.t 17), (.c (.int .i64 23))]), none, []⟩] none)
  .skip))
  (.seq (.region [⟨(some 19), (.mov (.t 6)), none, []⟩,
    ⟨(some 4), (.mov (.t 19)), none, []⟩] none)
  .ret))))))
def F25 : AFunc := ⟨2, 20, [(.tmp 4)], B25⟩
/-- toll/tolllaw15.WordsKnown$1 -/
def B27 : ACode := (.seq (.region [⟨(some 2), (.mov (.c (.int .i64 0))), none, []⟩] none)
  (.seq (.region [⟨(some 4), (.mov (.t 0)), none, []⟩,
    ⟨(some 5), (.call (.f 28) [(.t 4)]), none, []⟩,
    ⟨(some 3), (.mov (.t 5)), none, []⟩] none)
  (.seq (.region [⟨(some 6), (.mov (.t 3)), none, []⟩,
    ⟨(some 7), (.call (.f 20) [(.t 6), (.c (.int .i64 1)), (.c (.int .i64 4294967296))]), none, []⟩] none)
  (.seq (.region [⟨(some 8), (.mov (.t 3)), none, []⟩,
    ⟨(some 9), (.call (.f 18) [(.t 8)]), none, []⟩,
    ⟨(some 2), (.mov (.t 9)), none, []⟩] none)
  .ret))))
def F27 : AFunc := ⟨1, 10, [(.tmp 2)], B27⟩
/-- toll/words.New -/
def B28 : ACode := (.seq (.region [⟨(some 2), (.mov (.c (.pointer none))), none, []⟩] none)
  (.seq (.region [⟨(some 6), (.mov (.t 0)), none, []⟩,
    ⟨(some 7), (.call (.f 7) [(.t 6)]), none, []⟩,
    ⟨(some 5), (.mov (.t 7)), none, []⟩,
    ⟨(some 8), (.extract (.t 5) 0), none, []⟩,
    ⟨(some 9), (.extract (.t 5) 1), none, []⟩,
    ⟨(some 3), (.mov (.t 8)), none, []⟩,
    ⟨(some 4), (.mov (.t 9)), none, []⟩] none)
  (.seq (.region [⟨(some 10), (.mov (.t 3)), none, []⟩,
    ⟨(some 11), (.mov (.t 4)), none, []⟩,
    ⟨(some 12), (.build [(.slice none 0 0), (.int .i64 0), (.int .i64 0), (.bool false)] [(0, 1, (.t 10)), (2, 1, (.t 11)), (3, 1, (.c (.bool true)))]), none, []⟩,
    ⟨(some 13), (.box 41 (.t 12)), none, []⟩,
    ⟨(some 2), (.mov (.t 13)), none, []⟩] none)
  .ret)))
def F28 : AFunc := ⟨1, 14, [(.tmp 2)], B28⟩
/-- toll/tolllaw15.WordsKnown$2 -/
def B29 : ACode := (.seq (.region [⟨(some 2), (.mov (.c (.bool false))), none, []⟩] none)
  (.seq (.region [⟨(some 4), (.mov (.t 0)), none, []⟩,
    ⟨(some 5), (.call (.f 28) [(.t 4)]), none, []⟩,
    ⟨(some 3), (.mov (.t 5)), none, []⟩] none)
  (.seq (.region [⟨(some 6), (.mov (.t 3)), none, []⟩,
    ⟨(some 7), (.call (.f 30) [(.t 6)]), none, []⟩,
    ⟨(some 8), (.mov (.t 0)), none, []⟩,
    ⟨(some 9), (.bin .eql (.t 7) (.t 8)), none, []⟩,
    ⟨(some 10), (.mov (.t 9)), none, []⟩,
    ⟨(some 11), (.mov (.t 3)), (some (10, true)), []⟩,
    ⟨(some 12), (.call (.f 24) [(.t 11)]), (some (10, true)), []⟩,
    ⟨(some 13), (.bin .eql (.t 12) (.c (.int .i64 0))), (some (10, true)), []⟩,
    ⟨(some 14), (.pick (.t 10) (.t 13) (.c (.bool false))), none, []⟩,
    ⟨(some 2), (.mov (.t 14)), none, []⟩] none)
  .ret)))
def F29 : AFunc := ⟨1, 15, [(.tmp 2)], B29⟩
/-- (*toll/words.Row).Name -/
def B30 : ACode := (.seq (.region [⟨(some 2), (.mov (.c (.string ⟨#[]⟩))), none, []⟩] none)
  (.seq (.region [⟨(some 5), (.mov (.t 0)), none, []⟩,
    ⟨(some 6), (.call (.f 19) [(.t 5)]), none, []⟩,
    ⟨(some 3), (.mov (.t 6)), none, []⟩] none)
  (.seq (.region [⟨(some 4), (.mov (.f 61)), none, []⟩] none)
  (.seq (.seq (.region [⟨(some 7), (.mov (.t 0)), none, []⟩,
    ⟨(some 8), (.mov (.t 3)), none, []⟩,
    ⟨(some 9), (.bin .neq (.t 8) (.c (.string ⟨#[]⟩))), none, []⟩,
    ⟨(some 10), (.mov (.t 9)), none, []⟩,
    ⟨(some 11), (.mov (.t 3)), (some (10, true)), []⟩,
    ⟨(some 12), (.lenStr (.t 11)), (some (10, true)), []⟩,
    ⟨(some 13), (.bin .leq (.t 12) (.c (.int .i64 16))), (some (10, true)), []⟩,
    ⟨(some 14), (.pick (.t 10) (.t 13) (.c (.bool false))), none, []⟩,
    ⟨(some 15), (.mov (.t 14)), none, []⟩,
    ⟨(some 16), (.mov (.t 3)), (some (15, true)), []⟩,
    ⟨(some 17), (.indexStr (.t 16) (.c (.int .i64 0))), (some (15, true)), []⟩,
    ⟨(some 18), (.call (.f 62) [(.t 17)]), (some (15, true)), []⟩,
    ⟨(some 19), (.pick (.t 15) (.t 18) (.c (.bool false))), none, []⟩,
    ⟨(some 20), (.mov (.t 19)), none, []⟩,
    ⟨(some 21), (.mov (.t 3)), (some (20, true)), []⟩,
    ⟨(some 22), (.bytesOf 5 (.t 21)), (some (20, true)), []⟩,
    ⟨(some 23), (.mov (.t 4)), (some (20, true)), []⟩,
    ⟨(some 24), (.call (.f 42) [(.t 22), (.t 23)]), (some (20, true)), []⟩,
    ⟨(some 25), (.un .not (.t 24)), (some (20, true)), []⟩,
    ⟨(some 26), (.pick (.t 20) (.t 25) (.c (.bool false))), none, []⟩,
    ⟨(some 27), (.call (.f 53) [(.t 7), (.t 26), (.c (.int .i64 23))]), none, []⟩,
    ⟨(some 28), (.un .not (.t 27)), none, []⟩] none)
  (.cond (.t 28)
  (.seq (.region [⟨(some 2), (.mov (.c (.string ⟨#[]⟩))), none, []⟩] none)
  .ret)
  .skip))
  (.seq (.region [⟨(some 29), (.mov (.t 3)), none, []⟩,
    ⟨(some 2), (.mov (.t 29)), none, []⟩] none)
  .ret)))))
def F30 : AFunc := ⟨1, 30, [(.tmp 2)], B30⟩
/-- toll/tolllaw15.WordsKnown$3 -/
def B31 : ACode := (.seq (.region [⟨(some 2), (.mov (.c (.int .i64 0))), none, []⟩] none)
  (.seq (.region [⟨(some 4), (.mov (.t 0)), none, []⟩,
    ⟨(some 5), (.call (.f 28) [(.t 4)]), none, []⟩,
    ⟨(some 3), (.mov (.t 5)), none, []⟩] none)
  (.seq (.region [⟨(some 6), (.mov (.t 3)), none, []⟩,
    ⟨(some 7), (.call (.f 32) [(.t 6)]), none, []⟩] none)
  (.seq (.region [⟨(some 8), (.mov (.t 3)), none, []⟩,
    ⟨(some 9), (.call (.f 18) [(.t 8)]), none, []⟩,
    ⟨(some 2), (.mov (.t 9)), none, []⟩] none)
  .ret))))
def F31 : AFunc := ⟨1, 10, [(.tmp 2)], B31⟩
/-- (*toll/words.Row).Prefix -/
def B32 : ACode := (.seq (.region [⟨(some 2), (.mov (.c (.int .u32 0))), none, []⟩,
    ⟨(some 3), (.mov (.c (.int .i64 0))), none, []⟩] none)
  (.seq (.region [⟨(some 12), (.mov (.t 0)), none, []⟩,
    ⟨(some 13), (.call (.f 19) [(.t 12)]), none, []⟩,
    ⟨(some 14), (.call (.f 43) [(.t 13), (.c (.string ⟨#[47]⟩))]), none, []⟩,
    ⟨(some 11), (.mov (.t 14)), none, []⟩,
    ⟨(some 15), (.extract (.t 11) 0), none, []⟩,
    ⟨(some 16), (.extract (.t 11) 1), none, []⟩,
    ⟨(some 17), (.extract (.t 11) 2), none, []⟩,
    ⟨(some 4), (.mov (.t 15)), none, []⟩,
    ⟨(some 5), (.mov (.t 16)), none, []⟩,
    ⟨(some 6), (.mov (.t 17)), none, []⟩] none)
  (.seq (.region [⟨(some 19), (.mov (.t 4)), none, []⟩,
    ⟨(some 20), (.call (.f 64) [(.t 19)]), none, []⟩,
    ⟨(some 18), (.mov (.t 20)), none, []⟩,
    ⟨(some 21), (.extract (.t 18) 0), none, []⟩,
    ⟨(some 22), (.extract (.t 18) 1), none, []⟩,
    ⟨(some 7), (.mov (.t 21)), none, []⟩,
    ⟨(some 8), (.mov (.t 22)), none, []⟩] none)
  (.seq (.region [⟨(some 9), (.mov (.c (.int .i64 32))), none, []⟩,
    ⟨(some 10), (.mov (.c (.bool true))), none, []⟩] none)
  (.seq (.seq (.region [⟨(some 23), (.mov (.t 6)), none, []⟩] none)
  (.cond (.t 23)
  (.region [⟨(some 25), (.mov (.t 5)), none, []⟩,
    ⟨(some 26), (.call (.f 52) [(.t 25)]), none, []⟩,
    ⟨(some 24), (.mov (.t 26)), none, []⟩,
    ⟨(some 27), (.extract (.t 24) 0), none, []⟩,
    ⟨(some 28), (.extract (.t 24) 1), none, []⟩,
    ⟨(some 9), (.mov (.t 27)), none, []⟩,
    ⟨(some 10), (.mov (.t 28)), none, []⟩] none)
  .skip))
  (.seq (.seq (.region [⟨(some 29), (.mov (.t 8)), none, []⟩,
    ⟨(some 30), (.bin .eql (.t 29) (.c (.int .i64 5))), none, []⟩,
    ⟨(some 31), (.mov (.t 30)), none, []⟩,
    ⟨(some 32), (.mov (.t 10)), (some (31, false)), []⟩,
    ⟨(some 33), (.un .not (.t 32)), (some (31, false)), []⟩,
    ⟨(some 34), (.pick (.t 31) (.c (.bool true)) (.t 33)), none, []⟩] none)
  (.cond (.t 34)
  (.region [⟨(some 8), (.mov (.c (.int .i64 5))), none, []⟩] none)
  (.seq (.region [⟨(some 35), (.mov (.t 8)), none, []⟩,
    ⟨(some 36), (.bin .eql (.t 35) (.c (.int .i64 0))), none, []⟩,
    ⟨(some 37), (.mov (.t 36)), none, []⟩,
    ⟨(some 38), (.mov (.t 9)), (some (37, true)), []⟩,
    ⟨(some 39), (.bin .gtr (.t 38) (.c (.int .i64 32))), (some (37, true)), []⟩,
    ⟨(some 40), (.mov (.t 39)), (some (37, true)), []⟩,
    ⟨(some 41), (.mov (.t 7)), (some (40, false)), []⟩,
    ⟨(some 42), (.mov (.t 9)), (some (40, false)), []⟩,
    ⟨(some 43), (.call (.f 50) [(.t 41), (.t 42)]), (some (40, false)), []⟩,
    ⟨(some 44), (.mov (.t 7)), (some (40, false)), []⟩,
    ⟨(some 45), (.bin .neq (.t 43) (.t 44)), (some (40, false)), []⟩,
    ⟨(some 46), (.pick (.t 40) (.c (.bool true)) (.t 45)), (some (37, true)), []⟩,
    ⟨(some 47), (.pick (.t 37) (.t 46) (.c (.bool false))), none, []⟩] none)
  (.cond (.t 47)
  (.region [⟨(some 8), (.mov (.c (.int .i64 24))), none, []⟩] none)
  .skip))))
  (.seq (.region [⟨(some 48), (.mov (.t 0)), none, []⟩,
    ⟨(some 49), (.mov (.t 8)), none, []⟩,
    ⟨(some 50), (.call (.f 17) [(.t 48), (.t 49)]), none, []⟩] none)
  (.seq (.seq (.region [⟨(some 51), (.mov (.t 0)), none, []⟩,
    ⟨(some 52), (.call (.f 18) [(.t 51)]), none, []⟩,
    ⟨(some 53), (.bin .neq (.t 52) (.c (.int .i64 0))), none, []⟩] none)
  (.cond (.t 53)
  (.seq (.region [⟨(some 2), (.mov (.c (.int .u32 0))), none, []⟩,
    ⟨(some 3), (.mov (.c (.int .i64 0))), none, []⟩] none)
  .ret)
  .skip))
  (.seq (.region [⟨(some 54), (.mov (.t 7)), none, []⟩,
    ⟨(some 55), (.mov (.t 9)), none, []⟩,
    ⟨(some 2), (.mov (.t 54)), none, []⟩,
    ⟨(some 3), (.mov (.t 55)), none, []⟩] none)
  .ret)))))))))
def F32 : AFunc := ⟨1, 56, [(.tmp 2), (.tmp 3)], B32⟩
/-- toll/tolllaw15.WordsKnown$4 -/
def B33 : ACode := (.seq (.region [⟨(some 2), (.mov (.c (.int .i64 0))), none, []⟩] none)
  (.seq (.region [⟨(some 4), (.mov (.t 0)), none, []⟩,
    ⟨(some 5), (.call (.f 28) [(.t 4)]), none, []⟩,
    ⟨(some 3), (.mov (.t 5)), none, []⟩] none)
  (.seq (.region [⟨(some 6), (.mov (.t 3)), none, []⟩,
    ⟨(some 7), (.call (.f 34) [(.t 6), (.c (.int .i64 1)), (.c (.int .i64 9))]), none, []⟩] none)
  (.seq (.region [⟨(some 8), (.mov (.t 3)), none, []⟩,
    ⟨(some 9), (.call (.f 18) [(.t 8)]), none, []⟩,
    ⟨(some 2), (.mov (.t 9)), none, []⟩] none)
  .ret))))
def F33 : AFunc := ⟨1, 10, [(.tmp 2)], B33⟩
/-- (*toll/words.Row).Range -/
def B34 : ACode := (.seq (.region [⟨(some 6), (.mov (.c (.int .i64 0))), none, []⟩,
    ⟨(some 7), (.mov (.c (.int .i64 0))), none, []⟩] none)
  (.seq (.region [⟨(some 16), (.mov (.t 0)), none, []⟩,
    ⟨(some 17), (.call (.f 19) [(.t 16)]), none, []⟩,
    ⟨(some 18), (.call (.f 43) [(.t 17), (.c (.string ⟨#[45]⟩))]), none, []⟩,
    ⟨(some 15), (.mov (.t 18)), none, []⟩,
    ⟨(some 19), (.extract (.t 15) 0), none, []⟩,
    ⟨(some 20), (.extract (.t 15) 1), none, []⟩,
    ⟨(some 21), (.extract (.t 15) 2), none, []⟩,
    ⟨(some 8), (.mov (.t 19)), none, []⟩,
    ⟨(some 9), (.mov (.t 20)), none, []⟩,
    ⟨(some 10), (.mov (.t 21)), none, []⟩] none)
  (.seq (.region [⟨(some 23), (.mov (.t 8)), none, []⟩,
    ⟨(some 24), (.call (.f 52) [(.t 23)]), none, []⟩,
    ⟨(some 22), (.mov (.t 24)), none, []⟩,
    ⟨(some 25), (.extract (.t 22) 0), none, []⟩,
    ⟨(some 26), (.extract (.t 22) 1), none, []⟩,
    ⟨(some 11), (.mov (.t 25)), none, []⟩,
    ⟨(some 12), (.mov (.t 26)), none, []⟩] none)
  (.seq (.region [⟨(some 27), (.mov (.t 11)), none, []⟩,
    ⟨(some 28), (.mov (.t 12)), none, []⟩,
    ⟨(some 13), (.mov (.t 27)), none, []⟩,
    ⟨(some 14), (.mov (.t 28)), none, []⟩] none)
  (.seq (.seq (.region [⟨(some 29), (.mov (.t 10)), none, []⟩] none)
  (.cond (.t 29)
  (.region [⟨(some 31), (.mov (.t 9)), none, []⟩,
    ⟨(some 32), (.call (.f 52) [(.t 31)]), none, []⟩,
    ⟨(some 30), (.mov (.t 32)), none, []⟩,
    ⟨(some 33), (.extract (.t 30) 0), none, []⟩,
    ⟨(some 34), (.extract (.t 30) 1), none, []⟩,
    ⟨(some 13), (.mov (.t 33)), none, []⟩,
    ⟨(some 14), (.mov (.t 34)), none, []⟩] none)
  .skip))
  (.seq (.seq (.region [⟨(some 35), (.mov (.t 0)), none, []⟩,
    ⟨(some 36), (.mov (.t 12)), none, []⟩,
    ⟨(some 37), (.mov (.t 36)), none, []⟩,
    ⟨(some 38), (.mov (.t 14)), (some (37, true)), []⟩,
    ⟨(some 39), (.pick (.t 37) (.t 38) (.c (.bool false))), none, []⟩,
    ⟨(some 40), (.call (.f 53) [(.t 35), (.t 39), (.c (.int .i64 5))]), none, []⟩,
    ⟨(some 41), (.un .not (.t 40)), none, []⟩,
    ⟨(some 42), (.mov (.t 41)), none, []⟩,
    ⟨(some 43), (.mov (.t 0)), (some (42, false)), []⟩,
    ⟨(some 44), (.mov (.t 11)), (some (42, false)), []⟩,
    ⟨(some 45), (.mov (.t 1)), (some (42, false)), []⟩,
    ⟨(some 46), (.bin .geq (.t 44) (.t 45)), (some (42, false)), []⟩,
    ⟨(some 47), (.mov (.t 46)), (some (42, false)), []⟩,
    ⟨(some 48), (.mov (.t 11)), (some (47, true)), []⟩,
    ⟨(some 49), (.mov (.t 13)), (some (47, true)), []⟩,
    ⟨(some 50), (.bin .leq (.t 48) (.t 49)), (some (47, true)), []⟩,
    ⟨(some 51), (.pick (.t 47) (.t 50) (.c (.bool false))), (some (42, false)), []⟩,
    ⟨(some 52), (.mov (.t 51)), (some (42, false)), []⟩,
    ⟨(some 53), (.mov (.t 13)), (some (52, true)), []⟩,
    ⟨(some 54), (.mov (.t 2)), (some (52, true)), []⟩,
    ⟨(some 55), (.bin .leq (.t 53) (.t 54)), (some (52, true)), []⟩,
    ⟨(some 56), (.pick (.t 52) (.t 55) (.c (.bool false))), (some (42, false)), []⟩,
    ⟨(some 57), (.call (.f 53) [(.t 43), (.t 56), (.c (.int .i64 24))]), (some (42, false)), []⟩,
    ⟨(some 58), (.un .not (.t 57)), (some (42, false)), []⟩,
    ⟨(some 59), (.pick (.t 42) (.c (.bool true)) (.t 58)), none, []⟩] none)
  (.cond (.t 59)
  (.seq (.region [⟨(some 6), (.mov (.c (.int .i64 0))), none, []⟩,
    ⟨(some 7), (.mov (.c (.int .i64 0))), none, []⟩] none)
  .ret)
  .skip))
  (.seq (.region [⟨(some 60), (.mov (.t 11)), none, []⟩,
    ⟨(some 61), (.mov (.t 13)), none, []⟩,
    ⟨(some 6), (.mov (.t 60)), none, []⟩,
    ⟨(some 7), (.mov (.t 61)), none, []⟩] none)
  .ret)))))))
def F34 : AFunc := ⟨3, 62, [(.tmp 6), (.tmp 7)], B34⟩
/-- (*toll/words.Row).IP -/
def B39 : ACode := (.seq (.region [⟨(some 2), (.mov (.c (.int .u32 0))), none, []⟩] none)
  (.seq (.region [⟨(some 6), (.mov (.t 0)), none, []⟩,
    ⟨(some 7), (.call (.f 19) [(.t 6)]), none, []⟩,
    ⟨(some 8), (.call (.f 64) [(.t 7)]), none, []⟩,
    ⟨(some 5), (.mov (.t 8)), none, []⟩,
    ⟨(some 9), (.extract (.t 5) 0), none, []⟩,
    ⟨(some 10), (.extract (.t 5) 1), none, []⟩,
    ⟨(some 3), (.mov (.t 9)), none, []⟩,
    ⟨(some 4), (.mov (.t 10)), none, []⟩] none)
  (.seq (.region [⟨(some 11), (.mov (.t 0)), none, []⟩,
    ⟨(some 12), (.mov (.t 4)), none, []⟩,
    ⟨(some 13), (.call (.f 17) [(.t 11), (.t 12)]), none, []⟩] none)
  (.seq (.seq (.region [⟨(some 14), (.mov (.t 0)), none, []⟩,
    ⟨(some 15), (.call (.f 18) [(.t 14)]), none, []⟩,
    ⟨(some 16), (.bin .neq (.t 15) (.c (.int .i64 0))), none, []⟩] none)
  (.cond (.t 16)
  (.seq (.region [⟨(some 2), (.mov (.c (.int .u32 0))), none, []⟩] none)
  .ret)
  .skip))
  (.seq (.region [⟨(some 17), (.mov (.t 3)), none, []⟩,
    ⟨(some 2), (.mov (.t 17)), none, []⟩] none)
  .ret)))))
def F39 : AFunc := ⟨1, 18, [(.tmp 2)], B39⟩
/-- (*toll/words.Row).Rate -/
def B40 : ACode := (.seq (.region [⟨(some 2), (.mov (.c (.float .f64 0))), none, []⟩] none)
  (.seq (.region [⟨(some 6), (.mov (.t 0)), none, []⟩,
    ⟨(some 7), (.call (.f 19) [(.t 6)]), none, []⟩,
    ⟨(some 8), (.call (.f 76) [(.t 7)]), none, []⟩,
    ⟨(some 5), (.mov (.t 8)), none, []⟩,
    ⟨(some 9), (.extract (.t 5) 0), none, []⟩,
    ⟨(some 10), (.extract (.t 5) 1), none, []⟩,
    ⟨(some 3), (.mov (.t 9)), none, []⟩,
    ⟨(some 4), (.mov (.t 10)), none, []⟩] none)
  (.seq (.region [⟨(some 11), (.mov (.t 0)), none, []⟩,
    ⟨(some 12), (.mov (.t 4)), none, []⟩,
    ⟨(some 13), (.call (.f 17) [(.t 11), (.t 12)]), none, []⟩] none)
  (.seq (.seq (.region [⟨(some 14), (.mov (.t 0)), none, []⟩,
    ⟨(some 15), (.call (.f 18) [(.t 14)]), none, []⟩,
    ⟨(some 16), (.bin .neq (.t 15) (.c (.int .i64 0))), none, []⟩] none)
  (.cond (.t 16)
  (.seq (.region [⟨(some 2), (.mov (.c (.float .f64 0))), none, []⟩] none)
  .ret)
  .skip))
  (.seq (.region [⟨(some 17), (.mov (.t 3)), none, []⟩,
    ⟨(some 2), (.mov (.t 17)), none, []⟩] none)
  .ret)))))
def F40 : AFunc := ⟨1, 18, [(.tmp 2)], B40⟩
/-- toll/words.Split$1 -/
def B41 : ACode := (.seq (.region [⟨(some 2), (.mov (.c (.bool false))), none, []⟩] none)
  (.seq (.region [⟨(some 3), (.mov (.t 0)), none, []⟩,
    ⟨(some 4), (.bin .lss (.t 3) (.c (.int .u8 32))), none, []⟩,
    ⟨(some 5), (.mov (.t 4)), none, []⟩,
    ⟨(some 6), (.mov (.t 0)), (some (5, false)), []⟩,
    ⟨(some 7), (.bin .gtr (.t 6) (.c (.int .u8 126))), (some (5, false)), []⟩,
    ⟨(some 8), (.pick (.t 5) (.c (.bool true)) (.t 7)), none, []⟩,
    ⟨(some 9), (.mov (.t 8)), none, []⟩,
    ⟨(some 10), (.mov (.t 0)), (some (9, true)), []⟩,
    ⟨(some 11), (.bin .neq (.t 10) (.c (.int .u8 9))), (some (9, true)), []⟩,
    ⟨(some 12), (.pick (.t 9) (.t 11) (.c (.bool false))), none, []⟩,
    ⟨(some 2), (.mov (.t 12)), none, []⟩] none)
  .ret))
def F41 : AFunc := ⟨1, 13, [(.tmp 2)], B41⟩
/-- slices.ContainsFunc[[]byte,byte] -/
def B42 : ACode := (.seq (.region [⟨(some 4), (.mov (.c (.bool false))), none, []⟩] none)
  (.seq (.region [⟨(some 5), (.mov (.t 0)), none, []⟩,
    ⟨(some 6), (.mov (.t 1)), none, []⟩,
    ⟨(some 7), (.call (.f 77) [(.t 5), (.t 6)]), none, []⟩,
    ⟨(some 8), (.bin .geq (.t 7) (.c (.int .i64 0))), none, []⟩,
    ⟨(some 4), (.mov (.t 8)), none, []⟩] none)
  .ret))
def F42 : AFunc := ⟨2, 9, [(.tmp 4)], B42⟩
/-- strings.Cut -/
def B43 : ACode := (.seq (.region [⟨(some 4), (.mov (.c (.string ⟨#[]⟩))), none, []⟩,
    ⟨(some 5), (.mov (.c (.string ⟨#[]⟩))), none, []⟩,
    ⟨(some 6), (.mov (.c (.bool false))), none, []⟩] none)
  (.seq (.region [⟨(some 7), (.mov (.t 0)), none, []⟩,
    ⟨(some 8), (.mov (.t 1)), none, []⟩,
    ⟨(some 9), (.call (.f 78) [(.t 7), (.t 8)]), none, []⟩,
    ⟨(some 10), (.extract (.t 9) 0), none, []⟩,
    ⟨(some 11), (.extract (.t 9) 1), none, []⟩,
    ⟨(some 12), (.extract (.t 9) 2), none, []⟩,
    ⟨(some 4), (.mov (.t 10)), none, []⟩,
    ⟨(some 5), (.mov (.t 11)), none, []⟩,
    ⟨(some 6), (.mov (.t 12)), none, []⟩] none)
  .ret))
def F43 : AFunc := ⟨2, 13, [(.tmp 4), (.tmp 5), (.tmp 6)], B43⟩
/-- strings.FieldsFunc -/
def F44L0 : ACode := (.seq (.region [⟨(some 15), (.nextStr (.t 14)), none, []⟩,
    ⟨(some 16), (.extract (.t 15) 0), none, []⟩] none)
  (.seq (.cond (.t 16)
  .skip
  (.exit 0))
  (.block 1 (.seq (.region [⟨(some 17), (.extract (.t 15) 1), none, []⟩,
    ⟨(some 18), (.extract (.t 15) 2), none, []⟩,
    ⟨(some 7), (.mov (.t 17)), none, []⟩,
    ⟨(some 8), (.mov (.t 18)), none, []⟩] none)
  (.seq (.region [⟨(some 19), (.mov (.t 1)), none, []⟩,
    ⟨(some 20), (.mov (.t 8)), none, []⟩,
    ⟨(some 21), (.call (.t 19) [(.t 20)]), none, []⟩] none)
  (.cond (.t 21)
  (.seq (.region [⟨(some 22), (.mov (.t 6)), none, []⟩,
    ⟨(some 23), (.bin .geq (.t 22) (.c (.int .i64 0))), none, []⟩] none)
  (.cond (.t 23)
  (.seq (.region [⟨(some 24), (.mov (.t 5)), none, []⟩,
    ⟨(some 25), (.mov (.t 6)), none, []⟩,
    ⟨(some 26), (.mov (.t 7)), none, []⟩,
    ⟨(some 27), (.build [(.int .i64 0), (.int .i64 0)] [(0, 1, (.t 25)), (1, 1, (.t 26))]), none, []⟩,
    ⟨(some 28), (.buildSlice 111 2 1 [(.int .i64 0), (.int .i64 0)] [(0, 2, (.t 27))]), none, []⟩,
    ⟨(some 29), (.append 111 2 16 (.t 24) (.t 28)), none, []⟩,
    ⟨(some 5), (.mov (.t 29)), none, []⟩] none)
  (.region [⟨(some 30), (.mov (.t 6)), none, []⟩,
    ⟨(some 31), (.un .xor (.t 30)), none, []⟩,
    ⟨(some 6), (.mov (.t 31)), none, []⟩] none))
  .skip))
  (.seq (.region [⟨(some 32), (.mov (.t 6)), none, []⟩,
    ⟨(some 33), (.bin .lss (.t 32) (.c (.int .i64 0))), none, []⟩] none)
  (.cond (.t 33)
  (.region [⟨(some 34), (.mov (.t 7)), none, []⟩,
    ⟨(some 6), (.mov (.t 34)), none, []⟩] none)
  .skip))))))))
def F44L1 : ACode := (.seq (.region [⟨(some 50), (.bin .lss (.t 49) (.t 48)), none, []⟩] none)
  (.seq (.cond (.t 50)
  .skip
  (.exit 2))
  (.seq (.block 3 (.seq (.region [⟨(some 51), (.mov (.t 49)), none, []⟩,
    ⟨(some 52), (.indexAddr 2 (.t 47) (.t 49)), none, []⟩,
    ⟨(some 53), (.load (some 2) (.t 52)), none, []⟩,
    ⟨(some 11), (.alloc 111 [(.int .i64 0), (.int .i64 0)]), none, []⟩,
    ⟨(some 10), (.mov (.t 51)), none, []⟩,
    ⟨none, (.store 2 (.t 11) (.t 53)), none, []⟩] none)
  (.region [⟨(some 54), (.mov (.t 9)), none, []⟩,
    ⟨(some 55), (.mov (.t 10)), none, []⟩,
    ⟨(some 56), (.mov (.t 0)), none, []⟩,
    ⟨(some 57), (.fieldAddr 0 (.t 11)), none, []⟩,
    ⟨(some 58), (.load none (.t 57)), none, []⟩,
    ⟨(some 59), (.fieldAddr 1 (.t 11)), none, []⟩,
    ⟨(some 60), (.load none (.t 59)), none, []⟩,
    ⟨(some 61), (.sliceStr (.t 56) (some (.t 58)) (some (.t 60))), none, []⟩,
    ⟨(some 62), (.indexAddr 1 (.t 54) (.t 55)), none, []⟩,
    ⟨none, (.store 1 (.t 62) (.t 61)), none, []⟩] none)))
  (.region [⟨(some 63), (.bin .add (.t 49) (.c (.int .i64 1))), none, []⟩,
    ⟨(some 49), (.mov (.t 63)), none, []⟩] none))))
def B44 : ACode := (.seq (.region [⟨(some 4), (.mov (.c (.slice none 0 0))), none, []⟩] none)
  (.seq (.region [⟨(some 12), (.makeSlice 111 2 16 [(.int .i64 0), (.int .i64 0)] (.c (.int .i64 0)) (.c (.int .i64 32))), none, []⟩,
    ⟨(some 5), (.mov (.t 12)), none, []⟩] none)
  (.seq (.region [⟨(some 6), (.mov (.c (.int .i64 (-1)))), none, []⟩] none)
  (.seq (.seq (.region [⟨(some 13), (.mov (.t 0)), none, []⟩,
    ⟨(some 14), (.rangeStr (.t 13)), none, []⟩] none)
  (.block 0 (.loop F44L0)))
  (.seq (.seq (.region [⟨(some 35), (.mov (.t 6)), none, []⟩,
    ⟨(some 36), (.bin .geq (.t 35) (.c (.int .i64 0))), none, []⟩] none)
  (.cond (.t 36)
  (.region [⟨(some 37), (.mov (.t 5)), none, []⟩,
    ⟨(some 38), (.mov (.t 6)), none, []⟩,
    ⟨(some 39), (.mov (.t 0)), none, []⟩,
    ⟨(some 40), (.lenStr (.t 39)), none, []⟩,
    ⟨(some 41), (.build [(.int .i64 0), (.int .i64 0)] [(0, 1, (.t 38)), (1, 1, (.t 40))]), none, []⟩,
    ⟨(some 42), (.buildSlice 111 2 1 [(.int .i64 0), (.int .i64 0)] [(0, 2, (.t 41))]), none, []⟩,
    ⟨(some 43), (.append 111 2 16 (.t 37) (.t 42)), none, []⟩,
    ⟨(some 5), (.mov (.t 43)), none, []⟩] none)
  .skip))
  (.seq (.region [⟨(some 44), (.mov (.t 5)), none, []⟩,
    ⟨(some 45), (.lenSlice (.t 44)), none, []⟩,
    ⟨(some 46), (.makeSlice 9 1 16 [(.string ⟨#[]⟩)] (.t 45) (.t 45)), none, []⟩,
    ⟨(some 9), (.mov (.t 46)), none, []⟩] none)
  (.seq (.seq (.region [⟨(some 47), (.mov (.t 5)), none, []⟩,
    ⟨(some 48), (.lenSlice (.t 47)), none, []⟩,
    ⟨(some 49), (.mov (.c (.int .i64 0))), none, []⟩] none)
  (.block 2 (.loop F44L1)))
  (.seq (.region [⟨(some 64), (.mov (.t 9)), none, []⟩,
    ⟨(some 4), (.mov (.t 64)), none, []⟩] none)
  .ret))))))))
def F44 : AFunc := ⟨2, 65, [(.tmp 4)], B44⟩
-- F44L0 live: [0, 1, 5, 6, 14]

-- F44L1 live: [0, 9, 47, 48, 49]
/-- toll/words.Split$2 -/
def B45 : ACode := (.seq (.region [⟨(some 2), (.mov (.c (.bool false))), none, []⟩] none)
  (.seq (.region [⟨(some 3), (.mov (.t 0)), none, []⟩,
    ⟨(some 4), (.call (.f 46) [(.c (.string ⟨#[32, 9]⟩)), (.t 3)]), none, []⟩,
    ⟨(some 2), (.mov (.t 4)), none, []⟩] none)
  .ret))
def F45 : AFunc := ⟨1, 5, [(.tmp 2)], B45⟩
/-- strings.ContainsRune -/
def B46 : ACode := (.seq (.region [⟨(some 4), (.mov (.c (.bool false))), none, []⟩] none)
  (.seq (.region [⟨(some 5), (.mov (.t 0)), none, []⟩,
    ⟨(some 6), (.mov (.t 1)), none, []⟩,
    ⟨(some 7), (.call (.f 79) [(.t 5), (.t 6)]), none, []⟩,
    ⟨(some 8), (.bin .geq (.t 7) (.c (.int .i64 0))), none, []⟩,
    ⟨(some 4), (.mov (.t 8)), none, []⟩] none)
  .ret))
def F46 : AFunc := ⟨2, 9, [(.tmp 4)], B46⟩
/-- strconv.Itoa -/
def B47 : ACode := (.seq (.region [⟨(some 2), (.mov (.c (.string ⟨#[]⟩))), none, []⟩] none)
  (.seq (.region [⟨(some 3), (.mov (.t 0)), none, []⟩,
    ⟨(some 4), (.call (.f 80) [(.t 3)]), none, []⟩,
    ⟨(some 2), (.mov (.t 4)), none, []⟩] none)
  .ret))
def F47 : AFunc := ⟨1, 5, [(.tmp 2)], B47⟩
/-- strings.Join -/
def F48L0 : ACode := (.seq (.region [⟨(some 42), (.bin .lss (.t 41) (.t 40)), none, []⟩] none)
  (.seq (.cond (.t 42)
  .skip
  (.exit 1))
  (.seq (.block 2 (.seq (.region [⟨(some 43), (.indexAddr 1 (.t 39) (.t 41)), none, []⟩,
    ⟨(some 44), (.load none (.t 43)), none, []⟩,
    ⟨(some 7), (.mov (.t 44)), none, []⟩] none)
  (.seq (.seq (.region [⟨(some 45), (.mov (.t 7)), none, []⟩,
    ⟨(some 46), (.lenStr (.t 45)), none, []⟩,
    ⟨(some 47), (.mov (.t 5)), none, []⟩,
    ⟨(some 48), (.bin .sub (.c (.int .i64 9223372036854775807)) (.t 47)), none, []⟩,
    ⟨(some 49), (.bin .gtr (.t 46) (.t 48)), none, []⟩] none)
  (.cond (.t 49)
  (.region [⟨(some 50), (.makeIface 9 (.c (.string ⟨#[115, 116, 114, 105, 110, 103, 115, 58, 32, 74, 111, 105, 110, 32, 111, 117, 116, 112, 117, 116, 32, 108, 101, 110, 103, 116, 104, 32, 111, 118, 101, 114, 102, 108, 111, 119]⟩))), none, []⟩,
    ⟨none, .fail, none, []⟩] none)
  .skip))
  (.region [⟨(some 51), (.mov (.t 5)), none, []⟩,
    ⟨(some 52), (.mov (.t 7)), none, []⟩,
    ⟨(some 53), (.lenStr (.t 52)), none, []⟩,
    ⟨(some 54), (.bin .add (.t 51) (.t 53)), none, []⟩,
    ⟨(some 5), (.mov (.t 54)), none, []⟩] none))))
  (.region [⟨(some 55), (.bin .add (.t 41) (.c (.int .i64 1))), none, []⟩,
    ⟨(some 41), (.mov (.t 55)), none, []⟩] none))))
def F48L1 : ACode := (.seq (.region [⟨(some 66), (.bin .lss (.t 65) (.t 64)), none, []⟩] none)
  (.seq (.cond (.t 66)
  .skip
  (.exit 3))
  (.seq (.block 4 (.seq (.region [⟨(some 67), (.indexAddr 1 (.t 63) (.t 65)), none, []⟩,
    ⟨(some 68), (.load none (.t 67)), none, []⟩,
    ⟨(some 10), (.mov (.t 68)), none, []⟩] none)
  (.seq (.region [⟨(some 69), (.mov (.t 1)), none, []⟩,
    ⟨(some 70), (.call (.f 58) [(.t 8), (.t 69)]), none, []⟩] none)
  (.region [⟨(some 71), (.mov (.t 10)), none, []⟩,
    ⟨(some 72), (.call (.f 58) [(.t 8), (.t 71)]), none, []⟩] none))))
  (.region [⟨(some 73), (.bin .add (.t 65) (.c (.int .i64 1))), none, []⟩,
    ⟨(some 65), (.mov (.t 73)), none, []⟩] none))))
def B48 : ACode := (.seq (.region [⟨(some 4), (.mov (.c (.string ⟨#[]⟩))), none, []⟩] none)
  (.seq (.seq (.region [⟨(some 11), (.mov (.t 0)), none, []⟩,
    ⟨(some 12), (.lenSlice (.t 11)), none, []⟩] none)
  (.block 0 (.seq (.region [⟨(some 14), (.bin .eql (.t 12) (.c (.int .i64 0))), none, []⟩,
    ⟨(some 13), (.mov (.t 14)), none, []⟩] none)
  (.cond (.t 13)
  (.seq (.region [⟨(some 4), (.mov (.c (.string ⟨#[]⟩))), none, []⟩] none)
  .ret)
  (.seq (.region [⟨(some 16), (.bin .eql (.t 12) (.c (.int .i64 1))), none, []⟩,
    ⟨(some 15), (.mov (.t 16)), none, []⟩] none)
  (.cond (.t 15)
  (.seq (.region [⟨(some 17), (.mov (.t 0)), none, []⟩,
    ⟨(some 18), (.indexAddr 1 (.t 17) (.c (.int .i64 0))), none, []⟩,
    ⟨(some 19), (.load none (.t 18)), none, []⟩,
    ⟨(some 4), (.mov (.t 19)), none, []⟩] none)
  .ret)
  .skip))))))
  (.seq (.region [⟨(some 5), (.mov (.c (.int .i64 0))), none, []⟩] none)
  (.seq (.seq (.region [⟨(some 20), (.mov (.t 1)), none, []⟩,
    ⟨(some 21), (.lenStr (.t 20)), none, []⟩,
    ⟨(some 22), (.bin .gtr (.t 21) (.c (.int .i64 0))), none, []⟩] none)
  (.cond (.t 22)
  (.seq (.seq (.region [⟨(some 23), (.mov (.t 1)), none, []⟩,
    ⟨(some 24), (.lenStr (.t 23)), none, []⟩,
    ⟨(some 25), (.mov (.t 0)), none, []⟩,
    ⟨(some 26), (.lenSlice (.t 25)), none, []⟩,
    ⟨(some 27), (.bin .sub (.t 26) (.c (.int .i64 1))), none, []⟩,
    ⟨(some 28), (.bin .quo (.c (.int .i64 9223372036854775807)) (.t 27)), none, []⟩,
    ⟨(some 29), (.bin .geq (.t 24) (.t 28)), none, []⟩] none)
  (.cond (.t 29)
  (.region [⟨(some 30), (.makeIface 9 (.c (.string ⟨#[115, 116, 114, 105, 110, 103, 115, 58, 32, 74, 111, 105, 110, 32, 111, 117, 116, 112, 117, 116, 32, 108, 101, 110, 103, 116, 104, 32, 111, 118, 101, 114, 102, 108, 111, 119]⟩))), none, []⟩,
    ⟨none, .fail, none, []⟩] none)
  .skip))
  (.region [⟨(some 31), (.mov (.t 5)), none, []⟩,
    ⟨(some 32), (.mov (.t 1)), none, []⟩,
    ⟨(some 33), (.lenStr (.t 32)), none, []⟩,
    ⟨(some 34), (.mov (.t 0)), none, []⟩,
    ⟨(some 35), (.lenSlice (.t 34)), none, []⟩,
    ⟨(some 36), (.bin .sub (.t 35) (.c (.int .i64 1))), none, []⟩,
    ⟨(some 37), (.bin .mul (.t 33) (.t 36)), none, []⟩,
    ⟨(some 38), (.bin .add (.t 31) (.t 37)), none, []⟩,
    ⟨(some 5), (.mov (.t 38)), none, []⟩] none))
  .skip))
  (.seq (.seq (.region [⟨(some 39), (.mov (.t 0)), none, []⟩,
    ⟨(some 40), (.lenSlice (.t 39)), none, []⟩,
    ⟨(some 41), (.mov (.c (.int .i64 0))), none, []⟩] none)
  (.block 1 (.loop F48L0)))
  (.seq (.region [⟨(some 8), (.alloc 91 [(.pointer none), (.slice none 0 0)]), none, []⟩] none)
  (.seq (.region [⟨(some 56), (.mov (.t 5)), none, []⟩,
    ⟨(some 57), (.call (.f 57) [(.t 8), (.t 56)]), none, []⟩] none)
  (.seq (.region [⟨(some 58), (.mov (.t 0)), none, []⟩,
    ⟨(some 59), (.indexAddr 1 (.t 58) (.c (.int .i64 0))), none, []⟩,
    ⟨(some 60), (.load none (.t 59)), none, []⟩,
    ⟨(some 61), (.call (.f 58) [(.t 8), (.t 60)]), none, []⟩] none)
  (.seq (.seq (.region [⟨(some 62), (.mov (.t 0)), none, []⟩,
    ⟨(some 63), (.slice 1 (.t 62) (some (.c (.int .i64 1))) none none), none, []⟩,
    ⟨(some 64), (.lenSlice (.t 63)), none, []⟩,
    ⟨(some 65), (.mov (.c (.int .i64 0))), none, []⟩] none)
  (.block 3 (.loop F48L1)))
  (.seq (.region [⟨(some 74), (.call (.f 60) [(.t 8)]), none, []⟩,
    ⟨(some 4), (.mov (.t 74)), none, []⟩] none)
  .ret))))))))))
def F48 : AFunc := ⟨2, 75, [(.tmp 4)], B48⟩
-- F48L0 live: [0, 1, 5, 39, 40, 41]

-- F48L1 live: [1, 8, 63, 64, 65]
/-- toll/tollref15.Digits -/
def F49L0 : ACode := (.seq (.seq (.region [⟨(some 8), (.mov (.t 0)), none, []⟩,
    ⟨(some 9), (.bin .neq (.t 8) (.c (.int .i64 0))), none, []⟩,
    ⟨(some 10), (.mov (.t 9)), none, []⟩,
    ⟨(some 11), (.mov (.t 3)), (some (10, false)), []⟩,
    ⟨(some 12), (.bin .eql (.t 11) (.c (.string ⟨#[]⟩))), (some (10, false)), []⟩,
    ⟨(some 13), (.pick (.t 10) (.c (.bool true)) (.t 12)), none, []⟩] none)
  (.cond (.t 13)
  .skip
  (.exit 0)))
  (.block 1 (.seq (.region [⟨(some 14), (.mov (.t 0)), none, []⟩,
    ⟨(some 15), (.bin .rem (.t 14) (.c (.int .i64 10))), none, []⟩,
    ⟨(some 5), (.mov (.t 15)), none, []⟩] none)
  (.seq (.seq (.region [⟨(some 16), (.mov (.t 5)), none, []⟩,
    ⟨(some 17), (.bin .lss (.t 16) (.c (.int .i64 0))), none, []⟩] none)
  (.cond (.t 17)
  (.region [⟨(some 18), (.mov (.t 5)), none, []⟩,
    ⟨(some 19), (.un .neg (.t 18)), none, []⟩,
    ⟨(some 5), (.mov (.t 19)), none, []⟩] none)
  .skip))
  (.seq (.region [⟨(some 20), (.mov (.t 5)), none, []⟩,
    ⟨(some 21), (.bin .add (.c (.int .i64 48)) (.t 20)), none, []⟩,
    ⟨(some 22), (.conv .u8 (.t 21)), none, []⟩,
    ⟨(some 23), (.buildSlice 5 1 1 [(.int .u8 0)] [(0, 1, (.t 22))]), none, []⟩,
    ⟨(some 24), (.strOf (.t 23)), none, []⟩,
    ⟨(some 25), (.mov (.t 3)), none, []⟩,
    ⟨(some 26), (.bin .add (.t 24) (.t 25)), none, []⟩,
    ⟨(some 3), (.mov (.t 26)), none, []⟩] none)
  (.region [⟨(some 27), (.mov (.t 0)), none, []⟩,
    ⟨(some 28), (.bin .quo (.t 27) (.c (.int .i64 10))), none, []⟩,
    ⟨(some 0), (.mov (.t 28)), none, []⟩] none))))))
def B49 : ACode := (.seq (.region [⟨(some 2), (.mov (.c (.string ⟨#[]⟩))), none, []⟩] none)
  (.seq (.region [⟨(some 3), (.mov (.c (.string ⟨#[]⟩))), none, []⟩] none)
  (.seq (.region [⟨(some 6), (.mov (.t 0)), none, []⟩,
    ⟨(some 7), (.bin .lss (.t 6) (.c (.int .i64 0))), none, []⟩,
    ⟨(some 4), (.mov (.t 7)), none, []⟩] none)
  (.seq (.block 0 (.loop F49L0))
  (.seq (.seq (.region [⟨(some 29), (.mov (.t 4)), none, []⟩] none)
  (.cond (.t 29)
  (.seq (.region [⟨(some 30), (.mov (.t 3)), none, []⟩,
    ⟨(some 31), (.bin .add (.c (.string ⟨#[45]⟩)) (.t 30)), none, []⟩,
    ⟨(some 2), (.mov (.t 31)), none, []⟩] none)
  .ret)
  .skip))
  (.seq (.region [⟨(some 32), (.mov (.t 3)), none, []⟩,
    ⟨(some 2), (.mov (.t 32)), none, []⟩] none)
  .ret))))))
def F49 : AFunc := ⟨1, 33, [(.tmp 2)], B49⟩
-- F49L0 live: [0, 3, 4]
/-- toll/words.masked -/
def B50 : ACode := (.seq (.region [⟨(some 4), (.mov (.c (.int .u32 0))), none, []⟩] none)
  (.seq (.region [⟨(some 5), (.mov (.t 0)), none, []⟩,
    ⟨(some 6), (.mov (.t 1)), none, []⟩,
    ⟨(some 7), (.bin .sub (.c (.int .i64 32)) (.t 6)), none, []⟩,
    ⟨(some 8), (.conv .u64 (.t 7)), none, []⟩,
    ⟨(some 9), (.bin .shl (.c (.int .u32 1)) (.t 8)), none, []⟩,
    ⟨(some 10), (.bin .sub (.t 9) (.c (.int .u32 1))), none, []⟩,
    ⟨(some 11), (.bin .andNot (.t 5) (.t 10)), none, []⟩,
    ⟨(some 4), (.mov (.t 11)), none, []⟩] none)
  .ret))
def F50 : AFunc := ⟨2, 12, [(.tmp 4)], B50⟩
/-- toll/tollref15.Masked -/
def F51L0 : ACode := (.seq (.seq (.region [⟨(some 8), (.mov (.t 6)), none, []⟩,
    ⟨(some 9), (.bin .lss (.t 8) (.c (.int .i64 32))), none, []⟩] none)
  (.cond (.t 9)
  .skip
  (.exit 0)))
  (.seq (.block 1 (.region [⟨(some 12), (.mov (.t 5)), none, []⟩,
    ⟨(some 13), (.bin .mul (.t 12) (.c (.int .u64 2))), none, []⟩,
    ⟨(some 5), (.mov (.t 13)), none, []⟩] none))
  (.region [⟨(some 10), (.mov (.t 6)), none, []⟩,
    ⟨(some 11), (.bin .add (.t 10) (.c (.int .i64 1))), none, []⟩,
    ⟨(some 6), (.mov (.t 11)), none, []⟩] none)))
def B51 : ACode := (.seq (.region [⟨(some 4), (.mov (.c (.int .u32 0))), none, []⟩] none)
  (.seq (.region [⟨(some 5), (.mov (.c (.int .u64 1))), none, []⟩] none)
  (.seq (.seq (.region [⟨(some 7), (.mov (.t 1)), none, []⟩,
    ⟨(some 6), (.mov (.t 7)), none, []⟩] none)
  (.block 0 (.loop F51L0)))
  (.seq (.region [⟨(some 14), (.mov (.t 0)), none, []⟩,
    ⟨(some 15), (.conv .u64 (.t 14)), none, []⟩,
    ⟨(some 16), (.mov (.t 5)), none, []⟩,
    ⟨(some 17), (.bin .quo (.t 15) (.t 16)), none, []⟩,
    ⟨(some 18), (.mov (.t 5)), none, []⟩,
    ⟨(some 19), (.bin .mul (.t 17) (.t 18)), none, []⟩,
    ⟨(some 20), (.conv .u32 (.t 19)), none, []⟩,
    ⟨(some 4), (.mov (.t 20)), none, []⟩] none)
  .ret))))
def F51 : AFunc := ⟨2, 21, [(.tmp 4)], B51⟩
-- F51L0 live: [0, 5, 6]
def R52_0 : ACode := .region [⟨(some 33), (.mov (.t 4)), none, []⟩,
    ⟨(some 34), (.mov (.t 5)), none, []⟩,
    ⟨(some 35), (.eqv false .iface true (.t 34) (.c .nilIface)), none, [1]⟩,
    ⟨(some 2), (.mov (.t 33)), none, [0, 0]⟩,
    ⟨(some 3), (.mov (.t 35)), none, [2, 3, 0, 1, 2, 3]⟩] (some [(0, 1), (0, 2), (1, 3), (2, 3)])
/-- toll/words.number -/
def B52 : ACode := (.seq (.region [⟨(some 2), (.mov (.c (.int .i64 0))), none, []⟩,
    ⟨(some 3), (.mov (.c (.bool false))), none, []⟩] none)
  (.seq (.seq (.region [⟨(some 6), (.mov (.t 0)), none, []⟩,
    ⟨(some 7), (.bin .eql (.t 6) (.c (.string ⟨#[]⟩))), none, []⟩,
    ⟨(some 8), (.mov (.t 7)), none, []⟩,
    ⟨(some 9), (.mov (.t 0)), (some (8, false)), []⟩,
    ⟨(some 10), (.lenStr (.t 9)), (some (8, false)), []⟩,
    ⟨(some 11), (.bin .gtr (.t 10) (.c (.int .i64 10))), (some (8, false)), []⟩,
    ⟨(some 12), (.pick (.t 8) (.c (.bool true)) (.t 11)), none, []⟩,
    ⟨(some 13), (.mov (.t 12)), none, []⟩,
    ⟨(some 14), (.mov (.t 0)), (some (13, false)), []⟩,
    ⟨(some 15), (.call (.f 81) [(.t 14), (.c (.string ⟨#[48, 49, 50, 51, 52, 53, 54, 55, 56, 57]⟩))]), (some (13, false)), []⟩,
    ⟨(some 16), (.bin .neq (.t 15) (.c (.string ⟨#[]⟩))), (some (13, false)), []⟩,
    ⟨(some 17), (.pick (.t 13) (.c (.bool true)) (.t 16)), none, []⟩,
    ⟨(some 18), (.mov (.t 17)), none, []⟩,
    ⟨(some 19), (.mov (.t 0)), (some (18, false)), []⟩,
    ⟨(some 20), (.lenStr (.t 19)), (some (18, false)), []⟩,
    ⟨(some 21), (.bin .gtr (.t 20) (.c (.int .i64 1))), (some (18, false)), []⟩,
    ⟨(some 22), (.mov (.t 21)), (some (18, false)), []⟩,
    ⟨(some 23), (.mov (.t 0)), (some (22, true)), []⟩,
    ⟨(some 24), (.indexStr (.t 23) (.c (.int .i64 0))), (some (22, true)), []⟩,
    ⟨(some 25), (.bin .eql (.t 24) (.c (.int .u8 48))), (some (22, true)), []⟩,
    ⟨(some 26), (.pick (.t 22) (.t 25) (.c (.bool false))), (some (18, false)), []⟩,
    ⟨(some 27), (.pick (.t 18) (.c (.bool true)) (.t 26)), none, []⟩] none)
  (.cond (.t 27)
  (.seq (.region [⟨(some 2), (.mov (.c (.int .i64 0))), none, []⟩,
    ⟨(some 3), (.mov (.c (.bool false))), none, []⟩] none)
  .ret)
  .skip))
  (.seq (.region [⟨(some 29), (.mov (.t 0)), none, []⟩,
    ⟨(some 30), (.call (.f 82) [(.t 29)]), none, []⟩,
    ⟨(some 28), (.mov (.t 30)), none, []⟩,
    ⟨(some 31), (.extract (.t 28) 0), none, []⟩,
    ⟨(some 32), (.extract (.t 28) 1), none, []⟩,
    ⟨(some 4), (.mov (.t 31)), none, []⟩,
    ⟨(some 5), (.mov (.t 32)), none, []⟩] none)
  (.seq R52_0
  .ret))))
def F52 : AFunc := ⟨1, 36, [(.tmp 2), (.tmp 3)], B52⟩
/-- (*toll/words.Row).wants -/
def B53 : ACode := (.seq (.region [⟨(some 6), (.mov (.c (.bool false))), none, []⟩] none)
  (.seq (.seq (.region [⟨(some 7), (.mov (.t 1)), none, []⟩,
    ⟨(some 8), (.un .not (.t 7)), none, []⟩] none)
  (.cond (.t 8)
  (.region [⟨(some 9), (.mov (.t 0)), none, []⟩,
    ⟨(some 10), (.mov (.t 2)), none, []⟩,
    ⟨(some 11), (.call (.f 17) [(.t 9), (.t 10)]), none, []⟩] none)
  .skip))
  (.seq (.region [⟨(some 12), (.mov (.t 0)), none, []⟩,
    ⟨(some 13), (.call (.f 18) [(.t 12)]), none, []⟩,
    ⟨(some 14), (.bin .eql (.t 13) (.c (.int .i64 0))), none, []⟩,
    ⟨(some 6), (.mov (.t 14)), none, []⟩] none)
  .ret)))
def F53 : AFunc := ⟨3, 15, [(.tmp 6)], B53⟩
/-- slices.Index[[]string,string] -/
def F54L0 : ACode := (.seq (.region [⟨(some 9), (.bin .lss (.t 8) (.t 7)), none, []⟩] none)
  (.seq (.cond (.t 9)
  .skip
  (.exit 0))
  (.seq (.block 1 (.seq (.region [⟨(some 10), (.mov (.t 8)), none, []⟩,
    ⟨(some 5), (.mov (.t 10)), none, []⟩] none)
  (.seq (.region [⟨(some 11), (.mov (.t 1)), none, []⟩,
    ⟨(some 12), (.mov (.t 0)), none, []⟩,
    ⟨(some 13), (.mov (.t 5)), none, []⟩,
    ⟨(some 14), (.indexAddr 1 (.t 12) (.t 13)), none, []⟩,
    ⟨(some 15), (.load none (.t 14)), none, []⟩,
    ⟨(some 16), (.bin .eql (.t 11) (.t 15)), none, []⟩] none)
  (.cond (.t 16)
  (.seq (.region [⟨(some 17), (.mov (.t 5)), none, []⟩,
    ⟨(some 4), (.mov (.t 17)), none, []⟩] none)
  .ret)
  .skip))))
  (.region [⟨(some 18), (.bin .add (.t 8) (.c (.int .i64 1))), none, []⟩,
    ⟨(some 8), (.mov (.t 18)), none, []⟩] none))))
def B54 : ACode := (.seq (.region [⟨(some 4), (.mov (.c (.int .i64 0))), none, []⟩] none)
  (.seq (.seq (.region [⟨(some 6), (.mov (.t 0)), none, []⟩,
    ⟨(some 7), (.lenSlice (.t 6)), none, []⟩,
    ⟨(some 8), (.mov (.c (.int .i64 0))), none, []⟩] none)
  (.block 0 (.loop F54L0)))
  (.seq (.region [⟨(some 4), (.mov (.c (.int .i64 (-1)))), none, []⟩] none)
  .ret)))
def F54 : AFunc := ⟨2, 19, [(.tmp 4)], B54⟩
-- F54L0 live: [0, 1, 7, 8]
def R57_0 : ACode := .region [⟨(some 9), (.mov (.t 0)), none, []⟩,
    ⟨(some 10), (.nilCheck (.t 9)), none, [0]⟩,
    ⟨(some 11), (.fieldAddr 1 (.t 10)), none, [1]⟩,
    ⟨(some 12), (.load none (.t 11)), none, [2]⟩,
    ⟨(some 13), (.cap (.t 12)), none, [3]⟩,
    ⟨(some 14), (.mov (.t 0)), none, []⟩,
    ⟨(some 15), (.nilCheck (.t 14)), none, [5]⟩,
    ⟨(some 16), (.fieldAddr 1 (.t 15)), none, [6]⟩,
    ⟨(some 17), (.load none (.t 16)), none, [7]⟩,
    ⟨(some 18), (.lenSlice (.t 17)), none, [8]⟩,
    ⟨(some 19), (.bin .sub (.t 13) (.t 18)), none, [4, 9]⟩,
    ⟨(some 20), (.mov (.t 1)), none, []⟩,
    ⟨(some 21), (.bin .lss (.t 19) (.t 20)), none, [10, 11]⟩] (some [(0, 5), (1, 5), (2, 5), (3, 5), (4, 5), (0, 6), (1, 6), (2, 6), (3, 6), (4, 6), (0, 7), (1, 7), (2, 7), (3, 7), (4, 7), (0, 8), (1, 8), (2, 8), (3, 8), (4, 8), (0, 9), (1, 9), (2, 9), (3, 9), (4, 9), (0, 11), (1, 11), (2, 11), (3, 11), (4, 11), (5, 11), (6, 11), (7, 11), (8, 11), (9, 11), (10, 11)])
/-- (*strings.Builder).Grow -/
def B57 : ACode := (.seq (.region [⟨(some 4), (.mov (.t 0)), none, []⟩,
    ⟨(some 5), (.call (.f 86) [(.t 4)]), none, []⟩] none)
  (.seq (.seq (.region [⟨(some 6), (.mov (.t 1)), none, []⟩,
    ⟨(some 7), (.bin .lss (.t 6) (.c (.int .i64 0))), none, []⟩] none)
  (.cond (.t 7)
  (.region [⟨(some 8), (.makeIface 9 (.c (.string ⟨#[115, 116, 114, 105, 110, 103, 115, 46, 66, 117, 105, 108, 100, 101, 114, 46, 71, 114, 111, 119, 58, 32, 110, 101, 103, 97, 116, 105, 118, 101, 32, 99, 111, 117, 110, 116]⟩))), none, []⟩,
    ⟨none, .fail, none, []⟩] none)
  .skip))
  (.seq R57_0
  (.cond (.t 21)
  (.region [⟨(some 22), (.mov (.t 0)), none, []⟩,
    ⟨(some 23), (.mov (.t 1)), none, []⟩,
    ⟨(some 24), (.call (.f 87) [(.t 22), (.t 23)]), none, []⟩] none)
  .skip))))
def F57 : AFunc := ⟨2, 25, [], B57⟩
/-- (*strings.Builder).WriteString -/
def B58 : ACode := (.seq (.region [⟨(some 4), (.mov (.c (.int .i64 0))), none, []⟩,
    ⟨(some 5), (.mov (.c .nilIface)), none, []⟩] none)
  (.seq (.region [⟨(some 6), (.mov (.t 0)), none, []⟩,
    ⟨(some 7), (.call (.f 86) [(.t 6)]), none, []⟩] none)
  (.seq (.region [⟨(some 8), (.mov (.t 0)), none, []⟩,
    ⟨(some 9), (.mov (.t 0)), none, []⟩,
    ⟨(some 10), (.nilCheck (.t 9)), none, []⟩,
    ⟨(some 11), (.fieldAddr 1 (.t 10)), none, []⟩,
    ⟨(some 12), (.load none (.t 11)), none, []⟩,
    ⟨(some 13), (.mov (.t 1)), none, []⟩,
    ⟨(some 14), (.append 5 1 1 (.t 12) (.t 13)), none, []⟩,
    ⟨(some 15), (.nilCheck (.t 8)), none, []⟩,
    ⟨(some 16), (.fieldAddr 1 (.t 15)), none, []⟩,
    ⟨none, (.store 1 (.t 16) (.t 14)), none, []⟩] none)
  (.seq (.region [⟨(some 17), (.mov (.t 1)), none, []⟩,
    ⟨(some 18), (.lenStr (.t 17)), none, []⟩,
    ⟨(some 4), (.mov (.t 18)), none, []⟩,
    ⟨(some 5), (.mov (.c .nilIface)), none, []⟩] none)
  .ret))))
def F58 : AFunc := ⟨2, 19, [(.tmp 4), (.tmp 5)], B58⟩
def R60_0 : ACode := .region [⟨(some 3), (.mov (.t 0)), none, []⟩,
    ⟨(some 4), (.nilCheck (.t 3)), none, [0]⟩,
    ⟨(some 5), (.fieldAddr 1 (.t 4)), none, [1]⟩,
    ⟨(some 6), (.load none (.t 5)), none, [2]⟩,
    ⟨(some 7), (.sliceData (.t 6)), none, [3]⟩,
    ⟨(some 8), (.mov (.t 0)), none, []⟩,
    ⟨(some 9), (.nilCheck (.t 8)), none, [5]⟩,
    ⟨(some 10), (.fieldAddr 1 (.t 9)), none, [6]⟩,
    ⟨(some 11), (.load none (.t 10)), none, [7]⟩,
    ⟨(some 12), (.lenSlice (.t 11)), none, [8]⟩,
    ⟨(some 13), (.unsafeString 5 (.t 7) (.t 12)), none, [4, 9]⟩,
    ⟨(some 2), (.mov (.t 13)), none, [10, 0, 1, 2, 3, 4, 5, 6, 7, 8, 9, 10]⟩] (some [(0, 5), (1, 5), (2, 5), (3, 5), (4, 5), (0, 6), (1, 6), (2, 6), (3, 6), (4, 6), (0, 7), (1, 7), (2, 7), (3, 7), (4, 7), (0, 8), (1, 8), (2, 8), (3, 8), (4, 8), (0, 9), (1, 9), (2, 9), (3, 9), (4, 9)])
/-- (*strings.Builder).String -/
def B60 : ACode := (.seq (.region [⟨(some 2), (.mov (.c (.string ⟨#[]⟩))), none, []⟩] none)
  (.seq R60_0
  .ret))
def F60 : AFunc := ⟨1, 14, [(.tmp 2)], B60⟩
/-- (*toll/words.Row).Name$1 -/
def B61 : ACode := (.seq (.region [⟨(some 2), (.mov (.c (.bool false))), none, []⟩] none)
  (.seq (.region [⟨(some 3), (.mov (.t 0)), none, []⟩,
    ⟨(some 4), (.call (.f 62) [(.t 3)]), none, []⟩,
    ⟨(some 5), (.un .not (.t 4)), none, []⟩,
    ⟨(some 6), (.mov (.t 5)), none, []⟩,
    ⟨(some 7), (.mov (.t 0)), (some (6, true)), []⟩,
    ⟨(some 8), (.call (.f 63) [(.c (.string ⟨#[48, 49, 50, 51, 52, 53, 54, 55, 56, 57, 45, 95]⟩)), (.t 7)]), (some (6, true)), []⟩,
    ⟨(some 9), (.bin .lss (.t 8) (.c (.int .i64 0))), (some (6, true)), []⟩,
    ⟨(some 10), (.pick (.t 6) (.t 9) (.c (.bool false))), none, []⟩,
    ⟨(some 2), (.mov (.t 10)), none, []⟩] none)
  .ret))
def F61 : AFunc := ⟨1, 11, [(.tmp 2)], B61⟩
/-- toll/words.letter -/
def B62 : ACode := (.seq (.region [⟨(some 2), (.mov (.c (.bool false))), none, []⟩] none)
  (.seq (.region [⟨(some 3), (.mov (.t 0)), none, []⟩,
    ⟨(some 4), (.bin .or (.t 3) (.c (.int .u8 32))), none, []⟩,
    ⟨(some 5), (.bin .geq (.t 4) (.c (.int .u8 97))), none, []⟩,
    ⟨(some 6), (.mov (.t 5)), none, []⟩,
    ⟨(some 7), (.mov (.t 0)), (some (6, true)), []⟩,
    ⟨(some 8), (.bin .or (.t 7) (.c (.int .u8 32))), (some (6, true)), []⟩,
    ⟨(some 9), (.bin .leq (.t 8) (.c (.int .u8 122))), (some (6, true)), []⟩,
    ⟨(some 10), (.pick (.t 6) (.t 9) (.c (.bool false))), none, []⟩,
    ⟨(some 2), (.mov (.t 10)), none, []⟩] none)
  .ret))
def F62 : AFunc := ⟨1, 11, [(.tmp 2)], B62⟩
/-- strings.IndexByte -/
def B63 : ACode := (.seq (.region [⟨(some 4), (.mov (.c (.int .i64 0))), none, []⟩] none)
  (.seq (.region [⟨(some 5), (.mov (.t 0)), none, []⟩,
    ⟨(some 6), (.mov (.t 1)), none, []⟩,
    ⟨(some 7), (.call (.f 88) [(.t 5), (.t 6)]), none, []⟩,
    ⟨(some 4), (.mov (.t 7)), none, []⟩] none)
  .ret))
def F63 : AFunc := ⟨2, 8, [(.tmp 4)], B63⟩
/-- toll/words.ip -/
def F64L0 : ACode := (.seq (.region [⟨(some 19), (.bin .lss (.t 18) (.t 17)), none, []⟩] none)
  (.seq (.cond (.t 19)
  .skip
  (.exit 0))
  (.seq (.block 1 (.seq (.region [⟨(some 20), (.indexAddr 1 (.t 16) (.t 18)), none, []⟩,
    ⟨(some 21), (.load none (.t 20)), none, []⟩,
    ⟨(some 8), (.mov (.t 21)), none, []⟩] none)
  (.seq (.region [⟨(some 23), (.mov (.t 8)), none, []⟩,
    ⟨(some 24), (.call (.f 52) [(.t 23)]), none, []⟩,
    ⟨(some 22), (.mov (.t 24)), none, []⟩,
    ⟨(some 25), (.extract (.t 22) 0), none, []⟩,
    ⟨(some 26), (.extract (.t 22) 1), none, []⟩,
    ⟨(some 9), (.mov (.t 25)), none, []⟩,
    ⟨(some 10), (.mov (.t 26)), none, []⟩] none)
  (.seq (.block 2 (.seq (.region [⟨(some 28), (.mov (.t 10)), none, []⟩,
    ⟨(some 29), (.un .not (.t 28)), none, []⟩,
    ⟨(some 27), (.mov (.t 29)), none, []⟩] none)
  (.cond (.t 27)
  (.seq (.region [⟨(some 2), (.mov (.c (.int .u32 0))), none, []⟩,
    ⟨(some 3), (.mov (.c (.int .i64 5))), none, []⟩] none)
  .ret)
  (.seq (.region [⟨(some 31), (.mov (.t 9)), none, []⟩,
    ⟨(some 32), (.bin .gtr (.t 31) (.c (.int .i64 255))), none, []⟩,
    ⟨(some 30), (.mov (.t 32)), none, []⟩] none)
  (.cond (.t 30)
  (.region [⟨(some 6), (.mov (.c (.int .i64 24))), none, []⟩] none)
  .skip)))))
  (.region [⟨(some 33), (.mov (.t 5)), none, []⟩,
    ⟨(some 34), (.bin .shl (.t 33) (.c (.int .u64 8))), none, []⟩,
    ⟨(some 35), (.mov (.t 9)), none, []⟩,
    ⟨(some 36), (.bin .and (.t 35) (.c (.int .i64 255))), none, []⟩,
    ⟨(some 37), (.conv .u32 (.t 36)), none, []⟩,
    ⟨(some 38), (.bin .or (.t 34) (.t 37)), none, []⟩,
    ⟨(some 5), (.mov (.t 38)), none, []⟩] none)))))
  (.region [⟨(some 39), (.bin .add (.t 18) (.c (.int .i64 1))), none, []⟩,
    ⟨(some 18), (.mov (.t 39)), none, []⟩] none))))
def B64 : ACode := (.seq (.region [⟨(some 2), (.mov (.c (.int .u32 0))), none, []⟩,
    ⟨(some 3), (.mov (.c (.int .i64 0))), none, []⟩] none)
  (.seq (.region [⟨(some 11), (.mov (.t 0)), none, []⟩,
    ⟨(some 12), (.call (.f 89) [(.t 11), (.c (.string ⟨#[46]⟩))]), none, []⟩,
    ⟨(some 4), (.mov (.t 12)), none, []⟩] none)
  (.seq (.seq (.region [⟨(some 13), (.mov (.t 4)), none, []⟩,
    ⟨(some 14), (.lenSlice (.t 13)), none, []⟩,
    ⟨(some 15), (.bin .neq (.t 14) (.c (.int .i64 4))), none, []⟩] none)
  (.cond (.t 15)
  (.seq (.region [⟨(some 2), (.mov (.c (.int .u32 0))), none, []⟩,
    ⟨(some 3), (.mov (.c (.int .i64 5))), none, []⟩] none)
  .ret)
  .skip))
  (.seq (.region [⟨(some 5), (.mov (.c (.int .u32 0))), none, []⟩,
    ⟨(some 6), (.mov (.c (.int .i64 0))), none, []⟩] none)
  (.seq (.seq (.region [⟨(some 16), (.mov (.t 4)), none, []⟩,
    ⟨(some 17), (.lenSlice (.t 16)), none, []⟩,
    ⟨(some 18), (.mov (.c (.int .i64 0))), none, []⟩] none)
  (.block 0 (.loop F64L0)))
  (.seq (.region [⟨(some 40), (.mov (.t 5)), none, []⟩,
    ⟨(some 41), (.mov (.t 6)), none, []⟩,
    ⟨(some 2), (.mov (.t 40)), none, []⟩,
    ⟨(some 3), (.mov (.t 41)), none, []⟩] none)
  .ret))))))
def F64 : AFunc := ⟨1, 42, [(.tmp 2), (.tmp 3)], B64⟩
-- F64L0 live: [5, 6, 16, 17, 18]
/-- toll/rate.Parse -/
def B76 : ACode := (.seq (.region [⟨(some 2), (.mov (.c (.float .f64 0))), none, []⟩,
    ⟨(some 3), (.mov (.c (.int .i64 0))), none, []⟩] none)
  (.seq (.seq (.region [⟨(some 9), (.mov (.t 0)), none, []⟩,
    ⟨(some 10), (.bin .eql (.t 9) (.c (.string ⟨#[105, 110, 102]⟩))), none, []⟩] none)
  (.cond (.t 10)
  (.seq (.region [⟨(some 11), (.call (.f 94) [(.c (.int .i64 1))]), none, []⟩,
    ⟨(some 2), (.mov (.t 11)), none, []⟩,
    ⟨(some 3), (.mov (.c (.int .i64 0))), none, []⟩] none)
  .ret)
  .skip))
  (.seq (.region [⟨(some 13), (.mov (.t 0)), none, []⟩,
    ⟨(some 14), (.call (.f 43) [(.t 13), (.c (.string ⟨#[46]⟩))]), none, []⟩,
    ⟨(some 12), (.mov (.t 14)), none, []⟩,
    ⟨(some 15), (.extract (.t 12) 0), none, []⟩,
    ⟨(some 16), (.extract (.t 12) 1), none, []⟩,
    ⟨(some 17), (.extract (.t 12) 2), none, []⟩,
    ⟨(some 4), (.mov (.t 15)), none, []⟩,
    ⟨(some 5), (.mov (.t 16)), none, []⟩,
    ⟨(some 6), (.mov (.t 17)), none, []⟩] none)
  (.seq (.seq (.region [⟨(some 18), (.mov (.t 4)), none, []⟩,
    ⟨(some 19), (.call (.f 95) [(.t 18)]), none, []⟩,
    ⟨(some 20), (.un .not (.t 19)), none, []⟩,
    ⟨(some 21), (.mov (.t 20)), none, []⟩,
    ⟨(some 22), (.mov (.t 6)), (some (21, false)), []⟩,
    ⟨(some 23), (.mov (.t 22)), (some (21, false)), []⟩,
    ⟨(some 24), (.mov (.t 5)), (some (23, true)), []⟩,
    ⟨(some 25), (.call (.f 95) [(.t 24)]), (some (23, true)), []⟩,
    ⟨(some 26), (.un .not (.t 25)), (some (23, true)), []⟩,
    ⟨(some 27), (.pick (.t 23) (.t 26) (.c (.bool false))), (some (21, false)), []⟩,
    ⟨(some 28), (.pick (.t 21) (.c (.bool true)) (.t 27)), none, []⟩] none)
  (.cond (.t 28)
  (.seq (.region [⟨(some 2), (.mov (.c (.float .f64 0))), none, []⟩,
    ⟨(some 3), (.mov (.c (.int .i64 5))), none, []⟩] none)
  .ret)
  .skip))
  (.seq (.region [⟨(some 30), (.mov (.t 0)), none, []⟩,
    ⟨(some 31), (.call (.f 96) [(.t 30), (.c (.int .i64 64))]), none, []⟩,
    ⟨(some 29), (.mov (.t 31)), none, []⟩,
    ⟨(some 32), (.extract (.t 29) 0), none, []⟩,
    ⟨(some 33), (.extract (.t 29) 1), none, []⟩,
    ⟨(some 7), (.mov (.t 32)), none, []⟩,
    ⟨(some 8), (.mov (.t 33)), none, []⟩] none)
  (.seq (.seq (.region [⟨(some 34), (.mov (.t 8)), none, []⟩,
    ⟨(some 35), (.eqv true .iface true (.t 34) (.c .nilIface)), none, []⟩,
    ⟨(some 36), (.mov (.t 35)), none, []⟩,
    ⟨(some 37), (.mov (.t 7)), (some (36, false)), []⟩,
    ⟨(some 38), (.call (.f 97) [(.t 37), (.c (.int .i64 0))]), (some (36, false)), []⟩,
    ⟨(some 39), (.pick (.t 36) (.c (.bool true)) (.t 38)), none, []⟩] none)
  (.cond (.t 39)
  (.seq (.region [⟨(some 2), (.mov (.c (.float .f64 0))), none, []⟩,
    ⟨(some 3), (.mov (.c (.int .i64 24))), none, []⟩] none)
  .ret)
  .skip))
  (.seq (.region [⟨(some 40), (.mov (.t 7)), none, []⟩,
    ⟨(some 2), (.mov (.t 40)), none, []⟩,
    ⟨(some 3), (.mov (.c (.int .i64 0))), none, []⟩] none)
  .ret)))))))
def F76 : AFunc := ⟨1, 41, [(.tmp 2), (.tmp 3)], B76⟩
/-- slices.IndexFunc[[]byte,byte] -/
def F77L0 : ACode := (.seq (.region [⟨(some 9), (.bin .lss (.t 8) (.t 7)), none, []⟩] none)
  (.seq (.cond (.t 9)
  .skip
  (.exit 0))
  (.seq (.block 1 (.seq (.region [⟨(some 10), (.mov (.t 8)), none, []⟩,
    ⟨(some 5), (.mov (.t 10)), none, []⟩] none)
  (.seq (.region [⟨(some 11), (.mov (.t 1)), none, []⟩,
    ⟨(some 12), (.mov (.t 0)), none, []⟩,
    ⟨(some 13), (.mov (.t 5)), none, []⟩,
    ⟨(some 14), (.indexAddr 1 (.t 12) (.t 13)), none, []⟩,
    ⟨(some 15), (.load none (.t 14)), none, []⟩,
    ⟨(some 16), (.call (.t 11) [(.t 15)]), none, []⟩] none)
  (.cond (.t 16)
  (.seq (.region [⟨(some 17), (.mov (.t 5)), none, []⟩,
    ⟨(some 4), (.mov (.t 17)), none, []⟩] none)
  .ret)
  .skip))))
  (.region [⟨(some 18), (.bin .add (.t 8) (.c (.int .i64 1))), none, []⟩,
    ⟨(some 8), (.mov (.t 18)), none, []⟩] none))))
def B77 : ACode := (.seq (.region [⟨(some 4), (.mov (.c (.int .i64 0))), none, []⟩] none)
  (.seq (.seq (.region [⟨(some 6), (.mov (.t 0)), none, []⟩,
    ⟨(some 7), (.lenSlice (.t 6)), none, []⟩,
    ⟨(some 8), (.mov (.c (.int .i64 0))), none, []⟩] none)
  (.block 0 (.loop F77L0)))
  (.seq (.region [⟨(some 4), (.mov (.c (.int .i64 (-1)))), none, []⟩] none)
  .ret)))
def F77 : AFunc := ⟨2, 19, [(.tmp 4)], B77⟩
-- F77L0 live: [0, 1, 7, 8]
def R78_0 : ACode := .region [⟨(some 13), (.mov (.t 0)), none, []⟩,
    ⟨(some 14), (.mov (.t 7)), none, []⟩,
    ⟨(some 15), (.sliceStr (.t 13) none (some (.t 14))), none, [0, 1]⟩,
    ⟨(some 16), (.mov (.t 0)), none, []⟩,
    ⟨(some 17), (.mov (.t 7)), none, []⟩,
    ⟨(some 18), (.mov (.t 1)), none, []⟩,
    ⟨(some 19), (.lenStr (.t 18)), none, [5]⟩,
    ⟨(some 20), (.bin .add (.t 17) (.t 19)), none, [4, 6]⟩,
    ⟨(some 21), (.sliceStr (.t 16) (some (.t 20)) none), none, [3, 7]⟩,
    ⟨(some 4), (.mov (.t 15)), none, [2, 0, 1, 2]⟩,
    ⟨(some 5), (.mov (.t 21)), none, [8, 9, 0, 1, 2, 3, 4, 5, 6, 7, 8, 9]⟩,
    ⟨(some 6), (.mov (.c (.bool true))), none, [10, 0, 1, 2, 3, 4, 5, 6, 7, 8, 9, 10]⟩] (some [(0, 1), (0, 3), (1, 3), (2, 3), (0, 4), (1, 4), (2, 4), (3, 4), (0, 5), (1, 5), (2, 5), (3, 5), (4, 5), (0, 6), (1, 6), (2, 6), (3, 6), (4, 6), (0, 7), (1, 7), (2, 7), (3, 7), (0, 8), (1, 8), (2, 8), (3, 9), (4, 9), (5, 9), (6, 9), (7, 9), (8, 9)])
/-- internal/stringslite.Cut -/
def B78 : ACode := (.seq (.region [⟨(some 4), (.mov (.c (.string ⟨#[]⟩))), none, []⟩,
    ⟨(some 5), (.mov (.c (.string ⟨#[]⟩))), none, []⟩,
    ⟨(some 6), (.mov (.c (.bool false))), none, []⟩] none)
  (.seq (.seq (.region [⟨(some 8), (.mov (.t 0)), none, []⟩,
    ⟨(some 9), (.mov (.t 1)), none, []⟩,
    ⟨(some 10), (.call (.f 98) [(.t 8), (.t 9)]), none, []⟩,
    ⟨(some 7), (.mov (.t 10)), none, []⟩] none)
  (.seq (.region [⟨(some 11), (.mov (.t 7)), none, []⟩,
    ⟨(some 12), (.bin .geq (.t 11) (.c (.int .i64 0))), none, []⟩] none)
  (.cond (.t 12)
  (.seq R78_0
  .ret)
  .skip)))
  (.seq (.region [⟨(some 22), (.mov (.t 0)), none, []⟩,
    ⟨(some 4), (.mov (.t 22)), none, []⟩,
    ⟨(some 5), (.mov (.c (.string ⟨#[]⟩))), none, []⟩,
    ⟨(some 6), (.mov (.c (.bool false))), none, []⟩] none)
  .ret)))
def F78 : AFunc := ⟨2, 23, [(.tmp 4), (.tmp 5), (.tmp 6)], B78⟩
/-- strings.IndexRune -/
def F79L0 : ACode := (.seq (.region [⟨(some 176), (.nextStr (.t 175)), none, []⟩,
    ⟨(some 177), (.extract (.t 176) 0), none, []⟩] none)
  (.seq (.cond (.t 177)
  .skip
  (.exit 9))
  (.block 10 (.seq (.region [⟨(some 178), (.extract (.t 176) 1), none, []⟩,
    ⟨(some 179), (.extract (.t 176) 2), none, []⟩,
    ⟨(some 5), (.mov (.t 178)), none, []⟩,
    ⟨(some 6), (.mov (.t 179)), none, []⟩] none)
  (.seq (.region [⟨(some 180), (.mov (.t 6)), none, []⟩,
    ⟨(some 181), (.bin .eql (.t 180) (.c (.int .i32 65533))), none, []⟩] none)
  (.cond (.t 181)
  (.seq (.region [⟨(some 182), (.mov (.t 5)), none, []⟩,
    ⟨(some 4), (.mov (.t 182)), none, []⟩] none)
  .ret)
  .skip))))))
def B79 : ACode := (.seq (.region [⟨(some 4), (.mov (.c (.int .i64 0))), none, []⟩] none)
  (.block 0 (.seq (.region [⟨(some 161), (.mov (.t 1)), none, []⟩,
    ⟨(some 162), (.bin .leq (.c (.int .i32 0)) (.t 161)), none, []⟩,
    ⟨(some 163), (.mov (.t 162)), none, []⟩,
    ⟨(some 164), (.mov (.t 1)), (some (163, true)), []⟩,
    ⟨(some 165), (.bin .lss (.t 164) (.c (.int .i32 128))), (some (163, true)), []⟩,
    ⟨(some 166), (.pick (.t 163) (.t 165) (.c (.bool false))), none, []⟩,
    ⟨(some 160), (.mov (.t 166)), none, []⟩] none)
  (.cond (.t 160)
  (.seq (.region [⟨(some 167), (.mov (.t 0)), none, []⟩,
    ⟨(some 168), (.mov (.t 1)), none, []⟩,
    ⟨(some 169), (.conv .u8 (.t 168)), none, []⟩,
    ⟨(some 170), (.call (.f 63) [(.t 167), (.t 169)]), none, []⟩,
    ⟨(some 4), (.mov (.t 170)), none, []⟩] none)
  .ret)
  (.seq (.region [⟨(some 172), (.mov (.t 1)), none, []⟩,
    ⟨(some 173), (.bin .eql (.t 172) (.c (.int .i32 65533))), none, []⟩,
    ⟨(some 171), (.mov (.t 173)), none, []⟩] none)
  (.cond (.t 171)
  (.seq (.seq (.region [⟨(some 174), (.mov (.t 0)), none, []⟩,
    ⟨(some 175), (.rangeStr (.t 174)), none, []⟩] none)
  (.block 9 (.loop F79L0)))
  (.seq (.region [⟨(some 4), (.mov (.c (.int .i64 (-1)))), none, []⟩] none)
  .ret))
  (.seq (.region [⟨(some 184), (.mov (.t 1)), none, []⟩,
    ⟨(some 185), (.call (.f 99) [(.t 184)]), none, []⟩,
    ⟨(some 186), (.un .not (.t 185)), none, []⟩,
    ⟨(some 183), (.mov (.t 186)), none, []⟩] none)
  (.cond (.t 183)
  (.seq (.region [⟨(some 4), (.mov (.c (.int .i64 (-1)))), none, []⟩] none)
  .ret)
  .fail))))))))
def F79 : AFunc := ⟨2, 187, [(.tmp 4)], B79⟩
-- F79L0 live: [175]
/-- internal/strconv.Itoa -/
def B80 : ACode := (.seq (.region [⟨(some 2), (.mov (.c (.string ⟨#[]⟩))), none, []⟩] none)
  (.seq (.region [⟨(some 3), (.mov (.t 0)), none, []⟩,
    ⟨(some 4), (.call (.f 102) [(.t 3), (.c (.int .i64 10))]), none, []⟩,
    ⟨(some 2), (.mov (.t 4)), none, []⟩] none)
  .ret))
def F80 : AFunc := ⟨1, 5, [(.tmp 2)], B80⟩
def R81_0 : ACode := .region [⟨(some 22), (.mov (.t 0)), none, []⟩,
    ⟨(some 23), (.mov (.t 1)), none, []⟩,
    ⟨(some 24), (.indexStr (.t 23) (.c (.int .i64 0))), none, [1]⟩,
    ⟨(some 25), (.call (.f 104) [(.t 22), (.t 24)]), none, [0, 2]⟩,
    ⟨(some 26), (.mov (.t 1)), none, []⟩,
    ⟨(some 27), (.indexStr (.t 26) (.c (.int .i64 0))), none, [4]⟩,
    ⟨(some 28), (.call (.f 103) [(.t 25), (.t 27)]), none, [3, 5, 3]⟩,
    ⟨(some 4), (.mov (.t 28)), none, [6, 6, 0, 1, 2, 3, 4, 5, 6]⟩] (some [(0, 1), (0, 2), (0, 4), (1, 4), (2, 4), (3, 4), (0, 5), (1, 5), (2, 5), (3, 5)])
/-- strings.Trim -/
def B81 : ACode := (.seq (.region [⟨(some 4), (.mov (.c (.string ⟨#[]⟩))), none, []⟩] none)
  (.seq (.seq (.region [⟨(some 7), (.mov (.t 0)), none, []⟩,
    ⟨(some 8), (.bin .eql (.t 7) (.c (.string ⟨#[]⟩))), none, []⟩,
    ⟨(some 9), (.mov (.t 8)), none, []⟩,
    ⟨(some 10), (.mov (.t 1)), (some (9, false)), []⟩,
    ⟨(some 11), (.bin .eql (.t 10) (.c (.string ⟨#[]⟩))), (some (9, false)), []⟩,
    ⟨(some 12), (.pick (.t 9) (.c (.bool true)) (.t 11)), none, []⟩] none)
  (.cond (.t 12)
  (.seq (.region [⟨(some 13), (.mov (.t 0)), none, []⟩,
    ⟨(some 4), (.mov (.t 13)), none, []⟩] none)
  .ret)
  .skip))
  (.seq (.seq (.region [⟨(some 14), (.mov (.t 1)), none, []⟩,
    ⟨(some 15), (.lenStr (.t 14)), none, []⟩,
    ⟨(some 16), (.bin .eql (.t 15) (.c (.int .i64 1))), none, []⟩,
    ⟨(some 17), (.mov (.t 16)), none, []⟩,
    ⟨(some 18), (.mov (.t 1)), (some (17, true)), []⟩,
    ⟨(some 19), (.indexStr (.t 18) (.c (.int .i64 0))), (some (17, true)), []⟩,
    ⟨(some 20), (.bin .lss (.t 19) (.c (.int .u8 128))), (some (17, true)), []⟩,
    ⟨(some 21), (.pick (.t 17) (.t 20) (.c (.bool false))), none, []⟩] none)
  (.cond (.t 21)
  (.seq R81_0
  .ret)
  .skip))
  (.seq (.seq (.region [⟨(some 30), (.mov (.t 1)), none, []⟩,
    ⟨(some 31), (.call (.f 105) [(.t 30)]), none, []⟩,
    ⟨(some 29), (.mov (.t 31)), none, []⟩,
    ⟨(some 32), (.extract (.t 29) 0), none, []⟩,
    ⟨(some 33), (.extract (.t 29) 1), none, []⟩,
    ⟨(some 5), (.alloc 134 [(.bool false), (.bool false), (.bool false), (.bool false), (.bool false), (.bool false), (.bool false), (.bool false), (.bool false), (.bool false), (.bool false), (.bool false), (.bool false), (.bool false), (.bool false), (.bool false), (.bool false), (.bool false), (.bool false), (.bool false), (.bool false), (.bool false), (.bool false), (.bool false), (.bool false), (.bool false), (.bool false), (.bool false), (.bool false), (.bool false), (.bool false), (.bool false), (.bool false), (.bool false), (.bool false), (.bool false), (.bool false), (.bool false), (.bool false), (.bool false), (.bool false), (.bool false), (.bool false), (.bool false), (.bool false), (.bool false), (.bool false), (.bool false), (.bool false), (.bool false), (.bool false), (.bool false), (.bool false), (.bool false), (.bool false), (.bool false), (.bool false), (.bool false), (.bool false), (.bool false), (.bool false), (.bool false), (.bool false), (.bool false), (.bool false), (.bool false), (.bool false), (.bool false), (.bool false), (.bool false), (.bool false), (.bool false), (.bool false), (.bool false), (.bool false), (.bool false), (.bool false), (.bool false), (.bool false), (.bool false), (.bool false), (.bool false), (.bool false), (.bool false), (.bool false), (.bool false), (.bool false), (.bool false), (.bool false), (.bool false), (.bool false), (.bool false), (.bool false), (.bool false), (.bool false), (.bool false), (.bool false), (.bool false), (.bool false), (.bool false), (.bool false), (.bool false), (.bool false), (.bool false), (.bool false), (.bool false), (.bool false), (.bool false), (.bool false), (.bool false), (.bool false), (.bool false), (.bool false), (.bool false), (.bool false), (.bool false), (.bool false), (.bool false), (.bool false), (.bool false), (.bool false), (.bool false), (.bool false), (.bool false), (.bool false), (.bool false), (.bool false), (.bool false), (.bool false), (.bool false), (.bool false), (.bool false), (.bool false), (.bool false), (.bool false), (.bool false), (.bool false), (.bool false), (.bool false), (.bool false), (.bool false), (.bool false), (.bool false), (.bool false), (.bool false), (.bool false), (.bool false), (.bool false), (.bool false), (.bool false), (.bool false), (.bool false), (.bool false), (.bool false), (.bool false), (.bool false), (.bool false), (.bool false), (.bool false), (.bool false), (.bool false), (.bool false), (.bool false), (.bool false), (.bool false), (.bool false), (.bool false), (.bool false), (.bool false), (.bool false), (.bool false), (.bool false), (.bool false), (.bool false), (.bool false), (.bool false), (.bool false), (.bool false), (.bool false), (.bool false), (.bool false), (.bool false), (.bool false), (.bool false), (.bool false), (.bool false), (.bool false), (.bool false), (.bool false), (.bool false), (.bool false), (.bool false), (.bool false), (.bool false), (.bool false), (.bool false), (.bool false), (.bool false), (.bool false), (.bool false), (.bool false), (.bool false), (.bool false), (.bool false), (.bool false), (.bool false), (.bool false), (.bool false), (.bool false), (.bool false), (.bool false), (.bool false), (.bool false), (.bool false), (.bool false), (.bool false), (.bool false), (.bool false), (.bool false), (.bool false), (.bool false), (.bool false), (.bool false), (.bool false), (.bool false), (.bool false), (.bool false), (.bool false), (.bool false), (.bool false), (.bool false), (.bool false), (.bool false), (.bool false), (.bool false), (.bool false), (.bool false), (.bool false), (.bool false), (.bool false), (.bool false), (.bool false), (.bool false), (.bool false), (.bool false), (.bool false), (.bool false), (.bool false), (.bool false), (.bool false), (.bool false), (.bool false), (.bool false), (.bool false), (.bool false), (.bool false)]), none, []⟩,
    ⟨none, (.store 256 (.t 5) (.t 32)), none, []⟩,
    ⟨(some 6), (.mov (.t 33)), none, []⟩] none)
  (.seq (.region [⟨(some 34), (.mov (.t 6)), none, []⟩] none)
  (.cond (.t 34)
  (.seq (.region [⟨(some 35), (.mov (.t 0)), none, []⟩,
    ⟨(some 36), (.call (.f 107) [(.t 35), (.t 5)]), none, []⟩,
    ⟨(some 37), (.call (.f 106) [(.t 36), (.t 5)]), none, []⟩,
    ⟨(some 4), (.mov (.t 37)), none, []⟩] none)
  .ret)
  .skip)))
  (.seq (.region [⟨(some 38), (.mov (.t 0)), none, []⟩,
    ⟨(some 39), (.mov (.t 1)), none, []⟩,
    ⟨(some 40), (.call (.f 109) [(.t 38), (.t 39)]), none, []⟩,
    ⟨(some 41), (.mov (.t 1)), none, []⟩,
    ⟨(some 42), (.call (.f 108) [(.t 40), (.t 41)]), none, []⟩,
    ⟨(some 4), (.mov (.t 42)), none, []⟩] none)
  .ret)))))
def F81 : AFunc := ⟨2, 43, [(.tmp 4)], B81⟩
/-- strconv.Atoi -/
def B82 : ACode := (.seq (.region [⟨(some 2), (.mov (.c (.int .i64 0))), none, []⟩,
    ⟨(some 3), (.mov (.c .nilIface)), none, []⟩] none)
  (.seq (.region [⟨(some 7), (.mov (.t 0)), none, []⟩,
    ⟨(some 8), (.call (.f 110) [(.t 7)]), none, []⟩,
    ⟨(some 6), (.mov (.t 8)), none, []⟩,
    ⟨(some 9), (.extract (.t 6) 0), none, []⟩,
    ⟨(some 10), (.extract (.t 6) 1), none, []⟩,
    ⟨(some 4), (.mov (.t 9)), none, []⟩,
    ⟨(some 5), (.mov (.t 10)), none, []⟩] none)
  (.seq (.seq (.region [⟨(some 11), (.mov (.t 5)), none, []⟩,
    ⟨(some 12), (.eqv true .iface true (.t 11) (.c .nilIface)), none, []⟩] none)
  (.cond (.t 12)
  (.seq (.region [⟨(some 13), (.mov (.t 4)), none, []⟩,
    ⟨(some 14), (.mov (.t 0)), none, []⟩,
    ⟨(some 15), (.mov (.t 5)), none, []⟩,
    ⟨(some 16), (.call (.f 111) [(.c (.string ⟨#[65, 116, 111, 105]⟩)), (.t 14), (.c (.int .i64 0)), (.c (.int .i64 0)), (.t 15)]), none, []⟩,
    ⟨(some 2), (.mov (.t 13)), none, []⟩,
    ⟨(some 3), (.mov (.t 16)), none, []⟩] none)
  .ret)
  .skip))
  (.seq (.region [⟨(some 17), (.mov (.t 4)), none, []⟩,
    ⟨(some 2), (.mov (.t 17)), none, []⟩,
    ⟨(some 3), (.mov (.c .nilIface)), none, []⟩] none)
  .ret))))
def F82 : AFunc := ⟨1, 18, [(.tmp 2), (.tmp 3)], B82⟩
/-- (*strings.Builder).copyCheck -/
def B86 : ACode := (.seq (.region [⟨(some 2), (.mov (.t 0)), none, []⟩,
    ⟨(some 3), (.nilCheck (.t 2)), none, []⟩,
    ⟨(some 4), (.fieldAddr 0 (.t 3)), none, []⟩,
    ⟨(some 5), (.load none (.t 4)), none, []⟩,
    ⟨(some 6), (.eqv false .ptr false (.t 5) (.c (.pointer none))), none, []⟩] none)
  (.cond (.t 6)
  (.region [⟨(some 7), (.mov (.t 0)), none, []⟩,
    ⟨(some 8), (.mov (.t 0)), none, []⟩,
    ⟨(some 9), (.toUnsafe (.t 8)), none, []⟩,
    ⟨(some 10), (.call (.f 112) [(.t 9)]), none, []⟩,
    ⟨(some 11), (.fromUnsafe 91 2 (.t 10)), none, []⟩,
    ⟨(some 12), (.nilCheck (.t 7)), none, []⟩,
    ⟨(some 13), (.fieldAddr 0 (.t 12)), none, []⟩,
    ⟨none, (.store 1 (.t 13) (.t 11)), none, []⟩] none)
  (.seq (.region [⟨(some 14), (.mov (.t 0)), none, []⟩,
    ⟨(some 15), (.nilCheck (.t 14)), none, []⟩,
    ⟨(some 16), (.fieldAddr 0 (.t 15)), none, []⟩,
    ⟨(some 17), (.load none (.t 16)), none, []⟩,
    ⟨(some 18), (.mov (.t 0)), none, []⟩,
    ⟨(some 19), (.eqv true .ptr false (.t 17) (.t 18)), none, []⟩] none)
  (.cond (.t 19)
  .fail
  .skip))))
def F86 : AFunc := ⟨1, 20, [], B86⟩
def R87_0 : ACode := .region [⟨(some 5), (.mov (.t 0)), none, []⟩,
    ⟨(some 6), (.nilCheck (.t 5)), none, [0]⟩,
    ⟨(some 7), (.fieldAddr 1 (.t 6)), none, [1]⟩,
    ⟨(some 8), (.load none (.t 7)), none, [2]⟩,
    ⟨(some 9), (.cap (.t 8)), none, [3]⟩,
    ⟨(some 10), (.bin .mul (.c (.int .i64 2)) (.t 9)), none, [4]⟩,
    ⟨(some 11), (.mov (.t 1)), none, []⟩,
    ⟨(some 12), (.bin .add (.t 10) (.t 11)), none, [5, 6]⟩,
    ⟨(some 13), (.call (.f 113) [(.t 12)]), none, [7]⟩,
    ⟨(some 14), (.mov (.t 0)), none, []⟩,
    ⟨(some 15), (.nilCheck (.t 14)), none, [9]⟩,
    ⟨(some 16), (.fieldAddr 1 (.t 15)), none, [10]⟩,
    ⟨(some 17), (.load none (.t 16)), none, [11]⟩,
    ⟨(some 18), (.lenSlice (.t 17)), none, [12]⟩,
    ⟨(some 19), (.slice 1 (.t 13) none (some (.t 18)) none), none, [8, 13]⟩,
    ⟨(some 4), (.mov (.t 19)), none, [14, 8, 0, 1, 2, 3, 4, 5, 6, 7, 8, 9, 10, 11, 12, 13, 14]⟩] (some [(0, 6), (1, 6), (2, 6), (3, 6), (4, 6), (5, 6), (0, 9), (1, 9), (2, 9), (3, 9), (4, 9), (5, 9), (6, 9), (7, 9), (8, 9), (0, 10), (1, 10), (2, 10), (3, 10), (4, 10), (5, 10), (6, 10), (7, 10), (8, 10), (0, 11), (1, 11), (2, 11), (3, 11), (4, 11), (5, 11), (6, 11), (7, 11), (8, 11), (0, 12), (1, 12), (2, 12), (3, 12), (4, 12), (5, 12), (6, 12), (7, 12), (8, 12), (0, 13), (1, 13), (2, 13), (3, 13), (4, 13), (5, 13), (6, 13), (7, 13), (8, 13)])
/-- (*strings.Builder).grow -/
def B87 : ACode := (.seq R87_0
  (.seq (.region [⟨(some 20), (.mov (.t 4)), none, []⟩,
    ⟨(some 21), (.mov (.t 0)), none, []⟩,
    ⟨(some 22), (.nilCheck (.t 21)), none, []⟩,
    ⟨(some 23), (.fieldAddr 1 (.t 22)), none, []⟩,
    ⟨(some 24), (.load none (.t 23)), none, []⟩,
    ⟨(some 25), (.copy 1 (.t 20) (.t 24)), none, []⟩] none)
  (.region [⟨(some 26), (.mov (.t 0)), none, []⟩,
    ⟨(some 27), (.mov (.t 4)), none, []⟩,
    ⟨(some 28), (.nilCheck (.t 26)), none, []⟩,
    ⟨(some 29), (.fieldAddr 1 (.t 28)), none, []⟩,
    ⟨none, (.store 1 (.t 29) (.t 27)), none, []⟩] none)))
def F87 : AFunc := ⟨2, 30, [], B87⟩
/-- internal/stringslite.IndexByte -/
def B88 : ACode := (.seq (.region [⟨(some 4), (.mov (.c (.int .i64 0))), none, []⟩] none)
  (.seq (.region [⟨(some 5), (.mov (.t 0)), none, []⟩,
    ⟨(some 6), (.mov (.t 1)), none, []⟩,
    ⟨(some 7), (.call (.f 114) [(.t 5), (.t 6)]), none, []⟩,
    ⟨(some 4), (.mov (.t 7)), none, []⟩] none)
  .ret))
def F88 : AFunc := ⟨2, 8, [(.tmp 4)], B88⟩
/-- strings.Split -/
def B89 : ACode := (.seq (.region [⟨(some 4), (.mov (.c (.slice none 0 0))), none, []⟩] none)
  (.seq (.region [⟨(some 5), (.mov (.t 0)), none, []⟩,
    ⟨(some 6), (.mov (.t 1)), none, []⟩,
    ⟨(some 7), (.call (.f 115) [(.t 5), (.t 6), (.c (.int .i64 0)), (.c (.int .i64 (-1)))]), none, []⟩,
    ⟨(some 4), (.mov (.t 7)), none, []⟩] none)
  .ret))
def F89 : AFunc := ⟨2, 8, [(.tmp 4)], B89⟩
/-- math.Inf -/
def B94 : ACode := (.seq (.region [⟨(some 2), (.mov (.c (.float .f64 0))), none, []⟩] none)
  (.seq (.region [⟨(some 3), (.mov (.c (.int .u64 0))), none, []⟩] none)
  (.seq (.seq (.region [⟨(some 4), (.mov (.t 0)), none, []⟩,
    ⟨(some 5), (.bin .geq (.t 4) (.c (.int .i64 0))), none, []⟩] none)
  (.cond (.t 5)
  (.region [⟨(some 3), (.mov (.c (.int .u64 9218868437227405312))), none, []⟩] none)
  (.region [⟨(some 3), (.mov (.c (.int .u64 18442240474082181120))), none, []⟩] none)))
  (.seq (.region [⟨(some 6), (.mov (.t 3)), none, []⟩,
    ⟨(some 7), (.call (.f 117) [(.t 6)]), none, []⟩,
    ⟨(some 2), (.mov (.t 7)), none, []⟩] none)
  .ret))))
def F94 : AFunc := ⟨1, 8, [(.tmp 2)], B94⟩
/-- toll/rate.row -/
def B95 : ACode := (.seq (.region [⟨(some 2), (.mov (.c (.bool false))), none, []⟩] none)
  (.seq (.region [⟨(some 3), (.mov (.t 0)), none, []⟩,
    ⟨(some 4), (.bin .neq (.t 3) (.c (.string ⟨#[]⟩))), none, []⟩,
    ⟨(some 5), (.mov (.t 4)), none, []⟩,
    ⟨(some 6), (.mov (.t 0)), (some (5, true)), []⟩,
    ⟨(some 7), (.lenStr (.t 6)), (some (5, true)), []⟩,
    ⟨(some 8), (.bin .leq (.t 7) (.c (.int .i64 400))), (some (5, true)), []⟩,
    ⟨(some 9), (.pick (.t 5) (.t 8) (.c (.bool false))), none, []⟩,
    ⟨(some 10), (.mov (.t 9)), none, []⟩,
    ⟨(some 11), (.mov (.t 0)), (some (10, true)), []⟩,
    ⟨(some 12), (.call (.f 81) [(.t 11), (.c (.string ⟨#[48, 49, 50, 51, 52, 53, 54, 55, 56, 57]⟩))]), (some (10, true)), []⟩,
    ⟨(some 13), (.bin .eql (.t 12) (.c (.string ⟨#[]⟩))), (some (10, true)), []⟩,
    ⟨(some 14), (.pick (.t 10) (.t 13) (.c (.bool false))), none, []⟩,
    ⟨(some 2), (.mov (.t 14)), none, []⟩] none)
  .ret))
def F95 : AFunc := ⟨1, 15, [(.tmp 2)], B95⟩
/-- math.IsInf -/
def B97 : ACode := (.seq (.region [⟨(some 4), (.mov (.c (.bool false))), none, []⟩] none)
  (.seq (.seq (.region [⟨(some 5), (.mov (.t 1)), none, []⟩,
    ⟨(some 6), (.bin .eql (.t 5) (.c (.int .i64 0))), none, []⟩] none)
  (.cond (.t 6)
  (.region [⟨(some 7), (.mov (.t 0)), none, []⟩,
    ⟨(some 8), (.call (.f 119) [(.t 7)]), none, []⟩,
    ⟨(some 0), (.mov (.t 8)), none, []⟩] none)
  (.seq (.region [⟨(some 9), (.mov (.t 1)), none, []⟩,
    ⟨(some 10), (.bin .lss (.t 9) (.c (.int .i64 0))), none, []⟩] none)
  (.cond (.t 10)
  (.region [⟨(some 11), (.mov (.t 0)), none, []⟩,
    ⟨(some 12), (.un .neg (.t 11)), none, []⟩,
    ⟨(some 0), (.mov (.t 12)), none, []⟩] none)
  .skip))))
  (.seq (.region [⟨(some 13), (.mov (.t 0)), none, []⟩,
    ⟨(some 14), (.bin .gtr (.t 13) (.c (.float .f64 9218868437227405311))), none, []⟩,
    ⟨(some 4), (.mov (.t 14)), none, []⟩] none)
  .ret)))
def F97 : AFunc := ⟨2, 15, [(.tmp 4)], B97⟩
/-- internal/stringslite.Index -/
def F98L0 : ACode := (.seq (.seq (.region [⟨(some 57), (.mov (.t 8)), none, []⟩,
    ⟨(some 58), (.mov (.t 9)), none, []⟩,
    ⟨(some 59), (.bin .lss (.t 57) (.t 58)), none, []⟩] none)
  (.cond (.t 59)
  .skip
  (.exit 1)))
  (.block 2 (.seq (.seq (.region [⟨(some 60), (.mov (.t 0)), none, []⟩,
    ⟨(some 61), (.mov (.t 8)), none, []⟩,
    ⟨(some 62), (.indexStr (.t 60) (.t 61)), none, []⟩,
    ⟨(some 63), (.mov (.t 6)), none, []⟩,
    ⟨(some 64), (.bin .neq (.t 62) (.t 63)), none, []⟩] none)
  (.cond (.t 64)
  (.seq (.region [⟨(some 65), (.mov (.t 0)), none, []⟩,
    ⟨(some 66), (.mov (.t 8)), none, []⟩,
    ⟨(some 67), (.bin .add (.t 66) (.c (.int .i64 1))), none, []⟩,
    ⟨(some 68), (.mov (.t 9)), none, []⟩,
    ⟨(some 69), (.sliceStr (.t 65) (some (.t 67)) (some (.t 68))), none, []⟩,
    ⟨(some 70), (.mov (.t 6)), none, []⟩,
    ⟨(some 71), (.call (.f 88) [(.t 69), (.t 70)]), none, []⟩,
    ⟨(some 11), (.mov (.t 71)), none, []⟩] none)
  (.seq (.seq (.region [⟨(some 72), (.mov (.t 11)), none, []⟩,
    ⟨(some 73), (.bin .lss (.t 72) (.c (.int .i64 0))), none, []⟩] none)
  (.cond (.t 73)
  (.seq (.region [⟨(some 4), (.mov (.c (.int .i64 (-1)))), none, []⟩] none)
  .ret)
  .skip))
  (.region [⟨(some 74), (.mov (.t 8)), none, []⟩,
    ⟨(some 75), (.mov (.t 11)), none, []⟩,
    ⟨(some 76), (.bin .add (.t 75) (.c (.int .i64 1))), none, []⟩,
    ⟨(some 77), (.bin .add (.t 74) (.t 76)), none, []⟩,
    ⟨(some 8), (.mov (.t 77)), none, []⟩] none)))
  .skip))
  (.seq (.seq (.region [⟨(some 78), (.mov (.t 0)), none, []⟩,
    ⟨(some 79), (.mov (.t 8)), none, []⟩,
    ⟨(some 80), (.bin .add (.t 79) (.c (.int .i64 1))), none, []⟩,
    ⟨(some 81), (.indexStr (.t 78) (.t 80)), none, []⟩,
    ⟨(some 82), (.mov (.t 7)), none, []⟩,
    ⟨(some 83), (.bin .eql (.t 81) (.t 82)), none, []⟩,
    ⟨(some 84), (.mov (.t 83)), none, []⟩,
    ⟨(some 85), (.mov (.t 0)), (some (84, true)), []⟩,
    ⟨(some 86), (.mov (.t 8)), (some (84, true)), []⟩,
    ⟨(some 87), (.mov (.t 8)), (some (84, true)), []⟩,
    ⟨(some 88), (.mov (.t 5)), (some (84, true)), []⟩,
    ⟨(some 89), (.bin .add (.t 87) (.t 88)), (some (84, true)), []⟩,
    ⟨(some 90), (.sliceStr (.t 85) (some (.t 86)) (some (.t 89))), (some (84, true)), []⟩,
    ⟨(some 91), (.mov (.t 1)), (some (84, true)), []⟩,
    ⟨(some 92), (.bin .eql (.t 90) (.t 91)), (some (84, true)), []⟩,
    ⟨(some 93), (.pick (.t 84) (.t 92) (.c (.bool false))), none, []⟩] none)
  (.cond (.t 93)
  (.seq (.region [⟨(some 94), (.mov (.t 8)), none, []⟩,
    ⟨(some 4), (.mov (.t 94)), none, []⟩] none)
  .ret)
  .skip))
  (.seq (.region [⟨(some 95), (.mov (.t 8)), none, []⟩,
    ⟨(some 96), (.bin .add (.t 95) (.c (.int .i64 1))), none, []⟩,
    ⟨(some 8), (.mov (.t 96)), none, []⟩] none)
  (.seq (.region [⟨(some 97), (.mov (.t 10)), none, []⟩,
    ⟨(some 98), (.bin .add (.t 97) (.c (.int .i64 1))), none, []⟩,
    ⟨(some 10), (.mov (.t 98)), none, []⟩] none)
  (.seq (.region [⟨(some 99), (.mov (.t 5)), none, []⟩,
    ⟨(some 100), (.load none (.g 1)), none, []⟩,
    ⟨(some 101), (.bin .leq (.t 99) (.t 100)), none, []⟩,
    ⟨(some 102), (.mov (.t 101)), none, []⟩,
    ⟨(some 103), (.mov (.t 10)), (some (102, true)), []⟩,
    ⟨(some 104), (.mov (.t 8)), (some (102, true)), []⟩,
    ⟨(some 105), (.call (.f 100) [(.t 104)]), (some (102, true)), []⟩,
    ⟨(some 106), (.bin .gtr (.t 103) (.t 105)), (some (102, true)), []⟩,
    ⟨(some 107), (.pick (.t 102) (.t 106) (.c (.bool false))), none, []⟩] none)
  (.cond (.t 107)
  (.seq (.region [⟨(some 108), (.mov (.t 0)), none, []⟩,
    ⟨(some 109), (.mov (.t 8)), none, []⟩,
    ⟨(some 110), (.sliceStr (.t 108) (some (.t 109)) none), none, []⟩,
    ⟨(some 111), (.mov (.t 1)), none, []⟩,
    ⟨(some 112), (.call (.f 101) [(.t 110), (.t 111)]), none, []⟩,
    ⟨(some 12), (.mov (.t 112)), none, []⟩] none)
  (.seq (.seq (.region [⟨(some 113), (.mov (.t 12)), none, []⟩,
    ⟨(some 114), (.bin .geq (.t 113) (.c (.int .i64 0))), none, []⟩] none)
  (.cond (.t 114)
  (.seq (.region [⟨(some 115), (.mov (.t 12)), none, []⟩,
    ⟨(some 116), (.mov (.t 8)), none, []⟩,
    ⟨(some 117), (.bin .add (.t 115) (.t 116)), none, []⟩,
    ⟨(some 4), (.mov (.t 117)), none, []⟩] none)
  .ret)
  .skip))
  (.seq (.region [⟨(some 4), (.mov (.c (.int .i64 (-1)))), none, []⟩] none)
  .ret)))
  (.seq (.region [⟨(some 118), (.mov (.t 5)), none, []⟩,
    ⟨(some 119), (.load none (.g 1)), none, []⟩,
    ⟨(some 120), (.bin .gtr (.t 118) (.t 119)), none, []⟩,
    ⟨(some 121), (.mov (.t 120)), none, []⟩,
    ⟨(some 122), (.mov (.t 10)), (some (121, true)), []⟩,
    ⟨(some 123), (.mov (.t 8)), (some (121, true)), []⟩,
    ⟨(some 124), (.bin .shr (.t 123) (.c (.int .u64 4))), (some (121, true)), []⟩,
    ⟨(some 125), (.bin .add (.c (.int .i64 4)) (.t 124)), (some (121, true)), []⟩,
    ⟨(some 126), (.bin .geq (.t 122) (.t 125)), (some (121, true)), []⟩,
    ⟨(some 127), (.pick (.t 121) (.t 126) (.c (.bool false))), none, []⟩,
    ⟨(some 128), (.mov (.t 127)), none, []⟩,
    ⟨(some 129), (.mov (.t 8)), (some (128, true)), []⟩,
    ⟨(some 130), (.mov (.t 9)), (some (128, true)), []⟩,
    ⟨(some 131), (.bin .lss (.t 129) (.t 130)), (some (128, true)), []⟩,
    ⟨(some 132), (.pick (.t 128) (.t 131) (.c (.bool false))), none, []⟩] none)
  (.cond (.t 132)
  (.seq (.region [⟨(some 133), (.mov (.t 0)), none, []⟩,
    ⟨(some 134), (.mov (.t 8)), none, []⟩,
    ⟨(some 135), (.sliceStr (.t 133) (some (.t 134)) none), none, []⟩,
    ⟨(some 136), (.mov (.t 1)), none, []⟩,
    ⟨(some 137), (.call (.f 120) [(.t 135), (.t 136)]), none, []⟩,
    ⟨(some 13), (.mov (.t 137)), none, []⟩] none)
  (.seq (.seq (.region [⟨(some 138), (.mov (.t 13)), none, []⟩,
    ⟨(some 139), (.bin .lss (.t 138) (.c (.int .i64 0))), none, []⟩] none)
  (.cond (.t 139)
  (.seq (.region [⟨(some 4), (.mov (.c (.int .i64 (-1)))), none, []⟩] none)
  .ret)
  .skip))
  (.seq (.region [⟨(some 140), (.mov (.t 8)), none, []⟩,
    ⟨(some 141), (.mov (.t 13)), none, []⟩,
    ⟨(some 142), (.bin .add (.t 140) (.t 141)), none, []⟩,
    ⟨(some 4), (.mov (.t 142)), none, []⟩] none)
  .ret)))
  .skip))))))))))
def B98 : ACode := (.seq (.region [⟨(some 4), (.mov (.c (.int .i64 0))), none, []⟩] none)
  (.seq (.region [⟨(some 14), (.mov (.t 1)), none, []⟩,
    ⟨(some 15), (.lenStr (.t 14)), none, []⟩,
    ⟨(some 5), (.mov (.t 15)), none, []⟩] none)
  (.seq (.block 0 (.seq (.region [⟨(some 17), (.mov (.t 5)), none, []⟩,
    ⟨(some 18), (.bin .eql (.t 17) (.c (.int .i64 0))), none, []⟩,
    ⟨(some 19), (.mov (.t 18)), none, []⟩,
    ⟨(some 20), (.mov (.t 1)), (some (19, false)), []⟩,
    ⟨(some 21), (.mov (.t 0)), (some (19, false)), []⟩,
    ⟨(some 22), (.bin .eql (.t 20) (.t 21)), (some (19, false)), []⟩,
    ⟨(some 23), (.pick (.t 19) (.c (.bool true)) (.t 22)), none, []⟩,
    ⟨(some 16), (.mov (.t 23)), none, []⟩] none)
  (.cond (.t 16)
  (.seq (.region [⟨(some 4), (.mov (.c (.int .i64 0))), none, []⟩] none)
  .ret)
  (.seq (.region [⟨(some 25), (.mov (.t 5)), none, []⟩,
    ⟨(some 26), (.bin .eql (.t 25) (.c (.int .i64 1))), none, []⟩,
    ⟨(some 24), (.mov (.t 26)), none, []⟩] none)
  (.cond (.t 24)
  (.seq (.region [⟨(some 27), (.mov (.t 0)), none, []⟩,
    ⟨(some 28), (.mov (.t 1)), none, []⟩,
    ⟨(some 29), (.indexStr (.t 28) (.c (.int .i64 0))), none, []⟩,
    ⟨(some 30), (.call (.f 88) [(.t 27), (.t 29)]), none, []⟩,
    ⟨(some 4), (.mov (.t 30)), none, []⟩] none)
  .ret)
  (.seq (.region [⟨(some 32), (.mov (.t 5)), none, []⟩,
    ⟨(some 33), (.mov (.t 0)), none, []⟩,
    ⟨(some 34), (.lenStr (.t 33)), none, []⟩,
    ⟨(some 35), (.bin .geq (.t 32) (.t 34)), none, []⟩,
    ⟨(some 31), (.mov (.t 35)), none, []⟩] none)
  (.cond (.t 31)
  (.seq (.region [⟨(some 4), (.mov (.c (.int .i64 (-1)))), none, []⟩] none)
  .ret)
  (.seq (.region [⟨(some 37), (.mov (.t 5)), none, []⟩,
    ⟨(some 38), (.load none (.g 1)), none, []⟩,
    ⟨(some 39), (.bin .leq (.t 37) (.t 38)), none, []⟩,
    ⟨(some 40), (.mov (.t 39)), none, []⟩,
    ⟨(some 41), (.mov (.t 0)), (some (40, true)), []⟩,
    ⟨(some 42), (.lenStr (.t 41)), (some (40, true)), []⟩,
    ⟨(some 43), (.bin .leq (.t 42) (.c (.int .i64 64))), (some (40, true)), []⟩,
    ⟨(some 44), (.pick (.t 40) (.t 43) (.c (.bool false))), none, []⟩,
    ⟨(some 36), (.mov (.t 44)), none, []⟩] none)
  (.cond (.t 36)
  (.seq (.region [⟨(some 45), (.mov (.t 0)), none, []⟩,
    ⟨(some 46), (.mov (.t 1)), none, []⟩,
    ⟨(some 47), (.call (.f 101) [(.t 45), (.t 46)]), none, []⟩,
    ⟨(some 4), (.mov (.t 47)), none, []⟩] none)
  .ret)
  .skip)))))))))
  (.seq (.region [⟨(some 48), (.mov (.t 1)), none, []⟩,
    ⟨(some 49), (.indexStr (.t 48) (.c (.int .i64 0))), none, []⟩,
    ⟨(some 6), (.mov (.t 49)), none, []⟩] none)
  (.seq (.region [⟨(some 50), (.mov (.t 1)), none, []⟩,
    ⟨(some 51), (.indexStr (.t 50) (.c (.int .i64 1))), none, []⟩,
    ⟨(some 7), (.mov (.t 51)), none, []⟩] none)
  (.seq (.region [⟨(some 8), (.mov (.c (.int .i64 0))), none, []⟩] none)
  (.seq (.region [⟨(some 52), (.mov (.t 0)), none, []⟩,
    ⟨(some 53), (.lenStr (.t 52)), none, []⟩,
    ⟨(some 54), (.mov (.t 5)), none, []⟩,
    ⟨(some 55), (.bin .sub (.t 53) (.t 54)), none, []⟩,
    ⟨(some 56), (.bin .add (.t 55) (.c (.int .i64 1))), none, []⟩,
    ⟨(some 9), (.mov (.t 56)), none, []⟩] none)
  (.seq (.region [⟨(some 10), (.mov (.c (.int .i64 0))), none, []⟩] none)
  (.seq (.block 1 (.loop F98L0))
  (.seq (.region [⟨(some 4), (.mov (.c (.int .i64 (-1)))), none, []⟩] none)
  .ret))))))))))
def F98 : AFunc := ⟨2, 143, [(.tmp 4)], B98⟩
-- F98L0 live: [0, 1, 5, 6, 7, 8, 9, 10]
/-- unicode/utf8.ValidRune -/
def B99 : ACode := (.seq (.region [⟨(some 2), (.mov (.c (.bool false))), none, []⟩] none)
  (.seq (.block 0 (.seq (.region [⟨(some 4), (.mov (.t 0)), none, []⟩,
    ⟨(some 5), (.bin .leq (.c (.int .i32 0)) (.t 4)), none, []⟩,
    ⟨(some 6), (.mov (.t 5)), none, []⟩,
    ⟨(some 7), (.mov (.t 0)), (some (6, true)), []⟩,
    ⟨(some 8), (.bin .lss (.t 7) (.c (.int .i32 55296))), (some (6, true)), []⟩,
    ⟨(some 9), (.pick (.t 6) (.t 8) (.c (.bool false))), none, []⟩,
    ⟨(some 3), (.mov (.t 9)), none, []⟩] none)
  (.cond (.t 3)
  (.seq (.region [⟨(some 2), (.mov (.c (.bool true))), none, []⟩] none)
  .ret)
  (.seq (.region [⟨(some 11), (.mov (.t 0)), none, []⟩,
    ⟨(some 12), (.bin .lss (.c (.int .i32 57343)) (.t 11)), none, []⟩,
    ⟨(some 13), (.mov (.t 12)), none, []⟩,
    ⟨(some 14), (.mov (.t 0)), (some (13, true)), []⟩,
    ⟨(some 15), (.bin .leq (.t 14) (.c (.int .i32 1114111))), (some (13, true)), []⟩,
    ⟨(some 16), (.pick (.t 13) (.t 15) (.c (.bool false))), none, []⟩,
    ⟨(some 10), (.mov (.t 16)), none, []⟩] none)
  (.cond (.t 10)
  (.seq (.region [⟨(some 2), (.mov (.c (.bool true))), none, []⟩] none)
  .ret)
  .skip)))))
  (.seq (.region [⟨(some 2), (.mov (.c (.bool false))), none, []⟩] none)
  .ret)))
def F99 : AFunc := ⟨1, 17, [(.tmp 2)], B99⟩
/-- internal/bytealg.Cutover -/
def B100 : ACode := (.seq (.region [⟨(some 2), (.mov (.c (.int .i64 0))), none, []⟩] none)
  (.seq (.region [⟨(some 3), (.mov (.t 0)), none, []⟩,
    ⟨(some 4), (.bin .add (.t 3) (.c (.int .i64 16))), none, []⟩,
    ⟨(some 5), (.bin .quo (.t 4) (.c (.int .i64 8))), none, []⟩,
    ⟨(some 2), (.mov (.t 5)), none, []⟩] none)
  .ret))
def F100 : AFunc := ⟨1, 6, [(.tmp 2)], B100⟩
/-- internal/strconv.FormatInt -/
def B102 : ACode := (.seq (.region [⟨(some 4), (.mov (.c (.string ⟨#[]⟩))), none, []⟩] none)
  (.seq (.seq (.region [⟨(some 10), (.mov (.t 1)), none, []⟩,
    ⟨(some 11), (.bin .eql (.t 10) (.c (.int .i64 10))), none, []⟩] none)
  (.cond (.t 11)
  (.seq (.seq (.region [⟨(some 12), (.mov (.t 0)), none, []⟩,
    ⟨(some 13), (.bin .leq (.c (.int .i64 0)) (.t 12)), none, []⟩,
    ⟨(some 14), (.mov (.t 13)), none, []⟩,
    ⟨(some 15), (.mov (.t 0)), (some (14, true)), []⟩,
    ⟨(some 16), (.bin .lss (.t 15) (.c (.int .i64 100))), (some (14, true)), []⟩,
    ⟨(some 17), (.pick (.t 14) (.t 16) (.c (.bool false))), none, []⟩] none)
  (.cond (.t 17)
  (.seq (.region [⟨(some 18), (.mov (.t 0)), none, []⟩,
    ⟨(some 19), (.call (.f 121) [(.t 18)]), none, []⟩,
    ⟨(some 4), (.mov (.t 19)), none, []⟩] none)
  .ret)
  .skip))
  (.seq (.region [⟨(some 5), (.alloc 148 [(.int .u8 0), (.int .u8 0), (.int .u8 0), (.int .u8 0), (.int .u8 0), (.int .u8 0), (.int .u8 0), (.int .u8 0), (.int .u8 0), (.int .u8 0), (.int .u8 0), (.int .u8 0), (.int .u8 0), (.int .u8 0), (.int .u8 0), (.int .u8 0), (.int .u8 0), (.int .u8 0), (.int .u8 0), (.int .u8 0), (.int .u8 0), (.int .u8 0), (.int .u8 0), (.int .u8 0)]), none, []⟩] none)
  (.seq (.region [⟨(some 20), (.mov (.t 0)), none, []⟩,
    ⟨(some 21), (.conv .u64 (.t 20)), none, []⟩,
    ⟨(some 6), (.mov (.t 21)), none, []⟩] none)
  (.seq (.seq (.region [⟨(some 22), (.mov (.t 0)), none, []⟩,
    ⟨(some 23), (.bin .lss (.t 22) (.c (.int .i64 0))), none, []⟩] none)
  (.cond (.t 23)
  (.region [⟨(some 24), (.mov (.t 6)), none, []⟩,
    ⟨(some 25), (.un .neg (.t 24)), none, []⟩,
    ⟨(some 6), (.mov (.t 25)), none, []⟩] none)
  .skip))
  (.seq (.region [⟨(some 26), (.mov (.t 6)), none, []⟩,
    ⟨(some 27), (.call (.f 122) [(.t 26)]), none, []⟩,
    ⟨(some 7), (.mov (.t 27)), none, []⟩] none)
  (.seq (.region [⟨(some 28), (.mov (.t 7)), none, []⟩,
    ⟨(some 29), (.bin .add (.c (.int .i64 1)) (.t 28)), none, []⟩,
    ⟨(some 30), (.sliceArr 1 24 (.t 5) (some (.c (.int .i64 1))) (some (.t 29))), none, []⟩,
    ⟨(some 31), (.mov (.t 6)), none, []⟩,
    ⟨(some 32), (.call (.f 123) [(.t 30), (.t 31)]), none, []⟩] none)
  (.seq (.seq (.region [⟨(some 33), (.mov (.t 0)), none, []⟩,
    ⟨(some 34), (.bin .lss (.t 33) (.c (.int .i64 0))), none, []⟩] none)
  (.cond (.t 34)
  (.seq (.region [⟨(some 35), (.indexArr 1 24 (.t 5) (.c (.int .i64 0))), none, []⟩,
    ⟨none, (.store 1 (.t 35) (.c (.int .u8 45))), none, []⟩] none)
  (.seq (.region [⟨(some 36), (.mov (.t 7)), none, []⟩,
    ⟨(some 37), (.bin .add (.c (.int .i64 1)) (.t 36)), none, []⟩,
    ⟨(some 38), (.sliceArr 1 24 (.t 5) none (some (.t 37))), none, []⟩,
    ⟨(some 39), (.strOf (.t 38)), none, []⟩,
    ⟨(some 4), (.mov (.t 39)), none, []⟩] none)
  .ret))
  .skip))
  (.seq (.region [⟨(some 40), (.mov (.t 7)), none, []⟩,
    ⟨(some 41), (.bin .add (.c (.int .i64 1)) (.t 40)), none, []⟩,
    ⟨(some 42), (.sliceArr 1 24 (.t 5) (some (.c (.int .i64 1))) (some (.t 41))), none, []⟩,
    ⟨(some 43), (.strOf (.t 42)), none, []⟩,
    ⟨(some 4), (.mov (.t 43)), none, []⟩] none)
  .ret))))))))
  .skip))
  (.seq (.region [⟨(some 45), (.mov (.t 0)), none, []⟩,
    ⟨(some 46), (.conv .u64 (.t 45)), none, []⟩,
    ⟨(some 47), (.mov (.t 1)), none, []⟩,
    ⟨(some 48), (.mov (.t 0)), none, []⟩,
    ⟨(some 49), (.bin .lss (.t 48) (.c (.int .i64 0))), none, []⟩,
    ⟨(some 50), (.call (.f 124) [(.c (.slice none 0 0)), (.t 46), (.t 47), (.t 49), (.c (.bool false))]), none, []⟩,
    ⟨(some 44), (.mov (.t 50)), none, []⟩,
    ⟨(some 51), (.extract (.t 44) 0), none, []⟩,
    ⟨(some 52), (.extract (.t 44) 1), none, []⟩,
    ⟨(some 8), (.mov (.t 51)), none, []⟩,
    ⟨(some 9), (.mov (.t 52)), none, []⟩] none)
  (.seq (.region [⟨(some 53), (.mov (.t 9)), none, []⟩,
    ⟨(some 4), (.mov (.t 53)), none, []⟩] none)
  .ret))))
def F102 : AFunc := ⟨2, 54, [(.tmp 4)], B102⟩
/-- strings.trimLeftByte -/
def F103L0 : ACode := (.seq (.seq (.region [⟨(some 5), (.mov (.t 0)), none, []⟩,
    ⟨(some 6), (.lenStr (.t 5)), none, []⟩,
    ⟨(some 7), (.bin .gtr (.t 6) (.c (.int .i64 0))), none, []⟩,
    ⟨(some 8), (.mov (.t 7)), none, []⟩,
    ⟨(some 9), (.mov (.t 0)), (some (8, true)), []⟩,
    ⟨(some 10), (.indexStr (.t 9) (.c (.int .i64 0))), (some (8, true)), []⟩,
    ⟨(some 11), (.mov (.t 1)), (some (8, true)), []⟩,
    ⟨(some 12), (.bin .eql (.t 10) (.t 11)), (some (8, true)), []⟩,
    ⟨(some 13), (.pick (.t 8) (.t 12) (.c (.bool false))), none, []⟩] none)
  (.cond (.t 13)
  .skip
  (.exit 0)))
  (.block 1 (.region [⟨(some 14), (.mov (.t 0)), none, []⟩,
    ⟨(some 15), (.sliceStr (.t 14) (some (.c (.int .i64 1))) none), none, []⟩,
    ⟨(some 0), (.mov (.t 15)), none, []⟩] none)))
def B103 : ACode := (.seq (.region [⟨(some 4), (.mov (.c (.string ⟨#[]⟩))), none, []⟩] none)
  (.seq (.block 0 (.loop F103L0))
  (.seq (.region [⟨(some 16), (.mov (.t 0)), none, []⟩,
    ⟨(some 4), (.mov (.t 16)), none, []⟩] none)
  .ret)))
def F103 : AFunc := ⟨2, 17, [(.tmp 4)], B103⟩
-- F103L0 live: [0, 1]
/-- strings.trimRightByte -/
def F104L0 : ACode := (.seq (.seq (.region [⟨(some 5), (.mov (.t 0)), none, []⟩,
    ⟨(some 6), (.lenStr (.t 5)), none, []⟩,
    ⟨(some 7), (.bin .gtr (.t 6) (.c (.int .i64 0))), none, []⟩,
    ⟨(some 8), (.mov (.t 7)), none, []⟩,
    ⟨(some 9), (.mov (.t 0)), (some (8, true)), []⟩,
    ⟨(some 10), (.mov (.t 0)), (some (8, true)), []⟩,
    ⟨(some 11), (.lenStr (.t 10)), (some (8, true)), []⟩,
    ⟨(some 12), (.bin .sub (.t 11) (.c (.int .i64 1))), (some (8, true)), []⟩,
    ⟨(some 13), (.indexStr (.t 9) (.t 12)), (some (8, true)), []⟩,
    ⟨(some 14), (.mov (.t 1)), (some (8, true)), []⟩,
    ⟨(some 15), (.bin .eql (.t 13) (.t 14)), (some (8, true)), []⟩,
    ⟨(some 16), (.pick (.t 8) (.t 15) (.c (.bool false))), none, []⟩] none)
  (.cond (.t 16)
  .skip
  (.exit 0)))
  (.block 1 (.region [⟨(some 17), (.mov (.t 0)), none, []⟩,
    ⟨(some 18), (.mov (.t 0)), none, []⟩,
    ⟨(some 19), (.lenStr (.t 18)), none, []⟩,
    ⟨(some 20), (.bin .sub (.t 19) (.c (.int .i64 1))), none, []⟩,
    ⟨(some 21), (.sliceStr (.t 17) none (some (.t 20))), none, []⟩,
    ⟨(some 0), (.mov (.t 21)), none, []⟩] none)))
def B104 : ACode := (.seq (.region [⟨(some 4), (.mov (.c (.string ⟨#[]⟩))), none, []⟩] none)
  (.seq (.block 0 (.loop F104L0))
  (.seq (.region [⟨(some 22), (.mov (.t 0)), none, []⟩,
    ⟨(some 4), (.mov (.t 22)), none, []⟩] none)
  .ret)))
def F104 : AFunc := ⟨2, 23, [(.tmp 4)], B104⟩
-- F104L0 live: [0, 1]
/-- strings.makeASCIISet -/
def F105L0 : ACode := (.seq (.seq (.region [⟨(some 6), (.mov (.t 4)), none, []⟩,
    ⟨(some 7), (.mov (.t 0)), none, []⟩,
    ⟨(some 8), (.lenStr (.t 7)), none, []⟩,
    ⟨(some 9), (.bin .lss (.t 6) (.t 8)), none, []⟩] none)
  (.cond (.t 9)
  .skip
  (.exit 0)))
  (.seq (.block 1 (.seq (.region [⟨(some 12), (.mov (.t 0)), none, []⟩,
    ⟨(some 13), (.mov (.t 4)), none, []⟩,
    ⟨(some 14), (.indexStr (.t 12) (.t 13)), none, []⟩,
    ⟨(some 5), (.mov (.t 14)), none, []⟩] none)
  (.seq (.seq (.region [⟨(some 15), (.mov (.t 5)), none, []⟩,
    ⟨(some 16), (.bin .geq (.t 15) (.c (.int .u8 128))), none, []⟩] none)
  (.cond (.t 16)
  (.seq (.region [⟨(some 17), (.load (some 256) (.t 2)), none, []⟩,
    ⟨none, (.store 256 (.t 2) (.t 17)), none, []⟩,
    ⟨(some 3), (.mov (.c (.bool false))), none, []⟩] none)
  .ret)
  .skip))
  (.region [⟨(some 18), (.mov (.t 5)), none, []⟩,
    ⟨(some 19), (.indexArr 1 256 (.t 2) (.t 18)), none, []⟩,
    ⟨none, (.store 1 (.t 19) (.c (.bool true))), none, []⟩] none))))
  (.region [⟨(some 10), (.mov (.t 4)), none, []⟩,
    ⟨(some 11), (.bin .add (.t 10) (.c (.int .i64 1))), none, []⟩,
    ⟨(some 4), (.mov (.t 11)), none, []⟩] none)))
def B105 : ACode := (.seq (.region [⟨(some 2), (.alloc 134 [(.bool false), (.bool false), (.bool false), (.bool false), (.bool false), (.bool false), (.bool false), (.bool false), (.bool false), (.bool false), (.bool false), (.bool false), (.bool false), (.bool false), (.bool false), (.bool false), (.bool false), (.bool false), (.bool false), (.bool false), (.bool false), (.bool false), (.bool false), (.bool false), (.bool false), (.bool false), (.bool false), (.bool false), (.bool false), (.bool false), (.bool false), (.bool false), (.bool false), (.bool false), (.bool false), (.bool false), (.bool false), (.bool false), (.bool false), (.bool false), (.bool false), (.bool false), (.bool false), (.bool false), (.bool false), (.bool false), (.bool false), (.bool false), (.bool false), (.bool false), (.bool false), (.bool false), (.bool false), (.bool false), (.bool false), (.bool false), (.bool false), (.bool false), (.bool false), (.bool false), (.bool false), (.bool false), (.bool false), (.bool false), (.bool false), (.bool false), (.bool false), (.bool false), (.bool false), (.bool false), (.bool false), (.bool false), (.bool false), (.bool false), (.bool false), (.bool false), (.bool false), (.bool false), (.bool false), (.bool false), (.bool false), (.bool false), (.bool false), (.bool false), (.bool false), (.bool false), (.bool false), (.bool false), (.bool false), (.bool false), (.bool false), (.bool false), (.bool false), (.bool false), (.bool false), (.bool false), (.bool false), (.bool false), (.bool false), (.bool false), (.bool false), (.bool false), (.bool false), (.bool false), (.bool false), (.bool false), (.bool false), (.bool false), (.bool false), (.bool false), (.bool false), (.bool false), (.bool false), (.bool false), (.bool false), (.bool false), (.bool false), (.bool false), (.bool false), (.bool false), (.bool false), (.bool false), (.bool false), (.bool false), (.bool false), (.bool false), (.bool false), (.bool false), (.bool false), (.bool false), (.bool false), (.bool false), (.bool false), (.bool false), (.bool false), (.bool false), (.bool false), (.bool false), (.bool false), (.bool false), (.bool false), (.bool false), (.bool false), (.bool false), (.bool false), (.bool false), (.bool false), (.bool false), (.bool false), (.bool false), (.bool false), (.bool false), (.bool false), (.bool false), (.bool false), (.bool false), (.bool false), (.bool false), (.bool false), (.bool false), (.bool false), (.bool false), (.bool false), (.bool false), (.bool false), (.bool false), (.bool false), (.bool false), (.bool false), (.bool false), (.bool false), (.bool false), (.bool false), (.bool false), (.bool false), (.bool false), (.bool false), (.bool false), (.bool false), (.bool false), (.bool false), (.bool false), (.bool false), (.bool false), (.bool false), (.bool false), (.bool false), (.bool false), (.bool false), (.bool false), (.bool false), (.bool false), (.bool false), (.bool false), (.bool false), (.bool false), (.bool false), (.bool false), (.bool false), (.bool false), (.bool false), (.bool false), (.bool false), (.bool false), (.bool false), (.bool false), (.bool false), (.bool false), (.bool false), (.bool false), (.bool false), (.bool false), (.bool false), (.bool false), (.bool false), (.bool false), (.bool false), (.bool false), (.bool false), (.bool false), (.bool false), (.bool false), (.bool false), (.bool false), (.bool false), (.bool false), (.bool false), (.bool false), (.bool false), (.bool false), (.bool false), (.bool false), (.bool false), (.bool false), (.bool false), (.bool false), (.bool false), (.bool false), (.bool false), (.bool false), (.bool false), (.bool false), (.bool false), (.bool false), (.bool false), (.bool false), (.bool false), (.bool false), (.bool false), (.bool false), (.bool false), (.bool false), (.bool false), (.bool false), (.bool false), (.bool false)]), none, []⟩,
    ⟨(some 3), (.mov (.c (.bool false))), none, []⟩] none)
  (.seq (.seq (.region [⟨(some 4), (.mov (.c (.int .i64 0))), none, []⟩] none)
  (.block 0 (.loop F105L0)))
  (.seq (.region [⟨(some 20), (.load (some 256) (.t 2)), none, []⟩,
    ⟨none, (.store 256 (.t 2) (.t 20)), none, []⟩,
    ⟨(some 3), (.mov (.c (.bool true))), none, []⟩] none)
  .ret)))
def F105 : AFunc := ⟨1, 21, [(.cell 2 (some 256)), (.tmp 3)], B105⟩
-- F105L0 live: [0, 2, 4]
/-- strings.trimLeftASCII -/
def F106L0 : ACode := (.seq (.seq (.region [⟨(some 5), (.mov (.t 0)), none, []⟩,
    ⟨(some 6), (.lenStr (.t 5)), none, []⟩,
    ⟨(some 7), (.bin .gtr (.t 6) (.c (.int .i64 0))), none, []⟩] none)
  (.cond (.t 7)
  .skip
  (.exit 0)))
  (.block 1 (.seq (.seq (.region [⟨(some 8), (.mov (.t 1)), none, []⟩,
    ⟨(some 9), (.mov (.t 0)), none, []⟩,
    ⟨(some 10), (.indexStr (.t 9) (.c (.int .i64 0))), none, []⟩,
    ⟨(some 11), (.call (.f 125) [(.t 8), (.t 10)]), none, []⟩,
    ⟨(some 12), (.un .not (.t 11)), none, []⟩] none)
  (.cond (.t 12)
  (.exit 0)
  .skip))
  (.region [⟨(some 13), (.mov (.t 0)), none, []⟩,
    ⟨(some 14), (.sliceStr (.t 13) (some (.c (.int .i64 1))) none), none, []⟩,
    ⟨(some 0), (.mov (.t 14)), none, []⟩] none))))
def B106 : ACode := (.seq (.region [⟨(some 4), (.mov (.c (.string ⟨#[]⟩))), none, []⟩] none)
  (.seq (.block 0 (.loop F106L0))
  (.seq (.region [⟨(some 15), (.mov (.t 0)), none, []⟩,
    ⟨(some 4), (.mov (.t 15)), none, []⟩] none)
  .ret)))
def F106 : AFunc := ⟨2, 16, [(.tmp 4)], B106⟩
-- F106L0 live: [0, 1]
/-- strings.trimRightASCII -/
def F107L0 : ACode := (.seq (.seq (.region [⟨(some 5), (.mov (.t 0)), none, []⟩,
    ⟨(some 6), (.lenStr (.t 5)), none, []⟩,
    ⟨(some 7), (.bin .gtr (.t 6) (.c (.int .i64 0))), none, []⟩] none)
  (.cond (.t 7)
  .skip
  (.exit 0)))
  (.block 1 (.seq (.seq (.region [⟨(some 8), (.mov (.t 1)), none, []⟩,
    ⟨(some 9), (.mov (.t 0)), none, []⟩,
    ⟨(some 10), (.mov (.t 0)), none, []⟩,
    ⟨(some 11), (.lenStr (.t 10)), none, []⟩,
    ⟨(some 12), (.bin .sub (.t 11) (.c (.int .i64 1))), none, []⟩,
    ⟨(some 13), (.indexStr (.t 9) (.t 12)), none, []⟩,
    ⟨(some 14), (.call (.f 125) [(.t 8), (.t 13)]), none, []⟩,
    ⟨(some 15), (.un .not (.t 14)), none, []⟩] none)
  (.cond (.t 15)
  (.exit 0)
  .skip))
  (.region [⟨(some 16), (.mov (.t 0)), none, []⟩,
    ⟨(some 17), (.mov (.t 0)), none, []⟩,
    ⟨(some 18), (.lenStr (.t 17)), none, []⟩,
    ⟨(some 19), (.bin .sub (.t 18) (.c (.int .i64 1))), none, []⟩,
    ⟨(some 20), (.sliceStr (.t 16) none (some (.t 19))), none, []⟩,
    ⟨(some 0), (.mov (.t 20)), none, []⟩] none))))
def B107 : ACode := (.seq (.region [⟨(some 4), (.mov (.c (.string ⟨#[]⟩))), none, []⟩] none)
  (.seq (.block 0 (.loop F107L0))
  (.seq (.region [⟨(some 21), (.mov (.t 0)), none, []⟩,
    ⟨(some 4), (.mov (.t 21)), none, []⟩] none)
  .ret)))
def F107 : AFunc := ⟨2, 22, [(.tmp 4)], B107⟩
-- F107L0 live: [0, 1]
/-- internal/strconv.Atoi -/
def F110L0 : ACode := (.seq (.region [⟨(some 50), (.bin .lss (.t 49) (.t 48)), none, []⟩] none)
  (.seq (.cond (.t 50)
  .skip
  (.exit 0))
  (.seq (.block 1 (.seq (.region [⟨(some 51), (.indexAddr 1 (.t 47) (.t 49)), none, []⟩,
    ⟨(some 52), (.load none (.t 51)), none, []⟩,
    ⟨(some 8), (.mov (.t 52)), none, []⟩] none)
  (.seq (.region [⟨(some 53), (.mov (.t 8)), none, []⟩,
    ⟨(some 54), (.bin .sub (.t 53) (.c (.int .u8 48))), none, []⟩,
    ⟨(some 8), (.mov (.t 54)), none, []⟩] none)
  (.seq (.seq (.region [⟨(some 55), (.mov (.t 8)), none, []⟩,
    ⟨(some 56), (.bin .gtr (.t 55) (.c (.int .u8 9))), none, []⟩] none)
  (.cond (.t 56)
  (.seq (.region [⟨(some 57), (.makeIface 155 (.c (.int .i64 2))), none, []⟩,
    ⟨(some 2), (.mov (.c (.int .i64 0))), none, []⟩,
    ⟨(some 3), (.mov (.t 57)), none, []⟩] none)
  .ret)
  .skip))
  (.region [⟨(some 58), (.mov (.t 6)), none, []⟩,
    ⟨(some 59), (.bin .mul (.t 58) (.c (.int .i64 10))), none, []⟩,
    ⟨(some 60), (.mov (.t 8)), none, []⟩,
    ⟨(some 61), (.conv .i64 (.t 60)), none, []⟩,
    ⟨(some 62), (.bin .add (.t 59) (.t 61)), none, []⟩,
    ⟨(some 6), (.mov (.t 62)), none, []⟩] none)))))
  (.region [⟨(some 63), (.bin .add (.t 49) (.c (.int .i64 1))), none, []⟩,
    ⟨(some 49), (.mov (.t 63)), none, []⟩] none))))
def B110 : ACode := (.seq (.region [⟨(some 2), (.mov (.c (.int .i64 0))), none, []⟩,
    ⟨(some 3), (.mov (.c .nilIface)), none, []⟩] none)
  (.seq (.region [⟨(some 11), (.mov (.t 0)), none, []⟩,
    ⟨(some 12), (.lenStr (.t 11)), none, []⟩,
    ⟨(some 4), (.mov (.t 12)), none, []⟩] none)
  (.seq (.seq (.region [⟨(some 13), (.mov (.c (.bool false))), none, []⟩,
    ⟨(some 14), (.mov (.t 4)), (some (13, true)), []⟩,
    ⟨(some 15), (.bin .lss (.c (.int .i64 0)) (.t 14)), (some (13, true)), []⟩,
    ⟨(some 16), (.mov (.t 15)), (some (13, true)), []⟩,
    ⟨(some 17), (.mov (.t 4)), (some (16, true)), []⟩,
    ⟨(some 18), (.bin .lss (.t 17) (.c (.int .i64 10))), (some (16, true)), []⟩,
    ⟨(some 19), (.pick (.t 16) (.t 18) (.c (.bool false))), (some (13, true)), []⟩,
    ⟨(some 20), (.pick (.t 13) (.t 19) (.c (.bool false))), none, []⟩,
    ⟨(some 21), (.mov (.t 20)), none, []⟩,
    ⟨(some 22), (.mov (.c (.bool true))), (some (21, false)), []⟩,
    ⟨(some 23), (.mov (.t 4)), (some (22, true)), []⟩,
    ⟨(some 24), (.bin .lss (.c (.int .i64 0)) (.t 23)), (some (22, true)), []⟩,
    ⟨(some 25), (.mov (.t 24)), (some (22, true)), []⟩,
    ⟨(some 26), (.mov (.t 4)), (some (25, true)), []⟩,
    ⟨(some 27), (.bin .lss (.t 26) (.c (.int .i64 19))), (some (25, true)), []⟩,
    ⟨(some 28), (.pick (.t 25) (.t 27) (.c (.bool false))), (some (22, true)), []⟩,
    ⟨(some 29), (.pick (.t 22) (.t 28) (.c (.bool false))), (some (21, false)), []⟩,
    ⟨(some 30), (.pick (.t 21) (.c (.bool true)) (.t 29)), none, []⟩] none)
  (.cond (.t 30)
  (.seq (.region [⟨(some 31), (.mov (.t 0)), none, []⟩,
    ⟨(some 5), (.mov (.t 31)), none, []⟩] none)
  (.seq (.seq (.region [⟨(some 32), (.mov (.t 0)), none, []⟩,
    ⟨(some 33), (.indexStr (.t 32) (.c (.int .i64 0))), none, []⟩,
    ⟨(some 34), (.bin .eql (.t 33) (.c (.int .u8 45))), none, []⟩,
    ⟨(some 35), (.mov (.t 34)), none, []⟩,
    ⟨(some 36), (.mov (.t 0)), (some (35, false)), []⟩,
    ⟨(some 37), (.indexStr (.t 36) (.c (.int .i64 0))), (some (35, false)), []⟩,
    ⟨(some 38), (.bin .eql (.t 37) (.c (.int .u8 43))), (some (35, false)), []⟩,
    ⟨(some 39), (.pick (.t 35) (.c (.bool true)) (.t 38)), none, []⟩] none)
  (.cond (.t 39)
  (.seq (.region [⟨(some 40), (.mov (.t 0)), none, []⟩,
    ⟨(some 41), (.sliceStr (.t 40) (some (.c (.int .i64 1))) none), none, []⟩,
    ⟨(some 0), (.mov (.t 41)), none, []⟩] none)
  (.seq (.region [⟨(some 42), (.mov (.t 0)), none, []⟩,
    ⟨(some 43), (.lenStr (.t 42)), none, []⟩,
    ⟨(some 44), (.bin .lss (.t 43) (.c (.int .i64 1))), none, []⟩] none)
  (.cond (.t 44)
  (.seq (.region [⟨(some 45), (.makeIface 155 (.c (.int .i64 2))), none, []⟩,
    ⟨(some 2), (.mov (.c (.int .i64 0))), none, []⟩,
    ⟨(some 3), (.mov (.t 45)), none, []⟩] none)
  .ret)
  .skip)))
  .skip))
  (.seq (.region [⟨(some 6), (.mov (.c (.int .i64 0))), none, []⟩] none)
  (.seq (.seq (.region [⟨(some 46), (.mov (.t 0)), none, []⟩,
    ⟨(some 47), (.bytesOf 5 (.t 46)), none, []⟩,
    ⟨(some 48), (.lenSlice (.t 47)), none, []⟩,
    ⟨(some 49), (.mov (.c (.int .i64 0))), none, []⟩] none)
  (.block 0 (.loop F110L0)))
  (.seq (.seq (.region [⟨(some 64), (.mov (.t 5)), none, []⟩,
    ⟨(some 65), (.indexStr (.t 64) (.c (.int .i64 0))), none, []⟩,
    ⟨(some 66), (.bin .eql (.t 65) (.c (.int .u8 45))), none, []⟩] none)
  (.cond (.t 66)
  (.region [⟨(some 67), (.mov (.t 6)), none, []⟩,
    ⟨(some 68), (.un .neg (.t 67)), none, []⟩,
    ⟨(some 6), (.mov (.t 68)), none, []⟩] none)
  .skip))
  (.seq (.region [⟨(some 69), (.mov (.t 6)), none, []⟩,
    ⟨(some 2), (.mov (.t 69)), none, []⟩,
    ⟨(some 3), (.mov (.c .nilIface)), none, []⟩] none)
  .ret))))))
  .skip))
  (.seq (.region [⟨(some 71), (.mov (.t 0)), none, []⟩,
    ⟨(some 72), (.call (.f 128) [(.t 71), (.c (.int .i64 10)), (.c (.int .i64 0))]), none, []⟩,
    ⟨(some 70), (.mov (.t 72)), none, []⟩,
    ⟨(some 73), (.extract (.t 70) 0), none, []⟩,
    ⟨(some 74), (.extract (.t 70) 1), none, []⟩,
    ⟨(some 9), (.mov (.t 73)), none, []⟩,
    ⟨(some 10), (.mov (.t 74)), none, []⟩] none)
  (.seq (.region [⟨(some 75), (.mov (.t 9)), none, []⟩,
    ⟨(some 76), (.mov (.t 10)), none, []⟩,
    ⟨(some 2), (.mov (.t 75)), none, []⟩,
    ⟨(some 3), (.mov (.t 76)), none, []⟩] none)
  .ret)))))
def F110 : AFunc := ⟨1, 77, [(.tmp 2), (.tmp 3)], B110⟩
-- F110L0 live: [5, 6, 47, 48, 49]
/-- strconv.toError -/
def B111 : ACode := (.seq (.region [⟨(some 10), (.mov (.c .nilIface)), none, []⟩] none)
  (.seq (.seq (.region [⟨(some 11), (.mov (.t 4)), none, []⟩] none)
  (.block 0 (.seq (.region [⟨(some 13), (.makeIface 155 (.c (.int .i64 2))), none, []⟩,
    ⟨(some 14), (.eqv false (.ifc [2, 3, 5, 6, 12, 21, 22, 23, 26, 85, 101, 155, 219, 242, 243, 245, 246]) false (.t 11) (.t 13)), none, []⟩,
    ⟨(some 12), (.mov (.t 14)), none, []⟩] none)
  (.cond (.t 12)
  (.seq (.region [⟨(some 15), (.mov (.t 0)), none, []⟩,
    ⟨(some 16), (.mov (.t 1)), none, []⟩,
    ⟨(some 17), (.call (.f 129) [(.t 15), (.t 16)]), none, []⟩,
    ⟨(some 18), (.makeIface 158 (.t 17)), none, []⟩,
    ⟨(some 10), (.mov (.t 18)), none, []⟩] none)
  .ret)
  (.seq (.region [⟨(some 20), (.makeIface 155 (.c (.int .i64 1))), none, []⟩,
    ⟨(some 21), (.eqv false (.ifc [2, 3, 5, 6, 12, 21, 22, 23, 26, 85, 101, 155, 219, 242, 243, 245, 246]) false (.t 11) (.t 20)), none, []⟩,
    ⟨(some 19), (.mov (.t 21)), none, []⟩] none)
  (.cond (.t 19)
  (.seq (.region [⟨(some 22), (.mov (.t 0)), none, []⟩,
    ⟨(some 23), (.mov (.t 1)), none, []⟩,
    ⟨(some 24), (.call (.f 130) [(.t 22), (.t 23)]), none, []⟩,
    ⟨(some 25), (.makeIface 158 (.t 24)), none, []⟩,
    ⟨(some 10), (.mov (.t 25)), none, []⟩] none)
  .ret)
  (.seq (.region [⟨(some 27), (.makeIface 155 (.c (.int .i64 3))), none, []⟩,
    ⟨(some 28), (.eqv false (.ifc [2, 3, 5, 6, 12, 21, 22, 23, 26, 85, 101, 155, 219, 242, 243, 245, 246]) false (.t 11) (.t 27)), none, []⟩,
    ⟨(some 26), (.mov (.t 28)), none, []⟩] none)
  (.cond (.t 26)
  (.seq (.region [⟨(some 29), (.mov (.t 0)), none, []⟩,
    ⟨(some 30), (.mov (.t 1)), none, []⟩,
    ⟨(some 31), (.mov (.t 2)), none, []⟩,
    ⟨(some 32), (.call (.f 131) [(.t 29), (.t 30), (.t 31)]), none, []⟩,
    ⟨(some 33), (.makeIface 158 (.t 32)), none, []⟩,
    ⟨(some 10), (.mov (.t 33)), none, []⟩] none)
  .ret)
  (.seq (.region [⟨(some 35), (.makeIface 155 (.c (.int .i64 4))), none, []⟩,
    ⟨(some 36), (.eqv false (.ifc [2, 3, 5, 6, 12, 21, 22, 23, 26, 85, 101, 155, 219, 242, 243, 245, 246]) false (.t 11) (.t 35)), none, []⟩,
    ⟨(some 34), (.mov (.t 36)), none, []⟩] none)
  (.cond (.t 34)
  (.seq (.region [⟨(some 37), (.mov (.t 0)), none, []⟩,
    ⟨(some 38), (.mov (.t 1)), none, []⟩,
    ⟨(some 39), (.mov (.t 3)), none, []⟩,
    ⟨(some 40), (.call (.f 132) [(.t 37), (.t 38), (.t 39)]), none, []⟩,
    ⟨(some 41), (.makeIface 158 (.t 40)), none, []⟩,
    ⟨(some 10), (.mov (.t 41)), none, []⟩] none)
  .ret)
  .skip))))))))))
  (.seq (.region [⟨(some 42), (.mov (.t 4)), none, []⟩,
    ⟨(some 10), (.mov (.t 42)), none, []⟩] none)
  .ret)))
def F111 : AFunc := ⟨5, 43, [(.tmp 10)], B111⟩
/-- strings.genSplit -/
def F115L0 : ACode := (.seq (.seq (.region [⟨(some 34), (.mov (.t 10)), none, []⟩,
    ⟨(some 35), (.mov (.t 3)), none, []⟩,
    ⟨(some 36), (.bin .lss (.t 34) (.t 35)), none, []⟩] none)
  (.cond (.t 36)
  .skip
  (.exit 0)))
  (.block 1 (.seq (.region [⟨(some 37), (.mov (.t 0)), none, []⟩,
    ⟨(some 38), (.mov (.t 1)), none, []⟩,
    ⟨(some 39), (.call (.f 135) [(.t 37), (.t 38)]), none, []⟩,
    ⟨(some 11), (.mov (.t 39)), none, []⟩] none)
  (.seq (.seq (.region [⟨(some 40), (.mov (.t 11)), none, []⟩,
    ⟨(some 41), (.bin .lss (.t 40) (.c (.int .i64 0))), none, []⟩] none)
  (.cond (.t 41)
  (.exit 0)
  .skip))
  (.seq (.region [⟨(some 42), (.mov (.t 9)), none, []⟩,
    ⟨(some 43), (.mov (.t 10)), none, []⟩,
    ⟨(some 44), (.mov (.t 0)), none, []⟩,
    ⟨(some 45), (.mov (.t 11)), none, []⟩,
    ⟨(some 46), (.mov (.t 2)), none, []⟩,
    ⟨(some 47), (.bin .add (.t 45) (.t 46)), none, []⟩,
    ⟨(some 48), (.sliceStr (.t 44) none (some (.t 47))), none, []⟩,
    ⟨(some 49), (.indexAddr 1 (.t 42) (.t 43)), none, []⟩,
    ⟨none, (.store 1 (.t 49) (.t 48)), none, []⟩] none)
  (.seq (.region [⟨(some 50), (.mov (.t 0)), none, []⟩,
    ⟨(some 51), (.mov (.t 11)), none, []⟩,
    ⟨(some 52), (.mov (.t 1)), none, []⟩,
    ⟨(some 53), (.lenStr (.t 52)), none, []⟩,
    ⟨(some 54), (.bin .add (.t 51) (.t 53)), none, []⟩,
    ⟨(some 55), (.sliceStr (.t 50) (some (.t 54)) none), none, []⟩,
    ⟨(some 0), (.mov (.t 55)), none, []⟩] none)
  (.region [⟨(some 56), (.mov (.t 10)), none, []⟩,
    ⟨(some 57), (.bin .add (.t 56) (.c (.int .i64 1))), none, []⟩,
    ⟨(some 10), (.mov (.t 57)), none, []⟩] none)))))))
def B115 : ACode := (.seq (.region [⟨(some 8), (.mov (.c (.slice none 0 0))), none, []⟩] none)
  (.seq (.seq (.region [⟨(some 12), (.mov (.t 3)), none, []⟩,
    ⟨(some 13), (.bin .eql (.t 12) (.c (.int .i64 0))), none, []⟩] none)
  (.cond (.t 13)
  (.seq (.region [⟨(some 8), (.mov (.c (.slice none 0 0))), none, []⟩] none)
  .ret)
  .skip))
  (.seq (.seq (.region [⟨(some 14), (.mov (.t 1)), none, []⟩,
    ⟨(some 15), (.bin .eql (.t 14) (.c (.string ⟨#[]⟩))), none, []⟩] none)
  (.cond (.t 15)
  (.seq (.region [⟨(some 16), (.mov (.t 0)), none, []⟩,
    ⟨(some 17), (.mov (.t 3)), none, []⟩,
    ⟨(some 18), (.call (.f 133) [(.t 16), (.t 17)]), none, []⟩,
    ⟨(some 8), (.mov (.t 18)), none, []⟩] none)
  .ret)
  .skip))
  (.seq (.seq (.region [⟨(some 19), (.mov (.t 3)), none, []⟩,
    ⟨(some 20), (.bin .lss (.t 19) (.c (.int .i64 0))), none, []⟩] none)
  (.cond (.t 20)
  (.region [⟨(some 21), (.mov (.t 0)), none, []⟩,
    ⟨(some 22), (.mov (.t 1)), none, []⟩,
    ⟨(some 23), (.call (.f 134) [(.t 21), (.t 22)]), none, []⟩,
    ⟨(some 24), (.bin .add (.t 23) (.c (.int .i64 1))), none, []⟩,
    ⟨(some 3), (.mov (.t 24)), none, []⟩] none)
  .skip))
  (.seq (.region [⟨(some 25), (.mov (.t 3)), none, []⟩,
    ⟨(some 26), (.mov (.t 0)), none, []⟩,
    ⟨(some 27), (.lenStr (.t 26)), none, []⟩,
    ⟨(some 28), (.bin .add (.t 27) (.c (.int .i64 1))), none, []⟩,
    ⟨(some 29), (.min [(.t 25), (.t 28)]), none, []⟩,
    ⟨(some 3), (.mov (.t 29)), none, []⟩] none)
  (.seq (.region [⟨(some 30), (.mov (.t 3)), none, []⟩,
    ⟨(some 31), (.makeSlice 9 1 16 [(.string ⟨#[]⟩)] (.t 30) (.t 30)), none, []⟩,
    ⟨(some 9), (.mov (.t 31)), none, []⟩] none)
  (.seq (.region [⟨(some 32), (.mov (.t 3)), none, []⟩,
    ⟨(some 33), (.bin .sub (.t 32) (.c (.int .i64 1))), none, []⟩,
    ⟨(some 3), (.mov (.t 33)), none, []⟩] none)
  (.seq (.region [⟨(some 10), (.mov (.c (.int .i64 0))), none, []⟩] none)
  (.seq (.block 0 (.loop F115L0))
  (.seq (.region [⟨(some 58), (.mov (.t 9)), none, []⟩,
    ⟨(some 59), (.mov (.t 10)), none, []⟩,
    ⟨(some 60), (.mov (.t 0)), none, []⟩,
    ⟨(some 61), (.indexAddr 1 (.t 58) (.t 59)), none, []⟩,
    ⟨none, (.store 1 (.t 61) (.t 60)), none, []⟩] none)
  (.seq (.region [⟨(some 62), (.mov (.t 9)), none, []⟩,
    ⟨(some 63), (.mov (.t 10)), none, []⟩,
    ⟨(some 64), (.bin .add (.t 63) (.c (.int .i64 1))), none, []⟩,
    ⟨(some 65), (.slice 1 (.t 62) none (some (.t 64)) none), none, []⟩,
    ⟨(some 8), (.mov (.t 65)), none, []⟩] none)
  .ret)))))))))))
def F115 : AFunc := ⟨4, 66, [(.tmp 8)], B115⟩
-- F115L0 live: [0, 1, 2, 3, 9, 10]
/-- math.Abs -/
def B119 : ACode := (.seq (.region [⟨(some 2), (.mov (.c (.float .f64 0))), none, []⟩] none)
  (.seq (.region [⟨(some 3), (.mov (.t 0)), none, []⟩,
    ⟨(some 4), (.call (.f 70) [(.t 3)]), none, []⟩,
    ⟨(some 5), (.bin .andNot (.t 4) (.c (.int .u64 9223372036854775808))), none, []⟩,
    ⟨(some 6), (.call (.f 117) [(.t 5)]), none, []⟩,
    ⟨(some 2), (.mov (.t 6)), none, []⟩] none)
  .ret))
def F119 : AFunc := ⟨1, 7, [(.tmp 2)], B119⟩
/-- internal/strconv.small -/
def B121 : ACode := (.seq (.region [⟨(some 2), (.mov (.c (.string ⟨#[]⟩))), none, []⟩] none)
  (.seq (.seq (.region [⟨(some 3), (.mov (.t 0)), none, []⟩,
    ⟨(some 4), (.bin .lss (.t 3) (.c (.int .i64 10))), none, []⟩] none)
  (.cond (.t 4)
  (.seq (.region [⟨(some 5), (.mov (.t 0)), none, []⟩,
    ⟨(some 6), (.mov (.t 0)), none, []⟩,
    ⟨(some 7), (.bin .add (.t 6) (.c (.int .i64 1))), none, []⟩,
    ⟨(some 8), (.sliceStr (.c (.string ⟨#[48, 49, 50, 51, 52, 53, 54, 55, 56, 57, 97, 98, 99, 100, 101, 102, 103, 104, 105, 106, 107, 108, 109, 110, 111, 112, 113, 114, 115, 116, 117, 118, 119, 120, 121, 122]⟩)) (some (.t 5)) (some (.t 7))), none, []⟩,
    ⟨(some 2), (.mov (.t 8)), none, []⟩] none)
  .ret)
  .skip))
  (.seq (.region [⟨(some 9), (.mov (.t 0)), none, []⟩,
    ⟨(some 10), (.bin .mul (.t 9) (.c (.int .i64 2))), none, []⟩,
    ⟨(some 11), (.mov (.t 0)), none, []⟩,
    ⟨(some 12), (.bin .mul (.t 11) (.c (.int .i64 2))), none, []⟩,
    ⟨(some 13), (.bin .add (.t 12) (.c (.int .i64 2))), none, []⟩,
    ⟨(some 14), (.sliceStr (.c (.string ⟨#[48, 48, 48, 49, 48, 50, 48, 51, 48, 52, 48, 53, 48, 54, 48, 55, 48, 56, 48, 57, 49, 48, 49, 49, 49, 50, 49, 51, 49, 52, 49, 53, 49, 54, 49, 55, 49, 56, 49, 57, 50, 48, 50, 49, 50, 50, 50, 51, 50, 52, 50, 53, 50, 54, 50, 55, 50, 56, 50, 57, 51, 48, 51, 49, 51, 50, 51, 51, 51, 52, 51, 53, 51, 54, 51, 55, 51, 56, 51, 57, 52, 48, 52, 49, 52, 50, 52, 51, 52, 52, 52, 53, 52, 54, 52, 55, 52, 56, 52, 57, 53, 48, 53, 49, 53, 50, 53, 51, 53, 52, 53, 53, 53, 54, 53, 55, 53, 56, 53, 57, 54, 48, 54, 49, 54, 50, 54, 51, 54, 52, 54, 53, 54, 54, 54, 55, 54, 56, 54, 57, 55, 48, 55, 49, 55, 50, 55, 51, 55, 52, 55, 53, 55, 54, 55, 55, 55, 56, 55, 57, 56, 48, 56, 49, 56, 50, 56, 51, 56, 52, 56, 53, 56, 54, 56, 55, 56, 56, 56, 57, 57, 48, 57, 49, 57, 50, 57, 51, 57, 52, 57, 53, 57, 54, 57, 55, 57, 56, 57, 57]⟩)) (some (.t 10)) (some (.t 13))), none, []⟩,
    ⟨(some 2), (.mov (.t 14)), none, []⟩] none)
  .ret)))
def F121 : AFunc := ⟨1, 15, [(.tmp 2)], B121⟩
/-- internal/strconv.numDigits -/
def B122 : ACode := (.seq (.region [⟨(some 2), (.mov (.c (.int .i64 0))), none, []⟩] none)
  (.seq (.region [⟨(some 4), (.mov (.t 0)), none, []⟩,
    ⟨(some 5), (.call (.f 139) [(.t 4)]), none, []⟩,
    ⟨(some 6), (.call (.f 138) [(.t 5)]), none, []⟩,
    ⟨(some 3), (.mov (.t 6)), none, []⟩] none)
  (.seq (.region [⟨(some 7), (.mov (.t 3)), none, []⟩,
    ⟨(some 8), (.mov (.t 0)), none, []⟩,
    ⟨(some 9), (.mov (.t 3)), none, []⟩,
    ⟨(some 10), (.indexArr 1 20 (.g 2) (.t 9)), none, []⟩,
    ⟨(some 11), (.load none (.t 10)), none, []⟩,
    ⟨(some 12), (.bin .geq (.t 8) (.t 11)), none, []⟩,
    ⟨(some 13), (.call (.f 140) [(.t 12)]), none, []⟩,
    ⟨(some 14), (.bin .add (.t 7) (.t 13)), none, []⟩,
    ⟨(some 2), (.mov (.t 14)), none, []⟩] none)
  .ret)))
def F122 : AFunc := ⟨1, 15, [(.tmp 2)], B122⟩
def R123_0 : ACode := .region [⟨(some 42), (.mov (.t 0)), none, []⟩,
    ⟨(some 43), (.mov (.t 4)), none, []⟩,
    ⟨(some 44), (.bin .sub (.t 43) (.c (.int .i64 1))), none, [1]⟩,
    ⟨(some 45), (.mov (.t 0)), none, []⟩,
    ⟨(some 46), (.mov (.t 4)), none, []⟩,
    ⟨(some 47), (.bin .sub (.t 46) (.c (.int .i64 2))), none, [4]⟩,
    ⟨(some 48), (.mov (.t 9)), none, []⟩,
    ⟨(some 49), (.bin .add (.t 48) (.c (.int .u32 1))), none, [6]⟩,
    ⟨(some 50), (.indexStr (.c (.string ⟨#[48, 48, 48, 49, 48, 50, 48, 51, 48, 52, 48, 53, 48, 54, 48, 55, 48, 56, 48, 57, 49, 48, 49, 49, 49, 50, 49, 51, 49, 52, 49, 53, 49, 54, 49, 55, 49, 56, 49, 57, 50, 48, 50, 49, 50, 50, 50, 51, 50, 52, 50, 53, 50, 54, 50, 55, 50, 56, 50, 57, 51, 48, 51, 49, 51, 50, 51, 51, 51, 52, 51, 53, 51, 54, 51, 55, 51, 56, 51, 57, 52, 48, 52, 49, 52, 50, 52, 51, 52, 52, 52, 53, 52, 54, 52, 55, 52, 56, 52, 57, 53, 48, 53, 49, 53, 50, 53, 51, 53, 52, 53, 53, 53, 54, 53, 55, 53, 56, 53, 57, 54, 48, 54, 49, 54, 50, 54, 51, 54, 52, 54, 53, 54, 54, 54, 55, 54, 56, 54, 57, 55, 48, 55, 49, 55, 50, 55, 51, 55, 52, 55, 53, 55, 54, 55, 55, 55, 56, 55, 57, 56, 48, 56, 49, 56, 50, 56, 51, 56, 52, 56, 53, 56, 54, 56, 55, 56, 56, 56, 57, 57, 48, 57, 49, 57, 50, 57, 51, 57, 52, 57, 53, 57, 54, 57, 55, 57, 56, 57, 57]⟩)) (.t 49)), none, [7]⟩,
    ⟨(some 51), (.mov (.t 9)), none, []⟩,
    ⟨(some 52), (.indexStr (.c (.string ⟨#[48, 48, 48, 49, 48, 50, 48, 51, 48, 52, 48, 53, 48, 54, 48, 55, 48, 56, 48, 57, 49, 48, 49, 49, 49, 50, 49, 51, 49, 52, 49, 53, 49, 54, 49, 55, 49, 56, 49, 57, 50, 48, 50, 49, 50, 50, 50, 51, 50, 52, 50, 53, 50, 54, 50, 55, 50, 56, 50, 57, 51, 48, 51, 49, 51, 50, 51, 51, 51, 52, 51, 53, 51, 54, 51, 55, 51, 56, 51, 57, 52, 48, 52, 49, 52, 50, 52, 51, 52, 52, 52, 53, 52, 54, 52, 55, 52, 56, 52, 57, 53, 48, 53, 49, 53, 50, 53, 51, 53, 52, 53, 53, 53, 54, 53, 55, 53, 56, 53, 57, 54, 48, 54, 49, 54, 50, 54, 51, 54, 52, 54, 53, 54, 54, 54, 55, 54, 56, 54, 57, 55, 48, 55, 49, 55, 50, 55, 51, 55, 52, 55, 53, 55, 54, 55, 55, 55, 56, 55, 57, 56, 48, 56, 49, 56, 50, 56, 51, 56, 52, 56, 53, 56, 54, 56, 55, 56, 56, 56, 57, 57, 48, 57, 49, 57, 50, 57, 51, 57, 52, 57, 53, 57, 54, 57, 55, 57, 56, 57, 57]⟩)) (.t 51)), none, [9]⟩,
    ⟨(some 53), (.indexAddr 1 (.t 42) (.t 44)), none, [0, 2, 0, 1, 2, 6, 7, 8]⟩,
    ⟨none, (.store 1 (.t 53) (.t 50)), none, [11, 8, 0, 1, 2, 6, 7, 8]⟩,
    ⟨(some 54), (.indexAddr 1 (.t 45) (.t 47)), none, [3, 5, 0, 1, 2, 3, 4, 5, 6, 7, 8, 9, 10, 11, 12]⟩,
    ⟨none, (.store 1 (.t 54) (.t 52)), none, [13, 10, 12, 0, 1, 2, 3, 4, 5, 6, 7, 8, 9, 10, 11, 12]⟩] (some [(0, 1), (0, 2), (0, 3), (1, 3), (2, 3), (0, 4), (1, 4), (2, 4), (3, 4), (0, 5), (1, 5), (2, 5), (3, 5), (0, 6), (1, 6), (2, 6), (3, 6), (4, 6), (5, 6), (0, 7), (1, 7), (2, 7), (3, 7), (4, 7), (5, 7), (0, 8), (1, 8), (2, 8), (3, 8), (4, 8), (5, 8), (0, 9), (1, 9), (2, 9), (3, 9), (4, 9), (5, 9), (6, 9), (7, 9), (8, 9), (0, 10), (1, 10), (2, 10), (3, 10), (4, 10), (5, 10), (6, 10), (7, 10), (8, 10), (3, 11), (4, 11), (5, 11), (9, 11), (10, 11), (3, 12), (4, 12), (5, 12), (9, 12), (10, 12)])
def R123_1 : ACode := .region [⟨(some 55), (.mov (.t 0)), none, []⟩,
    ⟨(some 56), (.mov (.t 4)), none, []⟩,
    ⟨(some 57), (.bin .sub (.t 56) (.c (.int .i64 3))), none, [1]⟩,
    ⟨(some 58), (.mov (.t 0)), none, []⟩,
    ⟨(some 59), (.mov (.t 4)), none, []⟩,
    ⟨(some 60), (.bin .sub (.t 59) (.c (.int .i64 4))), none, [4]⟩,
    ⟨(some 61), (.mov (.t 8)), none, []⟩,
    ⟨(some 62), (.bin .add (.t 61) (.c (.int .u32 1))), none, [6]⟩,
    ⟨(some 63), (.indexStr (.c (.string ⟨#[48, 48, 48, 49, 48, 50, 48, 51, 48, 52, 48, 53, 48, 54, 48, 55, 48, 56, 48, 57, 49, 48, 49, 49, 49, 50, 49, 51, 49, 52, 49, 53, 49, 54, 49, 55, 49, 56, 49, 57, 50, 48, 50, 49, 50, 50, 50, 51, 50, 52, 50, 53, 50, 54, 50, 55, 50, 56, 50, 57, 51, 48, 51, 49, 51, 50, 51, 51, 51, 52, 51, 53, 51, 54, 51, 55, 51, 56, 51, 57, 52, 48, 52, 49, 52, 50, 52, 51, 52, 52, 52, 53, 52, 54, 52, 55, 52, 56, 52, 57, 53, 48, 53, 49, 53, 50, 53, 51, 53, 52, 53, 53, 53, 54, 53, 55, 53, 56, 53, 57, 54, 48, 54, 49, 54, 50, 54, 51, 54, 52, 54, 53, 54, 54, 54, 55, 54, 56, 54, 57, 55, 48, 55, 49, 55, 50, 55, 51, 55, 52, 55, 53, 55, 54, 55, 55, 55, 56, 55, 57, 56, 48, 56, 49, 56, 50, 56, 51, 56, 52, 56, 53, 56, 54, 56, 55, 56, 56, 56, 57, 57, 48, 57, 49, 57, 50, 57, 51, 57, 52, 57, 53, 57, 54, 57, 55, 57, 56, 57, 57]⟩)) (.t 62)), none, [7]⟩,
    ⟨(some 64), (.mov (.t 8)), none, []⟩,
    ⟨(some 65), (.indexStr (.c (.string ⟨#[48, 48, 48, 49, 48, 50, 48, 51, 48, 52, 48, 53, 48, 54, 48, 55, 48, 56, 48, 57, 49, 48, 49, 49, 49, 50, 49, 51, 49, 52, 49, 53, 49, 54, 49, 55, 49, 56, 49, 57, 50, 48, 50, 49, 50, 50, 50, 51, 50, 52, 50, 53, 50, 54, 50, 55, 50, 56, 50, 57, 51, 48, 51, 49, 51, 50, 51, 51, 51, 52, 51, 53, 51, 54, 51, 55, 51, 56, 51, 57, 52, 48, 52, 49, 52, 50, 52, 51, 52, 52, 52, 53, 52, 54, 52, 55, 52, 56, 52, 57, 53, 48, 53, 49, 53, 50, 53, 51, 53, 52, 53, 53, 53, 54, 53, 55, 53, 56, 53, 57, 54, 48, 54, 49, 54, 50, 54, 51, 54, 52, 54, 53, 54, 54, 54, 55, 54, 56, 54, 57, 55, 48, 55, 49, 55, 50, 55, 51, 55, 52, 55, 53, 55, 54, 55, 55, 55, 56, 55, 57, 56, 48, 56, 49, 56, 50, 56, 51, 56, 52, 56, 53, 56, 54, 56, 55, 56, 56, 56, 57, 57, 48, 57, 49, 57, 50, 57, 51, 57, 52, 57, 53, 57, 54, 57, 55, 57, 56, 57, 57]⟩)) (.t 64)), none, [9]⟩,
    ⟨(some 66), (.indexAddr 1 (.t 55) (.t 57)), none, [0, 2, 0, 1, 2, 6, 7, 8]⟩,
    ⟨none, (.store 1 (.t 66) (.t 63)), none, [11, 8, 0, 1, 2, 6, 7, 8]⟩,
    ⟨(some 67), (.indexAddr 1 (.t 58) (.t 60)), none, [3, 5, 0, 1, 2, 3, 4, 5, 6, 7, 8, 9, 10, 11, 12]⟩,
    ⟨none, (.store 1 (.t 67) (.t 65)), none, [13, 10, 12, 0, 1, 2, 3, 4, 5, 6, 7, 8, 9, 10, 11, 12]⟩] (some [(0, 1), (0, 2), (0, 3), (1, 3), (2, 3), (0, 4), (1, 4), (2, 4), (3, 4), (0, 5), (1, 5), (2, 5), (3, 5), (0, 6), (1, 6), (2, 6), (3, 6), (4, 6), (5, 6), (0, 7), (1, 7), (2, 7), (3, 7), (4, 7), (5, 7), (0, 8), (1, 8), (2, 8), (3, 8), (4, 8), (5, 8), (0, 9), (1, 9), (2, 9), (3, 9), (4, 9), (5, 9), (6, 9), (7, 9), (8, 9), (0, 10), (1, 10), (2, 10), (3, 10), (4, 10), (5, 10), (6, 10), (7, 10), (8, 10), (3, 11), (4, 11), (5, 11), (9, 11), (10, 11), (3, 12), (4, 12), (5, 12), (9, 12), (10, 12)])
def R123_2 : ACode := .region [⟨(some 68), (.mov (.t 0)), none, []⟩,
    ⟨(some 69), (.mov (.t 4)), none, []⟩,
    ⟨(some 70), (.bin .sub (.t 69) (.c (.int .i64 5))), none, [1]⟩,
    ⟨(some 71), (.mov (.t 0)), none, []⟩,
    ⟨(some 72), (.mov (.t 4)), none, []⟩,
    ⟨(some 73), (.bin .sub (.t 72) (.c (.int .i64 6))), none, [4]⟩,
    ⟨(some 74), (.mov (.t 11)), none, []⟩,
    ⟨(some 75), (.bin .add (.t 74) (.c (.int .u32 1))), none, [6]⟩,
    ⟨(some 76), (.indexStr (.c (.string ⟨#[48, 48, 48, 49, 48, 50, 48, 51, 48, 52, 48, 53, 48, 54, 48, 55, 48, 56, 48, 57, 49, 48, 49, 49, 49, 50, 49, 51, 49, 52, 49, 53, 49, 54, 49, 55, 49, 56, 49, 57, 50, 48, 50, 49, 50, 50, 50, 51, 50, 52, 50, 53, 50, 54, 50, 55, 50, 56, 50, 57, 51, 48, 51, 49, 51, 50, 51, 51, 51, 52, 51, 53, 51, 54, 51, 55, 51, 56, 51, 57, 52, 48, 52, 49, 52, 50, 52, 51, 52, 52, 52, 53, 52, 54, 52, 55, 52, 56, 52, 57, 53, 48, 53, 49, 53, 50, 53, 51, 53, 52, 53, 53, 53, 54, 53, 55, 53, 56, 53, 57, 54, 48, 54, 49, 54, 50, 54, 51, 54, 52, 54, 53, 54, 54, 54, 55, 54, 56, 54, 57, 55, 48, 55, 49, 55, 50, 55, 51, 55, 52, 55, 53, 55, 54, 55, 55, 55, 56, 55, 57, 56, 48, 56, 49, 56, 50, 56, 51, 56, 52, 56, 53, 56, 54, 56, 55, 56, 56, 56, 57, 57, 48, 57, 49, 57, 50, 57, 51, 57, 52, 57, 53, 57, 54, 57, 55, 57, 56, 57, 57]⟩)) (.t 75)), none, [7]⟩,
    ⟨(some 77), (.mov (.t 11)), none, []⟩,
    ⟨(some 78), (.indexStr (.c (.string ⟨#[48, 48, 48, 49, 48, 50, 48, 51, 48, 52, 48, 53, 48, 54, 48, 55, 48, 56, 48, 57, 49, 48, 49, 49, 49, 50, 49, 51, 49, 52, 49, 53, 49, 54, 49, 55, 49, 56, 49, 57, 50, 48, 50, 49, 50, 50, 50, 51, 50, 52, 50, 53, 50, 54, 50, 55, 50, 56, 50, 57, 51, 48, 51, 49, 51, 50, 51, 51, 51, 52, 51, 53, 51, 54, 51, 55, 51, 56, 51, 57, 52, 48, 52, 49, 52, 50, 52, 51, 52, 52, 52, 53, 52, 54, 52, 55, 52, 56, 52, 57, 53, 48, 53, 49, 53, 50, 53, 51, 53, 52, 53, 53, 53, 54, 53, 55, 53, 56, 53, 57, 54, 48, 54, 49, 54, 50, 54, 51, 54, 52, 54, 53, 54, 54, 54, 55, 54, 56, 54, 57, 55, 48, 55, 49, 55, 50, 55, 51, 55, 52, 55, 53, 55, 54, 55, 55, 55, 56, 55, 57, 56, 48, 56, 49, 56, 50, 56, 51, 56, 52, 56, 53, 56, 54, 56, 55, 56, 56, 56, 57, 57, 48, 57, 49, 57, 50, 57, 51, 57, 52, 57, 53, 57, 54, 57, 55, 57, 56, 57, 57]⟩)) (.t 77)), none, [9]⟩,
    ⟨(some 79), (.indexAddr 1 (.t 68) (.t 70)), none, [0, 2, 0, 1, 2, 6, 7, 8]⟩,
    ⟨none, (.store 1 (.t 79) (.t 76)), none, [11, 8, 0, 1, 2, 6, 7, 8]⟩,
    ⟨(some 80), (.indexAddr 1 (.t 71) (.t 73)), none, [3, 5, 0, 1, 2, 3, 4, 5, 6, 7, 8, 9, 10, 11, 12]⟩,
    ⟨none, (.store 1 (.t 80) (.t 78)), none, [13, 10, 12, 0, 1, 2, 3, 4, 5, 6, 7, 8, 9, 10, 11, 12]⟩] (some [(0, 1), (0, 2), (0, 3), (1, 3), (2, 3), (0, 4), (1, 4), (2, 4), (3, 4), (0, 5), (1, 5), (2, 5), (3, 5), (0, 6), (1, 6), (2, 6), (3, 6), (4, 6), (5, 6), (0, 7), (1, 7), (2, 7), (3, 7), (4, 7), (5, 7), (0, 8), (1, 8), (2, 8), (3, 8), (4, 8), (5, 8), (0, 9), (1, 9), (2, 9), (3, 9), (4, 9), (5, 9), (6, 9), (7, 9), (8, 9), (0, 10), (1, 10), (2, 10), (3, 10), (4, 10), (5, 10), (6, 10), (7, 10), (8, 10), (3, 11), (4, 11), (5, 11), (9, 11), (10, 11), (3, 12), (4, 12), (5, 12), (9, 12), (10, 12)])
def R123_3 : ACode := .region [⟨(some 81), (.mov (.t 0)), none, []⟩,
    ⟨(some 82), (.mov (.t 4)), none, []⟩,
    ⟨(some 83), (.bin .sub (.t 82) (.c (.int .i64 7))), none, [1]⟩,
    ⟨(some 84), (.mov (.t 0)), none, []⟩,
    ⟨(some 85), (.mov (.t 4)), none, []⟩,
    ⟨(some 86), (.bin .sub (.t 85) (.c (.int .i64 8))), none, [4]⟩,
    ⟨(some 87), (.mov (.t 10)), none, []⟩,
    ⟨(some 88), (.bin .add (.t 87) (.c (.int .u32 1))), none, [6]⟩,
    ⟨(some 89), (.indexStr (.c (.string ⟨#[48, 48, 48, 49, 48, 50, 48, 51, 48, 52, 48, 53, 48, 54, 48, 55, 48, 56, 48, 57, 49, 48, 49, 49, 49, 50, 49, 51, 49, 52, 49, 53, 49, 54, 49, 55, 49, 56, 49, 57, 50, 48, 50, 49, 50, 50, 50, 51, 50, 52, 50, 53, 50, 54, 50, 55, 50, 56, 50, 57, 51, 48, 51, 49, 51, 50, 51, 51, 51, 52, 51, 53, 51, 54, 51, 55, 51, 56, 51, 57, 52, 48, 52, 49, 52, 50, 52, 51, 52, 52, 52, 53, 52, 54, 52, 55, 52, 56, 52, 57, 53, 48, 53, 49, 53, 50, 53, 51, 53, 52, 53, 53, 53, 54, 53, 55, 53, 56, 53, 57, 54, 48, 54, 49, 54, 50, 54, 51, 54, 52, 54, 53, 54, 54, 54, 55, 54, 56, 54, 57, 55, 48, 55, 49, 55, 50, 55, 51, 55, 52, 55, 53, 55, 54, 55, 55, 55, 56, 55, 57, 56, 48, 56, 49, 56, 50, 56, 51, 56, 52, 56, 53, 56, 54, 56, 55, 56, 56, 56, 57, 57, 48, 57, 49, 57, 50, 57, 51, 57, 52, 57, 53, 57, 54, 57, 55, 57, 56, 57, 57]⟩)) (.t 88)), none, [7]⟩,
    ⟨(some 90), (.mov (.t 10)), none, []⟩,
    ⟨(some 91), (.indexStr (.c (.string ⟨#[48, 48, 48, 49, 48, 50, 48, 51, 48, 52, 48, 53, 48, 54, 48, 55, 48, 56, 48, 57, 49, 48, 49, 49, 49, 50, 49, 51, 49, 52, 49, 53, 49, 54, 49, 55, 49, 56, 49, 57, 50, 48, 50, 49, 50, 50, 50, 51, 50, 52, 50, 53, 50, 54, 50, 55, 50, 56, 50, 57, 51, 48, 51, 49, 51, 50, 51, 51, 51, 52, 51, 53, 51, 54, 51, 55, 51, 56, 51, 57, 52, 48, 52, 49, 52, 50, 52, 51, 52, 52, 52, 53, 52, 54, 52, 55, 52, 56, 52, 57, 53, 48, 53, 49, 53, 50, 53, 51, 53, 52, 53, 53, 53, 54, 53, 55, 53, 56, 53, 57, 54, 48, 54, 49, 54, 50, 54, 51, 54, 52, 54, 53, 54, 54, 54, 55, 54, 56, 54, 57, 55, 48, 55, 49, 55, 50, 55, 51, 55, 52, 55, 53, 55, 54, 55, 55, 55, 56, 55, 57, 56, 48, 56, 49, 56, 50, 56, 51, 56, 52, 56, 53, 56, 54, 56, 55, 56, 56, 56, 57, 57, 48, 57, 49, 57, 50, 57, 51, 57, 52, 57, 53, 57, 54, 57, 55, 57, 56, 57, 57]⟩)) (.t 90)), none, [9]⟩,
    ⟨(some 92), (.indexAddr 1 (.t 81) (.t 83)), none, [0, 2, 0, 1, 2, 6, 7, 8]⟩,
    ⟨none, (.store 1 (.t 92) (.t 89)), none, [11, 8, 0, 1, 2, 6, 7, 8]⟩,
    ⟨(some 93), (.indexAddr 1 (.t 84) (.t 86)), none, [3, 5, 0, 1, 2, 3, 4, 5, 6, 7, 8, 9, 10, 11, 12]⟩,
    ⟨none, (.store 1 (.t 93) (.t 91)), none, [13, 10, 12, 0, 1, 2, 3, 4, 5, 6, 7, 8, 9, 10, 11, 12]⟩] (some [(0, 1), (0, 2), (0, 3), (1, 3), (2, 3), (0, 4), (1, 4), (2, 4), (3, 4), (0, 5), (1, 5), (2, 5), (3, 5), (0, 6), (1, 6), (2, 6), (3, 6), (4, 6), (5, 6), (0, 7), (1, 7), (2, 7), (3, 7), (4, 7), (5, 7), (0, 8), (1, 8), (2, 8), (3, 8), (4, 8), (5, 8), (0, 9), (1, 9), (2, 9), (3, 9), (4, 9), (5, 9), (6, 9), (7, 9), (8, 9), (0, 10), (1, 10), (2, 10), (3, 10), (4, 10), (5, 10), (6, 10), (7, 10), (8, 10), (3, 11), (4, 11), (5, 11), (9, 11), (10, 11), (3, 12), (4, 12), (5, 12), (9, 12), (10, 12)])
def R123_4 : ACode := .region [⟨(some 110), (.mov (.t 0)), none, []⟩,
    ⟨(some 111), (.mov (.t 4)), none, []⟩,
    ⟨(some 112), (.bin .sub (.t 111) (.c (.int .i64 1))), none, [1]⟩,
    ⟨(some 113), (.mov (.t 0)), none, []⟩,
    ⟨(some 114), (.mov (.t 4)), none, []⟩,
    ⟨(some 115), (.bin .sub (.t 114) (.c (.int .i64 2))), none, [4]⟩,
    ⟨(some 116), (.mov (.t 15)), none, []⟩,
    ⟨(some 117), (.bin .add (.t 116) (.c (.int .u32 1))), none, [6]⟩,
    ⟨(some 118), (.indexStr (.c (.string ⟨#[48, 48, 48, 49, 48, 50, 48, 51, 48, 52, 48, 53, 48, 54, 48, 55, 48, 56, 48, 57, 49, 48, 49, 49, 49, 50, 49, 51, 49, 52, 49, 53, 49, 54, 49, 55, 49, 56, 49, 57, 50, 48, 50, 49, 50, 50, 50, 51, 50, 52, 50, 53, 50, 54, 50, 55, 50, 56, 50, 57, 51, 48, 51, 49, 51, 50, 51, 51, 51, 52, 51, 53, 51, 54, 51, 55, 51, 56, 51, 57, 52, 48, 52, 49, 52, 50, 52, 51, 52, 52, 52, 53, 52, 54, 52, 55, 52, 56, 52, 57, 53, 48, 53, 49, 53, 50, 53, 51, 53, 52, 53, 53, 53, 54, 53, 55, 53, 56, 53, 57, 54, 48, 54, 49, 54, 50, 54, 51, 54, 52, 54, 53, 54, 54, 54, 55, 54, 56, 54, 57, 55, 48, 55, 49, 55, 50, 55, 51, 55, 52, 55, 53, 55, 54, 55, 55, 55, 56, 55, 57, 56, 48, 56, 49, 56, 50, 56, 51, 56, 52, 56, 53, 56, 54, 56, 55, 56, 56, 56, 57, 57, 48, 57, 49, 57, 50, 57, 51, 57, 52, 57, 53, 57, 54, 57, 55, 57, 56, 57, 57]⟩)) (.t 117)), none, [7]⟩,
    ⟨(some 119), (.mov (.t 15)), none, []⟩,
    ⟨(some 120), (.indexStr (.c (.string ⟨#[48, 48, 48, 49, 48, 50, 48, 51, 48, 52, 48, 53, 48, 54, 48, 55, 48, 56, 48, 57, 49, 48, 49, 49, 49, 50, 49, 51, 49, 52, 49, 53, 49, 54, 49, 55, 49, 56, 49, 57, 50, 48, 50, 49, 50, 50, 50, 51, 50, 52, 50, 53, 50, 54, 50, 55, 50, 56, 50, 57, 51, 48, 51, 49, 51, 50, 51, 51, 51, 52, 51, 53, 51, 54, 51, 55, 51, 56, 51, 57, 52, 48, 52, 49, 52, 50, 52, 51, 52, 52, 52, 53, 52, 54, 52, 55, 52, 56, 52, 57, 53, 48, 53, 49, 53, 50, 53, 51, 53, 52, 53, 53, 53, 54, 53, 55, 53, 56, 53, 57, 54, 48, 54, 49, 54, 50, 54, 51, 54, 52, 54, 53, 54, 54, 54, 55, 54, 56, 54, 57, 55, 48, 55, 49, 55, 50, 55, 51, 55, 52, 55, 53, 55, 54, 55, 55, 55, 56, 55, 57, 56, 48, 56, 49, 56, 50, 56, 51, 56, 52, 56, 53, 56, 54, 56, 55, 56, 56, 56, 57, 57, 48, 57, 49, 57, 50, 57, 51, 57, 52, 57, 53, 57, 54, 57, 55, 57, 56, 57, 57]⟩)) (.t 119)), none, [9]⟩,
    ⟨(some 121), (.indexAddr 1 (.t 110) (.t 112)), none, [0, 2, 0, 1, 2, 6, 7, 8]⟩,
    ⟨none, (.store 1 (.t 121) (.t 118)), none, [11, 8, 0, 1, 2, 6, 7, 8]⟩,
    ⟨(some 122), (.indexAddr 1 (.t 113) (.t 115)), none, [3, 5, 0, 1, 2, 3, 4, 5, 6, 7, 8, 9, 10, 11, 12]⟩,
    ⟨none, (.store 1 (.t 122) (.t 120)), none, [13, 10, 12, 0, 1, 2, 3, 4, 5, 6, 7, 8, 9, 10, 11, 12]⟩] (some [(0, 1), (0, 2), (0, 3), (1, 3), (2, 3), (0, 4), (1, 4), (2, 4), (3, 4), (0, 5), (1, 5), (2, 5), (3, 5), (0, 6), (1, 6), (2, 6), (3, 6), (4, 6), (5, 6), (0, 7), (1, 7), (2, 7), (3, 7), (4, 7), (5, 7), (0, 8), (1, 8), (2, 8), (3, 8), (4, 8), (5, 8), (0, 9), (1, 9), (2, 9), (3, 9), (4, 9), (5, 9), (6, 9), (7, 9), (8, 9), (0, 10), (1, 10), (2, 10), (3, 10), (4, 10), (5, 10), (6, 10), (7, 10), (8, 10), (3, 11), (4, 11), (5, 11), (9, 11), (10, 11), (3, 12), (4, 12), (5, 12), (9, 12), (10, 12)])
def R123_5 : ACode := .region [⟨(some 123), (.mov (.t 0)), none, []⟩,
    ⟨(some 124), (.mov (.t 4)), none, []⟩,
    ⟨(some 125), (.bin .sub (.t 124) (.c (.int .i64 3))), none, [1]⟩,
    ⟨(some 126), (.mov (.t 0)), none, []⟩,
    ⟨(some 127), (.mov (.t 4)), none, []⟩,
    ⟨(some 128), (.bin .sub (.t 127) (.c (.int .i64 4))), none, [4]⟩,
    ⟨(some 129), (.mov (.t 14)), none, []⟩,
    ⟨(some 130), (.bin .add (.t 129) (.c (.int .u32 1))), none, [6]⟩,
    ⟨(some 131), (.indexStr (.c (.string ⟨#[48, 48, 48, 49, 48, 50, 48, 51, 48, 52, 48, 53, 48, 54, 48, 55, 48, 56, 48, 57, 49, 48, 49, 49, 49, 50, 49, 51, 49, 52, 49, 53, 49, 54, 49, 55, 49, 56, 49, 57, 50, 48, 50, 49, 50, 50, 50, 51, 50, 52, 50, 53, 50, 54, 50, 55, 50, 56, 50, 57, 51, 48, 51, 49, 51, 50, 51, 51, 51, 52, 51, 53, 51, 54, 51, 55, 51, 56, 51, 57, 52, 48, 52, 49, 52, 50, 52, 51, 52, 52, 52, 53, 52, 54, 52, 55, 52, 56, 52, 57, 53, 48, 53, 49, 53, 50, 53, 51, 53, 52, 53, 53, 53, 54, 53, 55, 53, 56, 53, 57, 54, 48, 54, 49, 54, 50, 54, 51, 54, 52, 54, 53, 54, 54, 54, 55, 54, 56, 54, 57, 55, 48, 55, 49, 55, 50, 55, 51, 55, 52, 55, 53, 55, 54, 55, 55, 55, 56, 55, 57, 56, 48, 56, 49, 56, 50, 56, 51, 56, 52, 56, 53, 56, 54, 56, 55, 56, 56, 56, 57, 57, 48, 57, 49, 57, 50, 57, 51, 57, 52, 57, 53, 57, 54, 57, 55, 57, 56, 57, 57]⟩)) (.t 130)), none, [7]⟩,
    ⟨(some 132), (.mov (.t 14)), none, []⟩,
    ⟨(some 133), (.indexStr (.c (.string ⟨#[48, 48, 48, 49, 48, 50, 48, 51, 48, 52, 48, 53, 48, 54, 48, 55, 48, 56, 48, 57, 49, 48, 49, 49, 49, 50, 49, 51, 49, 52, 49, 53, 49, 54, 49, 55, 49, 56, 49, 57, 50, 48, 50, 49, 50, 50, 50, 51, 50, 52, 50, 53, 50, 54, 50, 55, 50, 56, 50, 57, 51, 48, 51, 49, 51, 50, 51, 51, 51, 52, 51, 53, 51, 54, 51, 55, 51, 56, 51, 57, 52, 48, 52, 49, 52, 50, 52, 51, 52, 52, 52, 53, 52, 54, 52, 55, 52, 56, 52, 57, 53, 48, 53, 49, 53, 50, 53, 51, 53, 52, 53, 53, 53, 54, 53, 55, 53, 56, 53, 57, 54, 48, 54, 49, 54, 50, 54, 51, 54, 52, 54, 53, 54, 54, 54, 55, 54, 56, 54, 57, 55, 48, 55, 49, 55, 50, 55, 51, 55, 52, 55, 53, 55, 54, 55, 55, 55, 56, 55, 57, 56, 48, 56, 49, 56, 50, 56, 51, 56, 52, 56, 53, 56, 54, 56, 55, 56, 56, 56, 57, 57, 48, 57, 49, 57, 50, 57, 51, 57, 52, 57, 53, 57, 54, 57, 55, 57, 56, 57, 57]⟩)) (.t 132)), none, [9]⟩,
    ⟨(some 134), (.indexAddr 1 (.t 123) (.t 125)), none, [0, 2, 0, 1, 2, 6, 7, 8]⟩,
    ⟨none, (.store 1 (.t 134) (.t 131)), none, [11, 8, 0, 1, 2, 6, 7, 8]⟩,
    ⟨(some 135), (.indexAddr 1 (.t 126) (.t 128)), none, [3, 5, 0, 1, 2, 3, 4, 5, 6, 7, 8, 9, 10, 11, 12]⟩,
    ⟨none, (.store 1 (.t 135) (.t 133)), none, [13, 10, 12, 0, 1, 2, 3, 4, 5, 6, 7, 8, 9, 10, 11, 12]⟩] (some [(0, 1), (0, 2), (0, 3), (1, 3), (2, 3), (0, 4), (1, 4), (2, 4), (3, 4), (0, 5), (1, 5), (2, 5), (3, 5), (0, 6), (1, 6), (2, 6), (3, 6), (4, 6), (5, 6), (0, 7), (1, 7), (2, 7), (3, 7), (4, 7), (5, 7), (0, 8), (1, 8), (2, 8), (3, 8), (4, 8), (5, 8), (0, 9), (1, 9), (2, 9), (3, 9), (4, 9), (5, 9), (6, 9), (7, 9), (8, 9), (0, 10), (1, 10), (2, 10), (3, 10), (4, 10), (5, 10), (6, 10), (7, 10), (8, 10), (3, 11), (4, 11), (5, 11), (9, 11), (10, 11), (3, 12), (4, 12), (5, 12), (9, 12), (10, 12)])
def R123_6 : ACode := .region [⟨(some 145), (.mov (.t 0)), none, []⟩,
    ⟨(some 146), (.mov (.t 4)), none, []⟩,
    ⟨(some 147), (.bin .sub (.t 146) (.c (.int .i64 1))), none, [1]⟩,
    ⟨(some 148), (.mov (.t 0)), none, []⟩,
    ⟨(some 149), (.mov (.t 4)), none, []⟩,
    ⟨(some 150), (.bin .sub (.t 149) (.c (.int .i64 2))), none, [4]⟩,
    ⟨(some 151), (.mov (.t 16)), none, []⟩,
    ⟨(some 152), (.bin .add (.t 151) (.c (.int .u32 1))), none, [6]⟩,
    ⟨(some 153), (.indexStr (.c (.string ⟨#[48, 48, 48, 49, 48, 50, 48, 51, 48, 52, 48, 53, 48, 54, 48, 55, 48, 56, 48, 57, 49, 48, 49, 49, 49, 50, 49, 51, 49, 52, 49, 53, 49, 54, 49, 55, 49, 56, 49, 57, 50, 48, 50, 49, 50, 50, 50, 51, 50, 52, 50, 53, 50, 54, 50, 55, 50, 56, 50, 57, 51, 48, 51, 49, 51, 50, 51, 51, 51, 52, 51, 53, 51, 54, 51, 55, 51, 56, 51, 57, 52, 48, 52, 49, 52, 50, 52, 51, 52, 52, 52, 53, 52, 54, 52, 55, 52, 56, 52, 57, 53, 48, 53, 49, 53, 50, 53, 51, 53, 52, 53, 53, 53, 54, 53, 55, 53, 56, 53, 57, 54, 48, 54, 49, 54, 50, 54, 51, 54, 52, 54, 53, 54, 54, 54, 55, 54, 56, 54, 57, 55, 48, 55, 49, 55, 50, 55, 51, 55, 52, 55, 53, 55, 54, 55, 55, 55, 56, 55, 57, 56, 48, 56, 49, 56, 50, 56, 51, 56, 52, 56, 53, 56, 54, 56, 55, 56, 56, 56, 57, 57, 48, 57, 49, 57, 50, 57, 51, 57, 52, 57, 53, 57, 54, 57, 55, 57, 56, 57, 57]⟩)) (.t 152)), none, [7]⟩,
    ⟨(some 154), (.mov (.t 16)), none, []⟩,
    ⟨(some 155), (.indexStr (.c (.string ⟨#[48, 48, 48, 49, 48, 50, 48, 51, 48, 52, 48, 53, 48, 54, 48, 55, 48, 56, 48, 57, 49, 48, 49, 49, 49, 50, 49, 51, 49, 52, 49, 53, 49, 54, 49, 55, 49, 56, 49, 57, 50, 48, 50, 49, 50, 50, 50, 51, 50, 52, 50, 53, 50, 54, 50, 55, 50, 56, 50, 57, 51, 48, 51, 49, 51, 50, 51, 51, 51, 52, 51, 53, 51, 54, 51, 55, 51, 56, 51, 57, 52, 48, 52, 49, 52, 50, 52, 51, 52, 52, 52, 53, 52, 54, 52, 55, 52, 56, 52, 57, 53, 48, 53, 49, 53, 50, 53, 51, 53, 52, 53, 53, 53, 54, 53, 55, 53, 56, 53, 57, 54, 48, 54, 49, 54, 50, 54, 51, 54, 52, 54, 53, 54, 54, 54, 55, 54, 56, 54, 57, 55, 48, 55, 49, 55, 50, 55, 51, 55, 52, 55, 53, 55, 54, 55, 55, 55, 56, 55, 57, 56, 48, 56, 49, 56, 50, 56, 51, 56, 52, 56, 53, 56, 54, 56, 55, 56, 56, 56, 57, 57, 48, 57, 49, 57, 50, 57, 51, 57, 52, 57, 53, 57, 54, 57, 55, 57, 56, 57, 57]⟩)) (.t 154)), none, [9]⟩,
    ⟨(some 156), (.indexAddr 1 (.t 145) (.t 147)), none, [0, 2, 0, 1, 2, 6, 7, 8]⟩,
    ⟨none, (.store 1 (.t 156) (.t 153)), none, [11, 8, 0, 1, 2, 6, 7, 8]⟩,
    ⟨(some 157), (.indexAddr 1 (.t 148) (.t 150)), none, [3, 5, 0, 1, 2, 3, 4, 5, 6, 7, 8, 9, 10, 11, 12]⟩,
    ⟨none, (.store 1 (.t 157) (.t 155)), none, [13, 10, 12, 0, 1, 2, 3, 4, 5, 6, 7, 8, 9, 10, 11, 12]⟩] (some [(0, 1), (0, 2), (0, 3), (1, 3), (2, 3), (0, 4), (1, 4), (2, 4), (3, 4), (0, 5), (1, 5), (2, 5), (3, 5), (0, 6), (1, 6), (2, 6), (3, 6), (4, 6), (5, 6), (0, 7), (1, 7), (2, 7), (3, 7), (4, 7), (5, 7), (0, 8), (1, 8), (2, 8), (3, 8), (4, 8), (5, 8), (0, 9), (1, 9), (2, 9), (3, 9), (4, 9), (5, 9), (6, 9), (7, 9), (8, 9), (0, 10), (1, 10), (2, 10), (3, 10), (4, 10), (5, 10), (6, 10), (7, 10), (8, 10), (3, 11), (4, 11), (5, 11), (9, 11), (10, 11), (3, 12), (4, 12), (5, 12), (9, 12), (10, 12)])
/-- internal/strconv.formatBase10 -/
def F123L0 : ACode := (.seq (.seq (.region [⟨(some 19), (.mov (.t 4)), none, []⟩,
    ⟨(some 20), (.bin .geq (.t 19) (.c (.int .i64 8))), none, []⟩] none)
  (.cond (.t 20)
  .skip
  (.exit 0)))
  (.block 1 (.seq (.region [⟨(some 21), (.mov (.t 1)), none, []⟩,
    ⟨(some 22), (.bin .rem (.t 21) (.c (.int .u64 100000000))), none, []⟩,
    ⟨(some 23), (.conv .u32 (.t 22)), none, []⟩,
    ⟨(some 5), (.mov (.t 23)), none, []⟩] none)
  (.seq (.region [⟨(some 24), (.mov (.t 1)), none, []⟩,
    ⟨(some 25), (.bin .quo (.t 24) (.c (.int .u64 100000000))), none, []⟩,
    ⟨(some 1), (.mov (.t 25)), none, []⟩] none)
  (.seq (.region [⟨(some 26), (.mov (.t 5)), none, []⟩,
    ⟨(some 27), (.bin .quo (.t 26) (.c (.int .u32 10000))), none, []⟩,
    ⟨(some 28), (.mov (.t 5)), none, []⟩,
    ⟨(some 29), (.bin .rem (.t 28) (.c (.int .u32 10000))), none, []⟩,
    ⟨(some 6), (.mov (.t 27)), none, []⟩,
    ⟨(some 7), (.mov (.t 29)), none, []⟩] none)
  (.seq (.region [⟨(some 30), (.mov (.t 7)), none, []⟩,
    ⟨(some 31), (.bin .quo (.t 30) (.c (.int .u32 100))), none, []⟩,
    ⟨(some 32), (.bin .mul (.t 31) (.c (.int .u32 2))), none, []⟩,
    ⟨(some 33), (.mov (.t 7)), none, []⟩,
    ⟨(some 34), (.bin .rem (.t 33) (.c (.int .u32 100))), none, []⟩,
    ⟨(some 35), (.bin .mul (.t 34) (.c (.int .u32 2))), none, []⟩,
    ⟨(some 8), (.mov (.t 32)), none, []⟩,
    ⟨(some 9), (.mov (.t 35)), none, []⟩] none)
  (.seq (.region [⟨(some 36), (.mov (.t 6)), none, []⟩,
    ⟨(some 37), (.bin .quo (.t 36) (.c (.int .u32 100))), none, []⟩,
    ⟨(some 38), (.bin .mul (.t 37) (.c (.int .u32 2))), none, []⟩,
    ⟨(some 39), (.mov (.t 6)), none, []⟩,
    ⟨(some 40), (.bin .rem (.t 39) (.c (.int .u32 100))), none, []⟩,
    ⟨(some 41), (.bin .mul (.t 40) (.c (.int .u32 2))), none, []⟩,
    ⟨(some 10), (.mov (.t 38)), none, []⟩,
    ⟨(some 11), (.mov (.t 41)), none, []⟩] none)
  (.seq R123_0
  (.seq R123_1
  (.seq R123_2
  (.seq R123_3
  (.region [⟨(some 94), (.mov (.t 4)), none, []⟩,
    ⟨(some 95), (.bin .sub (.t 94) (.c (.int .i64 8))), none, []⟩,
    ⟨(some 4), (.mov (.t 95)), none, []⟩] none))))))))))))
def B123 : ACode := (.seq (.region [⟨(some 17), (.mov (.t 0)), none, []⟩,
    ⟨(some 18), (.lenSlice (.t 17)), none, []⟩,
    ⟨(some 4), (.mov (.t 18)), none, []⟩] none)
  (.seq (.block 0 (.loop F123L0))
  (.seq (.region [⟨(some 96), (.mov (.t 1)), none, []⟩,
    ⟨(some 97), (.conv .u32 (.t 96)), none, []⟩,
    ⟨(some 12), (.mov (.t 97)), none, []⟩] none)
  (.seq (.seq (.region [⟨(some 98), (.mov (.t 4)), none, []⟩,
    ⟨(some 99), (.bin .geq (.t 98) (.c (.int .i64 4))), none, []⟩] none)
  (.cond (.t 99)
  (.seq (.region [⟨(some 100), (.mov (.t 12)), none, []⟩,
    ⟨(some 101), (.bin .rem (.t 100) (.c (.int .u32 10000))), none, []⟩,
    ⟨(some 13), (.mov (.t 101)), none, []⟩] none)
  (.seq (.region [⟨(some 102), (.mov (.t 12)), none, []⟩,
    ⟨(some 103), (.bin .quo (.t 102) (.c (.int .u32 10000))), none, []⟩,
    ⟨(some 12), (.mov (.t 103)), none, []⟩] none)
  (.seq (.region [⟨(some 104), (.mov (.t 13)), none, []⟩,
    ⟨(some 105), (.bin .quo (.t 104) (.c (.int .u32 100))), none, []⟩,
    ⟨(some 106), (.bin .mul (.t 105) (.c (.int .u32 2))), none, []⟩,
    ⟨(some 107), (.mov (.t 13)), none, []⟩,
    ⟨(some 108), (.bin .rem (.t 107) (.c (.int .u32 100))), none, []⟩,
    ⟨(some 109), (.bin .mul (.t 108) (.c (.int .u32 2))), none, []⟩,
    ⟨(some 14), (.mov (.t 106)), none, []⟩,
    ⟨(some 15), (.mov (.t 109)), none, []⟩] none)
  (.seq R123_4
  (.seq R123_5
  (.region [⟨(some 136), (.mov (.t 4)), none, []⟩,
    ⟨(some 137), (.bin .sub (.t 136) (.c (.int .i64 4))), none, []⟩,
    ⟨(some 4), (.mov (.t 137)), none, []⟩] none))))))
  .skip))
  (.seq (.seq (.region [⟨(some 138), (.mov (.t 4)), none, []⟩,
    ⟨(some 139), (.bin .geq (.t 138) (.c (.int .i64 2))), none, []⟩] none)
  (.cond (.t 139)
  (.seq (.region [⟨(some 140), (.mov (.t 12)), none, []⟩,
    ⟨(some 141), (.bin .rem (.t 140) (.c (.int .u32 100))), none, []⟩,
    ⟨(some 142), (.bin .mul (.t 141) (.c (.int .u32 2))), none, []⟩,
    ⟨(some 16), (.mov (.t 142)), none, []⟩] none)
  (.seq (.region [⟨(some 143), (.mov (.t 12)), none, []⟩,
    ⟨(some 144), (.bin .quo (.t 143) (.c (.int .u32 100))), none, []⟩,
    ⟨(some 12), (.mov (.t 144)), none, []⟩] none)
  (.seq R123_6
  (.region [⟨(some 158), (.mov (.t 4)), none, []⟩,
    ⟨(some 159), (.bin .sub (.t 158) (.c (.int .i64 2))), none, []⟩,
    ⟨(some 4), (.mov (.t 159)), none, []⟩] none))))
  .skip))
  (.seq (.region [⟨(some 160), (.mov (.t 4)), none, []⟩,
    ⟨(some 161), (.bin .gtr (.t 160) (.c (.int .i64 0))), none, []⟩] none)
  (.cond (.t 161)
  (.region [⟨(some 162), (.mov (.t 0)), none, []⟩,
    ⟨(some 163), (.mov (.t 12)), none, []⟩,
    ⟨(some 164), (.bin .add (.c (.int .u32 48)) (.t 163)), none, []⟩,
    ⟨(some 165), (.conv .u8 (.t 164)), none, []⟩,
    ⟨(some 166), (.indexAddr 1 (.t 162) (.c (.int .i64 0))), none, []⟩,
    ⟨none, (.store 1 (.t 166) (.t 165)), none, []⟩] none)
  .skip)))))))
def F123 : AFunc := ⟨2, 167, [], B123⟩
-- F123L0 live: [0, 1, 4]
/-- internal/strconv.formatBits -/
def F124L0 : ACode := (.seq (.seq (.region [⟨(some 44), (.mov (.t 1)), none, []⟩,
    ⟨(some 45), (.mov (.t 15)), none, []⟩,
    ⟨(some 46), (.bin .geq (.t 44) (.t 45)), none, []⟩] none)
  (.cond (.t 46)
  .skip
  (.exit 0)))
  (.block 1 (.seq (.region [⟨(some 47), (.mov (.t 13)), none, []⟩,
    ⟨(some 48), (.bin .sub (.t 47) (.c (.int .i64 1))), none, []⟩,
    ⟨(some 13), (.mov (.t 48)), none, []⟩] none)
  (.seq (.region [⟨(some 49), (.mov (.t 13)), none, []⟩,
    ⟨(some 50), (.mov (.t 1)), none, []⟩,
    ⟨(some 51), (.mov (.t 16)), none, []⟩,
    ⟨(some 52), (.bin .and (.t 50) (.t 51)), none, []⟩,
    ⟨(some 53), (.indexStr (.c (.string ⟨#[48, 49, 50, 51, 52, 53, 54, 55, 56, 57, 97, 98, 99, 100, 101, 102, 103, 104, 105, 106, 107, 108, 109, 110, 111, 112, 113, 114, 115, 116, 117, 118, 119, 120, 121, 122]⟩)) (.t 52)), none, []⟩,
    ⟨(some 54), (.indexArr 1 65 (.t 12) (.t 49)), none, []⟩,
    ⟨none, (.store 1 (.t 54) (.t 53)), none, []⟩] none)
  (.region [⟨(some 55), (.mov (.t 1)), none, []⟩,
    ⟨(some 56), (.mov (.t 14)), none, []⟩,
    ⟨(some 57), (.bin .shr (.t 55) (.t 56)), none, []⟩,
    ⟨(some 1), (.mov (.t 57)), none, []⟩] none)))))
def F124L1 : ACode := (.seq (.seq (.region [⟨(some 66), (.mov (.t 1)), none, []⟩,
    ⟨(some 67), (.mov (.t 17)), none, []⟩,
    ⟨(some 68), (.bin .geq (.t 66) (.t 67)), none, []⟩] none)
  (.cond (.t 68)
  .skip
  (.exit 2)))
  (.block 3 (.seq (.region [⟨(some 69), (.mov (.t 13)), none, []⟩,
    ⟨(some 70), (.bin .sub (.t 69) (.c (.int .i64 1))), none, []⟩,
    ⟨(some 13), (.mov (.t 70)), none, []⟩] none)
  (.seq (.region [⟨(some 71), (.mov (.t 1)), none, []⟩,
    ⟨(some 72), (.mov (.t 17)), none, []⟩,
    ⟨(some 73), (.bin .quo (.t 71) (.t 72)), none, []⟩,
    ⟨(some 18), (.mov (.t 73)), none, []⟩] none)
  (.seq (.region [⟨(some 74), (.mov (.t 13)), none, []⟩,
    ⟨(some 75), (.mov (.t 1)), none, []⟩,
    ⟨(some 76), (.mov (.t 18)), none, []⟩,
    ⟨(some 77), (.mov (.t 17)), none, []⟩,
    ⟨(some 78), (.bin .mul (.t 76) (.t 77)), none, []⟩,
    ⟨(some 79), (.bin .sub (.t 75) (.t 78)), none, []⟩,
    ⟨(some 80), (.indexStr (.c (.string ⟨#[48, 49, 50, 51, 52, 53, 54, 55, 56, 57, 97, 98, 99, 100, 101, 102, 103, 104, 105, 106, 107, 108, 109, 110, 111, 112, 113, 114, 115, 116, 117, 118, 119, 120, 121, 122]⟩)) (.t 79)), none, []⟩,
    ⟨(some 81), (.indexArr 1 65 (.t 12) (.t 74)), none, []⟩,
    ⟨none, (.store 1 (.t 81) (.t 80)), none, []⟩] none)
  (.region [⟨(some 82), (.mov (.t 18)), none, []⟩,
    ⟨(some 1), (.mov (.t 82)), none, []⟩] none))))))
def B124 : ACode := (.seq (.region [⟨(some 10), (.mov (.c (.slice none 0 0))), none, []⟩,
    ⟨(some 11), (.mov (.c (.string ⟨#[]⟩))), none, []⟩] none)
  (.seq (.seq (.region [⟨(some 19), (.mov (.t 2)), none, []⟩,
    ⟨(some 20), (.bin .lss (.t 19) (.c (.int .i64 2))), none, []⟩,
    ⟨(some 21), (.mov (.t 20)), none, []⟩,
    ⟨(some 22), (.mov (.t 2)), (some (21, false)), []⟩,
    ⟨(some 23), (.bin .eql (.t 22) (.c (.int .i64 10))), (some (21, false)), []⟩,
    ⟨(some 24), (.pick (.t 21) (.c (.bool true)) (.t 23)), none, []⟩,
    ⟨(some 25), (.mov (.t 24)), none, []⟩,
    ⟨(some 26), (.mov (.t 2)), (some (25, false)), []⟩,
    ⟨(some 27), (.bin .gtr (.t 26) (.c (.int .i64 36))), (some (25, false)), []⟩,
    ⟨(some 28), (.pick (.t 25) (.c (.bool true)) (.t 27)), none, []⟩] none)
  (.cond (.t 28)
  (.region [⟨(some 29), (.makeIface 9 (.c (.string ⟨#[115, 116, 114, 99, 111, 110, 118, 58, 32, 105, 108, 108, 101, 103, 97, 108, 32, 65, 112, 112, 101, 110, 100, 73, 110, 116, 47, 70, 111, 114, 109, 97, 116, 73, 110, 116, 32, 98, 97, 115, 101]⟩))), none, []⟩,
    ⟨none, .fail, none, []⟩] none)
  .skip))
  (.seq (.region [⟨(some 12), (.alloc 167 [(.int .u8 0), (.int .u8 0), (.int .u8 0), (.int .u8 0), (.int .u8 0), (.int .u8 0), (.int .u8 0), (.int .u8 0), (.int .u8 0), (.int .u8 0), (.int .u8 0), (.int .u8 0), (.int .u8 0), (.int .u8 0), (.int .u8 0), (.int .u8 0), (.int .u8 0), (.int .u8 0), (.int .u8 0), (.int .u8 0), (.int .u8 0), (.int .u8 0), (.int .u8 0), (.int .u8 0), (.int .u8 0), (.int .u8 0), (.int .u8 0), (.int .u8 0), (.int .u8 0), (.int .u8 0), (.int .u8 0), (.int .u8 0), (.int .u8 0), (.int .u8 0), (.int .u8 0), (.int .u8 0), (.int .u8 0), (.int .u8 0), (.int .u8 0), (.int .u8 0), (.int .u8 0), (.int .u8 0), (.int .u8 0), (.int .u8 0), (.int .u8 0), (.int .u8 0), (.int .u8 0), (.int .u8 0), (.int .u8 0), (.int .u8 0), (.int .u8 0), (.int .u8 0), (.int .u8 0), (.int .u8 0), (.int .u8 0), (.int .u8 0), (.int .u8 0), (.int .u8 0), (.int .u8 0), (.int .u8 0), (.int .u8 0), (.int .u8 0), (.int .u8 0), (.int .u8 0), (.int .u8 0)]), none, []⟩] none)
  (.seq (.region [⟨(some 13), (.mov (.c (.int .i64 65))), none, []⟩] none)
  (.seq (.seq (.region [⟨(some 30), (.mov (.t 3)), none, []⟩] none)
  (.cond (.t 30)
  (.region [⟨(some 31), (.mov (.t 1)), none, []⟩,
    ⟨(some 32), (.un .neg (.t 31)), none, []⟩,
    ⟨(some 1), (.mov (.t 32)), none, []⟩] none)
  .skip))
  (.seq (.seq (.region [⟨(some 33), (.mov (.t 2)), none, []⟩,
    ⟨(some 34), (.call (.f 141) [(.t 33)]), none, []⟩] none)
  (.cond (.t 34)
  (.seq (.region [⟨(some 35), (.mov (.t 2)), none, []⟩,
    ⟨(some 36), (.conv .u64 (.t 35)), none, []⟩,
    ⟨(some 37), (.call (.f 142) [(.t 36)]), none, []⟩,
    ⟨(some 38), (.conv .u64 (.t 37)), none, []⟩,
    ⟨(some 14), (.mov (.t 38)), none, []⟩] none)
  (.seq (.region [⟨(some 39), (.mov (.t 2)), none, []⟩,
    ⟨(some 40), (.conv .u64 (.t 39)), none, []⟩,
    ⟨(some 15), (.mov (.t 40)), none, []⟩] none)
  (.seq (.region [⟨(some 41), (.mov (.t 2)), none, []⟩,
    ⟨(some 42), (.conv .u64 (.t 41)), none, []⟩,
    ⟨(some 43), (.bin .sub (.t 42) (.c (.int .u64 1))), none, []⟩,
    ⟨(some 16), (.mov (.t 43)), none, []⟩] none)
  (.seq (.block 0 (.loop F124L0))
  (.seq (.region [⟨(some 58), (.mov (.t 13)), none, []⟩,
    ⟨(some 59), (.bin .sub (.t 58) (.c (.int .i64 1))), none, []⟩,
    ⟨(some 13), (.mov (.t 59)), none, []⟩] none)
  (.region [⟨(some 60), (.mov (.t 13)), none, []⟩,
    ⟨(some 61), (.mov (.t 1)), none, []⟩,
    ⟨(some 62), (.indexStr (.c (.string ⟨#[48, 49, 50, 51, 52, 53, 54, 55, 56, 57, 97, 98, 99, 100, 101, 102, 103, 104, 105, 106, 107, 108, 109, 110, 111, 112, 113, 114, 115, 116, 117, 118, 119, 120, 121, 122]⟩)) (.t 61)), none, []⟩,
    ⟨(some 63), (.indexArr 1 65 (.t 12) (.t 60)), none, []⟩,
    ⟨none, (.store 1 (.t 63) (.t 62)), none, []⟩] none))))))
  (.seq (.region [⟨(some 64), (.mov (.t 2)), none, []⟩,
    ⟨(some 65), (.conv .u64 (.t 64)), none, []⟩,
    ⟨(some 17), (.mov (.t 65)), none, []⟩] none)
  (.seq (.block 2 (.loop F124L1))
  (.seq (.region [⟨(some 83), (.mov (.t 13)), none, []⟩,
    ⟨(some 84), (.bin .sub (.t 83) (.c (.int .i64 1))), none, []⟩,
    ⟨(some 13), (.mov (.t 84)), none, []⟩] none)
  (.region [⟨(some 85), (.mov (.t 13)), none, []⟩,
    ⟨(some 86), (.mov (.t 1)), none, []⟩,
    ⟨(some 87), (.indexStr (.c (.string ⟨#[48, 49, 50, 51, 52, 53, 54, 55, 56, 57, 97, 98, 99, 100, 101, 102, 103, 104, 105, 106, 107, 108, 109, 110, 111, 112, 113, 114, 115, 116, 117, 118, 119, 120, 121, 122]⟩)) (.t 86)), none, []⟩,
    ⟨(some 88), (.indexArr 1 65 (.t 12) (.t 85)), none, []⟩,
    ⟨none, (.store 1 (.t 88) (.t 87)), none, []⟩] none))))))
  (.seq (.seq (.region [⟨(some 89), (.mov (.t 3)), none, []⟩] none)
  (.cond (.t 89)
  (.seq (.region [⟨(some 90), (.mov (.t 13)), none, []⟩,
    ⟨(some 91), (.bin .sub (.t 90) (.c (.int .i64 1))), none, []⟩,
    ⟨(some 13), (.mov (.t 91)), none, []⟩] none)
  (.region [⟨(some 92), (.mov (.t 13)), none, []⟩,
    ⟨(some 93), (.indexArr 1 65 (.t 12) (.t 92)), none, []⟩,
    ⟨none, (.store 1 (.t 93) (.c (.int .u8 45))), none, []⟩] none))
  .skip))
  (.seq (.seq (.region [⟨(some 94), (.mov (.t 4)), none, []⟩] none)
  (.cond (.t 94)
  (.seq (.region [⟨(some 95), (.mov (.t 0)), none, []⟩,
    ⟨(some 96), (.mov (.t 13)), none, []⟩,
    ⟨(some 97), (.sliceArr 1 65 (.t 12) (some (.t 96)) none), none, []⟩,
    ⟨(some 98), (.append 5 1 1 (.t 95) (.t 97)), none, []⟩,
    ⟨(some 10), (.mov (.t 98)), none, []⟩] none)
  .ret)
  .skip))
  (.seq (.region [⟨(some 99), (.mov (.t 13)), none, []⟩,
    ⟨(some 100), (.sliceArr 1 65 (.t 12) (some (.t 99)) none), none, []⟩,
    ⟨(some 101), (.strOf (.t 100)), none, []⟩,
    ⟨(some 11), (.mov (.t 101)), none, []⟩] none)
  .ret)))))))))
def F124 : AFunc := ⟨5, 102, [(.tmp 10), (.tmp 11)], B124⟩
-- F124L0 live: [0, 1, 3, 4, 10, 11, 12, 13, 14, 15, 16]

-- F124L1 live: [0, 1, 3, 4, 10, 11, 12, 13, 17]
/-- (*strings.asciiSet).contains -/
def B125 : ACode := (.seq (.region [⟨(some 4), (.mov (.c (.bool false))), none, []⟩] none)
  (.seq (.region [⟨(some 5), (.mov (.t 0)), none, []⟩,
    ⟨(some 6), (.mov (.t 1)), none, []⟩,
    ⟨(some 7), (.nilCheck (.t 5)), none, []⟩,
    ⟨(some 8), (.indexArr 1 256 (.t 7) (.t 6)), none, []⟩,
    ⟨(some 9), (.load none (.t 8)), none, []⟩,
    ⟨(some 4), (.mov (.t 9)), none, []⟩] none)
  .ret))
def F125 : AFunc := ⟨2, 10, [(.tmp 4)], B125⟩
/-- internal/strconv.ParseInt -/
def B128 : ACode := (.seq (.region [⟨(some 6), (.mov (.c (.int .i64 0))), none, []⟩,
    ⟨(some 7), (.mov (.c .nilIface)), none, []⟩] none)
  (.seq (.seq (.region [⟨(some 12), (.mov (.t 0)), none, []⟩,
    ⟨(some 13), (.bin .eql (.t 12) (.c (.string ⟨#[]⟩))), none, []⟩] none)
  (.cond (.t 13)
  (.seq (.region [⟨(some 14), (.makeIface 155 (.c (.int .i64 2))), none, []⟩,
    ⟨(some 6), (.mov (.c (.int .i64 0))), none, []⟩,
    ⟨(some 7), (.mov (.t 14)), none, []⟩] none)
  .ret)
  .skip))
  (.seq (.region [⟨(some 8), (.mov (.c (.bool false))), none, []⟩] none)
  (.seq (.seq (.region [⟨(some 15), (.mov (.t 0)), none, []⟩,
    ⟨(some 16), (.indexStr (.t 15) (.c (.int .i64 0))), none, []⟩] none)
  (.block 0 (.seq (.region [⟨(some 18), (.bin .eql (.t 16) (.c (.int .u8 43))), none, []⟩,
    ⟨(some 17), (.mov (.t 18)), none, []⟩] none)
  (.cond (.t 17)
  (.region [⟨(some 19), (.mov (.t 0)), none, []⟩,
    ⟨(some 20), (.sliceStr (.t 19) (some (.c (.int .i64 1))) none), none, []⟩,
    ⟨(some 0), (.mov (.t 20)), none, []⟩] none)
  (.seq (.region [⟨(some 22), (.bin .eql (.t 16) (.c (.int .u8 45))), none, []⟩,
    ⟨(some 21), (.mov (.t 22)), none, []⟩] none)
  (.cond (.t 21)
  (.seq (.region [⟨(some 23), (.mov (.t 0)), none, []⟩,
    ⟨(some 24), (.sliceStr (.t 23) (some (.c (.int .i64 1))) none), none, []⟩,
    ⟨(some 0), (.mov (.t 24)), none, []⟩] none)
  (.region [⟨(some 8), (.mov (.c (.bool true))), none, []⟩] none))
  .skip))))))
  (.seq (.region [⟨(some 9), (.mov (.c (.int .u64 0))), none, []⟩] none)
  (.seq (.region [⟨(some 26), (.mov (.t 0)), none, []⟩,
    ⟨(some 27), (.mov (.t 1)), none, []⟩,
    ⟨(some 28), (.mov (.t 2)), none, []⟩,
    ⟨(some 29), (.call (.f 145) [(.t 26), (.t 27), (.t 28)]), none, []⟩,
    ⟨(some 25), (.mov (.t 29)), none, []⟩,
    ⟨(some 30), (.extract (.t 25) 0), none, []⟩,
    ⟨(some 31), (.extract (.t 25) 1), none, []⟩,
    ⟨(some 9), (.mov (.t 30)), none, []⟩,
    ⟨(some 7), (.mov (.t 31)), none, []⟩] none)
  (.seq (.seq (.region [⟨(some 32), (.mov (.t 7)), none, []⟩,
    ⟨(some 33), (.eqv true .iface true (.t 32) (.c .nilIface)), none, []⟩,
    ⟨(some 34), (.mov (.t 33)), none, []⟩,
    ⟨(some 35), (.mov (.t 7)), (some (34, true)), []⟩,
    ⟨(some 36), (.makeIface 155 (.c (.int .i64 1))), (some (34, true)), []⟩,
    ⟨(some 37), (.eqv true (.ifc [2, 3, 5, 6, 12, 21, 22, 23, 26, 85, 101, 155, 219, 242, 243, 245, 246]) false (.t 35) (.t 36)), (some (34, true)), []⟩,
    ⟨(some 38), (.pick (.t 34) (.t 37) (.c (.bool false))), none, []⟩] none)
  (.cond (.t 38)
  (.seq (.region [⟨(some 39), (.mov (.t 7)), none, []⟩,
    ⟨(some 6), (.mov (.c (.int .i64 0))), none, []⟩,
    ⟨(some 7), (.mov (.t 39)), none, []⟩] none)
  .ret)
  .skip))
  (.seq (.seq (.region [⟨(some 40), (.mov (.t 2)), none, []⟩,
    ⟨(some 41), (.bin .eql (.t 40) (.c (.int .i64 0))), none, []⟩] none)
  (.cond (.t 41)
  (.region [⟨(some 2), (.mov (.c (.int .i64 64))), none, []⟩] none)
  .skip))
  (.seq (.region [⟨(some 42), (.mov (.t 2)), none, []⟩,
    ⟨(some 43), (.bin .sub (.t 42) (.c (.int .i64 1))), none, []⟩,
    ⟨(some 44), (.conv .u64 (.t 43)), none, []⟩,
    ⟨(some 45), (.bin .shl (.c (.int .u64 1)) (.t 44)), none, []⟩,
    ⟨(some 10), (.mov (.t 45)), none, []⟩] none)
  (.seq (.seq (.region [⟨(some 46), (.mov (.t 8)), none, []⟩,
    ⟨(some 47), (.un .not (.t 46)), none, []⟩,
    ⟨(some 48), (.mov (.t 47)), none, []⟩,
    ⟨(some 49), (.mov (.t 9)), (some (48, true)), []⟩,
    ⟨(some 50), (.mov (.t 10)), (some (48, true)), []⟩,
    ⟨(some 51), (.bin .geq (.t 49) (.t 50)), (some (48, true)), []⟩,
    ⟨(some 52), (.pick (.t 48) (.t 51) (.c (.bool false))), none, []⟩] none)
  (.cond (.t 52)
  (.seq (.region [⟨(some 53), (.mov (.t 10)), none, []⟩,
    ⟨(some 54), (.bin .sub (.t 53) (.c (.int .u64 1))), none, []⟩,
    ⟨(some 55), (.conv .i64 (.t 54)), none, []⟩,
    ⟨(some 56), (.makeIface 155 (.c (.int .i64 1))), none, []⟩,
    ⟨(some 6), (.mov (.t 55)), none, []⟩,
    ⟨(some 7), (.mov (.t 56)), none, []⟩] none)
  .ret)
  .skip))
  (.seq (.seq (.region [⟨(some 57), (.mov (.t 8)), none, []⟩,
    ⟨(some 58), (.mov (.t 57)), none, []⟩,
    ⟨(some 59), (.mov (.t 9)), (some (58, true)), []⟩,
    ⟨(some 60), (.mov (.t 10)), (some (58, true)), []⟩,
    ⟨(some 61), (.bin .gtr (.t 59) (.t 60)), (some (58, true)), []⟩,
    ⟨(some 62), (.pick (.t 58) (.t 61) (.c (.bool false))), none, []⟩] none)
  (.cond (.t 62)
  (.seq (.region [⟨(some 63), (.mov (.t 10)), none, []⟩,
    ⟨(some 64), (.conv .i64 (.t 63)), none, []⟩,
    ⟨(some 65), (.un .neg (.t 64)), none, []⟩,
    ⟨(some 66), (.makeIface 155 (.c (.int .i64 1))), none, []⟩,
    ⟨(some 6), (.mov (.t 65)), none, []⟩,
    ⟨(some 7), (.mov (.t 66)), none, []⟩] none)
  .ret)
  .skip))
  (.seq (.region [⟨(some 67), (.mov (.t 9)), none, []⟩,
    ⟨(some 68), (.conv .i64 (.t 67)), none, []⟩,
    ⟨(some 11), (.mov (.t 68)), none, []⟩] none)
  (.seq (.seq (.region [⟨(some 69), (.mov (.t 8)), none, []⟩] none)
  (.cond (.t 69)
  (.region [⟨(some 70), (.mov (.t 11)), none, []⟩,
    ⟨(some 71), (.un .neg (.t 70)), none, []⟩,
    ⟨(some 11), (.mov (.t 71)), none, []⟩] none)
  .skip))
  (.seq (.region [⟨(some 72), (.mov (.t 11)), none, []⟩,
    ⟨(some 6), (.mov (.t 72)), none, []⟩,
    ⟨(some 7), (.mov (.c .nilIface)), none, []⟩] none)
  .ret))))))))))))))
def F128 : AFunc := ⟨3, 73, [(.tmp 6), (.tmp 7)], B128⟩
def R129_0 : ACode := .region [⟨(some 5), (.mov (.t 0)), none, []⟩,
    ⟨(some 6), (.mov (.t 1)), none, []⟩,
    ⟨(some 7), (.call (.f 146) [(.t 6)]), none, [1]⟩,
    ⟨(some 8), (.load none (.g 3)), none, []⟩,
    ⟨(some 9), (.build [(.string ⟨#[]⟩), (.string ⟨#[]⟩), .nilIface] [(0, 1, (.t 5)), (1, 1, (.t 7)), (2, 1, (.t 8))]), none, [0, 2, 3]⟩,
    ⟨(some 10), (.box 174 (.t 9)), none, [4]⟩,
    ⟨(some 4), (.mov (.t 10)), none, [5, 2, 0, 1, 2, 3, 4, 5]⟩] (some [(0, 1), (0, 2), (0, 3), (1, 3), (2, 3)])
/-- strconv.syntaxError -/
def B129 : ACode := (.seq (.region [⟨(some 4), (.mov (.c (.pointer none))), none, []⟩] none)
  (.seq R129_0
  .ret))
def F129 : AFunc := ⟨2, 11, [(.tmp 4)], B129⟩
def R130_0 : ACode := .region [⟨(some 5), (.mov (.t 0)), none, []⟩,
    ⟨(some 6), (.mov (.t 1)), none, []⟩,
    ⟨(some 7), (.call (.f 146) [(.t 6)]), none, [1]⟩,
    ⟨(some 8), (.load none (.g 4)), none, []⟩,
    ⟨(some 9), (.build [(.string ⟨#[]⟩), (.string ⟨#[]⟩), .nilIface] [(0, 1, (.t 5)), (1, 1, (.t 7)), (2, 1, (.t 8))]), none, [0, 2, 3]⟩,
    ⟨(some 10), (.box 174 (.t 9)), none, [4]⟩,
    ⟨(some 4), (.mov (.t 10)), none, [5, 2, 0, 1, 2, 3, 4, 5]⟩] (some [(0, 1), (0, 2), (0, 3), (1, 3), (2, 3)])
/-- strconv.rangeError -/
def B130 : ACode := (.seq (.region [⟨(some 4), (.mov (.c (.pointer none))), none, []⟩] none)
  (.seq R130_0
  .ret))
def F130 : AFunc := ⟨2, 11, [(.tmp 4)], B130⟩
/-- strconv.baseError -/
def B131 : ACode := (.seq (.region [⟨(some 6), (.mov (.c (.pointer none))), none, []⟩] none)
  (.seq (.region [⟨(some 7), (.mov (.t 0)), none, []⟩,
    ⟨(some 8), (.mov (.t 1)), none, []⟩,
    ⟨(some 9), (.call (.f 146) [(.t 8)]), none, []⟩,
    ⟨(some 10), (.mov (.t 2)), none, []⟩,
    ⟨(some 11), (.call (.f 47) [(.t 10)]), none, []⟩,
    ⟨(some 12), (.bin .add (.c (.string ⟨#[105, 110, 118, 97, 108, 105, 100, 32, 98, 97, 115, 101, 32]⟩)) (.t 11)), none, []⟩,
    ⟨(some 13), (.call (.f 147) [(.t 12)]), none, []⟩,
    ⟨(some 14), (.build [(.string ⟨#[]⟩), (.string ⟨#[]⟩), .nilIface] [(0, 1, (.t 7)), (1, 1, (.t 9)), (2, 1, (.t 13))]), none, []⟩,
    ⟨(some 15), (.box 174 (.t 14)), none, []⟩,
    ⟨(some 6), (.mov (.t 15)), none, []⟩] none)
  .ret))
def F131 : AFunc := ⟨3, 16, [(.tmp 6)], B131⟩
/-- strconv.bitSizeError -/
def B132 : ACode := (.seq (.region [⟨(some 6), (.mov (.c (.pointer none))), none, []⟩] none)
  (.seq (.region [⟨(some 7), (.mov (.t 0)), none, []⟩,
    ⟨(some 8), (.mov (.t 1)), none, []⟩,
    ⟨(some 9), (.call (.f 146) [(.t 8)]), none, []⟩,
    ⟨(some 10), (.mov (.t 2)), none, []⟩,
    ⟨(some 11), (.call (.f 47) [(.t 10)]), none, []⟩,
    ⟨(some 12), (.bin .add (.c (.string ⟨#[105, 110, 118, 97, 108, 105, 100, 32, 98, 105, 116, 32, 115, 105, 122, 101, 32]⟩)) (.t 11)), none, []⟩,
    ⟨(some 13), (.call (.f 147) [(.t 12)]), none, []⟩,
    ⟨(some 14), (.build [(.string ⟨#[]⟩), (.string ⟨#[]⟩), .nilIface] [(0, 1, (.t 7)), (1, 1, (.t 9)), (2, 1, (.t 13))]), none, []⟩,
    ⟨(some 15), (.box 174 (.t 14)), none, []⟩,
    ⟨(some 6), (.mov (.t 15)), none, []⟩] none)
  .ret))
def F132 : AFunc := ⟨3, 16, [(.tmp 6)], B132⟩
/-- strings.Count -/
def F134L0 : ACode := (.block 1 (.seq (.region [⟨(some 20), (.mov (.t 0)), none, []⟩,
    ⟨(some 21), (.mov (.t 1)), none, []⟩,
    ⟨(some 22), (.call (.f 135) [(.t 20), (.t 21)]), none, []⟩,
    ⟨(some 6), (.mov (.t 22)), none, []⟩] none)
  (.seq (.seq (.region [⟨(some 23), (.mov (.t 6)), none, []⟩,
    ⟨(some 24), (.bin .eql (.t 23) (.c (.int .i64 (-1)))), none, []⟩] none)
  (.cond (.t 24)
  (.seq (.region [⟨(some 25), (.mov (.t 5)), none, []⟩,
    ⟨(some 4), (.mov (.t 25)), none, []⟩] none)
  .ret)
  .skip))
  (.seq (.region [⟨(some 26), (.mov (.t 5)), none, []⟩,
    ⟨(some 27), (.bin .add (.t 26) (.c (.int .i64 1))), none, []⟩,
    ⟨(some 5), (.mov (.t 27)), none, []⟩] none)
  (.region [⟨(some 28), (.mov (.t 0)), none, []⟩,
    ⟨(some 29), (.mov (.t 6)), none, []⟩,
    ⟨(some 30), (.mov (.t 1)), none, []⟩,
    ⟨(some 31), (.lenStr (.t 30)), none, []⟩,
    ⟨(some 32), (.bin .add (.t 29) (.t 31)), none, []⟩,
    ⟨(some 33), (.sliceStr (.t 28) (some (.t 32)) none), none, []⟩,
    ⟨(some 0), (.mov (.t 33)), none, []⟩] none)))))
def B134 : ACode := (.seq (.region [⟨(some 4), (.mov (.c (.int .i64 0))), none, []⟩] none)
  (.seq (.seq (.region [⟨(some 7), (.mov (.t 1)), none, []⟩,
    ⟨(some 8), (.lenStr (.t 7)), none, []⟩,
    ⟨(some 9), (.bin .eql (.t 8) (.c (.int .i64 0))), none, []⟩] none)
  (.cond (.t 9)
  (.seq (.region [⟨(some 10), (.mov (.t 0)), none, []⟩,
    ⟨(some 11), (.call (.f 148) [(.t 10)]), none, []⟩,
    ⟨(some 12), (.bin .add (.t 11) (.c (.int .i64 1))), none, []⟩,
    ⟨(some 4), (.mov (.t 12)), none, []⟩] none)
  .ret)
  .skip))
  (.seq (.seq (.region [⟨(some 13), (.mov (.t 1)), none, []⟩,
    ⟨(some 14), (.lenStr (.t 13)), none, []⟩,
    ⟨(some 15), (.bin .eql (.t 14) (.c (.int .i64 1))), none, []⟩] none)
  (.cond (.t 15)
  (.seq (.region [⟨(some 16), (.mov (.t 0)), none, []⟩,
    ⟨(some 17), (.mov (.t 1)), none, []⟩,
    ⟨(some 18), (.indexStr (.t 17) (.c (.int .i64 0))), none, []⟩,
    ⟨(some 19), (.call (.f 149) [(.t 16), (.t 18)]), none, []⟩,
    ⟨(some 4), (.mov (.t 19)), none, []⟩] none)
  .ret)
  .skip))
  (.seq (.region [⟨(some 5), (.mov (.c (.int .i64 0))), none, []⟩] none)
  (.block 0 (.loop F134L0))))))
def F134 : AFunc := ⟨2, 34, [(.tmp 4)], B134⟩
-- F134L0 live: [0, 1, 5]
/-- strings.Index -/
def B135 : ACode := (.seq (.region [⟨(some 4), (.mov (.c (.int .i64 0))), none, []⟩] none)
  (.seq (.region [⟨(some 5), (.mov (.t 0)), none, []⟩,
    ⟨(some 6), (.mov (.t 1)), none, []⟩,
    ⟨(some 7), (.call (.f 98) [(.t 5), (.t 6)]), none, []⟩,
    ⟨(some 4), (.mov (.t 7)), none, []⟩] none)
  .ret))
def F135 : AFunc := ⟨2, 8, [(.tmp 4)], B135⟩
/-- internal/strconv.log10Pow2 -/
def B138 : ACode := (.seq (.region [⟨(some 2), (.mov (.c (.int .i64 0))), none, []⟩] none)
  (.seq (.region [⟨(some 3), (.mov (.t 0)), none, []⟩,
    ⟨(some 4), (.bin .mul (.t 3) (.c (.int .i64 78913))), none, []⟩,
    ⟨(some 5), (.bin .shr (.t 4) (.c (.int .u64 18))), none, []⟩,
    ⟨(some 2), (.mov (.t 5)), none, []⟩] none)
  .ret))
def F138 : AFunc := ⟨1, 6, [(.tmp 2)], B138⟩
/-- math/bits.Len64 -/
def B139 : ACode := (.seq (.region [⟨(some 2), (.mov (.c (.int .i64 0))), none, []⟩] none)
  (.seq (.seq (.region [⟨(some 3), (.mov (.t 0)), none, []⟩,
    ⟨(some 4), (.bin .geq (.t 3) (.c (.int .u64 4294967296))), none, []⟩] none)
  (.cond (.t 4)
  (.seq (.region [⟨(some 5), (.mov (.t 0)), none, []⟩,
    ⟨(some 6), (.bin .shr (.t 5) (.c (.int .u64 32))), none, []⟩,
    ⟨(some 0), (.mov (.t 6)), none, []⟩] none)
  (.region [⟨(some 2), (.mov (.c (.int .i64 32))), none, []⟩] none))
  .skip))
  (.seq (.seq (.region [⟨(some 7), (.mov (.t 0)), none, []⟩,
    ⟨(some 8), (.bin .geq (.t 7) (.c (.int .u64 65536))), none, []⟩] none)
  (.cond (.t 8)
  (.seq (.region [⟨(some 9), (.mov (.t 0)), none, []⟩,
    ⟨(some 10), (.bin .shr (.t 9) (.c (.int .u64 16))), none, []⟩,
    ⟨(some 0), (.mov (.t 10)), none, []⟩] none)
  (.region [⟨(some 11), (.mov (.t 2)), none, []⟩,
    ⟨(some 12), (.bin .add (.t 11) (.c (.int .i64 16))), none, []⟩,
    ⟨(some 2), (.mov (.t 12)), none, []⟩] none))
  .skip))
  (.seq (.seq (.region [⟨(some 13), (.mov (.t 0)), none, []⟩,
    ⟨(some 14), (.bin .geq (.t 13) (.c (.int .u64 256))), none, []⟩] none)
  (.cond (.t 14)
  (.seq (.region [⟨(some 15), (.mov (.t 0)), none, []⟩,
    ⟨(some 16), (.bin .shr (.t 15) (.c (.int .u64 8))), none, []⟩,
    ⟨(some 0), (.mov (.t 16)), none, []⟩] none)
  (.region [⟨(some 17), (.mov (.t 2)), none, []⟩,
    ⟨(some 18), (.bin .add (.t 17) (.c (.int .i64 8))), none, []⟩,
    ⟨(some 2), (.mov (.t 18)), none, []⟩] none))
  .skip))
  (.seq (.region [⟨(some 19), (.mov (.t 2)), none, []⟩,
    ⟨(some 20), (.mov (.t 0)), none, []⟩,
    ⟨(some 21), (.conv .u8 (.t 20)), none, []⟩,
    ⟨(some 22), (.indexStr (.c (.string ⟨#[0, 1, 2, 2, 3, 3, 3, 3, 4, 4, 4, 4, 4, 4, 4, 4, 5, 5, 5, 5, 5, 5, 5, 5, 5, 5, 5, 5, 5, 5, 5, 5, 6, 6, 6, 6, 6, 6, 6, 6, 6, 6, 6, 6, 6, 6, 6, 6, 6, 6, 6, 6, 6, 6, 6, 6, 6, 6, 6, 6, 6, 6, 6, 6, 7, 7, 7, 7, 7, 7, 7, 7, 7, 7, 7, 7, 7, 7, 7, 7, 7, 7, 7, 7, 7, 7, 7, 7, 7, 7, 7, 7, 7, 7, 7, 7, 7, 7, 7, 7, 7, 7, 7, 7, 7, 7, 7, 7, 7, 7, 7, 7, 7, 7, 7, 7, 7, 7, 7, 7, 7, 7, 7, 7, 7, 7, 7, 7, 8, 8, 8, 8, 8, 8, 8, 8, 8, 8, 8, 8, 8, 8, 8, 8, 8, 8, 8, 8, 8, 8, 8, 8, 8, 8, 8, 8, 8, 8, 8, 8, 8, 8, 8, 8, 8, 8, 8, 8, 8, 8, 8, 8, 8, 8, 8, 8, 8, 8, 8, 8, 8, 8, 8, 8, 8, 8, 8, 8, 8, 8, 8, 8, 8, 8, 8, 8, 8, 8, 8, 8, 8, 8, 8, 8, 8, 8, 8, 8, 8, 8, 8, 8, 8, 8, 8, 8, 8, 8, 8, 8, 8, 8, 8, 8, 8, 8, 8, 8, 8, 8, 8, 8, 8, 8, 8, 8, 8, 8, 8, 8, 8, 8, 8, 8, 8, 8, 8, 8, 8, 8, 8, 8, 8, 8, 8, 8]⟩)) (.t 21)), none, []⟩,
    ⟨(some 23), (.conv .i64 (.t 22)), none, []⟩,
    ⟨(some 24), (.bin .add (.t 19) (.t 23)), none, []⟩,
    ⟨(some 2), (.mov (.t 24)), none, []⟩] none)
  .ret)))))
def F139 : AFunc := ⟨1, 25, [(.tmp 2)], B139⟩
/-- internal/strconv.bool2[int] -/
def B140 : ACode := (.seq (.region [⟨(some 2), (.mov (.c (.int .i64 0))), none, []⟩] none)
  (.seq (.seq (.region [⟨(some 3), (.mov (.t 0)), none, []⟩] none)
  (.cond (.t 3)
  (.seq (.region [⟨(some 2), (.mov (.c (.int .i64 1))), none, []⟩] none)
  .ret)
  .skip))
  (.seq (.region [⟨(some 2), (.mov (.c (.int .i64 0))), none, []⟩] none)
  .ret)))
def F140 : AFunc := ⟨1, 4, [(.tmp 2)], B140⟩
/-- internal/strconv.isPowerOfTwo -/
def B141 : ACode := (.seq (.region [⟨(some 2), (.mov (.c (.bool false))), none, []⟩] none)
  (.seq (.region [⟨(some 3), (.mov (.t 0)), none, []⟩,
    ⟨(some 4), (.mov (.t 0)), none, []⟩,
    ⟨(some 5), (.bin .sub (.t 4) (.c (.int .i64 1))), none, []⟩,
    ⟨(some 6), (.bin .and (.t 3) (.t 5)), none, []⟩,
    ⟨(some 7), (.bin .eql (.t 6) (.c (.int .i64 0))), none, []⟩,
    ⟨(some 2), (.mov (.t 7)), none, []⟩] none)
  .ret))
def F141 : AFunc := ⟨1, 8, [(.tmp 2)], B141⟩
/-- math/bits.TrailingZeros -/
def B142 : ACode := (.seq (.region [⟨(some 2), (.mov (.c (.int .i64 0))), none, []⟩] none)
  (.seq (.cond (.c (.bool false))
  (.seq (.region [⟨(some 3), (.mov (.t 0)), none, []⟩,
    ⟨(some 4), (.conv .u32 (.t 3)), none, []⟩,
    ⟨(some 5), (.call (.f 152) [(.t 4)]), none, []⟩,
    ⟨(some 2), (.mov (.t 5)), none, []⟩] none)
  .ret)
  .skip)
  (.seq (.region [⟨(some 6), (.mov (.t 0)), none, []⟩,
    ⟨(some 7), (.call (.f 153) [(.t 6)]), none, []⟩,
    ⟨(some 2), (.mov (.t 7)), none, []⟩] none)
  .ret)))
def F142 : AFunc := ⟨1, 8, [(.tmp 2)], B142⟩
/-- internal/strconv.ParseUint -/
def F145L0 : ACode := (.seq (.region [⟨(some 102), (.bin .lss (.t 101) (.t 100)), none, []⟩] none)
  (.seq (.cond (.t 102)
  .skip
  (.exit 3))
  (.seq (.block 4 (.seq (.region [⟨(some 103), (.indexAddr 1 (.t 99) (.t 101)), none, []⟩,
    ⟨(some 104), (.load none (.t 103)), none, []⟩,
    ⟨(some 15), (.mov (.t 104)), none, []⟩] none)
  (.seq (.region [⟨(some 16), (.mov (.c (.int .u8 0))), none, []⟩] none)
  (.seq (.block 5 (.seq (.region [⟨(some 107), (.mov (.t 15)), none, []⟩,
    ⟨(some 108), (.bin .eql (.t 107) (.c (.int .u8 95))), none, []⟩,
    ⟨(some 109), (.mov (.t 108)), none, []⟩,
    ⟨(some 110), (.mov (.t 8)), (some (109, true)), []⟩,
    ⟨(some 111), (.pick (.t 109) (.t 110) (.c (.bool false))), none, []⟩,
    ⟨(some 106), (.mov (.t 111)), none, []⟩] none)
  (.cond (.t 106)
  (.seq (.region [⟨(some 12), (.mov (.c (.bool true))), none, []⟩] none)
  (.exit 4))
  (.seq (.region [⟨(some 113), (.mov (.t 15)), none, []⟩,
    ⟨(some 114), (.bin .leq (.c (.int .u8 48)) (.t 113)), none, []⟩,
    ⟨(some 115), (.mov (.t 114)), none, []⟩,
    ⟨(some 116), (.mov (.t 15)), (some (115, true)), []⟩,
    ⟨(some 117), (.bin .leq (.t 116) (.c (.int .u8 57))), (some (115, true)), []⟩,
    ⟨(some 118), (.pick (.t 115) (.t 117) (.c (.bool false))), none, []⟩,
    ⟨(some 112), (.mov (.t 118)), none, []⟩] none)
  (.cond (.t 112)
  (.region [⟨(some 119), (.mov (.t 15)), none, []⟩,
    ⟨(some 120), (.bin .sub (.t 119) (.c (.int .u8 48))), none, []⟩,
    ⟨(some 16), (.mov (.t 120)), none, []⟩] none)
  (.seq (.region [⟨(some 122), (.mov (.t 15)), none, []⟩,
    ⟨(some 123), (.call (.f 154) [(.t 122)]), none, []⟩,
    ⟨(some 124), (.bin .leq (.c (.int .u8 97)) (.t 123)), none, []⟩,
    ⟨(some 125), (.mov (.t 124)), none, []⟩,
    ⟨(some 126), (.mov (.t 15)), (some (125, true)), []⟩,
    ⟨(some 127), (.call (.f 154) [(.t 126)]), (some (125, true)), []⟩,
    ⟨(some 128), (.bin .leq (.t 127) (.c (.int .u8 122))), (some (125, true)), []⟩,
    ⟨(some 129), (.pick (.t 125) (.t 128) (.c (.bool false))), none, []⟩,
    ⟨(some 121), (.mov (.t 129)), none, []⟩] none)
  (.cond (.t 121)
  (.region [⟨(some 130), (.mov (.t 15)), none, []⟩,
    ⟨(some 131), (.call (.f 154) [(.t 130)]), none, []⟩,
    ⟨(some 132), (.bin .sub (.t 131) (.c (.int .u8 97))), none, []⟩,
    ⟨(some 133), (.bin .add (.t 132) (.c (.int .u8 10))), none, []⟩,
    ⟨(some 16), (.mov (.t 133)), none, []⟩] none)
  (.seq (.region [⟨(some 105), (.makeIface 155 (.c (.int .i64 2))), none, []⟩,
    ⟨(some 6), (.mov (.c (.int .u64 0))), none, []⟩,
    ⟨(some 7), (.mov (.t 105)), none, []⟩] none)
  .ret))))))))
  (.seq (.seq (.region [⟨(some 134), (.mov (.t 16)), none, []⟩,
    ⟨(some 135), (.mov (.t 1)), none, []⟩,
    ⟨(some 136), (.conv .u8 (.t 135)), none, []⟩,
    ⟨(some 137), (.bin .geq (.t 134) (.t 136)), none, []⟩] none)
  (.cond (.t 137)
  (.seq (.region [⟨(some 138), (.makeIface 155 (.c (.int .i64 2))), none, []⟩,
    ⟨(some 6), (.mov (.c (.int .u64 0))), none, []⟩,
    ⟨(some 7), (.mov (.t 138)), none, []⟩] none)
  .ret)
  .skip))
  (.seq (.seq (.region [⟨(some 139), (.mov (.t 13)), none, []⟩,
    ⟨(some 140), (.mov (.t 10)), none, []⟩,
    ⟨(some 141), (.bin .geq (.t 139) (.t 140)), none, []⟩] none)
  (.cond (.t 141)
  (.seq (.region [⟨(some 142), (.mov (.t 11)), none, []⟩,
    ⟨(some 143), (.makeIface 155 (.c (.int .i64 1))), none, []⟩,
    ⟨(some 6), (.mov (.t 142)), none, []⟩,
    ⟨(some 7), (.mov (.t 143)), none, []⟩] none)
  .ret)
  .skip))
  (.seq (.region [⟨(some 144), (.mov (.t 13)), none, []⟩,
    ⟨(some 145), (.mov (.t 1)), none, []⟩,
    ⟨(some 146), (.conv .u64 (.t 145)), none, []⟩,
    ⟨(some 147), (.bin .mul (.t 144) (.t 146)), none, []⟩,
    ⟨(some 13), (.mov (.t 147)), none, []⟩] none)
  (.seq (.region [⟨(some 148), (.mov (.t 13)), none, []⟩,
    ⟨(some 149), (.mov (.t 16)), none, []⟩,
    ⟨(some 150), (.conv .u64 (.t 149)), none, []⟩,
    ⟨(some 151), (.bin .add (.t 148) (.t 150)), none, []⟩,
    ⟨(some 17), (.mov (.t 151)), none, []⟩] none)
  (.seq (.seq (.region [⟨(some 152), (.mov (.t 17)), none, []⟩,
    ⟨(some 153), (.mov (.t 13)), none, []⟩,
    ⟨(some 154), (.bin .lss (.t 152) (.t 153)), none, []⟩,
    ⟨(some 155), (.mov (.t 154)), none, []⟩,
    ⟨(some 156), (.mov (.t 17)), (some (155, false)), []⟩,
    ⟨(some 157), (.mov (.t 11)), (some (155, false)), []⟩,
    ⟨(some 158), (.bin .gtr (.t 156) (.t 157)), (some (155, false)), []⟩,
    ⟨(some 159), (.pick (.t 155) (.c (.bool true)) (.t 158)), none, []⟩] none)
  (.cond (.t 159)
  (.seq (.region [⟨(some 160), (.mov (.t 11)), none, []⟩,
    ⟨(some 161), (.makeIface 155 (.c (.int .i64 1))), none, []⟩,
    ⟨(some 6), (.mov (.t 160)), none, []⟩,
    ⟨(some 7), (.mov (.t 161)), none, []⟩] none)
  .ret)
  .skip))
  (.region [⟨(some 162), (.mov (.t 17)), none, []⟩,
    ⟨(some 13), (.mov (.t 162)), none, []⟩] none))))))))))
  (.region [⟨(some 163), (.bin .add (.t 101) (.c (.int .i64 1))), none, []⟩,
    ⟨(some 101), (.mov (.t 163)), none, []⟩] none))))
def B145 : ACode := (.seq (.region [⟨(some 6), (.mov (.c (.int .u64 0))), none, []⟩,
    ⟨(some 7), (.mov (.c .nilIface)), none, []⟩] none)
  (.seq (.seq (.region [⟨(some 18), (.mov (.t 0)), none, []⟩,
    ⟨(some 19), (.bin .eql (.t 18) (.c (.string ⟨#[]⟩))), none, []⟩] none)
  (.cond (.t 19)
  (.seq (.region [⟨(some 20), (.makeIface 155 (.c (.int .i64 2))), none, []⟩,
    ⟨(some 6), (.mov (.c (.int .u64 0))), none, []⟩,
    ⟨(some 7), (.mov (.t 20)), none, []⟩] none)
  .ret)
  .skip))
  (.seq (.region [⟨(some 21), (.mov (.t 1)), none, []⟩,
    ⟨(some 22), (.bin .eql (.t 21) (.c (.int .i64 0))), none, []⟩,
    ⟨(some 8), (.mov (.t 22)), none, []⟩] none)
  (.seq (.region [⟨(some 23), (.mov (.t 0)), none, []⟩,
    ⟨(some 9), (.mov (.t 23)), none, []⟩] none)
  (.seq (.block 0 (.seq (.region [⟨(some 26), (.mov (.t 1)), none, []⟩,
    ⟨(some 27), (.bin .leq (.c (.int .i64 2)) (.t 26)), none, []⟩,
    ⟨(some 28), (.mov (.t 27)), none, []⟩,
    ⟨(some 29), (.mov (.t 1)), (some (28, true)), []⟩,
    ⟨(some 30), (.bin .leq (.t 29) (.c (.int .i64 36))), (some (28, true)), []⟩,
    ⟨(some 31), (.pick (.t 28) (.t 30) (.c (.bool false))), none, []⟩,
    ⟨(some 25), (.mov (.t 31)), none, []⟩] none)
  (.cond (.t 25)
  .skip
  (.seq (.region [⟨(some 33), (.mov (.t 1)), none, []⟩,
    ⟨(some 34), (.bin .eql (.t 33) (.c (.int .i64 0))), none, []⟩,
    ⟨(some 32), (.mov (.t 34)), none, []⟩] none)
  (.cond (.t 32)
  (.seq (.region [⟨(some 1), (.mov (.c (.int .i64 10))), none, []⟩] none)
  (.seq (.region [⟨(some 35), (.mov (.t 0)), none, []⟩,
    ⟨(some 36), (.indexStr (.t 35) (.c (.int .i64 0))), none, []⟩,
    ⟨(some 37), (.bin .eql (.t 36) (.c (.int .u8 48))), none, []⟩] none)
  (.cond (.t 37)
  (.block 1 (.seq (.region [⟨(some 41), (.mov (.t 0)), none, []⟩,
    ⟨(some 42), (.lenStr (.t 41)), none, []⟩,
    ⟨(some 43), (.bin .geq (.t 42) (.c (.int .i64 3))), none, []⟩,
    ⟨(some 44), (.mov (.t 43)), none, []⟩,
    ⟨(some 45), (.mov (.t 0)), (some (44, true)), []⟩,
    ⟨(some 46), (.indexStr (.t 45) (.c (.int .i64 1))), (some (44, true)), []⟩,
    ⟨(some 47), (.call (.f 154) [(.t 46)]), (some (44, true)), []⟩,
    ⟨(some 48), (.bin .eql (.t 47) (.c (.int .u8 98))), (some (44, true)), []⟩,
    ⟨(some 49), (.pick (.t 44) (.t 48) (.c (.bool false))), none, []⟩,
    ⟨(some 40), (.mov (.t 49)), none, []⟩] none)
  (.cond (.t 40)
  (.seq (.region [⟨(some 1), (.mov (.c (.int .i64 2))), none, []⟩] none)
  (.region [⟨(some 50), (.mov (.t 0)), none, []⟩,
    ⟨(some 51), (.sliceStr (.t 50) (some (.c (.int .i64 2))) none), none, []⟩,
    ⟨(some 0), (.mov (.t 51)), none, []⟩] none))
  (.seq (.region [⟨(some 53), (.mov (.t 0)), none, []⟩,
    ⟨(some 54), (.lenStr (.t 53)), none, []⟩,
    ⟨(some 55), (.bin .geq (.t 54) (.c (.int .i64 3))), none, []⟩,
    ⟨(some 56), (.mov (.t 55)), none, []⟩,
    ⟨(some 57), (.mov (.t 0)), (some (56, true)), []⟩,
    ⟨(some 58), (.indexStr (.t 57) (.c (.int .i64 1))), (some (56, true)), []⟩,
    ⟨(some 59), (.call (.f 154) [(.t 58)]), (some (56, true)), []⟩,
    ⟨(some 60), (.bin .eql (.t 59) (.c (.int .u8 111))), (some (56, true)), []⟩,
    ⟨(some 61), (.pick (.t 56) (.t 60) (.c (.bool false))), none, []⟩,
    ⟨(some 52), (.mov (.t 61)), none, []⟩] none)
  (.cond (.t 52)
  (.seq (.region [⟨(some 1), (.mov (.c (.int .i64 8))), none, []⟩] none)
  (.region [⟨(some 62), (.mov (.t 0)), none, []⟩,
    ⟨(some 63), (.sliceStr (.t 62) (some (.c (.int .i64 2))) none), none, []⟩,
    ⟨(some 0), (.mov (.t 63)), none, []⟩] none))
  (.seq (.region [⟨(some 65), (.mov (.t 0)), none, []⟩,
    ⟨(some 66), (.lenStr (.t 65)), none, []⟩,
    ⟨(some 67), (.bin .geq (.t 66) (.c (.int .i64 3))), none, []⟩,
    ⟨(some 68), (.mov (.t 67)), none, []⟩,
    ⟨(some 69), (.mov (.t 0)), (some (68, true)), []⟩,
    ⟨(some 70), (.indexStr (.t 69) (.c (.int .i64 1))), (some (68, true)), []⟩,
    ⟨(some 71), (.call (.f 154) [(.t 70)]), (some (68, true)), []⟩,
    ⟨(some 72), (.bin .eql (.t 71) (.c (.int .u8 120))), (some (68, true)), []⟩,
    ⟨(some 73), (.pick (.t 68) (.t 72) (.c (.bool false))), none, []⟩,
    ⟨(some 64), (.mov (.t 73)), none, []⟩] none)
  (.cond (.t 64)
  (.seq (.region [⟨(some 1), (.mov (.c (.int .i64 16))), none, []⟩] none)
  (.region [⟨(some 74), (.mov (.t 0)), none, []⟩,
    ⟨(some 75), (.sliceStr (.t 74) (some (.c (.int .i64 2))) none), none, []⟩,
    ⟨(some 0), (.mov (.t 75)), none, []⟩] none))
  (.seq (.region [⟨(some 1), (.mov (.c (.int .i64 8))), none, []⟩] none)
  (.region [⟨(some 38), (.mov (.t 0)), none, []⟩,
    ⟨(some 39), (.sliceStr (.t 38) (some (.c (.int .i64 1))) none), none, []⟩,
    ⟨(some 0), (.mov (.t 39)), none, []⟩] none)))))))))
  .skip)))
  (.seq (.region [⟨(some 24), (.makeIface 155 (.c (.int .i64 3))), none, []⟩,
    ⟨(some 6), (.mov (.c (.int .u64 0))), none, []⟩,
    ⟨(some 7), (.mov (.t 24)), none, []⟩] none)
  .ret))))))
  (.seq (.seq (.region [⟨(some 76), (.mov (.t 2)), none, []⟩,
    ⟨(some 77), (.bin .eql (.t 76) (.c (.int .i64 0))), none, []⟩] none)
  (.cond (.t 77)
  (.region [⟨(some 2), (.mov (.c (.int .i64 64))), none, []⟩] none)
  (.seq (.region [⟨(some 78), (.mov (.t 2)), none, []⟩,
    ⟨(some 79), (.bin .lss (.t 78) (.c (.int .i64 0))), none, []⟩,
    ⟨(some 80), (.mov (.t 79)), none, []⟩,
    ⟨(some 81), (.mov (.t 2)), (some (80, false)), []⟩,
    ⟨(some 82), (.bin .gtr (.t 81) (.c (.int .i64 64))), (some (80, false)), []⟩,
    ⟨(some 83), (.pick (.t 80) (.c (.bool true)) (.t 82)), none, []⟩] none)
  (.cond (.t 83)
  (.seq (.region [⟨(some 84), (.makeIface 155 (.c (.int .i64 4))), none, []⟩,
    ⟨(some 6), (.mov (.c (.int .u64 0))), none, []⟩,
    ⟨(some 7), (.mov (.t 84)), none, []⟩] none)
  .ret)
  .skip))))
  (.seq (.region [⟨(some 10), (.mov (.c (.int .u64 0))), none, []⟩] none)
  (.seq (.seq (.region [⟨(some 85), (.mov (.t 1)), none, []⟩] none)
  (.block 2 (.seq (.region [⟨(some 91), (.bin .eql (.t 85) (.c (.int .i64 10))), none, []⟩,
    ⟨(some 90), (.mov (.t 91)), none, []⟩] none)
  (.cond (.t 90)
  (.region [⟨(some 10), (.mov (.c (.int .u64 1844674407370955162))), none, []⟩] none)
  (.seq (.region [⟨(some 93), (.bin .eql (.t 85) (.c (.int .i64 16))), none, []⟩,
    ⟨(some 92), (.mov (.t 93)), none, []⟩] none)
  (.cond (.t 92)
  (.region [⟨(some 10), (.mov (.c (.int .u64 1152921504606846976))), none, []⟩] none)
  (.region [⟨(some 86), (.mov (.t 1)), none, []⟩,
    ⟨(some 87), (.conv .u64 (.t 86)), none, []⟩,
    ⟨(some 88), (.bin .quo (.c (.int .u64 18446744073709551615)) (.t 87)), none, []⟩,
    ⟨(some 89), (.bin .add (.t 88) (.c (.int .u64 1))), none, []⟩,
    ⟨(some 10), (.mov (.t 89)), none, []⟩] none)))))))
  (.seq (.region [⟨(some 94), (.mov (.t 2)), none, []⟩,
    ⟨(some 95), (.conv .u64 (.t 94)), none, []⟩,
    ⟨(some 96), (.bin .shl (.c (.int .u64 1)) (.t 95)), none, []⟩,
    ⟨(some 97), (.bin .sub (.t 96) (.c (.int .u64 1))), none, []⟩,
    ⟨(some 11), (.mov (.t 97)), none, []⟩] none)
  (.seq (.region [⟨(some 12), (.mov (.c (.bool false))), none, []⟩] none)
  (.seq (.region [⟨(some 13), (.mov (.c (.int .u64 0))), none, []⟩] none)
  (.seq (.seq (.region [⟨(some 98), (.mov (.t 0)), none, []⟩,
    ⟨(some 99), (.bytesOf 5 (.t 98)), none, []⟩,
    ⟨(some 100), (.lenSlice (.t 99)), none, []⟩,
    ⟨(some 101), (.mov (.c (.int .i64 0))), none, []⟩] none)
  (.block 3 (.loop F145L0)))
  (.seq (.seq (.region [⟨(some 164), (.mov (.t 12)), none, []⟩,
    ⟨(some 165), (.mov (.t 164)), none, []⟩,
    ⟨(some 166), (.mov (.t 9)), (some (165, true)), []⟩,
    ⟨(some 167), (.call (.f 155) [(.t 166)]), (some (165, true)), []⟩,
    ⟨(some 168), (.un .not (.t 167)), (some (165, true)), []⟩,
    ⟨(some 169), (.pick (.t 165) (.t 168) (.c (.bool false))), none, []⟩] none)
  (.cond (.t 169)
  (.seq (.region [⟨(some 170), (.makeIface 155 (.c (.int .i64 2))), none, []⟩,
    ⟨(some 6), (.mov (.c (.int .u64 0))), none, []⟩,
    ⟨(some 7), (.mov (.t 170)), none, []⟩] none)
  .ret)
  .skip))
  (.seq (.region [⟨(some 171), (.mov (.t 13)), none, []⟩,
    ⟨(some 6), (.mov (.t 171)), none, []⟩,
    ⟨(some 7), (.mov (.c .nilIface)), none, []⟩] none)
  .ret))))))))))))))
def F145 : AFunc := ⟨3, 172, [(.tmp 6), (.tmp 7)], B145⟩
-- F145L0 live: [1, 8, 9, 10, 11, 12, 13, 99, 100, 101]
/-- internal/stringslite.Clone -/
def B146 : ACode := (.seq (.region [⟨(some 2), (.mov (.c (.string ⟨#[]⟩))), none, []⟩] none)
  (.seq (.seq (.region [⟨(some 4), (.mov (.t 0)), none, []⟩,
    ⟨(some 5), (.lenStr (.t 4)), none, []⟩,
    ⟨(some 6), (.bin .eql (.t 5) (.c (.int .i64 0))), none, []⟩] none)
  (.cond (.t 6)
  (.seq (.region [⟨(some 2), (.mov (.c (.string ⟨#[]⟩))), none, []⟩] none)
  .ret)
  .skip))
  (.seq (.region [⟨(some 7), (.mov (.t 0)), none, []⟩,
    ⟨(some 8), (.lenStr (.t 7)), none, []⟩,
    ⟨(some 9), (.makeSlice 5 1 1 [(.int .u8 0)] (.t 8) (.t 8)), none, []⟩,
    ⟨(some 3), (.mov (.t 9)), none, []⟩] none)
  (.seq (.region [⟨(some 10), (.mov (.t 3)), none, []⟩,
    ⟨(some 11), (.mov (.t 0)), none, []⟩,
    ⟨(some 12), (.copy 1 (.t 10) (.t 11)), none, []⟩] none)
  (.seq (.region [⟨(some 13), (.mov (.t 3)), none, []⟩,
    ⟨(some 14), (.indexAddr 1 (.t 13) (.c (.int .i64 0))), none, []⟩,
    ⟨(some 15), (.mov (.t 3)), none, []⟩,
    ⟨(some 16), (.lenSlice (.t 15)), none, []⟩,
    ⟨(some 17), (.unsafeString 5 (.t 14) (.t 16)), none, []⟩,
    ⟨(some 2), (.mov (.t 17)), none, []⟩] none)
  .ret)))))
def F146 : AFunc := ⟨1, 18, [(.tmp 2)], B146⟩
/-- errors.New -/
def B147 : ACode := (.seq (.region [⟨(some 2), (.mov (.c .nilIface)), none, []⟩] none)
  (.seq (.region [⟨(some 3), (.mov (.t 0)), none, []⟩,
    ⟨(some 4), (.build [(.string ⟨#[]⟩)] [(0, 1, (.t 3))]), none, []⟩,
    ⟨(some 5), (.box 188 (.t 4)), none, []⟩,
    ⟨(some 6), (.makeIface 186 (.t 5)), none, []⟩,
    ⟨(some 2), (.mov (.t 6)), none, []⟩] none)
  .ret))
def F147 : AFunc := ⟨1, 7, [(.tmp 2)], B147⟩
/-- unicode/utf8.RuneCountInString -/
def F148L0 : ACode := (.seq (.region [⟨(some 5), (.nextStr (.t 4)), none, []⟩,
    ⟨(some 6), (.extract (.t 5) 0), none, []⟩] none)
  (.seq (.cond (.t 6)
  .skip
  (.exit 0))
  (.block 1 (.region [⟨(some 7), (.mov (.t 2)), none, []⟩,
    ⟨(some 8), (.bin .add (.t 7) (.c (.int .i64 1))), none, []⟩,
    ⟨(some 2), (.mov (.t 8)), none, []⟩] none))))
def B148 : ACode := (.seq (.region [⟨(some 2), (.mov (.c (.int .i64 0))), none, []⟩] none)
  (.seq (.seq (.region [⟨(some 3), (.mov (.t 0)), none, []⟩,
    ⟨(some 4), (.rangeStr (.t 3)), none, []⟩] none)
  (.block 0 (.loop F148L0)))
  (.seq (.region [⟨(some 9), (.mov (.t 2)), none, []⟩,
    ⟨(some 2), (.mov (.t 9)), none, []⟩] none)
  .ret)))
def F148 : AFunc := ⟨1, 10, [(.tmp 2)], B148⟩
-- F148L0 live: [2, 4]
/-- math/bits.TrailingZeros32 -/
def B152 : ACode := (.seq (.region [⟨(some 2), (.mov (.c (.int .i64 0))), none, []⟩] none)
  (.seq (.seq (.region [⟨(some 3), (.mov (.t 0)), none, []⟩,
    ⟨(some 4), (.bin .eql (.t 3) (.c (.int .u32 0))), none, []⟩] none)
  (.cond (.t 4)
  (.seq (.region [⟨(some 2), (.mov (.c (.int .i64 32))), none, []⟩] none)
  .ret)
  .skip))
  (.seq (.region [⟨(some 5), (.mov (.t 0)), none, []⟩,
    ⟨(some 6), (.mov (.t 0)), none, []⟩,
    ⟨(some 7), (.un .neg (.t 6)), none, []⟩,
    ⟨(some 8), (.bin .and (.t 5) (.t 7)), none, []⟩,
    ⟨(some 9), (.bin .mul (.t 8) (.c (.int .u32 125613361))), none, []⟩,
    ⟨(some 10), (.bin .shr (.t 9) (.c (.int .u64 27))), none, []⟩,
    ⟨(some 11), (.indexArr 1 32 (.g 10) (.t 10)), none, []⟩,
    ⟨(some 12), (.load none (.t 11)), none, []⟩,
    ⟨(some 13), (.conv .i64 (.t 12)), none, []⟩,
    ⟨(some 2), (.mov (.t 13)), none, []⟩] none)
  .ret)))
def F152 : AFunc := ⟨1, 14, [(.tmp 2)], B152⟩
/-- math/bits.TrailingZeros64 -/
def B153 : ACode := (.seq (.region [⟨(some 2), (.mov (.c (.int .i64 0))), none, []⟩] none)
  (.seq (.seq (.region [⟨(some 3), (.mov (.t 0)), none, []⟩,
    ⟨(some 4), (.bin .eql (.t 3) (.c (.int .u64 0))), none, []⟩] none)
  (.cond (.t 4)
  (.seq (.region [⟨(some 2), (.mov (.c (.int .i64 64))), none, []⟩] none)
  .ret)
  .skip))
  (.seq (.region [⟨(some 5), (.mov (.t 0)), none, []⟩,
    ⟨(some 6), (.mov (.t 0)), none, []⟩,
    ⟨(some 7), (.un .neg (.t 6)), none, []⟩,
    ⟨(some 8), (.bin .and (.t 5) (.t 7)), none, []⟩,
    ⟨(some 9), (.bin .mul (.t 8) (.c (.int .u64 285870213051353865))), none, []⟩,
    ⟨(some 10), (.bin .shr (.t 9) (.c (.int .u64 58))), none, []⟩,
    ⟨(some 11), (.indexArr 1 64 (.g 11) (.t 10)), none, []⟩,
    ⟨(some 12), (.load none (.t 11)), none, []⟩,
    ⟨(some 13), (.conv .i64 (.t 12)), none, []⟩,
    ⟨(some 2), (.mov (.t 13)), none, []⟩] none)
  .ret)))
def F153 : AFunc := ⟨1, 14, [(.tmp 2)], B153⟩
/-- internal/strconv.lower -/
def B154 : ACode := (.seq (.region [⟨(some 2), (.mov (.c (.int .u8 0))), none, []⟩] none)
  (.seq (.region [⟨(some 3), (.mov (.t 0)), none, []⟩,
    ⟨(some 4), (.bin .or (.t 3) (.c (.int .u8 32))), none, []⟩,
    ⟨(some 2), (.mov (.t 4)), none, []⟩] none)
  .ret))
def F154 : AFunc := ⟨1, 5, [(.tmp 2)], B154⟩
/-- internal/strconv.underscoreOK -/
def F155L0 : ACode := (.seq (.seq (.region [⟨(some 51), (.mov (.t 4)), none, []⟩,
    ⟨(some 52), (.mov (.t 0)), none, []⟩,
    ⟨(some 53), (.lenStr (.t 52)), none, []⟩,
    ⟨(some 54), (.bin .lss (.t 51) (.t 53)), none, []⟩] none)
  (.cond (.t 54)
  .skip
  (.exit 0)))
  (.seq (.block 1 (.seq (.seq (.region [⟨(some 57), (.mov (.t 0)), none, []⟩,
    ⟨(some 58), (.mov (.t 4)), none, []⟩,
    ⟨(some 59), (.indexStr (.t 57) (.t 58)), none, []⟩,
    ⟨(some 60), (.bin .leq (.c (.int .u8 48)) (.t 59)), none, []⟩,
    ⟨(some 61), (.mov (.t 60)), none, []⟩,
    ⟨(some 62), (.mov (.t 0)), (some (61, true)), []⟩,
    ⟨(some 63), (.mov (.t 4)), (some (61, true)), []⟩,
    ⟨(some 64), (.indexStr (.t 62) (.t 63)), (some (61, true)), []⟩,
    ⟨(some 65), (.bin .leq (.t 64) (.c (.int .u8 57))), (some (61, true)), []⟩,
    ⟨(some 66), (.pick (.t 61) (.t 65) (.c (.bool false))), none, []⟩,
    ⟨(some 67), (.mov (.t 66)), none, []⟩,
    ⟨(some 68), (.mov (.t 5)), (some (67, false)), []⟩,
    ⟨(some 69), (.mov (.t 68)), (some (67, false)), []⟩,
    ⟨(some 70), (.mov (.t 0)), (some (69, true)), []⟩,
    ⟨(some 71), (.mov (.t 4)), (some (69, true)), []⟩,
    ⟨(some 72), (.indexStr (.t 70) (.t 71)), (some (69, true)), []⟩,
    ⟨(some 73), (.call (.f 154) [(.t 72)]), (some (69, true)), []⟩,
    ⟨(some 74), (.bin .leq (.c (.int .u8 97)) (.t 73)), (some (69, true)), []⟩,
    ⟨(some 75), (.pick (.t 69) (.t 74) (.c (.bool false))), (some (67, false)), []⟩,
    ⟨(some 76), (.mov (.t 75)), (some (67, false)), []⟩,
    ⟨(some 77), (.mov (.t 0)), (some (76, true)), []⟩,
    ⟨(some 78), (.mov (.t 4)), (some (76, true)), []⟩,
    ⟨(some 79), (.indexStr (.t 77) (.t 78)), (some (76, true)), []⟩,
    ⟨(some 80), (.call (.f 154) [(.t 79)]), (some (76, true)), []⟩,
    ⟨(some 81), (.bin .leq (.t 80) (.c (.int .u8 102))), (some (76, true)), []⟩,
    ⟨(some 82), (.pick (.t 76) (.t 81) (.c (.bool false))), (some (67, false)), []⟩,
    ⟨(some 83), (.pick (.t 67) (.c (.bool true)) (.t 82)), none, []⟩] none)
  (.cond (.t 83)
  (.seq (.region [⟨(some 3), (.mov (.c (.int .i32 48))), none, []⟩] none)
  (.exit 1))
  .skip))
  (.seq (.seq (.region [⟨(some 84), (.mov (.t 0)), none, []⟩,
    ⟨(some 85), (.mov (.t 4)), none, []⟩,
    ⟨(some 86), (.indexStr (.t 84) (.t 85)), none, []⟩,
    ⟨(some 87), (.bin .eql (.t 86) (.c (.int .u8 95))), none, []⟩] none)
  (.cond (.t 87)
  (.seq (.seq (.region [⟨(some 88), (.mov (.t 3)), none, []⟩,
    ⟨(some 89), (.bin .neq (.t 88) (.c (.int .i32 48))), none, []⟩] none)
  (.cond (.t 89)
  (.seq (.region [⟨(some 2), (.mov (.c (.bool false))), none, []⟩] none)
  .ret)
  .skip))
  (.seq (.region [⟨(some 3), (.mov (.c (.int .i32 95))), none, []⟩] none)
  (.exit 1)))
  .skip))
  (.seq (.seq (.region [⟨(some 90), (.mov (.t 3)), none, []⟩,
    ⟨(some 91), (.bin .eql (.t 90) (.c (.int .i32 95))), none, []⟩] none)
  (.cond (.t 91)
  (.seq (.region [⟨(some 2), (.mov (.c (.bool false))), none, []⟩] none)
  .ret)
  .skip))
  (.region [⟨(some 3), (.mov (.c (.int .i32 33))), none, []⟩] none)))))
  (.region [⟨(some 55), (.mov (.t 4)), none, []⟩,
    ⟨(some 56), (.bin .add (.t 55) (.c (.int .i64 1))), none, []⟩,
    ⟨(some 4), (.mov (.t 56)), none, []⟩] none)))
def B155 : ACode := (.seq (.region [⟨(some 2), (.mov (.c (.bool false))), none, []⟩] none)
  (.seq (.region [⟨(some 3), (.mov (.c (.int .i32 94))), none, []⟩] none)
  (.seq (.region [⟨(some 4), (.mov (.c (.int .i64 0))), none, []⟩] none)
  (.seq (.seq (.region [⟨(some 6), (.mov (.t 0)), none, []⟩,
    ⟨(some 7), (.lenStr (.t 6)), none, []⟩,
    ⟨(some 8), (.bin .geq (.t 7) (.c (.int .i64 1))), none, []⟩,
    ⟨(some 9), (.mov (.t 8)), none, []⟩,
    ⟨(some 10), (.mov (.t 0)), (some (9, true)), []⟩,
    ⟨(some 11), (.indexStr (.t 10) (.c (.int .i64 0))), (some (9, true)), []⟩,
    ⟨(some 12), (.bin .eql (.t 11) (.c (.int .u8 45))), (some (9, true)), []⟩,
    ⟨(some 13), (.mov (.t 12)), (some (9, true)), []⟩,
    ⟨(some 14), (.mov (.t 0)), (some (13, false)), []⟩,
    ⟨(some 15), (.indexStr (.t 14) (.c (.int .i64 0))), (some (13, false)), []⟩,
    ⟨(some 16), (.bin .eql (.t 15) (.c (.int .u8 43))), (some (13, false)), []⟩,
    ⟨(some 17), (.pick (.t 13) (.c (.bool true)) (.t 16)), (some (9, true)), []⟩,
    ⟨(some 18), (.pick (.t 9) (.t 17) (.c (.bool false))), none, []⟩] none)
  (.cond (.t 18)
  (.region [⟨(some 19), (.mov (.t 0)), none, []⟩,
    ⟨(some 20), (.sliceStr (.t 19) (some (.c (.int .i64 1))) none), none, []⟩,
    ⟨(some 0), (.mov (.t 20)), none, []⟩] none)
  .skip))
  (.seq (.region [⟨(some 5), (.mov (.c (.bool false))), none, []⟩] none)
  (.seq (.seq (.region [⟨(some 21), (.mov (.t 0)), none, []⟩,
    ⟨(some 22), (.lenStr (.t 21)), none, []⟩,
    ⟨(some 23), (.bin .geq (.t 22) (.c (.int .i64 2))), none, []⟩,
    ⟨(some 24), (.mov (.t 23)), none, []⟩,
    ⟨(some 25), (.mov (.t 0)), (some (24, true)), []⟩,
    ⟨(some 26), (.indexStr (.t 25) (.c (.int .i64 0))), (some (24, true)), []⟩,
    ⟨(some 27), (.bin .eql (.t 26) (.c (.int .u8 48))), (some (24, true)), []⟩,
    ⟨(some 28), (.pick (.t 24) (.t 27) (.c (.bool false))), none, []⟩,
    ⟨(some 29), (.mov (.t 28)), none, []⟩,
    ⟨(some 30), (.mov (.t 0)), (some (29, true)), []⟩,
    ⟨(some 31), (.indexStr (.t 30) (.c (.int .i64 1))), (some (29, true)), []⟩,
    ⟨(some 32), (.call (.f 154) [(.t 31)]), (some (29, true)), []⟩,
    ⟨(some 33), (.bin .eql (.t 32) (.c (.int .u8 98))), (some (29, true)), []⟩,
    ⟨(some 34), (.mov (.t 33)), (some (29, true)), []⟩,
    ⟨(some 35), (.mov (.t 0)), (some (34, false)), []⟩,
    ⟨(some 36), (.indexStr (.t 35) (.c (.int .i64 1))), (some (34, false)), []⟩,
    ⟨(some 37), (.call (.f 154) [(.t 36)]), (some (34, false)), []⟩,
    ⟨(some 38), (.bin .eql (.t 37) (.c (.int .u8 111))), (some (34, false)), []⟩,
    ⟨(some 39), (.pick (.t 34) (.c (.bool true)) (.t 38)), (some (29, true)), []⟩,
    ⟨(some 40), (.mov (.t 39)), (some (29, true)), []⟩,
    ⟨(some 41), (.mov (.t 0)), (some (40, false)), []⟩,
    ⟨(some 42), (.indexStr (.t 41) (.c (.int .i64 1))), (some (40, false)), []⟩,
    ⟨(some 43), (.call (.f 154) [(.t 42)]), (some (40, false)), []⟩,
    ⟨(some 44), (.bin .eql (.t 43) (.c (.int .u8 120))), (some (40, false)), []⟩,
    ⟨(some 45), (.pick (.t 40) (.c (.bool true)) (.t 44)), (some (29, true)), []⟩,
    ⟨(some 46), (.pick (.t 29) (.t 45) (.c (.bool false))), none, []⟩] none)
  (.cond (.t 46)
  (.seq (.region [⟨(some 4), (.mov (.c (.int .i64 2))), none, []⟩] none)
  (.seq (.region [⟨(some 3), (.mov (.c (.int .i32 48))), none, []⟩] none)
  (.region [⟨(some 47), (.mov (.t 0)), none, []⟩,
    ⟨(some 48), (.indexStr (.t 47) (.c (.int .i64 1))), none, []⟩,
    ⟨(some 49), (.call (.f 154) [(.t 48)]), none, []⟩,
    ⟨(some 50), (.bin .eql (.t 49) (.c (.int .u8 120))), none, []⟩,
    ⟨(some 5), (.mov (.t 50)), none, []⟩] none)))
  .skip))
  (.seq (.block 0 (.loop F155L0))
  (.seq (.region [⟨(some 92), (.mov (.t 3)), none, []⟩,
    ⟨(some 93), (.bin .neq (.t 92) (.c (.int .i32 95))), none, []⟩,
    ⟨(some 2), (.mov (.t 93)), none, []⟩] none)
  .ret))))))))
def F155 : AFunc := ⟨1, 94, [(.tmp 2)], B155⟩
-- F155L0 live: [0, 3, 4, 5]
def fs65 : FT := (.node 64 F64 (.node 31 F31 (.node 17 F17 (.node 10 F10 (.node 7 F7 (.node 4 F4 (.node 3 F3 .leaf .leaf) (.node 6 F6 .leaf .leaf)) (.node 9 F9 (.node 8 F8 .leaf .leaf) .leaf)) (.node 14 F14 (.node 12 F12 (.node 11 F11 .leaf .leaf) (.node 13 F13 .leaf .leaf)) (.node 16 F16 (.node 15 F15 .leaf .leaf) .leaf))) (.node 24 F24 (.node 21 F21 (.node 19 F19 (.node 18 F18 .leaf .leaf) (.node 20 F20 .leaf .leaf)) (.node 23 F23 (.node 22 F22 .leaf .leaf) .leaf)) (.node 28 F28 (.node 27 F27 (.node 25 F25 .leaf .leaf) .leaf) (.node 30 F30 (.node 29 F29 .leaf .leaf) .leaf)))) (.node 48 F48 (.node 42 F42 (.node 39 F39 (.node 33 F33 (.node 32 F32 .leaf .leaf) (.node 34 F34 .leaf .leaf)) (.node 41 F41 (.node 40 F40 .leaf .leaf) .leaf)) (.node 45 F45 (.node 44 F44 (.node 43 F43 .leaf .leaf) .leaf) (.node 47 F47 (.node 46 F46 .leaf .leaf) .leaf))) (.node 57 F57 (.node 52 F52 (.node 50 F50 (.node 49 F49 .leaf .leaf) (.node 51 F51 .leaf .leaf)) (.node 54 F54 (.node 53 F53 .leaf .leaf) .leaf)) (.node 61 F61 (.node 60 F60 (.node 58 F58 .leaf .leaf) .leaf) (.node 63 F63 (.node 62 F62 .leaf .leaf) .leaf))))) (.node 119 F119 (.node 97 F97 (.node 82 F82 (.node 79 F79 (.node 77 F77 (.node 76 F76 .leaf .leaf) (.node 78 F78 .leaf .leaf)) (.node 81 F81 (.node 80 F80 .leaf .leaf) .leaf)) (.node 89 F89 (.node 87 F87 (.node 86 F86 .leaf .leaf) (.node 88 F88 .leaf .leaf)) (.node 95 F95 (.node 94 F94 .leaf .leaf) .leaf))) (.node 105 F105 (.node 102 F102 (.node 99 F99 (.node 98 F98 .leaf .leaf) (.node 100 F100 .leaf .leaf)) (.node 104 F104 (.node 103 F103 .leaf .leaf) .leaf)) (.node 110 F110 (.node 107 F107 (.node 106 F106 .leaf .leaf) .leaf) (.node 115 F115 (.node 111 F111 .leaf .leaf) .leaf)))) (.node 138 F138 (.node 129 F129 (.node 124 F124 (.node 122 F122 (.node 121 F121 .leaf .leaf) (.node 123 F123 .leaf .leaf)) (.node 128 F128 (.node 125 F125 .leaf .leaf) .leaf)) (.node 132 F132 (.node 131 F131 (.node 130 F130 .leaf .leaf) .leaf) (.node 135 F135 (.node 134 F134 .leaf .leaf) .leaf))) (.node 147 F147 (.node 142 F142 (.node 140 F140 (.node 139 F139 .leaf .leaf) (.node 141 F141 .leaf .leaf)) (.node 146 F146 (.node 145 F145 .leaf .leaf) .leaf)) (.node 153 F153 (.node 152 F152 (.node 148 F148 .leaf .leaf) .leaf) (.node 155 F155 (.node 154 F154 .leaf .leaf) .leaf))))))
def ps65 : List (Nat × Prim) := [(112, .noEscape), (113, .makeNoZero 5), (149, .count), (114, .indexByte), (70, .toBits), (117, .fromBits), (166, .fromBits), (26, .rep)]
end
end Go.Proofs.YtmmcnholpnediaaGreatDoor.Am
