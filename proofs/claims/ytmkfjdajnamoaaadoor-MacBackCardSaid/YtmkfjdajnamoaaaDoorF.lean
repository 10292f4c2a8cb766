/- The functions of the program, printed by a program of ours as code of the abstract machine (F); that they are is proved in the next text. -/
import Derived.Test.YtmkfjdajnamoaaaDoorD
namespace Go.Proofs.YtmkfjdajnamoaaaDoor.Am
noncomputable section
/-- toll/tolllaw02.MacReads -/
def B3 : ACode := (.seq (.region [⟨(some 2), (.mov (.c (.bool false))), none, []⟩] none)
  (.seq (.region [⟨(some 11), (.mov (.t 0)), none, []⟩,
    ⟨(some 12), (.mov (.t 0)), none, []⟩,
    ⟨(some 13), (.lenStr (.t 12)), none, []⟩,
    ⟨(some 14), (.min [(.t 13), (.c (.int .i64 60))]), none, []⟩,
    ⟨(some 15), (.sliceStr (.t 11) none (some (.t 14))), none, []⟩,
    ⟨(some 0), (.mov (.t 15)), none, []⟩] none)
  (.seq (.region [⟨(some 17), (.mov (.t 0)), none, []⟩,
    ⟨(some 18), (.call (.f 9) [(.t 17)]), none, []⟩,
    ⟨(some 16), (.mov (.t 18)), none, []⟩,
    ⟨(some 19), (.extract (.t 16) 0), none, []⟩,
    ⟨(some 20), (.extract (.t 16) 1), none, []⟩,
    ⟨(some 3), (.alloc 23 [(.int .u8 0), (.int .u8 0), (.int .u8 0), (.int .u8 0), (.int .u8 0), (.int .u8 0)]), none, []⟩,
    ⟨none, (.store 6 (.t 3) (.t 19)), none, []⟩,
    ⟨(some 4), (.mov (.t 20)), none, []⟩] none)
  (.seq (.region [⟨(some 22), (.mov (.t 0)), none, []⟩,
    ⟨(some 23), (.call (.f 10) [(.t 22)]), none, []⟩,
    ⟨(some 21), (.mov (.t 23)), none, []⟩,
    ⟨(some 24), (.extract (.t 21) 0), none, []⟩,
    ⟨(some 25), (.extract (.t 21) 1), none, []⟩,
    ⟨(some 5), (.alloc 22 [(.int .u8 0), (.int .u8 0), (.int .u8 0), (.int .u8 0), (.int .u8 0), (.int .u8 0)]), none, []⟩,
    ⟨none, (.store 6 (.t 5) (.t 24)), none, []⟩,
    ⟨(some 6), (.mov (.t 25)), none, []⟩] none)
  (.seq (.region [⟨(some 27), (.mov (.t 0)), none, []⟩,
    ⟨(some 28), (.call (.f 11) [(.t 27)]), none, []⟩,
    ⟨(some 26), (.mov (.t 28)), none, []⟩,
    ⟨(some 29), (.extract (.t 26) 0), none, []⟩,
    ⟨(some 30), (.extract (.t 26) 1), none, []⟩,
    ⟨(some 7), (.alloc 30 [(.int .u8 0), (.int .u8 0), (.int .u8 0), (.int .u8 0), (.int .u8 0), (.int .u8 0), (.int .u8 0), (.int .u8 0), (.int .u8 0), (.int .u8 0), (.int .u8 0), (.int .u8 0)]), none, []⟩,
    ⟨none, (.store 12 (.t 7) (.t 29)), none, []⟩,
    ⟨(some 8), (.mov (.t 30)), none, []⟩] none)
  (.seq (.region [⟨(some 32), (.mov (.t 0)), none, []⟩,
    ⟨(some 33), (.call (.f 12) [(.t 32)]), none, []⟩,
    ⟨(some 31), (.mov (.t 33)), none, []⟩,
    ⟨(some 34), (.extract (.t 31) 0), none, []⟩,
    ⟨(some 35), (.extract (.t 31) 1), none, []⟩,
    ⟨(some 9), (.alloc 34 [(.int .u8 0), (.int .u8 0), (.int .u8 0), (.int .u8 0), (.int .u8 0), (.int .u8 0), (.int .u8 0), (.int .u8 0), (.int .u8 0), (.int .u8 0), (.int .u8 0), (.int .u8 0)]), none, []⟩,
    ⟨none, (.store 12 (.t 9) (.t 34)), none, []⟩,
    ⟨(some 10), (.mov (.t 35)), none, []⟩] none)
  (.seq (.region [⟨(some 36), (.load (some 6) (.t 3)), none, []⟩,
    ⟨(some 37), (.load (some 6) (.t 5)), none, []⟩,
    ⟨(some 38), (.eqAgg false [.int, .int, .int, .int, .int, .int] (.t 36) (.t 37)), none, []⟩,
    ⟨(some 39), (.mov (.t 38)), none, []⟩,
    ⟨(some 40), (.mov (.t 4)), (some (39, true)), []⟩,
    ⟨(some 41), (.mov (.t 6)), (some (39, true)), []⟩,
    ⟨(some 42), (.bin .eql (.t 40) (.t 41)), (some (39, true)), []⟩,
    ⟨(some 43), (.pick (.t 39) (.t 42) (.c (.bool false))), none, []⟩,
    ⟨(some 44), (.mov (.t 43)), none, []⟩,
    ⟨(some 45), (.fieldAddr 0 (.t 7)), (some (44, true)), []⟩,
    ⟨(some 46), (.load (some 6) (.t 45)), (some (44, true)), []⟩,
    ⟨(some 47), (.fieldAddr 0 (.t 9)), (some (44, true)), []⟩,
    ⟨(some 48), (.load (some 6) (.t 47)), (some (44, true)), []⟩,
    ⟨(some 49), (.eqAgg false [.int, .int, .int, .int, .int, .int] (.t 46) (.t 48)), (some (44, true)), []⟩,
    ⟨(some 50), (.pick (.t 44) (.t 49) (.c (.bool false))), none, []⟩,
    ⟨(some 51), (.mov (.t 50)), none, []⟩,
    ⟨(some 52), (.fieldAddr 6 (.t 7)), (some (51, true)), []⟩,
    ⟨(some 53), (.load (some 6) (.t 52)), (some (51, true)), []⟩,
    ⟨(some 54), (.fieldAddr 6 (.t 9)), (some (51, true)), []⟩,
    ⟨(some 55), (.load (some 6) (.t 54)), (some (51, true)), []⟩,
    ⟨(some 56), (.eqAgg false [.int, .int, .int, .int, .int, .int] (.t 53) (.t 55)), (some (51, true)), []⟩,
    ⟨(some 57), (.pick (.t 51) (.t 56) (.c (.bool false))), none, []⟩,
    ⟨(some 58), (.mov (.t 57)), none, []⟩,
    ⟨(some 59), (.mov (.t 8)), (some (58, true)), []⟩,
    ⟨(some 60), (.mov (.t 10)), (some (58, true)), []⟩,
    ⟨(some 61), (.bin .eql (.t 59) (.t 60)), (some (58, true)), []⟩,
    ⟨(some 62), (.pick (.t 58) (.t 61) (.c (.bool false))), none, []⟩,
    ⟨(some 63), (.mov (.t 62)), none, []⟩,
    ⟨(some 64), (.call (.f 13) []), (some (63, true)), []⟩,
    ⟨(some 65), (.pick (.t 63) (.t 64) (.c (.bool false))), none, []⟩,
    ⟨(some 2), (.mov (.t 65)), none, []⟩] none)
  .ret)))))))
def F3 : AFunc := ⟨1, 66, [(.tmp 2)], B3⟩
def R4_0 : ACode := .region [⟨(some 18), (.load (some 6) (.t 4)), none, []⟩,
    ⟨(some 19), (.load (some 6) (.t 5)), none, []⟩,
    ⟨(some 20), (.load (some 6) (.t 6)), none, []⟩,
    ⟨(some 9), (.alloc 23 [(.int .u8 0), (.int .u8 0), (.int .u8 0), (.int .u8 0), (.int .u8 0), (.int .u8 0)]), none, []⟩,
    ⟨(some 10), (.alloc 23 [(.int .u8 0), (.int .u8 0), (.int .u8 0), (.int .u8 0), (.int .u8 0), (.int .u8 0)]), none, []⟩,
    ⟨(some 11), (.alloc 23 [(.int .u8 0), (.int .u8 0), (.int .u8 0), (.int .u8 0), (.int .u8 0), (.int .u8 0)]), none, []⟩,
    ⟨none, (.store 6 (.t 9) (.t 18)), none, [3, 0, 0, 3, 4, 5]⟩,
    ⟨none, (.store 6 (.t 10) (.t 19)), none, [4, 1, 6, 0, 1, 3, 4, 5, 6]⟩,
    ⟨none, (.store 6 (.t 11) (.t 20)), none, [5, 2, 7, 0, 1, 2, 3, 4, 5, 6, 7]⟩] (some [(0, 1), (0, 2), (1, 2), (0, 3), (1, 3), (2, 3), (0, 4), (1, 4), (2, 4), (3, 4), (0, 5), (1, 5), (2, 5), (3, 5), (4, 5), (1, 6), (2, 6), (2, 7)])
def R4_1 : ACode := .region [⟨(some 24), (.load (some 6) (.t 9)), none, []⟩,
    ⟨(some 25), (.mov (.t 12)), none, []⟩,
    ⟨(some 26), (.call (.f 14) [(.t 25)]), none, [1]⟩,
    ⟨(some 27), (.build [(.int .u8 0), (.int .u8 0), (.int .u8 0), (.int .u8 0), (.int .u8 0), (.int .u8 0), (.int .u8 0), (.int .u8 0), (.int .u8 0), (.int .u8 0), (.int .u8 0), (.int .u8 0)] [(0, 6, (.t 24)), (6, 6, (.t 26))]), none, [0, 2]⟩,
    ⟨(some 28), (.load (some 6) (.t 9)), none, []⟩,
    ⟨(some 29), (.mov (.t 12)), none, []⟩,
    ⟨(some 30), (.bin .add (.t 29) (.c (.int .i64 1))), none, [5]⟩,
    ⟨(some 31), (.call (.f 14) [(.t 30)]), none, [6, 2]⟩,
    ⟨(some 32), (.build [(.int .u8 0), (.int .u8 0), (.int .u8 0), (.int .u8 0), (.int .u8 0), (.int .u8 0), (.int .u8 0), (.int .u8 0), (.int .u8 0), (.int .u8 0), (.int .u8 0), (.int .u8 0)] [(0, 6, (.t 28)), (6, 6, (.t 31))]), none, [4, 7]⟩,
    ⟨(some 13), (.alloc 30 [(.int .u8 0), (.int .u8 0), (.int .u8 0), (.int .u8 0), (.int .u8 0), (.int .u8 0), (.int .u8 0), (.int .u8 0), (.int .u8 0), (.int .u8 0), (.int .u8 0), (.int .u8 0)]), none, []⟩,
    ⟨(some 14), (.alloc 30 [(.int .u8 0), (.int .u8 0), (.int .u8 0), (.int .u8 0), (.int .u8 0), (.int .u8 0), (.int .u8 0), (.int .u8 0), (.int .u8 0), (.int .u8 0), (.int .u8 0), (.int .u8 0)]), none, []⟩,
    ⟨none, (.store 12 (.t 13) (.t 27)), none, [9, 3, 7, 0, 1, 2, 3, 9, 10]⟩,
    ⟨none, (.store 12 (.t 14) (.t 32)), none, [10, 8, 11, 0, 1, 2, 3, 4, 5, 6, 7, 8, 9, 10, 11]⟩] (some [(0, 1), (0, 2), (0, 4), (1, 4), (2, 4), (3, 4), (0, 5), (1, 5), (2, 5), (3, 5), (4, 5), (0, 6), (1, 6), (2, 6), (3, 6), (4, 6), (0, 7), (3, 7), (4, 7), (0, 8), (3, 8), (0, 9), (1, 9), (2, 9), (3, 9), (4, 9), (5, 9), (6, 9), (7, 9), (8, 9), (0, 10), (1, 10), (2, 10), (3, 10), (4, 10), (5, 10), (6, 10), (7, 10), (8, 10), (9, 10), (4, 11), (8, 11)])
def R4_2 : ACode := .region [⟨(some 33), (.load (some 12) (.t 14)), none, []⟩,
    ⟨(some 34), (.load (some 6) (.t 10)), none, []⟩,
    ⟨(some 35), (.call (.f 15) [(.t 33), (.t 34)]), none, [0, 1]⟩,
    ⟨(some 36), (.mov (.t 35)), none, [2, 2]⟩,
    ⟨(some 37), (.load (some 12) (.t 13)), (some (36, true)), [3]⟩,
    ⟨(some 38), (.load (some 6) (.t 10)), (some (36, true)), [3]⟩,
    ⟨(some 39), (.call (.f 15) [(.t 37), (.t 38)]), (some (36, true)), [4, 5, 3, 3]⟩,
    ⟨(some 40), (.un .not (.t 39)), (some (36, true)), [6, 3]⟩,
    ⟨(some 41), (.pick (.t 36) (.t 40) (.c (.bool false))), none, [3, 7]⟩,
    ⟨(some 42), (.mov (.t 41)), none, [8, 6]⟩,
    ⟨(some 43), (.load (some 6) (.t 9)), (some (42, false)), [9]⟩,
    ⟨(some 44), (.build [(.int .u8 0), (.int .u8 0), (.int .u8 0), (.int .u8 0), (.int .u8 0), (.int .u8 0), (.int .u8 0), (.int .u8 0), (.int .u8 0), (.int .u8 0), (.int .u8 0), (.int .u8 0)] [(0, 6, (.t 43))]), (some (42, false)), [10, 9]⟩,
    ⟨(some 45), (.load (some 6) (.t 10)), (some (42, false)), [9]⟩,
    ⟨(some 46), (.call (.f 15) [(.t 44), (.t 45)]), (some (42, false)), [11, 12, 9, 9]⟩,
    ⟨(some 47), (.un .not (.t 46)), (some (42, false)), [13, 9]⟩,
    ⟨(some 48), (.pick (.t 42) (.c (.bool true)) (.t 47)), none, [9, 14]⟩,
    ⟨(some 49), (.mov (.t 48)), none, [15, 13]⟩,
    ⟨(some 50), (.load (some 6) (.t 9)), (some (49, false)), [16]⟩,
    ⟨(some 51), (.call (.f 14) [(.c (.int .i64 48))]), (some (49, false)), [16, 16]⟩,
    ⟨(some 52), (.build [(.int .u8 0), (.int .u8 0), (.int .u8 0), (.int .u8 0), (.int .u8 0), (.int .u8 0), (.int .u8 0), (.int .u8 0), (.int .u8 0), (.int .u8 0), (.int .u8 0), (.int .u8 0)] [(0, 6, (.t 50)), (6, 6, (.t 51))]), (some (49, false)), [17, 18, 16]⟩,
    ⟨(some 53), (.load (some 6) (.t 10)), (some (49, false)), [16]⟩,
    ⟨(some 54), (.call (.f 15) [(.t 52), (.t 53)]), (some (49, false)), [19, 20, 18, 16]⟩,
    ⟨(some 55), (.load (some 6) (.t 9)), (some (49, false)), [16]⟩,
    ⟨(some 56), (.load (some 6) (.t 10)), (some (49, false)), [16]⟩,
    ⟨(some 57), (.eqAgg false [.int, .int, .int, .int, .int, .int] (.t 55) (.t 56)), (some (49, false)), [22, 23, 16]⟩,
    ⟨(some 58), (.eqv true .bool false (.t 54) (.t 57)), (some (49, false)), [21, 24, 16]⟩,
    ⟨(some 59), (.pick (.t 49) (.c (.bool true)) (.t 58)), none, [16, 25]⟩] (some [(0, 1), (4, 5), (10, 12), (11, 12), (17, 18), (17, 20), (18, 20), (19, 20), (17, 22), (18, 22), (19, 22), (20, 22), (21, 22), (17, 23), (18, 23), (19, 23), (20, 23), (21, 23), (22, 23), (17, 24), (18, 24), (19, 24), (20, 24), (21, 24)])
def R4_3 : ACode := .region [⟨(some 60), (.load (some 6) (.t 9)), none, []⟩,
    ⟨(some 61), (.call (.f 16) [(.t 60)]), none, [0]⟩,
    ⟨(some 62), (.load (some 6) (.t 10)), none, []⟩,
    ⟨(some 63), (.call (.f 16) [(.t 62)]), none, [2, 1]⟩,
    ⟨(some 64), (.bin .xor (.t 61) (.t 63)), none, [1, 3]⟩,
    ⟨(some 65), (.load (some 6) (.t 11)), none, []⟩,
    ⟨(some 66), (.call (.f 16) [(.t 65)]), none, [5, 3]⟩,
    ⟨(some 67), (.bin .and (.t 64) (.t 66)), none, [4, 6]⟩,
    ⟨(some 15), (.mov (.t 67)), none, [7, 6, 0, 1, 2, 3, 4, 5, 6, 7]⟩] (some [(0, 2), (1, 2), (0, 5), (1, 5), (2, 5), (3, 5), (4, 5), (4, 6)])
def R4_4 : ACode := .region [⟨(some 79), (.load (some 6) (.t 9)), none, []⟩,
    ⟨(some 80), (.load (some 6) (.t 11)), none, []⟩,
    ⟨(some 81), (.build [(.int .u8 0), (.int .u8 0), (.int .u8 0), (.int .u8 0), (.int .u8 0), (.int .u8 0), (.int .u8 0), (.int .u8 0), (.int .u8 0), (.int .u8 0), (.int .u8 0), (.int .u8 0)] [(0, 6, (.t 79)), (6, 6, (.t 80))]), none, [0, 1]⟩,
    ⟨(some 82), (.load (some 6) (.t 10)), none, []⟩,
    ⟨(some 83), (.call (.f 15) [(.t 81), (.t 82)]), none, [2, 3]⟩,
    ⟨(some 84), (.mov (.t 15)), none, []⟩,
    ⟨(some 85), (.bin .eql (.t 84) (.c (.int .u64 0))), none, [5]⟩,
    ⟨(some 86), (.eqv false .bool false (.t 83) (.t 85)), none, [4, 6]⟩,
    ⟨(some 87), (.mov (.t 86)), none, [7, 4]⟩,
    ⟨(some 88), (.mov (.t 16)), (some (87, true)), [8]⟩,
    ⟨(some 89), (.mov (.t 12)), (some (87, true)), [8]⟩,
    ⟨(some 90), (.bin .eql (.t 88) (.t 89)), (some (87, true)), [9, 10, 8]⟩,
    ⟨(some 91), (.pick (.t 87) (.t 90) (.c (.bool false))), none, [8, 11]⟩,
    ⟨(some 92), (.mov (.t 91)), none, [12, 8]⟩,
    ⟨(some 93), (.load (some 6) (.t 9)), (some (92, true)), [13]⟩,
    ⟨(some 94), (.load (some 6) (.t 11)), (some (92, true)), [13]⟩,
    ⟨(some 95), (.call (.f 17) [(.t 93), (.t 94)]), (some (92, true)), [14, 15, 13, 13]⟩,
    ⟨(some 96), (.mov (.t 12)), (some (92, true)), [13]⟩,
    ⟨(some 97), (.call (.f 14) [(.t 96)]), (some (92, true)), [17, 16, 13]⟩,
    ⟨(some 98), (.call (.f 17) [(.t 95), (.t 97)]), (some (92, true)), [16, 18, 18, 13]⟩,
    ⟨(some 99), (.load (some 6) (.t 9)), (some (92, true)), [13]⟩,
    ⟨(some 100), (.mov (.t 12)), (some (92, true)), [13]⟩,
    ⟨(some 101), (.call (.f 14) [(.t 100)]), (some (92, true)), [21, 19, 13]⟩,
    ⟨(some 102), (.call (.f 17) [(.t 99), (.t 101)]), (some (92, true)), [20, 22, 22, 13]⟩,
    ⟨(some 103), (.load (some 6) (.t 11)), (some (92, true)), [13]⟩,
    ⟨(some 104), (.call (.f 17) [(.t 102), (.t 103)]), (some (92, true)), [23, 24, 23, 13]⟩,
    ⟨(some 105), (.eqAgg false [.int, .int, .int, .int, .int, .int] (.t 98) (.t 104)), (some (92, true)), [19, 25, 13]⟩,
    ⟨(some 106), (.pick (.t 92) (.t 105) (.c (.bool false))), none, [13, 26]⟩,
    ⟨(some 107), (.mov (.t 106)), none, [27, 25]⟩,
    ⟨(some 108), (.call (.f 13) []), (some (107, true)), [28, 28]⟩,
    ⟨(some 109), (.pick (.t 107) (.t 108) (.c (.bool false))), none, [28, 29]⟩,
    ⟨(some 8), (.mov (.t 109)), none, [30, 29, 0, 1, 2, 3, 4, 5, 6, 7, 8, 9, 10, 11, 12, 13, 14, 15, 16, 17, 18, 19, 20, 21, 22, 23, 24, 25, 26, 27, 28, 29, 30]⟩] (some [(0, 1), (0, 3), (1, 3), (2, 3), (0, 5), (1, 5), (2, 5), (3, 5), (4, 5), (0, 6), (1, 6), (2, 6), (3, 6), (4, 6), (9, 10), (14, 15), (14, 17), (15, 17), (16, 17), (14, 20), (15, 20), (16, 20), (17, 20), (18, 20), (19, 20), (14, 21), (15, 21), (16, 21), (17, 21), (18, 21), (19, 21), (20, 21), (20, 22), (14, 24), (15, 24), (16, 24), (17, 24), (18, 24), (19, 24), (20, 24), (21, 24), (22, 24), (23, 24)])
/-- toll/tolllaw02.MacMasks -/
def F4L0 : ACode := (.seq (.seq (.region [⟨(some 71), (.mov (.t 17)), none, []⟩,
    ⟨(some 72), (.bin .gtr (.t 71) (.c (.int .u64 0))), none, []⟩] none)
  (.cond (.t 72)
  .skip
  (.exit 0)))
  (.seq (.block 1 (.region [⟨(some 77), (.mov (.t 16)), none, []⟩,
    ⟨(some 78), (.bin .add (.t 77) (.c (.int .i64 1))), none, []⟩,
    ⟨(some 16), (.mov (.t 78)), none, []⟩] none))
  (.region [⟨(some 73), (.mov (.t 17)), none, []⟩,
    ⟨(some 74), (.mov (.t 17)), none, []⟩,
    ⟨(some 75), (.bin .sub (.t 74) (.c (.int .u64 1))), none, []⟩,
    ⟨(some 76), (.bin .and (.t 73) (.t 75)), none, []⟩,
    ⟨(some 17), (.mov (.t 76)), none, []⟩] none)))
def B4 : ACode := (.seq (.region [⟨(some 4), (.box 22 (.t 0)), none, []⟩,
    ⟨(some 5), (.box 22 (.t 1)), none, []⟩,
    ⟨(some 6), (.box 22 (.t 2)), none, []⟩,
    ⟨(some 8), (.mov (.c (.bool false))), none, []⟩] none)
  (.seq R4_0
  (.seq (.region [⟨(some 21), (.mov (.t 3)), none, []⟩,
    ⟨(some 22), (.bin .rem (.t 21) (.c (.int .u8 49))), none, []⟩,
    ⟨(some 23), (.conv .i64 (.t 22)), none, []⟩,
    ⟨(some 12), (.mov (.t 23)), none, []⟩] none)
  (.seq R4_1
  (.seq (.seq R4_2
  (.cond (.t 59)
  (.seq (.region [⟨(some 8), (.mov (.c (.bool false))), none, []⟩] none)
  .ret)
  .skip))
  (.seq R4_3
  (.seq (.region [⟨(some 16), (.mov (.c (.int .i64 0))), none, []⟩] none)
  (.seq (.seq (.region [⟨(some 68), (.mov (.t 12)), none, []⟩,
    ⟨(some 69), (.call (.f 14) [(.t 68)]), none, []⟩,
    ⟨(some 70), (.call (.f 16) [(.t 69)]), none, []⟩,
    ⟨(some 17), (.mov (.t 70)), none, []⟩] none)
  (.block 0 (.loop F4L0)))
  (.seq R4_4
  .ret)))))))))
def F4 : AFunc := ⟨4, 110, [(.tmp 8)], B4⟩
-- F4L0 live: [9, 10, 11, 12, 15, 16, 17]
def R5_0 : ACode := .region [⟨(some 14), (.load (some 6) (.t 3)), none, []⟩,
    ⟨(some 15), (.call (.f 18) [(.t 14)]), none, [0]⟩,
    ⟨(some 16), (.load (some 6) (.t 4)), none, []⟩,
    ⟨(some 17), (.call (.f 18) [(.t 16)]), none, [2, 1]⟩,
    ⟨(some 5), (.mov (.t 15)), none, [1, 3, 0, 1]⟩,
    ⟨(some 6), (.mov (.t 17)), none, [3, 4, 0, 1, 2, 3, 4]⟩] (some [(0, 2), (1, 2)])
def R5_1 : ACode := .region [⟨(some 18), (.mov (.t 5)), none, []⟩,
    ⟨(some 19), (.bin .geq (.t 18) (.c (.int .i64 1))), none, [0]⟩,
    ⟨(some 20), (.mov (.t 19)), none, [1]⟩,
    ⟨(some 21), (.mov (.t 5)), (some (20, true)), [2]⟩,
    ⟨(some 22), (.bin .leq (.t 21) (.c (.int .i64 5))), (some (20, true)), [3, 2]⟩,
    ⟨(some 23), (.pick (.t 20) (.t 22) (.c (.bool false))), none, [2, 4]⟩,
    ⟨(some 24), (.mov (.t 23)), none, [5, 2]⟩,
    ⟨(some 25), (.mov (.t 7)), (some (24, true)), [6]⟩,
    ⟨(some 26), (.mov (.t 5)), (some (24, true)), [6]⟩,
    ⟨(some 27), (.call (.t 25) [(.t 26)]), (some (24, true)), [7, 8, 6, 6]⟩,
    ⟨(some 28), (.load (some 6) (.t 3)), (some (24, true)), [6]⟩,
    ⟨(some 29), (.call (.f 20) [(.t 28)]), (some (24, true)), [10, 9, 6]⟩,
    ⟨(some 30), (.eqv false .bool false (.t 27) (.t 29)), (some (24, true)), [9, 11, 6]⟩,
    ⟨(some 31), (.pick (.t 24) (.t 30) (.c (.bool false))), none, [6, 12]⟩,
    ⟨(some 32), (.mov (.t 31)), none, [13, 11]⟩,
    ⟨(some 33), (.mov (.t 7)), (some (32, true)), [14]⟩,
    ⟨(some 34), (.mov (.t 6)), (some (32, true)), [14]⟩,
    ⟨(some 35), (.call (.t 33) [(.t 34)]), (some (32, true)), [15, 16, 14, 14]⟩,
    ⟨(some 36), (.mov (.t 7)), (some (32, true)), [14]⟩,
    ⟨(some 37), (.mov (.t 5)), (some (32, true)), [14]⟩,
    ⟨(some 38), (.call (.t 36) [(.t 37)]), (some (32, true)), [18, 19, 17, 14]⟩,
    ⟨(some 39), (.eqv true .bool false (.t 35) (.t 38)), (some (32, true)), [17, 20, 14]⟩,
    ⟨(some 40), (.pick (.t 32) (.t 39) (.c (.bool false))), none, [14, 21]⟩,
    ⟨(some 41), (.mov (.t 40)), none, [22, 20]⟩,
    ⟨(some 42), (.mov (.t 5)), (some (41, true)), [23]⟩,
    ⟨(some 43), (.bin .eql (.t 42) (.c (.int .i64 1))), (some (41, true)), [24, 23]⟩,
    ⟨(some 44), (.load (some 6) (.t 3)), (some (41, true)), [23]⟩,
    ⟨(some 45), (.call (.f 16) [(.t 44)]), (some (41, true)), [26, 23, 23]⟩,
    ⟨(some 46), (.bin .eql (.t 45) (.c (.int .u64 0))), (some (41, true)), [27, 23]⟩,
    ⟨(some 47), (.eqv false .bool false (.t 43) (.t 46)), (some (41, true)), [25, 28, 23]⟩,
    ⟨(some 48), (.pick (.t 41) (.t 47) (.c (.bool false))), none, [23, 29]⟩,
    ⟨(some 49), (.mov (.t 48)), none, [30, 27]⟩,
    ⟨(some 50), (.mov (.t 5)), (some (49, true)), [31]⟩,
    ⟨(some 51), (.bin .eql (.t 50) (.c (.int .i64 2))), (some (49, true)), [32, 31]⟩,
    ⟨(some 52), (.load (some 6) (.t 3)), (some (49, true)), [31]⟩,
    ⟨(some 53), (.call (.f 16) [(.t 52)]), (some (49, true)), [34, 31, 31]⟩,
    ⟨(some 54), (.bin .eql (.t 53) (.c (.int .u64 281474976710655))), (some (49, true)), [35, 31]⟩,
    ⟨(some 55), (.eqv false .bool false (.t 51) (.t 54)), (some (49, true)), [33, 36, 31]⟩,
    ⟨(some 56), (.pick (.t 49) (.t 55) (.c (.bool false))), none, [31, 37]⟩,
    ⟨(some 57), (.mov (.t 56)), none, [38, 35]⟩,
    ⟨(some 58), (.mov (.t 5)), (some (57, true)), [39]⟩,
    ⟨(some 59), (.bin .eql (.t 58) (.c (.int .i64 3))), (some (57, true)), [40, 39]⟩,
    ⟨(some 60), (.load (some 6) (.t 3)), (some (57, true)), [39]⟩,
    ⟨(some 61), (.call (.f 16) [(.t 60)]), (some (57, true)), [42, 39, 39]⟩,
    ⟨(some 62), (.bin .shr (.t 61) (.c (.int .u64 4))), (some (57, true)), [43, 39]⟩,
    ⟨(some 63), (.bin .eql (.t 62) (.c (.int .u64 103282638848))), (some (57, true)), [44, 39]⟩,
    ⟨(some 64), (.eqv false .bool false (.t 59) (.t 63)), (some (57, true)), [41, 45, 39]⟩,
    ⟨(some 65), (.pick (.t 57) (.t 64) (.c (.bool false))), none, [39, 46]⟩,
    ⟨(some 66), (.mov (.t 65)), none, [47, 43]⟩,
    ⟨(some 67), (.call (.f 13) []), (some (66, true)), [48, 48]⟩,
    ⟨(some 68), (.pick (.t 66) (.t 67) (.c (.bool false))), none, [48, 49]⟩,
    ⟨(some 2), (.mov (.t 68)), none, [50, 49, 0, 1, 2, 3, 4, 5, 6, 7, 8, 9, 10, 11, 12, 13, 14, 15, 16, 17, 18, 19, 20, 21, 22, 23, 24, 25, 26, 27, 28, 29, 30, 31, 32, 33, 34, 35, 36, 37, 38, 39, 40, 41, 42, 43, 44, 45, 46, 47, 48, 49, 50]⟩] (some [(7, 8), (7, 10), (8, 10), (9, 10), (15, 16), (15, 18), (16, 18), (17, 18), (15, 19), (16, 19), (17, 19), (18, 19), (24, 26), (25, 26), (24, 27), (25, 27), (24, 28), (25, 28), (32, 34), (33, 34), (32, 35), (33, 35), (32, 36), (33, 36), (40, 42), (41, 42), (40, 43), (41, 43), (40, 44), (41, 44), (40, 45), (41, 45)])
/-- toll/tolllaw02.MacKinds -/
def B5 : ACode := (.seq (.region [⟨(some 1), (.box 22 (.t 0)), none, []⟩,
    ⟨(some 2), (.mov (.c (.bool false))), none, []⟩] none)
  (.seq (.region [⟨(some 8), (.load (some 6) (.t 1)), none, []⟩,
    ⟨(some 3), (.alloc 23 [(.int .u8 0), (.int .u8 0), (.int .u8 0), (.int .u8 0), (.int .u8 0), (.int .u8 0)]), none, []⟩,
    ⟨none, (.store 6 (.t 3) (.t 8)), none, []⟩] none)
  (.seq (.region [⟨(some 9), (.load (some 6) (.t 3)), none, []⟩,
    ⟨(some 4), (.alloc 23 [(.int .u8 0), (.int .u8 0), (.int .u8 0), (.int .u8 0), (.int .u8 0), (.int .u8 0)]), none, []⟩,
    ⟨none, (.store 6 (.t 4) (.t 9)), none, []⟩] none)
  (.seq (.region [⟨(some 10), (.indexArr 1 6 (.t 4) (.c (.int .i64 0))), none, []⟩,
    ⟨(some 11), (.load none (.t 10)), none, []⟩,
    ⟨(some 12), (.bin .xor (.t 11) (.c (.int .u8 1))), none, []⟩,
    ⟨(some 13), (.indexArr 1 6 (.t 4) (.c (.int .i64 0))), none, []⟩,
    ⟨none, (.store 1 (.t 13) (.t 12)), none, []⟩] none)
  (.seq R5_0
  (.seq (.region [⟨(some 7), (.mov (.f 19)), none, []⟩] none)
  (.seq R5_1
  .ret)))))))
def F5 : AFunc := ⟨1, 69, [(.tmp 2)], B5⟩
/-- toll/tolllaw02.MacKnown -/
def F6L0 : ACode := (.seq (.region [⟨(some 14), (.bin .lss (.t 13) (.t 12)), none, []⟩] none)
  (.seq (.cond (.t 14)
  .skip
  (.exit 0))
  (.seq (.block 1 (.seq (.region [⟨(some 15), (.indexAddr 1 (.t 11) (.t 13)), none, []⟩,
    ⟨(some 16), (.load none (.t 15)), none, []⟩,
    ⟨(some 2), (.mov (.t 16)), none, []⟩] none)
  (.seq (.region [⟨(some 18), (.mov (.t 2)), none, []⟩,
    ⟨(some 19), (.call (.f 9) [(.t 18)]), none, []⟩,
    ⟨(some 17), (.mov (.t 19)), none, []⟩,
    ⟨(some 20), (.extract (.t 17) 0), none, []⟩,
    ⟨(some 21), (.extract (.t 17) 1), none, []⟩,
    ⟨(some 3), (.alloc 23 [(.int .u8 0), (.int .u8 0), (.int .u8 0), (.int .u8 0), (.int .u8 0), (.int .u8 0)]), none, []⟩,
    ⟨none, (.store 6 (.t 3) (.t 20)), none, []⟩,
    ⟨(some 4), (.mov (.t 21)), none, []⟩] none)
  (.seq (.region [⟨(some 22), (.mov (.t 4)), none, []⟩,
    ⟨(some 23), (.bin .neq (.t 22) (.c (.int .i64 5))), none, []⟩] none)
  (.cond (.t 23)
  (.seq (.region [⟨(some 0), (.mov (.c (.bool false))), none, []⟩] none)
  .ret)
  .skip)))))
  (.region [⟨(some 24), (.bin .add (.t 13) (.c (.int .i64 1))), none, []⟩,
    ⟨(some 13), (.mov (.t 24)), none, []⟩] none))))
def F6L1 : ACode := (.seq (.region [⟨(some 39), (.bin .lss (.t 38) (.t 37)), none, []⟩] none)
  (.seq (.cond (.t 39)
  .skip
  (.exit 2))
  (.seq (.block 3 (.seq (.region [⟨(some 40), (.indexAddr 2 (.t 36) (.t 38)), none, []⟩,
    ⟨(some 41), (.load (some 2) (.t 40)), none, []⟩,
    ⟨(some 6), (.alloc 50 [(.string ⟨#[]⟩), (.int .i64 0)]), none, []⟩,
    ⟨none, (.store 2 (.t 6) (.t 41)), none, []⟩] none)
  (.seq (.region [⟨(some 43), (.fieldAddr 0 (.t 6)), none, []⟩,
    ⟨(some 44), (.load none (.t 43)), none, []⟩,
    ⟨(some 45), (.call (.f 11) [(.t 44)]), none, []⟩,
    ⟨(some 42), (.mov (.t 45)), none, []⟩,
    ⟨(some 46), (.extract (.t 42) 0), none, []⟩,
    ⟨(some 47), (.extract (.t 42) 1), none, []⟩,
    ⟨(some 7), (.alloc 30 [(.int .u8 0), (.int .u8 0), (.int .u8 0), (.int .u8 0), (.int .u8 0), (.int .u8 0), (.int .u8 0), (.int .u8 0), (.int .u8 0), (.int .u8 0), (.int .u8 0), (.int .u8 0)]), none, []⟩,
    ⟨none, (.store 12 (.t 7) (.t 46)), none, []⟩,
    ⟨(some 8), (.mov (.t 47)), none, []⟩] none)
  (.seq (.region [⟨(some 48), (.mov (.t 8)), none, []⟩,
    ⟨(some 49), (.fieldAddr 1 (.t 6)), none, []⟩,
    ⟨(some 50), (.load none (.t 49)), none, []⟩,
    ⟨(some 51), (.bin .neq (.t 48) (.t 50)), none, []⟩] none)
  (.cond (.t 51)
  (.seq (.region [⟨(some 0), (.mov (.c (.bool false))), none, []⟩] none)
  .ret)
  .skip)))))
  (.region [⟨(some 52), (.bin .add (.t 38) (.c (.int .i64 1))), none, []⟩,
    ⟨(some 38), (.mov (.t 52)), none, []⟩] none))))
def B6 : ACode := (.seq (.region [⟨(some 0), (.mov (.c (.bool false))), none, []⟩] none)
  (.seq (.seq (.region [⟨(some 11), (.buildSlice 9 1 11 [(.string ⟨#[]⟩)] [(0, 1, (.c (.string ⟨#[]⟩))), (1, 1, (.c (.string ⟨#[48, 48, 58, 48, 48, 58, 48, 48, 58, 48, 48, 58, 48, 48]⟩))), (2, 1, (.c (.string ⟨#[48, 48, 58, 48, 48, 58, 48, 48, 58, 48, 48, 58, 48, 48, 58, 48, 48, 58, 48, 48]⟩))), (3, 1, (.c (.string ⟨#[48, 58, 48, 48, 58, 48, 48, 58, 48, 48, 58, 48, 48, 58, 48, 48, 48]⟩))), (4, 1, (.c (.string ⟨#[48, 48, 45, 48, 48, 45, 48, 48, 45, 48, 48, 45, 48, 48, 45, 48, 48]⟩))), (5, 1, (.c (.string ⟨#[48, 48, 58, 48, 48, 58, 48, 48, 58, 48, 48, 58, 48, 48, 58, 48, 103]⟩))), (6, 1, (.c (.string ⟨#[48, 48, 58, 48, 48, 58, 48, 48, 58, 48, 48, 58, 48, 48, 58, 48, 32]⟩))), (7, 1, (.c (.string ⟨#[32, 48, 58, 48, 48, 58, 48, 48, 58, 48, 48, 58, 48, 48, 58, 48, 48]⟩))), (8, 1, (.c (.string ⟨#[48, 120, 58, 48, 48, 58, 48, 48, 58, 48, 48, 58, 48, 48, 58, 48, 48]⟩))), (9, 1, (.c (.string ⟨#[48, 48, 58, 48, 48, 58, 48, 48, 58, 48, 48, 58, 48, 48, 58, 49, 48, 0]⟩))), (10, 1, (.c (.string ⟨#[16, 16, 58, 48, 48, 58, 48, 48, 58, 48, 48, 58, 48, 48, 58, 48, 48]⟩)))]), none, []⟩,
    ⟨(some 12), (.lenSlice (.t 11)), none, []⟩,
    ⟨(some 13), (.mov (.c (.int .i64 0))), none, []⟩] none)
  (.block 0 (.loop F6L0)))
  (.seq (.seq (.region [⟨(some 25), (.build [(.string ⟨#[]⟩), (.int .i64 0)] [(0, 1, (.c (.string ⟨#[48, 48, 58, 48, 48, 58, 48, 48, 58, 48, 48, 58, 48, 48, 58, 48, 48, 47]⟩))), (1, 1, (.c (.int .i64 5)))]), none, []⟩,
    ⟨(some 26), (.build [(.string ⟨#[]⟩), (.int .i64 0)] [(0, 1, (.c (.string ⟨#[48, 48, 58, 48, 48, 58, 48, 48, 58, 48, 48, 58, 48, 48, 58, 48, 48, 47, 52, 57]⟩))), (1, 1, (.c (.int .i64 24)))]), none, []⟩,
    ⟨(some 27), (.build [(.string ⟨#[]⟩), (.int .i64 0)] [(0, 1, (.c (.string ⟨#[48, 48, 58, 48, 48, 58, 48, 48, 58, 48, 48, 58, 48, 48, 58, 48, 48, 47, 49, 48, 48]⟩))), (1, 1, (.c (.int .i64 5)))]), none, []⟩,
    ⟨(some 28), (.build [(.string ⟨#[]⟩), (.int .i64 0)] [(0, 1, (.c (.string ⟨#[48, 48, 58, 48, 48, 58, 48, 48, 58, 48, 48, 58, 48, 48, 58, 48, 48, 47, 45, 49]⟩))), (1, 1, (.c (.int .i64 5)))]), none, []⟩,
    ⟨(some 29), (.build [(.string ⟨#[]⟩), (.int .i64 0)] [(0, 1, (.c (.string ⟨#[48, 48, 58, 48, 48, 58, 48, 48, 58, 48, 48, 58, 48, 48, 58, 48, 48, 47, 52, 56]⟩))), (1, 1, (.c (.int .i64 0)))]), none, []⟩,
    ⟨(some 30), (.build [(.string ⟨#[]⟩), (.int .i64 0)] [(0, 1, (.c (.string ⟨#[48, 48, 58, 48, 48, 58, 48, 48, 58, 48, 48, 58, 48, 48, 58, 48, 48, 47, 48]⟩))), (1, 1, (.c (.int .i64 0)))]), none, []⟩,
    ⟨(some 31), (.build [(.string ⟨#[]⟩), (.int .i64 0)] [(0, 1, (.c (.string ⟨#[48, 48, 58, 48, 48, 58, 48, 48, 58, 48, 48, 58, 48, 48, 58, 48, 48, 47, 48, 48]⟩))), (1, 1, (.c (.int .i64 0)))]), none, []⟩,
    ⟨(some 32), (.build [(.string ⟨#[]⟩), (.int .i64 0)] [(0, 1, (.c (.string ⟨#[48, 48, 58, 48, 48, 58, 48, 48, 58, 48, 48, 58, 48, 48, 58, 48, 48, 47, 48, 48, 58, 48, 48, 58, 48, 48, 58, 48, 48, 58, 48, 48, 58, 48, 48]⟩))), (1, 1, (.c (.int .i64 0)))]), none, []⟩,
    ⟨(some 33), (.build [(.string ⟨#[]⟩), (.int .i64 0)] [(0, 1, (.c (.string ⟨#[48, 48, 58, 48, 48, 58, 48, 48, 58, 48, 48, 58, 48, 48, 58, 48, 48, 47, 49, 47, 50]⟩))), (1, 1, (.c (.int .i64 5)))]), none, []⟩,
    ⟨(some 34), (.build [(.string ⟨#[]⟩), (.int .i64 0)] [(0, 1, (.c (.string ⟨#[47, 56]⟩))), (1, 1, (.c (.int .i64 5)))]), none, []⟩,
    ⟨(some 35), (.build [(.string ⟨#[]⟩), (.int .i64 0)] [(0, 1, (.c (.string ⟨#[48, 48, 58, 48, 48, 58, 48, 48, 58, 48, 48, 58, 48, 48, 58, 48, 48, 120]⟩))), (1, 1, (.c (.int .i64 5)))]), none, []⟩,
    ⟨(some 36), (.buildSlice 50 2 11 [(.string ⟨#[]⟩), (.int .i64 0)] [(0, 2, (.t 25)), (2, 2, (.t 26)), (4, 2, (.t 27)), (6, 2, (.t 28)), (8, 2, (.t 29)), (10, 2, (.t 30)), (12, 2, (.t 31)), (14, 2, (.t 32)), (16, 2, (.t 33)), (18, 2, (.t 34)), (20, 2, (.t 35))]), none, []⟩,
    ⟨(some 37), (.lenSlice (.t 36)), none, []⟩,
    ⟨(some 38), (.mov (.c (.int .i64 0))), none, []⟩] none)
  (.block 2 (.loop F6L1)))
  (.seq (.region [⟨(some 54), (.call (.f 11) [(.c (.string ⟨#[102, 102, 58, 102, 102, 58, 102, 102, 58, 102, 102, 58, 102, 102, 58, 102, 102, 47, 48, 102, 58, 48, 48, 58, 48, 48, 58, 48, 48, 58, 48, 48, 58, 48, 49]⟩))]), none, []⟩,
    ⟨(some 53), (.mov (.t 54)), none, []⟩,
    ⟨(some 55), (.extract (.t 53) 0), none, []⟩,
    ⟨(some 56), (.extract (.t 53) 1), none, []⟩,
    ⟨(some 9), (.alloc 30 [(.int .u8 0), (.int .u8 0), (.int .u8 0), (.int .u8 0), (.int .u8 0), (.int .u8 0), (.int .u8 0), (.int .u8 0), (.int .u8 0), (.int .u8 0), (.int .u8 0), (.int .u8 0)]), none, []⟩,
    ⟨none, (.store 12 (.t 9) (.t 55)), none, []⟩,
    ⟨(some 10), (.mov (.t 56)), none, []⟩] none)
  (.seq (.region [⟨(some 57), (.mov (.t 10)), none, []⟩,
    ⟨(some 58), (.bin .eql (.t 57) (.c (.int .i64 0))), none, []⟩,
    ⟨(some 59), (.mov (.t 58)), none, []⟩,
    ⟨(some 60), (.load (some 12) (.t 9)), (some (59, true)), []⟩,
    ⟨(some 61), (.call (.f 21) [(.t 60)]), (some (59, true)), []⟩,
    ⟨(some 62), (.bin .eql (.t 61) (.c (.string ⟨#[48, 102, 58, 48, 48, 58, 48, 48, 58, 48, 48, 58, 48, 48, 58, 48, 49, 47, 48, 102, 58, 48, 48, 58, 48, 48, 58, 48, 48, 58, 48, 48, 58, 48, 49]⟩))), (some (59, true)), []⟩,
    ⟨(some 63), (.pick (.t 59) (.t 62) (.c (.bool false))), none, []⟩,
    ⟨(some 64), (.mov (.t 63)), none, []⟩,
    ⟨(some 65), (.build [(.int .u8 0), (.int .u8 0), (.int .u8 0), (.int .u8 0), (.int .u8 0), (.int .u8 0)] []), (some (64, true)), []⟩,
    ⟨(some 66), (.call (.f 18) [(.t 65)]), (some (64, true)), []⟩,
    ⟨(some 67), (.bin .eql (.t 66) (.c (.int .i64 1))), (some (64, true)), []⟩,
    ⟨(some 68), (.pick (.t 64) (.t 67) (.c (.bool false))), none, []⟩,
    ⟨(some 69), (.mov (.t 68)), none, []⟩,
    ⟨(some 70), (.call (.f 22) [(.c (.int .u64 281474976710655))]), (some (69, true)), []⟩,
    ⟨(some 71), (.call (.f 18) [(.t 70)]), (some (69, true)), []⟩,
    ⟨(some 72), (.bin .eql (.t 71) (.c (.int .i64 2))), (some (69, true)), []⟩,
    ⟨(some 73), (.pick (.t 69) (.t 72) (.c (.bool false))), none, []⟩,
    ⟨(some 74), (.mov (.t 73)), none, []⟩,
    ⟨(some 75), (.build [(.int .u8 0), (.int .u8 0), (.int .u8 0), (.int .u8 0), (.int .u8 0), (.int .u8 0)] [(0, 1, (.c (.int .u8 1))), (1, 1, (.c (.int .u8 128))), (2, 1, (.c (.int .u8 194))), (3, 1, (.c (.int .u8 0))), (4, 1, (.c (.int .u8 0))), (5, 1, (.c (.int .u8 15)))]), (some (74, true)), []⟩,
    ⟨(some 76), (.call (.f 18) [(.t 75)]), (some (74, true)), []⟩,
    ⟨(some 77), (.bin .eql (.t 76) (.c (.int .i64 3))), (some (74, true)), []⟩,
    ⟨(some 78), (.pick (.t 74) (.t 77) (.c (.bool false))), none, []⟩,
    ⟨(some 79), (.mov (.t 78)), none, []⟩,
    ⟨(some 80), (.build [(.int .u8 0), (.int .u8 0), (.int .u8 0), (.int .u8 0), (.int .u8 0), (.int .u8 0)] [(0, 1, (.c (.int .u8 1))), (1, 1, (.c (.int .u8 128))), (2, 1, (.c (.int .u8 194))), (3, 1, (.c (.int .u8 0))), (4, 1, (.c (.int .u8 0))), (5, 1, (.c (.int .u8 16)))]), (some (79, true)), []⟩,
    ⟨(some 81), (.call (.f 18) [(.t 80)]), (some (79, true)), []⟩,
    ⟨(some 82), (.bin .eql (.t 81) (.c (.int .i64 4))), (some (79, true)), []⟩,
    ⟨(some 83), (.pick (.t 79) (.t 82) (.c (.bool false))), none, []⟩,
    ⟨(some 84), (.mov (.t 83)), none, []⟩,
    ⟨(some 85), (.build [(.int .u8 0), (.int .u8 0), (.int .u8 0), (.int .u8 0), (.int .u8 0), (.int .u8 0)] [(0, 1, (.c (.int .u8 2)))]), (some (84, true)), []⟩,
    ⟨(some 86), (.call (.f 18) [(.t 85)]), (some (84, true)), []⟩,
    ⟨(some 87), (.bin .eql (.t 86) (.c (.int .i64 5))), (some (84, true)), []⟩,
    ⟨(some 88), (.pick (.t 84) (.t 87) (.c (.bool false))), none, []⟩,
    ⟨(some 89), (.mov (.t 88)), none, []⟩,
    ⟨(some 90), (.call (.f 14) [(.c (.int .i64 (-1)))]), (some (89, true)), []⟩,
    ⟨(some 91), (.build [(.int .u8 0), (.int .u8 0), (.int .u8 0), (.int .u8 0), (.int .u8 0), (.int .u8 0)] []), (some (89, true)), []⟩,
    ⟨(some 92), (.eqAgg false [.int, .int, .int, .int, .int, .int] (.t 90) (.t 91)), (some (89, true)), []⟩,
    ⟨(some 93), (.pick (.t 89) (.t 92) (.c (.bool false))), none, []⟩,
    ⟨(some 94), (.mov (.t 93)), none, []⟩,
    ⟨(some 95), (.call (.f 14) [(.c (.int .i64 99))]), (some (94, true)), []⟩,
    ⟨(some 96), (.call (.f 22) [(.c (.int .u64 281474976710655))]), (some (94, true)), []⟩,
    ⟨(some 97), (.eqAgg false [.int, .int, .int, .int, .int, .int] (.t 95) (.t 96)), (some (94, true)), []⟩,
    ⟨(some 98), (.pick (.t 94) (.t 97) (.c (.bool false))), none, []⟩,
    ⟨(some 99), (.mov (.t 98)), none, []⟩,
    ⟨(some 100), (.call (.f 14) [(.c (.int .i64 9))]), (some (99, true)), []⟩,
    ⟨(some 101), (.build [(.int .u8 0), (.int .u8 0), (.int .u8 0), (.int .u8 0), (.int .u8 0), (.int .u8 0)] [(0, 1, (.c (.int .u8 255))), (1, 1, (.c (.int .u8 128)))]), (some (99, true)), []⟩,
    ⟨(some 102), (.eqAgg false [.int, .int, .int, .int, .int, .int] (.t 100) (.t 101)), (some (99, true)), []⟩,
    ⟨(some 103), (.pick (.t 99) (.t 102) (.c (.bool false))), none, []⟩,
    ⟨(some 104), (.mov (.t 103)), none, []⟩,
    ⟨(some 105), (.call (.f 22) [(.c (.int .u64 1152921504606846981))]), (some (104, true)), []⟩,
    ⟨(some 106), (.build [(.int .u8 0), (.int .u8 0), (.int .u8 0), (.int .u8 0), (.int .u8 0), (.int .u8 0)] [(0, 1, (.c (.int .u8 0))), (1, 1, (.c (.int .u8 0))), (2, 1, (.c (.int .u8 0))), (3, 1, (.c (.int .u8 0))), (4, 1, (.c (.int .u8 0))), (5, 1, (.c (.int .u8 5)))]), (some (104, true)), []⟩,
    ⟨(some 107), (.eqAgg false [.int, .int, .int, .int, .int, .int] (.t 105) (.t 106)), (some (104, true)), []⟩,
    ⟨(some 108), (.pick (.t 104) (.t 107) (.c (.bool false))), none, []⟩,
    ⟨(some 109), (.mov (.t 108)), none, []⟩,
    ⟨(some 110), (.call (.f 13) []), (some (109, true)), []⟩,
    ⟨(some 111), (.pick (.t 109) (.t 110) (.c (.bool false))), none, []⟩,
    ⟨(some 0), (.mov (.t 111)), none, []⟩] none)
  .ret)))))
def F6 : AFunc := ⟨0, 112, [(.tmp 0)], B6⟩
-- F6L0 live: [11, 12, 13]

-- F6L1 live: [36, 37, 38]
def R7_0 : ACode := .region [⟨(some 12), (.load (some 6) (.t 3)), none, []⟩,
    ⟨(some 13), (.load (some 6) (.t 4)), none, []⟩,
    ⟨(some 7), (.alloc 23 [(.int .u8 0), (.int .u8 0), (.int .u8 0), (.int .u8 0), (.int .u8 0), (.int .u8 0)]), none, []⟩,
    ⟨(some 8), (.alloc 23 [(.int .u8 0), (.int .u8 0), (.int .u8 0), (.int .u8 0), (.int .u8 0), (.int .u8 0)]), none, []⟩,
    ⟨none, (.store 6 (.t 7) (.t 12)), none, [2, 0, 0, 2, 3]⟩,
    ⟨none, (.store 6 (.t 8) (.t 13)), none, [3, 1, 4, 0, 1, 2, 3, 4]⟩] (some [(0, 1), (0, 2), (1, 2), (0, 3), (1, 3), (2, 3), (1, 4)])
def R7_1 : ACode := .region [⟨(some 24), (.load (some 6) (.t 7)), none, []⟩,
    ⟨(some 25), (.call (.f 23) [(.t 24)]), none, [0]⟩,
    ⟨(some 26), (.load (some 6) (.t 3)), none, []⟩,
    ⟨(some 27), (.call (.f 24) [(.t 26)]), none, [2, 1]⟩,
    ⟨(some 28), (.bin .eql (.t 25) (.t 27)), none, [1, 3]⟩,
    ⟨(some 29), (.mov (.t 28)), none, [4, 3]⟩,
    ⟨(some 30), (.load (some 6) (.t 7)), (some (29, true)), [5]⟩,
    ⟨(some 31), (.call (.f 16) [(.t 30)]), (some (29, true)), [6, 5, 5]⟩,
    ⟨(some 32), (.load (some 6) (.t 3)), (some (29, true)), [5]⟩,
    ⟨(some 33), (.call (.f 25) [(.t 32)]), (some (29, true)), [8, 7, 5]⟩,
    ⟨(some 34), (.bin .eql (.t 31) (.t 33)), (some (29, true)), [7, 9, 5]⟩,
    ⟨(some 35), (.pick (.t 29) (.t 34) (.c (.bool false))), none, [5, 10]⟩,
    ⟨(some 36), (.mov (.t 35)), none, [11, 9]⟩,
    ⟨(some 37), (.mov (.t 2)), (some (36, true)), [12]⟩,
    ⟨(some 38), (.call (.f 22) [(.t 37)]), (some (36, true)), [13, 12, 12]⟩,
    ⟨(some 39), (.mov (.t 2)), (some (36, true)), [12]⟩,
    ⟨(some 40), (.call (.f 26) [(.t 39)]), (some (36, true)), [15, 14, 12]⟩,
    ⟨(some 41), (.eqAgg false [.int, .int, .int, .int, .int, .int] (.t 38) (.t 40)), (some (36, true)), [14, 16, 12]⟩,
    ⟨(some 42), (.pick (.t 36) (.t 41) (.c (.bool false))), none, [12, 17]⟩,
    ⟨(some 43), (.mov (.t 42)), none, [18, 16]⟩,
    ⟨(some 44), (.load (some 6) (.t 7)), (some (43, true)), [19]⟩,
    ⟨(some 45), (.call (.f 18) [(.t 44)]), (some (43, true)), [20, 19, 19]⟩,
    ⟨(some 46), (.load (some 6) (.t 3)), (some (43, true)), [19]⟩,
    ⟨(some 47), (.call (.f 27) [(.t 46)]), (some (43, true)), [22, 21, 19]⟩,
    ⟨(some 48), (.bin .eql (.t 45) (.t 47)), (some (43, true)), [21, 23, 19]⟩,
    ⟨(some 49), (.pick (.t 43) (.t 48) (.c (.bool false))), none, [19, 24]⟩,
    ⟨(some 50), (.mov (.t 49)), none, [25, 23]⟩,
    ⟨(some 51), (.load (some 6) (.t 7)), (some (50, true)), [26]⟩,
    ⟨(some 52), (.call (.f 20) [(.t 51)]), (some (50, true)), [27, 26, 26]⟩,
    ⟨(some 53), (.indexArr 1 6 (.t 3) (.c (.int .i64 0))), (some (50, true)), [26]⟩,
    ⟨(some 54), (.load none (.t 53)), (some (50, true)), [29, 26]⟩,
    ⟨(some 55), (.bin .rem (.t 54) (.c (.int .u8 2))), (some (50, true)), [30, 26]⟩,
    ⟨(some 56), (.bin .eql (.t 55) (.c (.int .u8 1))), (some (50, true)), [31, 26]⟩,
    ⟨(some 57), (.eqv false .bool false (.t 52) (.t 56)), (some (50, true)), [28, 32, 26]⟩,
    ⟨(some 58), (.pick (.t 50) (.t 57) (.c (.bool false))), none, [26, 33]⟩,
    ⟨(some 59), (.mov (.t 58)), none, [34, 28]⟩,
    ⟨(some 60), (.mov (.t 11)), (some (59, true)), [35]⟩,
    ⟨(some 61), (.call (.f 14) [(.t 60)]), (some (59, true)), [36, 35, 35]⟩,
    ⟨(some 62), (.mov (.t 11)), (some (59, true)), [35]⟩,
    ⟨(some 63), (.call (.f 28) [(.t 62)]), (some (59, true)), [38, 37, 35]⟩,
    ⟨(some 64), (.eqAgg false [.int, .int, .int, .int, .int, .int] (.t 61) (.t 63)), (some (59, true)), [37, 39, 35]⟩,
    ⟨(some 65), (.pick (.t 59) (.t 64) (.c (.bool false))), none, [35, 40]⟩,
    ⟨(some 66), (.mov (.t 65)), none, [41, 39]⟩,
    ⟨(some 67), (.load (some 6) (.t 7)), (some (66, true)), [42]⟩,
    ⟨(some 68), (.load (some 6) (.t 8)), (some (66, true)), [42]⟩,
    ⟨(some 69), (.call (.f 17) [(.t 67), (.t 68)]), (some (66, true)), [43, 44, 42, 42]⟩,
    ⟨(some 70), (.load (some 6) (.t 3)), (some (66, true)), [42]⟩,
    ⟨(some 71), (.load (some 6) (.t 4)), (some (66, true)), [42]⟩,
    ⟨(some 72), (.call (.f 29) [(.t 70), (.t 71)]), (some (66, true)), [46, 47, 45, 42]⟩,
    ⟨(some 73), (.eqAgg false [.int, .int, .int, .int, .int, .int] (.t 69) (.t 72)), (some (66, true)), [45, 48, 42]⟩,
    ⟨(some 74), (.pick (.t 66) (.t 73) (.c (.bool false))), none, [42, 49]⟩,
    ⟨(some 75), (.mov (.t 74)), none, [50, 48]⟩,
    ⟨(some 76), (.load (some 12) (.t 9)), (some (75, true)), [51]⟩,
    ⟨(some 77), (.call (.f 21) [(.t 76)]), (some (75, true)), [52, 51, 51]⟩,
    ⟨(some 78), (.load (some 12) (.t 10)), (some (75, true)), [51]⟩,
    ⟨(some 79), (.call (.f 30) [(.t 78)]), (some (75, true)), [54, 53, 51]⟩,
    ⟨(some 80), (.bin .eql (.t 77) (.t 79)), (some (75, true)), [53, 55, 51]⟩,
    ⟨(some 81), (.pick (.t 75) (.t 80) (.c (.bool false))), none, [51, 56]⟩,
    ⟨(some 82), (.mov (.t 81)), none, [57, 55]⟩,
    ⟨(some 83), (.load (some 12) (.t 9)), (some (82, true)), [58]⟩,
    ⟨(some 84), (.mov (.t 2)), (some (82, true)), [58]⟩,
    ⟨(some 85), (.call (.f 22) [(.t 84)]), (some (82, true)), [60, 58, 58]⟩,
    ⟨(some 86), (.call (.f 15) [(.t 83), (.t 85)]), (some (82, true)), [59, 61, 61, 58]⟩,
    ⟨(some 87), (.load (some 12) (.t 10)), (some (82, true)), [58]⟩,
    ⟨(some 88), (.mov (.t 2)), (some (82, true)), [58]⟩,
    ⟨(some 89), (.call (.f 26) [(.t 88)]), (some (82, true)), [64, 62, 58]⟩,
    ⟨(some 90), (.call (.f 31) [(.t 87), (.t 89)]), (some (82, true)), [63, 65, 65, 58]⟩,
    ⟨(some 91), (.eqv false .bool false (.t 86) (.t 90)), (some (82, true)), [62, 66, 58]⟩,
    ⟨(some 92), (.pick (.t 82) (.t 91) (.c (.bool false))), none, [58, 67]⟩,
    ⟨(some 93), (.mov (.t 92)), none, [68, 66]⟩,
    ⟨(some 94), (.call (.f 13) []), (some (93, true)), [69, 69]⟩,
    ⟨(some 95), (.pick (.t 93) (.t 94) (.c (.bool false))), none, [69, 70]⟩,
    ⟨(some 6), (.mov (.t 95)), none, [71, 70, 0, 1, 2, 3, 4, 5, 6, 7, 8, 9, 10, 11, 12, 13, 14, 15, 16, 17, 18, 19, 20, 21, 22, 23, 24, 25, 26, 27, 28, 29, 30, 31, 32, 33, 34, 35, 36, 37, 38, 39, 40, 41, 42, 43, 44, 45, 46, 47, 48, 49, 50, 51, 52, 53, 54, 55, 56, 57, 58, 59, 60, 61, 62, 63, 64, 65, 66, 67, 68, 69, 70, 71]⟩] (some [(0, 2), (1, 2), (6, 8), (7, 8), (13, 15), (14, 15), (20, 22), (21, 22), (27, 29), (28, 29), (27, 30), (28, 30), (27, 31), (28, 31), (27, 32), (28, 32), (36, 38), (37, 38), (43, 44), (43, 46), (44, 46), (45, 46), (43, 47), (44, 47), (45, 47), (46, 47), (52, 54), (53, 54), (59, 60), (59, 61), (59, 63), (60, 63), (61, 63), (62, 63), (59, 64), (60, 64), (61, 64), (62, 64), (63, 64), (63, 65)])
/-- toll/tolllaw02.MacTells -/
def B7 : ACode := (.seq (.region [⟨(some 3), (.box 22 (.t 0)), none, []⟩,
    ⟨(some 4), (.box 22 (.t 1)), none, []⟩,
    ⟨(some 6), (.mov (.c (.bool false))), none, []⟩] none)
  (.seq R7_0
  (.seq (.region [⟨(some 14), (.load (some 6) (.t 7)), none, []⟩,
    ⟨(some 15), (.load (some 6) (.t 8)), none, []⟩,
    ⟨(some 16), (.build [(.int .u8 0), (.int .u8 0), (.int .u8 0), (.int .u8 0), (.int .u8 0), (.int .u8 0), (.int .u8 0), (.int .u8 0), (.int .u8 0), (.int .u8 0), (.int .u8 0), (.int .u8 0)] [(0, 6, (.t 14)), (6, 6, (.t 15))]), none, []⟩,
    ⟨(some 9), (.alloc 30 [(.int .u8 0), (.int .u8 0), (.int .u8 0), (.int .u8 0), (.int .u8 0), (.int .u8 0), (.int .u8 0), (.int .u8 0), (.int .u8 0), (.int .u8 0), (.int .u8 0), (.int .u8 0)]), none, []⟩,
    ⟨none, (.store 12 (.t 9) (.t 16)), none, []⟩] none)
  (.seq (.region [⟨(some 17), (.load (some 6) (.t 3)), none, []⟩,
    ⟨(some 18), (.load (some 6) (.t 4)), none, []⟩,
    ⟨(some 19), (.build [(.int .u8 0), (.int .u8 0), (.int .u8 0), (.int .u8 0), (.int .u8 0), (.int .u8 0), (.int .u8 0), (.int .u8 0), (.int .u8 0), (.int .u8 0), (.int .u8 0), (.int .u8 0)] [(0, 6, (.t 17)), (6, 6, (.t 18))]), none, []⟩,
    ⟨(some 10), (.alloc 34 [(.int .u8 0), (.int .u8 0), (.int .u8 0), (.int .u8 0), (.int .u8 0), (.int .u8 0), (.int .u8 0), (.int .u8 0), (.int .u8 0), (.int .u8 0), (.int .u8 0), (.int .u8 0)]), none, []⟩,
    ⟨none, (.store 12 (.t 10) (.t 19)), none, []⟩] none)
  (.seq (.region [⟨(some 20), (.mov (.t 2)), none, []⟩,
    ⟨(some 21), (.bin .rem (.t 20) (.c (.int .u64 100))), none, []⟩,
    ⟨(some 22), (.conv .i64 (.t 21)), none, []⟩,
    ⟨(some 23), (.bin .sub (.t 22) (.c (.int .i64 20))), none, []⟩,
    ⟨(some 11), (.mov (.t 23)), none, []⟩] none)
  (.seq R7_1
  .ret))))))
def F7 : AFunc := ⟨3, 96, [(.tmp 6)], B7⟩
def R8_0 : ACode := .region [⟨(some 22), (.load (some 6) (.t 3)), none, []⟩,
    ⟨(some 23), (.load (some 6) (.t 4)), none, []⟩,
    ⟨(some 7), (.alloc 23 [(.int .u8 0), (.int .u8 0), (.int .u8 0), (.int .u8 0), (.int .u8 0), (.int .u8 0)]), none, []⟩,
    ⟨(some 8), (.alloc 23 [(.int .u8 0), (.int .u8 0), (.int .u8 0), (.int .u8 0), (.int .u8 0), (.int .u8 0)]), none, []⟩,
    ⟨none, (.store 6 (.t 7) (.t 22)), none, [2, 0, 0, 2, 3]⟩,
    ⟨none, (.store 6 (.t 8) (.t 23)), none, [3, 1, 4, 0, 1, 2, 3, 4]⟩] (some [(0, 1), (0, 2), (1, 2), (0, 3), (1, 3), (2, 3), (1, 4)])
def R8_1 : ACode := .region [⟨(some 37), (.load (some 6) (.t 7)), none, []⟩,
    ⟨(some 38), (.load (some 6) (.t 8)), none, []⟩,
    ⟨(some 39), (.call (.f 17) [(.t 37), (.t 38)]), none, [0, 1]⟩,
    ⟨(some 40), (.load (some 6) (.t 8)), none, []⟩,
    ⟨(some 41), (.build [(.int .u8 0), (.int .u8 0), (.int .u8 0), (.int .u8 0), (.int .u8 0), (.int .u8 0), (.int .u8 0), (.int .u8 0), (.int .u8 0), (.int .u8 0), (.int .u8 0), (.int .u8 0)] [(0, 6, (.t 39)), (6, 6, (.t 40))]), none, [2, 3]⟩,
    ⟨(some 13), (.alloc 30 [(.int .u8 0), (.int .u8 0), (.int .u8 0), (.int .u8 0), (.int .u8 0), (.int .u8 0), (.int .u8 0), (.int .u8 0), (.int .u8 0), (.int .u8 0), (.int .u8 0), (.int .u8 0)]), none, []⟩,
    ⟨none, (.store 12 (.t 13) (.t 41)), none, [5, 4, 2, 0, 1, 2, 3, 4, 5]⟩] (some [(0, 1), (0, 3), (1, 3), (2, 3), (0, 5), (1, 5), (2, 5), (3, 5), (4, 5)])
def R8_2 : ACode := .region [⟨(some 48), (.mov (.t 10)), none, []⟩,
    ⟨(some 49), (.bin .neq (.t 48) (.c (.int .i64 0))), none, [0]⟩,
    ⟨(some 50), (.mov (.t 49)), none, [1]⟩,
    ⟨(some 51), (.mov (.t 12)), (some (50, false)), [2]⟩,
    ⟨(some 52), (.bin .neq (.t 51) (.c (.int .i64 0))), (some (50, false)), [3, 2]⟩,
    ⟨(some 53), (.pick (.t 50) (.c (.bool true)) (.t 52)), none, [2, 4]⟩,
    ⟨(some 54), (.mov (.t 53)), none, [5, 2]⟩,
    ⟨(some 55), (.mov (.t 15)), (some (54, false)), [6]⟩,
    ⟨(some 56), (.bin .neq (.t 55) (.c (.int .i64 0))), (some (54, false)), [7, 6]⟩,
    ⟨(some 57), (.pick (.t 54) (.c (.bool true)) (.t 56)), none, [6, 8]⟩,
    ⟨(some 58), (.mov (.t 57)), none, [9, 6]⟩,
    ⟨(some 59), (.load (some 6) (.t 9)), (some (58, false)), [10]⟩,
    ⟨(some 60), (.load (some 6) (.t 7)), (some (58, false)), [10]⟩,
    ⟨(some 61), (.eqAgg true [.int, .int, .int, .int, .int, .int] (.t 59) (.t 60)), (some (58, false)), [11, 12, 10]⟩,
    ⟨(some 62), (.pick (.t 58) (.c (.bool true)) (.t 61)), none, [10, 13]⟩,
    ⟨(some 63), (.mov (.t 62)), none, [14, 10]⟩,
    ⟨(some 64), (.load (some 6) (.t 11)), (some (63, false)), [15]⟩,
    ⟨(some 65), (.load (some 6) (.t 7)), (some (63, false)), [15]⟩,
    ⟨(some 66), (.eqAgg true [.int, .int, .int, .int, .int, .int] (.t 64) (.t 65)), (some (63, false)), [16, 17, 15]⟩,
    ⟨(some 67), (.pick (.t 63) (.c (.bool true)) (.t 66)), none, [15, 18]⟩,
    ⟨(some 68), (.mov (.t 67)), none, [19, 15]⟩,
    ⟨(some 69), (.load (some 12) (.t 14)), (some (68, false)), [20]⟩,
    ⟨(some 70), (.load (some 12) (.t 13)), (some (68, false)), [20]⟩,
    ⟨(some 71), (.eqAgg true [.int, .int, .int, .int, .int, .int, .int, .int, .int, .int, .int, .int] (.t 69) (.t 70)), (some (68, false)), [21, 22, 20]⟩,
    ⟨(some 72), (.pick (.t 68) (.c (.bool true)) (.t 71)), none, [20, 23]⟩,
    ⟨(some 73), (.mov (.t 72)), none, [24, 20]⟩,
    ⟨(some 74), (.load (some 6) (.t 7)), (some (73, false)), [25]⟩,
    ⟨(some 75), (.call (.f 16) [(.t 74)]), (some (73, false)), [26, 25, 25]⟩,
    ⟨(some 76), (.call (.f 22) [(.t 75)]), (some (73, false)), [27, 27, 25]⟩,
    ⟨(some 77), (.load (some 6) (.t 7)), (some (73, false)), [25]⟩,
    ⟨(some 78), (.eqAgg true [.int, .int, .int, .int, .int, .int] (.t 76) (.t 77)), (some (73, false)), [28, 29, 25]⟩,
    ⟨(some 79), (.pick (.t 73) (.c (.bool true)) (.t 78)), none, [25, 30]⟩,
    ⟨(some 80), (.mov (.t 79)), none, [31, 28]⟩,
    ⟨(some 81), (.load (some 6) (.t 7)), (some (80, false)), [32]⟩,
    ⟨(some 82), (.call (.f 16) [(.t 81)]), (some (80, false)), [33, 32, 32]⟩,
    ⟨(some 83), (.bin .shr (.t 82) (.c (.int .u64 48))), (some (80, false)), [34, 32]⟩,
    ⟨(some 84), (.bin .neq (.t 83) (.c (.int .u64 0))), (some (80, false)), [35, 32]⟩,
    ⟨(some 85), (.pick (.t 80) (.c (.bool true)) (.t 84)), none, [32, 36]⟩] (some [(11, 12), (16, 17), (21, 22), (26, 29), (27, 29), (28, 29)])
def R8_3 : ACode := .region [⟨(some 133), (.mov (.t 21)), none, []⟩,
    ⟨(some 134), (.bin .eql (.t 133) (.c (.int .i64 0))), none, [0]⟩,
    ⟨(some 135), (.mov (.t 134)), none, [1]⟩,
    ⟨(some 136), (.load (some 12) (.t 20)), (some (135, true)), [2]⟩,
    ⟨(some 137), (.load (some 12) (.t 18)), (some (135, true)), [2]⟩,
    ⟨(some 138), (.eqAgg false [.int, .int, .int, .int, .int, .int, .int, .int, .int, .int, .int, .int] (.t 136) (.t 137)), (some (135, true)), [3, 4, 2]⟩,
    ⟨(some 139), (.pick (.t 135) (.t 138) (.c (.bool false))), none, [2, 5]⟩,
    ⟨(some 140), (.mov (.t 139)), none, [6, 2]⟩,
    ⟨(some 141), (.fieldAddr 0 (.t 18)), (some (140, true)), [7]⟩,
    ⟨(some 142), (.load (some 6) (.t 141)), (some (140, true)), [8, 7]⟩,
    ⟨(some 143), (.fieldAddr 6 (.t 18)), (some (140, true)), [7]⟩,
    ⟨(some 144), (.load (some 6) (.t 143)), (some (140, true)), [10, 7]⟩,
    ⟨(some 145), (.call (.f 17) [(.t 142), (.t 144)]), (some (140, true)), [9, 11, 7, 7]⟩,
    ⟨(some 146), (.fieldAddr 0 (.t 18)), (some (140, true)), [7]⟩,
    ⟨(some 147), (.load (some 6) (.t 146)), (some (140, true)), [13, 7]⟩,
    ⟨(some 148), (.eqAgg false [.int, .int, .int, .int, .int, .int] (.t 145) (.t 147)), (some (140, true)), [12, 14, 7]⟩,
    ⟨(some 149), (.pick (.t 140) (.t 148) (.c (.bool false))), none, [7, 15]⟩,
    ⟨(some 150), (.mov (.t 149)), none, [16, 12]⟩,
    ⟨(some 151), (.call (.f 13) []), (some (150, true)), [17, 17]⟩,
    ⟨(some 152), (.pick (.t 150) (.t 151) (.c (.bool false))), none, [17, 18]⟩,
    ⟨(some 6), (.mov (.t 152)), none, [19, 18, 0, 1, 2, 3, 4, 5, 6, 7, 8, 9, 10, 11, 12, 13, 14, 15, 16, 17, 18, 19]⟩] (some [(3, 4), (8, 10), (9, 10), (8, 11), (9, 11), (8, 13), (9, 13), (10, 13), (11, 13), (12, 13), (8, 14), (9, 14), (10, 14), (11, 14), (12, 14)])
/-- toll/tolllaw02.MacBack -/
def B8 : ACode := (.seq (.region [⟨(some 3), (.box 22 (.t 0)), none, []⟩,
    ⟨(some 4), (.box 22 (.t 1)), none, []⟩,
    ⟨(some 6), (.mov (.c (.bool false))), none, []⟩] none)
  (.seq R8_0
  (.seq (.region [⟨(some 25), (.load (some 6) (.t 7)), none, []⟩,
    ⟨(some 26), (.call (.f 23) [(.t 25)]), none, []⟩,
    ⟨(some 27), (.call (.f 9) [(.t 26)]), none, []⟩,
    ⟨(some 24), (.mov (.t 27)), none, []⟩,
    ⟨(some 28), (.extract (.t 24) 0), none, []⟩,
    ⟨(some 29), (.extract (.t 24) 1), none, []⟩,
    ⟨(some 9), (.alloc 23 [(.int .u8 0), (.int .u8 0), (.int .u8 0), (.int .u8 0), (.int .u8 0), (.int .u8 0)]), none, []⟩,
    ⟨none, (.store 6 (.t 9) (.t 28)), none, []⟩,
    ⟨(some 10), (.mov (.t 29)), none, []⟩] none)
  (.seq (.region [⟨(some 31), (.load (some 6) (.t 7)), none, []⟩,
    ⟨(some 32), (.call (.f 23) [(.t 31)]), none, []⟩,
    ⟨(some 33), (.call (.f 32) [(.t 32)]), none, []⟩,
    ⟨(some 34), (.call (.f 9) [(.t 33)]), none, []⟩,
    ⟨(some 30), (.mov (.t 34)), none, []⟩,
    ⟨(some 35), (.extract (.t 30) 0), none, []⟩,
    ⟨(some 36), (.extract (.t 30) 1), none, []⟩,
    ⟨(some 11), (.alloc 23 [(.int .u8 0), (.int .u8 0), (.int .u8 0), (.int .u8 0), (.int .u8 0), (.int .u8 0)]), none, []⟩,
    ⟨none, (.store 6 (.t 11) (.t 35)), none, []⟩,
    ⟨(some 12), (.mov (.t 36)), none, []⟩] none)
  (.seq R8_1
  (.seq (.region [⟨(some 43), (.load (some 12) (.t 13)), none, []⟩,
    ⟨(some 44), (.call (.f 21) [(.t 43)]), none, []⟩,
    ⟨(some 45), (.call (.f 11) [(.t 44)]), none, []⟩,
    ⟨(some 42), (.mov (.t 45)), none, []⟩,
    ⟨(some 46), (.extract (.t 42) 0), none, []⟩,
    ⟨(some 47), (.extract (.t 42) 1), none, []⟩,
    ⟨(some 14), (.alloc 30 [(.int .u8 0), (.int .u8 0), (.int .u8 0), (.int .u8 0), (.int .u8 0), (.int .u8 0), (.int .u8 0), (.int .u8 0), (.int .u8 0), (.int .u8 0), (.int .u8 0), (.int .u8 0)]), none, []⟩,
    ⟨none, (.store 12 (.t 14) (.t 46)), none, []⟩,
    ⟨(some 15), (.mov (.t 47)), none, []⟩] none)
  (.seq (.seq R8_2
  (.cond (.t 85)
  (.seq (.region [⟨(some 6), (.mov (.c (.bool false))), none, []⟩] none)
  .ret)
  .skip))
  (.seq (.region [⟨(some 86), (.mov (.t 2)), none, []⟩,
    ⟨(some 87), (.mov (.t 2)), none, []⟩,
    ⟨(some 88), (.lenStr (.t 87)), none, []⟩,
    ⟨(some 89), (.min [(.t 88), (.c (.int .i64 60))]), none, []⟩,
    ⟨(some 90), (.sliceStr (.t 86) none (some (.t 89))), none, []⟩,
    ⟨(some 2), (.mov (.t 90)), none, []⟩] none)
  (.seq (.seq (.region [⟨(some 92), (.mov (.t 2)), none, []⟩,
    ⟨(some 93), (.call (.f 9) [(.t 92)]), none, []⟩,
    ⟨(some 91), (.mov (.t 93)), none, []⟩,
    ⟨(some 94), (.extract (.t 91) 0), none, []⟩,
    ⟨(some 95), (.extract (.t 91) 1), none, []⟩,
    ⟨(some 16), (.alloc 23 [(.int .u8 0), (.int .u8 0), (.int .u8 0), (.int .u8 0), (.int .u8 0), (.int .u8 0)]), none, []⟩,
    ⟨none, (.store 6 (.t 16) (.t 94)), none, []⟩,
    ⟨(some 17), (.mov (.t 95)), none, []⟩] none)
  (.seq (.region [⟨(some 96), (.mov (.t 17)), none, []⟩,
    ⟨(some 97), (.bin .eql (.t 96) (.c (.int .i64 0))), none, []⟩,
    ⟨(some 98), (.mov (.t 97)), none, []⟩,
    ⟨(some 99), (.load (some 6) (.t 16)), (some (98, true)), []⟩,
    ⟨(some 100), (.call (.f 23) [(.t 99)]), (some (98, true)), []⟩,
    ⟨(some 101), (.mov (.t 2)), (some (98, true)), []⟩,
    ⟨(some 102), (.call (.f 33) [(.t 101)]), (some (98, true)), []⟩,
    ⟨(some 103), (.bin .neq (.t 100) (.t 102)), (some (98, true)), []⟩,
    ⟨(some 104), (.pick (.t 98) (.t 103) (.c (.bool false))), none, []⟩,
    ⟨(some 105), (.mov (.t 104)), none, []⟩,
    ⟨(some 106), (.mov (.t 17)), (some (105, false)), []⟩,
    ⟨(some 107), (.bin .neq (.t 106) (.c (.int .i64 0))), (some (105, false)), []⟩,
    ⟨(some 108), (.mov (.t 107)), (some (105, false)), []⟩,
    ⟨(some 109), (.load (some 6) (.t 16)), (some (108, true)), []⟩,
    ⟨(some 110), (.build [(.int .u8 0), (.int .u8 0), (.int .u8 0), (.int .u8 0), (.int .u8 0), (.int .u8 0)] []), (some (108, true)), []⟩,
    ⟨(some 111), (.eqAgg true [.int, .int, .int, .int, .int, .int] (.t 109) (.t 110)), (some (108, true)), []⟩,
    ⟨(some 112), (.pick (.t 108) (.t 111) (.c (.bool false))), (some (105, false)), []⟩,
    ⟨(some 113), (.pick (.t 105) (.c (.bool true)) (.t 112)), none, []⟩] none)
  (.cond (.t 113)
  (.seq (.region [⟨(some 6), (.mov (.c (.bool false))), none, []⟩] none)
  .ret)
  .skip)))
  (.seq (.region [⟨(some 115), (.mov (.t 2)), none, []⟩,
    ⟨(some 116), (.call (.f 11) [(.t 115)]), none, []⟩,
    ⟨(some 114), (.mov (.t 116)), none, []⟩,
    ⟨(some 117), (.extract (.t 114) 0), none, []⟩,
    ⟨(some 118), (.extract (.t 114) 1), none, []⟩,
    ⟨(some 18), (.alloc 30 [(.int .u8 0), (.int .u8 0), (.int .u8 0), (.int .u8 0), (.int .u8 0), (.int .u8 0), (.int .u8 0), (.int .u8 0), (.int .u8 0), (.int .u8 0), (.int .u8 0), (.int .u8 0)]), none, []⟩,
    ⟨none, (.store 12 (.t 18) (.t 117)), none, []⟩,
    ⟨(some 19), (.mov (.t 118)), none, []⟩] none)
  (.seq (.seq (.region [⟨(some 119), (.mov (.t 19)), none, []⟩,
    ⟨(some 120), (.bin .neq (.t 119) (.c (.int .i64 0))), none, []⟩] none)
  (.cond (.t 120)
  (.seq (.region [⟨(some 121), (.load (some 12) (.t 18)), none, []⟩,
    ⟨(some 122), (.build [(.int .u8 0), (.int .u8 0), (.int .u8 0), (.int .u8 0), (.int .u8 0), (.int .u8 0), (.int .u8 0), (.int .u8 0), (.int .u8 0), (.int .u8 0), (.int .u8 0), (.int .u8 0)] []), none, []⟩,
    ⟨(some 123), (.eqAgg false [.int, .int, .int, .int, .int, .int, .int, .int, .int, .int, .int, .int] (.t 121) (.t 122)), none, []⟩,
    ⟨(some 124), (.mov (.t 123)), none, []⟩,
    ⟨(some 125), (.call (.f 13) []), (some (124, true)), []⟩,
    ⟨(some 126), (.pick (.t 124) (.t 125) (.c (.bool false))), none, []⟩,
    ⟨(some 6), (.mov (.t 126)), none, []⟩] none)
  .ret)
  .skip))
  (.seq (.region [⟨(some 128), (.load (some 12) (.t 18)), none, []⟩,
    ⟨(some 129), (.call (.f 21) [(.t 128)]), none, []⟩,
    ⟨(some 130), (.call (.f 11) [(.t 129)]), none, []⟩,
    ⟨(some 127), (.mov (.t 130)), none, []⟩,
    ⟨(some 131), (.extract (.t 127) 0), none, []⟩,
    ⟨(some 132), (.extract (.t 127) 1), none, []⟩,
    ⟨(some 20), (.alloc 30 [(.int .u8 0), (.int .u8 0), (.int .u8 0), (.int .u8 0), (.int .u8 0), (.int .u8 0), (.int .u8 0), (.int .u8 0), (.int .u8 0), (.int .u8 0), (.int .u8 0), (.int .u8 0)]), none, []⟩,
    ⟨none, (.store 12 (.t 20) (.t 131)), none, []⟩,
    ⟨(some 21), (.mov (.t 132)), none, []⟩] none)
  (.seq R8_3
  .ret)))))))))))))
def F8 : AFunc := ⟨3, 153, [(.tmp 6)], B8⟩
def R9_0 : ACode := .region [⟨(some 37), (.mov (.t 6)), none, []⟩,
    ⟨(some 38), (.mov (.t 7)), none, []⟩,
    ⟨(some 39), (.indexStr (.t 38) (.c (.int .i64 0))), none, [1]⟩,
    ⟨(some 40), (.call (.f 35) [(.t 39)]), none, [2]⟩,
    ⟨(some 41), (.bin .shl (.t 40) (.c (.int .u64 4))), none, [3]⟩,
    ⟨(some 42), (.mov (.t 7)), none, []⟩,
    ⟨(some 43), (.indexStr (.t 42) (.c (.int .i64 1))), none, [5]⟩,
    ⟨(some 44), (.call (.f 35) [(.t 43)]), none, [6, 3]⟩,
    ⟨(some 45), (.bin .or (.t 41) (.t 44)), none, [4, 7]⟩,
    ⟨(some 46), (.conv .u8 (.t 45)), none, [8]⟩,
    ⟨(some 47), (.indexArr 1 6 (.t 4) (.t 37)), none, [0, 0, 1, 2, 3, 4, 5, 6, 7, 8, 9]⟩,
    ⟨none, (.store 1 (.t 47) (.t 46)), none, [10, 9, 7, 0, 1, 2, 3, 4, 5, 6, 7, 8, 9]⟩] (some [(0, 1), (0, 2), (0, 3), (0, 4), (0, 5), (1, 5), (2, 5), (3, 5), (4, 5), (0, 6), (1, 6), (2, 6), (3, 6), (4, 6), (0, 7), (4, 7), (0, 8), (0, 9)])
/-- toll/mac.Parse -/
def F9L0 : ACode := (.seq (.region [⟨(some 17), (.bin .lss (.t 16) (.t 15)), none, []⟩] none)
  (.seq (.cond (.t 17)
  .skip
  (.exit 0))
  (.seq (.block 1 (.seq (.region [⟨(some 18), (.mov (.t 16)), none, []⟩,
    ⟨(some 19), (.indexAddr 1 (.t 14) (.t 16)), none, []⟩,
    ⟨(some 20), (.load none (.t 19)), none, []⟩,
    ⟨(some 6), (.mov (.t 18)), none, []⟩,
    ⟨(some 7), (.mov (.t 20)), none, []⟩] none)
  (.seq (.seq (.region [⟨(some 21), (.mov (.t 7)), none, []⟩,
    ⟨(some 22), (.lenStr (.t 21)), none, []⟩,
    ⟨(some 23), (.bin .neq (.t 22) (.c (.int .i64 2))), none, []⟩,
    ⟨(some 24), (.mov (.t 23)), none, []⟩,
    ⟨(some 25), (.mov (.t 7)), (some (24, false)), []⟩,
    ⟨(some 26), (.indexStr (.t 25) (.c (.int .i64 0))), (some (24, false)), []⟩,
    ⟨(some 27), (.call (.f 35) [(.t 26)]), (some (24, false)), []⟩,
    ⟨(some 28), (.bin .lss (.t 27) (.c (.int .i64 0))), (some (24, false)), []⟩,
    ⟨(some 29), (.pick (.t 24) (.c (.bool true)) (.t 28)), none, []⟩,
    ⟨(some 30), (.mov (.t 29)), none, []⟩,
    ⟨(some 31), (.mov (.t 7)), (some (30, false)), []⟩,
    ⟨(some 32), (.indexStr (.t 31) (.c (.int .i64 1))), (some (30, false)), []⟩,
    ⟨(some 33), (.call (.f 35) [(.t 32)]), (some (30, false)), []⟩,
    ⟨(some 34), (.bin .lss (.t 33) (.c (.int .i64 0))), (some (30, false)), []⟩,
    ⟨(some 35), (.pick (.t 30) (.c (.bool true)) (.t 34)), none, []⟩] none)
  (.cond (.t 35)
  (.seq (.region [⟨(some 36), (.build [(.int .u8 0), (.int .u8 0), (.int .u8 0), (.int .u8 0), (.int .u8 0), (.int .u8 0)] []), none, []⟩,
    ⟨none, (.store 6 (.t 2) (.t 36)), none, []⟩,
    ⟨(some 3), (.mov (.c (.int .i64 5))), none, []⟩] none)
  .ret)
  .skip))
  R9_0)))
  (.region [⟨(some 48), (.bin .add (.t 16) (.c (.int .i64 1))), none, []⟩,
    ⟨(some 16), (.mov (.t 48)), none, []⟩] none))))
def B9 : ACode := (.seq (.region [⟨(some 2), (.alloc 23 [(.int .u8 0), (.int .u8 0), (.int .u8 0), (.int .u8 0), (.int .u8 0), (.int .u8 0)]), none, []⟩,
    ⟨(some 3), (.mov (.c (.int .i64 0))), none, []⟩] none)
  (.seq (.region [⟨(some 4), (.alloc 23 [(.int .u8 0), (.int .u8 0), (.int .u8 0), (.int .u8 0), (.int .u8 0), (.int .u8 0)]), none, []⟩] none)
  (.seq (.region [⟨(some 8), (.mov (.t 0)), none, []⟩,
    ⟨(some 9), (.call (.f 34) [(.t 8), (.c (.string ⟨#[58]⟩))]), none, []⟩,
    ⟨(some 5), (.mov (.t 9)), none, []⟩] none)
  (.seq (.seq (.region [⟨(some 10), (.mov (.t 5)), none, []⟩,
    ⟨(some 11), (.lenSlice (.t 10)), none, []⟩,
    ⟨(some 12), (.bin .neq (.t 11) (.c (.int .i64 6))), none, []⟩] none)
  (.cond (.t 12)
  (.seq (.region [⟨(some 13), (.load (some 6) (.t 4)), none, []⟩,
    ⟨none, (.store 6 (.t 2) (.t 13)), none, []⟩,
    ⟨(some 3), (.mov (.c (.int .i64 5))), none, []⟩] none)
  .ret)
  .skip))
  (.seq (.seq (.region [⟨(some 14), (.mov (.t 5)), none, []⟩,
    ⟨(some 15), (.lenSlice (.t 14)), none, []⟩,
    ⟨(some 16), (.mov (.c (.int .i64 0))), none, []⟩] none)
  (.block 0 (.loop F9L0)))
  (.seq (.region [⟨(some 49), (.load (some 6) (.t 4)), none, []⟩,
    ⟨none, (.store 6 (.t 2) (.t 49)), none, []⟩,
    ⟨(some 3), (.mov (.c (.int .i64 0))), none, []⟩] none)
  .ret))))))
def F9 : AFunc := ⟨1, 50, [(.cell 2 (some 6)), (.tmp 3)], B9⟩
-- F9L0 live: [2, 4, 14, 15, 16]
/-- toll/tollref02.Parse -/
def F10L0 : ACode := (.seq (.seq (.region [⟨(some 11), (.mov (.t 5)), none, []⟩,
    ⟨(some 12), (.bin .lss (.t 11) (.c (.int .i64 17))), none, []⟩] none)
  (.cond (.t 12)
  .skip
  (.exit 0)))
  (.seq (.block 1 (.seq (.seq (.region [⟨(some 15), (.mov (.t 5)), none, []⟩,
    ⟨(some 16), (.bin .rem (.t 15) (.c (.int .i64 3))), none, []⟩,
    ⟨(some 17), (.bin .eql (.t 16) (.c (.int .i64 2))), none, []⟩] none)
  (.cond (.t 17)
  (.seq (.seq (.region [⟨(some 18), (.mov (.t 0)), none, []⟩,
    ⟨(some 19), (.mov (.t 5)), none, []⟩,
    ⟨(some 20), (.indexStr (.t 18) (.t 19)), none, []⟩,
    ⟨(some 21), (.bin .neq (.t 20) (.c (.int .u8 58))), none, []⟩] none)
  (.cond (.t 21)
  (.seq (.region [⟨(some 22), (.build [(.int .u8 0), (.int .u8 0), (.int .u8 0), (.int .u8 0), (.int .u8 0), (.int .u8 0)] []), none, []⟩,
    ⟨none, (.store 6 (.t 2) (.t 22)), none, []⟩,
    ⟨(some 3), (.mov (.c (.int .i64 5))), none, []⟩] none)
  .ret)
  .skip))
  (.exit 1))
  .skip))
  (.seq (.region [⟨(some 23), (.mov (.t 0)), none, []⟩,
    ⟨(some 24), (.mov (.t 5)), none, []⟩,
    ⟨(some 25), (.indexStr (.t 23) (.t 24)), none, []⟩,
    ⟨(some 26), (.call (.f 36) [(.t 25)]), none, []⟩,
    ⟨(some 6), (.mov (.t 26)), none, []⟩] none)
  (.seq (.seq (.region [⟨(some 27), (.mov (.t 6)), none, []⟩,
    ⟨(some 28), (.bin .eql (.t 27) (.c (.int .i64 16))), none, []⟩] none)
  (.cond (.t 28)
  (.seq (.region [⟨(some 29), (.build [(.int .u8 0), (.int .u8 0), (.int .u8 0), (.int .u8 0), (.int .u8 0), (.int .u8 0)] []), none, []⟩,
    ⟨none, (.store 6 (.t 2) (.t 29)), none, []⟩,
    ⟨(some 3), (.mov (.c (.int .i64 5))), none, []⟩] none)
  .ret)
  .skip))
  (.region [⟨(some 30), (.mov (.t 5)), none, []⟩,
    ⟨(some 31), (.bin .quo (.t 30) (.c (.int .i64 3))), none, []⟩,
    ⟨(some 32), (.mov (.t 5)), none, []⟩,
    ⟨(some 33), (.bin .quo (.t 32) (.c (.int .i64 3))), none, []⟩,
    ⟨(some 34), (.indexArr 1 6 (.t 4) (.t 33)), none, []⟩,
    ⟨(some 35), (.load none (.t 34)), none, []⟩,
    ⟨(some 36), (.bin .mul (.t 35) (.c (.int .u8 16))), none, []⟩,
    ⟨(some 37), (.mov (.t 6)), none, []⟩,
    ⟨(some 38), (.conv .u8 (.t 37)), none, []⟩,
    ⟨(some 39), (.bin .add (.t 36) (.t 38)), none, []⟩,
    ⟨(some 40), (.indexArr 1 6 (.t 4) (.t 31)), none, []⟩,
    ⟨none, (.store 1 (.t 40) (.t 39)), none, []⟩] none)))))
  (.region [⟨(some 13), (.mov (.t 5)), none, []⟩,
    ⟨(some 14), (.bin .add (.t 13) (.c (.int .i64 1))), none, []⟩,
    ⟨(some 5), (.mov (.t 14)), none, []⟩] none)))
def B10 : ACode := (.seq (.region [⟨(some 2), (.alloc 22 [(.int .u8 0), (.int .u8 0), (.int .u8 0), (.int .u8 0), (.int .u8 0), (.int .u8 0)]), none, []⟩,
    ⟨(some 3), (.mov (.c (.int .i64 0))), none, []⟩] none)
  (.seq (.region [⟨(some 4), (.alloc 22 [(.int .u8 0), (.int .u8 0), (.int .u8 0), (.int .u8 0), (.int .u8 0), (.int .u8 0)]), none, []⟩] none)
  (.seq (.seq (.region [⟨(some 7), (.mov (.t 0)), none, []⟩,
    ⟨(some 8), (.lenStr (.t 7)), none, []⟩,
    ⟨(some 9), (.bin .neq (.t 8) (.c (.int .i64 17))), none, []⟩] none)
  (.cond (.t 9)
  (.seq (.region [⟨(some 10), (.load (some 6) (.t 4)), none, []⟩,
    ⟨none, (.store 6 (.t 2) (.t 10)), none, []⟩,
    ⟨(some 3), (.mov (.c (.int .i64 5))), none, []⟩] none)
  .ret)
  .skip))
  (.seq (.seq (.region [⟨(some 5), (.mov (.c (.int .i64 0))), none, []⟩] none)
  (.block 0 (.loop F10L0)))
  (.seq (.region [⟨(some 41), (.load (some 6) (.t 4)), none, []⟩,
    ⟨none, (.store 6 (.t 2) (.t 41)), none, []⟩,
    ⟨(some 3), (.mov (.c (.int .i64 0))), none, []⟩] none)
  .ret)))))
def F10 : AFunc := ⟨1, 42, [(.cell 2 (some 6)), (.tmp 3)], B10⟩
-- F10L0 live: [0, 2, 4, 5]
def R11_0 : ACode := .region [⟨(some 36), (.load (some 6) (.t 7)), none, []⟩,
    ⟨(some 37), (.load (some 6) (.t 9)), none, []⟩,
    ⟨(some 38), (.call (.f 17) [(.t 36), (.t 37)]), none, [0, 1]⟩,
    ⟨(some 39), (.load (some 6) (.t 9)), none, []⟩,
    ⟨(some 40), (.build [(.int .u8 0), (.int .u8 0), (.int .u8 0), (.int .u8 0), (.int .u8 0), (.int .u8 0), (.int .u8 0), (.int .u8 0), (.int .u8 0), (.int .u8 0), (.int .u8 0), (.int .u8 0)] [(0, 6, (.t 38)), (6, 6, (.t 39))]), none, [2, 3]⟩,
    ⟨none, (.store 12 (.t 2) (.t 40)), none, [4, 2, 0, 1, 2, 3, 4]⟩,
    ⟨(some 3), (.mov (.c (.int .i64 0))), none, [5, 0, 1, 2, 3, 4, 5]⟩] (some [(0, 1), (0, 3), (1, 3), (2, 3)])
/-- toll/mac.ParsePattern -/
def B11 : ACode := (.seq (.region [⟨(some 2), (.alloc 30 [(.int .u8 0), (.int .u8 0), (.int .u8 0), (.int .u8 0), (.int .u8 0), (.int .u8 0), (.int .u8 0), (.int .u8 0), (.int .u8 0), (.int .u8 0), (.int .u8 0), (.int .u8 0)]), none, []⟩,
    ⟨(some 3), (.mov (.c (.int .i64 0))), none, []⟩] none)
  (.seq (.region [⟨(some 11), (.mov (.t 0)), none, []⟩,
    ⟨(some 12), (.call (.f 37) [(.t 11), (.c (.string ⟨#[47]⟩))]), none, []⟩,
    ⟨(some 10), (.mov (.t 12)), none, []⟩,
    ⟨(some 13), (.extract (.t 10) 0), none, []⟩,
    ⟨(some 14), (.extract (.t 10) 1), none, []⟩,
    ⟨(some 15), (.extract (.t 10) 2), none, []⟩,
    ⟨(some 4), (.mov (.t 13)), none, []⟩,
    ⟨(some 5), (.mov (.t 14)), none, []⟩,
    ⟨(some 6), (.mov (.t 15)), none, []⟩] none)
  (.seq (.region [⟨(some 17), (.mov (.t 4)), none, []⟩,
    ⟨(some 18), (.call (.f 9) [(.t 17)]), none, []⟩,
    ⟨(some 16), (.mov (.t 18)), none, []⟩,
    ⟨(some 19), (.extract (.t 16) 0), none, []⟩,
    ⟨(some 20), (.extract (.t 16) 1), none, []⟩,
    ⟨(some 7), (.alloc 23 [(.int .u8 0), (.int .u8 0), (.int .u8 0), (.int .u8 0), (.int .u8 0), (.int .u8 0)]), none, []⟩,
    ⟨none, (.store 6 (.t 7) (.t 19)), none, []⟩,
    ⟨(some 8), (.mov (.t 20)), none, []⟩] none)
  (.seq (.seq (.region [⟨(some 21), (.mov (.t 8)), none, []⟩,
    ⟨(some 22), (.bin .neq (.t 21) (.c (.int .i64 0))), none, []⟩] none)
  (.cond (.t 22)
  (.seq (.region [⟨(some 23), (.build [(.int .u8 0), (.int .u8 0), (.int .u8 0), (.int .u8 0), (.int .u8 0), (.int .u8 0), (.int .u8 0), (.int .u8 0), (.int .u8 0), (.int .u8 0), (.int .u8 0), (.int .u8 0)] []), none, []⟩,
    ⟨(some 24), (.mov (.t 8)), none, []⟩,
    ⟨none, (.store 12 (.t 2) (.t 23)), none, []⟩,
    ⟨(some 3), (.mov (.t 24)), none, []⟩] none)
  .ret)
  .skip))
  (.seq (.region [⟨(some 25), (.call (.f 14) [(.c (.int .i64 48))]), none, []⟩,
    ⟨(some 9), (.alloc 23 [(.int .u8 0), (.int .u8 0), (.int .u8 0), (.int .u8 0), (.int .u8 0), (.int .u8 0)]), none, []⟩,
    ⟨none, (.store 6 (.t 9) (.t 25)), none, []⟩] none)
  (.seq (.seq (.region [⟨(some 26), (.mov (.t 6)), none, []⟩] none)
  (.cond (.t 26)
  (.seq (.region [⟨(some 28), (.mov (.t 5)), none, []⟩,
    ⟨(some 29), (.call (.f 38) [(.t 28)]), none, []⟩,
    ⟨(some 27), (.mov (.t 29)), none, []⟩,
    ⟨(some 30), (.extract (.t 27) 0), none, []⟩,
    ⟨(some 31), (.extract (.t 27) 1), none, []⟩,
    ⟨none, (.store 6 (.t 9) (.t 30)), none, []⟩,
    ⟨(some 8), (.mov (.t 31)), none, []⟩] none)
  (.seq (.region [⟨(some 32), (.mov (.t 8)), none, []⟩,
    ⟨(some 33), (.bin .neq (.t 32) (.c (.int .i64 0))), none, []⟩] none)
  (.cond (.t 33)
  (.seq (.region [⟨(some 34), (.build [(.int .u8 0), (.int .u8 0), (.int .u8 0), (.int .u8 0), (.int .u8 0), (.int .u8 0), (.int .u8 0), (.int .u8 0), (.int .u8 0), (.int .u8 0), (.int .u8 0), (.int .u8 0)] []), none, []⟩,
    ⟨(some 35), (.mov (.t 8)), none, []⟩,
    ⟨none, (.store 12 (.t 2) (.t 34)), none, []⟩,
    ⟨(some 3), (.mov (.t 35)), none, []⟩] none)
  .ret)
  .skip)))
  .skip))
  (.seq R11_0
  .ret)))))))
def F11 : AFunc := ⟨1, 41, [(.cell 2 (some 12)), (.tmp 3)], B11⟩
def R12_0 : ACode := .region [⟨(some 28), (.load (some 6) (.t 4)), none, []⟩,
    ⟨(some 29), (.call (.f 28) [(.c (.int .i64 48))]), none, []⟩,
    ⟨(some 30), (.build [(.int .u8 0), (.int .u8 0), (.int .u8 0), (.int .u8 0), (.int .u8 0), (.int .u8 0), (.int .u8 0), (.int .u8 0), (.int .u8 0), (.int .u8 0), (.int .u8 0), (.int .u8 0)] [(0, 6, (.t 28)), (6, 6, (.t 29))]), none, [0, 1]⟩,
    ⟨none, (.store 12 (.t 2) (.t 30)), none, [2, 1, 0, 1, 2]⟩,
    ⟨(some 3), (.mov (.c (.int .i64 0))), none, [3, 0, 1, 2, 3]⟩] (some [(0, 1)])
def R12_1 : ACode := .region [⟨(some 53), (.load (some 6) (.t 4)), none, []⟩,
    ⟨(some 54), (.load (some 6) (.t 7)), none, []⟩,
    ⟨(some 55), (.call (.f 29) [(.t 53), (.t 54)]), none, [0, 1]⟩,
    ⟨(some 56), (.load (some 6) (.t 7)), none, []⟩,
    ⟨(some 57), (.build [(.int .u8 0), (.int .u8 0), (.int .u8 0), (.int .u8 0), (.int .u8 0), (.int .u8 0), (.int .u8 0), (.int .u8 0), (.int .u8 0), (.int .u8 0), (.int .u8 0), (.int .u8 0)] [(0, 6, (.t 55)), (6, 6, (.t 56))]), none, [2, 3]⟩,
    ⟨none, (.store 12 (.t 2) (.t 57)), none, [4, 2, 0, 1, 2, 3, 4]⟩,
    ⟨(some 3), (.mov (.c (.int .i64 0))), none, [5, 0, 1, 2, 3, 4, 5]⟩] (some [(0, 1), (0, 3), (1, 3), (2, 3)])
def R12_2 : ACode := .region [⟨(some 86), (.load (some 6) (.t 4)), none, []⟩,
    ⟨(some 87), (.mov (.t 9)), none, []⟩,
    ⟨(some 88), (.call (.f 28) [(.t 87)]), none, [1]⟩,
    ⟨(some 89), (.call (.f 29) [(.t 86), (.t 88)]), none, [0, 2, 2]⟩,
    ⟨(some 90), (.mov (.t 9)), none, []⟩,
    ⟨(some 91), (.call (.f 28) [(.t 90)]), none, [4, 3]⟩,
    ⟨(some 92), (.build [(.int .u8 0), (.int .u8 0), (.int .u8 0), (.int .u8 0), (.int .u8 0), (.int .u8 0), (.int .u8 0), (.int .u8 0), (.int .u8 0), (.int .u8 0), (.int .u8 0), (.int .u8 0)] [(0, 6, (.t 89)), (6, 6, (.t 91))]), none, [3, 5]⟩,
    ⟨none, (.store 12 (.t 2) (.t 92)), none, [6, 5, 0, 1, 2, 3, 4, 5, 6]⟩,
    ⟨(some 3), (.mov (.c (.int .i64 0))), none, [7, 0, 1, 2, 3, 4, 5, 6, 7]⟩] (some [(0, 1), (0, 2), (0, 4), (1, 4), (2, 4), (3, 4)])
/-- toll/tollref02.ParsePattern -/
def F12L0 : ACode := (.seq (.seq (.region [⟨(some 58), (.mov (.t 10)), none, []⟩,
    ⟨(some 59), (.mov (.t 6)), none, []⟩,
    ⟨(some 60), (.lenStr (.t 59)), none, []⟩,
    ⟨(some 61), (.bin .lss (.t 58) (.t 60)), none, []⟩] none)
  (.cond (.t 61)
  .skip
  (.exit 0)))
  (.seq (.block 1 (.seq (.seq (.region [⟨(some 64), (.mov (.t 6)), none, []⟩,
    ⟨(some 65), (.mov (.t 10)), none, []⟩,
    ⟨(some 66), (.indexStr (.t 64) (.t 65)), none, []⟩,
    ⟨(some 67), (.bin .lss (.t 66) (.c (.int .u8 48))), none, []⟩,
    ⟨(some 68), (.mov (.t 67)), none, []⟩,
    ⟨(some 69), (.mov (.t 6)), (some (68, false)), []⟩,
    ⟨(some 70), (.mov (.t 10)), (some (68, false)), []⟩,
    ⟨(some 71), (.indexStr (.t 69) (.t 70)), (some (68, false)), []⟩,
    ⟨(some 72), (.bin .gtr (.t 71) (.c (.int .u8 57))), (some (68, false)), []⟩,
    ⟨(some 73), (.pick (.t 68) (.c (.bool true)) (.t 72)), none, []⟩] none)
  (.cond (.t 73)
  (.seq (.region [⟨(some 74), (.build [(.int .u8 0), (.int .u8 0), (.int .u8 0), (.int .u8 0), (.int .u8 0), (.int .u8 0), (.int .u8 0), (.int .u8 0), (.int .u8 0), (.int .u8 0), (.int .u8 0), (.int .u8 0)] []), none, []⟩,
    ⟨none, (.store 12 (.t 2) (.t 74)), none, []⟩,
    ⟨(some 3), (.mov (.c (.int .i64 5))), none, []⟩] none)
  .ret)
  .skip))
  (.region [⟨(some 75), (.mov (.t 9)), none, []⟩,
    ⟨(some 76), (.bin .mul (.c (.int .i64 10)) (.t 75)), none, []⟩,
    ⟨(some 77), (.mov (.t 6)), none, []⟩,
    ⟨(some 78), (.mov (.t 10)), none, []⟩,
    ⟨(some 79), (.indexStr (.t 77) (.t 78)), none, []⟩,
    ⟨(some 80), (.bin .sub (.t 79) (.c (.int .u8 48))), none, []⟩,
    ⟨(some 81), (.conv .i64 (.t 80)), none, []⟩,
    ⟨(some 82), (.bin .add (.t 76) (.t 81)), none, []⟩,
    ⟨(some 9), (.mov (.t 82)), none, []⟩] none)))
  (.region [⟨(some 62), (.mov (.t 10)), none, []⟩,
    ⟨(some 63), (.bin .add (.t 62) (.c (.int .i64 1))), none, []⟩,
    ⟨(some 10), (.mov (.t 63)), none, []⟩] none)))
def B12 : ACode := (.seq (.region [⟨(some 2), (.alloc 34 [(.int .u8 0), (.int .u8 0), (.int .u8 0), (.int .u8 0), (.int .u8 0), (.int .u8 0), (.int .u8 0), (.int .u8 0), (.int .u8 0), (.int .u8 0), (.int .u8 0), (.int .u8 0)]), none, []⟩,
    ⟨(some 3), (.mov (.c (.int .i64 0))), none, []⟩] none)
  (.seq (.seq (.region [⟨(some 11), (.mov (.t 0)), none, []⟩,
    ⟨(some 12), (.lenStr (.t 11)), none, []⟩,
    ⟨(some 13), (.bin .lss (.t 12) (.c (.int .i64 17))), none, []⟩] none)
  (.cond (.t 13)
  (.seq (.region [⟨(some 14), (.build [(.int .u8 0), (.int .u8 0), (.int .u8 0), (.int .u8 0), (.int .u8 0), (.int .u8 0), (.int .u8 0), (.int .u8 0), (.int .u8 0), (.int .u8 0), (.int .u8 0), (.int .u8 0)] []), none, []⟩,
    ⟨none, (.store 12 (.t 2) (.t 14)), none, []⟩,
    ⟨(some 3), (.mov (.c (.int .i64 5))), none, []⟩] none)
  .ret)
  .skip))
  (.seq (.region [⟨(some 16), (.mov (.t 0)), none, []⟩,
    ⟨(some 17), (.sliceStr (.t 16) none (some (.c (.int .i64 17)))), none, []⟩,
    ⟨(some 18), (.call (.f 10) [(.t 17)]), none, []⟩,
    ⟨(some 15), (.mov (.t 18)), none, []⟩,
    ⟨(some 19), (.extract (.t 15) 0), none, []⟩,
    ⟨(some 20), (.extract (.t 15) 1), none, []⟩,
    ⟨(some 4), (.alloc 22 [(.int .u8 0), (.int .u8 0), (.int .u8 0), (.int .u8 0), (.int .u8 0), (.int .u8 0)]), none, []⟩,
    ⟨none, (.store 6 (.t 4) (.t 19)), none, []⟩,
    ⟨(some 5), (.mov (.t 20)), none, []⟩] none)
  (.seq (.seq (.region [⟨(some 21), (.mov (.t 5)), none, []⟩,
    ⟨(some 22), (.bin .neq (.t 21) (.c (.int .i64 0))), none, []⟩] none)
  (.cond (.t 22)
  (.seq (.region [⟨(some 23), (.build [(.int .u8 0), (.int .u8 0), (.int .u8 0), (.int .u8 0), (.int .u8 0), (.int .u8 0), (.int .u8 0), (.int .u8 0), (.int .u8 0), (.int .u8 0), (.int .u8 0), (.int .u8 0)] []), none, []⟩,
    ⟨(some 24), (.mov (.t 5)), none, []⟩,
    ⟨none, (.store 12 (.t 2) (.t 23)), none, []⟩,
    ⟨(some 3), (.mov (.t 24)), none, []⟩] none)
  .ret)
  .skip))
  (.seq (.seq (.region [⟨(some 25), (.mov (.t 0)), none, []⟩,
    ⟨(some 26), (.lenStr (.t 25)), none, []⟩,
    ⟨(some 27), (.bin .eql (.t 26) (.c (.int .i64 17))), none, []⟩] none)
  (.cond (.t 27)
  (.seq R12_0
  .ret)
  .skip))
  (.seq (.seq (.region [⟨(some 31), (.mov (.t 0)), none, []⟩,
    ⟨(some 32), (.indexStr (.t 31) (.c (.int .i64 17))), none, []⟩,
    ⟨(some 33), (.bin .neq (.t 32) (.c (.int .u8 47))), none, []⟩] none)
  (.cond (.t 33)
  (.seq (.region [⟨(some 34), (.build [(.int .u8 0), (.int .u8 0), (.int .u8 0), (.int .u8 0), (.int .u8 0), (.int .u8 0), (.int .u8 0), (.int .u8 0), (.int .u8 0), (.int .u8 0), (.int .u8 0), (.int .u8 0)] []), none, []⟩,
    ⟨none, (.store 12 (.t 2) (.t 34)), none, []⟩,
    ⟨(some 3), (.mov (.c (.int .i64 5))), none, []⟩] none)
  .ret)
  .skip))
  (.seq (.region [⟨(some 35), (.mov (.t 0)), none, []⟩,
    ⟨(some 36), (.sliceStr (.t 35) (some (.c (.int .i64 18))) none), none, []⟩,
    ⟨(some 6), (.mov (.t 36)), none, []⟩] none)
  (.seq (.seq (.region [⟨(some 37), (.mov (.t 6)), none, []⟩,
    ⟨(some 38), (.lenStr (.t 37)), none, []⟩,
    ⟨(some 39), (.bin .lss (.t 38) (.c (.int .i64 1))), none, []⟩] none)
  (.cond (.t 39)
  (.seq (.region [⟨(some 40), (.build [(.int .u8 0), (.int .u8 0), (.int .u8 0), (.int .u8 0), (.int .u8 0), (.int .u8 0), (.int .u8 0), (.int .u8 0), (.int .u8 0), (.int .u8 0), (.int .u8 0), (.int .u8 0)] []), none, []⟩,
    ⟨none, (.store 12 (.t 2) (.t 40)), none, []⟩,
    ⟨(some 3), (.mov (.c (.int .i64 5))), none, []⟩] none)
  .ret)
  .skip))
  (.seq (.seq (.region [⟨(some 41), (.mov (.t 6)), none, []⟩,
    ⟨(some 42), (.lenStr (.t 41)), none, []⟩,
    ⟨(some 43), (.bin .gtr (.t 42) (.c (.int .i64 2))), none, []⟩] none)
  (.cond (.t 43)
  (.seq (.region [⟨(some 45), (.mov (.t 6)), none, []⟩,
    ⟨(some 46), (.call (.f 10) [(.t 45)]), none, []⟩,
    ⟨(some 44), (.mov (.t 46)), none, []⟩,
    ⟨(some 47), (.extract (.t 44) 0), none, []⟩,
    ⟨(some 48), (.extract (.t 44) 1), none, []⟩,
    ⟨(some 7), (.alloc 22 [(.int .u8 0), (.int .u8 0), (.int .u8 0), (.int .u8 0), (.int .u8 0), (.int .u8 0)]), none, []⟩,
    ⟨none, (.store 6 (.t 7) (.t 47)), none, []⟩,
    ⟨(some 8), (.mov (.t 48)), none, []⟩] none)
  (.seq (.seq (.region [⟨(some 49), (.mov (.t 8)), none, []⟩,
    ⟨(some 50), (.bin .neq (.t 49) (.c (.int .i64 0))), none, []⟩] none)
  (.cond (.t 50)
  (.seq (.region [⟨(some 51), (.build [(.int .u8 0), (.int .u8 0), (.int .u8 0), (.int .u8 0), (.int .u8 0), (.int .u8 0), (.int .u8 0), (.int .u8 0), (.int .u8 0), (.int .u8 0), (.int .u8 0), (.int .u8 0)] []), none, []⟩,
    ⟨(some 52), (.mov (.t 8)), none, []⟩,
    ⟨none, (.store 12 (.t 2) (.t 51)), none, []⟩,
    ⟨(some 3), (.mov (.t 52)), none, []⟩] none)
  .ret)
  .skip))
  (.seq R12_1
  .ret)))
  .skip))
  (.seq (.region [⟨(some 9), (.mov (.c (.int .i64 0))), none, []⟩] none)
  (.seq (.seq (.region [⟨(some 10), (.mov (.c (.int .i64 0))), none, []⟩] none)
  (.block 0 (.loop F12L0)))
  (.seq (.seq (.region [⟨(some 83), (.mov (.t 9)), none, []⟩,
    ⟨(some 84), (.bin .gtr (.t 83) (.c (.int .i64 48))), none, []⟩] none)
  (.cond (.t 84)
  (.seq (.region [⟨(some 85), (.build [(.int .u8 0), (.int .u8 0), (.int .u8 0), (.int .u8 0), (.int .u8 0), (.int .u8 0), (.int .u8 0), (.int .u8 0), (.int .u8 0), (.int .u8 0), (.int .u8 0), (.int .u8 0)] []), none, []⟩,
    ⟨none, (.store 12 (.t 2) (.t 85)), none, []⟩,
    ⟨(some 3), (.mov (.c (.int .i64 24))), none, []⟩] none)
  .ret)
  .skip))
  (.seq R12_2
  .ret)))))))))))))
def F12 : AFunc := ⟨1, 93, [(.cell 2 (some 12)), (.tmp 3)], B12⟩
-- F12L0 live: [2, 4, 6, 9, 10]
/-- toll/tolllaw02.tells -/
def B13 : ACode := (.seq (.region [⟨(some 0), (.mov (.c (.bool false))), none, []⟩] none)
  (.seq (.region [⟨(some 4), (.call (.f 11) [(.c (.string ⟨#[48, 49, 58, 56, 48, 58, 67, 50, 58, 48, 48, 58, 48, 48, 58, 48, 55, 47, 52, 52]⟩))]), none, []⟩,
    ⟨(some 3), (.mov (.t 4)), none, []⟩,
    ⟨(some 5), (.extract (.t 3) 0), none, []⟩,
    ⟨(some 6), (.extract (.t 3) 1), none, []⟩,
    ⟨(some 1), (.alloc 30 [(.int .u8 0), (.int .u8 0), (.int .u8 0), (.int .u8 0), (.int .u8 0), (.int .u8 0), (.int .u8 0), (.int .u8 0), (.int .u8 0), (.int .u8 0), (.int .u8 0), (.int .u8 0)]), none, []⟩,
    ⟨none, (.store 12 (.t 1) (.t 5)), none, []⟩,
    ⟨(some 2), (.mov (.t 6)), none, []⟩] none)
  (.seq (.region [⟨(some 7), (.build [(.int .u8 0), (.int .u8 0), (.int .u8 0), (.int .u8 0), (.int .u8 0), (.int .u8 0)] [(0, 1, (.c (.int .u8 0))), (1, 1, (.c (.int .u8 26))), (2, 1, (.c (.int .u8 43))), (3, 1, (.c (.int .u8 60))), (4, 1, (.c (.int .u8 77))), (5, 1, (.c (.int .u8 94)))]), none, []⟩,
    ⟨(some 8), (.call (.f 23) [(.t 7)]), none, []⟩,
    ⟨(some 9), (.bin .eql (.t 8) (.c (.string ⟨#[48, 48, 58, 49, 97, 58, 50, 98, 58, 51, 99, 58, 52, 100, 58, 53, 101]⟩))), none, []⟩,
    ⟨(some 10), (.mov (.t 9)), none, []⟩,
    ⟨(some 11), (.mov (.t 2)), (some (10, true)), []⟩,
    ⟨(some 12), (.bin .eql (.t 11) (.c (.int .i64 0))), (some (10, true)), []⟩,
    ⟨(some 13), (.pick (.t 10) (.t 12) (.c (.bool false))), none, []⟩,
    ⟨(some 14), (.mov (.t 13)), none, []⟩,
    ⟨(some 15), (.load (some 12) (.t 1)), (some (14, true)), []⟩,
    ⟨(some 16), (.call (.f 21) [(.t 15)]), (some (14, true)), []⟩,
    ⟨(some 17), (.bin .eql (.t 16) (.c (.string ⟨#[48, 49, 58, 56, 48, 58, 99, 50, 58, 48, 48, 58, 48, 48, 58, 48, 48, 47, 52, 52]⟩))), (some (14, true)), []⟩,
    ⟨(some 18), (.pick (.t 14) (.t 17) (.c (.bool false))), none, []⟩,
    ⟨(some 0), (.mov (.t 18)), none, []⟩] none)
  .ret)))
def F13 : AFunc := ⟨0, 19, [(.tmp 0)], B13⟩
/-- toll/mac.Bits -/
def B14 : ACode := (.seq (.region [⟨(some 2), (.alloc 23 [(.int .u8 0), (.int .u8 0), (.int .u8 0), (.int .u8 0), (.int .u8 0), (.int .u8 0)]), none, []⟩] none)
  (.seq (.region [⟨(some 3), (.mov (.t 0)), none, []⟩,
    ⟨(some 4), (.min [(.t 3), (.c (.int .i64 48))]), none, []⟩,
    ⟨(some 5), (.max [(.c (.int .i64 0)), (.t 4)]), none, []⟩,
    ⟨(some 0), (.mov (.t 5)), none, []⟩] none)
  (.seq (.region [⟨(some 6), (.mov (.t 0)), none, []⟩,
    ⟨(some 7), (.bin .shr (.c (.int .u64 281474976710655)) (.t 6)), none, []⟩,
    ⟨(some 8), (.bin .andNot (.c (.int .u64 281474976710655)) (.t 7)), none, []⟩,
    ⟨(some 9), (.call (.f 22) [(.t 8)]), none, []⟩,
    ⟨none, (.store 6 (.t 2) (.t 9)), none, []⟩] none)
  .ret)))
def F14 : AFunc := ⟨1, 10, [(.cell 2 (some 6))], B14⟩
def R15_0 : ACode := .region [⟨(some 5), (.load (some 6) (.t 3)), none, []⟩,
    ⟨(some 6), (.fieldAddr 6 (.t 2)), none, []⟩,
    ⟨(some 7), (.load (some 6) (.t 6)), none, [1]⟩,
    ⟨(some 8), (.call (.f 17) [(.t 5), (.t 7)]), none, [0, 2]⟩,
    ⟨(some 9), (.fieldAddr 0 (.t 2)), none, []⟩,
    ⟨(some 10), (.load (some 6) (.t 9)), none, [4]⟩,
    ⟨(some 11), (.fieldAddr 6 (.t 2)), none, []⟩,
    ⟨(some 12), (.load (some 6) (.t 11)), none, [6]⟩,
    ⟨(some 13), (.call (.f 17) [(.t 10), (.t 12)]), none, [5, 7, 3]⟩,
    ⟨(some 14), (.eqAgg false [.int, .int, .int, .int, .int, .int] (.t 8) (.t 13)), none, [3, 8]⟩,
    ⟨(some 4), (.mov (.t 14)), none, [9, 8, 0, 1, 2, 3, 4, 5, 6, 7, 8, 9]⟩] (some [(0, 1), (0, 2), (0, 4), (1, 4), (2, 4), (3, 4), (0, 5), (1, 5), (2, 5), (3, 5), (0, 6), (1, 6), (2, 6), (3, 6), (4, 6), (5, 6), (0, 7), (1, 7), (2, 7), (3, 7), (4, 7), (5, 7)])
/-- (toll/mac.Pattern).Matches -/
def B15 : ACode := (.seq (.region [⟨(some 2), (.box 30 (.t 0)), none, []⟩,
    ⟨(some 3), (.box 23 (.t 1)), none, []⟩,
    ⟨(some 4), (.mov (.c (.bool false))), none, []⟩] none)
  (.seq R15_0
  .ret))
def F15 : AFunc := ⟨2, 15, [(.tmp 4)], B15⟩
/-- toll/mac.Number -/
def F16L0 : ACode := (.seq (.region [⟨(some 8), (.bin .lss (.t 7) (.c (.int .i64 6))), none, []⟩] none)
  (.seq (.cond (.t 8)
  .skip
  (.exit 0))
  (.seq (.block 1 (.seq (.region [⟨(some 9), (.index 1 6 none (.t 6) (.t 7)), none, []⟩,
    ⟨(some 5), (.mov (.t 9)), none, []⟩] none)
  (.region [⟨(some 10), (.mov (.t 3)), none, []⟩,
    ⟨(some 11), (.bin .shl (.t 10) (.c (.int .u64 8))), none, []⟩,
    ⟨(some 12), (.mov (.t 5)), none, []⟩,
    ⟨(some 13), (.conv .u64 (.t 12)), none, []⟩,
    ⟨(some 14), (.bin .or (.t 11) (.t 13)), none, []⟩,
    ⟨(some 3), (.mov (.t 14)), none, []⟩] none)))
  (.region [⟨(some 15), (.bin .add (.t 7) (.c (.int .i64 1))), none, []⟩,
    ⟨(some 7), (.mov (.t 15)), none, []⟩] none))))
def B16 : ACode := (.seq (.region [⟨(some 1), (.box 23 (.t 0)), none, []⟩,
    ⟨(some 2), (.mov (.c (.int .u64 0))), none, []⟩] none)
  (.seq (.region [⟨(some 3), (.mov (.c (.int .u64 0))), none, []⟩] none)
  (.seq (.seq (.region [⟨(some 6), (.load (some 6) (.t 1)), none, []⟩,
    ⟨(some 7), (.mov (.c (.int .i64 0))), none, []⟩] none)
  (.block 0 (.loop F16L0)))
  (.seq (.region [⟨(some 16), (.mov (.t 3)), none, []⟩,
    ⟨(some 2), (.mov (.t 16)), none, []⟩] none)
  .ret))))
def F16 : AFunc := ⟨1, 17, [(.tmp 2)], B16⟩
-- F16L0 live: [3, 6, 7]
def R17_0 : ACode := .region [⟨(some 5), (.load (some 6) (.t 2)), none, []⟩,
    ⟨(some 6), (.call (.f 16) [(.t 5)]), none, [0]⟩,
    ⟨(some 7), (.load (some 6) (.t 3)), none, []⟩,
    ⟨(some 8), (.call (.f 16) [(.t 7)]), none, [2, 1]⟩,
    ⟨(some 9), (.bin .and (.t 6) (.t 8)), none, [1, 3]⟩,
    ⟨(some 10), (.call (.f 22) [(.t 9)]), none, [4, 3]⟩,
    ⟨none, (.store 6 (.t 4) (.t 10)), none, [5, 5, 0, 1, 2, 3, 4, 5]⟩] (some [(0, 2), (1, 2)])
/-- toll/mac.Masked -/
def B17 : ACode := (.seq (.region [⟨(some 2), (.box 23 (.t 0)), none, []⟩,
    ⟨(some 3), (.box 23 (.t 1)), none, []⟩,
    ⟨(some 4), (.alloc 23 [(.int .u8 0), (.int .u8 0), (.int .u8 0), (.int .u8 0), (.int .u8 0), (.int .u8 0)]), none, []⟩] none)
  (.seq R17_0
  .ret))
def F17 : AFunc := ⟨2, 11, [(.cell 4 (some 6))], B17⟩
def R18_0 : ACode := .region [⟨(some 8), (.load (some 6) (.t 1)), none, []⟩,
    ⟨(some 9), (.call (.f 22) [(.c (.int .u64 281474976710655))]), none, []⟩,
    ⟨(some 10), (.eqAgg false [.int, .int, .int, .int, .int, .int] (.t 8) (.t 9)), none, [0, 1]⟩,
    ⟨(some 7), (.mov (.t 10)), none, [2, 1]⟩] (some [(0, 1)])
def R18_1 : ACode := .region [⟨(some 12), (.load (some 6) (.t 1)), none, []⟩,
    ⟨(some 13), (.call (.f 14) [(.c (.int .i64 44))]), none, []⟩,
    ⟨(some 14), (.call (.f 17) [(.t 12), (.t 13)]), none, [0, 1, 1]⟩,
    ⟨(some 15), (.build [(.int .u8 0), (.int .u8 0), (.int .u8 0), (.int .u8 0), (.int .u8 0), (.int .u8 0)] [(0, 1, (.c (.int .u8 1))), (1, 1, (.c (.int .u8 128))), (2, 1, (.c (.int .u8 194)))]), none, []⟩,
    ⟨(some 16), (.eqAgg false [.int, .int, .int, .int, .int, .int] (.t 14) (.t 15)), none, [2, 3]⟩,
    ⟨(some 11), (.mov (.t 16)), none, [4, 2]⟩] (some [(0, 1), (0, 3), (1, 3), (2, 3)])
/-- toll/mac.Kind -/
def B18 : ACode := (.seq (.region [⟨(some 1), (.box 23 (.t 0)), none, []⟩,
    ⟨(some 2), (.mov (.c (.int .i64 0))), none, []⟩] none)
  (.seq (.block 0 (.seq (.region [⟨(some 4), (.load (some 6) (.t 1)), none, []⟩,
    ⟨(some 5), (.build [(.int .u8 0), (.int .u8 0), (.int .u8 0), (.int .u8 0), (.int .u8 0), (.int .u8 0)] []), none, []⟩,
    ⟨(some 6), (.eqAgg false [.int, .int, .int, .int, .int, .int] (.t 4) (.t 5)), none, []⟩,
    ⟨(some 3), (.mov (.t 6)), none, []⟩] none)
  (.cond (.t 3)
  (.seq (.region [⟨(some 2), (.mov (.c (.int .i64 1))), none, []⟩] none)
  .ret)
  (.seq R18_0
  (.cond (.t 7)
  (.seq (.region [⟨(some 2), (.mov (.c (.int .i64 2))), none, []⟩] none)
  .ret)
  (.seq R18_1
  (.cond (.t 11)
  (.seq (.region [⟨(some 2), (.mov (.c (.int .i64 3))), none, []⟩] none)
  .ret)
  (.seq (.region [⟨(some 18), (.load (some 6) (.t 1)), none, []⟩,
    ⟨(some 19), (.call (.f 20) [(.t 18)]), none, []⟩,
    ⟨(some 17), (.mov (.t 19)), none, []⟩] none)
  (.cond (.t 17)
  (.seq (.region [⟨(some 2), (.mov (.c (.int .i64 4))), none, []⟩] none)
  .ret)
  .skip)))))))))
  (.seq (.region [⟨(some 2), (.mov (.c (.int .i64 5))), none, []⟩] none)
  .ret)))
def F18 : AFunc := ⟨1, 20, [(.tmp 2)], B18⟩
/-- toll/tolllaw02.MacKinds$1 -/
def B19 : ACode := (.seq (.region [⟨(some 2), (.mov (.c (.bool false))), none, []⟩] none)
  (.seq (.region [⟨(some 3), (.mov (.t 0)), none, []⟩,
    ⟨(some 4), (.bin .eql (.t 3) (.c (.int .i64 2))), none, []⟩,
    ⟨(some 5), (.mov (.t 4)), none, []⟩,
    ⟨(some 6), (.mov (.t 0)), (some (5, false)), []⟩,
    ⟨(some 7), (.bin .eql (.t 6) (.c (.int .i64 3))), (some (5, false)), []⟩,
    ⟨(some 8), (.pick (.t 5) (.c (.bool true)) (.t 7)), none, []⟩,
    ⟨(some 9), (.mov (.t 8)), none, []⟩,
    ⟨(some 10), (.mov (.t 0)), (some (9, false)), []⟩,
    ⟨(some 11), (.bin .eql (.t 10) (.c (.int .i64 4))), (some (9, false)), []⟩,
    ⟨(some 12), (.pick (.t 9) (.c (.bool true)) (.t 11)), none, []⟩,
    ⟨(some 2), (.mov (.t 12)), none, []⟩] none)
  .ret))
def F19 : AFunc := ⟨1, 13, [(.tmp 2)], B19⟩
/-- toll/mac.IsGroup -/
def B20 : ACode := (.seq (.region [⟨(some 1), (.box 23 (.t 0)), none, []⟩,
    ⟨(some 2), (.mov (.c (.bool false))), none, []⟩] none)
  (.seq (.region [⟨(some 3), (.indexArr 1 6 (.t 1) (.c (.int .i64 0))), none, []⟩,
    ⟨(some 4), (.load none (.t 3)), none, []⟩,
    ⟨(some 5), (.bin .and (.t 4) (.c (.int .u8 1))), none, []⟩,
    ⟨(some 6), (.bin .eql (.t 5) (.c (.int .u8 1))), none, []⟩,
    ⟨(some 2), (.mov (.t 6)), none, []⟩] none)
  .ret))
def F20 : AFunc := ⟨1, 7, [(.tmp 2)], B20⟩
def R21_0 : ACode := .region [⟨(some 14), (.fieldAddr 6 (.t 1)), none, []⟩,
    ⟨(some 15), (.load (some 6) (.t 14)), none, [0]⟩,
    ⟨(some 16), (.mov (.t 4)), none, []⟩,
    ⟨(some 17), (.call (.f 14) [(.t 16)]), none, [2]⟩,
    ⟨(some 18), (.eqAgg false [.int, .int, .int, .int, .int, .int] (.t 15) (.t 17)), none, [1, 3]⟩] (some [(0, 2), (1, 2), (0, 3), (1, 3)])
def R21_1 : ACode := .region [⟨(some 25), (.fieldAddr 6 (.t 1)), none, []⟩,
    ⟨(some 26), (.load (some 6) (.t 25)), none, [0]⟩,
    ⟨(some 27), (.call (.f 14) [(.c (.int .i64 48))]), none, []⟩,
    ⟨(some 28), (.eqAgg false [.int, .int, .int, .int, .int, .int] (.t 26) (.t 27)), none, [1, 2]⟩] (some [(0, 2), (1, 2)])
/-- (toll/mac.Pattern).Text -/
def F21L0 : ACode := (.seq (.region [⟨(some 12), (.bin .lss (.t 11) (.c (.int .i64 48))), none, []⟩] none)
  (.seq (.cond (.t 12)
  .skip
  (.exit 0))
  (.seq (.block 1 (.seq (.region [⟨(some 13), (.mov (.t 11)), none, []⟩,
    ⟨(some 4), (.mov (.t 13)), none, []⟩] none)
  (.seq R21_0
  (.cond (.t 18)
  (.seq (.region [⟨(some 19), (.mov (.t 3)), none, []⟩,
    ⟨(some 20), (.bin .add (.t 19) (.c (.string ⟨#[47]⟩))), none, []⟩,
    ⟨(some 21), (.mov (.t 4)), none, []⟩,
    ⟨(some 22), (.call (.f 39) [(.t 21)]), none, []⟩,
    ⟨(some 23), (.bin .add (.t 20) (.t 22)), none, []⟩,
    ⟨(some 2), (.mov (.t 23)), none, []⟩] none)
  .ret)
  .skip))))
  (.region [⟨(some 24), (.bin .add (.t 11) (.c (.int .i64 1))), none, []⟩,
    ⟨(some 11), (.mov (.t 24)), none, []⟩] none))))
def B21 : ACode := (.seq (.region [⟨(some 1), (.box 30 (.t 0)), none, []⟩,
    ⟨(some 2), (.mov (.c (.string ⟨#[]⟩))), none, []⟩] none)
  (.seq (.region [⟨(some 5), (.fieldAddr 0 (.t 1)), none, []⟩,
    ⟨(some 6), (.load (some 6) (.t 5)), none, []⟩,
    ⟨(some 7), (.fieldAddr 6 (.t 1)), none, []⟩,
    ⟨(some 8), (.load (some 6) (.t 7)), none, []⟩,
    ⟨(some 9), (.call (.f 17) [(.t 6), (.t 8)]), none, []⟩,
    ⟨(some 10), (.call (.f 23) [(.t 9)]), none, []⟩,
    ⟨(some 3), (.mov (.t 10)), none, []⟩] none)
  (.seq (.seq (.region [⟨(some 11), (.mov (.c (.int .i64 0))), none, []⟩] none)
  (.block 0 (.loop F21L0)))
  (.seq (.seq R21_1
  (.cond (.t 28)
  (.seq (.region [⟨(some 29), (.mov (.t 3)), none, []⟩,
    ⟨(some 2), (.mov (.t 29)), none, []⟩] none)
  .ret)
  .skip))
  (.seq (.region [⟨(some 30), (.mov (.t 3)), none, []⟩,
    ⟨(some 31), (.bin .add (.t 30) (.c (.string ⟨#[47]⟩))), none, []⟩,
    ⟨(some 32), (.fieldAddr 6 (.t 1)), none, []⟩,
    ⟨(some 33), (.load (some 6) (.t 32)), none, []⟩,
    ⟨(some 34), (.call (.f 23) [(.t 33)]), none, []⟩,
    ⟨(some 35), (.bin .add (.t 31) (.t 34)), none, []⟩,
    ⟨(some 2), (.mov (.t 35)), none, []⟩] none)
  .ret)))))
def F21 : AFunc := ⟨1, 36, [(.tmp 2)], B21⟩
-- F21L0 live: [1, 3, 11]
/-- toll/mac.Of -/
def F22L0 : ACode := (.seq (.region [⟨(some 6), (.bin .lss (.t 5) (.c (.int .i64 6))), none, []⟩] none)
  (.seq (.cond (.t 6)
  .skip
  (.exit 0))
  (.seq (.block 1 (.seq (.region [⟨(some 7), (.mov (.t 5)), none, []⟩,
    ⟨(some 4), (.mov (.t 7)), none, []⟩] none)
  (.region [⟨(some 8), (.mov (.t 4)), none, []⟩,
    ⟨(some 9), (.mov (.t 0)), none, []⟩,
    ⟨(some 10), (.mov (.t 4)), none, []⟩,
    ⟨(some 11), (.bin .mul (.c (.int .i64 8)) (.t 10)), none, []⟩,
    ⟨(some 12), (.bin .sub (.c (.int .i64 40)) (.t 11)), none, []⟩,
    ⟨(some 13), (.bin .shr (.t 9) (.t 12)), none, []⟩,
    ⟨(some 14), (.conv .u8 (.t 13)), none, []⟩,
    ⟨(some 15), (.indexArr 1 6 (.t 3) (.t 8)), none, []⟩,
    ⟨none, (.store 1 (.t 15) (.t 14)), none, []⟩] none)))
  (.region [⟨(some 16), (.bin .add (.t 5) (.c (.int .i64 1))), none, []⟩,
    ⟨(some 5), (.mov (.t 16)), none, []⟩] none))))
def B22 : ACode := (.seq (.region [⟨(some 2), (.alloc 23 [(.int .u8 0), (.int .u8 0), (.int .u8 0), (.int .u8 0), (.int .u8 0), (.int .u8 0)]), none, []⟩] none)
  (.seq (.region [⟨(some 3), (.alloc 23 [(.int .u8 0), (.int .u8 0), (.int .u8 0), (.int .u8 0), (.int .u8 0), (.int .u8 0)]), none, []⟩] none)
  (.seq (.seq (.region [⟨(some 5), (.mov (.c (.int .i64 0))), none, []⟩] none)
  (.block 0 (.loop F22L0)))
  (.seq (.region [⟨(some 17), (.load (some 6) (.t 3)), none, []⟩,
    ⟨none, (.store 6 (.t 2) (.t 17)), none, []⟩] none)
  .ret))))
def F22 : AFunc := ⟨1, 18, [(.cell 2 (some 6))], B22⟩
-- F22L0 live: [0, 2, 3, 5]
/-- toll/mac.Text -/
def F23L0 : ACode := (.seq (.region [⟨(some 8), (.bin .lss (.t 7) (.c (.int .i64 6))), none, []⟩] none)
  (.seq (.cond (.t 8)
  .skip
  (.exit 0))
  (.seq (.block 1 (.seq (.region [⟨(some 9), (.mov (.t 7)), none, []⟩,
    ⟨(some 10), (.index 1 6 none (.t 6) (.t 7)), none, []⟩,
    ⟨(some 4), (.mov (.t 9)), none, []⟩,
    ⟨(some 5), (.mov (.t 10)), none, []⟩] none)
  (.seq (.seq (.region [⟨(some 11), (.mov (.t 4)), none, []⟩,
    ⟨(some 12), (.bin .gtr (.t 11) (.c (.int .i64 0))), none, []⟩] none)
  (.cond (.t 12)
  (.region [⟨(some 13), (.call (.f 40) [(.t 3), (.c (.int .u8 58))]), none, []⟩] none)
  .skip))
  (.seq (.region [⟨(some 14), (.mov (.t 5)), none, []⟩,
    ⟨(some 15), (.bin .shr (.t 14) (.c (.int .u64 4))), none, []⟩,
    ⟨(some 16), (.indexStr (.c (.string ⟨#[48, 49, 50, 51, 52, 53, 54, 55, 56, 57, 97, 98, 99, 100, 101, 102]⟩)) (.t 15)), none, []⟩,
    ⟨(some 17), (.call (.f 40) [(.t 3), (.t 16)]), none, []⟩] none)
  (.region [⟨(some 18), (.mov (.t 5)), none, []⟩,
    ⟨(some 19), (.bin .and (.t 18) (.c (.int .u8 15))), none, []⟩,
    ⟨(some 20), (.indexStr (.c (.string ⟨#[48, 49, 50, 51, 52, 53, 54, 55, 56, 57, 97, 98, 99, 100, 101, 102]⟩)) (.t 19)), none, []⟩,
    ⟨(some 21), (.call (.f 40) [(.t 3), (.t 20)]), none, []⟩] none)))))
  (.region [⟨(some 22), (.bin .add (.t 7) (.c (.int .i64 1))), none, []⟩,
    ⟨(some 7), (.mov (.t 22)), none, []⟩] none))))
def B23 : ACode := (.seq (.region [⟨(some 1), (.box 23 (.t 0)), none, []⟩,
    ⟨(some 2), (.mov (.c (.string ⟨#[]⟩))), none, []⟩] none)
  (.seq (.region [⟨(some 3), (.alloc 74 [(.pointer none), (.slice none 0 0)]), none, []⟩] none)
  (.seq (.seq (.region [⟨(some 6), (.load (some 6) (.t 1)), none, []⟩,
    ⟨(some 7), (.mov (.c (.int .i64 0))), none, []⟩] none)
  (.block 0 (.loop F23L0)))
  (.seq (.region [⟨(some 23), (.call (.f 41) [(.t 3)]), none, []⟩,
    ⟨(some 2), (.mov (.t 23)), none, []⟩] none)
  .ret))))
def F23 : AFunc := ⟨1, 24, [(.tmp 2)], B23⟩
-- F23L0 live: [3, 6, 7]
/-- toll/tollref02.Text -/
def F24L0 : ACode := (.seq (.seq (.region [⟨(some 5), (.mov (.t 4)), none, []⟩,
    ⟨(some 6), (.bin .lss (.t 5) (.c (.int .i64 6))), none, []⟩] none)
  (.cond (.t 6)
  .skip
  (.exit 0)))
  (.seq (.block 1 (.seq (.seq (.region [⟨(some 9), (.mov (.t 4)), none, []⟩,
    ⟨(some 10), (.bin .gtr (.t 9) (.c (.int .i64 0))), none, []⟩] none)
  (.cond (.t 10)
  (.region [⟨(some 11), (.mov (.t 3)), none, []⟩,
    ⟨(some 12), (.bin .add (.t 11) (.c (.string ⟨#[58]⟩))), none, []⟩,
    ⟨(some 3), (.mov (.t 12)), none, []⟩] none)
  .skip))
  (.region [⟨(some 13), (.mov (.t 3)), none, []⟩,
    ⟨(some 14), (.mov (.t 4)), none, []⟩,
    ⟨(some 15), (.indexArr 1 6 (.t 1) (.t 14)), none, []⟩,
    ⟨(some 16), (.load none (.t 15)), none, []⟩,
    ⟨(some 17), (.call (.f 42) [(.t 16)]), none, []⟩,
    ⟨(some 18), (.bin .add (.t 13) (.t 17)), none, []⟩,
    ⟨(some 3), (.mov (.t 18)), none, []⟩] none)))
  (.region [⟨(some 7), (.mov (.t 4)), none, []⟩,
    ⟨(some 8), (.bin .add (.t 7) (.c (.int .i64 1))), none, []⟩,
    ⟨(some 4), (.mov (.t 8)), none, []⟩] none)))
def B24 : ACode := (.seq (.region [⟨(some 1), (.box 22 (.t 0)), none, []⟩,
    ⟨(some 2), (.mov (.c (.string ⟨#[]⟩))), none, []⟩] none)
  (.seq (.region [⟨(some 3), (.mov (.c (.string ⟨#[]⟩))), none, []⟩] none)
  (.seq (.seq (.region [⟨(some 4), (.mov (.c (.int .i64 0))), none, []⟩] none)
  (.block 0 (.loop F24L0)))
  (.seq (.region [⟨(some 19), (.mov (.t 3)), none, []⟩,
    ⟨(some 2), (.mov (.t 19)), none, []⟩] none)
  .ret))))
def F24 : AFunc := ⟨1, 20, [(.tmp 2)], B24⟩
-- F24L0 live: [1, 3, 4]
/-- toll/tollref02.Number -/
def F25L0 : ACode := (.seq (.seq (.region [⟨(some 5), (.mov (.t 4)), none, []⟩,
    ⟨(some 6), (.bin .lss (.t 5) (.c (.int .i64 6))), none, []⟩] none)
  (.cond (.t 6)
  .skip
  (.exit 0)))
  (.seq (.block 1 (.region [⟨(some 9), (.mov (.t 3)), none, []⟩,
    ⟨(some 10), (.bin .mul (.c (.int .u64 256)) (.t 9)), none, []⟩,
    ⟨(some 11), (.mov (.t 4)), none, []⟩,
    ⟨(some 12), (.indexArr 1 6 (.t 1) (.t 11)), none, []⟩,
    ⟨(some 13), (.load none (.t 12)), none, []⟩,
    ⟨(some 14), (.conv .u64 (.t 13)), none, []⟩,
    ⟨(some 15), (.bin .add (.t 10) (.t 14)), none, []⟩,
    ⟨(some 3), (.mov (.t 15)), none, []⟩] none))
  (.region [⟨(some 7), (.mov (.t 4)), none, []⟩,
    ⟨(some 8), (.bin .add (.t 7) (.c (.int .i64 1))), none, []⟩,
    ⟨(some 4), (.mov (.t 8)), none, []⟩] none)))
def B25 : ACode := (.seq (.region [⟨(some 1), (.box 22 (.t 0)), none, []⟩,
    ⟨(some 2), (.mov (.c (.int .u64 0))), none, []⟩] none)
  (.seq (.region [⟨(some 3), (.mov (.c (.int .u64 0))), none, []⟩] none)
  (.seq (.seq (.region [⟨(some 4), (.mov (.c (.int .i64 0))), none, []⟩] none)
  (.block 0 (.loop F25L0)))
  (.seq (.region [⟨(some 16), (.mov (.t 3)), none, []⟩,
    ⟨(some 2), (.mov (.t 16)), none, []⟩] none)
  .ret))))
def F25 : AFunc := ⟨1, 17, [(.tmp 2)], B25⟩
-- F25L0 live: [1, 3, 4]
/-- toll/tollref02.Of -/
def F26L0 : ACode := (.seq (.seq (.region [⟨(some 5), (.mov (.t 4)), none, []⟩,
    ⟨(some 6), (.bin .geq (.t 5) (.c (.int .i64 0))), none, []⟩] none)
  (.cond (.t 6)
  .skip
  (.exit 0)))
  (.seq (.block 1 (.seq (.region [⟨(some 9), (.mov (.t 4)), none, []⟩,
    ⟨(some 10), (.mov (.t 0)), none, []⟩,
    ⟨(some 11), (.bin .rem (.t 10) (.c (.int .u64 256))), none, []⟩,
    ⟨(some 12), (.conv .u8 (.t 11)), none, []⟩,
    ⟨(some 13), (.indexArr 1 6 (.t 3) (.t 9)), none, []⟩,
    ⟨none, (.store 1 (.t 13) (.t 12)), none, []⟩] none)
  (.region [⟨(some 14), (.mov (.t 0)), none, []⟩,
    ⟨(some 15), (.bin .quo (.t 14) (.c (.int .u64 256))), none, []⟩,
    ⟨(some 0), (.mov (.t 15)), none, []⟩] none)))
  (.region [⟨(some 7), (.mov (.t 4)), none, []⟩,
    ⟨(some 8), (.bin .sub (.t 7) (.c (.int .i64 1))), none, []⟩,
    ⟨(some 4), (.mov (.t 8)), none, []⟩] none)))
def B26 : ACode := (.seq (.region [⟨(some 2), (.alloc 22 [(.int .u8 0), (.int .u8 0), (.int .u8 0), (.int .u8 0), (.int .u8 0), (.int .u8 0)]), none, []⟩] none)
  (.seq (.region [⟨(some 3), (.alloc 22 [(.int .u8 0), (.int .u8 0), (.int .u8 0), (.int .u8 0), (.int .u8 0), (.int .u8 0)]), none, []⟩] none)
  (.seq (.seq (.region [⟨(some 4), (.mov (.c (.int .i64 5))), none, []⟩] none)
  (.block 0 (.loop F26L0)))
  (.seq (.region [⟨(some 16), (.load (some 6) (.t 3)), none, []⟩,
    ⟨none, (.store 6 (.t 2) (.t 16)), none, []⟩] none)
  .ret))))
def F26 : AFunc := ⟨1, 17, [(.cell 2 (some 6))], B26⟩
-- F26L0 live: [0, 2, 3, 4]
/-- toll/tollref02.Kind -/
def F27L0 : ACode := (.seq (.seq (.region [⟨(some 6), (.mov (.t 5)), none, []⟩,
    ⟨(some 7), (.bin .lss (.t 6) (.c (.int .i64 6))), none, []⟩] none)
  (.cond (.t 7)
  .skip
  (.exit 0)))
  (.seq (.block 1 (.seq (.seq (.region [⟨(some 10), (.mov (.t 5)), none, []⟩,
    ⟨(some 11), (.indexArr 1 6 (.t 1) (.t 10)), none, []⟩,
    ⟨(some 12), (.load none (.t 11)), none, []⟩,
    ⟨(some 13), (.bin .eql (.t 12) (.c (.int .u8 0))), none, []⟩] none)
  (.cond (.t 13)
  (.region [⟨(some 14), (.mov (.t 3)), none, []⟩,
    ⟨(some 15), (.bin .add (.t 14) (.c (.int .i64 1))), none, []⟩,
    ⟨(some 3), (.mov (.t 15)), none, []⟩] none)
  .skip))
  (.seq (.region [⟨(some 16), (.mov (.t 5)), none, []⟩,
    ⟨(some 17), (.indexArr 1 6 (.t 1) (.t 16)), none, []⟩,
    ⟨(some 18), (.load none (.t 17)), none, []⟩,
    ⟨(some 19), (.bin .eql (.t 18) (.c (.int .u8 255))), none, []⟩] none)
  (.cond (.t 19)
  (.region [⟨(some 20), (.mov (.t 4)), none, []⟩,
    ⟨(some 21), (.bin .add (.t 20) (.c (.int .i64 1))), none, []⟩,
    ⟨(some 4), (.mov (.t 21)), none, []⟩] none)
  .skip))))
  (.region [⟨(some 8), (.mov (.t 5)), none, []⟩,
    ⟨(some 9), (.bin .add (.t 8) (.c (.int .i64 1))), none, []⟩,
    ⟨(some 5), (.mov (.t 9)), none, []⟩] none)))
def B27 : ACode := (.seq (.region [⟨(some 1), (.box 22 (.t 0)), none, []⟩,
    ⟨(some 2), (.mov (.c (.int .i64 0))), none, []⟩] none)
  (.seq (.region [⟨(some 3), (.mov (.c (.int .i64 0))), none, []⟩] none)
  (.seq (.region [⟨(some 4), (.mov (.c (.int .i64 0))), none, []⟩] none)
  (.seq (.seq (.region [⟨(some 5), (.mov (.c (.int .i64 0))), none, []⟩] none)
  (.block 0 (.loop F27L0)))
  (.seq (.seq (.region [⟨(some 22), (.mov (.t 3)), none, []⟩,
    ⟨(some 23), (.bin .eql (.t 22) (.c (.int .i64 6))), none, []⟩] none)
  (.cond (.t 23)
  (.seq (.region [⟨(some 2), (.mov (.c (.int .i64 1))), none, []⟩] none)
  .ret)
  .skip))
  (.seq (.seq (.region [⟨(some 24), (.mov (.t 4)), none, []⟩,
    ⟨(some 25), (.bin .eql (.t 24) (.c (.int .i64 6))), none, []⟩] none)
  (.cond (.t 25)
  (.seq (.region [⟨(some 2), (.mov (.c (.int .i64 2))), none, []⟩] none)
  .ret)
  .skip))
  (.seq (.seq (.region [⟨(some 26), (.indexArr 1 6 (.t 1) (.c (.int .i64 0))), none, []⟩,
    ⟨(some 27), (.load none (.t 26)), none, []⟩,
    ⟨(some 28), (.bin .eql (.t 27) (.c (.int .u8 1))), none, []⟩,
    ⟨(some 29), (.mov (.t 28)), none, []⟩,
    ⟨(some 30), (.indexArr 1 6 (.t 1) (.c (.int .i64 1))), (some (29, true)), []⟩,
    ⟨(some 31), (.load none (.t 30)), (some (29, true)), []⟩,
    ⟨(some 32), (.bin .eql (.t 31) (.c (.int .u8 128))), (some (29, true)), []⟩,
    ⟨(some 33), (.pick (.t 29) (.t 32) (.c (.bool false))), none, []⟩,
    ⟨(some 34), (.mov (.t 33)), none, []⟩,
    ⟨(some 35), (.indexArr 1 6 (.t 1) (.c (.int .i64 2))), (some (34, true)), []⟩,
    ⟨(some 36), (.load none (.t 35)), (some (34, true)), []⟩,
    ⟨(some 37), (.bin .eql (.t 36) (.c (.int .u8 194))), (some (34, true)), []⟩,
    ⟨(some 38), (.pick (.t 34) (.t 37) (.c (.bool false))), none, []⟩,
    ⟨(some 39), (.mov (.t 38)), none, []⟩,
    ⟨(some 40), (.indexArr 1 6 (.t 1) (.c (.int .i64 3))), (some (39, true)), []⟩,
    ⟨(some 41), (.load none (.t 40)), (some (39, true)), []⟩,
    ⟨(some 42), (.bin .eql (.t 41) (.c (.int .u8 0))), (some (39, true)), []⟩,
    ⟨(some 43), (.pick (.t 39) (.t 42) (.c (.bool false))), none, []⟩,
    ⟨(some 44), (.mov (.t 43)), none, []⟩,
    ⟨(some 45), (.indexArr 1 6 (.t 1) (.c (.int .i64 4))), (some (44, true)), []⟩,
    ⟨(some 46), (.load none (.t 45)), (some (44, true)), []⟩,
    ⟨(some 47), (.bin .eql (.t 46) (.c (.int .u8 0))), (some (44, true)), []⟩,
    ⟨(some 48), (.pick (.t 44) (.t 47) (.c (.bool false))), none, []⟩,
    ⟨(some 49), (.mov (.t 48)), none, []⟩,
    ⟨(some 50), (.indexArr 1 6 (.t 1) (.c (.int .i64 5))), (some (49, true)), []⟩,
    ⟨(some 51), (.load none (.t 50)), (some (49, true)), []⟩,
    ⟨(some 52), (.bin .lss (.t 51) (.c (.int .u8 16))), (some (49, true)), []⟩,
    ⟨(some 53), (.pick (.t 49) (.t 52) (.c (.bool false))), none, []⟩] none)
  (.cond (.t 53)
  (.seq (.region [⟨(some 2), (.mov (.c (.int .i64 3))), none, []⟩] none)
  .ret)
  .skip))
  (.seq (.seq (.region [⟨(some 54), (.indexArr 1 6 (.t 1) (.c (.int .i64 0))), none, []⟩,
    ⟨(some 55), (.load none (.t 54)), none, []⟩,
    ⟨(some 56), (.bin .rem (.t 55) (.c (.int .u8 2))), none, []⟩,
    ⟨(some 57), (.bin .eql (.t 56) (.c (.int .u8 1))), none, []⟩] none)
  (.cond (.t 57)
  (.seq (.region [⟨(some 2), (.mov (.c (.int .i64 4))), none, []⟩] none)
  .ret)
  .skip))
  (.seq (.region [⟨(some 2), (.mov (.c (.int .i64 5))), none, []⟩] none)
  .ret)))))))))
def F27 : AFunc := ⟨1, 58, [(.tmp 2)], B27⟩
-- F27L0 live: [1, 3, 4, 5]
/-- toll/tollref02.Bits -/
def F28L0 : ACode := (.seq (.seq (.region [⟨(some 5), (.mov (.t 4)), none, []⟩,
    ⟨(some 6), (.bin .lss (.t 5) (.c (.int .i64 48))), none, []⟩] none)
  (.cond (.t 6)
  .skip
  (.exit 0)))
  (.seq (.block 1 (.seq (.region [⟨(some 9), (.mov (.t 4)), none, []⟩,
    ⟨(some 10), (.bin .quo (.t 9) (.c (.int .i64 8))), none, []⟩,
    ⟨(some 11), (.mov (.t 4)), none, []⟩,
    ⟨(some 12), (.bin .quo (.t 11) (.c (.int .i64 8))), none, []⟩,
    ⟨(some 13), (.indexArr 1 6 (.t 3) (.t 12)), none, []⟩,
    ⟨(some 14), (.load none (.t 13)), none, []⟩,
    ⟨(some 15), (.bin .mul (.t 14) (.c (.int .u8 2))), none, []⟩,
    ⟨(some 16), (.indexArr 1 6 (.t 3) (.t 10)), none, []⟩,
    ⟨none, (.store 1 (.t 16) (.t 15)), none, []⟩] none)
  (.seq (.region [⟨(some 17), (.mov (.t 4)), none, []⟩,
    ⟨(some 18), (.mov (.t 0)), none, []⟩,
    ⟨(some 19), (.bin .lss (.t 17) (.t 18)), none, []⟩] none)
  (.cond (.t 19)
  (.region [⟨(some 20), (.mov (.t 4)), none, []⟩,
    ⟨(some 21), (.bin .quo (.t 20) (.c (.int .i64 8))), none, []⟩,
    ⟨(some 22), (.indexArr 1 6 (.t 3) (.t 21)), none, []⟩,
    ⟨(some 23), (.load none (.t 22)), none, []⟩,
    ⟨(some 24), (.bin .add (.t 23) (.c (.int .u8 1))), none, []⟩,
    ⟨(some 25), (.indexArr 1 6 (.t 3) (.t 21)), none, []⟩,
    ⟨none, (.store 1 (.t 25) (.t 24)), none, []⟩] none)
  .skip))))
  (.region [⟨(some 7), (.mov (.t 4)), none, []⟩,
    ⟨(some 8), (.bin .add (.t 7) (.c (.int .i64 1))), none, []⟩,
    ⟨(some 4), (.mov (.t 8)), none, []⟩] none)))
def B28 : ACode := (.seq (.region [⟨(some 2), (.alloc 22 [(.int .u8 0), (.int .u8 0), (.int .u8 0), (.int .u8 0), (.int .u8 0), (.int .u8 0)]), none, []⟩] none)
  (.seq (.region [⟨(some 3), (.alloc 22 [(.int .u8 0), (.int .u8 0), (.int .u8 0), (.int .u8 0), (.int .u8 0), (.int .u8 0)]), none, []⟩] none)
  (.seq (.seq (.region [⟨(some 4), (.mov (.c (.int .i64 0))), none, []⟩] none)
  (.block 0 (.loop F28L0)))
  (.seq (.region [⟨(some 26), (.load (some 6) (.t 3)), none, []⟩,
    ⟨none, (.store 6 (.t 2) (.t 26)), none, []⟩] none)
  .ret))))
def F28 : AFunc := ⟨1, 27, [(.cell 2 (some 6))], B28⟩
-- F28L0 live: [0, 2, 3, 4]
def R29_0 : ACode := .region [⟨(some 10), (.mov (.t 5)), none, []⟩,
    ⟨(some 11), (.mov (.t 5)), none, []⟩,
    ⟨(some 12), (.indexArr 1 6 (.t 2) (.t 11)), none, [1]⟩,
    ⟨(some 13), (.load none (.t 12)), none, [2]⟩,
    ⟨(some 14), (.mov (.t 5)), none, []⟩,
    ⟨(some 15), (.indexArr 1 6 (.t 3) (.t 14)), none, [4]⟩,
    ⟨(some 16), (.load none (.t 15)), none, [5]⟩,
    ⟨(some 17), (.bin .and (.t 13) (.t 16)), none, [3, 6]⟩,
    ⟨(some 18), (.indexArr 1 6 (.t 2) (.t 10)), none, [0, 0, 1, 2, 3, 4, 5, 6, 7]⟩,
    ⟨none, (.store 1 (.t 18) (.t 17)), none, [8, 7, 0, 1, 2, 3, 4, 5, 6, 7]⟩] (some [(0, 1), (0, 2), (0, 3), (0, 4), (1, 4), (2, 4), (3, 4), (0, 5), (1, 5), (2, 5), (3, 5), (0, 6), (1, 6), (2, 6), (3, 6), (0, 7)])
/-- toll/tollref02.Masked -/
def F29L0 : ACode := (.seq (.seq (.region [⟨(some 6), (.mov (.t 5)), none, []⟩,
    ⟨(some 7), (.bin .lss (.t 6) (.c (.int .i64 6))), none, []⟩] none)
  (.cond (.t 7)
  .skip
  (.exit 0)))
  (.seq (.block 1 R29_0)
  (.region [⟨(some 8), (.mov (.t 5)), none, []⟩,
    ⟨(some 9), (.bin .add (.t 8) (.c (.int .i64 1))), none, []⟩,
    ⟨(some 5), (.mov (.t 9)), none, []⟩] none)))
def B29 : ACode := (.seq (.region [⟨(some 2), (.box 22 (.t 0)), none, []⟩,
    ⟨(some 3), (.box 22 (.t 1)), none, []⟩,
    ⟨(some 4), (.alloc 22 [(.int .u8 0), (.int .u8 0), (.int .u8 0), (.int .u8 0), (.int .u8 0), (.int .u8 0)]), none, []⟩] none)
  (.seq (.seq (.region [⟨(some 5), (.mov (.c (.int .i64 0))), none, []⟩] none)
  (.block 0 (.loop F29L0)))
  (.seq (.region [⟨(some 19), (.load (some 6) (.t 2)), none, []⟩,
    ⟨none, (.store 6 (.t 4) (.t 19)), none, []⟩] none)
  .ret)))
def F29 : AFunc := ⟨2, 20, [(.cell 4 (some 6))], B29⟩
-- F29L0 live: [2, 3, 4, 5]
def R30_0 : ACode := .region [⟨(some 11), (.mov (.t 4)), none, []⟩,
    ⟨(some 12), (.bin .lss (.t 11) (.c (.int .i64 48))), none, [0]⟩,
    ⟨(some 13), (.mov (.t 12)), none, [1]⟩,
    ⟨(some 14), (.fieldAddr 6 (.t 1)), (some (13, true)), [2]⟩,
    ⟨(some 15), (.load (some 6) (.t 14)), (some (13, true)), [3, 2]⟩,
    ⟨(some 16), (.mov (.t 4)), (some (13, true)), [2]⟩,
    ⟨(some 17), (.call (.f 28) [(.t 16)]), (some (13, true)), [5, 2, 2]⟩,
    ⟨(some 18), (.eqAgg true [.int, .int, .int, .int, .int, .int] (.t 15) (.t 17)), (some (13, true)), [4, 6, 2]⟩,
    ⟨(some 19), (.pick (.t 13) (.t 18) (.c (.bool false))), none, [2, 7]⟩] (some [(3, 5), (4, 5), (3, 6), (4, 6)])
def R30_1 : ACode := .region [⟨(some 22), (.fieldAddr 6 (.t 1)), none, []⟩,
    ⟨(some 23), (.load (some 6) (.t 22)), none, [0]⟩,
    ⟨(some 24), (.mov (.t 4)), none, []⟩,
    ⟨(some 25), (.call (.f 28) [(.t 24)]), none, [2]⟩,
    ⟨(some 26), (.eqAgg true [.int, .int, .int, .int, .int, .int] (.t 23) (.t 25)), none, [1, 3]⟩] (some [(0, 2), (1, 2), (0, 3), (1, 3)])
/-- toll/tollref02.PatternText -/
def F30L0 : ACode := (.seq (.seq R30_0
  (.cond (.t 19)
  .skip
  (.exit 0)))
  (.block 1 (.region [⟨(some 20), (.mov (.t 4)), none, []⟩,
    ⟨(some 21), (.bin .add (.t 20) (.c (.int .i64 1))), none, []⟩,
    ⟨(some 4), (.mov (.t 21)), none, []⟩] none)))
def B30 : ACode := (.seq (.region [⟨(some 1), (.box 34 (.t 0)), none, []⟩,
    ⟨(some 2), (.mov (.c (.string ⟨#[]⟩))), none, []⟩] none)
  (.seq (.region [⟨(some 5), (.fieldAddr 0 (.t 1)), none, []⟩,
    ⟨(some 6), (.load (some 6) (.t 5)), none, []⟩,
    ⟨(some 7), (.fieldAddr 6 (.t 1)), none, []⟩,
    ⟨(some 8), (.load (some 6) (.t 7)), none, []⟩,
    ⟨(some 9), (.call (.f 29) [(.t 6), (.t 8)]), none, []⟩,
    ⟨(some 10), (.call (.f 24) [(.t 9)]), none, []⟩,
    ⟨(some 3), (.mov (.t 10)), none, []⟩] none)
  (.seq (.region [⟨(some 4), (.mov (.c (.int .i64 0))), none, []⟩] none)
  (.seq (.block 0 (.loop F30L0))
  (.seq (.seq R30_1
  (.cond (.t 26)
  (.seq (.region [⟨(some 27), (.mov (.t 3)), none, []⟩,
    ⟨(some 28), (.bin .add (.t 27) (.c (.string ⟨#[47]⟩))), none, []⟩,
    ⟨(some 29), (.fieldAddr 6 (.t 1)), none, []⟩,
    ⟨(some 30), (.load (some 6) (.t 29)), none, []⟩,
    ⟨(some 31), (.call (.f 24) [(.t 30)]), none, []⟩,
    ⟨(some 32), (.bin .add (.t 28) (.t 31)), none, []⟩,
    ⟨(some 2), (.mov (.t 32)), none, []⟩] none)
  .ret)
  .skip))
  (.seq (.seq (.region [⟨(some 33), (.mov (.t 4)), none, []⟩,
    ⟨(some 34), (.bin .eql (.t 33) (.c (.int .i64 48))), none, []⟩] none)
  (.cond (.t 34)
  (.seq (.region [⟨(some 35), (.mov (.t 3)), none, []⟩,
    ⟨(some 2), (.mov (.t 35)), none, []⟩] none)
  .ret)
  .skip))
  (.seq (.seq (.region [⟨(some 36), (.mov (.t 4)), none, []⟩,
    ⟨(some 37), (.bin .lss (.t 36) (.c (.int .i64 10))), none, []⟩] none)
  (.cond (.t 37)
  (.seq (.region [⟨(some 38), (.mov (.t 3)), none, []⟩,
    ⟨(some 39), (.bin .add (.t 38) (.c (.string ⟨#[47]⟩))), none, []⟩,
    ⟨(some 40), (.mov (.t 4)), none, []⟩,
    ⟨(some 41), (.bin .add (.c (.int .i64 48)) (.t 40)), none, []⟩,
    ⟨(some 42), (.conv .u8 (.t 41)), none, []⟩,
    ⟨(some 43), (.buildSlice 5 1 1 [(.int .u8 0)] [(0, 1, (.t 42))]), none, []⟩,
    ⟨(some 44), (.strOf (.t 43)), none, []⟩,
    ⟨(some 45), (.bin .add (.t 39) (.t 44)), none, []⟩,
    ⟨(some 2), (.mov (.t 45)), none, []⟩] none)
  .ret)
  .skip))
  (.seq (.region [⟨(some 46), (.mov (.t 3)), none, []⟩,
    ⟨(some 47), (.bin .add (.t 46) (.c (.string ⟨#[47]⟩))), none, []⟩,
    ⟨(some 48), (.mov (.t 4)), none, []⟩,
    ⟨(some 49), (.bin .quo (.t 48) (.c (.int .i64 10))), none, []⟩,
    ⟨(some 50), (.bin .add (.c (.int .i64 48)) (.t 49)), none, []⟩,
    ⟨(some 51), (.conv .u8 (.t 50)), none, []⟩,
    ⟨(some 52), (.mov (.t 4)), none, []⟩,
    ⟨(some 53), (.bin .rem (.t 52) (.c (.int .i64 10))), none, []⟩,
    ⟨(some 54), (.bin .add (.c (.int .i64 48)) (.t 53)), none, []⟩,
    ⟨(some 55), (.conv .u8 (.t 54)), none, []⟩,
    ⟨(some 56), (.buildSlice 5 1 2 [(.int .u8 0)] [(0, 1, (.t 51)), (1, 1, (.t 55))]), none, []⟩,
    ⟨(some 57), (.strOf (.t 56)), none, []⟩,
    ⟨(some 58), (.bin .add (.t 47) (.t 57)), none, []⟩,
    ⟨(some 2), (.mov (.t 58)), none, []⟩] none)
  .ret))))))))
def F30 : AFunc := ⟨1, 59, [(.tmp 2)], B30⟩
-- F30L0 live: [1, 3, 4]
def R31_0 : ACode := .region [⟨(some 10), (.mov (.t 5)), none, []⟩,
    ⟨(some 11), (.indexArr 1 6 (.t 3) (.t 10)), none, [0]⟩,
    ⟨(some 12), (.load none (.t 11)), none, [1]⟩,
    ⟨(some 13), (.mov (.t 5)), none, []⟩,
    ⟨(some 14), (.fieldAddr 6 (.t 2)), none, []⟩,
    ⟨(some 15), (.indexArr 1 6 (.t 14) (.t 13)), none, [4, 3]⟩,
    ⟨(some 16), (.load none (.t 15)), none, [5]⟩,
    ⟨(some 17), (.bin .and (.t 12) (.t 16)), none, [2, 6]⟩,
    ⟨(some 18), (.mov (.t 5)), none, []⟩,
    ⟨(some 19), (.fieldAddr 0 (.t 2)), none, []⟩,
    ⟨(some 20), (.indexArr 1 6 (.t 19) (.t 18)), none, [9, 8]⟩,
    ⟨(some 21), (.load none (.t 20)), none, [10]⟩,
    ⟨(some 22), (.mov (.t 5)), none, []⟩,
    ⟨(some 23), (.fieldAddr 6 (.t 2)), none, []⟩,
    ⟨(some 24), (.indexArr 1 6 (.t 23) (.t 22)), none, [13, 12]⟩,
    ⟨(some 25), (.load none (.t 24)), none, [14]⟩,
    ⟨(some 26), (.bin .and (.t 21) (.t 25)), none, [11, 15]⟩,
    ⟨(some 27), (.bin .neq (.t 17) (.t 26)), none, [7, 16]⟩] (some [(0, 3), (1, 3), (2, 3), (0, 4), (1, 4), (2, 4), (3, 4), (0, 5), (1, 5), (2, 5), (0, 6), (1, 6), (2, 6), (0, 8), (1, 8), (2, 8), (3, 8), (4, 8), (5, 8), (6, 8), (7, 8), (0, 9), (1, 9), (2, 9), (3, 9), (4, 9), (5, 9), (6, 9), (7, 9), (8, 9), (0, 10), (1, 10), (2, 10), (3, 10), (4, 10), (5, 10), (6, 10), (7, 10), (0, 11), (1, 11), (2, 11), (3, 11), (4, 11), (5, 11), (6, 11), (7, 11), (0, 12), (1, 12), (2, 12), (3, 12), (4, 12), (5, 12), (6, 12), (7, 12), (8, 12), (9, 12), (10, 12), (11, 12), (0, 13), (1, 13), (2, 13), (3, 13), (4, 13), (5, 13), (6, 13), (7, 13), (8, 13), (9, 13), (10, 13), (11, 13), (12, 13), (0, 14), (1, 14), (2, 14), (3, 14), (4, 14), (5, 14), (6, 14), (7, 14), (8, 14), (9, 14), (10, 14), (11, 14), (0, 15), (1, 15), (2, 15), (3, 15), (4, 15), (5, 15), (6, 15), (7, 15), (8, 15), (9, 15), (10, 15), (11, 15), (0, 16), (1, 16), (2, 16), (3, 16), (4, 16), (5, 16), (6, 16), (7, 16)])
/-- toll/tollref02.Matches -/
def F31L0 : ACode := (.seq (.seq (.region [⟨(some 6), (.mov (.t 5)), none, []⟩,
    ⟨(some 7), (.bin .lss (.t 6) (.c (.int .i64 6))), none, []⟩] none)
  (.cond (.t 7)
  .skip
  (.exit 0)))
  (.seq (.block 1 (.seq R31_0
  (.cond (.t 27)
  (.seq (.region [⟨(some 4), (.mov (.c (.bool false))), none, []⟩] none)
  .ret)
  .skip)))
  (.region [⟨(some 8), (.mov (.t 5)), none, []⟩,
    ⟨(some 9), (.bin .add (.t 8) (.c (.int .i64 1))), none, []⟩,
    ⟨(some 5), (.mov (.t 9)), none, []⟩] none)))
def B31 : ACode := (.seq (.region [⟨(some 2), (.box 34 (.t 0)), none, []⟩,
    ⟨(some 3), (.box 22 (.t 1)), none, []⟩,
    ⟨(some 4), (.mov (.c (.bool false))), none, []⟩] none)
  (.seq (.seq (.region [⟨(some 5), (.mov (.c (.int .i64 0))), none, []⟩] none)
  (.block 0 (.loop F31L0)))
  (.seq (.region [⟨(some 4), (.mov (.c (.bool true))), none, []⟩] none)
  .ret)))
def F31 : AFunc := ⟨2, 28, [(.tmp 4)], B31⟩
-- F31L0 live: [2, 3, 5]
/-- strings.ToUpper -/
def F32L0 : ACode := (.seq (.seq (.region [⟨(some 11), (.mov (.t 5)), none, []⟩,
    ⟨(some 12), (.mov (.t 0)), none, []⟩,
    ⟨(some 13), (.lenStr (.t 12)), none, []⟩,
    ⟨(some 14), (.bin .lss (.t 11) (.t 13)), none, []⟩] none)
  (.cond (.t 14)
  .skip
  (.exit 0)))
  (.seq (.block 1 (.seq (.region [⟨(some 17), (.mov (.t 0)), none, []⟩,
    ⟨(some 18), (.mov (.t 5)), none, []⟩,
    ⟨(some 19), (.indexStr (.t 17) (.t 18)), none, []⟩,
    ⟨(some 6), (.mov (.t 19)), none, []⟩] none)
  (.seq (.seq (.region [⟨(some 20), (.mov (.t 6)), none, []⟩,
    ⟨(some 21), (.bin .geq (.t 20) (.c (.int .u8 128))), none, []⟩] none)
  (.cond (.t 21)
  (.seq (.region [⟨(some 3), (.mov (.c (.bool false))), none, []⟩] none)
  (.exit 0))
  .skip))
  (.region [⟨(some 22), (.mov (.t 4)), none, []⟩,
    ⟨(some 23), (.mov (.t 22)), none, []⟩,
    ⟨(some 24), (.mov (.t 6)), (some (23, false)), []⟩,
    ⟨(some 25), (.bin .leq (.c (.int .u8 97)) (.t 24)), (some (23, false)), []⟩,
    ⟨(some 26), (.mov (.t 25)), (some (23, false)), []⟩,
    ⟨(some 27), (.mov (.t 6)), (some (26, true)), []⟩,
    ⟨(some 28), (.bin .leq (.t 27) (.c (.int .u8 122))), (some (26, true)), []⟩,
    ⟨(some 29), (.pick (.t 26) (.t 28) (.c (.bool false))), (some (23, false)), []⟩,
    ⟨(some 30), (.pick (.t 23) (.c (.bool true)) (.t 29)), none, []⟩,
    ⟨(some 4), (.mov (.t 30)), none, []⟩] none))))
  (.region [⟨(some 15), (.mov (.t 5)), none, []⟩,
    ⟨(some 16), (.bin .add (.t 15) (.c (.int .i64 1))), none, []⟩,
    ⟨(some 5), (.mov (.t 16)), none, []⟩] none)))
def F32L1 : ACode := (.seq (.seq (.region [⟨(some 38), (.mov (.t 9)), none, []⟩,
    ⟨(some 39), (.mov (.t 0)), none, []⟩,
    ⟨(some 40), (.lenStr (.t 39)), none, []⟩,
    ⟨(some 41), (.bin .lss (.t 38) (.t 40)), none, []⟩] none)
  (.cond (.t 41)
  .skip
  (.exit 2)))
  (.seq (.block 3 (.seq (.region [⟨(some 44), (.mov (.t 0)), none, []⟩,
    ⟨(some 45), (.mov (.t 9)), none, []⟩,
    ⟨(some 46), (.indexStr (.t 44) (.t 45)), none, []⟩,
    ⟨(some 10), (.mov (.t 46)), none, []⟩] none)
  (.seq (.region [⟨(some 47), (.mov (.t 10)), none, []⟩,
    ⟨(some 48), (.bin .leq (.c (.int .u8 97)) (.t 47)), none, []⟩,
    ⟨(some 49), (.mov (.t 48)), none, []⟩,
    ⟨(some 50), (.mov (.t 10)), (some (49, true)), []⟩,
    ⟨(some 51), (.bin .leq (.t 50) (.c (.int .u8 122))), (some (49, true)), []⟩,
    ⟨(some 52), (.pick (.t 49) (.t 51) (.c (.bool false))), none, []⟩] none)
  (.cond (.t 52)
  (.seq (.region [⟨(some 53), (.mov (.t 10)), none, []⟩,
    ⟨(some 54), (.bin .sub (.t 53) (.c (.int .u8 32))), none, []⟩,
    ⟨(some 10), (.mov (.t 54)), none, []⟩] none)
  (.seq (.seq (.region [⟨(some 55), (.mov (.t 8)), none, []⟩,
    ⟨(some 56), (.mov (.t 9)), none, []⟩,
    ⟨(some 57), (.bin .lss (.t 55) (.t 56)), none, []⟩] none)
  (.cond (.t 57)
  (.region [⟨(some 58), (.mov (.t 0)), none, []⟩,
    ⟨(some 59), (.mov (.t 8)), none, []⟩,
    ⟨(some 60), (.mov (.t 9)), none, []⟩,
    ⟨(some 61), (.sliceStr (.t 58) (some (.t 59)) (some (.t 60))), none, []⟩,
    ⟨(some 62), (.call (.f 44) [(.t 7), (.t 61)]), none, []⟩] none)
  .skip))
  (.seq (.region [⟨(some 63), (.mov (.t 10)), none, []⟩,
    ⟨(some 64), (.call (.f 40) [(.t 7), (.t 63)]), none, []⟩] none)
  (.region [⟨(some 65), (.mov (.t 9)), none, []⟩,
    ⟨(some 66), (.bin .add (.t 65) (.c (.int .i64 1))), none, []⟩,
    ⟨(some 8), (.mov (.t 66)), none, []⟩] none))))
  .skip))))
  (.region [⟨(some 42), (.mov (.t 9)), none, []⟩,
    ⟨(some 43), (.bin .add (.t 42) (.c (.int .i64 1))), none, []⟩,
    ⟨(some 9), (.mov (.t 43)), none, []⟩] none)))
def B32 : ACode := (.seq (.region [⟨(some 2), (.mov (.c (.string ⟨#[]⟩))), none, []⟩] none)
  (.seq (.region [⟨(some 3), (.mov (.c (.bool true))), none, []⟩,
    ⟨(some 4), (.mov (.c (.bool false))), none, []⟩] none)
  (.seq (.seq (.region [⟨(some 5), (.mov (.c (.int .i64 0))), none, []⟩] none)
  (.block 0 (.loop F32L0)))
  (.seq (.seq (.region [⟨(some 31), (.mov (.t 3)), none, []⟩] none)
  (.cond (.t 31)
  (.seq (.seq (.region [⟨(some 32), (.mov (.t 4)), none, []⟩,
    ⟨(some 33), (.un .not (.t 32)), none, []⟩] none)
  (.cond (.t 33)
  (.seq (.region [⟨(some 34), (.mov (.t 0)), none, []⟩,
    ⟨(some 2), (.mov (.t 34)), none, []⟩] none)
  .ret)
  .skip))
  (.seq (.region [⟨(some 7), (.alloc 74 [(.pointer none), (.slice none 0 0)]), none, []⟩] none)
  (.seq (.region [⟨(some 8), (.mov (.c (.int .i64 0))), none, []⟩] none)
  (.seq (.region [⟨(some 35), (.mov (.t 0)), none, []⟩,
    ⟨(some 36), (.lenStr (.t 35)), none, []⟩,
    ⟨(some 37), (.call (.f 43) [(.t 7), (.t 36)]), none, []⟩] none)
  (.seq (.seq (.region [⟨(some 9), (.mov (.c (.int .i64 0))), none, []⟩] none)
  (.block 2 (.loop F32L1)))
  (.seq (.seq (.region [⟨(some 67), (.mov (.t 8)), none, []⟩,
    ⟨(some 68), (.mov (.t 0)), none, []⟩,
    ⟨(some 69), (.lenStr (.t 68)), none, []⟩,
    ⟨(some 70), (.bin .lss (.t 67) (.t 69)), none, []⟩] none)
  (.cond (.t 70)
  (.region [⟨(some 71), (.mov (.t 0)), none, []⟩,
    ⟨(some 72), (.mov (.t 8)), none, []⟩,
    ⟨(some 73), (.sliceStr (.t 71) (some (.t 72)) none), none, []⟩,
    ⟨(some 74), (.call (.f 44) [(.t 7), (.t 73)]), none, []⟩] none)
  .skip))
  (.seq (.region [⟨(some 75), (.call (.f 41) [(.t 7)]), none, []⟩,
    ⟨(some 2), (.mov (.t 75)), none, []⟩] none)
  .ret)))))))
  .skip))
  (.seq (.region [⟨(some 76), (.mov (.t 0)), none, []⟩,
    ⟨(some 77), (.call (.f 45) [(.f 46), (.t 76)]), none, []⟩,
    ⟨(some 2), (.mov (.t 77)), none, []⟩] none)
  .ret)))))
def F32 : AFunc := ⟨1, 78, [(.tmp 2)], B32⟩
-- F32L0 live: [0, 3, 4, 5]

-- F32L1 live: [0, 7, 8, 9]
/-- strings.ToLower -/
def F33L0 : ACode := (.seq (.seq (.region [⟨(some 11), (.mov (.t 5)), none, []⟩,
    ⟨(some 12), (.mov (.t 0)), none, []⟩,
    ⟨(some 13), (.lenStr (.t 12)), none, []⟩,
    ⟨(some 14), (.bin .lss (.t 11) (.t 13)), none, []⟩] none)
  (.cond (.t 14)
  .skip
  (.exit 0)))
  (.seq (.block 1 (.seq (.region [⟨(some 17), (.mov (.t 0)), none, []⟩,
    ⟨(some 18), (.mov (.t 5)), none, []⟩,
    ⟨(some 19), (.indexStr (.t 17) (.t 18)), none, []⟩,
    ⟨(some 6), (.mov (.t 19)), none, []⟩] none)
  (.seq (.seq (.region [⟨(some 20), (.mov (.t 6)), none, []⟩,
    ⟨(some 21), (.bin .geq (.t 20) (.c (.int .u8 128))), none, []⟩] none)
  (.cond (.t 21)
  (.seq (.region [⟨(some 3), (.mov (.c (.bool false))), none, []⟩] none)
  (.exit 0))
  .skip))
  (.region [⟨(some 22), (.mov (.t 4)), none, []⟩,
    ⟨(some 23), (.mov (.t 22)), none, []⟩,
    ⟨(some 24), (.mov (.t 6)), (some (23, false)), []⟩,
    ⟨(some 25), (.bin .leq (.c (.int .u8 65)) (.t 24)), (some (23, false)), []⟩,
    ⟨(some 26), (.mov (.t 25)), (some (23, false)), []⟩,
    ⟨(some 27), (.mov (.t 6)), (some (26, true)), []⟩,
    ⟨(some 28), (.bin .leq (.t 27) (.c (.int .u8 90))), (some (26, true)), []⟩,
    ⟨(some 29), (.pick (.t 26) (.t 28) (.c (.bool false))), (some (23, false)), []⟩,
    ⟨(some 30), (.pick (.t 23) (.c (.bool true)) (.t 29)), none, []⟩,
    ⟨(some 4), (.mov (.t 30)), none, []⟩] none))))
  (.region [⟨(some 15), (.mov (.t 5)), none, []⟩,
    ⟨(some 16), (.bin .add (.t 15) (.c (.int .i64 1))), none, []⟩,
    ⟨(some 5), (.mov (.t 16)), none, []⟩] none)))
def F33L1 : ACode := (.seq (.seq (.region [⟨(some 38), (.mov (.t 9)), none, []⟩,
    ⟨(some 39), (.mov (.t 0)), none, []⟩,
    ⟨(some 40), (.lenStr (.t 39)), none, []⟩,
    ⟨(some 41), (.bin .lss (.t 38) (.t 40)), none, []⟩] none)
  (.cond (.t 41)
  .skip
  (.exit 2)))
  (.seq (.block 3 (.seq (.region [⟨(some 44), (.mov (.t 0)), none, []⟩,
    ⟨(some 45), (.mov (.t 9)), none, []⟩,
    ⟨(some 46), (.indexStr (.t 44) (.t 45)), none, []⟩,
    ⟨(some 10), (.mov (.t 46)), none, []⟩] none)
  (.seq (.region [⟨(some 47), (.mov (.t 10)), none, []⟩,
    ⟨(some 48), (.bin .leq (.c (.int .u8 65)) (.t 47)), none, []⟩,
    ⟨(some 49), (.mov (.t 48)), none, []⟩,
    ⟨(some 50), (.mov (.t 10)), (some (49, true)), []⟩,
    ⟨(some 51), (.bin .leq (.t 50) (.c (.int .u8 90))), (some (49, true)), []⟩,
    ⟨(some 52), (.pick (.t 49) (.t 51) (.c (.bool false))), none, []⟩] none)
  (.cond (.t 52)
  (.seq (.region [⟨(some 53), (.mov (.t 10)), none, []⟩,
    ⟨(some 54), (.bin .add (.t 53) (.c (.int .u8 32))), none, []⟩,
    ⟨(some 10), (.mov (.t 54)), none, []⟩] none)
  (.seq (.seq (.region [⟨(some 55), (.mov (.t 8)), none, []⟩,
    ⟨(some 56), (.mov (.t 9)), none, []⟩,
    ⟨(some 57), (.bin .lss (.t 55) (.t 56)), none, []⟩] none)
  (.cond (.t 57)
  (.region [⟨(some 58), (.mov (.t 0)), none, []⟩,
    ⟨(some 59), (.mov (.t 8)), none, []⟩,
    ⟨(some 60), (.mov (.t 9)), none, []⟩,
    ⟨(some 61), (.sliceStr (.t 58) (some (.t 59)) (some (.t 60))), none, []⟩,
    ⟨(some 62), (.call (.f 44) [(.t 7), (.t 61)]), none, []⟩] none)
  .skip))
  (.seq (.region [⟨(some 63), (.mov (.t 10)), none, []⟩,
    ⟨(some 64), (.call (.f 40) [(.t 7), (.t 63)]), none, []⟩] none)
  (.region [⟨(some 65), (.mov (.t 9)), none, []⟩,
    ⟨(some 66), (.bin .add (.t 65) (.c (.int .i64 1))), none, []⟩,
    ⟨(some 8), (.mov (.t 66)), none, []⟩] none))))
  .skip))))
  (.region [⟨(some 42), (.mov (.t 9)), none, []⟩,
    ⟨(some 43), (.bin .add (.t 42) (.c (.int .i64 1))), none, []⟩,
    ⟨(some 9), (.mov (.t 43)), none, []⟩] none)))
def B33 : ACode := (.seq (.region [⟨(some 2), (.mov (.c (.string ⟨#[]⟩))), none, []⟩] none)
  (.seq (.region [⟨(some 3), (.mov (.c (.bool true))), none, []⟩,
    ⟨(some 4), (.mov (.c (.bool false))), none, []⟩] none)
  (.seq (.seq (.region [⟨(some 5), (.mov (.c (.int .i64 0))), none, []⟩] none)
  (.block 0 (.loop F33L0)))
  (.seq (.seq (.region [⟨(some 31), (.mov (.t 3)), none, []⟩] none)
  (.cond (.t 31)
  (.seq (.seq (.region [⟨(some 32), (.mov (.t 4)), none, []⟩,
    ⟨(some 33), (.un .not (.t 32)), none, []⟩] none)
  (.cond (.t 33)
  (.seq (.region [⟨(some 34), (.mov (.t 0)), none, []⟩,
    ⟨(some 2), (.mov (.t 34)), none, []⟩] none)
  .ret)
  .skip))
  (.seq (.region [⟨(some 7), (.alloc 74 [(.pointer none), (.slice none 0 0)]), none, []⟩] none)
  (.seq (.region [⟨(some 8), (.mov (.c (.int .i64 0))), none, []⟩] none)
  (.seq (.region [⟨(some 35), (.mov (.t 0)), none, []⟩,
    ⟨(some 36), (.lenStr (.t 35)), none, []⟩,
    ⟨(some 37), (.call (.f 43) [(.t 7), (.t 36)]), none, []⟩] none)
  (.seq (.seq (.region [⟨(some 9), (.mov (.c (.int .i64 0))), none, []⟩] none)
  (.block 2 (.loop F33L1)))
  (.seq (.seq (.region [⟨(some 67), (.mov (.t 8)), none, []⟩,
    ⟨(some 68), (.mov (.t 0)), none, []⟩,
    ⟨(some 69), (.lenStr (.t 68)), none, []⟩,
    ⟨(some 70), (.bin .lss (.t 67) (.t 69)), none, []⟩] none)
  (.cond (.t 70)
  (.region [⟨(some 71), (.mov (.t 0)), none, []⟩,
    ⟨(some 72), (.mov (.t 8)), none, []⟩,
    ⟨(some 73), (.sliceStr (.t 71) (some (.t 72)) none), none, []⟩,
    ⟨(some 74), (.call (.f 44) [(.t 7), (.t 73)]), none, []⟩] none)
  .skip))
  (.seq (.region [⟨(some 75), (.call (.f 41) [(.t 7)]), none, []⟩,
    ⟨(some 2), (.mov (.t 75)), none, []⟩] none)
  .ret)))))))
  .skip))
  (.seq (.region [⟨(some 76), (.mov (.t 0)), none, []⟩,
    ⟨(some 77), (.call (.f 45) [(.f 47), (.t 76)]), none, []⟩,
    ⟨(some 2), (.mov (.t 77)), none, []⟩] none)
  .ret)))))
def F33 : AFunc := ⟨1, 78, [(.tmp 2)], B33⟩
-- F33L0 live: [0, 3, 4, 5]

-- F33L1 live: [0, 7, 8, 9]
/-- strings.Split -/
def B34 : ACode := (.seq (.region [⟨(some 4), (.mov (.c (.slice none 0 0))), none, []⟩] none)
  (.seq (.region [⟨(some 5), (.mov (.t 0)), none, []⟩,
    ⟨(some 6), (.mov (.t 1)), none, []⟩,
    ⟨(some 7), (.call (.f 48) [(.t 5), (.t 6), (.c (.int .i64 0)), (.c (.int .i64 (-1)))]), none, []⟩,
    ⟨(some 4), (.mov (.t 7)), none, []⟩] none)
  .ret))
def F34 : AFunc := ⟨2, 8, [(.tmp 4)], B34⟩
/-- toll/mac.digit -/
def B35 : ACode := (.seq (.region [⟨(some 2), (.mov (.c (.int .i64 0))), none, []⟩] none)
  (.seq (.seq (.region [⟨(some 3), (.mov (.t 0)), none, []⟩,
    ⟨(some 4), (.bin .geq (.t 3) (.c (.int .u8 65))), none, []⟩,
    ⟨(some 5), (.mov (.t 4)), none, []⟩,
    ⟨(some 6), (.mov (.t 0)), (some (5, true)), []⟩,
    ⟨(some 7), (.bin .leq (.t 6) (.c (.int .u8 70))), (some (5, true)), []⟩,
    ⟨(some 8), (.pick (.t 5) (.t 7) (.c (.bool false))), none, []⟩] none)
  (.cond (.t 8)
  (.region [⟨(some 9), (.mov (.t 0)), none, []⟩,
    ⟨(some 10), (.bin .add (.t 9) (.c (.int .u8 32))), none, []⟩,
    ⟨(some 0), (.mov (.t 10)), none, []⟩] none)
  .skip))
  (.seq (.region [⟨(some 11), (.mov (.t 0)), none, []⟩,
    ⟨(some 12), (.call (.f 49) [(.c (.string ⟨#[48, 49, 50, 51, 52, 53, 54, 55, 56, 57, 97, 98, 99, 100, 101, 102]⟩)), (.t 11)]), none, []⟩,
    ⟨(some 2), (.mov (.t 12)), none, []⟩] none)
  .ret)))
def F35 : AFunc := ⟨1, 13, [(.tmp 2)], B35⟩
/-- toll/tollref02.digit -/
def F36L0 : ACode := (.seq (.seq (.region [⟨(some 4), (.mov (.t 3)), none, []⟩,
    ⟨(some 5), (.bin .lss (.t 4) (.c (.int .i64 16))), none, []⟩] none)
  (.cond (.t 5)
  .skip
  (.exit 0)))
  (.seq (.block 1 (.seq (.region [⟨(some 8), (.mov (.t 3)), none, []⟩,
    ⟨(some 9), (.indexStr (.c (.string ⟨#[48, 49, 50, 51, 52, 53, 54, 55, 56, 57, 97, 98, 99, 100, 101, 102]⟩)) (.t 8)), none, []⟩,
    ⟨(some 10), (.mov (.t 0)), none, []⟩,
    ⟨(some 11), (.bin .eql (.t 9) (.t 10)), none, []⟩,
    ⟨(some 12), (.mov (.t 11)), none, []⟩,
    ⟨(some 13), (.mov (.t 3)), (some (12, false)), []⟩,
    ⟨(some 14), (.indexStr (.c (.string ⟨#[48, 49, 50, 51, 52, 53, 54, 55, 56, 57, 65, 66, 67, 68, 69, 70]⟩)) (.t 13)), (some (12, false)), []⟩,
    ⟨(some 15), (.mov (.t 0)), (some (12, false)), []⟩,
    ⟨(some 16), (.bin .eql (.t 14) (.t 15)), (some (12, false)), []⟩,
    ⟨(some 17), (.pick (.t 12) (.c (.bool true)) (.t 16)), none, []⟩] none)
  (.cond (.t 17)
  (.seq (.region [⟨(some 18), (.mov (.t 3)), none, []⟩,
    ⟨(some 2), (.mov (.t 18)), none, []⟩] none)
  .ret)
  .skip)))
  (.region [⟨(some 6), (.mov (.t 3)), none, []⟩,
    ⟨(some 7), (.bin .add (.t 6) (.c (.int .i64 1))), none, []⟩,
    ⟨(some 3), (.mov (.t 7)), none, []⟩] none)))
def B36 : ACode := (.seq (.region [⟨(some 2), (.mov (.c (.int .i64 0))), none, []⟩] none)
  (.seq (.seq (.region [⟨(some 3), (.mov (.c (.int .i64 0))), none, []⟩] none)
  (.block 0 (.loop F36L0)))
  (.seq (.region [⟨(some 2), (.mov (.c (.int .i64 16))), none, []⟩] none)
  .ret)))
def F36 : AFunc := ⟨1, 19, [(.tmp 2)], B36⟩
-- F36L0 live: [0, 3]
/-- strings.Cut -/
def B37 : ACode := (.seq (.region [⟨(some 4), (.mov (.c (.string ⟨#[]⟩))), none, []⟩,
    ⟨(some 5), (.mov (.c (.string ⟨#[]⟩))), none, []⟩,
    ⟨(some 6), (.mov (.c (.bool false))), none, []⟩] none)
  (.seq (.region [⟨(some 7), (.mov (.t 0)), none, []⟩,
    ⟨(some 8), (.mov (.t 1)), none, []⟩,
    ⟨(some 9), (.call (.f 50) [(.t 7), (.t 8)]), none, []⟩,
    ⟨(some 10), (.extract (.t 9) 0), none, []⟩,
    ⟨(some 11), (.extract (.t 9) 1), none, []⟩,
    ⟨(some 12), (.extract (.t 9) 2), none, []⟩,
    ⟨(some 4), (.mov (.t 10)), none, []⟩,
    ⟨(some 5), (.mov (.t 11)), none, []⟩,
    ⟨(some 6), (.mov (.t 12)), none, []⟩] none)
  .ret))
def F37 : AFunc := ⟨2, 13, [(.tmp 4), (.tmp 5), (.tmp 6)], B37⟩
/-- toll/mac.parseMask -/
def F38L0 : ACode := (.seq (.region [⟨(some 18), (.bin .lss (.t 17) (.t 16)), none, []⟩] none)
  (.seq (.cond (.t 18)
  .skip
  (.exit 0))
  (.seq (.block 1 (.seq (.region [⟨(some 19), (.indexAddr 1 (.t 15) (.t 17)), none, []⟩,
    ⟨(some 20), (.load none (.t 19)), none, []⟩,
    ⟨(some 6), (.mov (.t 20)), none, []⟩] none)
  (.seq (.seq (.region [⟨(some 21), (.mov (.t 6)), none, []⟩,
    ⟨(some 22), (.bin .lss (.t 21) (.c (.int .u8 48))), none, []⟩,
    ⟨(some 23), (.mov (.t 22)), none, []⟩,
    ⟨(some 24), (.mov (.t 6)), (some (23, false)), []⟩,
    ⟨(some 25), (.bin .gtr (.t 24) (.c (.int .u8 57))), (some (23, false)), []⟩,
    ⟨(some 26), (.pick (.t 23) (.c (.bool true)) (.t 25)), none, []⟩] none)
  (.cond (.t 26)
  (.seq (.region [⟨(some 27), (.build [(.int .u8 0), (.int .u8 0), (.int .u8 0), (.int .u8 0), (.int .u8 0), (.int .u8 0)] []), none, []⟩,
    ⟨none, (.store 6 (.t 2) (.t 27)), none, []⟩,
    ⟨(some 3), (.mov (.c (.int .i64 5))), none, []⟩] none)
  .ret)
  .skip))
  (.region [⟨(some 28), (.mov (.t 4)), none, []⟩,
    ⟨(some 29), (.bin .mul (.c (.int .i64 10)) (.t 28)), none, []⟩,
    ⟨(some 30), (.mov (.t 6)), none, []⟩,
    ⟨(some 31), (.bin .sub (.t 30) (.c (.int .u8 48))), none, []⟩,
    ⟨(some 32), (.conv .i64 (.t 31)), none, []⟩,
    ⟨(some 33), (.bin .add (.t 29) (.t 32)), none, []⟩,
    ⟨(some 4), (.mov (.t 33)), none, []⟩] none))))
  (.region [⟨(some 34), (.bin .add (.t 17) (.c (.int .i64 1))), none, []⟩,
    ⟨(some 17), (.mov (.t 34)), none, []⟩] none))))
def B38 : ACode := (.seq (.region [⟨(some 2), (.alloc 23 [(.int .u8 0), (.int .u8 0), (.int .u8 0), (.int .u8 0), (.int .u8 0), (.int .u8 0)]), none, []⟩,
    ⟨(some 3), (.mov (.c (.int .i64 0))), none, []⟩] none)
  (.seq (.seq (.region [⟨(some 7), (.mov (.t 0)), none, []⟩,
    ⟨(some 8), (.lenStr (.t 7)), none, []⟩,
    ⟨(some 9), (.bin .gtr (.t 8) (.c (.int .i64 2))), none, []⟩] none)
  (.cond (.t 9)
  (.seq (.region [⟨(some 10), (.mov (.t 0)), none, []⟩,
    ⟨(some 11), (.call (.f 9) [(.t 10)]), none, []⟩,
    ⟨(some 12), (.extract (.t 11) 0), none, []⟩,
    ⟨(some 13), (.extract (.t 11) 1), none, []⟩,
    ⟨none, (.store 6 (.t 2) (.t 12)), none, []⟩,
    ⟨(some 3), (.mov (.t 13)), none, []⟩] none)
  .ret)
  .skip))
  (.seq (.region [⟨(some 4), (.mov (.c (.int .i64 0))), none, []⟩] none)
  (.seq (.seq (.region [⟨(some 14), (.mov (.t 0)), none, []⟩,
    ⟨(some 15), (.bytesOf 5 (.t 14)), none, []⟩,
    ⟨(some 16), (.lenSlice (.t 15)), none, []⟩,
    ⟨(some 17), (.mov (.c (.int .i64 0))), none, []⟩] none)
  (.block 0 (.loop F38L0)))
  (.seq (.block 2 (.seq (.region [⟨(some 36), (.mov (.t 0)), none, []⟩,
    ⟨(some 37), (.bin .eql (.t 36) (.c (.string ⟨#[]⟩))), none, []⟩,
    ⟨(some 35), (.mov (.t 37)), none, []⟩] none)
  (.cond (.t 35)
  (.seq (.region [⟨(some 38), (.build [(.int .u8 0), (.int .u8 0), (.int .u8 0), (.int .u8 0), (.int .u8 0), (.int .u8 0)] []), none, []⟩,
    ⟨none, (.store 6 (.t 2) (.t 38)), none, []⟩,
    ⟨(some 3), (.mov (.c (.int .i64 5))), none, []⟩] none)
  .ret)
  (.seq (.region [⟨(some 40), (.mov (.t 4)), none, []⟩,
    ⟨(some 41), (.bin .gtr (.t 40) (.c (.int .i64 48))), none, []⟩,
    ⟨(some 39), (.mov (.t 41)), none, []⟩] none)
  (.cond (.t 39)
  (.seq (.region [⟨(some 42), (.build [(.int .u8 0), (.int .u8 0), (.int .u8 0), (.int .u8 0), (.int .u8 0), (.int .u8 0)] []), none, []⟩,
    ⟨none, (.store 6 (.t 2) (.t 42)), none, []⟩,
    ⟨(some 3), (.mov (.c (.int .i64 24))), none, []⟩] none)
  .ret)
  .skip)))))
  (.seq (.region [⟨(some 43), (.mov (.t 4)), none, []⟩,
    ⟨(some 44), (.call (.f 14) [(.t 43)]), none, []⟩,
    ⟨none, (.store 6 (.t 2) (.t 44)), none, []⟩,
    ⟨(some 3), (.mov (.c (.int .i64 0))), none, []⟩] none)
  .ret))))))
def F38 : AFunc := ⟨1, 45, [(.cell 2 (some 6)), (.tmp 3)], B38⟩
-- F38L0 live: [0, 2, 4, 15, 16, 17]
/-- strconv.Itoa -/
def B39 : ACode := (.seq (.region [⟨(some 2), (.mov (.c (.string ⟨#[]⟩))), none, []⟩] none)
  (.seq (.region [⟨(some 3), (.mov (.t 0)), none, []⟩,
    ⟨(some 4), (.call (.f 51) [(.t 3)]), none, []⟩,
    ⟨(some 2), (.mov (.t 4)), none, []⟩] none)
  .ret))
def F39 : AFunc := ⟨1, 5, [(.tmp 2)], B39⟩
/-- (*strings.Builder).WriteByte -/
def B40 : ACode := (.seq (.region [⟨(some 4), (.mov (.c .nilIface)), none, []⟩] none)
  (.seq (.region [⟨(some 5), (.mov (.t 0)), none, []⟩,
    ⟨(some 6), (.call (.f 52) [(.t 5)]), none, []⟩] none)
  (.seq (.region [⟨(some 7), (.mov (.t 0)), none, []⟩,
    ⟨(some 8), (.mov (.t 0)), none, []⟩,
    ⟨(some 9), (.nilCheck (.t 8)), none, []⟩,
    ⟨(some 10), (.fieldAddr 1 (.t 9)), none, []⟩,
    ⟨(some 11), (.load none (.t 10)), none, []⟩,
    ⟨(some 12), (.mov (.t 1)), none, []⟩,
    ⟨(some 13), (.buildSlice 5 1 1 [(.int .u8 0)] [(0, 1, (.t 12))]), none, []⟩,
    ⟨(some 14), (.append 5 1 1 (.t 11) (.t 13)), none, []⟩,
    ⟨(some 15), (.nilCheck (.t 7)), none, []⟩,
    ⟨(some 16), (.fieldAddr 1 (.t 15)), none, []⟩,
    ⟨none, (.store 1 (.t 16) (.t 14)), none, []⟩] none)
  (.seq (.region [⟨(some 4), (.mov (.c .nilIface)), none, []⟩] none)
  .ret))))
def F40 : AFunc := ⟨2, 17, [(.tmp 4)], B40⟩
def R41_0 : ACode := .region [⟨(some 3), (.mov (.t 0)), none, []⟩,
    ⟨(some 4), (.nilCheck (.t 3)), none, [0]⟩,
    ⟨(some 5), (.fieldAddr 1 (.t 4)), none, [1]⟩,
    ⟨(some 6), (.load none (.t 5)), none, [2]⟩,
    ⟨(some 7), (.sliceData (.t 6)), none, [3]⟩,
    ⟨(some 8), (.mov (.t 0)), none, []⟩,
    ⟨(some 9), (.nilCheck (.t 8)), none, [5]⟩,
    ⟨(some 10), (.fieldAddr 1 (.t 9)), none, [6]⟩,
    ⟨(some 11), (.load none (.t 10)), none, [7]⟩,
    ⟨(some 12), (.lenSlice (.t 11)), none, [8]⟩,
    ⟨(some 13), (.unsafeString 5 (.t 7) (.t 12)), none, [4, 9]⟩,
    ⟨(some 2), (.mov (.t 13)), none, [10, 0, 1, 2, 3, 4, 5, 6, 7, 8, 9, 10]⟩] (some [(0, 5), (1, 5), (2, 5), (3, 5), (4, 5), (0, 6), (1, 6), (2, 6), (3, 6), (4, 6), (0, 7), (1, 7), (2, 7), (3, 7), (4, 7), (0, 8), (1, 8), (2, 8), (3, 8), (4, 8), (0, 9), (1, 9), (2, 9), (3, 9), (4, 9)])
/-- (*strings.Builder).String -/
def B41 : ACode := (.seq (.region [⟨(some 2), (.mov (.c (.string ⟨#[]⟩))), none, []⟩] none)
  (.seq R41_0
  .ret))
def F41 : AFunc := ⟨1, 14, [(.tmp 2)], B41⟩
def R42_0 : ACode := .region [⟨(some 3), (.mov (.t 0)), none, []⟩,
    ⟨(some 4), (.bin .quo (.t 3) (.c (.int .u8 16))), none, [0]⟩,
    ⟨(some 5), (.indexStr (.c (.string ⟨#[48, 49, 50, 51, 52, 53, 54, 55, 56, 57, 97, 98, 99, 100, 101, 102]⟩)) (.t 4)), none, [1]⟩,
    ⟨(some 6), (.mov (.t 0)), none, []⟩,
    ⟨(some 7), (.bin .rem (.t 6) (.c (.int .u8 16))), none, [3]⟩,
    ⟨(some 8), (.indexStr (.c (.string ⟨#[48, 49, 50, 51, 52, 53, 54, 55, 56, 57, 97, 98, 99, 100, 101, 102]⟩)) (.t 7)), none, [4]⟩,
    ⟨(some 9), (.buildSlice 5 1 2 [(.int .u8 0)] [(0, 1, (.t 5)), (1, 1, (.t 8))]), none, [2, 5]⟩,
    ⟨(some 10), (.strOf (.t 9)), none, [6]⟩,
    ⟨(some 2), (.mov (.t 10)), none, [7, 0, 1, 2, 3, 4, 5, 6, 7]⟩] (some [(0, 3), (1, 3), (2, 3), (0, 4), (1, 4), (2, 4), (0, 5), (1, 5), (2, 5)])
/-- toll/tollref02.digits -/
def B42 : ACode := (.seq (.region [⟨(some 2), (.mov (.c (.string ⟨#[]⟩))), none, []⟩] none)
  (.seq R42_0
  .ret))
def F42 : AFunc := ⟨1, 11, [(.tmp 2)], B42⟩
def R43_0 : ACode := .region [⟨(some 9), (.mov (.t 0)), none, []⟩,
    ⟨(some 10), (.nilCheck (.t 9)), none, [0]⟩,
    ⟨(some 11), (.fieldAddr 1 (.t 10)), none, [1]⟩,
    ⟨(some 12), (.load none (.t 11)), none, [2]⟩,
    ⟨(some 13), (.cap (.t 12)), none, [3]⟩,
    ⟨(some 14), (.mov (.t 0)), none, []⟩,
    ⟨(some 15), (.nilCheck (.t 14)), none, [5]⟩,
    ⟨(some 16), (.fieldAddr 1 (.t 15)), none, [6]⟩,
    ⟨(some 17), (.load none (.t 16)), none, [7]⟩,
    ⟨(some 18), (.lenSlice (.t 17)), none, [8]⟩,
    ⟨(some 19), (.bin .sub (.t 13) (.t 18)), none, [4, 9]⟩,
    ⟨(some 20), (.mov (.t 1)), none, []⟩,
    ⟨(some 21), (.bin .lss (.t 19) (.t 20)), none, [10, 11]⟩] (some [(0, 5), (1, 5), (2, 5), (3, 5), (4, 5), (0, 6), (1, 6), (2, 6), (3, 6), (4, 6), (0, 7), (1, 7), (2, 7), (3, 7), (4, 7), (0, 8), (1, 8), (2, 8), (3, 8), (4, 8), (0, 9), (1, 9), (2, 9), (3, 9), (4, 9), (0, 11), (1, 11), (2, 11), (3, 11), (4, 11), (5, 11), (6, 11), (7, 11), (8, 11), (9, 11), (10, 11)])
/-- (*strings.Builder).Grow -/
def B43 : ACode := (.seq (.region [⟨(some 4), (.mov (.t 0)), none, []⟩,
    ⟨(some 5), (.call (.f 52) [(.t 4)]), none, []⟩] none)
  (.seq (.seq (.region [⟨(some 6), (.mov (.t 1)), none, []⟩,
    ⟨(some 7), (.bin .lss (.t 6) (.c (.int .i64 0))), none, []⟩] none)
  (.cond (.t 7)
  (.region [⟨(some 8), (.makeIface 9 (.c (.string ⟨#[115, 116, 114, 105, 110, 103, 115, 46, 66, 117, 105, 108, 100, 101, 114, 46, 71, 114, 111, 119, 58, 32, 110, 101, 103, 97, 116, 105, 118, 101, 32, 99, 111, 117, 110, 116]⟩))), none, []⟩,
    ⟨none, .fail, none, []⟩] none)
  .skip))
  (.seq R43_0
  (.cond (.t 21)
  (.region [⟨(some 22), (.mov (.t 0)), none, []⟩,
    ⟨(some 23), (.mov (.t 1)), none, []⟩,
    ⟨(some 24), (.call (.f 53) [(.t 22), (.t 23)]), none, []⟩] none)
  .skip))))
def F43 : AFunc := ⟨2, 25, [], B43⟩
/-- (*strings.Builder).WriteString -/
def B44 : ACode := (.seq (.region [⟨(some 4), (.mov (.c (.int .i64 0))), none, []⟩,
    ⟨(some 5), (.mov (.c .nilIface)), none, []⟩] none)
  (.seq (.region [⟨(some 6), (.mov (.t 0)), none, []⟩,
    ⟨(some 7), (.call (.f 52) [(.t 6)]), none, []⟩] none)
  (.seq (.region [⟨(some 8), (.mov (.t 0)), none, []⟩,
    ⟨(some 9), (.mov (.t 0)), none, []⟩,
    ⟨(some 10), (.nilCheck (.t 9)), none, []⟩,
    ⟨(some 11), (.fieldAddr 1 (.t 10)), none, []⟩,
    ⟨(some 12), (.load none (.t 11)), none, []⟩,
    ⟨(some 13), (.mov (.t 1)), none, []⟩,
    ⟨(some 14), (.append 5 1 1 (.t 12) (.t 13)), none, []⟩,
    ⟨(some 15), (.nilCheck (.t 8)), none, []⟩,
    ⟨(some 16), (.fieldAddr 1 (.t 15)), none, []⟩,
    ⟨none, (.store 1 (.t 16) (.t 14)), none, []⟩] none)
  (.seq (.region [⟨(some 17), (.mov (.t 1)), none, []⟩,
    ⟨(some 18), (.lenStr (.t 17)), none, []⟩,
    ⟨(some 4), (.mov (.t 18)), none, []⟩,
    ⟨(some 5), (.mov (.c .nilIface)), none, []⟩] none)
  .ret))))
def F44 : AFunc := ⟨2, 19, [(.tmp 4), (.tmp 5)], B44⟩
/-- unicode.ToUpper -/
def B46 : ACode := (.seq (.region [⟨(some 2), (.mov (.c (.int .i32 0))), none, []⟩] none)
  (.seq (.seq (.region [⟨(some 3), (.mov (.t 0)), none, []⟩,
    ⟨(some 4), (.bin .leq (.t 3) (.c (.int .i32 127))), none, []⟩] none)
  (.cond (.t 4)
  (.seq (.seq (.region [⟨(some 5), (.mov (.t 0)), none, []⟩,
    ⟨(some 6), (.bin .leq (.c (.int .i32 97)) (.t 5)), none, []⟩,
    ⟨(some 7), (.mov (.t 6)), none, []⟩,
    ⟨(some 8), (.mov (.t 0)), (some (7, true)), []⟩,
    ⟨(some 9), (.bin .leq (.t 8) (.c (.int .i32 122))), (some (7, true)), []⟩,
    ⟨(some 10), (.pick (.t 7) (.t 9) (.c (.bool false))), none, []⟩] none)
  (.cond (.t 10)
  (.region [⟨(some 11), (.mov (.t 0)), none, []⟩,
    ⟨(some 12), (.bin .sub (.t 11) (.c (.int .i32 32))), none, []⟩,
    ⟨(some 0), (.mov (.t 12)), none, []⟩] none)
  .skip))
  (.seq (.region [⟨(some 13), (.mov (.t 0)), none, []⟩,
    ⟨(some 2), (.mov (.t 13)), none, []⟩] none)
  .ret))
  .skip))
  (.seq (.region [⟨(some 14), (.mov (.t 0)), none, []⟩,
    ⟨(some 15), (.call (.f 58) [(.c (.int .i64 0)), (.t 14)]), none, []⟩,
    ⟨(some 2), (.mov (.t 15)), none, []⟩] none)
  .ret)))
def F46 : AFunc := ⟨1, 16, [(.tmp 2)], B46⟩
/-- unicode.ToLower -/
def B47 : ACode := (.seq (.region [⟨(some 2), (.mov (.c (.int .i32 0))), none, []⟩] none)
  (.seq (.seq (.region [⟨(some 3), (.mov (.t 0)), none, []⟩,
    ⟨(some 4), (.bin .leq (.t 3) (.c (.int .i32 127))), none, []⟩] none)
  (.cond (.t 4)
  (.seq (.seq (.region [⟨(some 5), (.mov (.t 0)), none, []⟩,
    ⟨(some 6), (.bin .leq (.c (.int .i32 65)) (.t 5)), none, []⟩,
    ⟨(some 7), (.mov (.t 6)), none, []⟩,
    ⟨(some 8), (.mov (.t 0)), (some (7, true)), []⟩,
    ⟨(some 9), (.bin .leq (.t 8) (.c (.int .i32 90))), (some (7, true)), []⟩,
    ⟨(some 10), (.pick (.t 7) (.t 9) (.c (.bool false))), none, []⟩] none)
  (.cond (.t 10)
  (.region [⟨(some 11), (.mov (.t 0)), none, []⟩,
    ⟨(some 12), (.bin .add (.t 11) (.c (.int .i32 32))), none, []⟩,
    ⟨(some 0), (.mov (.t 12)), none, []⟩] none)
  .skip))
  (.seq (.region [⟨(some 13), (.mov (.t 0)), none, []⟩,
    ⟨(some 2), (.mov (.t 13)), none, []⟩] none)
  .ret))
  .skip))
  (.seq (.region [⟨(some 14), (.mov (.t 0)), none, []⟩,
    ⟨(some 15), (.call (.f 58) [(.c (.int .i64 1)), (.t 14)]), none, []⟩,
    ⟨(some 2), (.mov (.t 15)), none, []⟩] none)
  .ret)))
def F47 : AFunc := ⟨1, 16, [(.tmp 2)], B47⟩
/-- strings.genSplit -/
def F48L0 : ACode := (.seq (.seq (.region [⟨(some 34), (.mov (.t 10)), none, []⟩,
    ⟨(some 35), (.mov (.t 3)), none, []⟩,
    ⟨(some 36), (.bin .lss (.t 34) (.t 35)), none, []⟩] none)
  (.cond (.t 36)
  .skip
  (.exit 0)))
  (.block 1 (.seq (.region [⟨(some 37), (.mov (.t 0)), none, []⟩,
    ⟨(some 38), (.mov (.t 1)), none, []⟩,
    ⟨(some 39), (.call (.f 61) [(.t 37), (.t 38)]), none, []⟩,
    ⟨(some 11), (.mov (.t 39)), none, []⟩] none)
  (.seq (.seq (.region [⟨(some 40), (.mov (.t 11)), none, []⟩,
    ⟨(some 41), (.bin .lss (.t 40) (.c (.int .i64 0))), none, []⟩] none)
  (.cond (.t 41)
  (.exit 0)
  .skip))
  (.seq (.region [⟨(some 42), (.mov (.t 9)), none, []⟩,
    ⟨(some 43), (.mov (.t 10)), none, []⟩,
    ⟨(some 44), (.mov (.t 0)), none, []⟩,
    ⟨(some 45), (.mov (.t 11)), none, []⟩,
    ⟨(some 46), (.mov (.t 2)), none, []⟩,
    ⟨(some 47), (.bin .add (.t 45) (.t 46)), none, []⟩,
    ⟨(some 48), (.sliceStr (.t 44) none (some (.t 47))), none, []⟩,
    ⟨(some 49), (.indexAddr 1 (.t 42) (.t 43)), none, []⟩,
    ⟨none, (.store 1 (.t 49) (.t 48)), none, []⟩] none)
  (.seq (.region [⟨(some 50), (.mov (.t 0)), none, []⟩,
    ⟨(some 51), (.mov (.t 11)), none, []⟩,
    ⟨(some 52), (.mov (.t 1)), none, []⟩,
    ⟨(some 53), (.lenStr (.t 52)), none, []⟩,
    ⟨(some 54), (.bin .add (.t 51) (.t 53)), none, []⟩,
    ⟨(some 55), (.sliceStr (.t 50) (some (.t 54)) none), none, []⟩,
    ⟨(some 0), (.mov (.t 55)), none, []⟩] none)
  (.region [⟨(some 56), (.mov (.t 10)), none, []⟩,
    ⟨(some 57), (.bin .add (.t 56) (.c (.int .i64 1))), none, []⟩,
    ⟨(some 10), (.mov (.t 57)), none, []⟩] none)))))))
def B48 : ACode := (.seq (.region [⟨(some 8), (.mov (.c (.slice none 0 0))), none, []⟩] none)
  (.seq (.seq (.region [⟨(some 12), (.mov (.t 3)), none, []⟩,
    ⟨(some 13), (.bin .eql (.t 12) (.c (.int .i64 0))), none, []⟩] none)
  (.cond (.t 13)
  (.seq (.region [⟨(some 8), (.mov (.c (.slice none 0 0))), none, []⟩] none)
  .ret)
  .skip))
  (.seq (.seq (.region [⟨(some 14), (.mov (.t 1)), none, []⟩,
    ⟨(some 15), (.bin .eql (.t 14) (.c (.string ⟨#[]⟩))), none, []⟩] none)
  (.cond (.t 15)
  (.seq (.region [⟨(some 16), (.mov (.t 0)), none, []⟩,
    ⟨(some 17), (.mov (.t 3)), none, []⟩,
    ⟨(some 18), (.call (.f 59) [(.t 16), (.t 17)]), none, []⟩,
    ⟨(some 8), (.mov (.t 18)), none, []⟩] none)
  .ret)
  .skip))
  (.seq (.seq (.region [⟨(some 19), (.mov (.t 3)), none, []⟩,
    ⟨(some 20), (.bin .lss (.t 19) (.c (.int .i64 0))), none, []⟩] none)
  (.cond (.t 20)
  (.region [⟨(some 21), (.mov (.t 0)), none, []⟩,
    ⟨(some 22), (.mov (.t 1)), none, []⟩,
    ⟨(some 23), (.call (.f 60) [(.t 21), (.t 22)]), none, []⟩,
    ⟨(some 24), (.bin .add (.t 23) (.c (.int .i64 1))), none, []⟩,
    ⟨(some 3), (.mov (.t 24)), none, []⟩] none)
  .skip))
  (.seq (.region [⟨(some 25), (.mov (.t 3)), none, []⟩,
    ⟨(some 26), (.mov (.t 0)), none, []⟩,
    ⟨(some 27), (.lenStr (.t 26)), none, []⟩,
    ⟨(some 28), (.bin .add (.t 27) (.c (.int .i64 1))), none, []⟩,
    ⟨(some 29), (.min [(.t 25), (.t 28)]), none, []⟩,
    ⟨(some 3), (.mov (.t 29)), none, []⟩] none)
  (.seq (.region [⟨(some 30), (.mov (.t 3)), none, []⟩,
    ⟨(some 31), (.makeSlice 9 1 16 [(.string ⟨#[]⟩)] (.t 30) (.t 30)), none, []⟩,
    ⟨(some 9), (.mov (.t 31)), none, []⟩] none)
  (.seq (.region [⟨(some 32), (.mov (.t 3)), none, []⟩,
    ⟨(some 33), (.bin .sub (.t 32) (.c (.int .i64 1))), none, []⟩,
    ⟨(some 3), (.mov (.t 33)), none, []⟩] none)
  (.seq (.region [⟨(some 10), (.mov (.c (.int .i64 0))), none, []⟩] none)
  (.seq (.block 0 (.loop F48L0))
  (.seq (.region [⟨(some 58), (.mov (.t 9)), none, []⟩,
    ⟨(some 59), (.mov (.t 10)), none, []⟩,
    ⟨(some 60), (.mov (.t 0)), none, []⟩,
    ⟨(some 61), (.indexAddr 1 (.t 58) (.t 59)), none, []⟩,
    ⟨none, (.store 1 (.t 61) (.t 60)), none, []⟩] none)
  (.seq (.region [⟨(some 62), (.mov (.t 9)), none, []⟩,
    ⟨(some 63), (.mov (.t 10)), none, []⟩,
    ⟨(some 64), (.bin .add (.t 63) (.c (.int .i64 1))), none, []⟩,
    ⟨(some 65), (.slice 1 (.t 62) none (some (.t 64)) none), none, []⟩,
    ⟨(some 8), (.mov (.t 65)), none, []⟩] none)
  .ret)))))))))))
def F48 : AFunc := ⟨4, 66, [(.tmp 8)], B48⟩
-- F48L0 live: [0, 1, 2, 3, 9, 10]
/-- strings.IndexByte -/
def B49 : ACode := (.seq (.region [⟨(some 4), (.mov (.c (.int .i64 0))), none, []⟩] none)
  (.seq (.region [⟨(some 5), (.mov (.t 0)), none, []⟩,
    ⟨(some 6), (.mov (.t 1)), none, []⟩,
    ⟨(some 7), (.call (.f 62) [(.t 5), (.t 6)]), none, []⟩,
    ⟨(some 4), (.mov (.t 7)), none, []⟩] none)
  .ret))
def F49 : AFunc := ⟨2, 8, [(.tmp 4)], B49⟩
def R50_0 : ACode := .region [⟨(some 13), (.mov (.t 0)), none, []⟩,
    ⟨(some 14), (.mov (.t 7)), none, []⟩,
    ⟨(some 15), (.sliceStr (.t 13) none (some (.t 14))), none, [0, 1]⟩,
    ⟨(some 16), (.mov (.t 0)), none, []⟩,
    ⟨(some 17), (.mov (.t 7)), none, []⟩,
    ⟨(some 18), (.mov (.t 1)), none, []⟩,
    ⟨(some 19), (.lenStr (.t 18)), none, [5]⟩,
    ⟨(some 20), (.bin .add (.t 17) (.t 19)), none, [4, 6]⟩,
    ⟨(some 21), (.sliceStr (.t 16) (some (.t 20)) none), none, [3, 7]⟩,
    ⟨(some 4), (.mov (.t 15)), none, [2, 0, 1, 2]⟩,
    ⟨(some 5), (.mov (.t 21)), none, [8, 9, 0, 1, 2, 3, 4, 5, 6, 7, 8, 9]⟩,
    ⟨(some 6), (.mov (.c (.bool true))), none, [10, 0, 1, 2, 3, 4, 5, 6, 7, 8, 9, 10]⟩] (some [(0, 1), (0, 3), (1, 3), (2, 3), (0, 4), (1, 4), (2, 4), (3, 4), (0, 5), (1, 5), (2, 5), (3, 5), (4, 5), (0, 6), (1, 6), (2, 6), (3, 6), (4, 6), (0, 7), (1, 7), (2, 7), (3, 7), (0, 8), (1, 8), (2, 8), (3, 9), (4, 9), (5, 9), (6, 9), (7, 9), (8, 9)])
/-- internal/stringslite.Cut -/
def B50 : ACode := (.seq (.region [⟨(some 4), (.mov (.c (.string ⟨#[]⟩))), none, []⟩,
    ⟨(some 5), (.mov (.c (.string ⟨#[]⟩))), none, []⟩,
    ⟨(some 6), (.mov (.c (.bool false))), none, []⟩] none)
  (.seq (.seq (.region [⟨(some 8), (.mov (.t 0)), none, []⟩,
    ⟨(some 9), (.mov (.t 1)), none, []⟩,
    ⟨(some 10), (.call (.f 63) [(.t 8), (.t 9)]), none, []⟩,
    ⟨(some 7), (.mov (.t 10)), none, []⟩] none)
  (.seq (.region [⟨(some 11), (.mov (.t 7)), none, []⟩,
    ⟨(some 12), (.bin .geq (.t 11) (.c (.int .i64 0))), none, []⟩] none)
  (.cond (.t 12)
  (.seq R50_0
  .ret)
  .skip)))
  (.seq (.region [⟨(some 22), (.mov (.t 0)), none, []⟩,
    ⟨(some 4), (.mov (.t 22)), none, []⟩,
    ⟨(some 5), (.mov (.c (.string ⟨#[]⟩))), none, []⟩,
    ⟨(some 6), (.mov (.c (.bool false))), none, []⟩] none)
  .ret)))
def F50 : AFunc := ⟨2, 23, [(.tmp 4), (.tmp 5), (.tmp 6)], B50⟩
/-- internal/strconv.Itoa -/
def B51 : ACode := (.seq (.region [⟨(some 2), (.mov (.c (.string ⟨#[]⟩))), none, []⟩] none)
  (.seq (.region [⟨(some 3), (.mov (.t 0)), none, []⟩,
    ⟨(some 4), (.call (.f 64) [(.t 3), (.c (.int .i64 10))]), none, []⟩,
    ⟨(some 2), (.mov (.t 4)), none, []⟩] none)
  .ret))
def F51 : AFunc := ⟨1, 5, [(.tmp 2)], B51⟩
/-- (*strings.Builder).copyCheck -/
def B52 : ACode := (.seq (.region [⟨(some 2), (.mov (.t 0)), none, []⟩,
    ⟨(some 3), (.nilCheck (.t 2)), none, []⟩,
    ⟨(some 4), (.fieldAddr 0 (.t 3)), none, []⟩,
    ⟨(some 5), (.load none (.t 4)), none, []⟩,
    ⟨(some 6), (.eqv false .ptr false (.t 5) (.c (.pointer none))), none, []⟩] none)
  (.cond (.t 6)
  (.region [⟨(some 7), (.mov (.t 0)), none, []⟩,
    ⟨(some 8), (.mov (.t 0)), none, []⟩,
    ⟨(some 9), (.toUnsafe (.t 8)), none, []⟩,
    ⟨(some 10), (.call (.f 65) [(.t 9)]), none, []⟩,
    ⟨(some 11), (.fromUnsafe 74 2 (.t 10)), none, []⟩,
    ⟨(some 12), (.nilCheck (.t 7)), none, []⟩,
    ⟨(some 13), (.fieldAddr 0 (.t 12)), none, []⟩,
    ⟨none, (.store 1 (.t 13) (.t 11)), none, []⟩] none)
  (.seq (.region [⟨(some 14), (.mov (.t 0)), none, []⟩,
    ⟨(some 15), (.nilCheck (.t 14)), none, []⟩,
    ⟨(some 16), (.fieldAddr 0 (.t 15)), none, []⟩,
    ⟨(some 17), (.load none (.t 16)), none, []⟩,
    ⟨(some 18), (.mov (.t 0)), none, []⟩,
    ⟨(some 19), (.eqv true .ptr false (.t 17) (.t 18)), none, []⟩] none)
  (.cond (.t 19)
  .fail
  .skip))))
def F52 : AFunc := ⟨1, 20, [], B52⟩
def R53_0 : ACode := .region [⟨(some 5), (.mov (.t 0)), none, []⟩,
    ⟨(some 6), (.nilCheck (.t 5)), none, [0]⟩,
    ⟨(some 7), (.fieldAddr 1 (.t 6)), none, [1]⟩,
    ⟨(some 8), (.load none (.t 7)), none, [2]⟩,
    ⟨(some 9), (.cap (.t 8)), none, [3]⟩,
    ⟨(some 10), (.bin .mul (.c (.int .i64 2)) (.t 9)), none, [4]⟩,
    ⟨(some 11), (.mov (.t 1)), none, []⟩,
    ⟨(some 12), (.bin .add (.t 10) (.t 11)), none, [5, 6]⟩,
    ⟨(some 13), (.call (.f 66) [(.t 12)]), none, [7]⟩,
    ⟨(some 14), (.mov (.t 0)), none, []⟩,
    ⟨(some 15), (.nilCheck (.t 14)), none, [9]⟩,
    ⟨(some 16), (.fieldAddr 1 (.t 15)), none, [10]⟩,
    ⟨(some 17), (.load none (.t 16)), none, [11]⟩,
    ⟨(some 18), (.lenSlice (.t 17)), none, [12]⟩,
    ⟨(some 19), (.slice 1 (.t 13) none (some (.t 18)) none), none, [8, 13]⟩,
    ⟨(some 4), (.mov (.t 19)), none, [14, 8, 0, 1, 2, 3, 4, 5, 6, 7, 8, 9, 10, 11, 12, 13, 14]⟩] (some [(0, 6), (1, 6), (2, 6), (3, 6), (4, 6), (5, 6), (0, 9), (1, 9), (2, 9), (3, 9), (4, 9), (5, 9), (6, 9), (7, 9), (8, 9), (0, 10), (1, 10), (2, 10), (3, 10), (4, 10), (5, 10), (6, 10), (7, 10), (8, 10), (0, 11), (1, 11), (2, 11), (3, 11), (4, 11), (5, 11), (6, 11), (7, 11), (8, 11), (0, 12), (1, 12), (2, 12), (3, 12), (4, 12), (5, 12), (6, 12), (7, 12), (8, 12), (0, 13), (1, 13), (2, 13), (3, 13), (4, 13), (5, 13), (6, 13), (7, 13), (8, 13)])
/-- (*strings.Builder).grow -/
def B53 : ACode := (.seq R53_0
  (.seq (.region [⟨(some 20), (.mov (.t 4)), none, []⟩,
    ⟨(some 21), (.mov (.t 0)), none, []⟩,
    ⟨(some 22), (.nilCheck (.t 21)), none, []⟩,
    ⟨(some 23), (.fieldAddr 1 (.t 22)), none, []⟩,
    ⟨(some 24), (.load none (.t 23)), none, []⟩,
    ⟨(some 25), (.copy 1 (.t 20) (.t 24)), none, []⟩] none)
  (.region [⟨(some 26), (.mov (.t 0)), none, []⟩,
    ⟨(some 27), (.mov (.t 4)), none, []⟩,
    ⟨(some 28), (.nilCheck (.t 26)), none, []⟩,
    ⟨(some 29), (.fieldAddr 1 (.t 28)), none, []⟩,
    ⟨none, (.store 1 (.t 29) (.t 27)), none, []⟩] none)))
def F53 : AFunc := ⟨2, 30, [], B53⟩
/-- unicode/utf8.DecodeRuneInString -/
def B54 : ACode := (.seq (.region [⟨(some 2), (.mov (.c (.int .i32 0))), none, []⟩,
    ⟨(some 3), (.mov (.c (.int .i64 0))), none, []⟩] none)
  (.seq (.seq (.region [⟨(some 4), (.mov (.t 0)), none, []⟩,
    ⟨(some 5), (.bin .neq (.t 4) (.c (.string ⟨#[]⟩))), none, []⟩,
    ⟨(some 6), (.mov (.t 5)), none, []⟩,
    ⟨(some 7), (.mov (.t 0)), (some (6, true)), []⟩,
    ⟨(some 8), (.indexStr (.t 7) (.c (.int .i64 0))), (some (6, true)), []⟩,
    ⟨(some 9), (.bin .lss (.t 8) (.c (.int .u8 128))), (some (6, true)), []⟩,
    ⟨(some 10), (.pick (.t 6) (.t 9) (.c (.bool false))), none, []⟩] none)
  (.cond (.t 10)
  (.seq (.region [⟨(some 11), (.mov (.t 0)), none, []⟩,
    ⟨(some 12), (.indexStr (.t 11) (.c (.int .i64 0))), none, []⟩,
    ⟨(some 13), (.conv .i32 (.t 12)), none, []⟩,
    ⟨(some 2), (.mov (.t 13)), none, []⟩,
    ⟨(some 3), (.mov (.c (.int .i64 1))), none, []⟩] none)
  .ret)
  (.region [⟨(some 15), (.mov (.t 0)), none, []⟩,
    ⟨(some 16), (.call (.f 67) [(.t 15)]), none, []⟩,
    ⟨(some 14), (.mov (.t 16)), none, []⟩,
    ⟨(some 17), (.extract (.t 14) 0), none, []⟩,
    ⟨(some 18), (.extract (.t 14) 1), none, []⟩,
    ⟨(some 2), (.mov (.t 17)), none, []⟩,
    ⟨(some 3), (.mov (.t 18)), none, []⟩] none)))
  .ret))
def F54 : AFunc := ⟨1, 19, [(.tmp 2), (.tmp 3)], B54⟩
/-- unicode/utf8.RuneLen -/
def B55 : ACode := (.seq (.region [⟨(some 2), (.mov (.c (.int .i64 0))), none, []⟩] none)
  (.seq (.block 0 (.seq (.region [⟨(some 4), (.mov (.t 0)), none, []⟩,
    ⟨(some 5), (.bin .lss (.t 4) (.c (.int .i32 0))), none, []⟩,
    ⟨(some 3), (.mov (.t 5)), none, []⟩] none)
  (.cond (.t 3)
  (.seq (.region [⟨(some 2), (.mov (.c (.int .i64 (-1)))), none, []⟩] none)
  .ret)
  (.seq (.region [⟨(some 7), (.mov (.t 0)), none, []⟩,
    ⟨(some 8), (.bin .leq (.t 7) (.c (.int .i32 127))), none, []⟩,
    ⟨(some 6), (.mov (.t 8)), none, []⟩] none)
  (.cond (.t 6)
  (.seq (.region [⟨(some 2), (.mov (.c (.int .i64 1))), none, []⟩] none)
  .ret)
  (.seq (.region [⟨(some 10), (.mov (.t 0)), none, []⟩,
    ⟨(some 11), (.bin .leq (.t 10) (.c (.int .i32 2047))), none, []⟩,
    ⟨(some 9), (.mov (.t 11)), none, []⟩] none)
  (.cond (.t 9)
  (.seq (.region [⟨(some 2), (.mov (.c (.int .i64 2))), none, []⟩] none)
  .ret)
  (.seq (.region [⟨(some 13), (.mov (.t 0)), none, []⟩,
    ⟨(some 14), (.bin .leq (.c (.int .i32 55296)) (.t 13)), none, []⟩,
    ⟨(some 15), (.mov (.t 14)), none, []⟩,
    ⟨(some 16), (.mov (.t 0)), (some (15, true)), []⟩,
    ⟨(some 17), (.bin .leq (.t 16) (.c (.int .i32 57343))), (some (15, true)), []⟩,
    ⟨(some 18), (.pick (.t 15) (.t 17) (.c (.bool false))), none, []⟩,
    ⟨(some 12), (.mov (.t 18)), none, []⟩] none)
  (.cond (.t 12)
  (.seq (.region [⟨(some 2), (.mov (.c (.int .i64 (-1)))), none, []⟩] none)
  .ret)
  (.seq (.region [⟨(some 20), (.mov (.t 0)), none, []⟩,
    ⟨(some 21), (.bin .leq (.t 20) (.c (.int .i32 65535))), none, []⟩,
    ⟨(some 19), (.mov (.t 21)), none, []⟩] none)
  (.cond (.t 19)
  (.seq (.region [⟨(some 2), (.mov (.c (.int .i64 3))), none, []⟩] none)
  .ret)
  (.seq (.region [⟨(some 23), (.mov (.t 0)), none, []⟩,
    ⟨(some 24), (.bin .leq (.t 23) (.c (.int .i32 1114111))), none, []⟩,
    ⟨(some 22), (.mov (.t 24)), none, []⟩] none)
  (.cond (.t 22)
  (.seq (.region [⟨(some 2), (.mov (.c (.int .i64 4))), none, []⟩] none)
  .ret)
  .skip)))))))))))))
  (.seq (.region [⟨(some 2), (.mov (.c (.int .i64 (-1)))), none, []⟩] none)
  .ret)))
def F55 : AFunc := ⟨1, 25, [(.tmp 2)], B55⟩
/-- (*strings.Builder).WriteRune -/
def B56 : ACode := (.seq (.region [⟨(some 4), (.mov (.c (.int .i64 0))), none, []⟩,
    ⟨(some 5), (.mov (.c .nilIface)), none, []⟩] none)
  (.seq (.region [⟨(some 7), (.mov (.t 0)), none, []⟩,
    ⟨(some 8), (.call (.f 52) [(.t 7)]), none, []⟩] none)
  (.seq (.region [⟨(some 9), (.mov (.t 0)), none, []⟩,
    ⟨(some 10), (.nilCheck (.t 9)), none, []⟩,
    ⟨(some 11), (.fieldAddr 1 (.t 10)), none, []⟩,
    ⟨(some 12), (.load none (.t 11)), none, []⟩,
    ⟨(some 13), (.lenSlice (.t 12)), none, []⟩,
    ⟨(some 6), (.mov (.t 13)), none, []⟩] none)
  (.seq (.region [⟨(some 14), (.mov (.t 0)), none, []⟩,
    ⟨(some 15), (.mov (.t 0)), none, []⟩,
    ⟨(some 16), (.nilCheck (.t 15)), none, []⟩,
    ⟨(some 17), (.fieldAddr 1 (.t 16)), none, []⟩,
    ⟨(some 18), (.load none (.t 17)), none, []⟩,
    ⟨(some 19), (.mov (.t 1)), none, []⟩,
    ⟨(some 20), (.call (.f 68) [(.t 18), (.t 19)]), none, []⟩,
    ⟨(some 21), (.nilCheck (.t 14)), none, []⟩,
    ⟨(some 22), (.fieldAddr 1 (.t 21)), none, []⟩,
    ⟨none, (.store 1 (.t 22) (.t 20)), none, []⟩] none)
  (.seq (.region [⟨(some 23), (.mov (.t 0)), none, []⟩,
    ⟨(some 24), (.nilCheck (.t 23)), none, []⟩,
    ⟨(some 25), (.fieldAddr 1 (.t 24)), none, []⟩,
    ⟨(some 26), (.load none (.t 25)), none, []⟩,
    ⟨(some 27), (.lenSlice (.t 26)), none, []⟩,
    ⟨(some 28), (.mov (.t 6)), none, []⟩,
    ⟨(some 29), (.bin .sub (.t 27) (.t 28)), none, []⟩,
    ⟨(some 4), (.mov (.t 29)), none, []⟩,
    ⟨(some 5), (.mov (.c .nilIface)), none, []⟩] none)
  .ret)))))
def F56 : AFunc := ⟨2, 30, [(.tmp 4), (.tmp 5)], B56⟩
/-- (*strings.Builder).Cap -/
def B57 : ACode := (.seq (.region [⟨(some 2), (.mov (.c (.int .i64 0))), none, []⟩] none)
  (.seq (.region [⟨(some 3), (.mov (.t 0)), none, []⟩,
    ⟨(some 4), (.nilCheck (.t 3)), none, []⟩,
    ⟨(some 5), (.fieldAddr 1 (.t 4)), none, []⟩,
    ⟨(some 6), (.load none (.t 5)), none, []⟩,
    ⟨(some 7), (.cap (.t 6)), none, []⟩,
    ⟨(some 2), (.mov (.t 7)), none, []⟩] none)
  .ret))
def F57 : AFunc := ⟨1, 8, [(.tmp 2)], B57⟩
/-- unicode.To -/
def B58 : ACode := (.seq (.region [⟨(some 4), (.mov (.c (.int .i32 0))), none, []⟩] none)
  (.seq (.region [⟨(some 6), (.mov (.t 0)), none, []⟩,
    ⟨(some 7), (.mov (.t 1)), none, []⟩,
    ⟨(some 8), (.load none (.g 0)), none, []⟩,
    ⟨(some 9), (.call (.f 69) [(.t 6), (.t 7), (.t 8)]), none, []⟩,
    ⟨(some 5), (.mov (.t 9)), none, []⟩,
    ⟨(some 10), (.extract (.t 5) 0), none, []⟩,
    ⟨(some 11), (.extract (.t 5) 1), none, []⟩,
    ⟨(some 1), (.mov (.t 10)), none, []⟩] none)
  (.seq (.region [⟨(some 12), (.mov (.t 1)), none, []⟩,
    ⟨(some 4), (.mov (.t 12)), none, []⟩] none)
  .ret)))
def F58 : AFunc := ⟨2, 13, [(.tmp 4)], B58⟩
/-- strings.explode -/
def F59L0 : ACode := (.seq (.seq (.region [⟨(some 22), (.mov (.t 7)), none, []⟩,
    ⟨(some 23), (.mov (.t 1)), none, []⟩,
    ⟨(some 24), (.bin .sub (.t 23) (.c (.int .i64 1))), none, []⟩,
    ⟨(some 25), (.bin .lss (.t 22) (.t 24)), none, []⟩] none)
  (.cond (.t 25)
  .skip
  (.exit 0)))
  (.seq (.block 1 (.seq (.region [⟨(some 29), (.mov (.t 0)), none, []⟩,
    ⟨(some 30), (.call (.f 54) [(.t 29)]), none, []⟩,
    ⟨(some 28), (.mov (.t 30)), none, []⟩,
    ⟨(some 31), (.extract (.t 28) 0), none, []⟩,
    ⟨(some 32), (.extract (.t 28) 1), none, []⟩,
    ⟨(some 8), (.mov (.t 31)), none, []⟩,
    ⟨(some 9), (.mov (.t 32)), none, []⟩] none)
  (.seq (.region [⟨(some 33), (.mov (.t 6)), none, []⟩,
    ⟨(some 34), (.mov (.t 7)), none, []⟩,
    ⟨(some 35), (.mov (.t 0)), none, []⟩,
    ⟨(some 36), (.mov (.t 9)), none, []⟩,
    ⟨(some 37), (.sliceStr (.t 35) none (some (.t 36))), none, []⟩,
    ⟨(some 38), (.indexAddr 1 (.t 33) (.t 34)), none, []⟩,
    ⟨none, (.store 1 (.t 38) (.t 37)), none, []⟩] none)
  (.region [⟨(some 39), (.mov (.t 0)), none, []⟩,
    ⟨(some 40), (.mov (.t 9)), none, []⟩,
    ⟨(some 41), (.sliceStr (.t 39) (some (.t 40)) none), none, []⟩,
    ⟨(some 0), (.mov (.t 41)), none, []⟩] none))))
  (.region [⟨(some 26), (.mov (.t 7)), none, []⟩,
    ⟨(some 27), (.bin .add (.t 26) (.c (.int .i64 1))), none, []⟩,
    ⟨(some 7), (.mov (.t 27)), none, []⟩] none)))
def B59 : ACode := (.seq (.region [⟨(some 4), (.mov (.c (.slice none 0 0))), none, []⟩] none)
  (.seq (.region [⟨(some 10), (.mov (.t 0)), none, []⟩,
    ⟨(some 11), (.call (.f 70) [(.t 10)]), none, []⟩,
    ⟨(some 5), (.mov (.t 11)), none, []⟩] none)
  (.seq (.seq (.region [⟨(some 12), (.mov (.t 1)), none, []⟩,
    ⟨(some 13), (.bin .lss (.t 12) (.c (.int .i64 0))), none, []⟩,
    ⟨(some 14), (.mov (.t 13)), none, []⟩,
    ⟨(some 15), (.mov (.t 1)), (some (14, false)), []⟩,
    ⟨(some 16), (.mov (.t 5)), (some (14, false)), []⟩,
    ⟨(some 17), (.bin .gtr (.t 15) (.t 16)), (some (14, false)), []⟩,
    ⟨(some 18), (.pick (.t 14) (.c (.bool true)) (.t 17)), none, []⟩] none)
  (.cond (.t 18)
  (.region [⟨(some 19), (.mov (.t 5)), none, []⟩,
    ⟨(some 1), (.mov (.t 19)), none, []⟩] none)
  .skip))
  (.seq (.region [⟨(some 20), (.mov (.t 1)), none, []⟩,
    ⟨(some 21), (.makeSlice 9 1 16 [(.string ⟨#[]⟩)] (.t 20) (.t 20)), none, []⟩,
    ⟨(some 6), (.mov (.t 21)), none, []⟩] none)
  (.seq (.seq (.region [⟨(some 7), (.mov (.c (.int .i64 0))), none, []⟩] none)
  (.block 0 (.loop F59L0)))
  (.seq (.seq (.region [⟨(some 42), (.mov (.t 1)), none, []⟩,
    ⟨(some 43), (.bin .gtr (.t 42) (.c (.int .i64 0))), none, []⟩] none)
  (.cond (.t 43)
  (.region [⟨(some 44), (.mov (.t 6)), none, []⟩,
    ⟨(some 45), (.mov (.t 1)), none, []⟩,
    ⟨(some 46), (.bin .sub (.t 45) (.c (.int .i64 1))), none, []⟩,
    ⟨(some 47), (.mov (.t 0)), none, []⟩,
    ⟨(some 48), (.indexAddr 1 (.t 44) (.t 46)), none, []⟩,
    ⟨none, (.store 1 (.t 48) (.t 47)), none, []⟩] none)
  .skip))
  (.seq (.region [⟨(some 49), (.mov (.t 6)), none, []⟩,
    ⟨(some 4), (.mov (.t 49)), none, []⟩] none)
  .ret)))))))
def F59 : AFunc := ⟨2, 50, [(.tmp 4)], B59⟩
-- F59L0 live: [0, 1, 6, 7]
/-- strings.Count -/
def F60L0 : ACode := (.block 1 (.seq (.region [⟨(some 20), (.mov (.t 0)), none, []⟩,
    ⟨(some 21), (.mov (.t 1)), none, []⟩,
    ⟨(some 22), (.call (.f 61) [(.t 20), (.t 21)]), none, []⟩,
    ⟨(some 6), (.mov (.t 22)), none, []⟩] none)
  (.seq (.seq (.region [⟨(some 23), (.mov (.t 6)), none, []⟩,
    ⟨(some 24), (.bin .eql (.t 23) (.c (.int .i64 (-1)))), none, []⟩] none)
  (.cond (.t 24)
  (.seq (.region [⟨(some 25), (.mov (.t 5)), none, []⟩,
    ⟨(some 4), (.mov (.t 25)), none, []⟩] none)
  .ret)
  .skip))
  (.seq (.region [⟨(some 26), (.mov (.t 5)), none, []⟩,
    ⟨(some 27), (.bin .add (.t 26) (.c (.int .i64 1))), none, []⟩,
    ⟨(some 5), (.mov (.t 27)), none, []⟩] none)
  (.region [⟨(some 28), (.mov (.t 0)), none, []⟩,
    ⟨(some 29), (.mov (.t 6)), none, []⟩,
    ⟨(some 30), (.mov (.t 1)), none, []⟩,
    ⟨(some 31), (.lenStr (.t 30)), none, []⟩,
    ⟨(some 32), (.bin .add (.t 29) (.t 31)), none, []⟩,
    ⟨(some 33), (.sliceStr (.t 28) (some (.t 32)) none), none, []⟩,
    ⟨(some 0), (.mov (.t 33)), none, []⟩] none)))))
def B60 : ACode := (.seq (.region [⟨(some 4), (.mov (.c (.int .i64 0))), none, []⟩] none)
  (.seq (.seq (.region [⟨(some 7), (.mov (.t 1)), none, []⟩,
    ⟨(some 8), (.lenStr (.t 7)), none, []⟩,
    ⟨(some 9), (.bin .eql (.t 8) (.c (.int .i64 0))), none, []⟩] none)
  (.cond (.t 9)
  (.seq (.region [⟨(some 10), (.mov (.t 0)), none, []⟩,
    ⟨(some 11), (.call (.f 70) [(.t 10)]), none, []⟩,
    ⟨(some 12), (.bin .add (.t 11) (.c (.int .i64 1))), none, []⟩,
    ⟨(some 4), (.mov (.t 12)), none, []⟩] none)
  .ret)
  .skip))
  (.seq (.seq (.region [⟨(some 13), (.mov (.t 1)), none, []⟩,
    ⟨(some 14), (.lenStr (.t 13)), none, []⟩,
    ⟨(some 15), (.bin .eql (.t 14) (.c (.int .i64 1))), none, []⟩] none)
  (.cond (.t 15)
  (.seq (.region [⟨(some 16), (.mov (.t 0)), none, []⟩,
    ⟨(some 17), (.mov (.t 1)), none, []⟩,
    ⟨(some 18), (.indexStr (.t 17) (.c (.int .i64 0))), none, []⟩,
    ⟨(some 19), (.call (.f 71) [(.t 16), (.t 18)]), none, []⟩,
    ⟨(some 4), (.mov (.t 19)), none, []⟩] none)
  .ret)
  .skip))
  (.seq (.region [⟨(some 5), (.mov (.c (.int .i64 0))), none, []⟩] none)
  (.block 0 (.loop F60L0))))))
def F60 : AFunc := ⟨2, 34, [(.tmp 4)], B60⟩
-- F60L0 live: [0, 1, 5]
/-- strings.Index -/
def B61 : ACode := (.seq (.region [⟨(some 4), (.mov (.c (.int .i64 0))), none, []⟩] none)
  (.seq (.region [⟨(some 5), (.mov (.t 0)), none, []⟩,
    ⟨(some 6), (.mov (.t 1)), none, []⟩,
    ⟨(some 7), (.call (.f 63) [(.t 5), (.t 6)]), none, []⟩,
    ⟨(some 4), (.mov (.t 7)), none, []⟩] none)
  .ret))
def F61 : AFunc := ⟨2, 8, [(.tmp 4)], B61⟩
/-- internal/stringslite.IndexByte -/
def B62 : ACode := (.seq (.region [⟨(some 4), (.mov (.c (.int .i64 0))), none, []⟩] none)
  (.seq (.region [⟨(some 5), (.mov (.t 0)), none, []⟩,
    ⟨(some 6), (.mov (.t 1)), none, []⟩,
    ⟨(some 7), (.call (.f 72) [(.t 5), (.t 6)]), none, []⟩,
    ⟨(some 4), (.mov (.t 7)), none, []⟩] none)
  .ret))
def F62 : AFunc := ⟨2, 8, [(.tmp 4)], B62⟩
/-- internal/stringslite.Index -/
def F63L0 : ACode := (.seq (.seq (.region [⟨(some 57), (.mov (.t 8)), none, []⟩,
    ⟨(some 58), (.mov (.t 9)), none, []⟩,
    ⟨(some 59), (.bin .lss (.t 57) (.t 58)), none, []⟩] none)
  (.cond (.t 59)
  .skip
  (.exit 1)))
  (.block 2 (.seq (.seq (.region [⟨(some 60), (.mov (.t 0)), none, []⟩,
    ⟨(some 61), (.mov (.t 8)), none, []⟩,
    ⟨(some 62), (.indexStr (.t 60) (.t 61)), none, []⟩,
    ⟨(some 63), (.mov (.t 6)), none, []⟩,
    ⟨(some 64), (.bin .neq (.t 62) (.t 63)), none, []⟩] none)
  (.cond (.t 64)
  (.seq (.region [⟨(some 65), (.mov (.t 0)), none, []⟩,
    ⟨(some 66), (.mov (.t 8)), none, []⟩,
    ⟨(some 67), (.bin .add (.t 66) (.c (.int .i64 1))), none, []⟩,
    ⟨(some 68), (.mov (.t 9)), none, []⟩,
    ⟨(some 69), (.sliceStr (.t 65) (some (.t 67)) (some (.t 68))), none, []⟩,
    ⟨(some 70), (.mov (.t 6)), none, []⟩,
    ⟨(some 71), (.call (.f 62) [(.t 69), (.t 70)]), none, []⟩,
    ⟨(some 11), (.mov (.t 71)), none, []⟩] none)
  (.seq (.seq (.region [⟨(some 72), (.mov (.t 11)), none, []⟩,
    ⟨(some 73), (.bin .lss (.t 72) (.c (.int .i64 0))), none, []⟩] none)
  (.cond (.t 73)
  (.seq (.region [⟨(some 4), (.mov (.c (.int .i64 (-1)))), none, []⟩] none)
  .ret)
  .skip))
  (.region [⟨(some 74), (.mov (.t 8)), none, []⟩,
    ⟨(some 75), (.mov (.t 11)), none, []⟩,
    ⟨(some 76), (.bin .add (.t 75) (.c (.int .i64 1))), none, []⟩,
    ⟨(some 77), (.bin .add (.t 74) (.t 76)), none, []⟩,
    ⟨(some 8), (.mov (.t 77)), none, []⟩] none)))
  .skip))
  (.seq (.seq (.region [⟨(some 78), (.mov (.t 0)), none, []⟩,
    ⟨(some 79), (.mov (.t 8)), none, []⟩,
    ⟨(some 80), (.bin .add (.t 79) (.c (.int .i64 1))), none, []⟩,
    ⟨(some 81), (.indexStr (.t 78) (.t 80)), none, []⟩,
    ⟨(some 82), (.mov (.t 7)), none, []⟩,
    ⟨(some 83), (.bin .eql (.t 81) (.t 82)), none, []⟩,
    ⟨(some 84), (.mov (.t 83)), none, []⟩,
    ⟨(some 85), (.mov (.t 0)), (some (84, true)), []⟩,
    ⟨(some 86), (.mov (.t 8)), (some (84, true)), []⟩,
    ⟨(some 87), (.mov (.t 8)), (some (84, true)), []⟩,
    ⟨(some 88), (.mov (.t 5)), (some (84, true)), []⟩,
    ⟨(some 89), (.bin .add (.t 87) (.t 88)), (some (84, true)), []⟩,
    ⟨(some 90), (.sliceStr (.t 85) (some (.t 86)) (some (.t 89))), (some (84, true)), []⟩,
    ⟨(some 91), (.mov (.t 1)), (some (84, true)), []⟩,
    ⟨(some 92), (.bin .eql (.t 90) (.t 91)), (some (84, true)), []⟩,
    ⟨(some 93), (.pick (.t 84) (.t 92) (.c (.bool false))), none, []⟩] none)
  (.cond (.t 93)
  (.seq (.region [⟨(some 94), (.mov (.t 8)), none, []⟩,
    ⟨(some 4), (.mov (.t 94)), none, []⟩] none)
  .ret)
  .skip))
  (.seq (.region [⟨(some 95), (.mov (.t 8)), none, []⟩,
    ⟨(some 96), (.bin .add (.t 95) (.c (.int .i64 1))), none, []⟩,
    ⟨(some 8), (.mov (.t 96)), none, []⟩] none)
  (.seq (.region [⟨(some 97), (.mov (.t 10)), none, []⟩,
    ⟨(some 98), (.bin .add (.t 97) (.c (.int .i64 1))), none, []⟩,
    ⟨(some 10), (.mov (.t 98)), none, []⟩] none)
  (.seq (.region [⟨(some 99), (.mov (.t 5)), none, []⟩,
    ⟨(some 100), (.load none (.g 1)), none, []⟩,
    ⟨(some 101), (.bin .leq (.t 99) (.t 100)), none, []⟩,
    ⟨(some 102), (.mov (.t 101)), none, []⟩,
    ⟨(some 103), (.mov (.t 10)), (some (102, true)), []⟩,
    ⟨(some 104), (.mov (.t 8)), (some (102, true)), []⟩,
    ⟨(some 105), (.call (.f 74) [(.t 104)]), (some (102, true)), []⟩,
    ⟨(some 106), (.bin .gtr (.t 103) (.t 105)), (some (102, true)), []⟩,
    ⟨(some 107), (.pick (.t 102) (.t 106) (.c (.bool false))), none, []⟩] none)
  (.cond (.t 107)
  (.seq (.region [⟨(some 108), (.mov (.t 0)), none, []⟩,
    ⟨(some 109), (.mov (.t 8)), none, []⟩,
    ⟨(some 110), (.sliceStr (.t 108) (some (.t 109)) none), none, []⟩,
    ⟨(some 111), (.mov (.t 1)), none, []⟩,
    ⟨(some 112), (.call (.f 73) [(.t 110), (.t 111)]), none, []⟩,
    ⟨(some 12), (.mov (.t 112)), none, []⟩] none)
  (.seq (.seq (.region [⟨(some 113), (.mov (.t 12)), none, []⟩,
    ⟨(some 114), (.bin .geq (.t 113) (.c (.int .i64 0))), none, []⟩] none)
  (.cond (.t 114)
  (.seq (.region [⟨(some 115), (.mov (.t 12)), none, []⟩,
    ⟨(some 116), (.mov (.t 8)), none, []⟩,
    ⟨(some 117), (.bin .add (.t 115) (.t 116)), none, []⟩,
    ⟨(some 4), (.mov (.t 117)), none, []⟩] none)
  .ret)
  .skip))
  (.seq (.region [⟨(some 4), (.mov (.c (.int .i64 (-1)))), none, []⟩] none)
  .ret)))
  (.seq (.region [⟨(some 118), (.mov (.t 5)), none, []⟩,
    ⟨(some 119), (.load none (.g 1)), none, []⟩,
    ⟨(some 120), (.bin .gtr (.t 118) (.t 119)), none, []⟩,
    ⟨(some 121), (.mov (.t 120)), none, []⟩,
    ⟨(some 122), (.mov (.t 10)), (some (121, true)), []⟩,
    ⟨(some 123), (.mov (.t 8)), (some (121, true)), []⟩,
    ⟨(some 124), (.bin .shr (.t 123) (.c (.int .u64 4))), (some (121, true)), []⟩,
    ⟨(some 125), (.bin .add (.c (.int .i64 4)) (.t 124)), (some (121, true)), []⟩,
    ⟨(some 126), (.bin .geq (.t 122) (.t 125)), (some (121, true)), []⟩,
    ⟨(some 127), (.pick (.t 121) (.t 126) (.c (.bool false))), none, []⟩,
    ⟨(some 128), (.mov (.t 127)), none, []⟩,
    ⟨(some 129), (.mov (.t 8)), (some (128, true)), []⟩,
    ⟨(some 130), (.mov (.t 9)), (some (128, true)), []⟩,
    ⟨(some 131), (.bin .lss (.t 129) (.t 130)), (some (128, true)), []⟩,
    ⟨(some 132), (.pick (.t 128) (.t 131) (.c (.bool false))), none, []⟩] none)
  (.cond (.t 132)
  (.seq (.region [⟨(some 133), (.mov (.t 0)), none, []⟩,
    ⟨(some 134), (.mov (.t 8)), none, []⟩,
    ⟨(some 135), (.sliceStr (.t 133) (some (.t 134)) none), none, []⟩,
    ⟨(some 136), (.mov (.t 1)), none, []⟩,
    ⟨(some 137), (.call (.f 75) [(.t 135), (.t 136)]), none, []⟩,
    ⟨(some 13), (.mov (.t 137)), none, []⟩] none)
  (.seq (.seq (.region [⟨(some 138), (.mov (.t 13)), none, []⟩,
    ⟨(some 139), (.bin .lss (.t 138) (.c (.int .i64 0))), none, []⟩] none)
  (.cond (.t 139)
  (.seq (.region [⟨(some 4), (.mov (.c (.int .i64 (-1)))), none, []⟩] none)
  .ret)
  .skip))
  (.seq (.region [⟨(some 140), (.mov (.t 8)), none, []⟩,
    ⟨(some 141), (.mov (.t 13)), none, []⟩,
    ⟨(some 142), (.bin .add (.t 140) (.t 141)), none, []⟩,
    ⟨(some 4), (.mov (.t 142)), none, []⟩] none)
  .ret)))
  .skip))))))))))
def B63 : ACode := (.seq (.region [⟨(some 4), (.mov (.c (.int .i64 0))), none, []⟩] none)
  (.seq (.region [⟨(some 14), (.mov (.t 1)), none, []⟩,
    ⟨(some 15), (.lenStr (.t 14)), none, []⟩,
    ⟨(some 5), (.mov (.t 15)), none, []⟩] none)
  (.seq (.block 0 (.seq (.region [⟨(some 17), (.mov (.t 5)), none, []⟩,
    ⟨(some 18), (.bin .eql (.t 17) (.c (.int .i64 0))), none, []⟩,
    ⟨(some 19), (.mov (.t 18)), none, []⟩,
    ⟨(some 20), (.mov (.t 1)), (some (19, false)), []⟩,
    ⟨(some 21), (.mov (.t 0)), (some (19, false)), []⟩,
    ⟨(some 22), (.bin .eql (.t 20) (.t 21)), (some (19, false)), []⟩,
    ⟨(some 23), (.pick (.t 19) (.c (.bool true)) (.t 22)), none, []⟩,
    ⟨(some 16), (.mov (.t 23)), none, []⟩] none)
  (.cond (.t 16)
  (.seq (.region [⟨(some 4), (.mov (.c (.int .i64 0))), none, []⟩] none)
  .ret)
  (.seq (.region [⟨(some 25), (.mov (.t 5)), none, []⟩,
    ⟨(some 26), (.bin .eql (.t 25) (.c (.int .i64 1))), none, []⟩,
    ⟨(some 24), (.mov (.t 26)), none, []⟩] none)
  (.cond (.t 24)
  (.seq (.region [⟨(some 27), (.mov (.t 0)), none, []⟩,
    ⟨(some 28), (.mov (.t 1)), none, []⟩,
    ⟨(some 29), (.indexStr (.t 28) (.c (.int .i64 0))), none, []⟩,
    ⟨(some 30), (.call (.f 62) [(.t 27), (.t 29)]), none, []⟩,
    ⟨(some 4), (.mov (.t 30)), none, []⟩] none)
  .ret)
  (.seq (.region [⟨(some 32), (.mov (.t 5)), none, []⟩,
    ⟨(some 33), (.mov (.t 0)), none, []⟩,
    ⟨(some 34), (.lenStr (.t 33)), none, []⟩,
    ⟨(some 35), (.bin .geq (.t 32) (.t 34)), none, []⟩,
    ⟨(some 31), (.mov (.t 35)), none, []⟩] none)
  (.cond (.t 31)
  (.seq (.region [⟨(some 4), (.mov (.c (.int .i64 (-1)))), none, []⟩] none)
  .ret)
  (.seq (.region [⟨(some 37), (.mov (.t 5)), none, []⟩,
    ⟨(some 38), (.load none (.g 1)), none, []⟩,
    ⟨(some 39), (.bin .leq (.t 37) (.t 38)), none, []⟩,
    ⟨(some 40), (.mov (.t 39)), none, []⟩,
    ⟨(some 41), (.mov (.t 0)), (some (40, true)), []⟩,
    ⟨(some 42), (.lenStr (.t 41)), (some (40, true)), []⟩,
    ⟨(some 43), (.bin .leq (.t 42) (.c (.int .i64 64))), (some (40, true)), []⟩,
    ⟨(some 44), (.pick (.t 40) (.t 43) (.c (.bool false))), none, []⟩,
    ⟨(some 36), (.mov (.t 44)), none, []⟩] none)
  (.cond (.t 36)
  (.seq (.region [⟨(some 45), (.mov (.t 0)), none, []⟩,
    ⟨(some 46), (.mov (.t 1)), none, []⟩,
    ⟨(some 47), (.call (.f 73) [(.t 45), (.t 46)]), none, []⟩,
    ⟨(some 4), (.mov (.t 47)), none, []⟩] none)
  .ret)
  .skip)))))))))
  (.seq (.region [⟨(some 48), (.mov (.t 1)), none, []⟩,
    ⟨(some 49), (.indexStr (.t 48) (.c (.int .i64 0))), none, []⟩,
    ⟨(some 6), (.mov (.t 49)), none, []⟩] none)
  (.seq (.region [⟨(some 50), (.mov (.t 1)), none, []⟩,
    ⟨(some 51), (.indexStr (.t 50) (.c (.int .i64 1))), none, []⟩,
    ⟨(some 7), (.mov (.t 51)), none, []⟩] none)
  (.seq (.region [⟨(some 8), (.mov (.c (.int .i64 0))), none, []⟩] none)
  (.seq (.region [⟨(some 52), (.mov (.t 0)), none, []⟩,
    ⟨(some 53), (.lenStr (.t 52)), none, []⟩,
    ⟨(some 54), (.mov (.t 5)), none, []⟩,
    ⟨(some 55), (.bin .sub (.t 53) (.t 54)), none, []⟩,
    ⟨(some 56), (.bin .add (.t 55) (.c (.int .i64 1))), none, []⟩,
    ⟨(some 9), (.mov (.t 56)), none, []⟩] none)
  (.seq (.region [⟨(some 10), (.mov (.c (.int .i64 0))), none, []⟩] none)
  (.seq (.block 1 (.loop F63L0))
  (.seq (.region [⟨(some 4), (.mov (.c (.int .i64 (-1)))), none, []⟩] none)
  .ret))))))))))
def F63 : AFunc := ⟨2, 143, [(.tmp 4)], B63⟩
-- F63L0 live: [0, 1, 5, 6, 7, 8, 9, 10]
/-- internal/strconv.FormatInt -/
def B64 : ACode := (.seq (.region [⟨(some 4), (.mov (.c (.string ⟨#[]⟩))), none, []⟩] none)
  (.seq (.seq (.region [⟨(some 10), (.mov (.t 1)), none, []⟩,
    ⟨(some 11), (.bin .eql (.t 10) (.c (.int .i64 10))), none, []⟩] none)
  (.cond (.t 11)
  (.seq (.seq (.region [⟨(some 12), (.mov (.t 0)), none, []⟩,
    ⟨(some 13), (.bin .leq (.c (.int .i64 0)) (.t 12)), none, []⟩,
    ⟨(some 14), (.mov (.t 13)), none, []⟩,
    ⟨(some 15), (.mov (.t 0)), (some (14, true)), []⟩,
    ⟨(some 16), (.bin .lss (.t 15) (.c (.int .i64 100))), (some (14, true)), []⟩,
    ⟨(some 17), (.pick (.t 14) (.t 16) (.c (.bool false))), none, []⟩] none)
  (.cond (.t 17)
  (.seq (.region [⟨(some 18), (.mov (.t 0)), none, []⟩,
    ⟨(some 19), (.call (.f 76) [(.t 18)]), none, []⟩,
    ⟨(some 4), (.mov (.t 19)), none, []⟩] none)
  .ret)
  .skip))
  (.seq (.region [⟨(some 5), (.alloc 105 [(.int .u8 0), (.int .u8 0), (.int .u8 0), (.int .u8 0), (.int .u8 0), (.int .u8 0), (.int .u8 0), (.int .u8 0), (.int .u8 0), (.int .u8 0), (.int .u8 0), (.int .u8 0), (.int .u8 0), (.int .u8 0), (.int .u8 0), (.int .u8 0), (.int .u8 0), (.int .u8 0), (.int .u8 0), (.int .u8 0), (.int .u8 0), (.int .u8 0), (.int .u8 0), (.int .u8 0)]), none, []⟩] none)
  (.seq (.region [⟨(some 20), (.mov (.t 0)), none, []⟩,
    ⟨(some 21), (.conv .u64 (.t 20)), none, []⟩,
    ⟨(some 6), (.mov (.t 21)), none, []⟩] none)
  (.seq (.seq (.region [⟨(some 22), (.mov (.t 0)), none, []⟩,
    ⟨(some 23), (.bin .lss (.t 22) (.c (.int .i64 0))), none, []⟩] none)
  (.cond (.t 23)
  (.region [⟨(some 24), (.mov (.t 6)), none, []⟩,
    ⟨(some 25), (.un .neg (.t 24)), none, []⟩,
    ⟨(some 6), (.mov (.t 25)), none, []⟩] none)
  .skip))
  (.seq (.region [⟨(some 26), (.mov (.t 6)), none, []⟩,
    ⟨(some 27), (.call (.f 77) [(.t 26)]), none, []⟩,
    ⟨(some 7), (.mov (.t 27)), none, []⟩] none)
  (.seq (.region [⟨(some 28), (.mov (.t 7)), none, []⟩,
    ⟨(some 29), (.bin .add (.c (.int .i64 1)) (.t 28)), none, []⟩,
    ⟨(some 30), (.sliceArr 1 24 (.t 5) (some (.c (.int .i64 1))) (some (.t 29))), none, []⟩,
    ⟨(some 31), (.mov (.t 6)), none, []⟩,
    ⟨(some 32), (.call (.f 78) [(.t 30), (.t 31)]), none, []⟩] none)
  (.seq (.seq (.region [⟨(some 33), (.mov (.t 0)), none, []⟩,
    ⟨(some 34), (.bin .lss (.t 33) (.c (.int .i64 0))), none, []⟩] none)
  (.cond (.t 34)
  (.seq (.region [⟨(some 35), (.indexArr 1 24 (.t 5) (.c (.int .i64 0))), none, []⟩,
    ⟨none, (.store 1 (.t 35) (.c (.int .u8 45))), none, []⟩] none)
  (.seq (.region [⟨(some 36), (.mov (.t 7)), none, []⟩,
    ⟨(some 37), (.bin .add (.c (.int .i64 1)) (.t 36)), none, []⟩,
    ⟨(some 38), (.sliceArr 1 24 (.t 5) none (some (.t 37))), none, []⟩,
    ⟨(some 39), (.strOf (.t 38)), none, []⟩,
    ⟨(some 4), (.mov (.t 39)), none, []⟩] none)
  .ret))
  .skip))
  (.seq (.region [⟨(some 40), (.mov (.t 7)), none, []⟩,
    ⟨(some 41), (.bin .add (.c (.int .i64 1)) (.t 40)), none, []⟩,
    ⟨(some 42), (.sliceArr 1 24 (.t 5) (some (.c (.int .i64 1))) (some (.t 41))), none, []⟩,
    ⟨(some 43), (.strOf (.t 42)), none, []⟩,
    ⟨(some 4), (.mov (.t 43)), none, []⟩] none)
  .ret))))))))
  .skip))
  (.seq (.region [⟨(some 45), (.mov (.t 0)), none, []⟩,
    ⟨(some 46), (.conv .u64 (.t 45)), none, []⟩,
    ⟨(some 47), (.mov (.t 1)), none, []⟩,
    ⟨(some 48), (.mov (.t 0)), none, []⟩,
    ⟨(some 49), (.bin .lss (.t 48) (.c (.int .i64 0))), none, []⟩,
    ⟨(some 50), (.call (.f 79) [(.c (.slice none 0 0)), (.t 46), (.t 47), (.t 49), (.c (.bool false))]), none, []⟩,
    ⟨(some 44), (.mov (.t 50)), none, []⟩,
    ⟨(some 51), (.extract (.t 44) 0), none, []⟩,
    ⟨(some 52), (.extract (.t 44) 1), none, []⟩,
    ⟨(some 8), (.mov (.t 51)), none, []⟩,
    ⟨(some 9), (.mov (.t 52)), none, []⟩] none)
  (.seq (.region [⟨(some 53), (.mov (.t 9)), none, []⟩,
    ⟨(some 4), (.mov (.t 53)), none, []⟩] none)
  .ret))))
def F64 : AFunc := ⟨2, 54, [(.tmp 4)], B64⟩
/-- unicode/utf8.decodeRuneInStringSlow -/
def B67 : ACode := (.seq (.region [⟨(some 2), (.mov (.c (.int .i32 0))), none, []⟩,
    ⟨(some 3), (.mov (.c (.int .i64 0))), none, []⟩] none)
  (.seq (.region [⟨(some 13), (.mov (.t 0)), none, []⟩,
    ⟨(some 14), (.lenStr (.t 13)), none, []⟩,
    ⟨(some 4), (.mov (.t 14)), none, []⟩] none)
  (.seq (.seq (.region [⟨(some 15), (.mov (.t 4)), none, []⟩,
    ⟨(some 16), (.bin .lss (.t 15) (.c (.int .i64 1))), none, []⟩] none)
  (.cond (.t 16)
  (.seq (.region [⟨(some 2), (.mov (.c (.int .i32 65533))), none, []⟩,
    ⟨(some 3), (.mov (.c (.int .i64 0))), none, []⟩] none)
  .ret)
  .skip))
  (.seq (.region [⟨(some 17), (.mov (.t 0)), none, []⟩,
    ⟨(some 18), (.indexStr (.t 17) (.c (.int .i64 0))), none, []⟩,
    ⟨(some 5), (.mov (.t 18)), none, []⟩] none)
  (.seq (.region [⟨(some 19), (.mov (.t 5)), none, []⟩,
    ⟨(some 20), (.indexArr 1 256 (.g 2) (.t 19)), none, []⟩,
    ⟨(some 21), (.load none (.t 20)), none, []⟩,
    ⟨(some 6), (.mov (.t 21)), none, []⟩] none)
  (.seq (.seq (.region [⟨(some 22), (.mov (.t 6)), none, []⟩,
    ⟨(some 23), (.bin .geq (.t 22) (.c (.int .u8 240))), none, []⟩] none)
  (.cond (.t 23)
  (.seq (.region [⟨(some 24), (.mov (.t 6)), none, []⟩,
    ⟨(some 25), (.conv .i32 (.t 24)), none, []⟩,
    ⟨(some 26), (.bin .shl (.t 25) (.c (.int .u64 31))), none, []⟩,
    ⟨(some 27), (.bin .shr (.t 26) (.c (.int .u64 31))), none, []⟩,
    ⟨(some 7), (.mov (.t 27)), none, []⟩] none)
  (.seq (.region [⟨(some 28), (.mov (.t 0)), none, []⟩,
    ⟨(some 29), (.indexStr (.t 28) (.c (.int .i64 0))), none, []⟩,
    ⟨(some 30), (.conv .i32 (.t 29)), none, []⟩,
    ⟨(some 31), (.mov (.t 7)), none, []⟩,
    ⟨(some 32), (.bin .andNot (.t 30) (.t 31)), none, []⟩,
    ⟨(some 33), (.mov (.t 7)), none, []⟩,
    ⟨(some 34), (.bin .and (.c (.int .i32 65533)) (.t 33)), none, []⟩,
    ⟨(some 35), (.bin .or (.t 32) (.t 34)), none, []⟩,
    ⟨(some 2), (.mov (.t 35)), none, []⟩,
    ⟨(some 3), (.mov (.c (.int .i64 1))), none, []⟩] none)
  .ret))
  .skip))
  (.seq (.region [⟨(some 36), (.mov (.t 6)), none, []⟩,
    ⟨(some 37), (.bin .and (.t 36) (.c (.int .u8 7))), none, []⟩,
    ⟨(some 38), (.conv .i64 (.t 37)), none, []⟩,
    ⟨(some 8), (.mov (.t 38)), none, []⟩] none)
  (.seq (.region [⟨(some 39), (.mov (.t 6)), none, []⟩,
    ⟨(some 40), (.bin .shr (.t 39) (.c (.int .u64 4))), none, []⟩,
    ⟨(some 41), (.indexArr 2 16 (.g 3) (.t 40)), none, []⟩,
    ⟨(some 42), (.load (some 2) (.t 41)), none, []⟩,
    ⟨(some 9), (.alloc 112 [(.int .u8 0), (.int .u8 0)]), none, []⟩,
    ⟨none, (.store 2 (.t 9) (.t 42)), none, []⟩] none)
  (.seq (.seq (.region [⟨(some 43), (.mov (.t 4)), none, []⟩,
    ⟨(some 44), (.mov (.t 8)), none, []⟩,
    ⟨(some 45), (.bin .lss (.t 43) (.t 44)), none, []⟩] none)
  (.cond (.t 45)
  (.seq (.region [⟨(some 2), (.mov (.c (.int .i32 65533))), none, []⟩,
    ⟨(some 3), (.mov (.c (.int .i64 1))), none, []⟩] none)
  .ret)
  .skip))
  (.seq (.region [⟨(some 46), (.mov (.t 0)), none, []⟩,
    ⟨(some 47), (.indexStr (.t 46) (.c (.int .i64 1))), none, []⟩,
    ⟨(some 10), (.mov (.t 47)), none, []⟩] none)
  (.seq (.seq (.region [⟨(some 48), (.mov (.t 10)), none, []⟩,
    ⟨(some 49), (.fieldAddr 0 (.t 9)), none, []⟩,
    ⟨(some 50), (.load none (.t 49)), none, []⟩,
    ⟨(some 51), (.bin .lss (.t 48) (.t 50)), none, []⟩,
    ⟨(some 52), (.mov (.t 51)), none, []⟩,
    ⟨(some 53), (.fieldAddr 1 (.t 9)), (some (52, false)), []⟩,
    ⟨(some 54), (.load none (.t 53)), (some (52, false)), []⟩,
    ⟨(some 55), (.mov (.t 10)), (some (52, false)), []⟩,
    ⟨(some 56), (.bin .lss (.t 54) (.t 55)), (some (52, false)), []⟩,
    ⟨(some 57), (.pick (.t 52) (.c (.bool true)) (.t 56)), none, []⟩] none)
  (.cond (.t 57)
  (.seq (.region [⟨(some 2), (.mov (.c (.int .i32 65533))), none, []⟩,
    ⟨(some 3), (.mov (.c (.int .i64 1))), none, []⟩] none)
  .ret)
  .skip))
  (.seq (.seq (.region [⟨(some 58), (.mov (.t 8)), none, []⟩,
    ⟨(some 59), (.bin .leq (.t 58) (.c (.int .i64 2))), none, []⟩] none)
  (.cond (.t 59)
  (.seq (.region [⟨(some 60), (.mov (.t 5)), none, []⟩,
    ⟨(some 61), (.bin .and (.t 60) (.c (.int .u8 31))), none, []⟩,
    ⟨(some 62), (.conv .i32 (.t 61)), none, []⟩,
    ⟨(some 63), (.bin .shl (.t 62) (.c (.int .u64 6))), none, []⟩,
    ⟨(some 64), (.mov (.t 10)), none, []⟩,
    ⟨(some 65), (.bin .and (.t 64) (.c (.int .u8 63))), none, []⟩,
    ⟨(some 66), (.conv .i32 (.t 65)), none, []⟩,
    ⟨(some 67), (.bin .or (.t 63) (.t 66)), none, []⟩,
    ⟨(some 2), (.mov (.t 67)), none, []⟩,
    ⟨(some 3), (.mov (.c (.int .i64 2))), none, []⟩] none)
  .ret)
  .skip))
  (.seq (.region [⟨(some 68), (.mov (.t 0)), none, []⟩,
    ⟨(some 69), (.indexStr (.t 68) (.c (.int .i64 2))), none, []⟩,
    ⟨(some 11), (.mov (.t 69)), none, []⟩] none)
  (.seq (.seq (.region [⟨(some 70), (.mov (.t 11)), none, []⟩,
    ⟨(some 71), (.bin .lss (.t 70) (.c (.int .u8 128))), none, []⟩,
    ⟨(some 72), (.mov (.t 71)), none, []⟩,
    ⟨(some 73), (.mov (.t 11)), (some (72, false)), []⟩,
    ⟨(some 74), (.bin .lss (.c (.int .u8 191)) (.t 73)), (some (72, false)), []⟩,
    ⟨(some 75), (.pick (.t 72) (.c (.bool true)) (.t 74)), none, []⟩] none)
  (.cond (.t 75)
  (.seq (.region [⟨(some 2), (.mov (.c (.int .i32 65533))), none, []⟩,
    ⟨(some 3), (.mov (.c (.int .i64 1))), none, []⟩] none)
  .ret)
  .skip))
  (.seq (.seq (.region [⟨(some 76), (.mov (.t 8)), none, []⟩,
    ⟨(some 77), (.bin .leq (.t 76) (.c (.int .i64 3))), none, []⟩] none)
  (.cond (.t 77)
  (.seq (.region [⟨(some 78), (.mov (.t 5)), none, []⟩,
    ⟨(some 79), (.bin .and (.t 78) (.c (.int .u8 15))), none, []⟩,
    ⟨(some 80), (.conv .i32 (.t 79)), none, []⟩,
    ⟨(some 81), (.bin .shl (.t 80) (.c (.int .u64 12))), none, []⟩,
    ⟨(some 82), (.mov (.t 10)), none, []⟩,
    ⟨(some 83), (.bin .and (.t 82) (.c (.int .u8 63))), none, []⟩,
    ⟨(some 84), (.conv .i32 (.t 83)), none, []⟩,
    ⟨(some 85), (.bin .shl (.t 84) (.c (.int .u64 6))), none, []⟩,
    ⟨(some 86), (.bin .or (.t 81) (.t 85)), none, []⟩,
    ⟨(some 87), (.mov (.t 11)), none, []⟩,
    ⟨(some 88), (.bin .and (.t 87) (.c (.int .u8 63))), none, []⟩,
    ⟨(some 89), (.conv .i32 (.t 88)), none, []⟩,
    ⟨(some 90), (.bin .or (.t 86) (.t 89)), none, []⟩,
    ⟨(some 2), (.mov (.t 90)), none, []⟩,
    ⟨(some 3), (.mov (.c (.int .i64 3))), none, []⟩] none)
  .ret)
  .skip))
  (.seq (.region [⟨(some 91), (.mov (.t 0)), none, []⟩,
    ⟨(some 92), (.indexStr (.t 91) (.c (.int .i64 3))), none, []⟩,
    ⟨(some 12), (.mov (.t 92)), none, []⟩] none)
  (.seq (.seq (.region [⟨(some 93), (.mov (.t 12)), none, []⟩,
    ⟨(some 94), (.bin .lss (.t 93) (.c (.int .u8 128))), none, []⟩,
    ⟨(some 95), (.mov (.t 94)), none, []⟩,
    ⟨(some 96), (.mov (.t 12)), (some (95, false)), []⟩,
    ⟨(some 97), (.bin .lss (.c (.int .u8 191)) (.t 96)), (some (95, false)), []⟩,
    ⟨(some 98), (.pick (.t 95) (.c (.bool true)) (.t 97)), none, []⟩] none)
  (.cond (.t 98)
  (.seq (.region [⟨(some 2), (.mov (.c (.int .i32 65533))), none, []⟩,
    ⟨(some 3), (.mov (.c (.int .i64 1))), none, []⟩] none)
  .ret)
  .skip))
  (.seq (.region [⟨(some 99), (.mov (.t 5)), none, []⟩,
    ⟨(some 100), (.bin .and (.t 99) (.c (.int .u8 7))), none, []⟩,
    ⟨(some 101), (.conv .i32 (.t 100)), none, []⟩,
    ⟨(some 102), (.bin .shl (.t 101) (.c (.int .u64 18))), none, []⟩,
    ⟨(some 103), (.mov (.t 10)), none, []⟩,
    ⟨(some 104), (.bin .and (.t 103) (.c (.int .u8 63))), none, []⟩,
    ⟨(some 105), (.conv .i32 (.t 104)), none, []⟩,
    ⟨(some 106), (.bin .shl (.t 105) (.c (.int .u64 12))), none, []⟩,
    ⟨(some 107), (.bin .or (.t 102) (.t 106)), none, []⟩,
    ⟨(some 108), (.mov (.t 11)), none, []⟩,
    ⟨(some 109), (.bin .and (.t 108) (.c (.int .u8 63))), none, []⟩,
    ⟨(some 110), (.conv .i32 (.t 109)), none, []⟩,
    ⟨(some 111), (.bin .shl (.t 110) (.c (.int .u64 6))), none, []⟩,
    ⟨(some 112), (.bin .or (.t 107) (.t 111)), none, []⟩,
    ⟨(some 113), (.mov (.t 12)), none, []⟩,
    ⟨(some 114), (.bin .and (.t 113) (.c (.int .u8 63))), none, []⟩,
    ⟨(some 115), (.conv .i32 (.t 114)), none, []⟩,
    ⟨(some 116), (.bin .or (.t 112) (.t 115)), none, []⟩,
    ⟨(some 2), (.mov (.t 116)), none, []⟩,
    ⟨(some 3), (.mov (.c (.int .i64 4))), none, []⟩] none)
  .ret))))))))))))))))))
def F67 : AFunc := ⟨1, 117, [(.tmp 2), (.tmp 3)], B67⟩
/-- unicode/utf8.AppendRune -/
def B68 : ACode := (.seq (.region [⟨(some 4), (.mov (.c (.slice none 0 0))), none, []⟩] none)
  (.seq (.seq (.region [⟨(some 5), (.mov (.t 1)), none, []⟩,
    ⟨(some 6), (.conv .u32 (.t 5)), none, []⟩,
    ⟨(some 7), (.bin .leq (.t 6) (.c (.int .u32 127))), none, []⟩] none)
  (.cond (.t 7)
  (.seq (.region [⟨(some 8), (.mov (.t 0)), none, []⟩,
    ⟨(some 9), (.mov (.t 1)), none, []⟩,
    ⟨(some 10), (.conv .u8 (.t 9)), none, []⟩,
    ⟨(some 11), (.buildSlice 5 1 1 [(.int .u8 0)] [(0, 1, (.t 10))]), none, []⟩,
    ⟨(some 12), (.append 5 1 1 (.t 8) (.t 11)), none, []⟩,
    ⟨(some 4), (.mov (.t 12)), none, []⟩] none)
  .ret)
  .skip))
  (.seq (.region [⟨(some 13), (.mov (.t 0)), none, []⟩,
    ⟨(some 14), (.mov (.t 1)), none, []⟩,
    ⟨(some 15), (.call (.f 80) [(.t 13), (.t 14)]), none, []⟩,
    ⟨(some 4), (.mov (.t 15)), none, []⟩] none)
  .ret)))
def F68 : AFunc := ⟨2, 16, [(.tmp 4)], B68⟩
/-- unicode.to -/
def B69 : ACode := (.seq (.region [⟨(some 6), (.mov (.c (.int .i32 0))), none, []⟩,
    ⟨(some 7), (.mov (.c (.bool false))), none, []⟩] none)
  (.seq (.seq (.region [⟨(some 9), (.mov (.t 0)), none, []⟩,
    ⟨(some 10), (.bin .lss (.t 9) (.c (.int .i64 0))), none, []⟩,
    ⟨(some 11), (.mov (.t 10)), none, []⟩,
    ⟨(some 12), (.mov (.t 0)), (some (11, false)), []⟩,
    ⟨(some 13), (.bin .leq (.c (.int .i64 3)) (.t 12)), (some (11, false)), []⟩,
    ⟨(some 14), (.pick (.t 11) (.c (.bool true)) (.t 13)), none, []⟩] none)
  (.cond (.t 14)
  (.seq (.region [⟨(some 6), (.mov (.c (.int .i32 65533))), none, []⟩,
    ⟨(some 7), (.mov (.c (.bool false))), none, []⟩] none)
  .ret)
  .skip))
  (.seq (.seq (.region [⟨(some 15), (.mov (.t 1)), none, []⟩,
    ⟨(some 16), (.mov (.t 2)), none, []⟩,
    ⟨(some 17), (.call (.f 81) [(.t 15), (.t 16)]), none, []⟩,
    ⟨(some 8), (.mov (.t 17)), none, []⟩] none)
  (.seq (.region [⟨(some 18), (.mov (.t 8)), none, []⟩,
    ⟨(some 19), (.eqv true .ptr false (.t 18) (.c (.pointer none))), none, []⟩] none)
  (.cond (.t 19)
  (.seq (.region [⟨(some 20), (.mov (.t 0)), none, []⟩,
    ⟨(some 21), (.mov (.t 1)), none, []⟩,
    ⟨(some 22), (.mov (.t 8)), none, []⟩,
    ⟨(some 23), (.call (.f 82) [(.t 20), (.t 21), (.t 22)]), none, []⟩,
    ⟨(some 6), (.mov (.t 23)), none, []⟩,
    ⟨(some 7), (.mov (.c (.bool true))), none, []⟩] none)
  .ret)
  .skip)))
  (.seq (.region [⟨(some 24), (.mov (.t 1)), none, []⟩,
    ⟨(some 6), (.mov (.t 24)), none, []⟩,
    ⟨(some 7), (.mov (.c (.bool false))), none, []⟩] none)
  .ret))))
def F69 : AFunc := ⟨3, 25, [(.tmp 6), (.tmp 7)], B69⟩
/-- internal/bytealg.Cutover -/
def B74 : ACode := (.seq (.region [⟨(some 2), (.mov (.c (.int .i64 0))), none, []⟩] none)
  (.seq (.region [⟨(some 3), (.mov (.t 0)), none, []⟩,
    ⟨(some 4), (.bin .add (.t 3) (.c (.int .i64 16))), none, []⟩,
    ⟨(some 5), (.bin .quo (.t 4) (.c (.int .i64 8))), none, []⟩,
    ⟨(some 2), (.mov (.t 5)), none, []⟩] none)
  .ret))
def F74 : AFunc := ⟨1, 6, [(.tmp 2)], B74⟩
/-- internal/bytealg.IndexRabinKarp[string] -/
def F75L0 : ACode := (.seq (.seq (.region [⟨(some 18), (.mov (.t 9)), none, []⟩,
    ⟨(some 19), (.mov (.t 7)), none, []⟩,
    ⟨(some 20), (.bin .lss (.t 18) (.t 19)), none, []⟩] none)
  (.cond (.t 20)
  .skip
  (.exit 0)))
  (.seq (.block 1 (.region [⟨(some 23), (.mov (.t 8)), none, []⟩,
    ⟨(some 24), (.bin .mul (.t 23) (.c (.int .u32 16777619))), none, []⟩,
    ⟨(some 25), (.mov (.t 0)), none, []⟩,
    ⟨(some 26), (.mov (.t 9)), none, []⟩,
    ⟨(some 27), (.indexStr (.t 25) (.t 26)), none, []⟩,
    ⟨(some 28), (.conv .u32 (.t 27)), none, []⟩,
    ⟨(some 29), (.bin .add (.t 24) (.t 28)), none, []⟩,
    ⟨(some 8), (.mov (.t 29)), none, []⟩] none))
  (.region [⟨(some 21), (.mov (.t 9)), none, []⟩,
    ⟨(some 22), (.bin .add (.t 21) (.c (.int .i64 1))), none, []⟩,
    ⟨(some 9), (.mov (.t 22)), none, []⟩] none)))
def F75L1 : ACode := (.seq (.seq (.region [⟨(some 41), (.mov (.t 10)), none, []⟩,
    ⟨(some 42), (.mov (.t 0)), none, []⟩,
    ⟨(some 43), (.lenStr (.t 42)), none, []⟩,
    ⟨(some 44), (.bin .lss (.t 41) (.t 43)), none, []⟩] none)
  (.cond (.t 44)
  .skip
  (.exit 2)))
  (.block 3 (.seq (.region [⟨(some 45), (.mov (.t 8)), none, []⟩,
    ⟨(some 46), (.bin .mul (.t 45) (.c (.int .u32 16777619))), none, []⟩,
    ⟨(some 8), (.mov (.t 46)), none, []⟩] none)
  (.seq (.region [⟨(some 47), (.mov (.t 8)), none, []⟩,
    ⟨(some 48), (.mov (.t 0)), none, []⟩,
    ⟨(some 49), (.mov (.t 10)), none, []⟩,
    ⟨(some 50), (.indexStr (.t 48) (.t 49)), none, []⟩,
    ⟨(some 51), (.conv .u32 (.t 50)), none, []⟩,
    ⟨(some 52), (.bin .add (.t 47) (.t 51)), none, []⟩,
    ⟨(some 8), (.mov (.t 52)), none, []⟩] none)
  (.seq (.region [⟨(some 53), (.mov (.t 8)), none, []⟩,
    ⟨(some 54), (.mov (.t 6)), none, []⟩,
    ⟨(some 55), (.mov (.t 0)), none, []⟩,
    ⟨(some 56), (.mov (.t 10)), none, []⟩,
    ⟨(some 57), (.mov (.t 7)), none, []⟩,
    ⟨(some 58), (.bin .sub (.t 56) (.t 57)), none, []⟩,
    ⟨(some 59), (.indexStr (.t 55) (.t 58)), none, []⟩,
    ⟨(some 60), (.conv .u32 (.t 59)), none, []⟩,
    ⟨(some 61), (.bin .mul (.t 54) (.t 60)), none, []⟩,
    ⟨(some 62), (.bin .sub (.t 53) (.t 61)), none, []⟩,
    ⟨(some 8), (.mov (.t 62)), none, []⟩] none)
  (.seq (.region [⟨(some 63), (.mov (.t 10)), none, []⟩,
    ⟨(some 64), (.bin .add (.t 63) (.c (.int .i64 1))), none, []⟩,
    ⟨(some 10), (.mov (.t 64)), none, []⟩] none)
  (.seq (.region [⟨(some 65), (.mov (.t 8)), none, []⟩,
    ⟨(some 66), (.mov (.t 5)), none, []⟩,
    ⟨(some 67), (.bin .eql (.t 65) (.t 66)), none, []⟩,
    ⟨(some 68), (.mov (.t 67)), none, []⟩,
    ⟨(some 69), (.mov (.t 0)), (some (68, true)), []⟩,
    ⟨(some 70), (.mov (.t 10)), (some (68, true)), []⟩,
    ⟨(some 71), (.mov (.t 7)), (some (68, true)), []⟩,
    ⟨(some 72), (.bin .sub (.t 70) (.t 71)), (some (68, true)), []⟩,
    ⟨(some 73), (.mov (.t 10)), (some (68, true)), []⟩,
    ⟨(some 74), (.sliceStr (.t 69) (some (.t 72)) (some (.t 73))), (some (68, true)), []⟩,
    ⟨(some 75), (.mov (.t 1)), (some (68, true)), []⟩,
    ⟨(some 76), (.bin .eql (.t 74) (.t 75)), (some (68, true)), []⟩,
    ⟨(some 77), (.pick (.t 68) (.t 76) (.c (.bool false))), none, []⟩] none)
  (.cond (.t 77)
  (.seq (.region [⟨(some 78), (.mov (.t 10)), none, []⟩,
    ⟨(some 79), (.mov (.t 7)), none, []⟩,
    ⟨(some 80), (.bin .sub (.t 78) (.t 79)), none, []⟩,
    ⟨(some 4), (.mov (.t 80)), none, []⟩] none)
  .ret)
  .skip))))))))
def B75 : ACode := (.seq (.region [⟨(some 4), (.mov (.c (.int .i64 0))), none, []⟩] none)
  (.seq (.region [⟨(some 12), (.mov (.t 1)), none, []⟩,
    ⟨(some 13), (.call (.f 83) [(.t 12)]), none, []⟩,
    ⟨(some 11), (.mov (.t 13)), none, []⟩,
    ⟨(some 14), (.extract (.t 11) 0), none, []⟩,
    ⟨(some 15), (.extract (.t 11) 1), none, []⟩,
    ⟨(some 5), (.mov (.t 14)), none, []⟩,
    ⟨(some 6), (.mov (.t 15)), none, []⟩] none)
  (.seq (.region [⟨(some 16), (.mov (.t 1)), none, []⟩,
    ⟨(some 17), (.lenStr (.t 16)), none, []⟩,
    ⟨(some 7), (.mov (.t 17)), none, []⟩] none)
  (.seq (.region [⟨(some 8), (.mov (.c (.int .u32 0))), none, []⟩] none)
  (.seq (.seq (.region [⟨(some 9), (.mov (.c (.int .i64 0))), none, []⟩] none)
  (.block 0 (.loop F75L0)))
  (.seq (.seq (.region [⟨(some 30), (.mov (.t 8)), none, []⟩,
    ⟨(some 31), (.mov (.t 5)), none, []⟩,
    ⟨(some 32), (.bin .eql (.t 30) (.t 31)), none, []⟩,
    ⟨(some 33), (.mov (.t 32)), none, []⟩,
    ⟨(some 34), (.mov (.t 0)), (some (33, true)), []⟩,
    ⟨(some 35), (.mov (.t 7)), (some (33, true)), []⟩,
    ⟨(some 36), (.sliceStr (.t 34) none (some (.t 35))), (some (33, true)), []⟩,
    ⟨(some 37), (.mov (.t 1)), (some (33, true)), []⟩,
    ⟨(some 38), (.bin .eql (.t 36) (.t 37)), (some (33, true)), []⟩,
    ⟨(some 39), (.pick (.t 33) (.t 38) (.c (.bool false))), none, []⟩] none)
  (.cond (.t 39)
  (.seq (.region [⟨(some 4), (.mov (.c (.int .i64 0))), none, []⟩] none)
  .ret)
  .skip))
  (.seq (.seq (.region [⟨(some 40), (.mov (.t 7)), none, []⟩,
    ⟨(some 10), (.mov (.t 40)), none, []⟩] none)
  (.block 2 (.loop F75L1)))
  (.seq (.region [⟨(some 4), (.mov (.c (.int .i64 (-1)))), none, []⟩] none)
  .ret))))))))
def F75 : AFunc := ⟨2, 81, [(.tmp 4)], B75⟩
-- F75L0 live: [0, 1, 5, 6, 7, 8, 9]

-- F75L1 live: [0, 1, 5, 6, 7, 8, 10]
/-- internal/strconv.small -/
def B76 : ACode := (.seq (.region [⟨(some 2), (.mov (.c (.string ⟨#[]⟩))), none, []⟩] none)
  (.seq (.seq (.region [⟨(some 3), (.mov (.t 0)), none, []⟩,
    ⟨(some 4), (.bin .lss (.t 3) (.c (.int .i64 10))), none, []⟩] none)
  (.cond (.t 4)
  (.seq (.region [⟨(some 5), (.mov (.t 0)), none, []⟩,
    ⟨(some 6), (.mov (.t 0)), none, []⟩,
    ⟨(some 7), (.bin .add (.t 6) (.c (.int .i64 1))), none, []⟩,
    ⟨(some 8), (.sliceStr (.c (.string ⟨#[48, 49, 50, 51, 52, 53, 54, 55, 56, 57, 97, 98, 99, 100, 101, 102, 103, 104, 105, 106, 107, 108, 109, 110, 111, 112, 113, 114, 115, 116, 117, 118, 119, 120, 121, 122]⟩)) (some (.t 5)) (some (.t 7))), none, []⟩,
    ⟨(some 2), (.mov (.t 8)), none, []⟩] none)
  .ret)
  .skip))
  (.seq (.region [⟨(some 9), (.mov (.t 0)), none, []⟩,
    ⟨(some 10), (.bin .mul (.t 9) (.c (.int .i64 2))), none, []⟩,
    ⟨(some 11), (.mov (.t 0)), none, []⟩,
    ⟨(some 12), (.bin .mul (.t 11) (.c (.int .i64 2))), none, []⟩,
    ⟨(some 13), (.bin .add (.t 12) (.c (.int .i64 2))), none, []⟩,
    ⟨(some 14), (.sliceStr (.c (.string ⟨#[48, 48, 48, 49, 48, 50, 48, 51, 48, 52, 48, 53, 48, 54, 48, 55, 48, 56, 48, 57, 49, 48, 49, 49, 49, 50, 49, 51, 49, 52, 49, 53, 49, 54, 49, 55, 49, 56, 49, 57, 50, 48, 50, 49, 50, 50, 50, 51, 50, 52, 50, 53, 50, 54, 50, 55, 50, 56, 50, 57, 51, 48, 51, 49, 51, 50, 51, 51, 51, 52, 51, 53, 51, 54, 51, 55, 51, 56, 51, 57, 52, 48, 52, 49, 52, 50, 52, 51, 52, 52, 52, 53, 52, 54, 52, 55, 52, 56, 52, 57, 53, 48, 53, 49, 53, 50, 53, 51, 53, 52, 53, 53, 53, 54, 53, 55, 53, 56, 53, 57, 54, 48, 54, 49, 54, 50, 54, 51, 54, 52, 54, 53, 54, 54, 54, 55, 54, 56, 54, 57, 55, 48, 55, 49, 55, 50, 55, 51, 55, 52, 55, 53, 55, 54, 55, 55, 55, 56, 55, 57, 56, 48, 56, 49, 56, 50, 56, 51, 56, 52, 56, 53, 56, 54, 56, 55, 56, 56, 56, 57, 57, 48, 57, 49, 57, 50, 57, 51, 57, 52, 57, 53, 57, 54, 57, 55, 57, 56, 57, 57]⟩)) (some (.t 10)) (some (.t 13))), none, []⟩,
    ⟨(some 2), (.mov (.t 14)), none, []⟩] none)
  .ret)))
def F76 : AFunc := ⟨1, 15, [(.tmp 2)], B76⟩
/-- internal/strconv.numDigits -/
def B77 : ACode := (.seq (.region [⟨(some 2), (.mov (.c (.int .i64 0))), none, []⟩] none)
  (.seq (.region [⟨(some 4), (.mov (.t 0)), none, []⟩,
    ⟨(some 5), (.call (.f 85) [(.t 4)]), none, []⟩,
    ⟨(some 6), (.call (.f 84) [(.t 5)]), none, []⟩,
    ⟨(some 3), (.mov (.t 6)), none, []⟩] none)
  (.seq (.region [⟨(some 7), (.mov (.t 3)), none, []⟩,
    ⟨(some 8), (.mov (.t 0)), none, []⟩,
    ⟨(some 9), (.mov (.t 3)), none, []⟩,
    ⟨(some 10), (.indexArr 1 20 (.g 4) (.t 9)), none, []⟩,
    ⟨(some 11), (.load none (.t 10)), none, []⟩,
    ⟨(some 12), (.bin .geq (.t 8) (.t 11)), none, []⟩,
    ⟨(some 13), (.call (.f 86) [(.t 12)]), none, []⟩,
    ⟨(some 14), (.bin .add (.t 7) (.t 13)), none, []⟩,
    ⟨(some 2), (.mov (.t 14)), none, []⟩] none)
  .ret)))
def F77 : AFunc := ⟨1, 15, [(.tmp 2)], B77⟩
def R78_0 : ACode := .region [⟨(some 42), (.mov (.t 0)), none, []⟩,
    ⟨(some 43), (.mov (.t 4)), none, []⟩,
    ⟨(some 44), (.bin .sub (.t 43) (.c (.int .i64 1))), none, [1]⟩,
    ⟨(some 45), (.mov (.t 0)), none, []⟩,
    ⟨(some 46), (.mov (.t 4)), none, []⟩,
    ⟨(some 47), (.bin .sub (.t 46) (.c (.int .i64 2))), none, [4]⟩,
    ⟨(some 48), (.mov (.t 9)), none, []⟩,
    ⟨(some 49), (.bin .add (.t 48) (.c (.int .u32 1))), none, [6]⟩,
    ⟨(some 50), (.indexStr (.c (.string ⟨#[48, 48, 48, 49, 48, 50, 48, 51, 48, 52, 48, 53, 48, 54, 48, 55, 48, 56, 48, 57, 49, 48, 49, 49, 49, 50, 49, 51, 49, 52, 49, 53, 49, 54, 49, 55, 49, 56, 49, 57, 50, 48, 50, 49, 50, 50, 50, 51, 50, 52, 50, 53, 50, 54, 50, 55, 50, 56, 50, 57, 51, 48, 51, 49, 51, 50, 51, 51, 51, 52, 51, 53, 51, 54, 51, 55, 51, 56, 51, 57, 52, 48, 52, 49, 52, 50, 52, 51, 52, 52, 52, 53, 52, 54, 52, 55, 52, 56, 52, 57, 53, 48, 53, 49, 53, 50, 53, 51, 53, 52, 53, 53, 53, 54, 53, 55, 53, 56, 53, 57, 54, 48, 54, 49, 54, 50, 54, 51, 54, 52, 54, 53, 54, 54, 54, 55, 54, 56, 54, 57, 55, 48, 55, 49, 55, 50, 55, 51, 55, 52, 55, 53, 55, 54, 55, 55, 55, 56, 55, 57, 56, 48, 56, 49, 56, 50, 56, 51, 56, 52, 56, 53, 56, 54, 56, 55, 56, 56, 56, 57, 57, 48, 57, 49, 57, 50, 57, 51, 57, 52, 57, 53, 57, 54, 57, 55, 57, 56, 57, 57]⟩)) (.t 49)), none, [7]⟩,
    ⟨(some 51), (.mov (.t 9)), none, []⟩,
    ⟨(some 52), (.indexStr (.c (.string ⟨#[48, 48, 48, 49, 48, 50, 48, 51, 48, 52, 48, 53, 48, 54, 48, 55, 48, 56, 48, 57, 49, 48, 49, 49, 49, 50, 49, 51, 49, 52, 49, 53, 49, 54, 49, 55, 49, 56, 49, 57, 50, 48, 50, 49, 50, 50, 50, 51, 50, 52, 50, 53, 50, 54, 50, 55, 50, 56, 50, 57, 51, 48, 51, 49, 51, 50, 51, 51, 51, 52, 51, 53, 51, 54, 51, 55, 51, 56, 51, 57, 52, 48, 52, 49, 52, 50, 52, 51, 52, 52, 52, 53, 52, 54, 52, 55, 52, 56, 52, 57, 53, 48, 53, 49, 53, 50, 53, 51, 53, 52, 53, 53, 53, 54, 53, 55, 53, 56, 53, 57, 54, 48, 54, 49, 54, 50, 54, 51, 54, 52, 54, 53, 54, 54, 54, 55, 54, 56, 54, 57, 55, 48, 55, 49, 55, 50, 55, 51, 55, 52, 55, 53, 55, 54, 55, 55, 55, 56, 55, 57, 56, 48, 56, 49, 56, 50, 56, 51, 56, 52, 56, 53, 56, 54, 56, 55, 56, 56, 56, 57, 57, 48, 57, 49, 57, 50, 57, 51, 57, 52, 57, 53, 57, 54, 57, 55, 57, 56, 57, 57]⟩)) (.t 51)), none, [9]⟩,
    ⟨(some 53), (.indexAddr 1 (.t 42) (.t 44)), none, [0, 2, 0, 1, 2, 6, 7, 8]⟩,
    ⟨none, (.store 1 (.t 53) (.t 50)), none, [11, 8, 0, 1, 2, 6, 7, 8]⟩,
    ⟨(some 54), (.indexAddr 1 (.t 45) (.t 47)), none, [3, 5, 0, 1, 2, 3, 4, 5, 6, 7, 8, 9, 10, 11, 12]⟩,
    ⟨none, (.store 1 (.t 54) (.t 52)), none, [13, 10, 12, 0, 1, 2, 3, 4, 5, 6, 7, 8, 9, 10, 11, 12]⟩] (some [(0, 1), (0, 2), (0, 3), (1, 3), (2, 3), (0, 4), (1, 4), (2, 4), (3, 4), (0, 5), (1, 5), (2, 5), (3, 5), (0, 6), (1, 6), (2, 6), (3, 6), (4, 6), (5, 6), (0, 7), (1, 7), (2, 7), (3, 7), (4, 7), (5, 7), (0, 8), (1, 8), (2, 8), (3, 8), (4, 8), (5, 8), (0, 9), (1, 9), (2, 9), (3, 9), (4, 9), (5, 9), (6, 9), (7, 9), (8, 9), (0, 10), (1, 10), (2, 10), (3, 10), (4, 10), (5, 10), (6, 10), (7, 10), (8, 10), (3, 11), (4, 11), (5, 11), (9, 11), (10, 11), (3, 12), (4, 12), (5, 12), (9, 12), (10, 12)])
def R78_1 : ACode := .region [⟨(some 55), (.mov (.t 0)), none, []⟩,
    ⟨(some 56), (.mov (.t 4)), none, []⟩,
    ⟨(some 57), (.bin .sub (.t 56) (.c (.int .i64 3))), none, [1]⟩,
    ⟨(some 58), (.mov (.t 0)), none, []⟩,
    ⟨(some 59), (.mov (.t 4)), none, []⟩,
    ⟨(some 60), (.bin .sub (.t 59) (.c (.int .i64 4))), none, [4]⟩,
    ⟨(some 61), (.mov (.t 8)), none, []⟩,
    ⟨(some 62), (.bin .add (.t 61) (.c (.int .u32 1))), none, [6]⟩,
    ⟨(some 63), (.indexStr (.c (.string ⟨#[48, 48, 48, 49, 48, 50, 48, 51, 48, 52, 48, 53, 48, 54, 48, 55, 48, 56, 48, 57, 49, 48, 49, 49, 49, 50, 49, 51, 49, 52, 49, 53, 49, 54, 49, 55, 49, 56, 49, 57, 50, 48, 50, 49, 50, 50, 50, 51, 50, 52, 50, 53, 50, 54, 50, 55, 50, 56, 50, 57, 51, 48, 51, 49, 51, 50, 51, 51, 51, 52, 51, 53, 51, 54, 51, 55, 51, 56, 51, 57, 52, 48, 52, 49, 52, 50, 52, 51, 52, 52, 52, 53, 52, 54, 52, 55, 52, 56, 52, 57, 53, 48, 53, 49, 53, 50, 53, 51, 53, 52, 53, 53, 53, 54, 53, 55, 53, 56, 53, 57, 54, 48, 54, 49, 54, 50, 54, 51, 54, 52, 54, 53, 54, 54, 54, 55, 54, 56, 54, 57, 55, 48, 55, 49, 55, 50, 55, 51, 55, 52, 55, 53, 55, 54, 55, 55, 55, 56, 55, 57, 56, 48, 56, 49, 56, 50, 56, 51, 56, 52, 56, 53, 56, 54, 56, 55, 56, 56, 56, 57, 57, 48, 57, 49, 57, 50, 57, 51, 57, 52, 57, 53, 57, 54, 57, 55, 57, 56, 57, 57]⟩)) (.t 62)), none, [7]⟩,
    ⟨(some 64), (.mov (.t 8)), none, []⟩,
    ⟨(some 65), (.indexStr (.c (.string ⟨#[48, 48, 48, 49, 48, 50, 48, 51, 48, 52, 48, 53, 48, 54, 48, 55, 48, 56, 48, 57, 49, 48, 49, 49, 49, 50, 49, 51, 49, 52, 49, 53, 49, 54, 49, 55, 49, 56, 49, 57, 50, 48, 50, 49, 50, 50, 50, 51, 50, 52, 50, 53, 50, 54, 50, 55, 50, 56, 50, 57, 51, 48, 51, 49, 51, 50, 51, 51, 51, 52, 51, 53, 51, 54, 51, 55, 51, 56, 51, 57, 52, 48, 52, 49, 52, 50, 52, 51, 52, 52, 52, 53, 52, 54, 52, 55, 52, 56, 52, 57, 53, 48, 53, 49, 53, 50, 53, 51, 53, 52, 53, 53, 53, 54, 53, 55, 53, 56, 53, 57, 54, 48, 54, 49, 54, 50, 54, 51, 54, 52, 54, 53, 54, 54, 54, 55, 54, 56, 54, 57, 55, 48, 55, 49, 55, 50, 55, 51, 55, 52, 55, 53, 55, 54, 55, 55, 55, 56, 55, 57, 56, 48, 56, 49, 56, 50, 56, 51, 56, 52, 56, 53, 56, 54, 56, 55, 56, 56, 56, 57, 57, 48, 57, 49, 57, 50, 57, 51, 57, 52, 57, 53, 57, 54, 57, 55, 57, 56, 57, 57]⟩)) (.t 64)), none, [9]⟩,
    ⟨(some 66), (.indexAddr 1 (.t 55) (.t 57)), none, [0, 2, 0, 1, 2, 6, 7, 8]⟩,
    ⟨none, (.store 1 (.t 66) (.t 63)), none, [11, 8, 0, 1, 2, 6, 7, 8]⟩,
    ⟨(some 67), (.indexAddr 1 (.t 58) (.t 60)), none, [3, 5, 0, 1, 2, 3, 4, 5, 6, 7, 8, 9, 10, 11, 12]⟩,
    ⟨none, (.store 1 (.t 67) (.t 65)), none, [13, 10, 12, 0, 1, 2, 3, 4, 5, 6, 7, 8, 9, 10, 11, 12]⟩] (some [(0, 1), (0, 2), (0, 3), (1, 3), (2, 3), (0, 4), (1, 4), (2, 4), (3, 4), (0, 5), (1, 5), (2, 5), (3, 5), (0, 6), (1, 6), (2, 6), (3, 6), (4, 6), (5, 6), (0, 7), (1, 7), (2, 7), (3, 7), (4, 7), (5, 7), (0, 8), (1, 8), (2, 8), (3, 8), (4, 8), (5, 8), (0, 9), (1, 9), (2, 9), (3, 9), (4, 9), (5, 9), (6, 9), (7, 9), (8, 9), (0, 10), (1, 10), (2, 10), (3, 10), (4, 10), (5, 10), (6, 10), (7, 10), (8, 10), (3, 11), (4, 11), (5, 11), (9, 11), (10, 11), (3, 12), (4, 12), (5, 12), (9, 12), (10, 12)])
def R78_2 : ACode := .region [⟨(some 68), (.mov (.t 0)), none, []⟩,
    ⟨(some 69), (.mov (.t 4)), none, []⟩,
    ⟨(some 70), (.bin .sub (.t 69) (.c (.int .i64 5))), none, [1]⟩,
    ⟨(some 71), (.mov (.t 0)), none, []⟩,
    ⟨(some 72), (.mov (.t 4)), none, []⟩,
    ⟨(some 73), (.bin .sub (.t 72) (.c (.int .i64 6))), none, [4]⟩,
    ⟨(some 74), (.mov (.t 11)), none, []⟩,
    ⟨(some 75), (.bin .add (.t 74) (.c (.int .u32 1))), none, [6]⟩,
    ⟨(some 76), (.indexStr (.c (.string ⟨#[48, 48, 48, 49, 48, 50, 48, 51, 48, 52, 48, 53, 48, 54, 48, 55, 48, 56, 48, 57, 49, 48, 49, 49, 49, 50, 49, 51, 49, 52, 49, 53, 49, 54, 49, 55, 49, 56, 49, 57, 50, 48, 50, 49, 50, 50, 50, 51, 50, 52, 50, 53, 50, 54, 50, 55, 50, 56, 50, 57, 51, 48, 51, 49, 51, 50, 51, 51, 51, 52, 51, 53, 51, 54, 51, 55, 51, 56, 51, 57, 52, 48, 52, 49, 52, 50, 52, 51, 52, 52, 52, 53, 52, 54, 52, 55, 52, 56, 52, 57, 53, 48, 53, 49, 53, 50, 53, 51, 53, 52, 53, 53, 53, 54, 53, 55, 53, 56, 53, 57, 54, 48, 54, 49, 54, 50, 54, 51, 54, 52, 54, 53, 54, 54, 54, 55, 54, 56, 54, 57, 55, 48, 55, 49, 55, 50, 55, 51, 55, 52, 55, 53, 55, 54, 55, 55, 55, 56, 55, 57, 56, 48, 56, 49, 56, 50, 56, 51, 56, 52, 56, 53, 56, 54, 56, 55, 56, 56, 56, 57, 57, 48, 57, 49, 57, 50, 57, 51, 57, 52, 57, 53, 57, 54, 57, 55, 57, 56, 57, 57]⟩)) (.t 75)), none, [7]⟩,
    ⟨(some 77), (.mov (.t 11)), none, []⟩,
    ⟨(some 78), (.indexStr (.c (.string ⟨#[48, 48, 48, 49, 48, 50, 48, 51, 48, 52, 48, 53, 48, 54, 48, 55, 48, 56, 48, 57, 49, 48, 49, 49, 49, 50, 49, 51, 49, 52, 49, 53, 49, 54, 49, 55, 49, 56, 49, 57, 50, 48, 50, 49, 50, 50, 50, 51, 50, 52, 50, 53, 50, 54, 50, 55, 50, 56, 50, 57, 51, 48, 51, 49, 51, 50, 51, 51, 51, 52, 51, 53, 51, 54, 51, 55, 51, 56, 51, 57, 52, 48, 52, 49, 52, 50, 52, 51, 52, 52, 52, 53, 52, 54, 52, 55, 52, 56, 52, 57, 53, 48, 53, 49, 53, 50, 53, 51, 53, 52, 53, 53, 53, 54, 53, 55, 53, 56, 53, 57, 54, 48, 54, 49, 54, 50, 54, 51, 54, 52, 54, 53, 54, 54, 54, 55, 54, 56, 54, 57, 55, 48, 55, 49, 55, 50, 55, 51, 55, 52, 55, 53, 55, 54, 55, 55, 55, 56, 55, 57, 56, 48, 56, 49, 56, 50, 56, 51, 56, 52, 56, 53, 56, 54, 56, 55, 56, 56, 56, 57, 57, 48, 57, 49, 57, 50, 57, 51, 57, 52, 57, 53, 57, 54, 57, 55, 57, 56, 57, 57]⟩)) (.t 77)), none, [9]⟩,
    ⟨(some 79), (.indexAddr 1 (.t 68) (.t 70)), none, [0, 2, 0, 1, 2, 6, 7, 8]⟩,
    ⟨none, (.store 1 (.t 79) (.t 76)), none, [11, 8, 0, 1, 2, 6, 7, 8]⟩,
    ⟨(some 80), (.indexAddr 1 (.t 71) (.t 73)), none, [3, 5, 0, 1, 2, 3, 4, 5, 6, 7, 8, 9, 10, 11, 12]⟩,
    ⟨none, (.store 1 (.t 80) (.t 78)), none, [13, 10, 12, 0, 1, 2, 3, 4, 5, 6, 7, 8, 9, 10, 11, 12]⟩] (some [(0, 1), (0, 2), (0, 3), (1, 3), (2, 3), (0, 4), (1, 4), (2, 4), (3, 4), (0, 5), (1, 5), (2, 5), (3, 5), (0, 6), (1, 6), (2, 6), (3, 6), (4, 6), (5, 6), (0, 7), (1, 7), (2, 7), (3, 7), (4, 7), (5, 7), (0, 8), (1, 8), (2, 8), (3, 8), (4, 8), (5, 8), (0, 9), (1, 9), (2, 9), (3, 9), (4, 9), (5, 9), (6, 9), (7, 9), (8, 9), (0, 10), (1, 10), (2, 10), (3, 10), (4, 10), (5, 10), (6, 10), (7, 10), (8, 10), (3, 11), (4, 11), (5, 11), (9, 11), (10, 11), (3, 12), (4, 12), (5, 12), (9, 12), (10, 12)])
def R78_3 : ACode := .region [⟨(some 81), (.mov (.t 0)), none, []⟩,
    ⟨(some 82), (.mov (.t 4)), none, []⟩,
    ⟨(some 83), (.bin .sub (.t 82) (.c (.int .i64 7))), none, [1]⟩,
    ⟨(some 84), (.mov (.t 0)), none, []⟩,
    ⟨(some 85), (.mov (.t 4)), none, []⟩,
    ⟨(some 86), (.bin .sub (.t 85) (.c (.int .i64 8))), none, [4]⟩,
    ⟨(some 87), (.mov (.t 10)), none, []⟩,
    ⟨(some 88), (.bin .add (.t 87) (.c (.int .u32 1))), none, [6]⟩,
    ⟨(some 89), (.indexStr (.c (.string ⟨#[48, 48, 48, 49, 48, 50, 48, 51, 48, 52, 48, 53, 48, 54, 48, 55, 48, 56, 48, 57, 49, 48, 49, 49, 49, 50, 49, 51, 49, 52, 49, 53, 49, 54, 49, 55, 49, 56, 49, 57, 50, 48, 50, 49, 50, 50, 50, 51, 50, 52, 50, 53, 50, 54, 50, 55, 50, 56, 50, 57, 51, 48, 51, 49, 51, 50, 51, 51, 51, 52, 51, 53, 51, 54, 51, 55, 51, 56, 51, 57, 52, 48, 52, 49, 52, 50, 52, 51, 52, 52, 52, 53, 52, 54, 52, 55, 52, 56, 52, 57, 53, 48, 53, 49, 53, 50, 53, 51, 53, 52, 53, 53, 53, 54, 53, 55, 53, 56, 53, 57, 54, 48, 54, 49, 54, 50, 54, 51, 54, 52, 54, 53, 54, 54, 54, 55, 54, 56, 54, 57, 55, 48, 55, 49, 55, 50, 55, 51, 55, 52, 55, 53, 55, 54, 55, 55, 55, 56, 55, 57, 56, 48, 56, 49, 56, 50, 56, 51, 56, 52, 56, 53, 56, 54, 56, 55, 56, 56, 56, 57, 57, 48, 57, 49, 57, 50, 57, 51, 57, 52, 57, 53, 57, 54, 57, 55, 57, 56, 57, 57]⟩)) (.t 88)), none, [7]⟩,
    ⟨(some 90), (.mov (.t 10)), none, []⟩,
    ⟨(some 91), (.indexStr (.c (.string ⟨#[48, 48, 48, 49, 48, 50, 48, 51, 48, 52, 48, 53, 48, 54, 48, 55, 48, 56, 48, 57, 49, 48, 49, 49, 49, 50, 49, 51, 49, 52, 49, 53, 49, 54, 49, 55, 49, 56, 49, 57, 50, 48, 50, 49, 50, 50, 50, 51, 50, 52, 50, 53, 50, 54, 50, 55, 50, 56, 50, 57, 51, 48, 51, 49, 51, 50, 51, 51, 51, 52, 51, 53, 51, 54, 51, 55, 51, 56, 51, 57, 52, 48, 52, 49, 52, 50, 52, 51, 52, 52, 52, 53, 52, 54, 52, 55, 52, 56, 52, 57, 53, 48, 53, 49, 53, 50, 53, 51, 53, 52, 53, 53, 53, 54, 53, 55, 53, 56, 53, 57, 54, 48, 54, 49, 54, 50, 54, 51, 54, 52, 54, 53, 54, 54, 54, 55, 54, 56, 54, 57, 55, 48, 55, 49, 55, 50, 55, 51, 55, 52, 55, 53, 55, 54, 55, 55, 55, 56, 55, 57, 56, 48, 56, 49, 56, 50, 56, 51, 56, 52, 56, 53, 56, 54, 56, 55, 56, 56, 56, 57, 57, 48, 57, 49, 57, 50, 57, 51, 57, 52, 57, 53, 57, 54, 57, 55, 57, 56, 57, 57]⟩)) (.t 90)), none, [9]⟩,
    ⟨(some 92), (.indexAddr 1 (.t 81) (.t 83)), none, [0, 2, 0, 1, 2, 6, 7, 8]⟩,
    ⟨none, (.store 1 (.t 92) (.t 89)), none, [11, 8, 0, 1, 2, 6, 7, 8]⟩,
    ⟨(some 93), (.indexAddr 1 (.t 84) (.t 86)), none, [3, 5, 0, 1, 2, 3, 4, 5, 6, 7, 8, 9, 10, 11, 12]⟩,
    ⟨none, (.store 1 (.t 93) (.t 91)), none, [13, 10, 12, 0, 1, 2, 3, 4, 5, 6, 7, 8, 9, 10, 11, 12]⟩] (some [(0, 1), (0, 2), (0, 3), (1, 3), (2, 3), (0, 4), (1, 4), (2, 4), (3, 4), (0, 5), (1, 5), (2, 5), (3, 5), (0, 6), (1, 6), (2, 6), (3, 6), (4, 6), (5, 6), (0, 7), (1, 7), (2, 7), (3, 7), (4, 7), (5, 7), (0, 8), (1, 8), (2, 8), (3, 8), (4, 8), (5, 8), (0, 9), (1, 9), (2, 9), (3, 9), (4, 9), (5, 9), (6, 9), (7, 9), (8, 9), (0, 10), (1, 10), (2, 10), (3, 10), (4, 10), (5, 10), (6, 10), (7, 10), (8, 10), (3, 11), (4, 11), (5, 11), (9, 11), (10, 11), (3, 12), (4, 12), (5, 12), (9, 12), (10, 12)])
def R78_4 : ACode := .region [⟨(some 110), (.mov (.t 0)), none, []⟩,
    ⟨(some 111), (.mov (.t 4)), none, []⟩,
    ⟨(some 112), (.bin .sub (.t 111) (.c (.int .i64 1))), none, [1]⟩,
    ⟨(some 113), (.mov (.t 0)), none, []⟩,
    ⟨(some 114), (.mov (.t 4)), none, []⟩,
    ⟨(some 115), (.bin .sub (.t 114) (.c (.int .i64 2))), none, [4]⟩,
    ⟨(some 116), (.mov (.t 15)), none, []⟩,
    ⟨(some 117), (.bin .add (.t 116) (.c (.int .u32 1))), none, [6]⟩,
    ⟨(some 118), (.indexStr (.c (.string ⟨#[48, 48, 48, 49, 48, 50, 48, 51, 48, 52, 48, 53, 48, 54, 48, 55, 48, 56, 48, 57, 49, 48, 49, 49, 49, 50, 49, 51, 49, 52, 49, 53, 49, 54, 49, 55, 49, 56, 49, 57, 50, 48, 50, 49, 50, 50, 50, 51, 50, 52, 50, 53, 50, 54, 50, 55, 50, 56, 50, 57, 51, 48, 51, 49, 51, 50, 51, 51, 51, 52, 51, 53, 51, 54, 51, 55, 51, 56, 51, 57, 52, 48, 52, 49, 52, 50, 52, 51, 52, 52, 52, 53, 52, 54, 52, 55, 52, 56, 52, 57, 53, 48, 53, 49, 53, 50, 53, 51, 53, 52, 53, 53, 53, 54, 53, 55, 53, 56, 53, 57, 54, 48, 54, 49, 54, 50, 54, 51, 54, 52, 54, 53, 54, 54, 54, 55, 54, 56, 54, 57, 55, 48, 55, 49, 55, 50, 55, 51, 55, 52, 55, 53, 55, 54, 55, 55, 55, 56, 55, 57, 56, 48, 56, 49, 56, 50, 56, 51, 56, 52, 56, 53, 56, 54, 56, 55, 56, 56, 56, 57, 57, 48, 57, 49, 57, 50, 57, 51, 57, 52, 57, 53, 57, 54, 57, 55, 57, 56, 57, 57]⟩)) (.t 117)), none, [7]⟩,
    ⟨(some 119), (.mov (.t 15)), none, []⟩,
    ⟨(some 120), (.indexStr (.c (.string ⟨#[48, 48, 48, 49, 48, 50, 48, 51, 48, 52, 48, 53, 48, 54, 48, 55, 48, 56, 48, 57, 49, 48, 49, 49, 49, 50, 49, 51, 49, 52, 49, 53, 49, 54, 49, 55, 49, 56, 49, 57, 50, 48, 50, 49, 50, 50, 50, 51, 50, 52, 50, 53, 50, 54, 50, 55, 50, 56, 50, 57, 51, 48, 51, 49, 51, 50, 51, 51, 51, 52, 51, 53, 51, 54, 51, 55, 51, 56, 51, 57, 52, 48, 52, 49, 52, 50, 52, 51, 52, 52, 52, 53, 52, 54, 52, 55, 52, 56, 52, 57, 53, 48, 53, 49, 53, 50, 53, 51, 53, 52, 53, 53, 53, 54, 53, 55, 53, 56, 53, 57, 54, 48, 54, 49, 54, 50, 54, 51, 54, 52, 54, 53, 54, 54, 54, 55, 54, 56, 54, 57, 55, 48, 55, 49, 55, 50, 55, 51, 55, 52, 55, 53, 55, 54, 55, 55, 55, 56, 55, 57, 56, 48, 56, 49, 56, 50, 56, 51, 56, 52, 56, 53, 56, 54, 56, 55, 56, 56, 56, 57, 57, 48, 57, 49, 57, 50, 57, 51, 57, 52, 57, 53, 57, 54, 57, 55, 57, 56, 57, 57]⟩)) (.t 119)), none, [9]⟩,
    ⟨(some 121), (.indexAddr 1 (.t 110) (.t 112)), none, [0, 2, 0, 1, 2, 6, 7, 8]⟩,
    ⟨none, (.store 1 (.t 121) (.t 118)), none, [11, 8, 0, 1, 2, 6, 7, 8]⟩,
    ⟨(some 122), (.indexAddr 1 (.t 113) (.t 115)), none, [3, 5, 0, 1, 2, 3, 4, 5, 6, 7, 8, 9, 10, 11, 12]⟩,
    ⟨none, (.store 1 (.t 122) (.t 120)), none, [13, 10, 12, 0, 1, 2, 3, 4, 5, 6, 7, 8, 9, 10, 11, 12]⟩] (some [(0, 1), (0, 2), (0, 3), (1, 3), (2, 3), (0, 4), (1, 4), (2, 4), (3, 4), (0, 5), (1, 5), (2, 5), (3, 5), (0, 6), (1, 6), (2, 6), (3, 6), (4, 6), (5, 6), (0, 7), (1, 7), (2, 7), (3, 7), (4, 7), (5, 7), (0, 8), (1, 8), (2, 8), (3, 8), (4, 8), (5, 8), (0, 9), (1, 9), (2, 9), (3, 9), (4, 9), (5, 9), (6, 9), (7, 9), (8, 9), (0, 10), (1, 10), (2, 10), (3, 10), (4, 10), (5, 10), (6, 10), (7, 10), (8, 10), (3, 11), (4, 11), (5, 11), (9, 11), (10, 11), (3, 12), (4, 12), (5, 12), (9, 12), (10, 12)])
def R78_5 : ACode := .region [⟨(some 123), (.mov (.t 0)), none, []⟩,
    ⟨(some 124), (.mov (.t 4)), none, []⟩,
    ⟨(some 125), (.bin .sub (.t 124) (.c (.int .i64 3))), none, [1]⟩,
    ⟨(some 126), (.mov (.t 0)), none, []⟩,
    ⟨(some 127), (.mov (.t 4)), none, []⟩,
    ⟨(some 128), (.bin .sub (.t 127) (.c (.int .i64 4))), none, [4]⟩,
    ⟨(some 129), (.mov (.t 14)), none, []⟩,
    ⟨(some 130), (.bin .add (.t 129) (.c (.int .u32 1))), none, [6]⟩,
    ⟨(some 131), (.indexStr (.c (.string ⟨#[48, 48, 48, 49, 48, 50, 48, 51, 48, 52, 48, 53, 48, 54, 48, 55, 48, 56, 48, 57, 49, 48, 49, 49, 49, 50, 49, 51, 49, 52, 49, 53, 49, 54, 49, 55, 49, 56, 49, 57, 50, 48, 50, 49, 50, 50, 50, 51, 50, 52, 50, 53, 50, 54, 50, 55, 50, 56, 50, 57, 51, 48, 51, 49, 51, 50, 51, 51, 51, 52, 51, 53, 51, 54, 51, 55, 51, 56, 51, 57, 52, 48, 52, 49, 52, 50, 52, 51, 52, 52, 52, 53, 52, 54, 52, 55, 52, 56, 52, 57, 53, 48, 53, 49, 53, 50, 53, 51, 53, 52, 53, 53, 53, 54, 53, 55, 53, 56, 53, 57, 54, 48, 54, 49, 54, 50, 54, 51, 54, 52, 54, 53, 54, 54, 54, 55, 54, 56, 54, 57, 55, 48, 55, 49, 55, 50, 55, 51, 55, 52, 55, 53, 55, 54, 55, 55, 55, 56, 55, 57, 56, 48, 56, 49, 56, 50, 56, 51, 56, 52, 56, 53, 56, 54, 56, 55, 56, 56, 56, 57, 57, 48, 57, 49, 57, 50, 57, 51, 57, 52, 57, 53, 57, 54, 57, 55, 57, 56, 57, 57]⟩)) (.t 130)), none, [7]⟩,
    ⟨(some 132), (.mov (.t 14)), none, []⟩,
    ⟨(some 133), (.indexStr (.c (.string ⟨#[48, 48, 48, 49, 48, 50, 48, 51, 48, 52, 48, 53, 48, 54, 48, 55, 48, 56, 48, 57, 49, 48, 49, 49, 49, 50, 49, 51, 49, 52, 49, 53, 49, 54, 49, 55, 49, 56, 49, 57, 50, 48, 50, 49, 50, 50, 50, 51, 50, 52, 50, 53, 50, 54, 50, 55, 50, 56, 50, 57, 51, 48, 51, 49, 51, 50, 51, 51, 51, 52, 51, 53, 51, 54, 51, 55, 51, 56, 51, 57, 52, 48, 52, 49, 52, 50, 52, 51, 52, 52, 52, 53, 52, 54, 52, 55, 52, 56, 52, 57, 53, 48, 53, 49, 53, 50, 53, 51, 53, 52, 53, 53, 53, 54, 53, 55, 53, 56, 53, 57, 54, 48, 54, 49, 54, 50, 54, 51, 54, 52, 54, 53, 54, 54, 54, 55, 54, 56, 54, 57, 55, 48, 55, 49, 55, 50, 55, 51, 55, 52, 55, 53, 55, 54, 55, 55, 55, 56, 55, 57, 56, 48, 56, 49, 56, 50, 56, 51, 56, 52, 56, 53, 56, 54, 56, 55, 56, 56, 56, 57, 57, 48, 57, 49, 57, 50, 57, 51, 57, 52, 57, 53, 57, 54, 57, 55, 57, 56, 57, 57]⟩)) (.t 132)), none, [9]⟩,
    ⟨(some 134), (.indexAddr 1 (.t 123) (.t 125)), none, [0, 2, 0, 1, 2, 6, 7, 8]⟩,
    ⟨none, (.store 1 (.t 134) (.t 131)), none, [11, 8, 0, 1, 2, 6, 7, 8]⟩,
    ⟨(some 135), (.indexAddr 1 (.t 126) (.t 128)), none, [3, 5, 0, 1, 2, 3, 4, 5, 6, 7, 8, 9, 10, 11, 12]⟩,
    ⟨none, (.store 1 (.t 135) (.t 133)), none, [13, 10, 12, 0, 1, 2, 3, 4, 5, 6, 7, 8, 9, 10, 11, 12]⟩] (some [(0, 1), (0, 2), (0, 3), (1, 3), (2, 3), (0, 4), (1, 4), (2, 4), (3, 4), (0, 5), (1, 5), (2, 5), (3, 5), (0, 6), (1, 6), (2, 6), (3, 6), (4, 6), (5, 6), (0, 7), (1, 7), (2, 7), (3, 7), (4, 7), (5, 7), (0, 8), (1, 8), (2, 8), (3, 8), (4, 8), (5, 8), (0, 9), (1, 9), (2, 9), (3, 9), (4, 9), (5, 9), (6, 9), (7, 9), (8, 9), (0, 10), (1, 10), (2, 10), (3, 10), (4, 10), (5, 10), (6, 10), (7, 10), (8, 10), (3, 11), (4, 11), (5, 11), (9, 11), (10, 11), (3, 12), (4, 12), (5, 12), (9, 12), (10, 12)])
def R78_6 : ACode := .region [⟨(some 145), (.mov (.t 0)), none, []⟩,
    ⟨(some 146), (.mov (.t 4)), none, []⟩,
    ⟨(some 147), (.bin .sub (.t 146) (.c (.int .i64 1))), none, [1]⟩,
    ⟨(some 148), (.mov (.t 0)), none, []⟩,
    ⟨(some 149), (.mov (.t 4)), none, []⟩,
    ⟨(some 150), (.bin .sub (.t 149) (.c (.int .i64 2))), none, [4]⟩,
    ⟨(some 151), (.mov (.t 16)), none, []⟩,
    ⟨(some 152), (.bin .add (.t 151) (.c (.int .u32 1))), none, [6]⟩,
    ⟨(some 153), (.indexStr (.c (.string ⟨#[48, 48, 48, 49, 48, 50, 48, 51, 48, 52, 48, 53, 48, 54, 48, 55, 48, 56, 48, 57, 49, 48, 49, 49, 49, 50, 49, 51, 49, 52, 49, 53, 49, 54, 49, 55, 49, 56, 49, 57, 50, 48, 50, 49, 50, 50, 50, 51, 50, 52, 50, 53, 50, 54, 50, 55, 50, 56, 50, 57, 51, 48, 51, 49, 51, 50, 51, 51, 51, 52, 51, 53, 51, 54, 51, 55, 51, 56, 51, 57, 52, 48, 52, 49, 52, 50, 52, 51, 52, 52, 52, 53, 52, 54, 52, 55, 52, 56, 52, 57, 53, 48, 53, 49, 53, 50, 53, 51, 53, 52, 53, 53, 53, 54, 53, 55, 53, 56, 53, 57, 54, 48, 54, 49, 54, 50, 54, 51, 54, 52, 54, 53, 54, 54, 54, 55, 54, 56, 54, 57, 55, 48, 55, 49, 55, 50, 55, 51, 55, 52, 55, 53, 55, 54, 55, 55, 55, 56, 55, 57, 56, 48, 56, 49, 56, 50, 56, 51, 56, 52, 56, 53, 56, 54, 56, 55, 56, 56, 56, 57, 57, 48, 57, 49, 57, 50, 57, 51, 57, 52, 57, 53, 57, 54, 57, 55, 57, 56, 57, 57]⟩)) (.t 152)), none, [7]⟩,
    ⟨(some 154), (.mov (.t 16)), none, []⟩,
    ⟨(some 155), (.indexStr (.c (.string ⟨#[48, 48, 48, 49, 48, 50, 48, 51, 48, 52, 48, 53, 48, 54, 48, 55, 48, 56, 48, 57, 49, 48, 49, 49, 49, 50, 49, 51, 49, 52, 49, 53, 49, 54, 49, 55, 49, 56, 49, 57, 50, 48, 50, 49, 50, 50, 50, 51, 50, 52, 50, 53, 50, 54, 50, 55, 50, 56, 50, 57, 51, 48, 51, 49, 51, 50, 51, 51, 51, 52, 51, 53, 51, 54, 51, 55, 51, 56, 51, 57, 52, 48, 52, 49, 52, 50, 52, 51, 52, 52, 52, 53, 52, 54, 52, 55, 52, 56, 52, 57, 53, 48, 53, 49, 53, 50, 53, 51, 53, 52, 53, 53, 53, 54, 53, 55, 53, 56, 53, 57, 54, 48, 54, 49, 54, 50, 54, 51, 54, 52, 54, 53, 54, 54, 54, 55, 54, 56, 54, 57, 55, 48, 55, 49, 55, 50, 55, 51, 55, 52, 55, 53, 55, 54, 55, 55, 55, 56, 55, 57, 56, 48, 56, 49, 56, 50, 56, 51, 56, 52, 56, 53, 56, 54, 56, 55, 56, 56, 56, 57, 57, 48, 57, 49, 57, 50, 57, 51, 57, 52, 57, 53, 57, 54, 57, 55, 57, 56, 57, 57]⟩)) (.t 154)), none, [9]⟩,
    ⟨(some 156), (.indexAddr 1 (.t 145) (.t 147)), none, [0, 2, 0, 1, 2, 6, 7, 8]⟩,
    ⟨none, (.store 1 (.t 156) (.t 153)), none, [11, 8, 0, 1, 2, 6, 7, 8]⟩,
    ⟨(some 157), (.indexAddr 1 (.t 148) (.t 150)), none, [3, 5, 0, 1, 2, 3, 4, 5, 6, 7, 8, 9, 10, 11, 12]⟩,
    ⟨none, (.store 1 (.t 157) (.t 155)), none, [13, 10, 12, 0, 1, 2, 3, 4, 5, 6, 7, 8, 9, 10, 11, 12]⟩] (some [(0, 1), (0, 2), (0, 3), (1, 3), (2, 3), (0, 4), (1, 4), (2, 4), (3, 4), (0, 5), (1, 5), (2, 5), (3, 5), (0, 6), (1, 6), (2, 6), (3, 6), (4, 6), (5, 6), (0, 7), (1, 7), (2, 7), (3, 7), (4, 7), (5, 7), (0, 8), (1, 8), (2, 8), (3, 8), (4, 8), (5, 8), (0, 9), (1, 9), (2, 9), (3, 9), (4, 9), (5, 9), (6, 9), (7, 9), (8, 9), (0, 10), (1, 10), (2, 10), (3, 10), (4, 10), (5, 10), (6, 10), (7, 10), (8, 10), (3, 11), (4, 11), (5, 11), (9, 11), (10, 11), (3, 12), (4, 12), (5, 12), (9, 12), (10, 12)])
/-- internal/strconv.formatBase10 -/
def F78L0 : ACode := (.seq (.seq (.region [⟨(some 19), (.mov (.t 4)), none, []⟩,
    ⟨(some 20), (.bin .geq (.t 19) (.c (.int .i64 8))), none, []⟩] none)
  (.cond (.t 20)
  .skip
  (.exit 0)))
  (.block 1 (.seq (.region [⟨(some 21), (.mov (.t 1)), none, []⟩,
    ⟨(some 22), (.bin .rem (.t 21) (.c (.int .u64 100000000))), none, []⟩,
    ⟨(some 23), (.conv .u32 (.t 22)), none, []⟩,
    ⟨(some 5), (.mov (.t 23)), none, []⟩] none)
  (.seq (.region [⟨(some 24), (.mov (.t 1)), none, []⟩,
    ⟨(some 25), (.bin .quo (.t 24) (.c (.int .u64 100000000))), none, []⟩,
    ⟨(some 1), (.mov (.t 25)), none, []⟩] none)
  (.seq (.region [⟨(some 26), (.mov (.t 5)), none, []⟩,
    ⟨(some 27), (.bin .quo (.t 26) (.c (.int .u32 10000))), none, []⟩,
    ⟨(some 28), (.mov (.t 5)), none, []⟩,
    ⟨(some 29), (.bin .rem (.t 28) (.c (.int .u32 10000))), none, []⟩,
    ⟨(some 6), (.mov (.t 27)), none, []⟩,
    ⟨(some 7), (.mov (.t 29)), none, []⟩] none)
  (.seq (.region [⟨(some 30), (.mov (.t 7)), none, []⟩,
    ⟨(some 31), (.bin .quo (.t 30) (.c (.int .u32 100))), none, []⟩,
    ⟨(some 32), (.bin .mul (.t 31) (.c (.int .u32 2))), none, []⟩,
    ⟨(some 33), (.mov (.t 7)), none, []⟩,
    ⟨(some 34), (.bin .rem (.t 33) (.c (.int .u32 100))), none, []⟩,
    ⟨(some 35), (.bin .mul (.t 34) (.c (.int .u32 2))), none, []⟩,
    ⟨(some 8), (.mov (.t 32)), none, []⟩,
    ⟨(some 9), (.mov (.t 35)), none, []⟩] none)
  (.seq (.region [⟨(some 36), (.mov (.t 6)), none, []⟩,
    ⟨(some 37), (.bin .quo (.t 36) (.c (.int .u32 100))), none, []⟩,
    ⟨(some 38), (.bin .mul (.t 37) (.c (.int .u32 2))), none, []⟩,
    ⟨(some 39), (.mov (.t 6)), none, []⟩,
    ⟨(some 40), (.bin .rem (.t 39) (.c (.int .u32 100))), none, []⟩,
    ⟨(some 41), (.bin .mul (.t 40) (.c (.int .u32 2))), none, []⟩,
    ⟨(some 10), (.mov (.t 38)), none, []⟩,
    ⟨(some 11), (.mov (.t 41)), none, []⟩] none)
  (.seq R78_0
  (.seq R78_1
  (.seq R78_2
  (.seq R78_3
  (.region [⟨(some 94), (.mov (.t 4)), none, []⟩,
    ⟨(some 95), (.bin .sub (.t 94) (.c (.int .i64 8))), none, []⟩,
    ⟨(some 4), (.mov (.t 95)), none, []⟩] none))))))))))))
def B78 : ACode := (.seq (.region [⟨(some 17), (.mov (.t 0)), none, []⟩,
    ⟨(some 18), (.lenSlice (.t 17)), none, []⟩,
    ⟨(some 4), (.mov (.t 18)), none, []⟩] none)
  (.seq (.block 0 (.loop F78L0))
  (.seq (.region [⟨(some 96), (.mov (.t 1)), none, []⟩,
    ⟨(some 97), (.conv .u32 (.t 96)), none, []⟩,
    ⟨(some 12), (.mov (.t 97)), none, []⟩] none)
  (.seq (.seq (.region [⟨(some 98), (.mov (.t 4)), none, []⟩,
    ⟨(some 99), (.bin .geq (.t 98) (.c (.int .i64 4))), none, []⟩] none)
  (.cond (.t 99)
  (.seq (.region [⟨(some 100), (.mov (.t 12)), none, []⟩,
    ⟨(some 101), (.bin .rem (.t 100) (.c (.int .u32 10000))), none, []⟩,
    ⟨(some 13), (.mov (.t 101)), none, []⟩] none)
  (.seq (.region [⟨(some 102), (.mov (.t 12)), none, []⟩,
    ⟨(some 103), (.bin .quo (.t 102) (.c (.int .u32 10000))), none, []⟩,
    ⟨(some 12), (.mov (.t 103)), none, []⟩] none)
  (.seq (.region [⟨(some 104), (.mov (.t 13)), none, []⟩,
    ⟨(some 105), (.bin .quo (.t 104) (.c (.int .u32 100))), none, []⟩,
    ⟨(some 106), (.bin .mul (.t 105) (.c (.int .u32 2))), none, []⟩,
    ⟨(some 107), (.mov (.t 13)), none, []⟩,
    ⟨(some 108), (.bin .rem (.t 107) (.c (.int .u32 100))), none, []⟩,
    ⟨(some 109), (.bin .mul (.t 108) (.c (.int .u32 2))), none, []⟩,
    ⟨(some 14), (.mov (.t 106)), none, []⟩,
    ⟨(some 15), (.mov (.t 109)), none, []⟩] none)
  (.seq R78_4
  (.seq R78_5
  (.region [⟨(some 136), (.mov (.t 4)), none, []⟩,
    ⟨(some 137), (.bin .sub (.t 136) (.c (.int .i64 4))), none, []⟩,
    ⟨(some 4), (.mov (.t 137)), none, []⟩] none))))))
  .skip))
  (.seq (.seq (.region [⟨(some 138), (.mov (.t 4)), none, []⟩,
    ⟨(some 139), (.bin .geq (.t 138) (.c (.int .i64 2))), none, []⟩] none)
  (.cond (.t 139)
  (.seq (.region [⟨(some 140), (.mov (.t 12)), none, []⟩,
    ⟨(some 141), (.bin .rem (.t 140) (.c (.int .u32 100))), none, []⟩,
    ⟨(some 142), (.bin .mul (.t 141) (.c (.int .u32 2))), none, []⟩,
    ⟨(some 16), (.mov (.t 142)), none, []⟩] none)
  (.seq (.region [⟨(some 143), (.mov (.t 12)), none, []⟩,
    ⟨(some 144), (.bin .quo (.t 143) (.c (.int .u32 100))), none, []⟩,
    ⟨(some 12), (.mov (.t 144)), none, []⟩] none)
  (.seq R78_6
  (.region [⟨(some 158), (.mov (.t 4)), none, []⟩,
    ⟨(some 159), (.bin .sub (.t 158) (.c (.int .i64 2))), none, []⟩,
    ⟨(some 4), (.mov (.t 159)), none, []⟩] none))))
  .skip))
  (.seq (.region [⟨(some 160), (.mov (.t 4)), none, []⟩,
    ⟨(some 161), (.bin .gtr (.t 160) (.c (.int .i64 0))), none, []⟩] none)
  (.cond (.t 161)
  (.region [⟨(some 162), (.mov (.t 0)), none, []⟩,
    ⟨(some 163), (.mov (.t 12)), none, []⟩,
    ⟨(some 164), (.bin .add (.c (.int .u32 48)) (.t 163)), none, []⟩,
    ⟨(some 165), (.conv .u8 (.t 164)), none, []⟩,
    ⟨(some 166), (.indexAddr 1 (.t 162) (.c (.int .i64 0))), none, []⟩,
    ⟨none, (.store 1 (.t 166) (.t 165)), none, []⟩] none)
  .skip)))))))
def F78 : AFunc := ⟨2, 167, [], B78⟩
-- F78L0 live: [0, 1, 4]
/-- internal/strconv.formatBits -/
def F79L0 : ACode := (.seq (.seq (.region [⟨(some 44), (.mov (.t 1)), none, []⟩,
    ⟨(some 45), (.mov (.t 15)), none, []⟩,
    ⟨(some 46), (.bin .geq (.t 44) (.t 45)), none, []⟩] none)
  (.cond (.t 46)
  .skip
  (.exit 0)))
  (.block 1 (.seq (.region [⟨(some 47), (.mov (.t 13)), none, []⟩,
    ⟨(some 48), (.bin .sub (.t 47) (.c (.int .i64 1))), none, []⟩,
    ⟨(some 13), (.mov (.t 48)), none, []⟩] none)
  (.seq (.region [⟨(some 49), (.mov (.t 13)), none, []⟩,
    ⟨(some 50), (.mov (.t 1)), none, []⟩,
    ⟨(some 51), (.mov (.t 16)), none, []⟩,
    ⟨(some 52), (.bin .and (.t 50) (.t 51)), none, []⟩,
    ⟨(some 53), (.indexStr (.c (.string ⟨#[48, 49, 50, 51, 52, 53, 54, 55, 56, 57, 97, 98, 99, 100, 101, 102, 103, 104, 105, 106, 107, 108, 109, 110, 111, 112, 113, 114, 115, 116, 117, 118, 119, 120, 121, 122]⟩)) (.t 52)), none, []⟩,
    ⟨(some 54), (.indexArr 1 65 (.t 12) (.t 49)), none, []⟩,
    ⟨none, (.store 1 (.t 54) (.t 53)), none, []⟩] none)
  (.region [⟨(some 55), (.mov (.t 1)), none, []⟩,
    ⟨(some 56), (.mov (.t 14)), none, []⟩,
    ⟨(some 57), (.bin .shr (.t 55) (.t 56)), none, []⟩,
    ⟨(some 1), (.mov (.t 57)), none, []⟩] none)))))
def F79L1 : ACode := (.seq (.seq (.region [⟨(some 66), (.mov (.t 1)), none, []⟩,
    ⟨(some 67), (.mov (.t 17)), none, []⟩,
    ⟨(some 68), (.bin .geq (.t 66) (.t 67)), none, []⟩] none)
  (.cond (.t 68)
  .skip
  (.exit 2)))
  (.block 3 (.seq (.region [⟨(some 69), (.mov (.t 13)), none, []⟩,
    ⟨(some 70), (.bin .sub (.t 69) (.c (.int .i64 1))), none, []⟩,
    ⟨(some 13), (.mov (.t 70)), none, []⟩] none)
  (.seq (.region [⟨(some 71), (.mov (.t 1)), none, []⟩,
    ⟨(some 72), (.mov (.t 17)), none, []⟩,
    ⟨(some 73), (.bin .quo (.t 71) (.t 72)), none, []⟩,
    ⟨(some 18), (.mov (.t 73)), none, []⟩] none)
  (.seq (.region [⟨(some 74), (.mov (.t 13)), none, []⟩,
    ⟨(some 75), (.mov (.t 1)), none, []⟩,
    ⟨(some 76), (.mov (.t 18)), none, []⟩,
    ⟨(some 77), (.mov (.t 17)), none, []⟩,
    ⟨(some 78), (.bin .mul (.t 76) (.t 77)), none, []⟩,
    ⟨(some 79), (.bin .sub (.t 75) (.t 78)), none, []⟩,
    ⟨(some 80), (.indexStr (.c (.string ⟨#[48, 49, 50, 51, 52, 53, 54, 55, 56, 57, 97, 98, 99, 100, 101, 102, 103, 104, 105, 106, 107, 108, 109, 110, 111, 112, 113, 114, 115, 116, 117, 118, 119, 120, 121, 122]⟩)) (.t 79)), none, []⟩,
    ⟨(some 81), (.indexArr 1 65 (.t 12) (.t 74)), none, []⟩,
    ⟨none, (.store 1 (.t 81) (.t 80)), none, []⟩] none)
  (.region [⟨(some 82), (.mov (.t 18)), none, []⟩,
    ⟨(some 1), (.mov (.t 82)), none, []⟩] none))))))
def B79 : ACode := (.seq (.region [⟨(some 10), (.mov (.c (.slice none 0 0))), none, []⟩,
    ⟨(some 11), (.mov (.c (.string ⟨#[]⟩))), none, []⟩] none)
  (.seq (.seq (.region [⟨(some 19), (.mov (.t 2)), none, []⟩,
    ⟨(some 20), (.bin .lss (.t 19) (.c (.int .i64 2))), none, []⟩,
    ⟨(some 21), (.mov (.t 20)), none, []⟩,
    ⟨(some 22), (.mov (.t 2)), (some (21, false)), []⟩,
    ⟨(some 23), (.bin .eql (.t 22) (.c (.int .i64 10))), (some (21, false)), []⟩,
    ⟨(some 24), (.pick (.t 21) (.c (.bool true)) (.t 23)), none, []⟩,
    ⟨(some 25), (.mov (.t 24)), none, []⟩,
    ⟨(some 26), (.mov (.t 2)), (some (25, false)), []⟩,
    ⟨(some 27), (.bin .gtr (.t 26) (.c (.int .i64 36))), (some (25, false)), []⟩,
    ⟨(some 28), (.pick (.t 25) (.c (.bool true)) (.t 27)), none, []⟩] none)
  (.cond (.t 28)
  (.region [⟨(some 29), (.makeIface 9 (.c (.string ⟨#[115, 116, 114, 99, 111, 110, 118, 58, 32, 105, 108, 108, 101, 103, 97, 108, 32, 65, 112, 112, 101, 110, 100, 73, 110, 116, 47, 70, 111, 114, 109, 97, 116, 73, 110, 116, 32, 98, 97, 115, 101]⟩))), none, []⟩,
    ⟨none, .fail, none, []⟩] none)
  .skip))
  (.seq (.region [⟨(some 12), (.alloc 122 [(.int .u8 0), (.int .u8 0), (.int .u8 0), (.int .u8 0), (.int .u8 0), (.int .u8 0), (.int .u8 0), (.int .u8 0), (.int .u8 0), (.int .u8 0), (.int .u8 0), (.int .u8 0), (.int .u8 0), (.int .u8 0), (.int .u8 0), (.int .u8 0), (.int .u8 0), (.int .u8 0), (.int .u8 0), (.int .u8 0), (.int .u8 0), (.int .u8 0), (.int .u8 0), (.int .u8 0), (.int .u8 0), (.int .u8 0), (.int .u8 0), (.int .u8 0), (.int .u8 0), (.int .u8 0), (.int .u8 0), (.int .u8 0), (.int .u8 0), (.int .u8 0), (.int .u8 0), (.int .u8 0), (.int .u8 0), (.int .u8 0), (.int .u8 0), (.int .u8 0), (.int .u8 0), (.int .u8 0), (.int .u8 0), (.int .u8 0), (.int .u8 0), (.int .u8 0), (.int .u8 0), (.int .u8 0), (.int .u8 0), (.int .u8 0), (.int .u8 0), (.int .u8 0), (.int .u8 0), (.int .u8 0), (.int .u8 0), (.int .u8 0), (.int .u8 0), (.int .u8 0), (.int .u8 0), (.int .u8 0), (.int .u8 0), (.int .u8 0), (.int .u8 0), (.int .u8 0), (.int .u8 0)]), none, []⟩] none)
  (.seq (.region [⟨(some 13), (.mov (.c (.int .i64 65))), none, []⟩] none)
  (.seq (.seq (.region [⟨(some 30), (.mov (.t 3)), none, []⟩] none)
  (.cond (.t 30)
  (.region [⟨(some 31), (.mov (.t 1)), none, []⟩,
    ⟨(some 32), (.un .neg (.t 31)), none, []⟩,
    ⟨(some 1), (.mov (.t 32)), none, []⟩] none)
  .skip))
  (.seq (.seq (.region [⟨(some 33), (.mov (.t 2)), none, []⟩,
    ⟨(some 34), (.call (.f 87) [(.t 33)]), none, []⟩] none)
  (.cond (.t 34)
  (.seq (.region [⟨(some 35), (.mov (.t 2)), none, []⟩,
    ⟨(some 36), (.conv .u64 (.t 35)), none, []⟩,
    ⟨(some 37), (.call (.f 88) [(.t 36)]), none, []⟩,
    ⟨(some 38), (.conv .u64 (.t 37)), none, []⟩,
    ⟨(some 14), (.mov (.t 38)), none, []⟩] none)
  (.seq (.region [⟨(some 39), (.mov (.t 2)), none, []⟩,
    ⟨(some 40), (.conv .u64 (.t 39)), none, []⟩,
    ⟨(some 15), (.mov (.t 40)), none, []⟩] none)
  (.seq (.region [⟨(some 41), (.mov (.t 2)), none, []⟩,
    ⟨(some 42), (.conv .u64 (.t 41)), none, []⟩,
    ⟨(some 43), (.bin .sub (.t 42) (.c (.int .u64 1))), none, []⟩,
    ⟨(some 16), (.mov (.t 43)), none, []⟩] none)
  (.seq (.block 0 (.loop F79L0))
  (.seq (.region [⟨(some 58), (.mov (.t 13)), none, []⟩,
    ⟨(some 59), (.bin .sub (.t 58) (.c (.int .i64 1))), none, []⟩,
    ⟨(some 13), (.mov (.t 59)), none, []⟩] none)
  (.region [⟨(some 60), (.mov (.t 13)), none, []⟩,
    ⟨(some 61), (.mov (.t 1)), none, []⟩,
    ⟨(some 62), (.indexStr (.c (.string ⟨#[48, 49, 50, 51, 52, 53, 54, 55, 56, 57, 97, 98, 99, 100, 101, 102, 103, 104, 105, 106, 107, 108, 109, 110, 111, 112, 113, 114, 115, 116, 117, 118, 119, 120, 121, 122]⟩)) (.t 61)), none, []⟩,
    ⟨(some 63), (.indexArr 1 65 (.t 12) (.t 60)), none, []⟩,
    ⟨none, (.store 1 (.t 63) (.t 62)), none, []⟩] none))))))
  (.seq (.region [⟨(some 64), (.mov (.t 2)), none, []⟩,
    ⟨(some 65), (.conv .u64 (.t 64)), none, []⟩,
    ⟨(some 17), (.mov (.t 65)), none, []⟩] none)
  (.seq (.block 2 (.loop F79L1))
  (.seq (.region [⟨(some 83), (.mov (.t 13)), none, []⟩,
    ⟨(some 84), (.bin .sub (.t 83) (.c (.int .i64 1))), none, []⟩,
    ⟨(some 13), (.mov (.t 84)), none, []⟩] none)
  (.region [⟨(some 85), (.mov (.t 13)), none, []⟩,
    ⟨(some 86), (.mov (.t 1)), none, []⟩,
    ⟨(some 87), (.indexStr (.c (.string ⟨#[48, 49, 50, 51, 52, 53, 54, 55, 56, 57, 97, 98, 99, 100, 101, 102, 103, 104, 105, 106, 107, 108, 109, 110, 111, 112, 113, 114, 115, 116, 117, 118, 119, 120, 121, 122]⟩)) (.t 86)), none, []⟩,
    ⟨(some 88), (.indexArr 1 65 (.t 12) (.t 85)), none, []⟩,
    ⟨none, (.store 1 (.t 88) (.t 87)), none, []⟩] none))))))
  (.seq (.seq (.region [⟨(some 89), (.mov (.t 3)), none, []⟩] none)
  (.cond (.t 89)
  (.seq (.region [⟨(some 90), (.mov (.t 13)), none, []⟩,
    ⟨(some 91), (.bin .sub (.t 90) (.c (.int .i64 1))), none, []⟩,
    ⟨(some 13), (.mov (.t 91)), none, []⟩] none)
  (.region [⟨(some 92), (.mov (.t 13)), none, []⟩,
    ⟨(some 93), (.indexArr 1 65 (.t 12) (.t 92)), none, []⟩,
    ⟨none, (.store 1 (.t 93) (.c (.int .u8 45))), none, []⟩] none))
  .skip))
  (.seq (.seq (.region [⟨(some 94), (.mov (.t 4)), none, []⟩] none)
  (.cond (.t 94)
  (.seq (.region [⟨(some 95), (.mov (.t 0)), none, []⟩,
    ⟨(some 96), (.mov (.t 13)), none, []⟩,
    ⟨(some 97), (.sliceArr 1 65 (.t 12) (some (.t 96)) none), none, []⟩,
    ⟨(some 98), (.append 5 1 1 (.t 95) (.t 97)), none, []⟩,
    ⟨(some 10), (.mov (.t 98)), none, []⟩] none)
  .ret)
  .skip))
  (.seq (.region [⟨(some 99), (.mov (.t 13)), none, []⟩,
    ⟨(some 100), (.sliceArr 1 65 (.t 12) (some (.t 99)) none), none, []⟩,
    ⟨(some 101), (.strOf (.t 100)), none, []⟩,
    ⟨(some 11), (.mov (.t 101)), none, []⟩] none)
  .ret)))))))))
def F79 : AFunc := ⟨5, 102, [(.tmp 10), (.tmp 11)], B79⟩
-- F79L0 live: [0, 1, 3, 4, 10, 11, 12, 13, 14, 15, 16]

-- F79L1 live: [0, 1, 3, 4, 10, 11, 12, 13, 17]
/-- unicode/utf8.appendRuneNonASCII -/
def B80 : ACode := (.seq (.region [⟨(some 4), (.mov (.c (.slice none 0 0))), none, []⟩] none)
  (.seq (.region [⟨(some 6), (.mov (.t 1)), none, []⟩,
    ⟨(some 7), (.conv .u32 (.t 6)), none, []⟩,
    ⟨(some 5), (.mov (.t 7)), none, []⟩] none)
  (.block 0 (.seq (.region [⟨(some 12), (.mov (.t 5)), none, []⟩,
    ⟨(some 13), (.bin .leq (.t 12) (.c (.int .u32 2047))), none, []⟩,
    ⟨(some 11), (.mov (.t 13)), none, []⟩] none)
  (.cond (.t 11)
  (.seq (.region [⟨(some 14), (.mov (.t 0)), none, []⟩,
    ⟨(some 15), (.mov (.t 1)), none, []⟩,
    ⟨(some 16), (.bin .shr (.t 15) (.c (.int .u64 6))), none, []⟩,
    ⟨(some 17), (.conv .u8 (.t 16)), none, []⟩,
    ⟨(some 18), (.bin .or (.c (.int .u8 192)) (.t 17)), none, []⟩,
    ⟨(some 19), (.mov (.t 1)), none, []⟩,
    ⟨(some 20), (.conv .u8 (.t 19)), none, []⟩,
    ⟨(some 21), (.bin .and (.t 20) (.c (.int .u8 63))), none, []⟩,
    ⟨(some 22), (.bin .or (.c (.int .u8 128)) (.t 21)), none, []⟩,
    ⟨(some 23), (.buildSlice 5 1 2 [(.int .u8 0)] [(0, 1, (.t 18)), (1, 1, (.t 22))]), none, []⟩,
    ⟨(some 24), (.append 5 1 1 (.t 14) (.t 23)), none, []⟩,
    ⟨(some 4), (.mov (.t 24)), none, []⟩] none)
  .ret)
  (.seq (.seq (.region [⟨(some 26), (.mov (.t 5)), none, []⟩,
    ⟨(some 27), (.bin .lss (.t 26) (.c (.int .u32 55296))), none, []⟩,
    ⟨(some 25), (.mov (.t 27)), none, []⟩] none)
  (.cond (.t 25)
  .skip
  (.region [⟨(some 28), (.mov (.t 5)), none, []⟩,
    ⟨(some 29), (.bin .lss (.c (.int .u32 57343)) (.t 28)), none, []⟩,
    ⟨(some 30), (.mov (.t 29)), none, []⟩,
    ⟨(some 31), (.mov (.t 5)), (some (30, true)), []⟩,
    ⟨(some 32), (.bin .leq (.t 31) (.c (.int .u32 65535))), (some (30, true)), []⟩,
    ⟨(some 33), (.pick (.t 30) (.t 32) (.c (.bool false))), none, []⟩,
    ⟨(some 25), (.mov (.t 33)), none, []⟩] none)))
  (.cond (.t 25)
  (.seq (.region [⟨(some 34), (.mov (.t 0)), none, []⟩,
    ⟨(some 35), (.mov (.t 1)), none, []⟩,
    ⟨(some 36), (.bin .shr (.t 35) (.c (.int .u64 12))), none, []⟩,
    ⟨(some 37), (.conv .u8 (.t 36)), none, []⟩,
    ⟨(some 38), (.bin .or (.c (.int .u8 224)) (.t 37)), none, []⟩,
    ⟨(some 39), (.mov (.t 1)), none, []⟩,
    ⟨(some 40), (.bin .shr (.t 39) (.c (.int .u64 6))), none, []⟩,
    ⟨(some 41), (.conv .u8 (.t 40)), none, []⟩,
    ⟨(some 42), (.bin .and (.t 41) (.c (.int .u8 63))), none, []⟩,
    ⟨(some 43), (.bin .or (.c (.int .u8 128)) (.t 42)), none, []⟩,
    ⟨(some 44), (.mov (.t 1)), none, []⟩,
    ⟨(some 45), (.conv .u8 (.t 44)), none, []⟩,
    ⟨(some 46), (.bin .and (.t 45) (.c (.int .u8 63))), none, []⟩,
    ⟨(some 47), (.bin .or (.c (.int .u8 128)) (.t 46)), none, []⟩,
    ⟨(some 48), (.buildSlice 5 1 3 [(.int .u8 0)] [(0, 1, (.t 38)), (1, 1, (.t 43)), (2, 1, (.t 47))]), none, []⟩,
    ⟨(some 49), (.append 5 1 1 (.t 34) (.t 48)), none, []⟩,
    ⟨(some 4), (.mov (.t 49)), none, []⟩] none)
  .ret)
  (.seq (.region [⟨(some 51), (.mov (.t 5)), none, []⟩,
    ⟨(some 52), (.bin .gtr (.t 51) (.c (.int .u32 65535))), none, []⟩,
    ⟨(some 53), (.mov (.t 52)), none, []⟩,
    ⟨(some 54), (.mov (.t 5)), (some (53, true)), []⟩,
    ⟨(some 55), (.bin .leq (.t 54) (.c (.int .u32 1114111))), (some (53, true)), []⟩,
    ⟨(some 56), (.pick (.t 53) (.t 55) (.c (.bool false))), none, []⟩,
    ⟨(some 50), (.mov (.t 56)), none, []⟩] none)
  (.cond (.t 50)
  (.seq (.region [⟨(some 57), (.mov (.t 0)), none, []⟩,
    ⟨(some 58), (.mov (.t 1)), none, []⟩,
    ⟨(some 59), (.bin .shr (.t 58) (.c (.int .u64 18))), none, []⟩,
    ⟨(some 60), (.conv .u8 (.t 59)), none, []⟩,
    ⟨(some 61), (.bin .or (.c (.int .u8 240)) (.t 60)), none, []⟩,
    ⟨(some 62), (.mov (.t 1)), none, []⟩,
    ⟨(some 63), (.bin .shr (.t 62) (.c (.int .u64 12))), none, []⟩,
    ⟨(some 64), (.conv .u8 (.t 63)), none, []⟩,
    ⟨(some 65), (.bin .and (.t 64) (.c (.int .u8 63))), none, []⟩,
    ⟨(some 66), (.bin .or (.c (.int .u8 128)) (.t 65)), none, []⟩,
    ⟨(some 67), (.mov (.t 1)), none, []⟩,
    ⟨(some 68), (.bin .shr (.t 67) (.c (.int .u64 6))), none, []⟩,
    ⟨(some 69), (.conv .u8 (.t 68)), none, []⟩,
    ⟨(some 70), (.bin .and (.t 69) (.c (.int .u8 63))), none, []⟩,
    ⟨(some 71), (.bin .or (.c (.int .u8 128)) (.t 70)), none, []⟩,
    ⟨(some 72), (.mov (.t 1)), none, []⟩,
    ⟨(some 73), (.conv .u8 (.t 72)), none, []⟩,
    ⟨(some 74), (.bin .and (.t 73) (.c (.int .u8 63))), none, []⟩,
    ⟨(some 75), (.bin .or (.c (.int .u8 128)) (.t 74)), none, []⟩,
    ⟨(some 76), (.buildSlice 5 1 4 [(.int .u8 0)] [(0, 1, (.t 61)), (1, 1, (.t 66)), (2, 1, (.t 71)), (3, 1, (.t 75))]), none, []⟩,
    ⟨(some 77), (.append 5 1 1 (.t 57) (.t 76)), none, []⟩,
    ⟨(some 4), (.mov (.t 77)), none, []⟩] none)
  .ret)
  (.seq (.region [⟨(some 8), (.mov (.t 0)), none, []⟩,
    ⟨(some 9), (.buildSlice 5 1 3 [(.int .u8 0)] [(0, 1, (.c (.int .u8 239))), (1, 1, (.c (.int .u8 191))), (2, 1, (.c (.int .u8 189)))]), none, []⟩,
    ⟨(some 10), (.append 5 1 1 (.t 8) (.t 9)), none, []⟩,
    ⟨(some 4), (.mov (.t 10)), none, []⟩] none)
  .ret))))))))))
def F80 : AFunc := ⟨2, 78, [(.tmp 4)], B80⟩
/-- unicode.lookupCaseRange -/
def F81L0 : ACode := (.seq (.seq (.region [⟨(some 11), (.mov (.t 5)), none, []⟩,
    ⟨(some 12), (.mov (.t 6)), none, []⟩,
    ⟨(some 13), (.bin .lss (.t 11) (.t 12)), none, []⟩] none)
  (.cond (.t 13)
  .skip
  (.exit 0)))
  (.block 1 (.seq (.region [⟨(some 14), (.mov (.t 5)), none, []⟩,
    ⟨(some 15), (.mov (.t 6)), none, []⟩,
    ⟨(some 16), (.bin .add (.t 14) (.t 15)), none, []⟩,
    ⟨(some 17), (.conv .u64 (.t 16)), none, []⟩,
    ⟨(some 18), (.bin .shr (.t 17) (.c (.int .u64 1))), none, []⟩,
    ⟨(some 19), (.conv .i64 (.t 18)), none, []⟩,
    ⟨(some 7), (.mov (.t 19)), none, []⟩] none)
  (.seq (.region [⟨(some 20), (.mov (.t 1)), none, []⟩,
    ⟨(some 21), (.mov (.t 7)), none, []⟩,
    ⟨(some 22), (.indexAddr 5 (.t 20) (.t 21)), none, []⟩,
    ⟨(some 8), (.mov (.t 22)), none, []⟩] none)
  (.seq (.seq (.region [⟨(some 23), (.mov (.t 8)), none, []⟩,
    ⟨(some 24), (.nilCheck (.t 23)), none, []⟩,
    ⟨(some 25), (.fieldAddr 0 (.t 24)), none, []⟩,
    ⟨(some 26), (.load none (.t 25)), none, []⟩,
    ⟨(some 27), (.conv .i32 (.t 26)), none, []⟩,
    ⟨(some 28), (.mov (.t 0)), none, []⟩,
    ⟨(some 29), (.bin .leq (.t 27) (.t 28)), none, []⟩,
    ⟨(some 30), (.mov (.t 29)), none, []⟩,
    ⟨(some 31), (.mov (.t 0)), (some (30, true)), []⟩,
    ⟨(some 32), (.mov (.t 8)), (some (30, true)), []⟩,
    ⟨(some 33), (.nilCheck (.t 32)), (some (30, true)), []⟩,
    ⟨(some 34), (.fieldAddr 1 (.t 33)), (some (30, true)), []⟩,
    ⟨(some 35), (.load none (.t 34)), (some (30, true)), []⟩,
    ⟨(some 36), (.conv .i32 (.t 35)), (some (30, true)), []⟩,
    ⟨(some 37), (.bin .leq (.t 31) (.t 36)), (some (30, true)), []⟩,
    ⟨(some 38), (.pick (.t 30) (.t 37) (.c (.bool false))), none, []⟩] none)
  (.cond (.t 38)
  (.seq (.region [⟨(some 39), (.mov (.t 8)), none, []⟩,
    ⟨(some 4), (.mov (.t 39)), none, []⟩] none)
  .ret)
  .skip))
  (.seq (.region [⟨(some 40), (.mov (.t 0)), none, []⟩,
    ⟨(some 41), (.mov (.t 8)), none, []⟩,
    ⟨(some 42), (.nilCheck (.t 41)), none, []⟩,
    ⟨(some 43), (.fieldAddr 0 (.t 42)), none, []⟩,
    ⟨(some 44), (.load none (.t 43)), none, []⟩,
    ⟨(some 45), (.conv .i32 (.t 44)), none, []⟩,
    ⟨(some 46), (.bin .lss (.t 40) (.t 45)), none, []⟩] none)
  (.cond (.t 46)
  (.region [⟨(some 47), (.mov (.t 7)), none, []⟩,
    ⟨(some 6), (.mov (.t 47)), none, []⟩] none)
  (.region [⟨(some 48), (.mov (.t 7)), none, []⟩,
    ⟨(some 49), (.bin .add (.t 48) (.c (.int .i64 1))), none, []⟩,
    ⟨(some 5), (.mov (.t 49)), none, []⟩] none))))))))
def B81 : ACode := (.seq (.region [⟨(some 4), (.mov (.c (.pointer none))), none, []⟩] none)
  (.seq (.region [⟨(some 5), (.mov (.c (.int .i64 0))), none, []⟩] none)
  (.seq (.region [⟨(some 9), (.mov (.t 1)), none, []⟩,
    ⟨(some 10), (.lenSlice (.t 9)), none, []⟩,
    ⟨(some 6), (.mov (.t 10)), none, []⟩] none)
  (.seq (.block 0 (.loop F81L0))
  (.seq (.region [⟨(some 4), (.mov (.c (.pointer none))), none, []⟩] none)
  .ret)))))
def F81 : AFunc := ⟨2, 50, [(.tmp 4)], B81⟩
-- F81L0 live: [0, 1, 5, 6]
def R82_0 : ACode := .region [⟨(some 16), (.mov (.t 2)), none, []⟩,
    ⟨(some 17), (.nilCheck (.t 16)), none, [0]⟩,
    ⟨(some 18), (.fieldAddr 0 (.t 17)), none, [1]⟩,
    ⟨(some 19), (.load none (.t 18)), none, [2]⟩,
    ⟨(some 20), (.conv .i32 (.t 19)), none, [3]⟩,
    ⟨(some 21), (.mov (.t 1)), none, []⟩,
    ⟨(some 22), (.mov (.t 2)), none, []⟩,
    ⟨(some 23), (.nilCheck (.t 22)), none, [6]⟩,
    ⟨(some 24), (.fieldAddr 0 (.t 23)), none, [7]⟩,
    ⟨(some 25), (.load none (.t 24)), none, [8]⟩,
    ⟨(some 26), (.conv .i32 (.t 25)), none, [9]⟩,
    ⟨(some 27), (.bin .sub (.t 21) (.t 26)), none, [5, 10]⟩,
    ⟨(some 28), (.bin .andNot (.t 27) (.c (.int .i32 1))), none, [11]⟩,
    ⟨(some 29), (.mov (.t 0)), none, []⟩,
    ⟨(some 30), (.bin .and (.t 29) (.c (.int .i64 1))), none, [13]⟩,
    ⟨(some 31), (.conv .i32 (.t 30)), none, [14]⟩,
    ⟨(some 32), (.bin .or (.t 28) (.t 31)), none, [12, 15]⟩,
    ⟨(some 33), (.bin .add (.t 20) (.t 32)), none, [4, 16]⟩,
    ⟨(some 6), (.mov (.t 33)), none, [17, 0, 1, 2, 3, 4, 5, 6, 7, 8, 9, 10, 11, 12, 13, 14, 15, 16, 17]⟩] (some [(0, 5), (1, 5), (2, 5), (3, 5), (4, 5), (0, 6), (1, 6), (2, 6), (3, 6), (4, 6), (5, 6), (0, 7), (1, 7), (2, 7), (3, 7), (4, 7), (5, 7), (0, 8), (1, 8), (2, 8), (3, 8), (4, 8), (5, 8), (0, 9), (1, 9), (2, 9), (3, 9), (4, 9), (5, 9), (0, 10), (1, 10), (2, 10), (3, 10), (4, 10), (5, 10), (0, 11), (1, 11), (2, 11), (3, 11), (4, 11), (0, 12), (1, 12), (2, 12), (3, 12), (4, 12), (0, 13), (1, 13), (2, 13), (3, 13), (4, 13), (5, 13), (6, 13), (7, 13), (8, 13), (9, 13), (10, 13), (11, 13), (12, 13), (0, 14), (1, 14), (2, 14), (3, 14), (4, 14), (5, 14), (6, 14), (7, 14), (8, 14), (9, 14), (10, 14), (11, 14), (12, 14), (0, 15), (1, 15), (2, 15), (3, 15), (4, 15), (5, 15), (6, 15), (7, 15), (8, 15), (9, 15), (10, 15), (11, 15), (12, 15), (0, 16), (1, 16), (2, 16), (3, 16), (4, 16)])
/-- unicode.convertCase -/
def B82 : ACode := (.seq (.region [⟨(some 6), (.mov (.c (.int .i32 0))), none, []⟩] none)
  (.seq (.region [⟨(some 8), (.mov (.t 2)), none, []⟩,
    ⟨(some 9), (.mov (.t 0)), none, []⟩,
    ⟨(some 10), (.nilCheck (.t 8)), none, []⟩,
    ⟨(some 11), (.fieldAddr 2 (.t 10)), none, []⟩,
    ⟨(some 12), (.indexArr 1 3 (.t 11) (.t 9)), none, []⟩,
    ⟨(some 13), (.load none (.t 12)), none, []⟩,
    ⟨(some 7), (.mov (.t 13)), none, []⟩] none)
  (.seq (.seq (.region [⟨(some 14), (.mov (.t 7)), none, []⟩,
    ⟨(some 15), (.bin .gtr (.t 14) (.c (.int .i32 1114111))), none, []⟩] none)
  (.cond (.t 15)
  (.seq R82_0
  .ret)
  .skip))
  (.seq (.region [⟨(some 34), (.mov (.t 1)), none, []⟩,
    ⟨(some 35), (.mov (.t 7)), none, []⟩,
    ⟨(some 36), (.bin .add (.t 34) (.t 35)), none, []⟩,
    ⟨(some 6), (.mov (.t 36)), none, []⟩] none)
  .ret))))
def F82 : AFunc := ⟨3, 37, [(.tmp 6)], B82⟩
/-- internal/bytealg.hashStr[string] -/
def F83L0 : ACode := (.seq (.seq (.region [⟨(some 9), (.mov (.t 5)), none, []⟩,
    ⟨(some 10), (.mov (.t 0)), none, []⟩,
    ⟨(some 11), (.lenStr (.t 10)), none, []⟩,
    ⟨(some 12), (.bin .lss (.t 9) (.t 11)), none, []⟩] none)
  (.cond (.t 12)
  .skip
  (.exit 0)))
  (.seq (.block 1 (.region [⟨(some 15), (.mov (.t 4)), none, []⟩,
    ⟨(some 16), (.bin .mul (.t 15) (.c (.int .u32 16777619))), none, []⟩,
    ⟨(some 17), (.mov (.t 0)), none, []⟩,
    ⟨(some 18), (.mov (.t 5)), none, []⟩,
    ⟨(some 19), (.indexStr (.t 17) (.t 18)), none, []⟩,
    ⟨(some 20), (.conv .u32 (.t 19)), none, []⟩,
    ⟨(some 21), (.bin .add (.t 16) (.t 20)), none, []⟩,
    ⟨(some 4), (.mov (.t 21)), none, []⟩] none))
  (.region [⟨(some 13), (.mov (.t 5)), none, []⟩,
    ⟨(some 14), (.bin .add (.t 13) (.c (.int .i64 1))), none, []⟩,
    ⟨(some 5), (.mov (.t 14)), none, []⟩] none)))
def F83L1 : ACode := (.seq (.seq (.region [⟨(some 24), (.mov (.t 8)), none, []⟩,
    ⟨(some 25), (.bin .gtr (.t 24) (.c (.int .i64 0))), none, []⟩] none)
  (.cond (.t 25)
  .skip
  (.exit 2)))
  (.seq (.block 3 (.seq (.seq (.region [⟨(some 28), (.mov (.t 8)), none, []⟩,
    ⟨(some 29), (.bin .and (.t 28) (.c (.int .i64 1))), none, []⟩,
    ⟨(some 30), (.bin .neq (.t 29) (.c (.int .i64 0))), none, []⟩] none)
  (.cond (.t 30)
  (.region [⟨(some 31), (.mov (.t 6)), none, []⟩,
    ⟨(some 32), (.mov (.t 7)), none, []⟩,
    ⟨(some 33), (.bin .mul (.t 31) (.t 32)), none, []⟩,
    ⟨(some 6), (.mov (.t 33)), none, []⟩] none)
  .skip))
  (.region [⟨(some 34), (.mov (.t 7)), none, []⟩,
    ⟨(some 35), (.mov (.t 7)), none, []⟩,
    ⟨(some 36), (.bin .mul (.t 34) (.t 35)), none, []⟩,
    ⟨(some 7), (.mov (.t 36)), none, []⟩] none)))
  (.region [⟨(some 26), (.mov (.t 8)), none, []⟩,
    ⟨(some 27), (.bin .shr (.t 26) (.c (.int .u64 1))), none, []⟩,
    ⟨(some 8), (.mov (.t 27)), none, []⟩] none)))
def B83 : ACode := (.seq (.region [⟨(some 2), (.mov (.c (.int .u32 0))), none, []⟩,
    ⟨(some 3), (.mov (.c (.int .u32 0))), none, []⟩] none)
  (.seq (.region [⟨(some 4), (.mov (.c (.int .u32 0))), none, []⟩] none)
  (.seq (.seq (.region [⟨(some 5), (.mov (.c (.int .i64 0))), none, []⟩] none)
  (.block 0 (.loop F83L0)))
  (.seq (.region [⟨(some 6), (.mov (.c (.int .u32 1))), none, []⟩,
    ⟨(some 7), (.mov (.c (.int .u32 16777619))), none, []⟩] none)
  (.seq (.seq (.region [⟨(some 22), (.mov (.t 0)), none, []⟩,
    ⟨(some 23), (.lenStr (.t 22)), none, []⟩,
    ⟨(some 8), (.mov (.t 23)), none, []⟩] none)
  (.block 2 (.loop F83L1)))
  (.seq (.region [⟨(some 37), (.mov (.t 4)), none, []⟩,
    ⟨(some 38), (.mov (.t 6)), none, []⟩,
    ⟨(some 2), (.mov (.t 37)), none, []⟩,
    ⟨(some 3), (.mov (.t 38)), none, []⟩] none)
  .ret))))))
def F83 : AFunc := ⟨1, 39, [(.tmp 2), (.tmp 3)], B83⟩
-- F83L0 live: [0, 4, 5]

-- F83L1 live: [4, 6, 7, 8]
/-- internal/strconv.log10Pow2 -/
def B84 : ACode := (.seq (.region [⟨(some 2), (.mov (.c (.int .i64 0))), none, []⟩] none)
  (.seq (.region [⟨(some 3), (.mov (.t 0)), none, []⟩,
    ⟨(some 4), (.bin .mul (.t 3) (.c (.int .i64 78913))), none, []⟩,
    ⟨(some 5), (.bin .shr (.t 4) (.c (.int .u64 18))), none, []⟩,
    ⟨(some 2), (.mov (.t 5)), none, []⟩] none)
  .ret))
def F84 : AFunc := ⟨1, 6, [(.tmp 2)], B84⟩
/-- math/bits.Len64 -/
def B85 : ACode := (.seq (.region [⟨(some 2), (.mov (.c (.int .i64 0))), none, []⟩] none)
  (.seq (.seq (.region [⟨(some 3), (.mov (.t 0)), none, []⟩,
    ⟨(some 4), (.bin .geq (.t 3) (.c (.int .u64 4294967296))), none, []⟩] none)
  (.cond (.t 4)
  (.seq (.region [⟨(some 5), (.mov (.t 0)), none, []⟩,
    ⟨(some 6), (.bin .shr (.t 5) (.c (.int .u64 32))), none, []⟩,
    ⟨(some 0), (.mov (.t 6)), none, []⟩] none)
  (.region [⟨(some 2), (.mov (.c (.int .i64 32))), none, []⟩] none))
  .skip))
  (.seq (.seq (.region [⟨(some 7), (.mov (.t 0)), none, []⟩,
    ⟨(some 8), (.bin .geq (.t 7) (.c (.int .u64 65536))), none, []⟩] none)
  (.cond (.t 8)
  (.seq (.region [⟨(some 9), (.mov (.t 0)), none, []⟩,
    ⟨(some 10), (.bin .shr (.t 9) (.c (.int .u64 16))), none, []⟩,
    ⟨(some 0), (.mov (.t 10)), none, []⟩] none)
  (.region [⟨(some 11), (.mov (.t 2)), none, []⟩,
    ⟨(some 12), (.bin .add (.t 11) (.c (.int .i64 16))), none, []⟩,
    ⟨(some 2), (.mov (.t 12)), none, []⟩] none))
  .skip))
  (.seq (.seq (.region [⟨(some 13), (.mov (.t 0)), none, []⟩,
    ⟨(some 14), (.bin .geq (.t 13) (.c (.int .u64 256))), none, []⟩] none)
  (.cond (.t 14)
  (.seq (.region [⟨(some 15), (.mov (.t 0)), none, []⟩,
    ⟨(some 16), (.bin .shr (.t 15) (.c (.int .u64 8))), none, []⟩,
    ⟨(some 0), (.mov (.t 16)), none, []⟩] none)
  (.region [⟨(some 17), (.mov (.t 2)), none, []⟩,
    ⟨(some 18), (.bin .add (.t 17) (.c (.int .i64 8))), none, []⟩,
    ⟨(some 2), (.mov (.t 18)), none, []⟩] none))
  .skip))
  (.seq (.region [⟨(some 19), (.mov (.t 2)), none, []⟩,
    ⟨(some 20), (.mov (.t 0)), none, []⟩,
    ⟨(some 21), (.conv .u8 (.t 20)), none, []⟩,
    ⟨(some 22), (.indexStr (.c (.string ⟨#[0, 1, 2, 2, 3, 3, 3, 3, 4, 4, 4, 4, 4, 4, 4, 4, 5, 5, 5, 5, 5, 5, 5, 5, 5, 5, 5, 5, 5, 5, 5, 5, 6, 6, 6, 6, 6, 6, 6, 6, 6, 6, 6, 6, 6, 6, 6, 6, 6, 6, 6, 6, 6, 6, 6, 6, 6, 6, 6, 6, 6, 6, 6, 6, 7, 7, 7, 7, 7, 7, 7, 7, 7, 7, 7, 7, 7, 7, 7, 7, 7, 7, 7, 7, 7, 7, 7, 7, 7, 7, 7, 7, 7, 7, 7, 7, 7, 7, 7, 7, 7, 7, 7, 7, 7, 7, 7, 7, 7, 7, 7, 7, 7, 7, 7, 7, 7, 7, 7, 7, 7, 7, 7, 7, 7, 7, 7, 7, 8, 8, 8, 8, 8, 8, 8, 8, 8, 8, 8, 8, 8, 8, 8, 8, 8, 8, 8, 8, 8, 8, 8, 8, 8, 8, 8, 8, 8, 8, 8, 8, 8, 8, 8, 8, 8, 8, 8, 8, 8, 8, 8, 8, 8, 8, 8, 8, 8, 8, 8, 8, 8, 8, 8, 8, 8, 8, 8, 8, 8, 8, 8, 8, 8, 8, 8, 8, 8, 8, 8, 8, 8, 8, 8, 8, 8, 8, 8, 8, 8, 8, 8, 8, 8, 8, 8, 8, 8, 8, 8, 8, 8, 8, 8, 8, 8, 8, 8, 8, 8, 8, 8, 8, 8, 8, 8, 8, 8, 8, 8, 8, 8, 8, 8, 8, 8, 8, 8, 8, 8, 8, 8, 8, 8, 8, 8, 8]⟩)) (.t 21)), none, []⟩,
    ⟨(some 23), (.conv .i64 (.t 22)), none, []⟩,
    ⟨(some 24), (.bin .add (.t 19) (.t 23)), none, []⟩,
    ⟨(some 2), (.mov (.t 24)), none, []⟩] none)
  .ret)))))
def F85 : AFunc := ⟨1, 25, [(.tmp 2)], B85⟩
/-- internal/strconv.bool2[int] -/
def B86 : ACode := (.seq (.region [⟨(some 2), (.mov (.c (.int .i64 0))), none, []⟩] none)
  (.seq (.seq (.region [⟨(some 3), (.mov (.t 0)), none, []⟩] none)
  (.cond (.t 3)
  (.seq (.region [⟨(some 2), (.mov (.c (.int .i64 1))), none, []⟩] none)
  .ret)
  .skip))
  (.seq (.region [⟨(some 2), (.mov (.c (.int .i64 0))), none, []⟩] none)
  .ret)))
def F86 : AFunc := ⟨1, 4, [(.tmp 2)], B86⟩
/-- internal/strconv.isPowerOfTwo -/
def B87 : ACode := (.seq (.region [⟨(some 2), (.mov (.c (.bool false))), none, []⟩] none)
  (.seq (.region [⟨(some 3), (.mov (.t 0)), none, []⟩,
    ⟨(some 4), (.mov (.t 0)), none, []⟩,
    ⟨(some 5), (.bin .sub (.t 4) (.c (.int .i64 1))), none, []⟩,
    ⟨(some 6), (.bin .and (.t 3) (.t 5)), none, []⟩,
    ⟨(some 7), (.bin .eql (.t 6) (.c (.int .i64 0))), none, []⟩,
    ⟨(some 2), (.mov (.t 7)), none, []⟩] none)
  .ret))
def F87 : AFunc := ⟨1, 8, [(.tmp 2)], B87⟩
/-- math/bits.TrailingZeros -/
def B88 : ACode := (.seq (.region [⟨(some 2), (.mov (.c (.int .i64 0))), none, []⟩] none)
  (.seq (.cond (.c (.bool false))
  (.seq (.region [⟨(some 3), (.mov (.t 0)), none, []⟩,
    ⟨(some 4), (.conv .u32 (.t 3)), none, []⟩,
    ⟨(some 5), (.call (.f 89) [(.t 4)]), none, []⟩,
    ⟨(some 2), (.mov (.t 5)), none, []⟩] none)
  .ret)
  .skip)
  (.seq (.region [⟨(some 6), (.mov (.t 0)), none, []⟩,
    ⟨(some 7), (.call (.f 90) [(.t 6)]), none, []⟩,
    ⟨(some 2), (.mov (.t 7)), none, []⟩] none)
  .ret)))
def F88 : AFunc := ⟨1, 8, [(.tmp 2)], B88⟩
/-- math/bits.TrailingZeros32 -/
def B89 : ACode := (.seq (.region [⟨(some 2), (.mov (.c (.int .i64 0))), none, []⟩] none)
  (.seq (.seq (.region [⟨(some 3), (.mov (.t 0)), none, []⟩,
    ⟨(some 4), (.bin .eql (.t 3) (.c (.int .u32 0))), none, []⟩] none)
  (.cond (.t 4)
  (.seq (.region [⟨(some 2), (.mov (.c (.int .i64 32))), none, []⟩] none)
  .ret)
  .skip))
  (.seq (.region [⟨(some 5), (.mov (.t 0)), none, []⟩,
    ⟨(some 6), (.mov (.t 0)), none, []⟩,
    ⟨(some 7), (.un .neg (.t 6)), none, []⟩,
    ⟨(some 8), (.bin .and (.t 5) (.t 7)), none, []⟩,
    ⟨(some 9), (.bin .mul (.t 8) (.c (.int .u32 125613361))), none, []⟩,
    ⟨(some 10), (.bin .shr (.t 9) (.c (.int .u64 27))), none, []⟩,
    ⟨(some 11), (.indexArr 1 32 (.g 5) (.t 10)), none, []⟩,
    ⟨(some 12), (.load none (.t 11)), none, []⟩,
    ⟨(some 13), (.conv .i64 (.t 12)), none, []⟩,
    ⟨(some 2), (.mov (.t 13)), none, []⟩] none)
  .ret)))
def F89 : AFunc := ⟨1, 14, [(.tmp 2)], B89⟩
/-- math/bits.TrailingZeros64 -/
def B90 : ACode := (.seq (.region [⟨(some 2), (.mov (.c (.int .i64 0))), none, []⟩] none)
  (.seq (.seq (.region [⟨(some 3), (.mov (.t 0)), none, []⟩,
    ⟨(some 4), (.bin .eql (.t 3) (.c (.int .u64 0))), none, []⟩] none)
  (.cond (.t 4)
  (.seq (.region [⟨(some 2), (.mov (.c (.int .i64 64))), none, []⟩] none)
  .ret)
  .skip))
  (.seq (.region [⟨(some 5), (.mov (.t 0)), none, []⟩,
    ⟨(some 6), (.mov (.t 0)), none, []⟩,
    ⟨(some 7), (.un .neg (.t 6)), none, []⟩,
    ⟨(some 8), (.bin .and (.t 5) (.t 7)), none, []⟩,
    ⟨(some 9), (.bin .mul (.t 8) (.c (.int .u64 285870213051353865))), none, []⟩,
    ⟨(some 10), (.bin .shr (.t 9) (.c (.int .u64 58))), none, []⟩,
    ⟨(some 11), (.indexArr 1 64 (.g 6) (.t 10)), none, []⟩,
    ⟨(some 12), (.load none (.t 11)), none, []⟩,
    ⟨(some 13), (.conv .i64 (.t 12)), none, []⟩,
    ⟨(some 2), (.mov (.t 13)), none, []⟩] none)
  .ret)))
def F90 : AFunc := ⟨1, 14, [(.tmp 2)], B90⟩
def fs02 : FT := (.node 43 F43 (.node 23 F23 (.node 13 F13 (.node 8 F8 (.node 5 F5 (.node 4 F4 (.node 3 F3 .leaf .leaf) .leaf) (.node 7 F7 (.node 6 F6 .leaf .leaf) .leaf)) (.node 11 F11 (.node 10 F10 (.node 9 F9 .leaf .leaf) .leaf) (.node 12 F12 .leaf .leaf))) (.node 18 F18 (.node 16 F16 (.node 15 F15 (.node 14 F14 .leaf .leaf) .leaf) (.node 17 F17 .leaf .leaf)) (.node 21 F21 (.node 20 F20 (.node 19 F19 .leaf .leaf) .leaf) (.node 22 F22 .leaf .leaf)))) (.node 33 F33 (.node 28 F28 (.node 26 F26 (.node 25 F25 (.node 24 F24 .leaf .leaf) .leaf) (.node 27 F27 .leaf .leaf)) (.node 31 F31 (.node 30 F30 (.node 29 F29 .leaf .leaf) .leaf) (.node 32 F32 .leaf .leaf))) (.node 38 F38 (.node 36 F36 (.node 35 F35 (.node 34 F34 .leaf .leaf) .leaf) (.node 37 F37 .leaf .leaf)) (.node 41 F41 (.node 40 F40 (.node 39 F39 .leaf .leaf) .leaf) (.node 42 F42 .leaf .leaf))))) (.node 67 F67 (.node 55 F55 (.node 50 F50 (.node 47 F47 (.node 46 F46 (.node 44 F44 .leaf .leaf) .leaf) (.node 49 F49 (.node 48 F48 .leaf .leaf) .leaf)) (.node 53 F53 (.node 52 F52 (.node 51 F51 .leaf .leaf) .leaf) (.node 54 F54 .leaf .leaf))) (.node 60 F60 (.node 58 F58 (.node 57 F57 (.node 56 F56 .leaf .leaf) .leaf) (.node 59 F59 .leaf .leaf)) (.node 63 F63 (.node 62 F62 (.node 61 F61 .leaf .leaf) .leaf) (.node 64 F64 .leaf .leaf)))) (.node 81 F81 (.node 76 F76 (.node 74 F74 (.node 69 F69 (.node 68 F68 .leaf .leaf) .leaf) (.node 75 F75 .leaf .leaf)) (.node 79 F79 (.node 78 F78 (.node 77 F77 .leaf .leaf) .leaf) (.node 80 F80 .leaf .leaf))) (.node 86 F86 (.node 84 F84 (.node 83 F83 (.node 82 F82 .leaf .leaf) .leaf) (.node 85 F85 .leaf .leaf)) (.node 89 F89 (.node 88 F88 (.node 87 F87 .leaf .leaf) .leaf) (.node 90 F90 .leaf .leaf))))))
def ps02 : List (Nat × Prim) := [(65, .noEscape), (66, .makeNoZero 5), (71, .count), (72, .indexByte)]
end
end Go.Proofs.YtmkfjdajnamoaaaDoor.Am
