/- The functions of the program,printed by a program of ours as code of the abstract machine (F); that they are is proved in the next text. -/
import Derived.Test.YtkdpjaaohddppaaGreatDoorF0
namespace Go.Proofs.YtkdpjaaohddppaaGreatDoor.Am
noncomputable section
def F116L0 : ACode := (.seq (.seq (.region [⟨(some 19),(.mov (.t 4)),none,[]⟩,
 ⟨(some 20),(.bin .geq (.t 19) (.c (.int .i64 8))),none,[]⟩] none)
 (.cond (.t 20)
 .skip
 (.exit 0)))
 (.block 1 (.seq (.region [⟨(some 21),(.mov (.t 1)),none,[]⟩,
 ⟨(some 22),(.bin .rem (.t 21) (.c (.int .u64 100000000))),none,[]⟩,
 ⟨(some 23),(.conv .u32 (.t 22)),none,[]⟩,
 ⟨(some 5),(.mov (.t 23)),none,[]⟩] none)
 (.seq (.region [⟨(some 24),(.mov (.t 1)),none,[]⟩,
 ⟨(some 25),(.bin .quo (.t 24) (.c (.int .u64 100000000))),none,[]⟩,
 ⟨(some 1),(.mov (.t 25)),none,[]⟩] none)
 (.seq (.region [⟨(some 26),(.mov (.t 5)),none,[]⟩,
 ⟨(some 27),(.bin .quo (.t 26) (.c (.int .u32 10000))),none,[]⟩,
 ⟨(some 28),(.mov (.t 5)),none,[]⟩,
 ⟨(some 29),(.bin .rem (.t 28) (.c (.int .u32 10000))),none,[]⟩,
 ⟨(some 6),(.mov (.t 27)),none,[]⟩,
 ⟨(some 7),(.mov (.t 29)),none,[]⟩] none)
 (.seq (.region [⟨(some 30),(.mov (.t 7)),none,[]⟩,
 ⟨(some 31),(.bin .quo (.t 30) (.c (.int .u32 100))),none,[]⟩,
 ⟨(some 32),(.bin .mul (.t 31) (.c (.int .u32 2))),none,[]⟩,
 ⟨(some 33),(.mov (.t 7)),none,[]⟩,
 ⟨(some 34),(.bin .rem (.t 33) (.c (.int .u32 100))),none,[]⟩,
 ⟨(some 35),(.bin .mul (.t 34) (.c (.int .u32 2))),none,[]⟩,
 ⟨(some 8),(.mov (.t 32)),none,[]⟩,
 ⟨(some 9),(.mov (.t 35)),none,[]⟩] none)
 (.seq (.region [⟨(some 36),(.mov (.t 6)),none,[]⟩,
 ⟨(some 37),(.bin .quo (.t 36) (.c (.int .u32 100))),none,[]⟩,
 ⟨(some 38),(.bin .mul (.t 37) (.c (.int .u32 2))),none,[]⟩,
 ⟨(some 39),(.mov (.t 6)),none,[]⟩,
 ⟨(some 40),(.bin .rem (.t 39) (.c (.int .u32 100))),none,[]⟩,
 ⟨(some 41),(.bin .mul (.t 40) (.c (.int .u32 2))),none,[]⟩,
 ⟨(some 10),(.mov (.t 38)),none,[]⟩,
 ⟨(some 11),(.mov (.t 41)),none,[]⟩] none)
 (.seq R116_0
 (.seq R116_1
 (.seq R116_2
 (.seq R116_3
 (.region [⟨(some 94),(.mov (.t 4)),none,[]⟩,
 ⟨(some 95),(.bin .sub (.t 94) (.c (.int .i64 8))),none,[]⟩,
 ⟨(some 4),(.mov (.t 95)),none,[]⟩] none))))))))))))
def B116 : ACode := (.seq (.region [⟨(some 17),(.mov (.t 0)),none,[]⟩,
 ⟨(some 18),(.lenSlice (.t 17)),none,[]⟩,
 ⟨(some 4),(.mov (.t 18)),none,[]⟩] none)
 (.seq (.block 0 (.loop F116L0))
 (.seq (.region [⟨(some 96),(.mov (.t 1)),none,[]⟩,
 ⟨(some 97),(.conv .u32 (.t 96)),none,[]⟩,
 ⟨(some 12),(.mov (.t 97)),none,[]⟩] none)
 (.seq (.seq (.region [⟨(some 98),(.mov (.t 4)),none,[]⟩,
 ⟨(some 99),(.bin .geq (.t 98) (.c (.int .i64 4))),none,[]⟩] none)
 (.cond (.t 99)
 (.seq (.region [⟨(some 100),(.mov (.t 12)),none,[]⟩,
 ⟨(some 101),(.bin .rem (.t 100) (.c (.int .u32 10000))),none,[]⟩,
 ⟨(some 13),(.mov (.t 101)),none,[]⟩] none)
 (.seq (.region [⟨(some 102),(.mov (.t 12)),none,[]⟩,
 ⟨(some 103),(.bin .quo (.t 102) (.c (.int .u32 10000))),none,[]⟩,
 ⟨(some 12),(.mov (.t 103)),none,[]⟩] none)
 (.seq (.region [⟨(some 104),(.mov (.t 13)),none,[]⟩,
 ⟨(some 105),(.bin .quo (.t 104) (.c (.int .u32 100))),none,[]⟩,
 ⟨(some 106),(.bin .mul (.t 105) (.c (.int .u32 2))),none,[]⟩,
 ⟨(some 107),(.mov (.t 13)),none,[]⟩,
 ⟨(some 108),(.bin .rem (.t 107) (.c (.int .u32 100))),none,[]⟩,
 ⟨(some 109),(.bin .mul (.t 108) (.c (.int .u32 2))),none,[]⟩,
 ⟨(some 14),(.mov (.t 106)),none,[]⟩,
 ⟨(some 15),(.mov (.t 109)),none,[]⟩] none)
 (.seq R116_4
 (.seq R116_5
 (.region [⟨(some 136),(.mov (.t 4)),none,[]⟩,
 ⟨(some 137),(.bin .sub (.t 136) (.c (.int .i64 4))),none,[]⟩,
 ⟨(some 4),(.mov (.t 137)),none,[]⟩] none))))))
 .skip))
 (.seq (.seq (.region [⟨(some 138),(.mov (.t 4)),none,[]⟩,
 ⟨(some 139),(.bin .geq (.t 138) (.c (.int .i64 2))),none,[]⟩] none)
 (.cond (.t 139)
 (.seq (.region [⟨(some 140),(.mov (.t 12)),none,[]⟩,
 ⟨(some 141),(.bin .rem (.t 140) (.c (.int .u32 100))),none,[]⟩,
 ⟨(some 142),(.bin .mul (.t 141) (.c (.int .u32 2))),none,[]⟩,
 ⟨(some 16),(.mov (.t 142)),none,[]⟩] none)
 (.seq (.region [⟨(some 143),(.mov (.t 12)),none,[]⟩,
 ⟨(some 144),(.bin .quo (.t 143) (.c (.int .u32 100))),none,[]⟩,
 ⟨(some 12),(.mov (.t 144)),none,[]⟩] none)
 (.seq R116_6
 (.region [⟨(some 158),(.mov (.t 4)),none,[]⟩,
 ⟨(some 159),(.bin .sub (.t 158) (.c (.int .i64 2))),none,[]⟩,
 ⟨(some 4),(.mov (.t 159)),none,[]⟩] none))))
 .skip))
 (.seq (.region [⟨(some 160),(.mov (.t 4)),none,[]⟩,
 ⟨(some 161),(.bin .gtr (.t 160) (.c (.int .i64 0))),none,[]⟩] none)
 (.cond (.t 161)
 (.region [⟨(some 162),(.mov (.t 0)),none,[]⟩,
 ⟨(some 163),(.mov (.t 12)),none,[]⟩,
 ⟨(some 164),(.bin .add (.c (.int .u32 48)) (.t 163)),none,[]⟩,
 ⟨(some 165),(.conv .u8 (.t 164)),none,[]⟩,
 ⟨(some 166),(.indexAddr 1 (.t 162) (.c (.int .i64 0))),none,[]⟩,
 ⟨none,(.store 1 (.t 166) (.t 165)),none,[]⟩] none)
 .skip)))))))
def F116 : AFunc := ⟨2,167,[],B116⟩
def B117 : ACode := (.seq (.region [⟨(some 2),(.mov (.c (.int .i64 0))),none,[]⟩] none)
 (.seq (.seq (.region [⟨(some 3),(.mov (.t 0)),none,[]⟩] none)
 (.cond (.t 3)
 (.seq (.region [⟨(some 2),(.mov (.c (.int .i64 1))),none,[]⟩] none)
 .ret)
 .skip))
 (.seq (.region [⟨(some 2),(.mov (.c (.int .i64 0))),none,[]⟩] none)
 .ret)))
def F117 : AFunc := ⟨1,4,[(.tmp 2)],B117⟩
def B118 : ACode := (.seq (.region [⟨(some 2),(.mov (.c (.int .u64 0))),none,[]⟩] none)
 (.seq (.region [⟨(some 3),(.mov (.t 0)),none,[]⟩,
 ⟨(some 4),(.bin .shl (.t 3) (.c (.int .u64 2))),none,[]⟩,
 ⟨(some 5),(.bin .sub (.t 4) (.c (.int .u64 2))),none,[]⟩,
 ⟨(some 2),(.mov (.t 5)),none,[]⟩] none)
 .ret))
def F118 : AFunc := ⟨1,6,[(.tmp 2)],B118⟩
def R120_0 : ACode := .region [⟨(some 2),(.mov (.t 0)),none,[]⟩,
 ⟨(some 3),(.nilCheck (.t 2)),none,[0]⟩,
 ⟨(some 4),(.fieldAddr 800 (.t 3)),none,[1]⟩,
 ⟨(some 5),(.load none (.t 4)),none,[2]⟩,
 ⟨(some 6),(.bin .gtr (.t 5) (.c (.int .i64 0))),none,[3]⟩,
 ⟨(some 7),(.mov (.t 6)),none,[4]⟩,
 ⟨(some 8),(.mov (.t 0)),(some (7,true)),[5]⟩,
 ⟨(some 9),(.mov (.t 0)),(some (7,true)),[5]⟩,
 ⟨(some 10),(.nilCheck (.t 9)),(some (7,true)),[7,5]⟩,
 ⟨(some 11),(.fieldAddr 800 (.t 10)),(some (7,true)),[8,5]⟩,
 ⟨(some 12),(.load none (.t 11)),(some (7,true)),[9,5]⟩,
 ⟨(some 13),(.bin .sub (.t 12) (.c (.int .i64 1))),(some (7,true)),[10,5]⟩,
 ⟨(some 14),(.nilCheck (.t 8)),(some (7,true)),[6,5]⟩,
 ⟨(some 15),(.fieldAddr 0 (.t 14)),(some (7,true)),[12,5]⟩,
 ⟨(some 16),(.indexArr 1 800 (.t 15) (.t 13)),(some (7,true)),[13,11,5]⟩,
 ⟨(some 17),(.load none (.t 16)),(some (7,true)),[14,5]⟩,
 ⟨(some 18),(.bin .eql (.t 17) (.c (.int .u8 48))),(some (7,true)),[15,5]⟩,
 ⟨(some 19),(.pick (.t 7) (.t 18) (.c (.bool false))),none,[5,16]⟩] (some [(6,7),(6,8),(6,9),(6,10),(6,11),(7,12),(8,12),(9,12),(10,12),(11,12),(7,13),(8,13),(9,13),(10,13),(11,13)])
def F120L0 : ACode := (.seq (.seq R120_0
 (.cond (.t 19)
 .skip
 (.exit 0)))
 (.block 1 (.region [⟨(some 20),(.mov (.t 0)),none,[]⟩,
 ⟨(some 21),(.nilCheck (.t 20)),none,[]⟩,
 ⟨(some 22),(.fieldAddr 800 (.t 21)),none,[]⟩,
 ⟨(some 23),(.load none (.t 22)),none,[]⟩,
 ⟨(some 24),(.bin .sub (.t 23) (.c (.int .i64 1))),none,[]⟩,
 ⟨(some 25),(.nilCheck (.t 20)),none,[]⟩,
 ⟨(some 26),(.fieldAddr 800 (.t 25)),none,[]⟩,
 ⟨none,(.store 1 (.t 26) (.t 24)),none,[]⟩] none)))
def B120 : ACode := (.seq (.block 0 (.loop F120L0))
 (.seq (.region [⟨(some 27),(.mov (.t 0)),none,[]⟩,
 ⟨(some 28),(.nilCheck (.t 27)),none,[]⟩,
 ⟨(some 29),(.fieldAddr 800 (.t 28)),none,[]⟩,
 ⟨(some 30),(.load none (.t 29)),none,[]⟩,
 ⟨(some 31),(.bin .eql (.t 30) (.c (.int .i64 0))),none,[]⟩] none)
 (.cond (.t 31)
 (.region [⟨(some 32),(.mov (.t 0)),none,[]⟩,
 ⟨(some 33),(.nilCheck (.t 32)),none,[]⟩,
 ⟨(some 34),(.fieldAddr 801 (.t 33)),none,[]⟩,
 ⟨none,(.store 1 (.t 34) (.c (.int .i64 0))),none,[]⟩] none)
 .skip)))
def F120 : AFunc := ⟨1,35,[],B120⟩
def R121_0 : ACode := .region [⟨(some 17),(.mov (.t 0)),none,[]⟩,
 ⟨(some 18),(.nilCheck (.t 17)),none,[0]⟩,
 ⟨(some 19),(.fieldAddr 0 (.t 18)),none,[1]⟩,
 ⟨(some 20),(.mov (.t 0)),none,[]⟩,
 ⟨(some 21),(.nilCheck (.t 20)),none,[3]⟩,
 ⟨(some 22),(.fieldAddr 800 (.t 21)),none,[4]⟩,
 ⟨(some 23),(.load none (.t 22)),none,[5]⟩,
 ⟨(some 24),(.sliceArr 1 800 (.t 19) (some (.c (.int .i64 0))) (some (.t 23))),none,[2,6]⟩,
 ⟨(some 25),(.load none (.g 15)),none,[]⟩,
 ⟨(some 26),(.mov (.t 1)),none,[]⟩,
 ⟨(some 27),(.indexAddr 2 (.t 25) (.t 26)),none,[8,9]⟩,
 ⟨(some 28),(.fieldAddr 1 (.t 27)),none,[10]⟩,
 ⟨(some 29),(.load none (.t 28)),none,[11]⟩,
 ⟨(some 30),(.call (.f 140) [(.t 24),(.t 29)]),none,[7,12]⟩] (some [(0,3),(1,3),(2,3),(0,4),(1,4),(2,4),(0,5),(1,5),(2,5),(0,6),(1,6),(2,6),(0,8),(1,8),(2,8),(3,8),(4,8),(5,8),(6,8),(7,8),(0,9),(1,9),(2,9),(3,9),(4,9),(5,9),(6,9),(7,9),(8,9),(0,10),(1,10),(2,10),(3,10),(4,10),(5,10),(6,10),(7,10),(0,11),(1,11),(2,11),(3,11),(4,11),(5,11),(6,11),(7,11),(0,12),(1,12),(2,12),(3,12),(4,12),(5,12),(6,12),(7,12)])
def F121L0 : ACode := (.seq (.seq (.region [⟨(some 45),(.mov (.t 5)),none,[]⟩,
 ⟨(some 46),(.bin .geq (.t 45) (.c (.int .i64 0))),none,[]⟩] none)
 (.cond (.t 46)
 .skip
 (.exit 0)))
 (.seq (.block 1 (.seq (.region [⟨(some 49),(.mov (.t 7)),none,[]⟩,
 ⟨(some 50),(.mov (.t 0)),none,[]⟩,
 ⟨(some 51),(.mov (.t 5)),none,[]⟩,
 ⟨(some 52),(.nilCheck (.t 50)),none,[]⟩,
 ⟨(some 53),(.fieldAddr 0 (.t 52)),none,[]⟩,
 ⟨(some 54),(.indexArr 1 800 (.t 53) (.t 51)),none,[]⟩,
 ⟨(some 55),(.load none (.t 54)),none,[]⟩,
 ⟨(some 56),(.conv .u64 (.t 55)),none,[]⟩,
 ⟨(some 57),(.bin .sub (.t 56) (.c (.int .u64 48))),none,[]⟩,
 ⟨(some 58),(.mov (.t 1)),none,[]⟩,
 ⟨(some 59),(.bin .shl (.t 57) (.t 58)),none,[]⟩,
 ⟨(some 60),(.bin .add (.t 49) (.t 59)),none,[]⟩,
 ⟨(some 7),(.mov (.t 60)),none,[]⟩] none)
 (.seq (.region [⟨(some 61),(.mov (.t 7)),none,[]⟩,
 ⟨(some 62),(.bin .quo (.t 61) (.c (.int .u64 10))),none,[]⟩,
 ⟨(some 8),(.mov (.t 62)),none,[]⟩] none)
 (.seq (.region [⟨(some 63),(.mov (.t 7)),none,[]⟩,
 ⟨(some 64),(.mov (.t 8)),none,[]⟩,
 ⟨(some 65),(.bin .mul (.c (.int .u64 10)) (.t 64)),none,[]⟩,
 ⟨(some 66),(.bin .sub (.t 63) (.t 65)),none,[]⟩,
 ⟨(some 9),(.mov (.t 66)),none,[]⟩] none)
 (.seq (.region [⟨(some 67),(.mov (.t 6)),none,[]⟩,
 ⟨(some 68),(.bin .sub (.t 67) (.c (.int .i64 1))),none,[]⟩,
 ⟨(some 6),(.mov (.t 68)),none,[]⟩] none)
 (.seq (.seq (.region [⟨(some 69),(.mov (.t 6)),none,[]⟩,
 ⟨(some 70),(.bin .lss (.t 69) (.c (.int .i64 800))),none,[]⟩] none)
 (.cond (.t 70)
 (.region [⟨(some 71),(.mov (.t 0)),none,[]⟩,
 ⟨(some 72),(.mov (.t 6)),none,[]⟩,
 ⟨(some 73),(.mov (.t 9)),none,[]⟩,
 ⟨(some 74),(.bin .add (.t 73) (.c (.int .u64 48))),none,[]⟩,
 ⟨(some 75),(.conv .u8 (.t 74)),none,[]⟩,
 ⟨(some 76),(.nilCheck (.t 71)),none,[]⟩,
 ⟨(some 77),(.fieldAddr 0 (.t 76)),none,[]⟩,
 ⟨(some 78),(.indexArr 1 800 (.t 77) (.t 72)),none,[]⟩,
 ⟨none,(.store 1 (.t 78) (.t 75)),none,[]⟩] none)
 (.seq (.region [⟨(some 79),(.mov (.t 9)),none,[]⟩,
 ⟨(some 80),(.bin .neq (.t 79) (.c (.int .u64 0))),none,[]⟩] none)
 (.cond (.t 80)
 (.region [⟨(some 81),(.mov (.t 0)),none,[]⟩,
 ⟨(some 82),(.nilCheck (.t 81)),none,[]⟩,
 ⟨(some 83),(.fieldAddr 803 (.t 82)),none,[]⟩,
 ⟨none,(.store 1 (.t 83) (.c (.bool true))),none,[]⟩] none)
 .skip))))
 (.region [⟨(some 84),(.mov (.t 8)),none,[]⟩,
 ⟨(some 7),(.mov (.t 84)),none,[]⟩] none)))))))
 (.region [⟨(some 47),(.mov (.t 5)),none,[]⟩,
 ⟨(some 48),(.bin .sub (.t 47) (.c (.int .i64 1))),none,[]⟩,
 ⟨(some 5),(.mov (.t 48)),none,[]⟩] none)))
def F121L1 : ACode := (.seq (.seq (.region [⟨(some 85),(.mov (.t 7)),none,[]⟩,
 ⟨(some 86),(.bin .gtr (.t 85) (.c (.int .u64 0))),none,[]⟩] none)
 (.cond (.t 86)
 .skip
 (.exit 2)))
 (.block 3 (.seq (.region [⟨(some 87),(.mov (.t 7)),none,[]⟩,
 ⟨(some 88),(.bin .quo (.t 87) (.c (.int .u64 10))),none,[]⟩,
 ⟨(some 10),(.mov (.t 88)),none,[]⟩] none)
 (.seq (.region [⟨(some 89),(.mov (.t 7)),none,[]⟩,
 ⟨(some 90),(.mov (.t 10)),none,[]⟩,
 ⟨(some 91),(.bin .mul (.c (.int .u64 10)) (.t 90)),none,[]⟩,
 ⟨(some 92),(.bin .sub (.t 89) (.t 91)),none,[]⟩,
 ⟨(some 11),(.mov (.t 92)),none,[]⟩] none)
 (.seq (.region [⟨(some 93),(.mov (.t 6)),none,[]⟩,
 ⟨(some 94),(.bin .sub (.t 93) (.c (.int .i64 1))),none,[]⟩,
 ⟨(some 6),(.mov (.t 94)),none,[]⟩] none)
 (.seq (.seq (.region [⟨(some 95),(.mov (.t 6)),none,[]⟩,
 ⟨(some 96),(.bin .lss (.t 95) (.c (.int .i64 800))),none,[]⟩] none)
 (.cond (.t 96)
 (.region [⟨(some 97),(.mov (.t 0)),none,[]⟩,
 ⟨(some 98),(.mov (.t 6)),none,[]⟩,
 ⟨(some 99),(.mov (.t 11)),none,[]⟩,
 ⟨(some 100),(.bin .add (.t 99) (.c (.int .u64 48))),none,[]⟩,
 ⟨(some 101),(.conv .u8 (.t 100)),none,[]⟩,
 ⟨(some 102),(.nilCheck (.t 97)),none,[]⟩,
 ⟨(some 103),(.fieldAddr 0 (.t 102)),none,[]⟩,
 ⟨(some 104),(.indexArr 1 800 (.t 103) (.t 98)),none,[]⟩,
 ⟨none,(.store 1 (.t 104) (.t 101)),none,[]⟩] none)
 (.seq (.region [⟨(some 105),(.mov (.t 11)),none,[]⟩,
 ⟨(some 106),(.bin .neq (.t 105) (.c (.int .u64 0))),none,[]⟩] none)
 (.cond (.t 106)
 (.region [⟨(some 107),(.mov (.t 0)),none,[]⟩,
 ⟨(some 108),(.nilCheck (.t 107)),none,[]⟩,
 ⟨(some 109),(.fieldAddr 803 (.t 108)),none,[]⟩,
 ⟨none,(.store 1 (.t 109) (.c (.bool true))),none,[]⟩] none)
 .skip))))
 (.region [⟨(some 110),(.mov (.t 10)),none,[]⟩,
 ⟨(some 7),(.mov (.t 110)),none,[]⟩] none)))))))
def B121 : ACode := (.seq (.region [⟨(some 12),(.load none (.g 15)),none,[]⟩,
 ⟨(some 13),(.mov (.t 1)),none,[]⟩,
 ⟨(some 14),(.indexAddr 2 (.t 12) (.t 13)),none,[]⟩,
 ⟨(some 15),(.fieldAddr 0 (.t 14)),none,[]⟩,
 ⟨(some 16),(.load none (.t 15)),none,[]⟩,
 ⟨(some 4),(.mov (.t 16)),none,[]⟩] none)
 (.seq (.seq R121_0
 (.cond (.t 30)
 (.region [⟨(some 31),(.mov (.t 4)),none,[]⟩,
 ⟨(some 32),(.bin .sub (.t 31) (.c (.int .i64 1))),none,[]⟩,
 ⟨(some 4),(.mov (.t 32)),none,[]⟩] none)
 .skip))
 (.seq (.region [⟨(some 33),(.mov (.t 0)),none,[]⟩,
 ⟨(some 34),(.nilCheck (.t 33)),none,[]⟩,
 ⟨(some 35),(.fieldAddr 800 (.t 34)),none,[]⟩,
 ⟨(some 36),(.load none (.t 35)),none,[]⟩,
 ⟨(some 5),(.mov (.t 36)),none,[]⟩] none)
 (.seq (.region [⟨(some 37),(.mov (.t 0)),none,[]⟩,
 ⟨(some 38),(.nilCheck (.t 37)),none,[]⟩,
 ⟨(some 39),(.fieldAddr 800 (.t 38)),none,[]⟩,
 ⟨(some 40),(.load none (.t 39)),none,[]⟩,
 ⟨(some 41),(.mov (.t 4)),none,[]⟩,
 ⟨(some 42),(.bin .add (.t 40) (.t 41)),none,[]⟩,
 ⟨(some 6),(.mov (.t 42)),none,[]⟩] none)
 (.seq (.region [⟨(some 7),(.mov (.c (.int .u64 0))),none,[]⟩] none)
 (.seq (.seq (.region [⟨(some 43),(.mov (.t 5)),none,[]⟩,
 ⟨(some 44),(.bin .sub (.t 43) (.c (.int .i64 1))),none,[]⟩,
 ⟨(some 5),(.mov (.t 44)),none,[]⟩] none)
 (.block 0 (.loop F121L0)))
 (.seq (.block 2 (.loop F121L1))
 (.seq (.region [⟨(some 111),(.mov (.t 0)),none,[]⟩,
 ⟨(some 112),(.nilCheck (.t 111)),none,[]⟩,
 ⟨(some 113),(.fieldAddr 800 (.t 112)),none,[]⟩,
 ⟨(some 114),(.load none (.t 113)),none,[]⟩,
 ⟨(some 115),(.mov (.t 4)),none,[]⟩,
 ⟨(some 116),(.bin .add (.t 114) (.t 115)),none,[]⟩,
 ⟨(some 117),(.nilCheck (.t 111)),none,[]⟩,
 ⟨(some 118),(.fieldAddr 800 (.t 117)),none,[]⟩,
 ⟨none,(.store 1 (.t 118) (.t 116)),none,[]⟩] none)
 (.seq (.seq (.region [⟨(some 119),(.mov (.t 0)),none,[]⟩,
 ⟨(some 120),(.nilCheck (.t 119)),none,[]⟩,
 ⟨(some 121),(.fieldAddr 800 (.t 120)),none,[]⟩,
 ⟨(some 122),(.load none (.t 121)),none,[]⟩,
 ⟨(some 123),(.bin .geq (.t 122) (.c (.int .i64 800))),none,[]⟩] none)
 (.cond (.t 123)
 (.region [⟨(some 124),(.mov (.t 0)),none,[]⟩,
 ⟨(some 125),(.nilCheck (.t 124)),none,[]⟩,
 ⟨(some 126),(.fieldAddr 800 (.t 125)),none,[]⟩,
 ⟨none,(.store 1 (.t 126) (.c (.int .i64 800))),none,[]⟩] none)
 .skip))
 (.seq (.region [⟨(some 127),(.mov (.t 0)),none,[]⟩,
 ⟨(some 128),(.nilCheck (.t 127)),none,[]⟩,
 ⟨(some 129),(.fieldAddr 801 (.t 128)),none,[]⟩,
 ⟨(some 130),(.load none (.t 129)),none,[]⟩,
 ⟨(some 131),(.mov (.t 4)),none,[]⟩,
 ⟨(some 132),(.bin .add (.t 130) (.t 131)),none,[]⟩,
 ⟨(some 133),(.nilCheck (.t 127)),none,[]⟩,
 ⟨(some 134),(.fieldAddr 801 (.t 133)),none,[]⟩,
 ⟨none,(.store 1 (.t 134) (.t 132)),none,[]⟩] none)
 (.region [⟨(some 135),(.mov (.t 0)),none,[]⟩,
 ⟨(some 136),(.call (.f 120) [(.t 135)]),none,[]⟩] none)))))))))))
def F121 : AFunc := ⟨2,137,[],B121⟩

def F122L0 : ACode := (.seq (.seq (.region [⟨(some 29),(.mov (.t 6)),none,[]⟩,
 ⟨(some 30),(.mov (.t 1)),none,[]⟩,
 ⟨(some 31),(.bin .shr (.t 29) (.t 30)),none,[]⟩,
 ⟨(some 32),(.bin .eql (.t 31) (.c (.int .u64 0))),none,[]⟩] none)
 (.cond (.t 32)
 .skip
 (.exit 2)))
 (.block 3 (.seq (.region [⟨(some 33),(.mov (.t 6)),none,[]⟩,
 ⟨(some 34),(.bin .mul (.t 33) (.c (.int .u64 10))),none,[]⟩,
 ⟨(some 6),(.mov (.t 34)),none,[]⟩] none)
 (.region [⟨(some 35),(.mov (.t 4)),none,[]⟩,
 ⟨(some 36),(.bin .add (.t 35) (.c (.int .i64 1))),none,[]⟩,
 ⟨(some 4),(.mov (.t 36)),none,[]⟩] none))))
def F122L1 : ACode := (.seq (.seq (.region [⟨(some 12),(.mov (.t 6)),none,[]⟩,
 ⟨(some 13),(.mov (.t 1)),none,[]⟩,
 ⟨(some 14),(.bin .shr (.t 12) (.t 13)),none,[]⟩,
 ⟨(some 15),(.bin .eql (.t 14) (.c (.int .u64 0))),none,[]⟩] none)
 (.cond (.t 15)
 .skip
 (.exit 0)))
 (.seq (.block 1 (.seq (.seq (.region [⟨(some 18),(.mov (.t 4)),none,[]⟩,
 ⟨(some 19),(.mov (.t 0)),none,[]⟩,
 ⟨(some 20),(.nilCheck (.t 19)),none,[]⟩,
 ⟨(some 21),(.fieldAddr 800 (.t 20)),none,[]⟩,
 ⟨(some 22),(.load none (.t 21)),none,[]⟩,
 ⟨(some 23),(.bin .geq (.t 18) (.t 22)),none,[]⟩] none)
 (.cond (.t 23)
 (.seq (.seq (.region [⟨(some 24),(.mov (.t 6)),none,[]⟩,
 ⟨(some 25),(.bin .eql (.t 24) (.c (.int .u64 0))),none,[]⟩] none)
 (.cond (.t 25)
 (.seq (.region [⟨(some 26),(.mov (.t 0)),none,[]⟩,
 ⟨(some 27),(.nilCheck (.t 26)),none,[]⟩,
 ⟨(some 28),(.fieldAddr 800 (.t 27)),none,[]⟩,
 ⟨none,(.store 1 (.t 28) (.c (.int .i64 0))),none,[]⟩] none)
 .ret)
 .skip))
 (.seq (.block 2 (.loop F122L0))
 (.exit 0)))
 .skip))
 (.seq (.region [⟨(some 37),(.mov (.t 0)),none,[]⟩,
 ⟨(some 38),(.mov (.t 4)),none,[]⟩,
 ⟨(some 39),(.nilCheck (.t 37)),none,[]⟩,
 ⟨(some 40),(.fieldAddr 0 (.t 39)),none,[]⟩,
 ⟨(some 41),(.indexArr 1 800 (.t 40) (.t 38)),none,[]⟩,
 ⟨(some 42),(.load none (.t 41)),none,[]⟩,
 ⟨(some 43),(.conv .u64 (.t 42)),none,[]⟩,
 ⟨(some 7),(.mov (.t 43)),none,[]⟩] none)
 (.region [⟨(some 44),(.mov (.t 6)),none,[]⟩,
 ⟨(some 45),(.bin .mul (.t 44) (.c (.int .u64 10))),none,[]⟩,
 ⟨(some 46),(.mov (.t 7)),none,[]⟩,
 ⟨(some 47),(.bin .add (.t 45) (.t 46)),none,[]⟩,
 ⟨(some 48),(.bin .sub (.t 47) (.c (.int .u64 48))),none,[]⟩,
 ⟨(some 6),(.mov (.t 48)),none,[]⟩] none))))
 (.region [⟨(some 16),(.mov (.t 4)),none,[]⟩,
 ⟨(some 17),(.bin .add (.t 16) (.c (.int .i64 1))),none,[]⟩,
 ⟨(some 4),(.mov (.t 17)),none,[]⟩] none)))
def F122L2 : ACode := (.seq (.seq (.region [⟨(some 61),(.mov (.t 4)),none,[]⟩,
 ⟨(some 62),(.mov (.t 0)),none,[]⟩,
 ⟨(some 63),(.nilCheck (.t 62)),none,[]⟩,
 ⟨(some 64),(.fieldAddr 800 (.t 63)),none,[]⟩,
 ⟨(some 65),(.load none (.t 64)),none,[]⟩,
 ⟨(some 66),(.bin .lss (.t 61) (.t 65)),none,[]⟩] none)
 (.cond (.t 66)
 .skip
 (.exit 4)))
 (.seq (.block 5 (.seq (.region [⟨(some 69),(.mov (.t 0)),none,[]⟩,
 ⟨(some 70),(.mov (.t 4)),none,[]⟩,
 ⟨(some 71),(.nilCheck (.t 69)),none,[]⟩,
 ⟨(some 72),(.fieldAddr 0 (.t 71)),none,[]⟩,
 ⟨(some 73),(.indexArr 1 800 (.t 72) (.t 70)),none,[]⟩,
 ⟨(some 74),(.load none (.t 73)),none,[]⟩,
 ⟨(some 75),(.conv .u64 (.t 74)),none,[]⟩,
 ⟨(some 9),(.mov (.t 75)),none,[]⟩] none)
 (.seq (.region [⟨(some 76),(.mov (.t 6)),none,[]⟩,
 ⟨(some 77),(.mov (.t 1)),none,[]⟩,
 ⟨(some 78),(.bin .shr (.t 76) (.t 77)),none,[]⟩,
 ⟨(some 10),(.mov (.t 78)),none,[]⟩] none)
 (.seq (.region [⟨(some 79),(.mov (.t 6)),none,[]⟩,
 ⟨(some 80),(.mov (.t 8)),none,[]⟩,
 ⟨(some 81),(.bin .and (.t 79) (.t 80)),none,[]⟩,
 ⟨(some 6),(.mov (.t 81)),none,[]⟩] none)
 (.seq (.region [⟨(some 82),(.mov (.t 0)),none,[]⟩,
 ⟨(some 83),(.mov (.t 5)),none,[]⟩,
 ⟨(some 84),(.mov (.t 10)),none,[]⟩,
 ⟨(some 85),(.bin .add (.t 84) (.c (.int .u64 48))),none,[]⟩,
 ⟨(some 86),(.conv .u8 (.t 85)),none,[]⟩,
 ⟨(some 87),(.nilCheck (.t 82)),none,[]⟩,
 ⟨(some 88),(.fieldAddr 0 (.t 87)),none,[]⟩,
 ⟨(some 89),(.indexArr 1 800 (.t 88) (.t 83)),none,[]⟩,
 ⟨none,(.store 1 (.t 89) (.t 86)),none,[]⟩] none)
 (.seq (.region [⟨(some 90),(.mov (.t 5)),none,[]⟩,
 ⟨(some 91),(.bin .add (.t 90) (.c (.int .i64 1))),none,[]⟩,
 ⟨(some 5),(.mov (.t 91)),none,[]⟩] none)
 (.region [⟨(some 92),(.mov (.t 6)),none,[]⟩,
 ⟨(some 93),(.bin .mul (.t 92) (.c (.int .u64 10))),none,[]⟩,
 ⟨(some 94),(.mov (.t 9)),none,[]⟩,
 ⟨(some 95),(.bin .add (.t 93) (.t 94)),none,[]⟩,
 ⟨(some 96),(.bin .sub (.t 95) (.c (.int .u64 48))),none,[]⟩,
 ⟨(some 6),(.mov (.t 96)),none,[]⟩] none)))))))
 (.region [⟨(some 67),(.mov (.t 4)),none,[]⟩,
 ⟨(some 68),(.bin .add (.t 67) (.c (.int .i64 1))),none,[]⟩,
 ⟨(some 4),(.mov (.t 68)),none,[]⟩] none)))
def F122L3 : ACode := (.seq (.seq (.region [⟨(some 97),(.mov (.t 6)),none,[]⟩,
 ⟨(some 98),(.bin .gtr (.t 97) (.c (.int .u64 0))),none,[]⟩] none)
 (.cond (.t 98)
 .skip
 (.exit 6)))
 (.block 7 (.seq (.region [⟨(some 99),(.mov (.t 6)),none,[]⟩,
 ⟨(some 100),(.mov (.t 1)),none,[]⟩,
 ⟨(some 101),(.bin .shr (.t 99) (.t 100)),none,[]⟩,
 ⟨(some 11),(.mov (.t 101)),none,[]⟩] none)
 (.seq (.region [⟨(some 102),(.mov (.t 6)),none,[]⟩,
 ⟨(some 103),(.mov (.t 8)),none,[]⟩,
 ⟨(some 104),(.bin .and (.t 102) (.t 103)),none,[]⟩,
 ⟨(some 6),(.mov (.t 104)),none,[]⟩] none)
 (.seq (.seq (.region [⟨(some 105),(.mov (.t 5)),none,[]⟩,
 ⟨(some 106),(.bin .lss (.t 105) (.c (.int .i64 800))),none,[]⟩] none)
 (.cond (.t 106)
 (.seq (.region [⟨(some 107),(.mov (.t 0)),none,[]⟩,
 ⟨(some 108),(.mov (.t 5)),none,[]⟩,
 ⟨(some 109),(.mov (.t 11)),none,[]⟩,
 ⟨(some 110),(.bin .add (.t 109) (.c (.int .u64 48))),none,[]⟩,
 ⟨(some 111),(.conv .u8 (.t 110)),none,[]⟩,
 ⟨(some 112),(.nilCheck (.t 107)),none,[]⟩,
 ⟨(some 113),(.fieldAddr 0 (.t 112)),none,[]⟩,
 ⟨(some 114),(.indexArr 1 800 (.t 113) (.t 108)),none,[]⟩,
 ⟨none,(.store 1 (.t 114) (.t 111)),none,[]⟩] none)
 (.region [⟨(some 115),(.mov (.t 5)),none,[]⟩,
 ⟨(some 116),(.bin .add (.t 115) (.c (.int .i64 1))),none,[]⟩,
 ⟨(some 5),(.mov (.t 116)),none,[]⟩] none))
 (.seq (.region [⟨(some 117),(.mov (.t 11)),none,[]⟩,
 ⟨(some 118),(.bin .gtr (.t 117) (.c (.int .u64 0))),none,[]⟩] none)
 (.cond (.t 118)
 (.region [⟨(some 119),(.mov (.t 0)),none,[]⟩,
 ⟨(some 120),(.nilCheck (.t 119)),none,[]⟩,
 ⟨(some 121),(.fieldAddr 803 (.t 120)),none,[]⟩,
 ⟨none,(.store 1 (.t 121) (.c (.bool true))),none,[]⟩] none)
 .skip))))
 (.region [⟨(some 122),(.mov (.t 6)),none,[]⟩,
 ⟨(some 123),(.bin .mul (.t 122) (.c (.int .u64 10))),none,[]⟩,
 ⟨(some 6),(.mov (.t 123)),none,[]⟩] none))))))
def B122 : ACode := (.seq (.region [⟨(some 4),(.mov (.c (.int .i64 0))),none,[]⟩] none)
 (.seq (.region [⟨(some 5),(.mov (.c (.int .i64 0))),none,[]⟩] none)
 (.seq (.region [⟨(some 6),(.mov (.c (.int .u64 0))),none,[]⟩] none)
 (.seq (.block 0 (.loop F122L1))
 (.seq (.region [⟨(some 49),(.mov (.t 0)),none,[]⟩,
 ⟨(some 50),(.nilCheck (.t 49)),none,[]⟩,
 ⟨(some 51),(.fieldAddr 801 (.t 50)),none,[]⟩,
 ⟨(some 52),(.load none (.t 51)),none,[]⟩,
 ⟨(some 53),(.mov (.t 4)),none,[]⟩,
 ⟨(some 54),(.bin .sub (.t 53) (.c (.int .i64 1))),none,[]⟩,
 ⟨(some 55),(.bin .sub (.t 52) (.t 54)),none,[]⟩,
 ⟨(some 56),(.nilCheck (.t 49)),none,[]⟩,
 ⟨(some 57),(.fieldAddr 801 (.t 56)),none,[]⟩,
 ⟨none,(.store 1 (.t 57) (.t 55)),none,[]⟩] none)
 (.seq (.region [⟨(some 58),(.mov (.t 1)),none,[]⟩,
 ⟨(some 59),(.bin .shl (.c (.int .u64 1)) (.t 58)),none,[]⟩,
 ⟨(some 60),(.bin .sub (.t 59) (.c (.int .u64 1))),none,[]⟩,
 ⟨(some 8),(.mov (.t 60)),none,[]⟩] none)
 (.seq (.block 4 (.loop F122L2))
 (.seq (.block 6 (.loop F122L3))
 (.seq (.region [⟨(some 124),(.mov (.t 0)),none,[]⟩,
 ⟨(some 125),(.mov (.t 5)),none,[]⟩,
 ⟨(some 126),(.nilCheck (.t 124)),none,[]⟩,
 ⟨(some 127),(.fieldAddr 800 (.t 126)),none,[]⟩,
 ⟨none,(.store 1 (.t 127) (.t 125)),none,[]⟩] none)
 (.region [⟨(some 128),(.mov (.t 0)),none,[]⟩,
 ⟨(some 129),(.call (.f 120) [(.t 128)]),none,[]⟩] none))))))))))
def F122 : AFunc := ⟨2,130,[],B122⟩



def B123 : ACode := (.seq (.region [⟨(some 4),(.mov (.c (.bool false))),none,[]⟩] none)
 (.seq (.seq (.region [⟨(some 5),(.mov (.t 1)),none,[]⟩,
 ⟨(some 6),(.bin .lss (.t 5) (.c (.int .i64 0))),none,[]⟩,
 ⟨(some 7),(.mov (.t 6)),none,[]⟩,
 ⟨(some 8),(.mov (.t 1)),(some (7,false)),[]⟩,
 ⟨(some 9),(.mov (.t 0)),(some (7,false)),[]⟩,
 ⟨(some 10),(.nilCheck (.t 9)),(some (7,false)),[]⟩,
 ⟨(some 11),(.fieldAddr 800 (.t 10)),(some (7,false)),[]⟩,
 ⟨(some 12),(.load none (.t 11)),(some (7,false)),[]⟩,
 ⟨(some 13),(.bin .geq (.t 8) (.t 12)),(some (7,false)),[]⟩,
 ⟨(some 14),(.pick (.t 7) (.c (.bool true)) (.t 13)),none,[]⟩] none)
 (.cond (.t 14)
 (.seq (.region [⟨(some 4),(.mov (.c (.bool false))),none,[]⟩] none)
 .ret)
 .skip))
 (.seq (.seq (.region [⟨(some 15),(.mov (.t 0)),none,[]⟩,
 ⟨(some 16),(.mov (.t 1)),none,[]⟩,
 ⟨(some 17),(.nilCheck (.t 15)),none,[]⟩,
 ⟨(some 18),(.fieldAddr 0 (.t 17)),none,[]⟩,
 ⟨(some 19),(.indexArr 1 800 (.t 18) (.t 16)),none,[]⟩,
 ⟨(some 20),(.load none (.t 19)),none,[]⟩,
 ⟨(some 21),(.bin .eql (.t 20) (.c (.int .u8 53))),none,[]⟩,
 ⟨(some 22),(.mov (.t 21)),none,[]⟩,
 ⟨(some 23),(.mov (.t 1)),(some (22,true)),[]⟩,
 ⟨(some 24),(.bin .add (.t 23) (.c (.int .i64 1))),(some (22,true)),[]⟩,
 ⟨(some 25),(.mov (.t 0)),(some (22,true)),[]⟩,
 ⟨(some 26),(.nilCheck (.t 25)),(some (22,true)),[]⟩,
 ⟨(some 27),(.fieldAddr 800 (.t 26)),(some (22,true)),[]⟩,
 ⟨(some 28),(.load none (.t 27)),(some (22,true)),[]⟩,
 ⟨(some 29),(.bin .eql (.t 24) (.t 28)),(some (22,true)),[]⟩,
 ⟨(some 30),(.pick (.t 22) (.t 29) (.c (.bool false))),none,[]⟩] none)
 (.cond (.t 30)
 (.seq (.seq (.region [⟨(some 31),(.mov (.t 0)),none,[]⟩,
 ⟨(some 32),(.nilCheck (.t 31)),none,[]⟩,
 ⟨(some 33),(.fieldAddr 803 (.t 32)),none,[]⟩,
 ⟨(some 34),(.load none (.t 33)),none,[]⟩] none)
 (.cond (.t 34)
 (.seq (.region [⟨(some 4),(.mov (.c (.bool true))),none,[]⟩] none)
 .ret)
 .skip))
 (.seq (.region [⟨(some 35),(.mov (.t 1)),none,[]⟩,
 ⟨(some 36),(.bin .gtr (.t 35) (.c (.int .i64 0))),none,[]⟩,
 ⟨(some 37),(.mov (.t 36)),none,[]⟩,
 ⟨(some 38),(.mov (.t 0)),(some (37,true)),[]⟩,
 ⟨(some 39),(.mov (.t 1)),(some (37,true)),[]⟩,
 ⟨(some 40),(.bin .sub (.t 39) (.c (.int .i64 1))),(some (37,true)),[]⟩,
 ⟨(some 41),(.nilCheck (.t 38)),(some (37,true)),[]⟩,
 ⟨(some 42),(.fieldAddr 0 (.t 41)),(some (37,true)),[]⟩,
 ⟨(some 43),(.indexArr 1 800 (.t 42) (.t 40)),(some (37,true)),[]⟩,
 ⟨(some 44),(.load none (.t 43)),(some (37,true)),[]⟩,
 ⟨(some 45),(.bin .sub (.t 44) (.c (.int .u8 48))),(some (37,true)),[]⟩,
 ⟨(some 46),(.bin .rem (.t 45) (.c (.int .u8 2))),(some (37,true)),[]⟩,
 ⟨(some 47),(.bin .neq (.t 46) (.c (.int .u8 0))),(some (37,true)),[]⟩,
 ⟨(some 48),(.pick (.t 37) (.t 47) (.c (.bool false))),none,[]⟩,
 ⟨(some 4),(.mov (.t 48)),none,[]⟩] none)
 .ret))
 .skip))
 (.seq (.region [⟨(some 49),(.mov (.t 0)),none,[]⟩,
 ⟨(some 50),(.mov (.t 1)),none,[]⟩,
 ⟨(some 51),(.nilCheck (.t 49)),none,[]⟩,
 ⟨(some 52),(.fieldAddr 0 (.t 51)),none,[]⟩,
 ⟨(some 53),(.indexArr 1 800 (.t 52) (.t 50)),none,[]⟩,
 ⟨(some 54),(.load none (.t 53)),none,[]⟩,
 ⟨(some 55),(.bin .geq (.t 54) (.c (.int .u8 53))),none,[]⟩,
 ⟨(some 4),(.mov (.t 55)),none,[]⟩] none)
 .ret))))
def F123 : AFunc := ⟨2,56,[(.tmp 4)],B123⟩
def B129 : ACode := (.seq (.region [⟨(some 2),(.mov (.c (.float .f64 0))),none,[]⟩] none)
 (.seq (.region [⟨(some 3),(.mov (.c (.int .u64 0))),none,[]⟩] none)
 (.seq (.seq (.region [⟨(some 4),(.mov (.t 0)),none,[]⟩,
 ⟨(some 5),(.bin .geq (.t 4) (.c (.int .i64 0))),none,[]⟩] none)
 (.cond (.t 5)
 (.region [⟨(some 3),(.mov (.c (.int .u64 9218868437227405312))),none,[]⟩] none)
 (.region [⟨(some 3),(.mov (.c (.int .u64 18442240474082181120))),none,[]⟩] none)))
 (.seq (.region [⟨(some 6),(.mov (.t 3)),none,[]⟩,
 ⟨(some 7),(.call (.f 101) [(.t 6)]),none,[]⟩,
 ⟨(some 2),(.mov (.t 7)),none,[]⟩] none)
 .ret))))
def F129 : AFunc := ⟨1,8,[(.tmp 2)],B129⟩
def B130 : ACode := (.seq (.region [⟨(some 0),(.mov (.c (.float .f64 0))),none,[]⟩] none)
 (.seq (.region [⟨(some 1),(.call (.f 101) [(.c (.int .u64 9221120237041090561))]),none,[]⟩,
 ⟨(some 0),(.mov (.t 1)),none,[]⟩] none)
 .ret))
def F130 : AFunc := ⟨0,2,[(.tmp 0)],B130⟩
def F133L0 : ACode := (.seq (.seq (.region [⟨(some 10),(.mov (.t 3)),none,[]⟩,
 ⟨(some 11),(.mov (.t 0)),none,[]⟩,
 ⟨(some 12),(.nilCheck (.t 11)),none,[]⟩,
 ⟨(some 13),(.fieldAddr 801 (.t 12)),none,[]⟩,
 ⟨(some 14),(.load none (.t 13)),none,[]⟩,
 ⟨(some 15),(.bin .lss (.t 10) (.t 14)),none,[]⟩,
 ⟨(some 16),(.mov (.t 15)),none,[]⟩,
 ⟨(some 17),(.mov (.t 3)),(some (16,true)),[]⟩,
 ⟨(some 18),(.mov (.t 0)),(some (16,true)),[]⟩,
 ⟨(some 19),(.nilCheck (.t 18)),(some (16,true)),[]⟩,
 ⟨(some 20),(.fieldAddr 800 (.t 19)),(some (16,true)),[]⟩,
 ⟨(some 21),(.load none (.t 20)),(some (16,true)),[]⟩,
 ⟨(some 22),(.bin .lss (.t 17) (.t 21)),(some (16,true)),[]⟩,
 ⟨(some 23),(.pick (.t 16) (.t 22) (.c (.bool false))),none,[]⟩] none)
 (.cond (.t 23)
 .skip
 (.exit 0)))
 (.seq (.block 1 (.region [⟨(some 26),(.mov (.t 4)),none,[]⟩,
 ⟨(some 27),(.bin .mul (.t 26) (.c (.int .u64 10))),none,[]⟩,
 ⟨(some 28),(.mov (.t 0)),none,[]⟩,
 ⟨(some 29),(.mov (.t 3)),none,[]⟩,
 ⟨(some 30),(.nilCheck (.t 28)),none,[]⟩,
 ⟨(some 31),(.fieldAddr 0 (.t 30)),none,[]⟩,
 ⟨(some 32),(.indexArr 1 800 (.t 31) (.t 29)),none,[]⟩,
 ⟨(some 33),(.load none (.t 32)),none,[]⟩,
 ⟨(some 34),(.bin .sub (.t 33) (.c (.int .u8 48))),none,[]⟩,
 ⟨(some 35),(.conv .u64 (.t 34)),none,[]⟩,
 ⟨(some 36),(.bin .add (.t 27) (.t 35)),none,[]⟩,
 ⟨(some 4),(.mov (.t 36)),none,[]⟩] none))
 (.region [⟨(some 24),(.mov (.t 3)),none,[]⟩,
 ⟨(some 25),(.bin .add (.t 24) (.c (.int .i64 1))),none,[]⟩,
 ⟨(some 3),(.mov (.t 25)),none,[]⟩] none)))
def F133L1 : ACode := (.seq (.seq (.region [⟨(some 37),(.mov (.t 3)),none,[]⟩,
 ⟨(some 38),(.mov (.t 0)),none,[]⟩,
 ⟨(some 39),(.nilCheck (.t 38)),none,[]⟩,
 ⟨(some 40),(.fieldAddr 801 (.t 39)),none,[]⟩,
 ⟨(some 41),(.load none (.t 40)),none,[]⟩,
 ⟨(some 42),(.bin .lss (.t 37) (.t 41)),none,[]⟩] none)
 (.cond (.t 42)
 .skip
 (.exit 2)))
 (.seq (.block 3 (.region [⟨(some 45),(.mov (.t 4)),none,[]⟩,
 ⟨(some 46),(.bin .mul (.t 45) (.c (.int .u64 10))),none,[]⟩,
 ⟨(some 4),(.mov (.t 46)),none,[]⟩] none))
 (.region [⟨(some 43),(.mov (.t 3)),none,[]⟩,
 ⟨(some 44),(.bin .add (.t 43) (.c (.int .i64 1))),none,[]⟩,
 ⟨(some 3),(.mov (.t 44)),none,[]⟩] none)))
def B133 : ACode := (.seq (.region [⟨(some 2),(.mov (.c (.int .u64 0))),none,[]⟩] none)
 (.seq (.seq (.region [⟨(some 5),(.mov (.t 0)),none,[]⟩,
 ⟨(some 6),(.nilCheck (.t 5)),none,[]⟩,
 ⟨(some 7),(.fieldAddr 801 (.t 6)),none,[]⟩,
 ⟨(some 8),(.load none (.t 7)),none,[]⟩,
 ⟨(some 9),(.bin .gtr (.t 8) (.c (.int .i64 20))),none,[]⟩] none)
 (.cond (.t 9)
 (.seq (.region [⟨(some 2),(.mov (.c (.int .u64 18446744073709551615))),none,[]⟩] none)
 .ret)
 .skip))
 (.seq (.region [⟨(some 3),(.mov (.c (.int .i64 0))),none,[]⟩] none)
 (.seq (.region [⟨(some 4),(.mov (.c (.int .u64 0))),none,[]⟩] none)
 (.seq (.seq (.region [⟨(some 3),(.mov (.c (.int .i64 0))),none,[]⟩] none)
 (.block 0 (.loop F133L0)))
 (.seq (.block 2 (.loop F133L1))
 (.seq (.seq (.region [⟨(some 47),(.mov (.t 0)),none,[]⟩,
 ⟨(some 48),(.mov (.t 0)),none,[]⟩,
 ⟨(some 49),(.nilCheck (.t 48)),none,[]⟩,
 ⟨(some 50),(.fieldAddr 801 (.t 49)),none,[]⟩,
 ⟨(some 51),(.load none (.t 50)),none,[]⟩,
 ⟨(some 52),(.call (.f 123) [(.t 47),(.t 51)]),none,[]⟩] none)
 (.cond (.t 52)
 (.region [⟨(some 53),(.mov (.t 4)),none,[]⟩,
 ⟨(some 54),(.bin .add (.t 53) (.c (.int .u64 1))),none,[]⟩,
 ⟨(some 4),(.mov (.t 54)),none,[]⟩] none)
 .skip))
 (.seq (.region [⟨(some 55),(.mov (.t 4)),none,[]⟩,
 ⟨(some 2),(.mov (.t 55)),none,[]⟩] none)
 .ret))))))))
def F133 : AFunc := ⟨1,56,[(.tmp 2)],B133⟩

def B134 : ACode := (.seq (.region [⟨(some 4),(.mov (.c (.float .f64 0))),none,[]⟩,
 ⟨(some 5),(.mov (.c .nilIface)),none,[]⟩] none)
 (.seq (.seq (.region [⟨(some 6),(.mov (.t 0)),none,[]⟩,
 ⟨(some 7),(.bin .and (.t 6) (.c (.int .u64 4503599627370496))),none,[]⟩,
 ⟨(some 8),(.bin .eql (.t 7) (.c (.int .u64 0))),none,[]⟩] none)
 (.cond (.t 8)
 (.seq (.region [⟨(some 9),(.mov (.t 0)),none,[]⟩,
 ⟨(some 10),(.call (.f 101) [(.t 9)]),none,[]⟩,
 ⟨(some 4),(.mov (.t 10)),none,[]⟩,
 ⟨(some 5),(.mov (.c .nilIface)),none,[]⟩] none)
 .ret)
 .skip))
 (.seq (.seq (.region [⟨(some 11),(.mov (.t 1)),none,[]⟩,
 ⟨(some 12),(.bin .geq (.t 11) (.c (.int .i64 972))),none,[]⟩] none)
 (.cond (.t 12)
 (.seq (.region [⟨(some 13),(.mov (.t 0)),none,[]⟩,
 ⟨(some 14),(.bin .and (.t 13) (.c (.int .u64 9223372036854775808))),none,[]⟩,
 ⟨(some 15),(.bin .or (.t 14) (.c (.int .u64 9218868437227405312))),none,[]⟩,
 ⟨(some 16),(.call (.f 101) [(.t 15)]),none,[]⟩,
 ⟨(some 17),(.makeIface 74 (.c (.int .i64 1))),none,[]⟩,
 ⟨(some 4),(.mov (.t 16)),none,[]⟩,
 ⟨(some 5),(.mov (.t 17)),none,[]⟩] none)
 .ret)
 .skip))
 (.seq (.region [⟨(some 18),(.mov (.t 0)),none,[]⟩,
 ⟨(some 19),(.bin .andNot (.t 18) (.c (.int .u64 4503599627370496))),none,[]⟩,
 ⟨(some 20),(.mov (.t 1)),none,[]⟩,
 ⟨(some 21),(.bin .add (.c (.int .i64 1075)) (.t 20)),none,[]⟩,
 ⟨(some 22),(.conv .u64 (.t 21)),none,[]⟩,
 ⟨(some 23),(.bin .shl (.t 22) (.c (.int .u64 52))),none,[]⟩,
 ⟨(some 24),(.bin .or (.t 19) (.t 23)),none,[]⟩,
 ⟨(some 25),(.call (.f 101) [(.t 24)]),none,[]⟩,
 ⟨(some 4),(.mov (.t 25)),none,[]⟩,
 ⟨(some 5),(.mov (.c .nilIface)),none,[]⟩] none)
 .ret))))
def F134 : AFunc := ⟨2,26,[(.tmp 4),(.tmp 5)],B134⟩
def B138 : ACode := (.seq (.region [⟨(some 4),(.mov (.c (.int .u64 0))),none,[]⟩,
 ⟨(some 5),(.mov (.c (.int .u64 0))),none,[]⟩] none)
 (.seq (.region [⟨(some 14),(.mov (.t 0)),none,[]⟩,
 ⟨(some 15),(.bin .and (.t 14) (.c (.int .u64 4294967295))),none,[]⟩,
 ⟨(some 6),(.mov (.t 15)),none,[]⟩] none)
 (.seq (.region [⟨(some 16),(.mov (.t 0)),none,[]⟩,
 ⟨(some 17),(.bin .shr (.t 16) (.c (.int .u64 32))),none,[]⟩,
 ⟨(some 7),(.mov (.t 17)),none,[]⟩] none)
 (.seq (.region [⟨(some 18),(.mov (.t 1)),none,[]⟩,
 ⟨(some 19),(.bin .and (.t 18) (.c (.int .u64 4294967295))),none,[]⟩,
 ⟨(some 8),(.mov (.t 19)),none,[]⟩] none)
 (.seq (.region [⟨(some 20),(.mov (.t 1)),none,[]⟩,
 ⟨(some 21),(.bin .shr (.t 20) (.c (.int .u64 32))),none,[]⟩,
 ⟨(some 9),(.mov (.t 21)),none,[]⟩] none)
 (.seq (.region [⟨(some 22),(.mov (.t 6)),none,[]⟩,
 ⟨(some 23),(.mov (.t 8)),none,[]⟩,
 ⟨(some 24),(.bin .mul (.t 22) (.t 23)),none,[]⟩,
 ⟨(some 10),(.mov (.t 24)),none,[]⟩] none)
 (.seq (.region [⟨(some 25),(.mov (.t 7)),none,[]⟩,
 ⟨(some 26),(.mov (.t 8)),none,[]⟩,
 ⟨(some 27),(.bin .mul (.t 25) (.t 26)),none,[]⟩,
 ⟨(some 28),(.mov (.t 10)),none,[]⟩,
 ⟨(some 29),(.bin .shr (.t 28) (.c (.int .u64 32))),none,[]⟩,
 ⟨(some 30),(.bin .add (.t 27) (.t 29)),none,[]⟩,
 ⟨(some 11),(.mov (.t 30)),none,[]⟩] none)
 (.seq (.region [⟨(some 31),(.mov (.t 11)),none,[]⟩,
 ⟨(some 32),(.bin .and (.t 31) (.c (.int .u64 4294967295))),none,[]⟩,
 ⟨(some 12),(.mov (.t 32)),none,[]⟩] none)
 (.seq (.region [⟨(some 33),(.mov (.t 11)),none,[]⟩,
 ⟨(some 34),(.bin .shr (.t 33) (.c (.int .u64 32))),none,[]⟩,
 ⟨(some 13),(.mov (.t 34)),none,[]⟩] none)
 (.seq (.region [⟨(some 35),(.mov (.t 12)),none,[]⟩,
 ⟨(some 36),(.mov (.t 6)),none,[]⟩,
 ⟨(some 37),(.mov (.t 9)),none,[]⟩,
 ⟨(some 38),(.bin .mul (.t 36) (.t 37)),none,[]⟩,
 ⟨(some 39),(.bin .add (.t 35) (.t 38)),none,[]⟩,
 ⟨(some 12),(.mov (.t 39)),none,[]⟩] none)
 (.seq (.region [⟨(some 40),(.mov (.t 7)),none,[]⟩,
 ⟨(some 41),(.mov (.t 9)),none,[]⟩,
 ⟨(some 42),(.bin .mul (.t 40) (.t 41)),none,[]⟩,
 ⟨(some 43),(.mov (.t 13)),none,[]⟩,
 ⟨(some 44),(.bin .add (.t 42) (.t 43)),none,[]⟩,
 ⟨(some 45),(.mov (.t 12)),none,[]⟩,
 ⟨(some 46),(.bin .shr (.t 45) (.c (.int .u64 32))),none,[]⟩,
 ⟨(some 47),(.bin .add (.t 44) (.t 46)),none,[]⟩,
 ⟨(some 4),(.mov (.t 47)),none,[]⟩] none)
 (.seq (.region [⟨(some 48),(.mov (.t 0)),none,[]⟩,
 ⟨(some 49),(.mov (.t 1)),none,[]⟩,
 ⟨(some 50),(.bin .mul (.t 48) (.t 49)),none,[]⟩,
 ⟨(some 5),(.mov (.t 50)),none,[]⟩] none)
 .ret))))))))))))
def F138 : AFunc := ⟨2,51,[(.tmp 4),(.tmp 5)],B138⟩
def R140_0 : ACode := .region [⟨(some 16),(.mov (.t 0)),none,[]⟩,
 ⟨(some 17),(.mov (.t 5)),none,[]⟩,
 ⟨(some 18),(.indexAddr 1 (.t 16) (.t 17)),none,[0,1]⟩,
 ⟨(some 19),(.load none (.t 18)),none,[2]⟩,
 ⟨(some 20),(.mov (.t 1)),none,[]⟩,
 ⟨(some 21),(.mov (.t 5)),none,[]⟩,
 ⟨(some 22),(.indexStr (.t 20) (.t 21)),none,[4,5]⟩,
 ⟨(some 23),(.bin .neq (.t 19) (.t 22)),none,[3,6]⟩] (some [(0,1),(0,4),(1,4),(2,4),(3,4),(0,5),(1,5),(2,5),(3,5),(4,5),(0,6),(1,6),(2,6),(3,6)])
def R140_1 : ACode := .region [⟨(some 24),(.mov (.t 0)),none,[]⟩,
 ⟨(some 25),(.mov (.t 5)),none,[]⟩,
 ⟨(some 26),(.indexAddr 1 (.t 24) (.t 25)),none,[0,1]⟩,
 ⟨(some 27),(.load none (.t 26)),none,[2]⟩,
 ⟨(some 28),(.mov (.t 1)),none,[]⟩,
 ⟨(some 29),(.mov (.t 5)),none,[]⟩,
 ⟨(some 30),(.indexStr (.t 28) (.t 29)),none,[4,5]⟩,
 ⟨(some 31),(.bin .lss (.t 27) (.t 30)),none,[3,6]⟩,
 ⟨(some 4),(.mov (.t 31)),none,[7,0,1,2,3,4,5,6,7]⟩] (some [(0,1),(0,4),(1,4),(2,4),(3,4),(0,5),(1,5),(2,5),(3,5),(4,5),(0,6),(1,6),(2,6),(3,6)])
def F140L0 : ACode := (.seq (.seq (.region [⟨(some 6),(.mov (.t 5)),none,[]⟩,
 ⟨(some 7),(.mov (.t 1)),none,[]⟩,
 ⟨(some 8),(.lenStr (.t 7)),none,[]⟩,
 ⟨(some 9),(.bin .lss (.t 6) (.t 8)),none,[]⟩] none)
 (.cond (.t 9)
 .skip
 (.exit 0)))
 (.seq (.block 1 (.seq (.seq (.region [⟨(some 12),(.mov (.t 5)),none,[]⟩,
 ⟨(some 13),(.mov (.t 0)),none,[]⟩,
 ⟨(some 14),(.lenSlice (.t 13)),none,[]⟩,
 ⟨(some 15),(.bin .geq (.t 12) (.t 14)),none,[]⟩] none)
 (.cond (.t 15)
 (.seq (.region [⟨(some 4),(.mov (.c (.bool true))),none,[]⟩] none)
 .ret)
 .skip))
 (.seq R140_0
 (.cond (.t 23)
 (.seq R140_1
 .ret)
 .skip))))
 (.region [⟨(some 10),(.mov (.t 5)),none,[]⟩,
 ⟨(some 11),(.bin .add (.t 10) (.c (.int .i64 1))),none,[]⟩,
 ⟨(some 5),(.mov (.t 11)),none,[]⟩] none)))
def B140 : ACode := (.seq (.region [⟨(some 4),(.mov (.c (.bool false))),none,[]⟩] none)
 (.seq (.seq (.region [⟨(some 5),(.mov (.c (.int .i64 0))),none,[]⟩] none)
 (.block 0 (.loop F140L0)))
 (.seq (.region [⟨(some 4),(.mov (.c (.bool false))),none,[]⟩] none)
 .ret)))
def F140 : AFunc := ⟨2,32,[(.tmp 4)],B140⟩
def fs61 : FT := (.node 52 F52 (.node 28 F28 (.node 16 F16 (.node 10 F10 (.node 7 F7 (.node 6 F6 (.node 3 F3 .leaf .leaf) .leaf) (.node 9 F9 (.node 8 F8 .leaf .leaf) .leaf)) (.node 13 F13 (.node 12 F12 (.node 11 F11 .leaf .leaf) .leaf) (.node 15 F15 (.node 14 F14 .leaf .leaf) .leaf))) (.node 22 F22 (.node 19 F19 (.node 18 F18 (.node 17 F17 .leaf .leaf) .leaf) (.node 21 F21 (.node 20 F20 .leaf .leaf) .leaf)) (.node 26 F26 (.node 25 F25 (.node 23 F23 .leaf .leaf) .leaf) (.node 27 F27 .leaf .leaf)))) (.node 39 F39 (.node 34 F34 (.node 31 F31 (.node 30 F30 (.node 29 F29 .leaf .leaf) .leaf) (.node 33 F33 (.node 32 F32 .leaf .leaf) .leaf)) (.node 37 F37 (.node 36 F36 (.node 35 F35 .leaf .leaf) .leaf) (.node 38 F38 .leaf .leaf))) (.node 45 F45 (.node 42 F42 (.node 41 F41 (.node 40 F40 .leaf .leaf) .leaf) (.node 44 F44 (.node 43 F43 .leaf .leaf) .leaf)) (.node 50 F50 (.node 47 F47 (.node 46 F46 .leaf .leaf) .leaf) (.node 51 F51 .leaf .leaf))))) (.node 107 F107 (.node 79 F79 (.node 67 F67 (.node 58 F58 (.node 57 F57 (.node 56 F56 .leaf .leaf) .leaf) (.node 62 F62 (.node 60 F60 .leaf .leaf) .leaf)) (.node 76 F76 (.node 75 F75 (.node 68 F68 .leaf .leaf) .leaf) (.node 78 F78 .leaf .leaf))) (.node 98 F98 (.node 85 F85 (.node 83 F83 (.node 80 F80 .leaf .leaf) .leaf) (.node 92 F92 (.node 91 F91 .leaf .leaf) .leaf)) (.node 102 F102 (.node 100 F100 (.node 99 F99 .leaf .leaf) .leaf) (.node 103 F103 .leaf .leaf)))) (.node 118 F118 (.node 113 F113 (.node 110 F110 (.node 109 F109 (.node 108 F108 .leaf .leaf) .leaf) (.node 112 F112 (.node 111 F111 .leaf .leaf) .leaf)) (.node 116 F116 (.node 115 F115 (.node 114 F114 .leaf .leaf) .leaf) (.node 117 F117 .leaf .leaf))) (.node 130 F130 (.node 122 F122 (.node 121 F121 (.node 120 F120 .leaf .leaf) .leaf) (.node 129 F129 (.node 123 F123 .leaf .leaf) .leaf)) (.node 138 F138 (.node 134 F134 (.node 133 F133 .leaf .leaf) .leaf) (.node 140 F140 .leaf .leaf))))))
def ps61 : List (Nat × Prim) := [(86, .indexByte),(24, .toBits),(5, .fromBits),(72, .toBits),(101, .fromBits)]
end
end Go.Proofs.YtkdpjaaohddppaaGreatDoor.Am
