/- The functions of the program,printed by a program of ours as code of the abstract machine (F); that they are is proved in the next text. -/
import Derived.Test.YtkdpjaaohddppaaGreatDoorD
namespace Go.Proofs.YtkdpjaaohddppaaGreatDoor.Am
noncomputable section
def B3 : ACode := (.seq (.region [⟨(some 6),(.mov (.c (.bool false))),none,[]⟩] none)
 (.seq (.region [⟨(some 13),(.mov (.t 0)),none,[]⟩,
 ⟨(some 14),(.call (.f 5) [(.t 13)]),none,[]⟩,
 ⟨(some 15),(.mov (.t 1)),none,[]⟩,
 ⟨(some 16),(.call (.f 5) [(.t 15)]),none,[]⟩,
 ⟨(some 7),(.mov (.t 14)),none,[]⟩,
 ⟨(some 8),(.mov (.t 16)),none,[]⟩] none)
 (.seq (.region [⟨(some 17),(.mov (.t 2)),none,[]⟩,
 ⟨(some 18),(.mov (.t 2)),none,[]⟩,
 ⟨(some 19),(.lenStr (.t 18)),none,[]⟩,
 ⟨(some 20),(.min [(.t 19),(.c (.int .i64 900))]),none,[]⟩,
 ⟨(some 21),(.sliceStr (.t 17) none (some (.t 20))),none,[]⟩,
 ⟨(some 2),(.mov (.t 21)),none,[]⟩] none)
 (.seq (.region [⟨(some 23),(.mov (.t 2)),none,[]⟩,
 ⟨(some 24),(.call (.f 6) [(.t 23)]),none,[]⟩,
 ⟨(some 22),(.mov (.t 24)),none,[]⟩,
 ⟨(some 25),(.extract (.t 22) 0),none,[]⟩,
 ⟨(some 26),(.extract (.t 22) 1),none,[]⟩,
 ⟨(some 9),(.mov (.t 25)),none,[]⟩,
 ⟨(some 10),(.mov (.t 26)),none,[]⟩] none)
 (.seq (.region [⟨(some 28),(.mov (.t 2)),none,[]⟩,
 ⟨(some 29),(.call (.f 7) [(.t 28)]),none,[]⟩,
 ⟨(some 27),(.mov (.t 29)),none,[]⟩,
 ⟨(some 30),(.extract (.t 27) 0),none,[]⟩,
 ⟨(some 31),(.extract (.t 27) 1),none,[]⟩,
 ⟨(some 11),(.mov (.t 30)),none,[]⟩,
 ⟨(some 12),(.mov (.t 31)),none,[]⟩] none)
 (.seq (.region [⟨(some 32),(.mov (.t 7)),none,[]⟩,
 ⟨(some 33),(.mov (.t 8)),none,[]⟩,
 ⟨(some 34),(.call (.f 8) [(.t 32),(.t 33)]),none,[]⟩,
 ⟨(some 35),(.mov (.t 7)),none,[]⟩,
 ⟨(some 36),(.mov (.t 8)),none,[]⟩,
 ⟨(some 37),(.call (.f 9) [(.t 35),(.t 36)]),none,[]⟩,
 ⟨(some 38),(.eqv false .bool false (.t 34) (.t 37)),none,[]⟩,
 ⟨(some 39),(.mov (.t 38)),none,[]⟩,
 ⟨(some 40),(.mov (.t 7)),(some (39,true)),[]⟩,
 ⟨(some 41),(.mov (.t 8)),(some (39,true)),[]⟩,
 ⟨(some 42),(.call (.f 10) [(.t 40),(.t 41)]),(some (39,true)),[]⟩,
 ⟨(some 43),(.mov (.t 7)),(some (39,true)),[]⟩,
 ⟨(some 44),(.mov (.t 8)),(some (39,true)),[]⟩,
 ⟨(some 45),(.call (.f 9) [(.t 43),(.t 44)]),(some (39,true)),[]⟩,
 ⟨(some 46),(.un .not (.t 45)),(some (39,true)),[]⟩,
 ⟨(some 47),(.mov (.t 46)),(some (39,true)),[]⟩,
 ⟨(some 48),(.mov (.t 8)),(some (47,true)),[]⟩,
 ⟨(some 49),(.mov (.t 7)),(some (47,true)),[]⟩,
 ⟨(some 50),(.call (.f 9) [(.t 48),(.t 49)]),(some (47,true)),[]⟩,
 ⟨(some 51),(.un .not (.t 50)),(some (47,true)),[]⟩,
 ⟨(some 52),(.pick (.t 47) (.t 51) (.c (.bool false))),(some (39,true)),[]⟩,
 ⟨(some 53),(.eqv false .bool false (.t 42) (.t 52)),(some (39,true)),[]⟩,
 ⟨(some 54),(.pick (.t 39) (.t 53) (.c (.bool false))),none,[]⟩,
 ⟨(some 55),(.mov (.t 54)),none,[]⟩,
 ⟨(some 56),(.mov (.t 7)),(some (55,true)),[]⟩,
 ⟨(some 57),(.call (.f 12) [(.t 56)]),(some (55,true)),[]⟩,
 ⟨(some 58),(.mov (.t 7)),(some (55,true)),[]⟩,
 ⟨(some 59),(.call (.f 13) [(.t 58)]),(some (55,true)),[]⟩,
 ⟨(some 60),(.call (.f 11) [(.t 57),(.t 59)]),(some (55,true)),[]⟩,
 ⟨(some 61),(.pick (.t 55) (.t 60) (.c (.bool false))),none,[]⟩,
 ⟨(some 62),(.mov (.t 61)),none,[]⟩,
 ⟨(some 63),(.mov (.t 7)),(some (62,true)),[]⟩,
 ⟨(some 64),(.call (.f 14) [(.t 63)]),(some (62,true)),[]⟩,
 ⟨(some 65),(.mov (.t 7)),(some (62,true)),[]⟩,
 ⟨(some 66),(.call (.f 15) [(.t 65)]),(some (62,true)),[]⟩,
 ⟨(some 67),(.bin .eql (.t 64) (.t 66)),(some (62,true)),[]⟩,
 ⟨(some 68),(.pick (.t 62) (.t 67) (.c (.bool false))),none,[]⟩,
 ⟨(some 69),(.mov (.t 68)),none,[]⟩,
 ⟨(some 70),(.mov (.t 9)),(some (69,true)),[]⟩,
 ⟨(some 71),(.mov (.t 11)),(some (69,true)),[]⟩,
 ⟨(some 72),(.call (.f 11) [(.t 70),(.t 71)]),(some (69,true)),[]⟩,
 ⟨(some 73),(.pick (.t 69) (.t 72) (.c (.bool false))),none,[]⟩,
 ⟨(some 74),(.mov (.t 73)),none,[]⟩,
 ⟨(some 75),(.mov (.t 10)),(some (74,true)),[]⟩,
 ⟨(some 76),(.mov (.t 12)),(some (74,true)),[]⟩,
 ⟨(some 77),(.bin .eql (.t 75) (.t 76)),(some (74,true)),[]⟩,
 ⟨(some 78),(.pick (.t 74) (.t 77) (.c (.bool false))),none,[]⟩,
 ⟨(some 79),(.mov (.t 78)),none,[]⟩,
 ⟨(some 80),(.call (.f 16) []),(some (79,true)),[]⟩,
 ⟨(some 81),(.pick (.t 79) (.t 80) (.c (.bool false))),none,[]⟩,
 ⟨(some 6),(.mov (.t 81)),none,[]⟩] none)
 .ret))))))
def F3 : AFunc := ⟨3,82,[(.tmp 6)],B3⟩
def B6 : ACode := (.seq (.region [⟨(some 2),(.mov (.c (.float .f64 0))),none,[]⟩,
 ⟨(some 3),(.mov (.c (.int .i64 0))),none,[]⟩] none)
 (.seq (.seq (.region [⟨(some 9),(.mov (.t 0)),none,[]⟩,
 ⟨(some 10),(.bin .eql (.t 9) (.c (.string ⟨#[105,110,102]⟩))),none,[]⟩] none)
 (.cond (.t 10)
 (.seq (.region [⟨(some 11),(.call (.f 17) [(.c (.int .i64 1))]),none,[]⟩,
 ⟨(some 2),(.mov (.t 11)),none,[]⟩,
 ⟨(some 3),(.mov (.c (.int .i64 0))),none,[]⟩] none)
 .ret)
 .skip))
 (.seq (.region [⟨(some 13),(.mov (.t 0)),none,[]⟩,
 ⟨(some 14),(.call (.f 18) [(.t 13),(.c (.string ⟨#[46]⟩))]),none,[]⟩,
 ⟨(some 12),(.mov (.t 14)),none,[]⟩,
 ⟨(some 15),(.extract (.t 12) 0),none,[]⟩,
 ⟨(some 16),(.extract (.t 12) 1),none,[]⟩,
 ⟨(some 17),(.extract (.t 12) 2),none,[]⟩,
 ⟨(some 4),(.mov (.t 15)),none,[]⟩,
 ⟨(some 5),(.mov (.t 16)),none,[]⟩,
 ⟨(some 6),(.mov (.t 17)),none,[]⟩] none)
 (.seq (.seq (.region [⟨(some 18),(.mov (.t 4)),none,[]⟩,
 ⟨(some 19),(.call (.f 19) [(.t 18)]),none,[]⟩,
 ⟨(some 20),(.un .not (.t 19)),none,[]⟩,
 ⟨(some 21),(.mov (.t 20)),none,[]⟩,
 ⟨(some 22),(.mov (.t 6)),(some (21,false)),[]⟩,
 ⟨(some 23),(.mov (.t 22)),(some (21,false)),[]⟩,
 ⟨(some 24),(.mov (.t 5)),(some (23,true)),[]⟩,
 ⟨(some 25),(.call (.f 19) [(.t 24)]),(some (23,true)),[]⟩,
 ⟨(some 26),(.un .not (.t 25)),(some (23,true)),[]⟩,
 ⟨(some 27),(.pick (.t 23) (.t 26) (.c (.bool false))),(some (21,false)),[]⟩,
 ⟨(some 28),(.pick (.t 21) (.c (.bool true)) (.t 27)),none,[]⟩] none)
 (.cond (.t 28)
 (.seq (.region [⟨(some 2),(.mov (.c (.float .f64 0))),none,[]⟩,
 ⟨(some 3),(.mov (.c (.int .i64 5))),none,[]⟩] none)
 .ret)
 .skip))
 (.seq (.region [⟨(some 30),(.mov (.t 0)),none,[]⟩,
 ⟨(some 31),(.call (.f 20) [(.t 30),(.c (.int .i64 64))]),none,[]⟩,
 ⟨(some 29),(.mov (.t 31)),none,[]⟩,
 ⟨(some 32),(.extract (.t 29) 0),none,[]⟩,
 ⟨(some 33),(.extract (.t 29) 1),none,[]⟩,
 ⟨(some 7),(.mov (.t 32)),none,[]⟩,
 ⟨(some 8),(.mov (.t 33)),none,[]⟩] none)
 (.seq (.seq (.region [⟨(some 34),(.mov (.t 8)),none,[]⟩,
 ⟨(some 35),(.eqv true .iface true (.t 34) (.c .nilIface)),none,[]⟩,
 ⟨(some 36),(.mov (.t 35)),none,[]⟩,
 ⟨(some 37),(.mov (.t 7)),(some (36,false)),[]⟩,
 ⟨(some 38),(.call (.f 21) [(.t 37),(.c (.int .i64 0))]),(some (36,false)),[]⟩,
 ⟨(some 39),(.pick (.t 36) (.c (.bool true)) (.t 38)),none,[]⟩] none)
 (.cond (.t 39)
 (.seq (.region [⟨(some 2),(.mov (.c (.float .f64 0))),none,[]⟩,
 ⟨(some 3),(.mov (.c (.int .i64 24))),none,[]⟩] none)
 .ret)
 .skip))
 (.seq (.region [⟨(some 40),(.mov (.t 7)),none,[]⟩,
 ⟨(some 2),(.mov (.t 40)),none,[]⟩,
 ⟨(some 3),(.mov (.c (.int .i64 0))),none,[]⟩] none)
 .ret)))))))
def F6 : AFunc := ⟨1,41,[(.tmp 2),(.tmp 3)],B6⟩
def F7L0 : ACode := (.seq (.seq (.region [⟨(some 14),(.mov (.t 6)),none,[]⟩,
 ⟨(some 15),(.mov (.t 0)),none,[]⟩,
 ⟨(some 16),(.lenStr (.t 15)),none,[]⟩,
 ⟨(some 17),(.bin .lss (.t 14) (.t 16)),none,[]⟩] none)
 (.cond (.t 17)
 .skip
 (.exit 0)))
 (.seq (.block 1 (.seq (.seq (.region [⟨(some 20),(.mov (.t 0)),none,[]⟩,
 ⟨(some 21),(.mov (.t 6)),none,[]⟩,
 ⟨(some 22),(.indexStr (.t 20) (.t 21)),none,[]⟩,
 ⟨(some 23),(.bin .eql (.t 22) (.c (.int .u8 46))),none,[]⟩,
 ⟨(some 24),(.mov (.t 23)),none,[]⟩,
 ⟨(some 25),(.mov (.t 5)),(some (24,true)),[]⟩,
 ⟨(some 26),(.bin .eql (.t 25) (.c (.int .i64 0))),(some (24,true)),[]⟩,
 ⟨(some 27),(.pick (.t 24) (.t 26) (.c (.bool false))),none,[]⟩] none)
 (.cond (.t 27)
 (.seq (.region [⟨(some 5),(.mov (.c (.int .i64 1))),none,[]⟩] none)
 (.exit 1))
 .skip))
 (.seq (.seq (.region [⟨(some 28),(.mov (.t 0)),none,[]⟩,
 ⟨(some 29),(.mov (.t 6)),none,[]⟩,
 ⟨(some 30),(.indexStr (.t 28) (.t 29)),none,[]⟩,
 ⟨(some 31),(.bin .lss (.t 30) (.c (.int .u8 48))),none,[]⟩,
 ⟨(some 32),(.mov (.t 31)),none,[]⟩,
 ⟨(some 33),(.mov (.t 0)),(some (32,false)),[]⟩,
 ⟨(some 34),(.mov (.t 6)),(some (32,false)),[]⟩,
 ⟨(some 35),(.indexStr (.t 33) (.t 34)),(some (32,false)),[]⟩,
 ⟨(some 36),(.bin .gtr (.t 35) (.c (.int .u8 57))),(some (32,false)),[]⟩,
 ⟨(some 37),(.pick (.t 32) (.c (.bool true)) (.t 36)),none,[]⟩] none)
 (.cond (.t 37)
 (.seq (.region [⟨(some 2),(.mov (.c (.float .f64 0))),none,[]⟩,
 ⟨(some 3),(.mov (.c (.int .i64 5))),none,[]⟩] none)
 .ret)
 .skip))
 (.region [⟨(some 38),(.mov (.t 4)),none,[]⟩,
 ⟨(some 39),(.mov (.t 5)),none,[]⟩,
 ⟨(some 40),(.indexAddr 1 (.t 38) (.t 39)),none,[]⟩,
 ⟨(some 41),(.load none (.t 40)),none,[]⟩,
 ⟨(some 42),(.bin .add (.t 41) (.c (.int .i64 1))),none,[]⟩,
 ⟨(some 43),(.indexAddr 1 (.t 38) (.t 39)),none,[]⟩,
 ⟨none,(.store 1 (.t 43) (.t 42)),none,[]⟩] none))))
 (.region [⟨(some 18),(.mov (.t 6)),none,[]⟩,
 ⟨(some 19),(.bin .add (.t 18) (.c (.int .i64 1))),none,[]⟩,
 ⟨(some 6),(.mov (.t 19)),none,[]⟩] none)))
def F7L1 : ACode := (.seq (.seq (.region [⟨(some 44),(.mov (.t 7)),none,[]⟩,
 ⟨(some 45),(.mov (.t 5)),none,[]⟩,
 ⟨(some 46),(.bin .leq (.t 44) (.t 45)),none,[]⟩] none)
 (.cond (.t 46)
 .skip
 (.exit 2)))
 (.seq (.block 3 (.seq (.region [⟨(some 49),(.mov (.t 4)),none,[]⟩,
 ⟨(some 50),(.mov (.t 7)),none,[]⟩,
 ⟨(some 51),(.indexAddr 1 (.t 49) (.t 50)),none,[]⟩,
 ⟨(some 52),(.load none (.t 51)),none,[]⟩,
 ⟨(some 53),(.bin .lss (.t 52) (.c (.int .i64 1))),none,[]⟩,
 ⟨(some 54),(.mov (.t 53)),none,[]⟩,
 ⟨(some 55),(.mov (.t 4)),(some (54,false)),[]⟩,
 ⟨(some 56),(.mov (.t 7)),(some (54,false)),[]⟩,
 ⟨(some 57),(.indexAddr 1 (.t 55) (.t 56)),(some (54,false)),[]⟩,
 ⟨(some 58),(.load none (.t 57)),(some (54,false)),[]⟩,
 ⟨(some 59),(.bin .gtr (.t 58) (.c (.int .i64 400))),(some (54,false)),[]⟩,
 ⟨(some 60),(.pick (.t 54) (.c (.bool true)) (.t 59)),none,[]⟩] none)
 (.cond (.t 60)
 (.seq (.region [⟨(some 2),(.mov (.c (.float .f64 0))),none,[]⟩,
 ⟨(some 3),(.mov (.c (.int .i64 5))),none,[]⟩] none)
 .ret)
 .skip)))
 (.region [⟨(some 47),(.mov (.t 7)),none,[]⟩,
 ⟨(some 48),(.bin .add (.t 47) (.c (.int .i64 1))),none,[]⟩,
 ⟨(some 7),(.mov (.t 48)),none,[]⟩] none)))
def B7 : ACode := (.seq (.region [⟨(some 2),(.mov (.c (.float .f64 0))),none,[]⟩,
 ⟨(some 3),(.mov (.c (.int .i64 0))),none,[]⟩] none)
 (.seq (.seq (.region [⟨(some 10),(.mov (.t 0)),none,[]⟩,
 ⟨(some 11),(.bin .eql (.t 10) (.c (.string ⟨#[105,110,102]⟩))),none,[]⟩] none)
 (.cond (.t 11)
 (.seq (.region [⟨(some 12),(.call (.f 17) [(.c (.int .i64 1))]),none,[]⟩,
 ⟨(some 2),(.mov (.t 12)),none,[]⟩,
 ⟨(some 3),(.mov (.c (.int .i64 0))),none,[]⟩] none)
 .ret)
 .skip))
 (.seq (.region [⟨(some 13),(.buildSlice 3 1 2 [(.int .i64 0)] [(0,1,(.c (.int .i64 0))),(1,1,(.c (.int .i64 0)))]),none,[]⟩,
 ⟨(some 4),(.mov (.t 13)),none,[]⟩] none)
 (.seq (.region [⟨(some 5),(.mov (.c (.int .i64 0))),none,[]⟩] none)
 (.seq (.seq (.region [⟨(some 6),(.mov (.c (.int .i64 0))),none,[]⟩] none)
 (.block 0 (.loop F7L0)))
 (.seq (.seq (.region [⟨(some 7),(.mov (.c (.int .i64 0))),none,[]⟩] none)
 (.block 2 (.loop F7L1)))
 (.seq (.region [⟨(some 62),(.mov (.t 0)),none,[]⟩,
 ⟨(some 63),(.call (.f 20) [(.t 62),(.c (.int .i64 64))]),none,[]⟩,
 ⟨(some 61),(.mov (.t 63)),none,[]⟩,
 ⟨(some 64),(.extract (.t 61) 0),none,[]⟩,
 ⟨(some 65),(.extract (.t 61) 1),none,[]⟩,
 ⟨(some 8),(.mov (.t 64)),none,[]⟩,
 ⟨(some 9),(.mov (.t 65)),none,[]⟩] none)
 (.seq (.seq (.region [⟨(some 66),(.mov (.t 8)),none,[]⟩,
 ⟨(some 67),(.call (.f 22) [(.t 66)]),none,[]⟩,
 ⟨(some 68),(.bin .neq (.t 67) (.c (.int .i64 1))),none,[]⟩] none)
 (.cond (.t 68)
 (.seq (.region [⟨(some 2),(.mov (.c (.float .f64 0))),none,[]⟩,
 ⟨(some 3),(.mov (.c (.int .i64 24))),none,[]⟩] none)
 .ret)
 .skip))
 (.seq (.region [⟨(some 69),(.mov (.t 8)),none,[]⟩,
 ⟨(some 2),(.mov (.t 69)),none,[]⟩,
 ⟨(some 3),(.mov (.c (.int .i64 0))),none,[]⟩] none)
 .ret)))))))))
def F7 : AFunc := ⟨1,70,[(.tmp 2),(.tmp 3)],B7⟩

def B8 : ACode := (.seq (.region [⟨(some 4),(.mov (.c (.bool false))),none,[]⟩] none)
 (.seq (.seq (.region [⟨(some 5),(.mov (.t 0)),none,[]⟩,
 ⟨(some 6),(.call (.f 23) [(.t 5)]),none,[]⟩,
 ⟨(some 7),(.mov (.t 6)),none,[]⟩,
 ⟨(some 8),(.mov (.t 1)),(some (7,false)),[]⟩,
 ⟨(some 9),(.call (.f 23) [(.t 8)]),(some (7,false)),[]⟩,
 ⟨(some 10),(.pick (.t 7) (.c (.bool true)) (.t 9)),none,[]⟩] none)
 (.cond (.t 10)
 (.seq (.region [⟨(some 11),(.mov (.t 0)),none,[]⟩,
 ⟨(some 12),(.call (.f 23) [(.t 11)]),none,[]⟩,
 ⟨(some 13),(.un .not (.t 12)),none,[]⟩,
 ⟨(some 14),(.mov (.t 13)),none,[]⟩,
 ⟨(some 15),(.mov (.t 1)),(some (14,true)),[]⟩,
 ⟨(some 16),(.call (.f 23) [(.t 15)]),(some (14,true)),[]⟩,
 ⟨(some 17),(.pick (.t 14) (.t 16) (.c (.bool false))),none,[]⟩,
 ⟨(some 4),(.mov (.t 17)),none,[]⟩] none)
 .ret)
 .skip))
 (.seq (.region [⟨(some 18),(.mov (.t 0)),none,[]⟩,
 ⟨(some 19),(.mov (.t 1)),none,[]⟩,
 ⟨(some 20),(.bin .lss (.t 18) (.t 19)),none,[]⟩,
 ⟨(some 4),(.mov (.t 20)),none,[]⟩] none)
 .ret)))
def F8 : AFunc := ⟨2,21,[(.tmp 4)],B8⟩
def B9 : ACode := (.seq (.region [⟨(some 4),(.mov (.c (.bool false))),none,[]⟩] none)
 (.seq (.seq (.region [⟨(some 5),(.mov (.t 0)),none,[]⟩,
 ⟨(some 6),(.call (.f 22) [(.t 5)]),none,[]⟩,
 ⟨(some 7),(.mov (.t 1)),none,[]⟩,
 ⟨(some 8),(.call (.f 22) [(.t 7)]),none,[]⟩,
 ⟨(some 9),(.bin .neq (.t 6) (.t 8)),none,[]⟩] none)
 (.cond (.t 9)
 (.seq (.region [⟨(some 10),(.mov (.t 0)),none,[]⟩,
 ⟨(some 11),(.call (.f 22) [(.t 10)]),none,[]⟩,
 ⟨(some 12),(.mov (.t 1)),none,[]⟩,
 ⟨(some 13),(.call (.f 22) [(.t 12)]),none,[]⟩,
 ⟨(some 14),(.bin .lss (.t 11) (.t 13)),none,[]⟩,
 ⟨(some 4),(.mov (.t 14)),none,[]⟩] none)
 .ret)
 .skip))
 (.seq (.region [⟨(some 15),(.mov (.t 0)),none,[]⟩,
 ⟨(some 16),(.call (.f 22) [(.t 15)]),none,[]⟩,
 ⟨(some 17),(.bin .eql (.t 16) (.c (.int .i64 1))),none,[]⟩,
 ⟨(some 18),(.mov (.t 17)),none,[]⟩,
 ⟨(some 19),(.mov (.t 0)),(some (18,true)),[]⟩,
 ⟨(some 20),(.mov (.t 1)),(some (18,true)),[]⟩,
 ⟨(some 21),(.bin .lss (.t 19) (.t 20)),(some (18,true)),[]⟩,
 ⟨(some 22),(.pick (.t 18) (.t 21) (.c (.bool false))),none,[]⟩,
 ⟨(some 4),(.mov (.t 22)),none,[]⟩] none)
 .ret)))
def F9 : AFunc := ⟨2,23,[(.tmp 4)],B9⟩
def B10 : ACode := (.seq (.region [⟨(some 4),(.mov (.c (.bool false))),none,[]⟩] none)
 (.seq (.region [⟨(some 5),(.mov (.t 0)),none,[]⟩,
 ⟨(some 6),(.mov (.t 1)),none,[]⟩,
 ⟨(some 7),(.call (.f 8) [(.t 5),(.t 6)]),none,[]⟩,
 ⟨(some 8),(.un .not (.t 7)),none,[]⟩,
 ⟨(some 9),(.mov (.t 8)),none,[]⟩,
 ⟨(some 10),(.mov (.t 1)),(some (9,true)),[]⟩,
 ⟨(some 11),(.mov (.t 0)),(some (9,true)),[]⟩,
 ⟨(some 12),(.call (.f 8) [(.t 10),(.t 11)]),(some (9,true)),[]⟩,
 ⟨(some 13),(.un .not (.t 12)),(some (9,true)),[]⟩,
 ⟨(some 14),(.pick (.t 9) (.t 13) (.c (.bool false))),none,[]⟩,
 ⟨(some 4),(.mov (.t 14)),none,[]⟩] none)
 .ret))
def F10 : AFunc := ⟨2,15,[(.tmp 4)],B10⟩
def B11 : ACode := (.seq (.region [⟨(some 4),(.mov (.c (.bool false))),none,[]⟩] none)
 (.seq (.region [⟨(some 5),(.mov (.t 0)),none,[]⟩,
 ⟨(some 6),(.call (.f 24) [(.t 5)]),none,[]⟩,
 ⟨(some 7),(.mov (.t 1)),none,[]⟩,
 ⟨(some 8),(.call (.f 24) [(.t 7)]),none,[]⟩,
 ⟨(some 9),(.bin .eql (.t 6) (.t 8)),none,[]⟩,
 ⟨(some 10),(.mov (.t 9)),none,[]⟩,
 ⟨(some 11),(.mov (.t 0)),(some (10,false)),[]⟩,
 ⟨(some 12),(.mov (.t 0)),(some (10,false)),[]⟩,
 ⟨(some 13),(.bin .neq (.t 11) (.t 12)),(some (10,false)),[]⟩,
 ⟨(some 14),(.mov (.t 13)),(some (10,false)),[]⟩,
 ⟨(some 15),(.mov (.t 1)),(some (14,true)),[]⟩,
 ⟨(some 16),(.mov (.t 1)),(some (14,true)),[]⟩,
 ⟨(some 17),(.bin .neq (.t 15) (.t 16)),(some (14,true)),[]⟩,
 ⟨(some 18),(.pick (.t 14) (.t 17) (.c (.bool false))),(some (10,false)),[]⟩,
 ⟨(some 19),(.pick (.t 10) (.c (.bool true)) (.t 18)),none,[]⟩,
 ⟨(some 4),(.mov (.t 19)),none,[]⟩] none)
 .ret))
def F11 : AFunc := ⟨2,20,[(.tmp 4)],B11⟩
def B12 : ACode := (.seq (.region [⟨(some 2),(.mov (.c (.float .f64 0))),none,[]⟩] none)
 (.seq (.seq (.region [⟨(some 3),(.mov (.t 0)),none,[]⟩,
 ⟨(some 4),(.bin .gtr (.t 3) (.c (.float .f64 0))),none,[]⟩] none)
 (.cond (.t 4)
 (.seq (.region [⟨(some 5),(.mov (.t 0)),none,[]⟩,
 ⟨(some 2),(.mov (.t 5)),none,[]⟩] none)
 .ret)
 .skip))
 (.seq (.region [⟨(some 2),(.mov (.c (.float .f64 0))),none,[]⟩] none)
 .ret)))
def F12 : AFunc := ⟨1,6,[(.tmp 2)],B12⟩
def B13 : ACode := (.seq (.region [⟨(some 2),(.mov (.c (.float .f64 0))),none,[]⟩] none)
 (.seq (.seq (.region [⟨(some 3),(.mov (.t 0)),none,[]⟩,
 ⟨(some 4),(.call (.f 22) [(.t 3)]),none,[]⟩,
 ⟨(some 5),(.bin .eql (.t 4) (.c (.int .i64 3))),none,[]⟩,
 ⟨(some 6),(.mov (.t 5)),none,[]⟩,
 ⟨(some 7),(.mov (.t 0)),(some (6,false)),[]⟩,
 ⟨(some 8),(.call (.f 22) [(.t 7)]),(some (6,false)),[]⟩,
 ⟨(some 9),(.bin .eql (.t 8) (.c (.int .i64 0))),(some (6,false)),[]⟩,
 ⟨(some 10),(.pick (.t 6) (.c (.bool true)) (.t 9)),none,[]⟩,
 ⟨(some 11),(.mov (.t 10)),none,[]⟩,
 ⟨(some 12),(.mov (.t 0)),(some (11,false)),[]⟩,
 ⟨(some 13),(.bin .leq (.t 12) (.c (.float .f64 0))),(some (11,false)),[]⟩,
 ⟨(some 14),(.pick (.t 11) (.c (.bool true)) (.t 13)),none,[]⟩] none)
 (.cond (.t 14)
 (.seq (.region [⟨(some 2),(.mov (.c (.float .f64 0))),none,[]⟩] none)
 .ret)
 .skip))
 (.seq (.region [⟨(some 15),(.mov (.t 0)),none,[]⟩,
 ⟨(some 2),(.mov (.t 15)),none,[]⟩] none)
 .ret)))
def F13 : AFunc := ⟨1,16,[(.tmp 2)],B13⟩
def B14 : ACode := (.seq (.region [⟨(some 2),(.mov (.c (.string ⟨#[]⟩))),none,[]⟩] none)
 (.seq (.seq (.region [⟨(some 3),(.mov (.t 0)),none,[]⟩,
 ⟨(some 4),(.call (.f 12) [(.t 3)]),none,[]⟩,
 ⟨(some 0),(.mov (.t 4)),none,[]⟩] none)
 (.seq (.region [⟨(some 5),(.mov (.t 0)),none,[]⟩,
 ⟨(some 6),(.call (.f 21) [(.t 5),(.c (.int .i64 1))]),none,[]⟩] none)
 (.cond (.t 6)
 (.seq (.region [⟨(some 2),(.mov (.c (.string ⟨#[105,110,102]⟩))),none,[]⟩] none)
 .ret)
 .skip)))
 (.seq (.region [⟨(some 7),(.mov (.t 0)),none,[]⟩,
 ⟨(some 8),(.call (.f 25) [(.t 7),(.c (.int .u8 102)),(.c (.int .i64 (-1))),(.c (.int .i64 64))]),none,[]⟩,
 ⟨(some 2),(.mov (.t 8)),none,[]⟩] none)
 .ret)))
def F14 : AFunc := ⟨1,9,[(.tmp 2)],B14⟩
def B15 : ACode := (.seq (.region [⟨(some 2),(.mov (.c (.string ⟨#[]⟩))),none,[]⟩] none)
 (.seq (.region [⟨(some 3),(.mov (.t 0)),none,[]⟩,
 ⟨(some 4),(.call (.f 13) [(.t 3)]),none,[]⟩,
 ⟨(some 0),(.mov (.t 4)),none,[]⟩] none)
 (.seq (.seq (.region [⟨(some 5),(.mov (.t 0)),none,[]⟩,
 ⟨(some 6),(.call (.f 22) [(.t 5)]),none,[]⟩,
 ⟨(some 7),(.bin .eql (.t 6) (.c (.int .i64 2))),none,[]⟩] none)
 (.cond (.t 7)
 (.seq (.region [⟨(some 2),(.mov (.c (.string ⟨#[105,110,102]⟩))),none,[]⟩] none)
 .ret)
 .skip))
 (.seq (.region [⟨(some 8),(.mov (.t 0)),none,[]⟩,
 ⟨(some 9),(.call (.f 25) [(.t 8),(.c (.int .u8 102)),(.c (.int .i64 (-1))),(.c (.int .i64 64))]),none,[]⟩,
 ⟨(some 2),(.mov (.t 9)),none,[]⟩] none)
 .ret))))
def F15 : AFunc := ⟨1,10,[(.tmp 2)],B15⟩
def R16_0 : ACode := .region [⟨(some 7),(.call (.f 26) [(.c (.float .f64 4602678819172646912)),(.c (.float .f64 4611686018427387904)),(.c (.int .i64 0))]),none,[]⟩,
 ⟨(some 8),(.load none (.g 1)),none,[]⟩,
 ⟨(some 9),(.call (.f 26) [(.t 8),(.c (.float .f64 4613937818241073152)),(.c (.int .i64 0))]),none,[1,0]⟩,
 ⟨(some 1),(.alloc 51 [(.float .f64 0),(.float .f64 0),(.float .f64 0),(.int .i64 0)]),none,[]⟩,
 ⟨(some 2),(.alloc 51 [(.float .f64 0),(.float .f64 0),(.float .f64 0),(.int .i64 0)]),none,[]⟩,
 ⟨none,(.store 4 (.t 1) (.t 7)),none,[3,0,2,0,1,2,3,4]⟩,
 ⟨none,(.store 4 (.t 2) (.t 9)),none,[4,2,5,0,1,2,3,4,5]⟩] (some [(0,1),(0,3),(1,3),(2,3),(0,4),(1,4),(2,4),(3,4)])
def R16_1 : ACode := .region [⟨(some 30),(.load none (.g 1)),none,[]⟩,
 ⟨(some 31),(.call (.f 29) []),none,[]⟩,
 ⟨(some 32),(.call (.f 8) [(.t 30),(.t 31)]),none,[0,1,1]⟩,
 ⟨(some 33),(.mov (.t 32)),none,[2,2]⟩,
 ⟨(some 34),(.call (.f 30) [(.c (.float .f64 0)),(.c (.float .f64 13830554455654793216))]),(some (33,true)),[3,3]⟩,
 ⟨(some 35),(.call (.f 10) [(.t 34),(.c (.float .f64 0))]),(some (33,true)),[4,4,3]⟩,
 ⟨(some 36),(.pick (.t 33) (.t 35) (.c (.bool false))),none,[3,5]⟩,
 ⟨(some 37),(.mov (.t 36)),none,[6,5]⟩,
 ⟨(some 38),(.call (.f 29) []),(some (37,true)),[7,7]⟩,
 ⟨(some 39),(.call (.f 29) []),(some (37,true)),[8,7]⟩,
 ⟨(some 40),(.call (.f 8) [(.t 38),(.t 39)]),(some (37,true)),[8,9,9,7]⟩,
 ⟨(some 41),(.un .not (.t 40)),(some (37,true)),[10,7]⟩,
 ⟨(some 42),(.pick (.t 37) (.t 41) (.c (.bool false))),none,[7,11]⟩,
 ⟨(some 43),(.mov (.t 42)),none,[12,10]⟩,
 ⟨(some 44),(.call (.f 14) [(.c (.float .f64 4591870180066957722))]),(some (43,true)),[13,13]⟩,
 ⟨(some 45),(.bin .eql (.t 44) (.c (.string ⟨#[48,46,49]⟩))),(some (43,true)),[14,13]⟩,
 ⟨(some 46),(.pick (.t 43) (.t 45) (.c (.bool false))),none,[13,15]⟩,
 ⟨(some 47),(.mov (.t 46)),none,[16,14]⟩,
 ⟨(some 48),(.call (.f 29) []),(some (47,true)),[17,17]⟩,
 ⟨(some 49),(.call (.f 14) [(.t 48)]),(some (47,true)),[18,18,17]⟩,
 ⟨(some 50),(.bin .eql (.t 49) (.c (.string ⟨#[48]⟩))),(some (47,true)),[19,17]⟩,
 ⟨(some 51),(.pick (.t 47) (.t 50) (.c (.bool false))),none,[17,20]⟩,
 ⟨(some 52),(.mov (.t 51)),none,[21,19]⟩,
 ⟨(some 53),(.call (.f 14) [(.c (.float .f64 4921056587992461136))]),(some (52,true)),[22,22]⟩,
 ⟨(some 54),(.bin .eql (.t 53) (.c (.string ⟨#[49,48,48,48,48,48,48,48,48,48,48,48,48,48,48,48,48,48,48,48,48,48]⟩))),(some (52,true)),[23,22]⟩,
 ⟨(some 55),(.pick (.t 52) (.t 54) (.c (.bool false))),none,[22,24]⟩,
 ⟨(some 56),(.mov (.t 55)),none,[25,23]⟩,
 ⟨(some 57),(.mov (.t 3)),(some (56,true)),[26]⟩,
 ⟨(some 58),(.pick (.t 56) (.t 57) (.c (.bool false))),none,[26,27]⟩,
 ⟨(some 59),(.mov (.t 58)),none,[28,26]⟩,
 ⟨(some 60),(.mov (.t 5)),(some (59,true)),[29]⟩,
 ⟨(some 61),(.pick (.t 59) (.t 60) (.c (.bool false))),none,[29,30]⟩,
 ⟨(some 62),(.mov (.t 61)),none,[31,29]⟩,
 ⟨(some 63),(.mov (.t 4)),(some (62,true)),[32]⟩,
 ⟨(some 64),(.bin .eql (.t 63) (.c (.int .i64 4))),(some (62,true)),[33,32]⟩,
 ⟨(some 65),(.pick (.t 62) (.t 64) (.c (.bool false))),none,[32,34]⟩,
 ⟨(some 66),(.mov (.t 65)),none,[35,32]⟩,
 ⟨(some 67),(.mov (.t 6)),(some (66,true)),[36]⟩,
 ⟨(some 68),(.pick (.t 66) (.t 67) (.c (.bool false))),none,[36,37]⟩,
 ⟨(some 0),(.mov (.t 68)),none,[38,36,0,1,2,3,4,5,6,7,8,9,10,11,12,13,14,15,16,17,18,19,20,21,22,23,24,25,26,27,28,29,30,31,32,33,34,35,36,37,38]⟩] (some [(0,1)])
def B16 : ACode := (.seq (.region [⟨(some 0),(.mov (.c (.bool false))),none,[]⟩] none)
 (.seq R16_0
 (.seq (.region [⟨(some 10),(.call (.f 27) [(.t 1),(.c (.int .i64 0)),(.c (.float .f64 4611686018427387904))]),none,[]⟩,
 ⟨(some 11),(.mov (.t 10)),none,[]⟩,
 ⟨(some 12),(.call (.f 27) [(.t 1),(.c (.int .i64 1)),(.c (.float .f64 4607182418800017408))]),(some (11,true)),[]⟩,
 ⟨(some 13),(.un .not (.t 12)),(some (11,true)),[]⟩,
 ⟨(some 14),(.pick (.t 11) (.t 13) (.c (.bool false))),none,[]⟩,
 ⟨(some 15),(.mov (.t 14)),none,[]⟩,
 ⟨(some 16),(.call (.f 27) [(.t 1),(.c (.int .i64 2)),(.c (.float .f64 4607182418800017408))]),(some (15,true)),[]⟩,
 ⟨(some 17),(.pick (.t 15) (.t 16) (.c (.bool false))),none,[]⟩,
 ⟨(some 3),(.mov (.t 17)),none,[]⟩] none)
 (.seq (.region [⟨(some 19),(.call (.f 28) [(.t 1),(.c (.float .f64 4611686018427387904))]),none,[]⟩,
 ⟨(some 18),(.mov (.t 19)),none,[]⟩,
 ⟨(some 20),(.extract (.t 18) 0),none,[]⟩,
 ⟨(some 21),(.extract (.t 18) 1),none,[]⟩,
 ⟨(some 4),(.mov (.t 20)),none,[]⟩,
 ⟨(some 5),(.mov (.t 21)),none,[]⟩] none)
 (.seq (.region [⟨(some 22),(.call (.f 27) [(.t 2),(.c (.int .i64 0)),(.c (.float .f64 4613937818241073152))]),none,[]⟩,
 ⟨(some 23),(.mov (.t 22)),none,[]⟩,
 ⟨(some 24),(.call (.f 27) [(.t 2),(.c (.int .i64 0)),(.c (.float .f64 4607182418800017408))]),(some (23,true)),[]⟩,
 ⟨(some 25),(.un .not (.t 24)),(some (23,true)),[]⟩,
 ⟨(some 26),(.pick (.t 23) (.t 25) (.c (.bool false))),none,[]⟩,
 ⟨(some 27),(.mov (.t 26)),none,[]⟩,
 ⟨(some 28),(.call (.f 27) [(.t 2),(.c (.int .i64 1)),(.c (.float .f64 4613937818241073152))]),(some (27,true)),[]⟩,
 ⟨(some 29),(.pick (.t 27) (.t 28) (.c (.bool false))),none,[]⟩,
 ⟨(some 6),(.mov (.t 29)),none,[]⟩] none)
 (.seq R16_1
 .ret))))))
def F16 : AFunc := ⟨0,69,[(.tmp 0)],B16⟩
def B17 : ACode := (.seq (.region [⟨(some 2),(.mov (.c (.float .f64 0))),none,[]⟩] none)
 (.seq (.region [⟨(some 3),(.mov (.c (.int .u64 0))),none,[]⟩] none)
 (.seq (.seq (.region [⟨(some 4),(.mov (.t 0)),none,[]⟩,
 ⟨(some 5),(.bin .geq (.t 4) (.c (.int .i64 0))),none,[]⟩] none)
 (.cond (.t 5)
 (.region [⟨(some 3),(.mov (.c (.int .u64 9218868437227405312))),none,[]⟩] none)
 (.region [⟨(some 3),(.mov (.c (.int .u64 18442240474082181120))),none,[]⟩] none)))
 (.seq (.region [⟨(some 6),(.mov (.t 3)),none,[]⟩,
 ⟨(some 7),(.call (.f 5) [(.t 6)]),none,[]⟩,
 ⟨(some 2),(.mov (.t 7)),none,[]⟩] none)
 .ret))))
def F17 : AFunc := ⟨1,8,[(.tmp 2)],B17⟩
def B18 : ACode := (.seq (.region [⟨(some 4),(.mov (.c (.string ⟨#[]⟩))),none,[]⟩,
 ⟨(some 5),(.mov (.c (.string ⟨#[]⟩))),none,[]⟩,
 ⟨(some 6),(.mov (.c (.bool false))),none,[]⟩] none)
 (.seq (.region [⟨(some 7),(.mov (.t 0)),none,[]⟩,
 ⟨(some 8),(.mov (.t 1)),none,[]⟩,
 ⟨(some 9),(.call (.f 31) [(.t 7),(.t 8)]),none,[]⟩,
 ⟨(some 10),(.extract (.t 9) 0),none,[]⟩,
 ⟨(some 11),(.extract (.t 9) 1),none,[]⟩,
 ⟨(some 12),(.extract (.t 9) 2),none,[]⟩,
 ⟨(some 4),(.mov (.t 10)),none,[]⟩,
 ⟨(some 5),(.mov (.t 11)),none,[]⟩,
 ⟨(some 6),(.mov (.t 12)),none,[]⟩] none)
 .ret))
def F18 : AFunc := ⟨2,13,[(.tmp 4),(.tmp 5),(.tmp 6)],B18⟩
def B19 : ACode := (.seq (.region [⟨(some 2),(.mov (.c (.bool false))),none,[]⟩] none)
 (.seq (.region [⟨(some 3),(.mov (.t 0)),none,[]⟩,
 ⟨(some 4),(.bin .neq (.t 3) (.c (.string ⟨#[]⟩))),none,[]⟩,
 ⟨(some 5),(.mov (.t 4)),none,[]⟩,
 ⟨(some 6),(.mov (.t 0)),(some (5,true)),[]⟩,
 ⟨(some 7),(.lenStr (.t 6)),(some (5,true)),[]⟩,
 ⟨(some 8),(.bin .leq (.t 7) (.c (.int .i64 400))),(some (5,true)),[]⟩,
 ⟨(some 9),(.pick (.t 5) (.t 8) (.c (.bool false))),none,[]⟩,
 ⟨(some 10),(.mov (.t 9)),none,[]⟩,
 ⟨(some 11),(.mov (.t 0)),(some (10,true)),[]⟩,
 ⟨(some 12),(.call (.f 32) [(.t 11),(.c (.string ⟨#[48,49,50,51,52,53,54,55,56,57]⟩))]),(some (10,true)),[]⟩,
 ⟨(some 13),(.bin .eql (.t 12) (.c (.string ⟨#[]⟩))),(some (10,true)),[]⟩,
 ⟨(some 14),(.pick (.t 10) (.t 13) (.c (.bool false))),none,[]⟩,
 ⟨(some 2),(.mov (.t 14)),none,[]⟩] none)
 .ret))
def F19 : AFunc := ⟨1,15,[(.tmp 2)],B19⟩
def B20 : ACode := (.seq (.region [⟨(some 4),(.mov (.c (.float .f64 0))),none,[]⟩,
 ⟨(some 5),(.mov (.c .nilIface)),none,[]⟩] none)
 (.seq (.region [⟨(some 9),(.mov (.t 0)),none,[]⟩,
 ⟨(some 10),(.mov (.t 1)),none,[]⟩,
 ⟨(some 11),(.call (.f 33) [(.t 9),(.t 10)]),none,[]⟩,
 ⟨(some 8),(.mov (.t 11)),none,[]⟩,
 ⟨(some 12),(.extract (.t 8) 0),none,[]⟩,
 ⟨(some 13),(.extract (.t 8) 1),none,[]⟩,
 ⟨(some 6),(.mov (.t 12)),none,[]⟩,
 ⟨(some 7),(.mov (.t 13)),none,[]⟩] none)
 (.seq (.seq (.region [⟨(some 14),(.mov (.t 7)),none,[]⟩,
 ⟨(some 15),(.eqv true .iface true (.t 14) (.c .nilIface)),none,[]⟩] none)
 (.cond (.t 15)
 (.seq (.region [⟨(some 16),(.mov (.t 6)),none,[]⟩,
 ⟨(some 17),(.mov (.t 0)),none,[]⟩,
 ⟨(some 18),(.mov (.t 1)),none,[]⟩,
 ⟨(some 19),(.mov (.t 7)),none,[]⟩,
 ⟨(some 20),(.call (.f 34) [(.c (.string ⟨#[80,97,114,115,101,70,108,111,97,116]⟩)),(.t 17),(.c (.int .i64 0)),(.t 18),(.t 19)]),none,[]⟩,
 ⟨(some 4),(.mov (.t 16)),none,[]⟩,
 ⟨(some 5),(.mov (.t 20)),none,[]⟩] none)
 .ret)
 .skip))
 (.seq (.region [⟨(some 21),(.mov (.t 6)),none,[]⟩,
 ⟨(some 4),(.mov (.t 21)),none,[]⟩,
 ⟨(some 5),(.mov (.c .nilIface)),none,[]⟩] none)
 .ret))))
def F20 : AFunc := ⟨2,22,[(.tmp 4),(.tmp 5)],B20⟩
def B21 : ACode := (.seq (.region [⟨(some 4),(.mov (.c (.bool false))),none,[]⟩] none)
 (.seq (.seq (.region [⟨(some 5),(.mov (.t 1)),none,[]⟩,
 ⟨(some 6),(.bin .eql (.t 5) (.c (.int .i64 0))),none,[]⟩] none)
 (.cond (.t 6)
 (.region [⟨(some 7),(.mov (.t 0)),none,[]⟩,
 ⟨(some 8),(.call (.f 35) [(.t 7)]),none,[]⟩,
 ⟨(some 0),(.mov (.t 8)),none,[]⟩] none)
 (.seq (.region [⟨(some 9),(.mov (.t 1)),none,[]⟩,
 ⟨(some 10),(.bin .lss (.t 9) (.c (.int .i64 0))),none,[]⟩] none)
 (.cond (.t 10)
 (.region [⟨(some 11),(.mov (.t 0)),none,[]⟩,
 ⟨(some 12),(.un .neg (.t 11)),none,[]⟩,
 ⟨(some 0),(.mov (.t 12)),none,[]⟩] none)
 .skip))))
 (.seq (.region [⟨(some 13),(.mov (.t 0)),none,[]⟩,
 ⟨(some 14),(.bin .gtr (.t 13) (.c (.float .f64 9218868437227405311))),none,[]⟩,
 ⟨(some 4),(.mov (.t 14)),none,[]⟩] none)
 .ret)))
def F21 : AFunc := ⟨2,15,[(.tmp 4)],B21⟩
def B22 : ACode := (.seq (.region [⟨(some 2),(.mov (.c (.int .i64 0))),none,[]⟩] none)
 (.seq (.seq (.region [⟨(some 3),(.mov (.t 0)),none,[]⟩,
 ⟨(some 4),(.mov (.t 0)),none,[]⟩,
 ⟨(some 5),(.bin .neq (.t 3) (.t 4)),none,[]⟩] none)
 (.cond (.t 5)
 (.seq (.region [⟨(some 2),(.mov (.c (.int .i64 3))),none,[]⟩] none)
 .ret)
 .skip))
 (.seq (.seq (.region [⟨(some 6),(.mov (.t 0)),none,[]⟩,
 ⟨(some 7),(.bin .gtr (.t 6) (.c (.float .f64 9218868437227405311))),none,[]⟩] none)
 (.cond (.t 7)
 (.seq (.region [⟨(some 2),(.mov (.c (.int .i64 2))),none,[]⟩] none)
 .ret)
 .skip))
 (.seq (.seq (.region [⟨(some 8),(.mov (.t 0)),none,[]⟩,
 ⟨(some 9),(.bin .lss (.t 8) (.c (.float .f64 18442240474082181119))),none,[]⟩] none)
 (.cond (.t 9)
 (.seq (.region [⟨(some 2),(.mov (.c (.int .i64 0))),none,[]⟩] none)
 .ret)
 .skip))
 (.seq (.region [⟨(some 2),(.mov (.c (.int .i64 1))),none,[]⟩] none)
 .ret)))))
def F22 : AFunc := ⟨1,10,[(.tmp 2)],B22⟩
def B23 : ACode := (.seq (.region [⟨(some 2),(.mov (.c (.bool false))),none,[]⟩] none)
 (.seq (.region [⟨(some 3),(.mov (.t 0)),none,[]⟩,
 ⟨(some 4),(.mov (.t 0)),none,[]⟩,
 ⟨(some 5),(.bin .neq (.t 3) (.t 4)),none,[]⟩,
 ⟨(some 2),(.mov (.t 5)),none,[]⟩] none)
 .ret))
def F23 : AFunc := ⟨1,6,[(.tmp 2)],B23⟩
def B25 : ACode := (.seq (.region [⟨(some 8),(.mov (.c (.string ⟨#[]⟩))),none,[]⟩] none)
 (.seq (.region [⟨(some 9),(.mov (.t 0)),none,[]⟩,
 ⟨(some 10),(.mov (.t 1)),none,[]⟩,
 ⟨(some 11),(.mov (.t 2)),none,[]⟩,
 ⟨(some 12),(.mov (.t 3)),none,[]⟩,
 ⟨(some 13),(.call (.f 36) [(.t 9),(.t 10),(.t 11),(.t 12)]),none,[]⟩,
 ⟨(some 8),(.mov (.t 13)),none,[]⟩] none)
 .ret))
def F25 : AFunc := ⟨4,14,[(.tmp 8)],B25⟩
def B26 : ACode := (.seq (.region [⟨(some 6),(.alloc 51 [(.float .f64 0),(.float .f64 0),(.float .f64 0),(.int .i64 0)]),none,[]⟩] none)
 (.seq (.region [⟨(some 8),(.mov (.t 0)),none,[]⟩,
 ⟨(some 9),(.mov (.t 1)),none,[]⟩,
 ⟨(some 10),(.mov (.t 1)),none,[]⟩,
 ⟨(some 11),(.mov (.t 2)),none,[]⟩,
 ⟨(some 12),(.build [(.float .f64 0),(.float .f64 0),(.float .f64 0),(.int .i64 0)] [(0,1,(.t 8)),(1,1,(.t 9)),(2,1,(.t 10)),(3,1,(.t 11))]),none,[]⟩,
 ⟨(some 7),(.alloc 51 [(.float .f64 0),(.float .f64 0),(.float .f64 0),(.int .i64 0)]),none,[]⟩,
 ⟨none,(.store 4 (.t 7) (.t 12)),none,[]⟩] none)
 (.seq (.region [⟨(some 13),(.call (.f 37) [(.t 7)]),none,[]⟩] none)
 (.seq (.region [⟨(some 14),(.load (some 4) (.t 7)),none,[]⟩,
 ⟨none,(.store 4 (.t 6) (.t 14)),none,[]⟩] none)
 .ret))))
def F26 : AFunc := ⟨3,15,[(.cell 6 (some 4))],B26⟩
def B27 : ACode := (.seq (.region [⟨(some 6),(.mov (.c (.bool false))),none,[]⟩] none)
 (.seq (.region [⟨(some 7),(.mov (.t 2)),none,[]⟩,
 ⟨(some 8),(.call (.f 12) [(.t 7)]),none,[]⟩,
 ⟨(some 2),(.mov (.t 8)),none,[]⟩] none)
 (.seq (.seq (.region [⟨(some 9),(.mov (.t 0)),none,[]⟩,
 ⟨(some 10),(.eqv false .ptr false (.t 9) (.c (.pointer none))),none,[]⟩,
 ⟨(some 11),(.mov (.t 10)),none,[]⟩,
 ⟨(some 12),(.mov (.t 2)),(some (11,false)),[]⟩,
 ⟨(some 13),(.mov (.t 0)),(some (11,false)),[]⟩,
 ⟨(some 14),(.mov (.t 1)),(some (11,false)),[]⟩,
 ⟨(some 15),(.call (.f 38) [(.t 13),(.t 14)]),(some (11,false)),[]⟩,
 ⟨(some 16),(.bin .gtr (.t 12) (.t 15)),(some (11,false)),[]⟩,
 ⟨(some 17),(.pick (.t 11) (.c (.bool true)) (.t 16)),none,[]⟩] none)
 (.cond (.t 17)
 (.seq (.region [⟨(some 6),(.mov (.c (.bool false))),none,[]⟩] none)
 .ret)
 .skip))
 (.seq (.seq (.region [⟨(some 18),(.mov (.t 0)),none,[]⟩,
 ⟨(some 19),(.nilCheck (.t 18)),none,[]⟩,
 ⟨(some 20),(.fieldAddr 2 (.t 19)),none,[]⟩,
 ⟨(some 21),(.load none (.t 20)),none,[]⟩,
 ⟨(some 22),(.call (.f 21) [(.t 21),(.c (.int .i64 1))]),none,[]⟩,
 ⟨(some 23),(.un .not (.t 22)),none,[]⟩] none)
 (.cond (.t 23)
 (.region [⟨(some 24),(.mov (.t 0)),none,[]⟩,
 ⟨(some 25),(.mov (.t 0)),none,[]⟩,
 ⟨(some 26),(.nilCheck (.t 25)),none,[]⟩,
 ⟨(some 27),(.fieldAddr 2 (.t 26)),none,[]⟩,
 ⟨(some 28),(.load none (.t 27)),none,[]⟩,
 ⟨(some 29),(.mov (.t 2)),none,[]⟩,
 ⟨(some 30),(.bin .sub (.t 28) (.t 29)),none,[]⟩,
 ⟨(some 31),(.call (.f 12) [(.t 30)]),none,[]⟩,
 ⟨(some 32),(.nilCheck (.t 24)),none,[]⟩,
 ⟨(some 33),(.fieldAddr 2 (.t 32)),none,[]⟩,
 ⟨none,(.store 1 (.t 33) (.t 31)),none,[]⟩] none)
 .skip))
 (.seq (.region [⟨(some 6),(.mov (.c (.bool true))),none,[]⟩] none)
 .ret)))))
def F27 : AFunc := ⟨3,34,[(.tmp 6)],B27⟩
def B28 : ACode := (.seq (.region [⟨(some 3),(.box 23 (.t 1)),none,[]⟩,
 ⟨(some 4),(.mov (.c (.int .i64 0))),none,[]⟩,
 ⟨(some 5),(.mov (.c (.bool false))),none,[]⟩] none)
 (.seq (.seq (.region [⟨(some 8),(.mov (.t 0)),none,[]⟩,
 ⟨(some 9),(.eqv false .ptr false (.t 8) (.c (.pointer none))),none,[]⟩] none)
 (.cond (.t 9)
 (.seq (.region [⟨(some 4),(.mov (.c (.int .i64 0))),none,[]⟩,
 ⟨(some 5),(.mov (.c (.bool false))),none,[]⟩] none)
 .ret)
 .skip))
 (.seq (.region [⟨(some 10),(.mov (.t 0)),none,[]⟩,
 ⟨(some 11),(.nilCheck (.t 10)),none,[]⟩,
 ⟨(some 12),(.load (some 4) (.t 11)),none,[]⟩,
 ⟨(some 6),(.alloc 51 [(.float .f64 0),(.float .f64 0),(.float .f64 0),(.int .i64 0)]),none,[]⟩,
 ⟨none,(.store 4 (.t 6) (.t 12)),none,[]⟩] none)
 (.seq (.region [⟨(some 13),(.call (.f 37) [(.t 6)]),none,[]⟩] none)
 (.seq (.region [⟨(some 14),(.load none (.t 3)),none,[]⟩,
 ⟨(some 15),(.call (.f 12) [(.t 14)]),none,[]⟩,
 ⟨none,(.store 1 (.t 3) (.t 15)),none,[]⟩] none)
 (.seq (.region [⟨(some 16),(.makeFunc 40 [] [(.t 6),(.t 3)]),none,[]⟩,
 ⟨(some 17),(.call (.f 39) [(.c (.int .i64 1099511627777)),(.t 16)]),none,[]⟩,
 ⟨(some 7),(.mov (.t 17)),none,[]⟩] none)
 (.seq (.seq (.region [⟨(some 18),(.mov (.t 7)),none,[]⟩,
 ⟨(some 19),(.bin .gtr (.t 18) (.c (.int .i64 1099511627776))),none,[]⟩] none)
 (.cond (.t 19)
 (.seq (.region [⟨(some 4),(.mov (.c (.int .i64 0))),none,[]⟩,
 ⟨(some 5),(.mov (.c (.bool false))),none,[]⟩] none)
 .ret)
 .skip))
 (.seq (.region [⟨(some 20),(.mov (.t 7)),none,[]⟩,
 ⟨(some 4),(.mov (.t 20)),none,[]⟩,
 ⟨(some 5),(.mov (.c (.bool true))),none,[]⟩] none)
 .ret))))))))
def F28 : AFunc := ⟨2,21,[(.tmp 4),(.tmp 5)],B28⟩
def B29 : ACode := (.seq (.region [⟨(some 0),(.mov (.c (.float .f64 0))),none,[]⟩] none)
 (.seq (.region [⟨(some 1),(.call (.f 5) [(.c (.int .u64 9221120237041090561))]),none,[]⟩,
 ⟨(some 0),(.mov (.t 1)),none,[]⟩] none)
 .ret))
def F29 : AFunc := ⟨0,2,[(.tmp 0)],B29⟩
def B30 : ACode := (.seq (.region [⟨(some 4),(.mov (.c (.float .f64 0))),none,[]⟩] none)
 (.seq (.region [⟨(some 5),(.mov (.t 0)),none,[]⟩,
 ⟨(some 6),(.call (.f 24) [(.t 5)]),none,[]⟩,
 ⟨(some 7),(.bin .andNot (.t 6) (.c (.int .u64 9223372036854775808))),none,[]⟩,
 ⟨(some 8),(.mov (.t 1)),none,[]⟩,
 ⟨(some 9),(.call (.f 24) [(.t 8)]),none,[]⟩,
 ⟨(some 10),(.bin .and (.t 9) (.c (.int .u64 9223372036854775808))),none,[]⟩,
 ⟨(some 11),(.bin .or (.t 7) (.t 10)),none,[]⟩,
 ⟨(some 12),(.call (.f 5) [(.t 11)]),none,[]⟩,
 ⟨(some 4),(.mov (.t 12)),none,[]⟩] none)
 .ret))
def F30 : AFunc := ⟨2,13,[(.tmp 4)],B30⟩
def R31_0 : ACode := .region [⟨(some 13),(.mov (.t 0)),none,[]⟩,
 ⟨(some 14),(.mov (.t 7)),none,[]⟩,
 ⟨(some 15),(.sliceStr (.t 13) none (some (.t 14))),none,[0,1]⟩,
 ⟨(some 16),(.mov (.t 0)),none,[]⟩,
 ⟨(some 17),(.mov (.t 7)),none,[]⟩,
 ⟨(some 18),(.mov (.t 1)),none,[]⟩,
 ⟨(some 19),(.lenStr (.t 18)),none,[5]⟩,
 ⟨(some 20),(.bin .add (.t 17) (.t 19)),none,[4,6]⟩,
 ⟨(some 21),(.sliceStr (.t 16) (some (.t 20)) none),none,[3,7]⟩,
 ⟨(some 4),(.mov (.t 15)),none,[2,0,1,2]⟩,
 ⟨(some 5),(.mov (.t 21)),none,[8,9,0,1,2,3,4,5,6,7,8,9]⟩,
 ⟨(some 6),(.mov (.c (.bool true))),none,[10,0,1,2,3,4,5,6,7,8,9,10]⟩] (some [(0,1),(0,3),(1,3),(2,3),(0,4),(1,4),(2,4),(3,4),(0,5),(1,5),(2,5),(3,5),(4,5),(0,6),(1,6),(2,6),(3,6),(4,6),(0,7),(1,7),(2,7),(3,7),(0,8),(1,8),(2,8),(3,9),(4,9),(5,9),(6,9),(7,9),(8,9)])
def B31 : ACode := (.seq (.region [⟨(some 4),(.mov (.c (.string ⟨#[]⟩))),none,[]⟩,
 ⟨(some 5),(.mov (.c (.string ⟨#[]⟩))),none,[]⟩,
 ⟨(some 6),(.mov (.c (.bool false))),none,[]⟩] none)
 (.seq (.seq (.region [⟨(some 8),(.mov (.t 0)),none,[]⟩,
 ⟨(some 9),(.mov (.t 1)),none,[]⟩,
 ⟨(some 10),(.call (.f 42) [(.t 8),(.t 9)]),none,[]⟩,
 ⟨(some 7),(.mov (.t 10)),none,[]⟩] none)
 (.seq (.region [⟨(some 11),(.mov (.t 7)),none,[]⟩,
 ⟨(some 12),(.bin .geq (.t 11) (.c (.int .i64 0))),none,[]⟩] none)
 (.cond (.t 12)
 (.seq R31_0
 .ret)
 .skip)))
 (.seq (.region [⟨(some 22),(.mov (.t 0)),none,[]⟩,
 ⟨(some 4),(.mov (.t 22)),none,[]⟩,
 ⟨(some 5),(.mov (.c (.string ⟨#[]⟩))),none,[]⟩,
 ⟨(some 6),(.mov (.c (.bool false))),none,[]⟩] none)
 .ret)))
def F31 : AFunc := ⟨2,23,[(.tmp 4),(.tmp 5),(.tmp 6)],B31⟩
def R32_0 : ACode := .region [⟨(some 22),(.mov (.t 0)),none,[]⟩,
 ⟨(some 23),(.mov (.t 1)),none,[]⟩,
 ⟨(some 24),(.indexStr (.t 23) (.c (.int .i64 0))),none,[1]⟩,
 ⟨(some 25),(.call (.f 44) [(.t 22),(.t 24)]),none,[0,2]⟩,
 ⟨(some 26),(.mov (.t 1)),none,[]⟩,
 ⟨(some 27),(.indexStr (.t 26) (.c (.int .i64 0))),none,[4]⟩,
 ⟨(some 28),(.call (.f 43) [(.t 25),(.t 27)]),none,[3,5,3]⟩,
 ⟨(some 4),(.mov (.t 28)),none,[6,6,0,1,2,3,4,5,6]⟩] (some [(0,1),(0,2),(0,4),(1,4),(2,4),(3,4),(0,5),(1,5),(2,5),(3,5)])
def B32 : ACode := (.seq (.region [⟨(some 4),(.mov (.c (.string ⟨#[]⟩))),none,[]⟩] none)
 (.seq (.seq (.region [⟨(some 7),(.mov (.t 0)),none,[]⟩,
 ⟨(some 8),(.bin .eql (.t 7) (.c (.string ⟨#[]⟩))),none,[]⟩,
 ⟨(some 9),(.mov (.t 8)),none,[]⟩,
 ⟨(some 10),(.mov (.t 1)),(some (9,false)),[]⟩,
 ⟨(some 11),(.bin .eql (.t 10) (.c (.string ⟨#[]⟩))),(some (9,false)),[]⟩,
 ⟨(some 12),(.pick (.t 9) (.c (.bool true)) (.t 11)),none,[]⟩] none)
 (.cond (.t 12)
 (.seq (.region [⟨(some 13),(.mov (.t 0)),none,[]⟩,
 ⟨(some 4),(.mov (.t 13)),none,[]⟩] none)
 .ret)
 .skip))
 (.seq (.seq (.region [⟨(some 14),(.mov (.t 1)),none,[]⟩,
 ⟨(some 15),(.lenStr (.t 14)),none,[]⟩,
 ⟨(some 16),(.bin .eql (.t 15) (.c (.int .i64 1))),none,[]⟩,
 ⟨(some 17),(.mov (.t 16)),none,[]⟩,
 ⟨(some 18),(.mov (.t 1)),(some (17,true)),[]⟩,
 ⟨(some 19),(.indexStr (.t 18) (.c (.int .i64 0))),(some (17,true)),[]⟩,
 ⟨(some 20),(.bin .lss (.t 19) (.c (.int .u8 128))),(some (17,true)),[]⟩,
 ⟨(some 21),(.pick (.t 17) (.t 20) (.c (.bool false))),none,[]⟩] none)
 (.cond (.t 21)
 (.seq R32_0
 .ret)
 .skip))
 (.seq (.seq (.region [⟨(some 30),(.mov (.t 1)),none,[]⟩,
 ⟨(some 31),(.call (.f 45) [(.t 30)]),none,[]⟩,
 ⟨(some 29),(.mov (.t 31)),none,[]⟩,
 ⟨(some 32),(.extract (.t 29) 0),none,[]⟩,
 ⟨(some 33),(.extract (.t 29) 1),none,[]⟩,
 ⟨(some 5),(.alloc 67 (List.replicate 256 (.bool false))),none,[]⟩,
 ⟨none,(.store 256 (.t 5) (.t 32)),none,[]⟩,
 ⟨(some 6),(.mov (.t 33)),none,[]⟩] none)
 (.seq (.region [⟨(some 34),(.mov (.t 6)),none,[]⟩] none)
 (.cond (.t 34)
 (.seq (.region [⟨(some 35),(.mov (.t 0)),none,[]⟩,
 ⟨(some 36),(.call (.f 47) [(.t 35),(.t 5)]),none,[]⟩,
 ⟨(some 37),(.call (.f 46) [(.t 36),(.t 5)]),none,[]⟩,
 ⟨(some 4),(.mov (.t 37)),none,[]⟩] none)
 .ret)
 .skip)))
 (.seq (.region [⟨(some 38),(.mov (.t 0)),none,[]⟩,
 ⟨(some 39),(.mov (.t 1)),none,[]⟩,
 ⟨(some 40),(.call (.f 49) [(.t 38),(.t 39)]),none,[]⟩,
 ⟨(some 41),(.mov (.t 1)),none,[]⟩,
 ⟨(some 42),(.call (.f 48) [(.t 40),(.t 41)]),none,[]⟩,
 ⟨(some 4),(.mov (.t 42)),none,[]⟩] none)
 .ret)))))
def F32 : AFunc := ⟨2,43,[(.tmp 4)],B32⟩
def B33 : ACode := (.seq (.region [⟨(some 4),(.mov (.c (.float .f64 0))),none,[]⟩,
 ⟨(some 5),(.mov (.c .nilIface)),none,[]⟩] none)
 (.seq (.region [⟨(some 10),(.mov (.t 0)),none,[]⟩,
 ⟨(some 11),(.mov (.t 1)),none,[]⟩,
 ⟨(some 12),(.call (.f 50) [(.t 10),(.t 11)]),none,[]⟩,
 ⟨(some 9),(.mov (.t 12)),none,[]⟩,
 ⟨(some 13),(.extract (.t 9) 0),none,[]⟩,
 ⟨(some 14),(.extract (.t 9) 1),none,[]⟩,
 ⟨(some 15),(.extract (.t 9) 2),none,[]⟩,
 ⟨(some 6),(.mov (.t 13)),none,[]⟩,
 ⟨(some 7),(.mov (.t 14)),none,[]⟩,
 ⟨(some 8),(.mov (.t 15)),none,[]⟩] none)
 (.seq (.seq (.region [⟨(some 16),(.mov (.t 7)),none,[]⟩,
 ⟨(some 17),(.mov (.t 0)),none,[]⟩,
 ⟨(some 18),(.lenStr (.t 17)),none,[]⟩,
 ⟨(some 19),(.bin .neq (.t 16) (.t 18)),none,[]⟩] none)
 (.cond (.t 19)
 (.seq (.region [⟨(some 20),(.makeIface 74 (.c (.int .i64 2))),none,[]⟩,
 ⟨(some 4),(.mov (.c (.float .f64 0))),none,[]⟩,
 ⟨(some 5),(.mov (.t 20)),none,[]⟩] none)
 .ret)
 .skip))
 (.seq (.region [⟨(some 21),(.mov (.t 6)),none,[]⟩,
 ⟨(some 22),(.mov (.t 8)),none,[]⟩,
 ⟨(some 4),(.mov (.t 21)),none,[]⟩,
 ⟨(some 5),(.mov (.t 22)),none,[]⟩] none)
 .ret))))
def F33 : AFunc := ⟨2,23,[(.tmp 4),(.tmp 5)],B33⟩
def B34 : ACode := (.seq (.region [⟨(some 10),(.mov (.c .nilIface)),none,[]⟩] none)
 (.seq (.seq (.region [⟨(some 11),(.mov (.t 4)),none,[]⟩] none)
 (.block 0 (.seq (.region [⟨(some 13),(.makeIface 74 (.c (.int .i64 2))),none,[]⟩,
 ⟨(some 14),(.eqv false (.ifc [2,3,5,6,12,21,22,25,74,83,98,151,195,196,198,199]) false (.t 11) (.t 13)),none,[]⟩,
 ⟨(some 12),(.mov (.t 14)),none,[]⟩] none)
 (.cond (.t 12)
 (.seq (.region [⟨(some 15),(.mov (.t 0)),none,[]⟩,
 ⟨(some 16),(.mov (.t 1)),none,[]⟩,
 ⟨(some 17),(.call (.f 51) [(.t 15),(.t 16)]),none,[]⟩,
 ⟨(some 18),(.makeIface 75 (.t 17)),none,[]⟩,
 ⟨(some 10),(.mov (.t 18)),none,[]⟩] none)
 .ret)
 (.seq (.region [⟨(some 20),(.makeIface 74 (.c (.int .i64 1))),none,[]⟩,
 ⟨(some 21),(.eqv false (.ifc [2,3,5,6,12,21,22,25,74,83,98,151,195,196,198,199]) false (.t 11) (.t 20)),none,[]⟩,
 ⟨(some 19),(.mov (.t 21)),none,[]⟩] none)
 (.cond (.t 19)
 (.seq (.region [⟨(some 22),(.mov (.t 0)),none,[]⟩,
 ⟨(some 23),(.mov (.t 1)),none,[]⟩,
 ⟨(some 24),(.call (.f 52) [(.t 22),(.t 23)]),none,[]⟩,
 ⟨(some 25),(.makeIface 75 (.t 24)),none,[]⟩,
 ⟨(some 10),(.mov (.t 25)),none,[]⟩] none)
 .ret)
 (.seq (.region [⟨(some 27),(.makeIface 74 (.c (.int .i64 3))),none,[]⟩,
 ⟨(some 28),(.eqv false (.ifc [2,3,5,6,12,21,22,25,74,83,98,151,195,196,198,199]) false (.t 11) (.t 27)),none,[]⟩,
 ⟨(some 26),(.mov (.t 28)),none,[]⟩] none)
 (.cond (.t 26)
 (.seq (.region [⟨(some 29),(.mov (.t 0)),none,[]⟩,
 ⟨(some 30),(.mov (.t 1)),none,[]⟩,
 ⟨(some 31),(.mov (.t 2)),none,[]⟩,
 ⟨(some 32),(.call (.f 53) [(.t 29),(.t 30),(.t 31)]),none,[]⟩,
 ⟨(some 33),(.makeIface 75 (.t 32)),none,[]⟩,
 ⟨(some 10),(.mov (.t 33)),none,[]⟩] none)
 .ret)
 (.seq (.region [⟨(some 35),(.makeIface 74 (.c (.int .i64 4))),none,[]⟩,
 ⟨(some 36),(.eqv false (.ifc [2,3,5,6,12,21,22,25,74,83,98,151,195,196,198,199]) false (.t 11) (.t 35)),none,[]⟩,
 ⟨(some 34),(.mov (.t 36)),none,[]⟩] none)
 (.cond (.t 34)
 (.seq (.region [⟨(some 37),(.mov (.t 0)),none,[]⟩,
 ⟨(some 38),(.mov (.t 1)),none,[]⟩,
 ⟨(some 39),(.mov (.t 3)),none,[]⟩,
 ⟨(some 40),(.call (.f 54) [(.t 37),(.t 38),(.t 39)]),none,[]⟩,
 ⟨(some 41),(.makeIface 75 (.t 40)),none,[]⟩,
 ⟨(some 10),(.mov (.t 41)),none,[]⟩] none)
 .ret)
 .skip))))))))))
 (.seq (.region [⟨(some 42),(.mov (.t 4)),none,[]⟩,
 ⟨(some 10),(.mov (.t 42)),none,[]⟩] none)
 .ret)))
def F34 : AFunc := ⟨5,43,[(.tmp 10)],B34⟩
def B35 : ACode := (.seq (.region [⟨(some 2),(.mov (.c (.float .f64 0))),none,[]⟩] none)
 (.seq (.region [⟨(some 3),(.mov (.t 0)),none,[]⟩,
 ⟨(some 4),(.call (.f 24) [(.t 3)]),none,[]⟩,
 ⟨(some 5),(.bin .andNot (.t 4) (.c (.int .u64 9223372036854775808))),none,[]⟩,
 ⟨(some 6),(.call (.f 5) [(.t 5)]),none,[]⟩,
 ⟨(some 2),(.mov (.t 6)),none,[]⟩] none)
 .ret))
def F35 : AFunc := ⟨1,7,[(.tmp 2)],B35⟩
def B36 : ACode := (.seq (.region [⟨(some 8),(.mov (.c (.string ⟨#[]⟩))),none,[]⟩] none)
 (.seq (.seq (.region [⟨(some 9),(.mov (.t 3)),none,[]⟩,
 ⟨(some 10),(.bin .eql (.t 9) (.c (.int .i64 32))),none,[]⟩] none)
 (.cond (.t 10)
 (.seq (.region [⟨(some 11),(.mov (.t 2)),none,[]⟩,
 ⟨(some 12),(.bin .add (.t 11) (.c (.int .i64 4))),none,[]⟩,
 ⟨(some 13),(.max [(.t 12),(.c (.int .i64 24))]),none,[]⟩,
 ⟨(some 14),(.makeSlice 5 1 1 [(.int .u8 0)] (.c (.int .i64 0)) (.t 13)),none,[]⟩,
 ⟨(some 15),(.mov (.t 0)),none,[]⟩,
 ⟨(some 16),(.sameF .f32 (.t 15)),none,[]⟩,
 ⟨(some 17),(.mov (.t 1)),none,[]⟩,
 ⟨(some 18),(.mov (.t 2)),none,[]⟩,
 ⟨(some 19),(.call (.f 55) [(.t 14),(.t 16),(.t 17),(.t 18)]),none,[]⟩,
 ⟨(some 20),(.strOf (.t 19)),none,[]⟩,
 ⟨(some 8),(.mov (.t 20)),none,[]⟩] none)
 .ret)
 .skip))
 (.seq (.seq (.region [⟨(some 21),(.mov (.t 3)),none,[]⟩,
 ⟨(some 22),(.bin .eql (.t 21) (.c (.int .i64 64))),none,[]⟩] none)
 (.cond (.t 22)
 (.seq (.region [⟨(some 23),(.mov (.t 2)),none,[]⟩,
 ⟨(some 24),(.bin .add (.t 23) (.c (.int .i64 4))),none,[]⟩,
 ⟨(some 25),(.max [(.t 24),(.c (.int .i64 24))]),none,[]⟩,
 ⟨(some 26),(.makeSlice 5 1 1 [(.int .u8 0)] (.c (.int .i64 0)) (.t 25)),none,[]⟩,
 ⟨(some 27),(.mov (.t 0)),none,[]⟩,
 ⟨(some 28),(.mov (.t 1)),none,[]⟩,
 ⟨(some 29),(.mov (.t 2)),none,[]⟩,
 ⟨(some 30),(.call (.f 56) [(.t 26),(.t 27),(.t 28),(.t 29)]),none,[]⟩,
 ⟨(some 31),(.strOf (.t 30)),none,[]⟩,
 ⟨(some 8),(.mov (.t 31)),none,[]⟩] none)
 .ret)
 .skip))
 (.region [⟨(some 32),(.makeIface 9 (.c (.string ⟨#[115,116,114,99,111,110,118,58,32,105,108,108,101,103,97,108,32,70,111,114,109,97,116,70,108,111,97,116,32,98,105,116,83,105,122,101]⟩))),none,[]⟩,
 ⟨none, .fail,none,[]⟩] none))))
def F36 : AFunc := ⟨4,33,[(.tmp 8)],B36⟩
def R37_0 : ACode := .region [⟨(some 2),(.mov (.t 0)),none,[]⟩,
 ⟨(some 3),(.mov (.t 0)),none,[]⟩,
 ⟨(some 4),(.mov (.t 0)),none,[]⟩,
 ⟨(some 5),(.nilCheck (.t 4)),none,[2]⟩,
 ⟨(some 6),(.fieldAddr 0 (.t 5)),none,[3]⟩,
 ⟨(some 7),(.load none (.t 6)),none,[4]⟩,
 ⟨(some 8),(.call (.f 12) [(.t 7)]),none,[5]⟩,
 ⟨(some 9),(.mov (.t 0)),none,[]⟩,
 ⟨(some 10),(.nilCheck (.t 9)),none,[7]⟩,
 ⟨(some 11),(.fieldAddr 1 (.t 10)),none,[8]⟩,
 ⟨(some 12),(.load none (.t 11)),none,[9]⟩,
 ⟨(some 13),(.call (.f 12) [(.t 12)]),none,[10,6]⟩,
 ⟨(some 14),(.nilCheck (.t 2)),none,[0,0,2,3,4,5,6,10,11]⟩,
 ⟨(some 15),(.fieldAddr 0 (.t 14)),none,[12,0,2,3,4,5,6,10,11]⟩,
 ⟨none,(.store 1 (.t 15) (.t 8)),none,[13,6,11,0,2,3,4,5,6,10,11]⟩,
 ⟨(some 16),(.nilCheck (.t 3)),none,[1,0,1,2,3,4,5,6,7,8,9,10,11,12,13,14]⟩,
 ⟨(some 17),(.fieldAddr 1 (.t 16)),none,[15,0,1,2,3,4,5,6,7,8,9,10,11,12,13,14]⟩,
 ⟨none,(.store 1 (.t 17) (.t 13)),none,[16,11,14,0,1,2,3,4,5,6,7,8,9,10,11,12,13,14]⟩] (some [(0,1),(0,2),(1,2),(0,3),(1,3),(0,4),(1,4),(0,5),(1,5),(0,6),(1,6),(0,7),(1,7),(2,7),(3,7),(4,7),(5,7),(6,7),(0,8),(1,8),(2,8),(3,8),(4,8),(5,8),(6,8),(0,9),(1,9),(2,9),(3,9),(4,9),(5,9),(6,9),(0,10),(1,10),(2,10),(3,10),(4,10),(5,10),(6,10),(0,11),(1,11),(1,12),(1,13),(1,14)])
def R37_1 : ACode := .region [⟨(some 18),(.mov (.t 0)),none,[]⟩,
 ⟨(some 19),(.mov (.t 0)),none,[]⟩,
 ⟨(some 20),(.nilCheck (.t 19)),none,[1]⟩,
 ⟨(some 21),(.fieldAddr 2 (.t 20)),none,[2]⟩,
 ⟨(some 22),(.load none (.t 21)),none,[3]⟩,
 ⟨(some 23),(.call (.f 12) [(.t 22)]),none,[4]⟩,
 ⟨(some 24),(.mov (.t 0)),none,[]⟩,
 ⟨(some 25),(.nilCheck (.t 24)),none,[6]⟩,
 ⟨(some 26),(.fieldAddr 1 (.t 25)),none,[7]⟩,
 ⟨(some 27),(.load none (.t 26)),none,[8]⟩,
 ⟨(some 28),(.min [(.t 23),(.t 27)]),none,[5,9]⟩,
 ⟨(some 29),(.nilCheck (.t 18)),none,[0,0,1,2,3,4,5,6,7,8,9,10]⟩,
 ⟨(some 30),(.fieldAddr 2 (.t 29)),none,[11,0,1,2,3,4,5,6,7,8,9,10]⟩,
 ⟨none,(.store 1 (.t 30) (.t 28)),none,[12,10,5,0,1,2,3,4,5,6,7,8,9,10]⟩] (some [(0,1),(0,2),(0,3),(0,4),(0,5),(0,6),(1,6),(2,6),(3,6),(4,6),(5,6),(0,7),(1,7),(2,7),(3,7),(4,7),(5,7),(0,8),(1,8),(2,8),(3,8),(4,8),(5,8),(0,9),(1,9),(2,9),(3,9),(4,9),(5,9),(0,10)])
def B37 : ACode := (.seq R37_0
 R37_1)
def F37 : AFunc := ⟨1,31,[],B37⟩
def B38 : ACode := (.seq (.region [⟨(some 4),(.mov (.c (.float .f64 0))),none,[]⟩] none)
 (.seq (.seq (.region [⟨(some 5),(.mov (.t 0)),none,[]⟩,
 ⟨(some 6),(.eqv false .ptr false (.t 5) (.c (.pointer none))),none,[]⟩] none)
 (.cond (.t 6)
 (.seq (.region [⟨(some 4),(.mov (.c (.float .f64 0))),none,[]⟩] none)
 .ret)
 .skip))
 (.seq (.region [⟨(some 7),(.mov (.t 0)),none,[]⟩,
 ⟨(some 8),(.mov (.t 1)),none,[]⟩,
 ⟨(some 9),(.call (.f 57) [(.t 7),(.t 8)]),none,[]⟩] none)
 (.seq (.region [⟨(some 10),(.mov (.t 0)),none,[]⟩,
 ⟨(some 11),(.nilCheck (.t 10)),none,[]⟩,
 ⟨(some 12),(.fieldAddr 2 (.t 11)),none,[]⟩,
 ⟨(some 13),(.load none (.t 12)),none,[]⟩,
 ⟨(some 4),(.mov (.t 13)),none,[]⟩] none)
 .ret))))
def F38 : AFunc := ⟨2,14,[(.tmp 4)],B38⟩
def F39L0 : ACode := (.seq (.seq (.region [⟨(some 9),(.mov (.t 5)),none,[]⟩,
 ⟨(some 10),(.mov (.t 6)),none,[]⟩,
 ⟨(some 11),(.bin .lss (.t 9) (.t 10)),none,[]⟩] none)
 (.cond (.t 11)
 .skip
 (.exit 0)))
 (.block 1 (.seq (.region [⟨(some 12),(.mov (.t 5)),none,[]⟩,
 ⟨(some 13),(.mov (.t 6)),none,[]⟩,
 ⟨(some 14),(.bin .add (.t 12) (.t 13)),none,[]⟩,
 ⟨(some 15),(.conv .u64 (.t 14)),none,[]⟩,
 ⟨(some 16),(.bin .shr (.t 15) (.c (.int .u64 1))),none,[]⟩,
 ⟨(some 17),(.conv .i64 (.t 16)),none,[]⟩,
 ⟨(some 7),(.mov (.t 17)),none,[]⟩] none)
 (.seq (.region [⟨(some 18),(.mov (.t 1)),none,[]⟩,
 ⟨(some 19),(.mov (.t 7)),none,[]⟩,
 ⟨(some 20),(.call (.t 18) [(.t 19)]),none,[]⟩,
 ⟨(some 21),(.un .not (.t 20)),none,[]⟩] none)
 (.cond (.t 21)
 (.region [⟨(some 22),(.mov (.t 7)),none,[]⟩,
 ⟨(some 23),(.bin .add (.t 22) (.c (.int .i64 1))),none,[]⟩,
 ⟨(some 5),(.mov (.t 23)),none,[]⟩] none)
 (.region [⟨(some 24),(.mov (.t 7)),none,[]⟩,
 ⟨(some 6),(.mov (.t 24)),none,[]⟩] none))))))
def B39 : ACode := (.seq (.region [⟨(some 4),(.mov (.c (.int .i64 0))),none,[]⟩] none)
 (.seq (.region [⟨(some 8),(.mov (.t 0)),none,[]⟩,
 ⟨(some 5),(.mov (.c (.int .i64 0))),none,[]⟩,
 ⟨(some 6),(.mov (.t 8)),none,[]⟩] none)
 (.seq (.block 0 (.loop F39L0))
 (.seq (.region [⟨(some 25),(.mov (.t 5)),none,[]⟩,
 ⟨(some 4),(.mov (.t 25)),none,[]⟩] none)
 .ret))))
def F39 : AFunc := ⟨2,26,[(.tmp 4)],B39⟩
def R40_0 : ACode := .region [⟨(some 5),(.load (some 4) (.t 1)),none,[]⟩,
 ⟨(some 6),(.mov (.t 0)),none,[]⟩,
 ⟨(some 7),(.conv .u64 (.t 6)),none,[1]⟩,
 ⟨(some 8),(.call (.f 41) [(.t 5),(.t 7)]),none,[0,2]⟩,
 ⟨(some 9),(.load none (.t 2)),none,[]⟩,
 ⟨(some 10),(.bin .geq (.t 8) (.t 9)),none,[3,4]⟩,
 ⟨(some 4),(.mov (.t 10)),none,[5,3,0,1,2,3,4,5]⟩] (some [(0,1),(0,2),(0,4),(1,4),(2,4),(3,4)])
def B40 : ACode := (.seq (.region [⟨(some 4),(.mov (.c (.bool false))),none,[]⟩] none)
 (.seq R40_0
 .ret))
def F40 : AFunc := ⟨3,11,[(.tmp 4)],B40⟩
def R41_0 : ACode := .region [⟨(some 15),(.fieldAddr 1 (.t 2)),none,[]⟩,
 ⟨(some 16),(.load none (.t 15)),none,[0]⟩,
 ⟨(some 17),(.fieldAddr 2 (.t 2)),none,[]⟩,
 ⟨(some 18),(.load none (.t 17)),none,[2]⟩,
 ⟨(some 19),(.mov (.t 5)),none,[]⟩,
 ⟨(some 20),(.bin .add (.t 18) (.t 19)),none,[3,4]⟩,
 ⟨(some 21),(.call (.f 12) [(.t 20)]),none,[5]⟩,
 ⟨(some 22),(.min [(.t 16),(.t 21)]),none,[1,6]⟩,
 ⟨(some 4),(.mov (.t 22)),none,[7,6,0,1,2,3,4,5,6,7]⟩] (some [(0,2),(1,2),(0,3),(1,3),(0,4),(1,4),(2,4),(3,4),(0,5),(1,5),(0,6),(1,6)])
def B41 : ACode := (.seq (.region [⟨(some 2),(.box 51 (.t 0)),none,[]⟩,
 ⟨(some 4),(.mov (.c (.float .f64 0))),none,[]⟩] none)
 (.seq (.seq (.region [⟨(some 6),(.mov (.t 1)),none,[]⟩,
 ⟨(some 7),(.bin .eql (.t 6) (.c (.int .u64 0))),none,[]⟩] none)
 (.cond (.t 7)
 (.seq (.region [⟨(some 8),(.fieldAddr 2 (.t 2)),none,[]⟩,
 ⟨(some 9),(.load none (.t 8)),none,[]⟩,
 ⟨(some 4),(.mov (.t 9)),none,[]⟩] none)
 .ret)
 .skip))
 (.seq (.region [⟨(some 10),(.fieldAddr 0 (.t 2)),none,[]⟩,
 ⟨(some 11),(.load none (.t 10)),none,[]⟩,
 ⟨(some 12),(.mov (.t 1)),none,[]⟩,
 ⟨(some 13),(.toFloat .f64 (.t 12)),none,[]⟩,
 ⟨(some 14),(.bin .mul (.t 11) (.t 13)),none,[]⟩,
 ⟨(some 5),(.mov (.t 14)),none,[]⟩] none)
 (.seq R41_0
 .ret))))
def F41 : AFunc := ⟨2,23,[(.tmp 4)],B41⟩
def F42L0 : ACode := (.seq (.seq (.region [⟨(some 57),(.mov (.t 8)),none,[]⟩,
 ⟨(some 58),(.mov (.t 9)),none,[]⟩,
 ⟨(some 59),(.bin .lss (.t 57) (.t 58)),none,[]⟩] none)
 (.cond (.t 59)
 .skip
 (.exit 1)))
 (.block 2 (.seq (.seq (.region [⟨(some 60),(.mov (.t 0)),none,[]⟩,
 ⟨(some 61),(.mov (.t 8)),none,[]⟩,
 ⟨(some 62),(.indexStr (.t 60) (.t 61)),none,[]⟩,
 ⟨(some 63),(.mov (.t 6)),none,[]⟩,
 ⟨(some 64),(.bin .neq (.t 62) (.t 63)),none,[]⟩] none)
 (.cond (.t 64)
 (.seq (.region [⟨(some 65),(.mov (.t 0)),none,[]⟩,
 ⟨(some 66),(.mov (.t 8)),none,[]⟩,
 ⟨(some 67),(.bin .add (.t 66) (.c (.int .i64 1))),none,[]⟩,
 ⟨(some 68),(.mov (.t 9)),none,[]⟩,
 ⟨(some 69),(.sliceStr (.t 65) (some (.t 67)) (some (.t 68))),none,[]⟩,
 ⟨(some 70),(.mov (.t 6)),none,[]⟩,
 ⟨(some 71),(.call (.f 58) [(.t 69),(.t 70)]),none,[]⟩,
 ⟨(some 11),(.mov (.t 71)),none,[]⟩] none)
 (.seq (.seq (.region [⟨(some 72),(.mov (.t 11)),none,[]⟩,
 ⟨(some 73),(.bin .lss (.t 72) (.c (.int .i64 0))),none,[]⟩] none)
 (.cond (.t 73)
 (.seq (.region [⟨(some 4),(.mov (.c (.int .i64 (-1)))),none,[]⟩] none)
 .ret)
 .skip))
 (.region [⟨(some 74),(.mov (.t 8)),none,[]⟩,
 ⟨(some 75),(.mov (.t 11)),none,[]⟩,
 ⟨(some 76),(.bin .add (.t 75) (.c (.int .i64 1))),none,[]⟩,
 ⟨(some 77),(.bin .add (.t 74) (.t 76)),none,[]⟩,
 ⟨(some 8),(.mov (.t 77)),none,[]⟩] none)))
 .skip))
 (.seq (.seq (.region [⟨(some 78),(.mov (.t 0)),none,[]⟩,
 ⟨(some 79),(.mov (.t 8)),none,[]⟩,
 ⟨(some 80),(.bin .add (.t 79) (.c (.int .i64 1))),none,[]⟩,
 ⟨(some 81),(.indexStr (.t 78) (.t 80)),none,[]⟩,
 ⟨(some 82),(.mov (.t 7)),none,[]⟩,
 ⟨(some 83),(.bin .eql (.t 81) (.t 82)),none,[]⟩,
 ⟨(some 84),(.mov (.t 83)),none,[]⟩,
 ⟨(some 85),(.mov (.t 0)),(some (84,true)),[]⟩,
 ⟨(some 86),(.mov (.t 8)),(some (84,true)),[]⟩,
 ⟨(some 87),(.mov (.t 8)),(some (84,true)),[]⟩,
 ⟨(some 88),(.mov (.t 5)),(some (84,true)),[]⟩,
 ⟨(some 89),(.bin .add (.t 87) (.t 88)),(some (84,true)),[]⟩,
 ⟨(some 90),(.sliceStr (.t 85) (some (.t 86)) (some (.t 89))),(some (84,true)),[]⟩,
 ⟨(some 91),(.mov (.t 1)),(some (84,true)),[]⟩,
 ⟨(some 92),(.bin .eql (.t 90) (.t 91)),(some (84,true)),[]⟩,
 ⟨(some 93),(.pick (.t 84) (.t 92) (.c (.bool false))),none,[]⟩] none)
 (.cond (.t 93)
 (.seq (.region [⟨(some 94),(.mov (.t 8)),none,[]⟩,
 ⟨(some 4),(.mov (.t 94)),none,[]⟩] none)
 .ret)
 .skip))
 (.seq (.region [⟨(some 95),(.mov (.t 8)),none,[]⟩,
 ⟨(some 96),(.bin .add (.t 95) (.c (.int .i64 1))),none,[]⟩,
 ⟨(some 8),(.mov (.t 96)),none,[]⟩] none)
 (.seq (.region [⟨(some 97),(.mov (.t 10)),none,[]⟩,
 ⟨(some 98),(.bin .add (.t 97) (.c (.int .i64 1))),none,[]⟩,
 ⟨(some 10),(.mov (.t 98)),none,[]⟩] none)
 (.seq (.region [⟨(some 99),(.mov (.t 5)),none,[]⟩,
 ⟨(some 100),(.load none (.g 2)),none,[]⟩,
 ⟨(some 101),(.bin .leq (.t 99) (.t 100)),none,[]⟩,
 ⟨(some 102),(.mov (.t 101)),none,[]⟩,
 ⟨(some 103),(.mov (.t 10)),(some (102,true)),[]⟩,
 ⟨(some 104),(.mov (.t 8)),(some (102,true)),[]⟩,
 ⟨(some 105),(.call (.f 60) [(.t 104)]),(some (102,true)),[]⟩,
 ⟨(some 106),(.bin .gtr (.t 103) (.t 105)),(some (102,true)),[]⟩,
 ⟨(some 107),(.pick (.t 102) (.t 106) (.c (.bool false))),none,[]⟩] none)
 (.cond (.t 107)
 (.seq (.region [⟨(some 108),(.mov (.t 0)),none,[]⟩,
 ⟨(some 109),(.mov (.t 8)),none,[]⟩,
 ⟨(some 110),(.sliceStr (.t 108) (some (.t 109)) none),none,[]⟩,
 ⟨(some 111),(.mov (.t 1)),none,[]⟩,
 ⟨(some 112),(.call (.f 59) [(.t 110),(.t 111)]),none,[]⟩,
 ⟨(some 12),(.mov (.t 112)),none,[]⟩] none)
 (.seq (.seq (.region [⟨(some 113),(.mov (.t 12)),none,[]⟩,
 ⟨(some 114),(.bin .geq (.t 113) (.c (.int .i64 0))),none,[]⟩] none)
 (.cond (.t 114)
 (.seq (.region [⟨(some 115),(.mov (.t 12)),none,[]⟩,
 ⟨(some 116),(.mov (.t 8)),none,[]⟩,
 ⟨(some 117),(.bin .add (.t 115) (.t 116)),none,[]⟩,
 ⟨(some 4),(.mov (.t 117)),none,[]⟩] none)
 .ret)
 .skip))
 (.seq (.region [⟨(some 4),(.mov (.c (.int .i64 (-1)))),none,[]⟩] none)
 .ret)))
 (.seq (.region [⟨(some 118),(.mov (.t 5)),none,[]⟩,
 ⟨(some 119),(.load none (.g 2)),none,[]⟩,
 ⟨(some 120),(.bin .gtr (.t 118) (.t 119)),none,[]⟩,
 ⟨(some 121),(.mov (.t 120)),none,[]⟩,
 ⟨(some 122),(.mov (.t 10)),(some (121,true)),[]⟩,
 ⟨(some 123),(.mov (.t 8)),(some (121,true)),[]⟩,
 ⟨(some 124),(.bin .shr (.t 123) (.c (.int .u64 4))),(some (121,true)),[]⟩,
 ⟨(some 125),(.bin .add (.c (.int .i64 4)) (.t 124)),(some (121,true)),[]⟩,
 ⟨(some 126),(.bin .geq (.t 122) (.t 125)),(some (121,true)),[]⟩,
 ⟨(some 127),(.pick (.t 121) (.t 126) (.c (.bool false))),none,[]⟩,
 ⟨(some 128),(.mov (.t 127)),none,[]⟩,
 ⟨(some 129),(.mov (.t 8)),(some (128,true)),[]⟩,
 ⟨(some 130),(.mov (.t 9)),(some (128,true)),[]⟩,
 ⟨(some 131),(.bin .lss (.t 129) (.t 130)),(some (128,true)),[]⟩,
 ⟨(some 132),(.pick (.t 128) (.t 131) (.c (.bool false))),none,[]⟩] none)
 (.cond (.t 132)
 (.seq (.region [⟨(some 133),(.mov (.t 0)),none,[]⟩,
 ⟨(some 134),(.mov (.t 8)),none,[]⟩,
 ⟨(some 135),(.sliceStr (.t 133) (some (.t 134)) none),none,[]⟩,
 ⟨(some 136),(.mov (.t 1)),none,[]⟩,
 ⟨(some 137),(.call (.f 61) [(.t 135),(.t 136)]),none,[]⟩,
 ⟨(some 13),(.mov (.t 137)),none,[]⟩] none)
 (.seq (.seq (.region [⟨(some 138),(.mov (.t 13)),none,[]⟩,
 ⟨(some 139),(.bin .lss (.t 138) (.c (.int .i64 0))),none,[]⟩] none)
 (.cond (.t 139)
 (.seq (.region [⟨(some 4),(.mov (.c (.int .i64 (-1)))),none,[]⟩] none)
 .ret)
 .skip))
 (.seq (.region [⟨(some 140),(.mov (.t 8)),none,[]⟩,
 ⟨(some 141),(.mov (.t 13)),none,[]⟩,
 ⟨(some 142),(.bin .add (.t 140) (.t 141)),none,[]⟩,
 ⟨(some 4),(.mov (.t 142)),none,[]⟩] none)
 .ret)))
 .skip))))))))))
def B42 : ACode := (.seq (.region [⟨(some 4),(.mov (.c (.int .i64 0))),none,[]⟩] none)
 (.seq (.region [⟨(some 14),(.mov (.t 1)),none,[]⟩,
 ⟨(some 15),(.lenStr (.t 14)),none,[]⟩,
 ⟨(some 5),(.mov (.t 15)),none,[]⟩] none)
 (.seq (.block 0 (.seq (.region [⟨(some 17),(.mov (.t 5)),none,[]⟩,
 ⟨(some 18),(.bin .eql (.t 17) (.c (.int .i64 0))),none,[]⟩,
 ⟨(some 19),(.mov (.t 18)),none,[]⟩,
 ⟨(some 20),(.mov (.t 1)),(some (19,false)),[]⟩,
 ⟨(some 21),(.mov (.t 0)),(some (19,false)),[]⟩,
 ⟨(some 22),(.bin .eql (.t 20) (.t 21)),(some (19,false)),[]⟩,
 ⟨(some 23),(.pick (.t 19) (.c (.bool true)) (.t 22)),none,[]⟩,
 ⟨(some 16),(.mov (.t 23)),none,[]⟩] none)
 (.cond (.t 16)
 (.seq (.region [⟨(some 4),(.mov (.c (.int .i64 0))),none,[]⟩] none)
 .ret)
 (.seq (.region [⟨(some 25),(.mov (.t 5)),none,[]⟩,
 ⟨(some 26),(.bin .eql (.t 25) (.c (.int .i64 1))),none,[]⟩,
 ⟨(some 24),(.mov (.t 26)),none,[]⟩] none)
 (.cond (.t 24)
 (.seq (.region [⟨(some 27),(.mov (.t 0)),none,[]⟩,
 ⟨(some 28),(.mov (.t 1)),none,[]⟩,
 ⟨(some 29),(.indexStr (.t 28) (.c (.int .i64 0))),none,[]⟩,
 ⟨(some 30),(.call (.f 58) [(.t 27),(.t 29)]),none,[]⟩,
 ⟨(some 4),(.mov (.t 30)),none,[]⟩] none)
 .ret)
 (.seq (.region [⟨(some 32),(.mov (.t 5)),none,[]⟩,
 ⟨(some 33),(.mov (.t 0)),none,[]⟩,
 ⟨(some 34),(.lenStr (.t 33)),none,[]⟩,
 ⟨(some 35),(.bin .geq (.t 32) (.t 34)),none,[]⟩,
 ⟨(some 31),(.mov (.t 35)),none,[]⟩] none)
 (.cond (.t 31)
 (.seq (.region [⟨(some 4),(.mov (.c (.int .i64 (-1)))),none,[]⟩] none)
 .ret)
 (.seq (.region [⟨(some 37),(.mov (.t 5)),none,[]⟩,
 ⟨(some 38),(.load none (.g 2)),none,[]⟩,
 ⟨(some 39),(.bin .leq (.t 37) (.t 38)),none,[]⟩,
 ⟨(some 40),(.mov (.t 39)),none,[]⟩,
 ⟨(some 41),(.mov (.t 0)),(some (40,true)),[]⟩,
 ⟨(some 42),(.lenStr (.t 41)),(some (40,true)),[]⟩,
 ⟨(some 43),(.bin .leq (.t 42) (.c (.int .i64 64))),(some (40,true)),[]⟩,
 ⟨(some 44),(.pick (.t 40) (.t 43) (.c (.bool false))),none,[]⟩,
 ⟨(some 36),(.mov (.t 44)),none,[]⟩] none)
 (.cond (.t 36)
 (.seq (.region [⟨(some 45),(.mov (.t 0)),none,[]⟩,
 ⟨(some 46),(.mov (.t 1)),none,[]⟩,
 ⟨(some 47),(.call (.f 59) [(.t 45),(.t 46)]),none,[]⟩,
 ⟨(some 4),(.mov (.t 47)),none,[]⟩] none)
 .ret)
 .skip)))))))))
 (.seq (.region [⟨(some 48),(.mov (.t 1)),none,[]⟩,
 ⟨(some 49),(.indexStr (.t 48) (.c (.int .i64 0))),none,[]⟩,
 ⟨(some 6),(.mov (.t 49)),none,[]⟩] none)
 (.seq (.region [⟨(some 50),(.mov (.t 1)),none,[]⟩,
 ⟨(some 51),(.indexStr (.t 50) (.c (.int .i64 1))),none,[]⟩,
 ⟨(some 7),(.mov (.t 51)),none,[]⟩] none)
 (.seq (.region [⟨(some 8),(.mov (.c (.int .i64 0))),none,[]⟩] none)
 (.seq (.region [⟨(some 52),(.mov (.t 0)),none,[]⟩,
 ⟨(some 53),(.lenStr (.t 52)),none,[]⟩,
 ⟨(some 54),(.mov (.t 5)),none,[]⟩,
 ⟨(some 55),(.bin .sub (.t 53) (.t 54)),none,[]⟩,
 ⟨(some 56),(.bin .add (.t 55) (.c (.int .i64 1))),none,[]⟩,
 ⟨(some 9),(.mov (.t 56)),none,[]⟩] none)
 (.seq (.region [⟨(some 10),(.mov (.c (.int .i64 0))),none,[]⟩] none)
 (.seq (.block 1 (.loop F42L0))
 (.seq (.region [⟨(some 4),(.mov (.c (.int .i64 (-1)))),none,[]⟩] none)
 .ret))))))))))
def F42 : AFunc := ⟨2,143,[(.tmp 4)],B42⟩
def F43L0 : ACode := (.seq (.seq (.region [⟨(some 5),(.mov (.t 0)),none,[]⟩,
 ⟨(some 6),(.lenStr (.t 5)),none,[]⟩,
 ⟨(some 7),(.bin .gtr (.t 6) (.c (.int .i64 0))),none,[]⟩,
 ⟨(some 8),(.mov (.t 7)),none,[]⟩,
 ⟨(some 9),(.mov (.t 0)),(some (8,true)),[]⟩,
 ⟨(some 10),(.indexStr (.t 9) (.c (.int .i64 0))),(some (8,true)),[]⟩,
 ⟨(some 11),(.mov (.t 1)),(some (8,true)),[]⟩,
 ⟨(some 12),(.bin .eql (.t 10) (.t 11)),(some (8,true)),[]⟩,
 ⟨(some 13),(.pick (.t 8) (.t 12) (.c (.bool false))),none,[]⟩] none)
 (.cond (.t 13)
 .skip
 (.exit 0)))
 (.block 1 (.region [⟨(some 14),(.mov (.t 0)),none,[]⟩,
 ⟨(some 15),(.sliceStr (.t 14) (some (.c (.int .i64 1))) none),none,[]⟩,
 ⟨(some 0),(.mov (.t 15)),none,[]⟩] none)))
def B43 : ACode := (.seq (.region [⟨(some 4),(.mov (.c (.string ⟨#[]⟩))),none,[]⟩] none)
 (.seq (.block 0 (.loop F43L0))
 (.seq (.region [⟨(some 16),(.mov (.t 0)),none,[]⟩,
 ⟨(some 4),(.mov (.t 16)),none,[]⟩] none)
 .ret)))
def F43 : AFunc := ⟨2,17,[(.tmp 4)],B43⟩
def F44L0 : ACode := (.seq (.seq (.region [⟨(some 5),(.mov (.t 0)),none,[]⟩,
 ⟨(some 6),(.lenStr (.t 5)),none,[]⟩,
 ⟨(some 7),(.bin .gtr (.t 6) (.c (.int .i64 0))),none,[]⟩,
 ⟨(some 8),(.mov (.t 7)),none,[]⟩,
 ⟨(some 9),(.mov (.t 0)),(some (8,true)),[]⟩,
 ⟨(some 10),(.mov (.t 0)),(some (8,true)),[]⟩,
 ⟨(some 11),(.lenStr (.t 10)),(some (8,true)),[]⟩,
 ⟨(some 12),(.bin .sub (.t 11) (.c (.int .i64 1))),(some (8,true)),[]⟩,
 ⟨(some 13),(.indexStr (.t 9) (.t 12)),(some (8,true)),[]⟩,
 ⟨(some 14),(.mov (.t 1)),(some (8,true)),[]⟩,
 ⟨(some 15),(.bin .eql (.t 13) (.t 14)),(some (8,true)),[]⟩,
 ⟨(some 16),(.pick (.t 8) (.t 15) (.c (.bool false))),none,[]⟩] none)
 (.cond (.t 16)
 .skip
 (.exit 0)))
 (.block 1 (.region [⟨(some 17),(.mov (.t 0)),none,[]⟩,
 ⟨(some 18),(.mov (.t 0)),none,[]⟩,
 ⟨(some 19),(.lenStr (.t 18)),none,[]⟩,
 ⟨(some 20),(.bin .sub (.t 19) (.c (.int .i64 1))),none,[]⟩,
 ⟨(some 21),(.sliceStr (.t 17) none (some (.t 20))),none,[]⟩,
 ⟨(some 0),(.mov (.t 21)),none,[]⟩] none)))
def B44 : ACode := (.seq (.region [⟨(some 4),(.mov (.c (.string ⟨#[]⟩))),none,[]⟩] none)
 (.seq (.block 0 (.loop F44L0))
 (.seq (.region [⟨(some 22),(.mov (.t 0)),none,[]⟩,
 ⟨(some 4),(.mov (.t 22)),none,[]⟩] none)
 .ret)))
def F44 : AFunc := ⟨2,23,[(.tmp 4)],B44⟩
def F45L0 : ACode := (.seq (.seq (.region [⟨(some 6),(.mov (.t 4)),none,[]⟩,
 ⟨(some 7),(.mov (.t 0)),none,[]⟩,
 ⟨(some 8),(.lenStr (.t 7)),none,[]⟩,
 ⟨(some 9),(.bin .lss (.t 6) (.t 8)),none,[]⟩] none)
 (.cond (.t 9)
 .skip
 (.exit 0)))
 (.seq (.block 1 (.seq (.region [⟨(some 12),(.mov (.t 0)),none,[]⟩,
 ⟨(some 13),(.mov (.t 4)),none,[]⟩,
 ⟨(some 14),(.indexStr (.t 12) (.t 13)),none,[]⟩,
 ⟨(some 5),(.mov (.t 14)),none,[]⟩] none)
 (.seq (.seq (.region [⟨(some 15),(.mov (.t 5)),none,[]⟩,
 ⟨(some 16),(.bin .geq (.t 15) (.c (.int .u8 128))),none,[]⟩] none)
 (.cond (.t 16)
 (.seq (.region [⟨(some 17),(.load (some 256) (.t 2)),none,[]⟩,
 ⟨none,(.store 256 (.t 2) (.t 17)),none,[]⟩,
 ⟨(some 3),(.mov (.c (.bool false))),none,[]⟩] none)
 .ret)
 .skip))
 (.region [⟨(some 18),(.mov (.t 5)),none,[]⟩,
 ⟨(some 19),(.indexArr 1 256 (.t 2) (.t 18)),none,[]⟩,
 ⟨none,(.store 1 (.t 19) (.c (.bool true))),none,[]⟩] none))))
 (.region [⟨(some 10),(.mov (.t 4)),none,[]⟩,
 ⟨(some 11),(.bin .add (.t 10) (.c (.int .i64 1))),none,[]⟩,
 ⟨(some 4),(.mov (.t 11)),none,[]⟩] none)))
def B45 : ACode := (.seq (.region [⟨(some 2),(.alloc 67 (List.replicate 256 (.bool false))),none,[]⟩,
 ⟨(some 3),(.mov (.c (.bool false))),none,[]⟩] none)
 (.seq (.seq (.region [⟨(some 4),(.mov (.c (.int .i64 0))),none,[]⟩] none)
 (.block 0 (.loop F45L0)))
 (.seq (.region [⟨(some 20),(.load (some 256) (.t 2)),none,[]⟩,
 ⟨none,(.store 256 (.t 2) (.t 20)),none,[]⟩,
 ⟨(some 3),(.mov (.c (.bool true))),none,[]⟩] none)
 .ret)))
def F45 : AFunc := ⟨1,21,[(.cell 2 (some 256)),(.tmp 3)],B45⟩
def F46L0 : ACode := (.seq (.seq (.region [⟨(some 5),(.mov (.t 0)),none,[]⟩,
 ⟨(some 6),(.lenStr (.t 5)),none,[]⟩,
 ⟨(some 7),(.bin .gtr (.t 6) (.c (.int .i64 0))),none,[]⟩] none)
 (.cond (.t 7)
 .skip
 (.exit 0)))
 (.block 1 (.seq (.seq (.region [⟨(some 8),(.mov (.t 1)),none,[]⟩,
 ⟨(some 9),(.mov (.t 0)),none,[]⟩,
 ⟨(some 10),(.indexStr (.t 9) (.c (.int .i64 0))),none,[]⟩,
 ⟨(some 11),(.call (.f 62) [(.t 8),(.t 10)]),none,[]⟩,
 ⟨(some 12),(.un .not (.t 11)),none,[]⟩] none)
 (.cond (.t 12)
 (.exit 0)
 .skip))
 (.region [⟨(some 13),(.mov (.t 0)),none,[]⟩,
 ⟨(some 14),(.sliceStr (.t 13) (some (.c (.int .i64 1))) none),none,[]⟩,
 ⟨(some 0),(.mov (.t 14)),none,[]⟩] none))))
def B46 : ACode := (.seq (.region [⟨(some 4),(.mov (.c (.string ⟨#[]⟩))),none,[]⟩] none)
 (.seq (.block 0 (.loop F46L0))
 (.seq (.region [⟨(some 15),(.mov (.t 0)),none,[]⟩,
 ⟨(some 4),(.mov (.t 15)),none,[]⟩] none)
 .ret)))
def F46 : AFunc := ⟨2,16,[(.tmp 4)],B46⟩
def F47L0 : ACode := (.seq (.seq (.region [⟨(some 5),(.mov (.t 0)),none,[]⟩,
 ⟨(some 6),(.lenStr (.t 5)),none,[]⟩,
 ⟨(some 7),(.bin .gtr (.t 6) (.c (.int .i64 0))),none,[]⟩] none)
 (.cond (.t 7)
 .skip
 (.exit 0)))
 (.block 1 (.seq (.seq (.region [⟨(some 8),(.mov (.t 1)),none,[]⟩,
 ⟨(some 9),(.mov (.t 0)),none,[]⟩,
 ⟨(some 10),(.mov (.t 0)),none,[]⟩,
 ⟨(some 11),(.lenStr (.t 10)),none,[]⟩,
 ⟨(some 12),(.bin .sub (.t 11) (.c (.int .i64 1))),none,[]⟩,
 ⟨(some 13),(.indexStr (.t 9) (.t 12)),none,[]⟩,
 ⟨(some 14),(.call (.f 62) [(.t 8),(.t 13)]),none,[]⟩,
 ⟨(some 15),(.un .not (.t 14)),none,[]⟩] none)
 (.cond (.t 15)
 (.exit 0)
 .skip))
 (.region [⟨(some 16),(.mov (.t 0)),none,[]⟩,
 ⟨(some 17),(.mov (.t 0)),none,[]⟩,
 ⟨(some 18),(.lenStr (.t 17)),none,[]⟩,
 ⟨(some 19),(.bin .sub (.t 18) (.c (.int .i64 1))),none,[]⟩,
 ⟨(some 20),(.sliceStr (.t 16) none (some (.t 19))),none,[]⟩,
 ⟨(some 0),(.mov (.t 20)),none,[]⟩] none))))
def B47 : ACode := (.seq (.region [⟨(some 4),(.mov (.c (.string ⟨#[]⟩))),none,[]⟩] none)
 (.seq (.block 0 (.loop F47L0))
 (.seq (.region [⟨(some 21),(.mov (.t 0)),none,[]⟩,
 ⟨(some 4),(.mov (.t 21)),none,[]⟩] none)
 .ret)))
def F47 : AFunc := ⟨2,22,[(.tmp 4)],B47⟩
def B50 : ACode := (.seq (.region [⟨(some 4),(.mov (.c (.float .f64 0))),none,[]⟩,
 ⟨(some 5),(.mov (.c (.int .i64 0))),none,[]⟩,
 ⟨(some 6),(.mov (.c .nilIface)),none,[]⟩] none)
 (.seq (.seq (.region [⟨(some 10),(.mov (.t 1)),none,[]⟩,
 ⟨(some 11),(.bin .eql (.t 10) (.c (.int .i64 32))),none,[]⟩] none)
 (.cond (.t 11)
 (.seq (.region [⟨(some 13),(.mov (.t 0)),none,[]⟩,
 ⟨(some 14),(.call (.f 66) [(.t 13)]),none,[]⟩,
 ⟨(some 12),(.mov (.t 14)),none,[]⟩,
 ⟨(some 15),(.extract (.t 12) 0),none,[]⟩,
 ⟨(some 16),(.extract (.t 12) 1),none,[]⟩,
 ⟨(some 17),(.extract (.t 12) 2),none,[]⟩,
 ⟨(some 7),(.mov (.t 15)),none,[]⟩,
 ⟨(some 8),(.mov (.t 16)),none,[]⟩,
 ⟨(some 9),(.mov (.t 17)),none,[]⟩] none)
 (.seq (.region [⟨(some 18),(.mov (.t 7)),none,[]⟩,
 ⟨(some 19),(.sameF .f64 (.t 18)),none,[]⟩,
 ⟨(some 20),(.mov (.t 8)),none,[]⟩,
 ⟨(some 21),(.mov (.t 9)),none,[]⟩,
 ⟨(some 4),(.mov (.t 19)),none,[]⟩,
 ⟨(some 5),(.mov (.t 20)),none,[]⟩,
 ⟨(some 6),(.mov (.t 21)),none,[]⟩] none)
 .ret))
 .skip))
 (.seq (.region [⟨(some 22),(.mov (.t 0)),none,[]⟩,
 ⟨(some 23),(.call (.f 67) [(.t 22)]),none,[]⟩,
 ⟨(some 24),(.extract (.t 23) 0),none,[]⟩,
 ⟨(some 25),(.extract (.t 23) 1),none,[]⟩,
 ⟨(some 26),(.extract (.t 23) 2),none,[]⟩,
 ⟨(some 4),(.mov (.t 24)),none,[]⟩,
 ⟨(some 5),(.mov (.t 25)),none,[]⟩,
 ⟨(some 6),(.mov (.t 26)),none,[]⟩] none)
 .ret)))
def F50 : AFunc := ⟨2,27,[(.tmp 4),(.tmp 5),(.tmp 6)],B50⟩
def R51_0 : ACode := .region [⟨(some 5),(.mov (.t 0)),none,[]⟩,
 ⟨(some 6),(.mov (.t 1)),none,[]⟩,
 ⟨(some 7),(.call (.f 68) [(.t 6)]),none,[1]⟩,
 ⟨(some 8),(.load none (.g 3)),none,[]⟩,
 ⟨(some 9),(.build [(.string ⟨#[]⟩),(.string ⟨#[]⟩), .nilIface] [(0,1,(.t 5)),(1,1,(.t 7)),(2,1,(.t 8))]),none,[0,2,3]⟩,
 ⟨(some 10),(.box 95 (.t 9)),none,[4]⟩,
 ⟨(some 4),(.mov (.t 10)),none,[5,2,0,1,2,3,4,5]⟩] (some [(0,1),(0,2),(0,3),(1,3),(2,3)])
def B51 : ACode := (.seq (.region [⟨(some 4),(.mov (.c (.pointer none))),none,[]⟩] none)
 (.seq R51_0
 .ret))
def F51 : AFunc := ⟨2,11,[(.tmp 4)],B51⟩
def R52_0 : ACode := .region [⟨(some 5),(.mov (.t 0)),none,[]⟩,
 ⟨(some 6),(.mov (.t 1)),none,[]⟩,
 ⟨(some 7),(.call (.f 68) [(.t 6)]),none,[1]⟩,
 ⟨(some 8),(.load none (.g 4)),none,[]⟩,
 ⟨(some 9),(.build [(.string ⟨#[]⟩),(.string ⟨#[]⟩), .nilIface] [(0,1,(.t 5)),(1,1,(.t 7)),(2,1,(.t 8))]),none,[0,2,3]⟩,
 ⟨(some 10),(.box 95 (.t 9)),none,[4]⟩,
 ⟨(some 4),(.mov (.t 10)),none,[5,2,0,1,2,3,4,5]⟩] (some [(0,1),(0,2),(0,3),(1,3),(2,3)])
def B52 : ACode := (.seq (.region [⟨(some 4),(.mov (.c (.pointer none))),none,[]⟩] none)
 (.seq R52_0
 .ret))
def F52 : AFunc := ⟨2,11,[(.tmp 4)],B52⟩
def R56_0 : ACode := .region [⟨(some 50),(.mov (.t 9)),none,[]⟩,
 ⟨(some 51),(.mov (.t 11)),none,[]⟩,
 ⟨(some 52),(.bin .shr (.t 50) (.t 51)),none,[0,1]⟩,
 ⟨(some 53),(.conv .i64 (.t 52)),none,[2]⟩,
 ⟨(some 54),(.mov (.t 10)),none,[]⟩,
 ⟨(some 55),(.bin .shl (.c (.int .i64 1)) (.t 54)),none,[4]⟩,
 ⟨(some 56),(.bin .sub (.t 55) (.c (.int .i64 1))),none,[5]⟩,
 ⟨(some 57),(.bin .and (.t 53) (.t 56)),none,[3,6]⟩,
 ⟨(some 14),(.mov (.t 57)),none,[7,0,1,2,3,4,5,6,7]⟩] (some [(0,1),(0,4),(1,4),(2,4),(3,4),(0,5),(1,5),(2,5),(3,5),(0,6),(1,6),(2,6),(3,6)])
def R56_1 : ACode := .region [⟨(some 140),(.sliceArr 1 32 (.t 16) none none),none,[]⟩,
 ⟨(some 141),(.mov (.t 20)),none,[]⟩,
 ⟨(some 142),(.mov (.t 21)),none,[]⟩,
 ⟨(some 143),(.mov (.t 20)),none,[]⟩,
 ⟨(some 144),(.call (.f 79) [(.t 143)]),none,[3]⟩,
 ⟨(some 145),(.call (.f 78) [(.t 140),(.t 141),(.t 142),(.t 144)]),none,[0,1,2,4,4]⟩,
 ⟨(some 139),(.mov (.t 145)),none,[5]⟩,
 ⟨(some 146),(.extract (.t 139) 0),none,[6]⟩,
 ⟨(some 147),(.extract (.t 139) 1),none,[6]⟩,
 ⟨(some 22),(.mov (.t 146)),none,[7,5,0,1,2,3,4,5,6,7]⟩,
 ⟨(some 23),(.mov (.t 147)),none,[8,9,0,1,2,3,4,5,6,7,8,9]⟩] (some [(0,1),(0,2),(1,2),(0,3),(1,3),(2,3),(0,4),(1,4),(2,4),(7,8),(8,9)])
def R56_2 : ACode := .region [⟨(some 230),(.sliceArr 1 24 (.t 25) none none),none,[]⟩,
 ⟨(some 231),(.mov (.t 31)),none,[]⟩,
 ⟨(some 232),(.mov (.t 32)),none,[]⟩,
 ⟨(some 233),(.mov (.t 31)),none,[]⟩,
 ⟨(some 234),(.call (.f 79) [(.t 233)]),none,[3]⟩,
 ⟨(some 235),(.call (.f 78) [(.t 230),(.t 231),(.t 232),(.t 234)]),none,[0,1,2,4,4]⟩,
 ⟨(some 229),(.mov (.t 235)),none,[5]⟩,
 ⟨(some 236),(.extract (.t 229) 0),none,[6]⟩,
 ⟨(some 237),(.extract (.t 229) 1),none,[6]⟩,
 ⟨(some 26),(.mov (.t 236)),none,[7,5,0,1,2,3,4,5,6,7]⟩,
 ⟨(some 27),(.mov (.t 237)),none,[8,9,0,1,2,3,4,5,6,7,8,9]⟩] (some [(0,1),(0,2),(1,2),(0,3),(1,3),(2,3),(0,4),(1,4),(2,4),(7,8),(8,9)])
def R56_3 : ACode := .region [⟨(some 281),(.mov (.t 0)),none,[]⟩,
 ⟨(some 282),(.mov (.t 13)),none,[]⟩,
 ⟨(some 283),(.mov (.t 33)),none,[]⟩,
 ⟨(some 284),(.nilCheck (.t 283)),none,[2]⟩,
 ⟨(some 285),(.fieldAddr 0 (.t 284)),none,[3]⟩,
 ⟨(some 286),(.sliceArr 1 800 (.t 285) none none),none,[4]⟩,
 ⟨(some 287),(.mov (.t 33)),none,[]⟩,
 ⟨(some 288),(.nilCheck (.t 287)),none,[6]⟩,
 ⟨(some 289),(.fieldAddr 801 (.t 288)),none,[7]⟩,
 ⟨(some 290),(.load none (.t 289)),none,[8]⟩,
 ⟨(some 291),(.mov (.t 33)),none,[]⟩,
 ⟨(some 292),(.nilCheck (.t 291)),none,[10]⟩,
 ⟨(some 293),(.fieldAddr 800 (.t 292)),none,[11]⟩,
 ⟨(some 294),(.load none (.t 293)),none,[12]⟩,
 ⟨(some 295),(.mov (.t 3)),none,[]⟩,
 ⟨(some 296),(.mov (.t 2)),none,[]⟩,
 ⟨(some 297),(.call (.f 75) [(.t 281),(.t 282),(.t 286),(.t 290),(.t 294),(.t 295),(.t 296),(.c (.bool false))]),none,[0,1,5,9,13,14,15]⟩,
 ⟨(some 8),(.mov (.t 297)),none,[16,16,0,1,2,3,4,5,6,7,8,9,10,11,12,13,14,15,16]⟩] (some [(0,1),(0,2),(1,2),(0,3),(1,3),(0,4),(1,4),(0,5),(1,5),(0,6),(1,6),(2,6),(3,6),(4,6),(5,6),(0,7),(1,7),(2,7),(3,7),(4,7),(5,7),(0,8),(1,8),(2,8),(3,8),(4,8),(5,8),(0,9),(1,9),(2,9),(3,9),(4,9),(5,9),(0,10),(1,10),(2,10),(3,10),(4,10),(5,10),(6,10),(7,10),(8,10),(9,10),(0,11),(1,11),(2,11),(3,11),(4,11),(5,11),(6,11),(7,11),(8,11),(9,11),(0,12),(1,12),(2,12),(3,12),(4,12),(5,12),(6,12),(7,12),(8,12),(9,12),(0,13),(1,13),(2,13),(3,13),(4,13),(5,13),(6,13),(7,13),(8,13),(9,13),(0,14),(1,14),(2,14),(3,14),(4,14),(5,14),(6,14),(7,14),(8,14),(9,14),(10,14),(11,14),(12,14),(13,14),(0,15),(1,15),(2,15),(3,15),(4,15),(5,15),(6,15),(7,15),(8,15),(9,15),(10,15),(11,15),(12,15),(13,15),(14,15)])
def B56 : ACode := (.seq (.region [⟨(some 8),(.mov (.c (.slice none 0 0))),none,[]⟩] none)
 (.seq (.region [⟨(some 9),(.mov (.c (.int .u64 0))),none,[]⟩] none)
 (.seq (.region [⟨(some 10),(.mov (.c (.int .i64 0))),none,[]⟩,
 ⟨(some 11),(.mov (.c (.int .i64 0))),none,[]⟩,
 ⟨(some 12),(.mov (.c (.int .i64 0))),none,[]⟩] none)
 (.seq (.block 0 (.seq (.region [⟨(some 35),(.bin .eql (.c (.int .u64 64)) (.c (.int .u64 32))),none,[]⟩,
 ⟨(some 34),(.mov (.t 35)),none,[]⟩] none)
 (.cond (.t 34)
 (.seq (.region [⟨(some 36),(.mov (.t 1)),none,[]⟩,
 ⟨(some 37),(.sameF .f32 (.t 36)),none,[]⟩,
 ⟨(some 38),(.call (.f 71) [(.t 37)]),none,[]⟩,
 ⟨(some 39),(.conv .u64 (.t 38)),none,[]⟩,
 ⟨(some 9),(.mov (.t 39)),none,[]⟩] none)
 (.seq (.region [⟨(some 10),(.mov (.c (.int .i64 8))),none,[]⟩] none)
 (.seq (.region [⟨(some 11),(.mov (.c (.int .i64 23))),none,[]⟩] none)
 (.region [⟨(some 12),(.mov (.c (.int .i64 (-127)))),none,[]⟩] none))))
 (.seq (.region [⟨(some 41),(.bin .eql (.c (.int .u64 64)) (.c (.int .u64 64))),none,[]⟩,
 ⟨(some 40),(.mov (.t 41)),none,[]⟩] none)
 (.cond (.t 40)
 (.seq (.region [⟨(some 42),(.mov (.t 1)),none,[]⟩,
 ⟨(some 43),(.call (.f 72) [(.t 42)]),none,[]⟩,
 ⟨(some 9),(.mov (.t 43)),none,[]⟩] none)
 (.seq (.region [⟨(some 10),(.mov (.c (.int .i64 11))),none,[]⟩] none)
 (.seq (.region [⟨(some 11),(.mov (.c (.int .i64 52))),none,[]⟩] none)
 (.region [⟨(some 12),(.mov (.c (.int .i64 (-1023)))),none,[]⟩] none))))
 .skip)))))
 (.seq (.region [⟨(some 44),(.mov (.t 9)),none,[]⟩,
 ⟨(some 45),(.mov (.t 10)),none,[]⟩,
 ⟨(some 46),(.mov (.t 11)),none,[]⟩,
 ⟨(some 47),(.bin .add (.t 45) (.t 46)),none,[]⟩,
 ⟨(some 48),(.bin .shr (.t 44) (.t 47)),none,[]⟩,
 ⟨(some 49),(.bin .neq (.t 48) (.c (.int .u64 0))),none,[]⟩,
 ⟨(some 13),(.mov (.t 49)),none,[]⟩] none)
 (.seq R56_0
 (.seq (.region [⟨(some 58),(.mov (.t 9)),none,[]⟩,
 ⟨(some 59),(.mov (.t 11)),none,[]⟩,
 ⟨(some 60),(.bin .shl (.c (.int .u64 1)) (.t 59)),none,[]⟩,
 ⟨(some 61),(.bin .sub (.t 60) (.c (.int .u64 1))),none,[]⟩,
 ⟨(some 62),(.bin .and (.t 58) (.t 61)),none,[]⟩,
 ⟨(some 15),(.mov (.t 62)),none,[]⟩] none)
 (.seq (.seq (.region [⟨(some 63),(.mov (.t 14)),none,[]⟩,
 ⟨(some 64),(.mov (.t 10)),none,[]⟩,
 ⟨(some 65),(.bin .shl (.c (.int .i64 1)) (.t 64)),none,[]⟩,
 ⟨(some 66),(.bin .sub (.t 65) (.c (.int .i64 1))),none,[]⟩,
 ⟨(some 67),(.bin .eql (.t 63) (.t 66)),none,[]⟩] none)
 (.cond (.t 67)
 (.seq (.seq (.region [⟨(some 68),(.mov (.t 15)),none,[]⟩,
 ⟨(some 69),(.bin .neq (.t 68) (.c (.int .u64 0))),none,[]⟩] none)
 (.cond (.t 69)
 (.seq (.region [⟨(some 70),(.mov (.t 0)),none,[]⟩,
 ⟨(some 71),(.append 5 1 1 (.t 70) (.c (.string ⟨#[78,97,78]⟩))),none,[]⟩,
 ⟨(some 8),(.mov (.t 71)),none,[]⟩] none)
 .ret)
 .skip))
 (.seq (.seq (.region [⟨(some 72),(.mov (.t 13)),none,[]⟩] none)
 (.cond (.t 72)
 (.seq (.region [⟨(some 73),(.mov (.t 0)),none,[]⟩,
 ⟨(some 74),(.append 5 1 1 (.t 73) (.c (.string ⟨#[45,73,110,102]⟩))),none,[]⟩,
 ⟨(some 8),(.mov (.t 74)),none,[]⟩] none)
 .ret)
 .skip))
 (.seq (.region [⟨(some 75),(.mov (.t 0)),none,[]⟩,
 ⟨(some 76),(.append 5 1 1 (.t 75) (.c (.string ⟨#[43,73,110,102]⟩))),none,[]⟩,
 ⟨(some 8),(.mov (.t 76)),none,[]⟩] none)
 .ret)))
 .skip))
 (.seq (.seq (.region [⟨(some 77),(.mov (.t 14)),none,[]⟩,
 ⟨(some 78),(.bin .eql (.t 77) (.c (.int .i64 0))),none,[]⟩] none)
 (.cond (.t 78)
 (.region [⟨(some 79),(.mov (.t 14)),none,[]⟩,
 ⟨(some 80),(.bin .add (.t 79) (.c (.int .i64 1))),none,[]⟩,
 ⟨(some 14),(.mov (.t 80)),none,[]⟩] none)
 (.region [⟨(some 81),(.mov (.t 15)),none,[]⟩,
 ⟨(some 82),(.mov (.t 11)),none,[]⟩,
 ⟨(some 83),(.bin .shl (.c (.int .u64 1)) (.t 82)),none,[]⟩,
 ⟨(some 84),(.bin .or (.t 81) (.t 83)),none,[]⟩,
 ⟨(some 15),(.mov (.t 84)),none,[]⟩] none)))
 (.seq (.region [⟨(some 85),(.mov (.t 14)),none,[]⟩,
 ⟨(some 86),(.mov (.t 12)),none,[]⟩,
 ⟨(some 87),(.bin .add (.t 85) (.t 86)),none,[]⟩,
 ⟨(some 14),(.mov (.t 87)),none,[]⟩] none)
 (.seq (.seq (.region [⟨(some 88),(.mov (.t 2)),none,[]⟩,
 ⟨(some 89),(.bin .eql (.t 88) (.c (.int .u8 98))),none,[]⟩] none)
 (.cond (.t 89)
 (.seq (.region [⟨(some 90),(.mov (.t 0)),none,[]⟩,
 ⟨(some 91),(.mov (.t 13)),none,[]⟩,
 ⟨(some 92),(.mov (.t 15)),none,[]⟩,
 ⟨(some 93),(.mov (.t 14)),none,[]⟩,
 ⟨(some 94),(.mov (.t 11)),none,[]⟩,
 ⟨(some 95),(.bin .sub (.t 93) (.t 94)),none,[]⟩,
 ⟨(some 96),(.call (.f 73) [(.t 90),(.t 91),(.t 92),(.t 95)]),none,[]⟩,
 ⟨(some 8),(.mov (.t 96)),none,[]⟩] none)
 .ret)
 .skip))
 (.seq (.seq (.region [⟨(some 97),(.mov (.t 2)),none,[]⟩,
 ⟨(some 98),(.bin .eql (.t 97) (.c (.int .u8 120))),none,[]⟩,
 ⟨(some 99),(.mov (.t 98)),none,[]⟩,
 ⟨(some 100),(.mov (.t 2)),(some (99,false)),[]⟩,
 ⟨(some 101),(.bin .eql (.t 100) (.c (.int .u8 88))),(some (99,false)),[]⟩,
 ⟨(some 102),(.pick (.t 99) (.c (.bool true)) (.t 101)),none,[]⟩] none)
 (.cond (.t 102)
 (.seq (.region [⟨(some 103),(.mov (.t 0)),none,[]⟩,
 ⟨(some 104),(.mov (.t 3)),none,[]⟩,
 ⟨(some 105),(.mov (.t 2)),none,[]⟩,
 ⟨(some 106),(.mov (.t 13)),none,[]⟩,
 ⟨(some 107),(.mov (.t 15)),none,[]⟩,
 ⟨(some 108),(.mov (.t 14)),none,[]⟩,
 ⟨(some 109),(.mov (.t 11)),none,[]⟩,
 ⟨(some 110),(.call (.f 74) [(.t 103),(.t 104),(.t 105),(.t 106),(.t 107),(.t 108),(.t 109)]),none,[]⟩,
 ⟨(some 8),(.mov (.t 110)),none,[]⟩] none)
 .ret)
 .skip))
 (.seq (.seq (.region [⟨(some 111),(.mov (.t 15)),none,[]⟩,
 ⟨(some 112),(.bin .eql (.t 111) (.c (.int .u64 0))),none,[]⟩] none)
 (.cond (.t 112)
 (.seq (.region [⟨(some 113),(.mov (.t 0)),none,[]⟩,
 ⟨(some 114),(.mov (.t 13)),none,[]⟩,
 ⟨(some 115),(.mov (.t 3)),none,[]⟩,
 ⟨(some 116),(.mov (.t 2)),none,[]⟩,
 ⟨(some 117),(.mov (.t 3)),none,[]⟩,
 ⟨(some 118),(.bin .lss (.t 117) (.c (.int .i64 0))),none,[]⟩,
 ⟨(some 119),(.call (.f 75) [(.t 113),(.t 114),(.c (.slice none 0 0)),(.c (.int .i64 0)),(.c (.int .i64 0)),(.t 115),(.t 116),(.t 118)]),none,[]⟩,
 ⟨(some 8),(.mov (.t 119)),none,[]⟩] none)
 .ret)
 .skip))
 (.seq (.seq (.region [⟨(some 120),(.mov (.t 3)),none,[]⟩,
 ⟨(some 121),(.bin .lss (.t 120) (.c (.int .i64 0))),none,[]⟩] none)
 (.cond (.t 121)
 (.seq (.region [⟨(some 16),(.alloc 103 [(.int .u8 0),(.int .u8 0),(.int .u8 0),(.int .u8 0),(.int .u8 0),(.int .u8 0),(.int .u8 0),(.int .u8 0),(.int .u8 0),(.int .u8 0),(.int .u8 0),(.int .u8 0),(.int .u8 0),(.int .u8 0),(.int .u8 0),(.int .u8 0),(.int .u8 0),(.int .u8 0),(.int .u8 0),(.int .u8 0),(.int .u8 0),(.int .u8 0),(.int .u8 0),(.int .u8 0),(.int .u8 0),(.int .u8 0),(.int .u8 0),(.int .u8 0),(.int .u8 0),(.int .u8 0),(.int .u8 0),(.int .u8 0)]),none,[]⟩] none)
 (.seq (.region [⟨(some 122),(.mov (.t 15)),none,[]⟩,
 ⟨(some 123),(.call (.f 76) [(.t 122)]),none,[]⟩,
 ⟨(some 124),(.bin .sub (.c (.int .i64 64)) (.t 123)),none,[]⟩,
 ⟨(some 17),(.mov (.t 124)),none,[]⟩] none)
 (.seq (.region [⟨(some 125),(.mov (.t 15)),none,[]⟩,
 ⟨(some 126),(.mov (.t 17)),none,[]⟩,
 ⟨(some 127),(.bin .shl (.t 125) (.t 126)),none,[]⟩,
 ⟨(some 18),(.mov (.t 127)),none,[]⟩] none)
 (.seq (.region [⟨(some 128),(.mov (.t 14)),none,[]⟩,
 ⟨(some 129),(.mov (.t 17)),none,[]⟩,
 ⟨(some 130),(.bin .sub (.t 128) (.t 129)),none,[]⟩,
 ⟨(some 19),(.mov (.t 130)),none,[]⟩] none)
 (.seq (.region [⟨(some 132),(.mov (.t 18)),none,[]⟩,
 ⟨(some 133),(.mov (.t 19)),none,[]⟩,
 ⟨(some 134),(.mov (.t 11)),none,[]⟩,
 ⟨(some 135),(.bin .sub (.t 133) (.t 134)),none,[]⟩,
 ⟨(some 136),(.call (.f 85) [(.t 132),(.t 135)]),none,[]⟩,
 ⟨(some 131),(.mov (.t 136)),none,[]⟩,
 ⟨(some 137),(.extract (.t 131) 0),none,[]⟩,
 ⟨(some 138),(.extract (.t 131) 1),none,[]⟩,
 ⟨(some 20),(.mov (.t 137)),none,[]⟩,
 ⟨(some 21),(.mov (.t 138)),none,[]⟩] none)
 (.seq R56_1
 (.seq (.seq (.region [⟨(some 148),(.mov (.t 2)),none,[]⟩] none)
 (.block 1 (.seq (.seq (.region [⟨(some 150),(.bin .eql (.t 148) (.c (.int .u8 101))),none,[]⟩,
 ⟨(some 149),(.mov (.t 150)),none,[]⟩] none)
 (.cond (.t 149)
 .skip
 (.region [⟨(some 151),(.bin .eql (.t 148) (.c (.int .u8 69))),none,[]⟩,
 ⟨(some 149),(.mov (.t 151)),none,[]⟩] none)))
 (.cond (.t 149)
 (.region [⟨(some 152),(.mov (.t 23)),none,[]⟩,
 ⟨(some 153),(.bin .sub (.t 152) (.c (.int .i64 1))),none,[]⟩,
 ⟨(some 154),(.max [(.t 153),(.c (.int .i64 0))]),none,[]⟩,
 ⟨(some 3),(.mov (.t 154)),none,[]⟩] none)
 (.seq (.region [⟨(some 156),(.bin .eql (.t 148) (.c (.int .u8 102))),none,[]⟩,
 ⟨(some 155),(.mov (.t 156)),none,[]⟩] none)
 (.cond (.t 155)
 (.region [⟨(some 157),(.mov (.t 23)),none,[]⟩,
 ⟨(some 158),(.mov (.t 22)),none,[]⟩,
 ⟨(some 159),(.bin .sub (.t 157) (.t 158)),none,[]⟩,
 ⟨(some 160),(.max [(.t 159),(.c (.int .i64 0))]),none,[]⟩,
 ⟨(some 3),(.mov (.t 160)),none,[]⟩] none)
 (.seq (.seq (.region [⟨(some 162),(.bin .eql (.t 148) (.c (.int .u8 103))),none,[]⟩,
 ⟨(some 161),(.mov (.t 162)),none,[]⟩] none)
 (.cond (.t 161)
 .skip
 (.region [⟨(some 163),(.bin .eql (.t 148) (.c (.int .u8 71))),none,[]⟩,
 ⟨(some 161),(.mov (.t 163)),none,[]⟩] none)))
 (.cond (.t 161)
 (.region [⟨(some 164),(.mov (.t 23)),none,[]⟩,
 ⟨(some 3),(.mov (.t 164)),none,[]⟩] none)
 .skip))))))))
 (.seq (.region [⟨(some 165),(.mov (.t 0)),none,[]⟩,
 ⟨(some 166),(.mov (.t 13)),none,[]⟩,
 ⟨(some 167),(.sliceArr 1 32 (.t 16) none none),none,[]⟩,
 ⟨(some 168),(.mov (.t 22)),none,[]⟩,
 ⟨(some 169),(.mov (.t 23)),none,[]⟩,
 ⟨(some 170),(.mov (.t 3)),none,[]⟩,
 ⟨(some 171),(.mov (.t 2)),none,[]⟩,
 ⟨(some 172),(.call (.f 75) [(.t 165),(.t 166),(.t 167),(.t 168),(.t 169),(.t 170),(.t 171),(.c (.bool true))]),none,[]⟩,
 ⟨(some 8),(.mov (.t 172)),none,[]⟩] none)
 .ret))))))))
 .skip))
 (.seq (.seq (.region [⟨(some 173),(.load none (.g 5)),none,[]⟩] none)
 (.cond (.t 173)
 (.seq (.region [⟨(some 174),(.mov (.t 3)),none,[]⟩,
 ⟨(some 24),(.mov (.t 174)),none,[]⟩] none)
 (.seq (.seq (.region [⟨(some 175),(.mov (.t 2)),none,[]⟩] none)
 (.block 2 (.seq (.region [⟨(some 177),(.bin .eql (.t 175) (.c (.int .u8 102))),none,[]⟩,
 ⟨(some 176),(.mov (.t 177)),none,[]⟩] none)
 (.cond (.t 176)
 (.seq (.region [⟨(some 178),(.mov (.t 14)),none,[]⟩,
 ⟨(some 179),(.bin .geq (.t 178) (.c (.int .i64 0))),none,[]⟩] none)
 (.cond (.t 179)
 (.region [⟨(some 180),(.mov (.t 14)),none,[]⟩,
 ⟨(some 181),(.bin .add (.c (.int .i64 1)) (.t 180)),none,[]⟩,
 ⟨(some 182),(.call (.f 80) [(.t 181)]),none,[]⟩,
 ⟨(some 183),(.bin .add (.c (.int .i64 1)) (.t 182)),none,[]⟩,
 ⟨(some 184),(.mov (.t 3)),none,[]⟩,
 ⟨(some 185),(.bin .add (.t 183) (.t 184)),none,[]⟩,
 ⟨(some 24),(.mov (.t 185)),none,[]⟩] none)
 (.region [⟨(some 186),(.mov (.t 3)),none,[]⟩,
 ⟨(some 187),(.bin .add (.c (.int .i64 1)) (.t 186)),none,[]⟩,
 ⟨(some 188),(.mov (.t 14)),none,[]⟩,
 ⟨(some 189),(.un .neg (.t 188)),none,[]⟩,
 ⟨(some 190),(.call (.f 80) [(.t 189)]),none,[]⟩,
 ⟨(some 191),(.bin .sub (.t 187) (.t 190)),none,[]⟩,
 ⟨(some 24),(.mov (.t 191)),none,[]⟩] none)))
 (.seq (.seq (.region [⟨(some 193),(.bin .eql (.t 175) (.c (.int .u8 101))),none,[]⟩,
 ⟨(some 192),(.mov (.t 193)),none,[]⟩] none)
 (.cond (.t 192)
 .skip
 (.region [⟨(some 194),(.bin .eql (.t 175) (.c (.int .u8 69))),none,[]⟩,
 ⟨(some 192),(.mov (.t 194)),none,[]⟩] none)))
 (.cond (.t 192)
 (.region [⟨(some 195),(.mov (.t 24)),none,[]⟩,
 ⟨(some 196),(.bin .add (.t 195) (.c (.int .i64 1))),none,[]⟩,
 ⟨(some 24),(.mov (.t 196)),none,[]⟩] none)
 (.seq (.seq (.region [⟨(some 198),(.bin .eql (.t 175) (.c (.int .u8 103))),none,[]⟩,
 ⟨(some 197),(.mov (.t 198)),none,[]⟩] none)
 (.cond (.t 197)
 .skip
 (.region [⟨(some 199),(.bin .eql (.t 175) (.c (.int .u8 71))),none,[]⟩,
 ⟨(some 197),(.mov (.t 199)),none,[]⟩] none)))
 (.cond (.t 197)
 (.seq (.seq (.region [⟨(some 200),(.mov (.t 3)),none,[]⟩,
 ⟨(some 201),(.bin .eql (.t 200) (.c (.int .i64 0))),none,[]⟩] none)
 (.cond (.t 201)
 (.region [⟨(some 3),(.mov (.c (.int .i64 1))),none,[]⟩] none)
 .skip))
 (.region [⟨(some 202),(.mov (.t 3)),none,[]⟩,
 ⟨(some 24),(.mov (.t 202)),none,[]⟩] none))
 (.region [⟨(some 24),(.mov (.c (.int .i64 1))),none,[]⟩] none)))))))))
 (.seq (.region [⟨(some 203),(.mov (.t 24)),none,[]⟩,
 ⟨(some 204),(.bin .leq (.t 203) (.c (.int .i64 18))),none,[]⟩] none)
 (.cond (.t 204)
 (.seq (.region [⟨(some 25),(.alloc 109 [(.int .u8 0),(.int .u8 0),(.int .u8 0),(.int .u8 0),(.int .u8 0),(.int .u8 0),(.int .u8 0),(.int .u8 0),(.int .u8 0),(.int .u8 0),(.int .u8 0),(.int .u8 0),(.int .u8 0),(.int .u8 0),(.int .u8 0),(.int .u8 0),(.int .u8 0),(.int .u8 0),(.int .u8 0),(.int .u8 0),(.int .u8 0),(.int .u8 0),(.int .u8 0),(.int .u8 0)]),none,[]⟩] none)
 (.seq (.region [⟨(some 26),(.mov (.c (.int .i64 0))),none,[]⟩,
 ⟨(some 27),(.mov (.c (.int .i64 0))),none,[]⟩] none)
 (.seq (.seq (.region [⟨(some 205),(.mov (.t 24)),none,[]⟩,
 ⟨(some 206),(.bin .gtr (.t 205) (.c (.int .i64 0))),none,[]⟩] none)
 (.cond (.t 206)
 (.seq (.region [⟨(some 207),(.mov (.t 15)),none,[]⟩,
 ⟨(some 208),(.call (.f 76) [(.t 207)]),none,[]⟩,
 ⟨(some 209),(.bin .sub (.c (.int .i64 64)) (.t 208)),none,[]⟩,
 ⟨(some 28),(.mov (.t 209)),none,[]⟩] none)
 (.seq (.region [⟨(some 210),(.mov (.t 15)),none,[]⟩,
 ⟨(some 211),(.mov (.t 28)),none,[]⟩,
 ⟨(some 212),(.bin .shl (.t 210) (.t 211)),none,[]⟩,
 ⟨(some 29),(.mov (.t 212)),none,[]⟩] none)
 (.seq (.region [⟨(some 213),(.mov (.t 14)),none,[]⟩,
 ⟨(some 214),(.mov (.t 28)),none,[]⟩,
 ⟨(some 215),(.bin .sub (.t 213) (.t 214)),none,[]⟩,
 ⟨(some 30),(.mov (.t 215)),none,[]⟩] none)
 (.seq (.region [⟨(some 217),(.mov (.t 29)),none,[]⟩,
 ⟨(some 218),(.mov (.t 30)),none,[]⟩,
 ⟨(some 219),(.mov (.t 11)),none,[]⟩,
 ⟨(some 220),(.bin .sub (.t 218) (.t 219)),none,[]⟩,
 ⟨(some 221),(.mov (.t 24)),none,[]⟩,
 ⟨(some 222),(.mov (.t 3)),none,[]⟩,
 ⟨(some 223),(.mov (.t 2)),none,[]⟩,
 ⟨(some 224),(.call (.f 81) [(.t 217),(.t 220),(.t 221),(.t 222),(.t 223)]),none,[]⟩,
 ⟨(some 216),(.mov (.t 224)),none,[]⟩,
 ⟨(some 225),(.extract (.t 216) 0),none,[]⟩,
 ⟨(some 226),(.extract (.t 216) 1),none,[]⟩,
 ⟨(some 31),(.mov (.t 225)),none,[]⟩,
 ⟨(some 32),(.mov (.t 226)),none,[]⟩] none)
 (.seq (.region [⟨(some 227),(.mov (.t 31)),none,[]⟩,
 ⟨(some 228),(.bin .neq (.t 227) (.c (.int .u64 0))),none,[]⟩] none)
 (.cond (.t 228)
 R56_2
 .skip))))))
 .skip))
 (.seq (.region [⟨(some 238),(.mov (.t 0)),none,[]⟩,
 ⟨(some 239),(.mov (.t 13)),none,[]⟩,
 ⟨(some 240),(.sliceArr 1 24 (.t 25) none none),none,[]⟩,
 ⟨(some 241),(.mov (.t 26)),none,[]⟩,
 ⟨(some 242),(.mov (.t 27)),none,[]⟩,
 ⟨(some 243),(.mov (.t 3)),none,[]⟩,
 ⟨(some 244),(.mov (.t 2)),none,[]⟩,
 ⟨(some 245),(.call (.f 75) [(.t 238),(.t 239),(.t 240),(.t 241),(.t 242),(.t 243),(.t 244),(.c (.bool false))]),none,[]⟩,
 ⟨(some 8),(.mov (.t 245)),none,[]⟩] none)
 .ret))))
 .skip))))
 .skip))
 (.seq (.region [⟨(some 246),(.alloc 114 (List.replicate 800 (.int .u8 0) ++ [(.int .i64 0),(.int .i64 0),(.bool false),(.bool false)])),none,[]⟩,
 ⟨(some 33),(.mov (.t 246)),none,[]⟩] none)
 (.seq (.region [⟨(some 247),(.mov (.t 33)),none,[]⟩,
 ⟨(some 248),(.mov (.t 15)),none,[]⟩,
 ⟨(some 249),(.call (.f 82) [(.t 247),(.t 248)]),none,[]⟩] none)
 (.seq (.region [⟨(some 250),(.mov (.t 33)),none,[]⟩,
 ⟨(some 251),(.mov (.t 14)),none,[]⟩,
 ⟨(some 252),(.mov (.t 11)),none,[]⟩,
 ⟨(some 253),(.bin .sub (.t 251) (.t 252)),none,[]⟩,
 ⟨(some 254),(.call (.f 83) [(.t 250),(.t 253)]),none,[]⟩] none)
 (.seq (.seq (.region [⟨(some 255),(.mov (.t 2)),none,[]⟩] none)
 (.block 3 (.seq (.seq (.region [⟨(some 257),(.bin .eql (.t 255) (.c (.int .u8 101))),none,[]⟩,
 ⟨(some 256),(.mov (.t 257)),none,[]⟩] none)
 (.cond (.t 256)
 .skip
 (.region [⟨(some 258),(.bin .eql (.t 255) (.c (.int .u8 69))),none,[]⟩,
 ⟨(some 256),(.mov (.t 258)),none,[]⟩] none)))
 (.cond (.t 256)
 (.region [⟨(some 259),(.mov (.t 33)),none,[]⟩,
 ⟨(some 260),(.mov (.t 3)),none,[]⟩,
 ⟨(some 261),(.bin .add (.t 260) (.c (.int .i64 1))),none,[]⟩,
 ⟨(some 262),(.call (.f 84) [(.t 259),(.t 261)]),none,[]⟩] none)
 (.seq (.region [⟨(some 264),(.bin .eql (.t 255) (.c (.int .u8 102))),none,[]⟩,
 ⟨(some 263),(.mov (.t 264)),none,[]⟩] none)
 (.cond (.t 263)
 (.region [⟨(some 265),(.mov (.t 33)),none,[]⟩,
 ⟨(some 266),(.mov (.t 33)),none,[]⟩,
 ⟨(some 267),(.nilCheck (.t 266)),none,[]⟩,
 ⟨(some 268),(.fieldAddr 801 (.t 267)),none,[]⟩,
 ⟨(some 269),(.load none (.t 268)),none,[]⟩,
 ⟨(some 270),(.mov (.t 3)),none,[]⟩,
 ⟨(some 271),(.bin .add (.t 269) (.t 270)),none,[]⟩,
 ⟨(some 272),(.call (.f 84) [(.t 265),(.t 271)]),none,[]⟩] none)
 (.seq (.seq (.region [⟨(some 274),(.bin .eql (.t 255) (.c (.int .u8 103))),none,[]⟩,
 ⟨(some 273),(.mov (.t 274)),none,[]⟩] none)
 (.cond (.t 273)
 .skip
 (.region [⟨(some 275),(.bin .eql (.t 255) (.c (.int .u8 71))),none,[]⟩,
 ⟨(some 273),(.mov (.t 275)),none,[]⟩] none)))
 (.cond (.t 273)
 (.seq (.seq (.region [⟨(some 276),(.mov (.t 3)),none,[]⟩,
 ⟨(some 277),(.bin .eql (.t 276) (.c (.int .i64 0))),none,[]⟩] none)
 (.cond (.t 277)
 (.region [⟨(some 3),(.mov (.c (.int .i64 1))),none,[]⟩] none)
 .skip))
 (.region [⟨(some 278),(.mov (.t 33)),none,[]⟩,
 ⟨(some 279),(.mov (.t 3)),none,[]⟩,
 ⟨(some 280),(.call (.f 84) [(.t 278),(.t 279)]),none,[]⟩] none))
 .skip))))))))
 (.seq R56_3
 .ret))))))))))))))))))))
def F56 : AFunc := ⟨4,298,[(.tmp 8)],B56⟩
def R57_0 : ACode := .region [⟨(some 12),(.mov (.t 0)),none,[]⟩,
 ⟨(some 13),(.mov (.t 0)),none,[]⟩,
 ⟨(some 14),(.nilCheck (.t 13)),none,[1]⟩,
 ⟨(some 15),(.load (some 4) (.t 14)),none,[2]⟩,
 ⟨(some 16),(.mov (.t 1)),none,[]⟩,
 ⟨(some 17),(.conv .u64 (.t 16)),none,[4]⟩,
 ⟨(some 18),(.mov (.t 0)),none,[]⟩,
 ⟨(some 19),(.nilCheck (.t 18)),none,[6]⟩,
 ⟨(some 20),(.fieldAddr 3 (.t 19)),none,[7]⟩,
 ⟨(some 21),(.load none (.t 20)),none,[8]⟩,
 ⟨(some 22),(.conv .u64 (.t 21)),none,[9]⟩,
 ⟨(some 23),(.bin .sub (.t 17) (.t 22)),none,[5,10]⟩,
 ⟨(some 24),(.call (.f 41) [(.t 15),(.t 23)]),none,[3,11]⟩,
 ⟨(some 25),(.nilCheck (.t 12)),none,[0,0,1,2,3,4,5,6,7,8,9,10,11,12]⟩,
 ⟨(some 26),(.fieldAddr 2 (.t 25)),none,[13,0,1,2,3,4,5,6,7,8,9,10,11,12]⟩,
 ⟨none,(.store 1 (.t 26) (.t 24)),none,[14,12,12,0,1,2,3,4,5,6,7,8,9,10,11,12]⟩] (some [(0,1),(0,2),(0,3),(0,4),(1,4),(2,4),(3,4),(0,5),(1,5),(2,5),(3,5),(0,6),(1,6),(2,6),(3,6),(4,6),(5,6),(0,7),(1,7),(2,7),(3,7),(4,7),(5,7),(0,8),(1,8),(2,8),(3,8),(4,8),(5,8),(0,9),(1,9),(2,9),(3,9),(4,9),(5,9),(0,10),(1,10),(2,10),(3,10),(4,10),(5,10),(0,11),(1,11),(2,11),(3,11),(0,12)])
def B57 : ACode := (.seq (.region [⟨(some 4),(.mov (.t 0)),none,[]⟩,
 ⟨(some 5),(.call (.f 37) [(.t 4)]),none,[]⟩] none)
 (.seq (.region [⟨(some 6),(.mov (.t 1)),none,[]⟩,
 ⟨(some 7),(.mov (.t 0)),none,[]⟩,
 ⟨(some 8),(.nilCheck (.t 7)),none,[]⟩,
 ⟨(some 9),(.fieldAddr 3 (.t 8)),none,[]⟩,
 ⟨(some 10),(.load none (.t 9)),none,[]⟩,
 ⟨(some 11),(.bin .gtr (.t 6) (.t 10)),none,[]⟩] none)
 (.cond (.t 11)
 (.seq R57_0
 (.region [⟨(some 27),(.mov (.t 0)),none,[]⟩,
 ⟨(some 28),(.mov (.t 1)),none,[]⟩,
 ⟨(some 29),(.nilCheck (.t 27)),none,[]⟩,
 ⟨(some 30),(.fieldAddr 3 (.t 29)),none,[]⟩,
 ⟨none,(.store 1 (.t 30) (.t 28)),none,[]⟩] none))
 .skip)))
def F57 : AFunc := ⟨2,31,[],B57⟩
def B58 : ACode := (.seq (.region [⟨(some 4),(.mov (.c (.int .i64 0))),none,[]⟩] none)
 (.seq (.region [⟨(some 5),(.mov (.t 0)),none,[]⟩,
 ⟨(some 6),(.mov (.t 1)),none,[]⟩,
 ⟨(some 7),(.call (.f 86) [(.t 5),(.t 6)]),none,[]⟩,
 ⟨(some 4),(.mov (.t 7)),none,[]⟩] none)
 .ret))
def F58 : AFunc := ⟨2,8,[(.tmp 4)],B58⟩
def B60 : ACode := (.seq (.region [⟨(some 2),(.mov (.c (.int .i64 0))),none,[]⟩] none)
 (.seq (.region [⟨(some 3),(.mov (.t 0)),none,[]⟩,
 ⟨(some 4),(.bin .add (.t 3) (.c (.int .i64 16))),none,[]⟩,
 ⟨(some 5),(.bin .quo (.t 4) (.c (.int .i64 8))),none,[]⟩,
 ⟨(some 2),(.mov (.t 5)),none,[]⟩] none)
 .ret))
def F60 : AFunc := ⟨1,6,[(.tmp 2)],B60⟩
def B62 : ACode := (.seq (.region [⟨(some 4),(.mov (.c (.bool false))),none,[]⟩] none)
 (.seq (.region [⟨(some 5),(.mov (.t 0)),none,[]⟩,
 ⟨(some 6),(.mov (.t 1)),none,[]⟩,
 ⟨(some 7),(.nilCheck (.t 5)),none,[]⟩,
 ⟨(some 8),(.indexArr 1 256 (.t 7) (.t 6)),none,[]⟩,
 ⟨(some 9),(.load none (.t 8)),none,[]⟩,
 ⟨(some 4),(.mov (.t 9)),none,[]⟩] none)
 .ret))
def F62 : AFunc := ⟨2,10,[(.tmp 4)],B62⟩
def B67 : ACode := (.seq (.region [⟨(some 2),(.mov (.c (.float .f64 0))),none,[]⟩,
 ⟨(some 3),(.mov (.c (.int .i64 0))),none,[]⟩,
 ⟨(some 4),(.mov (.c .nilIface)),none,[]⟩] none)
 (.seq (.seq (.region [⟨(some 27),(.mov (.t 0)),none,[]⟩,
 ⟨(some 28),(.call (.f 91) [(.t 27)]),none,[]⟩,
 ⟨(some 26),(.mov (.t 28)),none,[]⟩,
 ⟨(some 29),(.extract (.t 26) 0),none,[]⟩,
 ⟨(some 30),(.extract (.t 26) 1),none,[]⟩,
 ⟨(some 31),(.extract (.t 26) 2),none,[]⟩,
 ⟨(some 5),(.mov (.t 29)),none,[]⟩,
 ⟨(some 6),(.mov (.t 30)),none,[]⟩,
 ⟨(some 7),(.mov (.t 31)),none,[]⟩] none)
 (.seq (.region [⟨(some 32),(.mov (.t 7)),none,[]⟩] none)
 (.cond (.t 32)
 (.seq (.region [⟨(some 33),(.mov (.t 5)),none,[]⟩,
 ⟨(some 34),(.mov (.t 6)),none,[]⟩,
 ⟨(some 2),(.mov (.t 33)),none,[]⟩,
 ⟨(some 3),(.mov (.t 34)),none,[]⟩,
 ⟨(some 4),(.mov (.c .nilIface)),none,[]⟩] none)
 .ret)
 .skip)))
 (.seq (.region [⟨(some 36),(.mov (.t 0)),none,[]⟩,
 ⟨(some 37),(.call (.f 92) [(.t 36)]),none,[]⟩,
 ⟨(some 35),(.mov (.t 37)),none,[]⟩,
 ⟨(some 38),(.extract (.t 35) 0),none,[]⟩,
 ⟨(some 39),(.extract (.t 35) 1),none,[]⟩,
 ⟨(some 40),(.extract (.t 35) 2),none,[]⟩,
 ⟨(some 41),(.extract (.t 35) 3),none,[]⟩,
 ⟨(some 42),(.extract (.t 35) 4),none,[]⟩,
 ⟨(some 43),(.extract (.t 35) 5),none,[]⟩,
 ⟨(some 44),(.extract (.t 35) 6),none,[]⟩,
 ⟨(some 8),(.mov (.t 38)),none,[]⟩,
 ⟨(some 9),(.mov (.t 39)),none,[]⟩,
 ⟨(some 10),(.mov (.t 40)),none,[]⟩,
 ⟨(some 11),(.mov (.t 41)),none,[]⟩,
 ⟨(some 12),(.mov (.t 42)),none,[]⟩,
 ⟨(some 3),(.mov (.t 43)),none,[]⟩,
 ⟨(some 13),(.mov (.t 44)),none,[]⟩] none)
 (.seq (.seq (.region [⟨(some 45),(.mov (.t 13)),none,[]⟩,
 ⟨(some 46),(.un .not (.t 45)),none,[]⟩] none)
 (.cond (.t 46)
 (.seq (.region [⟨(some 47),(.mov (.t 3)),none,[]⟩,
 ⟨(some 48),(.makeIface 74 (.c (.int .i64 2))),none,[]⟩,
 ⟨(some 2),(.mov (.c (.float .f64 0))),none,[]⟩,
 ⟨(some 3),(.mov (.t 47)),none,[]⟩,
 ⟨(some 4),(.mov (.t 48)),none,[]⟩] none)
 .ret)
 .skip))
 (.seq (.seq (.region [⟨(some 49),(.mov (.t 12)),none,[]⟩] none)
 (.cond (.t 49)
 (.seq (.region [⟨(some 51),(.mov (.t 0)),none,[]⟩,
 ⟨(some 52),(.mov (.t 3)),none,[]⟩,
 ⟨(some 53),(.sliceStr (.t 51) none (some (.t 52))),none,[]⟩,
 ⟨(some 54),(.mov (.t 8)),none,[]⟩,
 ⟨(some 55),(.mov (.t 9)),none,[]⟩,
 ⟨(some 56),(.mov (.t 10)),none,[]⟩,
 ⟨(some 57),(.mov (.t 11)),none,[]⟩,
 ⟨(some 58),(.call (.f 93) [(.t 53),(.g 7),(.t 54),(.t 55),(.t 56),(.t 57)]),none,[]⟩,
 ⟨(some 50),(.mov (.t 58)),none,[]⟩,
 ⟨(some 59),(.extract (.t 50) 0),none,[]⟩,
 ⟨(some 60),(.extract (.t 50) 1),none,[]⟩,
 ⟨(some 14),(.mov (.t 59)),none,[]⟩,
 ⟨(some 15),(.mov (.t 60)),none,[]⟩] none)
 (.seq (.region [⟨(some 61),(.mov (.t 14)),none,[]⟩,
 ⟨(some 62),(.mov (.t 3)),none,[]⟩,
 ⟨(some 63),(.mov (.t 15)),none,[]⟩,
 ⟨(some 2),(.mov (.t 61)),none,[]⟩,
 ⟨(some 3),(.mov (.t 62)),none,[]⟩,
 ⟨(some 4),(.mov (.t 63)),none,[]⟩] none)
 .ret))
 .skip))
 (.seq (.seq (.region [⟨(some 64),(.load none (.g 5)),none,[]⟩] none)
 (.cond (.t 64)
 (.seq (.region [⟨(some 65),(.mov (.t 10)),none,[]⟩,
 ⟨(some 66),(.call (.f 100) [(.t 65)]),none,[]⟩,
 ⟨(some 67),(.bin .shl (.t 66) (.c (.int .u64 63))),none,[]⟩,
 ⟨(some 16),(.mov (.t 67)),none,[]⟩] none)
 (.seq (.seq (.region [⟨(some 68),(.mov (.t 8)),none,[]⟩,
 ⟨(some 69),(.bin .eql (.t 68) (.c (.int .u64 0))),none,[]⟩] none)
 (.cond (.t 69)
 (.seq (.region [⟨(some 70),(.mov (.t 16)),none,[]⟩,
 ⟨(some 71),(.bin .or (.t 70) (.c (.int .u64 0))),none,[]⟩,
 ⟨(some 72),(.call (.f 101) [(.t 71)]),none,[]⟩,
 ⟨(some 73),(.mov (.t 3)),none,[]⟩,
 ⟨(some 2),(.mov (.t 72)),none,[]⟩,
 ⟨(some 3),(.mov (.t 73)),none,[]⟩,
 ⟨(some 4),(.mov (.c .nilIface)),none,[]⟩] none)
 .ret)
 .skip))
 (.seq (.seq (.region [⟨(some 74),(.mov (.t 9)),none,[]⟩,
 ⟨(some 75),(.bin .gtr (.t 74) (.c (.int .i64 310))),none,[]⟩] none)
 (.cond (.t 75)
 (.seq (.region [⟨(some 76),(.mov (.t 16)),none,[]⟩,
 ⟨(some 77),(.bin .or (.t 76) (.c (.int .u64 9218868437227405312))),none,[]⟩,
 ⟨(some 78),(.call (.f 101) [(.t 77)]),none,[]⟩,
 ⟨(some 79),(.mov (.t 3)),none,[]⟩,
 ⟨(some 80),(.makeIface 74 (.c (.int .i64 1))),none,[]⟩,
 ⟨(some 2),(.mov (.t 78)),none,[]⟩,
 ⟨(some 3),(.mov (.t 79)),none,[]⟩,
 ⟨(some 4),(.mov (.t 80)),none,[]⟩] none)
 .ret)
 .skip))
 (.seq (.seq (.region [⟨(some 81),(.mov (.t 9)),none,[]⟩,
 ⟨(some 82),(.bin .lss (.t 81) (.c (.int .i64 (-345)))),none,[]⟩] none)
 (.cond (.t 82)
 (.seq (.region [⟨(some 83),(.mov (.t 16)),none,[]⟩,
 ⟨(some 84),(.bin .or (.t 83) (.c (.int .u64 0))),none,[]⟩,
 ⟨(some 85),(.call (.f 101) [(.t 84)]),none,[]⟩,
 ⟨(some 86),(.mov (.t 3)),none,[]⟩,
 ⟨(some 2),(.mov (.t 85)),none,[]⟩,
 ⟨(some 3),(.mov (.t 86)),none,[]⟩,
 ⟨(some 4),(.mov (.c .nilIface)),none,[]⟩] none)
 .ret)
 .skip))
 (.seq (.seq (.region [⟨(some 87),(.mov (.t 11)),none,[]⟩,
 ⟨(some 88),(.un .not (.t 87)),none,[]⟩] none)
 (.cond (.t 88)
 (.seq (.region [⟨(some 90),(.mov (.t 8)),none,[]⟩,
 ⟨(some 91),(.mov (.t 9)),none,[]⟩,
 ⟨(some 92),(.mov (.t 10)),none,[]⟩,
 ⟨(some 93),(.call (.f 102) [(.t 90),(.t 91),(.t 92)]),none,[]⟩,
 ⟨(some 89),(.mov (.t 93)),none,[]⟩,
 ⟨(some 94),(.extract (.t 89) 0),none,[]⟩,
 ⟨(some 95),(.extract (.t 89) 1),none,[]⟩,
 ⟨(some 17),(.mov (.t 94)),none,[]⟩,
 ⟨(some 18),(.mov (.t 95)),none,[]⟩] none)
 (.seq (.region [⟨(some 96),(.mov (.t 18)),none,[]⟩] none)
 (.cond (.t 96)
 (.seq (.region [⟨(some 97),(.mov (.t 17)),none,[]⟩,
 ⟨(some 98),(.mov (.t 3)),none,[]⟩,
 ⟨(some 2),(.mov (.t 97)),none,[]⟩,
 ⟨(some 3),(.mov (.t 98)),none,[]⟩,
 ⟨(some 4),(.mov (.c .nilIface)),none,[]⟩] none)
 .ret)
 .skip)))
 .skip))
 (.seq (.region [⟨(some 100),(.mov (.t 8)),none,[]⟩,
 ⟨(some 101),(.mov (.t 9)),none,[]⟩,
 ⟨(some 102),(.mov (.t 16)),none,[]⟩,
 ⟨(some 103),(.call (.f 103) [(.t 100),(.t 101),(.t 102)]),none,[]⟩,
 ⟨(some 99),(.mov (.t 103)),none,[]⟩,
 ⟨(some 104),(.extract (.t 99) 0),none,[]⟩,
 ⟨(some 105),(.extract (.t 99) 1),none,[]⟩,
 ⟨(some 19),(.mov (.t 104)),none,[]⟩,
 ⟨(some 20),(.mov (.t 105)),none,[]⟩] none)
 (.seq (.seq (.region [⟨(some 106),(.mov (.t 11)),none,[]⟩,
 ⟨(some 107),(.un .not (.t 106)),none,[]⟩] none)
 (.cond (.t 107)
 (.seq (.region [⟨(some 108),(.mov (.t 19)),none,[]⟩,
 ⟨(some 109),(.mov (.t 3)),none,[]⟩,
 ⟨(some 110),(.mov (.t 20)),none,[]⟩,
 ⟨(some 2),(.mov (.t 108)),none,[]⟩,
 ⟨(some 3),(.mov (.t 109)),none,[]⟩,
 ⟨(some 4),(.mov (.t 110)),none,[]⟩] none)
 .ret)
 .skip))
 (.seq (.region [⟨(some 112),(.mov (.t 8)),none,[]⟩,
 ⟨(some 113),(.bin .add (.t 112) (.c (.int .u64 1))),none,[]⟩,
 ⟨(some 114),(.mov (.t 9)),none,[]⟩,
 ⟨(some 115),(.mov (.t 16)),none,[]⟩,
 ⟨(some 116),(.call (.f 103) [(.t 113),(.t 114),(.t 115)]),none,[]⟩,
 ⟨(some 111),(.mov (.t 116)),none,[]⟩,
 ⟨(some 117),(.extract (.t 111) 0),none,[]⟩,
 ⟨(some 118),(.extract (.t 111) 1),none,[]⟩,
 ⟨(some 21),(.mov (.t 117)),none,[]⟩,
 ⟨(some 22),(.mov (.t 118)),none,[]⟩] none)
 (.seq (.region [⟨(some 119),(.mov (.t 19)),none,[]⟩,
 ⟨(some 120),(.mov (.t 21)),none,[]⟩,
 ⟨(some 121),(.bin .eql (.t 119) (.t 120)),none,[]⟩] none)
 (.cond (.t 121)
 (.seq (.region [⟨(some 122),(.mov (.t 19)),none,[]⟩,
 ⟨(some 123),(.mov (.t 3)),none,[]⟩,
 ⟨(some 124),(.mov (.t 20)),none,[]⟩,
 ⟨(some 2),(.mov (.t 122)),none,[]⟩,
 ⟨(some 3),(.mov (.t 123)),none,[]⟩,
 ⟨(some 4),(.mov (.t 124)),none,[]⟩] none)
 .ret)
 .skip))))))))))
 .skip))
 (.seq (.region [⟨(some 23),(.alloc 114 (List.replicate 800 (.int .u8 0) ++ [(.int .i64 0),(.int .i64 0),(.bool false),(.bool false)])),none,[]⟩] none)
 (.seq (.seq (.region [⟨(some 125),(.mov (.t 0)),none,[]⟩,
 ⟨(some 126),(.mov (.t 3)),none,[]⟩,
 ⟨(some 127),(.sliceStr (.t 125) none (some (.t 126))),none,[]⟩,
 ⟨(some 128),(.call (.f 98) [(.t 23),(.t 127)]),none,[]⟩,
 ⟨(some 129),(.un .not (.t 128)),none,[]⟩] none)
 (.cond (.t 129)
 (.seq (.region [⟨(some 130),(.mov (.t 3)),none,[]⟩,
 ⟨(some 131),(.makeIface 74 (.c (.int .i64 2))),none,[]⟩,
 ⟨(some 2),(.mov (.c (.float .f64 0))),none,[]⟩,
 ⟨(some 3),(.mov (.t 130)),none,[]⟩,
 ⟨(some 4),(.mov (.t 131)),none,[]⟩] none)
 .ret)
 .skip))
 (.seq (.region [⟨(some 133),(.call (.f 99) [(.t 23),(.g 7)]),none,[]⟩,
 ⟨(some 132),(.mov (.t 133)),none,[]⟩,
 ⟨(some 134),(.extract (.t 132) 0),none,[]⟩,
 ⟨(some 135),(.extract (.t 132) 1),none,[]⟩,
 ⟨(some 24),(.mov (.t 134)),none,[]⟩,
 ⟨(some 25),(.mov (.t 135)),none,[]⟩] none)
 (.seq (.region [⟨(some 136),(.mov (.t 24)),none,[]⟩,
 ⟨(some 137),(.call (.f 101) [(.t 136)]),none,[]⟩,
 ⟨(some 2),(.mov (.t 137)),none,[]⟩] none)
 (.seq (.seq (.region [⟨(some 138),(.mov (.t 25)),none,[]⟩] none)
 (.cond (.t 138)
 (.region [⟨(some 139),(.makeIface 74 (.c (.int .i64 1))),none,[]⟩,
 ⟨(some 4),(.mov (.t 139)),none,[]⟩] none)
 .skip))
 (.seq (.region [⟨(some 140),(.mov (.t 2)),none,[]⟩,
 ⟨(some 141),(.mov (.t 3)),none,[]⟩,
 ⟨(some 142),(.mov (.t 4)),none,[]⟩,
 ⟨(some 2),(.mov (.t 140)),none,[]⟩,
 ⟨(some 3),(.mov (.t 141)),none,[]⟩,
 ⟨(some 4),(.mov (.t 142)),none,[]⟩] none)
 .ret))))))))))))
def F67 : AFunc := ⟨1,143,[(.tmp 2),(.tmp 3),(.tmp 4)],B67⟩
def B68 : ACode := (.seq (.region [⟨(some 2),(.mov (.c (.string ⟨#[]⟩))),none,[]⟩] none)
 (.seq (.seq (.region [⟨(some 4),(.mov (.t 0)),none,[]⟩,
 ⟨(some 5),(.lenStr (.t 4)),none,[]⟩,
 ⟨(some 6),(.bin .eql (.t 5) (.c (.int .i64 0))),none,[]⟩] none)
 (.cond (.t 6)
 (.seq (.region [⟨(some 2),(.mov (.c (.string ⟨#[]⟩))),none,[]⟩] none)
 .ret)
 .skip))
 (.seq (.region [⟨(some 7),(.mov (.t 0)),none,[]⟩,
 ⟨(some 8),(.lenStr (.t 7)),none,[]⟩,
 ⟨(some 9),(.makeSlice 5 1 1 [(.int .u8 0)] (.t 8) (.t 8)),none,[]⟩,
 ⟨(some 3),(.mov (.t 9)),none,[]⟩] none)
 (.seq (.region [⟨(some 10),(.mov (.t 3)),none,[]⟩,
 ⟨(some 11),(.mov (.t 0)),none,[]⟩,
 ⟨(some 12),(.copy 1 (.t 10) (.t 11)),none,[]⟩] none)
 (.seq (.region [⟨(some 13),(.mov (.t 3)),none,[]⟩,
 ⟨(some 14),(.indexAddr 1 (.t 13) (.c (.int .i64 0))),none,[]⟩,
 ⟨(some 15),(.mov (.t 3)),none,[]⟩,
 ⟨(some 16),(.lenSlice (.t 15)),none,[]⟩,
 ⟨(some 17),(.unsafeString 5 (.t 14) (.t 16)),none,[]⟩,
 ⟨(some 2),(.mov (.t 17)),none,[]⟩] none)
 .ret)))))
def F68 : AFunc := ⟨1,18,[(.tmp 2)],B68⟩
def F75L0 : ACode := (.seq (.region [⟨(some 115),(.bin .lss (.t 114) (.t 113)),none,[]⟩] none)
 (.seq (.cond (.t 115)
 .skip
 (.exit 1))
 (.seq (.block 2 (.region [⟨(some 116),(.mov (.t 0)),none,[]⟩,
 ⟨(some 117),(.buildSlice 5 1 1 [(.int .u8 0)] [(0,1,(.c (.int .u8 48)))]),none,[]⟩,
 ⟨(some 118),(.append 5 1 1 (.t 116) (.t 117)),none,[]⟩,
 ⟨(some 0),(.mov (.t 118)),none,[]⟩] none))
 (.region [⟨(some 119),(.bin .add (.t 114) (.c (.int .i64 1))),none,[]⟩,
 ⟨(some 114),(.mov (.t 119)),none,[]⟩] none))))
def F75L1 : ACode := (.seq (.region [⟨(some 192),(.bin .lss (.t 191) (.t 190)),none,[]⟩] none)
 (.seq (.cond (.t 192)
 .skip
 (.exit 4))
 (.seq (.block 5 (.seq (.region [⟨(some 193),(.indexAddr 1 (.t 189) (.t 191)),none,[]⟩,
 ⟨(some 194),(.load none (.t 193)),none,[]⟩,
 ⟨(some 25),(.mov (.t 194)),none,[]⟩] none)
 (.region [⟨(some 195),(.mov (.t 0)),none,[]⟩,
 ⟨(some 196),(.mov (.t 25)),none,[]⟩,
 ⟨(some 197),(.buildSlice 5 1 1 [(.int .u8 0)] [(0,1,(.t 196))]),none,[]⟩,
 ⟨(some 198),(.append 5 1 1 (.t 195) (.t 197)),none,[]⟩,
 ⟨(some 0),(.mov (.t 198)),none,[]⟩] none)))
 (.region [⟨(some 199),(.bin .add (.t 191) (.c (.int .i64 1))),none,[]⟩,
 ⟨(some 191),(.mov (.t 199)),none,[]⟩] none))))
def F75L2 : ACode := (.seq (.region [⟨(some 204),(.bin .lss (.t 203) (.t 202)),none,[]⟩] none)
 (.seq (.cond (.t 204)
 .skip
 (.exit 6))
 (.seq (.block 7 (.region [⟨(some 205),(.mov (.t 0)),none,[]⟩,
 ⟨(some 206),(.buildSlice 5 1 1 [(.int .u8 0)] [(0,1,(.c (.int .u8 48)))]),none,[]⟩,
 ⟨(some 207),(.append 5 1 1 (.t 205) (.t 206)),none,[]⟩,
 ⟨(some 0),(.mov (.t 207)),none,[]⟩] none))
 (.region [⟨(some 208),(.bin .add (.t 203) (.c (.int .i64 1))),none,[]⟩,
 ⟨(some 203),(.mov (.t 208)),none,[]⟩] none))))
def F75L3 : ACode := (.seq (.region [⟨(some 241),(.bin .lss (.t 240) (.t 239)),none,[]⟩] none)
 (.seq (.cond (.t 241)
 .skip
 (.exit 8))
 (.seq (.block 9 (.region [⟨(some 242),(.mov (.t 0)),none,[]⟩,
 ⟨(some 243),(.buildSlice 5 1 1 [(.int .u8 0)] [(0,1,(.c (.int .u8 48)))]),none,[]⟩,
 ⟨(some 244),(.append 5 1 1 (.t 242) (.t 243)),none,[]⟩,
 ⟨(some 0),(.mov (.t 244)),none,[]⟩] none))
 (.region [⟨(some 245),(.bin .add (.t 240) (.c (.int .i64 1))),none,[]⟩,
 ⟨(some 240),(.mov (.t 245)),none,[]⟩] none))))
def F75L4 : ACode := (.seq (.region [⟨(some 248),(.bin .lss (.t 247) (.t 246)),none,[]⟩] none)
 (.seq (.cond (.t 248)
 .skip
 (.exit 10))
 (.seq (.block 11 (.seq (.region [⟨(some 249),(.mov (.t 247)),none,[]⟩,
 ⟨(some 30),(.mov (.t 249)),none,[]⟩] none)
 (.region [⟨(some 250),(.mov (.t 0)),none,[]⟩,
 ⟨(some 251),(.mov (.t 2)),none,[]⟩,
 ⟨(some 252),(.mov (.t 27)),none,[]⟩,
 ⟨(some 253),(.mov (.t 30)),none,[]⟩,
 ⟨(some 254),(.bin .add (.t 252) (.t 253)),none,[]⟩,
 ⟨(some 255),(.indexAddr 1 (.t 251) (.t 254)),none,[]⟩,
 ⟨(some 256),(.load none (.t 255)),none,[]⟩,
 ⟨(some 257),(.buildSlice 5 1 1 [(.int .u8 0)] [(0,1,(.t 256))]),none,[]⟩,
 ⟨(some 258),(.append 5 1 1 (.t 250) (.t 257)),none,[]⟩,
 ⟨(some 0),(.mov (.t 258)),none,[]⟩] none)))
 (.region [⟨(some 259),(.bin .add (.t 247) (.c (.int .i64 1))),none,[]⟩,
 ⟨(some 247),(.mov (.t 259)),none,[]⟩] none))))
def F75L5 : ACode := (.seq (.region [⟨(some 262),(.bin .lss (.t 261) (.t 260)),none,[]⟩] none)
 (.seq (.cond (.t 262)
 .skip
 (.exit 12))
 (.seq (.block 13 (.region [⟨(some 263),(.mov (.t 0)),none,[]⟩,
 ⟨(some 264),(.buildSlice 5 1 1 [(.int .u8 0)] [(0,1,(.c (.int .u8 48)))]),none,[]⟩,
 ⟨(some 265),(.append 5 1 1 (.t 263) (.t 264)),none,[]⟩,
 ⟨(some 0),(.mov (.t 265)),none,[]⟩] none))
 (.region [⟨(some 266),(.bin .add (.t 261) (.c (.int .i64 1))),none,[]⟩,
 ⟨(some 261),(.mov (.t 266)),none,[]⟩] none))))
def B75 : ACode := (.seq (.region [⟨(some 16),(.mov (.c (.slice none 0 0))),none,[]⟩] none)
 (.seq (.seq (.region [⟨(some 31),(.mov (.t 6)),none,[]⟩,
 ⟨(some 32),(.bin .eql (.t 31) (.c (.int .u8 103))),none,[]⟩,
 ⟨(some 33),(.mov (.t 32)),none,[]⟩,
 ⟨(some 34),(.mov (.t 6)),(some (33,false)),[]⟩,
 ⟨(some 35),(.bin .eql (.t 34) (.c (.int .u8 71))),(some (33,false)),[]⟩,
 ⟨(some 36),(.pick (.t 33) (.c (.bool true)) (.t 35)),none,[]⟩] none)
 (.cond (.t 36)
 (.seq (.region [⟨(some 37),(.mov (.t 5)),none,[]⟩,
 ⟨(some 17),(.mov (.t 37)),none,[]⟩] none)
 (.seq (.seq (.region [⟨(some 38),(.mov (.t 17)),none,[]⟩,
 ⟨(some 39),(.mov (.t 4)),none,[]⟩,
 ⟨(some 40),(.bin .gtr (.t 38) (.t 39)),none,[]⟩,
 ⟨(some 41),(.mov (.t 40)),none,[]⟩,
 ⟨(some 42),(.mov (.t 4)),(some (41,true)),[]⟩,
 ⟨(some 43),(.mov (.t 3)),(some (41,true)),[]⟩,
 ⟨(some 44),(.bin .geq (.t 42) (.t 43)),(some (41,true)),[]⟩,
 ⟨(some 45),(.pick (.t 41) (.t 44) (.c (.bool false))),none,[]⟩] none)
 (.cond (.t 45)
 (.region [⟨(some 46),(.mov (.t 4)),none,[]⟩,
 ⟨(some 17),(.mov (.t 46)),none,[]⟩] none)
 .skip))
 (.seq (.seq (.region [⟨(some 47),(.mov (.t 7)),none,[]⟩] none)
 (.cond (.t 47)
 (.region [⟨(some 17),(.mov (.c (.int .i64 6))),none,[]⟩] none)
 .skip))
 (.seq (.region [⟨(some 48),(.mov (.t 3)),none,[]⟩,
 ⟨(some 49),(.bin .sub (.t 48) (.c (.int .i64 1))),none,[]⟩,
 ⟨(some 18),(.mov (.t 49)),none,[]⟩] none)
 (.seq (.region [⟨(some 50),(.mov (.t 18)),none,[]⟩,
 ⟨(some 51),(.bin .lss (.t 50) (.c (.int .i64 (-4)))),none,[]⟩,
 ⟨(some 52),(.mov (.t 51)),none,[]⟩,
 ⟨(some 53),(.mov (.t 18)),(some (52,false)),[]⟩,
 ⟨(some 54),(.mov (.t 17)),(some (52,false)),[]⟩,
 ⟨(some 55),(.bin .geq (.t 53) (.t 54)),(some (52,false)),[]⟩,
 ⟨(some 56),(.pick (.t 52) (.c (.bool true)) (.t 55)),none,[]⟩] none)
 (.cond (.t 56)
 (.seq (.seq (.region [⟨(some 57),(.mov (.t 5)),none,[]⟩,
 ⟨(some 58),(.mov (.t 4)),none,[]⟩,
 ⟨(some 59),(.bin .gtr (.t 57) (.t 58)),none,[]⟩] none)
 (.cond (.t 59)
 (.region [⟨(some 60),(.mov (.t 4)),none,[]⟩,
 ⟨(some 5),(.mov (.t 60)),none,[]⟩] none)
 .skip))
 (.seq (.region [⟨(some 61),(.mov (.t 5)),none,[]⟩,
 ⟨(some 62),(.bin .sub (.t 61) (.c (.int .i64 1))),none,[]⟩,
 ⟨(some 5),(.mov (.t 62)),none,[]⟩] none)
 (.region [⟨(some 63),(.mov (.t 6)),none,[]⟩,
 ⟨(some 64),(.bin .add (.t 63) (.c (.int .u8 101))),none,[]⟩,
 ⟨(some 65),(.bin .sub (.t 64) (.c (.int .u8 103))),none,[]⟩,
 ⟨(some 6),(.mov (.t 65)),none,[]⟩] none)))
 (.seq (.seq (.region [⟨(some 66),(.mov (.t 5)),none,[]⟩,
 ⟨(some 67),(.mov (.t 3)),none,[]⟩,
 ⟨(some 68),(.bin .gtr (.t 66) (.t 67)),none,[]⟩] none)
 (.cond (.t 68)
 (.region [⟨(some 69),(.mov (.t 4)),none,[]⟩,
 ⟨(some 5),(.mov (.t 69)),none,[]⟩] none)
 .skip))
 (.seq (.region [⟨(some 70),(.mov (.t 5)),none,[]⟩,
 ⟨(some 71),(.mov (.t 3)),none,[]⟩,
 ⟨(some 72),(.bin .sub (.t 70) (.t 71)),none,[]⟩,
 ⟨(some 73),(.max [(.t 72),(.c (.int .i64 0))]),none,[]⟩,
 ⟨(some 5),(.mov (.t 73)),none,[]⟩] none)
 (.region [⟨(some 6),(.mov (.c (.int .u8 102))),none,[]⟩] none)))))))))
 .skip))
 (.seq (.seq (.region [⟨(some 74),(.mov (.t 6)),none,[]⟩] none)
 (.block 0 (.seq (.seq (.region [⟨(some 76),(.bin .eql (.t 74) (.c (.int .u8 101))),none,[]⟩,
 ⟨(some 75),(.mov (.t 76)),none,[]⟩] none)
 (.cond (.t 75)
 .skip
 (.region [⟨(some 77),(.bin .eql (.t 74) (.c (.int .u8 69))),none,[]⟩,
 ⟨(some 75),(.mov (.t 77)),none,[]⟩] none)))
 (.cond (.t 75)
 (.seq (.seq (.region [⟨(some 78),(.mov (.t 1)),none,[]⟩] none)
 (.cond (.t 78)
 (.region [⟨(some 79),(.mov (.t 0)),none,[]⟩,
 ⟨(some 80),(.buildSlice 5 1 1 [(.int .u8 0)] [(0,1,(.c (.int .u8 45)))]),none,[]⟩,
 ⟨(some 81),(.append 5 1 1 (.t 79) (.t 80)),none,[]⟩,
 ⟨(some 0),(.mov (.t 81)),none,[]⟩] none)
 .skip))
 (.seq (.region [⟨(some 19),(.mov (.c (.int .u8 48))),none,[]⟩] none)
 (.seq (.seq (.region [⟨(some 82),(.mov (.t 4)),none,[]⟩,
 ⟨(some 83),(.bin .neq (.t 82) (.c (.int .i64 0))),none,[]⟩] none)
 (.cond (.t 83)
 (.region [⟨(some 84),(.mov (.t 2)),none,[]⟩,
 ⟨(some 85),(.indexAddr 1 (.t 84) (.c (.int .i64 0))),none,[]⟩,
 ⟨(some 86),(.load none (.t 85)),none,[]⟩,
 ⟨(some 19),(.mov (.t 86)),none,[]⟩] none)
 .skip))
 (.seq (.region [⟨(some 87),(.mov (.t 0)),none,[]⟩,
 ⟨(some 88),(.mov (.t 19)),none,[]⟩,
 ⟨(some 89),(.buildSlice 5 1 1 [(.int .u8 0)] [(0,1,(.t 88))]),none,[]⟩,
 ⟨(some 90),(.append 5 1 1 (.t 87) (.t 89)),none,[]⟩,
 ⟨(some 0),(.mov (.t 90)),none,[]⟩] none)
 (.seq (.seq (.region [⟨(some 91),(.mov (.t 5)),none,[]⟩,
 ⟨(some 92),(.bin .gtr (.t 91) (.c (.int .i64 0))),none,[]⟩] none)
 (.cond (.t 92)
 (.seq (.region [⟨(some 93),(.mov (.t 0)),none,[]⟩,
 ⟨(some 94),(.buildSlice 5 1 1 [(.int .u8 0)] [(0,1,(.c (.int .u8 46)))]),none,[]⟩,
 ⟨(some 95),(.append 5 1 1 (.t 93) (.t 94)),none,[]⟩,
 ⟨(some 0),(.mov (.t 95)),none,[]⟩] none)
 (.seq (.region [⟨(some 20),(.mov (.c (.int .i64 1))),none,[]⟩] none)
 (.seq (.region [⟨(some 96),(.mov (.t 4)),none,[]⟩,
 ⟨(some 97),(.mov (.t 5)),none,[]⟩,
 ⟨(some 98),(.bin .add (.t 97) (.c (.int .i64 1))),none,[]⟩,
 ⟨(some 99),(.min [(.t 96),(.t 98)]),none,[]⟩,
 ⟨(some 21),(.mov (.t 99)),none,[]⟩] none)
 (.seq (.seq (.region [⟨(some 100),(.mov (.t 20)),none,[]⟩,
 ⟨(some 101),(.mov (.t 21)),none,[]⟩,
 ⟨(some 102),(.bin .lss (.t 100) (.t 101)),none,[]⟩] none)
 (.cond (.t 102)
 (.seq (.region [⟨(some 103),(.mov (.t 0)),none,[]⟩,
 ⟨(some 104),(.mov (.t 2)),none,[]⟩,
 ⟨(some 105),(.mov (.t 20)),none,[]⟩,
 ⟨(some 106),(.mov (.t 21)),none,[]⟩,
 ⟨(some 107),(.slice 1 (.t 104) (some (.t 105)) (some (.t 106)) none),none,[]⟩,
 ⟨(some 108),(.append 5 1 1 (.t 103) (.t 107)),none,[]⟩,
 ⟨(some 0),(.mov (.t 108)),none,[]⟩] none)
 (.region [⟨(some 109),(.mov (.t 21)),none,[]⟩,
 ⟨(some 20),(.mov (.t 109)),none,[]⟩] none))
 .skip))
 (.seq (.region [⟨(some 110),(.mov (.t 5)),none,[]⟩,
 ⟨(some 111),(.bin .add (.t 110) (.c (.int .i64 1))),none,[]⟩,
 ⟨(some 112),(.mov (.t 20)),none,[]⟩,
 ⟨(some 113),(.bin .sub (.t 111) (.t 112)),none,[]⟩,
 ⟨(some 114),(.mov (.c (.int .i64 0))),none,[]⟩] none)
 (.block 1 (.loop F75L0)))))))
 .skip))
 (.seq (.region [⟨(some 120),(.mov (.t 0)),none,[]⟩,
 ⟨(some 121),(.mov (.t 6)),none,[]⟩,
 ⟨(some 122),(.buildSlice 5 1 1 [(.int .u8 0)] [(0,1,(.t 121))]),none,[]⟩,
 ⟨(some 123),(.append 5 1 1 (.t 120) (.t 122)),none,[]⟩,
 ⟨(some 0),(.mov (.t 123)),none,[]⟩] none)
 (.seq (.region [⟨(some 124),(.mov (.t 3)),none,[]⟩,
 ⟨(some 125),(.bin .sub (.t 124) (.c (.int .i64 1))),none,[]⟩,
 ⟨(some 22),(.mov (.t 125)),none,[]⟩] none)
 (.seq (.seq (.region [⟨(some 126),(.mov (.t 4)),none,[]⟩,
 ⟨(some 127),(.bin .eql (.t 126) (.c (.int .i64 0))),none,[]⟩] none)
 (.cond (.t 127)
 (.region [⟨(some 22),(.mov (.c (.int .i64 0))),none,[]⟩] none)
 .skip))
 (.seq (.seq (.region [⟨(some 128),(.mov (.t 22)),none,[]⟩,
 ⟨(some 129),(.bin .lss (.t 128) (.c (.int .i64 0))),none,[]⟩] none)
 (.cond (.t 129)
 (.seq (.region [⟨(some 19),(.mov (.c (.int .u8 45))),none,[]⟩] none)
 (.region [⟨(some 130),(.mov (.t 22)),none,[]⟩,
 ⟨(some 131),(.un .neg (.t 130)),none,[]⟩,
 ⟨(some 22),(.mov (.t 131)),none,[]⟩] none))
 (.region [⟨(some 19),(.mov (.c (.int .u8 43))),none,[]⟩] none)))
 (.seq (.region [⟨(some 132),(.mov (.t 0)),none,[]⟩,
 ⟨(some 133),(.mov (.t 19)),none,[]⟩,
 ⟨(some 134),(.buildSlice 5 1 1 [(.int .u8 0)] [(0,1,(.t 133))]),none,[]⟩,
 ⟨(some 135),(.append 5 1 1 (.t 132) (.t 134)),none,[]⟩,
 ⟨(some 0),(.mov (.t 135)),none,[]⟩] none)
 (.seq (.block 3 (.seq (.region [⟨(some 153),(.mov (.t 22)),none,[]⟩,
 ⟨(some 154),(.bin .lss (.t 153) (.c (.int .i64 10))),none,[]⟩,
 ⟨(some 152),(.mov (.t 154)),none,[]⟩] none)
 (.cond (.t 152)
 (.region [⟨(some 155),(.mov (.t 0)),none,[]⟩,
 ⟨(some 156),(.mov (.t 22)),none,[]⟩,
 ⟨(some 157),(.conv .u8 (.t 156)),none,[]⟩,
 ⟨(some 158),(.bin .add (.t 157) (.c (.int .u8 48))),none,[]⟩,
 ⟨(some 159),(.buildSlice 5 1 2 [(.int .u8 0)] [(0,1,(.c (.int .u8 48))),(1,1,(.t 158))]),none,[]⟩,
 ⟨(some 160),(.append 5 1 1 (.t 155) (.t 159)),none,[]⟩,
 ⟨(some 0),(.mov (.t 160)),none,[]⟩] none)
 (.seq (.region [⟨(some 162),(.mov (.t 22)),none,[]⟩,
 ⟨(some 163),(.bin .lss (.t 162) (.c (.int .i64 100))),none,[]⟩,
 ⟨(some 161),(.mov (.t 163)),none,[]⟩] none)
 (.cond (.t 161)
 (.region [⟨(some 164),(.mov (.t 0)),none,[]⟩,
 ⟨(some 165),(.mov (.t 22)),none,[]⟩,
 ⟨(some 166),(.bin .quo (.t 165) (.c (.int .i64 10))),none,[]⟩,
 ⟨(some 167),(.conv .u8 (.t 166)),none,[]⟩,
 ⟨(some 168),(.bin .add (.t 167) (.c (.int .u8 48))),none,[]⟩,
 ⟨(some 169),(.mov (.t 22)),none,[]⟩,
 ⟨(some 170),(.bin .rem (.t 169) (.c (.int .i64 10))),none,[]⟩,
 ⟨(some 171),(.conv .u8 (.t 170)),none,[]⟩,
 ⟨(some 172),(.bin .add (.t 171) (.c (.int .u8 48))),none,[]⟩,
 ⟨(some 173),(.buildSlice 5 1 2 [(.int .u8 0)] [(0,1,(.t 168)),(1,1,(.t 172))]),none,[]⟩,
 ⟨(some 174),(.append 5 1 1 (.t 164) (.t 173)),none,[]⟩,
 ⟨(some 0),(.mov (.t 174)),none,[]⟩] none)
 (.region [⟨(some 136),(.mov (.t 0)),none,[]⟩,
 ⟨(some 137),(.mov (.t 22)),none,[]⟩,
 ⟨(some 138),(.bin .quo (.t 137) (.c (.int .i64 100))),none,[]⟩,
 ⟨(some 139),(.conv .u8 (.t 138)),none,[]⟩,
 ⟨(some 140),(.bin .add (.t 139) (.c (.int .u8 48))),none,[]⟩,
 ⟨(some 141),(.mov (.t 22)),none,[]⟩,
 ⟨(some 142),(.bin .quo (.t 141) (.c (.int .i64 10))),none,[]⟩,
 ⟨(some 143),(.conv .u8 (.t 142)),none,[]⟩,
 ⟨(some 144),(.bin .rem (.t 143) (.c (.int .u8 10))),none,[]⟩,
 ⟨(some 145),(.bin .add (.t 144) (.c (.int .u8 48))),none,[]⟩,
 ⟨(some 146),(.mov (.t 22)),none,[]⟩,
 ⟨(some 147),(.bin .rem (.t 146) (.c (.int .i64 10))),none,[]⟩,
 ⟨(some 148),(.conv .u8 (.t 147)),none,[]⟩,
 ⟨(some 149),(.bin .add (.t 148) (.c (.int .u8 48))),none,[]⟩,
 ⟨(some 150),(.buildSlice 5 1 3 [(.int .u8 0)] [(0,1,(.t 140)),(1,1,(.t 145)),(2,1,(.t 149))]),none,[]⟩,
 ⟨(some 151),(.append 5 1 1 (.t 136) (.t 150)),none,[]⟩,
 ⟨(some 0),(.mov (.t 151)),none,[]⟩] none))))))
 (.seq (.region [⟨(some 175),(.mov (.t 0)),none,[]⟩,
 ⟨(some 16),(.mov (.t 175)),none,[]⟩] none)
 .ret))))))))))))
 (.seq (.region [⟨(some 177),(.bin .eql (.t 74) (.c (.int .u8 102))),none,[]⟩,
 ⟨(some 176),(.mov (.t 177)),none,[]⟩] none)
 (.cond (.t 176)
 (.seq (.seq (.region [⟨(some 178),(.mov (.t 1)),none,[]⟩] none)
 (.cond (.t 178)
 (.region [⟨(some 179),(.mov (.t 0)),none,[]⟩,
 ⟨(some 180),(.buildSlice 5 1 1 [(.int .u8 0)] [(0,1,(.c (.int .u8 45)))]),none,[]⟩,
 ⟨(some 181),(.append 5 1 1 (.t 179) (.t 180)),none,[]⟩,
 ⟨(some 0),(.mov (.t 181)),none,[]⟩] none)
 .skip))
 (.seq (.seq (.region [⟨(some 182),(.mov (.t 3)),none,[]⟩,
 ⟨(some 183),(.bin .gtr (.t 182) (.c (.int .i64 0))),none,[]⟩] none)
 (.cond (.t 183)
 (.seq (.region [⟨(some 184),(.mov (.t 4)),none,[]⟩,
 ⟨(some 185),(.mov (.t 3)),none,[]⟩,
 ⟨(some 186),(.min [(.t 184),(.t 185)]),none,[]⟩,
 ⟨(some 23),(.mov (.t 186)),none,[]⟩] none)
 (.seq (.seq (.region [⟨(some 187),(.mov (.t 2)),none,[]⟩,
 ⟨(some 188),(.mov (.t 23)),none,[]⟩,
 ⟨(some 189),(.slice 1 (.t 187) none (some (.t 188)) none),none,[]⟩,
 ⟨(some 190),(.lenSlice (.t 189)),none,[]⟩,
 ⟨(some 191),(.mov (.c (.int .i64 0))),none,[]⟩] none)
 (.block 4 (.loop F75L1)))
 (.seq (.region [⟨(some 200),(.mov (.t 3)),none,[]⟩,
 ⟨(some 201),(.mov (.t 23)),none,[]⟩,
 ⟨(some 202),(.bin .sub (.t 200) (.t 201)),none,[]⟩,
 ⟨(some 203),(.mov (.c (.int .i64 0))),none,[]⟩] none)
 (.block 6 (.loop F75L2)))))
 (.region [⟨(some 209),(.mov (.t 0)),none,[]⟩,
 ⟨(some 210),(.buildSlice 5 1 1 [(.int .u8 0)] [(0,1,(.c (.int .u8 48)))]),none,[]⟩,
 ⟨(some 211),(.append 5 1 1 (.t 209) (.t 210)),none,[]⟩,
 ⟨(some 0),(.mov (.t 211)),none,[]⟩] none)))
 (.seq (.seq (.region [⟨(some 212),(.mov (.t 5)),none,[]⟩,
 ⟨(some 213),(.bin .gtr (.t 212) (.c (.int .i64 0))),none,[]⟩] none)
 (.cond (.t 213)
 (.seq (.region [⟨(some 214),(.mov (.t 0)),none,[]⟩,
 ⟨(some 215),(.buildSlice 5 1 1 [(.int .u8 0)] [(0,1,(.c (.int .u8 46)))]),none,[]⟩,
 ⟨(some 216),(.append 5 1 1 (.t 214) (.t 215)),none,[]⟩,
 ⟨(some 0),(.mov (.t 216)),none,[]⟩] none)
 (.seq (.region [⟨(some 217),(.mov (.t 5)),none,[]⟩,
 ⟨(some 218),(.mov (.t 3)),none,[]⟩,
 ⟨(some 219),(.un .neg (.t 218)),none,[]⟩,
 ⟨(some 220),(.max [(.c (.int .i64 0)),(.t 219)]),none,[]⟩,
 ⟨(some 221),(.min [(.t 217),(.t 220)]),none,[]⟩,
 ⟨(some 26),(.mov (.t 221)),none,[]⟩] none)
 (.seq (.region [⟨(some 222),(.mov (.t 3)),none,[]⟩,
 ⟨(some 223),(.mov (.t 26)),none,[]⟩,
 ⟨(some 224),(.bin .add (.t 222) (.t 223)),none,[]⟩,
 ⟨(some 27),(.mov (.t 224)),none,[]⟩] none)
 (.seq (.region [⟨(some 225),(.mov (.t 5)),none,[]⟩,
 ⟨(some 226),(.mov (.t 26)),none,[]⟩,
 ⟨(some 227),(.bin .sub (.t 225) (.t 226)),none,[]⟩,
 ⟨(some 228),(.mov (.t 4)),none,[]⟩,
 ⟨(some 229),(.mov (.t 27)),none,[]⟩,
 ⟨(some 230),(.bin .sub (.t 228) (.t 229)),none,[]⟩,
 ⟨(some 231),(.max [(.c (.int .i64 0)),(.t 230)]),none,[]⟩,
 ⟨(some 232),(.min [(.t 227),(.t 231)]),none,[]⟩,
 ⟨(some 28),(.mov (.t 232)),none,[]⟩] none)
 (.seq (.region [⟨(some 233),(.mov (.t 5)),none,[]⟩,
 ⟨(some 234),(.mov (.t 26)),none,[]⟩,
 ⟨(some 235),(.bin .sub (.t 233) (.t 234)),none,[]⟩,
 ⟨(some 236),(.mov (.t 28)),none,[]⟩,
 ⟨(some 237),(.bin .sub (.t 235) (.t 236)),none,[]⟩,
 ⟨(some 238),(.max [(.c (.int .i64 0)),(.t 237)]),none,[]⟩,
 ⟨(some 29),(.mov (.t 238)),none,[]⟩] none)
 (.seq (.seq (.region [⟨(some 239),(.mov (.t 26)),none,[]⟩,
 ⟨(some 240),(.mov (.c (.int .i64 0))),none,[]⟩] none)
 (.block 8 (.loop F75L3)))
 (.seq (.seq (.region [⟨(some 246),(.mov (.t 28)),none,[]⟩,
 ⟨(some 247),(.mov (.c (.int .i64 0))),none,[]⟩] none)
 (.block 10 (.loop F75L4)))
 (.seq (.region [⟨(some 260),(.mov (.t 29)),none,[]⟩,
 ⟨(some 261),(.mov (.c (.int .i64 0))),none,[]⟩] none)
 (.block 12 (.loop F75L5))))))))))
 .skip))
 (.seq (.region [⟨(some 267),(.mov (.t 0)),none,[]⟩,
 ⟨(some 16),(.mov (.t 267)),none,[]⟩] none)
 .ret))))
 .skip))))))
 (.seq (.region [⟨(some 268),(.mov (.t 0)),none,[]⟩,
 ⟨(some 269),(.mov (.t 6)),none,[]⟩,
 ⟨(some 270),(.buildSlice 5 1 2 [(.int .u8 0)] [(0,1,(.c (.int .u8 37))),(1,1,(.t 269))]),none,[]⟩,
 ⟨(some 271),(.append 5 1 1 (.t 268) (.t 270)),none,[]⟩,
 ⟨(some 16),(.mov (.t 271)),none,[]⟩] none)
 .ret))))
def F75 : AFunc := ⟨8,272,[(.tmp 16)],B75⟩





def B76 : ACode := (.seq (.region [⟨(some 2),(.mov (.c (.int .i64 0))),none,[]⟩] none)
 (.seq (.seq (.region [⟨(some 3),(.mov (.t 0)),none,[]⟩,
 ⟨(some 4),(.bin .geq (.t 3) (.c (.int .u64 4294967296))),none,[]⟩] none)
 (.cond (.t 4)
 (.seq (.region [⟨(some 5),(.mov (.t 0)),none,[]⟩,
 ⟨(some 6),(.bin .shr (.t 5) (.c (.int .u64 32))),none,[]⟩,
 ⟨(some 0),(.mov (.t 6)),none,[]⟩] none)
 (.region [⟨(some 2),(.mov (.c (.int .i64 32))),none,[]⟩] none))
 .skip))
 (.seq (.seq (.region [⟨(some 7),(.mov (.t 0)),none,[]⟩,
 ⟨(some 8),(.bin .geq (.t 7) (.c (.int .u64 65536))),none,[]⟩] none)
 (.cond (.t 8)
 (.seq (.region [⟨(some 9),(.mov (.t 0)),none,[]⟩,
 ⟨(some 10),(.bin .shr (.t 9) (.c (.int .u64 16))),none,[]⟩,
 ⟨(some 0),(.mov (.t 10)),none,[]⟩] none)
 (.region [⟨(some 11),(.mov (.t 2)),none,[]⟩,
 ⟨(some 12),(.bin .add (.t 11) (.c (.int .i64 16))),none,[]⟩,
 ⟨(some 2),(.mov (.t 12)),none,[]⟩] none))
 .skip))
 (.seq (.seq (.region [⟨(some 13),(.mov (.t 0)),none,[]⟩,
 ⟨(some 14),(.bin .geq (.t 13) (.c (.int .u64 256))),none,[]⟩] none)
 (.cond (.t 14)
 (.seq (.region [⟨(some 15),(.mov (.t 0)),none,[]⟩,
 ⟨(some 16),(.bin .shr (.t 15) (.c (.int .u64 8))),none,[]⟩,
 ⟨(some 0),(.mov (.t 16)),none,[]⟩] none)
 (.region [⟨(some 17),(.mov (.t 2)),none,[]⟩,
 ⟨(some 18),(.bin .add (.t 17) (.c (.int .i64 8))),none,[]⟩,
 ⟨(some 2),(.mov (.t 18)),none,[]⟩] none))
 .skip))
 (.seq (.region [⟨(some 19),(.mov (.t 2)),none,[]⟩,
 ⟨(some 20),(.mov (.t 0)),none,[]⟩,
 ⟨(some 21),(.conv .u8 (.t 20)),none,[]⟩,
 ⟨(some 22),(.indexStr (.c (.string ⟨#[0,1,2,2,3,3,3,3,4,4,4,4,4,4,4,4,5,5,5,5,5,5,5,5,5,5,5,5,5,5,5,5,6,6,6,6,6,6,6,6,6,6,6,6,6,6,6,6,6,6,6,6,6,6,6,6,6,6,6,6,6,6,6,6,7,7,7,7,7,7,7,7,7,7,7,7,7,7,7,7,7,7,7,7,7,7,7,7,7,7,7,7,7,7,7,7,7,7,7,7,7,7,7,7,7,7,7,7,7,7,7,7,7,7,7,7,7,7,7,7,7,7,7,7,7,7,7,7,8,8,8,8,8,8,8,8,8,8,8,8,8,8,8,8,8,8,8,8,8,8,8,8,8,8,8,8,8,8,8,8,8,8,8,8,8,8,8,8,8,8,8,8,8,8,8,8,8,8,8,8,8,8,8,8,8,8,8,8,8,8,8,8,8,8,8,8,8,8,8,8,8,8,8,8,8,8,8,8,8,8,8,8,8,8,8,8,8,8,8,8,8,8,8,8,8,8,8,8,8,8,8,8,8,8,8,8,8,8,8,8,8,8,8,8,8,8,8,8,8,8,8,8,8,8,8,8]⟩)) (.t 21)),none,[]⟩,
 ⟨(some 23),(.conv .i64 (.t 22)),none,[]⟩,
 ⟨(some 24),(.bin .add (.t 19) (.t 23)),none,[]⟩,
 ⟨(some 2),(.mov (.t 24)),none,[]⟩] none)
 .ret)))))
def F76 : AFunc := ⟨1,25,[(.tmp 2)],B76⟩
def F78L0 : ACode := (.seq (.seq (.region [⟨(some 22),(.mov (.t 3)),none,[]⟩,
 ⟨(some 23),(.bin .gtr (.t 22) (.c (.int .i64 0))),none,[]⟩,
 ⟨(some 24),(.mov (.t 23)),none,[]⟩,
 ⟨(some 25),(.mov (.t 0)),(some (24,true)),[]⟩,
 ⟨(some 26),(.mov (.t 3)),(some (24,true)),[]⟩,
 ⟨(some 27),(.bin .sub (.t 26) (.c (.int .i64 1))),(some (24,true)),[]⟩,
 ⟨(some 28),(.indexAddr 1 (.t 25) (.t 27)),(some (24,true)),[]⟩,
 ⟨(some 29),(.load none (.t 28)),(some (24,true)),[]⟩,
 ⟨(some 30),(.bin .eql (.t 29) (.c (.int .u8 48))),(some (24,true)),[]⟩,
 ⟨(some 31),(.pick (.t 24) (.t 30) (.c (.bool false))),none,[]⟩] none)
 (.cond (.t 31)
 .skip
 (.exit 0)))
 (.block 1 (.region [⟨(some 32),(.mov (.t 3)),none,[]⟩,
 ⟨(some 33),(.bin .sub (.t 32) (.c (.int .i64 1))),none,[]⟩,
 ⟨(some 3),(.mov (.t 33)),none,[]⟩] none)))
def B78 : ACode := (.seq (.region [⟨(some 8),(.mov (.c (.int .i64 0))),none,[]⟩,
 ⟨(some 9),(.mov (.c (.int .i64 0))),none,[]⟩] none)
 (.seq (.seq (.region [⟨(some 10),(.mov (.t 3)),none,[]⟩,
 ⟨(some 11),(.mov (.t 0)),none,[]⟩,
 ⟨(some 12),(.lenSlice (.t 11)),none,[]⟩,
 ⟨(some 13),(.bin .leq (.t 10) (.t 12)),none,[]⟩] none)
 (.cond (.t 13)
 (.seq (.region [⟨(some 14),(.mov (.t 0)),none,[]⟩,
 ⟨(some 15),(.mov (.t 3)),none,[]⟩,
 ⟨(some 16),(.slice 1 (.t 14) none (some (.t 15)) none),none,[]⟩,
 ⟨(some 17),(.mov (.t 1)),none,[]⟩,
 ⟨(some 18),(.call (.f 116) [(.t 16),(.t 17)]),none,[]⟩] none)
 (.seq (.region [⟨(some 19),(.mov (.t 3)),none,[]⟩,
 ⟨(some 20),(.mov (.t 2)),none,[]⟩,
 ⟨(some 21),(.bin .add (.t 19) (.t 20)),none,[]⟩,
 ⟨(some 8),(.mov (.t 21)),none,[]⟩] none)
 (.block 0 (.loop F78L0))))
 .skip))
 (.seq (.region [⟨(some 34),(.mov (.t 8)),none,[]⟩,
 ⟨(some 35),(.mov (.t 3)),none,[]⟩,
 ⟨(some 8),(.mov (.t 34)),none,[]⟩,
 ⟨(some 9),(.mov (.t 35)),none,[]⟩] none)
 .ret)))
def F78 : AFunc := ⟨4,36,[(.tmp 8),(.tmp 9)],B78⟩
def B79 : ACode := (.seq (.region [⟨(some 2),(.mov (.c (.int .i64 0))),none,[]⟩] none)
 (.seq (.region [⟨(some 4),(.mov (.t 0)),none,[]⟩,
 ⟨(some 5),(.call (.f 76) [(.t 4)]),none,[]⟩,
 ⟨(some 6),(.call (.f 80) [(.t 5)]),none,[]⟩,
 ⟨(some 3),(.mov (.t 6)),none,[]⟩] none)
 (.seq (.region [⟨(some 7),(.mov (.t 3)),none,[]⟩,
 ⟨(some 8),(.mov (.t 0)),none,[]⟩,
 ⟨(some 9),(.mov (.t 3)),none,[]⟩,
 ⟨(some 10),(.indexArr 1 20 (.g 8) (.t 9)),none,[]⟩,
 ⟨(some 11),(.load none (.t 10)),none,[]⟩,
 ⟨(some 12),(.bin .geq (.t 8) (.t 11)),none,[]⟩,
 ⟨(some 13),(.call (.f 117) [(.t 12)]),none,[]⟩,
 ⟨(some 14),(.bin .add (.t 7) (.t 13)),none,[]⟩,
 ⟨(some 2),(.mov (.t 14)),none,[]⟩] none)
 .ret)))
def F79 : AFunc := ⟨1,15,[(.tmp 2)],B79⟩
def B80 : ACode := (.seq (.region [⟨(some 2),(.mov (.c (.int .i64 0))),none,[]⟩] none)
 (.seq (.region [⟨(some 3),(.mov (.t 0)),none,[]⟩,
 ⟨(some 4),(.bin .mul (.t 3) (.c (.int .i64 78913))),none,[]⟩,
 ⟨(some 5),(.bin .shr (.t 4) (.c (.int .u64 18))),none,[]⟩,
 ⟨(some 2),(.mov (.t 5)),none,[]⟩] none)
 .ret))
def F80 : AFunc := ⟨1,6,[(.tmp 2)],B80⟩
def F83L0 : ACode := (.seq (.seq (.region [⟨(some 13),(.mov (.t 1)),none,[]⟩,
 ⟨(some 14),(.bin .gtr (.t 13) (.c (.int .i64 60))),none,[]⟩] none)
 (.cond (.t 14)
 .skip
 (.exit 1)))
 (.block 2 (.seq (.region [⟨(some 15),(.mov (.t 0)),none,[]⟩,
 ⟨(some 16),(.call (.f 121) [(.t 15),(.c (.int .u64 60))]),none,[]⟩] none)
 (.region [⟨(some 17),(.mov (.t 1)),none,[]⟩,
 ⟨(some 18),(.bin .sub (.t 17) (.c (.int .i64 60))),none,[]⟩,
 ⟨(some 1),(.mov (.t 18)),none,[]⟩] none))))
def F83L1 : ACode := (.seq (.seq (.region [⟨(some 26),(.mov (.t 1)),none,[]⟩,
 ⟨(some 27),(.bin .lss (.t 26) (.c (.int .i64 (-60)))),none,[]⟩] none)
 (.cond (.t 27)
 .skip
 (.exit 3)))
 (.block 4 (.seq (.region [⟨(some 28),(.mov (.t 0)),none,[]⟩,
 ⟨(some 29),(.call (.f 122) [(.t 28),(.c (.int .u64 60))]),none,[]⟩] none)
 (.region [⟨(some 30),(.mov (.t 1)),none,[]⟩,
 ⟨(some 31),(.bin .add (.t 30) (.c (.int .i64 60))),none,[]⟩,
 ⟨(some 1),(.mov (.t 31)),none,[]⟩] none))))
def B83 : ACode := (.block 0 (.seq (.region [⟨(some 5),(.mov (.t 0)),none,[]⟩,
 ⟨(some 6),(.nilCheck (.t 5)),none,[]⟩,
 ⟨(some 7),(.fieldAddr 800 (.t 6)),none,[]⟩,
 ⟨(some 8),(.load none (.t 7)),none,[]⟩,
 ⟨(some 9),(.bin .eql (.t 8) (.c (.int .i64 0))),none,[]⟩,
 ⟨(some 4),(.mov (.t 9)),none,[]⟩] none)
 (.cond (.t 4)
 .skip
 (.seq (.region [⟨(some 11),(.mov (.t 1)),none,[]⟩,
 ⟨(some 12),(.bin .gtr (.t 11) (.c (.int .i64 0))),none,[]⟩,
 ⟨(some 10),(.mov (.t 12)),none,[]⟩] none)
 (.cond (.t 10)
 (.seq (.block 1 (.loop F83L0))
 (.region [⟨(some 19),(.mov (.t 0)),none,[]⟩,
 ⟨(some 20),(.mov (.t 1)),none,[]⟩,
 ⟨(some 21),(.conv .u64 (.t 20)),none,[]⟩,
 ⟨(some 22),(.call (.f 121) [(.t 19),(.t 21)]),none,[]⟩] none))
 (.seq (.region [⟨(some 24),(.mov (.t 1)),none,[]⟩,
 ⟨(some 25),(.bin .lss (.t 24) (.c (.int .i64 0))),none,[]⟩,
 ⟨(some 23),(.mov (.t 25)),none,[]⟩] none)
 (.cond (.t 23)
 (.seq (.block 3 (.loop F83L1))
 (.region [⟨(some 32),(.mov (.t 0)),none,[]⟩,
 ⟨(some 33),(.mov (.t 1)),none,[]⟩,
 ⟨(some 34),(.un .neg (.t 33)),none,[]⟩,
 ⟨(some 35),(.conv .u64 (.t 34)),none,[]⟩,
 ⟨(some 36),(.call (.f 122) [(.t 32),(.t 35)]),none,[]⟩] none))
 .skip)))))))
def F83 : AFunc := ⟨2,37,[],B83⟩

def B85 : ACode := (.seq (.region [⟨(some 4),(.mov (.c (.int .u64 0))),none,[]⟩,
 ⟨(some 5),(.mov (.c (.int .i64 0))),none,[]⟩] none)
 (.seq (.region [⟨(some 6),(.mov (.c (.int .i64 0))),none,[]⟩,
 ⟨(some 7),(.mov (.c (.int .i64 0))),none,[]⟩] none)
 (.seq (.seq (.region [⟨(some 15),(.bin .mul (.c (.int .u64 8)) (.c (.int .u64 8))),none,[]⟩] none)
 (.block 0 (.seq (.region [⟨(some 17),(.bin .eql (.t 15) (.c (.int .u64 32))),none,[]⟩,
 ⟨(some 16),(.mov (.t 17)),none,[]⟩] none)
 (.cond (.t 16)
 (.seq (.region [⟨(some 6),(.mov (.c (.int .i64 23))),none,[]⟩] none)
 (.region [⟨(some 7),(.mov (.c (.int .i64 (-189)))),none,[]⟩] none))
 (.seq (.region [⟨(some 19),(.bin .eql (.t 15) (.c (.int .u64 64))),none,[]⟩,
 ⟨(some 18),(.mov (.t 19)),none,[]⟩] none)
 (.cond (.t 18)
 (.seq (.region [⟨(some 6),(.mov (.c (.int .i64 52))),none,[]⟩] none)
 (.region [⟨(some 7),(.mov (.c (.int .i64 (-1085)))),none,[]⟩] none))
 .skip))))))
 (.seq (.region [⟨(some 8),(.mov (.c (.int .u64 0))),none,[]⟩,
 ⟨(some 9),(.mov (.c (.int .u64 0))),none,[]⟩] none)
 (.seq (.region [⟨(some 10),(.mov (.c (.int .i64 0))),none,[]⟩] none)
 (.seq (.region [⟨(some 20),(.mov (.t 6)),none,[]⟩,
 ⟨(some 21),(.bin .sub (.c (.int .i64 63)) (.t 20)),none,[]⟩,
 ⟨(some 11),(.mov (.t 21)),none,[]⟩] none)
 (.seq (.seq (.region [⟨(some 22),(.mov (.t 0)),none,[]⟩,
 ⟨(some 23),(.bin .eql (.t 22) (.c (.int .u64 9223372036854775808))),none,[]⟩,
 ⟨(some 24),(.mov (.t 23)),none,[]⟩,
 ⟨(some 25),(.mov (.t 1)),(some (24,true)),[]⟩,
 ⟨(some 26),(.mov (.t 7)),(some (24,true)),[]⟩,
 ⟨(some 27),(.bin .gtr (.t 25) (.t 26)),(some (24,true)),[]⟩,
 ⟨(some 28),(.pick (.t 24) (.t 27) (.c (.bool false))),none,[]⟩] none)
 (.cond (.t 28)
 (.seq (.region [⟨(some 29),(.mov (.t 1)),none,[]⟩,
 ⟨(some 30),(.mov (.t 11)),none,[]⟩,
 ⟨(some 31),(.bin .add (.t 29) (.t 30)),none,[]⟩,
 ⟨(some 32),(.call (.f 108) [(.t 31)]),none,[]⟩,
 ⟨(some 33),(.un .neg (.t 32)),none,[]⟩,
 ⟨(some 5),(.mov (.t 33)),none,[]⟩] none)
 (.seq (.region [⟨(some 34),(.mov (.t 0)),none,[]⟩,
 ⟨(some 35),(.mov (.t 11)),none,[]⟩,
 ⟨(some 36),(.bin .sub (.t 35) (.c (.int .i64 2))),none,[]⟩,
 ⟨(some 37),(.bin .shl (.c (.int .u64 1)) (.t 36)),none,[]⟩,
 ⟨(some 38),(.bin .sub (.t 34) (.t 37)),none,[]⟩,
 ⟨(some 8),(.mov (.t 38)),none,[]⟩] none)
 (.seq (.region [⟨(some 39),(.mov (.t 0)),none,[]⟩,
 ⟨(some 40),(.mov (.t 11)),none,[]⟩,
 ⟨(some 41),(.bin .sub (.t 40) (.c (.int .i64 1))),none,[]⟩,
 ⟨(some 42),(.bin .shl (.c (.int .u64 1)) (.t 41)),none,[]⟩,
 ⟨(some 43),(.bin .add (.t 39) (.t 42)),none,[]⟩,
 ⟨(some 9),(.mov (.t 43)),none,[]⟩] none)
 (.region [⟨(some 44),(.mov (.t 0)),none,[]⟩,
 ⟨(some 45),(.mov (.t 11)),none,[]⟩,
 ⟨(some 46),(.bin .shr (.t 44) (.t 45)),none,[]⟩,
 ⟨(some 47),(.conv .i64 (.t 46)),none,[]⟩,
 ⟨(some 48),(.bin .and (.t 47) (.c (.int .i64 1))),none,[]⟩,
 ⟨(some 10),(.mov (.t 48)),none,[]⟩] none))))
 (.seq (.region [⟨(some 49),(.mov (.t 1)),none,[]⟩,
 ⟨(some 50),(.mov (.t 7)),none,[]⟩,
 ⟨(some 51),(.bin .geq (.t 49) (.t 50)),none,[]⟩] none)
 (.cond (.t 51)
 (.seq (.region [⟨(some 52),(.mov (.t 1)),none,[]⟩,
 ⟨(some 53),(.mov (.t 11)),none,[]⟩,
 ⟨(some 54),(.bin .add (.t 52) (.t 53)),none,[]⟩,
 ⟨(some 55),(.call (.f 80) [(.t 54)]),none,[]⟩,
 ⟨(some 56),(.un .neg (.t 55)),none,[]⟩,
 ⟨(some 5),(.mov (.t 56)),none,[]⟩] none)
 (.seq (.region [⟨(some 57),(.mov (.t 0)),none,[]⟩,
 ⟨(some 58),(.mov (.t 11)),none,[]⟩,
 ⟨(some 59),(.bin .sub (.t 58) (.c (.int .i64 1))),none,[]⟩,
 ⟨(some 60),(.bin .shl (.c (.int .u64 1)) (.t 59)),none,[]⟩,
 ⟨(some 61),(.bin .sub (.t 57) (.t 60)),none,[]⟩,
 ⟨(some 8),(.mov (.t 61)),none,[]⟩] none)
 (.seq (.region [⟨(some 62),(.mov (.t 0)),none,[]⟩,
 ⟨(some 63),(.mov (.t 11)),none,[]⟩,
 ⟨(some 64),(.bin .sub (.t 63) (.c (.int .i64 1))),none,[]⟩,
 ⟨(some 65),(.bin .shl (.c (.int .u64 1)) (.t 64)),none,[]⟩,
 ⟨(some 66),(.bin .add (.t 62) (.t 65)),none,[]⟩,
 ⟨(some 9),(.mov (.t 66)),none,[]⟩] none)
 (.region [⟨(some 67),(.mov (.t 0)),none,[]⟩,
 ⟨(some 68),(.mov (.t 11)),none,[]⟩,
 ⟨(some 69),(.bin .shr (.t 67) (.t 68)),none,[]⟩,
 ⟨(some 70),(.conv .i64 (.t 69)),none,[]⟩,
 ⟨(some 71),(.bin .and (.t 70) (.c (.int .i64 1))),none,[]⟩,
 ⟨(some 10),(.mov (.t 71)),none,[]⟩] none))))
 (.seq (.region [⟨(some 72),(.mov (.t 11)),none,[]⟩,
 ⟨(some 73),(.mov (.t 7)),none,[]⟩,
 ⟨(some 74),(.mov (.t 1)),none,[]⟩,
 ⟨(some 75),(.bin .sub (.t 73) (.t 74)),none,[]⟩,
 ⟨(some 76),(.bin .add (.t 72) (.t 75)),none,[]⟩,
 ⟨(some 11),(.mov (.t 76)),none,[]⟩] none)
 (.seq (.region [⟨(some 77),(.mov (.t 1)),none,[]⟩,
 ⟨(some 78),(.mov (.t 11)),none,[]⟩,
 ⟨(some 79),(.bin .add (.t 77) (.t 78)),none,[]⟩,
 ⟨(some 80),(.call (.f 80) [(.t 79)]),none,[]⟩,
 ⟨(some 81),(.un .neg (.t 80)),none,[]⟩,
 ⟨(some 5),(.mov (.t 81)),none,[]⟩] none)
 (.seq (.region [⟨(some 82),(.mov (.t 0)),none,[]⟩,
 ⟨(some 83),(.mov (.t 11)),none,[]⟩,
 ⟨(some 84),(.bin .sub (.t 83) (.c (.int .i64 1))),none,[]⟩,
 ⟨(some 85),(.bin .shl (.c (.int .u64 1)) (.t 84)),none,[]⟩,
 ⟨(some 86),(.bin .sub (.t 82) (.t 85)),none,[]⟩,
 ⟨(some 8),(.mov (.t 86)),none,[]⟩] none)
 (.seq (.region [⟨(some 87),(.mov (.t 0)),none,[]⟩,
 ⟨(some 88),(.mov (.t 11)),none,[]⟩,
 ⟨(some 89),(.bin .sub (.t 88) (.c (.int .i64 1))),none,[]⟩,
 ⟨(some 90),(.bin .shl (.c (.int .u64 1)) (.t 89)),none,[]⟩,
 ⟨(some 91),(.bin .add (.t 87) (.t 90)),none,[]⟩,
 ⟨(some 9),(.mov (.t 91)),none,[]⟩] none)
 (.region [⟨(some 92),(.mov (.t 0)),none,[]⟩,
 ⟨(some 93),(.mov (.t 11)),none,[]⟩,
 ⟨(some 94),(.bin .shr (.t 92) (.t 93)),none,[]⟩,
 ⟨(some 95),(.conv .i64 (.t 94)),none,[]⟩,
 ⟨(some 96),(.bin .and (.t 95) (.c (.int .i64 1))),none,[]⟩,
 ⟨(some 10),(.mov (.t 96)),none,[]⟩] none)))))))))
 (.seq (.region [⟨(some 12),(.alloc 148 [(.int .u64 0),(.int .u64 0),(.int .i64 0)]),none,[]⟩] none)
 (.seq (.region [⟨(some 97),(.mov (.t 1)),none,[]⟩,
 ⟨(some 98),(.mov (.t 5)),none,[]⟩,
 ⟨(some 99),(.mov (.t 5)),none,[]⟩,
 ⟨(some 100),(.call (.f 110) [(.t 99)]),none,[]⟩,
 ⟨(some 101),(.call (.f 109) [(.t 12),(.t 97),(.t 98),(.t 100)]),none,[]⟩] none)
 (.seq (.region [⟨(some 102),(.mov (.t 8)),none,[]⟩,
 ⟨(some 103),(.call (.f 111) [(.t 102),(.t 12)]),none,[]⟩,
 ⟨(some 104),(.mov (.t 10)),none,[]⟩,
 ⟨(some 105),(.call (.f 112) [(.t 103),(.t 104)]),none,[]⟩,
 ⟨(some 106),(.call (.f 113) [(.t 105)]),none,[]⟩,
 ⟨(some 13),(.mov (.t 106)),none,[]⟩] none)
 (.seq (.region [⟨(some 107),(.mov (.t 9)),none,[]⟩,
 ⟨(some 108),(.call (.f 111) [(.t 107),(.t 12)]),none,[]⟩,
 ⟨(some 109),(.mov (.t 10)),none,[]⟩,
 ⟨(some 110),(.un .neg (.t 109)),none,[]⟩,
 ⟨(some 111),(.call (.f 112) [(.t 108),(.t 110)]),none,[]⟩,
 ⟨(some 112),(.call (.f 114) [(.t 111)]),none,[]⟩,
 ⟨(some 14),(.mov (.t 112)),none,[]⟩] none)
 (.seq (.seq (.region [⟨(some 113),(.mov (.t 14)),none,[]⟩,
 ⟨(some 114),(.bin .quo (.t 113) (.c (.int .u64 10))),none,[]⟩,
 ⟨(some 4),(.mov (.t 114)),none,[]⟩] none)
 (.seq (.region [⟨(some 115),(.mov (.t 4)),none,[]⟩,
 ⟨(some 116),(.bin .mul (.t 115) (.c (.int .u64 10))),none,[]⟩,
 ⟨(some 117),(.mov (.t 13)),none,[]⟩,
 ⟨(some 118),(.bin .geq (.t 116) (.t 117)),none,[]⟩] none)
 (.cond (.t 118)
 (.seq (.region [⟨(some 119),(.mov (.t 4)),none,[]⟩,
 ⟨(some 120),(.mov (.t 5)),none,[]⟩,
 ⟨(some 121),(.bin .sub (.t 120) (.c (.int .i64 1))),none,[]⟩,
 ⟨(some 122),(.un .neg (.t 121)),none,[]⟩,
 ⟨(some 4),(.mov (.t 119)),none,[]⟩,
 ⟨(some 5),(.mov (.t 122)),none,[]⟩] none)
 .ret)
 .skip)))
 (.seq (.seq (.region [⟨(some 123),(.mov (.t 13)),none,[]⟩,
 ⟨(some 4),(.mov (.t 123)),none,[]⟩] none)
 (.seq (.region [⟨(some 124),(.mov (.t 4)),none,[]⟩,
 ⟨(some 125),(.mov (.t 14)),none,[]⟩,
 ⟨(some 126),(.bin .lss (.t 124) (.t 125)),none,[]⟩] none)
 (.cond (.t 126)
 (.region [⟨(some 127),(.mov (.t 0)),none,[]⟩,
 ⟨(some 128),(.call (.f 111) [(.t 127),(.t 12)]),none,[]⟩,
 ⟨(some 129),(.call (.f 115) [(.t 128)]),none,[]⟩,
 ⟨(some 4),(.mov (.t 129)),none,[]⟩] none)
 .skip)))
 (.seq (.region [⟨(some 130),(.mov (.t 4)),none,[]⟩,
 ⟨(some 131),(.mov (.t 5)),none,[]⟩,
 ⟨(some 132),(.un .neg (.t 131)),none,[]⟩,
 ⟨(some 4),(.mov (.t 130)),none,[]⟩,
 ⟨(some 5),(.mov (.t 132)),none,[]⟩] none)
 .ret))))))))))))))
def F85 : AFunc := ⟨2,133,[(.tmp 4),(.tmp 5)],B85⟩
def B91 : ACode := (.seq (.region [⟨(some 2),(.mov (.c (.float .f64 0))),none,[]⟩,
 ⟨(some 3),(.mov (.c (.int .i64 0))),none,[]⟩,
 ⟨(some 4),(.mov (.c (.bool false))),none,[]⟩] none)
 (.seq (.seq (.region [⟨(some 8),(.mov (.t 0)),none,[]⟩,
 ⟨(some 9),(.lenStr (.t 8)),none,[]⟩,
 ⟨(some 10),(.bin .eql (.t 9) (.c (.int .i64 0))),none,[]⟩] none)
 (.cond (.t 10)
 (.seq (.region [⟨(some 2),(.mov (.c (.float .f64 0))),none,[]⟩,
 ⟨(some 3),(.mov (.c (.int .i64 0))),none,[]⟩,
 ⟨(some 4),(.mov (.c (.bool false))),none,[]⟩] none)
 .ret)
 .skip))
 (.seq (.region [⟨(some 5),(.mov (.c (.int .i64 1))),none,[]⟩] none)
 (.seq (.region [⟨(some 6),(.mov (.c (.int .i64 0))),none,[]⟩] none)
 (.seq (.seq (.region [⟨(some 11),(.mov (.t 0)),none,[]⟩,
 ⟨(some 12),(.indexStr (.t 11) (.c (.int .i64 0))),none,[]⟩] none)
 (.block 0 (.seq (.block 3 (.seq (.block 2 (.seq (.block 1 (.seq (.seq (.seq (.seq (.region [⟨(some 14),(.bin .eql (.t 12) (.c (.int .u8 43))),none,[]⟩,
 ⟨(some 13),(.mov (.t 14)),none,[]⟩] none)
 (.cond (.t 13)
 .skip
 (.region [⟨(some 15),(.bin .eql (.t 12) (.c (.int .u8 45))),none,[]⟩,
 ⟨(some 13),(.mov (.t 15)),none,[]⟩] none)))
 (.cond (.t 13)
 (.exit 1)
 .skip))
 (.seq (.seq (.seq (.region [⟨(some 17),(.bin .eql (.t 12) (.c (.int .u8 105))),none,[]⟩,
 ⟨(some 16),(.mov (.t 17)),none,[]⟩] none)
 (.cond (.t 16)
 .skip
 (.region [⟨(some 18),(.bin .eql (.t 12) (.c (.int .u8 73))),none,[]⟩,
 ⟨(some 16),(.mov (.t 18)),none,[]⟩] none)))
 (.cond (.t 16)
 (.exit 2)
 .skip))
 (.seq (.seq (.region [⟨(some 20),(.bin .eql (.t 12) (.c (.int .u8 110))),none,[]⟩,
 ⟨(some 19),(.mov (.t 20)),none,[]⟩] none)
 (.cond (.t 19)
 .skip
 (.region [⟨(some 21),(.bin .eql (.t 12) (.c (.int .u8 78))),none,[]⟩,
 ⟨(some 19),(.mov (.t 21)),none,[]⟩] none)))
 (.cond (.t 19)
 (.exit 3)
 .skip))))
 (.exit 0)))
 (.seq (.seq (.region [⟨(some 22),(.mov (.t 0)),none,[]⟩,
 ⟨(some 23),(.indexStr (.t 22) (.c (.int .i64 0))),none,[]⟩,
 ⟨(some 24),(.bin .eql (.t 23) (.c (.int .u8 45))),none,[]⟩] none)
 (.cond (.t 24)
 (.region [⟨(some 5),(.mov (.c (.int .i64 (-1)))),none,[]⟩] none)
 .skip))
 (.seq (.region [⟨(some 6),(.mov (.c (.int .i64 1))),none,[]⟩] none)
 (.region [⟨(some 25),(.mov (.t 0)),none,[]⟩,
 ⟨(some 26),(.sliceStr (.t 25) (some (.c (.int .i64 1))) none),none,[]⟩,
 ⟨(some 0),(.mov (.t 26)),none,[]⟩] none)))))
 (.seq (.seq (.region [⟨(some 27),(.mov (.t 0)),none,[]⟩,
 ⟨(some 28),(.call (.f 128) [(.t 27),(.c (.string ⟨#[105,110,102,105,110,105,116,121]⟩))]),none,[]⟩,
 ⟨(some 7),(.mov (.t 28)),none,[]⟩] none)
 (.seq (.seq (.region [⟨(some 29),(.mov (.t 7)),none,[]⟩,
 ⟨(some 30),(.bin .lss (.c (.int .i64 3)) (.t 29)),none,[]⟩,
 ⟨(some 31),(.mov (.t 30)),none,[]⟩,
 ⟨(some 32),(.mov (.t 7)),(some (31,true)),[]⟩,
 ⟨(some 33),(.bin .lss (.t 32) (.c (.int .i64 8))),(some (31,true)),[]⟩,
 ⟨(some 34),(.pick (.t 31) (.t 33) (.c (.bool false))),none,[]⟩] none)
 (.cond (.t 34)
 (.region [⟨(some 7),(.mov (.c (.int .i64 3))),none,[]⟩] none)
 .skip))
 (.seq (.region [⟨(some 35),(.mov (.t 7)),none,[]⟩,
 ⟨(some 36),(.bin .eql (.t 35) (.c (.int .i64 3))),none,[]⟩,
 ⟨(some 37),(.mov (.t 36)),none,[]⟩,
 ⟨(some 38),(.mov (.t 7)),(some (37,false)),[]⟩,
 ⟨(some 39),(.bin .eql (.t 38) (.c (.int .i64 8))),(some (37,false)),[]⟩,
 ⟨(some 40),(.pick (.t 37) (.c (.bool true)) (.t 39)),none,[]⟩] none)
 (.cond (.t 40)
 (.seq (.region [⟨(some 41),(.mov (.t 5)),none,[]⟩,
 ⟨(some 42),(.call (.f 129) [(.t 41)]),none,[]⟩,
 ⟨(some 43),(.mov (.t 6)),none,[]⟩,
 ⟨(some 44),(.mov (.t 7)),none,[]⟩,
 ⟨(some 45),(.bin .add (.t 43) (.t 44)),none,[]⟩,
 ⟨(some 2),(.mov (.t 42)),none,[]⟩,
 ⟨(some 3),(.mov (.t 45)),none,[]⟩,
 ⟨(some 4),(.mov (.c (.bool true))),none,[]⟩] none)
 .ret)
 .skip))))
 (.exit 0))))
 (.seq (.seq (.region [⟨(some 46),(.mov (.t 0)),none,[]⟩,
 ⟨(some 47),(.call (.f 128) [(.t 46),(.c (.string ⟨#[110,97,110]⟩))]),none,[]⟩,
 ⟨(some 48),(.bin .eql (.t 47) (.c (.int .i64 3))),none,[]⟩] none)
 (.cond (.t 48)
 (.seq (.region [⟨(some 49),(.call (.f 130) []),none,[]⟩,
 ⟨(some 2),(.mov (.t 49)),none,[]⟩,
 ⟨(some 3),(.mov (.c (.int .i64 3))),none,[]⟩,
 ⟨(some 4),(.mov (.c (.bool true))),none,[]⟩] none)
 .ret)
 .skip))
 (.exit 0)))))
 (.seq (.region [⟨(some 2),(.mov (.c (.float .f64 0))),none,[]⟩,
 ⟨(some 3),(.mov (.c (.int .i64 0))),none,[]⟩,
 ⟨(some 4),(.mov (.c (.bool false))),none,[]⟩] none)
 .ret))))))
def F91 : AFunc := ⟨1,50,[(.tmp 2),(.tmp 3),(.tmp 4)],B91⟩
def F92L0 : ACode := (.seq (.seq (.region [⟨(some 57),(.mov (.t 7)),none,[]⟩,
 ⟨(some 58),(.mov (.t 0)),none,[]⟩,
 ⟨(some 59),(.lenStr (.t 58)),none,[]⟩,
 ⟨(some 60),(.bin .lss (.t 57) (.t 59)),none,[]⟩] none)
 (.cond (.t 60)
 .skip
 (.exit 1)))
 (.seq (.block 2 (.seq (.seq (.region [⟨(some 63),(.mov (.t 0)),none,[]⟩,
 ⟨(some 64),(.mov (.t 7)),none,[]⟩,
 ⟨(some 65),(.indexStr (.t 63) (.t 64)),none,[]⟩,
 ⟨(some 18),(.mov (.t 65)),none,[]⟩] none)
 (.block 3 (.seq (.region [⟨(some 67),(.mov (.t 18)),none,[]⟩,
 ⟨(some 68),(.bin .eql (.t 67) (.c (.int .u8 95))),none,[]⟩,
 ⟨(some 69),(.eqv false .bool false (.c (.bool true)) (.t 68)),none,[]⟩,
 ⟨(some 66),(.mov (.t 69)),none,[]⟩] none)
 (.cond (.t 66)
 (.seq (.region [⟨(some 9),(.mov (.c (.bool true))),none,[]⟩] none)
 (.exit 2))
 (.seq (.region [⟨(some 71),(.mov (.t 18)),none,[]⟩,
 ⟨(some 72),(.bin .eql (.t 71) (.c (.int .u8 46))),none,[]⟩,
 ⟨(some 73),(.eqv false .bool false (.c (.bool true)) (.t 72)),none,[]⟩,
 ⟨(some 70),(.mov (.t 73)),none,[]⟩] none)
 (.cond (.t 70)
 (.seq (.seq (.region [⟨(some 74),(.mov (.t 13)),none,[]⟩] none)
 (.cond (.t 74)
 (.exit 1)
 .skip))
 (.seq (.region [⟨(some 13),(.mov (.c (.bool true))),none,[]⟩] none)
 (.seq (.region [⟨(some 75),(.mov (.t 15)),none,[]⟩,
 ⟨(some 17),(.mov (.t 75)),none,[]⟩] none)
 (.exit 2))))
 (.seq (.region [⟨(some 77),(.mov (.t 18)),none,[]⟩,
 ⟨(some 78),(.bin .leq (.c (.int .u8 48)) (.t 77)),none,[]⟩,
 ⟨(some 79),(.mov (.t 78)),none,[]⟩,
 ⟨(some 80),(.mov (.t 18)),(some (79,true)),[]⟩,
 ⟨(some 81),(.bin .leq (.t 80) (.c (.int .u8 57))),(some (79,true)),[]⟩,
 ⟨(some 82),(.pick (.t 79) (.t 81) (.c (.bool false))),none,[]⟩,
 ⟨(some 83),(.eqv false .bool false (.c (.bool true)) (.t 82)),none,[]⟩,
 ⟨(some 76),(.mov (.t 83)),none,[]⟩] none)
 (.cond (.t 76)
 (.seq (.region [⟨(some 14),(.mov (.c (.bool true))),none,[]⟩] none)
 (.seq (.seq (.region [⟨(some 84),(.mov (.t 18)),none,[]⟩,
 ⟨(some 85),(.bin .eql (.t 84) (.c (.int .u8 48))),none,[]⟩,
 ⟨(some 86),(.mov (.t 85)),none,[]⟩,
 ⟨(some 87),(.mov (.t 15)),(some (86,true)),[]⟩,
 ⟨(some 88),(.bin .eql (.t 87) (.c (.int .i64 0))),(some (86,true)),[]⟩,
 ⟨(some 89),(.pick (.t 86) (.t 88) (.c (.bool false))),none,[]⟩] none)
 (.cond (.t 89)
 (.seq (.region [⟨(some 90),(.mov (.t 17)),none,[]⟩,
 ⟨(some 91),(.bin .sub (.t 90) (.c (.int .i64 1))),none,[]⟩,
 ⟨(some 17),(.mov (.t 91)),none,[]⟩] none)
 (.exit 2))
 .skip))
 (.seq (.region [⟨(some 92),(.mov (.t 15)),none,[]⟩,
 ⟨(some 93),(.bin .add (.t 92) (.c (.int .i64 1))),none,[]⟩,
 ⟨(some 15),(.mov (.t 93)),none,[]⟩] none)
 (.seq (.seq (.region [⟨(some 94),(.mov (.t 16)),none,[]⟩,
 ⟨(some 95),(.mov (.t 11)),none,[]⟩,
 ⟨(some 96),(.bin .lss (.t 94) (.t 95)),none,[]⟩] none)
 (.cond (.t 96)
 (.seq (.region [⟨(some 97),(.mov (.t 2)),none,[]⟩,
 ⟨(some 98),(.mov (.t 10)),none,[]⟩,
 ⟨(some 99),(.bin .mul (.t 97) (.t 98)),none,[]⟩,
 ⟨(some 2),(.mov (.t 99)),none,[]⟩] none)
 (.seq (.region [⟨(some 100),(.mov (.t 2)),none,[]⟩,
 ⟨(some 101),(.mov (.t 18)),none,[]⟩,
 ⟨(some 102),(.bin .sub (.t 101) (.c (.int .u8 48))),none,[]⟩,
 ⟨(some 103),(.conv .u64 (.t 102)),none,[]⟩,
 ⟨(some 104),(.bin .add (.t 100) (.t 103)),none,[]⟩,
 ⟨(some 2),(.mov (.t 104)),none,[]⟩] none)
 (.region [⟨(some 105),(.mov (.t 16)),none,[]⟩,
 ⟨(some 106),(.bin .add (.t 105) (.c (.int .i64 1))),none,[]⟩,
 ⟨(some 16),(.mov (.t 106)),none,[]⟩] none)))
 (.seq (.region [⟨(some 107),(.mov (.t 18)),none,[]⟩,
 ⟨(some 108),(.bin .neq (.t 107) (.c (.int .u8 48))),none,[]⟩] none)
 (.cond (.t 108)
 (.region [⟨(some 5),(.mov (.c (.bool true))),none,[]⟩] none)
 .skip))))
 (.exit 2)))))
 (.seq (.region [⟨(some 110),(.mov (.t 10)),none,[]⟩,
 ⟨(some 111),(.bin .eql (.t 110) (.c (.int .u64 16))),none,[]⟩,
 ⟨(some 112),(.mov (.t 111)),none,[]⟩,
 ⟨(some 113),(.mov (.t 18)),(some (112,true)),[]⟩,
 ⟨(some 114),(.call (.f 107) [(.t 113)]),(some (112,true)),[]⟩,
 ⟨(some 115),(.bin .leq (.c (.int .u8 97)) (.t 114)),(some (112,true)),[]⟩,
 ⟨(some 116),(.pick (.t 112) (.t 115) (.c (.bool false))),none,[]⟩,
 ⟨(some 117),(.mov (.t 116)),none,[]⟩,
 ⟨(some 118),(.mov (.t 18)),(some (117,true)),[]⟩,
 ⟨(some 119),(.call (.f 107) [(.t 118)]),(some (117,true)),[]⟩,
 ⟨(some 120),(.bin .leq (.t 119) (.c (.int .u8 102))),(some (117,true)),[]⟩,
 ⟨(some 121),(.pick (.t 117) (.t 120) (.c (.bool false))),none,[]⟩,
 ⟨(some 122),(.eqv false .bool false (.c (.bool true)) (.t 121)),none,[]⟩,
 ⟨(some 109),(.mov (.t 122)),none,[]⟩] none)
 (.cond (.t 109)
 (.seq (.region [⟨(some 14),(.mov (.c (.bool true))),none,[]⟩] none)
 (.seq (.region [⟨(some 123),(.mov (.t 15)),none,[]⟩,
 ⟨(some 124),(.bin .add (.t 123) (.c (.int .i64 1))),none,[]⟩,
 ⟨(some 15),(.mov (.t 124)),none,[]⟩] none)
 (.seq (.seq (.region [⟨(some 125),(.mov (.t 16)),none,[]⟩,
 ⟨(some 126),(.mov (.t 11)),none,[]⟩,
 ⟨(some 127),(.bin .lss (.t 125) (.t 126)),none,[]⟩] none)
 (.cond (.t 127)
 (.seq (.region [⟨(some 128),(.mov (.t 2)),none,[]⟩,
 ⟨(some 129),(.bin .mul (.t 128) (.c (.int .u64 16))),none,[]⟩,
 ⟨(some 2),(.mov (.t 129)),none,[]⟩] none)
 (.seq (.region [⟨(some 130),(.mov (.t 2)),none,[]⟩,
 ⟨(some 131),(.mov (.t 18)),none,[]⟩,
 ⟨(some 132),(.call (.f 107) [(.t 131)]),none,[]⟩,
 ⟨(some 133),(.bin .sub (.t 132) (.c (.int .u8 97))),none,[]⟩,
 ⟨(some 134),(.bin .add (.t 133) (.c (.int .u8 10))),none,[]⟩,
 ⟨(some 135),(.conv .u64 (.t 134)),none,[]⟩,
 ⟨(some 136),(.bin .add (.t 130) (.t 135)),none,[]⟩,
 ⟨(some 2),(.mov (.t 136)),none,[]⟩] none)
 (.region [⟨(some 137),(.mov (.t 16)),none,[]⟩,
 ⟨(some 138),(.bin .add (.t 137) (.c (.int .i64 1))),none,[]⟩,
 ⟨(some 16),(.mov (.t 138)),none,[]⟩] none)))
 (.region [⟨(some 5),(.mov (.c (.bool true))),none,[]⟩] none)))
 (.exit 2))))
 .skip))))))))))
 (.exit 1)))
 (.region [⟨(some 61),(.mov (.t 7)),none,[]⟩,
 ⟨(some 62),(.bin .add (.t 61) (.c (.int .i64 1))),none,[]⟩,
 ⟨(some 7),(.mov (.t 62)),none,[]⟩] none)))
def F92L1 : ACode := (.seq (.seq (.region [⟨(some 195),(.mov (.t 7)),none,[]⟩,
 ⟨(some 196),(.mov (.t 0)),none,[]⟩,
 ⟨(some 197),(.lenStr (.t 196)),none,[]⟩,
 ⟨(some 198),(.bin .lss (.t 195) (.t 197)),none,[]⟩,
 ⟨(some 199),(.mov (.t 198)),none,[]⟩,
 ⟨(some 200),(.mov (.t 0)),(some (199,true)),[]⟩,
 ⟨(some 201),(.mov (.t 7)),(some (199,true)),[]⟩,
 ⟨(some 202),(.indexStr (.t 200) (.t 201)),(some (199,true)),[]⟩,
 ⟨(some 203),(.bin .leq (.c (.int .u8 48)) (.t 202)),(some (199,true)),[]⟩,
 ⟨(some 204),(.mov (.t 203)),(some (199,true)),[]⟩,
 ⟨(some 205),(.mov (.t 0)),(some (204,true)),[]⟩,
 ⟨(some 206),(.mov (.t 7)),(some (204,true)),[]⟩,
 ⟨(some 207),(.indexStr (.t 205) (.t 206)),(some (204,true)),[]⟩,
 ⟨(some 208),(.bin .leq (.t 207) (.c (.int .u8 57))),(some (204,true)),[]⟩,
 ⟨(some 209),(.pick (.t 204) (.t 208) (.c (.bool false))),(some (199,true)),[]⟩,
 ⟨(some 210),(.mov (.t 209)),(some (199,true)),[]⟩,
 ⟨(some 211),(.mov (.t 0)),(some (210,false)),[]⟩,
 ⟨(some 212),(.mov (.t 7)),(some (210,false)),[]⟩,
 ⟨(some 213),(.indexStr (.t 211) (.t 212)),(some (210,false)),[]⟩,
 ⟨(some 214),(.bin .eql (.t 213) (.c (.int .u8 95))),(some (210,false)),[]⟩,
 ⟨(some 215),(.pick (.t 210) (.c (.bool true)) (.t 214)),(some (199,true)),[]⟩,
 ⟨(some 216),(.pick (.t 199) (.t 215) (.c (.bool false))),none,[]⟩] none)
 (.cond (.t 216)
 .skip
 (.exit 5)))
 (.seq (.block 6 (.seq (.seq (.region [⟨(some 219),(.mov (.t 0)),none,[]⟩,
 ⟨(some 220),(.mov (.t 7)),none,[]⟩,
 ⟨(some 221),(.indexStr (.t 219) (.t 220)),none,[]⟩,
 ⟨(some 222),(.bin .eql (.t 221) (.c (.int .u8 95))),none,[]⟩] none)
 (.cond (.t 222)
 (.seq (.region [⟨(some 9),(.mov (.c (.bool true))),none,[]⟩] none)
 (.exit 6))
 .skip))
 (.seq (.region [⟨(some 223),(.mov (.t 20)),none,[]⟩,
 ⟨(some 224),(.bin .lss (.t 223) (.c (.int .i64 10000))),none,[]⟩] none)
 (.cond (.t 224)
 (.region [⟨(some 225),(.mov (.t 20)),none,[]⟩,
 ⟨(some 226),(.bin .mul (.t 225) (.c (.int .i64 10))),none,[]⟩,
 ⟨(some 227),(.mov (.t 0)),none,[]⟩,
 ⟨(some 228),(.mov (.t 7)),none,[]⟩,
 ⟨(some 229),(.indexStr (.t 227) (.t 228)),none,[]⟩,
 ⟨(some 230),(.conv .i64 (.t 229)),none,[]⟩,
 ⟨(some 231),(.bin .add (.t 226) (.t 230)),none,[]⟩,
 ⟨(some 232),(.bin .sub (.t 231) (.c (.int .i64 48))),none,[]⟩,
 ⟨(some 20),(.mov (.t 232)),none,[]⟩] none)
 .skip))))
 (.region [⟨(some 217),(.mov (.t 7)),none,[]⟩,
 ⟨(some 218),(.bin .add (.t 217) (.c (.int .i64 1))),none,[]⟩,
 ⟨(some 7),(.mov (.t 218)),none,[]⟩] none)))
def B92 : ACode := (.seq (.region [⟨(some 2),(.mov (.c (.int .u64 0))),none,[]⟩,
 ⟨(some 3),(.mov (.c (.int .i64 0))),none,[]⟩,
 ⟨(some 4),(.mov (.c (.bool false))),none,[]⟩,
 ⟨(some 5),(.mov (.c (.bool false))),none,[]⟩,
 ⟨(some 6),(.mov (.c (.bool false))),none,[]⟩,
 ⟨(some 7),(.mov (.c (.int .i64 0))),none,[]⟩,
 ⟨(some 8),(.mov (.c (.bool false))),none,[]⟩] none)
 (.scope (.seq (.region [⟨(some 9),(.mov (.c (.bool false))),none,[]⟩] none)
 (.seq (.seq (.region [⟨(some 21),(.mov (.t 7)),none,[]⟩,
 ⟨(some 22),(.mov (.t 0)),none,[]⟩,
 ⟨(some 23),(.lenStr (.t 22)),none,[]⟩,
 ⟨(some 24),(.bin .geq (.t 21) (.t 23)),none,[]⟩] none)
 (.cond (.t 24)
 .ret
 .skip))
 (.seq (.seq (.region [⟨(some 25),(.mov (.t 0)),none,[]⟩,
 ⟨(some 26),(.mov (.t 7)),none,[]⟩,
 ⟨(some 27),(.indexStr (.t 25) (.t 26)),none,[]⟩] none)
 (.block 0 (.seq (.region [⟨(some 29),(.bin .eql (.t 27) (.c (.int .u8 43))),none,[]⟩,
 ⟨(some 28),(.mov (.t 29)),none,[]⟩] none)
 (.cond (.t 28)
 (.region [⟨(some 30),(.mov (.t 7)),none,[]⟩,
 ⟨(some 31),(.bin .add (.t 30) (.c (.int .i64 1))),none,[]⟩,
 ⟨(some 7),(.mov (.t 31)),none,[]⟩] none)
 (.seq (.region [⟨(some 33),(.bin .eql (.t 27) (.c (.int .u8 45))),none,[]⟩,
 ⟨(some 32),(.mov (.t 33)),none,[]⟩] none)
 (.cond (.t 32)
 (.seq (.region [⟨(some 34),(.mov (.t 7)),none,[]⟩,
 ⟨(some 35),(.bin .add (.t 34) (.c (.int .i64 1))),none,[]⟩,
 ⟨(some 7),(.mov (.t 35)),none,[]⟩] none)
 (.region [⟨(some 4),(.mov (.c (.bool true))),none,[]⟩] none))
 .skip))))))
 (.seq (.region [⟨(some 10),(.mov (.c (.int .u64 10))),none,[]⟩] none)
 (.seq (.region [⟨(some 11),(.mov (.c (.int .i64 19))),none,[]⟩] none)
 (.seq (.region [⟨(some 12),(.mov (.c (.int .u8 101))),none,[]⟩] none)
 (.seq (.seq (.region [⟨(some 36),(.mov (.t 7)),none,[]⟩,
 ⟨(some 37),(.bin .add (.t 36) (.c (.int .i64 2))),none,[]⟩,
 ⟨(some 38),(.mov (.t 0)),none,[]⟩,
 ⟨(some 39),(.lenStr (.t 38)),none,[]⟩,
 ⟨(some 40),(.bin .lss (.t 37) (.t 39)),none,[]⟩,
 ⟨(some 41),(.mov (.t 40)),none,[]⟩,
 ⟨(some 42),(.mov (.t 0)),(some (41,true)),[]⟩,
 ⟨(some 43),(.mov (.t 7)),(some (41,true)),[]⟩,
 ⟨(some 44),(.indexStr (.t 42) (.t 43)),(some (41,true)),[]⟩,
 ⟨(some 45),(.bin .eql (.t 44) (.c (.int .u8 48))),(some (41,true)),[]⟩,
 ⟨(some 46),(.pick (.t 41) (.t 45) (.c (.bool false))),none,[]⟩,
 ⟨(some 47),(.mov (.t 46)),none,[]⟩,
 ⟨(some 48),(.mov (.t 0)),(some (47,true)),[]⟩,
 ⟨(some 49),(.mov (.t 7)),(some (47,true)),[]⟩,
 ⟨(some 50),(.bin .add (.t 49) (.c (.int .i64 1))),(some (47,true)),[]⟩,
 ⟨(some 51),(.indexStr (.t 48) (.t 50)),(some (47,true)),[]⟩,
 ⟨(some 52),(.call (.f 107) [(.t 51)]),(some (47,true)),[]⟩,
 ⟨(some 53),(.bin .eql (.t 52) (.c (.int .u8 120))),(some (47,true)),[]⟩,
 ⟨(some 54),(.pick (.t 47) (.t 53) (.c (.bool false))),none,[]⟩] none)
 (.cond (.t 54)
 (.seq (.region [⟨(some 10),(.mov (.c (.int .u64 16))),none,[]⟩] none)
 (.seq (.region [⟨(some 11),(.mov (.c (.int .i64 16))),none,[]⟩] none)
 (.seq (.region [⟨(some 55),(.mov (.t 7)),none,[]⟩,
 ⟨(some 56),(.bin .add (.t 55) (.c (.int .i64 2))),none,[]⟩,
 ⟨(some 7),(.mov (.t 56)),none,[]⟩] none)
 (.seq (.region [⟨(some 12),(.mov (.c (.int .u8 112))),none,[]⟩] none)
 (.region [⟨(some 6),(.mov (.c (.bool true))),none,[]⟩] none)))))
 .skip))
 (.seq (.region [⟨(some 13),(.mov (.c (.bool false))),none,[]⟩] none)
 (.seq (.region [⟨(some 14),(.mov (.c (.bool false))),none,[]⟩] none)
 (.seq (.region [⟨(some 15),(.mov (.c (.int .i64 0))),none,[]⟩] none)
 (.seq (.region [⟨(some 16),(.mov (.c (.int .i64 0))),none,[]⟩] none)
 (.seq (.region [⟨(some 17),(.mov (.c (.int .i64 0))),none,[]⟩] none)
 (.seq (.label 0)
 (.seq (.block 1 (.loop F92L0))
 (.seq (.seq (.region [⟨(some 139),(.mov (.t 14)),none,[]⟩,
 ⟨(some 140),(.un .not (.t 139)),none,[]⟩] none)
 (.cond (.t 140)
 .ret
 .skip))
 (.seq (.seq (.region [⟨(some 141),(.mov (.t 13)),none,[]⟩,
 ⟨(some 142),(.un .not (.t 141)),none,[]⟩] none)
 (.cond (.t 142)
 (.region [⟨(some 143),(.mov (.t 15)),none,[]⟩,
 ⟨(some 17),(.mov (.t 143)),none,[]⟩] none)
 .skip))
 (.seq (.seq (.region [⟨(some 144),(.mov (.t 10)),none,[]⟩,
 ⟨(some 145),(.bin .eql (.t 144) (.c (.int .u64 16))),none,[]⟩] none)
 (.cond (.t 145)
 (.seq (.region [⟨(some 146),(.mov (.t 17)),none,[]⟩,
 ⟨(some 147),(.bin .mul (.t 146) (.c (.int .i64 4))),none,[]⟩,
 ⟨(some 17),(.mov (.t 147)),none,[]⟩] none)
 (.region [⟨(some 148),(.mov (.t 16)),none,[]⟩,
 ⟨(some 149),(.bin .mul (.t 148) (.c (.int .i64 4))),none,[]⟩,
 ⟨(some 16),(.mov (.t 149)),none,[]⟩] none))
 .skip))
 (.seq (.seq (.region [⟨(some 150),(.mov (.t 7)),none,[]⟩,
 ⟨(some 151),(.mov (.t 0)),none,[]⟩,
 ⟨(some 152),(.lenStr (.t 151)),none,[]⟩,
 ⟨(some 153),(.bin .lss (.t 150) (.t 152)),none,[]⟩,
 ⟨(some 154),(.mov (.t 153)),none,[]⟩,
 ⟨(some 155),(.mov (.t 0)),(some (154,true)),[]⟩,
 ⟨(some 156),(.mov (.t 7)),(some (154,true)),[]⟩,
 ⟨(some 157),(.indexStr (.t 155) (.t 156)),(some (154,true)),[]⟩,
 ⟨(some 158),(.call (.f 107) [(.t 157)]),(some (154,true)),[]⟩,
 ⟨(some 159),(.mov (.t 12)),(some (154,true)),[]⟩,
 ⟨(some 160),(.bin .eql (.t 158) (.t 159)),(some (154,true)),[]⟩,
 ⟨(some 161),(.pick (.t 154) (.t 160) (.c (.bool false))),none,[]⟩] none)
 (.cond (.t 161)
 (.seq (.region [⟨(some 162),(.mov (.t 7)),none,[]⟩,
 ⟨(some 163),(.bin .add (.t 162) (.c (.int .i64 1))),none,[]⟩,
 ⟨(some 7),(.mov (.t 163)),none,[]⟩] none)
 (.seq (.seq (.region [⟨(some 164),(.mov (.t 7)),none,[]⟩,
 ⟨(some 165),(.mov (.t 0)),none,[]⟩,
 ⟨(some 166),(.lenStr (.t 165)),none,[]⟩,
 ⟨(some 167),(.bin .geq (.t 164) (.t 166)),none,[]⟩] none)
 (.cond (.t 167)
 .ret
 .skip))
 (.seq (.region [⟨(some 19),(.mov (.c (.int .i64 1))),none,[]⟩] none)
 (.seq (.seq (.region [⟨(some 168),(.mov (.t 0)),none,[]⟩,
 ⟨(some 169),(.mov (.t 7)),none,[]⟩,
 ⟨(some 170),(.indexStr (.t 168) (.t 169)),none,[]⟩] none)
 (.block 4 (.seq (.region [⟨(some 172),(.bin .eql (.t 170) (.c (.int .u8 43))),none,[]⟩,
 ⟨(some 171),(.mov (.t 172)),none,[]⟩] none)
 (.cond (.t 171)
 (.region [⟨(some 173),(.mov (.t 7)),none,[]⟩,
 ⟨(some 174),(.bin .add (.t 173) (.c (.int .i64 1))),none,[]⟩,
 ⟨(some 7),(.mov (.t 174)),none,[]⟩] none)
 (.seq (.region [⟨(some 176),(.bin .eql (.t 170) (.c (.int .u8 45))),none,[]⟩,
 ⟨(some 175),(.mov (.t 176)),none,[]⟩] none)
 (.cond (.t 175)
 (.seq (.region [⟨(some 177),(.mov (.t 7)),none,[]⟩,
 ⟨(some 178),(.bin .add (.t 177) (.c (.int .i64 1))),none,[]⟩,
 ⟨(some 7),(.mov (.t 178)),none,[]⟩] none)
 (.region [⟨(some 19),(.mov (.c (.int .i64 (-1)))),none,[]⟩] none))
 .skip))))))
 (.seq (.seq (.region [⟨(some 179),(.mov (.t 7)),none,[]⟩,
 ⟨(some 180),(.mov (.t 0)),none,[]⟩,
 ⟨(some 181),(.lenStr (.t 180)),none,[]⟩,
 ⟨(some 182),(.bin .geq (.t 179) (.t 181)),none,[]⟩,
 ⟨(some 183),(.mov (.t 182)),none,[]⟩,
 ⟨(some 184),(.mov (.t 0)),(some (183,false)),[]⟩,
 ⟨(some 185),(.mov (.t 7)),(some (183,false)),[]⟩,
 ⟨(some 186),(.indexStr (.t 184) (.t 185)),(some (183,false)),[]⟩,
 ⟨(some 187),(.bin .lss (.t 186) (.c (.int .u8 48))),(some (183,false)),[]⟩,
 ⟨(some 188),(.pick (.t 183) (.c (.bool true)) (.t 187)),none,[]⟩,
 ⟨(some 189),(.mov (.t 188)),none,[]⟩,
 ⟨(some 190),(.mov (.t 0)),(some (189,false)),[]⟩,
 ⟨(some 191),(.mov (.t 7)),(some (189,false)),[]⟩,
 ⟨(some 192),(.indexStr (.t 190) (.t 191)),(some (189,false)),[]⟩,
 ⟨(some 193),(.bin .gtr (.t 192) (.c (.int .u8 57))),(some (189,false)),[]⟩,
 ⟨(some 194),(.pick (.t 189) (.c (.bool true)) (.t 193)),none,[]⟩] none)
 (.cond (.t 194)
 .ret
 .skip))
 (.seq (.region [⟨(some 20),(.mov (.c (.int .i64 0))),none,[]⟩] none)
 (.seq (.block 5 (.loop F92L1))
 (.region [⟨(some 233),(.mov (.t 17)),none,[]⟩,
 ⟨(some 234),(.mov (.t 20)),none,[]⟩,
 ⟨(some 235),(.mov (.t 19)),none,[]⟩,
 ⟨(some 236),(.bin .mul (.t 234) (.t 235)),none,[]⟩,
 ⟨(some 237),(.bin .add (.t 233) (.t 236)),none,[]⟩,
 ⟨(some 17),(.mov (.t 237)),none,[]⟩] none))))))))
 (.seq (.region [⟨(some 238),(.mov (.t 10)),none,[]⟩,
 ⟨(some 239),(.bin .eql (.t 238) (.c (.int .u64 16))),none,[]⟩] none)
 (.cond (.t 239)
 .ret
 .skip))))
 (.seq (.seq (.region [⟨(some 240),(.mov (.t 2)),none,[]⟩,
 ⟨(some 241),(.bin .neq (.t 240) (.c (.int .u64 0))),none,[]⟩] none)
 (.cond (.t 241)
 (.region [⟨(some 242),(.mov (.t 17)),none,[]⟩,
 ⟨(some 243),(.mov (.t 16)),none,[]⟩,
 ⟨(some 244),(.bin .sub (.t 242) (.t 243)),none,[]⟩,
 ⟨(some 3),(.mov (.t 244)),none,[]⟩] none)
 .skip))
 (.seq (.seq (.region [⟨(some 245),(.mov (.t 9)),none,[]⟩,
 ⟨(some 246),(.mov (.t 245)),none,[]⟩,
 ⟨(some 247),(.mov (.t 0)),(some (246,true)),[]⟩,
 ⟨(some 248),(.mov (.t 7)),(some (246,true)),[]⟩,
 ⟨(some 249),(.sliceStr (.t 247) none (some (.t 248))),(some (246,true)),[]⟩,
 ⟨(some 250),(.call (.f 131) [(.t 249)]),(some (246,true)),[]⟩,
 ⟨(some 251),(.un .not (.t 250)),(some (246,true)),[]⟩,
 ⟨(some 252),(.pick (.t 246) (.t 251) (.c (.bool false))),none,[]⟩] none)
 (.cond (.t 252)
 .ret
 .skip))
 (.seq (.region [⟨(some 8),(.mov (.c (.bool true))),none,[]⟩] none)
 .ret)))))))))))))))))))))))
def F92 : AFunc := ⟨1,253,[(.tmp 2),(.tmp 3),(.tmp 4),(.tmp 5),(.tmp 6),(.tmp 7),(.tmp 8)],B92⟩

def R98_0 : ACode := .region [⟨(some 92),(.mov (.t 0)),none,[]⟩,
 ⟨(some 93),(.mov (.t 0)),none,[]⟩,
 ⟨(some 94),(.nilCheck (.t 93)),none,[1]⟩,
 ⟨(some 95),(.fieldAddr 800 (.t 94)),none,[2]⟩,
 ⟨(some 96),(.load none (.t 95)),none,[3]⟩,
 ⟨(some 97),(.mov (.t 1)),none,[]⟩,
 ⟨(some 98),(.mov (.t 5)),none,[]⟩,
 ⟨(some 99),(.indexStr (.t 97) (.t 98)),none,[5,6]⟩,
 ⟨(some 100),(.nilCheck (.t 92)),none,[0]⟩,
 ⟨(some 101),(.fieldAddr 0 (.t 100)),none,[8]⟩,
 ⟨(some 102),(.indexArr 1 800 (.t 101) (.t 96)),none,[9,4,0,1,2,3,4,5,6,7]⟩,
 ⟨none,(.store 1 (.t 102) (.t 99)),none,[10,7,0,1,2,3,4,5,6,7]⟩] (some [(0,1),(0,2),(0,3),(0,4),(0,5),(1,5),(2,5),(3,5),(4,5),(0,6),(1,6),(2,6),(3,6),(4,6),(5,6),(0,7),(1,7),(2,7),(3,7),(4,7),(1,8),(2,8),(3,8),(4,8),(5,8),(6,8),(7,8),(1,9),(2,9),(3,9),(4,9),(5,9),(6,9),(7,9)])
def F98L0 : ACode := (.seq (.seq (.region [⟨(some 34),(.mov (.t 5)),none,[]⟩,
 ⟨(some 35),(.mov (.t 1)),none,[]⟩,
 ⟨(some 36),(.lenStr (.t 35)),none,[]⟩,
 ⟨(some 37),(.bin .lss (.t 34) (.t 36)),none,[]⟩] none)
 (.cond (.t 37)
 .skip
 (.exit 1)))
 (.seq (.block 2 (.seq (.block 3 (.seq (.region [⟨(some 41),(.mov (.t 1)),none,[]⟩,
 ⟨(some 42),(.mov (.t 5)),none,[]⟩,
 ⟨(some 43),(.indexStr (.t 41) (.t 42)),none,[]⟩,
 ⟨(some 44),(.bin .eql (.t 43) (.c (.int .u8 95))),none,[]⟩,
 ⟨(some 40),(.mov (.t 44)),none,[]⟩] none)
 (.cond (.t 40)
 (.exit 2)
 (.seq (.region [⟨(some 46),(.mov (.t 1)),none,[]⟩,
 ⟨(some 47),(.mov (.t 5)),none,[]⟩,
 ⟨(some 48),(.indexStr (.t 46) (.t 47)),none,[]⟩,
 ⟨(some 49),(.bin .eql (.t 48) (.c (.int .u8 46))),none,[]⟩,
 ⟨(some 45),(.mov (.t 49)),none,[]⟩] none)
 (.cond (.t 45)
 (.seq (.seq (.region [⟨(some 50),(.mov (.t 6)),none,[]⟩] none)
 (.cond (.t 50)
 .ret
 .skip))
 (.seq (.region [⟨(some 6),(.mov (.c (.bool true))),none,[]⟩] none)
 (.seq (.region [⟨(some 51),(.mov (.t 0)),none,[]⟩,
 ⟨(some 52),(.mov (.t 0)),none,[]⟩,
 ⟨(some 53),(.nilCheck (.t 52)),none,[]⟩,
 ⟨(some 54),(.fieldAddr 800 (.t 53)),none,[]⟩,
 ⟨(some 55),(.load none (.t 54)),none,[]⟩,
 ⟨(some 56),(.nilCheck (.t 51)),none,[]⟩,
 ⟨(some 57),(.fieldAddr 801 (.t 56)),none,[]⟩,
 ⟨none,(.store 1 (.t 57) (.t 55)),none,[]⟩] none)
 (.exit 2))))
 (.seq (.region [⟨(some 59),(.mov (.t 1)),none,[]⟩,
 ⟨(some 60),(.mov (.t 5)),none,[]⟩,
 ⟨(some 61),(.indexStr (.t 59) (.t 60)),none,[]⟩,
 ⟨(some 62),(.bin .leq (.c (.int .u8 48)) (.t 61)),none,[]⟩,
 ⟨(some 63),(.mov (.t 62)),none,[]⟩,
 ⟨(some 64),(.mov (.t 1)),(some (63,true)),[]⟩,
 ⟨(some 65),(.mov (.t 5)),(some (63,true)),[]⟩,
 ⟨(some 66),(.indexStr (.t 64) (.t 65)),(some (63,true)),[]⟩,
 ⟨(some 67),(.bin .leq (.t 66) (.c (.int .u8 57))),(some (63,true)),[]⟩,
 ⟨(some 68),(.pick (.t 63) (.t 67) (.c (.bool false))),none,[]⟩,
 ⟨(some 58),(.mov (.t 68)),none,[]⟩] none)
 (.cond (.t 58)
 (.seq (.region [⟨(some 7),(.mov (.c (.bool true))),none,[]⟩] none)
 (.seq (.seq (.region [⟨(some 69),(.mov (.t 1)),none,[]⟩,
 ⟨(some 70),(.mov (.t 5)),none,[]⟩,
 ⟨(some 71),(.indexStr (.t 69) (.t 70)),none,[]⟩,
 ⟨(some 72),(.bin .eql (.t 71) (.c (.int .u8 48))),none,[]⟩,
 ⟨(some 73),(.mov (.t 72)),none,[]⟩,
 ⟨(some 74),(.mov (.t 0)),(some (73,true)),[]⟩,
 ⟨(some 75),(.nilCheck (.t 74)),(some (73,true)),[]⟩,
 ⟨(some 76),(.fieldAddr 800 (.t 75)),(some (73,true)),[]⟩,
 ⟨(some 77),(.load none (.t 76)),(some (73,true)),[]⟩,
 ⟨(some 78),(.bin .eql (.t 77) (.c (.int .i64 0))),(some (73,true)),[]⟩,
 ⟨(some 79),(.pick (.t 73) (.t 78) (.c (.bool false))),none,[]⟩] none)
 (.cond (.t 79)
 (.seq (.region [⟨(some 80),(.mov (.t 0)),none,[]⟩,
 ⟨(some 81),(.nilCheck (.t 80)),none,[]⟩,
 ⟨(some 82),(.fieldAddr 801 (.t 81)),none,[]⟩,
 ⟨(some 83),(.load none (.t 82)),none,[]⟩,
 ⟨(some 84),(.bin .sub (.t 83) (.c (.int .i64 1))),none,[]⟩,
 ⟨(some 85),(.nilCheck (.t 80)),none,[]⟩,
 ⟨(some 86),(.fieldAddr 801 (.t 85)),none,[]⟩,
 ⟨none,(.store 1 (.t 86) (.t 84)),none,[]⟩] none)
 (.exit 2))
 .skip))
 (.seq (.seq (.region [⟨(some 87),(.mov (.t 0)),none,[]⟩,
 ⟨(some 88),(.nilCheck (.t 87)),none,[]⟩,
 ⟨(some 89),(.fieldAddr 800 (.t 88)),none,[]⟩,
 ⟨(some 90),(.load none (.t 89)),none,[]⟩,
 ⟨(some 91),(.bin .lss (.t 90) (.c (.int .i64 800))),none,[]⟩] none)
 (.cond (.t 91)
 (.seq R98_0
 (.region [⟨(some 103),(.mov (.t 0)),none,[]⟩,
 ⟨(some 104),(.nilCheck (.t 103)),none,[]⟩,
 ⟨(some 105),(.fieldAddr 800 (.t 104)),none,[]⟩,
 ⟨(some 106),(.load none (.t 105)),none,[]⟩,
 ⟨(some 107),(.bin .add (.t 106) (.c (.int .i64 1))),none,[]⟩,
 ⟨(some 108),(.nilCheck (.t 103)),none,[]⟩,
 ⟨(some 109),(.fieldAddr 800 (.t 108)),none,[]⟩,
 ⟨none,(.store 1 (.t 109) (.t 107)),none,[]⟩] none))
 (.seq (.region [⟨(some 110),(.mov (.t 1)),none,[]⟩,
 ⟨(some 111),(.mov (.t 5)),none,[]⟩,
 ⟨(some 112),(.indexStr (.t 110) (.t 111)),none,[]⟩,
 ⟨(some 113),(.bin .neq (.t 112) (.c (.int .u8 48))),none,[]⟩] none)
 (.cond (.t 113)
 (.region [⟨(some 114),(.mov (.t 0)),none,[]⟩,
 ⟨(some 115),(.nilCheck (.t 114)),none,[]⟩,
 ⟨(some 116),(.fieldAddr 803 (.t 115)),none,[]⟩,
 ⟨none,(.store 1 (.t 116) (.c (.bool true))),none,[]⟩] none)
 .skip))))
 (.exit 2))))
 .skip)))))))
 (.exit 1)))
 (.region [⟨(some 38),(.mov (.t 5)),none,[]⟩,
 ⟨(some 39),(.bin .add (.t 38) (.c (.int .i64 1))),none,[]⟩,
 ⟨(some 5),(.mov (.t 39)),none,[]⟩] none)))
def F98L1 : ACode := (.seq (.seq (.region [⟨(some 172),(.mov (.t 5)),none,[]⟩,
 ⟨(some 173),(.mov (.t 1)),none,[]⟩,
 ⟨(some 174),(.lenStr (.t 173)),none,[]⟩,
 ⟨(some 175),(.bin .lss (.t 172) (.t 174)),none,[]⟩,
 ⟨(some 176),(.mov (.t 175)),none,[]⟩,
 ⟨(some 177),(.mov (.t 1)),(some (176,true)),[]⟩,
 ⟨(some 178),(.mov (.t 5)),(some (176,true)),[]⟩,
 ⟨(some 179),(.indexStr (.t 177) (.t 178)),(some (176,true)),[]⟩,
 ⟨(some 180),(.bin .leq (.c (.int .u8 48)) (.t 179)),(some (176,true)),[]⟩,
 ⟨(some 181),(.mov (.t 180)),(some (176,true)),[]⟩,
 ⟨(some 182),(.mov (.t 1)),(some (181,true)),[]⟩,
 ⟨(some 183),(.mov (.t 5)),(some (181,true)),[]⟩,
 ⟨(some 184),(.indexStr (.t 182) (.t 183)),(some (181,true)),[]⟩,
 ⟨(some 185),(.bin .leq (.t 184) (.c (.int .u8 57))),(some (181,true)),[]⟩,
 ⟨(some 186),(.pick (.t 181) (.t 185) (.c (.bool false))),(some (176,true)),[]⟩,
 ⟨(some 187),(.mov (.t 186)),(some (176,true)),[]⟩,
 ⟨(some 188),(.mov (.t 1)),(some (187,false)),[]⟩,
 ⟨(some 189),(.mov (.t 5)),(some (187,false)),[]⟩,
 ⟨(some 190),(.indexStr (.t 188) (.t 189)),(some (187,false)),[]⟩,
 ⟨(some 191),(.bin .eql (.t 190) (.c (.int .u8 95))),(some (187,false)),[]⟩,
 ⟨(some 192),(.pick (.t 187) (.c (.bool true)) (.t 191)),(some (176,true)),[]⟩,
 ⟨(some 193),(.pick (.t 176) (.t 192) (.c (.bool false))),none,[]⟩] none)
 (.cond (.t 193)
 .skip
 (.exit 5)))
 (.seq (.block 6 (.seq (.seq (.region [⟨(some 196),(.mov (.t 1)),none,[]⟩,
 ⟨(some 197),(.mov (.t 5)),none,[]⟩,
 ⟨(some 198),(.indexStr (.t 196) (.t 197)),none,[]⟩,
 ⟨(some 199),(.bin .eql (.t 198) (.c (.int .u8 95))),none,[]⟩] none)
 (.cond (.t 199)
 (.exit 6)
 .skip))
 (.seq (.region [⟨(some 200),(.mov (.t 9)),none,[]⟩,
 ⟨(some 201),(.bin .lss (.t 200) (.c (.int .i64 10000))),none,[]⟩] none)
 (.cond (.t 201)
 (.region [⟨(some 202),(.mov (.t 9)),none,[]⟩,
 ⟨(some 203),(.bin .mul (.t 202) (.c (.int .i64 10))),none,[]⟩,
 ⟨(some 204),(.mov (.t 1)),none,[]⟩,
 ⟨(some 205),(.mov (.t 5)),none,[]⟩,
 ⟨(some 206),(.indexStr (.t 204) (.t 205)),none,[]⟩,
 ⟨(some 207),(.conv .i64 (.t 206)),none,[]⟩,
 ⟨(some 208),(.bin .add (.t 203) (.t 207)),none,[]⟩,
 ⟨(some 209),(.bin .sub (.t 208) (.c (.int .i64 48))),none,[]⟩,
 ⟨(some 9),(.mov (.t 209)),none,[]⟩] none)
 .skip))))
 (.region [⟨(some 194),(.mov (.t 5)),none,[]⟩,
 ⟨(some 195),(.bin .add (.t 194) (.c (.int .i64 1))),none,[]⟩,
 ⟨(some 5),(.mov (.t 195)),none,[]⟩] none)))
def B98 : ACode := (.seq (.region [⟨(some 4),(.mov (.c (.bool false))),none,[]⟩] none)
 (.seq (.region [⟨(some 5),(.mov (.c (.int .i64 0))),none,[]⟩] none)
 (.seq (.region [⟨(some 10),(.mov (.t 0)),none,[]⟩,
 ⟨(some 11),(.nilCheck (.t 10)),none,[]⟩,
 ⟨(some 12),(.fieldAddr 802 (.t 11)),none,[]⟩,
 ⟨none,(.store 1 (.t 12) (.c (.bool false))),none,[]⟩] none)
 (.seq (.region [⟨(some 13),(.mov (.t 0)),none,[]⟩,
 ⟨(some 14),(.nilCheck (.t 13)),none,[]⟩,
 ⟨(some 15),(.fieldAddr 803 (.t 14)),none,[]⟩,
 ⟨none,(.store 1 (.t 15) (.c (.bool false))),none,[]⟩] none)
 (.seq (.seq (.region [⟨(some 16),(.mov (.t 5)),none,[]⟩,
 ⟨(some 17),(.mov (.t 1)),none,[]⟩,
 ⟨(some 18),(.lenStr (.t 17)),none,[]⟩,
 ⟨(some 19),(.bin .geq (.t 16) (.t 18)),none,[]⟩] none)
 (.cond (.t 19)
 .ret
 .skip))
 (.seq (.seq (.region [⟨(some 20),(.mov (.t 1)),none,[]⟩,
 ⟨(some 21),(.mov (.t 5)),none,[]⟩,
 ⟨(some 22),(.indexStr (.t 20) (.t 21)),none,[]⟩] none)
 (.block 0 (.seq (.region [⟨(some 24),(.bin .eql (.t 22) (.c (.int .u8 43))),none,[]⟩,
 ⟨(some 23),(.mov (.t 24)),none,[]⟩] none)
 (.cond (.t 23)
 (.region [⟨(some 25),(.mov (.t 5)),none,[]⟩,
 ⟨(some 26),(.bin .add (.t 25) (.c (.int .i64 1))),none,[]⟩,
 ⟨(some 5),(.mov (.t 26)),none,[]⟩] none)
 (.seq (.region [⟨(some 28),(.bin .eql (.t 22) (.c (.int .u8 45))),none,[]⟩,
 ⟨(some 27),(.mov (.t 28)),none,[]⟩] none)
 (.cond (.t 27)
 (.seq (.region [⟨(some 29),(.mov (.t 5)),none,[]⟩,
 ⟨(some 30),(.bin .add (.t 29) (.c (.int .i64 1))),none,[]⟩,
 ⟨(some 5),(.mov (.t 30)),none,[]⟩] none)
 (.region [⟨(some 31),(.mov (.t 0)),none,[]⟩,
 ⟨(some 32),(.nilCheck (.t 31)),none,[]⟩,
 ⟨(some 33),(.fieldAddr 802 (.t 32)),none,[]⟩,
 ⟨none,(.store 1 (.t 33) (.c (.bool true))),none,[]⟩] none))
 .skip))))))
 (.seq (.region [⟨(some 6),(.mov (.c (.bool false))),none,[]⟩] none)
 (.seq (.region [⟨(some 7),(.mov (.c (.bool false))),none,[]⟩] none)
 (.seq (.block 1 (.loop F98L0))
 (.seq (.seq (.region [⟨(some 117),(.mov (.t 7)),none,[]⟩,
 ⟨(some 118),(.un .not (.t 117)),none,[]⟩] none)
 (.cond (.t 118)
 .ret
 .skip))
 (.seq (.seq (.region [⟨(some 119),(.mov (.t 6)),none,[]⟩,
 ⟨(some 120),(.un .not (.t 119)),none,[]⟩] none)
 (.cond (.t 120)
 (.region [⟨(some 121),(.mov (.t 0)),none,[]⟩,
 ⟨(some 122),(.mov (.t 0)),none,[]⟩,
 ⟨(some 123),(.nilCheck (.t 122)),none,[]⟩,
 ⟨(some 124),(.fieldAddr 800 (.t 123)),none,[]⟩,
 ⟨(some 125),(.load none (.t 124)),none,[]⟩,
 ⟨(some 126),(.nilCheck (.t 121)),none,[]⟩,
 ⟨(some 127),(.fieldAddr 801 (.t 126)),none,[]⟩,
 ⟨none,(.store 1 (.t 127) (.t 125)),none,[]⟩] none)
 .skip))
 (.seq (.seq (.region [⟨(some 128),(.mov (.t 5)),none,[]⟩,
 ⟨(some 129),(.mov (.t 1)),none,[]⟩,
 ⟨(some 130),(.lenStr (.t 129)),none,[]⟩,
 ⟨(some 131),(.bin .lss (.t 128) (.t 130)),none,[]⟩,
 ⟨(some 132),(.mov (.t 131)),none,[]⟩,
 ⟨(some 133),(.mov (.t 1)),(some (132,true)),[]⟩,
 ⟨(some 134),(.mov (.t 5)),(some (132,true)),[]⟩,
 ⟨(some 135),(.indexStr (.t 133) (.t 134)),(some (132,true)),[]⟩,
 ⟨(some 136),(.call (.f 107) [(.t 135)]),(some (132,true)),[]⟩,
 ⟨(some 137),(.bin .eql (.t 136) (.c (.int .u8 101))),(some (132,true)),[]⟩,
 ⟨(some 138),(.pick (.t 132) (.t 137) (.c (.bool false))),none,[]⟩] none)
 (.cond (.t 138)
 (.seq (.region [⟨(some 139),(.mov (.t 5)),none,[]⟩,
 ⟨(some 140),(.bin .add (.t 139) (.c (.int .i64 1))),none,[]⟩,
 ⟨(some 5),(.mov (.t 140)),none,[]⟩] none)
 (.seq (.seq (.region [⟨(some 141),(.mov (.t 5)),none,[]⟩,
 ⟨(some 142),(.mov (.t 1)),none,[]⟩,
 ⟨(some 143),(.lenStr (.t 142)),none,[]⟩,
 ⟨(some 144),(.bin .geq (.t 141) (.t 143)),none,[]⟩] none)
 (.cond (.t 144)
 .ret
 .skip))
 (.seq (.region [⟨(some 8),(.mov (.c (.int .i64 1))),none,[]⟩] none)
 (.seq (.seq (.region [⟨(some 145),(.mov (.t 1)),none,[]⟩,
 ⟨(some 146),(.mov (.t 5)),none,[]⟩,
 ⟨(some 147),(.indexStr (.t 145) (.t 146)),none,[]⟩] none)
 (.block 4 (.seq (.region [⟨(some 149),(.bin .eql (.t 147) (.c (.int .u8 43))),none,[]⟩,
 ⟨(some 148),(.mov (.t 149)),none,[]⟩] none)
 (.cond (.t 148)
 (.region [⟨(some 150),(.mov (.t 5)),none,[]⟩,
 ⟨(some 151),(.bin .add (.t 150) (.c (.int .i64 1))),none,[]⟩,
 ⟨(some 5),(.mov (.t 151)),none,[]⟩] none)
 (.seq (.region [⟨(some 153),(.bin .eql (.t 147) (.c (.int .u8 45))),none,[]⟩,
 ⟨(some 152),(.mov (.t 153)),none,[]⟩] none)
 (.cond (.t 152)
 (.seq (.region [⟨(some 154),(.mov (.t 5)),none,[]⟩,
 ⟨(some 155),(.bin .add (.t 154) (.c (.int .i64 1))),none,[]⟩,
 ⟨(some 5),(.mov (.t 155)),none,[]⟩] none)
 (.region [⟨(some 8),(.mov (.c (.int .i64 (-1)))),none,[]⟩] none))
 .skip))))))
 (.seq (.seq (.region [⟨(some 156),(.mov (.t 5)),none,[]⟩,
 ⟨(some 157),(.mov (.t 1)),none,[]⟩,
 ⟨(some 158),(.lenStr (.t 157)),none,[]⟩,
 ⟨(some 159),(.bin .geq (.t 156) (.t 158)),none,[]⟩,
 ⟨(some 160),(.mov (.t 159)),none,[]⟩,
 ⟨(some 161),(.mov (.t 1)),(some (160,false)),[]⟩,
 ⟨(some 162),(.mov (.t 5)),(some (160,false)),[]⟩,
 ⟨(some 163),(.indexStr (.t 161) (.t 162)),(some (160,false)),[]⟩,
 ⟨(some 164),(.bin .lss (.t 163) (.c (.int .u8 48))),(some (160,false)),[]⟩,
 ⟨(some 165),(.pick (.t 160) (.c (.bool true)) (.t 164)),none,[]⟩,
 ⟨(some 166),(.mov (.t 165)),none,[]⟩,
 ⟨(some 167),(.mov (.t 1)),(some (166,false)),[]⟩,
 ⟨(some 168),(.mov (.t 5)),(some (166,false)),[]⟩,
 ⟨(some 169),(.indexStr (.t 167) (.t 168)),(some (166,false)),[]⟩,
 ⟨(some 170),(.bin .gtr (.t 169) (.c (.int .u8 57))),(some (166,false)),[]⟩,
 ⟨(some 171),(.pick (.t 166) (.c (.bool true)) (.t 170)),none,[]⟩] none)
 (.cond (.t 171)
 .ret
 .skip))
 (.seq (.region [⟨(some 9),(.mov (.c (.int .i64 0))),none,[]⟩] none)
 (.seq (.block 5 (.loop F98L1))
 (.region [⟨(some 210),(.mov (.t 0)),none,[]⟩,
 ⟨(some 211),(.nilCheck (.t 210)),none,[]⟩,
 ⟨(some 212),(.fieldAddr 801 (.t 211)),none,[]⟩,
 ⟨(some 213),(.load none (.t 212)),none,[]⟩,
 ⟨(some 214),(.mov (.t 9)),none,[]⟩,
 ⟨(some 215),(.mov (.t 8)),none,[]⟩,
 ⟨(some 216),(.bin .mul (.t 214) (.t 215)),none,[]⟩,
 ⟨(some 217),(.bin .add (.t 213) (.t 216)),none,[]⟩,
 ⟨(some 218),(.nilCheck (.t 210)),none,[]⟩,
 ⟨(some 219),(.fieldAddr 801 (.t 218)),none,[]⟩,
 ⟨none,(.store 1 (.t 219) (.t 217)),none,[]⟩] none))))))))
 .skip))
 (.seq (.seq (.region [⟨(some 220),(.mov (.t 5)),none,[]⟩,
 ⟨(some 221),(.mov (.t 1)),none,[]⟩,
 ⟨(some 222),(.lenStr (.t 221)),none,[]⟩,
 ⟨(some 223),(.bin .neq (.t 220) (.t 222)),none,[]⟩] none)
 (.cond (.t 223)
 .ret
 .skip))
 (.seq (.region [⟨(some 4),(.mov (.c (.bool true))),none,[]⟩] none)
 .ret))))))))))))))
def F98 : AFunc := ⟨2,224,[(.tmp 4)],B98⟩

def R99_0 : ACode := .region [⟨(some 40),(.mov (.t 0)),none,[]⟩,
 ⟨(some 41),(.nilCheck (.t 40)),none,[0]⟩,
 ⟨(some 42),(.fieldAddr 801 (.t 41)),none,[1]⟩,
 ⟨(some 43),(.load none (.t 42)),none,[2]⟩,
 ⟨(some 44),(.load none (.g 12)),none,[]⟩,
 ⟨(some 45),(.lenSlice (.t 44)),none,[4]⟩,
 ⟨(some 46),(.bin .geq (.t 43) (.t 45)),none,[3,5]⟩] (some [(0,4),(1,4),(2,4),(3,4),(0,5),(1,5),(2,5),(3,5)])
def R99_1 : ACode := .region [⟨(some 47),(.load none (.g 12)),none,[]⟩,
 ⟨(some 48),(.mov (.t 0)),none,[]⟩,
 ⟨(some 49),(.nilCheck (.t 48)),none,[1]⟩,
 ⟨(some 50),(.fieldAddr 801 (.t 49)),none,[2]⟩,
 ⟨(some 51),(.load none (.t 50)),none,[3]⟩,
 ⟨(some 52),(.indexAddr 1 (.t 47) (.t 51)),none,[0,4]⟩,
 ⟨(some 53),(.load none (.t 52)),none,[5]⟩,
 ⟨(some 8),(.mov (.t 53)),none,[6,0,1,2,3,4,5,6]⟩] (some [(0,1),(0,2),(0,3),(0,4)])
def R99_2 : ACode := .region [⟨(some 81),(.mov (.t 0)),none,[]⟩,
 ⟨(some 82),(.nilCheck (.t 81)),none,[0]⟩,
 ⟨(some 83),(.fieldAddr 801 (.t 82)),none,[1]⟩,
 ⟨(some 84),(.load none (.t 83)),none,[2]⟩,
 ⟨(some 85),(.un .neg (.t 84)),none,[3]⟩,
 ⟨(some 86),(.load none (.g 12)),none,[]⟩,
 ⟨(some 87),(.lenSlice (.t 86)),none,[5]⟩,
 ⟨(some 88),(.bin .geq (.t 85) (.t 87)),none,[4,6]⟩] (some [(0,5),(1,5),(2,5),(3,5),(4,5),(0,6),(1,6),(2,6),(3,6),(4,6)])
def R99_3 : ACode := .region [⟨(some 89),(.load none (.g 12)),none,[]⟩,
 ⟨(some 90),(.mov (.t 0)),none,[]⟩,
 ⟨(some 91),(.nilCheck (.t 90)),none,[1]⟩,
 ⟨(some 92),(.fieldAddr 801 (.t 91)),none,[2]⟩,
 ⟨(some 93),(.load none (.t 92)),none,[3]⟩,
 ⟨(some 94),(.un .neg (.t 93)),none,[4]⟩,
 ⟨(some 95),(.indexAddr 1 (.t 89) (.t 94)),none,[0,5]⟩,
 ⟨(some 96),(.load none (.t 95)),none,[6]⟩,
 ⟨(some 9),(.mov (.t 96)),none,[7,0,1,2,3,4,5,6,7]⟩] (some [(0,1),(0,2),(0,3),(0,4),(0,5)])
def R99_4 : ACode := .region [⟨(some 126),(.mov (.t 6)),none,[]⟩,
 ⟨(some 127),(.mov (.t 1)),none,[]⟩,
 ⟨(some 128),(.nilCheck (.t 127)),none,[1]⟩,
 ⟨(some 129),(.fieldAddr 2 (.t 128)),none,[2]⟩,
 ⟨(some 130),(.load none (.t 129)),none,[3]⟩,
 ⟨(some 131),(.bin .sub (.t 126) (.t 130)),none,[0,4]⟩,
 ⟨(some 132),(.mov (.t 1)),none,[]⟩,
 ⟨(some 133),(.nilCheck (.t 132)),none,[6]⟩,
 ⟨(some 134),(.fieldAddr 1 (.t 133)),none,[7]⟩,
 ⟨(some 135),(.load none (.t 134)),none,[8]⟩,
 ⟨(some 136),(.bin .shl (.c (.int .i64 1)) (.t 135)),none,[9]⟩,
 ⟨(some 137),(.bin .sub (.t 136) (.c (.int .i64 1))),none,[10]⟩,
 ⟨(some 138),(.bin .geq (.t 131) (.t 137)),none,[5,11]⟩] (some [(0,1),(0,2),(0,3),(0,4),(0,6),(1,6),(2,6),(3,6),(4,6),(5,6),(0,7),(1,7),(2,7),(3,7),(4,7),(5,7),(0,8),(1,8),(2,8),(3,8),(4,8),(5,8),(0,9),(1,9),(2,9),(3,9),(4,9),(5,9),(0,10),(1,10),(2,10),(3,10),(4,10),(5,10),(0,11),(1,11),(2,11),(3,11),(4,11),(5,11)])
def R99_5 : ACode := .region [⟨(some 160),(.mov (.t 6)),none,[]⟩,
 ⟨(some 161),(.mov (.t 1)),none,[]⟩,
 ⟨(some 162),(.nilCheck (.t 161)),none,[1]⟩,
 ⟨(some 163),(.fieldAddr 2 (.t 162)),none,[2]⟩,
 ⟨(some 164),(.load none (.t 163)),none,[3]⟩,
 ⟨(some 165),(.bin .sub (.t 160) (.t 164)),none,[0,4]⟩,
 ⟨(some 166),(.mov (.t 1)),none,[]⟩,
 ⟨(some 167),(.nilCheck (.t 166)),none,[6]⟩,
 ⟨(some 168),(.fieldAddr 1 (.t 167)),none,[7]⟩,
 ⟨(some 169),(.load none (.t 168)),none,[8]⟩,
 ⟨(some 170),(.bin .shl (.c (.int .i64 1)) (.t 169)),none,[9]⟩,
 ⟨(some 171),(.bin .sub (.t 170) (.c (.int .i64 1))),none,[10]⟩,
 ⟨(some 172),(.bin .geq (.t 165) (.t 171)),none,[5,11]⟩] (some [(0,1),(0,2),(0,3),(0,4),(0,6),(1,6),(2,6),(3,6),(4,6),(5,6),(0,7),(1,7),(2,7),(3,7),(4,7),(5,7),(0,8),(1,8),(2,8),(3,8),(4,8),(5,8),(0,9),(1,9),(2,9),(3,9),(4,9),(5,9),(0,10),(1,10),(2,10),(3,10),(4,10),(5,10),(0,11),(1,11),(2,11),(3,11),(4,11),(5,11)])
def R99_6 : ACode := .region [⟨(some 185),(.mov (.t 1)),none,[]⟩,
 ⟨(some 186),(.nilCheck (.t 185)),none,[0]⟩,
 ⟨(some 187),(.fieldAddr 1 (.t 186)),none,[1]⟩,
 ⟨(some 188),(.load none (.t 187)),none,[2]⟩,
 ⟨(some 189),(.bin .shl (.c (.int .i64 1)) (.t 188)),none,[3]⟩,
 ⟨(some 190),(.bin .sub (.t 189) (.c (.int .i64 1))),none,[4]⟩,
 ⟨(some 191),(.mov (.t 1)),none,[]⟩,
 ⟨(some 192),(.nilCheck (.t 191)),none,[6]⟩,
 ⟨(some 193),(.fieldAddr 2 (.t 192)),none,[7]⟩,
 ⟨(some 194),(.load none (.t 193)),none,[8]⟩,
 ⟨(some 195),(.bin .add (.t 190) (.t 194)),none,[5,9]⟩,
 ⟨(some 6),(.mov (.t 195)),none,[10,0,1,2,3,4,5,6,7,8,9,10]⟩] (some [(0,6),(1,6),(2,6),(3,6),(4,6),(5,6),(0,7),(1,7),(2,7),(3,7),(4,7),(5,7),(0,8),(1,8),(2,8),(3,8),(4,8),(5,8),(0,9),(1,9),(2,9),(3,9),(4,9),(5,9)])
def R99_7 : ACode := .region [⟨(some 204),(.mov (.t 11)),none,[]⟩,
 ⟨(some 205),(.mov (.t 6)),none,[]⟩,
 ⟨(some 206),(.mov (.t 1)),none,[]⟩,
 ⟨(some 207),(.nilCheck (.t 206)),none,[2]⟩,
 ⟨(some 208),(.fieldAddr 2 (.t 207)),none,[3]⟩,
 ⟨(some 209),(.load none (.t 208)),none,[4]⟩,
 ⟨(some 210),(.bin .sub (.t 205) (.t 209)),none,[1,5]⟩,
 ⟨(some 211),(.mov (.t 1)),none,[]⟩,
 ⟨(some 212),(.nilCheck (.t 211)),none,[7]⟩,
 ⟨(some 213),(.fieldAddr 1 (.t 212)),none,[8]⟩,
 ⟨(some 214),(.load none (.t 213)),none,[9]⟩,
 ⟨(some 215),(.bin .shl (.c (.int .i64 1)) (.t 214)),none,[10]⟩,
 ⟨(some 216),(.bin .sub (.t 215) (.c (.int .i64 1))),none,[11]⟩,
 ⟨(some 217),(.bin .and (.t 210) (.t 216)),none,[6,12]⟩,
 ⟨(some 218),(.conv .u64 (.t 217)),none,[13]⟩,
 ⟨(some 219),(.mov (.t 1)),none,[]⟩,
 ⟨(some 220),(.nilCheck (.t 219)),none,[15]⟩,
 ⟨(some 221),(.fieldAddr 0 (.t 220)),none,[16]⟩,
 ⟨(some 222),(.load none (.t 221)),none,[17]⟩,
 ⟨(some 223),(.bin .shl (.t 218) (.t 222)),none,[14,18]⟩,
 ⟨(some 224),(.bin .or (.t 204) (.t 223)),none,[0,19]⟩,
 ⟨(some 11),(.mov (.t 224)),none,[20,0,1,2,3,4,5,6,7,8,9,10,11,12,13,14,15,16,17,18,19,20]⟩] (some [(0,1),(0,2),(1,2),(0,3),(1,3),(0,4),(1,4),(0,5),(1,5),(0,6),(0,7),(1,7),(2,7),(3,7),(4,7),(5,7),(6,7),(0,8),(1,8),(2,8),(3,8),(4,8),(5,8),(6,8),(0,9),(1,9),(2,9),(3,9),(4,9),(5,9),(6,9),(0,10),(1,10),(2,10),(3,10),(4,10),(5,10),(6,10),(0,11),(1,11),(2,11),(3,11),(4,11),(5,11),(6,11),(0,12),(1,12),(2,12),(3,12),(4,12),(5,12),(6,12),(0,13),(0,14),(0,15),(1,15),(2,15),(3,15),(4,15),(5,15),(6,15),(7,15),(8,15),(9,15),(10,15),(11,15),(12,15),(13,15),(14,15),(0,16),(1,16),(2,16),(3,16),(4,16),(5,16),(6,16),(7,16),(8,16),(9,16),(10,16),(11,16),(12,16),(13,16),(14,16),(0,17),(1,17),(2,17),(3,17),(4,17),(5,17),(6,17),(7,17),(8,17),(9,17),(10,17),(11,17),(12,17),(13,17),(14,17),(0,18),(1,18),(2,18),(3,18),(4,18),(5,18),(6,18),(7,18),(8,18),(9,18),(10,18),(11,18),(12,18),(13,18),(14,18),(0,19)])
def R99_8 : ACode := .region [⟨(some 229),(.mov (.t 11)),none,[]⟩,
 ⟨(some 230),(.mov (.t 1)),none,[]⟩,
 ⟨(some 231),(.nilCheck (.t 230)),none,[1]⟩,
 ⟨(some 232),(.fieldAddr 0 (.t 231)),none,[2]⟩,
 ⟨(some 233),(.load none (.t 232)),none,[3]⟩,
 ⟨(some 234),(.bin .shl (.c (.int .u64 1)) (.t 233)),none,[4]⟩,
 ⟨(some 235),(.mov (.t 1)),none,[]⟩,
 ⟨(some 236),(.nilCheck (.t 235)),none,[6]⟩,
 ⟨(some 237),(.fieldAddr 1 (.t 236)),none,[7]⟩,
 ⟨(some 238),(.load none (.t 237)),none,[8]⟩,
 ⟨(some 239),(.bin .shl (.t 234) (.t 238)),none,[5,9]⟩,
 ⟨(some 240),(.bin .or (.t 229) (.t 239)),none,[0,10]⟩,
 ⟨(some 11),(.mov (.t 240)),none,[11,0,1,2,3,4,5,6,7,8,9,10,11]⟩] (some [(0,1),(0,2),(0,3),(0,4),(0,5),(0,6),(1,6),(2,6),(3,6),(4,6),(5,6),(0,7),(1,7),(2,7),(3,7),(4,7),(5,7),(0,8),(1,8),(2,8),(3,8),(4,8),(5,8),(0,9),(1,9),(2,9),(3,9),(4,9),(5,9),(0,10)])
def F99L0 : ACode := (.seq (.seq (.region [⟨(some 35),(.mov (.t 0)),none,[]⟩,
 ⟨(some 36),(.nilCheck (.t 35)),none,[]⟩,
 ⟨(some 37),(.fieldAddr 801 (.t 36)),none,[]⟩,
 ⟨(some 38),(.load none (.t 37)),none,[]⟩,
 ⟨(some 39),(.bin .gtr (.t 38) (.c (.int .i64 0))),none,[]⟩] none)
 (.cond (.t 39)
 .skip
 (.exit 0)))
 (.block 1 (.seq (.region [⟨(some 8),(.mov (.c (.int .i64 0))),none,[]⟩] none)
 (.seq (.seq R99_0
 (.cond (.t 46)
 (.region [⟨(some 8),(.mov (.c (.int .i64 27))),none,[]⟩] none)
 R99_1))
 (.seq (.region [⟨(some 54),(.mov (.t 0)),none,[]⟩,
 ⟨(some 55),(.mov (.t 8)),none,[]⟩,
 ⟨(some 56),(.un .neg (.t 55)),none,[]⟩,
 ⟨(some 57),(.call (.f 83) [(.t 54),(.t 56)]),none,[]⟩] none)
 (.region [⟨(some 58),(.mov (.t 6)),none,[]⟩,
 ⟨(some 59),(.mov (.t 8)),none,[]⟩,
 ⟨(some 60),(.bin .add (.t 58) (.t 59)),none,[]⟩,
 ⟨(some 6),(.mov (.t 60)),none,[]⟩] none))))))
def F99L1 : ACode := (.seq (.seq (.region [⟨(some 61),(.mov (.t 0)),none,[]⟩,
 ⟨(some 62),(.nilCheck (.t 61)),none,[]⟩,
 ⟨(some 63),(.fieldAddr 801 (.t 62)),none,[]⟩,
 ⟨(some 64),(.load none (.t 63)),none,[]⟩,
 ⟨(some 65),(.bin .lss (.t 64) (.c (.int .i64 0))),none,[]⟩,
 ⟨(some 66),(.mov (.t 65)),none,[]⟩,
 ⟨(some 67),(.mov (.t 0)),(some (66,false)),[]⟩,
 ⟨(some 68),(.nilCheck (.t 67)),(some (66,false)),[]⟩,
 ⟨(some 69),(.fieldAddr 801 (.t 68)),(some (66,false)),[]⟩,
 ⟨(some 70),(.load none (.t 69)),(some (66,false)),[]⟩,
 ⟨(some 71),(.bin .eql (.t 70) (.c (.int .i64 0))),(some (66,false)),[]⟩,
 ⟨(some 72),(.mov (.t 71)),(some (66,false)),[]⟩,
 ⟨(some 73),(.mov (.t 0)),(some (72,true)),[]⟩,
 ⟨(some 74),(.nilCheck (.t 73)),(some (72,true)),[]⟩,
 ⟨(some 75),(.fieldAddr 0 (.t 74)),(some (72,true)),[]⟩,
 ⟨(some 76),(.indexArr 1 800 (.t 75) (.c (.int .i64 0))),(some (72,true)),[]⟩,
 ⟨(some 77),(.load none (.t 76)),(some (72,true)),[]⟩,
 ⟨(some 78),(.bin .lss (.t 77) (.c (.int .u8 53))),(some (72,true)),[]⟩,
 ⟨(some 79),(.pick (.t 72) (.t 78) (.c (.bool false))),(some (66,false)),[]⟩,
 ⟨(some 80),(.pick (.t 66) (.c (.bool true)) (.t 79)),none,[]⟩] none)
 (.cond (.t 80)
 .skip
 (.exit 2)))
 (.block 3 (.seq (.region [⟨(some 9),(.mov (.c (.int .i64 0))),none,[]⟩] none)
 (.seq (.seq R99_2
 (.cond (.t 88)
 (.region [⟨(some 9),(.mov (.c (.int .i64 27))),none,[]⟩] none)
 R99_3))
 (.seq (.region [⟨(some 97),(.mov (.t 0)),none,[]⟩,
 ⟨(some 98),(.mov (.t 9)),none,[]⟩,
 ⟨(some 99),(.call (.f 83) [(.t 97),(.t 98)]),none,[]⟩] none)
 (.region [⟨(some 100),(.mov (.t 6)),none,[]⟩,
 ⟨(some 101),(.mov (.t 9)),none,[]⟩,
 ⟨(some 102),(.bin .sub (.t 100) (.t 101)),none,[]⟩,
 ⟨(some 6),(.mov (.t 102)),none,[]⟩] none))))))
def B99 : ACode := (.seq (.region [⟨(some 4),(.mov (.c (.int .u64 0))),none,[]⟩,
 ⟨(some 5),(.mov (.c (.bool false))),none,[]⟩] none)
 (.scope (.seq (.region [⟨(some 6),(.mov (.c (.int .i64 0))),none,[]⟩] none)
 (.seq (.region [⟨(some 7),(.mov (.c (.int .u64 0))),none,[]⟩] none)
 (.seq (.seq (.region [⟨(some 12),(.mov (.t 0)),none,[]⟩,
 ⟨(some 13),(.nilCheck (.t 12)),none,[]⟩,
 ⟨(some 14),(.fieldAddr 800 (.t 13)),none,[]⟩,
 ⟨(some 15),(.load none (.t 14)),none,[]⟩,
 ⟨(some 16),(.bin .eql (.t 15) (.c (.int .i64 0))),none,[]⟩] none)
 (.cond (.t 16)
 (.seq (.region [⟨(some 7),(.mov (.c (.int .u64 0))),none,[]⟩] none)
 (.seq (.region [⟨(some 17),(.mov (.t 1)),none,[]⟩,
 ⟨(some 18),(.nilCheck (.t 17)),none,[]⟩,
 ⟨(some 19),(.fieldAddr 2 (.t 18)),none,[]⟩,
 ⟨(some 20),(.load none (.t 19)),none,[]⟩,
 ⟨(some 6),(.mov (.t 20)),none,[]⟩] none)
 (.exit 1000000)))
 .skip))
 (.seq (.seq (.region [⟨(some 21),(.mov (.t 0)),none,[]⟩,
 ⟨(some 22),(.nilCheck (.t 21)),none,[]⟩,
 ⟨(some 23),(.fieldAddr 801 (.t 22)),none,[]⟩,
 ⟨(some 24),(.load none (.t 23)),none,[]⟩,
 ⟨(some 25),(.bin .gtr (.t 24) (.c (.int .i64 310))),none,[]⟩] none)
 (.cond (.t 25)
 (.exit 1000001)
 .skip))
 (.seq (.seq (.region [⟨(some 26),(.mov (.t 0)),none,[]⟩,
 ⟨(some 27),(.nilCheck (.t 26)),none,[]⟩,
 ⟨(some 28),(.fieldAddr 801 (.t 27)),none,[]⟩,
 ⟨(some 29),(.load none (.t 28)),none,[]⟩,
 ⟨(some 30),(.bin .lss (.t 29) (.c (.int .i64 (-330)))),none,[]⟩] none)
 (.cond (.t 30)
 (.seq (.region [⟨(some 7),(.mov (.c (.int .u64 0))),none,[]⟩] none)
 (.seq (.region [⟨(some 31),(.mov (.t 1)),none,[]⟩,
 ⟨(some 32),(.nilCheck (.t 31)),none,[]⟩,
 ⟨(some 33),(.fieldAddr 2 (.t 32)),none,[]⟩,
 ⟨(some 34),(.load none (.t 33)),none,[]⟩,
 ⟨(some 6),(.mov (.t 34)),none,[]⟩] none)
 (.exit 1000000)))
 .skip))
 (.seq (.region [⟨(some 6),(.mov (.c (.int .i64 0))),none,[]⟩] none)
 (.seq (.block 0 (.loop F99L0))
 (.seq (.block 2 (.loop F99L1))
 (.seq (.region [⟨(some 103),(.mov (.t 6)),none,[]⟩,
 ⟨(some 104),(.bin .sub (.t 103) (.c (.int .i64 1))),none,[]⟩,
 ⟨(some 6),(.mov (.t 104)),none,[]⟩] none)
 (.seq (.seq (.region [⟨(some 105),(.mov (.t 6)),none,[]⟩,
 ⟨(some 106),(.mov (.t 1)),none,[]⟩,
 ⟨(some 107),(.nilCheck (.t 106)),none,[]⟩,
 ⟨(some 108),(.fieldAddr 2 (.t 107)),none,[]⟩,
 ⟨(some 109),(.load none (.t 108)),none,[]⟩,
 ⟨(some 110),(.bin .add (.t 109) (.c (.int .i64 1))),none,[]⟩,
 ⟨(some 111),(.bin .lss (.t 105) (.t 110)),none,[]⟩] none)
 (.cond (.t 111)
 (.seq (.region [⟨(some 112),(.mov (.t 1)),none,[]⟩,
 ⟨(some 113),(.nilCheck (.t 112)),none,[]⟩,
 ⟨(some 114),(.fieldAddr 2 (.t 113)),none,[]⟩,
 ⟨(some 115),(.load none (.t 114)),none,[]⟩,
 ⟨(some 116),(.bin .add (.t 115) (.c (.int .i64 1))),none,[]⟩,
 ⟨(some 117),(.mov (.t 6)),none,[]⟩,
 ⟨(some 118),(.bin .sub (.t 116) (.t 117)),none,[]⟩,
 ⟨(some 10),(.mov (.t 118)),none,[]⟩] none)
 (.seq (.region [⟨(some 119),(.mov (.t 0)),none,[]⟩,
 ⟨(some 120),(.mov (.t 10)),none,[]⟩,
 ⟨(some 121),(.un .neg (.t 120)),none,[]⟩,
 ⟨(some 122),(.call (.f 83) [(.t 119),(.t 121)]),none,[]⟩] none)
 (.region [⟨(some 123),(.mov (.t 6)),none,[]⟩,
 ⟨(some 124),(.mov (.t 10)),none,[]⟩,
 ⟨(some 125),(.bin .add (.t 123) (.t 124)),none,[]⟩,
 ⟨(some 6),(.mov (.t 125)),none,[]⟩] none)))
 .skip))
 (.seq (.seq R99_4
 (.cond (.t 138)
 (.exit 1000001)
 .skip))
 (.seq (.region [⟨(some 139),(.mov (.t 0)),none,[]⟩,
 ⟨(some 140),(.mov (.t 1)),none,[]⟩,
 ⟨(some 141),(.nilCheck (.t 140)),none,[]⟩,
 ⟨(some 142),(.fieldAddr 0 (.t 141)),none,[]⟩,
 ⟨(some 143),(.load none (.t 142)),none,[]⟩,
 ⟨(some 144),(.bin .add (.c (.int .u64 1)) (.t 143)),none,[]⟩,
 ⟨(some 145),(.conv .i64 (.t 144)),none,[]⟩,
 ⟨(some 146),(.call (.f 83) [(.t 139),(.t 145)]),none,[]⟩] none)
 (.seq (.region [⟨(some 147),(.mov (.t 0)),none,[]⟩,
 ⟨(some 148),(.call (.f 133) [(.t 147)]),none,[]⟩,
 ⟨(some 7),(.mov (.t 148)),none,[]⟩] none)
 (.seq (.seq (.region [⟨(some 149),(.mov (.t 7)),none,[]⟩,
 ⟨(some 150),(.mov (.t 1)),none,[]⟩,
 ⟨(some 151),(.nilCheck (.t 150)),none,[]⟩,
 ⟨(some 152),(.fieldAddr 0 (.t 151)),none,[]⟩,
 ⟨(some 153),(.load none (.t 152)),none,[]⟩,
 ⟨(some 154),(.bin .shl (.c (.int .u64 2)) (.t 153)),none,[]⟩,
 ⟨(some 155),(.bin .eql (.t 149) (.t 154)),none,[]⟩] none)
 (.cond (.t 155)
 (.seq (.region [⟨(some 156),(.mov (.t 7)),none,[]⟩,
 ⟨(some 157),(.bin .shr (.t 156) (.c (.int .u64 1))),none,[]⟩,
 ⟨(some 7),(.mov (.t 157)),none,[]⟩] none)
 (.seq (.region [⟨(some 158),(.mov (.t 6)),none,[]⟩,
 ⟨(some 159),(.bin .add (.t 158) (.c (.int .i64 1))),none,[]⟩,
 ⟨(some 6),(.mov (.t 159)),none,[]⟩] none)
 (.seq R99_5
 (.cond (.t 172)
 (.exit 1000001)
 .skip))))
 .skip))
 (.seq (.seq (.region [⟨(some 173),(.mov (.t 7)),none,[]⟩,
 ⟨(some 174),(.mov (.t 1)),none,[]⟩,
 ⟨(some 175),(.nilCheck (.t 174)),none,[]⟩,
 ⟨(some 176),(.fieldAddr 0 (.t 175)),none,[]⟩,
 ⟨(some 177),(.load none (.t 176)),none,[]⟩,
 ⟨(some 178),(.bin .shl (.c (.int .u64 1)) (.t 177)),none,[]⟩,
 ⟨(some 179),(.bin .and (.t 173) (.t 178)),none,[]⟩,
 ⟨(some 180),(.bin .eql (.t 179) (.c (.int .u64 0))),none,[]⟩] none)
 (.cond (.t 180)
 (.region [⟨(some 181),(.mov (.t 1)),none,[]⟩,
 ⟨(some 182),(.nilCheck (.t 181)),none,[]⟩,
 ⟨(some 183),(.fieldAddr 2 (.t 182)),none,[]⟩,
 ⟨(some 184),(.load none (.t 183)),none,[]⟩,
 ⟨(some 6),(.mov (.t 184)),none,[]⟩] none)
 .skip))
 (.seq (.exit 1000000)
 (.seq (.label 1)
 (.seq (.region [⟨(some 7),(.mov (.c (.int .u64 0))),none,[]⟩] none)
 (.seq R99_6
 (.seq (.region [⟨(some 5),(.mov (.c (.bool true))),none,[]⟩] none)
 (.seq (.label 0)
 (.seq (.region [⟨(some 196),(.mov (.t 7)),none,[]⟩,
 ⟨(some 197),(.mov (.t 1)),none,[]⟩,
 ⟨(some 198),(.nilCheck (.t 197)),none,[]⟩,
 ⟨(some 199),(.fieldAddr 0 (.t 198)),none,[]⟩,
 ⟨(some 200),(.load none (.t 199)),none,[]⟩,
 ⟨(some 201),(.bin .shl (.c (.int .u64 1)) (.t 200)),none,[]⟩,
 ⟨(some 202),(.bin .sub (.t 201) (.c (.int .u64 1))),none,[]⟩,
 ⟨(some 203),(.bin .and (.t 196) (.t 202)),none,[]⟩,
 ⟨(some 11),(.mov (.t 203)),none,[]⟩] none)
 (.seq R99_7
 (.seq (.seq (.region [⟨(some 225),(.mov (.t 0)),none,[]⟩,
 ⟨(some 226),(.nilCheck (.t 225)),none,[]⟩,
 ⟨(some 227),(.fieldAddr 802 (.t 226)),none,[]⟩,
 ⟨(some 228),(.load none (.t 227)),none,[]⟩] none)
 (.cond (.t 228)
 R99_8
 .skip))
 (.seq (.region [⟨(some 241),(.mov (.t 11)),none,[]⟩,
 ⟨(some 242),(.mov (.t 5)),none,[]⟩,
 ⟨(some 4),(.mov (.t 241)),none,[]⟩,
 ⟨(some 5),(.mov (.t 242)),none,[]⟩] none)
 .ret)))))))))))))))))))))))))))
def F99 : AFunc := ⟨2,243,[(.tmp 4),(.tmp 5)],B99⟩

def B100 : ACode := (.seq (.region [⟨(some 2),(.mov (.c (.int .u64 0))),none,[]⟩] none)
 (.seq (.seq (.region [⟨(some 3),(.mov (.t 0)),none,[]⟩] none)
 (.cond (.t 3)
 (.seq (.region [⟨(some 2),(.mov (.c (.int .u64 1))),none,[]⟩] none)
 .ret)
 .skip))
 (.seq (.region [⟨(some 2),(.mov (.c (.int .u64 0))),none,[]⟩] none)
 .ret)))
def F100 : AFunc := ⟨1,4,[(.tmp 2)],B100⟩
def B102 : ACode := (.seq (.region [⟨(some 6),(.mov (.c (.float .f64 0))),none,[]⟩,
 ⟨(some 7),(.mov (.c (.bool false))),none,[]⟩] none)
 (.seq (.seq (.region [⟨(some 8),(.mov (.t 0)),none,[]⟩,
 ⟨(some 9),(.fieldAddr 0 (.g 7)),none,[]⟩,
 ⟨(some 10),(.load none (.t 9)),none,[]⟩,
 ⟨(some 11),(.bin .shr (.t 8) (.t 10)),none,[]⟩,
 ⟨(some 12),(.bin .neq (.t 11) (.c (.int .u64 0))),none,[]⟩] none)
 (.cond (.t 12)
 .ret
 .skip))
 (.seq (.region [⟨(some 13),(.mov (.t 0)),none,[]⟩,
 ⟨(some 14),(.toFloat .f64 (.t 13)),none,[]⟩,
 ⟨(some 6),(.mov (.t 14)),none,[]⟩] none)
 (.seq (.seq (.region [⟨(some 15),(.mov (.t 2)),none,[]⟩] none)
 (.cond (.t 15)
 (.region [⟨(some 16),(.mov (.t 6)),none,[]⟩,
 ⟨(some 17),(.un .neg (.t 16)),none,[]⟩,
 ⟨(some 6),(.mov (.t 17)),none,[]⟩] none)
 .skip))
 (.seq (.block 0 (.seq (.region [⟨(some 19),(.mov (.t 1)),none,[]⟩,
 ⟨(some 20),(.bin .eql (.t 19) (.c (.int .i64 0))),none,[]⟩,
 ⟨(some 18),(.mov (.t 20)),none,[]⟩] none)
 (.cond (.t 18)
 (.seq (.region [⟨(some 21),(.mov (.t 6)),none,[]⟩,
 ⟨(some 6),(.mov (.t 21)),none,[]⟩,
 ⟨(some 7),(.mov (.c (.bool true))),none,[]⟩] none)
 .ret)
 (.seq (.region [⟨(some 23),(.mov (.t 1)),none,[]⟩,
 ⟨(some 24),(.bin .gtr (.t 23) (.c (.int .i64 0))),none,[]⟩,
 ⟨(some 25),(.mov (.t 24)),none,[]⟩,
 ⟨(some 26),(.mov (.t 1)),(some (25,true)),[]⟩,
 ⟨(some 27),(.bin .leq (.t 26) (.c (.int .i64 37))),(some (25,true)),[]⟩,
 ⟨(some 28),(.pick (.t 25) (.t 27) (.c (.bool false))),none,[]⟩,
 ⟨(some 22),(.mov (.t 28)),none,[]⟩] none)
 (.cond (.t 22)
 (.seq (.seq (.region [⟨(some 29),(.mov (.t 1)),none,[]⟩,
 ⟨(some 30),(.bin .gtr (.t 29) (.c (.int .i64 22))),none,[]⟩] none)
 (.cond (.t 30)
 (.seq (.region [⟨(some 31),(.mov (.t 6)),none,[]⟩,
 ⟨(some 32),(.load none (.g 13)),none,[]⟩,
 ⟨(some 33),(.mov (.t 1)),none,[]⟩,
 ⟨(some 34),(.bin .sub (.t 33) (.c (.int .i64 22))),none,[]⟩,
 ⟨(some 35),(.indexAddr 1 (.t 32) (.t 34)),none,[]⟩,
 ⟨(some 36),(.load none (.t 35)),none,[]⟩,
 ⟨(some 37),(.bin .mul (.t 31) (.t 36)),none,[]⟩,
 ⟨(some 6),(.mov (.t 37)),none,[]⟩] none)
 (.region [⟨(some 1),(.mov (.c (.int .i64 22))),none,[]⟩] none))
 .skip))
 (.seq (.seq (.region [⟨(some 38),(.mov (.t 6)),none,[]⟩,
 ⟨(some 39),(.bin .gtr (.t 38) (.c (.float .f64 4831355200913801216))),none,[]⟩,
 ⟨(some 40),(.mov (.t 39)),none,[]⟩,
 ⟨(some 41),(.mov (.t 6)),(some (40,false)),[]⟩,
 ⟨(some 42),(.bin .lss (.t 41) (.c (.float .f64 14054727237768577024))),(some (40,false)),[]⟩,
 ⟨(some 43),(.pick (.t 40) (.c (.bool true)) (.t 42)),none,[]⟩] none)
 (.cond (.t 43)
 .ret
 .skip))
 (.seq (.region [⟨(some 44),(.mov (.t 6)),none,[]⟩,
 ⟨(some 45),(.load none (.g 13)),none,[]⟩,
 ⟨(some 46),(.mov (.t 1)),none,[]⟩,
 ⟨(some 47),(.indexAddr 1 (.t 45) (.t 46)),none,[]⟩,
 ⟨(some 48),(.load none (.t 47)),none,[]⟩,
 ⟨(some 49),(.bin .mul (.t 44) (.t 48)),none,[]⟩,
 ⟨(some 6),(.mov (.t 49)),none,[]⟩,
 ⟨(some 7),(.mov (.c (.bool true))),none,[]⟩] none)
 .ret)))
 (.seq (.region [⟨(some 51),(.mov (.t 1)),none,[]⟩,
 ⟨(some 52),(.bin .lss (.t 51) (.c (.int .i64 0))),none,[]⟩,
 ⟨(some 53),(.mov (.t 52)),none,[]⟩,
 ⟨(some 54),(.mov (.t 1)),(some (53,true)),[]⟩,
 ⟨(some 55),(.bin .geq (.t 54) (.c (.int .i64 (-22)))),(some (53,true)),[]⟩,
 ⟨(some 56),(.pick (.t 53) (.t 55) (.c (.bool false))),none,[]⟩,
 ⟨(some 50),(.mov (.t 56)),none,[]⟩] none)
 (.cond (.t 50)
 (.seq (.region [⟨(some 57),(.mov (.t 6)),none,[]⟩,
 ⟨(some 58),(.load none (.g 13)),none,[]⟩,
 ⟨(some 59),(.mov (.t 1)),none,[]⟩,
 ⟨(some 60),(.un .neg (.t 59)),none,[]⟩,
 ⟨(some 61),(.indexAddr 1 (.t 58) (.t 60)),none,[]⟩,
 ⟨(some 62),(.load none (.t 61)),none,[]⟩,
 ⟨(some 63),(.bin .quo (.t 57) (.t 62)),none,[]⟩,
 ⟨(some 6),(.mov (.t 63)),none,[]⟩,
 ⟨(some 7),(.mov (.c (.bool true))),none,[]⟩] none)
 .ret)
 .skip)))))))
 .ret)))))
def F102 : AFunc := ⟨3,64,[(.tmp 6),(.tmp 7)],B102⟩
def B103 : ACode := (.seq (.region [⟨(some 6),(.mov (.c (.float .f64 0))),none,[]⟩,
 ⟨(some 7),(.mov (.c .nilIface)),none,[]⟩] none)
 (.seq (.region [⟨(some 14),(.mov (.t 0)),none,[]⟩,
 ⟨(some 15),(.call (.f 76) [(.t 14)]),none,[]⟩,
 ⟨(some 8),(.mov (.t 15)),none,[]⟩] none)
 (.seq (.region [⟨(some 16),(.mov (.t 1)),none,[]⟩,
 ⟨(some 17),(.call (.f 110) [(.t 16)]),none,[]⟩,
 ⟨(some 9),(.mov (.t 17)),none,[]⟩] none)
 (.seq (.region [⟨(some 18),(.mov (.t 8)),none,[]⟩,
 ⟨(some 19),(.bin .sub (.c (.int .i64 53)) (.t 18)),none,[]⟩,
 ⟨(some 20),(.mov (.t 9)),none,[]⟩,
 ⟨(some 21),(.bin .sub (.t 19) (.t 20)),none,[]⟩,
 ⟨(some 22),(.min [(.c (.int .i64 1074)),(.t 21)]),none,[]⟩,
 ⟨(some 10),(.mov (.t 22)),none,[]⟩] none)
 (.seq (.region [⟨(some 11),(.alloc 148 [(.int .u64 0),(.int .u64 0),(.int .i64 0)]),none,[]⟩] none)
 (.seq (.region [⟨(some 23),(.mov (.t 10)),none,[]⟩,
 ⟨(some 24),(.mov (.t 8)),none,[]⟩,
 ⟨(some 25),(.bin .sub (.c (.int .i64 64)) (.t 24)),none,[]⟩,
 ⟨(some 26),(.bin .sub (.t 23) (.t 25)),none,[]⟩,
 ⟨(some 27),(.mov (.t 1)),none,[]⟩,
 ⟨(some 28),(.mov (.t 9)),none,[]⟩,
 ⟨(some 29),(.call (.f 109) [(.t 11),(.t 26),(.t 27),(.t 28)]),none,[]⟩] none)
 (.seq (.seq (.region [⟨(some 30),(.fieldAddr 2 (.t 11)),none,[]⟩,
 ⟨(some 31),(.load none (.t 30)),none,[]⟩,
 ⟨(some 32),(.bin .geq (.t 31) (.c (.int .i64 64))),none,[]⟩] none)
 (.cond (.t 32)
 (.seq (.region [⟨(some 33),(.mov (.t 2)),none,[]⟩,
 ⟨(some 34),(.bin .or (.t 33) (.c (.int .u64 0))),none,[]⟩,
 ⟨(some 35),(.call (.f 101) [(.t 34)]),none,[]⟩,
 ⟨(some 6),(.mov (.t 35)),none,[]⟩,
 ⟨(some 7),(.mov (.c .nilIface)),none,[]⟩] none)
 .ret)
 .skip))
 (.seq (.region [⟨(some 36),(.mov (.t 0)),none,[]⟩,
 ⟨(some 37),(.mov (.t 8)),none,[]⟩,
 ⟨(some 38),(.bin .sub (.c (.int .i64 64)) (.t 37)),none,[]⟩,
 ⟨(some 39),(.bin .shl (.t 36) (.t 38)),none,[]⟩,
 ⟨(some 40),(.call (.f 111) [(.t 39),(.t 11)]),none,[]⟩,
 ⟨(some 12),(.mov (.t 40)),none,[]⟩] none)
 (.seq (.region [⟨(some 41),(.mov (.t 12)),none,[]⟩,
 ⟨(some 42),(.call (.f 118) [(.c (.int .u64 9007199254740992))]),none,[]⟩,
 ⟨(some 43),(.bin .geq (.t 41) (.t 42)),none,[]⟩,
 ⟨(some 44),(.call (.f 117) [(.t 43)]),none,[]⟩,
 ⟨(some 13),(.mov (.t 44)),none,[]⟩] none)
 (.seq (.region [⟨(some 45),(.mov (.t 12)),none,[]⟩,
 ⟨(some 46),(.mov (.t 13)),none,[]⟩,
 ⟨(some 47),(.bin .shr (.t 45) (.t 46)),none,[]⟩,
 ⟨(some 48),(.mov (.t 12)),none,[]⟩,
 ⟨(some 49),(.bin .and (.t 48) (.c (.int .u64 1))),none,[]⟩,
 ⟨(some 50),(.bin .or (.t 47) (.t 49)),none,[]⟩,
 ⟨(some 12),(.mov (.t 50)),none,[]⟩] none)
 (.seq (.region [⟨(some 51),(.mov (.t 10)),none,[]⟩,
 ⟨(some 52),(.mov (.t 13)),none,[]⟩,
 ⟨(some 53),(.bin .sub (.t 51) (.t 52)),none,[]⟩,
 ⟨(some 10),(.mov (.t 53)),none,[]⟩] none)
 (.seq (.region [⟨(some 54),(.mov (.t 2)),none,[]⟩,
 ⟨(some 55),(.mov (.t 12)),none,[]⟩,
 ⟨(some 56),(.call (.f 115) [(.t 55)]),none,[]⟩,
 ⟨(some 57),(.bin .or (.t 54) (.t 56)),none,[]⟩,
 ⟨(some 58),(.mov (.t 10)),none,[]⟩,
 ⟨(some 59),(.un .neg (.t 58)),none,[]⟩,
 ⟨(some 60),(.call (.f 134) [(.t 57),(.t 59)]),none,[]⟩,
 ⟨(some 61),(.extract (.t 60) 0),none,[]⟩,
 ⟨(some 62),(.extract (.t 60) 1),none,[]⟩,
 ⟨(some 6),(.mov (.t 61)),none,[]⟩,
 ⟨(some 7),(.mov (.t 62)),none,[]⟩] none)
 .ret))))))))))))
def F103 : AFunc := ⟨3,63,[(.tmp 6),(.tmp 7)],B103⟩
def B107 : ACode := (.seq (.region [⟨(some 2),(.mov (.c (.int .u8 0))),none,[]⟩] none)
 (.seq (.region [⟨(some 3),(.mov (.t 0)),none,[]⟩,
 ⟨(some 4),(.bin .or (.t 3) (.c (.int .u8 32))),none,[]⟩,
 ⟨(some 2),(.mov (.t 4)),none,[]⟩] none)
 .ret))
def F107 : AFunc := ⟨1,5,[(.tmp 2)],B107⟩
def B108 : ACode := (.seq (.region [⟨(some 2),(.mov (.c (.int .i64 0))),none,[]⟩] none)
 (.seq (.region [⟨(some 3),(.mov (.t 0)),none,[]⟩,
 ⟨(some 4),(.bin .mul (.t 3) (.c (.int .i64 631305))),none,[]⟩,
 ⟨(some 5),(.bin .sub (.t 4) (.c (.int .i64 261663))),none,[]⟩,
 ⟨(some 6),(.bin .shr (.t 5) (.c (.int .u64 21))),none,[]⟩,
 ⟨(some 2),(.mov (.t 6)),none,[]⟩] none)
 .ret))
def F108 : AFunc := ⟨1,7,[(.tmp 2)],B108⟩
def B109 : ACode := (.seq (.region [⟨(some 8),(.mov (.t 0)),none,[]⟩,
 ⟨(some 9),(.mov (.t 2)),none,[]⟩,
 ⟨(some 10),(.bin .sub (.t 9) (.c (.int .i64 (-348)))),none,[]⟩,
 ⟨(some 11),(.indexArr 2 696 (.g 14) (.t 10)),none,[]⟩,
 ⟨(some 12),(.fieldAddr 0 (.t 11)),none,[]⟩,
 ⟨(some 13),(.load none (.t 12)),none,[]⟩,
 ⟨(some 14),(.nilCheck (.t 8)),none,[]⟩,
 ⟨(some 15),(.fieldAddr 0 (.t 14)),none,[]⟩,
 ⟨none,(.store 1 (.t 15) (.t 13)),none,[]⟩] none)
 (.seq (.region [⟨(some 16),(.mov (.t 0)),none,[]⟩,
 ⟨(some 17),(.mov (.t 2)),none,[]⟩,
 ⟨(some 18),(.bin .sub (.t 17) (.c (.int .i64 (-348)))),none,[]⟩,
 ⟨(some 19),(.indexArr 2 696 (.g 14) (.t 18)),none,[]⟩,
 ⟨(some 20),(.fieldAddr 1 (.t 19)),none,[]⟩,
 ⟨(some 21),(.load none (.t 20)),none,[]⟩,
 ⟨(some 22),(.nilCheck (.t 16)),none,[]⟩,
 ⟨(some 23),(.fieldAddr 1 (.t 22)),none,[]⟩,
 ⟨none,(.store 1 (.t 23) (.t 21)),none,[]⟩] none)
 (.region [⟨(some 24),(.mov (.t 0)),none,[]⟩,
 ⟨(some 25),(.mov (.t 1)),none,[]⟩,
 ⟨(some 26),(.mov (.t 3)),none,[]⟩,
 ⟨(some 27),(.bin .add (.t 25) (.t 26)),none,[]⟩,
 ⟨(some 28),(.bin .add (.t 27) (.c (.int .i64 3))),none,[]⟩,
 ⟨(some 29),(.un .neg (.t 28)),none,[]⟩,
 ⟨(some 30),(.nilCheck (.t 24)),none,[]⟩,
 ⟨(some 31),(.fieldAddr 2 (.t 30)),none,[]⟩,
 ⟨none,(.store 1 (.t 31) (.t 29)),none,[]⟩] none)))
def F109 : AFunc := ⟨4,32,[],B109⟩
def B110 : ACode := (.seq (.region [⟨(some 2),(.mov (.c (.int .i64 0))),none,[]⟩] none)
 (.seq (.region [⟨(some 3),(.mov (.t 0)),none,[]⟩,
 ⟨(some 4),(.bin .mul (.t 3) (.c (.int .i64 108853))),none,[]⟩,
 ⟨(some 5),(.bin .shr (.t 4) (.c (.int .u64 15))),none,[]⟩,
 ⟨(some 2),(.mov (.t 5)),none,[]⟩] none)
 .ret))
def F110 : AFunc := ⟨1,6,[(.tmp 2)],B110⟩
def R111_0 : ACode := .region [⟨(some 50),(.mov (.t 5)),none,[]⟩,
 ⟨(some 51),(.mov (.t 7)),none,[]⟩,
 ⟨(some 52),(.bin .shr (.t 50) (.t 51)),none,[0,1]⟩,
 ⟨(some 53),(.mov (.t 6)),none,[]⟩,
 ⟨(some 54),(.mov (.t 8)),none,[]⟩,
 ⟨(some 55),(.bin .sub (.t 53) (.t 54)),none,[3,4]⟩,
 ⟨(some 56),(.bin .gtr (.t 55) (.c (.int .u64 1))),none,[5]⟩,
 ⟨(some 57),(.call (.f 100) [(.t 56)]),none,[6]⟩,
 ⟨(some 58),(.bin .or (.t 52) (.t 57)),none,[2,7]⟩,
 ⟨(some 4),(.mov (.t 58)),none,[8,7,0,1,2,3,4,5,6,7,8]⟩] (some [(0,1),(0,3),(1,3),(2,3),(0,4),(1,4),(2,4),(3,4),(0,5),(1,5),(2,5),(0,6),(1,6),(2,6),(0,7),(1,7),(2,7)])
def B111 : ACode := (.seq (.region [⟨(some 4),(.mov (.c (.int .u64 0))),none,[]⟩] none)
 (.seq (.region [⟨(some 11),(.mov (.t 0)),none,[]⟩,
 ⟨(some 12),(.mov (.t 1)),none,[]⟩,
 ⟨(some 13),(.nilCheck (.t 12)),none,[]⟩,
 ⟨(some 14),(.fieldAddr 0 (.t 13)),none,[]⟩,
 ⟨(some 15),(.load none (.t 14)),none,[]⟩,
 ⟨(some 16),(.call (.f 138) [(.t 11),(.t 15)]),none,[]⟩,
 ⟨(some 10),(.mov (.t 16)),none,[]⟩,
 ⟨(some 17),(.extract (.t 10) 0),none,[]⟩,
 ⟨(some 18),(.extract (.t 10) 1),none,[]⟩,
 ⟨(some 5),(.mov (.t 17)),none,[]⟩,
 ⟨(some 6),(.mov (.t 18)),none,[]⟩] none)
 (.seq (.region [⟨(some 19),(.mov (.t 1)),none,[]⟩,
 ⟨(some 20),(.nilCheck (.t 19)),none,[]⟩,
 ⟨(some 21),(.fieldAddr 2 (.t 20)),none,[]⟩,
 ⟨(some 22),(.load none (.t 21)),none,[]⟩,
 ⟨(some 23),(.bin .and (.t 22) (.c (.int .i64 63))),none,[]⟩,
 ⟨(some 7),(.mov (.t 23)),none,[]⟩] none)
 (.seq (.seq (.region [⟨(some 24),(.mov (.t 5)),none,[]⟩,
 ⟨(some 25),(.mov (.t 7)),none,[]⟩,
 ⟨(some 26),(.bin .shr (.t 24) (.t 25)),none,[]⟩,
 ⟨(some 27),(.mov (.t 7)),none,[]⟩,
 ⟨(some 28),(.bin .shl (.t 26) (.t 27)),none,[]⟩,
 ⟨(some 29),(.mov (.t 5)),none,[]⟩,
 ⟨(some 30),(.bin .neq (.t 28) (.t 29)),none,[]⟩] none)
 (.cond (.t 30)
 (.seq (.region [⟨(some 31),(.mov (.t 5)),none,[]⟩,
 ⟨(some 32),(.mov (.t 7)),none,[]⟩,
 ⟨(some 33),(.bin .shr (.t 31) (.t 32)),none,[]⟩,
 ⟨(some 34),(.bin .or (.t 33) (.c (.int .u64 1))),none,[]⟩,
 ⟨(some 4),(.mov (.t 34)),none,[]⟩] none)
 .ret)
 .skip))
 (.seq (.region [⟨(some 36),(.mov (.t 0)),none,[]⟩,
 ⟨(some 37),(.mov (.t 1)),none,[]⟩,
 ⟨(some 38),(.nilCheck (.t 37)),none,[]⟩,
 ⟨(some 39),(.fieldAddr 1 (.t 38)),none,[]⟩,
 ⟨(some 40),(.load none (.t 39)),none,[]⟩,
 ⟨(some 41),(.call (.f 138) [(.t 36),(.t 40)]),none,[]⟩,
 ⟨(some 35),(.mov (.t 41)),none,[]⟩,
 ⟨(some 42),(.extract (.t 35) 0),none,[]⟩,
 ⟨(some 43),(.extract (.t 35) 1),none,[]⟩,
 ⟨(some 8),(.mov (.t 42)),none,[]⟩,
 ⟨(some 9),(.mov (.t 43)),none,[]⟩] none)
 (.seq (.region [⟨(some 44),(.mov (.t 5)),none,[]⟩,
 ⟨(some 45),(.mov (.t 6)),none,[]⟩,
 ⟨(some 46),(.mov (.t 8)),none,[]⟩,
 ⟨(some 47),(.bin .lss (.t 45) (.t 46)),none,[]⟩,
 ⟨(some 48),(.call (.f 100) [(.t 47)]),none,[]⟩,
 ⟨(some 49),(.bin .sub (.t 44) (.t 48)),none,[]⟩,
 ⟨(some 5),(.mov (.t 49)),none,[]⟩] none)
 (.seq R111_0
 .ret)))))))
def F111 : AFunc := ⟨2,59,[(.tmp 4)],B111⟩
def B112 : ACode := (.seq (.region [⟨(some 4),(.mov (.c (.int .u64 0))),none,[]⟩] none)
 (.seq (.region [⟨(some 5),(.mov (.t 0)),none,[]⟩,
 ⟨(some 6),(.mov (.t 1)),none,[]⟩,
 ⟨(some 7),(.conv .u64 (.t 6)),none,[]⟩,
 ⟨(some 8),(.bin .add (.t 5) (.t 7)),none,[]⟩,
 ⟨(some 4),(.mov (.t 8)),none,[]⟩] none)
 .ret))
def F112 : AFunc := ⟨2,9,[(.tmp 4)],B112⟩
def B113 : ACode := (.seq (.region [⟨(some 2),(.mov (.c (.int .u64 0))),none,[]⟩] none)
 (.seq (.region [⟨(some 3),(.mov (.t 0)),none,[]⟩,
 ⟨(some 4),(.bin .add (.t 3) (.c (.int .u64 3))),none,[]⟩,
 ⟨(some 5),(.bin .shr (.t 4) (.c (.int .u64 2))),none,[]⟩,
 ⟨(some 2),(.mov (.t 5)),none,[]⟩] none)
 .ret))
def F113 : AFunc := ⟨1,6,[(.tmp 2)],B113⟩
def B114 : ACode := (.seq (.region [⟨(some 2),(.mov (.c (.int .u64 0))),none,[]⟩] none)
 (.seq (.region [⟨(some 3),(.mov (.t 0)),none,[]⟩,
 ⟨(some 4),(.bin .add (.t 3) (.c (.int .u64 0))),none,[]⟩,
 ⟨(some 5),(.bin .shr (.t 4) (.c (.int .u64 2))),none,[]⟩,
 ⟨(some 2),(.mov (.t 5)),none,[]⟩] none)
 .ret))
def F114 : AFunc := ⟨1,6,[(.tmp 2)],B114⟩
def B115 : ACode := (.seq (.region [⟨(some 2),(.mov (.c (.int .u64 0))),none,[]⟩] none)
 (.seq (.region [⟨(some 3),(.mov (.t 0)),none,[]⟩,
 ⟨(some 4),(.bin .add (.t 3) (.c (.int .u64 1))),none,[]⟩,
 ⟨(some 5),(.mov (.t 0)),none,[]⟩,
 ⟨(some 6),(.bin .shr (.t 5) (.c (.int .u64 2))),none,[]⟩,
 ⟨(some 7),(.bin .and (.t 6) (.c (.int .u64 1))),none,[]⟩,
 ⟨(some 8),(.bin .add (.t 4) (.t 7)),none,[]⟩,
 ⟨(some 9),(.bin .shr (.t 8) (.c (.int .u64 2))),none,[]⟩,
 ⟨(some 2),(.mov (.t 9)),none,[]⟩] none)
 .ret))
def F115 : AFunc := ⟨1,10,[(.tmp 2)],B115⟩
def R116_0 : ACode := .region [⟨(some 42),(.mov (.t 0)),none,[]⟩,
 ⟨(some 43),(.mov (.t 4)),none,[]⟩,
 ⟨(some 44),(.bin .sub (.t 43) (.c (.int .i64 1))),none,[1]⟩,
 ⟨(some 45),(.mov (.t 0)),none,[]⟩,
 ⟨(some 46),(.mov (.t 4)),none,[]⟩,
 ⟨(some 47),(.bin .sub (.t 46) (.c (.int .i64 2))),none,[4]⟩,
 ⟨(some 48),(.mov (.t 9)),none,[]⟩,
 ⟨(some 49),(.bin .add (.t 48) (.c (.int .u32 1))),none,[6]⟩,
 ⟨(some 50),(.indexStr (.c (.string ⟨#[48,48,48,49,48,50,48,51,48,52,48,53,48,54,48,55,48,56,48,57,49,48,49,49,49,50,49,51,49,52,49,53,49,54,49,55,49,56,49,57,50,48,50,49,50,50,50,51,50,52,50,53,50,54,50,55,50,56,50,57,51,48,51,49,51,50,51,51,51,52,51,53,51,54,51,55,51,56,51,57,52,48,52,49,52,50,52,51,52,52,52,53,52,54,52,55,52,56,52,57,53,48,53,49,53,50,53,51,53,52,53,53,53,54,53,55,53,56,53,57,54,48,54,49,54,50,54,51,54,52,54,53,54,54,54,55,54,56,54,57,55,48,55,49,55,50,55,51,55,52,55,53,55,54,55,55,55,56,55,57,56,48,56,49,56,50,56,51,56,52,56,53,56,54,56,55,56,56,56,57,57,48,57,49,57,50,57,51,57,52,57,53,57,54,57,55,57,56,57,57]⟩)) (.t 49)),none,[7]⟩,
 ⟨(some 51),(.mov (.t 9)),none,[]⟩,
 ⟨(some 52),(.indexStr (.c (.string ⟨#[48,48,48,49,48,50,48,51,48,52,48,53,48,54,48,55,48,56,48,57,49,48,49,49,49,50,49,51,49,52,49,53,49,54,49,55,49,56,49,57,50,48,50,49,50,50,50,51,50,52,50,53,50,54,50,55,50,56,50,57,51,48,51,49,51,50,51,51,51,52,51,53,51,54,51,55,51,56,51,57,52,48,52,49,52,50,52,51,52,52,52,53,52,54,52,55,52,56,52,57,53,48,53,49,53,50,53,51,53,52,53,53,53,54,53,55,53,56,53,57,54,48,54,49,54,50,54,51,54,52,54,53,54,54,54,55,54,56,54,57,55,48,55,49,55,50,55,51,55,52,55,53,55,54,55,55,55,56,55,57,56,48,56,49,56,50,56,51,56,52,56,53,56,54,56,55,56,56,56,57,57,48,57,49,57,50,57,51,57,52,57,53,57,54,57,55,57,56,57,57]⟩)) (.t 51)),none,[9]⟩,
 ⟨(some 53),(.indexAddr 1 (.t 42) (.t 44)),none,[0,2,0,1,2,6,7,8]⟩,
 ⟨none,(.store 1 (.t 53) (.t 50)),none,[11,8,0,1,2,6,7,8]⟩,
 ⟨(some 54),(.indexAddr 1 (.t 45) (.t 47)),none,[3,5,0,1,2,3,4,5,6,7,8,9,10,11,12]⟩,
 ⟨none,(.store 1 (.t 54) (.t 52)),none,[13,10,12,0,1,2,3,4,5,6,7,8,9,10,11,12]⟩] (some [(0,1),(0,2),(0,3),(1,3),(2,3),(0,4),(1,4),(2,4),(3,4),(0,5),(1,5),(2,5),(3,5),(0,6),(1,6),(2,6),(3,6),(4,6),(5,6),(0,7),(1,7),(2,7),(3,7),(4,7),(5,7),(0,8),(1,8),(2,8),(3,8),(4,8),(5,8),(0,9),(1,9),(2,9),(3,9),(4,9),(5,9),(6,9),(7,9),(8,9),(0,10),(1,10),(2,10),(3,10),(4,10),(5,10),(6,10),(7,10),(8,10),(3,11),(4,11),(5,11),(9,11),(10,11),(3,12),(4,12),(5,12),(9,12),(10,12)])
def R116_1 : ACode := .region [⟨(some 55),(.mov (.t 0)),none,[]⟩,
 ⟨(some 56),(.mov (.t 4)),none,[]⟩,
 ⟨(some 57),(.bin .sub (.t 56) (.c (.int .i64 3))),none,[1]⟩,
 ⟨(some 58),(.mov (.t 0)),none,[]⟩,
 ⟨(some 59),(.mov (.t 4)),none,[]⟩,
 ⟨(some 60),(.bin .sub (.t 59) (.c (.int .i64 4))),none,[4]⟩,
 ⟨(some 61),(.mov (.t 8)),none,[]⟩,
 ⟨(some 62),(.bin .add (.t 61) (.c (.int .u32 1))),none,[6]⟩,
 ⟨(some 63),(.indexStr (.c (.string ⟨#[48,48,48,49,48,50,48,51,48,52,48,53,48,54,48,55,48,56,48,57,49,48,49,49,49,50,49,51,49,52,49,53,49,54,49,55,49,56,49,57,50,48,50,49,50,50,50,51,50,52,50,53,50,54,50,55,50,56,50,57,51,48,51,49,51,50,51,51,51,52,51,53,51,54,51,55,51,56,51,57,52,48,52,49,52,50,52,51,52,52,52,53,52,54,52,55,52,56,52,57,53,48,53,49,53,50,53,51,53,52,53,53,53,54,53,55,53,56,53,57,54,48,54,49,54,50,54,51,54,52,54,53,54,54,54,55,54,56,54,57,55,48,55,49,55,50,55,51,55,52,55,53,55,54,55,55,55,56,55,57,56,48,56,49,56,50,56,51,56,52,56,53,56,54,56,55,56,56,56,57,57,48,57,49,57,50,57,51,57,52,57,53,57,54,57,55,57,56,57,57]⟩)) (.t 62)),none,[7]⟩,
 ⟨(some 64),(.mov (.t 8)),none,[]⟩,
 ⟨(some 65),(.indexStr (.c (.string ⟨#[48,48,48,49,48,50,48,51,48,52,48,53,48,54,48,55,48,56,48,57,49,48,49,49,49,50,49,51,49,52,49,53,49,54,49,55,49,56,49,57,50,48,50,49,50,50,50,51,50,52,50,53,50,54,50,55,50,56,50,57,51,48,51,49,51,50,51,51,51,52,51,53,51,54,51,55,51,56,51,57,52,48,52,49,52,50,52,51,52,52,52,53,52,54,52,55,52,56,52,57,53,48,53,49,53,50,53,51,53,52,53,53,53,54,53,55,53,56,53,57,54,48,54,49,54,50,54,51,54,52,54,53,54,54,54,55,54,56,54,57,55,48,55,49,55,50,55,51,55,52,55,53,55,54,55,55,55,56,55,57,56,48,56,49,56,50,56,51,56,52,56,53,56,54,56,55,56,56,56,57,57,48,57,49,57,50,57,51,57,52,57,53,57,54,57,55,57,56,57,57]⟩)) (.t 64)),none,[9]⟩,
 ⟨(some 66),(.indexAddr 1 (.t 55) (.t 57)),none,[0,2,0,1,2,6,7,8]⟩,
 ⟨none,(.store 1 (.t 66) (.t 63)),none,[11,8,0,1,2,6,7,8]⟩,
 ⟨(some 67),(.indexAddr 1 (.t 58) (.t 60)),none,[3,5,0,1,2,3,4,5,6,7,8,9,10,11,12]⟩,
 ⟨none,(.store 1 (.t 67) (.t 65)),none,[13,10,12,0,1,2,3,4,5,6,7,8,9,10,11,12]⟩] (some [(0,1),(0,2),(0,3),(1,3),(2,3),(0,4),(1,4),(2,4),(3,4),(0,5),(1,5),(2,5),(3,5),(0,6),(1,6),(2,6),(3,6),(4,6),(5,6),(0,7),(1,7),(2,7),(3,7),(4,7),(5,7),(0,8),(1,8),(2,8),(3,8),(4,8),(5,8),(0,9),(1,9),(2,9),(3,9),(4,9),(5,9),(6,9),(7,9),(8,9),(0,10),(1,10),(2,10),(3,10),(4,10),(5,10),(6,10),(7,10),(8,10),(3,11),(4,11),(5,11),(9,11),(10,11),(3,12),(4,12),(5,12),(9,12),(10,12)])
def R116_2 : ACode := .region [⟨(some 68),(.mov (.t 0)),none,[]⟩,
 ⟨(some 69),(.mov (.t 4)),none,[]⟩,
 ⟨(some 70),(.bin .sub (.t 69) (.c (.int .i64 5))),none,[1]⟩,
 ⟨(some 71),(.mov (.t 0)),none,[]⟩,
 ⟨(some 72),(.mov (.t 4)),none,[]⟩,
 ⟨(some 73),(.bin .sub (.t 72) (.c (.int .i64 6))),none,[4]⟩,
 ⟨(some 74),(.mov (.t 11)),none,[]⟩,
 ⟨(some 75),(.bin .add (.t 74) (.c (.int .u32 1))),none,[6]⟩,
 ⟨(some 76),(.indexStr (.c (.string ⟨#[48,48,48,49,48,50,48,51,48,52,48,53,48,54,48,55,48,56,48,57,49,48,49,49,49,50,49,51,49,52,49,53,49,54,49,55,49,56,49,57,50,48,50,49,50,50,50,51,50,52,50,53,50,54,50,55,50,56,50,57,51,48,51,49,51,50,51,51,51,52,51,53,51,54,51,55,51,56,51,57,52,48,52,49,52,50,52,51,52,52,52,53,52,54,52,55,52,56,52,57,53,48,53,49,53,50,53,51,53,52,53,53,53,54,53,55,53,56,53,57,54,48,54,49,54,50,54,51,54,52,54,53,54,54,54,55,54,56,54,57,55,48,55,49,55,50,55,51,55,52,55,53,55,54,55,55,55,56,55,57,56,48,56,49,56,50,56,51,56,52,56,53,56,54,56,55,56,56,56,57,57,48,57,49,57,50,57,51,57,52,57,53,57,54,57,55,57,56,57,57]⟩)) (.t 75)),none,[7]⟩,
 ⟨(some 77),(.mov (.t 11)),none,[]⟩,
 ⟨(some 78),(.indexStr (.c (.string ⟨#[48,48,48,49,48,50,48,51,48,52,48,53,48,54,48,55,48,56,48,57,49,48,49,49,49,50,49,51,49,52,49,53,49,54,49,55,49,56,49,57,50,48,50,49,50,50,50,51,50,52,50,53,50,54,50,55,50,56,50,57,51,48,51,49,51,50,51,51,51,52,51,53,51,54,51,55,51,56,51,57,52,48,52,49,52,50,52,51,52,52,52,53,52,54,52,55,52,56,52,57,53,48,53,49,53,50,53,51,53,52,53,53,53,54,53,55,53,56,53,57,54,48,54,49,54,50,54,51,54,52,54,53,54,54,54,55,54,56,54,57,55,48,55,49,55,50,55,51,55,52,55,53,55,54,55,55,55,56,55,57,56,48,56,49,56,50,56,51,56,52,56,53,56,54,56,55,56,56,56,57,57,48,57,49,57,50,57,51,57,52,57,53,57,54,57,55,57,56,57,57]⟩)) (.t 77)),none,[9]⟩,
 ⟨(some 79),(.indexAddr 1 (.t 68) (.t 70)),none,[0,2,0,1,2,6,7,8]⟩,
 ⟨none,(.store 1 (.t 79) (.t 76)),none,[11,8,0,1,2,6,7,8]⟩,
 ⟨(some 80),(.indexAddr 1 (.t 71) (.t 73)),none,[3,5,0,1,2,3,4,5,6,7,8,9,10,11,12]⟩,
 ⟨none,(.store 1 (.t 80) (.t 78)),none,[13,10,12,0,1,2,3,4,5,6,7,8,9,10,11,12]⟩] (some [(0,1),(0,2),(0,3),(1,3),(2,3),(0,4),(1,4),(2,4),(3,4),(0,5),(1,5),(2,5),(3,5),(0,6),(1,6),(2,6),(3,6),(4,6),(5,6),(0,7),(1,7),(2,7),(3,7),(4,7),(5,7),(0,8),(1,8),(2,8),(3,8),(4,8),(5,8),(0,9),(1,9),(2,9),(3,9),(4,9),(5,9),(6,9),(7,9),(8,9),(0,10),(1,10),(2,10),(3,10),(4,10),(5,10),(6,10),(7,10),(8,10),(3,11),(4,11),(5,11),(9,11),(10,11),(3,12),(4,12),(5,12),(9,12),(10,12)])
def R116_3 : ACode := .region [⟨(some 81),(.mov (.t 0)),none,[]⟩,
 ⟨(some 82),(.mov (.t 4)),none,[]⟩,
 ⟨(some 83),(.bin .sub (.t 82) (.c (.int .i64 7))),none,[1]⟩,
 ⟨(some 84),(.mov (.t 0)),none,[]⟩,
 ⟨(some 85),(.mov (.t 4)),none,[]⟩,
 ⟨(some 86),(.bin .sub (.t 85) (.c (.int .i64 8))),none,[4]⟩,
 ⟨(some 87),(.mov (.t 10)),none,[]⟩,
 ⟨(some 88),(.bin .add (.t 87) (.c (.int .u32 1))),none,[6]⟩,
 ⟨(some 89),(.indexStr (.c (.string ⟨#[48,48,48,49,48,50,48,51,48,52,48,53,48,54,48,55,48,56,48,57,49,48,49,49,49,50,49,51,49,52,49,53,49,54,49,55,49,56,49,57,50,48,50,49,50,50,50,51,50,52,50,53,50,54,50,55,50,56,50,57,51,48,51,49,51,50,51,51,51,52,51,53,51,54,51,55,51,56,51,57,52,48,52,49,52,50,52,51,52,52,52,53,52,54,52,55,52,56,52,57,53,48,53,49,53,50,53,51,53,52,53,53,53,54,53,55,53,56,53,57,54,48,54,49,54,50,54,51,54,52,54,53,54,54,54,55,54,56,54,57,55,48,55,49,55,50,55,51,55,52,55,53,55,54,55,55,55,56,55,57,56,48,56,49,56,50,56,51,56,52,56,53,56,54,56,55,56,56,56,57,57,48,57,49,57,50,57,51,57,52,57,53,57,54,57,55,57,56,57,57]⟩)) (.t 88)),none,[7]⟩,
 ⟨(some 90),(.mov (.t 10)),none,[]⟩,
 ⟨(some 91),(.indexStr (.c (.string ⟨#[48,48,48,49,48,50,48,51,48,52,48,53,48,54,48,55,48,56,48,57,49,48,49,49,49,50,49,51,49,52,49,53,49,54,49,55,49,56,49,57,50,48,50,49,50,50,50,51,50,52,50,53,50,54,50,55,50,56,50,57,51,48,51,49,51,50,51,51,51,52,51,53,51,54,51,55,51,56,51,57,52,48,52,49,52,50,52,51,52,52,52,53,52,54,52,55,52,56,52,57,53,48,53,49,53,50,53,51,53,52,53,53,53,54,53,55,53,56,53,57,54,48,54,49,54,50,54,51,54,52,54,53,54,54,54,55,54,56,54,57,55,48,55,49,55,50,55,51,55,52,55,53,55,54,55,55,55,56,55,57,56,48,56,49,56,50,56,51,56,52,56,53,56,54,56,55,56,56,56,57,57,48,57,49,57,50,57,51,57,52,57,53,57,54,57,55,57,56,57,57]⟩)) (.t 90)),none,[9]⟩,
 ⟨(some 92),(.indexAddr 1 (.t 81) (.t 83)),none,[0,2,0,1,2,6,7,8]⟩,
 ⟨none,(.store 1 (.t 92) (.t 89)),none,[11,8,0,1,2,6,7,8]⟩,
 ⟨(some 93),(.indexAddr 1 (.t 84) (.t 86)),none,[3,5,0,1,2,3,4,5,6,7,8,9,10,11,12]⟩,
 ⟨none,(.store 1 (.t 93) (.t 91)),none,[13,10,12,0,1,2,3,4,5,6,7,8,9,10,11,12]⟩] (some [(0,1),(0,2),(0,3),(1,3),(2,3),(0,4),(1,4),(2,4),(3,4),(0,5),(1,5),(2,5),(3,5),(0,6),(1,6),(2,6),(3,6),(4,6),(5,6),(0,7),(1,7),(2,7),(3,7),(4,7),(5,7),(0,8),(1,8),(2,8),(3,8),(4,8),(5,8),(0,9),(1,9),(2,9),(3,9),(4,9),(5,9),(6,9),(7,9),(8,9),(0,10),(1,10),(2,10),(3,10),(4,10),(5,10),(6,10),(7,10),(8,10),(3,11),(4,11),(5,11),(9,11),(10,11),(3,12),(4,12),(5,12),(9,12),(10,12)])
def R116_4 : ACode := .region [⟨(some 110),(.mov (.t 0)),none,[]⟩,
 ⟨(some 111),(.mov (.t 4)),none,[]⟩,
 ⟨(some 112),(.bin .sub (.t 111) (.c (.int .i64 1))),none,[1]⟩,
 ⟨(some 113),(.mov (.t 0)),none,[]⟩,
 ⟨(some 114),(.mov (.t 4)),none,[]⟩,
 ⟨(some 115),(.bin .sub (.t 114) (.c (.int .i64 2))),none,[4]⟩,
 ⟨(some 116),(.mov (.t 15)),none,[]⟩,
 ⟨(some 117),(.bin .add (.t 116) (.c (.int .u32 1))),none,[6]⟩,
 ⟨(some 118),(.indexStr (.c (.string ⟨#[48,48,48,49,48,50,48,51,48,52,48,53,48,54,48,55,48,56,48,57,49,48,49,49,49,50,49,51,49,52,49,53,49,54,49,55,49,56,49,57,50,48,50,49,50,50,50,51,50,52,50,53,50,54,50,55,50,56,50,57,51,48,51,49,51,50,51,51,51,52,51,53,51,54,51,55,51,56,51,57,52,48,52,49,52,50,52,51,52,52,52,53,52,54,52,55,52,56,52,57,53,48,53,49,53,50,53,51,53,52,53,53,53,54,53,55,53,56,53,57,54,48,54,49,54,50,54,51,54,52,54,53,54,54,54,55,54,56,54,57,55,48,55,49,55,50,55,51,55,52,55,53,55,54,55,55,55,56,55,57,56,48,56,49,56,50,56,51,56,52,56,53,56,54,56,55,56,56,56,57,57,48,57,49,57,50,57,51,57,52,57,53,57,54,57,55,57,56,57,57]⟩)) (.t 117)),none,[7]⟩,
 ⟨(some 119),(.mov (.t 15)),none,[]⟩,
 ⟨(some 120),(.indexStr (.c (.string ⟨#[48,48,48,49,48,50,48,51,48,52,48,53,48,54,48,55,48,56,48,57,49,48,49,49,49,50,49,51,49,52,49,53,49,54,49,55,49,56,49,57,50,48,50,49,50,50,50,51,50,52,50,53,50,54,50,55,50,56,50,57,51,48,51,49,51,50,51,51,51,52,51,53,51,54,51,55,51,56,51,57,52,48,52,49,52,50,52,51,52,52,52,53,52,54,52,55,52,56,52,57,53,48,53,49,53,50,53,51,53,52,53,53,53,54,53,55,53,56,53,57,54,48,54,49,54,50,54,51,54,52,54,53,54,54,54,55,54,56,54,57,55,48,55,49,55,50,55,51,55,52,55,53,55,54,55,55,55,56,55,57,56,48,56,49,56,50,56,51,56,52,56,53,56,54,56,55,56,56,56,57,57,48,57,49,57,50,57,51,57,52,57,53,57,54,57,55,57,56,57,57]⟩)) (.t 119)),none,[9]⟩,
 ⟨(some 121),(.indexAddr 1 (.t 110) (.t 112)),none,[0,2,0,1,2,6,7,8]⟩,
 ⟨none,(.store 1 (.t 121) (.t 118)),none,[11,8,0,1,2,6,7,8]⟩,
 ⟨(some 122),(.indexAddr 1 (.t 113) (.t 115)),none,[3,5,0,1,2,3,4,5,6,7,8,9,10,11,12]⟩,
 ⟨none,(.store 1 (.t 122) (.t 120)),none,[13,10,12,0,1,2,3,4,5,6,7,8,9,10,11,12]⟩] (some [(0,1),(0,2),(0,3),(1,3),(2,3),(0,4),(1,4),(2,4),(3,4),(0,5),(1,5),(2,5),(3,5),(0,6),(1,6),(2,6),(3,6),(4,6),(5,6),(0,7),(1,7),(2,7),(3,7),(4,7),(5,7),(0,8),(1,8),(2,8),(3,8),(4,8),(5,8),(0,9),(1,9),(2,9),(3,9),(4,9),(5,9),(6,9),(7,9),(8,9),(0,10),(1,10),(2,10),(3,10),(4,10),(5,10),(6,10),(7,10),(8,10),(3,11),(4,11),(5,11),(9,11),(10,11),(3,12),(4,12),(5,12),(9,12),(10,12)])
def R116_5 : ACode := .region [⟨(some 123),(.mov (.t 0)),none,[]⟩,
 ⟨(some 124),(.mov (.t 4)),none,[]⟩,
 ⟨(some 125),(.bin .sub (.t 124) (.c (.int .i64 3))),none,[1]⟩,
 ⟨(some 126),(.mov (.t 0)),none,[]⟩,
 ⟨(some 127),(.mov (.t 4)),none,[]⟩,
 ⟨(some 128),(.bin .sub (.t 127) (.c (.int .i64 4))),none,[4]⟩,
 ⟨(some 129),(.mov (.t 14)),none,[]⟩,
 ⟨(some 130),(.bin .add (.t 129) (.c (.int .u32 1))),none,[6]⟩,
 ⟨(some 131),(.indexStr (.c (.string ⟨#[48,48,48,49,48,50,48,51,48,52,48,53,48,54,48,55,48,56,48,57,49,48,49,49,49,50,49,51,49,52,49,53,49,54,49,55,49,56,49,57,50,48,50,49,50,50,50,51,50,52,50,53,50,54,50,55,50,56,50,57,51,48,51,49,51,50,51,51,51,52,51,53,51,54,51,55,51,56,51,57,52,48,52,49,52,50,52,51,52,52,52,53,52,54,52,55,52,56,52,57,53,48,53,49,53,50,53,51,53,52,53,53,53,54,53,55,53,56,53,57,54,48,54,49,54,50,54,51,54,52,54,53,54,54,54,55,54,56,54,57,55,48,55,49,55,50,55,51,55,52,55,53,55,54,55,55,55,56,55,57,56,48,56,49,56,50,56,51,56,52,56,53,56,54,56,55,56,56,56,57,57,48,57,49,57,50,57,51,57,52,57,53,57,54,57,55,57,56,57,57]⟩)) (.t 130)),none,[7]⟩,
 ⟨(some 132),(.mov (.t 14)),none,[]⟩,
 ⟨(some 133),(.indexStr (.c (.string ⟨#[48,48,48,49,48,50,48,51,48,52,48,53,48,54,48,55,48,56,48,57,49,48,49,49,49,50,49,51,49,52,49,53,49,54,49,55,49,56,49,57,50,48,50,49,50,50,50,51,50,52,50,53,50,54,50,55,50,56,50,57,51,48,51,49,51,50,51,51,51,52,51,53,51,54,51,55,51,56,51,57,52,48,52,49,52,50,52,51,52,52,52,53,52,54,52,55,52,56,52,57,53,48,53,49,53,50,53,51,53,52,53,53,53,54,53,55,53,56,53,57,54,48,54,49,54,50,54,51,54,52,54,53,54,54,54,55,54,56,54,57,55,48,55,49,55,50,55,51,55,52,55,53,55,54,55,55,55,56,55,57,56,48,56,49,56,50,56,51,56,52,56,53,56,54,56,55,56,56,56,57,57,48,57,49,57,50,57,51,57,52,57,53,57,54,57,55,57,56,57,57]⟩)) (.t 132)),none,[9]⟩,
 ⟨(some 134),(.indexAddr 1 (.t 123) (.t 125)),none,[0,2,0,1,2,6,7,8]⟩,
 ⟨none,(.store 1 (.t 134) (.t 131)),none,[11,8,0,1,2,6,7,8]⟩,
 ⟨(some 135),(.indexAddr 1 (.t 126) (.t 128)),none,[3,5,0,1,2,3,4,5,6,7,8,9,10,11,12]⟩,
 ⟨none,(.store 1 (.t 135) (.t 133)),none,[13,10,12,0,1,2,3,4,5,6,7,8,9,10,11,12]⟩] (some [(0,1),(0,2),(0,3),(1,3),(2,3),(0,4),(1,4),(2,4),(3,4),(0,5),(1,5),(2,5),(3,5),(0,6),(1,6),(2,6),(3,6),(4,6),(5,6),(0,7),(1,7),(2,7),(3,7),(4,7),(5,7),(0,8),(1,8),(2,8),(3,8),(4,8),(5,8),(0,9),(1,9),(2,9),(3,9),(4,9),(5,9),(6,9),(7,9),(8,9),(0,10),(1,10),(2,10),(3,10),(4,10),(5,10),(6,10),(7,10),(8,10),(3,11),(4,11),(5,11),(9,11),(10,11),(3,12),(4,12),(5,12),(9,12),(10,12)])
def R116_6 : ACode := .region [⟨(some 145),(.mov (.t 0)),none,[]⟩,
 ⟨(some 146),(.mov (.t 4)),none,[]⟩,
 ⟨(some 147),(.bin .sub (.t 146) (.c (.int .i64 1))),none,[1]⟩,
 ⟨(some 148),(.mov (.t 0)),none,[]⟩,
 ⟨(some 149),(.mov (.t 4)),none,[]⟩,
 ⟨(some 150),(.bin .sub (.t 149) (.c (.int .i64 2))),none,[4]⟩,
 ⟨(some 151),(.mov (.t 16)),none,[]⟩,
 ⟨(some 152),(.bin .add (.t 151) (.c (.int .u32 1))),none,[6]⟩,
 ⟨(some 153),(.indexStr (.c (.string ⟨#[48,48,48,49,48,50,48,51,48,52,48,53,48,54,48,55,48,56,48,57,49,48,49,49,49,50,49,51,49,52,49,53,49,54,49,55,49,56,49,57,50,48,50,49,50,50,50,51,50,52,50,53,50,54,50,55,50,56,50,57,51,48,51,49,51,50,51,51,51,52,51,53,51,54,51,55,51,56,51,57,52,48,52,49,52,50,52,51,52,52,52,53,52,54,52,55,52,56,52,57,53,48,53,49,53,50,53,51,53,52,53,53,53,54,53,55,53,56,53,57,54,48,54,49,54,50,54,51,54,52,54,53,54,54,54,55,54,56,54,57,55,48,55,49,55,50,55,51,55,52,55,53,55,54,55,55,55,56,55,57,56,48,56,49,56,50,56,51,56,52,56,53,56,54,56,55,56,56,56,57,57,48,57,49,57,50,57,51,57,52,57,53,57,54,57,55,57,56,57,57]⟩)) (.t 152)),none,[7]⟩,
 ⟨(some 154),(.mov (.t 16)),none,[]⟩,
 ⟨(some 155),(.indexStr (.c (.string ⟨#[48,48,48,49,48,50,48,51,48,52,48,53,48,54,48,55,48,56,48,57,49,48,49,49,49,50,49,51,49,52,49,53,49,54,49,55,49,56,49,57,50,48,50,49,50,50,50,51,50,52,50,53,50,54,50,55,50,56,50,57,51,48,51,49,51,50,51,51,51,52,51,53,51,54,51,55,51,56,51,57,52,48,52,49,52,50,52,51,52,52,52,53,52,54,52,55,52,56,52,57,53,48,53,49,53,50,53,51,53,52,53,53,53,54,53,55,53,56,53,57,54,48,54,49,54,50,54,51,54,52,54,53,54,54,54,55,54,56,54,57,55,48,55,49,55,50,55,51,55,52,55,53,55,54,55,55,55,56,55,57,56,48,56,49,56,50,56,51,56,52,56,53,56,54,56,55,56,56,56,57,57,48,57,49,57,50,57,51,57,52,57,53,57,54,57,55,57,56,57,57]⟩)) (.t 154)),none,[9]⟩,
 ⟨(some 156),(.indexAddr 1 (.t 145) (.t 147)),none,[0,2,0,1,2,6,7,8]⟩,
 ⟨none,(.store 1 (.t 156) (.t 153)),none,[11,8,0,1,2,6,7,8]⟩,
 ⟨(some 157),(.indexAddr 1 (.t 148) (.t 150)),none,[3,5,0,1,2,3,4,5,6,7,8,9,10,11,12]⟩,
 ⟨none,(.store 1 (.t 157) (.t 155)),none,[13,10,12,0,1,2,3,4,5,6,7,8,9,10,11,12]⟩] (some [(0,1),(0,2),(0,3),(1,3),(2,3),(0,4),(1,4),(2,4),(3,4),(0,5),(1,5),(2,5),(3,5),(0,6),(1,6),(2,6),(3,6),(4,6),(5,6),(0,7),(1,7),(2,7),(3,7),(4,7),(5,7),(0,8),(1,8),(2,8),(3,8),(4,8),(5,8),(0,9),(1,9),(2,9),(3,9),(4,9),(5,9),(6,9),(7,9),(8,9),(0,10),(1,10),(2,10),(3,10),(4,10),(5,10),(6,10),(7,10),(8,10),(3,11),(4,11),(5,11),(9,11),(10,11),(3,12),(4,12),(5,12),(9,12),(10,12)])
end
end Go.Proofs.YtkdpjaaohddppaaGreatDoor.Am
