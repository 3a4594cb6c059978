/- The mirror's code of the seat's functions; printed by KPrint. -/
import Derived.Test.YtijipnkdabdioaaGreatDoorMir21
import Derived.Test.YtijipnkdabdioaaGreatDoorRows
namespace Go.Proofs.YtijipnkdabdioaaGreatDoor
/-- scribe/scribelaw04.JournalKeeps -/
def g3 : Mir.Fn := ⟨117, [(.tmp 8)],
(.seq
(.ops [⟨(some 8), none, (.p (.mv (.c (.bool false)))), 0, []⟩])
(.seq
(.ops [⟨(some 18), none, (.h (.call (.c (.fn 4 [] [])) [(.c (.int .i64 1048576))])), 0, []⟩,
⟨(some 9), none, (.p (.mv (.tmp 18))), 0, []⟩])
(.seq
(.seq
(.ops [⟨(some 19), none, (.h (.call (.c (.fn 5 [] [])) [])), 0, []⟩,
⟨(some 20), none, (.p (.un .not (.tmp 19))), 0, []⟩,
⟨(some 21), none, (.p (.mv (.tmp 20))), 0, []⟩,
⟨(some 22), (some (21, false)), (.p (.mv (.tmp 9))), 0, []⟩,
⟨(some 23), (some (21, false)), (.p (.eq .ptr false (.tmp 22) (.c .nilptr))), 0, []⟩,
⟨(some 24), none, (.p (.pick (.tmp 21) (.c (.bool true)) (.tmp 23))), 0, []⟩])
(.cond (.tmp 24)
(.seq
(.ops [⟨(some 8), none, (.p (.mv (.c (.bool false)))), 0, []⟩])
.ret)
.skip))
(.seq
(.seq
(.ops [⟨(some 25), none, (.p (.mv (.tmp 2))), 0, []⟩,
⟨(some 26), none, (.p (.lenSl (.tmp 25))), 0, []⟩,
⟨(some 27), none, (.p (.bin .gtr (.tmp 26) (.c (.int .i64 20)))), 0, []⟩])
(.cond (.tmp 27)
(.ops [⟨(some 28), none, (.p (.mv (.tmp 2))), 0, []⟩,
⟨(some 29), none, (.p (.subSl 1 (.tmp 28) none (some (.c (.int .i64 20))))), 0, []⟩,
⟨(some 2), none, (.p (.mv (.tmp 29))), 0, []⟩])
.skip))
(.seq
(.ops [⟨(some 10), none, (.p (.mv (.c (.str [])))), 0, []⟩,
⟨(some 11), none, (.p (.mv (.c (.bool false)))), 0, []⟩])
(.seq
(.seq
(.ops [⟨(some 12), none, (.p (.mv (.c (.int .i64 0)))), 0, []⟩])
(.block 0 (.loop (.seq
(.seq
(.ops [⟨(some 30), none, (.p (.mv (.tmp 12))), 0, []⟩,
⟨(some 31), none, (.p (.mv (.tmp 0))), 0, []⟩,
⟨(some 32), none, (.p (.lenSl (.tmp 31))), 0, []⟩,
⟨(some 33), none, (.p (.bin .lss (.tmp 30) (.tmp 32))), 0, []⟩,
⟨(some 34), none, (.p (.mv (.tmp 33))), 0, []⟩,
⟨(some 35), (some (34, true)), (.p (.mv (.tmp 12))), 0, []⟩,
⟨(some 36), (some (34, true)), (.p (.bin .lss (.tmp 35) (.c (.int .i64 12)))), 0, []⟩,
⟨(some 37), none, (.p (.pick (.tmp 34) (.tmp 36) (.c (.bool false)))), 0, []⟩])
(.cond (.tmp 37)
.skip
(.exit 0)))
(.seq
(.block 1 (.seq
(.ops [⟨(some 40), none, (.p (.mv (.tmp 0))), 0, []⟩,
⟨(some 41), none, (.p (.mv (.tmp 12))), 0, []⟩,
⟨(some 42), none, (.p (.idxSl 1 (.tmp 40) (.tmp 41))), 0, []⟩,
⟨(some 43), none, (.r (.load 1 false (.tmp 42))), 0, []⟩,
⟨(some 44), none, (.h (.call (.c (.fn 6 [] [])) [(.tmp 43), (.c (.int .i64 300))])), 0, []⟩,
⟨(some 13), none, (.p (.mv (.tmp 44))), 0, []⟩])
(.seq
(.seq
(.ops [⟨(some 45), none, (.p (.mv (.tmp 12))), 0, []⟩,
⟨(some 46), none, (.p (.mv (.tmp 1))), 0, []⟩,
⟨(some 47), none, (.p (.lenSl (.tmp 46))), 0, []⟩,
⟨(some 48), none, (.p (.bin .lss (.tmp 45) (.tmp 47))), 0, []⟩])
(.cond (.tmp 48)
(.ops [⟨(some 49), none, (.p (.mv (.tmp 9))), 0, []⟩,
⟨(some 50), none, (.p (.mv (.tmp 1))), 0, []⟩,
⟨(some 51), none, (.p (.mv (.tmp 12))), 0, []⟩,
⟨(some 52), none, (.p (.idxSl 1 (.tmp 50) (.tmp 51))), 0, []⟩,
⟨(some 53), none, (.r (.load 1 false (.tmp 52))), 0, []⟩,
⟨(some 54), none, (.h (.call (.c (.fn 7 [] [])) [(.tmp 49), (.tmp 53)])), 0, []⟩])
.skip))
(.seq
(.ops [⟨(some 55), none, (.p (.mv (.tmp 9))), 0, []⟩,
⟨(some 56), none, (.p (.mv (.tmp 13))), 0, []⟩,
⟨(some 57), none, (.h (.call (.c (.fn 8 [] [])) [(.tmp 55), (.tmp 56)])), 0, []⟩,
⟨(some 14), none, (.p (.mv (.tmp 57))), 0, []⟩])
(.seq
(.ops [⟨(some 58), none, (.p (.mv (.tmp 9))), 0, []⟩,
⟨(some 59), none, (.h (.call (.c (.fn 9 [] [])) [(.tmp 58)])), 0, []⟩,
⟨(some 15), none, (.p (.mv (.tmp 59))), 0, []⟩])
(.seq
(.seq
(.ops [⟨(some 60), none, (.p (.mv (.tmp 14))), 0, []⟩,
⟨(some 61), none, (.p (.bin .eql (.tmp 60) (.c (.int .i64 8)))), 0, []⟩,
⟨(some 62), none, (.p (.mv (.tmp 15))), 0, []⟩,
⟨(some 63), none, (.p (.eq .bool true (.tmp 61) (.tmp 62))), 0, []⟩,
⟨(some 64), none, (.p (.mv (.tmp 63))), 0, []⟩,
⟨(some 65), (some (64, false)), (.p (.mv (.tmp 15))), 0, []⟩,
⟨(some 66), (some (64, false)), (.p (.un .not (.tmp 65))), 0, []⟩,
⟨(some 67), (some (64, false)), (.p (.mv (.tmp 66))), 0, []⟩,
⟨(some 68), (some (67, true)), (.p (.mv (.tmp 14))), 0, []⟩,
⟨(some 69), (some (67, true)), (.p (.bin .neq (.tmp 68) (.c (.int .i64 0)))), 0, []⟩,
⟨(some 70), (some (64, false)), (.p (.pick (.tmp 67) (.tmp 69) (.c (.bool false)))), 0, []⟩,
⟨(some 71), none, (.p (.pick (.tmp 64) (.c (.bool true)) (.tmp 70))), 0, []⟩])
(.cond (.tmp 71)
(.seq
(.ops [⟨(some 8), none, (.p (.mv (.c (.bool false)))), 0, []⟩])
.ret)
.skip))
(.seq
(.ops [⟨(some 72), none, (.p (.mv (.tmp 9))), 0, []⟩,
⟨(some 73), none, (.h (.call (.c (.fn 7 [] [])) [(.tmp 72), (.c (.int .i64 (-1)))])), 0, []⟩])
(.seq
(.seq
(.ops [⟨(some 74), none, (.p (.mv (.tmp 15))), 0, []⟩])
(.cond (.tmp 74)
(.ops [⟨(some 75), none, (.p (.mv (.tmp 9))), 0, []⟩,
⟨(some 76), none, (.p (.mv (.tmp 2))), 0, []⟩,
⟨(some 77), none, (.p (.mv (.tmp 3))), 0, []⟩,
⟨(some 78), none, (.h (.call (.c (.fn 10 [] [])) [(.tmp 75), (.tmp 76), (.tmp 77)])), 0, []⟩])
.skip))
(.seq
(.ops [⟨(some 80), none, (.p (.mv (.tmp 9))), 0, []⟩,
⟨(some 81), none, (.h (.call (.c (.fn 11 [] [])) [(.tmp 80)])), 0, []⟩,
⟨(some 79), none, (.p (.mv (.tmp 81))), 0, []⟩,
⟨(some 82), none, (.p (.ext (.tmp 79) 0)), 0, []⟩,
⟨(some 83), none, (.p (.ext (.tmp 79) 1)), 0, []⟩,
⟨(some 16), none, (.p (.mv (.tmp 82))), 0, []⟩,
⟨(some 17), none, (.p (.mv (.tmp 83))), 0, []⟩])
(.block 2 (.seq
(.ops [⟨(some 86), none, (.p (.mv (.tmp 15))), 0, []⟩,
⟨(some 87), none, (.p (.un .not (.tmp 86))), 0, []⟩,
⟨(some 85), none, (.p (.mv (.tmp 87))), 0, []⟩])
(.cond (.tmp 85)
(.seq
(.seq
(.ops [⟨(some 88), none, (.p (.mv (.tmp 17))), 0, []⟩,
⟨(some 89), none, (.p (.bin .neq (.tmp 88) (.c (.int .i64 0)))), 0, []⟩,
⟨(some 90), none, (.p (.mv (.tmp 89))), 0, []⟩,
⟨(some 91), (some (90, false)), (.p (.mv (.tmp 16))), 0, []⟩,
⟨(some 92), (some (90, false)), (.p (.mv (.tmp 13))), 0, []⟩,
⟨(some 93), (some (90, false)), (.p (.bin .neq (.tmp 91) (.tmp 92))), 0, []⟩,
⟨(some 94), none, (.p (.pick (.tmp 90) (.c (.bool true)) (.tmp 93))), 0, []⟩])
(.cond (.tmp 94)
(.seq
(.ops [⟨(some 8), none, (.p (.mv (.c (.bool false)))), 0, []⟩])
.ret)
.skip))
(.seq
(.ops [⟨(some 95), none, (.p (.mv (.tmp 13))), 0, []⟩,
⟨(some 10), none, (.p (.mv (.tmp 95))), 0, []⟩])
(.ops [⟨(some 11), none, (.p (.mv (.c (.bool true)))), 0, []⟩])))
(.seq
(.ops [⟨(some 97), none, (.p (.mv (.tmp 17))), 0, []⟩,
⟨(some 98), none, (.p (.bin .eql (.tmp 97) (.c (.int .i64 5)))), 0, []⟩,
⟨(some 96), none, (.p (.mv (.tmp 98))), 0, []⟩])
(.cond (.tmp 96)
(.seq
(.ops [⟨(some 99), none, (.p (.mv (.tmp 11))), 0, []⟩])
(.cond (.tmp 99)
(.seq
(.ops [⟨(some 8), none, (.p (.mv (.c (.bool false)))), 0, []⟩])
.ret)
.skip))
(.seq
(.ops [⟨(some 101), none, (.p (.mv (.tmp 17))), 0, []⟩,
⟨(some 102), none, (.p (.bin .neq (.tmp 101) (.c (.int .i64 0)))), 0, []⟩,
⟨(some 103), none, (.p (.mv (.tmp 102))), 0, []⟩,
⟨(some 104), (some (103, false)), (.p (.mv (.tmp 16))), 0, []⟩,
⟨(some 105), (some (103, false)), (.p (.mv (.tmp 13))), 0, []⟩,
⟨(some 106), (some (103, false)), (.p (.bin .neq (.tmp 104) (.tmp 105))), 0, []⟩,
⟨(some 107), (some (103, false)), (.p (.mv (.tmp 106))), 0, []⟩,
⟨(some 108), (some (107, true)), (.p (.mv (.tmp 11))), 0, []⟩,
⟨(some 109), (some (107, true)), (.p (.un .not (.tmp 108))), 0, []⟩,
⟨(some 110), (some (107, true)), (.p (.mv (.tmp 109))), 0, []⟩,
⟨(some 111), (some (110, false)), (.p (.mv (.tmp 16))), 0, []⟩,
⟨(some 112), (some (110, false)), (.p (.mv (.tmp 10))), 0, []⟩,
⟨(some 113), (some (110, false)), (.p (.bin .neq (.tmp 111) (.tmp 112))), 0, []⟩,
⟨(some 114), (some (107, true)), (.p (.pick (.tmp 110) (.c (.bool true)) (.tmp 113))), 0, []⟩,
⟨(some 115), (some (103, false)), (.p (.pick (.tmp 107) (.tmp 114) (.c (.bool false)))), 0, []⟩,
⟨(some 116), none, (.p (.pick (.tmp 103) (.c (.bool true)) (.tmp 115))), 0, []⟩,
⟨(some 100), none, (.p (.mv (.tmp 116))), 0, []⟩])
(.cond (.tmp 100)
(.seq
(.ops [⟨(some 8), none, (.p (.mv (.c (.bool false)))), 0, []⟩])
.ret)
(.seq
(.ops [⟨(some 84), none, (.p (.mv (.tmp 16))), 0, []⟩,
⟨(some 10), none, (.p (.mv (.tmp 84))), 0, []⟩])
(.ops [⟨(some 11), none, (.p (.mv (.c (.bool true)))), 0, []⟩]))))))))))))))))))
(.ops [⟨(some 38), none, (.p (.mv (.tmp 12))), 0, []⟩,
⟨(some 39), none, (.p (.bin .add (.tmp 38) (.c (.int .i64 1)))), 0, []⟩,
⟨(some 12), none, (.p (.mv (.tmp 39))), 0, []⟩]))))))
(.seq
(.ops [⟨(some 8), none, (.p (.mv (.c (.bool true)))), 0, []⟩])
.ret)))))))⟩
theorem c3 : Mir.compF Tryz.prog Tryz.f3 = some g3 := by kernel_rfl
/-- scribe/disk.New -/
def g4 : Mir.Fn := ⟨9, [(.tmp 2)],
(.seq
(.ops [⟨(some 2), none, (.p (.mv (.c .nilptr))), 0, []⟩])
(.seq
(.ops [⟨(some 3), none, (.a .mkMap), 0, []⟩,
⟨(some 4), none, (.a .mkMap), 0, []⟩,
⟨(some 5), none, (.p (.mv (.tmp 0))), 0, []⟩,
⟨(some 6), none, (.p (.mnmx true (.tmp 5) [(.c (.int .i64 0))])), 0, []⟩,
⟨(some 7), none, (.p (.build [.nilmap, .nilmap, (.int .i64 0), (.int .i64 0), (.bool false)] [(0, (1, (.tmp 3))), (1, (1, (.tmp 4))), (2, (1, (.tmp 6))), (3, (1, (.c (.int .i64 (-1))))), (4, (1, (.c (.bool false))))])), 0, []⟩,
⟨(some 8), none, (.a (.box (.tmp 7))), 0, []⟩,
⟨(some 2), none, (.p (.mv (.tmp 8))), 0, []⟩])
.ret))⟩
theorem c4 : Mir.compF Tryz.prog Tryz.f4 = some g4 := by kernel_rfl
/-- scribe/scribelaw04.awake -/
def g5 : Mir.Fn := ⟨27, [(.tmp 0)],
(.seq
(.ops [⟨(some 0), none, (.p (.mv (.c (.bool false)))), 0, []⟩])
(.seq
(.ops [⟨(some 6), none, (.h (.call (.c (.fn 12 [] [])) [(.c (.str [115, 99, 114, 105, 98, 101, 32, 49, 32, 50, 32, 48, 49, 50, 54, 48, 48, 99, 52, 10, 97, 98]))])), 0, []⟩,
⟨(some 5), none, (.p (.mv (.tmp 6))), 0, []⟩,
⟨(some 7), none, (.p (.ext (.tmp 5) 0)), 0, []⟩,
⟨(some 8), none, (.p (.ext (.tmp 5) 1)), 0, []⟩,
⟨(some 1), none, (.p (.mv (.tmp 7))), 0, []⟩,
⟨(some 2), none, (.p (.mv (.tmp 8))), 0, []⟩])
(.seq
(.ops [⟨(some 10), none, (.h (.call (.c (.fn 12 [] [])) [(.c (.str [115, 99, 114, 105, 98, 101, 32, 49, 32, 50, 32, 48, 49, 50, 54, 48, 48, 99, 52, 10, 98, 98]))])), 0, []⟩,
⟨(some 9), none, (.p (.mv (.tmp 10))), 0, []⟩,
⟨(some 11), none, (.p (.ext (.tmp 9) 0)), 0, []⟩,
⟨(some 12), none, (.p (.ext (.tmp 9) 1)), 0, []⟩,
⟨(some 3), none, (.p (.mv (.tmp 11))), 0, []⟩,
⟨(some 4), none, (.p (.mv (.tmp 12))), 0, []⟩])
(.seq
(.ops [⟨(some 13), none, (.p (.mv (.tmp 2))), 0, []⟩,
⟨(some 14), none, (.p (.bin .eql (.tmp 13) (.c (.int .i64 0)))), 0, []⟩,
⟨(some 15), none, (.p (.mv (.tmp 14))), 0, []⟩,
⟨(some 16), (some (15, true)), (.p (.mv (.tmp 1))), 0, []⟩,
⟨(some 17), (some (15, true)), (.p (.bin .eql (.tmp 16) (.c (.str [97, 98])))), 0, []⟩,
⟨(some 18), none, (.p (.pick (.tmp 15) (.tmp 17) (.c (.bool false)))), 0, []⟩,
⟨(some 19), none, (.p (.mv (.tmp 18))), 0, []⟩,
⟨(some 20), (some (19, true)), (.p (.mv (.tmp 4))), 0, []⟩,
⟨(some 21), (some (19, true)), (.p (.bin .eql (.tmp 20) (.c (.int .i64 4)))), 0, []⟩,
⟨(some 22), none, (.p (.pick (.tmp 19) (.tmp 21) (.c (.bool false)))), 0, []⟩,
⟨(some 23), none, (.p (.mv (.tmp 22))), 0, []⟩,
⟨(some 24), (some (23, true)), (.h (.call (.c (.fn 13 [] [])) [(.c (.str [97, 98]))])), 0, []⟩,
⟨(some 25), (some (23, true)), (.p (.bin .eql (.tmp 24) (.c (.str [115, 99, 114, 105, 98, 101, 32, 49, 32, 50, 32, 48, 49, 50, 54, 48, 48, 99, 52, 10, 97, 98])))), 0, []⟩,
⟨(some 26), none, (.p (.pick (.tmp 23) (.tmp 25) (.c (.bool false)))), 0, []⟩,
⟨(some 0), none, (.p (.mv (.tmp 26))), 0, []⟩])
.ret))))⟩
theorem c5 : Mir.compF Tryz.prog Tryz.f5 = some g5 := by kernel_rfl
/-- scribe/scribelaw01.Cut -/
def g6 : Mir.Fn := ⟨13, [(.tmp 4)],
(.seq
(.ops [⟨(some 4), none, (.p (.mv (.c (.str [])))), 0, []⟩])
(.seq
(.seq
(.ops [⟨(some 5), none, (.p (.mv (.tmp 0))), 0, []⟩,
⟨(some 6), none, (.p (.lenStr (.tmp 5))), 0, []⟩,
⟨(some 7), none, (.p (.mv (.tmp 1))), 0, []⟩,
⟨(some 8), none, (.p (.bin .gtr (.tmp 6) (.tmp 7))), 0, []⟩])
(.cond (.tmp 8)
(.seq
(.ops [⟨(some 9), none, (.p (.mv (.tmp 0))), 0, []⟩,
⟨(some 10), none, (.p (.mv (.tmp 1))), 0, []⟩,
⟨(some 11), none, (.p (.subStr (.tmp 9) none (some (.tmp 10)))), 0, []⟩,
⟨(some 4), none, (.p (.mv (.tmp 11))), 0, []⟩])
.ret)
.skip))
(.seq
(.ops [⟨(some 12), none, (.p (.mv (.tmp 0))), 0, []⟩,
⟨(some 4), none, (.p (.mv (.tmp 12))), 0, []⟩])
.ret)))⟩
theorem c6 : Mir.compF Tryz.prog Tryz.f6 = some g6 := by kernel_rfl
/-- (*scribe/disk.Disk).Arm -/
def g7 : Mir.Fn := ⟨14, [],
(.seq
(.ops [⟨(some 4), none, (.p (.mv (.tmp 0))), 0, []⟩,
⟨(some 5), none, (.p (.nilchk (.tmp 4))), 0, []⟩,
⟨(some 6), none, (.p (.fieldAt 4 (.tmp 5))), 0, []⟩,
⟨(some 7), none, (.r (.load 1 false (.tmp 6))), 0, []⟩,
⟨(some 8), none, (.p (.un .not (.tmp 7))), 0, []⟩])
(.cond (.tmp 8)
(.ops [⟨(some 9), none, (.p (.mv (.tmp 0))), 0, []⟩,
⟨(some 10), none, (.p (.mv (.tmp 1))), 0, []⟩,
⟨(some 11), none, (.p (.mnmx true (.tmp 10) [(.c (.int .i64 (-1)))])), 0, []⟩,
⟨(some 12), none, (.p (.nilchk (.tmp 9))), 0, []⟩,
⟨(some 13), none, (.p (.fieldAt 3 (.tmp 12))), 0, []⟩,
⟨none, none, (.h (.store 1 (.tmp 13) (.tmp 11))), 0, []⟩])
.skip))⟩
theorem c7 : Mir.compF Tryz.prog Tryz.f7 = some g7 := by kernel_rfl
/-- scribe/journal.Save -/
def g8 : Mir.Fn := ⟨38, [(.tmp 4)],
(.seq
(.ops [⟨(some 4), none, (.p (.mv (.c (.int .i64 0)))), 0, []⟩])
(.seq
(.seq
(.ops [⟨(some 10), none, (.p (.mv (.tmp 0))), 0, []⟩,
⟨(some 11), none, (.h (.call (.c (.fn 14 [] [])) [(.tmp 10), (.c (.str [106, 111, 117, 114, 110, 97, 108, 46, 110, 101, 119]))])), 0, []⟩,
⟨(some 9), none, (.p (.mv (.tmp 11))), 0, []⟩,
⟨(some 12), none, (.p (.ext (.tmp 9) 0)), 0, []⟩,
⟨(some 13), none, (.p (.ext (.tmp 9) 1)), 0, []⟩,
⟨(some 5), none, (.p (.mv (.tmp 12))), 0, []⟩,
⟨(some 6), none, (.p (.mv (.tmp 13))), 0, []⟩])
(.seq
(.ops [⟨(some 14), none, (.p (.mv (.tmp 6))), 0, []⟩,
⟨(some 15), none, (.p (.bin .eql (.tmp 14) (.c (.int .i64 0)))), 0, []⟩])
(.cond (.tmp 15)
(.seq
(.ops [⟨(some 16), none, (.p (.mv (.tmp 0))), 0, []⟩,
⟨(some 17), none, (.h (.call (.c (.fn 15 [] [])) [(.tmp 16), (.c (.str [106, 111, 117, 114, 110, 97, 108, 46, 110, 101, 119]))])), 0, []⟩,
⟨(some 7), none, (.p (.mv (.tmp 17))), 0, []⟩])
(.seq
(.ops [⟨(some 18), none, (.p (.mv (.tmp 7))), 0, []⟩,
⟨(some 19), none, (.p (.bin .neq (.tmp 18) (.c (.int .i64 0)))), 0, []⟩])
(.cond (.tmp 19)
(.seq
(.ops [⟨(some 20), none, (.p (.mv (.tmp 7))), 0, []⟩,
⟨(some 4), none, (.p (.mv (.tmp 20))), 0, []⟩])
.ret)
.skip)))
.skip)))
(.seq
(.ops [⟨(some 21), none, (.p (.mv (.tmp 0))), 0, []⟩,
⟨(some 22), none, (.p (.mv (.tmp 1))), 0, []⟩,
⟨(some 23), none, (.h (.call (.c (.fn 13 [] [])) [(.tmp 22)])), 0, []⟩,
⟨(some 24), none, (.h (.call (.c (.fn 16 [] [])) [(.tmp 21), (.c (.str [106, 111, 117, 114, 110, 97, 108, 46, 110, 101, 119])), (.tmp 23)])), 0, []⟩,
⟨(some 8), none, (.p (.mv (.tmp 24))), 0, []⟩])
(.seq
(.seq
(.ops [⟨(some 25), none, (.p (.mv (.tmp 8))), 0, []⟩,
⟨(some 26), none, (.p (.bin .eql (.tmp 25) (.c (.int .i64 0)))), 0, []⟩])
(.cond (.tmp 26)
(.ops [⟨(some 27), none, (.p (.mv (.tmp 0))), 0, []⟩,
⟨(some 28), none, (.h (.call (.c (.fn 17 [] [])) [(.tmp 27), (.c (.str [106, 111, 117, 114, 110, 97, 108, 46, 110, 101, 119]))])), 0, []⟩,
⟨(some 8), none, (.p (.mv (.tmp 28))), 0, []⟩])
.skip))
(.seq
(.seq
(.ops [⟨(some 29), none, (.p (.mv (.tmp 8))), 0, []⟩,
⟨(some 30), none, (.p (.bin .eql (.tmp 29) (.c (.int .i64 0)))), 0, []⟩])
(.cond (.tmp 30)
(.ops [⟨(some 31), none, (.p (.mv (.tmp 0))), 0, []⟩,
⟨(some 32), none, (.h (.call (.c (.fn 18 [] [])) [(.tmp 31), (.c (.str [106, 111, 117, 114, 110, 97, 108, 46, 110, 101, 119])), (.c (.str [106, 111, 117, 114, 110, 97, 108]))])), 0, []⟩,
⟨(some 8), none, (.p (.mv (.tmp 32))), 0, []⟩])
.skip))
(.seq
(.seq
(.ops [⟨(some 33), none, (.p (.mv (.tmp 8))), 0, []⟩,
⟨(some 34), none, (.p (.bin .eql (.tmp 33) (.c (.int .i64 0)))), 0, []⟩])
(.cond (.tmp 34)
(.ops [⟨(some 35), none, (.p (.mv (.tmp 0))), 0, []⟩,
⟨(some 36), none, (.h (.call (.c (.fn 19 [] [])) [(.tmp 35)])), 0, []⟩,
⟨(some 8), none, (.p (.mv (.tmp 36))), 0, []⟩])
.skip))
(.seq
(.ops [⟨(some 37), none, (.p (.mv (.tmp 8))), 0, []⟩,
⟨(some 4), none, (.p (.mv (.tmp 37))), 0, []⟩])
.ret)))))))⟩
theorem c8 : Mir.compF Tryz.prog Tryz.f8 = some g8 := by kernel_rfl
/-- (*scribe/disk.Disk).Dead -/
def g9 : Mir.Fn := ⟨7, [(.tmp 2)],
(.seq
(.ops [⟨(some 2), none, (.p (.mv (.c (.bool false)))), 0, []⟩])
(.seq
(.ops [⟨(some 3), none, (.p (.mv (.tmp 0))), 0, []⟩,
⟨(some 4), none, (.p (.nilchk (.tmp 3))), 0, []⟩,
⟨(some 5), none, (.p (.fieldAt 4 (.tmp 4))), 0, []⟩,
⟨(some 6), none, (.r (.load 1 false (.tmp 5))), 0, []⟩,
⟨(some 2), none, (.p (.mv (.tmp 6))), 0, []⟩])
.ret))⟩
theorem c9 : Mir.compF Tryz.prog Tryz.f9 = some g9 := by kernel_rfl
/-- (*scribe/disk.Disk).Crash -/
def g10 : Mir.Fn := ⟨115, [],
(.seq
(.seq
(.ops [⟨(some 12), none, (.p (.mv (.tmp 2))), 0, []⟩,
⟨(some 13), none, (.p (.un .not (.tmp 12))), 0, []⟩])
(.cond (.tmp 13)
(.ops [⟨(some 14), none, (.p (.mv (.tmp 0))), 0, []⟩,
⟨(some 15), none, (.p (.mv (.tmp 0))), 0, []⟩,
⟨(some 16), none, (.p (.nilchk (.tmp 15))), 0, []⟩,
⟨(some 17), none, (.p (.fieldAt 1 (.tmp 16))), 0, []⟩,
⟨(some 18), none, (.r (.load 1 false (.tmp 17))), 0, []⟩,
⟨(some 19), none, (.h (.call (.c (.fn 20 [] [])) [(.tmp 18)])), 0, []⟩,
⟨(some 20), none, (.p (.nilchk (.tmp 14))), 0, []⟩,
⟨(some 21), none, (.p (.fieldAt 0 (.tmp 20))), 0, []⟩,
⟨none, none, (.h (.store 1 (.tmp 21) (.tmp 19))), 0, []⟩])
.skip))
(.seq
(.seq
(.ops [⟨(some 22), none, (.p (.mv (.tmp 0))), 0, []⟩,
⟨(some 23), none, (.p (.nilchk (.tmp 22))), 0, []⟩,
⟨(some 24), none, (.p (.fieldAt 0 (.tmp 23))), 0, []⟩,
⟨(some 25), none, (.r (.load 1 false (.tmp 24))), 0, []⟩,
⟨(some 26), none, (.h (.call (.c (.fn 22 [] [])) [(.tmp 25)])), 0, []⟩,
⟨(some 27), none, (.h (.call (.c (.fn 21 [] [])) [(.tmp 26)])), 0, []⟩,
⟨(some 28), none, (.p (.lenSl (.tmp 27))), 0, []⟩,
⟨(some 29), none, (.p (.mv (.c (.int .i64 0)))), 0, []⟩])
(.block 0 (.loop (.seq
(.ops [⟨(some 30), none, (.p (.bin .lss (.tmp 29) (.tmp 28))), 0, []⟩])
(.seq
(.cond (.tmp 30)
.skip
(.exit 0))
(.seq
(.block 1 (.seq
(.ops [⟨(some 31), none, (.p (.mv (.tmp 29))), 0, []⟩,
⟨(some 32), none, (.p (.idxSl 1 (.tmp 27) (.tmp 29))), 0, []⟩,
⟨(some 33), none, (.r (.load 1 false (.tmp 32))), 0, []⟩,
⟨(some 6), none, (.p (.mv (.tmp 31))), 0, []⟩,
⟨(some 7), none, (.p (.mv (.tmp 33))), 0, []⟩])
(.seq
(.ops [⟨(some 34), none, (.p (.mv (.tmp 0))), 0, []⟩,
⟨(some 35), none, (.p (.nilchk (.tmp 34))), 0, []⟩,
⟨(some 36), none, (.p (.fieldAt 0 (.tmp 35))), 0, []⟩,
⟨(some 37), none, (.r (.load 1 false (.tmp 36))), 0, []⟩,
⟨(some 38), none, (.p (.mv (.tmp 7))), 0, []⟩,
⟨(some 39), none, (.r (.lookup (.one .str) .nilptr false (.tmp 37) (.tmp 38))), 0, []⟩,
⟨(some 8), none, (.p (.mv (.tmp 39))), 0, []⟩])
(.seq
(.draw [⟨(some 41), none, (.p (.mv (.tmp 8))), 0, []⟩,
⟨(some 42), none, (.p (.nilchk (.tmp 41))), 1, []⟩,
⟨(some 43), none, (.p (.fieldAt 0 (.tmp 42))), 2, []⟩,
⟨(some 44), none, (.r (.load 1 false (.tmp 43))), 3, []⟩,
⟨(some 45), none, (.p (.mv (.tmp 8))), 4, []⟩,
⟨(some 46), none, (.p (.nilchk (.tmp 45))), 5, []⟩,
⟨(some 47), none, (.p (.fieldAt 1 (.tmp 46))), 6, []⟩,
⟨(some 48), none, (.r (.load 1 false (.tmp 47))), 7, []⟩,
⟨(some 49), none, (.h (.call (.c (.fn 23 [] [])) [(.tmp 44), (.tmp 48)])), 8, []⟩,
⟨(some 40), none, (.p (.mv (.tmp 49))), 9, []⟩,
⟨(some 50), none, (.p (.ext (.tmp 40) 0)), 10, []⟩,
⟨(some 51), none, (.p (.ext (.tmp 40) 1)), 11, []⟩,
⟨(some 9), none, (.p (.mv (.tmp 50))), 12, []⟩,
⟨(some 10), none, (.p (.mv (.tmp 51))), 13, []⟩])
(.seq
(.seq
(.ops [⟨(some 52), none, (.p (.mv (.tmp 10))), 0, []⟩,
⟨(some 53), none, (.p (.un .not (.tmp 52))), 0, []⟩])
(.cond (.tmp 53)
(.ops [⟨(some 9), none, (.p (.mv (.c (.str [])))), 0, []⟩])
.skip))
(.seq
(.seq
(.ops [⟨(some 54), none, (.p (.mv (.tmp 6))), 0, []⟩,
⟨(some 55), none, (.p (.mv (.tmp 1))), 0, []⟩,
⟨(some 56), none, (.p (.lenSl (.tmp 55))), 0, []⟩,
⟨(some 57), none, (.p (.bin .geq (.tmp 54) (.tmp 56))), 0, []⟩,
⟨(some 58), none, (.p (.mv (.tmp 57))), 0, []⟩,
⟨(some 59), (some (58, false)), (.p (.mv (.tmp 1))), 0, []⟩,
⟨(some 60), (some (58, false)), (.p (.mv (.tmp 6))), 0, []⟩,
⟨(some 61), (some (58, false)), (.p (.idxSl 1 (.tmp 59) (.tmp 60))), 0, []⟩,
⟨(some 62), (some (58, false)), (.r (.load 1 false (.tmp 61))), 0, []⟩,
⟨(some 63), (some (58, false)), (.p (.mv (.tmp 9))), 0, []⟩,
⟨(some 64), (some (58, false)), (.p (.lenStr (.tmp 63))), 0, []⟩,
⟨(some 65), (some (58, false)), (.p (.bin .lss (.tmp 62) (.tmp 64))), 0, []⟩,
⟨(some 66), none, (.p (.pick (.tmp 58) (.c (.bool true)) (.tmp 65))), 0, []⟩])
(.cond (.tmp 66)
(.seq
(.ops [⟨(some 11), none, (.p (.mv (.c (.int .i64 0)))), 0, []⟩])
(.seq
(.seq
(.ops [⟨(some 67), none, (.p (.mv (.tmp 6))), 0, []⟩,
⟨(some 68), none, (.p (.mv (.tmp 1))), 0, []⟩,
⟨(some 69), none, (.p (.lenSl (.tmp 68))), 0, []⟩,
⟨(some 70), none, (.p (.bin .lss (.tmp 67) (.tmp 69))), 0, []⟩,
⟨(some 71), none, (.p (.mv (.tmp 70))), 0, []⟩,
⟨(some 72), (some (71, true)), (.p (.mv (.tmp 1))), 0, []⟩,
⟨(some 73), (some (71, true)), (.p (.mv (.tmp 6))), 0, []⟩,
⟨(some 74), (some (71, true)), (.p (.idxSl 1 (.tmp 72) (.tmp 73))), 0, []⟩,
⟨(some 75), (some (71, true)), (.r (.load 1 false (.tmp 74))), 0, []⟩,
⟨(some 76), (some (71, true)), (.p (.bin .gtr (.tmp 75) (.c (.int .i64 0)))), 0, []⟩,
⟨(some 77), none, (.p (.pick (.tmp 71) (.tmp 76) (.c (.bool false)))), 0, []⟩])
(.cond (.tmp 77)
(.ops [⟨(some 78), none, (.p (.mv (.tmp 1))), 0, []⟩,
⟨(some 79), none, (.p (.mv (.tmp 6))), 0, []⟩,
⟨(some 80), none, (.p (.idxSl 1 (.tmp 78) (.tmp 79))), 0, []⟩,
⟨(some 81), none, (.r (.load 1 false (.tmp 80))), 0, []⟩,
⟨(some 11), none, (.p (.mv (.tmp 81))), 0, []⟩])
.skip))
(.ops [⟨(some 82), none, (.p (.mv (.tmp 9))), 0, []⟩,
⟨(some 83), none, (.p (.mv (.tmp 11))), 0, []⟩,
⟨(some 84), none, (.p (.subStr (.tmp 82) none (some (.tmp 83)))), 0, []⟩,
⟨(some 9), none, (.p (.mv (.tmp 84))), 0, []⟩])))
.skip))
(.seq
(.ops [⟨(some 85), none, (.p (.mv (.tmp 8))), 0, []⟩,
⟨(some 86), none, (.p (.nilchk (.tmp 85))), 0, []⟩,
⟨(some 87), none, (.p (.fieldAt 1 (.tmp 86))), 0, []⟩,
⟨(some 88), none, (.r (.load 1 false (.tmp 87))), 0, []⟩,
⟨(some 89), none, (.p (.mv (.tmp 9))), 0, []⟩,
⟨(some 90), none, (.p (.bin .add (.tmp 88) (.tmp 89))), 0, []⟩,
⟨(some 91), none, (.p (.nilchk (.tmp 85))), 0, []⟩,
⟨(some 92), none, (.p (.fieldAt 1 (.tmp 91))), 0, []⟩,
⟨none, none, (.h (.store 1 (.tmp 92) (.tmp 90))), 0, []⟩])
(.ops [⟨(some 93), none, (.p (.mv (.tmp 8))), 0, []⟩,
⟨(some 94), none, (.p (.mv (.tmp 8))), 0, []⟩,
⟨(some 95), none, (.p (.nilchk (.tmp 94))), 0, []⟩,
⟨(some 96), none, (.p (.fieldAt 1 (.tmp 95))), 0, []⟩,
⟨(some 97), none, (.r (.load 1 false (.tmp 96))), 0, []⟩,
⟨(some 98), none, (.p (.nilchk (.tmp 93))), 0, []⟩,
⟨(some 99), none, (.p (.fieldAt 0 (.tmp 98))), 0, []⟩,
⟨none, none, (.h (.store 1 (.tmp 99) (.tmp 97))), 0, []⟩]))))))))
(.ops [⟨(some 100), none, (.p (.bin .add (.tmp 29) (.c (.int .i64 1)))), 0, []⟩,
⟨(some 29), none, (.p (.mv (.tmp 100))), 0, []⟩])))))))
(.seq
(.ops [⟨(some 101), none, (.p (.mv (.tmp 0))), 0, []⟩,
⟨(some 102), none, (.p (.mv (.tmp 0))), 0, []⟩,
⟨(some 103), none, (.p (.nilchk (.tmp 102))), 0, []⟩,
⟨(some 104), none, (.p (.fieldAt 0 (.tmp 103))), 0, []⟩,
⟨(some 105), none, (.r (.load 1 false (.tmp 104))), 0, []⟩,
⟨(some 106), none, (.h (.call (.c (.fn 20 [] [])) [(.tmp 105)])), 0, []⟩,
⟨(some 107), none, (.p (.nilchk (.tmp 101))), 0, []⟩,
⟨(some 108), none, (.p (.fieldAt 1 (.tmp 107))), 0, []⟩,
⟨none, none, (.h (.store 1 (.tmp 108) (.tmp 106))), 0, []⟩])
(.ops [⟨(some 109), none, (.p (.mv (.tmp 0))), 0, []⟩,
⟨(some 110), none, (.p (.mv (.tmp 0))), 0, []⟩,
⟨(some 111), none, (.p (.nilchk (.tmp 109))), 0, []⟩,
⟨(some 112), none, (.p (.fieldAt 3 (.tmp 111))), 0, []⟩,
⟨none, none, (.h (.store 1 (.tmp 112) (.c (.int .i64 (-1))))), 0, []⟩,
⟨(some 113), none, (.p (.nilchk (.tmp 110))), 0, []⟩,
⟨(some 114), none, (.p (.fieldAt 4 (.tmp 113))), 0, []⟩,
⟨none, none, (.h (.store 1 (.tmp 114) (.c (.bool false)))), 0, []⟩]))))⟩
theorem c10 : Mir.compF Tryz.prog Tryz.f10 = some g10 := by kernel_rfl
/-- scribe/journal.Load -/
def g11 : Mir.Fn := ⟨28, [(.tmp 2), (.tmp 3)],
(.seq
(.ops [⟨(some 2), none, (.p (.mv (.c (.str [])))), 0, []⟩,
⟨(some 3), none, (.p (.mv (.c (.int .i64 0)))), 0, []⟩])
(.seq
(.ops [⟨(some 8), none, (.p (.mv (.tmp 0))), 0, []⟩,
⟨(some 9), none, (.h (.call (.c (.fn 14 [] [])) [(.tmp 8), (.c (.str [106, 111, 117, 114, 110, 97, 108]))])), 0, []⟩,
⟨(some 7), none, (.p (.mv (.tmp 9))), 0, []⟩,
⟨(some 10), none, (.p (.ext (.tmp 7) 0)), 0, []⟩,
⟨(some 11), none, (.p (.ext (.tmp 7) 1)), 0, []⟩,
⟨(some 4), none, (.p (.mv (.tmp 10))), 0, []⟩,
⟨(some 5), none, (.p (.mv (.tmp 11))), 0, []⟩])
(.seq
(.seq
(.ops [⟨(some 12), none, (.p (.mv (.tmp 5))), 0, []⟩,
⟨(some 13), none, (.p (.bin .neq (.tmp 12) (.c (.int .i64 0)))), 0, []⟩])
(.cond (.tmp 13)
(.seq
(.ops [⟨(some 14), none, (.p (.mv (.tmp 5))), 0, []⟩,
⟨(some 2), none, (.p (.mv (.c (.str [])))), 0, []⟩,
⟨(some 3), none, (.p (.mv (.tmp 14))), 0, []⟩])
.ret)
.skip))
(.seq
(.ops [⟨(some 16), none, (.p (.mv (.tmp 0))), 0, []⟩,
⟨(some 17), none, (.p (.mv (.tmp 4))), 0, []⟩,
⟨(some 18), none, (.h (.call (.c (.fn 24 [] [])) [(.tmp 16), (.c (.str [106, 111, 117, 114, 110, 97, 108])), (.c (.int .i64 0)), (.tmp 17)])), 0, []⟩,
⟨(some 15), none, (.p (.mv (.tmp 18))), 0, []⟩,
⟨(some 19), none, (.p (.ext (.tmp 15) 0)), 0, []⟩,
⟨(some 20), none, (.p (.ext (.tmp 15) 1)), 0, []⟩,
⟨(some 6), none, (.p (.mv (.tmp 19))), 0, []⟩,
⟨(some 5), none, (.p (.mv (.tmp 20))), 0, []⟩])
(.seq
(.seq
(.ops [⟨(some 21), none, (.p (.mv (.tmp 5))), 0, []⟩,
⟨(some 22), none, (.p (.bin .neq (.tmp 21) (.c (.int .i64 0)))), 0, []⟩])
(.cond (.tmp 22)
(.seq
(.ops [⟨(some 23), none, (.p (.mv (.tmp 5))), 0, []⟩,
⟨(some 2), none, (.p (.mv (.c (.str [])))), 0, []⟩,
⟨(some 3), none, (.p (.mv (.tmp 23))), 0, []⟩])
.ret)
.skip))
(.seq
(.ops [⟨(some 24), none, (.p (.mv (.tmp 6))), 0, []⟩,
⟨(some 25), none, (.h (.call (.c (.fn 12 [] [])) [(.tmp 24)])), 0, []⟩,
⟨(some 26), none, (.p (.ext (.tmp 25) 0)), 0, []⟩,
⟨(some 27), none, (.p (.ext (.tmp 25) 1)), 0, []⟩,
⟨(some 2), none, (.p (.mv (.tmp 26))), 0, []⟩,
⟨(some 3), none, (.p (.mv (.tmp 27))), 0, []⟩])
.ret))))))⟩
theorem c11 : Mir.compF Tryz.prog Tryz.f11 = some g11 := by kernel_rfl
/-- scribe/journal.Open -/
def g12 : Mir.Fn := ⟨72, [(.tmp 2), (.tmp 3)],
(.seq
(.ops [⟨(some 2), none, (.p (.mv (.c (.str [])))), 0, []⟩,
⟨(some 3), none, (.p (.mv (.c (.int .i64 0)))), 0, []⟩])
(.seq
(.ops [⟨(some 14), none, (.p (.mv (.tmp 0))), 0, []⟩,
⟨(some 15), none, (.h (.call (.c (.fn 23 [] [])) [(.tmp 14), (.c (.str [115, 99, 114, 105, 98, 101, 32, 49, 32]))])), 0, []⟩,
⟨(some 13), none, (.p (.mv (.tmp 15))), 0, []⟩,
⟨(some 16), none, (.p (.ext (.tmp 13) 0)), 0, []⟩,
⟨(some 17), none, (.p (.ext (.tmp 13) 1)), 0, []⟩,
⟨(some 4), none, (.p (.mv (.tmp 16))), 0, []⟩,
⟨(some 5), none, (.p (.mv (.tmp 17))), 0, []⟩])
(.seq
(.seq
(.ops [⟨(some 18), none, (.p (.mv (.tmp 5))), 0, []⟩,
⟨(some 19), none, (.p (.un .not (.tmp 18))), 0, []⟩])
(.cond (.tmp 19)
(.seq
(.seq
(.ops [⟨(some 20), none, (.p (.mv (.tmp 0))), 0, []⟩,
⟨(some 21), none, (.h (.call (.c (.fn 25 [] [])) [(.c (.str [115, 99, 114, 105, 98, 101, 32, 49, 32])), (.tmp 20)])), 0, []⟩])
(.cond (.tmp 21)
(.seq
(.ops [⟨(some 2), none, (.p (.mv (.c (.str [])))), 0, []⟩,
⟨(some 3), none, (.p (.mv (.c (.int .i64 2)))), 0, []⟩])
.ret)
.skip))
(.seq
(.ops [⟨(some 2), none, (.p (.mv (.c (.str [])))), 0, []⟩,
⟨(some 3), none, (.p (.mv (.c (.int .i64 3)))), 0, []⟩])
.ret))
.skip))
(.seq
(.ops [⟨(some 23), none, (.p (.mv (.tmp 4))), 0, []⟩,
⟨(some 24), none, (.h (.call (.c (.fn 26 [] [])) [(.tmp 23), (.c (.str [10]))])), 0, []⟩,
⟨(some 22), none, (.p (.mv (.tmp 24))), 0, []⟩,
⟨(some 25), none, (.p (.ext (.tmp 22) 0)), 0, []⟩,
⟨(some 26), none, (.p (.ext (.tmp 22) 1)), 0, []⟩,
⟨(some 27), none, (.p (.ext (.tmp 22) 2)), 0, []⟩,
⟨(some 6), none, (.p (.mv (.tmp 25))), 0, []⟩,
⟨(some 7), none, (.p (.mv (.tmp 26))), 0, []⟩,
⟨(some 5), none, (.p (.mv (.tmp 27))), 0, []⟩])
(.seq
(.seq
(.ops [⟨(some 28), none, (.p (.mv (.tmp 5))), 0, []⟩,
⟨(some 29), none, (.p (.un .not (.tmp 28))), 0, []⟩])
(.cond (.tmp 29)
(.seq
(.ops [⟨(some 2), none, (.p (.mv (.c (.str [])))), 0, []⟩,
⟨(some 3), none, (.p (.mv (.c (.int .i64 2)))), 0, []⟩])
.ret)
.skip))
(.seq
(.ops [⟨(some 31), none, (.p (.mv (.tmp 6))), 0, []⟩,
⟨(some 32), none, (.h (.call (.c (.fn 26 [] [])) [(.tmp 31), (.c (.str [32]))])), 0, []⟩,
⟨(some 30), none, (.p (.mv (.tmp 32))), 0, []⟩,
⟨(some 33), none, (.p (.ext (.tmp 30) 0)), 0, []⟩,
⟨(some 34), none, (.p (.ext (.tmp 30) 1)), 0, []⟩,
⟨(some 35), none, (.p (.ext (.tmp 30) 2)), 0, []⟩,
⟨(some 8), none, (.p (.mv (.tmp 33))), 0, []⟩,
⟨(some 9), none, (.p (.mv (.tmp 34))), 0, []⟩,
⟨(some 5), none, (.p (.mv (.tmp 35))), 0, []⟩])
(.seq
(.ops [⟨(some 37), none, (.p (.mv (.tmp 8))), 0, []⟩,
⟨(some 38), none, (.h (.call (.c (.fn 27 [] [])) [(.tmp 37)])), 0, []⟩,
⟨(some 36), none, (.p (.mv (.tmp 38))), 0, []⟩,
⟨(some 39), none, (.p (.ext (.tmp 36) 0)), 0, []⟩,
⟨(some 40), none, (.p (.ext (.tmp 36) 1)), 0, []⟩,
⟨(some 10), none, (.p (.mv (.tmp 39))), 0, []⟩,
⟨(some 11), none, (.p (.mv (.tmp 40))), 0, []⟩])
(.seq
(.seq
(.ops [⟨(some 41), none, (.p (.mv (.tmp 5))), 0, []⟩,
⟨(some 42), none, (.p (.un .not (.tmp 41))), 0, []⟩,
⟨(some 43), none, (.p (.mv (.tmp 42))), 0, []⟩,
⟨(some 44), (some (43, false)), (.p (.mv (.tmp 11))), 0, []⟩,
⟨(some 45), (some (43, false)), (.p (.eq .iface true (.tmp 44) (.c .nilif))), 0, []⟩,
⟨(some 46), none, (.p (.pick (.tmp 43) (.c (.bool true)) (.tmp 45))), 0, []⟩,
⟨(some 47), none, (.p (.mv (.tmp 46))), 0, []⟩,
⟨(some 48), (some (47, false)), (.p (.mv (.tmp 10))), 0, []⟩,
⟨(some 49), (some (47, false)), (.h (.call (.c (.fn 28 [] [])) [(.tmp 48)])), 0, []⟩,
⟨(some 50), (some (47, false)), (.p (.mv (.tmp 8))), 0, []⟩,
⟨(some 51), (some (47, false)), (.p (.bin .neq (.tmp 49) (.tmp 50))), 0, []⟩,
⟨(some 52), none, (.p (.pick (.tmp 47) (.c (.bool true)) (.tmp 51))), 0, []⟩,
⟨(some 53), none, (.p (.mv (.tmp 52))), 0, []⟩,
⟨(some 54), (some (53, false)), (.p (.mv (.tmp 10))), 0, []⟩,
⟨(some 55), (some (53, false)), (.p (.bin .lss (.tmp 54) (.c (.int .i64 0)))), 0, []⟩,
⟨(some 56), none, (.p (.pick (.tmp 53) (.c (.bool true)) (.tmp 55))), 0, []⟩])
(.cond (.tmp 56)
(.seq
(.ops [⟨(some 2), none, (.p (.mv (.c (.str [])))), 0, []⟩,
⟨(some 3), none, (.p (.mv (.c (.int .i64 3)))), 0, []⟩])
.ret)
.skip))
(.seq
(.seq
(.ops [⟨(some 57), none, (.p (.mv (.tmp 7))), 0, []⟩,
⟨(some 58), none, (.p (.lenStr (.tmp 57))), 0, []⟩,
⟨(some 59), none, (.p (.mv (.tmp 10))), 0, []⟩,
⟨(some 60), none, (.p (.bin .lss (.tmp 58) (.tmp 59))), 0, []⟩])
(.cond (.tmp 60)
(.seq
(.ops [⟨(some 2), none, (.p (.mv (.c (.str [])))), 0, []⟩,
⟨(some 3), none, (.p (.mv (.c (.int .i64 2)))), 0, []⟩])
.ret)
.skip))
(.seq
(.seq
(.ops [⟨(some 61), none, (.p (.mv (.tmp 7))), 0, []⟩,
⟨(some 62), none, (.p (.lenStr (.tmp 61))), 0, []⟩,
⟨(some 63), none, (.p (.mv (.tmp 10))), 0, []⟩,
⟨(some 64), none, (.p (.bin .gtr (.tmp 62) (.tmp 63))), 0, []⟩])
(.cond (.tmp 64)
(.seq
(.ops [⟨(some 2), none, (.p (.mv (.c (.str [])))), 0, []⟩,
⟨(some 3), none, (.p (.mv (.c (.int .i64 3)))), 0, []⟩])
.ret)
.skip))
(.seq
(.seq
(.ops [⟨(some 65), none, (.p (.mv (.tmp 9))), 0, []⟩,
⟨(some 66), none, (.p (.mv (.tmp 7))), 0, []⟩,
⟨(some 67), none, (.h (.call (.c (.fn 29 [] [])) [(.tmp 65), (.tmp 66)])), 0, []⟩,
⟨(some 12), none, (.p (.mv (.tmp 67))), 0, []⟩])
(.seq
(.ops [⟨(some 68), none, (.p (.mv (.tmp 12))), 0, []⟩,
⟨(some 69), none, (.p (.bin .neq (.tmp 68) (.c (.int .i64 0)))), 0, []⟩])
(.cond (.tmp 69)
(.seq
(.ops [⟨(some 70), none, (.p (.mv (.tmp 12))), 0, []⟩,
⟨(some 2), none, (.p (.mv (.c (.str [])))), 0, []⟩,
⟨(some 3), none, (.p (.mv (.tmp 70))), 0, []⟩])
.ret)
.skip)))
(.seq
(.ops [⟨(some 71), none, (.p (.mv (.tmp 7))), 0, []⟩,
⟨(some 2), none, (.p (.mv (.tmp 71))), 0, []⟩,
⟨(some 3), none, (.p (.mv (.c (.int .i64 0)))), 0, []⟩])
.ret))))))))))))⟩
theorem c12 : Mir.compF Tryz.prog Tryz.f12 = some g12 := by kernel_rfl
/-- scribe/journal.Frame -/
def g13 : Mir.Fn := ⟨15, [(.tmp 2)],
(.seq
(.ops [⟨(some 2), none, (.p (.mv (.c (.str [])))), 0, []⟩])
(.seq
(.ops [⟨(some 3), none, (.p (.mv (.tmp 0))), 0, []⟩,
⟨(some 4), none, (.p (.lenStr (.tmp 3))), 0, []⟩,
⟨(some 5), none, (.h (.call (.c (.fn 28 [] [])) [(.tmp 4)])), 0, []⟩,
⟨(some 6), none, (.p (.bin .add (.c (.str [115, 99, 114, 105, 98, 101, 32, 49, 32])) (.tmp 5))), 0, []⟩,
⟨(some 7), none, (.p (.bin .add (.tmp 6) (.c (.str [32])))), 0, []⟩,
⟨(some 8), none, (.p (.mv (.tmp 0))), 0, []⟩,
⟨(some 9), none, (.h (.call (.c (.fn 31 [] [])) [(.tmp 8)])), 0, []⟩,
⟨(some 10), none, (.h (.call (.c (.fn 30 [] [])) [(.tmp 9)])), 0, []⟩,
⟨(some 11), none, (.p (.bin .add (.tmp 7) (.tmp 10))), 0, []⟩,
⟨(some 12), none, (.p (.bin .add (.tmp 11) (.c (.str [10])))), 0, []⟩,
⟨(some 13), none, (.p (.mv (.tmp 0))), 0, []⟩,
⟨(some 14), none, (.p (.bin .add (.tmp 12) (.tmp 13))), 0, []⟩,
⟨(some 2), none, (.p (.mv (.tmp 14))), 0, []⟩])
.ret))⟩
theorem c13 : Mir.compF Tryz.prog Tryz.f13 = some g13 := by kernel_rfl
/-- (*scribe/disk.Disk).Size -/
def g14 : Mir.Fn := ⟨27, [(.tmp 4), (.tmp 5)],
(.seq
(.ops [⟨(some 4), none, (.p (.mv (.c (.int .i64 0)))), 0, []⟩,
⟨(some 5), none, (.p (.mv (.c (.int .i64 0)))), 0, []⟩])
(.seq
(.seq
(.ops [⟨(some 6), none, (.p (.mv (.tmp 0))), 0, []⟩,
⟨(some 7), none, (.p (.nilchk (.tmp 6))), 0, []⟩,
⟨(some 8), none, (.p (.fieldAt 4 (.tmp 7))), 0, []⟩,
⟨(some 9), none, (.r (.load 1 false (.tmp 8))), 0, []⟩])
(.cond (.tmp 9)
(.seq
(.ops [⟨(some 4), none, (.p (.mv (.c (.int .i64 0)))), 0, []⟩,
⟨(some 5), none, (.p (.mv (.c (.int .i64 8)))), 0, []⟩])
.ret)
.skip))
(.seq
(.seq
(.ops [⟨(some 10), none, (.p (.mv (.tmp 0))), 0, []⟩,
⟨(some 11), none, (.p (.nilchk (.tmp 10))), 0, []⟩,
⟨(some 12), none, (.p (.fieldAt 0 (.tmp 11))), 0, []⟩,
⟨(some 13), none, (.r (.load 1 false (.tmp 12))), 0, []⟩,
⟨(some 14), none, (.p (.mv (.tmp 1))), 0, []⟩,
⟨(some 15), none, (.r (.lookup (.one .str) .nilptr false (.tmp 13) (.tmp 14))), 0, []⟩,
⟨(some 16), none, (.p (.eq .ptr false (.tmp 15) (.c .nilptr))), 0, []⟩])
(.cond (.tmp 16)
(.seq
(.ops [⟨(some 4), none, (.p (.mv (.c (.int .i64 0)))), 0, []⟩,
⟨(some 5), none, (.p (.mv (.c (.int .i64 5)))), 0, []⟩])
.ret)
.skip))
(.seq
(.ops [⟨(some 17), none, (.p (.mv (.tmp 0))), 0, []⟩,
⟨(some 18), none, (.p (.nilchk (.tmp 17))), 0, []⟩,
⟨(some 19), none, (.p (.fieldAt 0 (.tmp 18))), 0, []⟩,
⟨(some 20), none, (.r (.load 1 false (.tmp 19))), 0, []⟩,
⟨(some 21), none, (.p (.mv (.tmp 1))), 0, []⟩,
⟨(some 22), none, (.r (.lookup (.one .str) .nilptr false (.tmp 20) (.tmp 21))), 0, []⟩,
⟨(some 23), none, (.p (.nilchk (.tmp 22))), 0, []⟩,
⟨(some 24), none, (.p (.fieldAt 0 (.tmp 23))), 0, []⟩,
⟨(some 25), none, (.r (.load 1 false (.tmp 24))), 0, []⟩,
⟨(some 26), none, (.p (.lenStr (.tmp 25))), 0, []⟩,
⟨(some 4), none, (.p (.mv (.tmp 26))), 0, []⟩,
⟨(some 5), none, (.p (.mv (.c (.int .i64 0)))), 0, []⟩])
.ret))))⟩
theorem c14 : Mir.compF Tryz.prog Tryz.f14 = some g14 := by kernel_rfl
/-- (*scribe/disk.Disk).Remove -/
def g15 : Mir.Fn := ⟨9, [(.tmp 4)],
(.seq
(.ops [⟨(some 2), none, (.a (.box (.tmp 0))), 0, []⟩,
⟨(some 3), none, (.a (.box (.tmp 1))), 0, []⟩,
⟨(some 4), none, (.p (.mv (.c (.int .i64 0)))), 0, []⟩])
(.seq
(.ops [⟨(some 5), none, (.r (.load 1 false (.tmp 2))), 0, []⟩,
⟨(some 6), none, (.r (.load 1 false (.tmp 3))), 0, []⟩,
⟨(some 7), none, (.p (.mkFn 33 [] [(.tmp 2), (.tmp 3)])), 0, []⟩,
⟨(some 8), none, (.h (.call (.c (.fn 32 [] [])) [(.tmp 5), (.tmp 6), (.tmp 7)])), 0, []⟩,
⟨(some 4), none, (.p (.mv (.tmp 8))), 0, []⟩])
.ret))⟩
theorem c15 : Mir.compF Tryz.prog Tryz.f15 = some g15 := by kernel_rfl
/-- (*scribe/disk.Disk).Append -/
def g16 : Mir.Fn := ⟨85, [(.tmp 6)],
(.seq
(.ops [⟨(some 6), none, (.p (.mv (.c (.int .i64 0)))), 0, []⟩])
(.seq
(.seq
(.ops [⟨(some 9), none, (.p (.mv (.tmp 0))), 0, []⟩,
⟨(some 10), none, (.p (.nilchk (.tmp 9))), 0, []⟩,
⟨(some 11), none, (.p (.fieldAt 4 (.tmp 10))), 0, []⟩,
⟨(some 12), none, (.r (.load 1 false (.tmp 11))), 0, []⟩])
(.cond (.tmp 12)
(.seq
(.ops [⟨(some 6), none, (.p (.mv (.c (.int .i64 8)))), 0, []⟩])
.ret)
.skip))
(.seq
(.ops [⟨(some 13), none, (.p (.mv (.tmp 0))), 0, []⟩,
⟨(some 14), none, (.p (.nilchk (.tmp 13))), 0, []⟩,
⟨(some 15), none, (.p (.fieldAt 0 (.tmp 14))), 0, []⟩,
⟨(some 16), none, (.r (.load 1 false (.tmp 15))), 0, []⟩,
⟨(some 17), none, (.p (.mv (.tmp 1))), 0, []⟩,
⟨(some 18), none, (.r (.lookup (.one .str) .nilptr false (.tmp 16) (.tmp 17))), 0, []⟩,
⟨(some 7), none, (.p (.mv (.tmp 18))), 0, []⟩])
(.seq
(.block 0 (.seq
(.ops [⟨(some 20), none, (.p (.mv (.tmp 1))), 0, []⟩,
⟨(some 21), none, (.h (.call (.c (.fn 34 [] [])) [(.tmp 20)])), 0, []⟩,
⟨(some 22), none, (.p (.un .not (.tmp 21))), 0, []⟩,
⟨(some 19), none, (.p (.mv (.tmp 22))), 0, []⟩])
(.cond (.tmp 19)
(.seq
(.ops [⟨(some 6), none, (.p (.mv (.c (.int .i64 1)))), 0, []⟩])
.ret)
(.seq
(.ops [⟨(some 24), none, (.p (.mv (.tmp 7))), 0, []⟩,
⟨(some 25), none, (.p (.eq .ptr false (.tmp 24) (.c .nilptr))), 0, []⟩,
⟨(some 26), none, (.p (.mv (.tmp 25))), 0, []⟩,
⟨(some 27), (some (26, true)), (.p (.mv (.tmp 0))), 0, []⟩,
⟨(some 28), (some (26, true)), (.p (.nilchk (.tmp 27))), 0, []⟩,
⟨(some 29), (some (26, true)), (.p (.fieldAt 0 (.tmp 28))), 0, []⟩,
⟨(some 30), (some (26, true)), (.r (.load 1 false (.tmp 29))), 0, []⟩,
⟨(some 31), (some (26, true)), (.r (.lenMap (.tmp 30))), 0, []⟩,
⟨(some 32), (some (26, true)), (.p (.bin .geq (.tmp 31) (.c (.int .i64 100)))), 0, []⟩,
⟨(some 33), none, (.p (.pick (.tmp 26) (.tmp 32) (.c (.bool false)))), 0, []⟩,
⟨(some 23), none, (.p (.mv (.tmp 33))), 0, []⟩])
(.cond (.tmp 23)
(.seq
(.ops [⟨(some 6), none, (.p (.mv (.c (.int .i64 7)))), 0, []⟩])
.ret)
(.seq
(.draw [⟨(some 35), none, (.p (.mv (.tmp 2))), 0, []⟩,
⟨(some 36), none, (.p (.lenStr (.tmp 35))), 1, []⟩,
⟨(some 37), none, (.p (.mv (.tmp 0))), 2, []⟩,
⟨(some 38), none, (.p (.nilchk (.tmp 37))), 3, []⟩,
⟨(some 39), none, (.p (.fieldAt 2 (.tmp 38))), 4, []⟩,
⟨(some 40), none, (.r (.load 1 false (.tmp 39))), 5, []⟩,
⟨(some 41), none, (.p (.mv (.tmp 0))), 6, []⟩,
⟨(some 42), none, (.h (.call (.c (.fn 35 [] [])) [(.tmp 41)])), 7, [5]⟩,
⟨(some 43), none, (.p (.bin .sub (.tmp 40) (.tmp 42))), 8, []⟩,
⟨(some 44), none, (.p (.bin .gtr (.tmp 36) (.tmp 43))), 9, []⟩,
⟨(some 34), none, (.p (.mv (.tmp 44))), 10, []⟩])
(.cond (.tmp 34)
(.seq
(.ops [⟨(some 6), none, (.p (.mv (.c (.int .i64 7)))), 0, []⟩])
.ret)
(.seq
(.ops [⟨(some 46), none, (.p (.mv (.tmp 7))), 0, []⟩,
⟨(some 47), none, (.p (.eq .ptr true (.tmp 46) (.c .nilptr))), 0, []⟩,
⟨(some 48), none, (.p (.mv (.tmp 47))), 0, []⟩,
⟨(some 49), (some (48, true)), (.p (.mv (.tmp 2))), 0, []⟩,
⟨(some 50), (some (48, true)), (.p (.lenStr (.tmp 49))), 0, []⟩,
⟨(some 51), (some (48, true)), (.p (.mv (.tmp 7))), 0, []⟩,
⟨(some 52), (some (48, true)), (.p (.nilchk (.tmp 51))), 0, []⟩,
⟨(some 53), (some (48, true)), (.p (.fieldAt 0 (.tmp 52))), 0, []⟩,
⟨(some 54), (some (48, true)), (.r (.load 1 false (.tmp 53))), 0, []⟩,
⟨(some 55), (some (48, true)), (.p (.lenStr (.tmp 54))), 0, []⟩,
⟨(some 56), (some (48, true)), (.p (.bin .sub (.c (.int .i64 1048576)) (.tmp 55))), 0, []⟩,
⟨(some 57), (some (48, true)), (.p (.bin .gtr (.tmp 50) (.tmp 56))), 0, []⟩,
⟨(some 58), none, (.p (.pick (.tmp 48) (.tmp 57) (.c (.bool false)))), 0, []⟩,
⟨(some 59), none, (.p (.mv (.tmp 58))), 0, []⟩,
⟨(some 60), (some (59, false)), (.p (.mv (.tmp 2))), 0, []⟩,
⟨(some 61), (some (59, false)), (.p (.lenStr (.tmp 60))), 0, []⟩,
⟨(some 62), (some (59, false)), (.p (.bin .gtr (.tmp 61) (.c (.int .i64 1048576)))), 0, []⟩,
⟨(some 63), none, (.p (.pick (.tmp 59) (.c (.bool true)) (.tmp 62))), 0, []⟩,
⟨(some 45), none, (.p (.mv (.tmp 63))), 0, []⟩])
(.cond (.tmp 45)
(.seq
(.ops [⟨(some 6), none, (.p (.mv (.c (.int .i64 12)))), 0, []⟩])
.ret)
.skip)))))))))
(.seq
(.ops [⟨(some 64), none, (.p (.mv (.tmp 0))), 0, []⟩,
⟨(some 65), none, (.h (.call (.c (.fn 36 [] [])) [(.tmp 64)])), 0, []⟩,
⟨(some 8), none, (.p (.mv (.tmp 65))), 0, []⟩])
(.seq
(.seq
(.ops [⟨(some 66), none, (.p (.mv (.tmp 7))), 0, []⟩,
⟨(some 67), none, (.p (.eq .ptr false (.tmp 66) (.c .nilptr))), 0, []⟩])
(.cond (.tmp 67)
(.seq
(.ops [⟨(some 68), none, (.p (.build [(.str []), (.str [])] [])), 0, []⟩,
⟨(some 69), none, (.a (.box (.tmp 68))), 0, []⟩,
⟨(some 7), none, (.p (.mv (.tmp 69))), 0, []⟩])
(.ops [⟨(some 70), none, (.p (.mv (.tmp 0))), 0, []⟩,
⟨(some 71), none, (.p (.nilchk (.tmp 70))), 0, []⟩,
⟨(some 72), none, (.p (.fieldAt 0 (.tmp 71))), 0, []⟩,
⟨(some 73), none, (.r (.load 1 false (.tmp 72))), 0, []⟩,
⟨(some 74), none, (.p (.mv (.tmp 1))), 0, []⟩,
⟨(some 75), none, (.p (.mv (.tmp 7))), 0, []⟩,
⟨none, none, (.h (.mapUpd (.one .str) (.tmp 73) (.tmp 74) (.tmp 75))), 0, []⟩]))
.skip))
(.seq
(.ops [⟨(some 76), none, (.p (.mv (.tmp 7))), 0, []⟩,
⟨(some 77), none, (.p (.nilchk (.tmp 76))), 0, []⟩,
⟨(some 78), none, (.p (.fieldAt 0 (.tmp 77))), 0, []⟩,
⟨(some 79), none, (.r (.load 1 false (.tmp 78))), 0, []⟩,
⟨(some 80), none, (.p (.mv (.tmp 2))), 0, []⟩,
⟨(some 81), none, (.p (.bin .add (.tmp 79) (.tmp 80))), 0, []⟩,
⟨(some 82), none, (.p (.nilchk (.tmp 76))), 0, []⟩,
⟨(some 83), none, (.p (.fieldAt 0 (.tmp 82))), 0, []⟩,
⟨none, none, (.h (.store 1 (.tmp 83) (.tmp 81))), 0, []⟩])
(.seq
(.seq
(.ops [⟨(some 84), none, (.p (.mv (.tmp 8))), 0, []⟩])
(.cond (.tmp 84)
(.seq
(.ops [⟨(some 6), none, (.p (.mv (.c (.int .i64 8)))), 0, []⟩])
.ret)
.skip))
(.seq
(.ops [⟨(some 6), none, (.p (.mv (.c (.int .i64 0)))), 0, []⟩])
.ret)))))))))⟩
theorem c16 : Mir.compF Tryz.prog Tryz.f16 = some g16 := by kernel_rfl
/-- (*scribe/disk.Disk).Sync -/
def g17 : Mir.Fn := ⟨8, [(.tmp 4)],
(.seq
(.ops [⟨(some 4), none, (.p (.mv (.c (.int .i64 0)))), 0, []⟩])
(.seq
(.ops [⟨(some 5), none, (.p (.mv (.tmp 0))), 0, []⟩,
⟨(some 6), none, (.p (.mv (.tmp 1))), 0, []⟩,
⟨(some 7), none, (.h (.call (.c (.fn 32 [] [])) [(.tmp 5), (.tmp 6), (.c (.fn 37 [] []))])), 0, []⟩,
⟨(some 4), none, (.p (.mv (.tmp 7))), 0, []⟩])
.ret))⟩
theorem c17 : Mir.compF Tryz.prog Tryz.f17 = some g17 := by kernel_rfl
/-- (*scribe/disk.Disk).Rename -/
def g18 : Mir.Fn := ⟨30, [(.tmp 6)],
(.seq
(.ops [⟨(some 3), none, (.a (.box (.tmp 0))), 0, []⟩,
⟨(some 4), none, (.a (.box (.tmp 1))), 0, []⟩,
⟨(some 5), none, (.a (.box (.tmp 2))), 0, []⟩,
⟨(some 6), none, (.p (.mv (.c (.int .i64 0)))), 0, []⟩])
(.seq
(.seq
(.draw [⟨(some 7), none, (.r (.load 1 false (.tmp 3))), 0, []⟩,
⟨(some 8), none, (.p (.nilchk (.tmp 7))), 1, []⟩,
⟨(some 9), none, (.p (.fieldAt 4 (.tmp 8))), 2, []⟩,
⟨(some 10), none, (.r (.load 1 false (.tmp 9))), 3, []⟩,
⟨(some 11), none, (.p (.un .not (.tmp 10))), 4, []⟩,
⟨(some 12), none, (.p (.mv (.tmp 11))), 5, []⟩,
⟨(some 13), (some (12, true)), (.r (.load 1 false (.tmp 3))), 6, []⟩,
⟨(some 14), (some (12, true)), (.p (.nilchk (.tmp 13))), 7, []⟩,
⟨(some 15), (some (12, true)), (.p (.fieldAt 0 (.tmp 14))), 8, []⟩,
⟨(some 16), (some (12, true)), (.r (.load 1 false (.tmp 15))), 9, []⟩,
⟨(some 17), (some (12, true)), (.r (.load 1 false (.tmp 4))), 10, []⟩,
⟨(some 18), (some (12, true)), (.r (.lookup (.one .str) .nilptr false (.tmp 16) (.tmp 17))), 11, []⟩,
⟨(some 19), (some (12, true)), (.p (.eq .ptr true (.tmp 18) (.c .nilptr))), 12, []⟩,
⟨(some 20), none, (.p (.pick (.tmp 12) (.tmp 19) (.c (.bool false)))), 13, []⟩,
⟨(some 21), none, (.p (.mv (.tmp 20))), 14, []⟩,
⟨(some 22), (some (21, true)), (.r (.load 1 false (.tmp 5))), 15, []⟩,
⟨(some 23), (some (21, true)), (.h (.call (.c (.fn 34 [] [])) [(.tmp 22)])), 16, []⟩,
⟨(some 24), (some (21, true)), (.p (.un .not (.tmp 23))), 17, []⟩,
⟨(some 25), none, (.p (.pick (.tmp 21) (.tmp 24) (.c (.bool false)))), 18, []⟩])
(.cond (.tmp 25)
(.seq
(.ops [⟨(some 6), none, (.p (.mv (.c (.int .i64 1)))), 0, []⟩])
.ret)
.skip))
(.seq
(.ops [⟨(some 26), none, (.r (.load 1 false (.tmp 3))), 0, []⟩,
⟨(some 27), none, (.r (.load 1 false (.tmp 4))), 0, []⟩,
⟨(some 28), none, (.p (.mkFn 38 [] [(.tmp 3), (.tmp 4), (.tmp 5)])), 0, []⟩,
⟨(some 29), none, (.h (.call (.c (.fn 32 [] [])) [(.tmp 26), (.tmp 27), (.tmp 28)])), 0, []⟩,
⟨(some 6), none, (.p (.mv (.tmp 29))), 0, []⟩])
.ret)))⟩
theorem c18 : Mir.compF Tryz.prog Tryz.f18 = some g18 := by kernel_rfl
/-- (*scribe/disk.Disk).SyncDir -/
def g19 : Mir.Fn := ⟨19, [(.tmp 2)],
(.seq
(.ops [⟨(some 2), none, (.p (.mv (.c (.int .i64 0)))), 0, []⟩])
(.seq
(.seq
(.ops [⟨(some 3), none, (.p (.mv (.tmp 0))), 0, []⟩,
⟨(some 4), none, (.p (.nilchk (.tmp 3))), 0, []⟩,
⟨(some 5), none, (.p (.fieldAt 4 (.tmp 4))), 0, []⟩,
⟨(some 6), none, (.r (.load 1 false (.tmp 5))), 0, []⟩,
⟨(some 7), none, (.p (.mv (.tmp 6))), 0, []⟩,
⟨(some 8), (some (7, false)), (.p (.mv (.tmp 0))), 0, []⟩,
⟨(some 9), (some (7, false)), (.h (.call (.c (.fn 36 [] [])) [(.tmp 8)])), 0, []⟩,
⟨(some 10), none, (.p (.pick (.tmp 7) (.c (.bool true)) (.tmp 9))), 0, []⟩])
(.cond (.tmp 10)
(.seq
(.ops [⟨(some 2), none, (.p (.mv (.c (.int .i64 8)))), 0, []⟩])
.ret)
.skip))
(.seq
(.ops [⟨(some 11), none, (.p (.mv (.tmp 0))), 0, []⟩,
⟨(some 12), none, (.p (.mv (.tmp 0))), 0, []⟩,
⟨(some 13), none, (.p (.nilchk (.tmp 12))), 0, []⟩,
⟨(some 14), none, (.p (.fieldAt 0 (.tmp 13))), 0, []⟩,
⟨(some 15), none, (.r (.load 1 false (.tmp 14))), 0, []⟩,
⟨(some 16), none, (.h (.call (.c (.fn 20 [] [])) [(.tmp 15)])), 0, []⟩,
⟨(some 17), none, (.p (.nilchk (.tmp 11))), 0, []⟩,
⟨(some 18), none, (.p (.fieldAt 1 (.tmp 17))), 0, []⟩,
⟨none, none, (.h (.store 1 (.tmp 18) (.tmp 16))), 0, []⟩])
(.seq
(.ops [⟨(some 2), none, (.p (.mv (.c (.int .i64 0)))), 0, []⟩])
.ret))))⟩
theorem c19 : Mir.compF Tryz.prog Tryz.f19 = some g19 := by kernel_rfl
/-- maps.Clone[map[string]*scribe/disk.file,string,*scribe/disk.file] -/
def g20 : Mir.Fn := ⟨9, [(.tmp 2)],
(.seq
(.ops [⟨(some 2), none, (.p (.mv (.c .nilmap))), 0, []⟩])
(.seq
(.seq
(.ops [⟨(some 3), none, (.p (.mv (.tmp 0))), 0, []⟩,
⟨(some 4), none, (.p (.eq .map false (.tmp 3) (.c .nilmap))), 0, []⟩])
(.cond (.tmp 4)
(.seq
(.ops [⟨(some 2), none, (.p (.mv (.c .nilmap))), 0, []⟩])
.ret)
.skip))
(.seq
(.ops [⟨(some 5), none, (.p (.mv (.tmp 0))), 0, []⟩,
⟨(some 6), none, (.p (.mkIf 35 (.tmp 5))), 0, []⟩,
⟨(some 7), none, (.h (.clone (.tmp 6))), 0, []⟩,
⟨(some 8), none, (.p (.unwrap 35 (.tmp 7))), 0, []⟩,
⟨(some 2), none, (.p (.mv (.tmp 8))), 0, []⟩])
.ret)))⟩
theorem c20 : Mir.compF Tryz.prog Tryz.f20 = some g20 := by kernel_rfl
/-- slices.Sorted[string] -/
def g21 : Mir.Fn := ⟨9, [(.tmp 2)],
(.seq
(.ops [⟨(some 2), none, (.p (.mv (.c .nilsl))), 0, []⟩])
(.seq
(.ops [⟨(some 4), none, (.p (.mv (.tmp 0))), 0, []⟩,
⟨(some 5), none, (.h (.call (.c (.fn 40 [] [])) [(.tmp 4)])), 0, []⟩,
⟨(some 3), none, (.p (.mv (.tmp 5))), 0, []⟩])
(.seq
(.ops [⟨(some 6), none, (.p (.mv (.tmp 3))), 0, []⟩,
⟨(some 7), none, (.h (.call (.c (.fn 41 [] [])) [(.tmp 6)])), 0, []⟩])
(.seq
(.ops [⟨(some 8), none, (.p (.mv (.tmp 3))), 0, []⟩,
⟨(some 2), none, (.p (.mv (.tmp 8))), 0, []⟩])
.ret))))⟩
theorem c21 : Mir.compF Tryz.prog Tryz.f21 = some g21 := by kernel_rfl
/-- maps.Keys[map[string]*scribe/disk.file,string,*scribe/disk.file] -/
def g22 : Mir.Fn := ⟨4, [(.tmp 2)],
(.seq
(.ops [⟨(some 1), none, (.a (.box (.tmp 0))), 0, []⟩,
⟨(some 2), none, (.p (.mv (.c .nilfn))), 0, []⟩])
(.seq
(.ops [⟨(some 3), none, (.p (.mkFn 42 [] [(.tmp 1)])), 0, []⟩,
⟨(some 2), none, (.p (.mv (.tmp 3))), 0, []⟩])
.ret))⟩
theorem c22 : Mir.compF Tryz.prog Tryz.f22 = some g22 := by kernel_rfl
/-- strings.CutPrefix -/
def g23 : Mir.Fn := ⟨11, [(.tmp 4), (.tmp 5)],
(.seq
(.ops [⟨(some 4), none, (.p (.mv (.c (.str [])))), 0, []⟩,
⟨(some 5), none, (.p (.mv (.c (.bool false)))), 0, []⟩])
(.seq
(.ops [⟨(some 6), none, (.p (.mv (.tmp 0))), 0, []⟩,
⟨(some 7), none, (.p (.mv (.tmp 1))), 0, []⟩,
⟨(some 8), none, (.h (.call (.c (.fn 43 [] [])) [(.tmp 6), (.tmp 7)])), 0, []⟩,
⟨(some 9), none, (.p (.ext (.tmp 8) 0)), 0, []⟩,
⟨(some 10), none, (.p (.ext (.tmp 8) 1)), 0, []⟩,
⟨(some 4), none, (.p (.mv (.tmp 9))), 0, []⟩,
⟨(some 5), none, (.p (.mv (.tmp 10))), 0, []⟩])
.ret))⟩
theorem c23 : Mir.compF Tryz.prog Tryz.f23 = some g23 := by kernel_rfl
/-- (*scribe/disk.Disk).Read -/
def g24 : Mir.Fn := ⟨48, [(.tmp 8), (.tmp 9)],
(.seq
(.ops [⟨(some 8), none, (.p (.mv (.c (.str [])))), 0, []⟩,
⟨(some 9), none, (.p (.mv (.c (.int .i64 0)))), 0, []⟩])
(.seq
(.seq
(.ops [⟨(some 12), none, (.p (.mv (.tmp 0))), 0, []⟩,
⟨(some 13), none, (.p (.nilchk (.tmp 12))), 0, []⟩,
⟨(some 14), none, (.p (.fieldAt 4 (.tmp 13))), 0, []⟩,
⟨(some 15), none, (.r (.load 1 false (.tmp 14))), 0, []⟩])
(.cond (.tmp 15)
(.seq
(.ops [⟨(some 8), none, (.p (.mv (.c (.str [])))), 0, []⟩,
⟨(some 9), none, (.p (.mv (.c (.int .i64 8)))), 0, []⟩])
.ret)
.skip))
(.seq
(.ops [⟨(some 16), none, (.p (.mv (.tmp 0))), 0, []⟩,
⟨(some 17), none, (.p (.nilchk (.tmp 16))), 0, []⟩,
⟨(some 18), none, (.p (.fieldAt 0 (.tmp 17))), 0, []⟩,
⟨(some 19), none, (.r (.load 1 false (.tmp 18))), 0, []⟩,
⟨(some 20), none, (.p (.mv (.tmp 1))), 0, []⟩,
⟨(some 21), none, (.r (.lookup (.one .str) .nilptr false (.tmp 19) (.tmp 20))), 0, []⟩,
⟨(some 10), none, (.p (.mv (.tmp 21))), 0, []⟩])
(.seq
(.seq
(.ops [⟨(some 22), none, (.p (.mv (.tmp 10))), 0, []⟩,
⟨(some 23), none, (.p (.eq .ptr false (.tmp 22) (.c .nilptr))), 0, []⟩])
(.cond (.tmp 23)
(.seq
(.ops [⟨(some 8), none, (.p (.mv (.c (.str [])))), 0, []⟩,
⟨(some 9), none, (.p (.mv (.c (.int .i64 5)))), 0, []⟩])
.ret)
.skip))
(.seq
(.seq
(.ops [⟨(some 24), none, (.p (.mv (.tmp 2))), 0, []⟩,
⟨(some 25), none, (.p (.bin .lss (.tmp 24) (.c (.int .i64 0)))), 0, []⟩,
⟨(some 26), none, (.p (.mv (.tmp 25))), 0, []⟩,
⟨(some 27), (some (26, false)), (.p (.mv (.tmp 3))), 0, []⟩,
⟨(some 28), (some (26, false)), (.p (.bin .lss (.tmp 27) (.c (.int .i64 0)))), 0, []⟩,
⟨(some 29), none, (.p (.pick (.tmp 26) (.c (.bool true)) (.tmp 28))), 0, []⟩])
(.cond (.tmp 29)
(.seq
(.ops [⟨(some 8), none, (.p (.mv (.c (.str [])))), 0, []⟩,
⟨(some 9), none, (.p (.mv (.c (.int .i64 1)))), 0, []⟩])
.ret)
.skip))
(.seq
(.draw [⟨(some 30), none, (.p (.mv (.tmp 10))), 0, []⟩,
⟨(some 31), none, (.p (.nilchk (.tmp 30))), 1, []⟩,
⟨(some 32), none, (.p (.fieldAt 0 (.tmp 31))), 2, []⟩,
⟨(some 33), none, (.r (.load 1 false (.tmp 32))), 3, []⟩,
⟨(some 34), none, (.p (.mv (.tmp 2))), 4, []⟩,
⟨(some 35), none, (.p (.mv (.tmp 10))), 5, []⟩,
⟨(some 36), none, (.p (.nilchk (.tmp 35))), 6, []⟩,
⟨(some 37), none, (.p (.fieldAt 0 (.tmp 36))), 7, []⟩,
⟨(some 38), none, (.r (.load 1 false (.tmp 37))), 8, []⟩,
⟨(some 39), none, (.p (.lenStr (.tmp 38))), 9, []⟩,
⟨(some 40), none, (.p (.mnmx false (.tmp 34) [(.tmp 39)])), 10, []⟩,
⟨(some 41), none, (.p (.subStr (.tmp 33) (some (.tmp 40)) none)), 11, []⟩,
⟨(some 11), none, (.p (.mv (.tmp 41))), 12, []⟩])
(.seq
(.ops [⟨(some 42), none, (.p (.mv (.tmp 11))), 0, []⟩,
⟨(some 43), none, (.p (.mv (.tmp 3))), 0, []⟩,
⟨(some 44), none, (.p (.mv (.tmp 11))), 0, []⟩,
⟨(some 45), none, (.p (.lenStr (.tmp 44))), 0, []⟩,
⟨(some 46), none, (.p (.mnmx false (.tmp 43) [(.tmp 45)])), 0, []⟩,
⟨(some 47), none, (.p (.subStr (.tmp 42) none (some (.tmp 46)))), 0, []⟩,
⟨(some 8), none, (.p (.mv (.tmp 47))), 0, []⟩,
⟨(some 9), none, (.p (.mv (.c (.int .i64 0)))), 0, []⟩])
.ret)))))))⟩
theorem c24 : Mir.compF Tryz.prog Tryz.f24 = some g24 := by kernel_rfl
/-- strings.HasPrefix -/
def g25 : Mir.Fn := ⟨8, [(.tmp 4)],
(.seq
(.ops [⟨(some 4), none, (.p (.mv (.c (.bool false)))), 0, []⟩])
(.seq
(.ops [⟨(some 5), none, (.p (.mv (.tmp 0))), 0, []⟩,
⟨(some 6), none, (.p (.mv (.tmp 1))), 0, []⟩,
⟨(some 7), none, (.h (.call (.c (.fn 44 [] [])) [(.tmp 5), (.tmp 6)])), 0, []⟩,
⟨(some 4), none, (.p (.mv (.tmp 7))), 0, []⟩])
.ret))⟩
theorem c25 : Mir.compF Tryz.prog Tryz.f25 = some g25 := by kernel_rfl
/-- strings.Cut -/
def g26 : Mir.Fn := ⟨13, [(.tmp 4), (.tmp 5), (.tmp 6)],
(.seq
(.ops [⟨(some 4), none, (.p (.mv (.c (.str [])))), 0, []⟩,
⟨(some 5), none, (.p (.mv (.c (.str [])))), 0, []⟩,
⟨(some 6), none, (.p (.mv (.c (.bool false)))), 0, []⟩])
(.seq
(.ops [⟨(some 7), none, (.p (.mv (.tmp 0))), 0, []⟩,
⟨(some 8), none, (.p (.mv (.tmp 1))), 0, []⟩,
⟨(some 9), none, (.h (.call (.c (.fn 45 [] [])) [(.tmp 7), (.tmp 8)])), 0, []⟩,
⟨(some 10), none, (.p (.ext (.tmp 9) 0)), 0, []⟩,
⟨(some 11), none, (.p (.ext (.tmp 9) 1)), 0, []⟩,
⟨(some 12), none, (.p (.ext (.tmp 9) 2)), 0, []⟩,
⟨(some 4), none, (.p (.mv (.tmp 10))), 0, []⟩,
⟨(some 5), none, (.p (.mv (.tmp 11))), 0, []⟩,
⟨(some 6), none, (.p (.mv (.tmp 12))), 0, []⟩])
.ret))⟩
theorem c26 : Mir.compF Tryz.prog Tryz.f26 = some g26 := by kernel_rfl
/-- strconv.Atoi -/
def g27 : Mir.Fn := ⟨18, [(.tmp 2), (.tmp 3)],
(.seq
(.ops [⟨(some 2), none, (.p (.mv (.c (.int .i64 0)))), 0, []⟩,
⟨(some 3), none, (.p (.mv (.c .nilif))), 0, []⟩])
(.seq
(.ops [⟨(some 7), none, (.p (.mv (.tmp 0))), 0, []⟩,
⟨(some 8), none, (.h (.call (.c (.fn 46 [] [])) [(.tmp 7)])), 0, []⟩,
⟨(some 6), none, (.p (.mv (.tmp 8))), 0, []⟩,
⟨(some 9), none, (.p (.ext (.tmp 6) 0)), 0, []⟩,
⟨(some 10), none, (.p (.ext (.tmp 6) 1)), 0, []⟩,
⟨(some 4), none, (.p (.mv (.tmp 9))), 0, []⟩,
⟨(some 5), none, (.p (.mv (.tmp 10))), 0, []⟩])
(.seq
(.seq
(.ops [⟨(some 11), none, (.p (.mv (.tmp 5))), 0, []⟩,
⟨(some 12), none, (.p (.eq .iface true (.tmp 11) (.c .nilif))), 0, []⟩])
(.cond (.tmp 12)
(.seq
(.ops [⟨(some 13), none, (.p (.mv (.tmp 4))), 0, []⟩,
⟨(some 14), none, (.p (.mv (.tmp 0))), 0, []⟩,
⟨(some 15), none, (.p (.mv (.tmp 5))), 0, []⟩,
⟨(some 16), none, (.h (.call (.c (.fn 47 [] [])) [(.c (.str [65, 116, 111, 105])), (.tmp 14), (.c (.int .i64 0)), (.c (.int .i64 0)), (.tmp 15)])), 0, []⟩,
⟨(some 2), none, (.p (.mv (.tmp 13))), 0, []⟩,
⟨(some 3), none, (.p (.mv (.tmp 16))), 0, []⟩])
.ret)
.skip))
(.seq
(.ops [⟨(some 17), none, (.p (.mv (.tmp 4))), 0, []⟩,
⟨(some 2), none, (.p (.mv (.tmp 17))), 0, []⟩,
⟨(some 3), none, (.p (.mv (.c .nilif))), 0, []⟩])
.ret))))⟩
theorem c27 : Mir.compF Tryz.prog Tryz.f27 = some g27 := by kernel_rfl
/-- strconv.Itoa -/
def g28 : Mir.Fn := ⟨5, [(.tmp 2)],
(.seq
(.ops [⟨(some 2), none, (.p (.mv (.c (.str [])))), 0, []⟩])
(.seq
(.ops [⟨(some 3), none, (.p (.mv (.tmp 0))), 0, []⟩,
⟨(some 4), none, (.h (.call (.c (.fn 48 [] [])) [(.tmp 3)])), 0, []⟩,
⟨(some 2), none, (.p (.mv (.tmp 4))), 0, []⟩])
.ret))⟩
theorem c28 : Mir.compF Tryz.prog Tryz.f28 = some g28 := by kernel_rfl
/-- scribe/sum.Check -/
def g29 : Mir.Fn := ⟨37, [(.tmp 4)],
(.seq
(.ops [⟨(some 4), none, (.p (.mv (.c (.int .i64 0)))), 0, []⟩])
(.seq
(.seq
(.ops [⟨(some 7), none, (.p (.mv (.tmp 0))), 0, []⟩,
⟨(some 8), none, (.p (.lenStr (.tmp 7))), 0, []⟩,
⟨(some 9), none, (.p (.bin .neq (.tmp 8) (.c (.int .i64 8)))), 0, []⟩])
(.cond (.tmp 9)
(.seq
(.ops [⟨(some 4), none, (.p (.mv (.c (.int .i64 3)))), 0, []⟩])
.ret)
.skip))
(.seq
(.seq
(.ops [⟨(some 10), none, (.p (.mv (.tmp 0))), 0, []⟩,
⟨(some 11), none, (.a (.toBytes (.tmp 10))), 0, []⟩,
⟨(some 12), none, (.p (.lenSl (.tmp 11))), 0, []⟩,
⟨(some 13), none, (.p (.mv (.c (.int .i64 0)))), 0, []⟩])
(.block 0 (.loop (.seq
(.ops [⟨(some 14), none, (.p (.bin .lss (.tmp 13) (.tmp 12))), 0, []⟩])
(.seq
(.cond (.tmp 14)
.skip
(.exit 0))
(.seq
(.block 1 (.seq
(.ops [⟨(some 15), none, (.p (.idxSl 1 (.tmp 11) (.tmp 13))), 0, []⟩,
⟨(some 16), none, (.r (.load 1 false (.tmp 15))), 0, []⟩,
⟨(some 6), none, (.p (.mv (.tmp 16))), 0, []⟩])
(.seq
(.ops [⟨(some 17), none, (.p (.mv (.tmp 6))), 0, []⟩,
⟨(some 18), none, (.p (.bin .lss (.tmp 17) (.c (.int .u8 48)))), 0, []⟩,
⟨(some 19), none, (.p (.mv (.tmp 18))), 0, []⟩,
⟨(some 20), (some (19, false)), (.p (.mv (.tmp 6))), 0, []⟩,
⟨(some 21), (some (19, false)), (.p (.bin .gtr (.tmp 20) (.c (.int .u8 57)))), 0, []⟩,
⟨(some 22), none, (.p (.pick (.tmp 19) (.c (.bool true)) (.tmp 21))), 0, []⟩,
⟨(some 23), none, (.p (.mv (.tmp 22))), 0, []⟩,
⟨(some 24), (some (23, true)), (.p (.mv (.tmp 6))), 0, []⟩,
⟨(some 25), (some (23, true)), (.p (.bin .lss (.tmp 24) (.c (.int .u8 97)))), 0, []⟩,
⟨(some 26), (some (23, true)), (.p (.mv (.tmp 25))), 0, []⟩,
⟨(some 27), (some (26, false)), (.p (.mv (.tmp 6))), 0, []⟩,
⟨(some 28), (some (26, false)), (.p (.bin .gtr (.tmp 27) (.c (.int .u8 102)))), 0, []⟩,
⟨(some 29), (some (23, true)), (.p (.pick (.tmp 26) (.c (.bool true)) (.tmp 28))), 0, []⟩,
⟨(some 30), none, (.p (.pick (.tmp 23) (.tmp 29) (.c (.bool false)))), 0, []⟩])
(.cond (.tmp 30)
(.seq
(.ops [⟨(some 4), none, (.p (.mv (.c (.int .i64 3)))), 0, []⟩])
.ret)
.skip))))
(.ops [⟨(some 31), none, (.p (.bin .add (.tmp 13) (.c (.int .i64 1)))), 0, []⟩,
⟨(some 13), none, (.p (.mv (.tmp 31))), 0, []⟩])))))))
(.seq
(.seq
(.ops [⟨(some 32), none, (.p (.mv (.tmp 0))), 0, []⟩,
⟨(some 33), none, (.p (.mv (.tmp 1))), 0, []⟩,
⟨(some 34), none, (.h (.call (.c (.fn 31 [] [])) [(.tmp 33)])), 0, []⟩,
⟨(some 35), none, (.h (.call (.c (.fn 30 [] [])) [(.tmp 34)])), 0, []⟩,
⟨(some 36), none, (.p (.bin .neq (.tmp 32) (.tmp 35))), 0, []⟩])
(.cond (.tmp 36)
(.seq
(.ops [⟨(some 4), none, (.p (.mv (.c (.int .i64 4)))), 0, []⟩])
.ret)
.skip))
(.seq
(.ops [⟨(some 4), none, (.p (.mv (.c (.int .i64 0)))), 0, []⟩])
.ret)))))⟩
theorem c29 : Mir.compF Tryz.prog Tryz.f29 = some g29 := by kernel_rfl
/-- scribe/sum.Hex -/
def g30 : Mir.Fn := ⟨24, [(.tmp 2)],
(.seq
(.ops [⟨(some 2), none, (.p (.mv (.c (.str [])))), 0, []⟩])
(.seq
(.ops [⟨(some 5), none, (.a (.make [(.int .u8 0)] 1 1 (.c (.int .i64 8)) (.c (.int .i64 8)))), 0, []⟩,
⟨(some 3), none, (.p (.mv (.tmp 5))), 0, []⟩])
(.seq
(.seq
(.ops [⟨(some 6), none, (.p (.mv (.tmp 3))), 0, []⟩,
⟨(some 7), none, (.p (.lenSl (.tmp 6))), 0, []⟩,
⟨(some 8), none, (.p (.mv (.c (.int .i64 0)))), 0, []⟩])
(.block 0 (.loop (.seq
(.ops [⟨(some 9), none, (.p (.bin .lss (.tmp 8) (.tmp 7))), 0, []⟩])
(.seq
(.cond (.tmp 9)
.skip
(.exit 0))
(.seq
(.block 1 (.seq
(.ops [⟨(some 10), none, (.p (.mv (.tmp 8))), 0, []⟩,
⟨(some 4), none, (.p (.mv (.tmp 10))), 0, []⟩])
(.ops [⟨(some 11), none, (.p (.mv (.tmp 3))), 0, []⟩,
⟨(some 12), none, (.p (.mv (.tmp 4))), 0, []⟩,
⟨(some 13), none, (.p (.mv (.tmp 0))), 0, []⟩,
⟨(some 14), none, (.p (.mv (.tmp 4))), 0, []⟩,
⟨(some 15), none, (.p (.bin .mul (.c (.int .i64 4)) (.tmp 14))), 0, []⟩,
⟨(some 16), none, (.p (.bin .sub (.c (.int .i64 28)) (.tmp 15))), 0, []⟩,
⟨(some 17), none, (.p (.bin .shr (.tmp 13) (.tmp 16))), 0, []⟩,
⟨(some 18), none, (.p (.bin .and (.tmp 17) (.c (.int .u32 15)))), 0, []⟩,
⟨(some 19), none, (.p (.idxStr (.c (.str [48, 49, 50, 51, 52, 53, 54, 55, 56, 57, 97, 98, 99, 100, 101, 102])) (.tmp 18))), 0, []⟩,
⟨(some 20), none, (.p (.idxSl 1 (.tmp 11) (.tmp 12))), 0, []⟩,
⟨none, none, (.h (.store 1 (.tmp 20) (.tmp 19))), 0, []⟩])))
(.ops [⟨(some 21), none, (.p (.bin .add (.tmp 8) (.c (.int .i64 1)))), 0, []⟩,
⟨(some 8), none, (.p (.mv (.tmp 21))), 0, []⟩])))))))
(.seq
(.ops [⟨(some 22), none, (.p (.mv (.tmp 3))), 0, []⟩,
⟨(some 23), none, (.r (.toStr (.tmp 22))), 0, []⟩,
⟨(some 2), none, (.p (.mv (.tmp 23))), 0, []⟩])
.ret))))⟩
theorem c30 : Mir.compF Tryz.prog Tryz.f30 = some g30 := by kernel_rfl
/-- scribe/sum.Of -/
def g31 : Mir.Fn := ⟨7, [(.tmp 2)],
(.seq
(.ops [⟨(some 2), none, (.p (.mv (.c (.int .u32 0)))), 0, []⟩])
(.seq
(.ops [⟨(some 3), none, (.h (.call (.c (.fn 49 [] [])) [])), 0, []⟩,
⟨(some 4), none, (.p (.mv (.tmp 0))), 0, []⟩,
⟨(some 5), none, (.h (.call (.c (.fn 50 [] [])) [(.tmp 3), (.tmp 4)])), 0, []⟩,
⟨(some 6), none, (.h (.call (.c (.fn 51 [] [])) [(.tmp 5)])), 0, []⟩,
⟨(some 2), none, (.p (.mv (.tmp 6))), 0, []⟩])
.ret))⟩
theorem c31 : Mir.compF Tryz.prog Tryz.f31 = some g31 := by kernel_rfl
/-- (*scribe/disk.Disk).change -/
def g32 : Mir.Fn := ⟨25, [(.tmp 6)],
(.seq
(.ops [⟨(some 6), none, (.p (.mv (.c (.int .i64 0)))), 0, []⟩])
(.seq
(.seq
(.ops [⟨(some 8), none, (.p (.mv (.tmp 0))), 0, []⟩,
⟨(some 9), none, (.p (.nilchk (.tmp 8))), 0, []⟩,
⟨(some 10), none, (.p (.fieldAt 4 (.tmp 9))), 0, []⟩,
⟨(some 11), none, (.r (.load 1 false (.tmp 10))), 0, []⟩])
(.cond (.tmp 11)
(.seq
(.ops [⟨(some 6), none, (.p (.mv (.c (.int .i64 8)))), 0, []⟩])
.ret)
.skip))
(.seq
(.ops [⟨(some 12), none, (.p (.mv (.tmp 0))), 0, []⟩,
⟨(some 13), none, (.p (.nilchk (.tmp 12))), 0, []⟩,
⟨(some 14), none, (.p (.fieldAt 0 (.tmp 13))), 0, []⟩,
⟨(some 15), none, (.r (.load 1 false (.tmp 14))), 0, []⟩,
⟨(some 16), none, (.p (.mv (.tmp 1))), 0, []⟩,
⟨(some 17), none, (.r (.lookup (.one .str) .nilptr false (.tmp 15) (.tmp 16))), 0, []⟩,
⟨(some 7), none, (.p (.mv (.tmp 17))), 0, []⟩])
(.seq
(.seq
(.ops [⟨(some 18), none, (.p (.mv (.tmp 7))), 0, []⟩,
⟨(some 19), none, (.p (.eq .ptr false (.tmp 18) (.c .nilptr))), 0, []⟩])
(.cond (.tmp 19)
(.seq
(.ops [⟨(some 6), none, (.p (.mv (.c (.int .i64 5)))), 0, []⟩])
.ret)
.skip))
(.seq
(.seq
(.ops [⟨(some 20), none, (.p (.mv (.tmp 0))), 0, []⟩,
⟨(some 21), none, (.h (.call (.c (.fn 36 [] [])) [(.tmp 20)])), 0, []⟩])
(.cond (.tmp 21)
(.seq
(.ops [⟨(some 6), none, (.p (.mv (.c (.int .i64 8)))), 0, []⟩])
.ret)
.skip))
(.seq
(.ops [⟨(some 22), none, (.p (.mv (.tmp 2))), 0, []⟩,
⟨(some 23), none, (.p (.mv (.tmp 7))), 0, []⟩,
⟨(some 24), none, (.h (.call (.tmp 22) [(.tmp 23)])), 0, []⟩])
(.seq
(.ops [⟨(some 6), none, (.p (.mv (.c (.int .i64 0)))), 0, []⟩])
.ret)))))))⟩
theorem c32 : Mir.compF Tryz.prog Tryz.f32 = some g32 := by kernel_rfl
/-- (*scribe/disk.Disk).Remove$1 -/
def g33 : Mir.Fn := ⟨9, [],
(.draw [⟨(some 4), none, (.r (.load 1 false (.tmp 1))), 0, []⟩,
⟨(some 5), none, (.p (.nilchk (.tmp 4))), 1, []⟩,
⟨(some 6), none, (.p (.fieldAt 0 (.tmp 5))), 2, []⟩,
⟨(some 7), none, (.r (.load 1 false (.tmp 6))), 3, []⟩,
⟨(some 8), none, (.r (.load 1 false (.tmp 2))), 4, []⟩,
⟨none, none, (.h (.delete (.one .str) (.tmp 7) (.tmp 8))), 5, []⟩])⟩
theorem c33 : Mir.compF Tryz.prog Tryz.f33 = some g33 := by kernel_rfl
/-- scribe/disk.Name -/
def g34 : Mir.Fn := ⟨15, [(.tmp 2)],
(.seq
(.ops [⟨(some 2), none, (.p (.mv (.c (.bool false)))), 0, []⟩])
(.seq
(.ops [⟨(some 3), none, (.p (.mv (.tmp 0))), 0, []⟩,
⟨(some 4), none, (.p (.bin .neq (.tmp 3) (.c (.str [])))), 0, []⟩,
⟨(some 5), none, (.p (.mv (.tmp 4))), 0, []⟩,
⟨(some 6), (some (5, true)), (.p (.mv (.tmp 0))), 0, []⟩,
⟨(some 7), (some (5, true)), (.p (.lenStr (.tmp 6))), 0, []⟩,
⟨(some 8), (some (5, true)), (.p (.bin .leq (.tmp 7) (.c (.int .i64 40)))), 0, []⟩,
⟨(some 9), none, (.p (.pick (.tmp 5) (.tmp 8) (.c (.bool false)))), 0, []⟩,
⟨(some 10), none, (.p (.mv (.tmp 9))), 0, []⟩,
⟨(some 11), (some (10, true)), (.p (.mv (.tmp 0))), 0, []⟩,
⟨(some 12), (some (10, true)), (.h (.call (.c (.fn 52 [] [])) [(.tmp 11), (.c (.fn 53 [] []))])), 0, []⟩,
⟨(some 13), (some (10, true)), (.p (.un .not (.tmp 12))), 0, []⟩,
⟨(some 14), none, (.p (.pick (.tmp 10) (.tmp 13) (.c (.bool false)))), 0, []⟩,
⟨(some 2), none, (.p (.mv (.tmp 14))), 0, []⟩])
.ret))⟩
theorem c34 : Mir.compF Tryz.prog Tryz.f34 = some g34 := by kernel_rfl
/-- (*scribe/disk.Disk).Used -/
def g35 : Mir.Fn := ⟨23, [(.tmp 2)],
(.seq
(.ops [⟨(some 2), none, (.p (.mv (.c (.int .i64 0)))), 0, []⟩])
(.seq
(.ops [⟨(some 3), none, (.p (.mv (.c (.int .i64 0)))), 0, []⟩])
(.seq
(.seq
(.ops [⟨(some 6), none, (.p (.mv (.tmp 0))), 0, []⟩,
⟨(some 7), none, (.p (.nilchk (.tmp 6))), 0, []⟩,
⟨(some 8), none, (.p (.fieldAt 0 (.tmp 7))), 0, []⟩,
⟨(some 9), none, (.r (.load 1 false (.tmp 8))), 0, []⟩,
⟨(some 10), none, (.h (.range (.tmp 9))), 0, []⟩])
(.block 0 (.loop (.seq
(.ops [⟨(some 11), none, (.h (.next (.tmp 10))), 0, []⟩,
⟨(some 12), none, (.p (.ext (.tmp 11) 0)), 0, []⟩])
(.seq
(.cond (.tmp 12)
.skip
(.exit 0))
(.block 1 (.seq
(.ops [⟨(some 13), none, (.r (.entry (.tmp 10))), 0, []⟩,
⟨(some 14), none, (.p (.ext (.tmp 13) 1)), 0, []⟩,
⟨(some 5), none, (.p (.mv (.tmp 14))), 0, []⟩])
(.ops [⟨(some 15), none, (.p (.mv (.tmp 3))), 0, []⟩,
⟨(some 16), none, (.p (.mv (.tmp 5))), 0, []⟩,
⟨(some 17), none, (.p (.nilchk (.tmp 16))), 0, []⟩,
⟨(some 18), none, (.p (.fieldAt 0 (.tmp 17))), 0, []⟩,
⟨(some 19), none, (.r (.load 1 false (.tmp 18))), 0, []⟩,
⟨(some 20), none, (.p (.lenStr (.tmp 19))), 0, []⟩,
⟨(some 21), none, (.p (.bin .add (.tmp 15) (.tmp 20))), 0, []⟩,
⟨(some 3), none, (.p (.mv (.tmp 21))), 0, []⟩]))))))))
(.seq
(.ops [⟨(some 22), none, (.p (.mv (.tmp 3))), 0, []⟩,
⟨(some 2), none, (.p (.mv (.tmp 22))), 0, []⟩])
.ret))))⟩
theorem c35 : Mir.compF Tryz.prog Tryz.f35 = some g35 := by kernel_rfl
/-- (*scribe/disk.Disk).deed -/
def g36 : Mir.Fn := ⟨27, [(.tmp 2)],
(.seq
(.ops [⟨(some 2), none, (.p (.mv (.c (.bool false)))), 0, []⟩])
(.seq
(.seq
(.ops [⟨(some 3), none, (.p (.mv (.tmp 0))), 0, []⟩,
⟨(some 4), none, (.p (.nilchk (.tmp 3))), 0, []⟩,
⟨(some 5), none, (.p (.fieldAt 3 (.tmp 4))), 0, []⟩,
⟨(some 6), none, (.r (.load 1 false (.tmp 5))), 0, []⟩,
⟨(some 7), none, (.p (.bin .gtr (.tmp 6) (.c (.int .i64 0)))), 0, []⟩])
(.cond (.tmp 7)
(.ops [⟨(some 8), none, (.p (.mv (.tmp 0))), 0, []⟩,
⟨(some 9), none, (.p (.nilchk (.tmp 8))), 0, []⟩,
⟨(some 10), none, (.p (.fieldAt 3 (.tmp 9))), 0, []⟩,
⟨(some 11), none, (.r (.load 1 false (.tmp 10))), 0, []⟩,
⟨(some 12), none, (.p (.bin .sub (.tmp 11) (.c (.int .i64 1)))), 0, []⟩,
⟨(some 13), none, (.p (.nilchk (.tmp 8))), 0, []⟩,
⟨(some 14), none, (.p (.fieldAt 3 (.tmp 13))), 0, []⟩,
⟨none, none, (.h (.store 1 (.tmp 14) (.tmp 12))), 0, []⟩])
(.seq
(.ops [⟨(some 15), none, (.p (.mv (.tmp 0))), 0, []⟩,
⟨(some 16), none, (.p (.nilchk (.tmp 15))), 0, []⟩,
⟨(some 17), none, (.p (.fieldAt 3 (.tmp 16))), 0, []⟩,
⟨(some 18), none, (.r (.load 1 false (.tmp 17))), 0, []⟩,
⟨(some 19), none, (.p (.bin .eql (.tmp 18) (.c (.int .i64 0)))), 0, []⟩])
(.cond (.tmp 19)
(.ops [⟨(some 20), none, (.p (.mv (.tmp 0))), 0, []⟩,
⟨(some 21), none, (.p (.nilchk (.tmp 20))), 0, []⟩,
⟨(some 22), none, (.p (.fieldAt 4 (.tmp 21))), 0, []⟩,
⟨none, none, (.h (.store 1 (.tmp 22) (.c (.bool true)))), 0, []⟩])
.skip))))
(.seq
(.ops [⟨(some 23), none, (.p (.mv (.tmp 0))), 0, []⟩,
⟨(some 24), none, (.p (.nilchk (.tmp 23))), 0, []⟩,
⟨(some 25), none, (.p (.fieldAt 4 (.tmp 24))), 0, []⟩,
⟨(some 26), none, (.r (.load 1 false (.tmp 25))), 0, []⟩,
⟨(some 2), none, (.p (.mv (.tmp 26))), 0, []⟩])
.ret)))⟩
theorem c36 : Mir.compF Tryz.prog Tryz.f36 = some g36 := by kernel_rfl
/-- (*scribe/disk.Disk).Sync$1 -/
def g37 : Mir.Fn := ⟨9, [],
(.ops [⟨(some 2), none, (.p (.mv (.tmp 0))), 0, []⟩,
⟨(some 3), none, (.p (.mv (.tmp 0))), 0, []⟩,
⟨(some 4), none, (.p (.nilchk (.tmp 3))), 0, []⟩,
⟨(some 5), none, (.p (.fieldAt 0 (.tmp 4))), 0, []⟩,
⟨(some 6), none, (.r (.load 1 false (.tmp 5))), 0, []⟩,
⟨(some 7), none, (.p (.nilchk (.tmp 2))), 0, []⟩,
⟨(some 8), none, (.p (.fieldAt 1 (.tmp 7))), 0, []⟩,
⟨none, none, (.h (.store 1 (.tmp 8) (.tmp 6))), 0, []⟩])⟩
theorem c37 : Mir.compF Tryz.prog Tryz.f37 = some g37 := by kernel_rfl
/-- (*scribe/disk.Disk).Rename$1 -/
def g38 : Mir.Fn := ⟨16, [],
(.seq
(.draw [⟨(some 5), none, (.r (.load 1 false (.tmp 1))), 0, []⟩,
⟨(some 6), none, (.p (.nilchk (.tmp 5))), 1, []⟩,
⟨(some 7), none, (.p (.fieldAt 0 (.tmp 6))), 2, []⟩,
⟨(some 8), none, (.r (.load 1 false (.tmp 7))), 3, []⟩,
⟨(some 9), none, (.r (.load 1 false (.tmp 2))), 4, []⟩,
⟨none, none, (.h (.delete (.one .str) (.tmp 8) (.tmp 9))), 5, []⟩])
(.draw [⟨(some 10), none, (.r (.load 1 false (.tmp 1))), 0, []⟩,
⟨(some 11), none, (.p (.nilchk (.tmp 10))), 1, []⟩,
⟨(some 12), none, (.p (.fieldAt 0 (.tmp 11))), 2, []⟩,
⟨(some 13), none, (.r (.load 1 false (.tmp 12))), 3, []⟩,
⟨(some 14), none, (.r (.load 1 false (.tmp 3))), 4, []⟩,
⟨(some 15), none, (.p (.mv (.tmp 0))), 5, []⟩,
⟨none, none, (.h (.mapUpd (.one .str) (.tmp 13) (.tmp 14) (.tmp 15))), 6, []⟩]))⟩
theorem c38 : Mir.compF Tryz.prog Tryz.f38 = some g38 := by kernel_rfl
/-- slices.Collect[string] -/
def g40 : Mir.Fn := ⟨5, [(.tmp 2)],
(.seq
(.ops [⟨(some 2), none, (.p (.mv (.c .nilsl))), 0, []⟩])
(.seq
(.ops [⟨(some 3), none, (.p (.mv (.tmp 0))), 0, []⟩,
⟨(some 4), none, (.h (.call (.c (.fn 54 [] [])) [(.c .nilsl), (.tmp 3)])), 0, []⟩,
⟨(some 2), none, (.p (.mv (.tmp 4))), 0, []⟩])
.ret))⟩
theorem c40 : Mir.compF Tryz.prog Tryz.f40 = some g40 := by kernel_rfl
/-- slices.Sort[[]string,string] -/
def g41 : Mir.Fn := ⟨11, [],
(.seq
(.ops [⟨(some 3), none, (.p (.mv (.tmp 0))), 0, []⟩,
⟨(some 4), none, (.p (.lenSl (.tmp 3))), 0, []⟩,
⟨(some 2), none, (.p (.mv (.tmp 4))), 0, []⟩])
(.ops [⟨(some 5), none, (.p (.mv (.tmp 0))), 0, []⟩,
⟨(some 6), none, (.p (.mv (.tmp 2))), 0, []⟩,
⟨(some 7), none, (.p (.mv (.tmp 2))), 0, []⟩,
⟨(some 8), none, (.p (.convInt .u64 (.tmp 7))), 0, []⟩,
⟨(some 9), none, (.h (.call (.c (.fn 56 [] [])) [(.tmp 8)])), 0, []⟩,
⟨(some 10), none, (.h (.call (.c (.fn 55 [] [])) [(.tmp 5), (.c (.int .i64 0)), (.tmp 6), (.tmp 9)])), 0, []⟩]))⟩
theorem c41 : Mir.compF Tryz.prog Tryz.f41 = some g41 := by kernel_rfl
/-- maps.Keys[map[string]*scribe/disk.file,string,*scribe/disk.file]$1 -/
def g42 : Mir.Fn := ⟨14, [],
(.seq
(.ops [⟨(some 4), none, (.r (.load 1 false (.tmp 1))), 0, []⟩,
⟨(some 5), none, (.h (.range (.tmp 4))), 0, []⟩])
(.block 0 (.loop (.seq
(.ops [⟨(some 6), none, (.h (.next (.tmp 5))), 0, []⟩,
⟨(some 7), none, (.p (.ext (.tmp 6) 0)), 0, []⟩])
(.seq
(.cond (.tmp 7)
.skip
(.exit 0))
(.block 1 (.seq
(.ops [⟨(some 8), none, (.r (.entry (.tmp 5))), 0, []⟩,
⟨(some 9), none, (.p (.ext (.tmp 8) 0)), 0, []⟩,
⟨(some 3), none, (.p (.mv (.tmp 9))), 0, []⟩])
(.seq
(.ops [⟨(some 10), none, (.p (.mv (.tmp 0))), 0, []⟩,
⟨(some 11), none, (.p (.mv (.tmp 3))), 0, []⟩,
⟨(some 12), none, (.h (.call (.tmp 10) [(.tmp 11)])), 0, []⟩,
⟨(some 13), none, (.p (.un .not (.tmp 12))), 0, []⟩])
(.cond (.tmp 13)
.ret
.skip)))))))))⟩
theorem c42 : Mir.compF Tryz.prog Tryz.f42 = some g42 := by kernel_rfl
/-- internal/stringslite.CutPrefix -/
def g43 : Mir.Fn := ⟨15, [(.tmp 4), (.tmp 5)],
(.seq
(.ops [⟨(some 4), none, (.p (.mv (.c (.str [])))), 0, []⟩,
⟨(some 5), none, (.p (.mv (.c (.bool false)))), 0, []⟩])
(.seq
(.seq
(.ops [⟨(some 6), none, (.p (.mv (.tmp 0))), 0, []⟩,
⟨(some 7), none, (.p (.mv (.tmp 1))), 0, []⟩,
⟨(some 8), none, (.h (.call (.c (.fn 44 [] [])) [(.tmp 6), (.tmp 7)])), 0, []⟩,
⟨(some 9), none, (.p (.un .not (.tmp 8))), 0, []⟩])
(.cond (.tmp 9)
(.seq
(.ops [⟨(some 10), none, (.p (.mv (.tmp 0))), 0, []⟩,
⟨(some 4), none, (.p (.mv (.tmp 10))), 0, []⟩,
⟨(some 5), none, (.p (.mv (.c (.bool false)))), 0, []⟩])
.ret)
.skip))
(.seq
(.ops [⟨(some 11), none, (.p (.mv (.tmp 0))), 0, []⟩,
⟨(some 12), none, (.p (.mv (.tmp 1))), 0, []⟩,
⟨(some 13), none, (.p (.lenStr (.tmp 12))), 0, []⟩,
⟨(some 14), none, (.p (.subStr (.tmp 11) (some (.tmp 13)) none)), 0, []⟩,
⟨(some 4), none, (.p (.mv (.tmp 14))), 0, []⟩,
⟨(some 5), none, (.p (.mv (.c (.bool true)))), 0, []⟩])
.ret)))⟩
theorem c43 : Mir.compF Tryz.prog Tryz.f43 = some g43 := by kernel_rfl
/-- internal/stringslite.HasPrefix -/
def g44 : Mir.Fn := ⟨18, [(.tmp 4)],
(.seq
(.ops [⟨(some 4), none, (.p (.mv (.c (.bool false)))), 0, []⟩])
(.seq
(.ops [⟨(some 5), none, (.p (.mv (.tmp 0))), 0, []⟩,
⟨(some 6), none, (.p (.lenStr (.tmp 5))), 0, []⟩,
⟨(some 7), none, (.p (.mv (.tmp 1))), 0, []⟩,
⟨(some 8), none, (.p (.lenStr (.tmp 7))), 0, []⟩,
⟨(some 9), none, (.p (.bin .geq (.tmp 6) (.tmp 8))), 0, []⟩,
⟨(some 10), none, (.p (.mv (.tmp 9))), 0, []⟩,
⟨(some 11), (some (10, true)), (.p (.mv (.tmp 0))), 0, []⟩,
⟨(some 12), (some (10, true)), (.p (.mv (.tmp 1))), 0, []⟩,
⟨(some 13), (some (10, true)), (.p (.lenStr (.tmp 12))), 0, []⟩,
⟨(some 14), (some (10, true)), (.p (.subStr (.tmp 11) none (some (.tmp 13)))), 0, []⟩,
⟨(some 15), (some (10, true)), (.p (.mv (.tmp 1))), 0, []⟩,
⟨(some 16), (some (10, true)), (.p (.bin .eql (.tmp 14) (.tmp 15))), 0, []⟩,
⟨(some 17), none, (.p (.pick (.tmp 10) (.tmp 16) (.c (.bool false)))), 0, []⟩,
⟨(some 4), none, (.p (.mv (.tmp 17))), 0, []⟩])
.ret))⟩
theorem c44 : Mir.compF Tryz.prog Tryz.f44 = some g44 := by kernel_rfl
/-- internal/stringslite.Cut -/
def g45 : Mir.Fn := ⟨23, [(.tmp 4), (.tmp 5), (.tmp 6)],
(.seq
(.ops [⟨(some 4), none, (.p (.mv (.c (.str [])))), 0, []⟩,
⟨(some 5), none, (.p (.mv (.c (.str [])))), 0, []⟩,
⟨(some 6), none, (.p (.mv (.c (.bool false)))), 0, []⟩])
(.seq
(.seq
(.ops [⟨(some 8), none, (.p (.mv (.tmp 0))), 0, []⟩,
⟨(some 9), none, (.p (.mv (.tmp 1))), 0, []⟩,
⟨(some 10), none, (.h (.call (.c (.fn 57 [] [])) [(.tmp 8), (.tmp 9)])), 0, []⟩,
⟨(some 7), none, (.p (.mv (.tmp 10))), 0, []⟩])
(.seq
(.ops [⟨(some 11), none, (.p (.mv (.tmp 7))), 0, []⟩,
⟨(some 12), none, (.p (.bin .geq (.tmp 11) (.c (.int .i64 0)))), 0, []⟩])
(.cond (.tmp 12)
(.seq
(.draw [⟨(some 13), none, (.p (.mv (.tmp 0))), 0, []⟩,
⟨(some 14), none, (.p (.mv (.tmp 7))), 1, []⟩,
⟨(some 15), none, (.p (.subStr (.tmp 13) none (some (.tmp 14)))), 2, []⟩,
⟨(some 16), none, (.p (.mv (.tmp 0))), 3, []⟩,
⟨(some 17), none, (.p (.mv (.tmp 7))), 4, []⟩,
⟨(some 18), none, (.p (.mv (.tmp 1))), 5, []⟩,
⟨(some 19), none, (.p (.lenStr (.tmp 18))), 6, []⟩,
⟨(some 20), none, (.p (.bin .add (.tmp 17) (.tmp 19))), 7, []⟩,
⟨(some 21), none, (.p (.subStr (.tmp 16) (some (.tmp 20)) none)), 8, []⟩,
⟨(some 4), none, (.p (.mv (.tmp 15))), 9, []⟩,
⟨(some 5), none, (.p (.mv (.tmp 21))), 10, []⟩,
⟨(some 6), none, (.p (.mv (.c (.bool true)))), 11, []⟩])
.ret)
.skip)))
(.seq
(.ops [⟨(some 22), none, (.p (.mv (.tmp 0))), 0, []⟩,
⟨(some 4), none, (.p (.mv (.tmp 22))), 0, []⟩,
⟨(some 5), none, (.p (.mv (.c (.str [])))), 0, []⟩,
⟨(some 6), none, (.p (.mv (.c (.bool false)))), 0, []⟩])
.ret)))⟩
theorem c45 : Mir.compF Tryz.prog Tryz.f45 = some g45 := by kernel_rfl
/-- internal/strconv.Atoi -/
def g46 : Mir.Fn := ⟨77, [(.tmp 2), (.tmp 3)],
(.seq
(.ops [⟨(some 2), none, (.p (.mv (.c (.int .i64 0)))), 0, []⟩,
⟨(some 3), none, (.p (.mv (.c .nilif))), 0, []⟩])
(.seq
(.ops [⟨(some 11), none, (.p (.mv (.tmp 0))), 0, []⟩,
⟨(some 12), none, (.p (.lenStr (.tmp 11))), 0, []⟩,
⟨(some 4), none, (.p (.mv (.tmp 12))), 0, []⟩])
(.seq
(.seq
(.ops [⟨(some 13), none, (.p (.mv (.c (.bool false)))), 0, []⟩,
⟨(some 14), (some (13, true)), (.p (.mv (.tmp 4))), 0, []⟩,
⟨(some 15), (some (13, true)), (.p (.bin .lss (.c (.int .i64 0)) (.tmp 14))), 0, []⟩,
⟨(some 16), (some (13, true)), (.p (.mv (.tmp 15))), 0, []⟩,
⟨(some 17), (some (16, true)), (.p (.mv (.tmp 4))), 0, []⟩,
⟨(some 18), (some (16, true)), (.p (.bin .lss (.tmp 17) (.c (.int .i64 10)))), 0, []⟩,
⟨(some 19), (some (13, true)), (.p (.pick (.tmp 16) (.tmp 18) (.c (.bool false)))), 0, []⟩,
⟨(some 20), none, (.p (.pick (.tmp 13) (.tmp 19) (.c (.bool false)))), 0, []⟩,
⟨(some 21), none, (.p (.mv (.tmp 20))), 0, []⟩,
⟨(some 22), (some (21, false)), (.p (.mv (.c (.bool true)))), 0, []⟩,
⟨(some 23), (some (22, true)), (.p (.mv (.tmp 4))), 0, []⟩,
⟨(some 24), (some (22, true)), (.p (.bin .lss (.c (.int .i64 0)) (.tmp 23))), 0, []⟩,
⟨(some 25), (some (22, true)), (.p (.mv (.tmp 24))), 0, []⟩,
⟨(some 26), (some (25, true)), (.p (.mv (.tmp 4))), 0, []⟩,
⟨(some 27), (some (25, true)), (.p (.bin .lss (.tmp 26) (.c (.int .i64 19)))), 0, []⟩,
⟨(some 28), (some (22, true)), (.p (.pick (.tmp 25) (.tmp 27) (.c (.bool false)))), 0, []⟩,
⟨(some 29), (some (21, false)), (.p (.pick (.tmp 22) (.tmp 28) (.c (.bool false)))), 0, []⟩,
⟨(some 30), none, (.p (.pick (.tmp 21) (.c (.bool true)) (.tmp 29))), 0, []⟩])
(.cond (.tmp 30)
(.seq
(.ops [⟨(some 31), none, (.p (.mv (.tmp 0))), 0, []⟩,
⟨(some 5), none, (.p (.mv (.tmp 31))), 0, []⟩])
(.seq
(.seq
(.ops [⟨(some 32), none, (.p (.mv (.tmp 0))), 0, []⟩,
⟨(some 33), none, (.p (.idxStr (.tmp 32) (.c (.int .i64 0)))), 0, []⟩,
⟨(some 34), none, (.p (.bin .eql (.tmp 33) (.c (.int .u8 45)))), 0, []⟩,
⟨(some 35), none, (.p (.mv (.tmp 34))), 0, []⟩,
⟨(some 36), (some (35, false)), (.p (.mv (.tmp 0))), 0, []⟩,
⟨(some 37), (some (35, false)), (.p (.idxStr (.tmp 36) (.c (.int .i64 0)))), 0, []⟩,
⟨(some 38), (some (35, false)), (.p (.bin .eql (.tmp 37) (.c (.int .u8 43)))), 0, []⟩,
⟨(some 39), none, (.p (.pick (.tmp 35) (.c (.bool true)) (.tmp 38))), 0, []⟩])
(.cond (.tmp 39)
(.seq
(.ops [⟨(some 40), none, (.p (.mv (.tmp 0))), 0, []⟩,
⟨(some 41), none, (.p (.subStr (.tmp 40) (some (.c (.int .i64 1))) none)), 0, []⟩,
⟨(some 0), none, (.p (.mv (.tmp 41))), 0, []⟩])
(.seq
(.ops [⟨(some 42), none, (.p (.mv (.tmp 0))), 0, []⟩,
⟨(some 43), none, (.p (.lenStr (.tmp 42))), 0, []⟩,
⟨(some 44), none, (.p (.bin .lss (.tmp 43) (.c (.int .i64 1)))), 0, []⟩])
(.cond (.tmp 44)
(.seq
(.ops [⟨(some 45), none, (.p (.mkIf 87 (.c (.int .i64 2)))), 0, []⟩,
⟨(some 2), none, (.p (.mv (.c (.int .i64 0)))), 0, []⟩,
⟨(some 3), none, (.p (.mv (.tmp 45))), 0, []⟩])
.ret)
.skip)))
.skip))
(.seq
(.ops [⟨(some 6), none, (.p (.mv (.c (.int .i64 0)))), 0, []⟩])
(.seq
(.seq
(.ops [⟨(some 46), none, (.p (.mv (.tmp 0))), 0, []⟩,
⟨(some 47), none, (.a (.toBytes (.tmp 46))), 0, []⟩,
⟨(some 48), none, (.p (.lenSl (.tmp 47))), 0, []⟩,
⟨(some 49), none, (.p (.mv (.c (.int .i64 0)))), 0, []⟩])
(.block 0 (.loop (.seq
(.ops [⟨(some 50), none, (.p (.bin .lss (.tmp 49) (.tmp 48))), 0, []⟩])
(.seq
(.cond (.tmp 50)
.skip
(.exit 0))
(.seq
(.block 1 (.seq
(.ops [⟨(some 51), none, (.p (.idxSl 1 (.tmp 47) (.tmp 49))), 0, []⟩,
⟨(some 52), none, (.r (.load 1 false (.tmp 51))), 0, []⟩,
⟨(some 8), none, (.p (.mv (.tmp 52))), 0, []⟩])
(.seq
(.ops [⟨(some 53), none, (.p (.mv (.tmp 8))), 0, []⟩,
⟨(some 54), none, (.p (.bin .sub (.tmp 53) (.c (.int .u8 48)))), 0, []⟩,
⟨(some 8), none, (.p (.mv (.tmp 54))), 0, []⟩])
(.seq
(.seq
(.ops [⟨(some 55), none, (.p (.mv (.tmp 8))), 0, []⟩,
⟨(some 56), none, (.p (.bin .gtr (.tmp 55) (.c (.int .u8 9)))), 0, []⟩])
(.cond (.tmp 56)
(.seq
(.ops [⟨(some 57), none, (.p (.mkIf 87 (.c (.int .i64 2)))), 0, []⟩,
⟨(some 2), none, (.p (.mv (.c (.int .i64 0)))), 0, []⟩,
⟨(some 3), none, (.p (.mv (.tmp 57))), 0, []⟩])
.ret)
.skip))
(.ops [⟨(some 58), none, (.p (.mv (.tmp 6))), 0, []⟩,
⟨(some 59), none, (.p (.bin .mul (.tmp 58) (.c (.int .i64 10)))), 0, []⟩,
⟨(some 60), none, (.p (.mv (.tmp 8))), 0, []⟩,
⟨(some 61), none, (.p (.convInt .i64 (.tmp 60))), 0, []⟩,
⟨(some 62), none, (.p (.bin .add (.tmp 59) (.tmp 61))), 0, []⟩,
⟨(some 6), none, (.p (.mv (.tmp 62))), 0, []⟩])))))
(.ops [⟨(some 63), none, (.p (.bin .add (.tmp 49) (.c (.int .i64 1)))), 0, []⟩,
⟨(some 49), none, (.p (.mv (.tmp 63))), 0, []⟩])))))))
(.seq
(.seq
(.ops [⟨(some 64), none, (.p (.mv (.tmp 5))), 0, []⟩,
⟨(some 65), none, (.p (.idxStr (.tmp 64) (.c (.int .i64 0)))), 0, []⟩,
⟨(some 66), none, (.p (.bin .eql (.tmp 65) (.c (.int .u8 45)))), 0, []⟩])
(.cond (.tmp 66)
(.ops [⟨(some 67), none, (.p (.mv (.tmp 6))), 0, []⟩,
⟨(some 68), none, (.p (.un .neg (.tmp 67))), 0, []⟩,
⟨(some 6), none, (.p (.mv (.tmp 68))), 0, []⟩])
.skip))
(.seq
(.ops [⟨(some 69), none, (.p (.mv (.tmp 6))), 0, []⟩,
⟨(some 2), none, (.p (.mv (.tmp 69))), 0, []⟩,
⟨(some 3), none, (.p (.mv (.c .nilif))), 0, []⟩])
.ret))))))
.skip))
(.seq
(.ops [⟨(some 71), none, (.p (.mv (.tmp 0))), 0, []⟩,
⟨(some 72), none, (.h (.call (.c (.fn 58 [] [])) [(.tmp 71), (.c (.int .i64 10)), (.c (.int .i64 0))])), 0, []⟩,
⟨(some 70), none, (.p (.mv (.tmp 72))), 0, []⟩,
⟨(some 73), none, (.p (.ext (.tmp 70) 0)), 0, []⟩,
⟨(some 74), none, (.p (.ext (.tmp 70) 1)), 0, []⟩,
⟨(some 9), none, (.p (.mv (.tmp 73))), 0, []⟩,
⟨(some 10), none, (.p (.mv (.tmp 74))), 0, []⟩])
(.seq
(.ops [⟨(some 75), none, (.p (.mv (.tmp 9))), 0, []⟩,
⟨(some 76), none, (.p (.mv (.tmp 10))), 0, []⟩,
⟨(some 2), none, (.p (.mv (.tmp 75))), 0, []⟩,
⟨(some 3), none, (.p (.mv (.tmp 76))), 0, []⟩])
.ret)))))⟩
theorem c46 : Mir.compF Tryz.prog Tryz.f46 = some g46 := by kernel_rfl
/-- strconv.toError -/
def g47 : Mir.Fn := ⟨43, [(.tmp 10)],
(.seq
(.ops [⟨(some 10), none, (.p (.mv (.c .nilif))), 0, []⟩])
(.seq
(.seq
(.ops [⟨(some 11), none, (.p (.mv (.tmp 4))), 0, []⟩])
(.block 0 (.seq
(.ops [⟨(some 13), none, (.p (.mkIf 87 (.c (.int .i64 2)))), 0, []⟩,
⟨(some 14), none, (.p (.eqIf [2, 3, 5, 6, 12, 21, 29, 65, 85, 87, 96, 105, 118, 146, 147, 149, 150] false (.tmp 11) (.tmp 13))), 0, []⟩,
⟨(some 12), none, (.p (.mv (.tmp 14))), 0, []⟩])
(.cond (.tmp 12)
(.seq
(.ops [⟨(some 15), none, (.p (.mv (.tmp 0))), 0, []⟩,
⟨(some 16), none, (.p (.mv (.tmp 1))), 0, []⟩,
⟨(some 17), none, (.h (.call (.c (.fn 59 [] [])) [(.tmp 15), (.tmp 16)])), 0, []⟩,
⟨(some 18), none, (.p (.mkIf 90 (.tmp 17))), 0, []⟩,
⟨(some 10), none, (.p (.mv (.tmp 18))), 0, []⟩])
.ret)
(.seq
(.ops [⟨(some 20), none, (.p (.mkIf 87 (.c (.int .i64 1)))), 0, []⟩,
⟨(some 21), none, (.p (.eqIf [2, 3, 5, 6, 12, 21, 29, 65, 85, 87, 96, 105, 118, 146, 147, 149, 150] false (.tmp 11) (.tmp 20))), 0, []⟩,
⟨(some 19), none, (.p (.mv (.tmp 21))), 0, []⟩])
(.cond (.tmp 19)
(.seq
(.ops [⟨(some 22), none, (.p (.mv (.tmp 0))), 0, []⟩,
⟨(some 23), none, (.p (.mv (.tmp 1))), 0, []⟩,
⟨(some 24), none, (.h (.call (.c (.fn 60 [] [])) [(.tmp 22), (.tmp 23)])), 0, []⟩,
⟨(some 25), none, (.p (.mkIf 90 (.tmp 24))), 0, []⟩,
⟨(some 10), none, (.p (.mv (.tmp 25))), 0, []⟩])
.ret)
(.seq
(.ops [⟨(some 27), none, (.p (.mkIf 87 (.c (.int .i64 3)))), 0, []⟩,
⟨(some 28), none, (.p (.eqIf [2, 3, 5, 6, 12, 21, 29, 65, 85, 87, 96, 105, 118, 146, 147, 149, 150] false (.tmp 11) (.tmp 27))), 0, []⟩,
⟨(some 26), none, (.p (.mv (.tmp 28))), 0, []⟩])
(.cond (.tmp 26)
(.seq
(.ops [⟨(some 29), none, (.p (.mv (.tmp 0))), 0, []⟩,
⟨(some 30), none, (.p (.mv (.tmp 1))), 0, []⟩,
⟨(some 31), none, (.p (.mv (.tmp 2))), 0, []⟩,
⟨(some 32), none, (.h (.call (.c (.fn 61 [] [])) [(.tmp 29), (.tmp 30), (.tmp 31)])), 0, []⟩,
⟨(some 33), none, (.p (.mkIf 90 (.tmp 32))), 0, []⟩,
⟨(some 10), none, (.p (.mv (.tmp 33))), 0, []⟩])
.ret)
(.seq
(.ops [⟨(some 35), none, (.p (.mkIf 87 (.c (.int .i64 4)))), 0, []⟩,
⟨(some 36), none, (.p (.eqIf [2, 3, 5, 6, 12, 21, 29, 65, 85, 87, 96, 105, 118, 146, 147, 149, 150] false (.tmp 11) (.tmp 35))), 0, []⟩,
⟨(some 34), none, (.p (.mv (.tmp 36))), 0, []⟩])
(.cond (.tmp 34)
(.seq
(.ops [⟨(some 37), none, (.p (.mv (.tmp 0))), 0, []⟩,
⟨(some 38), none, (.p (.mv (.tmp 1))), 0, []⟩,
⟨(some 39), none, (.p (.mv (.tmp 3))), 0, []⟩,
⟨(some 40), none, (.h (.call (.c (.fn 62 [] [])) [(.tmp 37), (.tmp 38), (.tmp 39)])), 0, []⟩,
⟨(some 41), none, (.p (.mkIf 90 (.tmp 40))), 0, []⟩,
⟨(some 10), none, (.p (.mv (.tmp 41))), 0, []⟩])
.ret)
.skip))))))))))
(.seq
(.ops [⟨(some 42), none, (.p (.mv (.tmp 4))), 0, []⟩,
⟨(some 10), none, (.p (.mv (.tmp 42))), 0, []⟩])
.ret)))⟩
theorem c47 : Mir.compF Tryz.prog Tryz.f47 = some g47 := by kernel_rfl
/-- internal/strconv.Itoa -/
def g48 : Mir.Fn := ⟨5, [(.tmp 2)],
(.seq
(.ops [⟨(some 2), none, (.p (.mv (.c (.str [])))), 0, []⟩])
(.seq
(.ops [⟨(some 3), none, (.p (.mv (.tmp 0))), 0, []⟩,
⟨(some 4), none, (.h (.call (.c (.fn 63 [] [])) [(.tmp 3), (.c (.int .i64 10))])), 0, []⟩,
⟨(some 2), none, (.p (.mv (.tmp 4))), 0, []⟩])
.ret))⟩
theorem c48 : Mir.compF Tryz.prog Tryz.f48 = some g48 := by kernel_rfl
/-- scribe/sum.New -/
def g49 : Mir.Fn := ⟨2, [(.cell 0 2 true)],
(.seq
(.ops [⟨(some 0), none, (.a (.alloc [(.int .u32 0), (.int .u32 0)])), 0, []⟩])
(.seq
(.ops [⟨(some 1), none, (.p (.build [(.int .u32 0), (.int .u32 0)] [(0, (1, (.c (.int .u32 1)))), (1, (1, (.c (.int .u32 0))))])), 0, []⟩,
⟨none, none, (.h (.store 2 (.tmp 0) (.tmp 1))), 0, []⟩])
.ret))⟩
theorem c49 : Mir.compF Tryz.prog Tryz.f49 = some g49 := by kernel_rfl
/-- (scribe/sum.Sum).Add -/
def g50 : Mir.Fn := ⟨48, [(.cell 4 2 true)],
(.seq
(.ops [⟨(some 2), none, (.a (.box (.tmp 0))), 0, []⟩,
⟨(some 4), none, (.a (.alloc [(.int .u32 0), (.int .u32 0)])), 0, []⟩])
(.seq
(.block 0 (.loop (.seq
(.seq
(.ops [⟨(some 8), none, (.p (.mv (.tmp 1))), 0, []⟩,
⟨(some 9), none, (.p (.lenStr (.tmp 8))), 0, []⟩,
⟨(some 10), none, (.p (.bin .gtr (.tmp 9) (.c (.int .i64 0)))), 0, []⟩])
(.cond (.tmp 10)
.skip
(.exit 0)))
(.block 1 (.seq
(.ops [⟨(some 11), none, (.p (.mv (.tmp 1))), 0, []⟩,
⟨(some 12), none, (.p (.lenStr (.tmp 11))), 0, []⟩,
⟨(some 13), none, (.p (.mnmx false (.tmp 12) [(.c (.int .i64 3000))])), 0, []⟩,
⟨(some 5), none, (.p (.mv (.tmp 13))), 0, []⟩])
(.seq
(.seq
(.ops [⟨(some 14), none, (.p (.mv (.tmp 1))), 0, []⟩,
⟨(some 15), none, (.p (.mv (.tmp 5))), 0, []⟩,
⟨(some 16), none, (.p (.subStr (.tmp 14) none (some (.tmp 15)))), 0, []⟩,
⟨(some 17), none, (.a (.toBytes (.tmp 16))), 0, []⟩,
⟨(some 18), none, (.p (.lenSl (.tmp 17))), 0, []⟩,
⟨(some 19), none, (.p (.mv (.c (.int .i64 0)))), 0, []⟩])
(.block 2 (.loop (.seq
(.ops [⟨(some 20), none, (.p (.bin .lss (.tmp 19) (.tmp 18))), 0, []⟩])
(.seq
(.cond (.tmp 20)
.skip
(.exit 2))
(.seq
(.block 3 (.seq
(.ops [⟨(some 21), none, (.p (.idxSl 1 (.tmp 17) (.tmp 19))), 0, []⟩,
⟨(some 22), none, (.r (.load 1 false (.tmp 21))), 0, []⟩,
⟨(some 7), none, (.p (.mv (.tmp 22))), 0, []⟩])
(.seq
(.ops [⟨(some 23), none, (.p (.fieldAt 0 (.tmp 2))), 0, []⟩,
⟨(some 24), none, (.r (.load 1 false (.tmp 23))), 0, []⟩,
⟨(some 25), none, (.p (.mv (.tmp 7))), 0, []⟩,
⟨(some 26), none, (.p (.convInt .u32 (.tmp 25))), 0, []⟩,
⟨(some 27), none, (.p (.bin .add (.tmp 24) (.tmp 26))), 0, []⟩,
⟨(some 28), none, (.p (.fieldAt 0 (.tmp 2))), 0, []⟩,
⟨none, none, (.h (.store 1 (.tmp 28) (.tmp 27))), 0, []⟩])
(.ops [⟨(some 29), none, (.p (.fieldAt 1 (.tmp 2))), 0, []⟩,
⟨(some 30), none, (.r (.load 1 false (.tmp 29))), 0, []⟩,
⟨(some 31), none, (.p (.fieldAt 0 (.tmp 2))), 0, []⟩,
⟨(some 32), none, (.r (.load 1 false (.tmp 31))), 0, []⟩,
⟨(some 33), none, (.p (.bin .add (.tmp 30) (.tmp 32))), 0, []⟩,
⟨(some 34), none, (.p (.fieldAt 1 (.tmp 2))), 0, []⟩,
⟨none, none, (.h (.store 1 (.tmp 34) (.tmp 33))), 0, []⟩]))))
(.ops [⟨(some 35), none, (.p (.bin .add (.tmp 19) (.c (.int .i64 1)))), 0, []⟩,
⟨(some 19), none, (.p (.mv (.tmp 35))), 0, []⟩])))))))
(.seq
(.ops [⟨(some 36), none, (.p (.fieldAt 0 (.tmp 2))), 0, []⟩,
⟨(some 37), none, (.r (.load 1 false (.tmp 36))), 0, []⟩,
⟨(some 38), none, (.p (.bin .rem (.tmp 37) (.c (.int .u32 65521)))), 0, []⟩,
⟨(some 39), none, (.p (.fieldAt 0 (.tmp 2))), 0, []⟩,
⟨none, none, (.h (.store 1 (.tmp 39) (.tmp 38))), 0, []⟩])
(.seq
(.ops [⟨(some 40), none, (.p (.fieldAt 1 (.tmp 2))), 0, []⟩,
⟨(some 41), none, (.r (.load 1 false (.tmp 40))), 0, []⟩,
⟨(some 42), none, (.p (.bin .rem (.tmp 41) (.c (.int .u32 65521)))), 0, []⟩,
⟨(some 43), none, (.p (.fieldAt 1 (.tmp 2))), 0, []⟩,
⟨none, none, (.h (.store 1 (.tmp 43) (.tmp 42))), 0, []⟩])
(.ops [⟨(some 44), none, (.p (.mv (.tmp 1))), 0, []⟩,
⟨(some 45), none, (.p (.mv (.tmp 5))), 0, []⟩,
⟨(some 46), none, (.p (.subStr (.tmp 44) (some (.tmp 45)) none)), 0, []⟩,
⟨(some 1), none, (.p (.mv (.tmp 46))), 0, []⟩])))))))))
(.seq
(.ops [⟨(some 47), none, (.r (.load 2 true (.tmp 2))), 0, []⟩,
⟨none, none, (.h (.store 2 (.tmp 4) (.tmp 47))), 0, []⟩])
.ret)))⟩
theorem c50 : Mir.compF Tryz.prog Tryz.f50 = some g50 := by kernel_rfl
/-- (scribe/sum.Sum).Value -/
def g51 : Mir.Fn := ⟨9, [(.tmp 2)],
(.seq
(.ops [⟨(some 1), none, (.a (.box (.tmp 0))), 0, []⟩,
⟨(some 2), none, (.p (.mv (.c (.int .u32 0)))), 0, []⟩])
(.seq
(.ops [⟨(some 3), none, (.p (.fieldAt 1 (.tmp 1))), 0, []⟩,
⟨(some 4), none, (.r (.load 1 false (.tmp 3))), 0, []⟩,
⟨(some 5), none, (.p (.bin .shl (.tmp 4) (.c (.int .u64 16)))), 0, []⟩,
⟨(some 6), none, (.p (.fieldAt 0 (.tmp 1))), 0, []⟩,
⟨(some 7), none, (.r (.load 1 false (.tmp 6))), 0, []⟩,
⟨(some 8), none, (.p (.bin .or (.tmp 5) (.tmp 7))), 0, []⟩,
⟨(some 2), none, (.p (.mv (.tmp 8))), 0, []⟩])
.ret))⟩
theorem c51 : Mir.compF Tryz.prog Tryz.f51 = some g51 := by kernel_rfl
/-- strings.ContainsFunc -/
def g52 : Mir.Fn := ⟨9, [(.tmp 4)],
(.seq
(.ops [⟨(some 4), none, (.p (.mv (.c (.bool false)))), 0, []⟩])
(.seq
(.ops [⟨(some 5), none, (.p (.mv (.tmp 0))), 0, []⟩,
⟨(some 6), none, (.p (.mv (.tmp 1))), 0, []⟩,
⟨(some 7), none, (.h (.call (.c (.fn 64 [] [])) [(.tmp 5), (.tmp 6)])), 0, []⟩,
⟨(some 8), none, (.p (.bin .geq (.tmp 7) (.c (.int .i64 0)))), 0, []⟩,
⟨(some 4), none, (.p (.mv (.tmp 8))), 0, []⟩])
.ret))⟩
theorem c52 : Mir.compF Tryz.prog Tryz.f52 = some g52 := by kernel_rfl
/-- scribe/disk.Name$1 -/
def g53 : Mir.Fn := ⟨29, [(.tmp 2)],
(.seq
(.ops [⟨(some 2), none, (.p (.mv (.c (.bool false)))), 0, []⟩])
(.seq
(.ops [⟨(some 3), none, (.p (.mv (.tmp 0))), 0, []⟩,
⟨(some 4), none, (.p (.bin .lss (.tmp 3) (.c (.int .i32 97)))), 0, []⟩,
⟨(some 5), none, (.p (.mv (.tmp 4))), 0, []⟩,
⟨(some 6), (some (5, false)), (.p (.mv (.tmp 0))), 0, []⟩,
⟨(some 7), (some (5, false)), (.p (.bin .gtr (.tmp 6) (.c (.int .i32 122)))), 0, []⟩,
⟨(some 8), none, (.p (.pick (.tmp 5) (.c (.bool true)) (.tmp 7))), 0, []⟩,
⟨(some 9), none, (.p (.mv (.tmp 8))), 0, []⟩,
⟨(some 10), (some (9, true)), (.p (.mv (.tmp 0))), 0, []⟩,
⟨(some 11), (some (9, true)), (.p (.bin .lss (.tmp 10) (.c (.int .i32 48)))), 0, []⟩,
⟨(some 12), (some (9, true)), (.p (.mv (.tmp 11))), 0, []⟩,
⟨(some 13), (some (12, false)), (.p (.mv (.tmp 0))), 0, []⟩,
⟨(some 14), (some (12, false)), (.p (.bin .gtr (.tmp 13) (.c (.int .i32 57)))), 0, []⟩,
⟨(some 15), (some (9, true)), (.p (.pick (.tmp 12) (.c (.bool true)) (.tmp 14))), 0, []⟩,
⟨(some 16), none, (.p (.pick (.tmp 9) (.tmp 15) (.c (.bool false)))), 0, []⟩,
⟨(some 17), none, (.p (.mv (.tmp 16))), 0, []⟩,
⟨(some 18), (some (17, true)), (.p (.mv (.tmp 0))), 0, []⟩,
⟨(some 19), (some (17, true)), (.p (.bin .neq (.tmp 18) (.c (.int .i32 46)))), 0, []⟩,
⟨(some 20), none, (.p (.pick (.tmp 17) (.tmp 19) (.c (.bool false)))), 0, []⟩,
⟨(some 21), none, (.p (.mv (.tmp 20))), 0, []⟩,
⟨(some 22), (some (21, true)), (.p (.mv (.tmp 0))), 0, []⟩,
⟨(some 23), (some (21, true)), (.p (.bin .neq (.tmp 22) (.c (.int .i32 95)))), 0, []⟩,
⟨(some 24), none, (.p (.pick (.tmp 21) (.tmp 23) (.c (.bool false)))), 0, []⟩,
⟨(some 25), none, (.p (.mv (.tmp 24))), 0, []⟩,
⟨(some 26), (some (25, true)), (.p (.mv (.tmp 0))), 0, []⟩,
⟨(some 27), (some (25, true)), (.p (.bin .neq (.tmp 26) (.c (.int .i32 45)))), 0, []⟩,
⟨(some 28), none, (.p (.pick (.tmp 25) (.tmp 27) (.c (.bool false)))), 0, []⟩,
⟨(some 2), none, (.p (.mv (.tmp 28))), 0, []⟩])
.ret))⟩
theorem c53 : Mir.compF Tryz.prog Tryz.f53 = some g53 := by kernel_rfl
/-- slices.AppendSeq[[]string,string] -/
def g54 : Mir.Fn := ⟨13, [(.tmp 4)],
(.seq
(.ops [⟨(some 2), none, (.a (.box (.tmp 0))), 0, []⟩,
⟨(some 4), none, (.p (.mv (.c .nilsl))), 0, []⟩])
(.seq
(.seq
(.ops [⟨(some 6), none, (.p (.mv (.tmp 1))), 0, []⟩])
(.block 0 (.rangeFn (.tmp 6) [7] (.ops [⟨(some 5), none, (.p (.mv (.tmp 7))), 0, []⟩]) (.block 1 (.ops [⟨(some 8), none, (.r (.load 1 false (.tmp 2))), 0, []⟩,
⟨(some 9), none, (.p (.mv (.tmp 5))), 0, []⟩,
⟨(some 10), none, (.a (.mkSl [(.str [])] 1 1 [(0, (1, (.tmp 9)))])), 0, []⟩,
⟨(some 11), none, (.h (.app 1 16 (.tmp 8) (.tmp 10))), 0, []⟩,
⟨none, none, (.h (.store 1 (.tmp 2) (.tmp 11))), 0, []⟩])))))
(.seq
(.ops [⟨(some 12), none, (.r (.load 1 false (.tmp 2))), 0, []⟩,
⟨(some 4), none, (.p (.mv (.tmp 12))), 0, []⟩])
.ret)))⟩
theorem c54 : Mir.compF Tryz.prog Tryz.f54 = some g54 := by kernel_rfl
/-- slices.pdqsortOrdered[string] -/
def g55 : Mir.Fn := ⟨134, [],
(.seq
(.ops [⟨(some 8), none, (.p (.mv (.c (.bool true)))), 0, []⟩])
(.seq
(.ops [⟨(some 9), none, (.p (.mv (.c (.bool true)))), 0, []⟩])
(.block 0 (.loop (.block 1 (.seq
(.ops [⟨(some 19), none, (.p (.mv (.tmp 2))), 0, []⟩,
⟨(some 20), none, (.p (.mv (.tmp 1))), 0, []⟩,
⟨(some 21), none, (.p (.bin .sub (.tmp 19) (.tmp 20))), 0, []⟩,
⟨(some 10), none, (.p (.mv (.tmp 21))), 0, []⟩])
(.seq
(.seq
(.ops [⟨(some 22), none, (.p (.mv (.tmp 10))), 0, []⟩,
⟨(some 23), none, (.p (.bin .leq (.tmp 22) (.c (.int .i64 12)))), 0, []⟩])
(.cond (.tmp 23)
(.seq
(.ops [⟨(some 24), none, (.p (.mv (.tmp 0))), 0, []⟩,
⟨(some 25), none, (.p (.mv (.tmp 1))), 0, []⟩,
⟨(some 26), none, (.p (.mv (.tmp 2))), 0, []⟩,
⟨(some 27), none, (.h (.call (.c (.fn 65 [] [])) [(.tmp 24), (.tmp 25), (.tmp 26)])), 0, []⟩])
.ret)
.skip))
(.seq
(.seq
(.ops [⟨(some 28), none, (.p (.mv (.tmp 3))), 0, []⟩,
⟨(some 29), none, (.p (.bin .eql (.tmp 28) (.c (.int .i64 0)))), 0, []⟩])
(.cond (.tmp 29)
(.seq
(.ops [⟨(some 30), none, (.p (.mv (.tmp 0))), 0, []⟩,
⟨(some 31), none, (.p (.mv (.tmp 1))), 0, []⟩,
⟨(some 32), none, (.p (.mv (.tmp 2))), 0, []⟩,
⟨(some 33), none, (.h (.call (.c (.fn 66 [] [])) [(.tmp 30), (.tmp 31), (.tmp 32)])), 0, []⟩])
.ret)
.skip))
(.seq
(.seq
(.ops [⟨(some 34), none, (.p (.mv (.tmp 8))), 0, []⟩,
⟨(some 35), none, (.p (.un .not (.tmp 34))), 0, []⟩])
(.cond (.tmp 35)
(.seq
(.ops [⟨(some 36), none, (.p (.mv (.tmp 0))), 0, []⟩,
⟨(some 37), none, (.p (.mv (.tmp 1))), 0, []⟩,
⟨(some 38), none, (.p (.mv (.tmp 2))), 0, []⟩,
⟨(some 39), none, (.h (.call (.c (.fn 67 [] [])) [(.tmp 36), (.tmp 37), (.tmp 38)])), 0, []⟩])
(.ops [⟨(some 40), none, (.p (.mv (.tmp 3))), 0, []⟩,
⟨(some 41), none, (.p (.bin .sub (.tmp 40) (.c (.int .i64 1)))), 0, []⟩,
⟨(some 3), none, (.p (.mv (.tmp 41))), 0, []⟩]))
.skip))
(.seq
(.ops [⟨(some 43), none, (.p (.mv (.tmp 0))), 0, []⟩,
⟨(some 44), none, (.p (.mv (.tmp 1))), 0, []⟩,
⟨(some 45), none, (.p (.mv (.tmp 2))), 0, []⟩,
⟨(some 46), none, (.h (.call (.c (.fn 68 [] [])) [(.tmp 43), (.tmp 44), (.tmp 45)])), 0, []⟩,
⟨(some 42), none, (.p (.mv (.tmp 46))), 0, []⟩,
⟨(some 47), none, (.p (.ext (.tmp 42) 0)), 0, []⟩,
⟨(some 48), none, (.p (.ext (.tmp 42) 1)), 0, []⟩,
⟨(some 11), none, (.p (.mv (.tmp 47))), 0, []⟩,
⟨(some 12), none, (.p (.mv (.tmp 48))), 0, []⟩])
(.seq
(.seq
(.ops [⟨(some 49), none, (.p (.mv (.tmp 12))), 0, []⟩,
⟨(some 50), none, (.p (.bin .eql (.tmp 49) (.c (.int .i64 2)))), 0, []⟩])
(.cond (.tmp 50)
(.seq
(.ops [⟨(some 51), none, (.p (.mv (.tmp 0))), 0, []⟩,
⟨(some 52), none, (.p (.mv (.tmp 1))), 0, []⟩,
⟨(some 53), none, (.p (.mv (.tmp 2))), 0, []⟩,
⟨(some 54), none, (.h (.call (.c (.fn 69 [] [])) [(.tmp 51), (.tmp 52), (.tmp 53)])), 0, []⟩])
(.seq
(.ops [⟨(some 55), none, (.p (.mv (.tmp 2))), 0, []⟩,
⟨(some 56), none, (.p (.bin .sub (.tmp 55) (.c (.int .i64 1)))), 0, []⟩,
⟨(some 57), none, (.p (.mv (.tmp 11))), 0, []⟩,
⟨(some 58), none, (.p (.mv (.tmp 1))), 0, []⟩,
⟨(some 59), none, (.p (.bin .sub (.tmp 57) (.tmp 58))), 0, []⟩,
⟨(some 60), none, (.p (.bin .sub (.tmp 56) (.tmp 59))), 0, []⟩,
⟨(some 11), none, (.p (.mv (.tmp 60))), 0, []⟩])
(.ops [⟨(some 12), none, (.p (.mv (.c (.int .i64 1)))), 0, []⟩])))
.skip))
(.seq
(.seq
(.ops [⟨(some 61), none, (.p (.mv (.tmp 8))), 0, []⟩,
⟨(some 62), none, (.p (.mv (.tmp 61))), 0, []⟩,
⟨(some 63), (some (62, true)), (.p (.mv (.tmp 9))), 0, []⟩,
⟨(some 64), none, (.p (.pick (.tmp 62) (.tmp 63) (.c (.bool false)))), 0, []⟩,
⟨(some 65), none, (.p (.mv (.tmp 64))), 0, []⟩,
⟨(some 66), (some (65, true)), (.p (.mv (.tmp 12))), 0, []⟩,
⟨(some 67), (some (65, true)), (.p (.bin .eql (.tmp 66) (.c (.int .i64 1)))), 0, []⟩,
⟨(some 68), none, (.p (.pick (.tmp 65) (.tmp 67) (.c (.bool false)))), 0, []⟩])
(.cond (.tmp 68)
(.seq
(.ops [⟨(some 69), none, (.p (.mv (.tmp 0))), 0, []⟩,
⟨(some 70), none, (.p (.mv (.tmp 1))), 0, []⟩,
⟨(some 71), none, (.p (.mv (.tmp 2))), 0, []⟩,
⟨(some 72), none, (.h (.call (.c (.fn 70 [] [])) [(.tmp 69), (.tmp 70), (.tmp 71)])), 0, []⟩])
(.cond (.tmp 72)
.ret
.skip))
.skip))
(.seq
(.seq
(.draw [⟨(some 73), none, (.p (.mv (.tmp 1))), 0, []⟩,
⟨(some 74), none, (.p (.bin .gtr (.tmp 73) (.c (.int .i64 0)))), 1, []⟩,
⟨(some 75), none, (.p (.mv (.tmp 74))), 2, []⟩,
⟨(some 76), (some (75, true)), (.p (.mv (.tmp 0))), 3, []⟩,
⟨(some 77), (some (75, true)), (.p (.mv (.tmp 1))), 4, []⟩,
⟨(some 78), (some (75, true)), (.p (.bin .sub (.tmp 77) (.c (.int .i64 1)))), 5, []⟩,
⟨(some 79), (some (75, true)), (.p (.idxSl 1 (.tmp 76) (.tmp 78))), 6, []⟩,
⟨(some 80), (some (75, true)), (.r (.load 1 false (.tmp 79))), 7, []⟩,
⟨(some 81), (some (75, true)), (.p (.mv (.tmp 0))), 8, []⟩,
⟨(some 82), (some (75, true)), (.p (.mv (.tmp 11))), 9, []⟩,
⟨(some 83), (some (75, true)), (.p (.idxSl 1 (.tmp 81) (.tmp 82))), 10, []⟩,
⟨(some 84), (some (75, true)), (.r (.load 1 false (.tmp 83))), 11, []⟩,
⟨(some 85), (some (75, true)), (.h (.call (.c (.fn 71 [] [])) [(.tmp 80), (.tmp 84)])), 12, []⟩,
⟨(some 86), (some (75, true)), (.p (.un .not (.tmp 85))), 13, []⟩,
⟨(some 87), none, (.p (.pick (.tmp 75) (.tmp 86) (.c (.bool false)))), 14, []⟩])
(.cond (.tmp 87)
(.seq
(.ops [⟨(some 88), none, (.p (.mv (.tmp 0))), 0, []⟩,
⟨(some 89), none, (.p (.mv (.tmp 1))), 0, []⟩,
⟨(some 90), none, (.p (.mv (.tmp 2))), 0, []⟩,
⟨(some 91), none, (.p (.mv (.tmp 11))), 0, []⟩,
⟨(some 92), none, (.h (.call (.c (.fn 72 [] [])) [(.tmp 88), (.tmp 89), (.tmp 90), (.tmp 91)])), 0, []⟩,
⟨(some 13), none, (.p (.mv (.tmp 92))), 0, []⟩])
(.seq
(.ops [⟨(some 93), none, (.p (.mv (.tmp 13))), 0, []⟩,
⟨(some 1), none, (.p (.mv (.tmp 93))), 0, []⟩])
(.exit 1)))
.skip))
(.seq
(.ops [⟨(some 95), none, (.p (.mv (.tmp 0))), 0, []⟩,
⟨(some 96), none, (.p (.mv (.tmp 1))), 0, []⟩,
⟨(some 97), none, (.p (.mv (.tmp 2))), 0, []⟩,
⟨(some 98), none, (.p (.mv (.tmp 11))), 0, []⟩,
⟨(some 99), none, (.h (.call (.c (.fn 73 [] [])) [(.tmp 95), (.tmp 96), (.tmp 97), (.tmp 98)])), 0, []⟩,
⟨(some 94), none, (.p (.mv (.tmp 99))), 0, []⟩,
⟨(some 100), none, (.p (.ext (.tmp 94) 0)), 0, []⟩,
⟨(some 101), none, (.p (.ext (.tmp 94) 1)), 0, []⟩,
⟨(some 14), none, (.p (.mv (.tmp 100))), 0, []⟩,
⟨(some 15), none, (.p (.mv (.tmp 101))), 0, []⟩])
(.seq
(.ops [⟨(some 102), none, (.p (.mv (.tmp 15))), 0, []⟩,
⟨(some 9), none, (.p (.mv (.tmp 102))), 0, []⟩])
(.seq
(.ops [⟨(some 103), none, (.p (.mv (.tmp 14))), 0, []⟩,
⟨(some 104), none, (.p (.mv (.tmp 1))), 0, []⟩,
⟨(some 105), none, (.p (.bin .sub (.tmp 103) (.tmp 104))), 0, []⟩,
⟨(some 106), none, (.p (.mv (.tmp 2))), 0, []⟩,
⟨(some 107), none, (.p (.mv (.tmp 14))), 0, []⟩,
⟨(some 108), none, (.p (.bin .sub (.tmp 106) (.tmp 107))), 0, []⟩,
⟨(some 16), none, (.p (.mv (.tmp 105))), 0, []⟩,
⟨(some 17), none, (.p (.mv (.tmp 108))), 0, []⟩])
(.seq
(.ops [⟨(some 109), none, (.p (.mv (.tmp 10))), 0, []⟩,
⟨(some 110), none, (.p (.bin .quo (.tmp 109) (.c (.int .i64 8)))), 0, []⟩,
⟨(some 18), none, (.p (.mv (.tmp 110))), 0, []⟩])
(.seq
(.ops [⟨(some 111), none, (.p (.mv (.tmp 16))), 0, []⟩,
⟨(some 112), none, (.p (.mv (.tmp 17))), 0, []⟩,
⟨(some 113), none, (.p (.bin .lss (.tmp 111) (.tmp 112))), 0, []⟩])
(.cond (.tmp 113)
(.seq
(.ops [⟨(some 114), none, (.p (.mv (.tmp 16))), 0, []⟩,
⟨(some 115), none, (.p (.mv (.tmp 18))), 0, []⟩,
⟨(some 116), none, (.p (.bin .geq (.tmp 114) (.tmp 115))), 0, []⟩,
⟨(some 8), none, (.p (.mv (.tmp 116))), 0, []⟩])
(.seq
(.ops [⟨(some 117), none, (.p (.mv (.tmp 0))), 0, []⟩,
⟨(some 118), none, (.p (.mv (.tmp 1))), 0, []⟩,
⟨(some 119), none, (.p (.mv (.tmp 14))), 0, []⟩,
⟨(some 120), none, (.p (.mv (.tmp 3))), 0, []⟩,
⟨(some 121), none, (.h (.call (.c (.fn 55 [] [])) [(.tmp 117), (.tmp 118), (.tmp 119), (.tmp 120)])), 0, []⟩])
(.ops [⟨(some 122), none, (.p (.mv (.tmp 14))), 0, []⟩,
⟨(some 123), none, (.p (.bin .add (.tmp 122) (.c (.int .i64 1)))), 0, []⟩,
⟨(some 1), none, (.p (.mv (.tmp 123))), 0, []⟩])))
(.seq
(.ops [⟨(some 124), none, (.p (.mv (.tmp 17))), 0, []⟩,
⟨(some 125), none, (.p (.mv (.tmp 18))), 0, []⟩,
⟨(some 126), none, (.p (.bin .geq (.tmp 124) (.tmp 125))), 0, []⟩,
⟨(some 8), none, (.p (.mv (.tmp 126))), 0, []⟩])
(.seq
(.ops [⟨(some 127), none, (.p (.mv (.tmp 0))), 0, []⟩,
⟨(some 128), none, (.p (.mv (.tmp 14))), 0, []⟩,
⟨(some 129), none, (.p (.bin .add (.tmp 128) (.c (.int .i64 1)))), 0, []⟩,
⟨(some 130), none, (.p (.mv (.tmp 2))), 0, []⟩,
⟨(some 131), none, (.p (.mv (.tmp 3))), 0, []⟩,
⟨(some 132), none, (.h (.call (.c (.fn 55 [] [])) [(.tmp 127), (.tmp 129), (.tmp 130), (.tmp 131)])), 0, []⟩])
(.ops [⟨(some 133), none, (.p (.mv (.tmp 14))), 0, []⟩,
⟨(some 2), none, (.p (.mv (.tmp 133))), 0, []⟩]))))))))))))))))))))))⟩
theorem c55 : Mir.compF Tryz.prog Tryz.f55 = some g55 := by kernel_rfl
/-- math/bits.Len -/
def g56 : Mir.Fn := ⟨8, [(.tmp 2)],
(.seq
(.ops [⟨(some 2), none, (.p (.mv (.c (.int .i64 0)))), 0, []⟩])
(.seq
(.cond (.c (.bool false))
(.seq
(.ops [⟨(some 3), none, (.p (.mv (.tmp 0))), 0, []⟩,
⟨(some 4), none, (.p (.convInt .u32 (.tmp 3))), 0, []⟩,
⟨(some 5), none, (.h (.call (.c (.fn 74 [] [])) [(.tmp 4)])), 0, []⟩,
⟨(some 2), none, (.p (.mv (.tmp 5))), 0, []⟩])
.ret)
.skip)
(.seq
(.ops [⟨(some 6), none, (.p (.mv (.tmp 0))), 0, []⟩,
⟨(some 7), none, (.h (.call (.c (.fn 75 [] [])) [(.tmp 6)])), 0, []⟩,
⟨(some 2), none, (.p (.mv (.tmp 7))), 0, []⟩])
.ret)))⟩
theorem c56 : Mir.compF Tryz.prog Tryz.f56 = some g56 := by kernel_rfl
/-- internal/stringslite.Index -/
def g57 : Mir.Fn := ⟨143, [(.tmp 4)],
(.seq
(.ops [⟨(some 4), none, (.p (.mv (.c (.int .i64 0)))), 0, []⟩])
(.seq
(.ops [⟨(some 14), none, (.p (.mv (.tmp 1))), 0, []⟩,
⟨(some 15), none, (.p (.lenStr (.tmp 14))), 0, []⟩,
⟨(some 5), none, (.p (.mv (.tmp 15))), 0, []⟩])
(.seq
(.block 0 (.seq
(.ops [⟨(some 17), none, (.p (.mv (.tmp 5))), 0, []⟩,
⟨(some 18), none, (.p (.bin .eql (.tmp 17) (.c (.int .i64 0)))), 0, []⟩,
⟨(some 19), none, (.p (.mv (.tmp 18))), 0, []⟩,
⟨(some 20), (some (19, false)), (.p (.mv (.tmp 1))), 0, []⟩,
⟨(some 21), (some (19, false)), (.p (.mv (.tmp 0))), 0, []⟩,
⟨(some 22), (some (19, false)), (.p (.bin .eql (.tmp 20) (.tmp 21))), 0, []⟩,
⟨(some 23), none, (.p (.pick (.tmp 19) (.c (.bool true)) (.tmp 22))), 0, []⟩,
⟨(some 16), none, (.p (.mv (.tmp 23))), 0, []⟩])
(.cond (.tmp 16)
(.seq
(.ops [⟨(some 4), none, (.p (.mv (.c (.int .i64 0)))), 0, []⟩])
.ret)
(.seq
(.ops [⟨(some 25), none, (.p (.mv (.tmp 5))), 0, []⟩,
⟨(some 26), none, (.p (.bin .eql (.tmp 25) (.c (.int .i64 1)))), 0, []⟩,
⟨(some 24), none, (.p (.mv (.tmp 26))), 0, []⟩])
(.cond (.tmp 24)
(.seq
(.ops [⟨(some 27), none, (.p (.mv (.tmp 0))), 0, []⟩,
⟨(some 28), none, (.p (.mv (.tmp 1))), 0, []⟩,
⟨(some 29), none, (.p (.idxStr (.tmp 28) (.c (.int .i64 0)))), 0, []⟩,
⟨(some 30), none, (.h (.call (.c (.fn 76 [] [])) [(.tmp 27), (.tmp 29)])), 0, []⟩,
⟨(some 4), none, (.p (.mv (.tmp 30))), 0, []⟩])
.ret)
(.seq
(.ops [⟨(some 32), none, (.p (.mv (.tmp 5))), 0, []⟩,
⟨(some 33), none, (.p (.mv (.tmp 0))), 0, []⟩,
⟨(some 34), none, (.p (.lenStr (.tmp 33))), 0, []⟩,
⟨(some 35), none, (.p (.bin .geq (.tmp 32) (.tmp 34))), 0, []⟩,
⟨(some 31), none, (.p (.mv (.tmp 35))), 0, []⟩])
(.cond (.tmp 31)
(.seq
(.ops [⟨(some 4), none, (.p (.mv (.c (.int .i64 (-1))))), 0, []⟩])
.ret)
(.seq
(.ops [⟨(some 37), none, (.p (.mv (.tmp 5))), 0, []⟩,
⟨(some 38), none, (.r (.load 1 false (.glob 0))), 0, []⟩,
⟨(some 39), none, (.p (.bin .leq (.tmp 37) (.tmp 38))), 0, []⟩,
⟨(some 40), none, (.p (.mv (.tmp 39))), 0, []⟩,
⟨(some 41), (some (40, true)), (.p (.mv (.tmp 0))), 0, []⟩,
⟨(some 42), (some (40, true)), (.p (.lenStr (.tmp 41))), 0, []⟩,
⟨(some 43), (some (40, true)), (.p (.bin .leq (.tmp 42) (.c (.int .i64 64)))), 0, []⟩,
⟨(some 44), none, (.p (.pick (.tmp 40) (.tmp 43) (.c (.bool false)))), 0, []⟩,
⟨(some 36), none, (.p (.mv (.tmp 44))), 0, []⟩])
(.cond (.tmp 36)
(.seq
(.ops [⟨(some 45), none, (.p (.mv (.tmp 0))), 0, []⟩,
⟨(some 46), none, (.p (.mv (.tmp 1))), 0, []⟩,
⟨(some 47), none, (.h (.call (.c (.fn 77 [] [])) [(.tmp 45), (.tmp 46)])), 0, []⟩,
⟨(some 4), none, (.p (.mv (.tmp 47))), 0, []⟩])
.ret)
.skip)))))))))
(.seq
(.ops [⟨(some 48), none, (.p (.mv (.tmp 1))), 0, []⟩,
⟨(some 49), none, (.p (.idxStr (.tmp 48) (.c (.int .i64 0)))), 0, []⟩,
⟨(some 6), none, (.p (.mv (.tmp 49))), 0, []⟩])
(.seq
(.ops [⟨(some 50), none, (.p (.mv (.tmp 1))), 0, []⟩,
⟨(some 51), none, (.p (.idxStr (.tmp 50) (.c (.int .i64 1)))), 0, []⟩,
⟨(some 7), none, (.p (.mv (.tmp 51))), 0, []⟩])
(.seq
(.ops [⟨(some 8), none, (.p (.mv (.c (.int .i64 0)))), 0, []⟩])
(.seq
(.ops [⟨(some 52), none, (.p (.mv (.tmp 0))), 0, []⟩,
⟨(some 53), none, (.p (.lenStr (.tmp 52))), 0, []⟩,
⟨(some 54), none, (.p (.mv (.tmp 5))), 0, []⟩,
⟨(some 55), none, (.p (.bin .sub (.tmp 53) (.tmp 54))), 0, []⟩,
⟨(some 56), none, (.p (.bin .add (.tmp 55) (.c (.int .i64 1)))), 0, []⟩,
⟨(some 9), none, (.p (.mv (.tmp 56))), 0, []⟩])
(.seq
(.ops [⟨(some 10), none, (.p (.mv (.c (.int .i64 0)))), 0, []⟩])
(.seq
(.block 1 (.loop (.seq
(.seq
(.ops [⟨(some 57), none, (.p (.mv (.tmp 8))), 0, []⟩,
⟨(some 58), none, (.p (.mv (.tmp 9))), 0, []⟩,
⟨(some 59), none, (.p (.bin .lss (.tmp 57) (.tmp 58))), 0, []⟩])
(.cond (.tmp 59)
.skip
(.exit 1)))
(.block 2 (.seq
(.seq
(.ops [⟨(some 60), none, (.p (.mv (.tmp 0))), 0, []⟩,
⟨(some 61), none, (.p (.mv (.tmp 8))), 0, []⟩,
⟨(some 62), none, (.p (.idxStr (.tmp 60) (.tmp 61))), 0, []⟩,
⟨(some 63), none, (.p (.mv (.tmp 6))), 0, []⟩,
⟨(some 64), none, (.p (.bin .neq (.tmp 62) (.tmp 63))), 0, []⟩])
(.cond (.tmp 64)
(.seq
(.ops [⟨(some 65), none, (.p (.mv (.tmp 0))), 0, []⟩,
⟨(some 66), none, (.p (.mv (.tmp 8))), 0, []⟩,
⟨(some 67), none, (.p (.bin .add (.tmp 66) (.c (.int .i64 1)))), 0, []⟩,
⟨(some 68), none, (.p (.mv (.tmp 9))), 0, []⟩,
⟨(some 69), none, (.p (.subStr (.tmp 65) (some (.tmp 67)) (some (.tmp 68)))), 0, []⟩,
⟨(some 70), none, (.p (.mv (.tmp 6))), 0, []⟩,
⟨(some 71), none, (.h (.call (.c (.fn 76 [] [])) [(.tmp 69), (.tmp 70)])), 0, []⟩,
⟨(some 11), none, (.p (.mv (.tmp 71))), 0, []⟩])
(.seq
(.seq
(.ops [⟨(some 72), none, (.p (.mv (.tmp 11))), 0, []⟩,
⟨(some 73), none, (.p (.bin .lss (.tmp 72) (.c (.int .i64 0)))), 0, []⟩])
(.cond (.tmp 73)
(.seq
(.ops [⟨(some 4), none, (.p (.mv (.c (.int .i64 (-1))))), 0, []⟩])
.ret)
.skip))
(.ops [⟨(some 74), none, (.p (.mv (.tmp 8))), 0, []⟩,
⟨(some 75), none, (.p (.mv (.tmp 11))), 0, []⟩,
⟨(some 76), none, (.p (.bin .add (.tmp 75) (.c (.int .i64 1)))), 0, []⟩,
⟨(some 77), none, (.p (.bin .add (.tmp 74) (.tmp 76))), 0, []⟩,
⟨(some 8), none, (.p (.mv (.tmp 77))), 0, []⟩])))
.skip))
(.seq
(.seq
(.ops [⟨(some 78), none, (.p (.mv (.tmp 0))), 0, []⟩,
⟨(some 79), none, (.p (.mv (.tmp 8))), 0, []⟩,
⟨(some 80), none, (.p (.bin .add (.tmp 79) (.c (.int .i64 1)))), 0, []⟩,
⟨(some 81), none, (.p (.idxStr (.tmp 78) (.tmp 80))), 0, []⟩,
⟨(some 82), none, (.p (.mv (.tmp 7))), 0, []⟩,
⟨(some 83), none, (.p (.bin .eql (.tmp 81) (.tmp 82))), 0, []⟩,
⟨(some 84), none, (.p (.mv (.tmp 83))), 0, []⟩,
⟨(some 85), (some (84, true)), (.p (.mv (.tmp 0))), 0, []⟩,
⟨(some 86), (some (84, true)), (.p (.mv (.tmp 8))), 0, []⟩,
⟨(some 87), (some (84, true)), (.p (.mv (.tmp 8))), 0, []⟩,
⟨(some 88), (some (84, true)), (.p (.mv (.tmp 5))), 0, []⟩,
⟨(some 89), (some (84, true)), (.p (.bin .add (.tmp 87) (.tmp 88))), 0, []⟩,
⟨(some 90), (some (84, true)), (.p (.subStr (.tmp 85) (some (.tmp 86)) (some (.tmp 89)))), 0, []⟩,
⟨(some 91), (some (84, true)), (.p (.mv (.tmp 1))), 0, []⟩,
⟨(some 92), (some (84, true)), (.p (.bin .eql (.tmp 90) (.tmp 91))), 0, []⟩,
⟨(some 93), none, (.p (.pick (.tmp 84) (.tmp 92) (.c (.bool false)))), 0, []⟩])
(.cond (.tmp 93)
(.seq
(.ops [⟨(some 94), none, (.p (.mv (.tmp 8))), 0, []⟩,
⟨(some 4), none, (.p (.mv (.tmp 94))), 0, []⟩])
.ret)
.skip))
(.seq
(.ops [⟨(some 95), none, (.p (.mv (.tmp 8))), 0, []⟩,
⟨(some 96), none, (.p (.bin .add (.tmp 95) (.c (.int .i64 1)))), 0, []⟩,
⟨(some 8), none, (.p (.mv (.tmp 96))), 0, []⟩])
(.seq
(.ops [⟨(some 97), none, (.p (.mv (.tmp 10))), 0, []⟩,
⟨(some 98), none, (.p (.bin .add (.tmp 97) (.c (.int .i64 1)))), 0, []⟩,
⟨(some 10), none, (.p (.mv (.tmp 98))), 0, []⟩])
(.seq
(.ops [⟨(some 99), none, (.p (.mv (.tmp 5))), 0, []⟩,
⟨(some 100), none, (.r (.load 1 false (.glob 0))), 0, []⟩,
⟨(some 101), none, (.p (.bin .leq (.tmp 99) (.tmp 100))), 0, []⟩,
⟨(some 102), none, (.p (.mv (.tmp 101))), 0, []⟩,
⟨(some 103), (some (102, true)), (.p (.mv (.tmp 10))), 0, []⟩,
⟨(some 104), (some (102, true)), (.p (.mv (.tmp 8))), 0, []⟩,
⟨(some 105), (some (102, true)), (.h (.call (.c (.fn 78 [] [])) [(.tmp 104)])), 0, []⟩,
⟨(some 106), (some (102, true)), (.p (.bin .gtr (.tmp 103) (.tmp 105))), 0, []⟩,
⟨(some 107), none, (.p (.pick (.tmp 102) (.tmp 106) (.c (.bool false)))), 0, []⟩])
(.cond (.tmp 107)
(.seq
(.ops [⟨(some 108), none, (.p (.mv (.tmp 0))), 0, []⟩,
⟨(some 109), none, (.p (.mv (.tmp 8))), 0, []⟩,
⟨(some 110), none, (.p (.subStr (.tmp 108) (some (.tmp 109)) none)), 0, []⟩,
⟨(some 111), none, (.p (.mv (.tmp 1))), 0, []⟩,
⟨(some 112), none, (.h (.call (.c (.fn 77 [] [])) [(.tmp 110), (.tmp 111)])), 0, []⟩,
⟨(some 12), none, (.p (.mv (.tmp 112))), 0, []⟩])
(.seq
(.seq
(.ops [⟨(some 113), none, (.p (.mv (.tmp 12))), 0, []⟩,
⟨(some 114), none, (.p (.bin .geq (.tmp 113) (.c (.int .i64 0)))), 0, []⟩])
(.cond (.tmp 114)
(.seq
(.ops [⟨(some 115), none, (.p (.mv (.tmp 12))), 0, []⟩,
⟨(some 116), none, (.p (.mv (.tmp 8))), 0, []⟩,
⟨(some 117), none, (.p (.bin .add (.tmp 115) (.tmp 116))), 0, []⟩,
⟨(some 4), none, (.p (.mv (.tmp 117))), 0, []⟩])
.ret)
.skip))
(.seq
(.ops [⟨(some 4), none, (.p (.mv (.c (.int .i64 (-1))))), 0, []⟩])
.ret)))
(.seq
(.ops [⟨(some 118), none, (.p (.mv (.tmp 5))), 0, []⟩,
⟨(some 119), none, (.r (.load 1 false (.glob 0))), 0, []⟩,
⟨(some 120), none, (.p (.bin .gtr (.tmp 118) (.tmp 119))), 0, []⟩,
⟨(some 121), none, (.p (.mv (.tmp 120))), 0, []⟩,
⟨(some 122), (some (121, true)), (.p (.mv (.tmp 10))), 0, []⟩,
⟨(some 123), (some (121, true)), (.p (.mv (.tmp 8))), 0, []⟩,
⟨(some 124), (some (121, true)), (.p (.bin .shr (.tmp 123) (.c (.int .u64 4)))), 0, []⟩,
⟨(some 125), (some (121, true)), (.p (.bin .add (.c (.int .i64 4)) (.tmp 124))), 0, []⟩,
⟨(some 126), (some (121, true)), (.p (.bin .geq (.tmp 122) (.tmp 125))), 0, []⟩,
⟨(some 127), none, (.p (.pick (.tmp 121) (.tmp 126) (.c (.bool false)))), 0, []⟩,
⟨(some 128), none, (.p (.mv (.tmp 127))), 0, []⟩,
⟨(some 129), (some (128, true)), (.p (.mv (.tmp 8))), 0, []⟩,
⟨(some 130), (some (128, true)), (.p (.mv (.tmp 9))), 0, []⟩,
⟨(some 131), (some (128, true)), (.p (.bin .lss (.tmp 129) (.tmp 130))), 0, []⟩,
⟨(some 132), none, (.p (.pick (.tmp 128) (.tmp 131) (.c (.bool false)))), 0, []⟩])
(.cond (.tmp 132)
(.seq
(.ops [⟨(some 133), none, (.p (.mv (.tmp 0))), 0, []⟩,
⟨(some 134), none, (.p (.mv (.tmp 8))), 0, []⟩,
⟨(some 135), none, (.p (.subStr (.tmp 133) (some (.tmp 134)) none)), 0, []⟩,
⟨(some 136), none, (.p (.mv (.tmp 1))), 0, []⟩,
⟨(some 137), none, (.h (.call (.c (.fn 79 [] [])) [(.tmp 135), (.tmp 136)])), 0, []⟩,
⟨(some 13), none, (.p (.mv (.tmp 137))), 0, []⟩])
(.seq
(.seq
(.ops [⟨(some 138), none, (.p (.mv (.tmp 13))), 0, []⟩,
⟨(some 139), none, (.p (.bin .lss (.tmp 138) (.c (.int .i64 0)))), 0, []⟩])
(.cond (.tmp 139)
(.seq
(.ops [⟨(some 4), none, (.p (.mv (.c (.int .i64 (-1))))), 0, []⟩])
.ret)
.skip))
(.seq
(.ops [⟨(some 140), none, (.p (.mv (.tmp 8))), 0, []⟩,
⟨(some 141), none, (.p (.mv (.tmp 13))), 0, []⟩,
⟨(some 142), none, (.p (.bin .add (.tmp 140) (.tmp 141))), 0, []⟩,
⟨(some 4), none, (.p (.mv (.tmp 142))), 0, []⟩])
.ret)))
.skip))))))))))))
(.seq
(.ops [⟨(some 4), none, (.p (.mv (.c (.int .i64 (-1))))), 0, []⟩])
.ret))))))))))⟩
theorem c57 : Mir.compF Tryz.prog Tryz.f57 = some g57 := by kernel_rfl
/-- internal/strconv.ParseInt -/
def g58 : Mir.Fn := ⟨73, [(.tmp 6), (.tmp 7)],
(.seq
(.ops [⟨(some 6), none, (.p (.mv (.c (.int .i64 0)))), 0, []⟩,
⟨(some 7), none, (.p (.mv (.c .nilif))), 0, []⟩])
(.seq
(.seq
(.ops [⟨(some 12), none, (.p (.mv (.tmp 0))), 0, []⟩,
⟨(some 13), none, (.p (.bin .eql (.tmp 12) (.c (.str [])))), 0, []⟩])
(.cond (.tmp 13)
(.seq
(.ops [⟨(some 14), none, (.p (.mkIf 87 (.c (.int .i64 2)))), 0, []⟩,
⟨(some 6), none, (.p (.mv (.c (.int .i64 0)))), 0, []⟩,
⟨(some 7), none, (.p (.mv (.tmp 14))), 0, []⟩])
.ret)
.skip))
(.seq
(.ops [⟨(some 8), none, (.p (.mv (.c (.bool false)))), 0, []⟩])
(.seq
(.seq
(.ops [⟨(some 15), none, (.p (.mv (.tmp 0))), 0, []⟩,
⟨(some 16), none, (.p (.idxStr (.tmp 15) (.c (.int .i64 0)))), 0, []⟩])
(.block 0 (.seq
(.ops [⟨(some 18), none, (.p (.bin .eql (.tmp 16) (.c (.int .u8 43)))), 0, []⟩,
⟨(some 17), none, (.p (.mv (.tmp 18))), 0, []⟩])
(.cond (.tmp 17)
(.ops [⟨(some 19), none, (.p (.mv (.tmp 0))), 0, []⟩,
⟨(some 20), none, (.p (.subStr (.tmp 19) (some (.c (.int .i64 1))) none)), 0, []⟩,
⟨(some 0), none, (.p (.mv (.tmp 20))), 0, []⟩])
(.seq
(.ops [⟨(some 22), none, (.p (.bin .eql (.tmp 16) (.c (.int .u8 45)))), 0, []⟩,
⟨(some 21), none, (.p (.mv (.tmp 22))), 0, []⟩])
(.cond (.tmp 21)
(.seq
(.ops [⟨(some 23), none, (.p (.mv (.tmp 0))), 0, []⟩,
⟨(some 24), none, (.p (.subStr (.tmp 23) (some (.c (.int .i64 1))) none)), 0, []⟩,
⟨(some 0), none, (.p (.mv (.tmp 24))), 0, []⟩])
(.ops [⟨(some 8), none, (.p (.mv (.c (.bool true)))), 0, []⟩]))
.skip))))))
(.seq
(.ops [⟨(some 9), none, (.p (.mv (.c (.int .u64 0)))), 0, []⟩])
(.seq
(.ops [⟨(some 26), none, (.p (.mv (.tmp 0))), 0, []⟩,
⟨(some 27), none, (.p (.mv (.tmp 1))), 0, []⟩,
⟨(some 28), none, (.p (.mv (.tmp 2))), 0, []⟩,
⟨(some 29), none, (.h (.call (.c (.fn 80 [] [])) [(.tmp 26), (.tmp 27), (.tmp 28)])), 0, []⟩,
⟨(some 25), none, (.p (.mv (.tmp 29))), 0, []⟩,
⟨(some 30), none, (.p (.ext (.tmp 25) 0)), 0, []⟩,
⟨(some 31), none, (.p (.ext (.tmp 25) 1)), 0, []⟩,
⟨(some 9), none, (.p (.mv (.tmp 30))), 0, []⟩,
⟨(some 7), none, (.p (.mv (.tmp 31))), 0, []⟩])
(.seq
(.seq
(.ops [⟨(some 32), none, (.p (.mv (.tmp 7))), 0, []⟩,
⟨(some 33), none, (.p (.eq .iface true (.tmp 32) (.c .nilif))), 0, []⟩,
⟨(some 34), none, (.p (.mv (.tmp 33))), 0, []⟩,
⟨(some 35), (some (34, true)), (.p (.mv (.tmp 7))), 0, []⟩,
⟨(some 36), (some (34, true)), (.p (.mkIf 87 (.c (.int .i64 1)))), 0, []⟩,
⟨(some 37), (some (34, true)), (.p (.eqIf [2, 3, 5, 6, 12, 21, 29, 65, 85, 87, 96, 105, 118, 146, 147, 149, 150] true (.tmp 35) (.tmp 36))), 0, []⟩,
⟨(some 38), none, (.p (.pick (.tmp 34) (.tmp 37) (.c (.bool false)))), 0, []⟩])
(.cond (.tmp 38)
(.seq
(.ops [⟨(some 39), none, (.p (.mv (.tmp 7))), 0, []⟩,
⟨(some 6), none, (.p (.mv (.c (.int .i64 0)))), 0, []⟩,
⟨(some 7), none, (.p (.mv (.tmp 39))), 0, []⟩])
.ret)
.skip))
(.seq
(.seq
(.ops [⟨(some 40), none, (.p (.mv (.tmp 2))), 0, []⟩,
⟨(some 41), none, (.p (.bin .eql (.tmp 40) (.c (.int .i64 0)))), 0, []⟩])
(.cond (.tmp 41)
(.ops [⟨(some 2), none, (.p (.mv (.c (.int .i64 64)))), 0, []⟩])
.skip))
(.seq
(.ops [⟨(some 42), none, (.p (.mv (.tmp 2))), 0, []⟩,
⟨(some 43), none, (.p (.bin .sub (.tmp 42) (.c (.int .i64 1)))), 0, []⟩,
⟨(some 44), none, (.p (.convInt .u64 (.tmp 43))), 0, []⟩,
⟨(some 45), none, (.p (.bin .shl (.c (.int .u64 1)) (.tmp 44))), 0, []⟩,
⟨(some 10), none, (.p (.mv (.tmp 45))), 0, []⟩])
(.seq
(.seq
(.ops [⟨(some 46), none, (.p (.mv (.tmp 8))), 0, []⟩,
⟨(some 47), none, (.p (.un .not (.tmp 46))), 0, []⟩,
⟨(some 48), none, (.p (.mv (.tmp 47))), 0, []⟩,
⟨(some 49), (some (48, true)), (.p (.mv (.tmp 9))), 0, []⟩,
⟨(some 50), (some (48, true)), (.p (.mv (.tmp 10))), 0, []⟩,
⟨(some 51), (some (48, true)), (.p (.bin .geq (.tmp 49) (.tmp 50))), 0, []⟩,
⟨(some 52), none, (.p (.pick (.tmp 48) (.tmp 51) (.c (.bool false)))), 0, []⟩])
(.cond (.tmp 52)
(.seq
(.ops [⟨(some 53), none, (.p (.mv (.tmp 10))), 0, []⟩,
⟨(some 54), none, (.p (.bin .sub (.tmp 53) (.c (.int .u64 1)))), 0, []⟩,
⟨(some 55), none, (.p (.convInt .i64 (.tmp 54))), 0, []⟩,
⟨(some 56), none, (.p (.mkIf 87 (.c (.int .i64 1)))), 0, []⟩,
⟨(some 6), none, (.p (.mv (.tmp 55))), 0, []⟩,
⟨(some 7), none, (.p (.mv (.tmp 56))), 0, []⟩])
.ret)
.skip))
(.seq
(.seq
(.ops [⟨(some 57), none, (.p (.mv (.tmp 8))), 0, []⟩,
⟨(some 58), none, (.p (.mv (.tmp 57))), 0, []⟩,
⟨(some 59), (some (58, true)), (.p (.mv (.tmp 9))), 0, []⟩,
⟨(some 60), (some (58, true)), (.p (.mv (.tmp 10))), 0, []⟩,
⟨(some 61), (some (58, true)), (.p (.bin .gtr (.tmp 59) (.tmp 60))), 0, []⟩,
⟨(some 62), none, (.p (.pick (.tmp 58) (.tmp 61) (.c (.bool false)))), 0, []⟩])
(.cond (.tmp 62)
(.seq
(.ops [⟨(some 63), none, (.p (.mv (.tmp 10))), 0, []⟩,
⟨(some 64), none, (.p (.convInt .i64 (.tmp 63))), 0, []⟩,
⟨(some 65), none, (.p (.un .neg (.tmp 64))), 0, []⟩,
⟨(some 66), none, (.p (.mkIf 87 (.c (.int .i64 1)))), 0, []⟩,
⟨(some 6), none, (.p (.mv (.tmp 65))), 0, []⟩,
⟨(some 7), none, (.p (.mv (.tmp 66))), 0, []⟩])
.ret)
.skip))
(.seq
(.ops [⟨(some 67), none, (.p (.mv (.tmp 9))), 0, []⟩,
⟨(some 68), none, (.p (.convInt .i64 (.tmp 67))), 0, []⟩,
⟨(some 11), none, (.p (.mv (.tmp 68))), 0, []⟩])
(.seq
(.seq
(.ops [⟨(some 69), none, (.p (.mv (.tmp 8))), 0, []⟩])
(.cond (.tmp 69)
(.ops [⟨(some 70), none, (.p (.mv (.tmp 11))), 0, []⟩,
⟨(some 71), none, (.p (.un .neg (.tmp 70))), 0, []⟩,
⟨(some 11), none, (.p (.mv (.tmp 71))), 0, []⟩])
.skip))
(.seq
(.ops [⟨(some 72), none, (.p (.mv (.tmp 11))), 0, []⟩,
⟨(some 6), none, (.p (.mv (.tmp 72))), 0, []⟩,
⟨(some 7), none, (.p (.mv (.c .nilif))), 0, []⟩])
.ret))))))))))))))⟩
theorem c58 : Mir.compF Tryz.prog Tryz.f58 = some g58 := by kernel_rfl
/-- strconv.syntaxError -/
def g59 : Mir.Fn := ⟨11, [(.tmp 4)],
(.seq
(.ops [⟨(some 4), none, (.p (.mv (.c .nilptr))), 0, []⟩])
(.seq
(.draw [⟨(some 5), none, (.p (.mv (.tmp 0))), 0, []⟩,
⟨(some 6), none, (.p (.mv (.tmp 1))), 1, []⟩,
⟨(some 8), none, (.r (.load 1 false (.glob 1))), 3, []⟩,
⟨(some 7), none, (.h (.call (.c (.fn 81 [] [])) [(.tmp 6)])), 2, [3]⟩,
⟨(some 9), none, (.p (.build [(.str []), (.str []), .nilif] [(0, (1, (.tmp 5))), (1, (1, (.tmp 7))), (2, (1, (.tmp 8)))])), 4, []⟩,
⟨(some 10), none, (.a (.box (.tmp 9))), 5, []⟩,
⟨(some 4), none, (.p (.mv (.tmp 10))), 6, []⟩])
.ret))⟩
theorem c59 : Mir.compF Tryz.prog Tryz.f59 = some g59 := by kernel_rfl
/-- strconv.rangeError -/
def g60 : Mir.Fn := ⟨11, [(.tmp 4)],
(.seq
(.ops [⟨(some 4), none, (.p (.mv (.c .nilptr))), 0, []⟩])
(.seq
(.draw [⟨(some 5), none, (.p (.mv (.tmp 0))), 0, []⟩,
⟨(some 6), none, (.p (.mv (.tmp 1))), 1, []⟩,
⟨(some 8), none, (.r (.load 1 false (.glob 2))), 3, []⟩,
⟨(some 7), none, (.h (.call (.c (.fn 81 [] [])) [(.tmp 6)])), 2, [3]⟩,
⟨(some 9), none, (.p (.build [(.str []), (.str []), .nilif] [(0, (1, (.tmp 5))), (1, (1, (.tmp 7))), (2, (1, (.tmp 8)))])), 4, []⟩,
⟨(some 10), none, (.a (.box (.tmp 9))), 5, []⟩,
⟨(some 4), none, (.p (.mv (.tmp 10))), 6, []⟩])
.ret))⟩
theorem c60 : Mir.compF Tryz.prog Tryz.f60 = some g60 := by kernel_rfl
/-- strconv.baseError -/
def g61 : Mir.Fn := ⟨16, [(.tmp 6)],
(.seq
(.ops [⟨(some 6), none, (.p (.mv (.c .nilptr))), 0, []⟩])
(.seq
(.ops [⟨(some 7), none, (.p (.mv (.tmp 0))), 0, []⟩,
⟨(some 8), none, (.p (.mv (.tmp 1))), 0, []⟩,
⟨(some 9), none, (.h (.call (.c (.fn 81 [] [])) [(.tmp 8)])), 0, []⟩,
⟨(some 10), none, (.p (.mv (.tmp 2))), 0, []⟩,
⟨(some 11), none, (.h (.call (.c (.fn 28 [] [])) [(.tmp 10)])), 0, []⟩,
⟨(some 12), none, (.p (.bin .add (.c (.str [105, 110, 118, 97, 108, 105, 100, 32, 98, 97, 115, 101, 32])) (.tmp 11))), 0, []⟩,
⟨(some 13), none, (.h (.call (.c (.fn 82 [] [])) [(.tmp 12)])), 0, []⟩,
⟨(some 14), none, (.p (.build [(.str []), (.str []), .nilif] [(0, (1, (.tmp 7))), (1, (1, (.tmp 9))), (2, (1, (.tmp 13)))])), 0, []⟩,
⟨(some 15), none, (.a (.box (.tmp 14))), 0, []⟩,
⟨(some 6), none, (.p (.mv (.tmp 15))), 0, []⟩])
.ret))⟩
theorem c61 : Mir.compF Tryz.prog Tryz.f61 = some g61 := by kernel_rfl
/-- strconv.bitSizeError -/
def g62 : Mir.Fn := ⟨16, [(.tmp 6)],
(.seq
(.ops [⟨(some 6), none, (.p (.mv (.c .nilptr))), 0, []⟩])
(.seq
(.ops [⟨(some 7), none, (.p (.mv (.tmp 0))), 0, []⟩,
⟨(some 8), none, (.p (.mv (.tmp 1))), 0, []⟩,
⟨(some 9), none, (.h (.call (.c (.fn 81 [] [])) [(.tmp 8)])), 0, []⟩,
⟨(some 10), none, (.p (.mv (.tmp 2))), 0, []⟩,
⟨(some 11), none, (.h (.call (.c (.fn 28 [] [])) [(.tmp 10)])), 0, []⟩,
⟨(some 12), none, (.p (.bin .add (.c (.str [105, 110, 118, 97, 108, 105, 100, 32, 98, 105, 116, 32, 115, 105, 122, 101, 32])) (.tmp 11))), 0, []⟩,
⟨(some 13), none, (.h (.call (.c (.fn 82 [] [])) [(.tmp 12)])), 0, []⟩,
⟨(some 14), none, (.p (.build [(.str []), (.str []), .nilif] [(0, (1, (.tmp 7))), (1, (1, (.tmp 9))), (2, (1, (.tmp 13)))])), 0, []⟩,
⟨(some 15), none, (.a (.box (.tmp 14))), 0, []⟩,
⟨(some 6), none, (.p (.mv (.tmp 15))), 0, []⟩])
.ret))⟩
theorem c62 : Mir.compF Tryz.prog Tryz.f62 = some g62 := by kernel_rfl
/-- internal/strconv.FormatInt -/
def g63 : Mir.Fn := ⟨54, [(.tmp 4)],
(.seq
(.ops [⟨(some 4), none, (.p (.mv (.c (.str [])))), 0, []⟩])
(.seq
(.seq
(.ops [⟨(some 10), none, (.p (.mv (.tmp 1))), 0, []⟩,
⟨(some 11), none, (.p (.bin .eql (.tmp 10) (.c (.int .i64 10)))), 0, []⟩])
(.cond (.tmp 11)
(.seq
(.seq
(.ops [⟨(some 12), none, (.p (.mv (.tmp 0))), 0, []⟩,
⟨(some 13), none, (.p (.bin .leq (.c (.int .i64 0)) (.tmp 12))), 0, []⟩,
⟨(some 14), none, (.p (.mv (.tmp 13))), 0, []⟩,
⟨(some 15), (some (14, true)), (.p (.mv (.tmp 0))), 0, []⟩,
⟨(some 16), (some (14, true)), (.p (.bin .lss (.tmp 15) (.c (.int .i64 100)))), 0, []⟩,
⟨(some 17), none, (.p (.pick (.tmp 14) (.tmp 16) (.c (.bool false)))), 0, []⟩])
(.cond (.tmp 17)
(.seq
(.ops [⟨(some 18), none, (.p (.mv (.tmp 0))), 0, []⟩,
⟨(some 19), none, (.h (.call (.c (.fn 83 [] [])) [(.tmp 18)])), 0, []⟩,
⟨(some 4), none, (.p (.mv (.tmp 19))), 0, []⟩])
.ret)
.skip))
(.seq
(.ops [⟨(some 5), none, (.a (.alloc [(.int .u8 0), (.int .u8 0), (.int .u8 0), (.int .u8 0), (.int .u8 0), (.int .u8 0), (.int .u8 0), (.int .u8 0), (.int .u8 0), (.int .u8 0), (.int .u8 0), (.int .u8 0), (.int .u8 0), (.int .u8 0), (.int .u8 0), (.int .u8 0), (.int .u8 0), (.int .u8 0), (.int .u8 0), (.int .u8 0), (.int .u8 0), (.int .u8 0), (.int .u8 0), (.int .u8 0)])), 0, []⟩])
(.seq
(.ops [⟨(some 20), none, (.p (.mv (.tmp 0))), 0, []⟩,
⟨(some 21), none, (.p (.convInt .u64 (.tmp 20))), 0, []⟩,
⟨(some 6), none, (.p (.mv (.tmp 21))), 0, []⟩])
(.seq
(.seq
(.ops [⟨(some 22), none, (.p (.mv (.tmp 0))), 0, []⟩,
⟨(some 23), none, (.p (.bin .lss (.tmp 22) (.c (.int .i64 0)))), 0, []⟩])
(.cond (.tmp 23)
(.ops [⟨(some 24), none, (.p (.mv (.tmp 6))), 0, []⟩,
⟨(some 25), none, (.p (.un .neg (.tmp 24))), 0, []⟩,
⟨(some 6), none, (.p (.mv (.tmp 25))), 0, []⟩])
.skip))
(.seq
(.ops [⟨(some 26), none, (.p (.mv (.tmp 6))), 0, []⟩,
⟨(some 27), none, (.h (.call (.c (.fn 84 [] [])) [(.tmp 26)])), 0, []⟩,
⟨(some 7), none, (.p (.mv (.tmp 27))), 0, []⟩])
(.seq
(.ops [⟨(some 28), none, (.p (.mv (.tmp 7))), 0, []⟩,
⟨(some 29), none, (.p (.bin .add (.c (.int .i64 1)) (.tmp 28))), 0, []⟩,
⟨(some 30), none, (.r (.slArr 24 1 (.tmp 5) (some (.c (.int .i64 1))) (some (.tmp 29)))), 0, []⟩,
⟨(some 31), none, (.p (.mv (.tmp 6))), 0, []⟩,
⟨(some 32), none, (.h (.call (.c (.fn 85 [] [])) [(.tmp 30), (.tmp 31)])), 0, []⟩])
(.seq
(.seq
(.ops [⟨(some 33), none, (.p (.mv (.tmp 0))), 0, []⟩,
⟨(some 34), none, (.p (.bin .lss (.tmp 33) (.c (.int .i64 0)))), 0, []⟩])
(.cond (.tmp 34)
(.seq
(.ops [⟨(some 35), none, (.p (.idxArr 24 1 (.tmp 5) (.c (.int .i64 0)))), 0, []⟩,
⟨none, none, (.h (.store 1 (.tmp 35) (.c (.int .u8 45)))), 0, []⟩])
(.seq
(.ops [⟨(some 36), none, (.p (.mv (.tmp 7))), 0, []⟩,
⟨(some 37), none, (.p (.bin .add (.c (.int .i64 1)) (.tmp 36))), 0, []⟩,
⟨(some 38), none, (.r (.slArr 24 1 (.tmp 5) none (some (.tmp 37)))), 0, []⟩,
⟨(some 39), none, (.r (.toStr (.tmp 38))), 0, []⟩,
⟨(some 4), none, (.p (.mv (.tmp 39))), 0, []⟩])
.ret))
.skip))
(.seq
(.ops [⟨(some 40), none, (.p (.mv (.tmp 7))), 0, []⟩,
⟨(some 41), none, (.p (.bin .add (.c (.int .i64 1)) (.tmp 40))), 0, []⟩,
⟨(some 42), none, (.r (.slArr 24 1 (.tmp 5) (some (.c (.int .i64 1))) (some (.tmp 41)))), 0, []⟩,
⟨(some 43), none, (.r (.toStr (.tmp 42))), 0, []⟩,
⟨(some 4), none, (.p (.mv (.tmp 43))), 0, []⟩])
.ret))))))))
.skip))
(.seq
(.ops [⟨(some 45), none, (.p (.mv (.tmp 0))), 0, []⟩,
⟨(some 46), none, (.p (.convInt .u64 (.tmp 45))), 0, []⟩,
⟨(some 47), none, (.p (.mv (.tmp 1))), 0, []⟩,
⟨(some 48), none, (.p (.mv (.tmp 0))), 0, []⟩,
⟨(some 49), none, (.p (.bin .lss (.tmp 48) (.c (.int .i64 0)))), 0, []⟩,
⟨(some 50), none, (.h (.call (.c (.fn 86 [] [])) [(.c .nilsl), (.tmp 46), (.tmp 47), (.tmp 49), (.c (.bool false))])), 0, []⟩,
⟨(some 44), none, (.p (.mv (.tmp 50))), 0, []⟩,
⟨(some 51), none, (.p (.ext (.tmp 44) 0)), 0, []⟩,
⟨(some 52), none, (.p (.ext (.tmp 44) 1)), 0, []⟩,
⟨(some 8), none, (.p (.mv (.tmp 51))), 0, []⟩,
⟨(some 9), none, (.p (.mv (.tmp 52))), 0, []⟩])
(.seq
(.ops [⟨(some 53), none, (.p (.mv (.tmp 9))), 0, []⟩,
⟨(some 4), none, (.p (.mv (.tmp 53))), 0, []⟩])
.ret))))⟩
theorem c63 : Mir.compF Tryz.prog Tryz.f63 = some g63 := by kernel_rfl
/-- strings.IndexFunc -/
def g64 : Mir.Fn := ⟨8, [(.tmp 4)],
(.seq
(.ops [⟨(some 4), none, (.p (.mv (.c (.int .i64 0)))), 0, []⟩])
(.seq
(.ops [⟨(some 5), none, (.p (.mv (.tmp 0))), 0, []⟩,
⟨(some 6), none, (.p (.mv (.tmp 1))), 0, []⟩,
⟨(some 7), none, (.h (.call (.c (.fn 87 [] [])) [(.tmp 5), (.tmp 6), (.c (.bool true))])), 0, []⟩,
⟨(some 4), none, (.p (.mv (.tmp 7))), 0, []⟩])
.ret))⟩
theorem c64 : Mir.compF Tryz.prog Tryz.f64 = some g64 := by kernel_rfl
/-- slices.insertionSortOrdered[string] -/
def g65 : Mir.Fn := ⟨49, [],
(.seq
(.ops [⟨(some 8), none, (.p (.mv (.tmp 1))), 0, []⟩,
⟨(some 9), none, (.p (.bin .add (.tmp 8) (.c (.int .i64 1)))), 0, []⟩,
⟨(some 6), none, (.p (.mv (.tmp 9))), 0, []⟩])
(.block 0 (.loop (.seq
(.seq
(.ops [⟨(some 10), none, (.p (.mv (.tmp 6))), 0, []⟩,
⟨(some 11), none, (.p (.mv (.tmp 2))), 0, []⟩,
⟨(some 12), none, (.p (.bin .lss (.tmp 10) (.tmp 11))), 0, []⟩])
(.cond (.tmp 12)
.skip
(.exit 0)))
(.seq
(.block 1 (.seq
(.ops [⟨(some 15), none, (.p (.mv (.tmp 6))), 0, []⟩,
⟨(some 7), none, (.p (.mv (.tmp 15))), 0, []⟩])
(.block 2 (.loop (.seq
(.seq
(.draw [⟨(some 16), none, (.p (.mv (.tmp 7))), 0, []⟩,
⟨(some 17), none, (.p (.mv (.tmp 1))), 1, []⟩,
⟨(some 18), none, (.p (.bin .gtr (.tmp 16) (.tmp 17))), 2, []⟩,
⟨(some 19), none, (.p (.mv (.tmp 18))), 3, []⟩,
⟨(some 20), (some (19, true)), (.p (.mv (.tmp 0))), 4, []⟩,
⟨(some 21), (some (19, true)), (.p (.mv (.tmp 7))), 5, []⟩,
⟨(some 22), (some (19, true)), (.p (.idxSl 1 (.tmp 20) (.tmp 21))), 6, []⟩,
⟨(some 23), (some (19, true)), (.r (.load 1 false (.tmp 22))), 7, []⟩,
⟨(some 24), (some (19, true)), (.p (.mv (.tmp 0))), 8, []⟩,
⟨(some 25), (some (19, true)), (.p (.mv (.tmp 7))), 9, []⟩,
⟨(some 26), (some (19, true)), (.p (.bin .sub (.tmp 25) (.c (.int .i64 1)))), 10, []⟩,
⟨(some 27), (some (19, true)), (.p (.idxSl 1 (.tmp 24) (.tmp 26))), 11, []⟩,
⟨(some 28), (some (19, true)), (.r (.load 1 false (.tmp 27))), 12, []⟩,
⟨(some 29), (some (19, true)), (.h (.call (.c (.fn 71 [] [])) [(.tmp 23), (.tmp 28)])), 13, []⟩,
⟨(some 30), none, (.p (.pick (.tmp 19) (.tmp 29) (.c (.bool false)))), 14, []⟩])
(.cond (.tmp 30)
.skip
(.exit 2)))
(.seq
(.block 3 (.draw [⟨(some 33), none, (.p (.mv (.tmp 0))), 0, []⟩,
⟨(some 34), none, (.p (.mv (.tmp 7))), 1, []⟩,
⟨(some 35), none, (.p (.mv (.tmp 0))), 2, []⟩,
⟨(some 36), none, (.p (.mv (.tmp 7))), 3, []⟩,
⟨(some 37), none, (.p (.bin .sub (.tmp 36) (.c (.int .i64 1)))), 4, []⟩,
⟨(some 38), none, (.p (.mv (.tmp 0))), 5, []⟩,
⟨(some 39), none, (.p (.mv (.tmp 7))), 6, []⟩,
⟨(some 40), none, (.p (.bin .sub (.tmp 39) (.c (.int .i64 1)))), 7, []⟩,
⟨(some 41), none, (.p (.idxSl 1 (.tmp 38) (.tmp 40))), 8, []⟩,
⟨(some 42), none, (.r (.load 1 false (.tmp 41))), 9, []⟩,
⟨(some 43), none, (.p (.mv (.tmp 0))), 10, []⟩,
⟨(some 44), none, (.p (.mv (.tmp 7))), 11, []⟩,
⟨(some 45), none, (.p (.idxSl 1 (.tmp 43) (.tmp 44))), 12, []⟩,
⟨(some 46), none, (.r (.load 1 false (.tmp 45))), 13, []⟩,
⟨(some 47), none, (.p (.idxSl 1 (.tmp 33) (.tmp 34))), 14, []⟩,
⟨none, none, (.h (.store 1 (.tmp 47) (.tmp 42))), 15, []⟩,
⟨(some 48), none, (.p (.idxSl 1 (.tmp 35) (.tmp 37))), 16, []⟩,
⟨none, none, (.h (.store 1 (.tmp 48) (.tmp 46))), 17, []⟩]))
(.ops [⟨(some 31), none, (.p (.mv (.tmp 7))), 0, []⟩,
⟨(some 32), none, (.p (.bin .sub (.tmp 31) (.c (.int .i64 1)))), 0, []⟩,
⟨(some 7), none, (.p (.mv (.tmp 32))), 0, []⟩])))))))
(.ops [⟨(some 13), none, (.p (.mv (.tmp 6))), 0, []⟩,
⟨(some 14), none, (.p (.bin .add (.tmp 13) (.c (.int .i64 1)))), 0, []⟩,
⟨(some 6), none, (.p (.mv (.tmp 14))), 0, []⟩]))))))⟩
theorem c65 : Mir.compF Tryz.prog Tryz.f65 = some g65 := by kernel_rfl
/-- slices.heapSortOrdered[string] -/
def g66 : Mir.Fn := ⟨56, [],
(.seq
(.ops [⟨(some 11), none, (.p (.mv (.tmp 1))), 0, []⟩,
⟨(some 6), none, (.p (.mv (.tmp 11))), 0, []⟩])
(.seq
(.ops [⟨(some 7), none, (.p (.mv (.c (.int .i64 0)))), 0, []⟩])
(.seq
(.ops [⟨(some 12), none, (.p (.mv (.tmp 2))), 0, []⟩,
⟨(some 13), none, (.p (.mv (.tmp 1))), 0, []⟩,
⟨(some 14), none, (.p (.bin .sub (.tmp 12) (.tmp 13))), 0, []⟩,
⟨(some 8), none, (.p (.mv (.tmp 14))), 0, []⟩])
(.seq
(.seq
(.ops [⟨(some 15), none, (.p (.mv (.tmp 8))), 0, []⟩,
⟨(some 16), none, (.p (.bin .sub (.tmp 15) (.c (.int .i64 1)))), 0, []⟩,
⟨(some 17), none, (.p (.bin .quo (.tmp 16) (.c (.int .i64 2)))), 0, []⟩,
⟨(some 9), none, (.p (.mv (.tmp 17))), 0, []⟩])
(.block 0 (.loop (.seq
(.seq
(.ops [⟨(some 18), none, (.p (.mv (.tmp 9))), 0, []⟩,
⟨(some 19), none, (.p (.bin .geq (.tmp 18) (.c (.int .i64 0)))), 0, []⟩])
(.cond (.tmp 19)
.skip
(.exit 0)))
(.seq
(.block 1 (.ops [⟨(some 22), none, (.p (.mv (.tmp 0))), 0, []⟩,
⟨(some 23), none, (.p (.mv (.tmp 9))), 0, []⟩,
⟨(some 24), none, (.p (.mv (.tmp 8))), 0, []⟩,
⟨(some 25), none, (.p (.mv (.tmp 6))), 0, []⟩,
⟨(some 26), none, (.h (.call (.c (.fn 88 [] [])) [(.tmp 22), (.tmp 23), (.tmp 24), (.tmp 25)])), 0, []⟩]))
(.ops [⟨(some 20), none, (.p (.mv (.tmp 9))), 0, []⟩,
⟨(some 21), none, (.p (.bin .sub (.tmp 20) (.c (.int .i64 1)))), 0, []⟩,
⟨(some 9), none, (.p (.mv (.tmp 21))), 0, []⟩]))))))
(.seq
(.ops [⟨(some 27), none, (.p (.mv (.tmp 8))), 0, []⟩,
⟨(some 28), none, (.p (.bin .sub (.tmp 27) (.c (.int .i64 1)))), 0, []⟩,
⟨(some 10), none, (.p (.mv (.tmp 28))), 0, []⟩])
(.block 2 (.loop (.seq
(.seq
(.ops [⟨(some 29), none, (.p (.mv (.tmp 10))), 0, []⟩,
⟨(some 30), none, (.p (.bin .geq (.tmp 29) (.c (.int .i64 0)))), 0, []⟩])
(.cond (.tmp 30)
.skip
(.exit 2)))
(.seq
(.block 3 (.seq
(.draw [⟨(some 33), none, (.p (.mv (.tmp 0))), 0, []⟩,
⟨(some 34), none, (.p (.mv (.tmp 6))), 1, []⟩,
⟨(some 35), none, (.p (.mv (.tmp 0))), 2, []⟩,
⟨(some 36), none, (.p (.mv (.tmp 6))), 3, []⟩,
⟨(some 37), none, (.p (.mv (.tmp 10))), 4, []⟩,
⟨(some 38), none, (.p (.bin .add (.tmp 36) (.tmp 37))), 5, []⟩,
⟨(some 39), none, (.p (.mv (.tmp 0))), 6, []⟩,
⟨(some 40), none, (.p (.mv (.tmp 6))), 7, []⟩,
⟨(some 41), none, (.p (.mv (.tmp 10))), 8, []⟩,
⟨(some 42), none, (.p (.bin .add (.tmp 40) (.tmp 41))), 9, []⟩,
⟨(some 43), none, (.p (.idxSl 1 (.tmp 39) (.tmp 42))), 10, []⟩,
⟨(some 44), none, (.r (.load 1 false (.tmp 43))), 11, []⟩,
⟨(some 45), none, (.p (.mv (.tmp 0))), 12, []⟩,
⟨(some 46), none, (.p (.mv (.tmp 6))), 13, []⟩,
⟨(some 47), none, (.p (.idxSl 1 (.tmp 45) (.tmp 46))), 14, []⟩,
⟨(some 48), none, (.r (.load 1 false (.tmp 47))), 15, []⟩,
⟨(some 49), none, (.p (.idxSl 1 (.tmp 33) (.tmp 34))), 16, []⟩,
⟨none, none, (.h (.store 1 (.tmp 49) (.tmp 44))), 17, []⟩,
⟨(some 50), none, (.p (.idxSl 1 (.tmp 35) (.tmp 38))), 18, []⟩,
⟨none, none, (.h (.store 1 (.tmp 50) (.tmp 48))), 19, []⟩])
(.ops [⟨(some 51), none, (.p (.mv (.tmp 0))), 0, []⟩,
⟨(some 52), none, (.p (.mv (.tmp 7))), 0, []⟩,
⟨(some 53), none, (.p (.mv (.tmp 10))), 0, []⟩,
⟨(some 54), none, (.p (.mv (.tmp 6))), 0, []⟩,
⟨(some 55), none, (.h (.call (.c (.fn 88 [] [])) [(.tmp 51), (.tmp 52), (.tmp 53), (.tmp 54)])), 0, []⟩])))
(.ops [⟨(some 31), none, (.p (.mv (.tmp 10))), 0, []⟩,
⟨(some 32), none, (.p (.bin .sub (.tmp 31) (.c (.int .i64 1)))), 0, []⟩,
⟨(some 10), none, (.p (.mv (.tmp 32))), 0, []⟩]))))))))))⟩
theorem c66 : Mir.compF Tryz.prog Tryz.f66 = some g66 := by kernel_rfl
/-- slices.breakPatternsOrdered[string] -/
def g67 : Mir.Fn := ⟨65, [],
(.seq
(.ops [⟨(some 11), none, (.p (.mv (.tmp 2))), 0, []⟩,
⟨(some 12), none, (.p (.mv (.tmp 1))), 0, []⟩,
⟨(some 13), none, (.p (.bin .sub (.tmp 11) (.tmp 12))), 0, []⟩,
⟨(some 6), none, (.p (.mv (.tmp 13))), 0, []⟩])
(.seq
(.ops [⟨(some 14), none, (.p (.mv (.tmp 6))), 0, []⟩,
⟨(some 15), none, (.p (.bin .geq (.tmp 14) (.c (.int .i64 8)))), 0, []⟩])
(.cond (.tmp 15)
(.seq
(.ops [⟨(some 16), none, (.p (.mv (.tmp 6))), 0, []⟩,
⟨(some 17), none, (.p (.convInt .u64 (.tmp 16))), 0, []⟩,
⟨(some 7), none, (.a (.alloc [(.int .u64 0)])), 0, []⟩,
⟨none, none, (.h (.store 1 (.tmp 7) (.tmp 17))), 0, []⟩])
(.seq
(.ops [⟨(some 18), none, (.p (.mv (.tmp 6))), 0, []⟩,
⟨(some 19), none, (.h (.call (.c (.fn 89 [] [])) [(.tmp 18)])), 0, []⟩,
⟨(some 8), none, (.p (.mv (.tmp 19))), 0, []⟩])
(.seq
(.ops [⟨(some 20), none, (.p (.mv (.tmp 1))), 0, []⟩,
⟨(some 21), none, (.p (.mv (.tmp 6))), 0, []⟩,
⟨(some 22), none, (.p (.bin .quo (.tmp 21) (.c (.int .i64 4)))), 0, []⟩,
⟨(some 23), none, (.p (.bin .mul (.tmp 22) (.c (.int .i64 2)))), 0, []⟩,
⟨(some 24), none, (.p (.bin .add (.tmp 20) (.tmp 23))), 0, []⟩,
⟨(some 25), none, (.p (.bin .sub (.tmp 24) (.c (.int .i64 1)))), 0, []⟩,
⟨(some 9), none, (.p (.mv (.tmp 25))), 0, []⟩])
(.block 0 (.loop (.seq
(.seq
(.ops [⟨(some 26), none, (.p (.mv (.tmp 9))), 0, []⟩,
⟨(some 27), none, (.p (.mv (.tmp 1))), 0, []⟩,
⟨(some 28), none, (.p (.mv (.tmp 6))), 0, []⟩,
⟨(some 29), none, (.p (.bin .quo (.tmp 28) (.c (.int .i64 4)))), 0, []⟩,
⟨(some 30), none, (.p (.bin .mul (.tmp 29) (.c (.int .i64 2)))), 0, []⟩,
⟨(some 31), none, (.p (.bin .add (.tmp 27) (.tmp 30))), 0, []⟩,
⟨(some 32), none, (.p (.bin .add (.tmp 31) (.c (.int .i64 1)))), 0, []⟩,
⟨(some 33), none, (.p (.bin .leq (.tmp 26) (.tmp 32))), 0, []⟩])
(.cond (.tmp 33)
.skip
(.exit 0)))
(.seq
(.block 1 (.seq
(.ops [⟨(some 36), none, (.h (.call (.c (.fn 90 [] [])) [(.tmp 7)])), 0, []⟩,
⟨(some 37), none, (.p (.mv (.tmp 8))), 0, []⟩,
⟨(some 38), none, (.p (.bin .sub (.tmp 37) (.c (.int .u64 1)))), 0, []⟩,
⟨(some 39), none, (.p (.bin .and (.tmp 36) (.tmp 38))), 0, []⟩,
⟨(some 40), none, (.p (.convInt .i64 (.tmp 39))), 0, []⟩,
⟨(some 10), none, (.p (.mv (.tmp 40))), 0, []⟩])
(.seq
(.seq
(.ops [⟨(some 41), none, (.p (.mv (.tmp 10))), 0, []⟩,
⟨(some 42), none, (.p (.mv (.tmp 6))), 0, []⟩,
⟨(some 43), none, (.p (.bin .geq (.tmp 41) (.tmp 42))), 0, []⟩])
(.cond (.tmp 43)
(.ops [⟨(some 44), none, (.p (.mv (.tmp 10))), 0, []⟩,
⟨(some 45), none, (.p (.mv (.tmp 6))), 0, []⟩,
⟨(some 46), none, (.p (.bin .sub (.tmp 44) (.tmp 45))), 0, []⟩,
⟨(some 10), none, (.p (.mv (.tmp 46))), 0, []⟩])
.skip))
(.draw [⟨(some 47), none, (.p (.mv (.tmp 0))), 0, []⟩,
⟨(some 48), none, (.p (.mv (.tmp 9))), 1, []⟩,
⟨(some 49), none, (.p (.mv (.tmp 0))), 2, []⟩,
⟨(some 50), none, (.p (.mv (.tmp 1))), 3, []⟩,
⟨(some 51), none, (.p (.mv (.tmp 10))), 4, []⟩,
⟨(some 52), none, (.p (.bin .add (.tmp 50) (.tmp 51))), 5, []⟩,
⟨(some 53), none, (.p (.mv (.tmp 0))), 6, []⟩,
⟨(some 54), none, (.p (.mv (.tmp 1))), 7, []⟩,
⟨(some 55), none, (.p (.mv (.tmp 10))), 8, []⟩,
⟨(some 56), none, (.p (.bin .add (.tmp 54) (.tmp 55))), 9, []⟩,
⟨(some 57), none, (.p (.idxSl 1 (.tmp 53) (.tmp 56))), 10, []⟩,
⟨(some 58), none, (.r (.load 1 false (.tmp 57))), 11, []⟩,
⟨(some 59), none, (.p (.mv (.tmp 0))), 12, []⟩,
⟨(some 60), none, (.p (.mv (.tmp 9))), 13, []⟩,
⟨(some 61), none, (.p (.idxSl 1 (.tmp 59) (.tmp 60))), 14, []⟩,
⟨(some 62), none, (.r (.load 1 false (.tmp 61))), 15, []⟩,
⟨(some 63), none, (.p (.idxSl 1 (.tmp 47) (.tmp 48))), 16, []⟩,
⟨none, none, (.h (.store 1 (.tmp 63) (.tmp 58))), 17, []⟩,
⟨(some 64), none, (.p (.idxSl 1 (.tmp 49) (.tmp 52))), 18, []⟩,
⟨none, none, (.h (.store 1 (.tmp 64) (.tmp 62))), 19, []⟩]))))
(.ops [⟨(some 34), none, (.p (.mv (.tmp 9))), 0, []⟩,
⟨(some 35), none, (.p (.bin .add (.tmp 34) (.c (.int .i64 1)))), 0, []⟩,
⟨(some 9), none, (.p (.mv (.tmp 35))), 0, []⟩]))))))))
.skip)))⟩
theorem c67 : Mir.compF Tryz.prog Tryz.f67 = some g67 := by kernel_rfl
/-- slices.choosePivotOrdered[string] -/
def g68 : Mir.Fn := ⟨57, [(.tmp 6), (.tmp 7)],
(.seq
(.ops [⟨(some 6), none, (.p (.mv (.c (.int .i64 0)))), 0, []⟩,
⟨(some 7), none, (.p (.mv (.c (.int .i64 0)))), 0, []⟩])
(.seq
(.ops [⟨(some 13), none, (.p (.mv (.tmp 2))), 0, []⟩,
⟨(some 14), none, (.p (.mv (.tmp 1))), 0, []⟩,
⟨(some 15), none, (.p (.bin .sub (.tmp 13) (.tmp 14))), 0, []⟩,
⟨(some 8), none, (.p (.mv (.tmp 15))), 0, []⟩])
(.seq
(.ops [⟨(some 9), none, (.a (.alloc [(.int .i64 0)])), 0, []⟩])
(.seq
(.ops [⟨(some 16), none, (.p (.mv (.tmp 1))), 0, []⟩,
⟨(some 17), none, (.p (.mv (.tmp 8))), 0, []⟩,
⟨(some 18), none, (.p (.bin .quo (.tmp 17) (.c (.int .i64 4)))), 0, []⟩,
⟨(some 19), none, (.p (.bin .mul (.tmp 18) (.c (.int .i64 1)))), 0, []⟩,
⟨(some 20), none, (.p (.bin .add (.tmp 16) (.tmp 19))), 0, []⟩,
⟨(some 10), none, (.p (.mv (.tmp 20))), 0, []⟩])
(.seq
(.ops [⟨(some 21), none, (.p (.mv (.tmp 1))), 0, []⟩,
⟨(some 22), none, (.p (.mv (.tmp 8))), 0, []⟩,
⟨(some 23), none, (.p (.bin .quo (.tmp 22) (.c (.int .i64 4)))), 0, []⟩,
⟨(some 24), none, (.p (.bin .mul (.tmp 23) (.c (.int .i64 2)))), 0, []⟩,
⟨(some 25), none, (.p (.bin .add (.tmp 21) (.tmp 24))), 0, []⟩,
⟨(some 11), none, (.p (.mv (.tmp 25))), 0, []⟩])
(.seq
(.ops [⟨(some 26), none, (.p (.mv (.tmp 1))), 0, []⟩,
⟨(some 27), none, (.p (.mv (.tmp 8))), 0, []⟩,
⟨(some 28), none, (.p (.bin .quo (.tmp 27) (.c (.int .i64 4)))), 0, []⟩,
⟨(some 29), none, (.p (.bin .mul (.tmp 28) (.c (.int .i64 3)))), 0, []⟩,
⟨(some 30), none, (.p (.bin .add (.tmp 26) (.tmp 29))), 0, []⟩,
⟨(some 12), none, (.p (.mv (.tmp 30))), 0, []⟩])
(.seq
(.seq
(.ops [⟨(some 31), none, (.p (.mv (.tmp 8))), 0, []⟩,
⟨(some 32), none, (.p (.bin .geq (.tmp 31) (.c (.int .i64 8)))), 0, []⟩])
(.cond (.tmp 32)
(.seq
(.seq
(.ops [⟨(some 33), none, (.p (.mv (.tmp 8))), 0, []⟩,
⟨(some 34), none, (.p (.bin .geq (.tmp 33) (.c (.int .i64 50)))), 0, []⟩])
(.cond (.tmp 34)
(.seq
(.ops [⟨(some 35), none, (.p (.mv (.tmp 0))), 0, []⟩,
⟨(some 36), none, (.p (.mv (.tmp 10))), 0, []⟩,
⟨(some 37), none, (.h (.call (.c (.fn 91 [] [])) [(.tmp 35), (.tmp 36), (.tmp 9)])), 0, []⟩,
⟨(some 10), none, (.p (.mv (.tmp 37))), 0, []⟩])
(.seq
(.ops [⟨(some 38), none, (.p (.mv (.tmp 0))), 0, []⟩,
⟨(some 39), none, (.p (.mv (.tmp 11))), 0, []⟩,
⟨(some 40), none, (.h (.call (.c (.fn 91 [] [])) [(.tmp 38), (.tmp 39), (.tmp 9)])), 0, []⟩,
⟨(some 11), none, (.p (.mv (.tmp 40))), 0, []⟩])
(.ops [⟨(some 41), none, (.p (.mv (.tmp 0))), 0, []⟩,
⟨(some 42), none, (.p (.mv (.tmp 12))), 0, []⟩,
⟨(some 43), none, (.h (.call (.c (.fn 91 [] [])) [(.tmp 41), (.tmp 42), (.tmp 9)])), 0, []⟩,
⟨(some 12), none, (.p (.mv (.tmp 43))), 0, []⟩])))
.skip))
(.ops [⟨(some 44), none, (.p (.mv (.tmp 0))), 0, []⟩,
⟨(some 45), none, (.p (.mv (.tmp 10))), 0, []⟩,
⟨(some 46), none, (.p (.mv (.tmp 11))), 0, []⟩,
⟨(some 47), none, (.p (.mv (.tmp 12))), 0, []⟩,
⟨(some 48), none, (.h (.call (.c (.fn 92 [] [])) [(.tmp 44), (.tmp 45), (.tmp 46), (.tmp 47), (.tmp 9)])), 0, []⟩,
⟨(some 11), none, (.p (.mv (.tmp 48))), 0, []⟩]))
.skip))
(.seq
(.ops [⟨(some 49), none, (.r (.load 1 false (.tmp 9))), 0, []⟩])
(.block 0 (.seq
(.ops [⟨(some 52), none, (.p (.bin .eql (.tmp 49) (.c (.int .i64 0)))), 0, []⟩,
⟨(some 51), none, (.p (.mv (.tmp 52))), 0, []⟩])
(.cond (.tmp 51)
(.seq
(.ops [⟨(some 53), none, (.p (.mv (.tmp 11))), 0, []⟩,
⟨(some 6), none, (.p (.mv (.tmp 53))), 0, []⟩,
⟨(some 7), none, (.p (.mv (.c (.int .i64 1)))), 0, []⟩])
.ret)
(.seq
(.ops [⟨(some 55), none, (.p (.bin .eql (.tmp 49) (.c (.int .i64 12)))), 0, []⟩,
⟨(some 54), none, (.p (.mv (.tmp 55))), 0, []⟩])
(.cond (.tmp 54)
(.seq
(.ops [⟨(some 56), none, (.p (.mv (.tmp 11))), 0, []⟩,
⟨(some 6), none, (.p (.mv (.tmp 56))), 0, []⟩,
⟨(some 7), none, (.p (.mv (.c (.int .i64 2)))), 0, []⟩])
.ret)
(.seq
(.ops [⟨(some 50), none, (.p (.mv (.tmp 11))), 0, []⟩,
⟨(some 6), none, (.p (.mv (.tmp 50))), 0, []⟩,
⟨(some 7), none, (.p (.mv (.c (.int .i64 0)))), 0, []⟩])
.ret))))))))))))))⟩
theorem c68 : Mir.compF Tryz.prog Tryz.f68 = some g68 := by kernel_rfl
/-- slices.reverseRangeOrdered[string] -/
def g69 : Mir.Fn := ⟨32, [],
(.seq
(.ops [⟨(some 8), none, (.p (.mv (.tmp 1))), 0, []⟩,
⟨(some 6), none, (.p (.mv (.tmp 8))), 0, []⟩])
(.seq
(.ops [⟨(some 9), none, (.p (.mv (.tmp 2))), 0, []⟩,
⟨(some 10), none, (.p (.bin .sub (.tmp 9) (.c (.int .i64 1)))), 0, []⟩,
⟨(some 7), none, (.p (.mv (.tmp 10))), 0, []⟩])
(.block 0 (.loop (.seq
(.seq
(.ops [⟨(some 11), none, (.p (.mv (.tmp 6))), 0, []⟩,
⟨(some 12), none, (.p (.mv (.tmp 7))), 0, []⟩,
⟨(some 13), none, (.p (.bin .lss (.tmp 11) (.tmp 12))), 0, []⟩])
(.cond (.tmp 13)
.skip
(.exit 0)))
(.block 1 (.seq
(.draw [⟨(some 14), none, (.p (.mv (.tmp 0))), 0, []⟩,
⟨(some 15), none, (.p (.mv (.tmp 6))), 1, []⟩,
⟨(some 16), none, (.p (.mv (.tmp 0))), 2, []⟩,
⟨(some 17), none, (.p (.mv (.tmp 7))), 3, []⟩,
⟨(some 18), none, (.p (.mv (.tmp 0))), 4, []⟩,
⟨(some 19), none, (.p (.mv (.tmp 7))), 5, []⟩,
⟨(some 20), none, (.p (.idxSl 1 (.tmp 18) (.tmp 19))), 6, []⟩,
⟨(some 21), none, (.r (.load 1 false (.tmp 20))), 7, []⟩,
⟨(some 22), none, (.p (.mv (.tmp 0))), 8, []⟩,
⟨(some 23), none, (.p (.mv (.tmp 6))), 9, []⟩,
⟨(some 24), none, (.p (.idxSl 1 (.tmp 22) (.tmp 23))), 10, []⟩,
⟨(some 25), none, (.r (.load 1 false (.tmp 24))), 11, []⟩,
⟨(some 26), none, (.p (.idxSl 1 (.tmp 14) (.tmp 15))), 12, []⟩,
⟨none, none, (.h (.store 1 (.tmp 26) (.tmp 21))), 13, []⟩,
⟨(some 27), none, (.p (.idxSl 1 (.tmp 16) (.tmp 17))), 14, []⟩,
⟨none, none, (.h (.store 1 (.tmp 27) (.tmp 25))), 15, []⟩])
(.seq
(.ops [⟨(some 28), none, (.p (.mv (.tmp 6))), 0, []⟩,
⟨(some 29), none, (.p (.bin .add (.tmp 28) (.c (.int .i64 1)))), 0, []⟩,
⟨(some 6), none, (.p (.mv (.tmp 29))), 0, []⟩])
(.ops [⟨(some 30), none, (.p (.mv (.tmp 7))), 0, []⟩,
⟨(some 31), none, (.p (.bin .sub (.tmp 30) (.c (.int .i64 1)))), 0, []⟩,
⟨(some 7), none, (.p (.mv (.tmp 31))), 0, []⟩])))))))))⟩
theorem c69 : Mir.compF Tryz.prog Tryz.f69 = some g69 := by kernel_rfl
/-- slices.partialInsertionSortOrdered[string] -/
def g70 : Mir.Fn := ⟨133, [(.tmp 6)],
(.seq
(.ops [⟨(some 6), none, (.p (.mv (.c (.bool false)))), 0, []⟩])
(.seq
(.ops [⟨(some 11), none, (.p (.mv (.tmp 1))), 0, []⟩,
⟨(some 12), none, (.p (.bin .add (.tmp 11) (.c (.int .i64 1)))), 0, []⟩,
⟨(some 7), none, (.p (.mv (.tmp 12))), 0, []⟩])
(.seq
(.seq
(.ops [⟨(some 8), none, (.p (.mv (.c (.int .i64 0)))), 0, []⟩])
(.block 0 (.loop (.seq
(.seq
(.ops [⟨(some 13), none, (.p (.mv (.tmp 8))), 0, []⟩,
⟨(some 14), none, (.p (.bin .lss (.tmp 13) (.c (.int .i64 5)))), 0, []⟩])
(.cond (.tmp 14)
.skip
(.exit 0)))
(.seq
(.block 1 (.seq
(.block 2 (.loop (.seq
(.seq
(.draw [⟨(some 17), none, (.p (.mv (.tmp 7))), 0, []⟩,
⟨(some 18), none, (.p (.mv (.tmp 2))), 1, []⟩,
⟨(some 19), none, (.p (.bin .lss (.tmp 17) (.tmp 18))), 2, []⟩,
⟨(some 20), none, (.p (.mv (.tmp 19))), 3, []⟩,
⟨(some 21), (some (20, true)), (.p (.mv (.tmp 0))), 4, []⟩,
⟨(some 22), (some (20, true)), (.p (.mv (.tmp 7))), 5, []⟩,
⟨(some 23), (some (20, true)), (.p (.idxSl 1 (.tmp 21) (.tmp 22))), 6, []⟩,
⟨(some 24), (some (20, true)), (.r (.load 1 false (.tmp 23))), 7, []⟩,
⟨(some 25), (some (20, true)), (.p (.mv (.tmp 0))), 8, []⟩,
⟨(some 26), (some (20, true)), (.p (.mv (.tmp 7))), 9, []⟩,
⟨(some 27), (some (20, true)), (.p (.bin .sub (.tmp 26) (.c (.int .i64 1)))), 10, []⟩,
⟨(some 28), (some (20, true)), (.p (.idxSl 1 (.tmp 25) (.tmp 27))), 11, []⟩,
⟨(some 29), (some (20, true)), (.r (.load 1 false (.tmp 28))), 12, []⟩,
⟨(some 30), (some (20, true)), (.h (.call (.c (.fn 71 [] [])) [(.tmp 24), (.tmp 29)])), 13, []⟩,
⟨(some 31), (some (20, true)), (.p (.un .not (.tmp 30))), 14, []⟩,
⟨(some 32), none, (.p (.pick (.tmp 20) (.tmp 31) (.c (.bool false)))), 15, []⟩])
(.cond (.tmp 32)
.skip
(.exit 2)))
(.block 3 (.ops [⟨(some 33), none, (.p (.mv (.tmp 7))), 0, []⟩,
⟨(some 34), none, (.p (.bin .add (.tmp 33) (.c (.int .i64 1)))), 0, []⟩,
⟨(some 7), none, (.p (.mv (.tmp 34))), 0, []⟩])))))
(.seq
(.seq
(.ops [⟨(some 35), none, (.p (.mv (.tmp 7))), 0, []⟩,
⟨(some 36), none, (.p (.mv (.tmp 2))), 0, []⟩,
⟨(some 37), none, (.p (.bin .eql (.tmp 35) (.tmp 36))), 0, []⟩])
(.cond (.tmp 37)
(.seq
(.ops [⟨(some 6), none, (.p (.mv (.c (.bool true)))), 0, []⟩])
.ret)
.skip))
(.seq
(.seq
(.ops [⟨(some 38), none, (.p (.mv (.tmp 2))), 0, []⟩,
⟨(some 39), none, (.p (.mv (.tmp 1))), 0, []⟩,
⟨(some 40), none, (.p (.bin .sub (.tmp 38) (.tmp 39))), 0, []⟩,
⟨(some 41), none, (.p (.bin .lss (.tmp 40) (.c (.int .i64 50)))), 0, []⟩])
(.cond (.tmp 41)
(.seq
(.ops [⟨(some 6), none, (.p (.mv (.c (.bool false)))), 0, []⟩])
.ret)
.skip))
(.seq
(.draw [⟨(some 42), none, (.p (.mv (.tmp 0))), 0, []⟩,
⟨(some 43), none, (.p (.mv (.tmp 7))), 1, []⟩,
⟨(some 44), none, (.p (.mv (.tmp 0))), 2, []⟩,
⟨(some 45), none, (.p (.mv (.tmp 7))), 3, []⟩,
⟨(some 46), none, (.p (.bin .sub (.tmp 45) (.c (.int .i64 1)))), 4, []⟩,
⟨(some 47), none, (.p (.mv (.tmp 0))), 5, []⟩,
⟨(some 48), none, (.p (.mv (.tmp 7))), 6, []⟩,
⟨(some 49), none, (.p (.bin .sub (.tmp 48) (.c (.int .i64 1)))), 7, []⟩,
⟨(some 50), none, (.p (.idxSl 1 (.tmp 47) (.tmp 49))), 8, []⟩,
⟨(some 51), none, (.r (.load 1 false (.tmp 50))), 9, []⟩,
⟨(some 52), none, (.p (.mv (.tmp 0))), 10, []⟩,
⟨(some 53), none, (.p (.mv (.tmp 7))), 11, []⟩,
⟨(some 54), none, (.p (.idxSl 1 (.tmp 52) (.tmp 53))), 12, []⟩,
⟨(some 55), none, (.r (.load 1 false (.tmp 54))), 13, []⟩,
⟨(some 56), none, (.p (.idxSl 1 (.tmp 42) (.tmp 43))), 14, []⟩,
⟨none, none, (.h (.store 1 (.tmp 56) (.tmp 51))), 15, []⟩,
⟨(some 57), none, (.p (.idxSl 1 (.tmp 44) (.tmp 46))), 16, []⟩,
⟨none, none, (.h (.store 1 (.tmp 57) (.tmp 55))), 17, []⟩])
(.seq
(.seq
(.ops [⟨(some 58), none, (.p (.mv (.tmp 7))), 0, []⟩,
⟨(some 59), none, (.p (.mv (.tmp 1))), 0, []⟩,
⟨(some 60), none, (.p (.bin .sub (.tmp 58) (.tmp 59))), 0, []⟩,
⟨(some 61), none, (.p (.bin .geq (.tmp 60) (.c (.int .i64 2)))), 0, []⟩])
(.cond (.tmp 61)
(.seq
(.ops [⟨(some 62), none, (.p (.mv (.tmp 7))), 0, []⟩,
⟨(some 63), none, (.p (.bin .sub (.tmp 62) (.c (.int .i64 1)))), 0, []⟩,
⟨(some 9), none, (.p (.mv (.tmp 63))), 0, []⟩])
(.block 4 (.loop (.seq
(.seq
(.ops [⟨(some 64), none, (.p (.mv (.tmp 9))), 0, []⟩,
⟨(some 65), none, (.p (.bin .geq (.tmp 64) (.c (.int .i64 1)))), 0, []⟩])
(.cond (.tmp 65)
.skip
(.exit 4)))
(.seq
(.block 5 (.seq
(.seq
(.draw [⟨(some 68), none, (.p (.mv (.tmp 0))), 0, []⟩,
⟨(some 69), none, (.p (.mv (.tmp 9))), 1, []⟩,
⟨(some 70), none, (.p (.idxSl 1 (.tmp 68) (.tmp 69))), 2, []⟩,
⟨(some 71), none, (.r (.load 1 false (.tmp 70))), 3, []⟩,
⟨(some 72), none, (.p (.mv (.tmp 0))), 4, []⟩,
⟨(some 73), none, (.p (.mv (.tmp 9))), 5, []⟩,
⟨(some 74), none, (.p (.bin .sub (.tmp 73) (.c (.int .i64 1)))), 6, []⟩,
⟨(some 75), none, (.p (.idxSl 1 (.tmp 72) (.tmp 74))), 7, []⟩,
⟨(some 76), none, (.r (.load 1 false (.tmp 75))), 8, []⟩,
⟨(some 77), none, (.h (.call (.c (.fn 71 [] [])) [(.tmp 71), (.tmp 76)])), 9, []⟩,
⟨(some 78), none, (.p (.un .not (.tmp 77))), 10, []⟩])
(.cond (.tmp 78)
(.exit 4)
.skip))
(.draw [⟨(some 79), none, (.p (.mv (.tmp 0))), 0, []⟩,
⟨(some 80), none, (.p (.mv (.tmp 9))), 1, []⟩,
⟨(some 81), none, (.p (.mv (.tmp 0))), 2, []⟩,
⟨(some 82), none, (.p (.mv (.tmp 9))), 3, []⟩,
⟨(some 83), none, (.p (.bin .sub (.tmp 82) (.c (.int .i64 1)))), 4, []⟩,
⟨(some 84), none, (.p (.mv (.tmp 0))), 5, []⟩,
⟨(some 85), none, (.p (.mv (.tmp 9))), 6, []⟩,
⟨(some 86), none, (.p (.bin .sub (.tmp 85) (.c (.int .i64 1)))), 7, []⟩,
⟨(some 87), none, (.p (.idxSl 1 (.tmp 84) (.tmp 86))), 8, []⟩,
⟨(some 88), none, (.r (.load 1 false (.tmp 87))), 9, []⟩,
⟨(some 89), none, (.p (.mv (.tmp 0))), 10, []⟩,
⟨(some 90), none, (.p (.mv (.tmp 9))), 11, []⟩,
⟨(some 91), none, (.p (.idxSl 1 (.tmp 89) (.tmp 90))), 12, []⟩,
⟨(some 92), none, (.r (.load 1 false (.tmp 91))), 13, []⟩,
⟨(some 93), none, (.p (.idxSl 1 (.tmp 79) (.tmp 80))), 14, []⟩,
⟨none, none, (.h (.store 1 (.tmp 93) (.tmp 88))), 15, []⟩,
⟨(some 94), none, (.p (.idxSl 1 (.tmp 81) (.tmp 83))), 16, []⟩,
⟨none, none, (.h (.store 1 (.tmp 94) (.tmp 92))), 17, []⟩])))
(.ops [⟨(some 66), none, (.p (.mv (.tmp 9))), 0, []⟩,
⟨(some 67), none, (.p (.bin .sub (.tmp 66) (.c (.int .i64 1)))), 0, []⟩,
⟨(some 9), none, (.p (.mv (.tmp 67))), 0, []⟩]))))))
.skip))
(.seq
(.ops [⟨(some 95), none, (.p (.mv (.tmp 2))), 0, []⟩,
⟨(some 96), none, (.p (.mv (.tmp 7))), 0, []⟩,
⟨(some 97), none, (.p (.bin .sub (.tmp 95) (.tmp 96))), 0, []⟩,
⟨(some 98), none, (.p (.bin .geq (.tmp 97) (.c (.int .i64 2)))), 0, []⟩])
(.cond (.tmp 98)
(.seq
(.ops [⟨(some 99), none, (.p (.mv (.tmp 7))), 0, []⟩,
⟨(some 100), none, (.p (.bin .add (.tmp 99) (.c (.int .i64 1)))), 0, []⟩,
⟨(some 10), none, (.p (.mv (.tmp 100))), 0, []⟩])
(.block 6 (.loop (.seq
(.seq
(.ops [⟨(some 101), none, (.p (.mv (.tmp 10))), 0, []⟩,
⟨(some 102), none, (.p (.mv (.tmp 2))), 0, []⟩,
⟨(some 103), none, (.p (.bin .lss (.tmp 101) (.tmp 102))), 0, []⟩])
(.cond (.tmp 103)
.skip
(.exit 6)))
(.seq
(.block 7 (.seq
(.seq
(.draw [⟨(some 106), none, (.p (.mv (.tmp 0))), 0, []⟩,
⟨(some 107), none, (.p (.mv (.tmp 10))), 1, []⟩,
⟨(some 108), none, (.p (.idxSl 1 (.tmp 106) (.tmp 107))), 2, []⟩,
⟨(some 109), none, (.r (.load 1 false (.tmp 108))), 3, []⟩,
⟨(some 110), none, (.p (.mv (.tmp 0))), 4, []⟩,
⟨(some 111), none, (.p (.mv (.tmp 10))), 5, []⟩,
⟨(some 112), none, (.p (.bin .sub (.tmp 111) (.c (.int .i64 1)))), 6, []⟩,
⟨(some 113), none, (.p (.idxSl 1 (.tmp 110) (.tmp 112))), 7, []⟩,
⟨(some 114), none, (.r (.load 1 false (.tmp 113))), 8, []⟩,
⟨(some 115), none, (.h (.call (.c (.fn 71 [] [])) [(.tmp 109), (.tmp 114)])), 9, []⟩,
⟨(some 116), none, (.p (.un .not (.tmp 115))), 10, []⟩])
(.cond (.tmp 116)
(.exit 6)
.skip))
(.draw [⟨(some 117), none, (.p (.mv (.tmp 0))), 0, []⟩,
⟨(some 118), none, (.p (.mv (.tmp 10))), 1, []⟩,
⟨(some 119), none, (.p (.mv (.tmp 0))), 2, []⟩,
⟨(some 120), none, (.p (.mv (.tmp 10))), 3, []⟩,
⟨(some 121), none, (.p (.bin .sub (.tmp 120) (.c (.int .i64 1)))), 4, []⟩,
⟨(some 122), none, (.p (.mv (.tmp 0))), 5, []⟩,
⟨(some 123), none, (.p (.mv (.tmp 10))), 6, []⟩,
⟨(some 124), none, (.p (.bin .sub (.tmp 123) (.c (.int .i64 1)))), 7, []⟩,
⟨(some 125), none, (.p (.idxSl 1 (.tmp 122) (.tmp 124))), 8, []⟩,
⟨(some 126), none, (.r (.load 1 false (.tmp 125))), 9, []⟩,
⟨(some 127), none, (.p (.mv (.tmp 0))), 10, []⟩,
⟨(some 128), none, (.p (.mv (.tmp 10))), 11, []⟩,
⟨(some 129), none, (.p (.idxSl 1 (.tmp 127) (.tmp 128))), 12, []⟩,
⟨(some 130), none, (.r (.load 1 false (.tmp 129))), 13, []⟩,
⟨(some 131), none, (.p (.idxSl 1 (.tmp 117) (.tmp 118))), 14, []⟩,
⟨none, none, (.h (.store 1 (.tmp 131) (.tmp 126))), 15, []⟩,
⟨(some 132), none, (.p (.idxSl 1 (.tmp 119) (.tmp 121))), 16, []⟩,
⟨none, none, (.h (.store 1 (.tmp 132) (.tmp 130))), 17, []⟩])))
(.ops [⟨(some 104), none, (.p (.mv (.tmp 10))), 0, []⟩,
⟨(some 105), none, (.p (.bin .add (.tmp 104) (.c (.int .i64 1)))), 0, []⟩,
⟨(some 10), none, (.p (.mv (.tmp 105))), 0, []⟩]))))))
.skip))))))))
(.ops [⟨(some 15), none, (.p (.mv (.tmp 8))), 0, []⟩,
⟨(some 16), none, (.p (.bin .add (.tmp 15) (.c (.int .i64 1)))), 0, []⟩,
⟨(some 8), none, (.p (.mv (.tmp 16))), 0, []⟩]))))))
(.seq
(.ops [⟨(some 6), none, (.p (.mv (.c (.bool false)))), 0, []⟩])
.ret))))⟩
theorem c70 : Mir.compF Tryz.prog Tryz.f70 = some g70 := by kernel_rfl
/-- cmp.Less[string] -/
def g71 : Mir.Fn := ⟨17, [(.tmp 4)],
(.seq
(.ops [⟨(some 4), none, (.p (.mv (.c (.bool false)))), 0, []⟩])
(.seq
(.ops [⟨(some 5), none, (.p (.mv (.tmp 0))), 0, []⟩,
⟨(some 6), none, (.h (.call (.c (.fn 93 [] [])) [(.tmp 5)])), 0, []⟩,
⟨(some 7), none, (.p (.mv (.tmp 6))), 0, []⟩,
⟨(some 8), (some (7, true)), (.p (.mv (.tmp 1))), 0, []⟩,
⟨(some 9), (some (7, true)), (.h (.call (.c (.fn 93 [] [])) [(.tmp 8)])), 0, []⟩,
⟨(some 10), (some (7, true)), (.p (.un .not (.tmp 9))), 0, []⟩,
⟨(some 11), none, (.p (.pick (.tmp 7) (.tmp 10) (.c (.bool false)))), 0, []⟩,
⟨(some 12), none, (.p (.mv (.tmp 11))), 0, []⟩,
⟨(some 13), (some (12, false)), (.p (.mv (.tmp 0))), 0, []⟩,
⟨(some 14), (some (12, false)), (.p (.mv (.tmp 1))), 0, []⟩,
⟨(some 15), (some (12, false)), (.p (.bin .lss (.tmp 13) (.tmp 14))), 0, []⟩,
⟨(some 16), none, (.p (.pick (.tmp 12) (.c (.bool true)) (.tmp 15))), 0, []⟩,
⟨(some 4), none, (.p (.mv (.tmp 16))), 0, []⟩])
.ret))⟩
theorem c71 : Mir.compF Tryz.prog Tryz.f71 = some g71 := by kernel_rfl
/-- slices.partitionEqualOrdered[string] -/
def g72 : Mir.Fn := ⟨84, [(.tmp 8)],
(.seq
(.ops [⟨(some 8), none, (.p (.mv (.c (.int .i64 0)))), 0, []⟩])
(.seq
(.draw [⟨(some 11), none, (.p (.mv (.tmp 0))), 0, []⟩,
⟨(some 12), none, (.p (.mv (.tmp 1))), 1, []⟩,
⟨(some 13), none, (.p (.mv (.tmp 0))), 2, []⟩,
⟨(some 14), none, (.p (.mv (.tmp 3))), 3, []⟩,
⟨(some 15), none, (.p (.mv (.tmp 0))), 4, []⟩,
⟨(some 16), none, (.p (.mv (.tmp 3))), 5, []⟩,
⟨(some 17), none, (.p (.idxSl 1 (.tmp 15) (.tmp 16))), 6, []⟩,
⟨(some 18), none, (.r (.load 1 false (.tmp 17))), 7, []⟩,
⟨(some 19), none, (.p (.mv (.tmp 0))), 8, []⟩,
⟨(some 20), none, (.p (.mv (.tmp 1))), 9, []⟩,
⟨(some 21), none, (.p (.idxSl 1 (.tmp 19) (.tmp 20))), 10, []⟩,
⟨(some 22), none, (.r (.load 1 false (.tmp 21))), 11, []⟩,
⟨(some 23), none, (.p (.idxSl 1 (.tmp 11) (.tmp 12))), 12, []⟩,
⟨none, none, (.h (.store 1 (.tmp 23) (.tmp 18))), 13, []⟩,
⟨(some 24), none, (.p (.idxSl 1 (.tmp 13) (.tmp 14))), 14, []⟩,
⟨none, none, (.h (.store 1 (.tmp 24) (.tmp 22))), 15, []⟩])
(.seq
(.ops [⟨(some 25), none, (.p (.mv (.tmp 1))), 0, []⟩,
⟨(some 26), none, (.p (.bin .add (.tmp 25) (.c (.int .i64 1)))), 0, []⟩,
⟨(some 27), none, (.p (.mv (.tmp 2))), 0, []⟩,
⟨(some 28), none, (.p (.bin .sub (.tmp 27) (.c (.int .i64 1)))), 0, []⟩,
⟨(some 9), none, (.p (.mv (.tmp 26))), 0, []⟩,
⟨(some 10), none, (.p (.mv (.tmp 28))), 0, []⟩])
(.seq
(.block 0 (.loop (.block 1 (.seq
(.block 2 (.loop (.seq
(.seq
(.draw [⟨(some 29), none, (.p (.mv (.tmp 9))), 0, []⟩,
⟨(some 30), none, (.p (.mv (.tmp 10))), 1, []⟩,
⟨(some 31), none, (.p (.bin .leq (.tmp 29) (.tmp 30))), 2, []⟩,
⟨(some 32), none, (.p (.mv (.tmp 31))), 3, []⟩,
⟨(some 33), (some (32, true)), (.p (.mv (.tmp 0))), 4, []⟩,
⟨(some 34), (some (32, true)), (.p (.mv (.tmp 1))), 5, []⟩,
⟨(some 35), (some (32, true)), (.p (.idxSl 1 (.tmp 33) (.tmp 34))), 6, []⟩,
⟨(some 36), (some (32, true)), (.r (.load 1 false (.tmp 35))), 7, []⟩,
⟨(some 37), (some (32, true)), (.p (.mv (.tmp 0))), 8, []⟩,
⟨(some 38), (some (32, true)), (.p (.mv (.tmp 9))), 9, []⟩,
⟨(some 39), (some (32, true)), (.p (.idxSl 1 (.tmp 37) (.tmp 38))), 10, []⟩,
⟨(some 40), (some (32, true)), (.r (.load 1 false (.tmp 39))), 11, []⟩,
⟨(some 41), (some (32, true)), (.h (.call (.c (.fn 71 [] [])) [(.tmp 36), (.tmp 40)])), 12, []⟩,
⟨(some 42), (some (32, true)), (.p (.un .not (.tmp 41))), 13, []⟩,
⟨(some 43), none, (.p (.pick (.tmp 32) (.tmp 42) (.c (.bool false)))), 14, []⟩])
(.cond (.tmp 43)
.skip
(.exit 2)))
(.block 3 (.ops [⟨(some 44), none, (.p (.mv (.tmp 9))), 0, []⟩,
⟨(some 45), none, (.p (.bin .add (.tmp 44) (.c (.int .i64 1)))), 0, []⟩,
⟨(some 9), none, (.p (.mv (.tmp 45))), 0, []⟩])))))
(.seq
(.block 4 (.loop (.seq
(.seq
(.draw [⟨(some 46), none, (.p (.mv (.tmp 9))), 0, []⟩,
⟨(some 47), none, (.p (.mv (.tmp 10))), 1, []⟩,
⟨(some 48), none, (.p (.bin .leq (.tmp 46) (.tmp 47))), 2, []⟩,
⟨(some 49), none, (.p (.mv (.tmp 48))), 3, []⟩,
⟨(some 50), (some (49, true)), (.p (.mv (.tmp 0))), 4, []⟩,
⟨(some 51), (some (49, true)), (.p (.mv (.tmp 1))), 5, []⟩,
⟨(some 52), (some (49, true)), (.p (.idxSl 1 (.tmp 50) (.tmp 51))), 6, []⟩,
⟨(some 53), (some (49, true)), (.r (.load 1 false (.tmp 52))), 7, []⟩,
⟨(some 54), (some (49, true)), (.p (.mv (.tmp 0))), 8, []⟩,
⟨(some 55), (some (49, true)), (.p (.mv (.tmp 10))), 9, []⟩,
⟨(some 56), (some (49, true)), (.p (.idxSl 1 (.tmp 54) (.tmp 55))), 10, []⟩,
⟨(some 57), (some (49, true)), (.r (.load 1 false (.tmp 56))), 11, []⟩,
⟨(some 58), (some (49, true)), (.h (.call (.c (.fn 71 [] [])) [(.tmp 53), (.tmp 57)])), 12, []⟩,
⟨(some 59), none, (.p (.pick (.tmp 49) (.tmp 58) (.c (.bool false)))), 13, []⟩])
(.cond (.tmp 59)
.skip
(.exit 4)))
(.block 5 (.ops [⟨(some 60), none, (.p (.mv (.tmp 10))), 0, []⟩,
⟨(some 61), none, (.p (.bin .sub (.tmp 60) (.c (.int .i64 1)))), 0, []⟩,
⟨(some 10), none, (.p (.mv (.tmp 61))), 0, []⟩])))))
(.seq
(.seq
(.ops [⟨(some 62), none, (.p (.mv (.tmp 9))), 0, []⟩,
⟨(some 63), none, (.p (.mv (.tmp 10))), 0, []⟩,
⟨(some 64), none, (.p (.bin .gtr (.tmp 62) (.tmp 63))), 0, []⟩])
(.cond (.tmp 64)
(.exit 0)
.skip))
(.seq
(.draw [⟨(some 65), none, (.p (.mv (.tmp 0))), 0, []⟩,
⟨(some 66), none, (.p (.mv (.tmp 9))), 1, []⟩,
⟨(some 67), none, (.p (.mv (.tmp 0))), 2, []⟩,
⟨(some 68), none, (.p (.mv (.tmp 10))), 3, []⟩,
⟨(some 69), none, (.p (.mv (.tmp 0))), 4, []⟩,
⟨(some 70), none, (.p (.mv (.tmp 10))), 5, []⟩,
⟨(some 71), none, (.p (.idxSl 1 (.tmp 69) (.tmp 70))), 6, []⟩,
⟨(some 72), none, (.r (.load 1 false (.tmp 71))), 7, []⟩,
⟨(some 73), none, (.p (.mv (.tmp 0))), 8, []⟩,
⟨(some 74), none, (.p (.mv (.tmp 9))), 9, []⟩,
⟨(some 75), none, (.p (.idxSl 1 (.tmp 73) (.tmp 74))), 10, []⟩,
⟨(some 76), none, (.r (.load 1 false (.tmp 75))), 11, []⟩,
⟨(some 77), none, (.p (.idxSl 1 (.tmp 65) (.tmp 66))), 12, []⟩,
⟨none, none, (.h (.store 1 (.tmp 77) (.tmp 72))), 13, []⟩,
⟨(some 78), none, (.p (.idxSl 1 (.tmp 67) (.tmp 68))), 14, []⟩,
⟨none, none, (.h (.store 1 (.tmp 78) (.tmp 76))), 15, []⟩])
(.seq
(.ops [⟨(some 79), none, (.p (.mv (.tmp 9))), 0, []⟩,
⟨(some 80), none, (.p (.bin .add (.tmp 79) (.c (.int .i64 1)))), 0, []⟩,
⟨(some 9), none, (.p (.mv (.tmp 80))), 0, []⟩])
(.ops [⟨(some 81), none, (.p (.mv (.tmp 10))), 0, []⟩,
⟨(some 82), none, (.p (.bin .sub (.tmp 81) (.c (.int .i64 1)))), 0, []⟩,
⟨(some 10), none, (.p (.mv (.tmp 82))), 0, []⟩])))))))))
(.seq
(.ops [⟨(some 83), none, (.p (.mv (.tmp 9))), 0, []⟩,
⟨(some 8), none, (.p (.mv (.tmp 83))), 0, []⟩])
.ret)))))⟩
theorem c72 : Mir.compF Tryz.prog Tryz.f72 = some g72 := by kernel_rfl
/-- slices.partitionOrdered[string] -/
def g73 : Mir.Fn := ⟨168, [(.tmp 8), (.tmp 9)],
(.seq
(.ops [⟨(some 8), none, (.p (.mv (.c (.int .i64 0)))), 0, []⟩,
⟨(some 9), none, (.p (.mv (.c (.bool false)))), 0, []⟩])
(.seq
(.draw [⟨(some 12), none, (.p (.mv (.tmp 0))), 0, []⟩,
⟨(some 13), none, (.p (.mv (.tmp 1))), 1, []⟩,
⟨(some 14), none, (.p (.mv (.tmp 0))), 2, []⟩,
⟨(some 15), none, (.p (.mv (.tmp 3))), 3, []⟩,
⟨(some 16), none, (.p (.mv (.tmp 0))), 4, []⟩,
⟨(some 17), none, (.p (.mv (.tmp 3))), 5, []⟩,
⟨(some 18), none, (.p (.idxSl 1 (.tmp 16) (.tmp 17))), 6, []⟩,
⟨(some 19), none, (.r (.load 1 false (.tmp 18))), 7, []⟩,
⟨(some 20), none, (.p (.mv (.tmp 0))), 8, []⟩,
⟨(some 21), none, (.p (.mv (.tmp 1))), 9, []⟩,
⟨(some 22), none, (.p (.idxSl 1 (.tmp 20) (.tmp 21))), 10, []⟩,
⟨(some 23), none, (.r (.load 1 false (.tmp 22))), 11, []⟩,
⟨(some 24), none, (.p (.idxSl 1 (.tmp 12) (.tmp 13))), 12, []⟩,
⟨none, none, (.h (.store 1 (.tmp 24) (.tmp 19))), 13, []⟩,
⟨(some 25), none, (.p (.idxSl 1 (.tmp 14) (.tmp 15))), 14, []⟩,
⟨none, none, (.h (.store 1 (.tmp 25) (.tmp 23))), 15, []⟩])
(.seq
(.ops [⟨(some 26), none, (.p (.mv (.tmp 1))), 0, []⟩,
⟨(some 27), none, (.p (.bin .add (.tmp 26) (.c (.int .i64 1)))), 0, []⟩,
⟨(some 28), none, (.p (.mv (.tmp 2))), 0, []⟩,
⟨(some 29), none, (.p (.bin .sub (.tmp 28) (.c (.int .i64 1)))), 0, []⟩,
⟨(some 10), none, (.p (.mv (.tmp 27))), 0, []⟩,
⟨(some 11), none, (.p (.mv (.tmp 29))), 0, []⟩])
(.seq
(.block 0 (.loop (.seq
(.seq
(.draw [⟨(some 30), none, (.p (.mv (.tmp 10))), 0, []⟩,
⟨(some 31), none, (.p (.mv (.tmp 11))), 1, []⟩,
⟨(some 32), none, (.p (.bin .leq (.tmp 30) (.tmp 31))), 2, []⟩,
⟨(some 33), none, (.p (.mv (.tmp 32))), 3, []⟩,
⟨(some 34), (some (33, true)), (.p (.mv (.tmp 0))), 4, []⟩,
⟨(some 35), (some (33, true)), (.p (.mv (.tmp 10))), 5, []⟩,
⟨(some 36), (some (33, true)), (.p (.idxSl 1 (.tmp 34) (.tmp 35))), 6, []⟩,
⟨(some 37), (some (33, true)), (.r (.load 1 false (.tmp 36))), 7, []⟩,
⟨(some 38), (some (33, true)), (.p (.mv (.tmp 0))), 8, []⟩,
⟨(some 39), (some (33, true)), (.p (.mv (.tmp 1))), 9, []⟩,
⟨(some 40), (some (33, true)), (.p (.idxSl 1 (.tmp 38) (.tmp 39))), 10, []⟩,
⟨(some 41), (some (33, true)), (.r (.load 1 false (.tmp 40))), 11, []⟩,
⟨(some 42), (some (33, true)), (.h (.call (.c (.fn 71 [] [])) [(.tmp 37), (.tmp 41)])), 12, []⟩,
⟨(some 43), none, (.p (.pick (.tmp 33) (.tmp 42) (.c (.bool false)))), 13, []⟩])
(.cond (.tmp 43)
.skip
(.exit 0)))
(.block 1 (.ops [⟨(some 44), none, (.p (.mv (.tmp 10))), 0, []⟩,
⟨(some 45), none, (.p (.bin .add (.tmp 44) (.c (.int .i64 1)))), 0, []⟩,
⟨(some 10), none, (.p (.mv (.tmp 45))), 0, []⟩])))))
(.seq
(.block 2 (.loop (.seq
(.seq
(.draw [⟨(some 46), none, (.p (.mv (.tmp 10))), 0, []⟩,
⟨(some 47), none, (.p (.mv (.tmp 11))), 1, []⟩,
⟨(some 48), none, (.p (.bin .leq (.tmp 46) (.tmp 47))), 2, []⟩,
⟨(some 49), none, (.p (.mv (.tmp 48))), 3, []⟩,
⟨(some 50), (some (49, true)), (.p (.mv (.tmp 0))), 4, []⟩,
⟨(some 51), (some (49, true)), (.p (.mv (.tmp 11))), 5, []⟩,
⟨(some 52), (some (49, true)), (.p (.idxSl 1 (.tmp 50) (.tmp 51))), 6, []⟩,
⟨(some 53), (some (49, true)), (.r (.load 1 false (.tmp 52))), 7, []⟩,
⟨(some 54), (some (49, true)), (.p (.mv (.tmp 0))), 8, []⟩,
⟨(some 55), (some (49, true)), (.p (.mv (.tmp 1))), 9, []⟩,
⟨(some 56), (some (49, true)), (.p (.idxSl 1 (.tmp 54) (.tmp 55))), 10, []⟩,
⟨(some 57), (some (49, true)), (.r (.load 1 false (.tmp 56))), 11, []⟩,
⟨(some 58), (some (49, true)), (.h (.call (.c (.fn 71 [] [])) [(.tmp 53), (.tmp 57)])), 12, []⟩,
⟨(some 59), (some (49, true)), (.p (.un .not (.tmp 58))), 13, []⟩,
⟨(some 60), none, (.p (.pick (.tmp 49) (.tmp 59) (.c (.bool false)))), 14, []⟩])
(.cond (.tmp 60)
.skip
(.exit 2)))
(.block 3 (.ops [⟨(some 61), none, (.p (.mv (.tmp 11))), 0, []⟩,
⟨(some 62), none, (.p (.bin .sub (.tmp 61) (.c (.int .i64 1)))), 0, []⟩,
⟨(some 11), none, (.p (.mv (.tmp 62))), 0, []⟩])))))
(.seq
(.seq
(.ops [⟨(some 63), none, (.p (.mv (.tmp 10))), 0, []⟩,
⟨(some 64), none, (.p (.mv (.tmp 11))), 0, []⟩,
⟨(some 65), none, (.p (.bin .gtr (.tmp 63) (.tmp 64))), 0, []⟩])
(.cond (.tmp 65)
(.seq
(.draw [⟨(some 66), none, (.p (.mv (.tmp 0))), 0, []⟩,
⟨(some 67), none, (.p (.mv (.tmp 11))), 1, []⟩,
⟨(some 68), none, (.p (.mv (.tmp 0))), 2, []⟩,
⟨(some 69), none, (.p (.mv (.tmp 1))), 3, []⟩,
⟨(some 70), none, (.p (.mv (.tmp 0))), 4, []⟩,
⟨(some 71), none, (.p (.mv (.tmp 1))), 5, []⟩,
⟨(some 72), none, (.p (.idxSl 1 (.tmp 70) (.tmp 71))), 6, []⟩,
⟨(some 73), none, (.r (.load 1 false (.tmp 72))), 7, []⟩,
⟨(some 74), none, (.p (.mv (.tmp 0))), 8, []⟩,
⟨(some 75), none, (.p (.mv (.tmp 11))), 9, []⟩,
⟨(some 76), none, (.p (.idxSl 1 (.tmp 74) (.tmp 75))), 10, []⟩,
⟨(some 77), none, (.r (.load 1 false (.tmp 76))), 11, []⟩,
⟨(some 78), none, (.p (.idxSl 1 (.tmp 66) (.tmp 67))), 12, []⟩,
⟨none, none, (.h (.store 1 (.tmp 78) (.tmp 73))), 13, []⟩,
⟨(some 79), none, (.p (.idxSl 1 (.tmp 68) (.tmp 69))), 14, []⟩,
⟨none, none, (.h (.store 1 (.tmp 79) (.tmp 77))), 15, []⟩])
(.seq
(.ops [⟨(some 80), none, (.p (.mv (.tmp 11))), 0, []⟩,
⟨(some 8), none, (.p (.mv (.tmp 80))), 0, []⟩,
⟨(some 9), none, (.p (.mv (.c (.bool true)))), 0, []⟩])
.ret))
.skip))
(.seq
(.draw [⟨(some 81), none, (.p (.mv (.tmp 0))), 0, []⟩,
⟨(some 82), none, (.p (.mv (.tmp 10))), 1, []⟩,
⟨(some 83), none, (.p (.mv (.tmp 0))), 2, []⟩,
⟨(some 84), none, (.p (.mv (.tmp 11))), 3, []⟩,
⟨(some 85), none, (.p (.mv (.tmp 0))), 4, []⟩,
⟨(some 86), none, (.p (.mv (.tmp 11))), 5, []⟩,
⟨(some 87), none, (.p (.idxSl 1 (.tmp 85) (.tmp 86))), 6, []⟩,
⟨(some 88), none, (.r (.load 1 false (.tmp 87))), 7, []⟩,
⟨(some 89), none, (.p (.mv (.tmp 0))), 8, []⟩,
⟨(some 90), none, (.p (.mv (.tmp 10))), 9, []⟩,
⟨(some 91), none, (.p (.idxSl 1 (.tmp 89) (.tmp 90))), 10, []⟩,
⟨(some 92), none, (.r (.load 1 false (.tmp 91))), 11, []⟩,
⟨(some 93), none, (.p (.idxSl 1 (.tmp 81) (.tmp 82))), 12, []⟩,
⟨none, none, (.h (.store 1 (.tmp 93) (.tmp 88))), 13, []⟩,
⟨(some 94), none, (.p (.idxSl 1 (.tmp 83) (.tmp 84))), 14, []⟩,
⟨none, none, (.h (.store 1 (.tmp 94) (.tmp 92))), 15, []⟩])
(.seq
(.ops [⟨(some 95), none, (.p (.mv (.tmp 10))), 0, []⟩,
⟨(some 96), none, (.p (.bin .add (.tmp 95) (.c (.int .i64 1)))), 0, []⟩,
⟨(some 10), none, (.p (.mv (.tmp 96))), 0, []⟩])
(.seq
(.ops [⟨(some 97), none, (.p (.mv (.tmp 11))), 0, []⟩,
⟨(some 98), none, (.p (.bin .sub (.tmp 97) (.c (.int .i64 1)))), 0, []⟩,
⟨(some 11), none, (.p (.mv (.tmp 98))), 0, []⟩])
(.seq
(.block 4 (.loop (.block 5 (.seq
(.block 6 (.loop (.seq
(.seq
(.draw [⟨(some 99), none, (.p (.mv (.tmp 10))), 0, []⟩,
⟨(some 100), none, (.p (.mv (.tmp 11))), 1, []⟩,
⟨(some 101), none, (.p (.bin .leq (.tmp 99) (.tmp 100))), 2, []⟩,
⟨(some 102), none, (.p (.mv (.tmp 101))), 3, []⟩,
⟨(some 103), (some (102, true)), (.p (.mv (.tmp 0))), 4, []⟩,
⟨(some 104), (some (102, true)), (.p (.mv (.tmp 10))), 5, []⟩,
⟨(some 105), (some (102, true)), (.p (.idxSl 1 (.tmp 103) (.tmp 104))), 6, []⟩,
⟨(some 106), (some (102, true)), (.r (.load 1 false (.tmp 105))), 7, []⟩,
⟨(some 107), (some (102, true)), (.p (.mv (.tmp 0))), 8, []⟩,
⟨(some 108), (some (102, true)), (.p (.mv (.tmp 1))), 9, []⟩,
⟨(some 109), (some (102, true)), (.p (.idxSl 1 (.tmp 107) (.tmp 108))), 10, []⟩,
⟨(some 110), (some (102, true)), (.r (.load 1 false (.tmp 109))), 11, []⟩,
⟨(some 111), (some (102, true)), (.h (.call (.c (.fn 71 [] [])) [(.tmp 106), (.tmp 110)])), 12, []⟩,
⟨(some 112), none, (.p (.pick (.tmp 102) (.tmp 111) (.c (.bool false)))), 13, []⟩])
(.cond (.tmp 112)
.skip
(.exit 6)))
(.block 7 (.ops [⟨(some 113), none, (.p (.mv (.tmp 10))), 0, []⟩,
⟨(some 114), none, (.p (.bin .add (.tmp 113) (.c (.int .i64 1)))), 0, []⟩,
⟨(some 10), none, (.p (.mv (.tmp 114))), 0, []⟩])))))
(.seq
(.block 8 (.loop (.seq
(.seq
(.draw [⟨(some 115), none, (.p (.mv (.tmp 10))), 0, []⟩,
⟨(some 116), none, (.p (.mv (.tmp 11))), 1, []⟩,
⟨(some 117), none, (.p (.bin .leq (.tmp 115) (.tmp 116))), 2, []⟩,
⟨(some 118), none, (.p (.mv (.tmp 117))), 3, []⟩,
⟨(some 119), (some (118, true)), (.p (.mv (.tmp 0))), 4, []⟩,
⟨(some 120), (some (118, true)), (.p (.mv (.tmp 11))), 5, []⟩,
⟨(some 121), (some (118, true)), (.p (.idxSl 1 (.tmp 119) (.tmp 120))), 6, []⟩,
⟨(some 122), (some (118, true)), (.r (.load 1 false (.tmp 121))), 7, []⟩,
⟨(some 123), (some (118, true)), (.p (.mv (.tmp 0))), 8, []⟩,
⟨(some 124), (some (118, true)), (.p (.mv (.tmp 1))), 9, []⟩,
⟨(some 125), (some (118, true)), (.p (.idxSl 1 (.tmp 123) (.tmp 124))), 10, []⟩,
⟨(some 126), (some (118, true)), (.r (.load 1 false (.tmp 125))), 11, []⟩,
⟨(some 127), (some (118, true)), (.h (.call (.c (.fn 71 [] [])) [(.tmp 122), (.tmp 126)])), 12, []⟩,
⟨(some 128), (some (118, true)), (.p (.un .not (.tmp 127))), 13, []⟩,
⟨(some 129), none, (.p (.pick (.tmp 118) (.tmp 128) (.c (.bool false)))), 14, []⟩])
(.cond (.tmp 129)
.skip
(.exit 8)))
(.block 9 (.ops [⟨(some 130), none, (.p (.mv (.tmp 11))), 0, []⟩,
⟨(some 131), none, (.p (.bin .sub (.tmp 130) (.c (.int .i64 1)))), 0, []⟩,
⟨(some 11), none, (.p (.mv (.tmp 131))), 0, []⟩])))))
(.seq
(.seq
(.ops [⟨(some 132), none, (.p (.mv (.tmp 10))), 0, []⟩,
⟨(some 133), none, (.p (.mv (.tmp 11))), 0, []⟩,
⟨(some 134), none, (.p (.bin .gtr (.tmp 132) (.tmp 133))), 0, []⟩])
(.cond (.tmp 134)
(.exit 4)
.skip))
(.seq
(.draw [⟨(some 135), none, (.p (.mv (.tmp 0))), 0, []⟩,
⟨(some 136), none, (.p (.mv (.tmp 10))), 1, []⟩,
⟨(some 137), none, (.p (.mv (.tmp 0))), 2, []⟩,
⟨(some 138), none, (.p (.mv (.tmp 11))), 3, []⟩,
⟨(some 139), none, (.p (.mv (.tmp 0))), 4, []⟩,
⟨(some 140), none, (.p (.mv (.tmp 11))), 5, []⟩,
⟨(some 141), none, (.p (.idxSl 1 (.tmp 139) (.tmp 140))), 6, []⟩,
⟨(some 142), none, (.r (.load 1 false (.tmp 141))), 7, []⟩,
⟨(some 143), none, (.p (.mv (.tmp 0))), 8, []⟩,
⟨(some 144), none, (.p (.mv (.tmp 10))), 9, []⟩,
⟨(some 145), none, (.p (.idxSl 1 (.tmp 143) (.tmp 144))), 10, []⟩,
⟨(some 146), none, (.r (.load 1 false (.tmp 145))), 11, []⟩,
⟨(some 147), none, (.p (.idxSl 1 (.tmp 135) (.tmp 136))), 12, []⟩,
⟨none, none, (.h (.store 1 (.tmp 147) (.tmp 142))), 13, []⟩,
⟨(some 148), none, (.p (.idxSl 1 (.tmp 137) (.tmp 138))), 14, []⟩,
⟨none, none, (.h (.store 1 (.tmp 148) (.tmp 146))), 15, []⟩])
(.seq
(.ops [⟨(some 149), none, (.p (.mv (.tmp 10))), 0, []⟩,
⟨(some 150), none, (.p (.bin .add (.tmp 149) (.c (.int .i64 1)))), 0, []⟩,
⟨(some 10), none, (.p (.mv (.tmp 150))), 0, []⟩])
(.ops [⟨(some 151), none, (.p (.mv (.tmp 11))), 0, []⟩,
⟨(some 152), none, (.p (.bin .sub (.tmp 151) (.c (.int .i64 1)))), 0, []⟩,
⟨(some 11), none, (.p (.mv (.tmp 152))), 0, []⟩])))))))))
(.seq
(.draw [⟨(some 153), none, (.p (.mv (.tmp 0))), 0, []⟩,
⟨(some 154), none, (.p (.mv (.tmp 11))), 1, []⟩,
⟨(some 155), none, (.p (.mv (.tmp 0))), 2, []⟩,
⟨(some 156), none, (.p (.mv (.tmp 1))), 3, []⟩,
⟨(some 157), none, (.p (.mv (.tmp 0))), 4, []⟩,
⟨(some 158), none, (.p (.mv (.tmp 1))), 5, []⟩,
⟨(some 159), none, (.p (.idxSl 1 (.tmp 157) (.tmp 158))), 6, []⟩,
⟨(some 160), none, (.r (.load 1 false (.tmp 159))), 7, []⟩,
⟨(some 161), none, (.p (.mv (.tmp 0))), 8, []⟩,
⟨(some 162), none, (.p (.mv (.tmp 11))), 9, []⟩,
⟨(some 163), none, (.p (.idxSl 1 (.tmp 161) (.tmp 162))), 10, []⟩,
⟨(some 164), none, (.r (.load 1 false (.tmp 163))), 11, []⟩,
⟨(some 165), none, (.p (.idxSl 1 (.tmp 153) (.tmp 154))), 12, []⟩,
⟨none, none, (.h (.store 1 (.tmp 165) (.tmp 160))), 13, []⟩,
⟨(some 166), none, (.p (.idxSl 1 (.tmp 155) (.tmp 156))), 14, []⟩,
⟨none, none, (.h (.store 1 (.tmp 166) (.tmp 164))), 15, []⟩])
(.seq
(.ops [⟨(some 167), none, (.p (.mv (.tmp 11))), 0, []⟩,
⟨(some 8), none, (.p (.mv (.tmp 167))), 0, []⟩,
⟨(some 9), none, (.p (.mv (.c (.bool false)))), 0, []⟩])
.ret))))))))))))⟩
theorem c73 : Mir.compF Tryz.prog Tryz.f73 = some g73 := by kernel_rfl
/-- math/bits.Len32 -/
def g74 : Mir.Fn := ⟨19, [(.tmp 2)],
(.seq
(.ops [⟨(some 2), none, (.p (.mv (.c (.int .i64 0)))), 0, []⟩])
(.seq
(.seq
(.ops [⟨(some 3), none, (.p (.mv (.tmp 0))), 0, []⟩,
⟨(some 4), none, (.p (.bin .geq (.tmp 3) (.c (.int .u32 65536)))), 0, []⟩])
(.cond (.tmp 4)
(.seq
(.ops [⟨(some 5), none, (.p (.mv (.tmp 0))), 0, []⟩,
⟨(some 6), none, (.p (.bin .shr (.tmp 5) (.c (.int .u64 16)))), 0, []⟩,
⟨(some 0), none, (.p (.mv (.tmp 6))), 0, []⟩])
(.ops [⟨(some 2), none, (.p (.mv (.c (.int .i64 16)))), 0, []⟩]))
.skip))
(.seq
(.seq
(.ops [⟨(some 7), none, (.p (.mv (.tmp 0))), 0, []⟩,
⟨(some 8), none, (.p (.bin .geq (.tmp 7) (.c (.int .u32 256)))), 0, []⟩])
(.cond (.tmp 8)
(.seq
(.ops [⟨(some 9), none, (.p (.mv (.tmp 0))), 0, []⟩,
⟨(some 10), none, (.p (.bin .shr (.tmp 9) (.c (.int .u64 8)))), 0, []⟩,
⟨(some 0), none, (.p (.mv (.tmp 10))), 0, []⟩])
(.ops [⟨(some 11), none, (.p (.mv (.tmp 2))), 0, []⟩,
⟨(some 12), none, (.p (.bin .add (.tmp 11) (.c (.int .i64 8)))), 0, []⟩,
⟨(some 2), none, (.p (.mv (.tmp 12))), 0, []⟩]))
.skip))
(.seq
(.ops [⟨(some 13), none, (.p (.mv (.tmp 2))), 0, []⟩,
⟨(some 14), none, (.p (.mv (.tmp 0))), 0, []⟩,
⟨(some 15), none, (.p (.convInt .u8 (.tmp 14))), 0, []⟩,
⟨(some 16), none, (.p (.idxStr (.c (.str [0, 1, 2, 2, 3, 3, 3, 3, 4, 4, 4, 4, 4, 4, 4, 4, 5, 5, 5, 5, 5, 5, 5, 5, 5, 5, 5, 5, 5, 5, 5, 5, 6, 6, 6, 6, 6, 6, 6, 6, 6, 6, 6, 6, 6, 6, 6, 6, 6, 6, 6, 6, 6, 6, 6, 6, 6, 6, 6, 6, 6, 6, 6, 6, 7, 7, 7, 7, 7, 7, 7, 7, 7, 7, 7, 7, 7, 7, 7, 7, 7, 7, 7, 7, 7, 7, 7, 7, 7, 7, 7, 7, 7, 7, 7, 7, 7, 7, 7, 7, 7, 7, 7, 7, 7, 7, 7, 7, 7, 7, 7, 7, 7, 7, 7, 7, 7, 7, 7, 7, 7, 7, 7, 7, 7, 7, 7, 7, 8, 8, 8, 8, 8, 8, 8, 8, 8, 8, 8, 8, 8, 8, 8, 8, 8, 8, 8, 8, 8, 8, 8, 8, 8, 8, 8, 8, 8, 8, 8, 8, 8, 8, 8, 8, 8, 8, 8, 8, 8, 8, 8, 8, 8, 8, 8, 8, 8, 8, 8, 8, 8, 8, 8, 8, 8, 8, 8, 8, 8, 8, 8, 8, 8, 8, 8, 8, 8, 8, 8, 8, 8, 8, 8, 8, 8, 8, 8, 8, 8, 8, 8, 8, 8, 8, 8, 8, 8, 8, 8, 8, 8, 8, 8, 8, 8, 8, 8, 8, 8, 8, 8, 8, 8, 8, 8, 8, 8, 8, 8, 8, 8, 8, 8, 8, 8, 8, 8, 8, 8, 8, 8, 8, 8, 8, 8, 8])) (.tmp 15))), 0, []⟩,
⟨(some 17), none, (.p (.convInt .i64 (.tmp 16))), 0, []⟩,
⟨(some 18), none, (.p (.bin .add (.tmp 13) (.tmp 17))), 0, []⟩,
⟨(some 2), none, (.p (.mv (.tmp 18))), 0, []⟩])
.ret))))⟩
theorem c74 : Mir.compF Tryz.prog Tryz.f74 = some g74 := by kernel_rfl
/-- math/bits.Len64 -/
def g75 : Mir.Fn := ⟨25, [(.tmp 2)],
(.seq
(.ops [⟨(some 2), none, (.p (.mv (.c (.int .i64 0)))), 0, []⟩])
(.seq
(.seq
(.ops [⟨(some 3), none, (.p (.mv (.tmp 0))), 0, []⟩,
⟨(some 4), none, (.p (.bin .geq (.tmp 3) (.c (.int .u64 4294967296)))), 0, []⟩])
(.cond (.tmp 4)
(.seq
(.ops [⟨(some 5), none, (.p (.mv (.tmp 0))), 0, []⟩,
⟨(some 6), none, (.p (.bin .shr (.tmp 5) (.c (.int .u64 32)))), 0, []⟩,
⟨(some 0), none, (.p (.mv (.tmp 6))), 0, []⟩])
(.ops [⟨(some 2), none, (.p (.mv (.c (.int .i64 32)))), 0, []⟩]))
.skip))
(.seq
(.seq
(.ops [⟨(some 7), none, (.p (.mv (.tmp 0))), 0, []⟩,
⟨(some 8), none, (.p (.bin .geq (.tmp 7) (.c (.int .u64 65536)))), 0, []⟩])
(.cond (.tmp 8)
(.seq
(.ops [⟨(some 9), none, (.p (.mv (.tmp 0))), 0, []⟩,
⟨(some 10), none, (.p (.bin .shr (.tmp 9) (.c (.int .u64 16)))), 0, []⟩,
⟨(some 0), none, (.p (.mv (.tmp 10))), 0, []⟩])
(.ops [⟨(some 11), none, (.p (.mv (.tmp 2))), 0, []⟩,
⟨(some 12), none, (.p (.bin .add (.tmp 11) (.c (.int .i64 16)))), 0, []⟩,
⟨(some 2), none, (.p (.mv (.tmp 12))), 0, []⟩]))
.skip))
(.seq
(.seq
(.ops [⟨(some 13), none, (.p (.mv (.tmp 0))), 0, []⟩,
⟨(some 14), none, (.p (.bin .geq (.tmp 13) (.c (.int .u64 256)))), 0, []⟩])
(.cond (.tmp 14)
(.seq
(.ops [⟨(some 15), none, (.p (.mv (.tmp 0))), 0, []⟩,
⟨(some 16), none, (.p (.bin .shr (.tmp 15) (.c (.int .u64 8)))), 0, []⟩,
⟨(some 0), none, (.p (.mv (.tmp 16))), 0, []⟩])
(.ops [⟨(some 17), none, (.p (.mv (.tmp 2))), 0, []⟩,
⟨(some 18), none, (.p (.bin .add (.tmp 17) (.c (.int .i64 8)))), 0, []⟩,
⟨(some 2), none, (.p (.mv (.tmp 18))), 0, []⟩]))
.skip))
(.seq
(.ops [⟨(some 19), none, (.p (.mv (.tmp 2))), 0, []⟩,
⟨(some 20), none, (.p (.mv (.tmp 0))), 0, []⟩,
⟨(some 21), none, (.p (.convInt .u8 (.tmp 20))), 0, []⟩,
⟨(some 22), none, (.p (.idxStr (.c (.str [0, 1, 2, 2, 3, 3, 3, 3, 4, 4, 4, 4, 4, 4, 4, 4, 5, 5, 5, 5, 5, 5, 5, 5, 5, 5, 5, 5, 5, 5, 5, 5, 6, 6, 6, 6, 6, 6, 6, 6, 6, 6, 6, 6, 6, 6, 6, 6, 6, 6, 6, 6, 6, 6, 6, 6, 6, 6, 6, 6, 6, 6, 6, 6, 7, 7, 7, 7, 7, 7, 7, 7, 7, 7, 7, 7, 7, 7, 7, 7, 7, 7, 7, 7, 7, 7, 7, 7, 7, 7, 7, 7, 7, 7, 7, 7, 7, 7, 7, 7, 7, 7, 7, 7, 7, 7, 7, 7, 7, 7, 7, 7, 7, 7, 7, 7, 7, 7, 7, 7, 7, 7, 7, 7, 7, 7, 7, 7, 8, 8, 8, 8, 8, 8, 8, 8, 8, 8, 8, 8, 8, 8, 8, 8, 8, 8, 8, 8, 8, 8, 8, 8, 8, 8, 8, 8, 8, 8, 8, 8, 8, 8, 8, 8, 8, 8, 8, 8, 8, 8, 8, 8, 8, 8, 8, 8, 8, 8, 8, 8, 8, 8, 8, 8, 8, 8, 8, 8, 8, 8, 8, 8, 8, 8, 8, 8, 8, 8, 8, 8, 8, 8, 8, 8, 8, 8, 8, 8, 8, 8, 8, 8, 8, 8, 8, 8, 8, 8, 8, 8, 8, 8, 8, 8, 8, 8, 8, 8, 8, 8, 8, 8, 8, 8, 8, 8, 8, 8, 8, 8, 8, 8, 8, 8, 8, 8, 8, 8, 8, 8, 8, 8, 8, 8, 8, 8])) (.tmp 21))), 0, []⟩,
⟨(some 23), none, (.p (.convInt .i64 (.tmp 22))), 0, []⟩,
⟨(some 24), none, (.p (.bin .add (.tmp 19) (.tmp 23))), 0, []⟩,
⟨(some 2), none, (.p (.mv (.tmp 24))), 0, []⟩])
.ret)))))⟩
theorem c75 : Mir.compF Tryz.prog Tryz.f75 = some g75 := by kernel_rfl
/-- internal/stringslite.IndexByte -/
def g76 : Mir.Fn := ⟨8, [(.tmp 4)],
(.seq
(.ops [⟨(some 4), none, (.p (.mv (.c (.int .i64 0)))), 0, []⟩])
(.seq
(.ops [⟨(some 5), none, (.p (.mv (.tmp 0))), 0, []⟩,
⟨(some 6), none, (.p (.mv (.tmp 1))), 0, []⟩,
⟨(some 7), none, (.p (.idxByte (.tmp 5) (.tmp 6))), 0, []⟩,
⟨(some 4), none, (.p (.mv (.tmp 7))), 0, []⟩])
.ret))⟩
theorem c76 : Mir.compF Tryz.prog Tryz.f76 = some g76 := by kernel_rfl
/-- internal/bytealg.Cutover -/
def g78 : Mir.Fn := ⟨6, [(.tmp 2)],
(.seq
(.ops [⟨(some 2), none, (.p (.mv (.c (.int .i64 0)))), 0, []⟩])
(.seq
(.ops [⟨(some 3), none, (.p (.mv (.tmp 0))), 0, []⟩,
⟨(some 4), none, (.p (.bin .add (.tmp 3) (.c (.int .i64 16)))), 0, []⟩,
⟨(some 5), none, (.p (.bin .quo (.tmp 4) (.c (.int .i64 8)))), 0, []⟩,
⟨(some 2), none, (.p (.mv (.tmp 5))), 0, []⟩])
.ret))⟩
theorem c78 : Mir.compF Tryz.prog Tryz.f78 = some g78 := by kernel_rfl
/-- internal/bytealg.IndexRabinKarp[string] -/
def g79 : Mir.Fn := ⟨81, [(.tmp 4)],
(.seq
(.ops [⟨(some 4), none, (.p (.mv (.c (.int .i64 0)))), 0, []⟩])
(.seq
(.ops [⟨(some 12), none, (.p (.mv (.tmp 1))), 0, []⟩,
⟨(some 13), none, (.h (.call (.c (.fn 95 [] [])) [(.tmp 12)])), 0, []⟩,
⟨(some 11), none, (.p (.mv (.tmp 13))), 0, []⟩,
⟨(some 14), none, (.p (.ext (.tmp 11) 0)), 0, []⟩,
⟨(some 15), none, (.p (.ext (.tmp 11) 1)), 0, []⟩,
⟨(some 5), none, (.p (.mv (.tmp 14))), 0, []⟩,
⟨(some 6), none, (.p (.mv (.tmp 15))), 0, []⟩])
(.seq
(.ops [⟨(some 16), none, (.p (.mv (.tmp 1))), 0, []⟩,
⟨(some 17), none, (.p (.lenStr (.tmp 16))), 0, []⟩,
⟨(some 7), none, (.p (.mv (.tmp 17))), 0, []⟩])
(.seq
(.ops [⟨(some 8), none, (.p (.mv (.c (.int .u32 0)))), 0, []⟩])
(.seq
(.seq
(.ops [⟨(some 9), none, (.p (.mv (.c (.int .i64 0)))), 0, []⟩])
(.block 0 (.loop (.seq
(.seq
(.ops [⟨(some 18), none, (.p (.mv (.tmp 9))), 0, []⟩,
⟨(some 19), none, (.p (.mv (.tmp 7))), 0, []⟩,
⟨(some 20), none, (.p (.bin .lss (.tmp 18) (.tmp 19))), 0, []⟩])
(.cond (.tmp 20)
.skip
(.exit 0)))
(.seq
(.block 1 (.ops [⟨(some 23), none, (.p (.mv (.tmp 8))), 0, []⟩,
⟨(some 24), none, (.p (.bin .mul (.tmp 23) (.c (.int .u32 16777619)))), 0, []⟩,
⟨(some 25), none, (.p (.mv (.tmp 0))), 0, []⟩,
⟨(some 26), none, (.p (.mv (.tmp 9))), 0, []⟩,
⟨(some 27), none, (.p (.idxStr (.tmp 25) (.tmp 26))), 0, []⟩,
⟨(some 28), none, (.p (.convInt .u32 (.tmp 27))), 0, []⟩,
⟨(some 29), none, (.p (.bin .add (.tmp 24) (.tmp 28))), 0, []⟩,
⟨(some 8), none, (.p (.mv (.tmp 29))), 0, []⟩]))
(.ops [⟨(some 21), none, (.p (.mv (.tmp 9))), 0, []⟩,
⟨(some 22), none, (.p (.bin .add (.tmp 21) (.c (.int .i64 1)))), 0, []⟩,
⟨(some 9), none, (.p (.mv (.tmp 22))), 0, []⟩]))))))
(.seq
(.seq
(.ops [⟨(some 30), none, (.p (.mv (.tmp 8))), 0, []⟩,
⟨(some 31), none, (.p (.mv (.tmp 5))), 0, []⟩,
⟨(some 32), none, (.p (.bin .eql (.tmp 30) (.tmp 31))), 0, []⟩,
⟨(some 33), none, (.p (.mv (.tmp 32))), 0, []⟩,
⟨(some 34), (some (33, true)), (.p (.mv (.tmp 0))), 0, []⟩,
⟨(some 35), (some (33, true)), (.p (.mv (.tmp 7))), 0, []⟩,
⟨(some 36), (some (33, true)), (.p (.subStr (.tmp 34) none (some (.tmp 35)))), 0, []⟩,
⟨(some 37), (some (33, true)), (.p (.mv (.tmp 1))), 0, []⟩,
⟨(some 38), (some (33, true)), (.p (.bin .eql (.tmp 36) (.tmp 37))), 0, []⟩,
⟨(some 39), none, (.p (.pick (.tmp 33) (.tmp 38) (.c (.bool false)))), 0, []⟩])
(.cond (.tmp 39)
(.seq
(.ops [⟨(some 4), none, (.p (.mv (.c (.int .i64 0)))), 0, []⟩])
.ret)
.skip))
(.seq
(.seq
(.ops [⟨(some 40), none, (.p (.mv (.tmp 7))), 0, []⟩,
⟨(some 10), none, (.p (.mv (.tmp 40))), 0, []⟩])
(.block 2 (.loop (.seq
(.seq
(.ops [⟨(some 41), none, (.p (.mv (.tmp 10))), 0, []⟩,
⟨(some 42), none, (.p (.mv (.tmp 0))), 0, []⟩,
⟨(some 43), none, (.p (.lenStr (.tmp 42))), 0, []⟩,
⟨(some 44), none, (.p (.bin .lss (.tmp 41) (.tmp 43))), 0, []⟩])
(.cond (.tmp 44)
.skip
(.exit 2)))
(.block 3 (.seq
(.ops [⟨(some 45), none, (.p (.mv (.tmp 8))), 0, []⟩,
⟨(some 46), none, (.p (.bin .mul (.tmp 45) (.c (.int .u32 16777619)))), 0, []⟩,
⟨(some 8), none, (.p (.mv (.tmp 46))), 0, []⟩])
(.seq
(.ops [⟨(some 47), none, (.p (.mv (.tmp 8))), 0, []⟩,
⟨(some 48), none, (.p (.mv (.tmp 0))), 0, []⟩,
⟨(some 49), none, (.p (.mv (.tmp 10))), 0, []⟩,
⟨(some 50), none, (.p (.idxStr (.tmp 48) (.tmp 49))), 0, []⟩,
⟨(some 51), none, (.p (.convInt .u32 (.tmp 50))), 0, []⟩,
⟨(some 52), none, (.p (.bin .add (.tmp 47) (.tmp 51))), 0, []⟩,
⟨(some 8), none, (.p (.mv (.tmp 52))), 0, []⟩])
(.seq
(.ops [⟨(some 53), none, (.p (.mv (.tmp 8))), 0, []⟩,
⟨(some 54), none, (.p (.mv (.tmp 6))), 0, []⟩,
⟨(some 55), none, (.p (.mv (.tmp 0))), 0, []⟩,
⟨(some 56), none, (.p (.mv (.tmp 10))), 0, []⟩,
⟨(some 57), none, (.p (.mv (.tmp 7))), 0, []⟩,
⟨(some 58), none, (.p (.bin .sub (.tmp 56) (.tmp 57))), 0, []⟩,
⟨(some 59), none, (.p (.idxStr (.tmp 55) (.tmp 58))), 0, []⟩,
⟨(some 60), none, (.p (.convInt .u32 (.tmp 59))), 0, []⟩,
⟨(some 61), none, (.p (.bin .mul (.tmp 54) (.tmp 60))), 0, []⟩,
⟨(some 62), none, (.p (.bin .sub (.tmp 53) (.tmp 61))), 0, []⟩,
⟨(some 8), none, (.p (.mv (.tmp 62))), 0, []⟩])
(.seq
(.ops [⟨(some 63), none, (.p (.mv (.tmp 10))), 0, []⟩,
⟨(some 64), none, (.p (.bin .add (.tmp 63) (.c (.int .i64 1)))), 0, []⟩,
⟨(some 10), none, (.p (.mv (.tmp 64))), 0, []⟩])
(.seq
(.ops [⟨(some 65), none, (.p (.mv (.tmp 8))), 0, []⟩,
⟨(some 66), none, (.p (.mv (.tmp 5))), 0, []⟩,
⟨(some 67), none, (.p (.bin .eql (.tmp 65) (.tmp 66))), 0, []⟩,
⟨(some 68), none, (.p (.mv (.tmp 67))), 0, []⟩,
⟨(some 69), (some (68, true)), (.p (.mv (.tmp 0))), 0, []⟩,
⟨(some 70), (some (68, true)), (.p (.mv (.tmp 10))), 0, []⟩,
⟨(some 71), (some (68, true)), (.p (.mv (.tmp 7))), 0, []⟩,
⟨(some 72), (some (68, true)), (.p (.bin .sub (.tmp 70) (.tmp 71))), 0, []⟩,
⟨(some 73), (some (68, true)), (.p (.mv (.tmp 10))), 0, []⟩,
⟨(some 74), (some (68, true)), (.p (.subStr (.tmp 69) (some (.tmp 72)) (some (.tmp 73)))), 0, []⟩,
⟨(some 75), (some (68, true)), (.p (.mv (.tmp 1))), 0, []⟩,
⟨(some 76), (some (68, true)), (.p (.bin .eql (.tmp 74) (.tmp 75))), 0, []⟩,
⟨(some 77), none, (.p (.pick (.tmp 68) (.tmp 76) (.c (.bool false)))), 0, []⟩])
(.cond (.tmp 77)
(.seq
(.ops [⟨(some 78), none, (.p (.mv (.tmp 10))), 0, []⟩,
⟨(some 79), none, (.p (.mv (.tmp 7))), 0, []⟩,
⟨(some 80), none, (.p (.bin .sub (.tmp 78) (.tmp 79))), 0, []⟩,
⟨(some 4), none, (.p (.mv (.tmp 80))), 0, []⟩])
.ret)
.skip)))))))))))
(.seq
(.ops [⟨(some 4), none, (.p (.mv (.c (.int .i64 (-1))))), 0, []⟩])
.ret))))))))⟩
theorem c79 : Mir.compF Tryz.prog Tryz.f79 = some g79 := by kernel_rfl
end Go.Proofs.YtijipnkdabdioaaGreatDoor
