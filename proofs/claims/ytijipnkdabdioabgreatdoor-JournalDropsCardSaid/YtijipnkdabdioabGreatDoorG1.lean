/- The mirror's code of the seat's functions; printed by KPrint. -/
import Derived.Test.YtijipnkdabdioabGreatDoorMir21
import Derived.Test.YtijipnkdabdioabGreatDoorRows
namespace Go.Proofs.YtijipnkdabdioabGreatDoor
/-- scribe/scribelaw04.JournalDrops -/
def g3 : Mir.Fn := ⟨74, [(.tmp 6)],
(.seq
(.ops [⟨(some 6), none, (.p (.mv (.c (.bool false)))), 0, []⟩])
(.seq
(.ops [⟨(some 10), none, (.p (.mv (.tmp 0))), 0, []⟩,
⟨(some 11), none, (.h (.call (.c (.fn 4 [] [])) [(.tmp 10), (.c (.int .i64 200))])), 0, []⟩,
⟨(some 0), none, (.p (.mv (.tmp 11))), 0, []⟩])
(.seq
(.ops [⟨(some 12), none, (.h (.call (.c (.fn 5 [] [])) [(.c (.int .i64 1048576))])), 0, []⟩,
⟨(some 7), none, (.p (.mv (.tmp 12))), 0, []⟩])
(.seq
(.seq
(.ops [⟨(some 13), none, (.p (.mv (.tmp 7))), 0, []⟩,
⟨(some 14), none, (.p (.eq .ptr false (.tmp 13) (.c .nilptr))), 0, []⟩,
⟨(some 15), none, (.p (.mv (.tmp 14))), 0, []⟩,
⟨(some 16), (some (15, false)), (.p (.mv (.tmp 7))), 0, []⟩,
⟨(some 17), (some (15, false)), (.p (.mv (.tmp 0))), 0, []⟩,
⟨(some 18), (some (15, false)), (.h (.call (.c (.fn 6 [] [])) [(.tmp 16), (.tmp 17)])), 0, []⟩,
⟨(some 19), (some (15, false)), (.p (.bin .neq (.tmp 18) (.c (.int .i64 0)))), 0, []⟩,
⟨(some 20), none, (.p (.pick (.tmp 15) (.c (.bool true)) (.tmp 19))), 0, []⟩,
⟨(some 21), none, (.p (.mv (.tmp 20))), 0, []⟩,
⟨(some 22), (some (21, false)), (.p (.mv (.tmp 2))), 0, []⟩,
⟨(some 23), (some (21, false)), (.p (.lenSl (.tmp 22))), 0, []⟩,
⟨(some 24), (some (21, false)), (.p (.bin .gtr (.tmp 23) (.c (.int .i64 20)))), 0, []⟩,
⟨(some 25), none, (.p (.pick (.tmp 21) (.c (.bool true)) (.tmp 24))), 0, []⟩])
(.cond (.tmp 25)
(.seq
(.ops [⟨(some 26), none, (.p (.mv (.tmp 7))), 0, []⟩,
⟨(some 27), none, (.p (.eq .ptr true (.tmp 26) (.c .nilptr))), 0, []⟩,
⟨(some 28), none, (.p (.mv (.tmp 27))), 0, []⟩,
⟨(some 29), (some (28, true)), (.p (.mv (.tmp 2))), 0, []⟩,
⟨(some 30), (some (28, true)), (.p (.lenSl (.tmp 29))), 0, []⟩,
⟨(some 31), (some (28, true)), (.p (.bin .gtr (.tmp 30) (.c (.int .i64 20)))), 0, []⟩,
⟨(some 32), none, (.p (.pick (.tmp 28) (.tmp 31) (.c (.bool false)))), 0, []⟩,
⟨(some 33), none, (.p (.mv (.tmp 32))), 0, []⟩,
⟨(some 34), (some (33, true)), (.h (.call (.c (.fn 7 [] [])) [])), 0, []⟩,
⟨(some 35), none, (.p (.pick (.tmp 33) (.tmp 34) (.c (.bool false)))), 0, []⟩,
⟨(some 6), none, (.p (.mv (.tmp 35))), 0, []⟩])
.ret)
.skip))
(.seq
(.ops [⟨(some 36), none, (.p (.mv (.tmp 7))), 0, []⟩,
⟨(some 37), none, (.p (.mv (.tmp 1))), 0, []⟩,
⟨(some 38), none, (.h (.call (.c (.fn 8 [] [])) [(.tmp 36), (.tmp 37)])), 0, []⟩])
(.seq
(.ops [⟨(some 39), none, (.p (.mv (.tmp 7))), 0, []⟩,
⟨(some 40), none, (.p (.mv (.tmp 0))), 0, []⟩,
⟨(some 41), none, (.p (.bin .add (.tmp 40) (.c (.str [120])))), 0, []⟩,
⟨(some 42), none, (.h (.call (.c (.fn 6 [] [])) [(.tmp 39), (.tmp 41)])), 0, []⟩])
(.seq
(.ops [⟨(some 43), none, (.p (.mv (.tmp 7))), 0, []⟩,
⟨(some 44), none, (.h (.call (.c (.fn 8 [] [])) [(.tmp 43), (.c (.int .i64 (-1)))])), 0, []⟩])
(.seq
(.ops [⟨(some 45), none, (.p (.mv (.tmp 7))), 0, []⟩,
⟨(some 46), none, (.p (.mv (.tmp 2))), 0, []⟩,
⟨(some 47), none, (.h (.call (.c (.fn 9 [] [])) [(.tmp 45), (.tmp 46), (.c (.bool true))])), 0, []⟩])
(.seq
(.seq
(.ops [⟨(some 48), none, (.p (.mv (.tmp 7))), 0, []⟩,
⟨(some 49), none, (.h (.call (.c (.fn 10 [] [])) [(.tmp 48)])), 0, []⟩,
⟨(some 50), none, (.p (.bin .neq (.tmp 49) (.c (.int .i64 0)))), 0, []⟩,
⟨(some 51), none, (.p (.mv (.tmp 50))), 0, []⟩,
⟨(some 52), (some (51, false)), (.p (.mv (.tmp 7))), 0, []⟩,
⟨(some 53), (some (51, false)), (.h (.call (.c (.fn 10 [] [])) [(.tmp 52)])), 0, []⟩,
⟨(some 54), (some (51, false)), (.p (.bin .neq (.tmp 53) (.c (.int .i64 0)))), 0, []⟩,
⟨(some 55), none, (.p (.pick (.tmp 51) (.c (.bool true)) (.tmp 54))), 0, []⟩])
(.cond (.tmp 55)
(.seq
(.ops [⟨(some 6), none, (.p (.mv (.c (.bool false)))), 0, []⟩])
.ret)
.skip))
(.seq
(.ops [⟨(some 56), none, (.p (.mv (.tmp 7))), 0, []⟩,
⟨(some 57), none, (.p (.mv (.tmp 2))), 0, []⟩,
⟨(some 58), none, (.h (.call (.c (.fn 9 [] [])) [(.tmp 56), (.tmp 57), (.c (.bool false))])), 0, []⟩])
(.seq
(.ops [⟨(some 60), none, (.p (.mv (.tmp 7))), 0, []⟩,
⟨(some 61), none, (.h (.call (.c (.fn 11 [] [])) [(.tmp 60)])), 0, []⟩,
⟨(some 59), none, (.p (.mv (.tmp 61))), 0, []⟩,
⟨(some 62), none, (.p (.ext (.tmp 59) 0)), 0, []⟩,
⟨(some 63), none, (.p (.ext (.tmp 59) 1)), 0, []⟩,
⟨(some 8), none, (.p (.mv (.tmp 62))), 0, []⟩,
⟨(some 9), none, (.p (.mv (.tmp 63))), 0, []⟩])
(.seq
(.ops [⟨(some 64), none, (.h (.call (.c (.fn 7 [] [])) [])), 0, []⟩,
⟨(some 65), none, (.p (.mv (.tmp 64))), 0, []⟩,
⟨(some 66), (some (65, true)), (.p (.mv (.tmp 9))), 0, []⟩,
⟨(some 67), (some (65, true)), (.p (.bin .eql (.tmp 66) (.c (.int .i64 5)))), 0, []⟩,
⟨(some 68), none, (.p (.pick (.tmp 65) (.tmp 67) (.c (.bool false)))), 0, []⟩,
⟨(some 69), none, (.p (.mv (.tmp 68))), 0, []⟩,
⟨(some 70), (some (69, true)), (.p (.mv (.tmp 7))), 0, []⟩,
⟨(some 71), (some (69, true)), (.h (.call (.c (.fn 12 [] [])) [(.tmp 70)])), 0, []⟩,
⟨(some 72), (some (69, true)), (.p (.bin .eql (.tmp 71) (.c (.int .i64 0)))), 0, []⟩,
⟨(some 73), none, (.p (.pick (.tmp 69) (.tmp 72) (.c (.bool false)))), 0, []⟩,
⟨(some 6), none, (.p (.mv (.tmp 73))), 0, []⟩])
.ret))))))))))))⟩
theorem c3 : Mir.compF Tryz.prog Tryz.f3 = some g3 := by kernel_rfl
/-- scribe/scribelaw01.Cut -/
def g4 : Mir.Fn := ⟨13, [(.tmp 4)],
(.seq
(.ops [⟨(some 4), none, (.p (.mv (.c (.str [])))), 0, []⟩])
(.seq
(.seq
(.ops [⟨(some 5), none, (.p (.mv (.tmp 0))), 0, []⟩,
⟨(some 6), none, (.p (.lenStr (.tmp 5))), 0, []⟩,
⟨(some 7), none, (.p (.mv (.tmp 1))), 0, []⟩,
⟨(some 8), none, (.p (.bin .gtr (.tmp 6) (.tmp 7))), 0, []⟩])
(.cond (.tmp 8)
(.seq
(.ops [⟨(some 9), none, (.p (.mv (.tmp 0))), 0, []⟩,
⟨(some 10), none, (.p (.mv (.tmp 1))), 0, []⟩,
⟨(some 11), none, (.p (.subStr (.tmp 9) none (some (.tmp 10)))), 0, []⟩,
⟨(some 4), none, (.p (.mv (.tmp 11))), 0, []⟩])
.ret)
.skip))
(.seq
(.ops [⟨(some 12), none, (.p (.mv (.tmp 0))), 0, []⟩,
⟨(some 4), none, (.p (.mv (.tmp 12))), 0, []⟩])
.ret)))⟩
theorem c4 : Mir.compF Tryz.prog Tryz.f4 = some g4 := by kernel_rfl
/-- scribe/disk.New -/
def g5 : Mir.Fn := ⟨9, [(.tmp 2)],
(.seq
(.ops [⟨(some 2), none, (.p (.mv (.c .nilptr))), 0, []⟩])
(.seq
(.ops [⟨(some 3), none, (.a .mkMap), 0, []⟩,
⟨(some 4), none, (.a .mkMap), 0, []⟩,
⟨(some 5), none, (.p (.mv (.tmp 0))), 0, []⟩,
⟨(some 6), none, (.p (.mnmx true (.tmp 5) [(.c (.int .i64 0))])), 0, []⟩,
⟨(some 7), none, (.p (.build [.nilmap, .nilmap, (.int .i64 0), (.int .i64 0), (.bool false)] [(0, (1, (.tmp 3))), (1, (1, (.tmp 4))), (2, (1, (.tmp 6))), (3, (1, (.c (.int .i64 (-1))))), (4, (1, (.c (.bool false))))])), 0, []⟩,
⟨(some 8), none, (.a (.box (.tmp 7))), 0, []⟩,
⟨(some 2), none, (.p (.mv (.tmp 8))), 0, []⟩])
.ret))⟩
theorem c5 : Mir.compF Tryz.prog Tryz.f5 = some g5 := by kernel_rfl
/-- scribe/journal.Save -/
def g6 : Mir.Fn := ⟨38, [(.tmp 4)],
(.seq
(.ops [⟨(some 4), none, (.p (.mv (.c (.int .i64 0)))), 0, []⟩])
(.seq
(.seq
(.ops [⟨(some 10), none, (.p (.mv (.tmp 0))), 0, []⟩,
⟨(some 11), none, (.h (.call (.c (.fn 13 [] [])) [(.tmp 10), (.c (.str [106, 111, 117, 114, 110, 97, 108, 46, 110, 101, 119]))])), 0, []⟩,
⟨(some 9), none, (.p (.mv (.tmp 11))), 0, []⟩,
⟨(some 12), none, (.p (.ext (.tmp 9) 0)), 0, []⟩,
⟨(some 13), none, (.p (.ext (.tmp 9) 1)), 0, []⟩,
⟨(some 5), none, (.p (.mv (.tmp 12))), 0, []⟩,
⟨(some 6), none, (.p (.mv (.tmp 13))), 0, []⟩])
(.seq
(.ops [⟨(some 14), none, (.p (.mv (.tmp 6))), 0, []⟩,
⟨(some 15), none, (.p (.bin .eql (.tmp 14) (.c (.int .i64 0)))), 0, []⟩])
(.cond (.tmp 15)
(.seq
(.ops [⟨(some 16), none, (.p (.mv (.tmp 0))), 0, []⟩,
⟨(some 17), none, (.h (.call (.c (.fn 14 [] [])) [(.tmp 16), (.c (.str [106, 111, 117, 114, 110, 97, 108, 46, 110, 101, 119]))])), 0, []⟩,
⟨(some 7), none, (.p (.mv (.tmp 17))), 0, []⟩])
(.seq
(.ops [⟨(some 18), none, (.p (.mv (.tmp 7))), 0, []⟩,
⟨(some 19), none, (.p (.bin .neq (.tmp 18) (.c (.int .i64 0)))), 0, []⟩])
(.cond (.tmp 19)
(.seq
(.ops [⟨(some 20), none, (.p (.mv (.tmp 7))), 0, []⟩,
⟨(some 4), none, (.p (.mv (.tmp 20))), 0, []⟩])
.ret)
.skip)))
.skip)))
(.seq
(.ops [⟨(some 21), none, (.p (.mv (.tmp 0))), 0, []⟩,
⟨(some 22), none, (.p (.mv (.tmp 1))), 0, []⟩,
⟨(some 23), none, (.h (.call (.c (.fn 16 [] [])) [(.tmp 22)])), 0, []⟩,
⟨(some 24), none, (.h (.call (.c (.fn 15 [] [])) [(.tmp 21), (.c (.str [106, 111, 117, 114, 110, 97, 108, 46, 110, 101, 119])), (.tmp 23)])), 0, []⟩,
⟨(some 8), none, (.p (.mv (.tmp 24))), 0, []⟩])
(.seq
(.seq
(.ops [⟨(some 25), none, (.p (.mv (.tmp 8))), 0, []⟩,
⟨(some 26), none, (.p (.bin .eql (.tmp 25) (.c (.int .i64 0)))), 0, []⟩])
(.cond (.tmp 26)
(.ops [⟨(some 27), none, (.p (.mv (.tmp 0))), 0, []⟩,
⟨(some 28), none, (.h (.call (.c (.fn 17 [] [])) [(.tmp 27), (.c (.str [106, 111, 117, 114, 110, 97, 108, 46, 110, 101, 119]))])), 0, []⟩,
⟨(some 8), none, (.p (.mv (.tmp 28))), 0, []⟩])
.skip))
(.seq
(.seq
(.ops [⟨(some 29), none, (.p (.mv (.tmp 8))), 0, []⟩,
⟨(some 30), none, (.p (.bin .eql (.tmp 29) (.c (.int .i64 0)))), 0, []⟩])
(.cond (.tmp 30)
(.ops [⟨(some 31), none, (.p (.mv (.tmp 0))), 0, []⟩,
⟨(some 32), none, (.h (.call (.c (.fn 18 [] [])) [(.tmp 31), (.c (.str [106, 111, 117, 114, 110, 97, 108, 46, 110, 101, 119])), (.c (.str [106, 111, 117, 114, 110, 97, 108]))])), 0, []⟩,
⟨(some 8), none, (.p (.mv (.tmp 32))), 0, []⟩])
.skip))
(.seq
(.seq
(.ops [⟨(some 33), none, (.p (.mv (.tmp 8))), 0, []⟩,
⟨(some 34), none, (.p (.bin .eql (.tmp 33) (.c (.int .i64 0)))), 0, []⟩])
(.cond (.tmp 34)
(.ops [⟨(some 35), none, (.p (.mv (.tmp 0))), 0, []⟩,
⟨(some 36), none, (.h (.call (.c (.fn 19 [] [])) [(.tmp 35)])), 0, []⟩,
⟨(some 8), none, (.p (.mv (.tmp 36))), 0, []⟩])
.skip))
(.seq
(.ops [⟨(some 37), none, (.p (.mv (.tmp 8))), 0, []⟩,
⟨(some 4), none, (.p (.mv (.tmp 37))), 0, []⟩])
.ret)))))))⟩
theorem c6 : Mir.compF Tryz.prog Tryz.f6 = some g6 := by kernel_rfl
/-- scribe/scribelaw04.awake -/
def g7 : Mir.Fn := ⟨27, [(.tmp 0)],
(.seq
(.ops [⟨(some 0), none, (.p (.mv (.c (.bool false)))), 0, []⟩])
(.seq
(.ops [⟨(some 6), none, (.h (.call (.c (.fn 20 [] [])) [(.c (.str [115, 99, 114, 105, 98, 101, 32, 49, 32, 50, 32, 48, 49, 50, 54, 48, 48, 99, 52, 10, 97, 98]))])), 0, []⟩,
⟨(some 5), none, (.p (.mv (.tmp 6))), 0, []⟩,
⟨(some 7), none, (.p (.ext (.tmp 5) 0)), 0, []⟩,
⟨(some 8), none, (.p (.ext (.tmp 5) 1)), 0, []⟩,
⟨(some 1), none, (.p (.mv (.tmp 7))), 0, []⟩,
⟨(some 2), none, (.p (.mv (.tmp 8))), 0, []⟩])
(.seq
(.ops [⟨(some 10), none, (.h (.call (.c (.fn 20 [] [])) [(.c (.str [115, 99, 114, 105, 98, 101, 32, 49, 32, 50, 32, 48, 49, 50, 54, 48, 48, 99, 52, 10, 98, 98]))])), 0, []⟩,
⟨(some 9), none, (.p (.mv (.tmp 10))), 0, []⟩,
⟨(some 11), none, (.p (.ext (.tmp 9) 0)), 0, []⟩,
⟨(some 12), none, (.p (.ext (.tmp 9) 1)), 0, []⟩,
⟨(some 3), none, (.p (.mv (.tmp 11))), 0, []⟩,
⟨(some 4), none, (.p (.mv (.tmp 12))), 0, []⟩])
(.seq
(.ops [⟨(some 13), none, (.p (.mv (.tmp 2))), 0, []⟩,
⟨(some 14), none, (.p (.bin .eql (.tmp 13) (.c (.int .i64 0)))), 0, []⟩,
⟨(some 15), none, (.p (.mv (.tmp 14))), 0, []⟩,
⟨(some 16), (some (15, true)), (.p (.mv (.tmp 1))), 0, []⟩,
⟨(some 17), (some (15, true)), (.p (.bin .eql (.tmp 16) (.c (.str [97, 98])))), 0, []⟩,
⟨(some 18), none, (.p (.pick (.tmp 15) (.tmp 17) (.c (.bool false)))), 0, []⟩,
⟨(some 19), none, (.p (.mv (.tmp 18))), 0, []⟩,
⟨(some 20), (some (19, true)), (.p (.mv (.tmp 4))), 0, []⟩,
⟨(some 21), (some (19, true)), (.p (.bin .eql (.tmp 20) (.c (.int .i64 4)))), 0, []⟩,
⟨(some 22), none, (.p (.pick (.tmp 19) (.tmp 21) (.c (.bool false)))), 0, []⟩,
⟨(some 23), none, (.p (.mv (.tmp 22))), 0, []⟩,
⟨(some 24), (some (23, true)), (.h (.call (.c (.fn 16 [] [])) [(.c (.str [97, 98]))])), 0, []⟩,
⟨(some 25), (some (23, true)), (.p (.bin .eql (.tmp 24) (.c (.str [115, 99, 114, 105, 98, 101, 32, 49, 32, 50, 32, 48, 49, 50, 54, 48, 48, 99, 52, 10, 97, 98])))), 0, []⟩,
⟨(some 26), none, (.p (.pick (.tmp 23) (.tmp 25) (.c (.bool false)))), 0, []⟩,
⟨(some 0), none, (.p (.mv (.tmp 26))), 0, []⟩])
.ret))))⟩
theorem c7 : Mir.compF Tryz.prog Tryz.f7 = some g7 := by kernel_rfl
/-- (*scribe/disk.Disk).Arm -/
def g8 : Mir.Fn := ⟨14, [],
(.seq
(.ops [⟨(some 4), none, (.p (.mv (.tmp 0))), 0, []⟩,
⟨(some 5), none, (.p (.nilchk (.tmp 4))), 0, []⟩,
⟨(some 6), none, (.p (.fieldAt 4 (.tmp 5))), 0, []⟩,
⟨(some 7), none, (.r (.load 1 false (.tmp 6))), 0, []⟩,
⟨(some 8), none, (.p (.un .not (.tmp 7))), 0, []⟩])
(.cond (.tmp 8)
(.ops [⟨(some 9), none, (.p (.mv (.tmp 0))), 0, []⟩,
⟨(some 10), none, (.p (.mv (.tmp 1))), 0, []⟩,
⟨(some 11), none, (.p (.mnmx true (.tmp 10) [(.c (.int .i64 (-1)))])), 0, []⟩,
⟨(some 12), none, (.p (.nilchk (.tmp 9))), 0, []⟩,
⟨(some 13), none, (.p (.fieldAt 3 (.tmp 12))), 0, []⟩,
⟨none, none, (.h (.store 1 (.tmp 13) (.tmp 11))), 0, []⟩])
.skip))⟩
theorem c8 : Mir.compF Tryz.prog Tryz.f8 = some g8 := by kernel_rfl
/-- (*scribe/disk.Disk).Crash -/
def g9 : Mir.Fn := ⟨115, [],
(.seq
(.seq
(.ops [⟨(some 12), none, (.p (.mv (.tmp 2))), 0, []⟩,
⟨(some 13), none, (.p (.un .not (.tmp 12))), 0, []⟩])
(.cond (.tmp 13)
(.ops [⟨(some 14), none, (.p (.mv (.tmp 0))), 0, []⟩,
⟨(some 15), none, (.p (.mv (.tmp 0))), 0, []⟩,
⟨(some 16), none, (.p (.nilchk (.tmp 15))), 0, []⟩,
⟨(some 17), none, (.p (.fieldAt 1 (.tmp 16))), 0, []⟩,
⟨(some 18), none, (.r (.load 1 false (.tmp 17))), 0, []⟩,
⟨(some 19), none, (.h (.call (.c (.fn 21 [] [])) [(.tmp 18)])), 0, []⟩,
⟨(some 20), none, (.p (.nilchk (.tmp 14))), 0, []⟩,
⟨(some 21), none, (.p (.fieldAt 0 (.tmp 20))), 0, []⟩,
⟨none, none, (.h (.store 1 (.tmp 21) (.tmp 19))), 0, []⟩])
.skip))
(.seq
(.seq
(.ops [⟨(some 22), none, (.p (.mv (.tmp 0))), 0, []⟩,
⟨(some 23), none, (.p (.nilchk (.tmp 22))), 0, []⟩,
⟨(some 24), none, (.p (.fieldAt 0 (.tmp 23))), 0, []⟩,
⟨(some 25), none, (.r (.load 1 false (.tmp 24))), 0, []⟩,
⟨(some 26), none, (.h (.call (.c (.fn 23 [] [])) [(.tmp 25)])), 0, []⟩,
⟨(some 27), none, (.h (.call (.c (.fn 22 [] [])) [(.tmp 26)])), 0, []⟩,
⟨(some 28), none, (.p (.lenSl (.tmp 27))), 0, []⟩,
⟨(some 29), none, (.p (.mv (.c (.int .i64 0)))), 0, []⟩])
(.block 0 (.loop (.seq
(.ops [⟨(some 30), none, (.p (.bin .lss (.tmp 29) (.tmp 28))), 0, []⟩])
(.seq
(.cond (.tmp 30)
.skip
(.exit 0))
(.seq
(.block 1 (.seq
(.ops [⟨(some 31), none, (.p (.mv (.tmp 29))), 0, []⟩,
⟨(some 32), none, (.p (.idxSl 1 (.tmp 27) (.tmp 29))), 0, []⟩,
⟨(some 33), none, (.r (.load 1 false (.tmp 32))), 0, []⟩,
⟨(some 6), none, (.p (.mv (.tmp 31))), 0, []⟩,
⟨(some 7), none, (.p (.mv (.tmp 33))), 0, []⟩])
(.seq
(.ops [⟨(some 34), none, (.p (.mv (.tmp 0))), 0, []⟩,
⟨(some 35), none, (.p (.nilchk (.tmp 34))), 0, []⟩,
⟨(some 36), none, (.p (.fieldAt 0 (.tmp 35))), 0, []⟩,
⟨(some 37), none, (.r (.load 1 false (.tmp 36))), 0, []⟩,
⟨(some 38), none, (.p (.mv (.tmp 7))), 0, []⟩,
⟨(some 39), none, (.r (.lookup (.one .str) .nilptr false (.tmp 37) (.tmp 38))), 0, []⟩,
⟨(some 8), none, (.p (.mv (.tmp 39))), 0, []⟩])
(.seq
(.draw [⟨(some 41), none, (.p (.mv (.tmp 8))), 0, []⟩,
⟨(some 42), none, (.p (.nilchk (.tmp 41))), 1, []⟩,
⟨(some 43), none, (.p (.fieldAt 0 (.tmp 42))), 2, []⟩,
⟨(some 44), none, (.r (.load 1 false (.tmp 43))), 3, []⟩,
⟨(some 45), none, (.p (.mv (.tmp 8))), 4, []⟩,
⟨(some 46), none, (.p (.nilchk (.tmp 45))), 5, []⟩,
⟨(some 47), none, (.p (.fieldAt 1 (.tmp 46))), 6, []⟩,
⟨(some 48), none, (.r (.load 1 false (.tmp 47))), 7, []⟩,
⟨(some 49), none, (.h (.call (.c (.fn 24 [] [])) [(.tmp 44), (.tmp 48)])), 8, []⟩,
⟨(some 40), none, (.p (.mv (.tmp 49))), 9, []⟩,
⟨(some 50), none, (.p (.ext (.tmp 40) 0)), 10, []⟩,
⟨(some 51), none, (.p (.ext (.tmp 40) 1)), 11, []⟩,
⟨(some 9), none, (.p (.mv (.tmp 50))), 12, []⟩,
⟨(some 10), none, (.p (.mv (.tmp 51))), 13, []⟩])
(.seq
(.seq
(.ops [⟨(some 52), none, (.p (.mv (.tmp 10))), 0, []⟩,
⟨(some 53), none, (.p (.un .not (.tmp 52))), 0, []⟩])
(.cond (.tmp 53)
(.ops [⟨(some 9), none, (.p (.mv (.c (.str [])))), 0, []⟩])
.skip))
(.seq
(.seq
(.ops [⟨(some 54), none, (.p (.mv (.tmp 6))), 0, []⟩,
⟨(some 55), none, (.p (.mv (.tmp 1))), 0, []⟩,
⟨(some 56), none, (.p (.lenSl (.tmp 55))), 0, []⟩,
⟨(some 57), none, (.p (.bin .geq (.tmp 54) (.tmp 56))), 0, []⟩,
⟨(some 58), none, (.p (.mv (.tmp 57))), 0, []⟩,
⟨(some 59), (some (58, false)), (.p (.mv (.tmp 1))), 0, []⟩,
⟨(some 60), (some (58, false)), (.p (.mv (.tmp 6))), 0, []⟩,
⟨(some 61), (some (58, false)), (.p (.idxSl 1 (.tmp 59) (.tmp 60))), 0, []⟩,
⟨(some 62), (some (58, false)), (.r (.load 1 false (.tmp 61))), 0, []⟩,
⟨(some 63), (some (58, false)), (.p (.mv (.tmp 9))), 0, []⟩,
⟨(some 64), (some (58, false)), (.p (.lenStr (.tmp 63))), 0, []⟩,
⟨(some 65), (some (58, false)), (.p (.bin .lss (.tmp 62) (.tmp 64))), 0, []⟩,
⟨(some 66), none, (.p (.pick (.tmp 58) (.c (.bool true)) (.tmp 65))), 0, []⟩])
(.cond (.tmp 66)
(.seq
(.ops [⟨(some 11), none, (.p (.mv (.c (.int .i64 0)))), 0, []⟩])
(.seq
(.seq
(.ops [⟨(some 67), none, (.p (.mv (.tmp 6))), 0, []⟩,
⟨(some 68), none, (.p (.mv (.tmp 1))), 0, []⟩,
⟨(some 69), none, (.p (.lenSl (.tmp 68))), 0, []⟩,
⟨(some 70), none, (.p (.bin .lss (.tmp 67) (.tmp 69))), 0, []⟩,
⟨(some 71), none, (.p (.mv (.tmp 70))), 0, []⟩,
⟨(some 72), (some (71, true)), (.p (.mv (.tmp 1))), 0, []⟩,
⟨(some 73), (some (71, true)), (.p (.mv (.tmp 6))), 0, []⟩,
⟨(some 74), (some (71, true)), (.p (.idxSl 1 (.tmp 72) (.tmp 73))), 0, []⟩,
⟨(some 75), (some (71, true)), (.r (.load 1 false (.tmp 74))), 0, []⟩,
⟨(some 76), (some (71, true)), (.p (.bin .gtr (.tmp 75) (.c (.int .i64 0)))), 0, []⟩,
⟨(some 77), none, (.p (.pick (.tmp 71) (.tmp 76) (.c (.bool false)))), 0, []⟩])
(.cond (.tmp 77)
(.ops [⟨(some 78), none, (.p (.mv (.tmp 1))), 0, []⟩,
⟨(some 79), none, (.p (.mv (.tmp 6))), 0, []⟩,
⟨(some 80), none, (.p (.idxSl 1 (.tmp 78) (.tmp 79))), 0, []⟩,
⟨(some 81), none, (.r (.load 1 false (.tmp 80))), 0, []⟩,
⟨(some 11), none, (.p (.mv (.tmp 81))), 0, []⟩])
.skip))
(.ops [⟨(some 82), none, (.p (.mv (.tmp 9))), 0, []⟩,
⟨(some 83), none, (.p (.mv (.tmp 11))), 0, []⟩,
⟨(some 84), none, (.p (.subStr (.tmp 82) none (some (.tmp 83)))), 0, []⟩,
⟨(some 9), none, (.p (.mv (.tmp 84))), 0, []⟩])))
.skip))
(.seq
(.ops [⟨(some 85), none, (.p (.mv (.tmp 8))), 0, []⟩,
⟨(some 86), none, (.p (.nilchk (.tmp 85))), 0, []⟩,
⟨(some 87), none, (.p (.fieldAt 1 (.tmp 86))), 0, []⟩,
⟨(some 88), none, (.r (.load 1 false (.tmp 87))), 0, []⟩,
⟨(some 89), none, (.p (.mv (.tmp 9))), 0, []⟩,
⟨(some 90), none, (.p (.bin .add (.tmp 88) (.tmp 89))), 0, []⟩,
⟨(some 91), none, (.p (.nilchk (.tmp 85))), 0, []⟩,
⟨(some 92), none, (.p (.fieldAt 1 (.tmp 91))), 0, []⟩,
⟨none, none, (.h (.store 1 (.tmp 92) (.tmp 90))), 0, []⟩])
(.ops [⟨(some 93), none, (.p (.mv (.tmp 8))), 0, []⟩,
⟨(some 94), none, (.p (.mv (.tmp 8))), 0, []⟩,
⟨(some 95), none, (.p (.nilchk (.tmp 94))), 0, []⟩,
⟨(some 96), none, (.p (.fieldAt 1 (.tmp 95))), 0, []⟩,
⟨(some 97), none, (.r (.load 1 false (.tmp 96))), 0, []⟩,
⟨(some 98), none, (.p (.nilchk (.tmp 93))), 0, []⟩,
⟨(some 99), none, (.p (.fieldAt 0 (.tmp 98))), 0, []⟩,
⟨none, none, (.h (.store 1 (.tmp 99) (.tmp 97))), 0, []⟩]))))))))
(.ops [⟨(some 100), none, (.p (.bin .add (.tmp 29) (.c (.int .i64 1)))), 0, []⟩,
⟨(some 29), none, (.p (.mv (.tmp 100))), 0, []⟩])))))))
(.seq
(.ops [⟨(some 101), none, (.p (.mv (.tmp 0))), 0, []⟩,
⟨(some 102), none, (.p (.mv (.tmp 0))), 0, []⟩,
⟨(some 103), none, (.p (.nilchk (.tmp 102))), 0, []⟩,
⟨(some 104), none, (.p (.fieldAt 0 (.tmp 103))), 0, []⟩,
⟨(some 105), none, (.r (.load 1 false (.tmp 104))), 0, []⟩,
⟨(some 106), none, (.h (.call (.c (.fn 21 [] [])) [(.tmp 105)])), 0, []⟩,
⟨(some 107), none, (.p (.nilchk (.tmp 101))), 0, []⟩,
⟨(some 108), none, (.p (.fieldAt 1 (.tmp 107))), 0, []⟩,
⟨none, none, (.h (.store 1 (.tmp 108) (.tmp 106))), 0, []⟩])
(.ops [⟨(some 109), none, (.p (.mv (.tmp 0))), 0, []⟩,
⟨(some 110), none, (.p (.mv (.tmp 0))), 0, []⟩,
⟨(some 111), none, (.p (.nilchk (.tmp 109))), 0, []⟩,
⟨(some 112), none, (.p (.fieldAt 3 (.tmp 111))), 0, []⟩,
⟨none, none, (.h (.store 1 (.tmp 112) (.c (.int .i64 (-1))))), 0, []⟩,
⟨(some 113), none, (.p (.nilchk (.tmp 110))), 0, []⟩,
⟨(some 114), none, (.p (.fieldAt 4 (.tmp 113))), 0, []⟩,
⟨none, none, (.h (.store 1 (.tmp 114) (.c (.bool false)))), 0, []⟩]))))⟩
theorem c9 : Mir.compF Tryz.prog Tryz.f9 = some g9 := by kernel_rfl
/-- scribe/journal.Drop -/
def g10 : Mir.Fn := ⟨31, [(.tmp 2)],
(.seq
(.ops [⟨(some 2), none, (.p (.mv (.c (.int .i64 0)))), 0, []⟩])
(.seq
(.seq
(.ops [⟨(some 8), none, (.a (.mkSl [(.str [])] 1 2 [(0, (1, (.c (.str [106, 111, 117, 114, 110, 97, 108, 46, 110, 101, 119])))), (1, (1, (.c (.str [106, 111, 117, 114, 110, 97, 108]))))])), 0, []⟩,
⟨(some 9), none, (.p (.lenSl (.tmp 8))), 0, []⟩,
⟨(some 10), none, (.p (.mv (.c (.int .i64 0)))), 0, []⟩])
(.block 0 (.loop (.seq
(.ops [⟨(some 11), none, (.p (.bin .lss (.tmp 10) (.tmp 9))), 0, []⟩])
(.seq
(.cond (.tmp 11)
.skip
(.exit 0))
(.seq
(.block 1 (.seq
(.ops [⟨(some 12), none, (.p (.idxSl 1 (.tmp 8) (.tmp 10))), 0, []⟩,
⟨(some 13), none, (.r (.load 1 false (.tmp 12))), 0, []⟩,
⟨(some 4), none, (.p (.mv (.tmp 13))), 0, []⟩])
(.seq
(.seq
(.ops [⟨(some 15), none, (.p (.mv (.tmp 0))), 0, []⟩,
⟨(some 16), none, (.p (.mv (.tmp 4))), 0, []⟩,
⟨(some 17), none, (.h (.call (.c (.fn 13 [] [])) [(.tmp 15), (.tmp 16)])), 0, []⟩,
⟨(some 14), none, (.p (.mv (.tmp 17))), 0, []⟩,
⟨(some 18), none, (.p (.ext (.tmp 14) 0)), 0, []⟩,
⟨(some 19), none, (.p (.ext (.tmp 14) 1)), 0, []⟩,
⟨(some 5), none, (.p (.mv (.tmp 18))), 0, []⟩,
⟨(some 6), none, (.p (.mv (.tmp 19))), 0, []⟩])
(.seq
(.ops [⟨(some 20), none, (.p (.mv (.tmp 6))), 0, []⟩,
⟨(some 21), none, (.p (.bin .eql (.tmp 20) (.c (.int .i64 5)))), 0, []⟩])
(.cond (.tmp 21)
(.exit 1)
.skip)))
(.seq
(.ops [⟨(some 22), none, (.p (.mv (.tmp 0))), 0, []⟩,
⟨(some 23), none, (.p (.mv (.tmp 4))), 0, []⟩,
⟨(some 24), none, (.h (.call (.c (.fn 14 [] [])) [(.tmp 22), (.tmp 23)])), 0, []⟩,
⟨(some 7), none, (.p (.mv (.tmp 24))), 0, []⟩])
(.seq
(.ops [⟨(some 25), none, (.p (.mv (.tmp 7))), 0, []⟩,
⟨(some 26), none, (.p (.bin .neq (.tmp 25) (.c (.int .i64 0)))), 0, []⟩])
(.cond (.tmp 26)
(.seq
(.ops [⟨(some 27), none, (.p (.mv (.tmp 7))), 0, []⟩,
⟨(some 2), none, (.p (.mv (.tmp 27))), 0, []⟩])
.ret)
.skip))))))
(.ops [⟨(some 28), none, (.p (.bin .add (.tmp 10) (.c (.int .i64 1)))), 0, []⟩,
⟨(some 10), none, (.p (.mv (.tmp 28))), 0, []⟩])))))))
(.seq
(.ops [⟨(some 29), none, (.p (.mv (.tmp 0))), 0, []⟩,
⟨(some 30), none, (.h (.call (.c (.fn 19 [] [])) [(.tmp 29)])), 0, []⟩,
⟨(some 2), none, (.p (.mv (.tmp 30))), 0, []⟩])
.ret)))⟩
theorem c10 : Mir.compF Tryz.prog Tryz.f10 = some g10 := by kernel_rfl
/-- scribe/journal.Load -/
def g11 : Mir.Fn := ⟨28, [(.tmp 2), (.tmp 3)],
(.seq
(.ops [⟨(some 2), none, (.p (.mv (.c (.str [])))), 0, []⟩,
⟨(some 3), none, (.p (.mv (.c (.int .i64 0)))), 0, []⟩])
(.seq
(.ops [⟨(some 8), none, (.p (.mv (.tmp 0))), 0, []⟩,
⟨(some 9), none, (.h (.call (.c (.fn 13 [] [])) [(.tmp 8), (.c (.str [106, 111, 117, 114, 110, 97, 108]))])), 0, []⟩,
⟨(some 7), none, (.p (.mv (.tmp 9))), 0, []⟩,
⟨(some 10), none, (.p (.ext (.tmp 7) 0)), 0, []⟩,
⟨(some 11), none, (.p (.ext (.tmp 7) 1)), 0, []⟩,
⟨(some 4), none, (.p (.mv (.tmp 10))), 0, []⟩,
⟨(some 5), none, (.p (.mv (.tmp 11))), 0, []⟩])
(.seq
(.seq
(.ops [⟨(some 12), none, (.p (.mv (.tmp 5))), 0, []⟩,
⟨(some 13), none, (.p (.bin .neq (.tmp 12) (.c (.int .i64 0)))), 0, []⟩])
(.cond (.tmp 13)
(.seq
(.ops [⟨(some 14), none, (.p (.mv (.tmp 5))), 0, []⟩,
⟨(some 2), none, (.p (.mv (.c (.str [])))), 0, []⟩,
⟨(some 3), none, (.p (.mv (.tmp 14))), 0, []⟩])
.ret)
.skip))
(.seq
(.ops [⟨(some 16), none, (.p (.mv (.tmp 0))), 0, []⟩,
⟨(some 17), none, (.p (.mv (.tmp 4))), 0, []⟩,
⟨(some 18), none, (.h (.call (.c (.fn 25 [] [])) [(.tmp 16), (.c (.str [106, 111, 117, 114, 110, 97, 108])), (.c (.int .i64 0)), (.tmp 17)])), 0, []⟩,
⟨(some 15), none, (.p (.mv (.tmp 18))), 0, []⟩,
⟨(some 19), none, (.p (.ext (.tmp 15) 0)), 0, []⟩,
⟨(some 20), none, (.p (.ext (.tmp 15) 1)), 0, []⟩,
⟨(some 6), none, (.p (.mv (.tmp 19))), 0, []⟩,
⟨(some 5), none, (.p (.mv (.tmp 20))), 0, []⟩])
(.seq
(.seq
(.ops [⟨(some 21), none, (.p (.mv (.tmp 5))), 0, []⟩,
⟨(some 22), none, (.p (.bin .neq (.tmp 21) (.c (.int .i64 0)))), 0, []⟩])
(.cond (.tmp 22)
(.seq
(.ops [⟨(some 23), none, (.p (.mv (.tmp 5))), 0, []⟩,
⟨(some 2), none, (.p (.mv (.c (.str [])))), 0, []⟩,
⟨(some 3), none, (.p (.mv (.tmp 23))), 0, []⟩])
.ret)
.skip))
(.seq
(.ops [⟨(some 24), none, (.p (.mv (.tmp 6))), 0, []⟩,
⟨(some 25), none, (.h (.call (.c (.fn 20 [] [])) [(.tmp 24)])), 0, []⟩,
⟨(some 26), none, (.p (.ext (.tmp 25) 0)), 0, []⟩,
⟨(some 27), none, (.p (.ext (.tmp 25) 1)), 0, []⟩,
⟨(some 2), none, (.p (.mv (.tmp 26))), 0, []⟩,
⟨(some 3), none, (.p (.mv (.tmp 27))), 0, []⟩])
.ret))))))⟩
theorem c11 : Mir.compF Tryz.prog Tryz.f11 = some g11 := by kernel_rfl
/-- (*scribe/disk.Disk).Used -/
def g12 : Mir.Fn := ⟨23, [(.tmp 2)],
(.seq
(.ops [⟨(some 2), none, (.p (.mv (.c (.int .i64 0)))), 0, []⟩])
(.seq
(.ops [⟨(some 3), none, (.p (.mv (.c (.int .i64 0)))), 0, []⟩])
(.seq
(.seq
(.ops [⟨(some 6), none, (.p (.mv (.tmp 0))), 0, []⟩,
⟨(some 7), none, (.p (.nilchk (.tmp 6))), 0, []⟩,
⟨(some 8), none, (.p (.fieldAt 0 (.tmp 7))), 0, []⟩,
⟨(some 9), none, (.r (.load 1 false (.tmp 8))), 0, []⟩,
⟨(some 10), none, (.h (.range (.tmp 9))), 0, []⟩])
(.block 0 (.loop (.seq
(.ops [⟨(some 11), none, (.h (.next (.tmp 10))), 0, []⟩,
⟨(some 12), none, (.p (.ext (.tmp 11) 0)), 0, []⟩])
(.seq
(.cond (.tmp 12)
.skip
(.exit 0))
(.block 1 (.seq
(.ops [⟨(some 13), none, (.r (.entry (.tmp 10))), 0, []⟩,
⟨(some 14), none, (.p (.ext (.tmp 13) 1)), 0, []⟩,
⟨(some 5), none, (.p (.mv (.tmp 14))), 0, []⟩])
(.ops [⟨(some 15), none, (.p (.mv (.tmp 3))), 0, []⟩,
⟨(some 16), none, (.p (.mv (.tmp 5))), 0, []⟩,
⟨(some 17), none, (.p (.nilchk (.tmp 16))), 0, []⟩,
⟨(some 18), none, (.p (.fieldAt 0 (.tmp 17))), 0, []⟩,
⟨(some 19), none, (.r (.load 1 false (.tmp 18))), 0, []⟩,
⟨(some 20), none, (.p (.lenStr (.tmp 19))), 0, []⟩,
⟨(some 21), none, (.p (.bin .add (.tmp 15) (.tmp 20))), 0, []⟩,
⟨(some 3), none, (.p (.mv (.tmp 21))), 0, []⟩]))))))))
(.seq
(.ops [⟨(some 22), none, (.p (.mv (.tmp 3))), 0, []⟩,
⟨(some 2), none, (.p (.mv (.tmp 22))), 0, []⟩])
.ret))))⟩
theorem c12 : Mir.compF Tryz.prog Tryz.f12 = some g12 := by kernel_rfl
/-- (*scribe/disk.Disk).Size -/
def g13 : Mir.Fn := ⟨27, [(.tmp 4), (.tmp 5)],
(.seq
(.ops [⟨(some 4), none, (.p (.mv (.c (.int .i64 0)))), 0, []⟩,
⟨(some 5), none, (.p (.mv (.c (.int .i64 0)))), 0, []⟩])
(.seq
(.seq
(.ops [⟨(some 6), none, (.p (.mv (.tmp 0))), 0, []⟩,
⟨(some 7), none, (.p (.nilchk (.tmp 6))), 0, []⟩,
⟨(some 8), none, (.p (.fieldAt 4 (.tmp 7))), 0, []⟩,
⟨(some 9), none, (.r (.load 1 false (.tmp 8))), 0, []⟩])
(.cond (.tmp 9)
(.seq
(.ops [⟨(some 4), none, (.p (.mv (.c (.int .i64 0)))), 0, []⟩,
⟨(some 5), none, (.p (.mv (.c (.int .i64 8)))), 0, []⟩])
.ret)
.skip))
(.seq
(.seq
(.ops [⟨(some 10), none, (.p (.mv (.tmp 0))), 0, []⟩,
⟨(some 11), none, (.p (.nilchk (.tmp 10))), 0, []⟩,
⟨(some 12), none, (.p (.fieldAt 0 (.tmp 11))), 0, []⟩,
⟨(some 13), none, (.r (.load 1 false (.tmp 12))), 0, []⟩,
⟨(some 14), none, (.p (.mv (.tmp 1))), 0, []⟩,
⟨(some 15), none, (.r (.lookup (.one .str) .nilptr false (.tmp 13) (.tmp 14))), 0, []⟩,
⟨(some 16), none, (.p (.eq .ptr false (.tmp 15) (.c .nilptr))), 0, []⟩])
(.cond (.tmp 16)
(.seq
(.ops [⟨(some 4), none, (.p (.mv (.c (.int .i64 0)))), 0, []⟩,
⟨(some 5), none, (.p (.mv (.c (.int .i64 5)))), 0, []⟩])
.ret)
.skip))
(.seq
(.ops [⟨(some 17), none, (.p (.mv (.tmp 0))), 0, []⟩,
⟨(some 18), none, (.p (.nilchk (.tmp 17))), 0, []⟩,
⟨(some 19), none, (.p (.fieldAt 0 (.tmp 18))), 0, []⟩,
⟨(some 20), none, (.r (.load 1 false (.tmp 19))), 0, []⟩,
⟨(some 21), none, (.p (.mv (.tmp 1))), 0, []⟩,
⟨(some 22), none, (.r (.lookup (.one .str) .nilptr false (.tmp 20) (.tmp 21))), 0, []⟩,
⟨(some 23), none, (.p (.nilchk (.tmp 22))), 0, []⟩,
⟨(some 24), none, (.p (.fieldAt 0 (.tmp 23))), 0, []⟩,
⟨(some 25), none, (.r (.load 1 false (.tmp 24))), 0, []⟩,
⟨(some 26), none, (.p (.lenStr (.tmp 25))), 0, []⟩,
⟨(some 4), none, (.p (.mv (.tmp 26))), 0, []⟩,
⟨(some 5), none, (.p (.mv (.c (.int .i64 0)))), 0, []⟩])
.ret))))⟩
theorem c13 : Mir.compF Tryz.prog Tryz.f13 = some g13 := by kernel_rfl
/-- (*scribe/disk.Disk).Remove -/
def g14 : Mir.Fn := ⟨9, [(.tmp 4)],
(.seq
(.ops [⟨(some 2), none, (.a (.box (.tmp 0))), 0, []⟩,
⟨(some 3), none, (.a (.box (.tmp 1))), 0, []⟩,
⟨(some 4), none, (.p (.mv (.c (.int .i64 0)))), 0, []⟩])
(.seq
(.ops [⟨(some 5), none, (.r (.load 1 false (.tmp 2))), 0, []⟩,
⟨(some 6), none, (.r (.load 1 false (.tmp 3))), 0, []⟩,
⟨(some 7), none, (.p (.mkFn 27 [] [(.tmp 2), (.tmp 3)])), 0, []⟩,
⟨(some 8), none, (.h (.call (.c (.fn 26 [] [])) [(.tmp 5), (.tmp 6), (.tmp 7)])), 0, []⟩,
⟨(some 4), none, (.p (.mv (.tmp 8))), 0, []⟩])
.ret))⟩
theorem c14 : Mir.compF Tryz.prog Tryz.f14 = some g14 := by kernel_rfl
/-- (*scribe/disk.Disk).Append -/
def g15 : Mir.Fn := ⟨85, [(.tmp 6)],
(.seq
(.ops [⟨(some 6), none, (.p (.mv (.c (.int .i64 0)))), 0, []⟩])
(.seq
(.seq
(.ops [⟨(some 9), none, (.p (.mv (.tmp 0))), 0, []⟩,
⟨(some 10), none, (.p (.nilchk (.tmp 9))), 0, []⟩,
⟨(some 11), none, (.p (.fieldAt 4 (.tmp 10))), 0, []⟩,
⟨(some 12), none, (.r (.load 1 false (.tmp 11))), 0, []⟩])
(.cond (.tmp 12)
(.seq
(.ops [⟨(some 6), none, (.p (.mv (.c (.int .i64 8)))), 0, []⟩])
.ret)
.skip))
(.seq
(.ops [⟨(some 13), none, (.p (.mv (.tmp 0))), 0, []⟩,
⟨(some 14), none, (.p (.nilchk (.tmp 13))), 0, []⟩,
⟨(some 15), none, (.p (.fieldAt 0 (.tmp 14))), 0, []⟩,
⟨(some 16), none, (.r (.load 1 false (.tmp 15))), 0, []⟩,
⟨(some 17), none, (.p (.mv (.tmp 1))), 0, []⟩,
⟨(some 18), none, (.r (.lookup (.one .str) .nilptr false (.tmp 16) (.tmp 17))), 0, []⟩,
⟨(some 7), none, (.p (.mv (.tmp 18))), 0, []⟩])
(.seq
(.block 0 (.seq
(.ops [⟨(some 20), none, (.p (.mv (.tmp 1))), 0, []⟩,
⟨(some 21), none, (.h (.call (.c (.fn 28 [] [])) [(.tmp 20)])), 0, []⟩,
⟨(some 22), none, (.p (.un .not (.tmp 21))), 0, []⟩,
⟨(some 19), none, (.p (.mv (.tmp 22))), 0, []⟩])
(.cond (.tmp 19)
(.seq
(.ops [⟨(some 6), none, (.p (.mv (.c (.int .i64 1)))), 0, []⟩])
.ret)
(.seq
(.ops [⟨(some 24), none, (.p (.mv (.tmp 7))), 0, []⟩,
⟨(some 25), none, (.p (.eq .ptr false (.tmp 24) (.c .nilptr))), 0, []⟩,
⟨(some 26), none, (.p (.mv (.tmp 25))), 0, []⟩,
⟨(some 27), (some (26, true)), (.p (.mv (.tmp 0))), 0, []⟩,
⟨(some 28), (some (26, true)), (.p (.nilchk (.tmp 27))), 0, []⟩,
⟨(some 29), (some (26, true)), (.p (.fieldAt 0 (.tmp 28))), 0, []⟩,
⟨(some 30), (some (26, true)), (.r (.load 1 false (.tmp 29))), 0, []⟩,
⟨(some 31), (some (26, true)), (.r (.lenMap (.tmp 30))), 0, []⟩,
⟨(some 32), (some (26, true)), (.p (.bin .geq (.tmp 31) (.c (.int .i64 100)))), 0, []⟩,
⟨(some 33), none, (.p (.pick (.tmp 26) (.tmp 32) (.c (.bool false)))), 0, []⟩,
⟨(some 23), none, (.p (.mv (.tmp 33))), 0, []⟩])
(.cond (.tmp 23)
(.seq
(.ops [⟨(some 6), none, (.p (.mv (.c (.int .i64 7)))), 0, []⟩])
.ret)
(.seq
(.draw [⟨(some 35), none, (.p (.mv (.tmp 2))), 0, []⟩,
⟨(some 36), none, (.p (.lenStr (.tmp 35))), 1, []⟩,
⟨(some 37), none, (.p (.mv (.tmp 0))), 2, []⟩,
⟨(some 38), none, (.p (.nilchk (.tmp 37))), 3, []⟩,
⟨(some 39), none, (.p (.fieldAt 2 (.tmp 38))), 4, []⟩,
⟨(some 40), none, (.r (.load 1 false (.tmp 39))), 5, []⟩,
⟨(some 41), none, (.p (.mv (.tmp 0))), 6, []⟩,
⟨(some 42), none, (.h (.call (.c (.fn 12 [] [])) [(.tmp 41)])), 7, [5]⟩,
⟨(some 43), none, (.p (.bin .sub (.tmp 40) (.tmp 42))), 8, []⟩,
⟨(some 44), none, (.p (.bin .gtr (.tmp 36) (.tmp 43))), 9, []⟩,
⟨(some 34), none, (.p (.mv (.tmp 44))), 10, []⟩])
(.cond (.tmp 34)
(.seq
(.ops [⟨(some 6), none, (.p (.mv (.c (.int .i64 7)))), 0, []⟩])
.ret)
(.seq
(.ops [⟨(some 46), none, (.p (.mv (.tmp 7))), 0, []⟩,
⟨(some 47), none, (.p (.eq .ptr true (.tmp 46) (.c .nilptr))), 0, []⟩,
⟨(some 48), none, (.p (.mv (.tmp 47))), 0, []⟩,
⟨(some 49), (some (48, true)), (.p (.mv (.tmp 2))), 0, []⟩,
⟨(some 50), (some (48, true)), (.p (.lenStr (.tmp 49))), 0, []⟩,
⟨(some 51), (some (48, true)), (.p (.mv (.tmp 7))), 0, []⟩,
⟨(some 52), (some (48, true)), (.p (.nilchk (.tmp 51))), 0, []⟩,
⟨(some 53), (some (48, true)), (.p (.fieldAt 0 (.tmp 52))), 0, []⟩,
⟨(some 54), (some (48, true)), (.r (.load 1 false (.tmp 53))), 0, []⟩,
⟨(some 55), (some (48, true)), (.p (.lenStr (.tmp 54))), 0, []⟩,
⟨(some 56), (some (48, true)), (.p (.bin .sub (.c (.int .i64 1048576)) (.tmp 55))), 0, []⟩,
⟨(some 57), (some (48, true)), (.p (.bin .gtr (.tmp 50) (.tmp 56))), 0, []⟩,
⟨(some 58), none, (.p (.pick (.tmp 48) (.tmp 57) (.c (.bool false)))), 0, []⟩,
⟨(some 59), none, (.p (.mv (.tmp 58))), 0, []⟩,
⟨(some 60), (some (59, false)), (.p (.mv (.tmp 2))), 0, []⟩,
⟨(some 61), (some (59, false)), (.p (.lenStr (.tmp 60))), 0, []⟩,
⟨(some 62), (some (59, false)), (.p (.bin .gtr (.tmp 61) (.c (.int .i64 1048576)))), 0, []⟩,
⟨(some 63), none, (.p (.pick (.tmp 59) (.c (.bool true)) (.tmp 62))), 0, []⟩,
⟨(some 45), none, (.p (.mv (.tmp 63))), 0, []⟩])
(.cond (.tmp 45)
(.seq
(.ops [⟨(some 6), none, (.p (.mv (.c (.int .i64 12)))), 0, []⟩])
.ret)
.skip)))))))))
(.seq
(.ops [⟨(some 64), none, (.p (.mv (.tmp 0))), 0, []⟩,
⟨(some 65), none, (.h (.call (.c (.fn 29 [] [])) [(.tmp 64)])), 0, []⟩,
⟨(some 8), none, (.p (.mv (.tmp 65))), 0, []⟩])
(.seq
(.seq
(.ops [⟨(some 66), none, (.p (.mv (.tmp 7))), 0, []⟩,
⟨(some 67), none, (.p (.eq .ptr false (.tmp 66) (.c .nilptr))), 0, []⟩])
(.cond (.tmp 67)
(.seq
(.ops [⟨(some 68), none, (.p (.build [(.str []), (.str [])] [])), 0, []⟩,
⟨(some 69), none, (.a (.box (.tmp 68))), 0, []⟩,
⟨(some 7), none, (.p (.mv (.tmp 69))), 0, []⟩])
(.ops [⟨(some 70), none, (.p (.mv (.tmp 0))), 0, []⟩,
⟨(some 71), none, (.p (.nilchk (.tmp 70))), 0, []⟩,
⟨(some 72), none, (.p (.fieldAt 0 (.tmp 71))), 0, []⟩,
⟨(some 73), none, (.r (.load 1 false (.tmp 72))), 0, []⟩,
⟨(some 74), none, (.p (.mv (.tmp 1))), 0, []⟩,
⟨(some 75), none, (.p (.mv (.tmp 7))), 0, []⟩,
⟨none, none, (.h (.mapUpd (.one .str) (.tmp 73) (.tmp 74) (.tmp 75))), 0, []⟩]))
.skip))
(.seq
(.ops [⟨(some 76), none, (.p (.mv (.tmp 7))), 0, []⟩,
⟨(some 77), none, (.p (.nilchk (.tmp 76))), 0, []⟩,
⟨(some 78), none, (.p (.fieldAt 0 (.tmp 77))), 0, []⟩,
⟨(some 79), none, (.r (.load 1 false (.tmp 78))), 0, []⟩,
⟨(some 80), none, (.p (.mv (.tmp 2))), 0, []⟩,
⟨(some 81), none, (.p (.bin .add (.tmp 79) (.tmp 80))), 0, []⟩,
⟨(some 82), none, (.p (.nilchk (.tmp 76))), 0, []⟩,
⟨(some 83), none, (.p (.fieldAt 0 (.tmp 82))), 0, []⟩,
⟨none, none, (.h (.store 1 (.tmp 83) (.tmp 81))), 0, []⟩])
(.seq
(.seq
(.ops [⟨(some 84), none, (.p (.mv (.tmp 8))), 0, []⟩])
(.cond (.tmp 84)
(.seq
(.ops [⟨(some 6), none, (.p (.mv (.c (.int .i64 8)))), 0, []⟩])
.ret)
.skip))
(.seq
(.ops [⟨(some 6), none, (.p (.mv (.c (.int .i64 0)))), 0, []⟩])
.ret)))))))))⟩
theorem c15 : Mir.compF Tryz.prog Tryz.f15 = some g15 := by kernel_rfl
/-- scribe/journal.Frame -/
def g16 : Mir.Fn := ⟨15, [(.tmp 2)],
(.seq
(.ops [⟨(some 2), none, (.p (.mv (.c (.str [])))), 0, []⟩])
(.seq
(.ops [⟨(some 3), none, (.p (.mv (.tmp 0))), 0, []⟩,
⟨(some 4), none, (.p (.lenStr (.tmp 3))), 0, []⟩,
⟨(some 5), none, (.h (.call (.c (.fn 30 [] [])) [(.tmp 4)])), 0, []⟩,
⟨(some 6), none, (.p (.bin .add (.c (.str [115, 99, 114, 105, 98, 101, 32, 49, 32])) (.tmp 5))), 0, []⟩,
⟨(some 7), none, (.p (.bin .add (.tmp 6) (.c (.str [32])))), 0, []⟩,
⟨(some 8), none, (.p (.mv (.tmp 0))), 0, []⟩,
⟨(some 9), none, (.h (.call (.c (.fn 32 [] [])) [(.tmp 8)])), 0, []⟩,
⟨(some 10), none, (.h (.call (.c (.fn 31 [] [])) [(.tmp 9)])), 0, []⟩,
⟨(some 11), none, (.p (.bin .add (.tmp 7) (.tmp 10))), 0, []⟩,
⟨(some 12), none, (.p (.bin .add (.tmp 11) (.c (.str [10])))), 0, []⟩,
⟨(some 13), none, (.p (.mv (.tmp 0))), 0, []⟩,
⟨(some 14), none, (.p (.bin .add (.tmp 12) (.tmp 13))), 0, []⟩,
⟨(some 2), none, (.p (.mv (.tmp 14))), 0, []⟩])
.ret))⟩
theorem c16 : Mir.compF Tryz.prog Tryz.f16 = some g16 := by kernel_rfl
/-- (*scribe/disk.Disk).Sync -/
def g17 : Mir.Fn := ⟨8, [(.tmp 4)],
(.seq
(.ops [⟨(some 4), none, (.p (.mv (.c (.int .i64 0)))), 0, []⟩])
(.seq
(.ops [⟨(some 5), none, (.p (.mv (.tmp 0))), 0, []⟩,
⟨(some 6), none, (.p (.mv (.tmp 1))), 0, []⟩,
⟨(some 7), none, (.h (.call (.c (.fn 26 [] [])) [(.tmp 5), (.tmp 6), (.c (.fn 33 [] []))])), 0, []⟩,
⟨(some 4), none, (.p (.mv (.tmp 7))), 0, []⟩])
.ret))⟩
theorem c17 : Mir.compF Tryz.prog Tryz.f17 = some g17 := by kernel_rfl
/-- (*scribe/disk.Disk).Rename -/
def g18 : Mir.Fn := ⟨30, [(.tmp 6)],
(.seq
(.ops [⟨(some 3), none, (.a (.box (.tmp 0))), 0, []⟩,
⟨(some 4), none, (.a (.box (.tmp 1))), 0, []⟩,
⟨(some 5), none, (.a (.box (.tmp 2))), 0, []⟩,
⟨(some 6), none, (.p (.mv (.c (.int .i64 0)))), 0, []⟩])
(.seq
(.seq
(.draw [⟨(some 7), none, (.r (.load 1 false (.tmp 3))), 0, []⟩,
⟨(some 8), none, (.p (.nilchk (.tmp 7))), 1, []⟩,
⟨(some 9), none, (.p (.fieldAt 4 (.tmp 8))), 2, []⟩,
⟨(some 10), none, (.r (.load 1 false (.tmp 9))), 3, []⟩,
⟨(some 11), none, (.p (.un .not (.tmp 10))), 4, []⟩,
⟨(some 12), none, (.p (.mv (.tmp 11))), 5, []⟩,
⟨(some 13), (some (12, true)), (.r (.load 1 false (.tmp 3))), 6, []⟩,
⟨(some 14), (some (12, true)), (.p (.nilchk (.tmp 13))), 7, []⟩,
⟨(some 15), (some (12, true)), (.p (.fieldAt 0 (.tmp 14))), 8, []⟩,
⟨(some 16), (some (12, true)), (.r (.load 1 false (.tmp 15))), 9, []⟩,
⟨(some 17), (some (12, true)), (.r (.load 1 false (.tmp 4))), 10, []⟩,
⟨(some 18), (some (12, true)), (.r (.lookup (.one .str) .nilptr false (.tmp 16) (.tmp 17))), 11, []⟩,
⟨(some 19), (some (12, true)), (.p (.eq .ptr true (.tmp 18) (.c .nilptr))), 12, []⟩,
⟨(some 20), none, (.p (.pick (.tmp 12) (.tmp 19) (.c (.bool false)))), 13, []⟩,
⟨(some 21), none, (.p (.mv (.tmp 20))), 14, []⟩,
⟨(some 22), (some (21, true)), (.r (.load 1 false (.tmp 5))), 15, []⟩,
⟨(some 23), (some (21, true)), (.h (.call (.c (.fn 28 [] [])) [(.tmp 22)])), 16, []⟩,
⟨(some 24), (some (21, true)), (.p (.un .not (.tmp 23))), 17, []⟩,
⟨(some 25), none, (.p (.pick (.tmp 21) (.tmp 24) (.c (.bool false)))), 18, []⟩])
(.cond (.tmp 25)
(.seq
(.ops [⟨(some 6), none, (.p (.mv (.c (.int .i64 1)))), 0, []⟩])
.ret)
.skip))
(.seq
(.ops [⟨(some 26), none, (.r (.load 1 false (.tmp 3))), 0, []⟩,
⟨(some 27), none, (.r (.load 1 false (.tmp 4))), 0, []⟩,
⟨(some 28), none, (.p (.mkFn 34 [] [(.tmp 3), (.tmp 4), (.tmp 5)])), 0, []⟩,
⟨(some 29), none, (.h (.call (.c (.fn 26 [] [])) [(.tmp 26), (.tmp 27), (.tmp 28)])), 0, []⟩,
⟨(some 6), none, (.p (.mv (.tmp 29))), 0, []⟩])
.ret)))⟩
theorem c18 : Mir.compF Tryz.prog Tryz.f18 = some g18 := by kernel_rfl
/-- (*scribe/disk.Disk).SyncDir -/
def g19 : Mir.Fn := ⟨19, [(.tmp 2)],
(.seq
(.ops [⟨(some 2), none, (.p (.mv (.c (.int .i64 0)))), 0, []⟩])
(.seq
(.seq
(.ops [⟨(some 3), none, (.p (.mv (.tmp 0))), 0, []⟩,
⟨(some 4), none, (.p (.nilchk (.tmp 3))), 0, []⟩,
⟨(some 5), none, (.p (.fieldAt 4 (.tmp 4))), 0, []⟩,
⟨(some 6), none, (.r (.load 1 false (.tmp 5))), 0, []⟩,
⟨(some 7), none, (.p (.mv (.tmp 6))), 0, []⟩,
⟨(some 8), (some (7, false)), (.p (.mv (.tmp 0))), 0, []⟩,
⟨(some 9), (some (7, false)), (.h (.call (.c (.fn 29 [] [])) [(.tmp 8)])), 0, []⟩,
⟨(some 10), none, (.p (.pick (.tmp 7) (.c (.bool true)) (.tmp 9))), 0, []⟩])
(.cond (.tmp 10)
(.seq
(.ops [⟨(some 2), none, (.p (.mv (.c (.int .i64 8)))), 0, []⟩])
.ret)
.skip))
(.seq
(.ops [⟨(some 11), none, (.p (.mv (.tmp 0))), 0, []⟩,
⟨(some 12), none, (.p (.mv (.tmp 0))), 0, []⟩,
⟨(some 13), none, (.p (.nilchk (.tmp 12))), 0, []⟩,
⟨(some 14), none, (.p (.fieldAt 0 (.tmp 13))), 0, []⟩,
⟨(some 15), none, (.r (.load 1 false (.tmp 14))), 0, []⟩,
⟨(some 16), none, (.h (.call (.c (.fn 21 [] [])) [(.tmp 15)])), 0, []⟩,
⟨(some 17), none, (.p (.nilchk (.tmp 11))), 0, []⟩,
⟨(some 18), none, (.p (.fieldAt 1 (.tmp 17))), 0, []⟩,
⟨none, none, (.h (.store 1 (.tmp 18) (.tmp 16))), 0, []⟩])
(.seq
(.ops [⟨(some 2), none, (.p (.mv (.c (.int .i64 0)))), 0, []⟩])
.ret))))⟩
theorem c19 : Mir.compF Tryz.prog Tryz.f19 = some g19 := by kernel_rfl
/-- scribe/journal.Open -/
def g20 : Mir.Fn := ⟨72, [(.tmp 2), (.tmp 3)],
(.seq
(.ops [⟨(some 2), none, (.p (.mv (.c (.str [])))), 0, []⟩,
⟨(some 3), none, (.p (.mv (.c (.int .i64 0)))), 0, []⟩])
(.seq
(.ops [⟨(some 14), none, (.p (.mv (.tmp 0))), 0, []⟩,
⟨(some 15), none, (.h (.call (.c (.fn 24 [] [])) [(.tmp 14), (.c (.str [115, 99, 114, 105, 98, 101, 32, 49, 32]))])), 0, []⟩,
⟨(some 13), none, (.p (.mv (.tmp 15))), 0, []⟩,
⟨(some 16), none, (.p (.ext (.tmp 13) 0)), 0, []⟩,
⟨(some 17), none, (.p (.ext (.tmp 13) 1)), 0, []⟩,
⟨(some 4), none, (.p (.mv (.tmp 16))), 0, []⟩,
⟨(some 5), none, (.p (.mv (.tmp 17))), 0, []⟩])
(.seq
(.seq
(.ops [⟨(some 18), none, (.p (.mv (.tmp 5))), 0, []⟩,
⟨(some 19), none, (.p (.un .not (.tmp 18))), 0, []⟩])
(.cond (.tmp 19)
(.seq
(.seq
(.ops [⟨(some 20), none, (.p (.mv (.tmp 0))), 0, []⟩,
⟨(some 21), none, (.h (.call (.c (.fn 35 [] [])) [(.c (.str [115, 99, 114, 105, 98, 101, 32, 49, 32])), (.tmp 20)])), 0, []⟩])
(.cond (.tmp 21)
(.seq
(.ops [⟨(some 2), none, (.p (.mv (.c (.str [])))), 0, []⟩,
⟨(some 3), none, (.p (.mv (.c (.int .i64 2)))), 0, []⟩])
.ret)
.skip))
(.seq
(.ops [⟨(some 2), none, (.p (.mv (.c (.str [])))), 0, []⟩,
⟨(some 3), none, (.p (.mv (.c (.int .i64 3)))), 0, []⟩])
.ret))
.skip))
(.seq
(.ops [⟨(some 23), none, (.p (.mv (.tmp 4))), 0, []⟩,
⟨(some 24), none, (.h (.call (.c (.fn 36 [] [])) [(.tmp 23), (.c (.str [10]))])), 0, []⟩,
⟨(some 22), none, (.p (.mv (.tmp 24))), 0, []⟩,
⟨(some 25), none, (.p (.ext (.tmp 22) 0)), 0, []⟩,
⟨(some 26), none, (.p (.ext (.tmp 22) 1)), 0, []⟩,
⟨(some 27), none, (.p (.ext (.tmp 22) 2)), 0, []⟩,
⟨(some 6), none, (.p (.mv (.tmp 25))), 0, []⟩,
⟨(some 7), none, (.p (.mv (.tmp 26))), 0, []⟩,
⟨(some 5), none, (.p (.mv (.tmp 27))), 0, []⟩])
(.seq
(.seq
(.ops [⟨(some 28), none, (.p (.mv (.tmp 5))), 0, []⟩,
⟨(some 29), none, (.p (.un .not (.tmp 28))), 0, []⟩])
(.cond (.tmp 29)
(.seq
(.ops [⟨(some 2), none, (.p (.mv (.c (.str [])))), 0, []⟩,
⟨(some 3), none, (.p (.mv (.c (.int .i64 2)))), 0, []⟩])
.ret)
.skip))
(.seq
(.ops [⟨(some 31), none, (.p (.mv (.tmp 6))), 0, []⟩,
⟨(some 32), none, (.h (.call (.c (.fn 36 [] [])) [(.tmp 31), (.c (.str [32]))])), 0, []⟩,
⟨(some 30), none, (.p (.mv (.tmp 32))), 0, []⟩,
⟨(some 33), none, (.p (.ext (.tmp 30) 0)), 0, []⟩,
⟨(some 34), none, (.p (.ext (.tmp 30) 1)), 0, []⟩,
⟨(some 35), none, (.p (.ext (.tmp 30) 2)), 0, []⟩,
⟨(some 8), none, (.p (.mv (.tmp 33))), 0, []⟩,
⟨(some 9), none, (.p (.mv (.tmp 34))), 0, []⟩,
⟨(some 5), none, (.p (.mv (.tmp 35))), 0, []⟩])
(.seq
(.ops [⟨(some 37), none, (.p (.mv (.tmp 8))), 0, []⟩,
⟨(some 38), none, (.h (.call (.c (.fn 37 [] [])) [(.tmp 37)])), 0, []⟩,
⟨(some 36), none, (.p (.mv (.tmp 38))), 0, []⟩,
⟨(some 39), none, (.p (.ext (.tmp 36) 0)), 0, []⟩,
⟨(some 40), none, (.p (.ext (.tmp 36) 1)), 0, []⟩,
⟨(some 10), none, (.p (.mv (.tmp 39))), 0, []⟩,
⟨(some 11), none, (.p (.mv (.tmp 40))), 0, []⟩])
(.seq
(.seq
(.ops [⟨(some 41), none, (.p (.mv (.tmp 5))), 0, []⟩,
⟨(some 42), none, (.p (.un .not (.tmp 41))), 0, []⟩,
⟨(some 43), none, (.p (.mv (.tmp 42))), 0, []⟩,
⟨(some 44), (some (43, false)), (.p (.mv (.tmp 11))), 0, []⟩,
⟨(some 45), (some (43, false)), (.p (.eq .iface true (.tmp 44) (.c .nilif))), 0, []⟩,
⟨(some 46), none, (.p (.pick (.tmp 43) (.c (.bool true)) (.tmp 45))), 0, []⟩,
⟨(some 47), none, (.p (.mv (.tmp 46))), 0, []⟩,
⟨(some 48), (some (47, false)), (.p (.mv (.tmp 10))), 0, []⟩,
⟨(some 49), (some (47, false)), (.h (.call (.c (.fn 30 [] [])) [(.tmp 48)])), 0, []⟩,
⟨(some 50), (some (47, false)), (.p (.mv (.tmp 8))), 0, []⟩,
⟨(some 51), (some (47, false)), (.p (.bin .neq (.tmp 49) (.tmp 50))), 0, []⟩,
⟨(some 52), none, (.p (.pick (.tmp 47) (.c (.bool true)) (.tmp 51))), 0, []⟩,
⟨(some 53), none, (.p (.mv (.tmp 52))), 0, []⟩,
⟨(some 54), (some (53, false)), (.p (.mv (.tmp 10))), 0, []⟩,
⟨(some 55), (some (53, false)), (.p (.bin .lss (.tmp 54) (.c (.int .i64 0)))), 0, []⟩,
⟨(some 56), none, (.p (.pick (.tmp 53) (.c (.bool true)) (.tmp 55))), 0, []⟩])
(.cond (.tmp 56)
(.seq
(.ops [⟨(some 2), none, (.p (.mv (.c (.str [])))), 0, []⟩,
⟨(some 3), none, (.p (.mv (.c (.int .i64 3)))), 0, []⟩])
.ret)
.skip))
(.seq
(.seq
(.ops [⟨(some 57), none, (.p (.mv (.tmp 7))), 0, []⟩,
⟨(some 58), none, (.p (.lenStr (.tmp 57))), 0, []⟩,
⟨(some 59), none, (.p (.mv (.tmp 10))), 0, []⟩,
⟨(some 60), none, (.p (.bin .lss (.tmp 58) (.tmp 59))), 0, []⟩])
(.cond (.tmp 60)
(.seq
(.ops [⟨(some 2), none, (.p (.mv (.c (.str [])))), 0, []⟩,
⟨(some 3), none, (.p (.mv (.c (.int .i64 2)))), 0, []⟩])
.ret)
.skip))
(.seq
(.seq
(.ops [⟨(some 61), none, (.p (.mv (.tmp 7))), 0, []⟩,
⟨(some 62), none, (.p (.lenStr (.tmp 61))), 0, []⟩,
⟨(some 63), none, (.p (.mv (.tmp 10))), 0, []⟩,
⟨(some 64), none, (.p (.bin .gtr (.tmp 62) (.tmp 63))), 0, []⟩])
(.cond (.tmp 64)
(.seq
(.ops [⟨(some 2), none, (.p (.mv (.c (.str [])))), 0, []⟩,
⟨(some 3), none, (.p (.mv (.c (.int .i64 3)))), 0, []⟩])
.ret)
.skip))
(.seq
(.seq
(.ops [⟨(some 65), none, (.p (.mv (.tmp 9))), 0, []⟩,
⟨(some 66), none, (.p (.mv (.tmp 7))), 0, []⟩,
⟨(some 67), none, (.h (.call (.c (.fn 38 [] [])) [(.tmp 65), (.tmp 66)])), 0, []⟩,
⟨(some 12), none, (.p (.mv (.tmp 67))), 0, []⟩])
(.seq
(.ops [⟨(some 68), none, (.p (.mv (.tmp 12))), 0, []⟩,
⟨(some 69), none, (.p (.bin .neq (.tmp 68) (.c (.int .i64 0)))), 0, []⟩])
(.cond (.tmp 69)
(.seq
(.ops [⟨(some 70), none, (.p (.mv (.tmp 12))), 0, []⟩,
⟨(some 2), none, (.p (.mv (.c (.str [])))), 0, []⟩,
⟨(some 3), none, (.p (.mv (.tmp 70))), 0, []⟩])
.ret)
.skip)))
(.seq
(.ops [⟨(some 71), none, (.p (.mv (.tmp 7))), 0, []⟩,
⟨(some 2), none, (.p (.mv (.tmp 71))), 0, []⟩,
⟨(some 3), none, (.p (.mv (.c (.int .i64 0)))), 0, []⟩])
.ret))))))))))))⟩
theorem c20 : Mir.compF Tryz.prog Tryz.f20 = some g20 := by kernel_rfl
/-- maps.Clone[map[string]*scribe/disk.file,string,*scribe/disk.file] -/
def g21 : Mir.Fn := ⟨9, [(.tmp 2)],
(.seq
(.ops [⟨(some 2), none, (.p (.mv (.c .nilmap))), 0, []⟩])
(.seq
(.seq
(.ops [⟨(some 3), none, (.p (.mv (.tmp 0))), 0, []⟩,
⟨(some 4), none, (.p (.eq .map false (.tmp 3) (.c .nilmap))), 0, []⟩])
(.cond (.tmp 4)
(.seq
(.ops [⟨(some 2), none, (.p (.mv (.c .nilmap))), 0, []⟩])
.ret)
.skip))
(.seq
(.ops [⟨(some 5), none, (.p (.mv (.tmp 0))), 0, []⟩,
⟨(some 6), none, (.p (.mkIf 36 (.tmp 5))), 0, []⟩,
⟨(some 7), none, (.h (.clone (.tmp 6))), 0, []⟩,
⟨(some 8), none, (.p (.unwrap 36 (.tmp 7))), 0, []⟩,
⟨(some 2), none, (.p (.mv (.tmp 8))), 0, []⟩])
.ret)))⟩
theorem c21 : Mir.compF Tryz.prog Tryz.f21 = some g21 := by kernel_rfl
/-- slices.Sorted[string] -/
def g22 : Mir.Fn := ⟨9, [(.tmp 2)],
(.seq
(.ops [⟨(some 2), none, (.p (.mv (.c .nilsl))), 0, []⟩])
(.seq
(.ops [⟨(some 4), none, (.p (.mv (.tmp 0))), 0, []⟩,
⟨(some 5), none, (.h (.call (.c (.fn 40 [] [])) [(.tmp 4)])), 0, []⟩,
⟨(some 3), none, (.p (.mv (.tmp 5))), 0, []⟩])
(.seq
(.ops [⟨(some 6), none, (.p (.mv (.tmp 3))), 0, []⟩,
⟨(some 7), none, (.h (.call (.c (.fn 41 [] [])) [(.tmp 6)])), 0, []⟩])
(.seq
(.ops [⟨(some 8), none, (.p (.mv (.tmp 3))), 0, []⟩,
⟨(some 2), none, (.p (.mv (.tmp 8))), 0, []⟩])
.ret))))⟩
theorem c22 : Mir.compF Tryz.prog Tryz.f22 = some g22 := by kernel_rfl
/-- maps.Keys[map[string]*scribe/disk.file,string,*scribe/disk.file] -/
def g23 : Mir.Fn := ⟨4, [(.tmp 2)],
(.seq
(.ops [⟨(some 1), none, (.a (.box (.tmp 0))), 0, []⟩,
⟨(some 2), none, (.p (.mv (.c .nilfn))), 0, []⟩])
(.seq
(.ops [⟨(some 3), none, (.p (.mkFn 42 [] [(.tmp 1)])), 0, []⟩,
⟨(some 2), none, (.p (.mv (.tmp 3))), 0, []⟩])
.ret))⟩
theorem c23 : Mir.compF Tryz.prog Tryz.f23 = some g23 := by kernel_rfl
/-- strings.CutPrefix -/
def g24 : Mir.Fn := ⟨11, [(.tmp 4), (.tmp 5)],
(.seq
(.ops [⟨(some 4), none, (.p (.mv (.c (.str [])))), 0, []⟩,
⟨(some 5), none, (.p (.mv (.c (.bool false)))), 0, []⟩])
(.seq
(.ops [⟨(some 6), none, (.p (.mv (.tmp 0))), 0, []⟩,
⟨(some 7), none, (.p (.mv (.tmp 1))), 0, []⟩,
⟨(some 8), none, (.h (.call (.c (.fn 43 [] [])) [(.tmp 6), (.tmp 7)])), 0, []⟩,
⟨(some 9), none, (.p (.ext (.tmp 8) 0)), 0, []⟩,
⟨(some 10), none, (.p (.ext (.tmp 8) 1)), 0, []⟩,
⟨(some 4), none, (.p (.mv (.tmp 9))), 0, []⟩,
⟨(some 5), none, (.p (.mv (.tmp 10))), 0, []⟩])
.ret))⟩
theorem c24 : Mir.compF Tryz.prog Tryz.f24 = some g24 := by kernel_rfl
/-- (*scribe/disk.Disk).Read -/
def g25 : Mir.Fn := ⟨48, [(.tmp 8), (.tmp 9)],
(.seq
(.ops [⟨(some 8), none, (.p (.mv (.c (.str [])))), 0, []⟩,
⟨(some 9), none, (.p (.mv (.c (.int .i64 0)))), 0, []⟩])
(.seq
(.seq
(.ops [⟨(some 12), none, (.p (.mv (.tmp 0))), 0, []⟩,
⟨(some 13), none, (.p (.nilchk (.tmp 12))), 0, []⟩,
⟨(some 14), none, (.p (.fieldAt 4 (.tmp 13))), 0, []⟩,
⟨(some 15), none, (.r (.load 1 false (.tmp 14))), 0, []⟩])
(.cond (.tmp 15)
(.seq
(.ops [⟨(some 8), none, (.p (.mv (.c (.str [])))), 0, []⟩,
⟨(some 9), none, (.p (.mv (.c (.int .i64 8)))), 0, []⟩])
.ret)
.skip))
(.seq
(.ops [⟨(some 16), none, (.p (.mv (.tmp 0))), 0, []⟩,
⟨(some 17), none, (.p (.nilchk (.tmp 16))), 0, []⟩,
⟨(some 18), none, (.p (.fieldAt 0 (.tmp 17))), 0, []⟩,
⟨(some 19), none, (.r (.load 1 false (.tmp 18))), 0, []⟩,
⟨(some 20), none, (.p (.mv (.tmp 1))), 0, []⟩,
⟨(some 21), none, (.r (.lookup (.one .str) .nilptr false (.tmp 19) (.tmp 20))), 0, []⟩,
⟨(some 10), none, (.p (.mv (.tmp 21))), 0, []⟩])
(.seq
(.seq
(.ops [⟨(some 22), none, (.p (.mv (.tmp 10))), 0, []⟩,
⟨(some 23), none, (.p (.eq .ptr false (.tmp 22) (.c .nilptr))), 0, []⟩])
(.cond (.tmp 23)
(.seq
(.ops [⟨(some 8), none, (.p (.mv (.c (.str [])))), 0, []⟩,
⟨(some 9), none, (.p (.mv (.c (.int .i64 5)))), 0, []⟩])
.ret)
.skip))
(.seq
(.seq
(.ops [⟨(some 24), none, (.p (.mv (.tmp 2))), 0, []⟩,
⟨(some 25), none, (.p (.bin .lss (.tmp 24) (.c (.int .i64 0)))), 0, []⟩,
⟨(some 26), none, (.p (.mv (.tmp 25))), 0, []⟩,
⟨(some 27), (some (26, false)), (.p (.mv (.tmp 3))), 0, []⟩,
⟨(some 28), (some (26, false)), (.p (.bin .lss (.tmp 27) (.c (.int .i64 0)))), 0, []⟩,
⟨(some 29), none, (.p (.pick (.tmp 26) (.c (.bool true)) (.tmp 28))), 0, []⟩])
(.cond (.tmp 29)
(.seq
(.ops [⟨(some 8), none, (.p (.mv (.c (.str [])))), 0, []⟩,
⟨(some 9), none, (.p (.mv (.c (.int .i64 1)))), 0, []⟩])
.ret)
.skip))
(.seq
(.draw [⟨(some 30), none, (.p (.mv (.tmp 10))), 0, []⟩,
⟨(some 31), none, (.p (.nilchk (.tmp 30))), 1, []⟩,
⟨(some 32), none, (.p (.fieldAt 0 (.tmp 31))), 2, []⟩,
⟨(some 33), none, (.r (.load 1 false (.tmp 32))), 3, []⟩,
⟨(some 34), none, (.p (.mv (.tmp 2))), 4, []⟩,
⟨(some 35), none, (.p (.mv (.tmp 10))), 5, []⟩,
⟨(some 36), none, (.p (.nilchk (.tmp 35))), 6, []⟩,
⟨(some 37), none, (.p (.fieldAt 0 (.tmp 36))), 7, []⟩,
⟨(some 38), none, (.r (.load 1 false (.tmp 37))), 8, []⟩,
⟨(some 39), none, (.p (.lenStr (.tmp 38))), 9, []⟩,
⟨(some 40), none, (.p (.mnmx false (.tmp 34) [(.tmp 39)])), 10, []⟩,
⟨(some 41), none, (.p (.subStr (.tmp 33) (some (.tmp 40)) none)), 11, []⟩,
⟨(some 11), none, (.p (.mv (.tmp 41))), 12, []⟩])
(.seq
(.ops [⟨(some 42), none, (.p (.mv (.tmp 11))), 0, []⟩,
⟨(some 43), none, (.p (.mv (.tmp 3))), 0, []⟩,
⟨(some 44), none, (.p (.mv (.tmp 11))), 0, []⟩,
⟨(some 45), none, (.p (.lenStr (.tmp 44))), 0, []⟩,
⟨(some 46), none, (.p (.mnmx false (.tmp 43) [(.tmp 45)])), 0, []⟩,
⟨(some 47), none, (.p (.subStr (.tmp 42) none (some (.tmp 46)))), 0, []⟩,
⟨(some 8), none, (.p (.mv (.tmp 47))), 0, []⟩,
⟨(some 9), none, (.p (.mv (.c (.int .i64 0)))), 0, []⟩])
.ret)))))))⟩
theorem c25 : Mir.compF Tryz.prog Tryz.f25 = some g25 := by kernel_rfl
/-- (*scribe/disk.Disk).change -/
def g26 : Mir.Fn := ⟨25, [(.tmp 6)],
(.seq
(.ops [⟨(some 6), none, (.p (.mv (.c (.int .i64 0)))), 0, []⟩])
(.seq
(.seq
(.ops [⟨(some 8), none, (.p (.mv (.tmp 0))), 0, []⟩,
⟨(some 9), none, (.p (.nilchk (.tmp 8))), 0, []⟩,
⟨(some 10), none, (.p (.fieldAt 4 (.tmp 9))), 0, []⟩,
⟨(some 11), none, (.r (.load 1 false (.tmp 10))), 0, []⟩])
(.cond (.tmp 11)
(.seq
(.ops [⟨(some 6), none, (.p (.mv (.c (.int .i64 8)))), 0, []⟩])
.ret)
.skip))
(.seq
(.ops [⟨(some 12), none, (.p (.mv (.tmp 0))), 0, []⟩,
⟨(some 13), none, (.p (.nilchk (.tmp 12))), 0, []⟩,
⟨(some 14), none, (.p (.fieldAt 0 (.tmp 13))), 0, []⟩,
⟨(some 15), none, (.r (.load 1 false (.tmp 14))), 0, []⟩,
⟨(some 16), none, (.p (.mv (.tmp 1))), 0, []⟩,
⟨(some 17), none, (.r (.lookup (.one .str) .nilptr false (.tmp 15) (.tmp 16))), 0, []⟩,
⟨(some 7), none, (.p (.mv (.tmp 17))), 0, []⟩])
(.seq
(.seq
(.ops [⟨(some 18), none, (.p (.mv (.tmp 7))), 0, []⟩,
⟨(some 19), none, (.p (.eq .ptr false (.tmp 18) (.c .nilptr))), 0, []⟩])
(.cond (.tmp 19)
(.seq
(.ops [⟨(some 6), none, (.p (.mv (.c (.int .i64 5)))), 0, []⟩])
.ret)
.skip))
(.seq
(.seq
(.ops [⟨(some 20), none, (.p (.mv (.tmp 0))), 0, []⟩,
⟨(some 21), none, (.h (.call (.c (.fn 29 [] [])) [(.tmp 20)])), 0, []⟩])
(.cond (.tmp 21)
(.seq
(.ops [⟨(some 6), none, (.p (.mv (.c (.int .i64 8)))), 0, []⟩])
.ret)
.skip))
(.seq
(.ops [⟨(some 22), none, (.p (.mv (.tmp 2))), 0, []⟩,
⟨(some 23), none, (.p (.mv (.tmp 7))), 0, []⟩,
⟨(some 24), none, (.h (.call (.tmp 22) [(.tmp 23)])), 0, []⟩])
(.seq
(.ops [⟨(some 6), none, (.p (.mv (.c (.int .i64 0)))), 0, []⟩])
.ret)))))))⟩
theorem c26 : Mir.compF Tryz.prog Tryz.f26 = some g26 := by kernel_rfl
/-- (*scribe/disk.Disk).Remove$1 -/
def g27 : Mir.Fn := ⟨9, [],
(.draw [⟨(some 4), none, (.r (.load 1 false (.tmp 1))), 0, []⟩,
⟨(some 5), none, (.p (.nilchk (.tmp 4))), 1, []⟩,
⟨(some 6), none, (.p (.fieldAt 0 (.tmp 5))), 2, []⟩,
⟨(some 7), none, (.r (.load 1 false (.tmp 6))), 3, []⟩,
⟨(some 8), none, (.r (.load 1 false (.tmp 2))), 4, []⟩,
⟨none, none, (.h (.delete (.one .str) (.tmp 7) (.tmp 8))), 5, []⟩])⟩
theorem c27 : Mir.compF Tryz.prog Tryz.f27 = some g27 := by kernel_rfl
/-- scribe/disk.Name -/
def g28 : Mir.Fn := ⟨15, [(.tmp 2)],
(.seq
(.ops [⟨(some 2), none, (.p (.mv (.c (.bool false)))), 0, []⟩])
(.seq
(.ops [⟨(some 3), none, (.p (.mv (.tmp 0))), 0, []⟩,
⟨(some 4), none, (.p (.bin .neq (.tmp 3) (.c (.str [])))), 0, []⟩,
⟨(some 5), none, (.p (.mv (.tmp 4))), 0, []⟩,
⟨(some 6), (some (5, true)), (.p (.mv (.tmp 0))), 0, []⟩,
⟨(some 7), (some (5, true)), (.p (.lenStr (.tmp 6))), 0, []⟩,
⟨(some 8), (some (5, true)), (.p (.bin .leq (.tmp 7) (.c (.int .i64 40)))), 0, []⟩,
⟨(some 9), none, (.p (.pick (.tmp 5) (.tmp 8) (.c (.bool false)))), 0, []⟩,
⟨(some 10), none, (.p (.mv (.tmp 9))), 0, []⟩,
⟨(some 11), (some (10, true)), (.p (.mv (.tmp 0))), 0, []⟩,
⟨(some 12), (some (10, true)), (.h (.call (.c (.fn 44 [] [])) [(.tmp 11), (.c (.fn 45 [] []))])), 0, []⟩,
⟨(some 13), (some (10, true)), (.p (.un .not (.tmp 12))), 0, []⟩,
⟨(some 14), none, (.p (.pick (.tmp 10) (.tmp 13) (.c (.bool false)))), 0, []⟩,
⟨(some 2), none, (.p (.mv (.tmp 14))), 0, []⟩])
.ret))⟩
theorem c28 : Mir.compF Tryz.prog Tryz.f28 = some g28 := by kernel_rfl
/-- (*scribe/disk.Disk).deed -/
def g29 : Mir.Fn := ⟨27, [(.tmp 2)],
(.seq
(.ops [⟨(some 2), none, (.p (.mv (.c (.bool false)))), 0, []⟩])
(.seq
(.seq
(.ops [⟨(some 3), none, (.p (.mv (.tmp 0))), 0, []⟩,
⟨(some 4), none, (.p (.nilchk (.tmp 3))), 0, []⟩,
⟨(some 5), none, (.p (.fieldAt 3 (.tmp 4))), 0, []⟩,
⟨(some 6), none, (.r (.load 1 false (.tmp 5))), 0, []⟩,
⟨(some 7), none, (.p (.bin .gtr (.tmp 6) (.c (.int .i64 0)))), 0, []⟩])
(.cond (.tmp 7)
(.ops [⟨(some 8), none, (.p (.mv (.tmp 0))), 0, []⟩,
⟨(some 9), none, (.p (.nilchk (.tmp 8))), 0, []⟩,
⟨(some 10), none, (.p (.fieldAt 3 (.tmp 9))), 0, []⟩,
⟨(some 11), none, (.r (.load 1 false (.tmp 10))), 0, []⟩,
⟨(some 12), none, (.p (.bin .sub (.tmp 11) (.c (.int .i64 1)))), 0, []⟩,
⟨(some 13), none, (.p (.nilchk (.tmp 8))), 0, []⟩,
⟨(some 14), none, (.p (.fieldAt 3 (.tmp 13))), 0, []⟩,
⟨none, none, (.h (.store 1 (.tmp 14) (.tmp 12))), 0, []⟩])
(.seq
(.ops [⟨(some 15), none, (.p (.mv (.tmp 0))), 0, []⟩,
⟨(some 16), none, (.p (.nilchk (.tmp 15))), 0, []⟩,
⟨(some 17), none, (.p (.fieldAt 3 (.tmp 16))), 0, []⟩,
⟨(some 18), none, (.r (.load 1 false (.tmp 17))), 0, []⟩,
⟨(some 19), none, (.p (.bin .eql (.tmp 18) (.c (.int .i64 0)))), 0, []⟩])
(.cond (.tmp 19)
(.ops [⟨(some 20), none, (.p (.mv (.tmp 0))), 0, []⟩,
⟨(some 21), none, (.p (.nilchk (.tmp 20))), 0, []⟩,
⟨(some 22), none, (.p (.fieldAt 4 (.tmp 21))), 0, []⟩,
⟨none, none, (.h (.store 1 (.tmp 22) (.c (.bool true)))), 0, []⟩])
.skip))))
(.seq
(.ops [⟨(some 23), none, (.p (.mv (.tmp 0))), 0, []⟩,
⟨(some 24), none, (.p (.nilchk (.tmp 23))), 0, []⟩,
⟨(some 25), none, (.p (.fieldAt 4 (.tmp 24))), 0, []⟩,
⟨(some 26), none, (.r (.load 1 false (.tmp 25))), 0, []⟩,
⟨(some 2), none, (.p (.mv (.tmp 26))), 0, []⟩])
.ret)))⟩
theorem c29 : Mir.compF Tryz.prog Tryz.f29 = some g29 := by kernel_rfl
/-- strconv.Itoa -/
def g30 : Mir.Fn := ⟨5, [(.tmp 2)],
(.seq
(.ops [⟨(some 2), none, (.p (.mv (.c (.str [])))), 0, []⟩])
(.seq
(.ops [⟨(some 3), none, (.p (.mv (.tmp 0))), 0, []⟩,
⟨(some 4), none, (.h (.call (.c (.fn 46 [] [])) [(.tmp 3)])), 0, []⟩,
⟨(some 2), none, (.p (.mv (.tmp 4))), 0, []⟩])
.ret))⟩
theorem c30 : Mir.compF Tryz.prog Tryz.f30 = some g30 := by kernel_rfl
/-- scribe/sum.Hex -/
def g31 : Mir.Fn := ⟨24, [(.tmp 2)],
(.seq
(.ops [⟨(some 2), none, (.p (.mv (.c (.str [])))), 0, []⟩])
(.seq
(.ops [⟨(some 5), none, (.a (.make [(.int .u8 0)] 1 1 (.c (.int .i64 8)) (.c (.int .i64 8)))), 0, []⟩,
⟨(some 3), none, (.p (.mv (.tmp 5))), 0, []⟩])
(.seq
(.seq
(.ops [⟨(some 6), none, (.p (.mv (.tmp 3))), 0, []⟩,
⟨(some 7), none, (.p (.lenSl (.tmp 6))), 0, []⟩,
⟨(some 8), none, (.p (.mv (.c (.int .i64 0)))), 0, []⟩])
(.block 0 (.loop (.seq
(.ops [⟨(some 9), none, (.p (.bin .lss (.tmp 8) (.tmp 7))), 0, []⟩])
(.seq
(.cond (.tmp 9)
.skip
(.exit 0))
(.seq
(.block 1 (.seq
(.ops [⟨(some 10), none, (.p (.mv (.tmp 8))), 0, []⟩,
⟨(some 4), none, (.p (.mv (.tmp 10))), 0, []⟩])
(.ops [⟨(some 11), none, (.p (.mv (.tmp 3))), 0, []⟩,
⟨(some 12), none, (.p (.mv (.tmp 4))), 0, []⟩,
⟨(some 13), none, (.p (.mv (.tmp 0))), 0, []⟩,
⟨(some 14), none, (.p (.mv (.tmp 4))), 0, []⟩,
⟨(some 15), none, (.p (.bin .mul (.c (.int .i64 4)) (.tmp 14))), 0, []⟩,
⟨(some 16), none, (.p (.bin .sub (.c (.int .i64 28)) (.tmp 15))), 0, []⟩,
⟨(some 17), none, (.p (.bin .shr (.tmp 13) (.tmp 16))), 0, []⟩,
⟨(some 18), none, (.p (.bin .and (.tmp 17) (.c (.int .u32 15)))), 0, []⟩,
⟨(some 19), none, (.p (.idxStr (.c (.str [48, 49, 50, 51, 52, 53, 54, 55, 56, 57, 97, 98, 99, 100, 101, 102])) (.tmp 18))), 0, []⟩,
⟨(some 20), none, (.p (.idxSl 1 (.tmp 11) (.tmp 12))), 0, []⟩,
⟨none, none, (.h (.store 1 (.tmp 20) (.tmp 19))), 0, []⟩])))
(.ops [⟨(some 21), none, (.p (.bin .add (.tmp 8) (.c (.int .i64 1)))), 0, []⟩,
⟨(some 8), none, (.p (.mv (.tmp 21))), 0, []⟩])))))))
(.seq
(.ops [⟨(some 22), none, (.p (.mv (.tmp 3))), 0, []⟩,
⟨(some 23), none, (.r (.toStr (.tmp 22))), 0, []⟩,
⟨(some 2), none, (.p (.mv (.tmp 23))), 0, []⟩])
.ret))))⟩
theorem c31 : Mir.compF Tryz.prog Tryz.f31 = some g31 := by kernel_rfl
/-- scribe/sum.Of -/
def g32 : Mir.Fn := ⟨7, [(.tmp 2)],
(.seq
(.ops [⟨(some 2), none, (.p (.mv (.c (.int .u32 0)))), 0, []⟩])
(.seq
(.ops [⟨(some 3), none, (.h (.call (.c (.fn 47 [] [])) [])), 0, []⟩,
⟨(some 4), none, (.p (.mv (.tmp 0))), 0, []⟩,
⟨(some 5), none, (.h (.call (.c (.fn 48 [] [])) [(.tmp 3), (.tmp 4)])), 0, []⟩,
⟨(some 6), none, (.h (.call (.c (.fn 49 [] [])) [(.tmp 5)])), 0, []⟩,
⟨(some 2), none, (.p (.mv (.tmp 6))), 0, []⟩])
.ret))⟩
theorem c32 : Mir.compF Tryz.prog Tryz.f32 = some g32 := by kernel_rfl
/-- (*scribe/disk.Disk).Sync$1 -/
def g33 : Mir.Fn := ⟨9, [],
(.ops [⟨(some 2), none, (.p (.mv (.tmp 0))), 0, []⟩,
⟨(some 3), none, (.p (.mv (.tmp 0))), 0, []⟩,
⟨(some 4), none, (.p (.nilchk (.tmp 3))), 0, []⟩,
⟨(some 5), none, (.p (.fieldAt 0 (.tmp 4))), 0, []⟩,
⟨(some 6), none, (.r (.load 1 false (.tmp 5))), 0, []⟩,
⟨(some 7), none, (.p (.nilchk (.tmp 2))), 0, []⟩,
⟨(some 8), none, (.p (.fieldAt 1 (.tmp 7))), 0, []⟩,
⟨none, none, (.h (.store 1 (.tmp 8) (.tmp 6))), 0, []⟩])⟩
theorem c33 : Mir.compF Tryz.prog Tryz.f33 = some g33 := by kernel_rfl
/-- (*scribe/disk.Disk).Rename$1 -/
def g34 : Mir.Fn := ⟨16, [],
(.seq
(.draw [⟨(some 5), none, (.r (.load 1 false (.tmp 1))), 0, []⟩,
⟨(some 6), none, (.p (.nilchk (.tmp 5))), 1, []⟩,
⟨(some 7), none, (.p (.fieldAt 0 (.tmp 6))), 2, []⟩,
⟨(some 8), none, (.r (.load 1 false (.tmp 7))), 3, []⟩,
⟨(some 9), none, (.r (.load 1 false (.tmp 2))), 4, []⟩,
⟨none, none, (.h (.delete (.one .str) (.tmp 8) (.tmp 9))), 5, []⟩])
(.draw [⟨(some 10), none, (.r (.load 1 false (.tmp 1))), 0, []⟩,
⟨(some 11), none, (.p (.nilchk (.tmp 10))), 1, []⟩,
⟨(some 12), none, (.p (.fieldAt 0 (.tmp 11))), 2, []⟩,
⟨(some 13), none, (.r (.load 1 false (.tmp 12))), 3, []⟩,
⟨(some 14), none, (.r (.load 1 false (.tmp 3))), 4, []⟩,
⟨(some 15), none, (.p (.mv (.tmp 0))), 5, []⟩,
⟨none, none, (.h (.mapUpd (.one .str) (.tmp 13) (.tmp 14) (.tmp 15))), 6, []⟩]))⟩
theorem c34 : Mir.compF Tryz.prog Tryz.f34 = some g34 := by kernel_rfl
/-- strings.HasPrefix -/
def g35 : Mir.Fn := ⟨8, [(.tmp 4)],
(.seq
(.ops [⟨(some 4), none, (.p (.mv (.c (.bool false)))), 0, []⟩])
(.seq
(.ops [⟨(some 5), none, (.p (.mv (.tmp 0))), 0, []⟩,
⟨(some 6), none, (.p (.mv (.tmp 1))), 0, []⟩,
⟨(some 7), none, (.h (.call (.c (.fn 50 [] [])) [(.tmp 5), (.tmp 6)])), 0, []⟩,
⟨(some 4), none, (.p (.mv (.tmp 7))), 0, []⟩])
.ret))⟩
theorem c35 : Mir.compF Tryz.prog Tryz.f35 = some g35 := by kernel_rfl
/-- strings.Cut -/
def g36 : Mir.Fn := ⟨13, [(.tmp 4), (.tmp 5), (.tmp 6)],
(.seq
(.ops [⟨(some 4), none, (.p (.mv (.c (.str [])))), 0, []⟩,
⟨(some 5), none, (.p (.mv (.c (.str [])))), 0, []⟩,
⟨(some 6), none, (.p (.mv (.c (.bool false)))), 0, []⟩])
(.seq
(.ops [⟨(some 7), none, (.p (.mv (.tmp 0))), 0, []⟩,
⟨(some 8), none, (.p (.mv (.tmp 1))), 0, []⟩,
⟨(some 9), none, (.h (.call (.c (.fn 51 [] [])) [(.tmp 7), (.tmp 8)])), 0, []⟩,
⟨(some 10), none, (.p (.ext (.tmp 9) 0)), 0, []⟩,
⟨(some 11), none, (.p (.ext (.tmp 9) 1)), 0, []⟩,
⟨(some 12), none, (.p (.ext (.tmp 9) 2)), 0, []⟩,
⟨(some 4), none, (.p (.mv (.tmp 10))), 0, []⟩,
⟨(some 5), none, (.p (.mv (.tmp 11))), 0, []⟩,
⟨(some 6), none, (.p (.mv (.tmp 12))), 0, []⟩])
.ret))⟩
theorem c36 : Mir.compF Tryz.prog Tryz.f36 = some g36 := by kernel_rfl
/-- strconv.Atoi -/
def g37 : Mir.Fn := ⟨18, [(.tmp 2), (.tmp 3)],
(.seq
(.ops [⟨(some 2), none, (.p (.mv (.c (.int .i64 0)))), 0, []⟩,
⟨(some 3), none, (.p (.mv (.c .nilif))), 0, []⟩])
(.seq
(.ops [⟨(some 7), none, (.p (.mv (.tmp 0))), 0, []⟩,
⟨(some 8), none, (.h (.call (.c (.fn 52 [] [])) [(.tmp 7)])), 0, []⟩,
⟨(some 6), none, (.p (.mv (.tmp 8))), 0, []⟩,
⟨(some 9), none, (.p (.ext (.tmp 6) 0)), 0, []⟩,
⟨(some 10), none, (.p (.ext (.tmp 6) 1)), 0, []⟩,
⟨(some 4), none, (.p (.mv (.tmp 9))), 0, []⟩,
⟨(some 5), none, (.p (.mv (.tmp 10))), 0, []⟩])
(.seq
(.seq
(.ops [⟨(some 11), none, (.p (.mv (.tmp 5))), 0, []⟩,
⟨(some 12), none, (.p (.eq .iface true (.tmp 11) (.c .nilif))), 0, []⟩])
(.cond (.tmp 12)
(.seq
(.ops [⟨(some 13), none, (.p (.mv (.tmp 4))), 0, []⟩,
⟨(some 14), none, (.p (.mv (.tmp 0))), 0, []⟩,
⟨(some 15), none, (.p (.mv (.tmp 5))), 0, []⟩,
⟨(some 16), none, (.h (.call (.c (.fn 53 [] [])) [(.c (.str [65, 116, 111, 105])), (.tmp 14), (.c (.int .i64 0)), (.c (.int .i64 0)), (.tmp 15)])), 0, []⟩,
⟨(some 2), none, (.p (.mv (.tmp 13))), 0, []⟩,
⟨(some 3), none, (.p (.mv (.tmp 16))), 0, []⟩])
.ret)
.skip))
(.seq
(.ops [⟨(some 17), none, (.p (.mv (.tmp 4))), 0, []⟩,
⟨(some 2), none, (.p (.mv (.tmp 17))), 0, []⟩,
⟨(some 3), none, (.p (.mv (.c .nilif))), 0, []⟩])
.ret))))⟩
theorem c37 : Mir.compF Tryz.prog Tryz.f37 = some g37 := by kernel_rfl
/-- scribe/sum.Check -/
def g38 : Mir.Fn := ⟨37, [(.tmp 4)],
(.seq
(.ops [⟨(some 4), none, (.p (.mv (.c (.int .i64 0)))), 0, []⟩])
(.seq
(.seq
(.ops [⟨(some 7), none, (.p (.mv (.tmp 0))), 0, []⟩,
⟨(some 8), none, (.p (.lenStr (.tmp 7))), 0, []⟩,
⟨(some 9), none, (.p (.bin .neq (.tmp 8) (.c (.int .i64 8)))), 0, []⟩])
(.cond (.tmp 9)
(.seq
(.ops [⟨(some 4), none, (.p (.mv (.c (.int .i64 3)))), 0, []⟩])
.ret)
.skip))
(.seq
(.seq
(.ops [⟨(some 10), none, (.p (.mv (.tmp 0))), 0, []⟩,
⟨(some 11), none, (.a (.toBytes (.tmp 10))), 0, []⟩,
⟨(some 12), none, (.p (.lenSl (.tmp 11))), 0, []⟩,
⟨(some 13), none, (.p (.mv (.c (.int .i64 0)))), 0, []⟩])
(.block 0 (.loop (.seq
(.ops [⟨(some 14), none, (.p (.bin .lss (.tmp 13) (.tmp 12))), 0, []⟩])
(.seq
(.cond (.tmp 14)
.skip
(.exit 0))
(.seq
(.block 1 (.seq
(.ops [⟨(some 15), none, (.p (.idxSl 1 (.tmp 11) (.tmp 13))), 0, []⟩,
⟨(some 16), none, (.r (.load 1 false (.tmp 15))), 0, []⟩,
⟨(some 6), none, (.p (.mv (.tmp 16))), 0, []⟩])
(.seq
(.ops [⟨(some 17), none, (.p (.mv (.tmp 6))), 0, []⟩,
⟨(some 18), none, (.p (.bin .lss (.tmp 17) (.c (.int .u8 48)))), 0, []⟩,
⟨(some 19), none, (.p (.mv (.tmp 18))), 0, []⟩,
⟨(some 20), (some (19, false)), (.p (.mv (.tmp 6))), 0, []⟩,
⟨(some 21), (some (19, false)), (.p (.bin .gtr (.tmp 20) (.c (.int .u8 57)))), 0, []⟩,
⟨(some 22), none, (.p (.pick (.tmp 19) (.c (.bool true)) (.tmp 21))), 0, []⟩,
⟨(some 23), none, (.p (.mv (.tmp 22))), 0, []⟩,
⟨(some 24), (some (23, true)), (.p (.mv (.tmp 6))), 0, []⟩,
⟨(some 25), (some (23, true)), (.p (.bin .lss (.tmp 24) (.c (.int .u8 97)))), 0, []⟩,
⟨(some 26), (some (23, true)), (.p (.mv (.tmp 25))), 0, []⟩,
⟨(some 27), (some (26, false)), (.p (.mv (.tmp 6))), 0, []⟩,
⟨(some 28), (some (26, false)), (.p (.bin .gtr (.tmp 27) (.c (.int .u8 102)))), 0, []⟩,
⟨(some 29), (some (23, true)), (.p (.pick (.tmp 26) (.c (.bool true)) (.tmp 28))), 0, []⟩,
⟨(some 30), none, (.p (.pick (.tmp 23) (.tmp 29) (.c (.bool false)))), 0, []⟩])
(.cond (.tmp 30)
(.seq
(.ops [⟨(some 4), none, (.p (.mv (.c (.int .i64 3)))), 0, []⟩])
.ret)
.skip))))
(.ops [⟨(some 31), none, (.p (.bin .add (.tmp 13) (.c (.int .i64 1)))), 0, []⟩,
⟨(some 13), none, (.p (.mv (.tmp 31))), 0, []⟩])))))))
(.seq
(.seq
(.ops [⟨(some 32), none, (.p (.mv (.tmp 0))), 0, []⟩,
⟨(some 33), none, (.p (.mv (.tmp 1))), 0, []⟩,
⟨(some 34), none, (.h (.call (.c (.fn 32 [] [])) [(.tmp 33)])), 0, []⟩,
⟨(some 35), none, (.h (.call (.c (.fn 31 [] [])) [(.tmp 34)])), 0, []⟩,
⟨(some 36), none, (.p (.bin .neq (.tmp 32) (.tmp 35))), 0, []⟩])
(.cond (.tmp 36)
(.seq
(.ops [⟨(some 4), none, (.p (.mv (.c (.int .i64 4)))), 0, []⟩])
.ret)
.skip))
(.seq
(.ops [⟨(some 4), none, (.p (.mv (.c (.int .i64 0)))), 0, []⟩])
.ret)))))⟩
theorem c38 : Mir.compF Tryz.prog Tryz.f38 = some g38 := by kernel_rfl
/-- slices.Collect[string] -/
def g40 : Mir.Fn := ⟨5, [(.tmp 2)],
(.seq
(.ops [⟨(some 2), none, (.p (.mv (.c .nilsl))), 0, []⟩])
(.seq
(.ops [⟨(some 3), none, (.p (.mv (.tmp 0))), 0, []⟩,
⟨(some 4), none, (.h (.call (.c (.fn 54 [] [])) [(.c .nilsl), (.tmp 3)])), 0, []⟩,
⟨(some 2), none, (.p (.mv (.tmp 4))), 0, []⟩])
.ret))⟩
theorem c40 : Mir.compF Tryz.prog Tryz.f40 = some g40 := by kernel_rfl
/-- slices.Sort[[]string,string] -/
def g41 : Mir.Fn := ⟨11, [],
(.seq
(.ops [⟨(some 3), none, (.p (.mv (.tmp 0))), 0, []⟩,
⟨(some 4), none, (.p (.lenSl (.tmp 3))), 0, []⟩,
⟨(some 2), none, (.p (.mv (.tmp 4))), 0, []⟩])
(.ops [⟨(some 5), none, (.p (.mv (.tmp 0))), 0, []⟩,
⟨(some 6), none, (.p (.mv (.tmp 2))), 0, []⟩,
⟨(some 7), none, (.p (.mv (.tmp 2))), 0, []⟩,
⟨(some 8), none, (.p (.convInt .u64 (.tmp 7))), 0, []⟩,
⟨(some 9), none, (.h (.call (.c (.fn 56 [] [])) [(.tmp 8)])), 0, []⟩,
⟨(some 10), none, (.h (.call (.c (.fn 55 [] [])) [(.tmp 5), (.c (.int .i64 0)), (.tmp 6), (.tmp 9)])), 0, []⟩]))⟩
theorem c41 : Mir.compF Tryz.prog Tryz.f41 = some g41 := by kernel_rfl
/-- maps.Keys[map[string]*scribe/disk.file,string,*scribe/disk.file]$1 -/
def g42 : Mir.Fn := ⟨14, [],
(.seq
(.ops [⟨(some 4), none, (.r (.load 1 false (.tmp 1))), 0, []⟩,
⟨(some 5), none, (.h (.range (.tmp 4))), 0, []⟩])
(.block 0 (.loop (.seq
(.ops [⟨(some 6), none, (.h (.next (.tmp 5))), 0, []⟩,
⟨(some 7), none, (.p (.ext (.tmp 6) 0)), 0, []⟩])
(.seq
(.cond (.tmp 7)
.skip
(.exit 0))
(.block 1 (.seq
(.ops [⟨(some 8), none, (.r (.entry (.tmp 5))), 0, []⟩,
⟨(some 9), none, (.p (.ext (.tmp 8) 0)), 0, []⟩,
⟨(some 3), none, (.p (.mv (.tmp 9))), 0, []⟩])
(.seq
(.ops [⟨(some 10), none, (.p (.mv (.tmp 0))), 0, []⟩,
⟨(some 11), none, (.p (.mv (.tmp 3))), 0, []⟩,
⟨(some 12), none, (.h (.call (.tmp 10) [(.tmp 11)])), 0, []⟩,
⟨(some 13), none, (.p (.un .not (.tmp 12))), 0, []⟩])
(.cond (.tmp 13)
.ret
.skip)))))))))⟩
theorem c42 : Mir.compF Tryz.prog Tryz.f42 = some g42 := by kernel_rfl
/-- internal/stringslite.CutPrefix -/
def g43 : Mir.Fn := ⟨15, [(.tmp 4), (.tmp 5)],
(.seq
(.ops [⟨(some 4), none, (.p (.mv (.c (.str [])))), 0, []⟩,
⟨(some 5), none, (.p (.mv (.c (.bool false)))), 0, []⟩])
(.seq
(.seq
(.ops [⟨(some 6), none, (.p (.mv (.tmp 0))), 0, []⟩,
⟨(some 7), none, (.p (.mv (.tmp 1))), 0, []⟩,
⟨(some 8), none, (.h (.call (.c (.fn 50 [] [])) [(.tmp 6), (.tmp 7)])), 0, []⟩,
⟨(some 9), none, (.p (.un .not (.tmp 8))), 0, []⟩])
(.cond (.tmp 9)
(.seq
(.ops [⟨(some 10), none, (.p (.mv (.tmp 0))), 0, []⟩,
⟨(some 4), none, (.p (.mv (.tmp 10))), 0, []⟩,
⟨(some 5), none, (.p (.mv (.c (.bool false)))), 0, []⟩])
.ret)
.skip))
(.seq
(.ops [⟨(some 11), none, (.p (.mv (.tmp 0))), 0, []⟩,
⟨(some 12), none, (.p (.mv (.tmp 1))), 0, []⟩,
⟨(some 13), none, (.p (.lenStr (.tmp 12))), 0, []⟩,
⟨(some 14), none, (.p (.subStr (.tmp 11) (some (.tmp 13)) none)), 0, []⟩,
⟨(some 4), none, (.p (.mv (.tmp 14))), 0, []⟩,
⟨(some 5), none, (.p (.mv (.c (.bool true)))), 0, []⟩])
.ret)))⟩
theorem c43 : Mir.compF Tryz.prog Tryz.f43 = some g43 := by kernel_rfl
/-- strings.ContainsFunc -/
def g44 : Mir.Fn := ⟨9, [(.tmp 4)],
(.seq
(.ops [⟨(some 4), none, (.p (.mv (.c (.bool false)))), 0, []⟩])
(.seq
(.ops [⟨(some 5), none, (.p (.mv (.tmp 0))), 0, []⟩,
⟨(some 6), none, (.p (.mv (.tmp 1))), 0, []⟩,
⟨(some 7), none, (.h (.call (.c (.fn 57 [] [])) [(.tmp 5), (.tmp 6)])), 0, []⟩,
⟨(some 8), none, (.p (.bin .geq (.tmp 7) (.c (.int .i64 0)))), 0, []⟩,
⟨(some 4), none, (.p (.mv (.tmp 8))), 0, []⟩])
.ret))⟩
theorem c44 : Mir.compF Tryz.prog Tryz.f44 = some g44 := by kernel_rfl
/-- scribe/disk.Name$1 -/
def g45 : Mir.Fn := ⟨29, [(.tmp 2)],
(.seq
(.ops [⟨(some 2), none, (.p (.mv (.c (.bool false)))), 0, []⟩])
(.seq
(.ops [⟨(some 3), none, (.p (.mv (.tmp 0))), 0, []⟩,
⟨(some 4), none, (.p (.bin .lss (.tmp 3) (.c (.int .i32 97)))), 0, []⟩,
⟨(some 5), none, (.p (.mv (.tmp 4))), 0, []⟩,
⟨(some 6), (some (5, false)), (.p (.mv (.tmp 0))), 0, []⟩,
⟨(some 7), (some (5, false)), (.p (.bin .gtr (.tmp 6) (.c (.int .i32 122)))), 0, []⟩,
⟨(some 8), none, (.p (.pick (.tmp 5) (.c (.bool true)) (.tmp 7))), 0, []⟩,
⟨(some 9), none, (.p (.mv (.tmp 8))), 0, []⟩,
⟨(some 10), (some (9, true)), (.p (.mv (.tmp 0))), 0, []⟩,
⟨(some 11), (some (9, true)), (.p (.bin .lss (.tmp 10) (.c (.int .i32 48)))), 0, []⟩,
⟨(some 12), (some (9, true)), (.p (.mv (.tmp 11))), 0, []⟩,
⟨(some 13), (some (12, false)), (.p (.mv (.tmp 0))), 0, []⟩,
⟨(some 14), (some (12, false)), (.p (.bin .gtr (.tmp 13) (.c (.int .i32 57)))), 0, []⟩,
⟨(some 15), (some (9, true)), (.p (.pick (.tmp 12) (.c (.bool true)) (.tmp 14))), 0, []⟩,
⟨(some 16), none, (.p (.pick (.tmp 9) (.tmp 15) (.c (.bool false)))), 0, []⟩,
⟨(some 17), none, (.p (.mv (.tmp 16))), 0, []⟩,
⟨(some 18), (some (17, true)), (.p (.mv (.tmp 0))), 0, []⟩,
⟨(some 19), (some (17, true)), (.p (.bin .neq (.tmp 18) (.c (.int .i32 46)))), 0, []⟩,
⟨(some 20), none, (.p (.pick (.tmp 17) (.tmp 19) (.c (.bool false)))), 0, []⟩,
⟨(some 21), none, (.p (.mv (.tmp 20))), 0, []⟩,
⟨(some 22), (some (21, true)), (.p (.mv (.tmp 0))), 0, []⟩,
⟨(some 23), (some (21, true)), (.p (.bin .neq (.tmp 22) (.c (.int .i32 95)))), 0, []⟩,
⟨(some 24), none, (.p (.pick (.tmp 21) (.tmp 23) (.c (.bool false)))), 0, []⟩,
⟨(some 25), none, (.p (.mv (.tmp 24))), 0, []⟩,
⟨(some 26), (some (25, true)), (.p (.mv (.tmp 0))), 0, []⟩,
⟨(some 27), (some (25, true)), (.p (.bin .neq (.tmp 26) (.c (.int .i32 45)))), 0, []⟩,
⟨(some 28), none, (.p (.pick (.tmp 25) (.tmp 27) (.c (.bool false)))), 0, []⟩,
⟨(some 2), none, (.p (.mv (.tmp 28))), 0, []⟩])
.ret))⟩
theorem c45 : Mir.compF Tryz.prog Tryz.f45 = some g45 := by kernel_rfl
/-- internal/strconv.Itoa -/
def g46 : Mir.Fn := ⟨5, [(.tmp 2)],
(.seq
(.ops [⟨(some 2), none, (.p (.mv (.c (.str [])))), 0, []⟩])
(.seq
(.ops [⟨(some 3), none, (.p (.mv (.tmp 0))), 0, []⟩,
⟨(some 4), none, (.h (.call (.c (.fn 58 [] [])) [(.tmp 3), (.c (.int .i64 10))])), 0, []⟩,
⟨(some 2), none, (.p (.mv (.tmp 4))), 0, []⟩])
.ret))⟩
theorem c46 : Mir.compF Tryz.prog Tryz.f46 = some g46 := by kernel_rfl
/-- scribe/sum.New -/
def g47 : Mir.Fn := ⟨2, [(.cell 0 2 true)],
(.seq
(.ops [⟨(some 0), none, (.a (.alloc [(.int .u32 0), (.int .u32 0)])), 0, []⟩])
(.seq
(.ops [⟨(some 1), none, (.p (.build [(.int .u32 0), (.int .u32 0)] [(0, (1, (.c (.int .u32 1)))), (1, (1, (.c (.int .u32 0))))])), 0, []⟩,
⟨none, none, (.h (.store 2 (.tmp 0) (.tmp 1))), 0, []⟩])
.ret))⟩
theorem c47 : Mir.compF Tryz.prog Tryz.f47 = some g47 := by kernel_rfl
/-- (scribe/sum.Sum).Add -/
def g48 : Mir.Fn := ⟨48, [(.cell 4 2 true)],
(.seq
(.ops [⟨(some 2), none, (.a (.box (.tmp 0))), 0, []⟩,
⟨(some 4), none, (.a (.alloc [(.int .u32 0), (.int .u32 0)])), 0, []⟩])
(.seq
(.block 0 (.loop (.seq
(.seq
(.ops [⟨(some 8), none, (.p (.mv (.tmp 1))), 0, []⟩,
⟨(some 9), none, (.p (.lenStr (.tmp 8))), 0, []⟩,
⟨(some 10), none, (.p (.bin .gtr (.tmp 9) (.c (.int .i64 0)))), 0, []⟩])
(.cond (.tmp 10)
.skip
(.exit 0)))
(.block 1 (.seq
(.ops [⟨(some 11), none, (.p (.mv (.tmp 1))), 0, []⟩,
⟨(some 12), none, (.p (.lenStr (.tmp 11))), 0, []⟩,
⟨(some 13), none, (.p (.mnmx false (.tmp 12) [(.c (.int .i64 3000))])), 0, []⟩,
⟨(some 5), none, (.p (.mv (.tmp 13))), 0, []⟩])
(.seq
(.seq
(.ops [⟨(some 14), none, (.p (.mv (.tmp 1))), 0, []⟩,
⟨(some 15), none, (.p (.mv (.tmp 5))), 0, []⟩,
⟨(some 16), none, (.p (.subStr (.tmp 14) none (some (.tmp 15)))), 0, []⟩,
⟨(some 17), none, (.a (.toBytes (.tmp 16))), 0, []⟩,
⟨(some 18), none, (.p (.lenSl (.tmp 17))), 0, []⟩,
⟨(some 19), none, (.p (.mv (.c (.int .i64 0)))), 0, []⟩])
(.block 2 (.loop (.seq
(.ops [⟨(some 20), none, (.p (.bin .lss (.tmp 19) (.tmp 18))), 0, []⟩])
(.seq
(.cond (.tmp 20)
.skip
(.exit 2))
(.seq
(.block 3 (.seq
(.ops [⟨(some 21), none, (.p (.idxSl 1 (.tmp 17) (.tmp 19))), 0, []⟩,
⟨(some 22), none, (.r (.load 1 false (.tmp 21))), 0, []⟩,
⟨(some 7), none, (.p (.mv (.tmp 22))), 0, []⟩])
(.seq
(.ops [⟨(some 23), none, (.p (.fieldAt 0 (.tmp 2))), 0, []⟩,
⟨(some 24), none, (.r (.load 1 false (.tmp 23))), 0, []⟩,
⟨(some 25), none, (.p (.mv (.tmp 7))), 0, []⟩,
⟨(some 26), none, (.p (.convInt .u32 (.tmp 25))), 0, []⟩,
⟨(some 27), none, (.p (.bin .add (.tmp 24) (.tmp 26))), 0, []⟩,
⟨(some 28), none, (.p (.fieldAt 0 (.tmp 2))), 0, []⟩,
⟨none, none, (.h (.store 1 (.tmp 28) (.tmp 27))), 0, []⟩])
(.ops [⟨(some 29), none, (.p (.fieldAt 1 (.tmp 2))), 0, []⟩,
⟨(some 30), none, (.r (.load 1 false (.tmp 29))), 0, []⟩,
⟨(some 31), none, (.p (.fieldAt 0 (.tmp 2))), 0, []⟩,
⟨(some 32), none, (.r (.load 1 false (.tmp 31))), 0, []⟩,
⟨(some 33), none, (.p (.bin .add (.tmp 30) (.tmp 32))), 0, []⟩,
⟨(some 34), none, (.p (.fieldAt 1 (.tmp 2))), 0, []⟩,
⟨none, none, (.h (.store 1 (.tmp 34) (.tmp 33))), 0, []⟩]))))
(.ops [⟨(some 35), none, (.p (.bin .add (.tmp 19) (.c (.int .i64 1)))), 0, []⟩,
⟨(some 19), none, (.p (.mv (.tmp 35))), 0, []⟩])))))))
(.seq
(.ops [⟨(some 36), none, (.p (.fieldAt 0 (.tmp 2))), 0, []⟩,
⟨(some 37), none, (.r (.load 1 false (.tmp 36))), 0, []⟩,
⟨(some 38), none, (.p (.bin .rem (.tmp 37) (.c (.int .u32 65521)))), 0, []⟩,
⟨(some 39), none, (.p (.fieldAt 0 (.tmp 2))), 0, []⟩,
⟨none, none, (.h (.store 1 (.tmp 39) (.tmp 38))), 0, []⟩])
(.seq
(.ops [⟨(some 40), none, (.p (.fieldAt 1 (.tmp 2))), 0, []⟩,
⟨(some 41), none, (.r (.load 1 false (.tmp 40))), 0, []⟩,
⟨(some 42), none, (.p (.bin .rem (.tmp 41) (.c (.int .u32 65521)))), 0, []⟩,
⟨(some 43), none, (.p (.fieldAt 1 (.tmp 2))), 0, []⟩,
⟨none, none, (.h (.store 1 (.tmp 43) (.tmp 42))), 0, []⟩])
(.ops [⟨(some 44), none, (.p (.mv (.tmp 1))), 0, []⟩,
⟨(some 45), none, (.p (.mv (.tmp 5))), 0, []⟩,
⟨(some 46), none, (.p (.subStr (.tmp 44) (some (.tmp 45)) none)), 0, []⟩,
⟨(some 1), none, (.p (.mv (.tmp 46))), 0, []⟩])))))))))
(.seq
(.ops [⟨(some 47), none, (.r (.load 2 true (.tmp 2))), 0, []⟩,
⟨none, none, (.h (.store 2 (.tmp 4) (.tmp 47))), 0, []⟩])
.ret)))⟩
theorem c48 : Mir.compF Tryz.prog Tryz.f48 = some g48 := by kernel_rfl
/-- (scribe/sum.Sum).Value -/
def g49 : Mir.Fn := ⟨9, [(.tmp 2)],
(.seq
(.ops [⟨(some 1), none, (.a (.box (.tmp 0))), 0, []⟩,
⟨(some 2), none, (.p (.mv (.c (.int .u32 0)))), 0, []⟩])
(.seq
(.ops [⟨(some 3), none, (.p (.fieldAt 1 (.tmp 1))), 0, []⟩,
⟨(some 4), none, (.r (.load 1 false (.tmp 3))), 0, []⟩,
⟨(some 5), none, (.p (.bin .shl (.tmp 4) (.c (.int .u64 16)))), 0, []⟩,
⟨(some 6), none, (.p (.fieldAt 0 (.tmp 1))), 0, []⟩,
⟨(some 7), none, (.r (.load 1 false (.tmp 6))), 0, []⟩,
⟨(some 8), none, (.p (.bin .or (.tmp 5) (.tmp 7))), 0, []⟩,
⟨(some 2), none, (.p (.mv (.tmp 8))), 0, []⟩])
.ret))⟩
theorem c49 : Mir.compF Tryz.prog Tryz.f49 = some g49 := by kernel_rfl
/-- internal/stringslite.HasPrefix -/
def g50 : Mir.Fn := ⟨18, [(.tmp 4)],
(.seq
(.ops [⟨(some 4), none, (.p (.mv (.c (.bool false)))), 0, []⟩])
(.seq
(.ops [⟨(some 5), none, (.p (.mv (.tmp 0))), 0, []⟩,
⟨(some 6), none, (.p (.lenStr (.tmp 5))), 0, []⟩,
⟨(some 7), none, (.p (.mv (.tmp 1))), 0, []⟩,
⟨(some 8), none, (.p (.lenStr (.tmp 7))), 0, []⟩,
⟨(some 9), none, (.p (.bin .geq (.tmp 6) (.tmp 8))), 0, []⟩,
⟨(some 10), none, (.p (.mv (.tmp 9))), 0, []⟩,
⟨(some 11), (some (10, true)), (.p (.mv (.tmp 0))), 0, []⟩,
⟨(some 12), (some (10, true)), (.p (.mv (.tmp 1))), 0, []⟩,
⟨(some 13), (some (10, true)), (.p (.lenStr (.tmp 12))), 0, []⟩,
⟨(some 14), (some (10, true)), (.p (.subStr (.tmp 11) none (some (.tmp 13)))), 0, []⟩,
⟨(some 15), (some (10, true)), (.p (.mv (.tmp 1))), 0, []⟩,
⟨(some 16), (some (10, true)), (.p (.bin .eql (.tmp 14) (.tmp 15))), 0, []⟩,
⟨(some 17), none, (.p (.pick (.tmp 10) (.tmp 16) (.c (.bool false)))), 0, []⟩,
⟨(some 4), none, (.p (.mv (.tmp 17))), 0, []⟩])
.ret))⟩
theorem c50 : Mir.compF Tryz.prog Tryz.f50 = some g50 := by kernel_rfl
/-- internal/stringslite.Cut -/
def g51 : Mir.Fn := ⟨23, [(.tmp 4), (.tmp 5), (.tmp 6)],
(.seq
(.ops [⟨(some 4), none, (.p (.mv (.c (.str [])))), 0, []⟩,
⟨(some 5), none, (.p (.mv (.c (.str [])))), 0, []⟩,
⟨(some 6), none, (.p (.mv (.c (.bool false)))), 0, []⟩])
(.seq
(.seq
(.ops [⟨(some 8), none, (.p (.mv (.tmp 0))), 0, []⟩,
⟨(some 9), none, (.p (.mv (.tmp 1))), 0, []⟩,
⟨(some 10), none, (.h (.call (.c (.fn 59 [] [])) [(.tmp 8), (.tmp 9)])), 0, []⟩,
⟨(some 7), none, (.p (.mv (.tmp 10))), 0, []⟩])
(.seq
(.ops [⟨(some 11), none, (.p (.mv (.tmp 7))), 0, []⟩,
⟨(some 12), none, (.p (.bin .geq (.tmp 11) (.c (.int .i64 0)))), 0, []⟩])
(.cond (.tmp 12)
(.seq
(.draw [⟨(some 13), none, (.p (.mv (.tmp 0))), 0, []⟩,
⟨(some 14), none, (.p (.mv (.tmp 7))), 1, []⟩,
⟨(some 15), none, (.p (.subStr (.tmp 13) none (some (.tmp 14)))), 2, []⟩,
⟨(some 16), none, (.p (.mv (.tmp 0))), 3, []⟩,
⟨(some 17), none, (.p (.mv (.tmp 7))), 4, []⟩,
⟨(some 18), none, (.p (.mv (.tmp 1))), 5, []⟩,
⟨(some 19), none, (.p (.lenStr (.tmp 18))), 6, []⟩,
⟨(some 20), none, (.p (.bin .add (.tmp 17) (.tmp 19))), 7, []⟩,
⟨(some 21), none, (.p (.subStr (.tmp 16) (some (.tmp 20)) none)), 8, []⟩,
⟨(some 4), none, (.p (.mv (.tmp 15))), 9, []⟩,
⟨(some 5), none, (.p (.mv (.tmp 21))), 10, []⟩,
⟨(some 6), none, (.p (.mv (.c (.bool true)))), 11, []⟩])
.ret)
.skip)))
(.seq
(.ops [⟨(some 22), none, (.p (.mv (.tmp 0))), 0, []⟩,
⟨(some 4), none, (.p (.mv (.tmp 22))), 0, []⟩,
⟨(some 5), none, (.p (.mv (.c (.str [])))), 0, []⟩,
⟨(some 6), none, (.p (.mv (.c (.bool false)))), 0, []⟩])
.ret)))⟩
theorem c51 : Mir.compF Tryz.prog Tryz.f51 = some g51 := by kernel_rfl
/-- internal/strconv.Atoi -/
def g52 : Mir.Fn := ⟨77, [(.tmp 2), (.tmp 3)],
(.seq
(.ops [⟨(some 2), none, (.p (.mv (.c (.int .i64 0)))), 0, []⟩,
⟨(some 3), none, (.p (.mv (.c .nilif))), 0, []⟩])
(.seq
(.ops [⟨(some 11), none, (.p (.mv (.tmp 0))), 0, []⟩,
⟨(some 12), none, (.p (.lenStr (.tmp 11))), 0, []⟩,
⟨(some 4), none, (.p (.mv (.tmp 12))), 0, []⟩])
(.seq
(.seq
(.ops [⟨(some 13), none, (.p (.mv (.c (.bool false)))), 0, []⟩,
⟨(some 14), (some (13, true)), (.p (.mv (.tmp 4))), 0, []⟩,
⟨(some 15), (some (13, true)), (.p (.bin .lss (.c (.int .i64 0)) (.tmp 14))), 0, []⟩,
⟨(some 16), (some (13, true)), (.p (.mv (.tmp 15))), 0, []⟩,
⟨(some 17), (some (16, true)), (.p (.mv (.tmp 4))), 0, []⟩,
⟨(some 18), (some (16, true)), (.p (.bin .lss (.tmp 17) (.c (.int .i64 10)))), 0, []⟩,
⟨(some 19), (some (13, true)), (.p (.pick (.tmp 16) (.tmp 18) (.c (.bool false)))), 0, []⟩,
⟨(some 20), none, (.p (.pick (.tmp 13) (.tmp 19) (.c (.bool false)))), 0, []⟩,
⟨(some 21), none, (.p (.mv (.tmp 20))), 0, []⟩,
⟨(some 22), (some (21, false)), (.p (.mv (.c (.bool true)))), 0, []⟩,
⟨(some 23), (some (22, true)), (.p (.mv (.tmp 4))), 0, []⟩,
⟨(some 24), (some (22, true)), (.p (.bin .lss (.c (.int .i64 0)) (.tmp 23))), 0, []⟩,
⟨(some 25), (some (22, true)), (.p (.mv (.tmp 24))), 0, []⟩,
⟨(some 26), (some (25, true)), (.p (.mv (.tmp 4))), 0, []⟩,
⟨(some 27), (some (25, true)), (.p (.bin .lss (.tmp 26) (.c (.int .i64 19)))), 0, []⟩,
⟨(some 28), (some (22, true)), (.p (.pick (.tmp 25) (.tmp 27) (.c (.bool false)))), 0, []⟩,
⟨(some 29), (some (21, false)), (.p (.pick (.tmp 22) (.tmp 28) (.c (.bool false)))), 0, []⟩,
⟨(some 30), none, (.p (.pick (.tmp 21) (.c (.bool true)) (.tmp 29))), 0, []⟩])
(.cond (.tmp 30)
(.seq
(.ops [⟨(some 31), none, (.p (.mv (.tmp 0))), 0, []⟩,
⟨(some 5), none, (.p (.mv (.tmp 31))), 0, []⟩])
(.seq
(.seq
(.ops [⟨(some 32), none, (.p (.mv (.tmp 0))), 0, []⟩,
⟨(some 33), none, (.p (.idxStr (.tmp 32) (.c (.int .i64 0)))), 0, []⟩,
⟨(some 34), none, (.p (.bin .eql (.tmp 33) (.c (.int .u8 45)))), 0, []⟩,
⟨(some 35), none, (.p (.mv (.tmp 34))), 0, []⟩,
⟨(some 36), (some (35, false)), (.p (.mv (.tmp 0))), 0, []⟩,
⟨(some 37), (some (35, false)), (.p (.idxStr (.tmp 36) (.c (.int .i64 0)))), 0, []⟩,
⟨(some 38), (some (35, false)), (.p (.bin .eql (.tmp 37) (.c (.int .u8 43)))), 0, []⟩,
⟨(some 39), none, (.p (.pick (.tmp 35) (.c (.bool true)) (.tmp 38))), 0, []⟩])
(.cond (.tmp 39)
(.seq
(.ops [⟨(some 40), none, (.p (.mv (.tmp 0))), 0, []⟩,
⟨(some 41), none, (.p (.subStr (.tmp 40) (some (.c (.int .i64 1))) none)), 0, []⟩,
⟨(some 0), none, (.p (.mv (.tmp 41))), 0, []⟩])
(.seq
(.ops [⟨(some 42), none, (.p (.mv (.tmp 0))), 0, []⟩,
⟨(some 43), none, (.p (.lenStr (.tmp 42))), 0, []⟩,
⟨(some 44), none, (.p (.bin .lss (.tmp 43) (.c (.int .i64 1)))), 0, []⟩])
(.cond (.tmp 44)
(.seq
(.ops [⟨(some 45), none, (.p (.mkIf 90 (.c (.int .i64 2)))), 0, []⟩,
⟨(some 2), none, (.p (.mv (.c (.int .i64 0)))), 0, []⟩,
⟨(some 3), none, (.p (.mv (.tmp 45))), 0, []⟩])
.ret)
.skip)))
.skip))
(.seq
(.ops [⟨(some 6), none, (.p (.mv (.c (.int .i64 0)))), 0, []⟩])
(.seq
(.seq
(.ops [⟨(some 46), none, (.p (.mv (.tmp 0))), 0, []⟩,
⟨(some 47), none, (.a (.toBytes (.tmp 46))), 0, []⟩,
⟨(some 48), none, (.p (.lenSl (.tmp 47))), 0, []⟩,
⟨(some 49), none, (.p (.mv (.c (.int .i64 0)))), 0, []⟩])
(.block 0 (.loop (.seq
(.ops [⟨(some 50), none, (.p (.bin .lss (.tmp 49) (.tmp 48))), 0, []⟩])
(.seq
(.cond (.tmp 50)
.skip
(.exit 0))
(.seq
(.block 1 (.seq
(.ops [⟨(some 51), none, (.p (.idxSl 1 (.tmp 47) (.tmp 49))), 0, []⟩,
⟨(some 52), none, (.r (.load 1 false (.tmp 51))), 0, []⟩,
⟨(some 8), none, (.p (.mv (.tmp 52))), 0, []⟩])
(.seq
(.ops [⟨(some 53), none, (.p (.mv (.tmp 8))), 0, []⟩,
⟨(some 54), none, (.p (.bin .sub (.tmp 53) (.c (.int .u8 48)))), 0, []⟩,
⟨(some 8), none, (.p (.mv (.tmp 54))), 0, []⟩])
(.seq
(.seq
(.ops [⟨(some 55), none, (.p (.mv (.tmp 8))), 0, []⟩,
⟨(some 56), none, (.p (.bin .gtr (.tmp 55) (.c (.int .u8 9)))), 0, []⟩])
(.cond (.tmp 56)
(.seq
(.ops [⟨(some 57), none, (.p (.mkIf 90 (.c (.int .i64 2)))), 0, []⟩,
⟨(some 2), none, (.p (.mv (.c (.int .i64 0)))), 0, []⟩,
⟨(some 3), none, (.p (.mv (.tmp 57))), 0, []⟩])
.ret)
.skip))
(.ops [⟨(some 58), none, (.p (.mv (.tmp 6))), 0, []⟩,
⟨(some 59), none, (.p (.bin .mul (.tmp 58) (.c (.int .i64 10)))), 0, []⟩,
⟨(some 60), none, (.p (.mv (.tmp 8))), 0, []⟩,
⟨(some 61), none, (.p (.convInt .i64 (.tmp 60))), 0, []⟩,
⟨(some 62), none, (.p (.bin .add (.tmp 59) (.tmp 61))), 0, []⟩,
⟨(some 6), none, (.p (.mv (.tmp 62))), 0, []⟩])))))
(.ops [⟨(some 63), none, (.p (.bin .add (.tmp 49) (.c (.int .i64 1)))), 0, []⟩,
⟨(some 49), none, (.p (.mv (.tmp 63))), 0, []⟩])))))))
(.seq
(.seq
(.ops [⟨(some 64), none, (.p (.mv (.tmp 5))), 0, []⟩,
⟨(some 65), none, (.p (.idxStr (.tmp 64) (.c (.int .i64 0)))), 0, []⟩,
⟨(some 66), none, (.p (.bin .eql (.tmp 65) (.c (.int .u8 45)))), 0, []⟩])
(.cond (.tmp 66)
(.ops [⟨(some 67), none, (.p (.mv (.tmp 6))), 0, []⟩,
⟨(some 68), none, (.p (.un .neg (.tmp 67))), 0, []⟩,
⟨(some 6), none, (.p (.mv (.tmp 68))), 0, []⟩])
.skip))
(.seq
(.ops [⟨(some 69), none, (.p (.mv (.tmp 6))), 0, []⟩,
⟨(some 2), none, (.p (.mv (.tmp 69))), 0, []⟩,
⟨(some 3), none, (.p (.mv (.c .nilif))), 0, []⟩])
.ret))))))
.skip))
(.seq
(.ops [⟨(some 71), none, (.p (.mv (.tmp 0))), 0, []⟩,
⟨(some 72), none, (.h (.call (.c (.fn 60 [] [])) [(.tmp 71), (.c (.int .i64 10)), (.c (.int .i64 0))])), 0, []⟩,
⟨(some 70), none, (.p (.mv (.tmp 72))), 0, []⟩,
⟨(some 73), none, (.p (.ext (.tmp 70) 0)), 0, []⟩,
⟨(some 74), none, (.p (.ext (.tmp 70) 1)), 0, []⟩,
⟨(some 9), none, (.p (.mv (.tmp 73))), 0, []⟩,
⟨(some 10), none, (.p (.mv (.tmp 74))), 0, []⟩])
(.seq
(.ops [⟨(some 75), none, (.p (.mv (.tmp 9))), 0, []⟩,
⟨(some 76), none, (.p (.mv (.tmp 10))), 0, []⟩,
⟨(some 2), none, (.p (.mv (.tmp 75))), 0, []⟩,
⟨(some 3), none, (.p (.mv (.tmp 76))), 0, []⟩])
.ret)))))⟩
theorem c52 : Mir.compF Tryz.prog Tryz.f52 = some g52 := by kernel_rfl
/-- strconv.toError -/
def g53 : Mir.Fn := ⟨43, [(.tmp 10)],
(.seq
(.ops [⟨(some 10), none, (.p (.mv (.c .nilif))), 0, []⟩])
(.seq
(.seq
(.ops [⟨(some 11), none, (.p (.mv (.tmp 4))), 0, []⟩])
(.block 0 (.seq
(.ops [⟨(some 13), none, (.p (.mkIf 90 (.c (.int .i64 2)))), 0, []⟩,
⟨(some 14), none, (.p (.eqIf [2, 3, 5, 6, 12, 21, 26, 63, 86, 90, 97, 106, 119, 147, 148, 150, 151] false (.tmp 11) (.tmp 13))), 0, []⟩,
⟨(some 12), none, (.p (.mv (.tmp 14))), 0, []⟩])
(.cond (.tmp 12)
(.seq
(.ops [⟨(some 15), none, (.p (.mv (.tmp 0))), 0, []⟩,
⟨(some 16), none, (.p (.mv (.tmp 1))), 0, []⟩,
⟨(some 17), none, (.h (.call (.c (.fn 61 [] [])) [(.tmp 15), (.tmp 16)])), 0, []⟩,
⟨(some 18), none, (.p (.mkIf 93 (.tmp 17))), 0, []⟩,
⟨(some 10), none, (.p (.mv (.tmp 18))), 0, []⟩])
.ret)
(.seq
(.ops [⟨(some 20), none, (.p (.mkIf 90 (.c (.int .i64 1)))), 0, []⟩,
⟨(some 21), none, (.p (.eqIf [2, 3, 5, 6, 12, 21, 26, 63, 86, 90, 97, 106, 119, 147, 148, 150, 151] false (.tmp 11) (.tmp 20))), 0, []⟩,
⟨(some 19), none, (.p (.mv (.tmp 21))), 0, []⟩])
(.cond (.tmp 19)
(.seq
(.ops [⟨(some 22), none, (.p (.mv (.tmp 0))), 0, []⟩,
⟨(some 23), none, (.p (.mv (.tmp 1))), 0, []⟩,
⟨(some 24), none, (.h (.call (.c (.fn 62 [] [])) [(.tmp 22), (.tmp 23)])), 0, []⟩,
⟨(some 25), none, (.p (.mkIf 93 (.tmp 24))), 0, []⟩,
⟨(some 10), none, (.p (.mv (.tmp 25))), 0, []⟩])
.ret)
(.seq
(.ops [⟨(some 27), none, (.p (.mkIf 90 (.c (.int .i64 3)))), 0, []⟩,
⟨(some 28), none, (.p (.eqIf [2, 3, 5, 6, 12, 21, 26, 63, 86, 90, 97, 106, 119, 147, 148, 150, 151] false (.tmp 11) (.tmp 27))), 0, []⟩,
⟨(some 26), none, (.p (.mv (.tmp 28))), 0, []⟩])
(.cond (.tmp 26)
(.seq
(.ops [⟨(some 29), none, (.p (.mv (.tmp 0))), 0, []⟩,
⟨(some 30), none, (.p (.mv (.tmp 1))), 0, []⟩,
⟨(some 31), none, (.p (.mv (.tmp 2))), 0, []⟩,
⟨(some 32), none, (.h (.call (.c (.fn 63 [] [])) [(.tmp 29), (.tmp 30), (.tmp 31)])), 0, []⟩,
⟨(some 33), none, (.p (.mkIf 93 (.tmp 32))), 0, []⟩,
⟨(some 10), none, (.p (.mv (.tmp 33))), 0, []⟩])
.ret)
(.seq
(.ops [⟨(some 35), none, (.p (.mkIf 90 (.c (.int .i64 4)))), 0, []⟩,
⟨(some 36), none, (.p (.eqIf [2, 3, 5, 6, 12, 21, 26, 63, 86, 90, 97, 106, 119, 147, 148, 150, 151] false (.tmp 11) (.tmp 35))), 0, []⟩,
⟨(some 34), none, (.p (.mv (.tmp 36))), 0, []⟩])
(.cond (.tmp 34)
(.seq
(.ops [⟨(some 37), none, (.p (.mv (.tmp 0))), 0, []⟩,
⟨(some 38), none, (.p (.mv (.tmp 1))), 0, []⟩,
⟨(some 39), none, (.p (.mv (.tmp 3))), 0, []⟩,
⟨(some 40), none, (.h (.call (.c (.fn 64 [] [])) [(.tmp 37), (.tmp 38), (.tmp 39)])), 0, []⟩,
⟨(some 41), none, (.p (.mkIf 93 (.tmp 40))), 0, []⟩,
⟨(some 10), none, (.p (.mv (.tmp 41))), 0, []⟩])
.ret)
.skip))))))))))
(.seq
(.ops [⟨(some 42), none, (.p (.mv (.tmp 4))), 0, []⟩,
⟨(some 10), none, (.p (.mv (.tmp 42))), 0, []⟩])
.ret)))⟩
theorem c53 : Mir.compF Tryz.prog Tryz.f53 = some g53 := by kernel_rfl
/-- slices.AppendSeq[[]string,string] -/
def g54 : Mir.Fn := ⟨13, [(.tmp 4)],
(.seq
(.ops [⟨(some 2), none, (.a (.box (.tmp 0))), 0, []⟩,
⟨(some 4), none, (.p (.mv (.c .nilsl))), 0, []⟩])
(.seq
(.seq
(.ops [⟨(some 6), none, (.p (.mv (.tmp 1))), 0, []⟩])
(.block 0 (.rangeFn (.tmp 6) [7] (.ops [⟨(some 5), none, (.p (.mv (.tmp 7))), 0, []⟩]) (.block 1 (.ops [⟨(some 8), none, (.r (.load 1 false (.tmp 2))), 0, []⟩,
⟨(some 9), none, (.p (.mv (.tmp 5))), 0, []⟩,
⟨(some 10), none, (.a (.mkSl [(.str [])] 1 1 [(0, (1, (.tmp 9)))])), 0, []⟩,
⟨(some 11), none, (.h (.app 1 16 (.tmp 8) (.tmp 10))), 0, []⟩,
⟨none, none, (.h (.store 1 (.tmp 2) (.tmp 11))), 0, []⟩])))))
(.seq
(.ops [⟨(some 12), none, (.r (.load 1 false (.tmp 2))), 0, []⟩,
⟨(some 4), none, (.p (.mv (.tmp 12))), 0, []⟩])
.ret)))⟩
theorem c54 : Mir.compF Tryz.prog Tryz.f54 = some g54 := by kernel_rfl
/-- slices.pdqsortOrdered[string] -/
def g55 : Mir.Fn := ⟨134, [],
(.seq
(.ops [⟨(some 8), none, (.p (.mv (.c (.bool true)))), 0, []⟩])
(.seq
(.ops [⟨(some 9), none, (.p (.mv (.c (.bool true)))), 0, []⟩])
(.block 0 (.loop (.block 1 (.seq
(.ops [⟨(some 19), none, (.p (.mv (.tmp 2))), 0, []⟩,
⟨(some 20), none, (.p (.mv (.tmp 1))), 0, []⟩,
⟨(some 21), none, (.p (.bin .sub (.tmp 19) (.tmp 20))), 0, []⟩,
⟨(some 10), none, (.p (.mv (.tmp 21))), 0, []⟩])
(.seq
(.seq
(.ops [⟨(some 22), none, (.p (.mv (.tmp 10))), 0, []⟩,
⟨(some 23), none, (.p (.bin .leq (.tmp 22) (.c (.int .i64 12)))), 0, []⟩])
(.cond (.tmp 23)
(.seq
(.ops [⟨(some 24), none, (.p (.mv (.tmp 0))), 0, []⟩,
⟨(some 25), none, (.p (.mv (.tmp 1))), 0, []⟩,
⟨(some 26), none, (.p (.mv (.tmp 2))), 0, []⟩,
⟨(some 27), none, (.h (.call (.c (.fn 65 [] [])) [(.tmp 24), (.tmp 25), (.tmp 26)])), 0, []⟩])
.ret)
.skip))
(.seq
(.seq
(.ops [⟨(some 28), none, (.p (.mv (.tmp 3))), 0, []⟩,
⟨(some 29), none, (.p (.bin .eql (.tmp 28) (.c (.int .i64 0)))), 0, []⟩])
(.cond (.tmp 29)
(.seq
(.ops [⟨(some 30), none, (.p (.mv (.tmp 0))), 0, []⟩,
⟨(some 31), none, (.p (.mv (.tmp 1))), 0, []⟩,
⟨(some 32), none, (.p (.mv (.tmp 2))), 0, []⟩,
⟨(some 33), none, (.h (.call (.c (.fn 66 [] [])) [(.tmp 30), (.tmp 31), (.tmp 32)])), 0, []⟩])
.ret)
.skip))
(.seq
(.seq
(.ops [⟨(some 34), none, (.p (.mv (.tmp 8))), 0, []⟩,
⟨(some 35), none, (.p (.un .not (.tmp 34))), 0, []⟩])
(.cond (.tmp 35)
(.seq
(.ops [⟨(some 36), none, (.p (.mv (.tmp 0))), 0, []⟩,
⟨(some 37), none, (.p (.mv (.tmp 1))), 0, []⟩,
⟨(some 38), none, (.p (.mv (.tmp 2))), 0, []⟩,
⟨(some 39), none, (.h (.call (.c (.fn 67 [] [])) [(.tmp 36), (.tmp 37), (.tmp 38)])), 0, []⟩])
(.ops [⟨(some 40), none, (.p (.mv (.tmp 3))), 0, []⟩,
⟨(some 41), none, (.p (.bin .sub (.tmp 40) (.c (.int .i64 1)))), 0, []⟩,
⟨(some 3), none, (.p (.mv (.tmp 41))), 0, []⟩]))
.skip))
(.seq
(.ops [⟨(some 43), none, (.p (.mv (.tmp 0))), 0, []⟩,
⟨(some 44), none, (.p (.mv (.tmp 1))), 0, []⟩,
⟨(some 45), none, (.p (.mv (.tmp 2))), 0, []⟩,
⟨(some 46), none, (.h (.call (.c (.fn 68 [] [])) [(.tmp 43), (.tmp 44), (.tmp 45)])), 0, []⟩,
⟨(some 42), none, (.p (.mv (.tmp 46))), 0, []⟩,
⟨(some 47), none, (.p (.ext (.tmp 42) 0)), 0, []⟩,
⟨(some 48), none, (.p (.ext (.tmp 42) 1)), 0, []⟩,
⟨(some 11), none, (.p (.mv (.tmp 47))), 0, []⟩,
⟨(some 12), none, (.p (.mv (.tmp 48))), 0, []⟩])
(.seq
(.seq
(.ops [⟨(some 49), none, (.p (.mv (.tmp 12))), 0, []⟩,
⟨(some 50), none, (.p (.bin .eql (.tmp 49) (.c (.int .i64 2)))), 0, []⟩])
(.cond (.tmp 50)
(.seq
(.ops [⟨(some 51), none, (.p (.mv (.tmp 0))), 0, []⟩,
⟨(some 52), none, (.p (.mv (.tmp 1))), 0, []⟩,
⟨(some 53), none, (.p (.mv (.tmp 2))), 0, []⟩,
⟨(some 54), none, (.h (.call (.c (.fn 69 [] [])) [(.tmp 51), (.tmp 52), (.tmp 53)])), 0, []⟩])
(.seq
(.ops [⟨(some 55), none, (.p (.mv (.tmp 2))), 0, []⟩,
⟨(some 56), none, (.p (.bin .sub (.tmp 55) (.c (.int .i64 1)))), 0, []⟩,
⟨(some 57), none, (.p (.mv (.tmp 11))), 0, []⟩,
⟨(some 58), none, (.p (.mv (.tmp 1))), 0, []⟩,
⟨(some 59), none, (.p (.bin .sub (.tmp 57) (.tmp 58))), 0, []⟩,
⟨(some 60), none, (.p (.bin .sub (.tmp 56) (.tmp 59))), 0, []⟩,
⟨(some 11), none, (.p (.mv (.tmp 60))), 0, []⟩])
(.ops [⟨(some 12), none, (.p (.mv (.c (.int .i64 1)))), 0, []⟩])))
.skip))
(.seq
(.seq
(.ops [⟨(some 61), none, (.p (.mv (.tmp 8))), 0, []⟩,
⟨(some 62), none, (.p (.mv (.tmp 61))), 0, []⟩,
⟨(some 63), (some (62, true)), (.p (.mv (.tmp 9))), 0, []⟩,
⟨(some 64), none, (.p (.pick (.tmp 62) (.tmp 63) (.c (.bool false)))), 0, []⟩,
⟨(some 65), none, (.p (.mv (.tmp 64))), 0, []⟩,
⟨(some 66), (some (65, true)), (.p (.mv (.tmp 12))), 0, []⟩,
⟨(some 67), (some (65, true)), (.p (.bin .eql (.tmp 66) (.c (.int .i64 1)))), 0, []⟩,
⟨(some 68), none, (.p (.pick (.tmp 65) (.tmp 67) (.c (.bool false)))), 0, []⟩])
(.cond (.tmp 68)
(.seq
(.ops [⟨(some 69), none, (.p (.mv (.tmp 0))), 0, []⟩,
⟨(some 70), none, (.p (.mv (.tmp 1))), 0, []⟩,
⟨(some 71), none, (.p (.mv (.tmp 2))), 0, []⟩,
⟨(some 72), none, (.h (.call (.c (.fn 70 [] [])) [(.tmp 69), (.tmp 70), (.tmp 71)])), 0, []⟩])
(.cond (.tmp 72)
.ret
.skip))
.skip))
(.seq
(.seq
(.draw [⟨(some 73), none, (.p (.mv (.tmp 1))), 0, []⟩,
⟨(some 74), none, (.p (.bin .gtr (.tmp 73) (.c (.int .i64 0)))), 1, []⟩,
⟨(some 75), none, (.p (.mv (.tmp 74))), 2, []⟩,
⟨(some 76), (some (75, true)), (.p (.mv (.tmp 0))), 3, []⟩,
⟨(some 77), (some (75, true)), (.p (.mv (.tmp 1))), 4, []⟩,
⟨(some 78), (some (75, true)), (.p (.bin .sub (.tmp 77) (.c (.int .i64 1)))), 5, []⟩,
⟨(some 79), (some (75, true)), (.p (.idxSl 1 (.tmp 76) (.tmp 78))), 6, []⟩,
⟨(some 80), (some (75, true)), (.r (.load 1 false (.tmp 79))), 7, []⟩,
⟨(some 81), (some (75, true)), (.p (.mv (.tmp 0))), 8, []⟩,
⟨(some 82), (some (75, true)), (.p (.mv (.tmp 11))), 9, []⟩,
⟨(some 83), (some (75, true)), (.p (.idxSl 1 (.tmp 81) (.tmp 82))), 10, []⟩,
⟨(some 84), (some (75, true)), (.r (.load 1 false (.tmp 83))), 11, []⟩,
⟨(some 85), (some (75, true)), (.h (.call (.c (.fn 71 [] [])) [(.tmp 80), (.tmp 84)])), 12, []⟩,
⟨(some 86), (some (75, true)), (.p (.un .not (.tmp 85))), 13, []⟩,
⟨(some 87), none, (.p (.pick (.tmp 75) (.tmp 86) (.c (.bool false)))), 14, []⟩])
(.cond (.tmp 87)
(.seq
(.ops [⟨(some 88), none, (.p (.mv (.tmp 0))), 0, []⟩,
⟨(some 89), none, (.p (.mv (.tmp 1))), 0, []⟩,
⟨(some 90), none, (.p (.mv (.tmp 2))), 0, []⟩,
⟨(some 91), none, (.p (.mv (.tmp 11))), 0, []⟩,
⟨(some 92), none, (.h (.call (.c (.fn 72 [] [])) [(.tmp 88), (.tmp 89), (.tmp 90), (.tmp 91)])), 0, []⟩,
⟨(some 13), none, (.p (.mv (.tmp 92))), 0, []⟩])
(.seq
(.ops [⟨(some 93), none, (.p (.mv (.tmp 13))), 0, []⟩,
⟨(some 1), none, (.p (.mv (.tmp 93))), 0, []⟩])
(.exit 1)))
.skip))
(.seq
(.ops [⟨(some 95), none, (.p (.mv (.tmp 0))), 0, []⟩,
⟨(some 96), none, (.p (.mv (.tmp 1))), 0, []⟩,
⟨(some 97), none, (.p (.mv (.tmp 2))), 0, []⟩,
⟨(some 98), none, (.p (.mv (.tmp 11))), 0, []⟩,
⟨(some 99), none, (.h (.call (.c (.fn 73 [] [])) [(.tmp 95), (.tmp 96), (.tmp 97), (.tmp 98)])), 0, []⟩,
⟨(some 94), none, (.p (.mv (.tmp 99))), 0, []⟩,
⟨(some 100), none, (.p (.ext (.tmp 94) 0)), 0, []⟩,
⟨(some 101), none, (.p (.ext (.tmp 94) 1)), 0, []⟩,
⟨(some 14), none, (.p (.mv (.tmp 100))), 0, []⟩,
⟨(some 15), none, (.p (.mv (.tmp 101))), 0, []⟩])
(.seq
(.ops [⟨(some 102), none, (.p (.mv (.tmp 15))), 0, []⟩,
⟨(some 9), none, (.p (.mv (.tmp 102))), 0, []⟩])
(.seq
(.ops [⟨(some 103), none, (.p (.mv (.tmp 14))), 0, []⟩,
⟨(some 104), none, (.p (.mv (.tmp 1))), 0, []⟩,
⟨(some 105), none, (.p (.bin .sub (.tmp 103) (.tmp 104))), 0, []⟩,
⟨(some 106), none, (.p (.mv (.tmp 2))), 0, []⟩,
⟨(some 107), none, (.p (.mv (.tmp 14))), 0, []⟩,
⟨(some 108), none, (.p (.bin .sub (.tmp 106) (.tmp 107))), 0, []⟩,
⟨(some 16), none, (.p (.mv (.tmp 105))), 0, []⟩,
⟨(some 17), none, (.p (.mv (.tmp 108))), 0, []⟩])
(.seq
(.ops [⟨(some 109), none, (.p (.mv (.tmp 10))), 0, []⟩,
⟨(some 110), none, (.p (.bin .quo (.tmp 109) (.c (.int .i64 8)))), 0, []⟩,
⟨(some 18), none, (.p (.mv (.tmp 110))), 0, []⟩])
(.seq
(.ops [⟨(some 111), none, (.p (.mv (.tmp 16))), 0, []⟩,
⟨(some 112), none, (.p (.mv (.tmp 17))), 0, []⟩,
⟨(some 113), none, (.p (.bin .lss (.tmp 111) (.tmp 112))), 0, []⟩])
(.cond (.tmp 113)
(.seq
(.ops [⟨(some 114), none, (.p (.mv (.tmp 16))), 0, []⟩,
⟨(some 115), none, (.p (.mv (.tmp 18))), 0, []⟩,
⟨(some 116), none, (.p (.bin .geq (.tmp 114) (.tmp 115))), 0, []⟩,
⟨(some 8), none, (.p (.mv (.tmp 116))), 0, []⟩])
(.seq
(.ops [⟨(some 117), none, (.p (.mv (.tmp 0))), 0, []⟩,
⟨(some 118), none, (.p (.mv (.tmp 1))), 0, []⟩,
⟨(some 119), none, (.p (.mv (.tmp 14))), 0, []⟩,
⟨(some 120), none, (.p (.mv (.tmp 3))), 0, []⟩,
⟨(some 121), none, (.h (.call (.c (.fn 55 [] [])) [(.tmp 117), (.tmp 118), (.tmp 119), (.tmp 120)])), 0, []⟩])
(.ops [⟨(some 122), none, (.p (.mv (.tmp 14))), 0, []⟩,
⟨(some 123), none, (.p (.bin .add (.tmp 122) (.c (.int .i64 1)))), 0, []⟩,
⟨(some 1), none, (.p (.mv (.tmp 123))), 0, []⟩])))
(.seq
(.ops [⟨(some 124), none, (.p (.mv (.tmp 17))), 0, []⟩,
⟨(some 125), none, (.p (.mv (.tmp 18))), 0, []⟩,
⟨(some 126), none, (.p (.bin .geq (.tmp 124) (.tmp 125))), 0, []⟩,
⟨(some 8), none, (.p (.mv (.tmp 126))), 0, []⟩])
(.seq
(.ops [⟨(some 127), none, (.p (.mv (.tmp 0))), 0, []⟩,
⟨(some 128), none, (.p (.mv (.tmp 14))), 0, []⟩,
⟨(some 129), none, (.p (.bin .add (.tmp 128) (.c (.int .i64 1)))), 0, []⟩,
⟨(some 130), none, (.p (.mv (.tmp 2))), 0, []⟩,
⟨(some 131), none, (.p (.mv (.tmp 3))), 0, []⟩,
⟨(some 132), none, (.h (.call (.c (.fn 55 [] [])) [(.tmp 127), (.tmp 129), (.tmp 130), (.tmp 131)])), 0, []⟩])
(.ops [⟨(some 133), none, (.p (.mv (.tmp 14))), 0, []⟩,
⟨(some 2), none, (.p (.mv (.tmp 133))), 0, []⟩]))))))))))))))))))))))⟩
theorem c55 : Mir.compF Tryz.prog Tryz.f55 = some g55 := by kernel_rfl
/-- math/bits.Len -/
def g56 : Mir.Fn := ⟨8, [(.tmp 2)],
(.seq
(.ops [⟨(some 2), none, (.p (.mv (.c (.int .i64 0)))), 0, []⟩])
(.seq
(.cond (.c (.bool false))
(.seq
(.ops [⟨(some 3), none, (.p (.mv (.tmp 0))), 0, []⟩,
⟨(some 4), none, (.p (.convInt .u32 (.tmp 3))), 0, []⟩,
⟨(some 5), none, (.h (.call (.c (.fn 74 [] [])) [(.tmp 4)])), 0, []⟩,
⟨(some 2), none, (.p (.mv (.tmp 5))), 0, []⟩])
.ret)
.skip)
(.seq
(.ops [⟨(some 6), none, (.p (.mv (.tmp 0))), 0, []⟩,
⟨(some 7), none, (.h (.call (.c (.fn 75 [] [])) [(.tmp 6)])), 0, []⟩,
⟨(some 2), none, (.p (.mv (.tmp 7))), 0, []⟩])
.ret)))⟩
theorem c56 : Mir.compF Tryz.prog Tryz.f56 = some g56 := by kernel_rfl
/-- strings.IndexFunc -/
def g57 : Mir.Fn := ⟨8, [(.tmp 4)],
(.seq
(.ops [⟨(some 4), none, (.p (.mv (.c (.int .i64 0)))), 0, []⟩])
(.seq
(.ops [⟨(some 5), none, (.p (.mv (.tmp 0))), 0, []⟩,
⟨(some 6), none, (.p (.mv (.tmp 1))), 0, []⟩,
⟨(some 7), none, (.h (.call (.c (.fn 76 [] [])) [(.tmp 5), (.tmp 6), (.c (.bool true))])), 0, []⟩,
⟨(some 4), none, (.p (.mv (.tmp 7))), 0, []⟩])
.ret))⟩
theorem c57 : Mir.compF Tryz.prog Tryz.f57 = some g57 := by kernel_rfl
/-- internal/strconv.FormatInt -/
def g58 : Mir.Fn := ⟨54, [(.tmp 4)],
(.seq
(.ops [⟨(some 4), none, (.p (.mv (.c (.str [])))), 0, []⟩])
(.seq
(.seq
(.ops [⟨(some 10), none, (.p (.mv (.tmp 1))), 0, []⟩,
⟨(some 11), none, (.p (.bin .eql (.tmp 10) (.c (.int .i64 10)))), 0, []⟩])
(.cond (.tmp 11)
(.seq
(.seq
(.ops [⟨(some 12), none, (.p (.mv (.tmp 0))), 0, []⟩,
⟨(some 13), none, (.p (.bin .leq (.c (.int .i64 0)) (.tmp 12))), 0, []⟩,
⟨(some 14), none, (.p (.mv (.tmp 13))), 0, []⟩,
⟨(some 15), (some (14, true)), (.p (.mv (.tmp 0))), 0, []⟩,
⟨(some 16), (some (14, true)), (.p (.bin .lss (.tmp 15) (.c (.int .i64 100)))), 0, []⟩,
⟨(some 17), none, (.p (.pick (.tmp 14) (.tmp 16) (.c (.bool false)))), 0, []⟩])
(.cond (.tmp 17)
(.seq
(.ops [⟨(some 18), none, (.p (.mv (.tmp 0))), 0, []⟩,
⟨(some 19), none, (.h (.call (.c (.fn 77 [] [])) [(.tmp 18)])), 0, []⟩,
⟨(some 4), none, (.p (.mv (.tmp 19))), 0, []⟩])
.ret)
.skip))
(.seq
(.ops [⟨(some 5), none, (.a (.alloc [(.int .u8 0), (.int .u8 0), (.int .u8 0), (.int .u8 0), (.int .u8 0), (.int .u8 0), (.int .u8 0), (.int .u8 0), (.int .u8 0), (.int .u8 0), (.int .u8 0), (.int .u8 0), (.int .u8 0), (.int .u8 0), (.int .u8 0), (.int .u8 0), (.int .u8 0), (.int .u8 0), (.int .u8 0), (.int .u8 0), (.int .u8 0), (.int .u8 0), (.int .u8 0), (.int .u8 0)])), 0, []⟩])
(.seq
(.ops [⟨(some 20), none, (.p (.mv (.tmp 0))), 0, []⟩,
⟨(some 21), none, (.p (.convInt .u64 (.tmp 20))), 0, []⟩,
⟨(some 6), none, (.p (.mv (.tmp 21))), 0, []⟩])
(.seq
(.seq
(.ops [⟨(some 22), none, (.p (.mv (.tmp 0))), 0, []⟩,
⟨(some 23), none, (.p (.bin .lss (.tmp 22) (.c (.int .i64 0)))), 0, []⟩])
(.cond (.tmp 23)
(.ops [⟨(some 24), none, (.p (.mv (.tmp 6))), 0, []⟩,
⟨(some 25), none, (.p (.un .neg (.tmp 24))), 0, []⟩,
⟨(some 6), none, (.p (.mv (.tmp 25))), 0, []⟩])
.skip))
(.seq
(.ops [⟨(some 26), none, (.p (.mv (.tmp 6))), 0, []⟩,
⟨(some 27), none, (.h (.call (.c (.fn 78 [] [])) [(.tmp 26)])), 0, []⟩,
⟨(some 7), none, (.p (.mv (.tmp 27))), 0, []⟩])
(.seq
(.ops [⟨(some 28), none, (.p (.mv (.tmp 7))), 0, []⟩,
⟨(some 29), none, (.p (.bin .add (.c (.int .i64 1)) (.tmp 28))), 0, []⟩,
⟨(some 30), none, (.r (.slArr 24 1 (.tmp 5) (some (.c (.int .i64 1))) (some (.tmp 29)))), 0, []⟩,
⟨(some 31), none, (.p (.mv (.tmp 6))), 0, []⟩,
⟨(some 32), none, (.h (.call (.c (.fn 79 [] [])) [(.tmp 30), (.tmp 31)])), 0, []⟩])
(.seq
(.seq
(.ops [⟨(some 33), none, (.p (.mv (.tmp 0))), 0, []⟩,
⟨(some 34), none, (.p (.bin .lss (.tmp 33) (.c (.int .i64 0)))), 0, []⟩])
(.cond (.tmp 34)
(.seq
(.ops [⟨(some 35), none, (.p (.idxArr 24 1 (.tmp 5) (.c (.int .i64 0)))), 0, []⟩,
⟨none, none, (.h (.store 1 (.tmp 35) (.c (.int .u8 45)))), 0, []⟩])
(.seq
(.ops [⟨(some 36), none, (.p (.mv (.tmp 7))), 0, []⟩,
⟨(some 37), none, (.p (.bin .add (.c (.int .i64 1)) (.tmp 36))), 0, []⟩,
⟨(some 38), none, (.r (.slArr 24 1 (.tmp 5) none (some (.tmp 37)))), 0, []⟩,
⟨(some 39), none, (.r (.toStr (.tmp 38))), 0, []⟩,
⟨(some 4), none, (.p (.mv (.tmp 39))), 0, []⟩])
.ret))
.skip))
(.seq
(.ops [⟨(some 40), none, (.p (.mv (.tmp 7))), 0, []⟩,
⟨(some 41), none, (.p (.bin .add (.c (.int .i64 1)) (.tmp 40))), 0, []⟩,
⟨(some 42), none, (.r (.slArr 24 1 (.tmp 5) (some (.c (.int .i64 1))) (some (.tmp 41)))), 0, []⟩,
⟨(some 43), none, (.r (.toStr (.tmp 42))), 0, []⟩,
⟨(some 4), none, (.p (.mv (.tmp 43))), 0, []⟩])
.ret))))))))
.skip))
(.seq
(.ops [⟨(some 45), none, (.p (.mv (.tmp 0))), 0, []⟩,
⟨(some 46), none, (.p (.convInt .u64 (.tmp 45))), 0, []⟩,
⟨(some 47), none, (.p (.mv (.tmp 1))), 0, []⟩,
⟨(some 48), none, (.p (.mv (.tmp 0))), 0, []⟩,
⟨(some 49), none, (.p (.bin .lss (.tmp 48) (.c (.int .i64 0)))), 0, []⟩,
⟨(some 50), none, (.h (.call (.c (.fn 80 [] [])) [(.c .nilsl), (.tmp 46), (.tmp 47), (.tmp 49), (.c (.bool false))])), 0, []⟩,
⟨(some 44), none, (.p (.mv (.tmp 50))), 0, []⟩,
⟨(some 51), none, (.p (.ext (.tmp 44) 0)), 0, []⟩,
⟨(some 52), none, (.p (.ext (.tmp 44) 1)), 0, []⟩,
⟨(some 8), none, (.p (.mv (.tmp 51))), 0, []⟩,
⟨(some 9), none, (.p (.mv (.tmp 52))), 0, []⟩])
(.seq
(.ops [⟨(some 53), none, (.p (.mv (.tmp 9))), 0, []⟩,
⟨(some 4), none, (.p (.mv (.tmp 53))), 0, []⟩])
.ret))))⟩
theorem c58 : Mir.compF Tryz.prog Tryz.f58 = some g58 := by kernel_rfl
/-- internal/stringslite.Index -/
def g59 : Mir.Fn := ⟨143, [(.tmp 4)],
(.seq
(.ops [⟨(some 4), none, (.p (.mv (.c (.int .i64 0)))), 0, []⟩])
(.seq
(.ops [⟨(some 14), none, (.p (.mv (.tmp 1))), 0, []⟩,
⟨(some 15), none, (.p (.lenStr (.tmp 14))), 0, []⟩,
⟨(some 5), none, (.p (.mv (.tmp 15))), 0, []⟩])
(.seq
(.block 0 (.seq
(.ops [⟨(some 17), none, (.p (.mv (.tmp 5))), 0, []⟩,
⟨(some 18), none, (.p (.bin .eql (.tmp 17) (.c (.int .i64 0)))), 0, []⟩,
⟨(some 19), none, (.p (.mv (.tmp 18))), 0, []⟩,
⟨(some 20), (some (19, false)), (.p (.mv (.tmp 1))), 0, []⟩,
⟨(some 21), (some (19, false)), (.p (.mv (.tmp 0))), 0, []⟩,
⟨(some 22), (some (19, false)), (.p (.bin .eql (.tmp 20) (.tmp 21))), 0, []⟩,
⟨(some 23), none, (.p (.pick (.tmp 19) (.c (.bool true)) (.tmp 22))), 0, []⟩,
⟨(some 16), none, (.p (.mv (.tmp 23))), 0, []⟩])
(.cond (.tmp 16)
(.seq
(.ops [⟨(some 4), none, (.p (.mv (.c (.int .i64 0)))), 0, []⟩])
.ret)
(.seq
(.ops [⟨(some 25), none, (.p (.mv (.tmp 5))), 0, []⟩,
⟨(some 26), none, (.p (.bin .eql (.tmp 25) (.c (.int .i64 1)))), 0, []⟩,
⟨(some 24), none, (.p (.mv (.tmp 26))), 0, []⟩])
(.cond (.tmp 24)
(.seq
(.ops [⟨(some 27), none, (.p (.mv (.tmp 0))), 0, []⟩,
⟨(some 28), none, (.p (.mv (.tmp 1))), 0, []⟩,
⟨(some 29), none, (.p (.idxStr (.tmp 28) (.c (.int .i64 0)))), 0, []⟩,
⟨(some 30), none, (.h (.call (.c (.fn 81 [] [])) [(.tmp 27), (.tmp 29)])), 0, []⟩,
⟨(some 4), none, (.p (.mv (.tmp 30))), 0, []⟩])
.ret)
(.seq
(.ops [⟨(some 32), none, (.p (.mv (.tmp 5))), 0, []⟩,
⟨(some 33), none, (.p (.mv (.tmp 0))), 0, []⟩,
⟨(some 34), none, (.p (.lenStr (.tmp 33))), 0, []⟩,
⟨(some 35), none, (.p (.bin .geq (.tmp 32) (.tmp 34))), 0, []⟩,
⟨(some 31), none, (.p (.mv (.tmp 35))), 0, []⟩])
(.cond (.tmp 31)
(.seq
(.ops [⟨(some 4), none, (.p (.mv (.c (.int .i64 (-1))))), 0, []⟩])
.ret)
(.seq
(.ops [⟨(some 37), none, (.p (.mv (.tmp 5))), 0, []⟩,
⟨(some 38), none, (.r (.load 1 false (.glob 0))), 0, []⟩,
⟨(some 39), none, (.p (.bin .leq (.tmp 37) (.tmp 38))), 0, []⟩,
⟨(some 40), none, (.p (.mv (.tmp 39))), 0, []⟩,
⟨(some 41), (some (40, true)), (.p (.mv (.tmp 0))), 0, []⟩,
⟨(some 42), (some (40, true)), (.p (.lenStr (.tmp 41))), 0, []⟩,
⟨(some 43), (some (40, true)), (.p (.bin .leq (.tmp 42) (.c (.int .i64 64)))), 0, []⟩,
⟨(some 44), none, (.p (.pick (.tmp 40) (.tmp 43) (.c (.bool false)))), 0, []⟩,
⟨(some 36), none, (.p (.mv (.tmp 44))), 0, []⟩])
(.cond (.tmp 36)
(.seq
(.ops [⟨(some 45), none, (.p (.mv (.tmp 0))), 0, []⟩,
⟨(some 46), none, (.p (.mv (.tmp 1))), 0, []⟩,
⟨(some 47), none, (.h (.call (.c (.fn 82 [] [])) [(.tmp 45), (.tmp 46)])), 0, []⟩,
⟨(some 4), none, (.p (.mv (.tmp 47))), 0, []⟩])
.ret)
.skip)))))))))
(.seq
(.ops [⟨(some 48), none, (.p (.mv (.tmp 1))), 0, []⟩,
⟨(some 49), none, (.p (.idxStr (.tmp 48) (.c (.int .i64 0)))), 0, []⟩,
⟨(some 6), none, (.p (.mv (.tmp 49))), 0, []⟩])
(.seq
(.ops [⟨(some 50), none, (.p (.mv (.tmp 1))), 0, []⟩,
⟨(some 51), none, (.p (.idxStr (.tmp 50) (.c (.int .i64 1)))), 0, []⟩,
⟨(some 7), none, (.p (.mv (.tmp 51))), 0, []⟩])
(.seq
(.ops [⟨(some 8), none, (.p (.mv (.c (.int .i64 0)))), 0, []⟩])
(.seq
(.ops [⟨(some 52), none, (.p (.mv (.tmp 0))), 0, []⟩,
⟨(some 53), none, (.p (.lenStr (.tmp 52))), 0, []⟩,
⟨(some 54), none, (.p (.mv (.tmp 5))), 0, []⟩,
⟨(some 55), none, (.p (.bin .sub (.tmp 53) (.tmp 54))), 0, []⟩,
⟨(some 56), none, (.p (.bin .add (.tmp 55) (.c (.int .i64 1)))), 0, []⟩,
⟨(some 9), none, (.p (.mv (.tmp 56))), 0, []⟩])
(.seq
(.ops [⟨(some 10), none, (.p (.mv (.c (.int .i64 0)))), 0, []⟩])
(.seq
(.block 1 (.loop (.seq
(.seq
(.ops [⟨(some 57), none, (.p (.mv (.tmp 8))), 0, []⟩,
⟨(some 58), none, (.p (.mv (.tmp 9))), 0, []⟩,
⟨(some 59), none, (.p (.bin .lss (.tmp 57) (.tmp 58))), 0, []⟩])
(.cond (.tmp 59)
.skip
(.exit 1)))
(.block 2 (.seq
(.seq
(.ops [⟨(some 60), none, (.p (.mv (.tmp 0))), 0, []⟩,
⟨(some 61), none, (.p (.mv (.tmp 8))), 0, []⟩,
⟨(some 62), none, (.p (.idxStr (.tmp 60) (.tmp 61))), 0, []⟩,
⟨(some 63), none, (.p (.mv (.tmp 6))), 0, []⟩,
⟨(some 64), none, (.p (.bin .neq (.tmp 62) (.tmp 63))), 0, []⟩])
(.cond (.tmp 64)
(.seq
(.ops [⟨(some 65), none, (.p (.mv (.tmp 0))), 0, []⟩,
⟨(some 66), none, (.p (.mv (.tmp 8))), 0, []⟩,
⟨(some 67), none, (.p (.bin .add (.tmp 66) (.c (.int .i64 1)))), 0, []⟩,
⟨(some 68), none, (.p (.mv (.tmp 9))), 0, []⟩,
⟨(some 69), none, (.p (.subStr (.tmp 65) (some (.tmp 67)) (some (.tmp 68)))), 0, []⟩,
⟨(some 70), none, (.p (.mv (.tmp 6))), 0, []⟩,
⟨(some 71), none, (.h (.call (.c (.fn 81 [] [])) [(.tmp 69), (.tmp 70)])), 0, []⟩,
⟨(some 11), none, (.p (.mv (.tmp 71))), 0, []⟩])
(.seq
(.seq
(.ops [⟨(some 72), none, (.p (.mv (.tmp 11))), 0, []⟩,
⟨(some 73), none, (.p (.bin .lss (.tmp 72) (.c (.int .i64 0)))), 0, []⟩])
(.cond (.tmp 73)
(.seq
(.ops [⟨(some 4), none, (.p (.mv (.c (.int .i64 (-1))))), 0, []⟩])
.ret)
.skip))
(.ops [⟨(some 74), none, (.p (.mv (.tmp 8))), 0, []⟩,
⟨(some 75), none, (.p (.mv (.tmp 11))), 0, []⟩,
⟨(some 76), none, (.p (.bin .add (.tmp 75) (.c (.int .i64 1)))), 0, []⟩,
⟨(some 77), none, (.p (.bin .add (.tmp 74) (.tmp 76))), 0, []⟩,
⟨(some 8), none, (.p (.mv (.tmp 77))), 0, []⟩])))
.skip))
(.seq
(.seq
(.ops [⟨(some 78), none, (.p (.mv (.tmp 0))), 0, []⟩,
⟨(some 79), none, (.p (.mv (.tmp 8))), 0, []⟩,
⟨(some 80), none, (.p (.bin .add (.tmp 79) (.c (.int .i64 1)))), 0, []⟩,
⟨(some 81), none, (.p (.idxStr (.tmp 78) (.tmp 80))), 0, []⟩,
⟨(some 82), none, (.p (.mv (.tmp 7))), 0, []⟩,
⟨(some 83), none, (.p (.bin .eql (.tmp 81) (.tmp 82))), 0, []⟩,
⟨(some 84), none, (.p (.mv (.tmp 83))), 0, []⟩,
⟨(some 85), (some (84, true)), (.p (.mv (.tmp 0))), 0, []⟩,
⟨(some 86), (some (84, true)), (.p (.mv (.tmp 8))), 0, []⟩,
⟨(some 87), (some (84, true)), (.p (.mv (.tmp 8))), 0, []⟩,
⟨(some 88), (some (84, true)), (.p (.mv (.tmp 5))), 0, []⟩,
⟨(some 89), (some (84, true)), (.p (.bin .add (.tmp 87) (.tmp 88))), 0, []⟩,
⟨(some 90), (some (84, true)), (.p (.subStr (.tmp 85) (some (.tmp 86)) (some (.tmp 89)))), 0, []⟩,
⟨(some 91), (some (84, true)), (.p (.mv (.tmp 1))), 0, []⟩,
⟨(some 92), (some (84, true)), (.p (.bin .eql (.tmp 90) (.tmp 91))), 0, []⟩,
⟨(some 93), none, (.p (.pick (.tmp 84) (.tmp 92) (.c (.bool false)))), 0, []⟩])
(.cond (.tmp 93)
(.seq
(.ops [⟨(some 94), none, (.p (.mv (.tmp 8))), 0, []⟩,
⟨(some 4), none, (.p (.mv (.tmp 94))), 0, []⟩])
.ret)
.skip))
(.seq
(.ops [⟨(some 95), none, (.p (.mv (.tmp 8))), 0, []⟩,
⟨(some 96), none, (.p (.bin .add (.tmp 95) (.c (.int .i64 1)))), 0, []⟩,
⟨(some 8), none, (.p (.mv (.tmp 96))), 0, []⟩])
(.seq
(.ops [⟨(some 97), none, (.p (.mv (.tmp 10))), 0, []⟩,
⟨(some 98), none, (.p (.bin .add (.tmp 97) (.c (.int .i64 1)))), 0, []⟩,
⟨(some 10), none, (.p (.mv (.tmp 98))), 0, []⟩])
(.seq
(.ops [⟨(some 99), none, (.p (.mv (.tmp 5))), 0, []⟩,
⟨(some 100), none, (.r (.load 1 false (.glob 0))), 0, []⟩,
⟨(some 101), none, (.p (.bin .leq (.tmp 99) (.tmp 100))), 0, []⟩,
⟨(some 102), none, (.p (.mv (.tmp 101))), 0, []⟩,
⟨(some 103), (some (102, true)), (.p (.mv (.tmp 10))), 0, []⟩,
⟨(some 104), (some (102, true)), (.p (.mv (.tmp 8))), 0, []⟩,
⟨(some 105), (some (102, true)), (.h (.call (.c (.fn 83 [] [])) [(.tmp 104)])), 0, []⟩,
⟨(some 106), (some (102, true)), (.p (.bin .gtr (.tmp 103) (.tmp 105))), 0, []⟩,
⟨(some 107), none, (.p (.pick (.tmp 102) (.tmp 106) (.c (.bool false)))), 0, []⟩])
(.cond (.tmp 107)
(.seq
(.ops [⟨(some 108), none, (.p (.mv (.tmp 0))), 0, []⟩,
⟨(some 109), none, (.p (.mv (.tmp 8))), 0, []⟩,
⟨(some 110), none, (.p (.subStr (.tmp 108) (some (.tmp 109)) none)), 0, []⟩,
⟨(some 111), none, (.p (.mv (.tmp 1))), 0, []⟩,
⟨(some 112), none, (.h (.call (.c (.fn 82 [] [])) [(.tmp 110), (.tmp 111)])), 0, []⟩,
⟨(some 12), none, (.p (.mv (.tmp 112))), 0, []⟩])
(.seq
(.seq
(.ops [⟨(some 113), none, (.p (.mv (.tmp 12))), 0, []⟩,
⟨(some 114), none, (.p (.bin .geq (.tmp 113) (.c (.int .i64 0)))), 0, []⟩])
(.cond (.tmp 114)
(.seq
(.ops [⟨(some 115), none, (.p (.mv (.tmp 12))), 0, []⟩,
⟨(some 116), none, (.p (.mv (.tmp 8))), 0, []⟩,
⟨(some 117), none, (.p (.bin .add (.tmp 115) (.tmp 116))), 0, []⟩,
⟨(some 4), none, (.p (.mv (.tmp 117))), 0, []⟩])
.ret)
.skip))
(.seq
(.ops [⟨(some 4), none, (.p (.mv (.c (.int .i64 (-1))))), 0, []⟩])
.ret)))
(.seq
(.ops [⟨(some 118), none, (.p (.mv (.tmp 5))), 0, []⟩,
⟨(some 119), none, (.r (.load 1 false (.glob 0))), 0, []⟩,
⟨(some 120), none, (.p (.bin .gtr (.tmp 118) (.tmp 119))), 0, []⟩,
⟨(some 121), none, (.p (.mv (.tmp 120))), 0, []⟩,
⟨(some 122), (some (121, true)), (.p (.mv (.tmp 10))), 0, []⟩,
⟨(some 123), (some (121, true)), (.p (.mv (.tmp 8))), 0, []⟩,
⟨(some 124), (some (121, true)), (.p (.bin .shr (.tmp 123) (.c (.int .u64 4)))), 0, []⟩,
⟨(some 125), (some (121, true)), (.p (.bin .add (.c (.int .i64 4)) (.tmp 124))), 0, []⟩,
⟨(some 126), (some (121, true)), (.p (.bin .geq (.tmp 122) (.tmp 125))), 0, []⟩,
⟨(some 127), none, (.p (.pick (.tmp 121) (.tmp 126) (.c (.bool false)))), 0, []⟩,
⟨(some 128), none, (.p (.mv (.tmp 127))), 0, []⟩,
⟨(some 129), (some (128, true)), (.p (.mv (.tmp 8))), 0, []⟩,
⟨(some 130), (some (128, true)), (.p (.mv (.tmp 9))), 0, []⟩,
⟨(some 131), (some (128, true)), (.p (.bin .lss (.tmp 129) (.tmp 130))), 0, []⟩,
⟨(some 132), none, (.p (.pick (.tmp 128) (.tmp 131) (.c (.bool false)))), 0, []⟩])
(.cond (.tmp 132)
(.seq
(.ops [⟨(some 133), none, (.p (.mv (.tmp 0))), 0, []⟩,
⟨(some 134), none, (.p (.mv (.tmp 8))), 0, []⟩,
⟨(some 135), none, (.p (.subStr (.tmp 133) (some (.tmp 134)) none)), 0, []⟩,
⟨(some 136), none, (.p (.mv (.tmp 1))), 0, []⟩,
⟨(some 137), none, (.h (.call (.c (.fn 84 [] [])) [(.tmp 135), (.tmp 136)])), 0, []⟩,
⟨(some 13), none, (.p (.mv (.tmp 137))), 0, []⟩])
(.seq
(.seq
(.ops [⟨(some 138), none, (.p (.mv (.tmp 13))), 0, []⟩,
⟨(some 139), none, (.p (.bin .lss (.tmp 138) (.c (.int .i64 0)))), 0, []⟩])
(.cond (.tmp 139)
(.seq
(.ops [⟨(some 4), none, (.p (.mv (.c (.int .i64 (-1))))), 0, []⟩])
.ret)
.skip))
(.seq
(.ops [⟨(some 140), none, (.p (.mv (.tmp 8))), 0, []⟩,
⟨(some 141), none, (.p (.mv (.tmp 13))), 0, []⟩,
⟨(some 142), none, (.p (.bin .add (.tmp 140) (.tmp 141))), 0, []⟩,
⟨(some 4), none, (.p (.mv (.tmp 142))), 0, []⟩])
.ret)))
.skip))))))))))))
(.seq
(.ops [⟨(some 4), none, (.p (.mv (.c (.int .i64 (-1))))), 0, []⟩])
.ret))))))))))⟩
theorem c59 : Mir.compF Tryz.prog Tryz.f59 = some g59 := by kernel_rfl
/-- internal/strconv.ParseInt -/
def g60 : Mir.Fn := ⟨73, [(.tmp 6), (.tmp 7)],
(.seq
(.ops [⟨(some 6), none, (.p (.mv (.c (.int .i64 0)))), 0, []⟩,
⟨(some 7), none, (.p (.mv (.c .nilif))), 0, []⟩])
(.seq
(.seq
(.ops [⟨(some 12), none, (.p (.mv (.tmp 0))), 0, []⟩,
⟨(some 13), none, (.p (.bin .eql (.tmp 12) (.c (.str [])))), 0, []⟩])
(.cond (.tmp 13)
(.seq
(.ops [⟨(some 14), none, (.p (.mkIf 90 (.c (.int .i64 2)))), 0, []⟩,
⟨(some 6), none, (.p (.mv (.c (.int .i64 0)))), 0, []⟩,
⟨(some 7), none, (.p (.mv (.tmp 14))), 0, []⟩])
.ret)
.skip))
(.seq
(.ops [⟨(some 8), none, (.p (.mv (.c (.bool false)))), 0, []⟩])
(.seq
(.seq
(.ops [⟨(some 15), none, (.p (.mv (.tmp 0))), 0, []⟩,
⟨(some 16), none, (.p (.idxStr (.tmp 15) (.c (.int .i64 0)))), 0, []⟩])
(.block 0 (.seq
(.ops [⟨(some 18), none, (.p (.bin .eql (.tmp 16) (.c (.int .u8 43)))), 0, []⟩,
⟨(some 17), none, (.p (.mv (.tmp 18))), 0, []⟩])
(.cond (.tmp 17)
(.ops [⟨(some 19), none, (.p (.mv (.tmp 0))), 0, []⟩,
⟨(some 20), none, (.p (.subStr (.tmp 19) (some (.c (.int .i64 1))) none)), 0, []⟩,
⟨(some 0), none, (.p (.mv (.tmp 20))), 0, []⟩])
(.seq
(.ops [⟨(some 22), none, (.p (.bin .eql (.tmp 16) (.c (.int .u8 45)))), 0, []⟩,
⟨(some 21), none, (.p (.mv (.tmp 22))), 0, []⟩])
(.cond (.tmp 21)
(.seq
(.ops [⟨(some 23), none, (.p (.mv (.tmp 0))), 0, []⟩,
⟨(some 24), none, (.p (.subStr (.tmp 23) (some (.c (.int .i64 1))) none)), 0, []⟩,
⟨(some 0), none, (.p (.mv (.tmp 24))), 0, []⟩])
(.ops [⟨(some 8), none, (.p (.mv (.c (.bool true)))), 0, []⟩]))
.skip))))))
(.seq
(.ops [⟨(some 9), none, (.p (.mv (.c (.int .u64 0)))), 0, []⟩])
(.seq
(.ops [⟨(some 26), none, (.p (.mv (.tmp 0))), 0, []⟩,
⟨(some 27), none, (.p (.mv (.tmp 1))), 0, []⟩,
⟨(some 28), none, (.p (.mv (.tmp 2))), 0, []⟩,
⟨(some 29), none, (.h (.call (.c (.fn 85 [] [])) [(.tmp 26), (.tmp 27), (.tmp 28)])), 0, []⟩,
⟨(some 25), none, (.p (.mv (.tmp 29))), 0, []⟩,
⟨(some 30), none, (.p (.ext (.tmp 25) 0)), 0, []⟩,
⟨(some 31), none, (.p (.ext (.tmp 25) 1)), 0, []⟩,
⟨(some 9), none, (.p (.mv (.tmp 30))), 0, []⟩,
⟨(some 7), none, (.p (.mv (.tmp 31))), 0, []⟩])
(.seq
(.seq
(.ops [⟨(some 32), none, (.p (.mv (.tmp 7))), 0, []⟩,
⟨(some 33), none, (.p (.eq .iface true (.tmp 32) (.c .nilif))), 0, []⟩,
⟨(some 34), none, (.p (.mv (.tmp 33))), 0, []⟩,
⟨(some 35), (some (34, true)), (.p (.mv (.tmp 7))), 0, []⟩,
⟨(some 36), (some (34, true)), (.p (.mkIf 90 (.c (.int .i64 1)))), 0, []⟩,
⟨(some 37), (some (34, true)), (.p (.eqIf [2, 3, 5, 6, 12, 21, 26, 63, 86, 90, 97, 106, 119, 147, 148, 150, 151] true (.tmp 35) (.tmp 36))), 0, []⟩,
⟨(some 38), none, (.p (.pick (.tmp 34) (.tmp 37) (.c (.bool false)))), 0, []⟩])
(.cond (.tmp 38)
(.seq
(.ops [⟨(some 39), none, (.p (.mv (.tmp 7))), 0, []⟩,
⟨(some 6), none, (.p (.mv (.c (.int .i64 0)))), 0, []⟩,
⟨(some 7), none, (.p (.mv (.tmp 39))), 0, []⟩])
.ret)
.skip))
(.seq
(.seq
(.ops [⟨(some 40), none, (.p (.mv (.tmp 2))), 0, []⟩,
⟨(some 41), none, (.p (.bin .eql (.tmp 40) (.c (.int .i64 0)))), 0, []⟩])
(.cond (.tmp 41)
(.ops [⟨(some 2), none, (.p (.mv (.c (.int .i64 64)))), 0, []⟩])
.skip))
(.seq
(.ops [⟨(some 42), none, (.p (.mv (.tmp 2))), 0, []⟩,
⟨(some 43), none, (.p (.bin .sub (.tmp 42) (.c (.int .i64 1)))), 0, []⟩,
⟨(some 44), none, (.p (.convInt .u64 (.tmp 43))), 0, []⟩,
⟨(some 45), none, (.p (.bin .shl (.c (.int .u64 1)) (.tmp 44))), 0, []⟩,
⟨(some 10), none, (.p (.mv (.tmp 45))), 0, []⟩])
(.seq
(.seq
(.ops [⟨(some 46), none, (.p (.mv (.tmp 8))), 0, []⟩,
⟨(some 47), none, (.p (.un .not (.tmp 46))), 0, []⟩,
⟨(some 48), none, (.p (.mv (.tmp 47))), 0, []⟩,
⟨(some 49), (some (48, true)), (.p (.mv (.tmp 9))), 0, []⟩,
⟨(some 50), (some (48, true)), (.p (.mv (.tmp 10))), 0, []⟩,
⟨(some 51), (some (48, true)), (.p (.bin .geq (.tmp 49) (.tmp 50))), 0, []⟩,
⟨(some 52), none, (.p (.pick (.tmp 48) (.tmp 51) (.c (.bool false)))), 0, []⟩])
(.cond (.tmp 52)
(.seq
(.ops [⟨(some 53), none, (.p (.mv (.tmp 10))), 0, []⟩,
⟨(some 54), none, (.p (.bin .sub (.tmp 53) (.c (.int .u64 1)))), 0, []⟩,
⟨(some 55), none, (.p (.convInt .i64 (.tmp 54))), 0, []⟩,
⟨(some 56), none, (.p (.mkIf 90 (.c (.int .i64 1)))), 0, []⟩,
⟨(some 6), none, (.p (.mv (.tmp 55))), 0, []⟩,
⟨(some 7), none, (.p (.mv (.tmp 56))), 0, []⟩])
.ret)
.skip))
(.seq
(.seq
(.ops [⟨(some 57), none, (.p (.mv (.tmp 8))), 0, []⟩,
⟨(some 58), none, (.p (.mv (.tmp 57))), 0, []⟩,
⟨(some 59), (some (58, true)), (.p (.mv (.tmp 9))), 0, []⟩,
⟨(some 60), (some (58, true)), (.p (.mv (.tmp 10))), 0, []⟩,
⟨(some 61), (some (58, true)), (.p (.bin .gtr (.tmp 59) (.tmp 60))), 0, []⟩,
⟨(some 62), none, (.p (.pick (.tmp 58) (.tmp 61) (.c (.bool false)))), 0, []⟩])
(.cond (.tmp 62)
(.seq
(.ops [⟨(some 63), none, (.p (.mv (.tmp 10))), 0, []⟩,
⟨(some 64), none, (.p (.convInt .i64 (.tmp 63))), 0, []⟩,
⟨(some 65), none, (.p (.un .neg (.tmp 64))), 0, []⟩,
⟨(some 66), none, (.p (.mkIf 90 (.c (.int .i64 1)))), 0, []⟩,
⟨(some 6), none, (.p (.mv (.tmp 65))), 0, []⟩,
⟨(some 7), none, (.p (.mv (.tmp 66))), 0, []⟩])
.ret)
.skip))
(.seq
(.ops [⟨(some 67), none, (.p (.mv (.tmp 9))), 0, []⟩,
⟨(some 68), none, (.p (.convInt .i64 (.tmp 67))), 0, []⟩,
⟨(some 11), none, (.p (.mv (.tmp 68))), 0, []⟩])
(.seq
(.seq
(.ops [⟨(some 69), none, (.p (.mv (.tmp 8))), 0, []⟩])
(.cond (.tmp 69)
(.ops [⟨(some 70), none, (.p (.mv (.tmp 11))), 0, []⟩,
⟨(some 71), none, (.p (.un .neg (.tmp 70))), 0, []⟩,
⟨(some 11), none, (.p (.mv (.tmp 71))), 0, []⟩])
.skip))
(.seq
(.ops [⟨(some 72), none, (.p (.mv (.tmp 11))), 0, []⟩,
⟨(some 6), none, (.p (.mv (.tmp 72))), 0, []⟩,
⟨(some 7), none, (.p (.mv (.c .nilif))), 0, []⟩])
.ret))))))))))))))⟩
theorem c60 : Mir.compF Tryz.prog Tryz.f60 = some g60 := by kernel_rfl
/-- strconv.syntaxError -/
def g61 : Mir.Fn := ⟨11, [(.tmp 4)],
(.seq
(.ops [⟨(some 4), none, (.p (.mv (.c .nilptr))), 0, []⟩])
(.seq
(.draw [⟨(some 5), none, (.p (.mv (.tmp 0))), 0, []⟩,
⟨(some 6), none, (.p (.mv (.tmp 1))), 1, []⟩,
⟨(some 8), none, (.r (.load 1 false (.glob 1))), 3, []⟩,
⟨(some 7), none, (.h (.call (.c (.fn 86 [] [])) [(.tmp 6)])), 2, [3]⟩,
⟨(some 9), none, (.p (.build [(.str []), (.str []), .nilif] [(0, (1, (.tmp 5))), (1, (1, (.tmp 7))), (2, (1, (.tmp 8)))])), 4, []⟩,
⟨(some 10), none, (.a (.box (.tmp 9))), 5, []⟩,
⟨(some 4), none, (.p (.mv (.tmp 10))), 6, []⟩])
.ret))⟩
theorem c61 : Mir.compF Tryz.prog Tryz.f61 = some g61 := by kernel_rfl
/-- strconv.rangeError -/
def g62 : Mir.Fn := ⟨11, [(.tmp 4)],
(.seq
(.ops [⟨(some 4), none, (.p (.mv (.c .nilptr))), 0, []⟩])
(.seq
(.draw [⟨(some 5), none, (.p (.mv (.tmp 0))), 0, []⟩,
⟨(some 6), none, (.p (.mv (.tmp 1))), 1, []⟩,
⟨(some 8), none, (.r (.load 1 false (.glob 2))), 3, []⟩,
⟨(some 7), none, (.h (.call (.c (.fn 86 [] [])) [(.tmp 6)])), 2, [3]⟩,
⟨(some 9), none, (.p (.build [(.str []), (.str []), .nilif] [(0, (1, (.tmp 5))), (1, (1, (.tmp 7))), (2, (1, (.tmp 8)))])), 4, []⟩,
⟨(some 10), none, (.a (.box (.tmp 9))), 5, []⟩,
⟨(some 4), none, (.p (.mv (.tmp 10))), 6, []⟩])
.ret))⟩
theorem c62 : Mir.compF Tryz.prog Tryz.f62 = some g62 := by kernel_rfl
/-- slices.insertionSortOrdered[string] -/
def g65 : Mir.Fn := ⟨49, [],
(.seq
(.ops [⟨(some 8), none, (.p (.mv (.tmp 1))), 0, []⟩,
⟨(some 9), none, (.p (.bin .add (.tmp 8) (.c (.int .i64 1)))), 0, []⟩,
⟨(some 6), none, (.p (.mv (.tmp 9))), 0, []⟩])
(.block 0 (.loop (.seq
(.seq
(.ops [⟨(some 10), none, (.p (.mv (.tmp 6))), 0, []⟩,
⟨(some 11), none, (.p (.mv (.tmp 2))), 0, []⟩,
⟨(some 12), none, (.p (.bin .lss (.tmp 10) (.tmp 11))), 0, []⟩])
(.cond (.tmp 12)
.skip
(.exit 0)))
(.seq
(.block 1 (.seq
(.ops [⟨(some 15), none, (.p (.mv (.tmp 6))), 0, []⟩,
⟨(some 7), none, (.p (.mv (.tmp 15))), 0, []⟩])
(.block 2 (.loop (.seq
(.seq
(.draw [⟨(some 16), none, (.p (.mv (.tmp 7))), 0, []⟩,
⟨(some 17), none, (.p (.mv (.tmp 1))), 1, []⟩,
⟨(some 18), none, (.p (.bin .gtr (.tmp 16) (.tmp 17))), 2, []⟩,
⟨(some 19), none, (.p (.mv (.tmp 18))), 3, []⟩,
⟨(some 20), (some (19, true)), (.p (.mv (.tmp 0))), 4, []⟩,
⟨(some 21), (some (19, true)), (.p (.mv (.tmp 7))), 5, []⟩,
⟨(some 22), (some (19, true)), (.p (.idxSl 1 (.tmp 20) (.tmp 21))), 6, []⟩,
⟨(some 23), (some (19, true)), (.r (.load 1 false (.tmp 22))), 7, []⟩,
⟨(some 24), (some (19, true)), (.p (.mv (.tmp 0))), 8, []⟩,
⟨(some 25), (some (19, true)), (.p (.mv (.tmp 7))), 9, []⟩,
⟨(some 26), (some (19, true)), (.p (.bin .sub (.tmp 25) (.c (.int .i64 1)))), 10, []⟩,
⟨(some 27), (some (19, true)), (.p (.idxSl 1 (.tmp 24) (.tmp 26))), 11, []⟩,
⟨(some 28), (some (19, true)), (.r (.load 1 false (.tmp 27))), 12, []⟩,
⟨(some 29), (some (19, true)), (.h (.call (.c (.fn 71 [] [])) [(.tmp 23), (.tmp 28)])), 13, []⟩,
⟨(some 30), none, (.p (.pick (.tmp 19) (.tmp 29) (.c (.bool false)))), 14, []⟩])
(.cond (.tmp 30)
.skip
(.exit 2)))
(.seq
(.block 3 (.draw [⟨(some 33), none, (.p (.mv (.tmp 0))), 0, []⟩,
⟨(some 34), none, (.p (.mv (.tmp 7))), 1, []⟩,
⟨(some 35), none, (.p (.mv (.tmp 0))), 2, []⟩,
⟨(some 36), none, (.p (.mv (.tmp 7))), 3, []⟩,
⟨(some 37), none, (.p (.bin .sub (.tmp 36) (.c (.int .i64 1)))), 4, []⟩,
⟨(some 38), none, (.p (.mv (.tmp 0))), 5, []⟩,
⟨(some 39), none, (.p (.mv (.tmp 7))), 6, []⟩,
⟨(some 40), none, (.p (.bin .sub (.tmp 39) (.c (.int .i64 1)))), 7, []⟩,
⟨(some 41), none, (.p (.idxSl 1 (.tmp 38) (.tmp 40))), 8, []⟩,
⟨(some 42), none, (.r (.load 1 false (.tmp 41))), 9, []⟩,
⟨(some 43), none, (.p (.mv (.tmp 0))), 10, []⟩,
⟨(some 44), none, (.p (.mv (.tmp 7))), 11, []⟩,
⟨(some 45), none, (.p (.idxSl 1 (.tmp 43) (.tmp 44))), 12, []⟩,
⟨(some 46), none, (.r (.load 1 false (.tmp 45))), 13, []⟩,
⟨(some 47), none, (.p (.idxSl 1 (.tmp 33) (.tmp 34))), 14, []⟩,
⟨none, none, (.h (.store 1 (.tmp 47) (.tmp 42))), 15, []⟩,
⟨(some 48), none, (.p (.idxSl 1 (.tmp 35) (.tmp 37))), 16, []⟩,
⟨none, none, (.h (.store 1 (.tmp 48) (.tmp 46))), 17, []⟩]))
(.ops [⟨(some 31), none, (.p (.mv (.tmp 7))), 0, []⟩,
⟨(some 32), none, (.p (.bin .sub (.tmp 31) (.c (.int .i64 1)))), 0, []⟩,
⟨(some 7), none, (.p (.mv (.tmp 32))), 0, []⟩])))))))
(.ops [⟨(some 13), none, (.p (.mv (.tmp 6))), 0, []⟩,
⟨(some 14), none, (.p (.bin .add (.tmp 13) (.c (.int .i64 1)))), 0, []⟩,
⟨(some 6), none, (.p (.mv (.tmp 14))), 0, []⟩]))))))⟩
theorem c65 : Mir.compF Tryz.prog Tryz.f65 = some g65 := by kernel_rfl
/-- cmp.Less[string] -/
def g71 : Mir.Fn := ⟨17, [(.tmp 4)],
(.seq
(.ops [⟨(some 4), none, (.p (.mv (.c (.bool false)))), 0, []⟩])
(.seq
(.ops [⟨(some 5), none, (.p (.mv (.tmp 0))), 0, []⟩,
⟨(some 6), none, (.h (.call (.c (.fn 93 [] [])) [(.tmp 5)])), 0, []⟩,
⟨(some 7), none, (.p (.mv (.tmp 6))), 0, []⟩,
⟨(some 8), (some (7, true)), (.p (.mv (.tmp 1))), 0, []⟩,
⟨(some 9), (some (7, true)), (.h (.call (.c (.fn 93 [] [])) [(.tmp 8)])), 0, []⟩,
⟨(some 10), (some (7, true)), (.p (.un .not (.tmp 9))), 0, []⟩,
⟨(some 11), none, (.p (.pick (.tmp 7) (.tmp 10) (.c (.bool false)))), 0, []⟩,
⟨(some 12), none, (.p (.mv (.tmp 11))), 0, []⟩,
⟨(some 13), (some (12, false)), (.p (.mv (.tmp 0))), 0, []⟩,
⟨(some 14), (some (12, false)), (.p (.mv (.tmp 1))), 0, []⟩,
⟨(some 15), (some (12, false)), (.p (.bin .lss (.tmp 13) (.tmp 14))), 0, []⟩,
⟨(some 16), none, (.p (.pick (.tmp 12) (.c (.bool true)) (.tmp 15))), 0, []⟩,
⟨(some 4), none, (.p (.mv (.tmp 16))), 0, []⟩])
.ret))⟩
theorem c71 : Mir.compF Tryz.prog Tryz.f71 = some g71 := by kernel_rfl
/-- math/bits.Len64 -/
def g75 : Mir.Fn := ⟨25, [(.tmp 2)],
(.seq
(.ops [⟨(some 2), none, (.p (.mv (.c (.int .i64 0)))), 0, []⟩])
(.seq
(.seq
(.ops [⟨(some 3), none, (.p (.mv (.tmp 0))), 0, []⟩,
⟨(some 4), none, (.p (.bin .geq (.tmp 3) (.c (.int .u64 4294967296)))), 0, []⟩])
(.cond (.tmp 4)
(.seq
(.ops [⟨(some 5), none, (.p (.mv (.tmp 0))), 0, []⟩,
⟨(some 6), none, (.p (.bin .shr (.tmp 5) (.c (.int .u64 32)))), 0, []⟩,
⟨(some 0), none, (.p (.mv (.tmp 6))), 0, []⟩])
(.ops [⟨(some 2), none, (.p (.mv (.c (.int .i64 32)))), 0, []⟩]))
.skip))
(.seq
(.seq
(.ops [⟨(some 7), none, (.p (.mv (.tmp 0))), 0, []⟩,
⟨(some 8), none, (.p (.bin .geq (.tmp 7) (.c (.int .u64 65536)))), 0, []⟩])
(.cond (.tmp 8)
(.seq
(.ops [⟨(some 9), none, (.p (.mv (.tmp 0))), 0, []⟩,
⟨(some 10), none, (.p (.bin .shr (.tmp 9) (.c (.int .u64 16)))), 0, []⟩,
⟨(some 0), none, (.p (.mv (.tmp 10))), 0, []⟩])
(.ops [⟨(some 11), none, (.p (.mv (.tmp 2))), 0, []⟩,
⟨(some 12), none, (.p (.bin .add (.tmp 11) (.c (.int .i64 16)))), 0, []⟩,
⟨(some 2), none, (.p (.mv (.tmp 12))), 0, []⟩]))
.skip))
(.seq
(.seq
(.ops [⟨(some 13), none, (.p (.mv (.tmp 0))), 0, []⟩,
⟨(some 14), none, (.p (.bin .geq (.tmp 13) (.c (.int .u64 256)))), 0, []⟩])
(.cond (.tmp 14)
(.seq
(.ops [⟨(some 15), none, (.p (.mv (.tmp 0))), 0, []⟩,
⟨(some 16), none, (.p (.bin .shr (.tmp 15) (.c (.int .u64 8)))), 0, []⟩,
⟨(some 0), none, (.p (.mv (.tmp 16))), 0, []⟩])
(.ops [⟨(some 17), none, (.p (.mv (.tmp 2))), 0, []⟩,
⟨(some 18), none, (.p (.bin .add (.tmp 17) (.c (.int .i64 8)))), 0, []⟩,
⟨(some 2), none, (.p (.mv (.tmp 18))), 0, []⟩]))
.skip))
(.seq
(.ops [⟨(some 19), none, (.p (.mv (.tmp 2))), 0, []⟩,
⟨(some 20), none, (.p (.mv (.tmp 0))), 0, []⟩,
⟨(some 21), none, (.p (.convInt .u8 (.tmp 20))), 0, []⟩,
⟨(some 22), none, (.p (.idxStr (.c (.str [0, 1, 2, 2, 3, 3, 3, 3, 4, 4, 4, 4, 4, 4, 4, 4, 5, 5, 5, 5, 5, 5, 5, 5, 5, 5, 5, 5, 5, 5, 5, 5, 6, 6, 6, 6, 6, 6, 6, 6, 6, 6, 6, 6, 6, 6, 6, 6, 6, 6, 6, 6, 6, 6, 6, 6, 6, 6, 6, 6, 6, 6, 6, 6, 7, 7, 7, 7, 7, 7, 7, 7, 7, 7, 7, 7, 7, 7, 7, 7, 7, 7, 7, 7, 7, 7, 7, 7, 7, 7, 7, 7, 7, 7, 7, 7, 7, 7, 7, 7, 7, 7, 7, 7, 7, 7, 7, 7, 7, 7, 7, 7, 7, 7, 7, 7, 7, 7, 7, 7, 7, 7, 7, 7, 7, 7, 7, 7, 8, 8, 8, 8, 8, 8, 8, 8, 8, 8, 8, 8, 8, 8, 8, 8, 8, 8, 8, 8, 8, 8, 8, 8, 8, 8, 8, 8, 8, 8, 8, 8, 8, 8, 8, 8, 8, 8, 8, 8, 8, 8, 8, 8, 8, 8, 8, 8, 8, 8, 8, 8, 8, 8, 8, 8, 8, 8, 8, 8, 8, 8, 8, 8, 8, 8, 8, 8, 8, 8, 8, 8, 8, 8, 8, 8, 8, 8, 8, 8, 8, 8, 8, 8, 8, 8, 8, 8, 8, 8, 8, 8, 8, 8, 8, 8, 8, 8, 8, 8, 8, 8, 8, 8, 8, 8, 8, 8, 8, 8, 8, 8, 8, 8, 8, 8, 8, 8, 8, 8, 8, 8, 8, 8, 8, 8, 8, 8])) (.tmp 21))), 0, []⟩,
⟨(some 23), none, (.p (.convInt .i64 (.tmp 22))), 0, []⟩,
⟨(some 24), none, (.p (.bin .add (.tmp 19) (.tmp 23))), 0, []⟩,
⟨(some 2), none, (.p (.mv (.tmp 24))), 0, []⟩])
.ret)))))⟩
theorem c75 : Mir.compF Tryz.prog Tryz.f75 = some g75 := by kernel_rfl
/-- strings.indexFunc -/
def g76 : Mir.Fn := ⟨21, [(.tmp 6)],
(.seq
(.ops [⟨(some 6), none, (.p (.mv (.c (.int .i64 0)))), 0, []⟩])
(.seq
(.seq
(.ops [⟨(some 9), none, (.p (.mv (.tmp 0))), 0, []⟩,
⟨(some 10), none, (.h (.rangeStr (.tmp 9))), 0, []⟩])
(.block 0 (.loop (.seq
(.ops [⟨(some 11), none, (.h (.nextStr (.tmp 10))), 0, []⟩,
⟨(some 12), none, (.p (.ext (.tmp 11) 0)), 0, []⟩])
(.seq
(.cond (.tmp 12)
.skip
(.exit 0))
(.block 1 (.seq
(.ops [⟨(some 13), none, (.p (.ext (.tmp 11) 1)), 0, []⟩,
⟨(some 14), none, (.p (.ext (.tmp 11) 2)), 0, []⟩,
⟨(some 7), none, (.p (.mv (.tmp 13))), 0, []⟩,
⟨(some 8), none, (.p (.mv (.tmp 14))), 0, []⟩])
(.seq
(.ops [⟨(some 15), none, (.p (.mv (.tmp 1))), 0, []⟩,
⟨(some 16), none, (.p (.mv (.tmp 8))), 0, []⟩,
⟨(some 17), none, (.h (.call (.tmp 15) [(.tmp 16)])), 0, []⟩,
⟨(some 18), none, (.p (.mv (.tmp 2))), 0, []⟩,
⟨(some 19), none, (.p (.eq .bool false (.tmp 17) (.tmp 18))), 0, []⟩])
(.cond (.tmp 19)
(.seq
(.ops [⟨(some 20), none, (.p (.mv (.tmp 7))), 0, []⟩,
⟨(some 6), none, (.p (.mv (.tmp 20))), 0, []⟩])
.ret)
.skip)))))))))
(.seq
(.ops [⟨(some 6), none, (.p (.mv (.c (.int .i64 (-1))))), 0, []⟩])
.ret)))⟩
theorem c76 : Mir.compF Tryz.prog Tryz.f76 = some g76 := by kernel_rfl
/-- internal/strconv.small -/
def g77 : Mir.Fn := ⟨15, [(.tmp 2)],
(.seq
(.ops [⟨(some 2), none, (.p (.mv (.c (.str [])))), 0, []⟩])
(.seq
(.seq
(.ops [⟨(some 3), none, (.p (.mv (.tmp 0))), 0, []⟩,
⟨(some 4), none, (.p (.bin .lss (.tmp 3) (.c (.int .i64 10)))), 0, []⟩])
(.cond (.tmp 4)
(.seq
(.ops [⟨(some 5), none, (.p (.mv (.tmp 0))), 0, []⟩,
⟨(some 6), none, (.p (.mv (.tmp 0))), 0, []⟩,
⟨(some 7), none, (.p (.bin .add (.tmp 6) (.c (.int .i64 1)))), 0, []⟩,
⟨(some 8), none, (.p (.subStr (.c (.str [48, 49, 50, 51, 52, 53, 54, 55, 56, 57, 97, 98, 99, 100, 101, 102, 103, 104, 105, 106, 107, 108, 109, 110, 111, 112, 113, 114, 115, 116, 117, 118, 119, 120, 121, 122])) (some (.tmp 5)) (some (.tmp 7)))), 0, []⟩,
⟨(some 2), none, (.p (.mv (.tmp 8))), 0, []⟩])
.ret)
.skip))
(.seq
(.ops [⟨(some 9), none, (.p (.mv (.tmp 0))), 0, []⟩,
⟨(some 10), none, (.p (.bin .mul (.tmp 9) (.c (.int .i64 2)))), 0, []⟩,
⟨(some 11), none, (.p (.mv (.tmp 0))), 0, []⟩,
⟨(some 12), none, (.p (.bin .mul (.tmp 11) (.c (.int .i64 2)))), 0, []⟩,
⟨(some 13), none, (.p (.bin .add (.tmp 12) (.c (.int .i64 2)))), 0, []⟩,
⟨(some 14), none, (.p (.subStr (.c (.str [48, 48, 48, 49, 48, 50, 48, 51, 48, 52, 48, 53, 48, 54, 48, 55, 48, 56, 48, 57, 49, 48, 49, 49, 49, 50, 49, 51, 49, 52, 49, 53, 49, 54, 49, 55, 49, 56, 49, 57, 50, 48, 50, 49, 50, 50, 50, 51, 50, 52, 50, 53, 50, 54, 50, 55, 50, 56, 50, 57, 51, 48, 51, 49, 51, 50, 51, 51, 51, 52, 51, 53, 51, 54, 51, 55, 51, 56, 51, 57, 52, 48, 52, 49, 52, 50, 52, 51, 52, 52, 52, 53, 52, 54, 52, 55, 52, 56, 52, 57, 53, 48, 53, 49, 53, 50, 53, 51, 53, 52, 53, 53, 53, 54, 53, 55, 53, 56, 53, 57, 54, 48, 54, 49, 54, 50, 54, 51, 54, 52, 54, 53, 54, 54, 54, 55, 54, 56, 54, 57, 55, 48, 55, 49, 55, 50, 55, 51, 55, 52, 55, 53, 55, 54, 55, 55, 55, 56, 55, 57, 56, 48, 56, 49, 56, 50, 56, 51, 56, 52, 56, 53, 56, 54, 56, 55, 56, 56, 56, 57, 57, 48, 57, 49, 57, 50, 57, 51, 57, 52, 57, 53, 57, 54, 57, 55, 57, 56, 57, 57])) (some (.tmp 10)) (some (.tmp 13)))), 0, []⟩,
⟨(some 2), none, (.p (.mv (.tmp 14))), 0, []⟩])
.ret)))⟩
theorem c77 : Mir.compF Tryz.prog Tryz.f77 = some g77 := by kernel_rfl
/-- internal/strconv.numDigits -/
def g78 : Mir.Fn := ⟨15, [(.tmp 2)],
(.seq
(.ops [⟨(some 2), none, (.p (.mv (.c (.int .i64 0)))), 0, []⟩])
(.seq
(.ops [⟨(some 4), none, (.p (.mv (.tmp 0))), 0, []⟩,
⟨(some 5), none, (.h (.call (.c (.fn 75 [] [])) [(.tmp 4)])), 0, []⟩,
⟨(some 6), none, (.h (.call (.c (.fn 94 [] [])) [(.tmp 5)])), 0, []⟩,
⟨(some 3), none, (.p (.mv (.tmp 6))), 0, []⟩])
(.seq
(.ops [⟨(some 7), none, (.p (.mv (.tmp 3))), 0, []⟩,
⟨(some 8), none, (.p (.mv (.tmp 0))), 0, []⟩,
⟨(some 9), none, (.p (.mv (.tmp 3))), 0, []⟩,
⟨(some 10), none, (.p (.idxArr 20 1 (.glob 3) (.tmp 9))), 0, []⟩,
⟨(some 11), none, (.r (.load 1 false (.tmp 10))), 0, []⟩,
⟨(some 12), none, (.p (.bin .geq (.tmp 8) (.tmp 11))), 0, []⟩,
⟨(some 13), none, (.h (.call (.c (.fn 95 [] [])) [(.tmp 12)])), 0, []⟩,
⟨(some 14), none, (.p (.bin .add (.tmp 7) (.tmp 13))), 0, []⟩,
⟨(some 2), none, (.p (.mv (.tmp 14))), 0, []⟩])
.ret)))⟩
theorem c78 : Mir.compF Tryz.prog Tryz.f78 = some g78 := by kernel_rfl
/-- internal/strconv.formatBase10 -/
def g79 : Mir.Fn := ⟨167, [],
(.seq
(.ops [⟨(some 17), none, (.p (.mv (.tmp 0))), 0, []⟩,
⟨(some 18), none, (.p (.lenSl (.tmp 17))), 0, []⟩,
⟨(some 4), none, (.p (.mv (.tmp 18))), 0, []⟩])
(.seq
(.block 0 (.loop (.seq
(.seq
(.ops [⟨(some 19), none, (.p (.mv (.tmp 4))), 0, []⟩,
⟨(some 20), none, (.p (.bin .geq (.tmp 19) (.c (.int .i64 8)))), 0, []⟩])
(.cond (.tmp 20)
.skip
(.exit 0)))
(.block 1 (.seq
(.ops [⟨(some 21), none, (.p (.mv (.tmp 1))), 0, []⟩,
⟨(some 22), none, (.p (.bin .rem (.tmp 21) (.c (.int .u64 100000000)))), 0, []⟩,
⟨(some 23), none, (.p (.convInt .u32 (.tmp 22))), 0, []⟩,
⟨(some 5), none, (.p (.mv (.tmp 23))), 0, []⟩])
(.seq
(.ops [⟨(some 24), none, (.p (.mv (.tmp 1))), 0, []⟩,
⟨(some 25), none, (.p (.bin .quo (.tmp 24) (.c (.int .u64 100000000)))), 0, []⟩,
⟨(some 1), none, (.p (.mv (.tmp 25))), 0, []⟩])
(.seq
(.ops [⟨(some 26), none, (.p (.mv (.tmp 5))), 0, []⟩,
⟨(some 27), none, (.p (.bin .quo (.tmp 26) (.c (.int .u32 10000)))), 0, []⟩,
⟨(some 28), none, (.p (.mv (.tmp 5))), 0, []⟩,
⟨(some 29), none, (.p (.bin .rem (.tmp 28) (.c (.int .u32 10000)))), 0, []⟩,
⟨(some 6), none, (.p (.mv (.tmp 27))), 0, []⟩,
⟨(some 7), none, (.p (.mv (.tmp 29))), 0, []⟩])
(.seq
(.ops [⟨(some 30), none, (.p (.mv (.tmp 7))), 0, []⟩,
⟨(some 31), none, (.p (.bin .quo (.tmp 30) (.c (.int .u32 100)))), 0, []⟩,
⟨(some 32), none, (.p (.bin .mul (.tmp 31) (.c (.int .u32 2)))), 0, []⟩,
⟨(some 33), none, (.p (.mv (.tmp 7))), 0, []⟩,
⟨(some 34), none, (.p (.bin .rem (.tmp 33) (.c (.int .u32 100)))), 0, []⟩,
⟨(some 35), none, (.p (.bin .mul (.tmp 34) (.c (.int .u32 2)))), 0, []⟩,
⟨(some 8), none, (.p (.mv (.tmp 32))), 0, []⟩,
⟨(some 9), none, (.p (.mv (.tmp 35))), 0, []⟩])
(.seq
(.ops [⟨(some 36), none, (.p (.mv (.tmp 6))), 0, []⟩,
⟨(some 37), none, (.p (.bin .quo (.tmp 36) (.c (.int .u32 100)))), 0, []⟩,
⟨(some 38), none, (.p (.bin .mul (.tmp 37) (.c (.int .u32 2)))), 0, []⟩,
⟨(some 39), none, (.p (.mv (.tmp 6))), 0, []⟩,
⟨(some 40), none, (.p (.bin .rem (.tmp 39) (.c (.int .u32 100)))), 0, []⟩,
⟨(some 41), none, (.p (.bin .mul (.tmp 40) (.c (.int .u32 2)))), 0, []⟩,
⟨(some 10), none, (.p (.mv (.tmp 38))), 0, []⟩,
⟨(some 11), none, (.p (.mv (.tmp 41))), 0, []⟩])
(.seq
(.draw [⟨(some 42), none, (.p (.mv (.tmp 0))), 0, []⟩,
⟨(some 43), none, (.p (.mv (.tmp 4))), 1, []⟩,
⟨(some 44), none, (.p (.bin .sub (.tmp 43) (.c (.int .i64 1)))), 2, []⟩,
⟨(some 45), none, (.p (.mv (.tmp 0))), 3, []⟩,
⟨(some 46), none, (.p (.mv (.tmp 4))), 4, []⟩,
⟨(some 47), none, (.p (.bin .sub (.tmp 46) (.c (.int .i64 2)))), 5, []⟩,
⟨(some 48), none, (.p (.mv (.tmp 9))), 6, []⟩,
⟨(some 49), none, (.p (.bin .add (.tmp 48) (.c (.int .u32 1)))), 7, []⟩,
⟨(some 50), none, (.p (.idxStr (.c (.str [48, 48, 48, 49, 48, 50, 48, 51, 48, 52, 48, 53, 48, 54, 48, 55, 48, 56, 48, 57, 49, 48, 49, 49, 49, 50, 49, 51, 49, 52, 49, 53, 49, 54, 49, 55, 49, 56, 49, 57, 50, 48, 50, 49, 50, 50, 50, 51, 50, 52, 50, 53, 50, 54, 50, 55, 50, 56, 50, 57, 51, 48, 51, 49, 51, 50, 51, 51, 51, 52, 51, 53, 51, 54, 51, 55, 51, 56, 51, 57, 52, 48, 52, 49, 52, 50, 52, 51, 52, 52, 52, 53, 52, 54, 52, 55, 52, 56, 52, 57, 53, 48, 53, 49, 53, 50, 53, 51, 53, 52, 53, 53, 53, 54, 53, 55, 53, 56, 53, 57, 54, 48, 54, 49, 54, 50, 54, 51, 54, 52, 54, 53, 54, 54, 54, 55, 54, 56, 54, 57, 55, 48, 55, 49, 55, 50, 55, 51, 55, 52, 55, 53, 55, 54, 55, 55, 55, 56, 55, 57, 56, 48, 56, 49, 56, 50, 56, 51, 56, 52, 56, 53, 56, 54, 56, 55, 56, 56, 56, 57, 57, 48, 57, 49, 57, 50, 57, 51, 57, 52, 57, 53, 57, 54, 57, 55, 57, 56, 57, 57])) (.tmp 49))), 8, []⟩,
⟨(some 51), none, (.p (.mv (.tmp 9))), 9, []⟩,
⟨(some 52), none, (.p (.idxStr (.c (.str [48, 48, 48, 49, 48, 50, 48, 51, 48, 52, 48, 53, 48, 54, 48, 55, 48, 56, 48, 57, 49, 48, 49, 49, 49, 50, 49, 51, 49, 52, 49, 53, 49, 54, 49, 55, 49, 56, 49, 57, 50, 48, 50, 49, 50, 50, 50, 51, 50, 52, 50, 53, 50, 54, 50, 55, 50, 56, 50, 57, 51, 48, 51, 49, 51, 50, 51, 51, 51, 52, 51, 53, 51, 54, 51, 55, 51, 56, 51, 57, 52, 48, 52, 49, 52, 50, 52, 51, 52, 52, 52, 53, 52, 54, 52, 55, 52, 56, 52, 57, 53, 48, 53, 49, 53, 50, 53, 51, 53, 52, 53, 53, 53, 54, 53, 55, 53, 56, 53, 57, 54, 48, 54, 49, 54, 50, 54, 51, 54, 52, 54, 53, 54, 54, 54, 55, 54, 56, 54, 57, 55, 48, 55, 49, 55, 50, 55, 51, 55, 52, 55, 53, 55, 54, 55, 55, 55, 56, 55, 57, 56, 48, 56, 49, 56, 50, 56, 51, 56, 52, 56, 53, 56, 54, 56, 55, 56, 56, 56, 57, 57, 48, 57, 49, 57, 50, 57, 51, 57, 52, 57, 53, 57, 54, 57, 55, 57, 56, 57, 57])) (.tmp 51))), 10, []⟩,
⟨(some 53), none, (.p (.idxSl 1 (.tmp 42) (.tmp 44))), 11, []⟩,
⟨none, none, (.h (.store 1 (.tmp 53) (.tmp 50))), 12, []⟩,
⟨(some 54), none, (.p (.idxSl 1 (.tmp 45) (.tmp 47))), 13, []⟩,
⟨none, none, (.h (.store 1 (.tmp 54) (.tmp 52))), 14, []⟩])
(.seq
(.draw [⟨(some 55), none, (.p (.mv (.tmp 0))), 0, []⟩,
⟨(some 56), none, (.p (.mv (.tmp 4))), 1, []⟩,
⟨(some 57), none, (.p (.bin .sub (.tmp 56) (.c (.int .i64 3)))), 2, []⟩,
⟨(some 58), none, (.p (.mv (.tmp 0))), 3, []⟩,
⟨(some 59), none, (.p (.mv (.tmp 4))), 4, []⟩,
⟨(some 60), none, (.p (.bin .sub (.tmp 59) (.c (.int .i64 4)))), 5, []⟩,
⟨(some 61), none, (.p (.mv (.tmp 8))), 6, []⟩,
⟨(some 62), none, (.p (.bin .add (.tmp 61) (.c (.int .u32 1)))), 7, []⟩,
⟨(some 63), none, (.p (.idxStr (.c (.str [48, 48, 48, 49, 48, 50, 48, 51, 48, 52, 48, 53, 48, 54, 48, 55, 48, 56, 48, 57, 49, 48, 49, 49, 49, 50, 49, 51, 49, 52, 49, 53, 49, 54, 49, 55, 49, 56, 49, 57, 50, 48, 50, 49, 50, 50, 50, 51, 50, 52, 50, 53, 50, 54, 50, 55, 50, 56, 50, 57, 51, 48, 51, 49, 51, 50, 51, 51, 51, 52, 51, 53, 51, 54, 51, 55, 51, 56, 51, 57, 52, 48, 52, 49, 52, 50, 52, 51, 52, 52, 52, 53, 52, 54, 52, 55, 52, 56, 52, 57, 53, 48, 53, 49, 53, 50, 53, 51, 53, 52, 53, 53, 53, 54, 53, 55, 53, 56, 53, 57, 54, 48, 54, 49, 54, 50, 54, 51, 54, 52, 54, 53, 54, 54, 54, 55, 54, 56, 54, 57, 55, 48, 55, 49, 55, 50, 55, 51, 55, 52, 55, 53, 55, 54, 55, 55, 55, 56, 55, 57, 56, 48, 56, 49, 56, 50, 56, 51, 56, 52, 56, 53, 56, 54, 56, 55, 56, 56, 56, 57, 57, 48, 57, 49, 57, 50, 57, 51, 57, 52, 57, 53, 57, 54, 57, 55, 57, 56, 57, 57])) (.tmp 62))), 8, []⟩,
⟨(some 64), none, (.p (.mv (.tmp 8))), 9, []⟩,
⟨(some 65), none, (.p (.idxStr (.c (.str [48, 48, 48, 49, 48, 50, 48, 51, 48, 52, 48, 53, 48, 54, 48, 55, 48, 56, 48, 57, 49, 48, 49, 49, 49, 50, 49, 51, 49, 52, 49, 53, 49, 54, 49, 55, 49, 56, 49, 57, 50, 48, 50, 49, 50, 50, 50, 51, 50, 52, 50, 53, 50, 54, 50, 55, 50, 56, 50, 57, 51, 48, 51, 49, 51, 50, 51, 51, 51, 52, 51, 53, 51, 54, 51, 55, 51, 56, 51, 57, 52, 48, 52, 49, 52, 50, 52, 51, 52, 52, 52, 53, 52, 54, 52, 55, 52, 56, 52, 57, 53, 48, 53, 49, 53, 50, 53, 51, 53, 52, 53, 53, 53, 54, 53, 55, 53, 56, 53, 57, 54, 48, 54, 49, 54, 50, 54, 51, 54, 52, 54, 53, 54, 54, 54, 55, 54, 56, 54, 57, 55, 48, 55, 49, 55, 50, 55, 51, 55, 52, 55, 53, 55, 54, 55, 55, 55, 56, 55, 57, 56, 48, 56, 49, 56, 50, 56, 51, 56, 52, 56, 53, 56, 54, 56, 55, 56, 56, 56, 57, 57, 48, 57, 49, 57, 50, 57, 51, 57, 52, 57, 53, 57, 54, 57, 55, 57, 56, 57, 57])) (.tmp 64))), 10, []⟩,
⟨(some 66), none, (.p (.idxSl 1 (.tmp 55) (.tmp 57))), 11, []⟩,
⟨none, none, (.h (.store 1 (.tmp 66) (.tmp 63))), 12, []⟩,
⟨(some 67), none, (.p (.idxSl 1 (.tmp 58) (.tmp 60))), 13, []⟩,
⟨none, none, (.h (.store 1 (.tmp 67) (.tmp 65))), 14, []⟩])
(.seq
(.draw [⟨(some 68), none, (.p (.mv (.tmp 0))), 0, []⟩,
⟨(some 69), none, (.p (.mv (.tmp 4))), 1, []⟩,
⟨(some 70), none, (.p (.bin .sub (.tmp 69) (.c (.int .i64 5)))), 2, []⟩,
⟨(some 71), none, (.p (.mv (.tmp 0))), 3, []⟩,
⟨(some 72), none, (.p (.mv (.tmp 4))), 4, []⟩,
⟨(some 73), none, (.p (.bin .sub (.tmp 72) (.c (.int .i64 6)))), 5, []⟩,
⟨(some 74), none, (.p (.mv (.tmp 11))), 6, []⟩,
⟨(some 75), none, (.p (.bin .add (.tmp 74) (.c (.int .u32 1)))), 7, []⟩,
⟨(some 76), none, (.p (.idxStr (.c (.str [48, 48, 48, 49, 48, 50, 48, 51, 48, 52, 48, 53, 48, 54, 48, 55, 48, 56, 48, 57, 49, 48, 49, 49, 49, 50, 49, 51, 49, 52, 49, 53, 49, 54, 49, 55, 49, 56, 49, 57, 50, 48, 50, 49, 50, 50, 50, 51, 50, 52, 50, 53, 50, 54, 50, 55, 50, 56, 50, 57, 51, 48, 51, 49, 51, 50, 51, 51, 51, 52, 51, 53, 51, 54, 51, 55, 51, 56, 51, 57, 52, 48, 52, 49, 52, 50, 52, 51, 52, 52, 52, 53, 52, 54, 52, 55, 52, 56, 52, 57, 53, 48, 53, 49, 53, 50, 53, 51, 53, 52, 53, 53, 53, 54, 53, 55, 53, 56, 53, 57, 54, 48, 54, 49, 54, 50, 54, 51, 54, 52, 54, 53, 54, 54, 54, 55, 54, 56, 54, 57, 55, 48, 55, 49, 55, 50, 55, 51, 55, 52, 55, 53, 55, 54, 55, 55, 55, 56, 55, 57, 56, 48, 56, 49, 56, 50, 56, 51, 56, 52, 56, 53, 56, 54, 56, 55, 56, 56, 56, 57, 57, 48, 57, 49, 57, 50, 57, 51, 57, 52, 57, 53, 57, 54, 57, 55, 57, 56, 57, 57])) (.tmp 75))), 8, []⟩,
⟨(some 77), none, (.p (.mv (.tmp 11))), 9, []⟩,
⟨(some 78), none, (.p (.idxStr (.c (.str [48, 48, 48, 49, 48, 50, 48, 51, 48, 52, 48, 53, 48, 54, 48, 55, 48, 56, 48, 57, 49, 48, 49, 49, 49, 50, 49, 51, 49, 52, 49, 53, 49, 54, 49, 55, 49, 56, 49, 57, 50, 48, 50, 49, 50, 50, 50, 51, 50, 52, 50, 53, 50, 54, 50, 55, 50, 56, 50, 57, 51, 48, 51, 49, 51, 50, 51, 51, 51, 52, 51, 53, 51, 54, 51, 55, 51, 56, 51, 57, 52, 48, 52, 49, 52, 50, 52, 51, 52, 52, 52, 53, 52, 54, 52, 55, 52, 56, 52, 57, 53, 48, 53, 49, 53, 50, 53, 51, 53, 52, 53, 53, 53, 54, 53, 55, 53, 56, 53, 57, 54, 48, 54, 49, 54, 50, 54, 51, 54, 52, 54, 53, 54, 54, 54, 55, 54, 56, 54, 57, 55, 48, 55, 49, 55, 50, 55, 51, 55, 52, 55, 53, 55, 54, 55, 55, 55, 56, 55, 57, 56, 48, 56, 49, 56, 50, 56, 51, 56, 52, 56, 53, 56, 54, 56, 55, 56, 56, 56, 57, 57, 48, 57, 49, 57, 50, 57, 51, 57, 52, 57, 53, 57, 54, 57, 55, 57, 56, 57, 57])) (.tmp 77))), 10, []⟩,
⟨(some 79), none, (.p (.idxSl 1 (.tmp 68) (.tmp 70))), 11, []⟩,
⟨none, none, (.h (.store 1 (.tmp 79) (.tmp 76))), 12, []⟩,
⟨(some 80), none, (.p (.idxSl 1 (.tmp 71) (.tmp 73))), 13, []⟩,
⟨none, none, (.h (.store 1 (.tmp 80) (.tmp 78))), 14, []⟩])
(.seq
(.draw [⟨(some 81), none, (.p (.mv (.tmp 0))), 0, []⟩,
⟨(some 82), none, (.p (.mv (.tmp 4))), 1, []⟩,
⟨(some 83), none, (.p (.bin .sub (.tmp 82) (.c (.int .i64 7)))), 2, []⟩,
⟨(some 84), none, (.p (.mv (.tmp 0))), 3, []⟩,
⟨(some 85), none, (.p (.mv (.tmp 4))), 4, []⟩,
⟨(some 86), none, (.p (.bin .sub (.tmp 85) (.c (.int .i64 8)))), 5, []⟩,
⟨(some 87), none, (.p (.mv (.tmp 10))), 6, []⟩,
⟨(some 88), none, (.p (.bin .add (.tmp 87) (.c (.int .u32 1)))), 7, []⟩,
⟨(some 89), none, (.p (.idxStr (.c (.str [48, 48, 48, 49, 48, 50, 48, 51, 48, 52, 48, 53, 48, 54, 48, 55, 48, 56, 48, 57, 49, 48, 49, 49, 49, 50, 49, 51, 49, 52, 49, 53, 49, 54, 49, 55, 49, 56, 49, 57, 50, 48, 50, 49, 50, 50, 50, 51, 50, 52, 50, 53, 50, 54, 50, 55, 50, 56, 50, 57, 51, 48, 51, 49, 51, 50, 51, 51, 51, 52, 51, 53, 51, 54, 51, 55, 51, 56, 51, 57, 52, 48, 52, 49, 52, 50, 52, 51, 52, 52, 52, 53, 52, 54, 52, 55, 52, 56, 52, 57, 53, 48, 53, 49, 53, 50, 53, 51, 53, 52, 53, 53, 53, 54, 53, 55, 53, 56, 53, 57, 54, 48, 54, 49, 54, 50, 54, 51, 54, 52, 54, 53, 54, 54, 54, 55, 54, 56, 54, 57, 55, 48, 55, 49, 55, 50, 55, 51, 55, 52, 55, 53, 55, 54, 55, 55, 55, 56, 55, 57, 56, 48, 56, 49, 56, 50, 56, 51, 56, 52, 56, 53, 56, 54, 56, 55, 56, 56, 56, 57, 57, 48, 57, 49, 57, 50, 57, 51, 57, 52, 57, 53, 57, 54, 57, 55, 57, 56, 57, 57])) (.tmp 88))), 8, []⟩,
⟨(some 90), none, (.p (.mv (.tmp 10))), 9, []⟩,
⟨(some 91), none, (.p (.idxStr (.c (.str [48, 48, 48, 49, 48, 50, 48, 51, 48, 52, 48, 53, 48, 54, 48, 55, 48, 56, 48, 57, 49, 48, 49, 49, 49, 50, 49, 51, 49, 52, 49, 53, 49, 54, 49, 55, 49, 56, 49, 57, 50, 48, 50, 49, 50, 50, 50, 51, 50, 52, 50, 53, 50, 54, 50, 55, 50, 56, 50, 57, 51, 48, 51, 49, 51, 50, 51, 51, 51, 52, 51, 53, 51, 54, 51, 55, 51, 56, 51, 57, 52, 48, 52, 49, 52, 50, 52, 51, 52, 52, 52, 53, 52, 54, 52, 55, 52, 56, 52, 57, 53, 48, 53, 49, 53, 50, 53, 51, 53, 52, 53, 53, 53, 54, 53, 55, 53, 56, 53, 57, 54, 48, 54, 49, 54, 50, 54, 51, 54, 52, 54, 53, 54, 54, 54, 55, 54, 56, 54, 57, 55, 48, 55, 49, 55, 50, 55, 51, 55, 52, 55, 53, 55, 54, 55, 55, 55, 56, 55, 57, 56, 48, 56, 49, 56, 50, 56, 51, 56, 52, 56, 53, 56, 54, 56, 55, 56, 56, 56, 57, 57, 48, 57, 49, 57, 50, 57, 51, 57, 52, 57, 53, 57, 54, 57, 55, 57, 56, 57, 57])) (.tmp 90))), 10, []⟩,
⟨(some 92), none, (.p (.idxSl 1 (.tmp 81) (.tmp 83))), 11, []⟩,
⟨none, none, (.h (.store 1 (.tmp 92) (.tmp 89))), 12, []⟩,
⟨(some 93), none, (.p (.idxSl 1 (.tmp 84) (.tmp 86))), 13, []⟩,
⟨none, none, (.h (.store 1 (.tmp 93) (.tmp 91))), 14, []⟩])
(.ops [⟨(some 94), none, (.p (.mv (.tmp 4))), 0, []⟩,
⟨(some 95), none, (.p (.bin .sub (.tmp 94) (.c (.int .i64 8)))), 0, []⟩,
⟨(some 4), none, (.p (.mv (.tmp 95))), 0, []⟩]))))))))))))))
(.seq
(.ops [⟨(some 96), none, (.p (.mv (.tmp 1))), 0, []⟩,
⟨(some 97), none, (.p (.convInt .u32 (.tmp 96))), 0, []⟩,
⟨(some 12), none, (.p (.mv (.tmp 97))), 0, []⟩])
(.seq
(.seq
(.ops [⟨(some 98), none, (.p (.mv (.tmp 4))), 0, []⟩,
⟨(some 99), none, (.p (.bin .geq (.tmp 98) (.c (.int .i64 4)))), 0, []⟩])
(.cond (.tmp 99)
(.seq
(.ops [⟨(some 100), none, (.p (.mv (.tmp 12))), 0, []⟩,
⟨(some 101), none, (.p (.bin .rem (.tmp 100) (.c (.int .u32 10000)))), 0, []⟩,
⟨(some 13), none, (.p (.mv (.tmp 101))), 0, []⟩])
(.seq
(.ops [⟨(some 102), none, (.p (.mv (.tmp 12))), 0, []⟩,
⟨(some 103), none, (.p (.bin .quo (.tmp 102) (.c (.int .u32 10000)))), 0, []⟩,
⟨(some 12), none, (.p (.mv (.tmp 103))), 0, []⟩])
(.seq
(.ops [⟨(some 104), none, (.p (.mv (.tmp 13))), 0, []⟩,
⟨(some 105), none, (.p (.bin .quo (.tmp 104) (.c (.int .u32 100)))), 0, []⟩,
⟨(some 106), none, (.p (.bin .mul (.tmp 105) (.c (.int .u32 2)))), 0, []⟩,
⟨(some 107), none, (.p (.mv (.tmp 13))), 0, []⟩,
⟨(some 108), none, (.p (.bin .rem (.tmp 107) (.c (.int .u32 100)))), 0, []⟩,
⟨(some 109), none, (.p (.bin .mul (.tmp 108) (.c (.int .u32 2)))), 0, []⟩,
⟨(some 14), none, (.p (.mv (.tmp 106))), 0, []⟩,
⟨(some 15), none, (.p (.mv (.tmp 109))), 0, []⟩])
(.seq
(.draw [⟨(some 110), none, (.p (.mv (.tmp 0))), 0, []⟩,
⟨(some 111), none, (.p (.mv (.tmp 4))), 1, []⟩,
⟨(some 112), none, (.p (.bin .sub (.tmp 111) (.c (.int .i64 1)))), 2, []⟩,
⟨(some 113), none, (.p (.mv (.tmp 0))), 3, []⟩,
⟨(some 114), none, (.p (.mv (.tmp 4))), 4, []⟩,
⟨(some 115), none, (.p (.bin .sub (.tmp 114) (.c (.int .i64 2)))), 5, []⟩,
⟨(some 116), none, (.p (.mv (.tmp 15))), 6, []⟩,
⟨(some 117), none, (.p (.bin .add (.tmp 116) (.c (.int .u32 1)))), 7, []⟩,
⟨(some 118), none, (.p (.idxStr (.c (.str [48, 48, 48, 49, 48, 50, 48, 51, 48, 52, 48, 53, 48, 54, 48, 55, 48, 56, 48, 57, 49, 48, 49, 49, 49, 50, 49, 51, 49, 52, 49, 53, 49, 54, 49, 55, 49, 56, 49, 57, 50, 48, 50, 49, 50, 50, 50, 51, 50, 52, 50, 53, 50, 54, 50, 55, 50, 56, 50, 57, 51, 48, 51, 49, 51, 50, 51, 51, 51, 52, 51, 53, 51, 54, 51, 55, 51, 56, 51, 57, 52, 48, 52, 49, 52, 50, 52, 51, 52, 52, 52, 53, 52, 54, 52, 55, 52, 56, 52, 57, 53, 48, 53, 49, 53, 50, 53, 51, 53, 52, 53, 53, 53, 54, 53, 55, 53, 56, 53, 57, 54, 48, 54, 49, 54, 50, 54, 51, 54, 52, 54, 53, 54, 54, 54, 55, 54, 56, 54, 57, 55, 48, 55, 49, 55, 50, 55, 51, 55, 52, 55, 53, 55, 54, 55, 55, 55, 56, 55, 57, 56, 48, 56, 49, 56, 50, 56, 51, 56, 52, 56, 53, 56, 54, 56, 55, 56, 56, 56, 57, 57, 48, 57, 49, 57, 50, 57, 51, 57, 52, 57, 53, 57, 54, 57, 55, 57, 56, 57, 57])) (.tmp 117))), 8, []⟩,
⟨(some 119), none, (.p (.mv (.tmp 15))), 9, []⟩,
⟨(some 120), none, (.p (.idxStr (.c (.str [48, 48, 48, 49, 48, 50, 48, 51, 48, 52, 48, 53, 48, 54, 48, 55, 48, 56, 48, 57, 49, 48, 49, 49, 49, 50, 49, 51, 49, 52, 49, 53, 49, 54, 49, 55, 49, 56, 49, 57, 50, 48, 50, 49, 50, 50, 50, 51, 50, 52, 50, 53, 50, 54, 50, 55, 50, 56, 50, 57, 51, 48, 51, 49, 51, 50, 51, 51, 51, 52, 51, 53, 51, 54, 51, 55, 51, 56, 51, 57, 52, 48, 52, 49, 52, 50, 52, 51, 52, 52, 52, 53, 52, 54, 52, 55, 52, 56, 52, 57, 53, 48, 53, 49, 53, 50, 53, 51, 53, 52, 53, 53, 53, 54, 53, 55, 53, 56, 53, 57, 54, 48, 54, 49, 54, 50, 54, 51, 54, 52, 54, 53, 54, 54, 54, 55, 54, 56, 54, 57, 55, 48, 55, 49, 55, 50, 55, 51, 55, 52, 55, 53, 55, 54, 55, 55, 55, 56, 55, 57, 56, 48, 56, 49, 56, 50, 56, 51, 56, 52, 56, 53, 56, 54, 56, 55, 56, 56, 56, 57, 57, 48, 57, 49, 57, 50, 57, 51, 57, 52, 57, 53, 57, 54, 57, 55, 57, 56, 57, 57])) (.tmp 119))), 10, []⟩,
⟨(some 121), none, (.p (.idxSl 1 (.tmp 110) (.tmp 112))), 11, []⟩,
⟨none, none, (.h (.store 1 (.tmp 121) (.tmp 118))), 12, []⟩,
⟨(some 122), none, (.p (.idxSl 1 (.tmp 113) (.tmp 115))), 13, []⟩,
⟨none, none, (.h (.store 1 (.tmp 122) (.tmp 120))), 14, []⟩])
(.seq
(.draw [⟨(some 123), none, (.p (.mv (.tmp 0))), 0, []⟩,
⟨(some 124), none, (.p (.mv (.tmp 4))), 1, []⟩,
⟨(some 125), none, (.p (.bin .sub (.tmp 124) (.c (.int .i64 3)))), 2, []⟩,
⟨(some 126), none, (.p (.mv (.tmp 0))), 3, []⟩,
⟨(some 127), none, (.p (.mv (.tmp 4))), 4, []⟩,
⟨(some 128), none, (.p (.bin .sub (.tmp 127) (.c (.int .i64 4)))), 5, []⟩,
⟨(some 129), none, (.p (.mv (.tmp 14))), 6, []⟩,
⟨(some 130), none, (.p (.bin .add (.tmp 129) (.c (.int .u32 1)))), 7, []⟩,
⟨(some 131), none, (.p (.idxStr (.c (.str [48, 48, 48, 49, 48, 50, 48, 51, 48, 52, 48, 53, 48, 54, 48, 55, 48, 56, 48, 57, 49, 48, 49, 49, 49, 50, 49, 51, 49, 52, 49, 53, 49, 54, 49, 55, 49, 56, 49, 57, 50, 48, 50, 49, 50, 50, 50, 51, 50, 52, 50, 53, 50, 54, 50, 55, 50, 56, 50, 57, 51, 48, 51, 49, 51, 50, 51, 51, 51, 52, 51, 53, 51, 54, 51, 55, 51, 56, 51, 57, 52, 48, 52, 49, 52, 50, 52, 51, 52, 52, 52, 53, 52, 54, 52, 55, 52, 56, 52, 57, 53, 48, 53, 49, 53, 50, 53, 51, 53, 52, 53, 53, 53, 54, 53, 55, 53, 56, 53, 57, 54, 48, 54, 49, 54, 50, 54, 51, 54, 52, 54, 53, 54, 54, 54, 55, 54, 56, 54, 57, 55, 48, 55, 49, 55, 50, 55, 51, 55, 52, 55, 53, 55, 54, 55, 55, 55, 56, 55, 57, 56, 48, 56, 49, 56, 50, 56, 51, 56, 52, 56, 53, 56, 54, 56, 55, 56, 56, 56, 57, 57, 48, 57, 49, 57, 50, 57, 51, 57, 52, 57, 53, 57, 54, 57, 55, 57, 56, 57, 57])) (.tmp 130))), 8, []⟩,
⟨(some 132), none, (.p (.mv (.tmp 14))), 9, []⟩,
⟨(some 133), none, (.p (.idxStr (.c (.str [48, 48, 48, 49, 48, 50, 48, 51, 48, 52, 48, 53, 48, 54, 48, 55, 48, 56, 48, 57, 49, 48, 49, 49, 49, 50, 49, 51, 49, 52, 49, 53, 49, 54, 49, 55, 49, 56, 49, 57, 50, 48, 50, 49, 50, 50, 50, 51, 50, 52, 50, 53, 50, 54, 50, 55, 50, 56, 50, 57, 51, 48, 51, 49, 51, 50, 51, 51, 51, 52, 51, 53, 51, 54, 51, 55, 51, 56, 51, 57, 52, 48, 52, 49, 52, 50, 52, 51, 52, 52, 52, 53, 52, 54, 52, 55, 52, 56, 52, 57, 53, 48, 53, 49, 53, 50, 53, 51, 53, 52, 53, 53, 53, 54, 53, 55, 53, 56, 53, 57, 54, 48, 54, 49, 54, 50, 54, 51, 54, 52, 54, 53, 54, 54, 54, 55, 54, 56, 54, 57, 55, 48, 55, 49, 55, 50, 55, 51, 55, 52, 55, 53, 55, 54, 55, 55, 55, 56, 55, 57, 56, 48, 56, 49, 56, 50, 56, 51, 56, 52, 56, 53, 56, 54, 56, 55, 56, 56, 56, 57, 57, 48, 57, 49, 57, 50, 57, 51, 57, 52, 57, 53, 57, 54, 57, 55, 57, 56, 57, 57])) (.tmp 132))), 10, []⟩,
⟨(some 134), none, (.p (.idxSl 1 (.tmp 123) (.tmp 125))), 11, []⟩,
⟨none, none, (.h (.store 1 (.tmp 134) (.tmp 131))), 12, []⟩,
⟨(some 135), none, (.p (.idxSl 1 (.tmp 126) (.tmp 128))), 13, []⟩,
⟨none, none, (.h (.store 1 (.tmp 135) (.tmp 133))), 14, []⟩])
(.ops [⟨(some 136), none, (.p (.mv (.tmp 4))), 0, []⟩,
⟨(some 137), none, (.p (.bin .sub (.tmp 136) (.c (.int .i64 4)))), 0, []⟩,
⟨(some 4), none, (.p (.mv (.tmp 137))), 0, []⟩]))))))
.skip))
(.seq
(.seq
(.ops [⟨(some 138), none, (.p (.mv (.tmp 4))), 0, []⟩,
⟨(some 139), none, (.p (.bin .geq (.tmp 138) (.c (.int .i64 2)))), 0, []⟩])
(.cond (.tmp 139)
(.seq
(.ops [⟨(some 140), none, (.p (.mv (.tmp 12))), 0, []⟩,
⟨(some 141), none, (.p (.bin .rem (.tmp 140) (.c (.int .u32 100)))), 0, []⟩,
⟨(some 142), none, (.p (.bin .mul (.tmp 141) (.c (.int .u32 2)))), 0, []⟩,
⟨(some 16), none, (.p (.mv (.tmp 142))), 0, []⟩])
(.seq
(.ops [⟨(some 143), none, (.p (.mv (.tmp 12))), 0, []⟩,
⟨(some 144), none, (.p (.bin .quo (.tmp 143) (.c (.int .u32 100)))), 0, []⟩,
⟨(some 12), none, (.p (.mv (.tmp 144))), 0, []⟩])
(.seq
(.draw [⟨(some 145), none, (.p (.mv (.tmp 0))), 0, []⟩,
⟨(some 146), none, (.p (.mv (.tmp 4))), 1, []⟩,
⟨(some 147), none, (.p (.bin .sub (.tmp 146) (.c (.int .i64 1)))), 2, []⟩,
⟨(some 148), none, (.p (.mv (.tmp 0))), 3, []⟩,
⟨(some 149), none, (.p (.mv (.tmp 4))), 4, []⟩,
⟨(some 150), none, (.p (.bin .sub (.tmp 149) (.c (.int .i64 2)))), 5, []⟩,
⟨(some 151), none, (.p (.mv (.tmp 16))), 6, []⟩,
⟨(some 152), none, (.p (.bin .add (.tmp 151) (.c (.int .u32 1)))), 7, []⟩,
⟨(some 153), none, (.p (.idxStr (.c (.str [48, 48, 48, 49, 48, 50, 48, 51, 48, 52, 48, 53, 48, 54, 48, 55, 48, 56, 48, 57, 49, 48, 49, 49, 49, 50, 49, 51, 49, 52, 49, 53, 49, 54, 49, 55, 49, 56, 49, 57, 50, 48, 50, 49, 50, 50, 50, 51, 50, 52, 50, 53, 50, 54, 50, 55, 50, 56, 50, 57, 51, 48, 51, 49, 51, 50, 51, 51, 51, 52, 51, 53, 51, 54, 51, 55, 51, 56, 51, 57, 52, 48, 52, 49, 52, 50, 52, 51, 52, 52, 52, 53, 52, 54, 52, 55, 52, 56, 52, 57, 53, 48, 53, 49, 53, 50, 53, 51, 53, 52, 53, 53, 53, 54, 53, 55, 53, 56, 53, 57, 54, 48, 54, 49, 54, 50, 54, 51, 54, 52, 54, 53, 54, 54, 54, 55, 54, 56, 54, 57, 55, 48, 55, 49, 55, 50, 55, 51, 55, 52, 55, 53, 55, 54, 55, 55, 55, 56, 55, 57, 56, 48, 56, 49, 56, 50, 56, 51, 56, 52, 56, 53, 56, 54, 56, 55, 56, 56, 56, 57, 57, 48, 57, 49, 57, 50, 57, 51, 57, 52, 57, 53, 57, 54, 57, 55, 57, 56, 57, 57])) (.tmp 152))), 8, []⟩,
⟨(some 154), none, (.p (.mv (.tmp 16))), 9, []⟩,
⟨(some 155), none, (.p (.idxStr (.c (.str [48, 48, 48, 49, 48, 50, 48, 51, 48, 52, 48, 53, 48, 54, 48, 55, 48, 56, 48, 57, 49, 48, 49, 49, 49, 50, 49, 51, 49, 52, 49, 53, 49, 54, 49, 55, 49, 56, 49, 57, 50, 48, 50, 49, 50, 50, 50, 51, 50, 52, 50, 53, 50, 54, 50, 55, 50, 56, 50, 57, 51, 48, 51, 49, 51, 50, 51, 51, 51, 52, 51, 53, 51, 54, 51, 55, 51, 56, 51, 57, 52, 48, 52, 49, 52, 50, 52, 51, 52, 52, 52, 53, 52, 54, 52, 55, 52, 56, 52, 57, 53, 48, 53, 49, 53, 50, 53, 51, 53, 52, 53, 53, 53, 54, 53, 55, 53, 56, 53, 57, 54, 48, 54, 49, 54, 50, 54, 51, 54, 52, 54, 53, 54, 54, 54, 55, 54, 56, 54, 57, 55, 48, 55, 49, 55, 50, 55, 51, 55, 52, 55, 53, 55, 54, 55, 55, 55, 56, 55, 57, 56, 48, 56, 49, 56, 50, 56, 51, 56, 52, 56, 53, 56, 54, 56, 55, 56, 56, 56, 57, 57, 48, 57, 49, 57, 50, 57, 51, 57, 52, 57, 53, 57, 54, 57, 55, 57, 56, 57, 57])) (.tmp 154))), 10, []⟩,
⟨(some 156), none, (.p (.idxSl 1 (.tmp 145) (.tmp 147))), 11, []⟩,
⟨none, none, (.h (.store 1 (.tmp 156) (.tmp 153))), 12, []⟩,
⟨(some 157), none, (.p (.idxSl 1 (.tmp 148) (.tmp 150))), 13, []⟩,
⟨none, none, (.h (.store 1 (.tmp 157) (.tmp 155))), 14, []⟩])
(.ops [⟨(some 158), none, (.p (.mv (.tmp 4))), 0, []⟩,
⟨(some 159), none, (.p (.bin .sub (.tmp 158) (.c (.int .i64 2)))), 0, []⟩,
⟨(some 4), none, (.p (.mv (.tmp 159))), 0, []⟩]))))
.skip))
(.seq
(.ops [⟨(some 160), none, (.p (.mv (.tmp 4))), 0, []⟩,
⟨(some 161), none, (.p (.bin .gtr (.tmp 160) (.c (.int .i64 0)))), 0, []⟩])
(.cond (.tmp 161)
(.ops [⟨(some 162), none, (.p (.mv (.tmp 0))), 0, []⟩,
⟨(some 163), none, (.p (.mv (.tmp 12))), 0, []⟩,
⟨(some 164), none, (.p (.bin .add (.c (.int .u32 48)) (.tmp 163))), 0, []⟩,
⟨(some 165), none, (.p (.convInt .u8 (.tmp 164))), 0, []⟩,
⟨(some 166), none, (.p (.idxSl 1 (.tmp 162) (.c (.int .i64 0)))), 0, []⟩,
⟨none, none, (.h (.store 1 (.tmp 166) (.tmp 165))), 0, []⟩])
.skip)))))))⟩
theorem c79 : Mir.compF Tryz.prog Tryz.f79 = some g79 := by kernel_rfl
/-- internal/stringslite.IndexByte -/
def g81 : Mir.Fn := ⟨8, [(.tmp 4)],
(.seq
(.ops [⟨(some 4), none, (.p (.mv (.c (.int .i64 0)))), 0, []⟩])
(.seq
(.ops [⟨(some 5), none, (.p (.mv (.tmp 0))), 0, []⟩,
⟨(some 6), none, (.p (.mv (.tmp 1))), 0, []⟩,
⟨(some 7), none, (.p (.idxByte (.tmp 5) (.tmp 6))), 0, []⟩,
⟨(some 4), none, (.p (.mv (.tmp 7))), 0, []⟩])
.ret))⟩
theorem c81 : Mir.compF Tryz.prog Tryz.f81 = some g81 := by kernel_rfl
/-- internal/strconv.ParseUint -/
def g85 : Mir.Fn := ⟨172, [(.tmp 6), (.tmp 7)],
(.seq
(.ops [⟨(some 6), none, (.p (.mv (.c (.int .u64 0)))), 0, []⟩,
⟨(some 7), none, (.p (.mv (.c .nilif))), 0, []⟩])
(.seq
(.seq
(.ops [⟨(some 18), none, (.p (.mv (.tmp 0))), 0, []⟩,
⟨(some 19), none, (.p (.bin .eql (.tmp 18) (.c (.str [])))), 0, []⟩])
(.cond (.tmp 19)
(.seq
(.ops [⟨(some 20), none, (.p (.mkIf 90 (.c (.int .i64 2)))), 0, []⟩,
⟨(some 6), none, (.p (.mv (.c (.int .u64 0)))), 0, []⟩,
⟨(some 7), none, (.p (.mv (.tmp 20))), 0, []⟩])
.ret)
.skip))
(.seq
(.ops [⟨(some 21), none, (.p (.mv (.tmp 1))), 0, []⟩,
⟨(some 22), none, (.p (.bin .eql (.tmp 21) (.c (.int .i64 0)))), 0, []⟩,
⟨(some 8), none, (.p (.mv (.tmp 22))), 0, []⟩])
(.seq
(.ops [⟨(some 23), none, (.p (.mv (.tmp 0))), 0, []⟩,
⟨(some 9), none, (.p (.mv (.tmp 23))), 0, []⟩])
(.seq
(.block 0 (.seq
(.ops [⟨(some 26), none, (.p (.mv (.tmp 1))), 0, []⟩,
⟨(some 27), none, (.p (.bin .leq (.c (.int .i64 2)) (.tmp 26))), 0, []⟩,
⟨(some 28), none, (.p (.mv (.tmp 27))), 0, []⟩,
⟨(some 29), (some (28, true)), (.p (.mv (.tmp 1))), 0, []⟩,
⟨(some 30), (some (28, true)), (.p (.bin .leq (.tmp 29) (.c (.int .i64 36)))), 0, []⟩,
⟨(some 31), none, (.p (.pick (.tmp 28) (.tmp 30) (.c (.bool false)))), 0, []⟩,
⟨(some 25), none, (.p (.mv (.tmp 31))), 0, []⟩])
(.cond (.tmp 25)
.skip
(.seq
(.ops [⟨(some 33), none, (.p (.mv (.tmp 1))), 0, []⟩,
⟨(some 34), none, (.p (.bin .eql (.tmp 33) (.c (.int .i64 0)))), 0, []⟩,
⟨(some 32), none, (.p (.mv (.tmp 34))), 0, []⟩])
(.cond (.tmp 32)
(.seq
(.ops [⟨(some 1), none, (.p (.mv (.c (.int .i64 10)))), 0, []⟩])
(.seq
(.ops [⟨(some 35), none, (.p (.mv (.tmp 0))), 0, []⟩,
⟨(some 36), none, (.p (.idxStr (.tmp 35) (.c (.int .i64 0)))), 0, []⟩,
⟨(some 37), none, (.p (.bin .eql (.tmp 36) (.c (.int .u8 48)))), 0, []⟩])
(.cond (.tmp 37)
(.block 1 (.seq
(.ops [⟨(some 41), none, (.p (.mv (.tmp 0))), 0, []⟩,
⟨(some 42), none, (.p (.lenStr (.tmp 41))), 0, []⟩,
⟨(some 43), none, (.p (.bin .geq (.tmp 42) (.c (.int .i64 3)))), 0, []⟩,
⟨(some 44), none, (.p (.mv (.tmp 43))), 0, []⟩,
⟨(some 45), (some (44, true)), (.p (.mv (.tmp 0))), 0, []⟩,
⟨(some 46), (some (44, true)), (.p (.idxStr (.tmp 45) (.c (.int .i64 1)))), 0, []⟩,
⟨(some 47), (some (44, true)), (.h (.call (.c (.fn 100 [] [])) [(.tmp 46)])), 0, []⟩,
⟨(some 48), (some (44, true)), (.p (.bin .eql (.tmp 47) (.c (.int .u8 98)))), 0, []⟩,
⟨(some 49), none, (.p (.pick (.tmp 44) (.tmp 48) (.c (.bool false)))), 0, []⟩,
⟨(some 40), none, (.p (.mv (.tmp 49))), 0, []⟩])
(.cond (.tmp 40)
(.seq
(.ops [⟨(some 1), none, (.p (.mv (.c (.int .i64 2)))), 0, []⟩])
(.ops [⟨(some 50), none, (.p (.mv (.tmp 0))), 0, []⟩,
⟨(some 51), none, (.p (.subStr (.tmp 50) (some (.c (.int .i64 2))) none)), 0, []⟩,
⟨(some 0), none, (.p (.mv (.tmp 51))), 0, []⟩]))
(.seq
(.ops [⟨(some 53), none, (.p (.mv (.tmp 0))), 0, []⟩,
⟨(some 54), none, (.p (.lenStr (.tmp 53))), 0, []⟩,
⟨(some 55), none, (.p (.bin .geq (.tmp 54) (.c (.int .i64 3)))), 0, []⟩,
⟨(some 56), none, (.p (.mv (.tmp 55))), 0, []⟩,
⟨(some 57), (some (56, true)), (.p (.mv (.tmp 0))), 0, []⟩,
⟨(some 58), (some (56, true)), (.p (.idxStr (.tmp 57) (.c (.int .i64 1)))), 0, []⟩,
⟨(some 59), (some (56, true)), (.h (.call (.c (.fn 100 [] [])) [(.tmp 58)])), 0, []⟩,
⟨(some 60), (some (56, true)), (.p (.bin .eql (.tmp 59) (.c (.int .u8 111)))), 0, []⟩,
⟨(some 61), none, (.p (.pick (.tmp 56) (.tmp 60) (.c (.bool false)))), 0, []⟩,
⟨(some 52), none, (.p (.mv (.tmp 61))), 0, []⟩])
(.cond (.tmp 52)
(.seq
(.ops [⟨(some 1), none, (.p (.mv (.c (.int .i64 8)))), 0, []⟩])
(.ops [⟨(some 62), none, (.p (.mv (.tmp 0))), 0, []⟩,
⟨(some 63), none, (.p (.subStr (.tmp 62) (some (.c (.int .i64 2))) none)), 0, []⟩,
⟨(some 0), none, (.p (.mv (.tmp 63))), 0, []⟩]))
(.seq
(.ops [⟨(some 65), none, (.p (.mv (.tmp 0))), 0, []⟩,
⟨(some 66), none, (.p (.lenStr (.tmp 65))), 0, []⟩,
⟨(some 67), none, (.p (.bin .geq (.tmp 66) (.c (.int .i64 3)))), 0, []⟩,
⟨(some 68), none, (.p (.mv (.tmp 67))), 0, []⟩,
⟨(some 69), (some (68, true)), (.p (.mv (.tmp 0))), 0, []⟩,
⟨(some 70), (some (68, true)), (.p (.idxStr (.tmp 69) (.c (.int .i64 1)))), 0, []⟩,
⟨(some 71), (some (68, true)), (.h (.call (.c (.fn 100 [] [])) [(.tmp 70)])), 0, []⟩,
⟨(some 72), (some (68, true)), (.p (.bin .eql (.tmp 71) (.c (.int .u8 120)))), 0, []⟩,
⟨(some 73), none, (.p (.pick (.tmp 68) (.tmp 72) (.c (.bool false)))), 0, []⟩,
⟨(some 64), none, (.p (.mv (.tmp 73))), 0, []⟩])
(.cond (.tmp 64)
(.seq
(.ops [⟨(some 1), none, (.p (.mv (.c (.int .i64 16)))), 0, []⟩])
(.ops [⟨(some 74), none, (.p (.mv (.tmp 0))), 0, []⟩,
⟨(some 75), none, (.p (.subStr (.tmp 74) (some (.c (.int .i64 2))) none)), 0, []⟩,
⟨(some 0), none, (.p (.mv (.tmp 75))), 0, []⟩]))
(.seq
(.ops [⟨(some 1), none, (.p (.mv (.c (.int .i64 8)))), 0, []⟩])
(.ops [⟨(some 38), none, (.p (.mv (.tmp 0))), 0, []⟩,
⟨(some 39), none, (.p (.subStr (.tmp 38) (some (.c (.int .i64 1))) none)), 0, []⟩,
⟨(some 0), none, (.p (.mv (.tmp 39))), 0, []⟩])))))))))
.skip)))
(.seq
(.ops [⟨(some 24), none, (.p (.mkIf 90 (.c (.int .i64 3)))), 0, []⟩,
⟨(some 6), none, (.p (.mv (.c (.int .u64 0)))), 0, []⟩,
⟨(some 7), none, (.p (.mv (.tmp 24))), 0, []⟩])
.ret))))))
(.seq
(.seq
(.ops [⟨(some 76), none, (.p (.mv (.tmp 2))), 0, []⟩,
⟨(some 77), none, (.p (.bin .eql (.tmp 76) (.c (.int .i64 0)))), 0, []⟩])
(.cond (.tmp 77)
(.ops [⟨(some 2), none, (.p (.mv (.c (.int .i64 64)))), 0, []⟩])
(.seq
(.ops [⟨(some 78), none, (.p (.mv (.tmp 2))), 0, []⟩,
⟨(some 79), none, (.p (.bin .lss (.tmp 78) (.c (.int .i64 0)))), 0, []⟩,
⟨(some 80), none, (.p (.mv (.tmp 79))), 0, []⟩,
⟨(some 81), (some (80, false)), (.p (.mv (.tmp 2))), 0, []⟩,
⟨(some 82), (some (80, false)), (.p (.bin .gtr (.tmp 81) (.c (.int .i64 64)))), 0, []⟩,
⟨(some 83), none, (.p (.pick (.tmp 80) (.c (.bool true)) (.tmp 82))), 0, []⟩])
(.cond (.tmp 83)
(.seq
(.ops [⟨(some 84), none, (.p (.mkIf 90 (.c (.int .i64 4)))), 0, []⟩,
⟨(some 6), none, (.p (.mv (.c (.int .u64 0)))), 0, []⟩,
⟨(some 7), none, (.p (.mv (.tmp 84))), 0, []⟩])
.ret)
.skip))))
(.seq
(.ops [⟨(some 10), none, (.p (.mv (.c (.int .u64 0)))), 0, []⟩])
(.seq
(.seq
(.ops [⟨(some 85), none, (.p (.mv (.tmp 1))), 0, []⟩])
(.block 2 (.seq
(.ops [⟨(some 91), none, (.p (.bin .eql (.tmp 85) (.c (.int .i64 10)))), 0, []⟩,
⟨(some 90), none, (.p (.mv (.tmp 91))), 0, []⟩])
(.cond (.tmp 90)
(.ops [⟨(some 10), none, (.p (.mv (.c (.int .u64 1844674407370955162)))), 0, []⟩])
(.seq
(.ops [⟨(some 93), none, (.p (.bin .eql (.tmp 85) (.c (.int .i64 16)))), 0, []⟩,
⟨(some 92), none, (.p (.mv (.tmp 93))), 0, []⟩])
(.cond (.tmp 92)
(.ops [⟨(some 10), none, (.p (.mv (.c (.int .u64 1152921504606846976)))), 0, []⟩])
(.ops [⟨(some 86), none, (.p (.mv (.tmp 1))), 0, []⟩,
⟨(some 87), none, (.p (.convInt .u64 (.tmp 86))), 0, []⟩,
⟨(some 88), none, (.p (.bin .quo (.c (.int .u64 18446744073709551615)) (.tmp 87))), 0, []⟩,
⟨(some 89), none, (.p (.bin .add (.tmp 88) (.c (.int .u64 1)))), 0, []⟩,
⟨(some 10), none, (.p (.mv (.tmp 89))), 0, []⟩])))))))
(.seq
(.ops [⟨(some 94), none, (.p (.mv (.tmp 2))), 0, []⟩,
⟨(some 95), none, (.p (.convInt .u64 (.tmp 94))), 0, []⟩,
⟨(some 96), none, (.p (.bin .shl (.c (.int .u64 1)) (.tmp 95))), 0, []⟩,
⟨(some 97), none, (.p (.bin .sub (.tmp 96) (.c (.int .u64 1)))), 0, []⟩,
⟨(some 11), none, (.p (.mv (.tmp 97))), 0, []⟩])
(.seq
(.ops [⟨(some 12), none, (.p (.mv (.c (.bool false)))), 0, []⟩])
(.seq
(.ops [⟨(some 13), none, (.p (.mv (.c (.int .u64 0)))), 0, []⟩])
(.seq
(.seq
(.ops [⟨(some 98), none, (.p (.mv (.tmp 0))), 0, []⟩,
⟨(some 99), none, (.a (.toBytes (.tmp 98))), 0, []⟩,
⟨(some 100), none, (.p (.lenSl (.tmp 99))), 0, []⟩,
⟨(some 101), none, (.p (.mv (.c (.int .i64 0)))), 0, []⟩])
(.block 3 (.loop (.seq
(.ops [⟨(some 102), none, (.p (.bin .lss (.tmp 101) (.tmp 100))), 0, []⟩])
(.seq
(.cond (.tmp 102)
.skip
(.exit 3))
(.seq
(.block 4 (.seq
(.ops [⟨(some 103), none, (.p (.idxSl 1 (.tmp 99) (.tmp 101))), 0, []⟩,
⟨(some 104), none, (.r (.load 1 false (.tmp 103))), 0, []⟩,
⟨(some 15), none, (.p (.mv (.tmp 104))), 0, []⟩])
(.seq
(.ops [⟨(some 16), none, (.p (.mv (.c (.int .u8 0)))), 0, []⟩])
(.seq
(.block 5 (.seq
(.ops [⟨(some 107), none, (.p (.mv (.tmp 15))), 0, []⟩,
⟨(some 108), none, (.p (.bin .eql (.tmp 107) (.c (.int .u8 95)))), 0, []⟩,
⟨(some 109), none, (.p (.mv (.tmp 108))), 0, []⟩,
⟨(some 110), (some (109, true)), (.p (.mv (.tmp 8))), 0, []⟩,
⟨(some 111), none, (.p (.pick (.tmp 109) (.tmp 110) (.c (.bool false)))), 0, []⟩,
⟨(some 106), none, (.p (.mv (.tmp 111))), 0, []⟩])
(.cond (.tmp 106)
(.seq
(.ops [⟨(some 12), none, (.p (.mv (.c (.bool true)))), 0, []⟩])
(.exit 4))
(.seq
(.ops [⟨(some 113), none, (.p (.mv (.tmp 15))), 0, []⟩,
⟨(some 114), none, (.p (.bin .leq (.c (.int .u8 48)) (.tmp 113))), 0, []⟩,
⟨(some 115), none, (.p (.mv (.tmp 114))), 0, []⟩,
⟨(some 116), (some (115, true)), (.p (.mv (.tmp 15))), 0, []⟩,
⟨(some 117), (some (115, true)), (.p (.bin .leq (.tmp 116) (.c (.int .u8 57)))), 0, []⟩,
⟨(some 118), none, (.p (.pick (.tmp 115) (.tmp 117) (.c (.bool false)))), 0, []⟩,
⟨(some 112), none, (.p (.mv (.tmp 118))), 0, []⟩])
(.cond (.tmp 112)
(.ops [⟨(some 119), none, (.p (.mv (.tmp 15))), 0, []⟩,
⟨(some 120), none, (.p (.bin .sub (.tmp 119) (.c (.int .u8 48)))), 0, []⟩,
⟨(some 16), none, (.p (.mv (.tmp 120))), 0, []⟩])
(.seq
(.ops [⟨(some 122), none, (.p (.mv (.tmp 15))), 0, []⟩,
⟨(some 123), none, (.h (.call (.c (.fn 100 [] [])) [(.tmp 122)])), 0, []⟩,
⟨(some 124), none, (.p (.bin .leq (.c (.int .u8 97)) (.tmp 123))), 0, []⟩,
⟨(some 125), none, (.p (.mv (.tmp 124))), 0, []⟩,
⟨(some 126), (some (125, true)), (.p (.mv (.tmp 15))), 0, []⟩,
⟨(some 127), (some (125, true)), (.h (.call (.c (.fn 100 [] [])) [(.tmp 126)])), 0, []⟩,
⟨(some 128), (some (125, true)), (.p (.bin .leq (.tmp 127) (.c (.int .u8 122)))), 0, []⟩,
⟨(some 129), none, (.p (.pick (.tmp 125) (.tmp 128) (.c (.bool false)))), 0, []⟩,
⟨(some 121), none, (.p (.mv (.tmp 129))), 0, []⟩])
(.cond (.tmp 121)
(.ops [⟨(some 130), none, (.p (.mv (.tmp 15))), 0, []⟩,
⟨(some 131), none, (.h (.call (.c (.fn 100 [] [])) [(.tmp 130)])), 0, []⟩,
⟨(some 132), none, (.p (.bin .sub (.tmp 131) (.c (.int .u8 97)))), 0, []⟩,
⟨(some 133), none, (.p (.bin .add (.tmp 132) (.c (.int .u8 10)))), 0, []⟩,
⟨(some 16), none, (.p (.mv (.tmp 133))), 0, []⟩])
(.seq
(.ops [⟨(some 105), none, (.p (.mkIf 90 (.c (.int .i64 2)))), 0, []⟩,
⟨(some 6), none, (.p (.mv (.c (.int .u64 0)))), 0, []⟩,
⟨(some 7), none, (.p (.mv (.tmp 105))), 0, []⟩])
.ret))))))))
(.seq
(.seq
(.ops [⟨(some 134), none, (.p (.mv (.tmp 16))), 0, []⟩,
⟨(some 135), none, (.p (.mv (.tmp 1))), 0, []⟩,
⟨(some 136), none, (.p (.convInt .u8 (.tmp 135))), 0, []⟩,
⟨(some 137), none, (.p (.bin .geq (.tmp 134) (.tmp 136))), 0, []⟩])
(.cond (.tmp 137)
(.seq
(.ops [⟨(some 138), none, (.p (.mkIf 90 (.c (.int .i64 2)))), 0, []⟩,
⟨(some 6), none, (.p (.mv (.c (.int .u64 0)))), 0, []⟩,
⟨(some 7), none, (.p (.mv (.tmp 138))), 0, []⟩])
.ret)
.skip))
(.seq
(.seq
(.ops [⟨(some 139), none, (.p (.mv (.tmp 13))), 0, []⟩,
⟨(some 140), none, (.p (.mv (.tmp 10))), 0, []⟩,
⟨(some 141), none, (.p (.bin .geq (.tmp 139) (.tmp 140))), 0, []⟩])
(.cond (.tmp 141)
(.seq
(.ops [⟨(some 142), none, (.p (.mv (.tmp 11))), 0, []⟩,
⟨(some 143), none, (.p (.mkIf 90 (.c (.int .i64 1)))), 0, []⟩,
⟨(some 6), none, (.p (.mv (.tmp 142))), 0, []⟩,
⟨(some 7), none, (.p (.mv (.tmp 143))), 0, []⟩])
.ret)
.skip))
(.seq
(.ops [⟨(some 144), none, (.p (.mv (.tmp 13))), 0, []⟩,
⟨(some 145), none, (.p (.mv (.tmp 1))), 0, []⟩,
⟨(some 146), none, (.p (.convInt .u64 (.tmp 145))), 0, []⟩,
⟨(some 147), none, (.p (.bin .mul (.tmp 144) (.tmp 146))), 0, []⟩,
⟨(some 13), none, (.p (.mv (.tmp 147))), 0, []⟩])
(.seq
(.ops [⟨(some 148), none, (.p (.mv (.tmp 13))), 0, []⟩,
⟨(some 149), none, (.p (.mv (.tmp 16))), 0, []⟩,
⟨(some 150), none, (.p (.convInt .u64 (.tmp 149))), 0, []⟩,
⟨(some 151), none, (.p (.bin .add (.tmp 148) (.tmp 150))), 0, []⟩,
⟨(some 17), none, (.p (.mv (.tmp 151))), 0, []⟩])
(.seq
(.seq
(.ops [⟨(some 152), none, (.p (.mv (.tmp 17))), 0, []⟩,
⟨(some 153), none, (.p (.mv (.tmp 13))), 0, []⟩,
⟨(some 154), none, (.p (.bin .lss (.tmp 152) (.tmp 153))), 0, []⟩,
⟨(some 155), none, (.p (.mv (.tmp 154))), 0, []⟩,
⟨(some 156), (some (155, false)), (.p (.mv (.tmp 17))), 0, []⟩,
⟨(some 157), (some (155, false)), (.p (.mv (.tmp 11))), 0, []⟩,
⟨(some 158), (some (155, false)), (.p (.bin .gtr (.tmp 156) (.tmp 157))), 0, []⟩,
⟨(some 159), none, (.p (.pick (.tmp 155) (.c (.bool true)) (.tmp 158))), 0, []⟩])
(.cond (.tmp 159)
(.seq
(.ops [⟨(some 160), none, (.p (.mv (.tmp 11))), 0, []⟩,
⟨(some 161), none, (.p (.mkIf 90 (.c (.int .i64 1)))), 0, []⟩,
⟨(some 6), none, (.p (.mv (.tmp 160))), 0, []⟩,
⟨(some 7), none, (.p (.mv (.tmp 161))), 0, []⟩])
.ret)
.skip))
(.ops [⟨(some 162), none, (.p (.mv (.tmp 17))), 0, []⟩,
⟨(some 13), none, (.p (.mv (.tmp 162))), 0, []⟩]))))))))))
(.ops [⟨(some 163), none, (.p (.bin .add (.tmp 101) (.c (.int .i64 1)))), 0, []⟩,
⟨(some 101), none, (.p (.mv (.tmp 163))), 0, []⟩])))))))
(.seq
(.seq
(.ops [⟨(some 164), none, (.p (.mv (.tmp 12))), 0, []⟩,
⟨(some 165), none, (.p (.mv (.tmp 164))), 0, []⟩,
⟨(some 166), (some (165, true)), (.p (.mv (.tmp 9))), 0, []⟩,
⟨(some 167), (some (165, true)), (.h (.call (.c (.fn 101 [] [])) [(.tmp 166)])), 0, []⟩,
⟨(some 168), (some (165, true)), (.p (.un .not (.tmp 167))), 0, []⟩,
⟨(some 169), none, (.p (.pick (.tmp 165) (.tmp 168) (.c (.bool false)))), 0, []⟩])
(.cond (.tmp 169)
(.seq
(.ops [⟨(some 170), none, (.p (.mkIf 90 (.c (.int .i64 2)))), 0, []⟩,
⟨(some 6), none, (.p (.mv (.c (.int .u64 0)))), 0, []⟩,
⟨(some 7), none, (.p (.mv (.tmp 170))), 0, []⟩])
.ret)
.skip))
(.seq
(.ops [⟨(some 171), none, (.p (.mv (.tmp 13))), 0, []⟩,
⟨(some 6), none, (.p (.mv (.tmp 171))), 0, []⟩,
⟨(some 7), none, (.p (.mv (.c .nilif))), 0, []⟩])
.ret))))))))))))))⟩
theorem c85 : Mir.compF Tryz.prog Tryz.f85 = some g85 := by kernel_rfl
/-- internal/stringslite.Clone -/
def g86 : Mir.Fn := ⟨18, [(.tmp 2)],
(.seq
(.ops [⟨(some 2), none, (.p (.mv (.c (.str [])))), 0, []⟩])
(.seq
(.seq
(.ops [⟨(some 4), none, (.p (.mv (.tmp 0))), 0, []⟩,
⟨(some 5), none, (.p (.lenStr (.tmp 4))), 0, []⟩,
⟨(some 6), none, (.p (.bin .eql (.tmp 5) (.c (.int .i64 0)))), 0, []⟩])
(.cond (.tmp 6)
(.seq
(.ops [⟨(some 2), none, (.p (.mv (.c (.str [])))), 0, []⟩])
.ret)
.skip))
(.seq
(.ops [⟨(some 7), none, (.p (.mv (.tmp 0))), 0, []⟩,
⟨(some 8), none, (.p (.lenStr (.tmp 7))), 0, []⟩,
⟨(some 9), none, (.a (.make [(.int .u8 0)] 1 1 (.tmp 8) (.tmp 8))), 0, []⟩,
⟨(some 3), none, (.p (.mv (.tmp 9))), 0, []⟩])
(.seq
(.ops [⟨(some 10), none, (.p (.mv (.tmp 3))), 0, []⟩,
⟨(some 11), none, (.p (.mv (.tmp 0))), 0, []⟩,
⟨(some 12), none, (.h (.copy 1 (.tmp 10) (.tmp 11))), 0, []⟩])
(.seq
(.ops [⟨(some 13), none, (.p (.mv (.tmp 3))), 0, []⟩,
⟨(some 14), none, (.p (.idxSl 1 (.tmp 13) (.c (.int .i64 0)))), 0, []⟩,
⟨(some 15), none, (.p (.mv (.tmp 3))), 0, []⟩,
⟨(some 16), none, (.p (.lenSl (.tmp 15))), 0, []⟩,
⟨(some 17), none, (.h (.ustr (.tmp 14) (.tmp 16))), 0, []⟩,
⟨(some 2), none, (.p (.mv (.tmp 17))), 0, []⟩])
.ret)))))⟩
theorem c86 : Mir.compF Tryz.prog Tryz.f86 = some g86 := by kernel_rfl
/-- cmp.isNaN[string] -/
def g93 : Mir.Fn := ⟨6, [(.tmp 2)],
(.seq
(.ops [⟨(some 2), none, (.p (.mv (.c (.bool false)))), 0, []⟩])
(.seq
(.ops [⟨(some 3), none, (.p (.mv (.tmp 0))), 0, []⟩,
⟨(some 4), none, (.p (.mv (.tmp 0))), 0, []⟩,
⟨(some 5), none, (.p (.bin .neq (.tmp 3) (.tmp 4))), 0, []⟩,
⟨(some 2), none, (.p (.mv (.tmp 5))), 0, []⟩])
.ret))⟩
theorem c93 : Mir.compF Tryz.prog Tryz.f93 = some g93 := by kernel_rfl
/-- internal/strconv.log10Pow2 -/
def g94 : Mir.Fn := ⟨6, [(.tmp 2)],
(.seq
(.ops [⟨(some 2), none, (.p (.mv (.c (.int .i64 0)))), 0, []⟩])
(.seq
(.ops [⟨(some 3), none, (.p (.mv (.tmp 0))), 0, []⟩,
⟨(some 4), none, (.p (.bin .mul (.tmp 3) (.c (.int .i64 78913)))), 0, []⟩,
⟨(some 5), none, (.p (.bin .shr (.tmp 4) (.c (.int .u64 18)))), 0, []⟩,
⟨(some 2), none, (.p (.mv (.tmp 5))), 0, []⟩])
.ret))⟩
theorem c94 : Mir.compF Tryz.prog Tryz.f94 = some g94 := by kernel_rfl
/-- internal/strconv.bool2[int] -/
def g95 : Mir.Fn := ⟨4, [(.tmp 2)],
(.seq
(.ops [⟨(some 2), none, (.p (.mv (.c (.int .i64 0)))), 0, []⟩])
(.seq
(.seq
(.ops [⟨(some 3), none, (.p (.mv (.tmp 0))), 0, []⟩])
(.cond (.tmp 3)
(.seq
(.ops [⟨(some 2), none, (.p (.mv (.c (.int .i64 1)))), 0, []⟩])
.ret)
.skip))
(.seq
(.ops [⟨(some 2), none, (.p (.mv (.c (.int .i64 0)))), 0, []⟩])
.ret)))⟩
theorem c95 : Mir.compF Tryz.prog Tryz.f95 = some g95 := by kernel_rfl
/-- internal/strconv.lower -/
def g100 : Mir.Fn := ⟨5, [(.tmp 2)],
(.seq
(.ops [⟨(some 2), none, (.p (.mv (.c (.int .u8 0)))), 0, []⟩])
(.seq
(.ops [⟨(some 3), none, (.p (.mv (.tmp 0))), 0, []⟩,
⟨(some 4), none, (.p (.bin .or (.tmp 3) (.c (.int .u8 32)))), 0, []⟩,
⟨(some 2), none, (.p (.mv (.tmp 4))), 0, []⟩])
.ret))⟩
theorem c100 : Mir.compF Tryz.prog Tryz.f100 = some g100 := by kernel_rfl
end Go.Proofs.YtijipnkdabdioabGreatDoor
