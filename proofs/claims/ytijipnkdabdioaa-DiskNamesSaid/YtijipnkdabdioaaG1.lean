/- The mirror's code of the seat's functions; printed by KPrint. -/
import Derived.Test.YtijipnkdabdioaaMir24
import Derived.Test.YtijipnkdabdioaaRows
namespace Go.Proofs.Ytijipnkdabdioaa
/-- scribe/scribelaw03.DiskNames -/
def g3 : Mir.Fn := ⟨70, [(.tmp 6)],
(.seq
(.ops [⟨(some 6), none, (.p (.mv (.c (.bool false)))), 0, []⟩])
(.seq
(.ops [⟨(some 8), none, (.p (.mv (.tmp 0))), 0, []⟩,
⟨(some 9), none, (.h (.call (.c (.fn 10 [] [])) [(.tmp 8), (.c (.int .i64 60))])), 0, []⟩,
⟨(some 10), none, (.p (.mv (.tmp 1))), 0, []⟩,
⟨(some 11), none, (.h (.call (.c (.fn 10 [] [])) [(.tmp 10), (.c (.int .i64 60))])), 0, []⟩,
⟨(some 0), none, (.p (.mv (.tmp 9))), 0, []⟩,
⟨(some 1), none, (.p (.mv (.tmp 11))), 0, []⟩])
(.seq
(.seq
(.ops [⟨(some 12), none, (.p (.mv (.tmp 0))), 0, []⟩,
⟨(some 13), none, (.h (.call (.c (.fn 11 [] [])) [(.tmp 12)])), 0, []⟩,
⟨(some 14), none, (.p (.un .not (.tmp 13))), 0, []⟩,
⟨(some 15), none, (.p (.mv (.tmp 14))), 0, []⟩,
⟨(some 16), (some (15, false)), (.p (.mv (.tmp 1))), 0, []⟩,
⟨(some 17), (some (15, false)), (.h (.call (.c (.fn 11 [] [])) [(.tmp 16)])), 0, []⟩,
⟨(some 18), (some (15, false)), (.p (.un .not (.tmp 17))), 0, []⟩,
⟨(some 19), none, (.p (.pick (.tmp 15) (.c (.bool true)) (.tmp 18))), 0, []⟩])
(.cond (.tmp 19)
(.seq
(.ops [⟨(some 20), none, (.h (.call (.c (.fn 12 [] [])) [])), 0, []⟩,
⟨(some 6), none, (.p (.mv (.tmp 20))), 0, []⟩])
.ret)
.skip))
(.seq
(.ops [⟨(some 21), none, (.p (.mv (.tmp 2))), 0, []⟩,
⟨(some 22), none, (.p (.bin .geq (.tmp 21) (.c (.int .u8 65)))), 0, []⟩,
⟨(some 23), none, (.p (.mv (.tmp 22))), 0, []⟩,
⟨(some 24), (some (23, true)), (.p (.mv (.tmp 2))), 0, []⟩,
⟨(some 25), (some (23, true)), (.p (.bin .leq (.tmp 24) (.c (.int .u8 90)))), 0, []⟩,
⟨(some 26), none, (.p (.pick (.tmp 23) (.tmp 25) (.c (.bool false)))), 0, []⟩,
⟨(some 27), none, (.p (.mv (.tmp 26))), 0, []⟩,
⟨(some 28), (some (27, false)), (.p (.mv (.tmp 2))), 0, []⟩,
⟨(some 29), (some (27, false)), (.p (.bin .eql (.tmp 28) (.c (.int .u8 32)))), 0, []⟩,
⟨(some 30), none, (.p (.pick (.tmp 27) (.c (.bool true)) (.tmp 29))), 0, []⟩,
⟨(some 31), none, (.p (.mv (.tmp 30))), 0, []⟩,
⟨(some 32), (some (31, false)), (.p (.mv (.tmp 2))), 0, []⟩,
⟨(some 33), (some (31, false)), (.p (.bin .eql (.tmp 32) (.c (.int .u8 47)))), 0, []⟩,
⟨(some 34), none, (.p (.pick (.tmp 31) (.c (.bool true)) (.tmp 33))), 0, []⟩,
⟨(some 35), none, (.p (.mv (.tmp 34))), 0, []⟩,
⟨(some 36), (some (35, false)), (.p (.mv (.tmp 2))), 0, []⟩,
⟨(some 37), (some (35, false)), (.p (.bin .eql (.tmp 36) (.c (.int .u8 0)))), 0, []⟩,
⟨(some 38), none, (.p (.pick (.tmp 35) (.c (.bool true)) (.tmp 37))), 0, []⟩,
⟨(some 7), none, (.p (.mv (.tmp 38))), 0, []⟩])
(.seq
(.draw [⟨(some 39), none, (.h (.call (.c (.fn 12 [] [])) [])), 0, []⟩,
⟨(some 40), none, (.p (.mv (.tmp 39))), 1, []⟩,
⟨(some 41), (some (40, true)), (.p (.mv (.tmp 0))), 2, []⟩,
⟨(some 42), (some (40, true)), (.p (.mv (.tmp 1))), 3, []⟩,
⟨(some 43), (some (40, true)), (.p (.bin .add (.tmp 41) (.tmp 42))), 4, []⟩,
⟨(some 45), (some (40, true)), (.p (.mv (.tmp 0))), 6, []⟩,
⟨(some 46), (some (40, true)), (.p (.lenStr (.tmp 45))), 7, []⟩,
⟨(some 47), (some (40, true)), (.p (.mv (.tmp 1))), 8, []⟩,
⟨(some 48), (some (40, true)), (.p (.lenStr (.tmp 47))), 9, []⟩,
⟨(some 49), (some (40, true)), (.p (.bin .add (.tmp 46) (.tmp 48))), 10, []⟩,
⟨(some 50), (some (40, true)), (.p (.bin .leq (.tmp 49) (.c (.int .i64 40)))), 11, []⟩,
⟨(some 44), (some (40, true)), (.h (.call (.c (.fn 11 [] [])) [(.tmp 43)])), 5, []⟩,
⟨(some 51), (some (40, true)), (.p (.eq .bool false (.tmp 44) (.tmp 50))), 12, []⟩,
⟨(some 52), none, (.p (.pick (.tmp 40) (.tmp 51) (.c (.bool false)))), 13, []⟩,
⟨(some 53), none, (.p (.mv (.tmp 52))), 14, []⟩,
⟨(some 54), (some (53, true)), (.p (.mv (.tmp 7))), 15, []⟩,
⟨(some 55), (some (53, true)), (.p (.un .not (.tmp 54))), 16, []⟩,
⟨(some 56), (some (53, true)), (.p (.mv (.tmp 55))), 17, []⟩,
⟨(some 57), (some (56, false)), (.p (.mv (.tmp 0))), 18, []⟩,
⟨(some 59), (some (56, false)), (.p (.mv (.tmp 2))), 20, []⟩,
⟨(some 60), (some (56, false)), (.p (.byteStr false (.tmp 59))), 21, []⟩,
⟨(some 61), (some (56, false)), (.p (.byteStr true (.tmp 59))), 22, []⟩,
⟨(some 63), (some (56, false)), (.p (.mv (.tmp 1))), 24, []⟩,
⟨(some 58), (some (56, false)), (.h (.call (.c (.fn 10 [] [])) [(.tmp 57), (.c (.int .i64 20))])), 19, []⟩,
⟨(some 62), (some (56, false)), (.p (.bin .add (.tmp 58) (.tmp 61))), 23, []⟩,
⟨(some 64), (some (56, false)), (.h (.call (.c (.fn 10 [] [])) [(.tmp 63), (.c (.int .i64 19))])), 25, []⟩,
⟨(some 65), (some (56, false)), (.p (.bin .add (.tmp 62) (.tmp 64))), 26, []⟩,
⟨(some 66), (some (56, false)), (.h (.call (.c (.fn 11 [] [])) [(.tmp 65)])), 27, []⟩,
⟨(some 67), (some (56, false)), (.p (.un .not (.tmp 66))), 28, []⟩,
⟨(some 68), (some (53, true)), (.p (.pick (.tmp 56) (.c (.bool true)) (.tmp 67))), 29, []⟩,
⟨(some 69), none, (.p (.pick (.tmp 53) (.tmp 68) (.c (.bool false)))), 30, []⟩,
⟨(some 6), none, (.p (.mv (.tmp 69))), 31, []⟩])
.ret)))))⟩
theorem c3 : Mir.compF Try.prog Try.f3 = some g3 := by kernel_rfl
/-- scribe/scribelaw03.DiskFull -/
def g4 : Mir.Fn := ⟨101, [(.tmp 6)],
(.seq
(.ops [⟨(some 6), none, (.p (.mv (.c (.bool false)))), 0, []⟩])
(.seq
(.ops [⟨(some 12), none, (.p (.mv (.tmp 1))), 0, []⟩,
⟨(some 13), none, (.h (.call (.c (.fn 10 [] [])) [(.tmp 12), (.c (.int .i64 200))])), 0, []⟩,
⟨(some 14), none, (.p (.mv (.tmp 2))), 0, []⟩,
⟨(some 15), none, (.h (.call (.c (.fn 10 [] [])) [(.tmp 14), (.c (.int .i64 200))])), 0, []⟩,
⟨(some 1), none, (.p (.mv (.tmp 13))), 0, []⟩,
⟨(some 2), none, (.p (.mv (.tmp 15))), 0, []⟩])
(.seq
(.seq
(.ops [⟨(some 16), none, (.p (.mv (.tmp 0))), 0, []⟩,
⟨(some 17), none, (.p (.bin .lss (.tmp 16) (.c (.int .i64 0)))), 0, []⟩,
⟨(some 18), none, (.p (.mv (.tmp 17))), 0, []⟩,
⟨(some 19), (some (18, false)), (.p (.mv (.tmp 0))), 0, []⟩,
⟨(some 20), (some (18, false)), (.p (.bin .gtr (.tmp 19) (.c (.int .i64 500)))), 0, []⟩,
⟨(some 21), none, (.p (.pick (.tmp 18) (.c (.bool true)) (.tmp 20))), 0, []⟩])
(.cond (.tmp 21)
(.seq
(.ops [⟨(some 22), none, (.h (.call (.c (.fn 12 [] [])) [])), 0, []⟩,
⟨(some 6), none, (.p (.mv (.tmp 22))), 0, []⟩])
.ret)
.skip))
(.seq
(.ops [⟨(some 23), none, (.p (.mv (.tmp 0))), 0, []⟩,
⟨(some 24), none, (.h (.call (.c (.fn 13 [] [])) [(.tmp 23)])), 0, []⟩,
⟨(some 7), none, (.p (.mv (.tmp 24))), 0, []⟩])
(.seq
(.seq
(.ops [⟨(some 25), none, (.p (.mv (.tmp 7))), 0, []⟩,
⟨(some 26), none, (.p (.eq .ptr false (.tmp 25) (.c .nilptr))), 0, []⟩])
(.cond (.tmp 26)
(.seq
(.ops [⟨(some 6), none, (.p (.mv (.c (.bool false)))), 0, []⟩])
.ret)
.skip))
(.seq
(.ops [⟨(some 27), none, (.p (.mv (.tmp 7))), 0, []⟩,
⟨(some 28), none, (.p (.mv (.tmp 1))), 0, []⟩,
⟨(some 29), none, (.h (.call (.c (.fn 14 [] [])) [(.tmp 27), (.c (.str [97])), (.tmp 28)])), 0, []⟩,
⟨(some 8), none, (.p (.mv (.tmp 29))), 0, []⟩])
(.seq
(.ops [⟨(some 30), none, (.p (.mv (.tmp 7))), 0, []⟩,
⟨(some 31), none, (.p (.mv (.tmp 2))), 0, []⟩,
⟨(some 32), none, (.h (.call (.c (.fn 14 [] [])) [(.tmp 30), (.c (.str [98])), (.tmp 31)])), 0, []⟩,
⟨(some 9), none, (.p (.mv (.tmp 32))), 0, []⟩])
(.seq
(.ops [⟨(some 10), none, (.p (.mv (.c (.int .i64 0)))), 0, []⟩])
(.seq
(.seq
(.ops [⟨(some 33), none, (.p (.mv (.tmp 1))), 0, []⟩,
⟨(some 34), none, (.p (.lenStr (.tmp 33))), 0, []⟩,
⟨(some 35), none, (.p (.mv (.tmp 0))), 0, []⟩,
⟨(some 36), none, (.p (.bin .leq (.tmp 34) (.tmp 35))), 0, []⟩])
(.cond (.tmp 36)
(.ops [⟨(some 37), none, (.p (.mv (.tmp 1))), 0, []⟩,
⟨(some 38), none, (.p (.lenStr (.tmp 37))), 0, []⟩,
⟨(some 10), none, (.p (.mv (.tmp 38))), 0, []⟩])
.skip))
(.seq
(.ops [⟨(some 39), none, (.p (.mv (.tmp 2))), 0, []⟩,
⟨(some 40), none, (.p (.lenStr (.tmp 39))), 0, []⟩,
⟨(some 41), none, (.p (.mv (.tmp 0))), 0, []⟩,
⟨(some 42), none, (.p (.mv (.tmp 10))), 0, []⟩,
⟨(some 43), none, (.p (.bin .sub (.tmp 41) (.tmp 42))), 0, []⟩,
⟨(some 44), none, (.p (.bin .leq (.tmp 40) (.tmp 43))), 0, []⟩,
⟨(some 11), none, (.p (.mv (.tmp 44))), 0, []⟩])
(.seq
(.seq
(.ops [⟨(some 45), none, (.p (.mv (.tmp 8))), 0, []⟩,
⟨(some 46), none, (.p (.bin .eql (.tmp 45) (.c (.int .i64 0)))), 0, []⟩,
⟨(some 47), none, (.p (.mv (.tmp 1))), 0, []⟩,
⟨(some 48), none, (.p (.lenStr (.tmp 47))), 0, []⟩,
⟨(some 49), none, (.p (.mv (.tmp 0))), 0, []⟩,
⟨(some 50), none, (.p (.bin .leq (.tmp 48) (.tmp 49))), 0, []⟩,
⟨(some 51), none, (.p (.eq .bool true (.tmp 46) (.tmp 50))), 0, []⟩,
⟨(some 52), none, (.p (.mv (.tmp 51))), 0, []⟩,
⟨(some 53), (some (52, false)), (.p (.mv (.tmp 9))), 0, []⟩,
⟨(some 54), (some (52, false)), (.p (.bin .eql (.tmp 53) (.c (.int .i64 0)))), 0, []⟩,
⟨(some 55), (some (52, false)), (.p (.mv (.tmp 11))), 0, []⟩,
⟨(some 56), (some (52, false)), (.p (.eq .bool true (.tmp 54) (.tmp 55))), 0, []⟩,
⟨(some 57), none, (.p (.pick (.tmp 52) (.c (.bool true)) (.tmp 56))), 0, []⟩,
⟨(some 58), none, (.p (.mv (.tmp 57))), 0, []⟩,
⟨(some 59), (some (58, false)), (.p (.mv (.tmp 8))), 0, []⟩,
⟨(some 60), (some (58, false)), (.p (.bin .neq (.tmp 59) (.c (.int .i64 0)))), 0, []⟩,
⟨(some 61), (some (58, false)), (.p (.mv (.tmp 60))), 0, []⟩,
⟨(some 62), (some (61, true)), (.p (.mv (.tmp 8))), 0, []⟩,
⟨(some 63), (some (61, true)), (.p (.bin .neq (.tmp 62) (.c (.int .i64 7)))), 0, []⟩,
⟨(some 64), (some (58, false)), (.p (.pick (.tmp 61) (.tmp 63) (.c (.bool false)))), 0, []⟩,
⟨(some 65), none, (.p (.pick (.tmp 58) (.c (.bool true)) (.tmp 64))), 0, []⟩,
⟨(some 66), none, (.p (.mv (.tmp 65))), 0, []⟩,
⟨(some 67), (some (66, false)), (.p (.mv (.tmp 9))), 0, []⟩,
⟨(some 68), (some (66, false)), (.p (.bin .neq (.tmp 67) (.c (.int .i64 0)))), 0, []⟩,
⟨(some 69), (some (66, false)), (.p (.mv (.tmp 68))), 0, []⟩,
⟨(some 70), (some (69, true)), (.p (.mv (.tmp 9))), 0, []⟩,
⟨(some 71), (some (69, true)), (.p (.bin .neq (.tmp 70) (.c (.int .i64 7)))), 0, []⟩,
⟨(some 72), (some (66, false)), (.p (.pick (.tmp 69) (.tmp 71) (.c (.bool false)))), 0, []⟩,
⟨(some 73), none, (.p (.pick (.tmp 66) (.c (.bool true)) (.tmp 72))), 0, []⟩])
(.cond (.tmp 73)
(.seq
(.ops [⟨(some 6), none, (.p (.mv (.c (.bool false)))), 0, []⟩])
.ret)
.skip))
(.seq
(.seq
(.ops [⟨(some 74), none, (.p (.mv (.tmp 11))), 0, []⟩])
(.cond (.tmp 74)
(.ops [⟨(some 75), none, (.p (.mv (.tmp 10))), 0, []⟩,
⟨(some 76), none, (.p (.mv (.tmp 2))), 0, []⟩,
⟨(some 77), none, (.p (.lenStr (.tmp 76))), 0, []⟩,
⟨(some 78), none, (.p (.bin .add (.tmp 75) (.tmp 77))), 0, []⟩,
⟨(some 10), none, (.p (.mv (.tmp 78))), 0, []⟩])
.skip))
(.seq
(.seq
(.ops [⟨(some 79), none, (.p (.mv (.tmp 7))), 0, []⟩,
⟨(some 80), none, (.h (.call (.c (.fn 15 [] [])) [(.tmp 79)])), 0, []⟩,
⟨(some 81), none, (.p (.mv (.tmp 10))), 0, []⟩,
⟨(some 82), none, (.p (.bin .neq (.tmp 80) (.tmp 81))), 0, []⟩])
(.cond (.tmp 82)
(.seq
(.ops [⟨(some 6), none, (.p (.mv (.c (.bool false)))), 0, []⟩])
.ret)
.skip))
(.seq
(.ops [⟨(some 83), none, (.p (.mv (.tmp 7))), 0, []⟩,
⟨(some 84), none, (.h (.call (.c (.fn 16 [] [])) [(.tmp 83), (.c (.int .i64 1000))])), 0, []⟩])
(.seq
(.ops [⟨(some 85), none, (.h (.call (.c (.fn 12 [] [])) [])), 0, []⟩,
⟨(some 86), none, (.p (.mv (.tmp 85))), 0, []⟩,
⟨(some 87), (some (86, true)), (.p (.mv (.tmp 7))), 0, []⟩,
⟨(some 88), (some (86, true)), (.p (.mv (.tmp 1))), 0, []⟩,
⟨(some 89), (some (86, true)), (.h (.call (.c (.fn 14 [] [])) [(.tmp 87), (.c (.str [99])), (.tmp 88)])), 0, []⟩,
⟨(some 90), (some (86, true)), (.p (.bin .eql (.tmp 89) (.c (.int .i64 0)))), 0, []⟩,
⟨(some 91), none, (.p (.pick (.tmp 86) (.tmp 90) (.c (.bool false)))), 0, []⟩,
⟨(some 92), none, (.p (.mv (.tmp 91))), 0, []⟩,
⟨(some 93), (some (92, true)), (.p (.mv (.tmp 7))), 0, []⟩,
⟨(some 94), (some (92, true)), (.h (.call (.c (.fn 15 [] [])) [(.tmp 93)])), 0, []⟩,
⟨(some 95), (some (92, true)), (.p (.mv (.tmp 10))), 0, []⟩,
⟨(some 96), (some (92, true)), (.p (.mv (.tmp 1))), 0, []⟩,
⟨(some 97), (some (92, true)), (.p (.lenStr (.tmp 96))), 0, []⟩,
⟨(some 98), (some (92, true)), (.p (.bin .add (.tmp 95) (.tmp 97))), 0, []⟩,
⟨(some 99), (some (92, true)), (.p (.bin .eql (.tmp 94) (.tmp 98))), 0, []⟩,
⟨(some 100), none, (.p (.pick (.tmp 92) (.tmp 99) (.c (.bool false)))), 0, []⟩,
⟨(some 6), none, (.p (.mv (.tmp 100))), 0, []⟩])
.ret)))))))))))))))⟩
theorem c4 : Mir.compF Try.prog Try.f4 = some g4 := by kernel_rfl
/-- scribe/scribelaw03.DiskDies -/
def g5 : Mir.Fn := ⟨94, [(.tmp 4)],
(.seq
(.ops [⟨(some 4), none, (.p (.mv (.c (.bool false)))), 0, []⟩])
(.seq
(.seq
(.ops [⟨(some 14), none, (.p (.mv (.tmp 0))), 0, []⟩,
⟨(some 15), none, (.p (.bin .lss (.tmp 14) (.c (.int .i64 0)))), 0, []⟩,
⟨(some 16), none, (.p (.mv (.tmp 15))), 0, []⟩,
⟨(some 17), (some (16, false)), (.p (.mv (.tmp 0))), 0, []⟩,
⟨(some 18), (some (16, false)), (.p (.bin .gtr (.tmp 17) (.c (.int .i64 30)))), 0, []⟩,
⟨(some 19), none, (.p (.pick (.tmp 16) (.c (.bool true)) (.tmp 18))), 0, []⟩])
(.cond (.tmp 19)
(.seq
(.ops [⟨(some 20), none, (.h (.call (.c (.fn 12 [] [])) [])), 0, []⟩,
⟨(some 4), none, (.p (.mv (.tmp 20))), 0, []⟩])
.ret)
.skip))
(.seq
(.ops [⟨(some 21), none, (.p (.mv (.tmp 1))), 0, []⟩,
⟨(some 22), none, (.h (.call (.c (.fn 10 [] [])) [(.tmp 21), (.c (.int .i64 50))])), 0, []⟩,
⟨(some 1), none, (.p (.mv (.tmp 22))), 0, []⟩])
(.seq
(.ops [⟨(some 23), none, (.h (.call (.c (.fn 13 [] [])) [(.c (.int .i64 100000))])), 0, []⟩,
⟨(some 5), none, (.p (.mv (.tmp 23))), 0, []⟩])
(.seq
(.seq
(.ops [⟨(some 24), none, (.p (.mv (.tmp 5))), 0, []⟩,
⟨(some 25), none, (.p (.eq .ptr false (.tmp 24) (.c .nilptr))), 0, []⟩,
⟨(some 26), none, (.p (.mv (.tmp 25))), 0, []⟩,
⟨(some 27), (some (26, false)), (.p (.mv (.tmp 5))), 0, []⟩,
⟨(some 28), (some (26, false)), (.p (.mv (.tmp 1))), 0, []⟩,
⟨(some 29), (some (26, false)), (.h (.call (.c (.fn 14 [] [])) [(.tmp 27), (.c (.str [97])), (.tmp 28)])), 0, []⟩,
⟨(some 30), (some (26, false)), (.p (.bin .neq (.tmp 29) (.c (.int .i64 0)))), 0, []⟩,
⟨(some 31), none, (.p (.pick (.tmp 26) (.c (.bool true)) (.tmp 30))), 0, []⟩])
(.cond (.tmp 31)
(.seq
(.ops [⟨(some 4), none, (.p (.mv (.c (.bool false)))), 0, []⟩])
.ret)
.skip))
(.seq
(.ops [⟨(some 32), none, (.p (.mv (.tmp 5))), 0, []⟩,
⟨(some 33), none, (.p (.mv (.tmp 0))), 0, []⟩,
⟨(some 34), none, (.h (.call (.c (.fn 17 [] [])) [(.tmp 32), (.tmp 33)])), 0, []⟩])
(.seq
(.ops [⟨(some 6), none, (.p (.mv (.c (.int .i64 0)))), 0, []⟩])
(.seq
(.seq
(.ops [⟨(some 7), none, (.p (.mv (.c (.int .i64 0)))), 0, []⟩])
(.block 0 (.loop (.seq
(.seq
(.ops [⟨(some 35), none, (.p (.mv (.tmp 7))), 0, []⟩,
⟨(some 36), none, (.p (.bin .lss (.tmp 35) (.c (.int .i64 40)))), 0, []⟩])
(.cond (.tmp 36)
.skip
(.exit 0)))
(.seq
(.block 1 (.seq
(.ops [⟨(some 8), none, (.p (.mv (.c (.int .i64 0)))), 0, []⟩])
(.seq
(.seq
(.ops [⟨(some 39), none, (.p (.mv (.tmp 7))), 0, []⟩,
⟨(some 40), none, (.p (.bin .rem (.tmp 39) (.c (.int .i64 2)))), 0, []⟩,
⟨(some 41), none, (.p (.bin .eql (.tmp 40) (.c (.int .i64 1)))), 0, []⟩])
(.cond (.tmp 41)
(.ops [⟨(some 42), none, (.p (.mv (.tmp 5))), 0, []⟩,
⟨(some 43), none, (.h (.call (.c (.fn 18 [] [])) [(.tmp 42)])), 0, []⟩,
⟨(some 8), none, (.p (.mv (.tmp 43))), 0, []⟩])
(.ops [⟨(some 44), none, (.p (.mv (.tmp 5))), 0, []⟩,
⟨(some 45), none, (.h (.call (.c (.fn 19 [] [])) [(.tmp 44), (.c (.str [97]))])), 0, []⟩,
⟨(some 8), none, (.p (.mv (.tmp 45))), 0, []⟩])))
(.seq
(.ops [⟨(some 46), none, (.p (.mv (.tmp 8))), 0, []⟩,
⟨(some 47), none, (.p (.bin .eql (.tmp 46) (.c (.int .i64 0)))), 0, []⟩])
(.cond (.tmp 47)
(.ops [⟨(some 48), none, (.p (.mv (.tmp 6))), 0, []⟩,
⟨(some 49), none, (.p (.bin .add (.tmp 48) (.c (.int .i64 1)))), 0, []⟩,
⟨(some 6), none, (.p (.mv (.tmp 49))), 0, []⟩])
(.seq
(.ops [⟨(some 50), none, (.p (.mv (.tmp 8))), 0, []⟩,
⟨(some 51), none, (.p (.bin .neq (.tmp 50) (.c (.int .i64 8)))), 0, []⟩])
(.cond (.tmp 51)
(.seq
(.ops [⟨(some 4), none, (.p (.mv (.c (.bool false)))), 0, []⟩])
.ret)
.skip)))))))
(.ops [⟨(some 37), none, (.p (.mv (.tmp 7))), 0, []⟩,
⟨(some 38), none, (.p (.bin .add (.tmp 37) (.c (.int .i64 1)))), 0, []⟩,
⟨(some 7), none, (.p (.mv (.tmp 38))), 0, []⟩]))))))
(.seq
(.seq
(.ops [⟨(some 52), none, (.p (.mv (.tmp 6))), 0, []⟩,
⟨(some 53), none, (.p (.mv (.tmp 0))), 0, []⟩,
⟨(some 54), none, (.p (.bin .neq (.tmp 52) (.tmp 53))), 0, []⟩,
⟨(some 55), none, (.p (.mv (.tmp 54))), 0, []⟩,
⟨(some 56), (some (55, false)), (.p (.mv (.tmp 5))), 0, []⟩,
⟨(some 57), (some (55, false)), (.h (.call (.c (.fn 20 [] [])) [(.tmp 56)])), 0, []⟩,
⟨(some 58), (some (55, false)), (.p (.un .not (.tmp 57))), 0, []⟩,
⟨(some 59), none, (.p (.pick (.tmp 55) (.c (.bool true)) (.tmp 58))), 0, []⟩])
(.cond (.tmp 59)
(.seq
(.ops [⟨(some 4), none, (.p (.mv (.c (.bool false)))), 0, []⟩])
.ret)
.skip))
(.seq
(.ops [⟨(some 61), none, (.p (.mv (.tmp 5))), 0, []⟩,
⟨(some 62), none, (.h (.call (.c (.fn 21 [] [])) [(.tmp 61), (.c (.str [97])), (.c (.int .i64 0)), (.c (.int .i64 1))])), 0, []⟩,
⟨(some 60), none, (.p (.mv (.tmp 62))), 0, []⟩,
⟨(some 63), none, (.p (.ext (.tmp 60) 0)), 0, []⟩,
⟨(some 64), none, (.p (.ext (.tmp 60) 1)), 0, []⟩,
⟨(some 9), none, (.p (.mv (.tmp 63))), 0, []⟩,
⟨(some 10), none, (.p (.mv (.tmp 64))), 0, []⟩])
(.seq
(.ops [⟨(some 65), none, (.p (.mv (.tmp 5))), 0, []⟩,
⟨(some 66), none, (.h (.call (.c (.fn 22 [] [])) [(.tmp 65), (.c .nilsl), (.c (.bool true))])), 0, []⟩])
(.seq
(.ops [⟨(some 68), none, (.p (.mv (.tmp 5))), 0, []⟩,
⟨(some 69), none, (.h (.call (.c (.fn 21 [] [])) [(.tmp 68), (.c (.str [97])), (.c (.int .i64 0)), (.c (.int .i64 100))])), 0, []⟩,
⟨(some 67), none, (.p (.mv (.tmp 69))), 0, []⟩,
⟨(some 70), none, (.p (.ext (.tmp 67) 0)), 0, []⟩,
⟨(some 71), none, (.p (.ext (.tmp 67) 1)), 0, []⟩,
⟨(some 11), none, (.p (.mv (.tmp 70))), 0, []⟩,
⟨(some 12), none, (.p (.mv (.tmp 71))), 0, []⟩])
(.seq
(.ops [⟨(some 13), none, (.p (.mv (.c (.str [])))), 0, []⟩])
(.seq
(.seq
(.ops [⟨(some 72), none, (.p (.mv (.tmp 0))), 0, []⟩,
⟨(some 73), none, (.p (.bin .gtr (.tmp 72) (.c (.int .i64 0)))), 0, []⟩])
(.cond (.tmp 73)
(.ops [⟨(some 74), none, (.p (.mv (.tmp 1))), 0, []⟩,
⟨(some 13), none, (.p (.mv (.tmp 74))), 0, []⟩])
.skip))
(.seq
(.ops [⟨(some 75), none, (.h (.call (.c (.fn 12 [] [])) [])), 0, []⟩,
⟨(some 76), none, (.p (.mv (.tmp 75))), 0, []⟩,
⟨(some 77), (some (76, true)), (.p (.mv (.tmp 10))), 0, []⟩,
⟨(some 78), (some (76, true)), (.p (.bin .eql (.tmp 77) (.c (.int .i64 8)))), 0, []⟩,
⟨(some 79), none, (.p (.pick (.tmp 76) (.tmp 78) (.c (.bool false)))), 0, []⟩,
⟨(some 80), none, (.p (.mv (.tmp 79))), 0, []⟩,
⟨(some 81), (some (80, true)), (.p (.mv (.tmp 12))), 0, []⟩,
⟨(some 82), (some (80, true)), (.p (.bin .eql (.tmp 81) (.c (.int .i64 0)))), 0, []⟩,
⟨(some 83), none, (.p (.pick (.tmp 80) (.tmp 82) (.c (.bool false)))), 0, []⟩,
⟨(some 84), none, (.p (.mv (.tmp 83))), 0, []⟩,
⟨(some 85), (some (84, true)), (.p (.mv (.tmp 11))), 0, []⟩,
⟨(some 86), (some (84, true)), (.p (.mv (.tmp 13))), 0, []⟩,
⟨(some 87), (some (84, true)), (.p (.bin .eql (.tmp 85) (.tmp 86))), 0, []⟩,
⟨(some 88), none, (.p (.pick (.tmp 84) (.tmp 87) (.c (.bool false)))), 0, []⟩,
⟨(some 89), none, (.p (.mv (.tmp 88))), 0, []⟩,
⟨(some 90), (some (89, true)), (.p (.mv (.tmp 5))), 0, []⟩,
⟨(some 91), (some (89, true)), (.h (.call (.c (.fn 20 [] [])) [(.tmp 90)])), 0, []⟩,
⟨(some 92), (some (89, true)), (.p (.un .not (.tmp 91))), 0, []⟩,
⟨(some 93), none, (.p (.pick (.tmp 89) (.tmp 92) (.c (.bool false)))), 0, []⟩,
⟨(some 4), none, (.p (.mv (.tmp 93))), 0, []⟩])
.ret)))))))))))))))⟩
theorem c5 : Mir.compF Try.prog Try.f5 = some g5 := by kernel_rfl
/-- scribe/scribelaw03.DiskPieces -/
def g6 : Mir.Fn := ⟨142, [(.tmp 6)],
(.seq
(.ops [⟨(some 6), none, (.p (.mv (.c (.bool false)))), 0, []⟩])
(.seq
(.seq
(.ops [⟨(some 22), none, (.p (.mv (.tmp 1))), 0, []⟩,
⟨(some 23), none, (.p (.bin .lss (.tmp 22) (.c (.int .i64 1)))), 0, []⟩,
⟨(some 24), none, (.p (.mv (.tmp 23))), 0, []⟩,
⟨(some 25), (some (24, false)), (.p (.mv (.tmp 1))), 0, []⟩,
⟨(some 26), (some (24, false)), (.p (.bin .gtr (.tmp 25) (.c (.int .i64 100)))), 0, []⟩,
⟨(some 27), none, (.p (.pick (.tmp 24) (.c (.bool true)) (.tmp 26))), 0, []⟩])
(.cond (.tmp 27)
(.seq
(.ops [⟨(some 28), none, (.h (.call (.c (.fn 12 [] [])) [])), 0, []⟩,
⟨(some 6), none, (.p (.mv (.tmp 28))), 0, []⟩])
.ret)
.skip))
(.seq
(.ops [⟨(some 29), none, (.h (.call (.c (.fn 13 [] [])) [(.c (.int .i64 100000))])), 0, []⟩,
⟨(some 7), none, (.p (.mv (.tmp 29))), 0, []⟩])
(.seq
(.ops [⟨(some 8), none, (.p (.mv (.c (.str [])))), 0, []⟩])
(.seq
(.seq
(.ops [⟨(some 9), none, (.p (.mv (.c (.int .i64 0)))), 0, []⟩])
(.block 0 (.loop (.seq
(.seq
(.ops [⟨(some 30), none, (.p (.mv (.tmp 9))), 0, []⟩,
⟨(some 31), none, (.p (.mv (.tmp 0))), 0, []⟩,
⟨(some 32), none, (.p (.lenSl (.tmp 31))), 0, []⟩,
⟨(some 33), none, (.p (.bin .lss (.tmp 30) (.tmp 32))), 0, []⟩,
⟨(some 34), none, (.p (.mv (.tmp 33))), 0, []⟩,
⟨(some 35), (some (34, true)), (.p (.mv (.tmp 9))), 0, []⟩,
⟨(some 36), (some (34, true)), (.p (.bin .lss (.tmp 35) (.c (.int .i64 20)))), 0, []⟩,
⟨(some 37), none, (.p (.pick (.tmp 34) (.tmp 36) (.c (.bool false)))), 0, []⟩])
(.cond (.tmp 37)
.skip
(.exit 0)))
(.seq
(.block 1 (.seq
(.ops [⟨(some 40), none, (.p (.mv (.tmp 0))), 0, []⟩,
⟨(some 41), none, (.p (.mv (.tmp 9))), 0, []⟩,
⟨(some 42), none, (.p (.idxSl 1 (.tmp 40) (.tmp 41))), 0, []⟩,
⟨(some 43), none, (.r (.load 1 false (.tmp 42))), 0, []⟩,
⟨(some 44), none, (.h (.call (.c (.fn 10 [] [])) [(.tmp 43), (.c (.int .i64 50))])), 0, []⟩,
⟨(some 10), none, (.p (.mv (.tmp 44))), 0, []⟩])
(.seq
(.seq
(.ops [⟨(some 45), none, (.p (.mv (.tmp 7))), 0, []⟩,
⟨(some 46), none, (.p (.mv (.tmp 10))), 0, []⟩,
⟨(some 47), none, (.h (.call (.c (.fn 14 [] [])) [(.tmp 45), (.c (.str [102])), (.tmp 46)])), 0, []⟩,
⟨(some 48), none, (.p (.bin .neq (.tmp 47) (.c (.int .i64 0)))), 0, []⟩])
(.cond (.tmp 48)
(.seq
(.ops [⟨(some 6), none, (.p (.mv (.c (.bool false)))), 0, []⟩])
.ret)
.skip))
(.ops [⟨(some 49), none, (.p (.mv (.tmp 8))), 0, []⟩,
⟨(some 50), none, (.p (.mv (.tmp 10))), 0, []⟩,
⟨(some 51), none, (.p (.bin .add (.tmp 49) (.tmp 50))), 0, []⟩,
⟨(some 8), none, (.p (.mv (.tmp 51))), 0, []⟩]))))
(.ops [⟨(some 38), none, (.p (.mv (.tmp 9))), 0, []⟩,
⟨(some 39), none, (.p (.bin .add (.tmp 38) (.c (.int .i64 1)))), 0, []⟩,
⟨(some 9), none, (.p (.mv (.tmp 39))), 0, []⟩]))))))
(.seq
(.seq
(.ops [⟨(some 52), none, (.p (.mv (.tmp 0))), 0, []⟩,
⟨(some 53), none, (.p (.lenSl (.tmp 52))), 0, []⟩,
⟨(some 54), none, (.p (.bin .eql (.tmp 53) (.c (.int .i64 0)))), 0, []⟩])
(.cond (.tmp 54)
(.seq
(.ops [⟨(some 56), none, (.p (.mv (.tmp 7))), 0, []⟩,
⟨(some 57), none, (.h (.call (.c (.fn 23 [] [])) [(.tmp 56), (.c (.str [102]))])), 0, []⟩,
⟨(some 55), none, (.p (.mv (.tmp 57))), 0, []⟩,
⟨(some 58), none, (.p (.ext (.tmp 55) 0)), 0, []⟩,
⟨(some 59), none, (.p (.ext (.tmp 55) 1)), 0, []⟩,
⟨(some 11), none, (.p (.mv (.tmp 58))), 0, []⟩,
⟨(some 12), none, (.p (.mv (.tmp 59))), 0, []⟩])
(.seq
(.ops [⟨(some 60), none, (.h (.call (.c (.fn 12 [] [])) [])), 0, []⟩,
⟨(some 61), none, (.p (.mv (.tmp 60))), 0, []⟩,
⟨(some 62), (some (61, true)), (.p (.mv (.tmp 12))), 0, []⟩,
⟨(some 63), (some (61, true)), (.p (.bin .eql (.tmp 62) (.c (.int .i64 5)))), 0, []⟩,
⟨(some 64), none, (.p (.pick (.tmp 61) (.tmp 63) (.c (.bool false)))), 0, []⟩,
⟨(some 6), none, (.p (.mv (.tmp 64))), 0, []⟩])
.ret))
.skip))
(.seq
(.ops [⟨(some 13), none, (.p (.mv (.c (.str [])))), 0, []⟩])
(.seq
(.seq
(.ops [⟨(some 14), none, (.p (.mv (.c (.int .i64 0)))), 0, []⟩])
(.block 2 (.loop (.seq
(.seq
(.ops [⟨(some 65), none, (.p (.mv (.tmp 14))), 0, []⟩,
⟨(some 66), none, (.p (.mv (.tmp 8))), 0, []⟩,
⟨(some 67), none, (.p (.lenStr (.tmp 66))), 0, []⟩,
⟨(some 68), none, (.p (.bin .lss (.tmp 65) (.tmp 67))), 0, []⟩])
(.cond (.tmp 68)
.skip
(.exit 2)))
(.seq
(.block 3 (.seq
(.ops [⟨(some 73), none, (.p (.mv (.tmp 7))), 0, []⟩,
⟨(some 74), none, (.p (.mv (.tmp 14))), 0, []⟩,
⟨(some 75), none, (.p (.mv (.tmp 1))), 0, []⟩,
⟨(some 76), none, (.h (.call (.c (.fn 21 [] [])) [(.tmp 73), (.c (.str [102])), (.tmp 74), (.tmp 75)])), 0, []⟩,
⟨(some 72), none, (.p (.mv (.tmp 76))), 0, []⟩,
⟨(some 77), none, (.p (.ext (.tmp 72) 0)), 0, []⟩,
⟨(some 78), none, (.p (.ext (.tmp 72) 1)), 0, []⟩,
⟨(some 15), none, (.p (.mv (.tmp 77))), 0, []⟩,
⟨(some 16), none, (.p (.mv (.tmp 78))), 0, []⟩])
(.seq
(.seq
(.ops [⟨(some 79), none, (.p (.mv (.tmp 16))), 0, []⟩,
⟨(some 80), none, (.p (.bin .neq (.tmp 79) (.c (.int .i64 0)))), 0, []⟩,
⟨(some 81), none, (.p (.mv (.tmp 80))), 0, []⟩,
⟨(some 82), (some (81, false)), (.p (.mv (.tmp 15))), 0, []⟩,
⟨(some 83), (some (81, false)), (.p (.lenStr (.tmp 82))), 0, []⟩,
⟨(some 84), (some (81, false)), (.p (.mv (.tmp 1))), 0, []⟩,
⟨(some 85), (some (81, false)), (.p (.bin .gtr (.tmp 83) (.tmp 84))), 0, []⟩,
⟨(some 86), none, (.p (.pick (.tmp 81) (.c (.bool true)) (.tmp 85))), 0, []⟩])
(.cond (.tmp 86)
(.seq
(.ops [⟨(some 6), none, (.p (.mv (.c (.bool false)))), 0, []⟩])
.ret)
.skip))
(.ops [⟨(some 87), none, (.p (.mv (.tmp 13))), 0, []⟩,
⟨(some 88), none, (.p (.mv (.tmp 15))), 0, []⟩,
⟨(some 89), none, (.p (.bin .add (.tmp 87) (.tmp 88))), 0, []⟩,
⟨(some 13), none, (.p (.mv (.tmp 89))), 0, []⟩]))))
(.ops [⟨(some 69), none, (.p (.mv (.tmp 14))), 0, []⟩,
⟨(some 70), none, (.p (.mv (.tmp 1))), 0, []⟩,
⟨(some 71), none, (.p (.bin .add (.tmp 69) (.tmp 70))), 0, []⟩,
⟨(some 14), none, (.p (.mv (.tmp 71))), 0, []⟩]))))))
(.seq
(.seq
(.ops [⟨(some 90), none, (.p (.mv (.tmp 13))), 0, []⟩,
⟨(some 91), none, (.p (.mv (.tmp 8))), 0, []⟩,
⟨(some 92), none, (.p (.bin .neq (.tmp 90) (.tmp 91))), 0, []⟩])
(.cond (.tmp 92)
(.seq
(.ops [⟨(some 6), none, (.p (.mv (.c (.bool false)))), 0, []⟩])
.ret)
.skip))
(.seq
(.ops [⟨(some 93), none, (.p (.mv (.tmp 7))), 0, []⟩,
⟨(some 94), none, (.p (.mv (.tmp 2))), 0, []⟩,
⟨(some 95), none, (.h (.call (.c (.fn 24 [] [])) [(.tmp 93), (.c (.str [102])), (.tmp 94)])), 0, []⟩,
⟨(some 17), none, (.p (.mv (.tmp 95))), 0, []⟩])
(.seq
(.ops [⟨(some 97), none, (.p (.mv (.tmp 7))), 0, []⟩,
⟨(some 98), none, (.h (.call (.c (.fn 23 [] [])) [(.tmp 97), (.c (.str [102]))])), 0, []⟩,
⟨(some 96), none, (.p (.mv (.tmp 98))), 0, []⟩,
⟨(some 99), none, (.p (.ext (.tmp 96) 0)), 0, []⟩,
⟨(some 100), none, (.p (.ext (.tmp 96) 1)), 0, []⟩,
⟨(some 18), none, (.p (.mv (.tmp 99))), 0, []⟩,
⟨(some 19), none, (.p (.mv (.tmp 100))), 0, []⟩])
(.seq
(.seq
(.ops [⟨(some 101), none, (.p (.mv (.tmp 2))), 0, []⟩,
⟨(some 102), none, (.p (.bin .lss (.tmp 101) (.c (.int .i64 0)))), 0, []⟩,
⟨(some 103), none, (.p (.mv (.tmp 102))), 0, []⟩,
⟨(some 104), (some (103, false)), (.p (.mv (.tmp 2))), 0, []⟩,
⟨(some 105), (some (103, false)), (.p (.mv (.tmp 8))), 0, []⟩,
⟨(some 106), (some (103, false)), (.p (.lenStr (.tmp 105))), 0, []⟩,
⟨(some 107), (some (103, false)), (.p (.bin .gtr (.tmp 104) (.tmp 106))), 0, []⟩,
⟨(some 108), none, (.p (.pick (.tmp 103) (.c (.bool true)) (.tmp 107))), 0, []⟩])
(.cond (.tmp 108)
(.seq
(.ops [⟨(some 109), none, (.h (.call (.c (.fn 12 [] [])) [])), 0, []⟩,
⟨(some 110), none, (.p (.mv (.tmp 109))), 0, []⟩,
⟨(some 111), (some (110, true)), (.p (.mv (.tmp 17))), 0, []⟩,
⟨(some 112), (some (110, true)), (.p (.bin .eql (.tmp 111) (.c (.int .i64 1)))), 0, []⟩,
⟨(some 113), none, (.p (.pick (.tmp 110) (.tmp 112) (.c (.bool false)))), 0, []⟩,
⟨(some 114), none, (.p (.mv (.tmp 113))), 0, []⟩,
⟨(some 115), (some (114, true)), (.p (.mv (.tmp 18))), 0, []⟩,
⟨(some 116), (some (114, true)), (.p (.mv (.tmp 8))), 0, []⟩,
⟨(some 117), (some (114, true)), (.p (.lenStr (.tmp 116))), 0, []⟩,
⟨(some 118), (some (114, true)), (.p (.bin .eql (.tmp 115) (.tmp 117))), 0, []⟩,
⟨(some 119), none, (.p (.pick (.tmp 114) (.tmp 118) (.c (.bool false)))), 0, []⟩,
⟨(some 6), none, (.p (.mv (.tmp 119))), 0, []⟩])
.ret)
.skip))
(.seq
(.ops [⟨(some 121), none, (.p (.mv (.tmp 7))), 0, []⟩,
⟨(some 122), none, (.h (.call (.c (.fn 21 [] [])) [(.tmp 121), (.c (.str [102])), (.c (.int .i64 0)), (.c (.int .i64 2000))])), 0, []⟩,
⟨(some 120), none, (.p (.mv (.tmp 122))), 0, []⟩,
⟨(some 123), none, (.p (.ext (.tmp 120) 0)), 0, []⟩,
⟨(some 124), none, (.p (.ext (.tmp 120) 1)), 0, []⟩,
⟨(some 20), none, (.p (.mv (.tmp 123))), 0, []⟩,
⟨(some 21), none, (.p (.mv (.tmp 124))), 0, []⟩])
(.seq
(.ops [⟨(some 125), none, (.h (.call (.c (.fn 12 [] [])) [])), 0, []⟩,
⟨(some 126), none, (.p (.mv (.tmp 125))), 0, []⟩,
⟨(some 127), (some (126, true)), (.p (.mv (.tmp 17))), 0, []⟩,
⟨(some 128), (some (126, true)), (.p (.bin .eql (.tmp 127) (.c (.int .i64 0)))), 0, []⟩,
⟨(some 129), none, (.p (.pick (.tmp 126) (.tmp 128) (.c (.bool false)))), 0, []⟩,
⟨(some 130), none, (.p (.mv (.tmp 129))), 0, []⟩,
⟨(some 131), (some (130, true)), (.p (.mv (.tmp 18))), 0, []⟩,
⟨(some 132), (some (130, true)), (.p (.mv (.tmp 2))), 0, []⟩,
⟨(some 133), (some (130, true)), (.p (.bin .eql (.tmp 131) (.tmp 132))), 0, []⟩,
⟨(some 134), none, (.p (.pick (.tmp 130) (.tmp 133) (.c (.bool false)))), 0, []⟩,
⟨(some 135), none, (.p (.mv (.tmp 134))), 0, []⟩,
⟨(some 136), (some (135, true)), (.p (.mv (.tmp 20))), 0, []⟩,
⟨(some 137), (some (135, true)), (.p (.mv (.tmp 8))), 0, []⟩,
⟨(some 138), (some (135, true)), (.p (.mv (.tmp 2))), 0, []⟩,
⟨(some 139), (some (135, true)), (.p (.subStr (.tmp 137) none (some (.tmp 138)))), 0, []⟩,
⟨(some 140), (some (135, true)), (.p (.bin .eql (.tmp 136) (.tmp 139))), 0, []⟩,
⟨(some 141), none, (.p (.pick (.tmp 135) (.tmp 140) (.c (.bool false)))), 0, []⟩,
⟨(some 6), none, (.p (.mv (.tmp 141))), 0, []⟩])
.ret))))))))))))))⟩
theorem c6 : Mir.compF Try.prog Try.f6 = some g6 := by kernel_rfl
/-- scribe/scribelaw03.DiskRenamed -/
def g7 : Mir.Fn := ⟨80, [(.tmp 8)],
(.seq
(.ops [⟨(some 8), none, (.p (.mv (.c (.bool false)))), 0, []⟩])
(.seq
(.ops [⟨(some 12), none, (.p (.mv (.tmp 0))), 0, []⟩,
⟨(some 13), none, (.h (.call (.c (.fn 10 [] [])) [(.tmp 12), (.c (.int .i64 100))])), 0, []⟩,
⟨(some 14), none, (.p (.mv (.tmp 1))), 0, []⟩,
⟨(some 15), none, (.h (.call (.c (.fn 10 [] [])) [(.tmp 14), (.c (.int .i64 100))])), 0, []⟩,
⟨(some 0), none, (.p (.mv (.tmp 13))), 0, []⟩,
⟨(some 1), none, (.p (.mv (.tmp 15))), 0, []⟩])
(.seq
(.ops [⟨(some 16), none, (.h (.call (.c (.fn 13 [] [])) [(.c (.int .i64 100000))])), 0, []⟩,
⟨(some 9), none, (.p (.mv (.tmp 16))), 0, []⟩])
(.seq
(.seq
(.ops [⟨(some 17), none, (.p (.mv (.tmp 9))), 0, []⟩,
⟨(some 18), none, (.p (.eq .ptr false (.tmp 17) (.c .nilptr))), 0, []⟩,
⟨(some 19), none, (.p (.mv (.tmp 18))), 0, []⟩,
⟨(some 20), (some (19, false)), (.p (.mv (.tmp 9))), 0, []⟩,
⟨(some 21), (some (19, false)), (.p (.mv (.tmp 0))), 0, []⟩,
⟨(some 22), (some (19, false)), (.h (.call (.c (.fn 25 [] [])) [(.tmp 20), (.c (.str [97])), (.tmp 21)])), 0, []⟩,
⟨(some 23), (some (19, false)), (.p (.bin .neq (.tmp 22) (.c (.int .i64 0)))), 0, []⟩,
⟨(some 24), none, (.p (.pick (.tmp 19) (.c (.bool true)) (.tmp 23))), 0, []⟩,
⟨(some 25), none, (.p (.mv (.tmp 24))), 0, []⟩,
⟨(some 26), (some (25, false)), (.p (.mv (.tmp 9))), 0, []⟩,
⟨(some 27), (some (25, false)), (.p (.mv (.tmp 1))), 0, []⟩,
⟨(some 28), (some (25, false)), (.h (.call (.c (.fn 14 [] [])) [(.tmp 26), (.c (.str [98])), (.tmp 27)])), 0, []⟩,
⟨(some 29), (some (25, false)), (.p (.bin .neq (.tmp 28) (.c (.int .i64 0)))), 0, []⟩,
⟨(some 30), none, (.p (.pick (.tmp 25) (.c (.bool true)) (.tmp 29))), 0, []⟩,
⟨(some 31), none, (.p (.mv (.tmp 30))), 0, []⟩,
⟨(some 32), (some (31, false)), (.p (.mv (.tmp 9))), 0, []⟩,
⟨(some 33), (some (31, false)), (.h (.call (.c (.fn 19 [] [])) [(.tmp 32), (.c (.str [98]))])), 0, []⟩,
⟨(some 34), (some (31, false)), (.p (.bin .neq (.tmp 33) (.c (.int .i64 0)))), 0, []⟩,
⟨(some 35), none, (.p (.pick (.tmp 31) (.c (.bool true)) (.tmp 34))), 0, []⟩,
⟨(some 36), none, (.p (.mv (.tmp 35))), 0, []⟩,
⟨(some 37), (some (36, false)), (.p (.mv (.tmp 9))), 0, []⟩,
⟨(some 38), (some (36, false)), (.h (.call (.c (.fn 26 [] [])) [(.tmp 37), (.c (.str [98])), (.c (.str [97]))])), 0, []⟩,
⟨(some 39), (some (36, false)), (.p (.bin .neq (.tmp 38) (.c (.int .i64 0)))), 0, []⟩,
⟨(some 40), none, (.p (.pick (.tmp 36) (.c (.bool true)) (.tmp 39))), 0, []⟩])
(.cond (.tmp 40)
(.seq
(.ops [⟨(some 8), none, (.p (.mv (.c (.bool false)))), 0, []⟩])
.ret)
.skip))
(.seq
(.seq
(.ops [⟨(some 41), none, (.p (.mv (.tmp 2))), 0, []⟩,
⟨(some 42), none, (.p (.mv (.tmp 41))), 0, []⟩,
⟨(some 43), (some (42, true)), (.p (.mv (.tmp 9))), 0, []⟩,
⟨(some 44), (some (42, true)), (.h (.call (.c (.fn 18 [] [])) [(.tmp 43)])), 0, []⟩,
⟨(some 45), (some (42, true)), (.p (.bin .neq (.tmp 44) (.c (.int .i64 0)))), 0, []⟩,
⟨(some 46), none, (.p (.pick (.tmp 42) (.tmp 45) (.c (.bool false)))), 0, []⟩])
(.cond (.tmp 46)
(.seq
(.ops [⟨(some 8), none, (.p (.mv (.c (.bool false)))), 0, []⟩])
.ret)
.skip))
(.seq
(.ops [⟨(some 47), none, (.p (.mv (.tmp 9))), 0, []⟩,
⟨(some 48), none, (.a (.mkSl [(.int .i64 0)] 1 2 [(0, (1, (.c (.int .i64 5)))), (1, (1, (.c (.int .i64 5))))])), 0, []⟩,
⟨(some 49), none, (.p (.mv (.tmp 3))), 0, []⟩,
⟨(some 50), none, (.h (.call (.c (.fn 22 [] [])) [(.tmp 47), (.tmp 48), (.tmp 49)])), 0, []⟩])
(.seq
(.ops [⟨(some 52), none, (.p (.mv (.tmp 9))), 0, []⟩,
⟨(some 53), none, (.h (.call (.c (.fn 21 [] [])) [(.tmp 52), (.c (.str [97])), (.c (.int .i64 0)), (.c (.int .i64 1000))])), 0, []⟩,
⟨(some 51), none, (.p (.mv (.tmp 53))), 0, []⟩,
⟨(some 54), none, (.p (.ext (.tmp 51) 0)), 0, []⟩,
⟨(some 55), none, (.p (.ext (.tmp 51) 1)), 0, []⟩,
⟨(some 10), none, (.p (.mv (.tmp 54))), 0, []⟩,
⟨(some 11), none, (.p (.mv (.tmp 55))), 0, []⟩])
(.seq
(.seq
(.ops [⟨(some 56), none, (.p (.mv (.tmp 2))), 0, []⟩,
⟨(some 57), none, (.p (.mv (.tmp 56))), 0, []⟩,
⟨(some 58), (some (57, false)), (.p (.mv (.tmp 3))), 0, []⟩,
⟨(some 59), none, (.p (.pick (.tmp 57) (.c (.bool true)) (.tmp 58))), 0, []⟩])
(.cond (.tmp 59)
(.seq
(.ops [⟨(some 60), none, (.h (.call (.c (.fn 12 [] [])) [])), 0, []⟩,
⟨(some 61), none, (.p (.mv (.tmp 60))), 0, []⟩,
⟨(some 62), (some (61, true)), (.p (.mv (.tmp 11))), 0, []⟩,
⟨(some 63), (some (61, true)), (.p (.bin .eql (.tmp 62) (.c (.int .i64 0)))), 0, []⟩,
⟨(some 64), none, (.p (.pick (.tmp 61) (.tmp 63) (.c (.bool false)))), 0, []⟩,
⟨(some 65), none, (.p (.mv (.tmp 64))), 0, []⟩,
⟨(some 66), (some (65, true)), (.p (.mv (.tmp 10))), 0, []⟩,
⟨(some 67), (some (65, true)), (.p (.mv (.tmp 1))), 0, []⟩,
⟨(some 68), (some (65, true)), (.p (.bin .eql (.tmp 66) (.tmp 67))), 0, []⟩,
⟨(some 69), none, (.p (.pick (.tmp 65) (.tmp 68) (.c (.bool false)))), 0, []⟩,
⟨(some 8), none, (.p (.mv (.tmp 69))), 0, []⟩])
.ret)
.skip))
(.seq
(.ops [⟨(some 70), none, (.h (.call (.c (.fn 12 [] [])) [])), 0, []⟩,
⟨(some 71), none, (.p (.mv (.tmp 70))), 0, []⟩,
⟨(some 72), (some (71, true)), (.p (.mv (.tmp 11))), 0, []⟩,
⟨(some 73), (some (71, true)), (.p (.bin .eql (.tmp 72) (.c (.int .i64 0)))), 0, []⟩,
⟨(some 74), none, (.p (.pick (.tmp 71) (.tmp 73) (.c (.bool false)))), 0, []⟩,
⟨(some 75), none, (.p (.mv (.tmp 74))), 0, []⟩,
⟨(some 76), (some (75, true)), (.p (.mv (.tmp 10))), 0, []⟩,
⟨(some 77), (some (75, true)), (.p (.mv (.tmp 0))), 0, []⟩,
⟨(some 78), (some (75, true)), (.p (.bin .eql (.tmp 76) (.tmp 77))), 0, []⟩,
⟨(some 79), none, (.p (.pick (.tmp 75) (.tmp 78) (.c (.bool false)))), 0, []⟩,
⟨(some 8), none, (.p (.mv (.tmp 79))), 0, []⟩])
.ret)))))))))⟩
theorem c7 : Mir.compF Try.prog Try.f7 = some g7 := by kernel_rfl
/-- scribe/scribelaw03.DiskSafe -/
def g8 : Mir.Fn := ⟨149, [(.tmp 10)],
(.seq
(.ops [⟨(some 10), none, (.p (.mv (.c (.bool false)))), 0, []⟩])
(.seq
(.ops [⟨(some 16), none, (.p (.mv (.tmp 0))), 0, []⟩,
⟨(some 17), none, (.h (.call (.c (.fn 10 [] [])) [(.tmp 16), (.c (.int .i64 200))])), 0, []⟩,
⟨(some 18), none, (.p (.mv (.tmp 1))), 0, []⟩,
⟨(some 19), none, (.h (.call (.c (.fn 10 [] [])) [(.tmp 18), (.c (.int .i64 200))])), 0, []⟩,
⟨(some 0), none, (.p (.mv (.tmp 17))), 0, []⟩,
⟨(some 1), none, (.p (.mv (.tmp 19))), 0, []⟩])
(.seq
(.ops [⟨(some 20), none, (.h (.call (.c (.fn 13 [] [])) [(.c (.int .i64 100000))])), 0, []⟩,
⟨(some 11), none, (.p (.mv (.tmp 20))), 0, []⟩])
(.seq
(.seq
(.ops [⟨(some 21), none, (.p (.mv (.tmp 11))), 0, []⟩,
⟨(some 22), none, (.p (.eq .ptr false (.tmp 21) (.c .nilptr))), 0, []⟩,
⟨(some 23), none, (.p (.mv (.tmp 22))), 0, []⟩,
⟨(some 24), (some (23, false)), (.p (.mv (.tmp 11))), 0, []⟩,
⟨(some 25), (some (23, false)), (.p (.mv (.tmp 0))), 0, []⟩,
⟨(some 26), (some (23, false)), (.h (.call (.c (.fn 14 [] [])) [(.tmp 24), (.c (.str [109, 105, 110, 101])), (.tmp 25)])), 0, []⟩,
⟨(some 27), (some (23, false)), (.p (.bin .neq (.tmp 26) (.c (.int .i64 0)))), 0, []⟩,
⟨(some 28), none, (.p (.pick (.tmp 23) (.c (.bool true)) (.tmp 27))), 0, []⟩,
⟨(some 29), none, (.p (.mv (.tmp 28))), 0, []⟩,
⟨(some 30), (some (29, false)), (.p (.mv (.tmp 11))), 0, []⟩,
⟨(some 31), (some (29, false)), (.h (.call (.c (.fn 19 [] [])) [(.tmp 30), (.c (.str [109, 105, 110, 101]))])), 0, []⟩,
⟨(some 32), (some (29, false)), (.p (.bin .neq (.tmp 31) (.c (.int .i64 0)))), 0, []⟩,
⟨(some 33), none, (.p (.pick (.tmp 29) (.c (.bool true)) (.tmp 32))), 0, []⟩,
⟨(some 34), none, (.p (.mv (.tmp 33))), 0, []⟩,
⟨(some 35), (some (34, false)), (.p (.mv (.tmp 11))), 0, []⟩,
⟨(some 36), (some (34, false)), (.h (.call (.c (.fn 18 [] [])) [(.tmp 35)])), 0, []⟩,
⟨(some 37), (some (34, false)), (.p (.bin .neq (.tmp 36) (.c (.int .i64 0)))), 0, []⟩,
⟨(some 38), none, (.p (.pick (.tmp 34) (.c (.bool true)) (.tmp 37))), 0, []⟩])
(.cond (.tmp 38)
(.seq
(.ops [⟨(some 10), none, (.p (.mv (.c (.bool false)))), 0, []⟩])
.ret)
.skip))
(.seq
(.seq
(.ops [⟨(some 12), none, (.p (.mv (.c (.int .i64 0)))), 0, []⟩])
(.block 0 (.loop (.seq
(.seq
(.ops [⟨(some 39), none, (.p (.mv (.tmp 12))), 0, []⟩,
⟨(some 40), none, (.p (.mv (.tmp 2))), 0, []⟩,
⟨(some 41), none, (.p (.lenSl (.tmp 40))), 0, []⟩,
⟨(some 42), none, (.p (.bin .lss (.tmp 39) (.tmp 41))), 0, []⟩,
⟨(some 43), none, (.p (.mv (.tmp 42))), 0, []⟩,
⟨(some 44), (some (43, true)), (.p (.mv (.tmp 12))), 0, []⟩,
⟨(some 45), (some (43, true)), (.p (.bin .lss (.tmp 44) (.c (.int .i64 30)))), 0, []⟩,
⟨(some 46), none, (.p (.pick (.tmp 43) (.tmp 45) (.c (.bool false)))), 0, []⟩])
(.cond (.tmp 46)
.skip
(.exit 0)))
(.seq
(.block 1 (.seq
(.ops [⟨(some 49), none, (.p (.mv (.tmp 2))), 0, []⟩,
⟨(some 50), none, (.p (.mv (.tmp 12))), 0, []⟩,
⟨(some 51), none, (.p (.idxSl 8 (.tmp 49) (.tmp 50))), 0, []⟩,
⟨(some 52), none, (.r (.load 8 true (.tmp 51))), 0, []⟩,
⟨(some 13), none, (.a (.alloc [(.int .i64 0), (.str []), (.str []), (.str []), (.int .i64 0), (.int .i64 0), .nilsl, (.bool false)])), 0, []⟩,
⟨none, none, (.h (.store 8 (.tmp 13) (.tmp 52))), 0, []⟩])
(.seq
(.seq
(.ops [⟨(some 53), none, (.p (.fieldAt 1 (.tmp 13))), 0, []⟩,
⟨(some 54), none, (.r (.load 1 false (.tmp 53))), 0, []⟩,
⟨(some 55), none, (.p (.bin .eql (.tmp 54) (.c (.str [109, 105, 110, 101])))), 0, []⟩,
⟨(some 56), none, (.p (.mv (.tmp 55))), 0, []⟩,
⟨(some 57), (some (56, false)), (.p (.fieldAt 2 (.tmp 13))), 0, []⟩,
⟨(some 58), (some (56, false)), (.r (.load 1 false (.tmp 57))), 0, []⟩,
⟨(some 59), (some (56, false)), (.p (.bin .eql (.tmp 58) (.c (.str [109, 105, 110, 101])))), 0, []⟩,
⟨(some 60), none, (.p (.pick (.tmp 56) (.c (.bool true)) (.tmp 59))), 0, []⟩])
(.cond (.tmp 60)
(.exit 1)
.skip))
(.seq
(.ops [⟨(some 61), none, (.p (.fieldAt 0 (.tmp 13))), 0, []⟩,
⟨(some 62), none, (.r (.load 1 false (.tmp 61))), 0, []⟩])
(.block 2 (.seq
(.ops [⟨(some 64), none, (.p (.bin .eql (.tmp 62) (.c (.int .i64 1)))), 0, []⟩,
⟨(some 63), none, (.p (.mv (.tmp 64))), 0, []⟩])
(.cond (.tmp 63)
(.draw [⟨(some 65), none, (.p (.mv (.tmp 11))), 0, []⟩,
⟨(some 66), none, (.p (.fieldAt 1 (.tmp 13))), 1, []⟩,
⟨(some 67), none, (.r (.load 1 false (.tmp 66))), 2, []⟩,
⟨(some 68), none, (.p (.fieldAt 3 (.tmp 13))), 3, []⟩,
⟨(some 69), none, (.r (.load 1 false (.tmp 68))), 4, []⟩,
⟨(some 70), none, (.h (.call (.c (.fn 10 [] [])) [(.tmp 69), (.c (.int .i64 100))])), 5, [2]⟩,
⟨(some 71), none, (.h (.call (.c (.fn 14 [] [])) [(.tmp 65), (.tmp 67), (.tmp 70)])), 6, []⟩])
(.seq
(.ops [⟨(some 73), none, (.p (.bin .eql (.tmp 62) (.c (.int .i64 2)))), 0, []⟩,
⟨(some 72), none, (.p (.mv (.tmp 73))), 0, []⟩])
(.cond (.tmp 72)
(.ops [⟨(some 74), none, (.p (.mv (.tmp 11))), 0, []⟩,
⟨(some 75), none, (.p (.fieldAt 1 (.tmp 13))), 0, []⟩,
⟨(some 76), none, (.r (.load 1 false (.tmp 75))), 0, []⟩,
⟨(some 77), none, (.p (.fieldAt 4 (.tmp 13))), 0, []⟩,
⟨(some 78), none, (.r (.load 1 false (.tmp 77))), 0, []⟩,
⟨(some 79), none, (.h (.call (.c (.fn 24 [] [])) [(.tmp 74), (.tmp 76), (.tmp 78)])), 0, []⟩])
(.seq
(.ops [⟨(some 81), none, (.p (.bin .eql (.tmp 62) (.c (.int .i64 3)))), 0, []⟩,
⟨(some 80), none, (.p (.mv (.tmp 81))), 0, []⟩])
(.cond (.tmp 80)
(.ops [⟨(some 82), none, (.p (.mv (.tmp 11))), 0, []⟩,
⟨(some 83), none, (.p (.fieldAt 1 (.tmp 13))), 0, []⟩,
⟨(some 84), none, (.r (.load 1 false (.tmp 83))), 0, []⟩,
⟨(some 85), none, (.h (.call (.c (.fn 19 [] [])) [(.tmp 82), (.tmp 84)])), 0, []⟩])
(.seq
(.ops [⟨(some 87), none, (.p (.bin .eql (.tmp 62) (.c (.int .i64 4)))), 0, []⟩,
⟨(some 86), none, (.p (.mv (.tmp 87))), 0, []⟩])
(.cond (.tmp 86)
(.ops [⟨(some 88), none, (.p (.mv (.tmp 11))), 0, []⟩,
⟨(some 89), none, (.p (.fieldAt 1 (.tmp 13))), 0, []⟩,
⟨(some 90), none, (.r (.load 1 false (.tmp 89))), 0, []⟩,
⟨(some 91), none, (.p (.fieldAt 2 (.tmp 13))), 0, []⟩,
⟨(some 92), none, (.r (.load 1 false (.tmp 91))), 0, []⟩,
⟨(some 93), none, (.h (.call (.c (.fn 26 [] [])) [(.tmp 88), (.tmp 90), (.tmp 92)])), 0, []⟩])
(.seq
(.ops [⟨(some 95), none, (.p (.bin .eql (.tmp 62) (.c (.int .i64 5)))), 0, []⟩,
⟨(some 94), none, (.p (.mv (.tmp 95))), 0, []⟩])
(.cond (.tmp 94)
(.ops [⟨(some 96), none, (.p (.mv (.tmp 11))), 0, []⟩,
⟨(some 97), none, (.p (.fieldAt 1 (.tmp 13))), 0, []⟩,
⟨(some 98), none, (.r (.load 1 false (.tmp 97))), 0, []⟩,
⟨(some 99), none, (.h (.call (.c (.fn 27 [] [])) [(.tmp 96), (.tmp 98)])), 0, []⟩])
(.seq
(.ops [⟨(some 101), none, (.p (.bin .eql (.tmp 62) (.c (.int .i64 6)))), 0, []⟩,
⟨(some 100), none, (.p (.mv (.tmp 101))), 0, []⟩])
(.cond (.tmp 100)
(.ops [⟨(some 102), none, (.p (.mv (.tmp 11))), 0, []⟩,
⟨(some 103), none, (.h (.call (.c (.fn 18 [] [])) [(.tmp 102)])), 0, []⟩])
.skip)))))))))))))))))
(.ops [⟨(some 47), none, (.p (.mv (.tmp 12))), 0, []⟩,
⟨(some 48), none, (.p (.bin .add (.tmp 47) (.c (.int .i64 1)))), 0, []⟩,
⟨(some 12), none, (.p (.mv (.tmp 48))), 0, []⟩]))))))
(.seq
(.seq
(.ops [⟨(some 104), none, (.p (.mv (.tmp 11))), 0, []⟩,
⟨(some 105), none, (.p (.mv (.tmp 1))), 0, []⟩,
⟨(some 106), none, (.h (.call (.c (.fn 14 [] [])) [(.tmp 104), (.c (.str [109, 105, 110, 101])), (.tmp 105)])), 0, []⟩,
⟨(some 107), none, (.p (.bin .neq (.tmp 106) (.c (.int .i64 0)))), 0, []⟩])
(.cond (.tmp 107)
(.seq
(.ops [⟨(some 10), none, (.p (.mv (.c (.bool false)))), 0, []⟩])
.ret)
.skip))
(.seq
(.ops [⟨(some 108), none, (.p (.mv (.tmp 11))), 0, []⟩,
⟨(some 109), none, (.p (.mv (.tmp 3))), 0, []⟩,
⟨(some 110), none, (.p (.mv (.tmp 4))), 0, []⟩,
⟨(some 111), none, (.h (.call (.c (.fn 22 [] [])) [(.tmp 108), (.tmp 109), (.tmp 110)])), 0, []⟩])
(.seq
(.ops [⟨(some 113), none, (.p (.mv (.tmp 11))), 0, []⟩,
⟨(some 114), none, (.h (.call (.c (.fn 21 [] [])) [(.tmp 113), (.c (.str [109, 105, 110, 101])), (.c (.int .i64 0)), (.c (.int .i64 1000))])), 0, []⟩,
⟨(some 112), none, (.p (.mv (.tmp 114))), 0, []⟩,
⟨(some 115), none, (.p (.ext (.tmp 112) 0)), 0, []⟩,
⟨(some 116), none, (.p (.ext (.tmp 112) 1)), 0, []⟩,
⟨(some 14), none, (.p (.mv (.tmp 115))), 0, []⟩,
⟨(some 15), none, (.p (.mv (.tmp 116))), 0, []⟩])
(.seq
(.ops [⟨(some 117), none, (.h (.call (.c (.fn 12 [] [])) [])), 0, []⟩,
⟨(some 118), none, (.p (.mv (.tmp 117))), 0, []⟩,
⟨(some 119), (some (118, true)), (.p (.mv (.tmp 15))), 0, []⟩,
⟨(some 120), (some (118, true)), (.p (.bin .eql (.tmp 119) (.c (.int .i64 0)))), 0, []⟩,
⟨(some 121), none, (.p (.pick (.tmp 118) (.tmp 120) (.c (.bool false)))), 0, []⟩,
⟨(some 122), none, (.p (.mv (.tmp 121))), 0, []⟩,
⟨(some 123), (some (122, true)), (.p (.mv (.tmp 14))), 0, []⟩,
⟨(some 124), (some (122, true)), (.p (.lenStr (.tmp 123))), 0, []⟩,
⟨(some 125), (some (122, true)), (.p (.mv (.tmp 0))), 0, []⟩,
⟨(some 126), (some (122, true)), (.p (.lenStr (.tmp 125))), 0, []⟩,
⟨(some 127), (some (122, true)), (.p (.bin .geq (.tmp 124) (.tmp 126))), 0, []⟩,
⟨(some 128), none, (.p (.pick (.tmp 122) (.tmp 127) (.c (.bool false)))), 0, []⟩,
⟨(some 129), none, (.p (.mv (.tmp 128))), 0, []⟩,
⟨(some 130), (some (129, true)), (.p (.mv (.tmp 14))), 0, []⟩,
⟨(some 131), (some (129, true)), (.p (.lenStr (.tmp 130))), 0, []⟩,
⟨(some 132), (some (129, true)), (.p (.mv (.tmp 0))), 0, []⟩,
⟨(some 133), (some (129, true)), (.p (.lenStr (.tmp 132))), 0, []⟩,
⟨(some 134), (some (129, true)), (.p (.mv (.tmp 1))), 0, []⟩,
⟨(some 135), (some (129, true)), (.p (.lenStr (.tmp 134))), 0, []⟩,
⟨(some 136), (some (129, true)), (.p (.bin .add (.tmp 133) (.tmp 135))), 0, []⟩,
⟨(some 137), (some (129, true)), (.p (.bin .leq (.tmp 131) (.tmp 136))), 0, []⟩,
⟨(some 138), none, (.p (.pick (.tmp 129) (.tmp 137) (.c (.bool false)))), 0, []⟩,
⟨(some 139), none, (.p (.mv (.tmp 138))), 0, []⟩,
⟨(some 140), (some (139, true)), (.p (.mv (.tmp 14))), 0, []⟩,
⟨(some 141), (some (139, true)), (.p (.mv (.tmp 0))), 0, []⟩,
⟨(some 142), (some (139, true)), (.p (.mv (.tmp 1))), 0, []⟩,
⟨(some 143), (some (139, true)), (.p (.bin .add (.tmp 141) (.tmp 142))), 0, []⟩,
⟨(some 144), (some (139, true)), (.p (.mv (.tmp 14))), 0, []⟩,
⟨(some 145), (some (139, true)), (.p (.lenStr (.tmp 144))), 0, []⟩,
⟨(some 146), (some (139, true)), (.p (.subStr (.tmp 143) none (some (.tmp 145)))), 0, []⟩,
⟨(some 147), (some (139, true)), (.p (.bin .eql (.tmp 140) (.tmp 146))), 0, []⟩,
⟨(some 148), none, (.p (.pick (.tmp 139) (.tmp 147) (.c (.bool false)))), 0, []⟩,
⟨(some 10), none, (.p (.mv (.tmp 148))), 0, []⟩])
.ret)))))))))⟩
theorem c8 : Mir.compF Try.prog Try.f8 = some g8 := by kernel_rfl
/-- scribe/scribelaw03.DiskPlays -/
def g9 : Mir.Fn := ⟨69, [(.tmp 4)],
(.seq
(.ops [⟨(some 4), none, (.p (.mv (.c (.bool false)))), 0, []⟩])
(.seq
(.seq
(.ops [⟨(some 10), none, (.p (.mv (.tmp 0))), 0, []⟩,
⟨(some 11), none, (.p (.bin .gtr (.tmp 10) (.c (.int .i64 100000)))), 0, []⟩])
(.cond (.tmp 11)
(.seq
(.ops [⟨(some 12), none, (.h (.call (.c (.fn 12 [] [])) [])), 0, []⟩,
⟨(some 4), none, (.p (.mv (.tmp 12))), 0, []⟩])
.ret)
.skip))
(.seq
(.ops [⟨(some 13), none, (.p (.mv (.tmp 0))), 0, []⟩,
⟨(some 14), none, (.h (.call (.c (.fn 13 [] [])) [(.tmp 13)])), 0, []⟩,
⟨(some 5), none, (.p (.mv (.tmp 14))), 0, []⟩])
(.seq
(.ops [⟨(some 15), none, (.p (.mv (.tmp 0))), 0, []⟩,
⟨(some 16), none, (.h (.call (.c (.fn 28 [] [])) [(.tmp 15)])), 0, []⟩,
⟨(some 6), none, (.a (.alloc [.nilsl, .nilsl, .nilsl, (.int .i64 0), (.int .i64 0), (.bool false)])), 0, []⟩,
⟨none, none, (.h (.store 6 (.tmp 6) (.tmp 16))), 0, []⟩])
(.seq
(.seq
(.ops [⟨(some 17), none, (.h (.call (.c (.fn 12 [] [])) [])), 0, []⟩,
⟨(some 18), none, (.p (.un .not (.tmp 17))), 0, []⟩,
⟨(some 19), none, (.p (.mv (.tmp 18))), 0, []⟩,
⟨(some 20), (some (19, false)), (.p (.mv (.tmp 5))), 0, []⟩,
⟨(some 21), (some (19, false)), (.p (.eq .ptr false (.tmp 20) (.c .nilptr))), 0, []⟩,
⟨(some 22), none, (.p (.pick (.tmp 19) (.c (.bool true)) (.tmp 21))), 0, []⟩])
(.cond (.tmp 22)
(.seq
(.ops [⟨(some 4), none, (.p (.mv (.c (.bool false)))), 0, []⟩])
.ret)
.skip))
(.seq
(.seq
(.ops [⟨(some 7), none, (.p (.mv (.c (.int .i64 0)))), 0, []⟩])
(.block 0 (.loop (.seq
(.seq
(.ops [⟨(some 23), none, (.p (.mv (.tmp 7))), 0, []⟩,
⟨(some 24), none, (.p (.mv (.tmp 1))), 0, []⟩,
⟨(some 25), none, (.p (.lenSl (.tmp 24))), 0, []⟩,
⟨(some 26), none, (.p (.bin .lss (.tmp 23) (.tmp 25))), 0, []⟩,
⟨(some 27), none, (.p (.mv (.tmp 26))), 0, []⟩,
⟨(some 28), (some (27, true)), (.p (.mv (.tmp 7))), 0, []⟩,
⟨(some 29), (some (27, true)), (.p (.bin .lss (.tmp 28) (.c (.int .i64 50)))), 0, []⟩,
⟨(some 30), none, (.p (.pick (.tmp 27) (.tmp 29) (.c (.bool false)))), 0, []⟩])
(.cond (.tmp 30)
.skip
(.exit 0)))
(.seq
(.block 1 (.seq
(.draw [⟨(some 34), none, (.p (.mv (.tmp 5))), 0, []⟩,
⟨(some 35), none, (.r (.load 6 true (.tmp 6))), 1, []⟩,
⟨(some 36), none, (.p (.mv (.tmp 1))), 2, []⟩,
⟨(some 37), none, (.p (.mv (.tmp 7))), 3, []⟩,
⟨(some 38), none, (.p (.idxSl 8 (.tmp 36) (.tmp 37))), 4, []⟩,
⟨(some 39), none, (.r (.load 8 true (.tmp 38))), 5, []⟩,
⟨(some 40), none, (.h (.call (.c (.fn 29 [] [])) [(.tmp 34), (.tmp 35), (.tmp 39)])), 6, []⟩,
⟨(some 33), none, (.p (.mv (.tmp 40))), 7, []⟩,
⟨(some 41), none, (.p (.ext (.tmp 33) 0)), 8, []⟩,
⟨(some 42), none, (.p (.ext (.tmp 33) 1)), 9, []⟩,
⟨(some 8), none, (.a (.alloc [.nilsl, .nilsl, .nilsl, (.int .i64 0), (.int .i64 0), (.bool false)])), 10, []⟩,
⟨none, none, (.h (.store 6 (.tmp 8) (.tmp 41))), 11, []⟩,
⟨(some 9), none, (.p (.mv (.tmp 42))), 12, []⟩])
(.seq
(.ops [⟨(some 43), none, (.r (.load 6 true (.tmp 8))), 0, []⟩,
⟨none, none, (.h (.store 6 (.tmp 6) (.tmp 43))), 0, []⟩])
(.seq
(.draw [⟨(some 44), none, (.p (.mv (.tmp 9))), 0, []⟩,
⟨(some 45), none, (.p (.bin .neq (.tmp 44) (.c (.int .i64 0)))), 1, []⟩,
⟨(some 46), none, (.p (.mv (.tmp 45))), 2, []⟩,
⟨(some 47), (some (46, false)), (.p (.mv (.tmp 5))), 3, []⟩,
⟨(some 48), (some (46, false)), (.r (.load 6 true (.tmp 6))), 4, []⟩,
⟨(some 49), (some (46, false)), (.h (.call (.c (.fn 30 [] [])) [(.tmp 47), (.tmp 48)])), 5, []⟩,
⟨(some 50), (some (46, false)), (.p (.bin .neq (.tmp 49) (.c (.int .i64 0)))), 6, []⟩,
⟨(some 51), none, (.p (.pick (.tmp 46) (.c (.bool true)) (.tmp 50))), 7, []⟩,
⟨(some 52), none, (.p (.mv (.tmp 51))), 8, []⟩,
⟨(some 53), (some (52, false)), (.p (.mv (.tmp 1))), 9, []⟩,
⟨(some 54), (some (52, false)), (.p (.mv (.tmp 7))), 10, []⟩,
⟨(some 55), (some (52, false)), (.p (.idxSl 8 (.tmp 53) (.tmp 54))), 11, []⟩,
⟨(some 56), (some (52, false)), (.p (.fieldAt 1 (.tmp 55))), 12, []⟩,
⟨(some 57), (some (52, false)), (.r (.load 1 false (.tmp 56))), 13, []⟩,
⟨(some 60), (some (52, false)), (.p (.mv (.tmp 1))), 16, []⟩,
⟨(some 61), (some (52, false)), (.p (.mv (.tmp 7))), 17, []⟩,
⟨(some 62), (some (52, false)), (.p (.idxSl 8 (.tmp 60) (.tmp 61))), 18, []⟩,
⟨(some 63), (some (52, false)), (.p (.fieldAt 1 (.tmp 62))), 19, []⟩,
⟨(some 64), (some (52, false)), (.r (.load 1 false (.tmp 63))), 20, []⟩,
⟨(some 58), (some (52, false)), (.h (.call (.c (.fn 10 [] [])) [(.tmp 57), (.c (.int .i64 60))])), 14, [20]⟩,
⟨(some 59), (some (52, false)), (.h (.call (.c (.fn 11 [] [])) [(.tmp 58)])), 15, [20]⟩,
⟨(some 65), (some (52, false)), (.h (.call (.c (.fn 10 [] [])) [(.tmp 64), (.c (.int .i64 60))])), 21, []⟩,
⟨(some 66), (some (52, false)), (.h (.call (.c (.fn 31 [] [])) [(.tmp 65)])), 22, []⟩,
⟨(some 67), (some (52, false)), (.p (.eq .bool true (.tmp 59) (.tmp 66))), 23, []⟩,
⟨(some 68), none, (.p (.pick (.tmp 52) (.c (.bool true)) (.tmp 67))), 24, []⟩])
(.cond (.tmp 68)
(.seq
(.ops [⟨(some 4), none, (.p (.mv (.c (.bool false)))), 0, []⟩])
.ret)
.skip)))))
(.ops [⟨(some 31), none, (.p (.mv (.tmp 7))), 0, []⟩,
⟨(some 32), none, (.p (.bin .add (.tmp 31) (.c (.int .i64 1)))), 0, []⟩,
⟨(some 7), none, (.p (.mv (.tmp 32))), 0, []⟩]))))))
(.seq
(.ops [⟨(some 4), none, (.p (.mv (.c (.bool true)))), 0, []⟩])
.ret)))))))⟩
theorem c9 : Mir.compF Try.prog Try.f9 = some g9 := by kernel_rfl
/-- scribe/scribelaw01.Cut -/
def g10 : Mir.Fn := ⟨13, [(.tmp 4)],
(.seq
(.ops [⟨(some 4), none, (.p (.mv (.c (.str [])))), 0, []⟩])
(.seq
(.seq
(.ops [⟨(some 5), none, (.p (.mv (.tmp 0))), 0, []⟩,
⟨(some 6), none, (.p (.lenStr (.tmp 5))), 0, []⟩,
⟨(some 7), none, (.p (.mv (.tmp 1))), 0, []⟩,
⟨(some 8), none, (.p (.bin .gtr (.tmp 6) (.tmp 7))), 0, []⟩])
(.cond (.tmp 8)
(.seq
(.ops [⟨(some 9), none, (.p (.mv (.tmp 0))), 0, []⟩,
⟨(some 10), none, (.p (.mv (.tmp 1))), 0, []⟩,
⟨(some 11), none, (.p (.subStr (.tmp 9) none (some (.tmp 10)))), 0, []⟩,
⟨(some 4), none, (.p (.mv (.tmp 11))), 0, []⟩])
.ret)
.skip))
(.seq
(.ops [⟨(some 12), none, (.p (.mv (.tmp 0))), 0, []⟩,
⟨(some 4), none, (.p (.mv (.tmp 12))), 0, []⟩])
.ret)))⟩
theorem c10 : Mir.compF Try.prog Try.f10 = some g10 := by kernel_rfl
/-- scribe/disk.Name -/
def g11 : Mir.Fn := ⟨15, [(.tmp 2)],
(.seq
(.ops [⟨(some 2), none, (.p (.mv (.c (.bool false)))), 0, []⟩])
(.seq
(.ops [⟨(some 3), none, (.p (.mv (.tmp 0))), 0, []⟩,
⟨(some 4), none, (.p (.bin .neq (.tmp 3) (.c (.str [])))), 0, []⟩,
⟨(some 5), none, (.p (.mv (.tmp 4))), 0, []⟩,
⟨(some 6), (some (5, true)), (.p (.mv (.tmp 0))), 0, []⟩,
⟨(some 7), (some (5, true)), (.p (.lenStr (.tmp 6))), 0, []⟩,
⟨(some 8), (some (5, true)), (.p (.bin .leq (.tmp 7) (.c (.int .i64 40)))), 0, []⟩,
⟨(some 9), none, (.p (.pick (.tmp 5) (.tmp 8) (.c (.bool false)))), 0, []⟩,
⟨(some 10), none, (.p (.mv (.tmp 9))), 0, []⟩,
⟨(some 11), (some (10, true)), (.p (.mv (.tmp 0))), 0, []⟩,
⟨(some 12), (some (10, true)), (.h (.call (.c (.fn 32 [] [])) [(.tmp 11), (.c (.fn 33 [] []))])), 0, []⟩,
⟨(some 13), (some (10, true)), (.p (.un .not (.tmp 12))), 0, []⟩,
⟨(some 14), none, (.p (.pick (.tmp 10) (.tmp 13) (.c (.bool false)))), 0, []⟩,
⟨(some 2), none, (.p (.mv (.tmp 14))), 0, []⟩])
.ret))⟩
theorem c11 : Mir.compF Try.prog Try.f11 = some g11 := by kernel_rfl
/-- scribe/scribelaw03.awake -/
def g12 : Mir.Fn := ⟨46, [(.tmp 0)],
(.seq
(.ops [⟨(some 0), none, (.p (.mv (.c (.bool false)))), 0, []⟩])
(.seq
(.ops [⟨(some 4), none, (.h (.call (.c (.fn 13 [] [])) [(.c (.int .i64 100))])), 0, []⟩,
⟨(some 1), none, (.p (.mv (.tmp 4))), 0, []⟩])
(.seq
(.seq
(.ops [⟨(some 5), none, (.p (.mv (.tmp 1))), 0, []⟩,
⟨(some 6), none, (.p (.eq .ptr false (.tmp 5) (.c .nilptr))), 0, []⟩,
⟨(some 7), none, (.p (.mv (.tmp 6))), 0, []⟩,
⟨(some 8), (some (7, false)), (.p (.mv (.tmp 1))), 0, []⟩,
⟨(some 9), (some (7, false)), (.h (.call (.c (.fn 14 [] [])) [(.tmp 8), (.c (.str [97])), (.c (.str [120, 121]))])), 0, []⟩,
⟨(some 10), (some (7, false)), (.p (.bin .neq (.tmp 9) (.c (.int .i64 0)))), 0, []⟩,
⟨(some 11), none, (.p (.pick (.tmp 7) (.c (.bool true)) (.tmp 10))), 0, []⟩,
⟨(some 12), none, (.p (.mv (.tmp 11))), 0, []⟩,
⟨(some 13), (some (12, false)), (.p (.mv (.tmp 1))), 0, []⟩,
⟨(some 14), (some (12, false)), (.h (.call (.c (.fn 19 [] [])) [(.tmp 13), (.c (.str [97]))])), 0, []⟩,
⟨(some 15), (some (12, false)), (.p (.bin .neq (.tmp 14) (.c (.int .i64 0)))), 0, []⟩,
⟨(some 16), none, (.p (.pick (.tmp 12) (.c (.bool true)) (.tmp 15))), 0, []⟩,
⟨(some 17), none, (.p (.mv (.tmp 16))), 0, []⟩,
⟨(some 18), (some (17, false)), (.p (.mv (.tmp 1))), 0, []⟩,
⟨(some 19), (some (17, false)), (.h (.call (.c (.fn 14 [] [])) [(.tmp 18), (.c (.str [97])), (.c (.str [122]))])), 0, []⟩,
⟨(some 20), (some (17, false)), (.p (.bin .neq (.tmp 19) (.c (.int .i64 0)))), 0, []⟩,
⟨(some 21), none, (.p (.pick (.tmp 17) (.c (.bool true)) (.tmp 20))), 0, []⟩,
⟨(some 22), none, (.p (.mv (.tmp 21))), 0, []⟩,
⟨(some 23), (some (22, false)), (.p (.mv (.tmp 1))), 0, []⟩,
⟨(some 24), (some (22, false)), (.h (.call (.c (.fn 18 [] [])) [(.tmp 23)])), 0, []⟩,
⟨(some 25), (some (22, false)), (.p (.bin .neq (.tmp 24) (.c (.int .i64 0)))), 0, []⟩,
⟨(some 26), none, (.p (.pick (.tmp 22) (.c (.bool true)) (.tmp 25))), 0, []⟩])
(.cond (.tmp 26)
(.seq
(.ops [⟨(some 0), none, (.p (.mv (.c (.bool false)))), 0, []⟩])
.ret)
.skip))
(.seq
(.ops [⟨(some 27), none, (.p (.mv (.tmp 1))), 0, []⟩,
⟨(some 28), none, (.a (.mkSl [(.int .i64 0)] 1 1 [(0, (1, (.c (.int .i64 1))))])), 0, []⟩,
⟨(some 29), none, (.h (.call (.c (.fn 22 [] [])) [(.tmp 27), (.tmp 28), (.c (.bool false))])), 0, []⟩])
(.seq
(.ops [⟨(some 31), none, (.p (.mv (.tmp 1))), 0, []⟩,
⟨(some 32), none, (.h (.call (.c (.fn 21 [] [])) [(.tmp 31), (.c (.str [97])), (.c (.int .i64 0)), (.c (.int .i64 10))])), 0, []⟩,
⟨(some 30), none, (.p (.mv (.tmp 32))), 0, []⟩,
⟨(some 33), none, (.p (.ext (.tmp 30) 0)), 0, []⟩,
⟨(some 34), none, (.p (.ext (.tmp 30) 1)), 0, []⟩,
⟨(some 2), none, (.p (.mv (.tmp 33))), 0, []⟩,
⟨(some 3), none, (.p (.mv (.tmp 34))), 0, []⟩])
(.seq
(.ops [⟨(some 35), none, (.p (.mv (.tmp 3))), 0, []⟩,
⟨(some 36), none, (.p (.bin .eql (.tmp 35) (.c (.int .i64 0)))), 0, []⟩,
⟨(some 37), none, (.p (.mv (.tmp 36))), 0, []⟩,
⟨(some 38), (some (37, true)), (.p (.mv (.tmp 2))), 0, []⟩,
⟨(some 39), (some (37, true)), (.p (.bin .eql (.tmp 38) (.c (.str [120, 121, 122])))), 0, []⟩,
⟨(some 40), none, (.p (.pick (.tmp 37) (.tmp 39) (.c (.bool false)))), 0, []⟩,
⟨(some 41), none, (.p (.mv (.tmp 40))), 0, []⟩,
⟨(some 42), (some (41, true)), (.p (.mv (.tmp 1))), 0, []⟩,
⟨(some 43), (some (41, true)), (.h (.call (.c (.fn 15 [] [])) [(.tmp 42)])), 0, []⟩,
⟨(some 44), (some (41, true)), (.p (.bin .eql (.tmp 43) (.c (.int .i64 3)))), 0, []⟩,
⟨(some 45), none, (.p (.pick (.tmp 41) (.tmp 44) (.c (.bool false)))), 0, []⟩,
⟨(some 0), none, (.p (.mv (.tmp 45))), 0, []⟩])
.ret))))))⟩
theorem c12 : Mir.compF Try.prog Try.f12 = some g12 := by kernel_rfl
/-- scribe/disk.New -/
def g13 : Mir.Fn := ⟨9, [(.tmp 2)],
(.seq
(.ops [⟨(some 2), none, (.p (.mv (.c .nilptr))), 0, []⟩])
(.seq
(.ops [⟨(some 3), none, (.a .mkMap), 0, []⟩,
⟨(some 4), none, (.a .mkMap), 0, []⟩,
⟨(some 5), none, (.p (.mv (.tmp 0))), 0, []⟩,
⟨(some 6), none, (.p (.mnmx true (.tmp 5) [(.c (.int .i64 0))])), 0, []⟩,
⟨(some 7), none, (.p (.build [.nilmap, .nilmap, (.int .i64 0), (.int .i64 0), (.bool false)] [(0, (1, (.tmp 3))), (1, (1, (.tmp 4))), (2, (1, (.tmp 6))), (3, (1, (.c (.int .i64 (-1))))), (4, (1, (.c (.bool false))))])), 0, []⟩,
⟨(some 8), none, (.a (.box (.tmp 7))), 0, []⟩,
⟨(some 2), none, (.p (.mv (.tmp 8))), 0, []⟩])
.ret))⟩
theorem c13 : Mir.compF Try.prog Try.f13 = some g13 := by kernel_rfl
/-- (*scribe/disk.Disk).Append -/
def g14 : Mir.Fn := ⟨85, [(.tmp 6)],
(.seq
(.ops [⟨(some 6), none, (.p (.mv (.c (.int .i64 0)))), 0, []⟩])
(.seq
(.seq
(.ops [⟨(some 9), none, (.p (.mv (.tmp 0))), 0, []⟩,
⟨(some 10), none, (.p (.nilchk (.tmp 9))), 0, []⟩,
⟨(some 11), none, (.p (.fieldAt 4 (.tmp 10))), 0, []⟩,
⟨(some 12), none, (.r (.load 1 false (.tmp 11))), 0, []⟩])
(.cond (.tmp 12)
(.seq
(.ops [⟨(some 6), none, (.p (.mv (.c (.int .i64 8)))), 0, []⟩])
.ret)
.skip))
(.seq
(.ops [⟨(some 13), none, (.p (.mv (.tmp 0))), 0, []⟩,
⟨(some 14), none, (.p (.nilchk (.tmp 13))), 0, []⟩,
⟨(some 15), none, (.p (.fieldAt 0 (.tmp 14))), 0, []⟩,
⟨(some 16), none, (.r (.load 1 false (.tmp 15))), 0, []⟩,
⟨(some 17), none, (.p (.mv (.tmp 1))), 0, []⟩,
⟨(some 18), none, (.r (.lookup (.one .str) .nilptr false (.tmp 16) (.tmp 17))), 0, []⟩,
⟨(some 7), none, (.p (.mv (.tmp 18))), 0, []⟩])
(.seq
(.block 0 (.seq
(.ops [⟨(some 20), none, (.p (.mv (.tmp 1))), 0, []⟩,
⟨(some 21), none, (.h (.call (.c (.fn 11 [] [])) [(.tmp 20)])), 0, []⟩,
⟨(some 22), none, (.p (.un .not (.tmp 21))), 0, []⟩,
⟨(some 19), none, (.p (.mv (.tmp 22))), 0, []⟩])
(.cond (.tmp 19)
(.seq
(.ops [⟨(some 6), none, (.p (.mv (.c (.int .i64 1)))), 0, []⟩])
.ret)
(.seq
(.ops [⟨(some 24), none, (.p (.mv (.tmp 7))), 0, []⟩,
⟨(some 25), none, (.p (.eq .ptr false (.tmp 24) (.c .nilptr))), 0, []⟩,
⟨(some 26), none, (.p (.mv (.tmp 25))), 0, []⟩,
⟨(some 27), (some (26, true)), (.p (.mv (.tmp 0))), 0, []⟩,
⟨(some 28), (some (26, true)), (.p (.nilchk (.tmp 27))), 0, []⟩,
⟨(some 29), (some (26, true)), (.p (.fieldAt 0 (.tmp 28))), 0, []⟩,
⟨(some 30), (some (26, true)), (.r (.load 1 false (.tmp 29))), 0, []⟩,
⟨(some 31), (some (26, true)), (.r (.lenMap (.tmp 30))), 0, []⟩,
⟨(some 32), (some (26, true)), (.p (.bin .geq (.tmp 31) (.c (.int .i64 100)))), 0, []⟩,
⟨(some 33), none, (.p (.pick (.tmp 26) (.tmp 32) (.c (.bool false)))), 0, []⟩,
⟨(some 23), none, (.p (.mv (.tmp 33))), 0, []⟩])
(.cond (.tmp 23)
(.seq
(.ops [⟨(some 6), none, (.p (.mv (.c (.int .i64 7)))), 0, []⟩])
.ret)
(.seq
(.draw [⟨(some 35), none, (.p (.mv (.tmp 2))), 0, []⟩,
⟨(some 36), none, (.p (.lenStr (.tmp 35))), 1, []⟩,
⟨(some 37), none, (.p (.mv (.tmp 0))), 2, []⟩,
⟨(some 38), none, (.p (.nilchk (.tmp 37))), 3, []⟩,
⟨(some 39), none, (.p (.fieldAt 2 (.tmp 38))), 4, []⟩,
⟨(some 40), none, (.r (.load 1 false (.tmp 39))), 5, []⟩,
⟨(some 41), none, (.p (.mv (.tmp 0))), 6, []⟩,
⟨(some 42), none, (.h (.call (.c (.fn 15 [] [])) [(.tmp 41)])), 7, [5]⟩,
⟨(some 43), none, (.p (.bin .sub (.tmp 40) (.tmp 42))), 8, []⟩,
⟨(some 44), none, (.p (.bin .gtr (.tmp 36) (.tmp 43))), 9, []⟩,
⟨(some 34), none, (.p (.mv (.tmp 44))), 10, []⟩])
(.cond (.tmp 34)
(.seq
(.ops [⟨(some 6), none, (.p (.mv (.c (.int .i64 7)))), 0, []⟩])
.ret)
(.seq
(.ops [⟨(some 46), none, (.p (.mv (.tmp 7))), 0, []⟩,
⟨(some 47), none, (.p (.eq .ptr true (.tmp 46) (.c .nilptr))), 0, []⟩,
⟨(some 48), none, (.p (.mv (.tmp 47))), 0, []⟩,
⟨(some 49), (some (48, true)), (.p (.mv (.tmp 2))), 0, []⟩,
⟨(some 50), (some (48, true)), (.p (.lenStr (.tmp 49))), 0, []⟩,
⟨(some 51), (some (48, true)), (.p (.mv (.tmp 7))), 0, []⟩,
⟨(some 52), (some (48, true)), (.p (.nilchk (.tmp 51))), 0, []⟩,
⟨(some 53), (some (48, true)), (.p (.fieldAt 0 (.tmp 52))), 0, []⟩,
⟨(some 54), (some (48, true)), (.r (.load 1 false (.tmp 53))), 0, []⟩,
⟨(some 55), (some (48, true)), (.p (.lenStr (.tmp 54))), 0, []⟩,
⟨(some 56), (some (48, true)), (.p (.bin .sub (.c (.int .i64 1048576)) (.tmp 55))), 0, []⟩,
⟨(some 57), (some (48, true)), (.p (.bin .gtr (.tmp 50) (.tmp 56))), 0, []⟩,
⟨(some 58), none, (.p (.pick (.tmp 48) (.tmp 57) (.c (.bool false)))), 0, []⟩,
⟨(some 59), none, (.p (.mv (.tmp 58))), 0, []⟩,
⟨(some 60), (some (59, false)), (.p (.mv (.tmp 2))), 0, []⟩,
⟨(some 61), (some (59, false)), (.p (.lenStr (.tmp 60))), 0, []⟩,
⟨(some 62), (some (59, false)), (.p (.bin .gtr (.tmp 61) (.c (.int .i64 1048576)))), 0, []⟩,
⟨(some 63), none, (.p (.pick (.tmp 59) (.c (.bool true)) (.tmp 62))), 0, []⟩,
⟨(some 45), none, (.p (.mv (.tmp 63))), 0, []⟩])
(.cond (.tmp 45)
(.seq
(.ops [⟨(some 6), none, (.p (.mv (.c (.int .i64 12)))), 0, []⟩])
.ret)
.skip)))))))))
(.seq
(.ops [⟨(some 64), none, (.p (.mv (.tmp 0))), 0, []⟩,
⟨(some 65), none, (.h (.call (.c (.fn 34 [] [])) [(.tmp 64)])), 0, []⟩,
⟨(some 8), none, (.p (.mv (.tmp 65))), 0, []⟩])
(.seq
(.seq
(.ops [⟨(some 66), none, (.p (.mv (.tmp 7))), 0, []⟩,
⟨(some 67), none, (.p (.eq .ptr false (.tmp 66) (.c .nilptr))), 0, []⟩])
(.cond (.tmp 67)
(.seq
(.ops [⟨(some 68), none, (.p (.build [(.str []), (.str [])] [])), 0, []⟩,
⟨(some 69), none, (.a (.box (.tmp 68))), 0, []⟩,
⟨(some 7), none, (.p (.mv (.tmp 69))), 0, []⟩])
(.ops [⟨(some 70), none, (.p (.mv (.tmp 0))), 0, []⟩,
⟨(some 71), none, (.p (.nilchk (.tmp 70))), 0, []⟩,
⟨(some 72), none, (.p (.fieldAt 0 (.tmp 71))), 0, []⟩,
⟨(some 73), none, (.r (.load 1 false (.tmp 72))), 0, []⟩,
⟨(some 74), none, (.p (.mv (.tmp 1))), 0, []⟩,
⟨(some 75), none, (.p (.mv (.tmp 7))), 0, []⟩,
⟨none, none, (.h (.mapUpd (.one .str) (.tmp 73) (.tmp 74) (.tmp 75))), 0, []⟩]))
.skip))
(.seq
(.ops [⟨(some 76), none, (.p (.mv (.tmp 7))), 0, []⟩,
⟨(some 77), none, (.p (.nilchk (.tmp 76))), 0, []⟩,
⟨(some 78), none, (.p (.fieldAt 0 (.tmp 77))), 0, []⟩,
⟨(some 79), none, (.r (.load 1 false (.tmp 78))), 0, []⟩,
⟨(some 80), none, (.p (.mv (.tmp 2))), 0, []⟩,
⟨(some 81), none, (.p (.bin .add (.tmp 79) (.tmp 80))), 0, []⟩,
⟨(some 82), none, (.p (.nilchk (.tmp 76))), 0, []⟩,
⟨(some 83), none, (.p (.fieldAt 0 (.tmp 82))), 0, []⟩,
⟨none, none, (.h (.store 1 (.tmp 83) (.tmp 81))), 0, []⟩])
(.seq
(.seq
(.ops [⟨(some 84), none, (.p (.mv (.tmp 8))), 0, []⟩])
(.cond (.tmp 84)
(.seq
(.ops [⟨(some 6), none, (.p (.mv (.c (.int .i64 8)))), 0, []⟩])
.ret)
.skip))
(.seq
(.ops [⟨(some 6), none, (.p (.mv (.c (.int .i64 0)))), 0, []⟩])
.ret)))))))))⟩
theorem c14 : Mir.compF Try.prog Try.f14 = some g14 := by kernel_rfl
/-- (*scribe/disk.Disk).Used -/
def g15 : Mir.Fn := ⟨23, [(.tmp 2)],
(.seq
(.ops [⟨(some 2), none, (.p (.mv (.c (.int .i64 0)))), 0, []⟩])
(.seq
(.ops [⟨(some 3), none, (.p (.mv (.c (.int .i64 0)))), 0, []⟩])
(.seq
(.seq
(.ops [⟨(some 6), none, (.p (.mv (.tmp 0))), 0, []⟩,
⟨(some 7), none, (.p (.nilchk (.tmp 6))), 0, []⟩,
⟨(some 8), none, (.p (.fieldAt 0 (.tmp 7))), 0, []⟩,
⟨(some 9), none, (.r (.load 1 false (.tmp 8))), 0, []⟩,
⟨(some 10), none, (.h (.range (.tmp 9))), 0, []⟩])
(.block 0 (.loop (.seq
(.ops [⟨(some 11), none, (.h (.next (.tmp 10))), 0, []⟩,
⟨(some 12), none, (.p (.ext (.tmp 11) 0)), 0, []⟩])
(.seq
(.cond (.tmp 12)
.skip
(.exit 0))
(.block 1 (.seq
(.ops [⟨(some 13), none, (.r (.entry (.tmp 10))), 0, []⟩,
⟨(some 14), none, (.p (.ext (.tmp 13) 1)), 0, []⟩,
⟨(some 5), none, (.p (.mv (.tmp 14))), 0, []⟩])
(.ops [⟨(some 15), none, (.p (.mv (.tmp 3))), 0, []⟩,
⟨(some 16), none, (.p (.mv (.tmp 5))), 0, []⟩,
⟨(some 17), none, (.p (.nilchk (.tmp 16))), 0, []⟩,
⟨(some 18), none, (.p (.fieldAt 0 (.tmp 17))), 0, []⟩,
⟨(some 19), none, (.r (.load 1 false (.tmp 18))), 0, []⟩,
⟨(some 20), none, (.p (.lenStr (.tmp 19))), 0, []⟩,
⟨(some 21), none, (.p (.bin .add (.tmp 15) (.tmp 20))), 0, []⟩,
⟨(some 3), none, (.p (.mv (.tmp 21))), 0, []⟩]))))))))
(.seq
(.ops [⟨(some 22), none, (.p (.mv (.tmp 3))), 0, []⟩,
⟨(some 2), none, (.p (.mv (.tmp 22))), 0, []⟩])
.ret))))⟩
theorem c15 : Mir.compF Try.prog Try.f15 = some g15 := by kernel_rfl
/-- (*scribe/disk.Disk).Quota -/
def g16 : Mir.Fn := ⟨9, [],
(.ops [⟨(some 4), none, (.p (.mv (.tmp 0))), 0, []⟩,
⟨(some 5), none, (.p (.mv (.tmp 1))), 0, []⟩,
⟨(some 6), none, (.p (.mnmx true (.tmp 5) [(.c (.int .i64 0))])), 0, []⟩,
⟨(some 7), none, (.p (.nilchk (.tmp 4))), 0, []⟩,
⟨(some 8), none, (.p (.fieldAt 2 (.tmp 7))), 0, []⟩,
⟨none, none, (.h (.store 1 (.tmp 8) (.tmp 6))), 0, []⟩])⟩
theorem c16 : Mir.compF Try.prog Try.f16 = some g16 := by kernel_rfl
/-- (*scribe/disk.Disk).Arm -/
def g17 : Mir.Fn := ⟨14, [],
(.seq
(.ops [⟨(some 4), none, (.p (.mv (.tmp 0))), 0, []⟩,
⟨(some 5), none, (.p (.nilchk (.tmp 4))), 0, []⟩,
⟨(some 6), none, (.p (.fieldAt 4 (.tmp 5))), 0, []⟩,
⟨(some 7), none, (.r (.load 1 false (.tmp 6))), 0, []⟩,
⟨(some 8), none, (.p (.un .not (.tmp 7))), 0, []⟩])
(.cond (.tmp 8)
(.ops [⟨(some 9), none, (.p (.mv (.tmp 0))), 0, []⟩,
⟨(some 10), none, (.p (.mv (.tmp 1))), 0, []⟩,
⟨(some 11), none, (.p (.mnmx true (.tmp 10) [(.c (.int .i64 (-1)))])), 0, []⟩,
⟨(some 12), none, (.p (.nilchk (.tmp 9))), 0, []⟩,
⟨(some 13), none, (.p (.fieldAt 3 (.tmp 12))), 0, []⟩,
⟨none, none, (.h (.store 1 (.tmp 13) (.tmp 11))), 0, []⟩])
.skip))⟩
theorem c17 : Mir.compF Try.prog Try.f17 = some g17 := by kernel_rfl
/-- (*scribe/disk.Disk).SyncDir -/
def g18 : Mir.Fn := ⟨19, [(.tmp 2)],
(.seq
(.ops [⟨(some 2), none, (.p (.mv (.c (.int .i64 0)))), 0, []⟩])
(.seq
(.seq
(.ops [⟨(some 3), none, (.p (.mv (.tmp 0))), 0, []⟩,
⟨(some 4), none, (.p (.nilchk (.tmp 3))), 0, []⟩,
⟨(some 5), none, (.p (.fieldAt 4 (.tmp 4))), 0, []⟩,
⟨(some 6), none, (.r (.load 1 false (.tmp 5))), 0, []⟩,
⟨(some 7), none, (.p (.mv (.tmp 6))), 0, []⟩,
⟨(some 8), (some (7, false)), (.p (.mv (.tmp 0))), 0, []⟩,
⟨(some 9), (some (7, false)), (.h (.call (.c (.fn 34 [] [])) [(.tmp 8)])), 0, []⟩,
⟨(some 10), none, (.p (.pick (.tmp 7) (.c (.bool true)) (.tmp 9))), 0, []⟩])
(.cond (.tmp 10)
(.seq
(.ops [⟨(some 2), none, (.p (.mv (.c (.int .i64 8)))), 0, []⟩])
.ret)
.skip))
(.seq
(.ops [⟨(some 11), none, (.p (.mv (.tmp 0))), 0, []⟩,
⟨(some 12), none, (.p (.mv (.tmp 0))), 0, []⟩,
⟨(some 13), none, (.p (.nilchk (.tmp 12))), 0, []⟩,
⟨(some 14), none, (.p (.fieldAt 0 (.tmp 13))), 0, []⟩,
⟨(some 15), none, (.r (.load 1 false (.tmp 14))), 0, []⟩,
⟨(some 16), none, (.h (.call (.c (.fn 35 [] [])) [(.tmp 15)])), 0, []⟩,
⟨(some 17), none, (.p (.nilchk (.tmp 11))), 0, []⟩,
⟨(some 18), none, (.p (.fieldAt 1 (.tmp 17))), 0, []⟩,
⟨none, none, (.h (.store 1 (.tmp 18) (.tmp 16))), 0, []⟩])
(.seq
(.ops [⟨(some 2), none, (.p (.mv (.c (.int .i64 0)))), 0, []⟩])
.ret))))⟩
theorem c18 : Mir.compF Try.prog Try.f18 = some g18 := by kernel_rfl
/-- (*scribe/disk.Disk).Sync -/
def g19 : Mir.Fn := ⟨8, [(.tmp 4)],
(.seq
(.ops [⟨(some 4), none, (.p (.mv (.c (.int .i64 0)))), 0, []⟩])
(.seq
(.ops [⟨(some 5), none, (.p (.mv (.tmp 0))), 0, []⟩,
⟨(some 6), none, (.p (.mv (.tmp 1))), 0, []⟩,
⟨(some 7), none, (.h (.call (.c (.fn 36 [] [])) [(.tmp 5), (.tmp 6), (.c (.fn 37 [] []))])), 0, []⟩,
⟨(some 4), none, (.p (.mv (.tmp 7))), 0, []⟩])
.ret))⟩
theorem c19 : Mir.compF Try.prog Try.f19 = some g19 := by kernel_rfl
/-- (*scribe/disk.Disk).Dead -/
def g20 : Mir.Fn := ⟨7, [(.tmp 2)],
(.seq
(.ops [⟨(some 2), none, (.p (.mv (.c (.bool false)))), 0, []⟩])
(.seq
(.ops [⟨(some 3), none, (.p (.mv (.tmp 0))), 0, []⟩,
⟨(some 4), none, (.p (.nilchk (.tmp 3))), 0, []⟩,
⟨(some 5), none, (.p (.fieldAt 4 (.tmp 4))), 0, []⟩,
⟨(some 6), none, (.r (.load 1 false (.tmp 5))), 0, []⟩,
⟨(some 2), none, (.p (.mv (.tmp 6))), 0, []⟩])
.ret))⟩
theorem c20 : Mir.compF Try.prog Try.f20 = some g20 := by kernel_rfl
/-- (*scribe/disk.Disk).Read -/
def g21 : Mir.Fn := ⟨48, [(.tmp 8), (.tmp 9)],
(.seq
(.ops [⟨(some 8), none, (.p (.mv (.c (.str [])))), 0, []⟩,
⟨(some 9), none, (.p (.mv (.c (.int .i64 0)))), 0, []⟩])
(.seq
(.seq
(.ops [⟨(some 12), none, (.p (.mv (.tmp 0))), 0, []⟩,
⟨(some 13), none, (.p (.nilchk (.tmp 12))), 0, []⟩,
⟨(some 14), none, (.p (.fieldAt 4 (.tmp 13))), 0, []⟩,
⟨(some 15), none, (.r (.load 1 false (.tmp 14))), 0, []⟩])
(.cond (.tmp 15)
(.seq
(.ops [⟨(some 8), none, (.p (.mv (.c (.str [])))), 0, []⟩,
⟨(some 9), none, (.p (.mv (.c (.int .i64 8)))), 0, []⟩])
.ret)
.skip))
(.seq
(.ops [⟨(some 16), none, (.p (.mv (.tmp 0))), 0, []⟩,
⟨(some 17), none, (.p (.nilchk (.tmp 16))), 0, []⟩,
⟨(some 18), none, (.p (.fieldAt 0 (.tmp 17))), 0, []⟩,
⟨(some 19), none, (.r (.load 1 false (.tmp 18))), 0, []⟩,
⟨(some 20), none, (.p (.mv (.tmp 1))), 0, []⟩,
⟨(some 21), none, (.r (.lookup (.one .str) .nilptr false (.tmp 19) (.tmp 20))), 0, []⟩,
⟨(some 10), none, (.p (.mv (.tmp 21))), 0, []⟩])
(.seq
(.seq
(.ops [⟨(some 22), none, (.p (.mv (.tmp 10))), 0, []⟩,
⟨(some 23), none, (.p (.eq .ptr false (.tmp 22) (.c .nilptr))), 0, []⟩])
(.cond (.tmp 23)
(.seq
(.ops [⟨(some 8), none, (.p (.mv (.c (.str [])))), 0, []⟩,
⟨(some 9), none, (.p (.mv (.c (.int .i64 5)))), 0, []⟩])
.ret)
.skip))
(.seq
(.seq
(.ops [⟨(some 24), none, (.p (.mv (.tmp 2))), 0, []⟩,
⟨(some 25), none, (.p (.bin .lss (.tmp 24) (.c (.int .i64 0)))), 0, []⟩,
⟨(some 26), none, (.p (.mv (.tmp 25))), 0, []⟩,
⟨(some 27), (some (26, false)), (.p (.mv (.tmp 3))), 0, []⟩,
⟨(some 28), (some (26, false)), (.p (.bin .lss (.tmp 27) (.c (.int .i64 0)))), 0, []⟩,
⟨(some 29), none, (.p (.pick (.tmp 26) (.c (.bool true)) (.tmp 28))), 0, []⟩])
(.cond (.tmp 29)
(.seq
(.ops [⟨(some 8), none, (.p (.mv (.c (.str [])))), 0, []⟩,
⟨(some 9), none, (.p (.mv (.c (.int .i64 1)))), 0, []⟩])
.ret)
.skip))
(.seq
(.draw [⟨(some 30), none, (.p (.mv (.tmp 10))), 0, []⟩,
⟨(some 31), none, (.p (.nilchk (.tmp 30))), 1, []⟩,
⟨(some 32), none, (.p (.fieldAt 0 (.tmp 31))), 2, []⟩,
⟨(some 33), none, (.r (.load 1 false (.tmp 32))), 3, []⟩,
⟨(some 34), none, (.p (.mv (.tmp 2))), 4, []⟩,
⟨(some 35), none, (.p (.mv (.tmp 10))), 5, []⟩,
⟨(some 36), none, (.p (.nilchk (.tmp 35))), 6, []⟩,
⟨(some 37), none, (.p (.fieldAt 0 (.tmp 36))), 7, []⟩,
⟨(some 38), none, (.r (.load 1 false (.tmp 37))), 8, []⟩,
⟨(some 39), none, (.p (.lenStr (.tmp 38))), 9, []⟩,
⟨(some 40), none, (.p (.mnmx false (.tmp 34) [(.tmp 39)])), 10, []⟩,
⟨(some 41), none, (.p (.subStr (.tmp 33) (some (.tmp 40)) none)), 11, []⟩,
⟨(some 11), none, (.p (.mv (.tmp 41))), 12, []⟩])
(.seq
(.ops [⟨(some 42), none, (.p (.mv (.tmp 11))), 0, []⟩,
⟨(some 43), none, (.p (.mv (.tmp 3))), 0, []⟩,
⟨(some 44), none, (.p (.mv (.tmp 11))), 0, []⟩,
⟨(some 45), none, (.p (.lenStr (.tmp 44))), 0, []⟩,
⟨(some 46), none, (.p (.mnmx false (.tmp 43) [(.tmp 45)])), 0, []⟩,
⟨(some 47), none, (.p (.subStr (.tmp 42) none (some (.tmp 46)))), 0, []⟩,
⟨(some 8), none, (.p (.mv (.tmp 47))), 0, []⟩,
⟨(some 9), none, (.p (.mv (.c (.int .i64 0)))), 0, []⟩])
.ret)))))))⟩
theorem c21 : Mir.compF Try.prog Try.f21 = some g21 := by kernel_rfl
/-- (*scribe/disk.Disk).Crash -/
def g22 : Mir.Fn := ⟨115, [],
(.seq
(.seq
(.ops [⟨(some 12), none, (.p (.mv (.tmp 2))), 0, []⟩,
⟨(some 13), none, (.p (.un .not (.tmp 12))), 0, []⟩])
(.cond (.tmp 13)
(.ops [⟨(some 14), none, (.p (.mv (.tmp 0))), 0, []⟩,
⟨(some 15), none, (.p (.mv (.tmp 0))), 0, []⟩,
⟨(some 16), none, (.p (.nilchk (.tmp 15))), 0, []⟩,
⟨(some 17), none, (.p (.fieldAt 1 (.tmp 16))), 0, []⟩,
⟨(some 18), none, (.r (.load 1 false (.tmp 17))), 0, []⟩,
⟨(some 19), none, (.h (.call (.c (.fn 35 [] [])) [(.tmp 18)])), 0, []⟩,
⟨(some 20), none, (.p (.nilchk (.tmp 14))), 0, []⟩,
⟨(some 21), none, (.p (.fieldAt 0 (.tmp 20))), 0, []⟩,
⟨none, none, (.h (.store 1 (.tmp 21) (.tmp 19))), 0, []⟩])
.skip))
(.seq
(.seq
(.ops [⟨(some 22), none, (.p (.mv (.tmp 0))), 0, []⟩,
⟨(some 23), none, (.p (.nilchk (.tmp 22))), 0, []⟩,
⟨(some 24), none, (.p (.fieldAt 0 (.tmp 23))), 0, []⟩,
⟨(some 25), none, (.r (.load 1 false (.tmp 24))), 0, []⟩,
⟨(some 26), none, (.h (.call (.c (.fn 39 [] [])) [(.tmp 25)])), 0, []⟩,
⟨(some 27), none, (.h (.call (.c (.fn 38 [] [])) [(.tmp 26)])), 0, []⟩,
⟨(some 28), none, (.p (.lenSl (.tmp 27))), 0, []⟩,
⟨(some 29), none, (.p (.mv (.c (.int .i64 0)))), 0, []⟩])
(.block 0 (.loop (.seq
(.ops [⟨(some 30), none, (.p (.bin .lss (.tmp 29) (.tmp 28))), 0, []⟩])
(.seq
(.cond (.tmp 30)
.skip
(.exit 0))
(.seq
(.block 1 (.seq
(.ops [⟨(some 31), none, (.p (.mv (.tmp 29))), 0, []⟩,
⟨(some 32), none, (.p (.idxSl 1 (.tmp 27) (.tmp 29))), 0, []⟩,
⟨(some 33), none, (.r (.load 1 false (.tmp 32))), 0, []⟩,
⟨(some 6), none, (.p (.mv (.tmp 31))), 0, []⟩,
⟨(some 7), none, (.p (.mv (.tmp 33))), 0, []⟩])
(.seq
(.ops [⟨(some 34), none, (.p (.mv (.tmp 0))), 0, []⟩,
⟨(some 35), none, (.p (.nilchk (.tmp 34))), 0, []⟩,
⟨(some 36), none, (.p (.fieldAt 0 (.tmp 35))), 0, []⟩,
⟨(some 37), none, (.r (.load 1 false (.tmp 36))), 0, []⟩,
⟨(some 38), none, (.p (.mv (.tmp 7))), 0, []⟩,
⟨(some 39), none, (.r (.lookup (.one .str) .nilptr false (.tmp 37) (.tmp 38))), 0, []⟩,
⟨(some 8), none, (.p (.mv (.tmp 39))), 0, []⟩])
(.seq
(.draw [⟨(some 41), none, (.p (.mv (.tmp 8))), 0, []⟩,
⟨(some 42), none, (.p (.nilchk (.tmp 41))), 1, []⟩,
⟨(some 43), none, (.p (.fieldAt 0 (.tmp 42))), 2, []⟩,
⟨(some 44), none, (.r (.load 1 false (.tmp 43))), 3, []⟩,
⟨(some 45), none, (.p (.mv (.tmp 8))), 4, []⟩,
⟨(some 46), none, (.p (.nilchk (.tmp 45))), 5, []⟩,
⟨(some 47), none, (.p (.fieldAt 1 (.tmp 46))), 6, []⟩,
⟨(some 48), none, (.r (.load 1 false (.tmp 47))), 7, []⟩,
⟨(some 49), none, (.h (.call (.c (.fn 40 [] [])) [(.tmp 44), (.tmp 48)])), 8, []⟩,
⟨(some 40), none, (.p (.mv (.tmp 49))), 9, []⟩,
⟨(some 50), none, (.p (.ext (.tmp 40) 0)), 10, []⟩,
⟨(some 51), none, (.p (.ext (.tmp 40) 1)), 11, []⟩,
⟨(some 9), none, (.p (.mv (.tmp 50))), 12, []⟩,
⟨(some 10), none, (.p (.mv (.tmp 51))), 13, []⟩])
(.seq
(.seq
(.ops [⟨(some 52), none, (.p (.mv (.tmp 10))), 0, []⟩,
⟨(some 53), none, (.p (.un .not (.tmp 52))), 0, []⟩])
(.cond (.tmp 53)
(.ops [⟨(some 9), none, (.p (.mv (.c (.str [])))), 0, []⟩])
.skip))
(.seq
(.seq
(.ops [⟨(some 54), none, (.p (.mv (.tmp 6))), 0, []⟩,
⟨(some 55), none, (.p (.mv (.tmp 1))), 0, []⟩,
⟨(some 56), none, (.p (.lenSl (.tmp 55))), 0, []⟩,
⟨(some 57), none, (.p (.bin .geq (.tmp 54) (.tmp 56))), 0, []⟩,
⟨(some 58), none, (.p (.mv (.tmp 57))), 0, []⟩,
⟨(some 59), (some (58, false)), (.p (.mv (.tmp 1))), 0, []⟩,
⟨(some 60), (some (58, false)), (.p (.mv (.tmp 6))), 0, []⟩,
⟨(some 61), (some (58, false)), (.p (.idxSl 1 (.tmp 59) (.tmp 60))), 0, []⟩,
⟨(some 62), (some (58, false)), (.r (.load 1 false (.tmp 61))), 0, []⟩,
⟨(some 63), (some (58, false)), (.p (.mv (.tmp 9))), 0, []⟩,
⟨(some 64), (some (58, false)), (.p (.lenStr (.tmp 63))), 0, []⟩,
⟨(some 65), (some (58, false)), (.p (.bin .lss (.tmp 62) (.tmp 64))), 0, []⟩,
⟨(some 66), none, (.p (.pick (.tmp 58) (.c (.bool true)) (.tmp 65))), 0, []⟩])
(.cond (.tmp 66)
(.seq
(.ops [⟨(some 11), none, (.p (.mv (.c (.int .i64 0)))), 0, []⟩])
(.seq
(.seq
(.ops [⟨(some 67), none, (.p (.mv (.tmp 6))), 0, []⟩,
⟨(some 68), none, (.p (.mv (.tmp 1))), 0, []⟩,
⟨(some 69), none, (.p (.lenSl (.tmp 68))), 0, []⟩,
⟨(some 70), none, (.p (.bin .lss (.tmp 67) (.tmp 69))), 0, []⟩,
⟨(some 71), none, (.p (.mv (.tmp 70))), 0, []⟩,
⟨(some 72), (some (71, true)), (.p (.mv (.tmp 1))), 0, []⟩,
⟨(some 73), (some (71, true)), (.p (.mv (.tmp 6))), 0, []⟩,
⟨(some 74), (some (71, true)), (.p (.idxSl 1 (.tmp 72) (.tmp 73))), 0, []⟩,
⟨(some 75), (some (71, true)), (.r (.load 1 false (.tmp 74))), 0, []⟩,
⟨(some 76), (some (71, true)), (.p (.bin .gtr (.tmp 75) (.c (.int .i64 0)))), 0, []⟩,
⟨(some 77), none, (.p (.pick (.tmp 71) (.tmp 76) (.c (.bool false)))), 0, []⟩])
(.cond (.tmp 77)
(.ops [⟨(some 78), none, (.p (.mv (.tmp 1))), 0, []⟩,
⟨(some 79), none, (.p (.mv (.tmp 6))), 0, []⟩,
⟨(some 80), none, (.p (.idxSl 1 (.tmp 78) (.tmp 79))), 0, []⟩,
⟨(some 81), none, (.r (.load 1 false (.tmp 80))), 0, []⟩,
⟨(some 11), none, (.p (.mv (.tmp 81))), 0, []⟩])
.skip))
(.ops [⟨(some 82), none, (.p (.mv (.tmp 9))), 0, []⟩,
⟨(some 83), none, (.p (.mv (.tmp 11))), 0, []⟩,
⟨(some 84), none, (.p (.subStr (.tmp 82) none (some (.tmp 83)))), 0, []⟩,
⟨(some 9), none, (.p (.mv (.tmp 84))), 0, []⟩])))
.skip))
(.seq
(.ops [⟨(some 85), none, (.p (.mv (.tmp 8))), 0, []⟩,
⟨(some 86), none, (.p (.nilchk (.tmp 85))), 0, []⟩,
⟨(some 87), none, (.p (.fieldAt 1 (.tmp 86))), 0, []⟩,
⟨(some 88), none, (.r (.load 1 false (.tmp 87))), 0, []⟩,
⟨(some 89), none, (.p (.mv (.tmp 9))), 0, []⟩,
⟨(some 90), none, (.p (.bin .add (.tmp 88) (.tmp 89))), 0, []⟩,
⟨(some 91), none, (.p (.nilchk (.tmp 85))), 0, []⟩,
⟨(some 92), none, (.p (.fieldAt 1 (.tmp 91))), 0, []⟩,
⟨none, none, (.h (.store 1 (.tmp 92) (.tmp 90))), 0, []⟩])
(.ops [⟨(some 93), none, (.p (.mv (.tmp 8))), 0, []⟩,
⟨(some 94), none, (.p (.mv (.tmp 8))), 0, []⟩,
⟨(some 95), none, (.p (.nilchk (.tmp 94))), 0, []⟩,
⟨(some 96), none, (.p (.fieldAt 1 (.tmp 95))), 0, []⟩,
⟨(some 97), none, (.r (.load 1 false (.tmp 96))), 0, []⟩,
⟨(some 98), none, (.p (.nilchk (.tmp 93))), 0, []⟩,
⟨(some 99), none, (.p (.fieldAt 0 (.tmp 98))), 0, []⟩,
⟨none, none, (.h (.store 1 (.tmp 99) (.tmp 97))), 0, []⟩]))))))))
(.ops [⟨(some 100), none, (.p (.bin .add (.tmp 29) (.c (.int .i64 1)))), 0, []⟩,
⟨(some 29), none, (.p (.mv (.tmp 100))), 0, []⟩])))))))
(.seq
(.ops [⟨(some 101), none, (.p (.mv (.tmp 0))), 0, []⟩,
⟨(some 102), none, (.p (.mv (.tmp 0))), 0, []⟩,
⟨(some 103), none, (.p (.nilchk (.tmp 102))), 0, []⟩,
⟨(some 104), none, (.p (.fieldAt 0 (.tmp 103))), 0, []⟩,
⟨(some 105), none, (.r (.load 1 false (.tmp 104))), 0, []⟩,
⟨(some 106), none, (.h (.call (.c (.fn 35 [] [])) [(.tmp 105)])), 0, []⟩,
⟨(some 107), none, (.p (.nilchk (.tmp 101))), 0, []⟩,
⟨(some 108), none, (.p (.fieldAt 1 (.tmp 107))), 0, []⟩,
⟨none, none, (.h (.store 1 (.tmp 108) (.tmp 106))), 0, []⟩])
(.ops [⟨(some 109), none, (.p (.mv (.tmp 0))), 0, []⟩,
⟨(some 110), none, (.p (.mv (.tmp 0))), 0, []⟩,
⟨(some 111), none, (.p (.nilchk (.tmp 109))), 0, []⟩,
⟨(some 112), none, (.p (.fieldAt 3 (.tmp 111))), 0, []⟩,
⟨none, none, (.h (.store 1 (.tmp 112) (.c (.int .i64 (-1))))), 0, []⟩,
⟨(some 113), none, (.p (.nilchk (.tmp 110))), 0, []⟩,
⟨(some 114), none, (.p (.fieldAt 4 (.tmp 113))), 0, []⟩,
⟨none, none, (.h (.store 1 (.tmp 114) (.c (.bool false)))), 0, []⟩]))))⟩
theorem c22 : Mir.compF Try.prog Try.f22 = some g22 := by kernel_rfl
/-- (*scribe/disk.Disk).Size -/
def g23 : Mir.Fn := ⟨27, [(.tmp 4), (.tmp 5)],
(.seq
(.ops [⟨(some 4), none, (.p (.mv (.c (.int .i64 0)))), 0, []⟩,
⟨(some 5), none, (.p (.mv (.c (.int .i64 0)))), 0, []⟩])
(.seq
(.seq
(.ops [⟨(some 6), none, (.p (.mv (.tmp 0))), 0, []⟩,
⟨(some 7), none, (.p (.nilchk (.tmp 6))), 0, []⟩,
⟨(some 8), none, (.p (.fieldAt 4 (.tmp 7))), 0, []⟩,
⟨(some 9), none, (.r (.load 1 false (.tmp 8))), 0, []⟩])
(.cond (.tmp 9)
(.seq
(.ops [⟨(some 4), none, (.p (.mv (.c (.int .i64 0)))), 0, []⟩,
⟨(some 5), none, (.p (.mv (.c (.int .i64 8)))), 0, []⟩])
.ret)
.skip))
(.seq
(.seq
(.ops [⟨(some 10), none, (.p (.mv (.tmp 0))), 0, []⟩,
⟨(some 11), none, (.p (.nilchk (.tmp 10))), 0, []⟩,
⟨(some 12), none, (.p (.fieldAt 0 (.tmp 11))), 0, []⟩,
⟨(some 13), none, (.r (.load 1 false (.tmp 12))), 0, []⟩,
⟨(some 14), none, (.p (.mv (.tmp 1))), 0, []⟩,
⟨(some 15), none, (.r (.lookup (.one .str) .nilptr false (.tmp 13) (.tmp 14))), 0, []⟩,
⟨(some 16), none, (.p (.eq .ptr false (.tmp 15) (.c .nilptr))), 0, []⟩])
(.cond (.tmp 16)
(.seq
(.ops [⟨(some 4), none, (.p (.mv (.c (.int .i64 0)))), 0, []⟩,
⟨(some 5), none, (.p (.mv (.c (.int .i64 5)))), 0, []⟩])
.ret)
.skip))
(.seq
(.ops [⟨(some 17), none, (.p (.mv (.tmp 0))), 0, []⟩,
⟨(some 18), none, (.p (.nilchk (.tmp 17))), 0, []⟩,
⟨(some 19), none, (.p (.fieldAt 0 (.tmp 18))), 0, []⟩,
⟨(some 20), none, (.r (.load 1 false (.tmp 19))), 0, []⟩,
⟨(some 21), none, (.p (.mv (.tmp 1))), 0, []⟩,
⟨(some 22), none, (.r (.lookup (.one .str) .nilptr false (.tmp 20) (.tmp 21))), 0, []⟩,
⟨(some 23), none, (.p (.nilchk (.tmp 22))), 0, []⟩,
⟨(some 24), none, (.p (.fieldAt 0 (.tmp 23))), 0, []⟩,
⟨(some 25), none, (.r (.load 1 false (.tmp 24))), 0, []⟩,
⟨(some 26), none, (.p (.lenStr (.tmp 25))), 0, []⟩,
⟨(some 4), none, (.p (.mv (.tmp 26))), 0, []⟩,
⟨(some 5), none, (.p (.mv (.c (.int .i64 0)))), 0, []⟩])
.ret))))⟩
theorem c23 : Mir.compF Try.prog Try.f23 = some g23 := by kernel_rfl
/-- (*scribe/disk.Disk).Truncate -/
def g24 : Mir.Fn := ⟨40, [(.tmp 6)],
(.seq
(.ops [⟨(some 5), none, (.a (.box (.tmp 2))), 0, []⟩,
⟨(some 6), none, (.p (.mv (.c (.int .i64 0)))), 0, []⟩])
(.seq
(.seq
(.ops [⟨(some 8), none, (.p (.mv (.tmp 0))), 0, []⟩,
⟨(some 9), none, (.p (.nilchk (.tmp 8))), 0, []⟩,
⟨(some 10), none, (.p (.fieldAt 0 (.tmp 9))), 0, []⟩,
⟨(some 11), none, (.r (.load 1 false (.tmp 10))), 0, []⟩,
⟨(some 12), none, (.p (.mv (.tmp 1))), 0, []⟩,
⟨(some 13), none, (.r (.lookup (.one .str) .nilptr false (.tmp 11) (.tmp 12))), 0, []⟩,
⟨(some 7), none, (.p (.mv (.tmp 13))), 0, []⟩])
(.seq
(.draw [⟨(some 14), none, (.p (.mv (.tmp 0))), 0, []⟩,
⟨(some 15), none, (.p (.nilchk (.tmp 14))), 1, []⟩,
⟨(some 16), none, (.p (.fieldAt 4 (.tmp 15))), 2, []⟩,
⟨(some 17), none, (.r (.load 1 false (.tmp 16))), 3, []⟩,
⟨(some 18), none, (.p (.un .not (.tmp 17))), 4, []⟩,
⟨(some 19), none, (.p (.mv (.tmp 18))), 5, []⟩,
⟨(some 20), (some (19, true)), (.p (.mv (.tmp 7))), 6, []⟩,
⟨(some 21), (some (19, true)), (.p (.eq .ptr true (.tmp 20) (.c .nilptr))), 7, []⟩,
⟨(some 22), none, (.p (.pick (.tmp 19) (.tmp 21) (.c (.bool false)))), 8, []⟩,
⟨(some 23), none, (.p (.mv (.tmp 22))), 9, []⟩,
⟨(some 24), (some (23, true)), (.r (.load 1 false (.tmp 5))), 10, []⟩,
⟨(some 25), (some (23, true)), (.p (.bin .lss (.tmp 24) (.c (.int .i64 0)))), 11, []⟩,
⟨(some 26), (some (23, true)), (.p (.mv (.tmp 25))), 12, []⟩,
⟨(some 27), (some (26, false)), (.r (.load 1 false (.tmp 5))), 13, []⟩,
⟨(some 28), (some (26, false)), (.p (.mv (.tmp 7))), 14, []⟩,
⟨(some 29), (some (26, false)), (.p (.nilchk (.tmp 28))), 15, []⟩,
⟨(some 30), (some (26, false)), (.p (.fieldAt 0 (.tmp 29))), 16, []⟩,
⟨(some 31), (some (26, false)), (.r (.load 1 false (.tmp 30))), 17, []⟩,
⟨(some 32), (some (26, false)), (.p (.lenStr (.tmp 31))), 18, []⟩,
⟨(some 33), (some (26, false)), (.p (.bin .gtr (.tmp 27) (.tmp 32))), 19, []⟩,
⟨(some 34), (some (23, true)), (.p (.pick (.tmp 26) (.c (.bool true)) (.tmp 33))), 20, []⟩,
⟨(some 35), none, (.p (.pick (.tmp 23) (.tmp 34) (.c (.bool false)))), 21, []⟩])
(.cond (.tmp 35)
(.seq
(.ops [⟨(some 6), none, (.p (.mv (.c (.int .i64 1)))), 0, []⟩])
.ret)
.skip)))
(.seq
(.ops [⟨(some 36), none, (.p (.mv (.tmp 0))), 0, []⟩,
⟨(some 37), none, (.p (.mv (.tmp 1))), 0, []⟩,
⟨(some 38), none, (.p (.mkFn 41 [] [(.tmp 5)])), 0, []⟩,
⟨(some 39), none, (.h (.call (.c (.fn 36 [] [])) [(.tmp 36), (.tmp 37), (.tmp 38)])), 0, []⟩,
⟨(some 6), none, (.p (.mv (.tmp 39))), 0, []⟩])
.ret)))⟩
theorem c24 : Mir.compF Try.prog Try.f24 = some g24 := by kernel_rfl
/-- (*scribe/disk.Disk).Put -/
def g25 : Mir.Fn := ⟨36, [(.tmp 6)],
(.seq
(.ops [⟨(some 6), none, (.p (.mv (.c (.int .i64 0)))), 0, []⟩])
(.seq
(.seq
(.ops [⟨(some 8), none, (.p (.mv (.tmp 1))), 0, []⟩,
⟨(some 9), none, (.h (.call (.c (.fn 11 [] [])) [(.tmp 8)])), 0, []⟩,
⟨(some 10), none, (.p (.un .not (.tmp 9))), 0, []⟩,
⟨(some 11), none, (.p (.mv (.tmp 10))), 0, []⟩,
⟨(some 12), (some (11, false)), (.p (.mv (.tmp 2))), 0, []⟩,
⟨(some 13), (some (11, false)), (.p (.lenStr (.tmp 12))), 0, []⟩,
⟨(some 14), (some (11, false)), (.p (.bin .gtr (.tmp 13) (.c (.int .i64 1048576)))), 0, []⟩,
⟨(some 15), none, (.p (.pick (.tmp 11) (.c (.bool true)) (.tmp 14))), 0, []⟩])
(.cond (.tmp 15)
(.seq
(.ops [⟨(some 6), none, (.p (.mv (.c (.int .i64 1)))), 0, []⟩])
.ret)
.skip))
(.seq
(.ops [⟨(some 16), none, (.p (.mv (.tmp 2))), 0, []⟩,
⟨(some 17), none, (.p (.mv (.tmp 2))), 0, []⟩,
⟨(some 18), none, (.p (.build [(.str []), (.str [])] [(0, (1, (.tmp 16))), (1, (1, (.tmp 17)))])), 0, []⟩,
⟨(some 19), none, (.a (.box (.tmp 18))), 0, []⟩,
⟨(some 7), none, (.p (.mv (.tmp 19))), 0, []⟩])
(.seq
(.draw [⟨(some 20), none, (.p (.mv (.tmp 0))), 0, []⟩,
⟨(some 21), none, (.p (.nilchk (.tmp 20))), 1, []⟩,
⟨(some 22), none, (.p (.fieldAt 0 (.tmp 21))), 2, []⟩,
⟨(some 23), none, (.r (.load 1 false (.tmp 22))), 3, []⟩,
⟨(some 24), none, (.p (.mv (.tmp 1))), 4, []⟩,
⟨(some 25), none, (.p (.mv (.tmp 0))), 5, []⟩,
⟨(some 26), none, (.p (.nilchk (.tmp 25))), 6, []⟩,
⟨(some 27), none, (.p (.fieldAt 1 (.tmp 26))), 7, []⟩,
⟨(some 28), none, (.r (.load 1 false (.tmp 27))), 8, []⟩,
⟨(some 29), none, (.p (.mv (.tmp 1))), 9, []⟩,
⟨(some 30), none, (.p (.mv (.tmp 7))), 10, []⟩,
⟨(some 31), none, (.p (.mv (.tmp 7))), 11, []⟩,
⟨(some 32), none, (.h (.mapEntry (.one .str) .nilptr (.tmp 23) (.tmp 24))), 12, []⟩,
⟨(some 33), none, (.p (.ext (.tmp 32) 1)), 13, []⟩,
⟨none, none, (.h (.entryStore (.tmp 23) (.tmp 33) (.tmp 30))), 14, []⟩,
⟨(some 34), none, (.h (.mapEntry (.one .str) .nilptr (.tmp 28) (.tmp 29))), 15, []⟩,
⟨(some 35), none, (.p (.ext (.tmp 34) 1)), 16, []⟩,
⟨none, none, (.h (.entryStore (.tmp 28) (.tmp 35) (.tmp 31))), 17, []⟩])
(.seq
(.ops [⟨(some 6), none, (.p (.mv (.c (.int .i64 0)))), 0, []⟩])
.ret)))))⟩
theorem c25 : Mir.compF Try.prog Try.f25 = some g25 := by kernel_rfl
/-- (*scribe/disk.Disk).Rename -/
def g26 : Mir.Fn := ⟨30, [(.tmp 6)],
(.seq
(.ops [⟨(some 3), none, (.a (.box (.tmp 0))), 0, []⟩,
⟨(some 4), none, (.a (.box (.tmp 1))), 0, []⟩,
⟨(some 5), none, (.a (.box (.tmp 2))), 0, []⟩,
⟨(some 6), none, (.p (.mv (.c (.int .i64 0)))), 0, []⟩])
(.seq
(.seq
(.draw [⟨(some 7), none, (.r (.load 1 false (.tmp 3))), 0, []⟩,
⟨(some 8), none, (.p (.nilchk (.tmp 7))), 1, []⟩,
⟨(some 9), none, (.p (.fieldAt 4 (.tmp 8))), 2, []⟩,
⟨(some 10), none, (.r (.load 1 false (.tmp 9))), 3, []⟩,
⟨(some 11), none, (.p (.un .not (.tmp 10))), 4, []⟩,
⟨(some 12), none, (.p (.mv (.tmp 11))), 5, []⟩,
⟨(some 13), (some (12, true)), (.r (.load 1 false (.tmp 3))), 6, []⟩,
⟨(some 14), (some (12, true)), (.p (.nilchk (.tmp 13))), 7, []⟩,
⟨(some 15), (some (12, true)), (.p (.fieldAt 0 (.tmp 14))), 8, []⟩,
⟨(some 16), (some (12, true)), (.r (.load 1 false (.tmp 15))), 9, []⟩,
⟨(some 17), (some (12, true)), (.r (.load 1 false (.tmp 4))), 10, []⟩,
⟨(some 18), (some (12, true)), (.r (.lookup (.one .str) .nilptr false (.tmp 16) (.tmp 17))), 11, []⟩,
⟨(some 19), (some (12, true)), (.p (.eq .ptr true (.tmp 18) (.c .nilptr))), 12, []⟩,
⟨(some 20), none, (.p (.pick (.tmp 12) (.tmp 19) (.c (.bool false)))), 13, []⟩,
⟨(some 21), none, (.p (.mv (.tmp 20))), 14, []⟩,
⟨(some 22), (some (21, true)), (.r (.load 1 false (.tmp 5))), 15, []⟩,
⟨(some 23), (some (21, true)), (.h (.call (.c (.fn 11 [] [])) [(.tmp 22)])), 16, []⟩,
⟨(some 24), (some (21, true)), (.p (.un .not (.tmp 23))), 17, []⟩,
⟨(some 25), none, (.p (.pick (.tmp 21) (.tmp 24) (.c (.bool false)))), 18, []⟩])
(.cond (.tmp 25)
(.seq
(.ops [⟨(some 6), none, (.p (.mv (.c (.int .i64 1)))), 0, []⟩])
.ret)
.skip))
(.seq
(.ops [⟨(some 26), none, (.r (.load 1 false (.tmp 3))), 0, []⟩,
⟨(some 27), none, (.r (.load 1 false (.tmp 4))), 0, []⟩,
⟨(some 28), none, (.p (.mkFn 42 [] [(.tmp 3), (.tmp 4), (.tmp 5)])), 0, []⟩,
⟨(some 29), none, (.h (.call (.c (.fn 36 [] [])) [(.tmp 26), (.tmp 27), (.tmp 28)])), 0, []⟩,
⟨(some 6), none, (.p (.mv (.tmp 29))), 0, []⟩])
.ret)))⟩
theorem c26 : Mir.compF Try.prog Try.f26 = some g26 := by kernel_rfl
/-- (*scribe/disk.Disk).Remove -/
def g27 : Mir.Fn := ⟨9, [(.tmp 4)],
(.seq
(.ops [⟨(some 2), none, (.a (.box (.tmp 0))), 0, []⟩,
⟨(some 3), none, (.a (.box (.tmp 1))), 0, []⟩,
⟨(some 4), none, (.p (.mv (.c (.int .i64 0)))), 0, []⟩])
(.seq
(.ops [⟨(some 5), none, (.r (.load 1 false (.tmp 2))), 0, []⟩,
⟨(some 6), none, (.r (.load 1 false (.tmp 3))), 0, []⟩,
⟨(some 7), none, (.p (.mkFn 43 [] [(.tmp 2), (.tmp 3)])), 0, []⟩,
⟨(some 8), none, (.h (.call (.c (.fn 36 [] [])) [(.tmp 5), (.tmp 6), (.tmp 7)])), 0, []⟩,
⟨(some 4), none, (.p (.mv (.tmp 8))), 0, []⟩])
.ret))⟩
theorem c27 : Mir.compF Try.prog Try.f27 = some g27 := by kernel_rfl
/-- scribe/scriberef03.New -/
def g28 : Mir.Fn := ⟨6, [(.cell 2 6 true)],
(.seq
(.ops [⟨(some 2), none, (.a (.alloc [.nilsl, .nilsl, .nilsl, (.int .i64 0), (.int .i64 0), (.bool false)])), 0, []⟩])
(.seq
(.ops [⟨(some 3), none, (.p (.mv (.tmp 0))), 0, []⟩,
⟨(some 4), none, (.p (.mnmx true (.tmp 3) [(.c (.int .i64 0))])), 0, []⟩,
⟨(some 5), none, (.p (.build [.nilsl, .nilsl, .nilsl, (.int .i64 0), (.int .i64 0), (.bool false)] [(3, (1, (.tmp 4))), (4, (1, (.c (.int .i64 (-1)))))])), 0, []⟩,
⟨none, none, (.h (.store 6 (.tmp 2) (.tmp 5))), 0, []⟩])
.ret))⟩
theorem c28 : Mir.compF Try.prog Try.f28 = some g28 := by kernel_rfl
/-- scribe/scribelaw03.Does -/
def g29 : Mir.Fn := ⟨218, [(.cell 6 6 true), (.tmp 7)],
(.seq
(.ops [⟨(some 4), none, (.a (.box (.tmp 1))), 0, []⟩,
⟨(some 5), none, (.a (.box (.tmp 2))), 0, []⟩,
⟨(some 6), none, (.a (.alloc [.nilsl, .nilsl, .nilsl, (.int .i64 0), (.int .i64 0), (.bool false)])), 0, []⟩,
⟨(some 7), none, (.p (.mv (.c (.int .i64 0)))), 0, []⟩])
(.seq
(.draw [⟨(some 22), none, (.p (.fieldAt 1 (.tmp 5))), 0, []⟩,
⟨(some 23), none, (.r (.load 1 false (.tmp 22))), 1, []⟩,
⟨(some 25), none, (.p (.fieldAt 2 (.tmp 5))), 3, []⟩,
⟨(some 26), none, (.r (.load 1 false (.tmp 25))), 4, []⟩,
⟨(some 28), none, (.p (.fieldAt 3 (.tmp 5))), 6, []⟩,
⟨(some 29), none, (.r (.load 1 false (.tmp 28))), 7, []⟩,
⟨(some 24), none, (.h (.call (.c (.fn 10 [] [])) [(.tmp 23), (.c (.int .i64 60))])), 2, [4, 7]⟩,
⟨(some 31), none, (.p (.fieldAt 1 (.tmp 5))), 9, []⟩,
⟨(some 27), none, (.h (.call (.c (.fn 10 [] [])) [(.tmp 26), (.c (.int .i64 60))])), 5, [7]⟩,
⟨(some 30), none, (.h (.call (.c (.fn 10 [] [])) [(.tmp 29), (.c (.int .i64 300))])), 8, []⟩,
⟨none, none, (.h (.store 1 (.tmp 31) (.tmp 24))), 10, []⟩,
⟨(some 32), none, (.p (.fieldAt 2 (.tmp 5))), 11, []⟩,
⟨none, none, (.h (.store 1 (.tmp 32) (.tmp 27))), 12, []⟩,
⟨(some 33), none, (.p (.fieldAt 3 (.tmp 5))), 13, []⟩,
⟨none, none, (.h (.store 1 (.tmp 33) (.tmp 30))), 14, []⟩])
(.seq
(.seq
(.ops [⟨(some 34), none, (.p (.fieldAt 6 (.tmp 5))), 0, []⟩,
⟨(some 35), none, (.r (.load 1 false (.tmp 34))), 0, []⟩,
⟨(some 36), none, (.p (.lenSl (.tmp 35))), 0, []⟩,
⟨(some 37), none, (.p (.bin .gtr (.tmp 36) (.c (.int .i64 20)))), 0, []⟩])
(.cond (.tmp 37)
(.ops [⟨(some 38), none, (.p (.fieldAt 6 (.tmp 5))), 0, []⟩,
⟨(some 39), none, (.r (.load 1 false (.tmp 38))), 0, []⟩,
⟨(some 40), none, (.p (.subSl 1 (.tmp 39) none (some (.c (.int .i64 20))))), 0, []⟩,
⟨(some 41), none, (.p (.fieldAt 6 (.tmp 5))), 0, []⟩,
⟨none, none, (.h (.store 1 (.tmp 41) (.tmp 40))), 0, []⟩])
.skip))
(.seq
(.ops [⟨(some 8), none, (.p (.mv (.c (.int .i64 0)))), 0, []⟩,
⟨(some 9), none, (.p (.mv (.c (.int .i64 0)))), 0, []⟩])
(.seq
(.seq
(.ops [⟨(some 42), none, (.p (.fieldAt 0 (.tmp 5))), 0, []⟩,
⟨(some 43), none, (.r (.load 1 false (.tmp 42))), 0, []⟩])
(.block 0 (.seq
(.ops [⟨(some 45), none, (.p (.bin .eql (.tmp 43) (.c (.int .i64 1)))), 0, []⟩,
⟨(some 44), none, (.p (.mv (.tmp 45))), 0, []⟩])
(.cond (.tmp 44)
(.seq
(.ops [⟨(some 46), none, (.p (.mv (.tmp 0))), 0, []⟩,
⟨(some 47), none, (.p (.fieldAt 1 (.tmp 5))), 0, []⟩,
⟨(some 48), none, (.r (.load 1 false (.tmp 47))), 0, []⟩,
⟨(some 49), none, (.p (.fieldAt 3 (.tmp 5))), 0, []⟩,
⟨(some 50), none, (.r (.load 1 false (.tmp 49))), 0, []⟩,
⟨(some 51), none, (.h (.call (.c (.fn 14 [] [])) [(.tmp 46), (.tmp 48), (.tmp 50)])), 0, []⟩,
⟨(some 8), none, (.p (.mv (.tmp 51))), 0, []⟩])
(.seq
(.ops [⟨(some 53), none, (.r (.load 6 true (.tmp 4))), 0, []⟩,
⟨(some 54), none, (.p (.fieldAt 1 (.tmp 5))), 0, []⟩,
⟨(some 55), none, (.r (.load 1 false (.tmp 54))), 0, []⟩,
⟨(some 56), none, (.p (.fieldAt 3 (.tmp 5))), 0, []⟩,
⟨(some 57), none, (.r (.load 1 false (.tmp 56))), 0, []⟩,
⟨(some 58), none, (.h (.call (.c (.fn 44 [] [])) [(.tmp 53), (.tmp 55), (.tmp 57)])), 0, []⟩,
⟨(some 52), none, (.p (.mv (.tmp 58))), 0, []⟩,
⟨(some 59), none, (.p (.ext (.tmp 52) 0)), 0, []⟩,
⟨(some 60), none, (.p (.ext (.tmp 52) 1)), 0, []⟩,
⟨(some 10), none, (.a (.alloc [.nilsl, .nilsl, .nilsl, (.int .i64 0), (.int .i64 0), (.bool false)])), 0, []⟩,
⟨none, none, (.h (.store 6 (.tmp 10) (.tmp 59))), 0, []⟩,
⟨(some 11), none, (.p (.mv (.tmp 60))), 0, []⟩])
(.seq
(.ops [⟨(some 61), none, (.r (.load 6 true (.tmp 10))), 0, []⟩,
⟨none, none, (.h (.store 6 (.tmp 4) (.tmp 61))), 0, []⟩])
(.ops [⟨(some 62), none, (.p (.mv (.tmp 11))), 0, []⟩,
⟨(some 9), none, (.p (.mv (.tmp 62))), 0, []⟩]))))
(.seq
(.seq
(.ops [⟨(some 64), none, (.p (.bin .eql (.tmp 43) (.c (.int .i64 2)))), 0, []⟩,
⟨(some 63), none, (.p (.mv (.tmp 64))), 0, []⟩])
(.cond (.tmp 63)
.skip
(.seq
(.ops [⟨(some 65), none, (.p (.bin .eql (.tmp 43) (.c (.int .i64 3)))), 0, []⟩,
⟨(some 63), none, (.p (.mv (.tmp 65))), 0, []⟩])
(.cond (.tmp 63)
.skip
(.seq
(.ops [⟨(some 66), none, (.p (.bin .eql (.tmp 43) (.c (.int .i64 4)))), 0, []⟩,
⟨(some 63), none, (.p (.mv (.tmp 66))), 0, []⟩])
(.cond (.tmp 63)
.skip
(.ops [⟨(some 67), none, (.p (.bin .eql (.tmp 43) (.c (.int .i64 5)))), 0, []⟩,
⟨(some 63), none, (.p (.mv (.tmp 67))), 0, []⟩])))))))
(.cond (.tmp 63)
(.seq
(.seq
(.ops [⟨(some 68), none, (.p (.fieldAt 0 (.tmp 5))), 0, []⟩,
⟨(some 69), none, (.r (.load 1 false (.tmp 68))), 0, []⟩])
(.block 1 (.seq
(.ops [⟨(some 71), none, (.p (.bin .eql (.tmp 69) (.c (.int .i64 2)))), 0, []⟩,
⟨(some 70), none, (.p (.mv (.tmp 71))), 0, []⟩])
(.cond (.tmp 70)
(.ops [⟨(some 72), none, (.p (.mv (.tmp 0))), 0, []⟩,
⟨(some 73), none, (.p (.fieldAt 1 (.tmp 5))), 0, []⟩,
⟨(some 74), none, (.r (.load 1 false (.tmp 73))), 0, []⟩,
⟨(some 75), none, (.p (.fieldAt 4 (.tmp 5))), 0, []⟩,
⟨(some 76), none, (.r (.load 1 false (.tmp 75))), 0, []⟩,
⟨(some 77), none, (.h (.call (.c (.fn 24 [] [])) [(.tmp 72), (.tmp 74), (.tmp 76)])), 0, []⟩,
⟨(some 8), none, (.p (.mv (.tmp 77))), 0, []⟩])
(.seq
(.ops [⟨(some 79), none, (.p (.bin .eql (.tmp 69) (.c (.int .i64 3)))), 0, []⟩,
⟨(some 78), none, (.p (.mv (.tmp 79))), 0, []⟩])
(.cond (.tmp 78)
(.ops [⟨(some 80), none, (.p (.mv (.tmp 0))), 0, []⟩,
⟨(some 81), none, (.p (.fieldAt 1 (.tmp 5))), 0, []⟩,
⟨(some 82), none, (.r (.load 1 false (.tmp 81))), 0, []⟩,
⟨(some 83), none, (.h (.call (.c (.fn 19 [] [])) [(.tmp 80), (.tmp 82)])), 0, []⟩,
⟨(some 8), none, (.p (.mv (.tmp 83))), 0, []⟩])
(.seq
(.ops [⟨(some 85), none, (.p (.bin .eql (.tmp 69) (.c (.int .i64 4)))), 0, []⟩,
⟨(some 84), none, (.p (.mv (.tmp 85))), 0, []⟩])
(.cond (.tmp 84)
(.ops [⟨(some 86), none, (.p (.mv (.tmp 0))), 0, []⟩,
⟨(some 87), none, (.p (.fieldAt 1 (.tmp 5))), 0, []⟩,
⟨(some 88), none, (.r (.load 1 false (.tmp 87))), 0, []⟩,
⟨(some 89), none, (.p (.fieldAt 2 (.tmp 5))), 0, []⟩,
⟨(some 90), none, (.r (.load 1 false (.tmp 89))), 0, []⟩,
⟨(some 91), none, (.h (.call (.c (.fn 26 [] [])) [(.tmp 86), (.tmp 88), (.tmp 90)])), 0, []⟩,
⟨(some 8), none, (.p (.mv (.tmp 91))), 0, []⟩])
(.seq
(.ops [⟨(some 93), none, (.p (.bin .eql (.tmp 69) (.c (.int .i64 5)))), 0, []⟩,
⟨(some 92), none, (.p (.mv (.tmp 93))), 0, []⟩])
(.cond (.tmp 92)
(.ops [⟨(some 94), none, (.p (.mv (.tmp 0))), 0, []⟩,
⟨(some 95), none, (.p (.fieldAt 1 (.tmp 5))), 0, []⟩,
⟨(some 96), none, (.r (.load 1 false (.tmp 95))), 0, []⟩,
⟨(some 97), none, (.h (.call (.c (.fn 27 [] [])) [(.tmp 94), (.tmp 96)])), 0, []⟩,
⟨(some 8), none, (.p (.mv (.tmp 97))), 0, []⟩])
.skip))))))))))
(.seq
(.ops [⟨(some 99), none, (.r (.load 6 true (.tmp 4))), 0, []⟩,
⟨(some 100), none, (.p (.fieldAt 0 (.tmp 5))), 0, []⟩,
⟨(some 101), none, (.r (.load 1 false (.tmp 100))), 0, []⟩,
⟨(some 102), none, (.p (.bin .sub (.tmp 101) (.c (.int .i64 1)))), 0, []⟩,
⟨(some 103), none, (.p (.fieldAt 1 (.tmp 5))), 0, []⟩,
⟨(some 104), none, (.r (.load 1 false (.tmp 103))), 0, []⟩,
⟨(some 105), none, (.p (.fieldAt 2 (.tmp 5))), 0, []⟩,
⟨(some 106), none, (.r (.load 1 false (.tmp 105))), 0, []⟩,
⟨(some 107), none, (.p (.fieldAt 4 (.tmp 5))), 0, []⟩,
⟨(some 108), none, (.r (.load 1 false (.tmp 107))), 0, []⟩,
⟨(some 109), none, (.h (.call (.c (.fn 45 [] [])) [(.tmp 99), (.tmp 102), (.tmp 104), (.tmp 106), (.tmp 108)])), 0, []⟩,
⟨(some 98), none, (.p (.mv (.tmp 109))), 0, []⟩,
⟨(some 110), none, (.p (.ext (.tmp 98) 0)), 0, []⟩,
⟨(some 111), none, (.p (.ext (.tmp 98) 1)), 0, []⟩,
⟨(some 12), none, (.a (.alloc [.nilsl, .nilsl, .nilsl, (.int .i64 0), (.int .i64 0), (.bool false)])), 0, []⟩,
⟨none, none, (.h (.store 6 (.tmp 12) (.tmp 110))), 0, []⟩,
⟨(some 13), none, (.p (.mv (.tmp 111))), 0, []⟩])
(.seq
(.ops [⟨(some 112), none, (.r (.load 6 true (.tmp 12))), 0, []⟩,
⟨none, none, (.h (.store 6 (.tmp 4) (.tmp 112))), 0, []⟩])
(.ops [⟨(some 113), none, (.p (.mv (.tmp 13))), 0, []⟩,
⟨(some 9), none, (.p (.mv (.tmp 113))), 0, []⟩]))))
(.seq
(.ops [⟨(some 115), none, (.p (.bin .eql (.tmp 43) (.c (.int .i64 6)))), 0, []⟩,
⟨(some 114), none, (.p (.mv (.tmp 115))), 0, []⟩])
(.cond (.tmp 114)
(.seq
(.ops [⟨(some 116), none, (.p (.mv (.tmp 0))), 0, []⟩,
⟨(some 117), none, (.h (.call (.c (.fn 18 [] [])) [(.tmp 116)])), 0, []⟩,
⟨(some 8), none, (.p (.mv (.tmp 117))), 0, []⟩])
(.seq
(.ops [⟨(some 119), none, (.r (.load 6 true (.tmp 4))), 0, []⟩,
⟨(some 120), none, (.h (.call (.c (.fn 46 [] [])) [(.tmp 119)])), 0, []⟩,
⟨(some 118), none, (.p (.mv (.tmp 120))), 0, []⟩,
⟨(some 121), none, (.p (.ext (.tmp 118) 0)), 0, []⟩,
⟨(some 122), none, (.p (.ext (.tmp 118) 1)), 0, []⟩,
⟨(some 14), none, (.a (.alloc [.nilsl, .nilsl, .nilsl, (.int .i64 0), (.int .i64 0), (.bool false)])), 0, []⟩,
⟨none, none, (.h (.store 6 (.tmp 14) (.tmp 121))), 0, []⟩,
⟨(some 15), none, (.p (.mv (.tmp 122))), 0, []⟩])
(.seq
(.ops [⟨(some 123), none, (.r (.load 6 true (.tmp 14))), 0, []⟩,
⟨none, none, (.h (.store 6 (.tmp 4) (.tmp 123))), 0, []⟩])
(.ops [⟨(some 124), none, (.p (.mv (.tmp 15))), 0, []⟩,
⟨(some 9), none, (.p (.mv (.tmp 124))), 0, []⟩]))))
(.seq
(.ops [⟨(some 126), none, (.p (.bin .eql (.tmp 43) (.c (.int .i64 7)))), 0, []⟩,
⟨(some 125), none, (.p (.mv (.tmp 126))), 0, []⟩])
(.cond (.tmp 125)
(.seq
(.ops [⟨(some 127), none, (.p (.mv (.tmp 0))), 0, []⟩,
⟨(some 128), none, (.p (.fieldAt 4 (.tmp 5))), 0, []⟩,
⟨(some 129), none, (.r (.load 1 false (.tmp 128))), 0, []⟩,
⟨(some 130), none, (.h (.call (.c (.fn 17 [] [])) [(.tmp 127), (.tmp 129)])), 0, []⟩])
(.seq
(.ops [⟨(some 131), none, (.p (.fieldAt 5 (.tmp 4))), 0, []⟩,
⟨(some 132), none, (.r (.load 1 false (.tmp 131))), 0, []⟩,
⟨(some 133), none, (.p (.un .not (.tmp 132))), 0, []⟩])
(.cond (.tmp 133)
(.ops [⟨(some 134), none, (.p (.fieldAt 4 (.tmp 5))), 0, []⟩,
⟨(some 135), none, (.r (.load 1 false (.tmp 134))), 0, []⟩,
⟨(some 136), none, (.p (.mnmx true (.tmp 135) [(.c (.int .i64 (-1)))])), 0, []⟩,
⟨(some 137), none, (.p (.fieldAt 4 (.tmp 4))), 0, []⟩,
⟨none, none, (.h (.store 1 (.tmp 137) (.tmp 136))), 0, []⟩])
.skip)))
(.seq
(.ops [⟨(some 139), none, (.p (.bin .eql (.tmp 43) (.c (.int .i64 8)))), 0, []⟩,
⟨(some 138), none, (.p (.mv (.tmp 139))), 0, []⟩])
(.cond (.tmp 138)
(.seq
(.draw [⟨(some 140), none, (.p (.mv (.tmp 0))), 0, []⟩,
⟨(some 141), none, (.a (.mkSl [(.int .i64 0)] 1 0 [])), 1, []⟩,
⟨(some 142), none, (.p (.fieldAt 6 (.tmp 5))), 2, []⟩,
⟨(some 143), none, (.r (.load 1 false (.tmp 142))), 3, []⟩,
⟨(some 145), none, (.p (.fieldAt 7 (.tmp 5))), 5, []⟩,
⟨(some 146), none, (.r (.load 1 false (.tmp 145))), 6, []⟩,
⟨(some 144), none, (.h (.app 1 8 (.tmp 141) (.tmp 143))), 4, [6]⟩,
⟨(some 147), none, (.h (.call (.c (.fn 22 [] [])) [(.tmp 140), (.tmp 144), (.tmp 146)])), 7, []⟩])
(.ops [⟨(some 148), none, (.r (.load 6 true (.tmp 4))), 0, []⟩,
⟨(some 149), none, (.p (.fieldAt 6 (.tmp 5))), 0, []⟩,
⟨(some 150), none, (.r (.load 1 false (.tmp 149))), 0, []⟩,
⟨(some 151), none, (.p (.fieldAt 7 (.tmp 5))), 0, []⟩,
⟨(some 152), none, (.r (.load 1 false (.tmp 151))), 0, []⟩,
⟨(some 153), none, (.h (.call (.c (.fn 47 [] [])) [(.tmp 148), (.tmp 150), (.tmp 152)])), 0, []⟩,
⟨none, none, (.h (.store 6 (.tmp 4) (.tmp 153))), 0, []⟩]))
(.seq
(.ops [⟨(some 155), none, (.p (.bin .eql (.tmp 43) (.c (.int .i64 9)))), 0, []⟩,
⟨(some 154), none, (.p (.mv (.tmp 155))), 0, []⟩])
(.cond (.tmp 154)
(.seq
(.ops [⟨(some 156), none, (.p (.mv (.tmp 0))), 0, []⟩,
⟨(some 157), none, (.p (.fieldAt 1 (.tmp 5))), 0, []⟩,
⟨(some 158), none, (.r (.load 1 false (.tmp 157))), 0, []⟩,
⟨(some 159), none, (.p (.fieldAt 3 (.tmp 5))), 0, []⟩,
⟨(some 160), none, (.r (.load 1 false (.tmp 159))), 0, []⟩,
⟨(some 161), none, (.h (.call (.c (.fn 25 [] [])) [(.tmp 156), (.tmp 158), (.tmp 160)])), 0, []⟩,
⟨(some 8), none, (.p (.mv (.tmp 161))), 0, []⟩])
(.seq
(.ops [⟨(some 163), none, (.r (.load 6 true (.tmp 4))), 0, []⟩,
⟨(some 164), none, (.p (.fieldAt 1 (.tmp 5))), 0, []⟩,
⟨(some 165), none, (.r (.load 1 false (.tmp 164))), 0, []⟩,
⟨(some 166), none, (.p (.fieldAt 3 (.tmp 5))), 0, []⟩,
⟨(some 167), none, (.r (.load 1 false (.tmp 166))), 0, []⟩,
⟨(some 168), none, (.h (.call (.c (.fn 48 [] [])) [(.tmp 163), (.tmp 165), (.tmp 167)])), 0, []⟩,
⟨(some 162), none, (.p (.mv (.tmp 168))), 0, []⟩,
⟨(some 169), none, (.p (.ext (.tmp 162) 0)), 0, []⟩,
⟨(some 170), none, (.p (.ext (.tmp 162) 1)), 0, []⟩,
⟨(some 16), none, (.a (.alloc [.nilsl, .nilsl, .nilsl, (.int .i64 0), (.int .i64 0), (.bool false)])), 0, []⟩,
⟨none, none, (.h (.store 6 (.tmp 16) (.tmp 169))), 0, []⟩,
⟨(some 17), none, (.p (.mv (.tmp 170))), 0, []⟩])
(.seq
(.ops [⟨(some 171), none, (.r (.load 6 true (.tmp 16))), 0, []⟩,
⟨none, none, (.h (.store 6 (.tmp 4) (.tmp 171))), 0, []⟩])
(.ops [⟨(some 172), none, (.p (.mv (.tmp 17))), 0, []⟩,
⟨(some 9), none, (.p (.mv (.tmp 172))), 0, []⟩]))))
(.seq
(.ops [⟨(some 174), none, (.p (.bin .eql (.tmp 43) (.c (.int .i64 10)))), 0, []⟩,
⟨(some 173), none, (.p (.mv (.tmp 174))), 0, []⟩])
(.cond (.tmp 173)
(.seq
(.ops [⟨(some 175), none, (.p (.mv (.tmp 0))), 0, []⟩,
⟨(some 176), none, (.p (.fieldAt 4 (.tmp 5))), 0, []⟩,
⟨(some 177), none, (.r (.load 1 false (.tmp 176))), 0, []⟩,
⟨(some 178), none, (.h (.call (.c (.fn 16 [] [])) [(.tmp 175), (.tmp 177)])), 0, []⟩])
(.ops [⟨(some 179), none, (.p (.fieldAt 4 (.tmp 5))), 0, []⟩,
⟨(some 180), none, (.r (.load 1 false (.tmp 179))), 0, []⟩,
⟨(some 181), none, (.p (.mnmx true (.tmp 180) [(.c (.int .i64 0))])), 0, []⟩,
⟨(some 182), none, (.p (.fieldAt 3 (.tmp 4))), 0, []⟩,
⟨none, none, (.h (.store 1 (.tmp 182) (.tmp 181))), 0, []⟩]))
(.seq
(.ops [⟨(some 184), none, (.p (.bin .eql (.tmp 43) (.c (.int .i64 11)))), 0, []⟩,
⟨(some 183), none, (.p (.mv (.tmp 184))), 0, []⟩])
(.cond (.tmp 183)
(.seq
(.ops [⟨(some 186), none, (.p (.mv (.tmp 0))), 0, []⟩,
⟨(some 187), none, (.p (.fieldAt 1 (.tmp 5))), 0, []⟩,
⟨(some 188), none, (.r (.load 1 false (.tmp 187))), 0, []⟩,
⟨(some 189), none, (.p (.fieldAt 5 (.tmp 5))), 0, []⟩,
⟨(some 190), none, (.r (.load 1 false (.tmp 189))), 0, []⟩,
⟨(some 191), none, (.p (.fieldAt 4 (.tmp 5))), 0, []⟩,
⟨(some 192), none, (.r (.load 1 false (.tmp 191))), 0, []⟩,
⟨(some 193), none, (.h (.call (.c (.fn 21 [] [])) [(.tmp 186), (.tmp 188), (.tmp 190), (.tmp 192)])), 0, []⟩,
⟨(some 185), none, (.p (.mv (.tmp 193))), 0, []⟩,
⟨(some 194), none, (.p (.ext (.tmp 185) 0)), 0, []⟩,
⟨(some 195), none, (.p (.ext (.tmp 185) 1)), 0, []⟩,
⟨(some 18), none, (.p (.mv (.tmp 194))), 0, []⟩,
⟨(some 19), none, (.p (.mv (.tmp 195))), 0, []⟩])
(.seq
(.ops [⟨(some 197), none, (.r (.load 6 true (.tmp 4))), 0, []⟩,
⟨(some 198), none, (.p (.fieldAt 1 (.tmp 5))), 0, []⟩,
⟨(some 199), none, (.r (.load 1 false (.tmp 198))), 0, []⟩,
⟨(some 200), none, (.p (.fieldAt 5 (.tmp 5))), 0, []⟩,
⟨(some 201), none, (.r (.load 1 false (.tmp 200))), 0, []⟩,
⟨(some 202), none, (.p (.fieldAt 4 (.tmp 5))), 0, []⟩,
⟨(some 203), none, (.r (.load 1 false (.tmp 202))), 0, []⟩,
⟨(some 204), none, (.h (.call (.c (.fn 49 [] [])) [(.tmp 197), (.tmp 199), (.tmp 201), (.tmp 203)])), 0, []⟩,
⟨(some 196), none, (.p (.mv (.tmp 204))), 0, []⟩,
⟨(some 205), none, (.p (.ext (.tmp 196) 0)), 0, []⟩,
⟨(some 206), none, (.p (.ext (.tmp 196) 1)), 0, []⟩,
⟨(some 20), none, (.p (.mv (.tmp 205))), 0, []⟩,
⟨(some 21), none, (.p (.mv (.tmp 206))), 0, []⟩])
(.seq
(.ops [⟨(some 207), none, (.p (.mv (.tmp 19))), 0, []⟩,
⟨(some 8), none, (.p (.mv (.tmp 207))), 0, []⟩])
(.seq
(.ops [⟨(some 208), none, (.p (.mv (.tmp 21))), 0, []⟩,
⟨(some 9), none, (.p (.mv (.tmp 208))), 0, []⟩])
(.seq
(.ops [⟨(some 209), none, (.p (.mv (.tmp 18))), 0, []⟩,
⟨(some 210), none, (.p (.mv (.tmp 20))), 0, []⟩,
⟨(some 211), none, (.p (.bin .neq (.tmp 209) (.tmp 210))), 0, []⟩])
(.cond (.tmp 211)
(.seq
(.ops [⟨(some 212), none, (.r (.load 6 true (.tmp 4))), 0, []⟩,
⟨none, none, (.h (.store 6 (.tmp 6) (.tmp 212))), 0, []⟩,
⟨(some 7), none, (.p (.mv (.c (.int .i64 (-1))))), 0, []⟩])
.ret)
.skip))))))
.skip))))))))))))))))))
(.seq
(.seq
(.ops [⟨(some 213), none, (.p (.mv (.tmp 8))), 0, []⟩,
⟨(some 214), none, (.p (.mv (.tmp 9))), 0, []⟩,
⟨(some 215), none, (.p (.bin .neq (.tmp 213) (.tmp 214))), 0, []⟩])
(.cond (.tmp 215)
(.seq
(.ops [⟨(some 216), none, (.r (.load 6 true (.tmp 4))), 0, []⟩,
⟨none, none, (.h (.store 6 (.tmp 6) (.tmp 216))), 0, []⟩,
⟨(some 7), none, (.p (.mv (.c (.int .i64 (-1))))), 0, []⟩])
.ret)
.skip))
(.seq
(.ops [⟨(some 217), none, (.r (.load 6 true (.tmp 4))), 0, []⟩,
⟨none, none, (.h (.store 6 (.tmp 6) (.tmp 217))), 0, []⟩,
⟨(some 7), none, (.p (.mv (.c (.int .i64 0)))), 0, []⟩])
.ret)))))))⟩
theorem c29 : Mir.compF Try.prog Try.f29 = some g29 := by kernel_rfl
/-- scribe/scribelaw03.Shows -/
def g30 : Mir.Fn := ⟨86, [(.cell 4 1 false)],
(.seq
(.ops [⟨(some 2), none, (.a (.box (.tmp 0))), 0, []⟩,
⟨(some 3), none, (.a (.box (.tmp 1))), 0, []⟩,
⟨(some 4), none, (.a (.alloc [(.int .i64 0)])), 0, []⟩])
(.seq
(.seq
(.draw [⟨(some 10), none, (.r (.load 1 false (.tmp 2))), 0, []⟩,
⟨(some 12), none, (.p (.fieldAt 5 (.tmp 3))), 2, []⟩,
⟨(some 13), none, (.r (.load 1 false (.tmp 12))), 3, []⟩,
⟨(some 11), none, (.h (.call (.c (.fn 20 [] [])) [(.tmp 10)])), 1, [3]⟩,
⟨(some 14), none, (.p (.eq .bool true (.tmp 11) (.tmp 13))), 4, []⟩,
⟨(some 15), none, (.p (.mv (.tmp 14))), 5, []⟩,
⟨(some 16), (some (15, false)), (.r (.load 1 false (.tmp 2))), 6, []⟩,
⟨(some 18), (some (15, false)), (.r (.load 6 true (.tmp 3))), 8, []⟩,
⟨(some 17), (some (15, false)), (.h (.call (.c (.fn 15 [] [])) [(.tmp 16)])), 7, [8]⟩,
⟨(some 19), (some (15, false)), (.h (.call (.c (.fn 50 [] [])) [(.tmp 18)])), 9, []⟩,
⟨(some 20), (some (15, false)), (.p (.bin .neq (.tmp 17) (.tmp 19))), 10, []⟩,
⟨(some 21), none, (.p (.pick (.tmp 15) (.c (.bool true)) (.tmp 20))), 11, []⟩])
(.cond (.tmp 21)
(.seq
(.ops [⟨none, none, (.h (.store 1 (.tmp 4) (.c (.int .i64 (-1))))), 0, []⟩])
.ret)
.skip))
(.seq
(.ops [⟨(some 5), none, (.a (.alloc [(.int .i64 0)])), 0, []⟩,
⟨none, none, (.h (.store 1 (.tmp 5) (.c (.int .i64 0)))), 0, []⟩])
(.seq
(.seq
(.ops [⟨(some 22), none, (.r (.load 1 false (.tmp 2))), 0, []⟩,
⟨(some 23), none, (.h (.call (.c (.fn 51 [] [])) [(.tmp 22)])), 0, []⟩])
(.block 0 (.rangeFn (.tmp 23) [24, 25] (.seq
(.ops [⟨(some 6), none, (.p (.mv (.tmp 24))), 0, []⟩])
(.ops [⟨(some 7), none, (.p (.mv (.tmp 25))), 0, []⟩])) (.block 1 (.seq
(.seq
(.draw [⟨(some 26), none, (.p (.fieldAt 5 (.tmp 3))), 0, []⟩,
⟨(some 27), none, (.r (.load 1 false (.tmp 26))), 1, []⟩,
⟨(some 28), none, (.p (.mv (.tmp 27))), 2, []⟩,
⟨(some 29), (some (28, false)), (.r (.load 1 false (.tmp 5))), 3, []⟩,
⟨(some 30), (some (28, false)), (.p (.fieldAt 1 (.tmp 3))), 4, []⟩,
⟨(some 31), (some (28, false)), (.r (.load 1 false (.tmp 30))), 5, []⟩,
⟨(some 32), (some (28, false)), (.p (.lenSl (.tmp 31))), 6, []⟩,
⟨(some 33), (some (28, false)), (.p (.bin .geq (.tmp 29) (.tmp 32))), 7, []⟩,
⟨(some 34), none, (.p (.pick (.tmp 28) (.c (.bool true)) (.tmp 33))), 8, []⟩,
⟨(some 35), none, (.p (.mv (.tmp 34))), 9, []⟩,
⟨(some 36), (some (35, false)), (.p (.fieldAt 1 (.tmp 3))), 10, []⟩,
⟨(some 37), (some (35, false)), (.r (.load 1 false (.tmp 36))), 11, []⟩,
⟨(some 38), (some (35, false)), (.r (.load 1 false (.tmp 5))), 12, []⟩,
⟨(some 39), (some (35, false)), (.p (.idxSl 2 (.tmp 37) (.tmp 38))), 13, []⟩,
⟨(some 40), (some (35, false)), (.p (.fieldAt 0 (.tmp 39))), 14, []⟩,
⟨(some 41), (some (35, false)), (.r (.load 1 false (.tmp 40))), 15, []⟩,
⟨(some 42), (some (35, false)), (.p (.mv (.tmp 6))), 16, []⟩,
⟨(some 43), (some (35, false)), (.p (.bin .neq (.tmp 41) (.tmp 42))), 17, []⟩,
⟨(some 44), none, (.p (.pick (.tmp 35) (.c (.bool true)) (.tmp 43))), 18, []⟩,
⟨(some 45), none, (.p (.mv (.tmp 44))), 19, []⟩,
⟨(some 46), (some (45, false)), (.p (.fieldAt 0 (.tmp 3))), 20, []⟩,
⟨(some 47), (some (45, false)), (.r (.load 1 false (.tmp 46))), 21, []⟩,
⟨(some 48), (some (45, false)), (.p (.fieldAt 1 (.tmp 3))), 22, []⟩,
⟨(some 49), (some (45, false)), (.r (.load 1 false (.tmp 48))), 23, []⟩,
⟨(some 50), (some (45, false)), (.r (.load 1 false (.tmp 5))), 24, []⟩,
⟨(some 51), (some (45, false)), (.p (.idxSl 2 (.tmp 49) (.tmp 50))), 25, []⟩,
⟨(some 52), (some (45, false)), (.p (.fieldAt 1 (.tmp 51))), 26, []⟩,
⟨(some 53), (some (45, false)), (.r (.load 1 false (.tmp 52))), 27, []⟩,
⟨(some 54), (some (45, false)), (.p (.idxSl 2 (.tmp 47) (.tmp 53))), 28, []⟩,
⟨(some 55), (some (45, false)), (.p (.fieldAt 0 (.tmp 54))), 29, []⟩,
⟨(some 56), (some (45, false)), (.r (.load 1 false (.tmp 55))), 30, []⟩,
⟨(some 57), (some (45, false)), (.p (.mv (.tmp 7))), 31, []⟩,
⟨(some 58), (some (45, false)), (.p (.bin .neq (.tmp 56) (.tmp 57))), 32, []⟩,
⟨(some 59), none, (.p (.pick (.tmp 45) (.c (.bool true)) (.tmp 58))), 33, []⟩])
(.cond (.tmp 59)
(.seq
(.ops [⟨none, none, (.h (.store 1 (.tmp 4) (.c (.int .i64 (-1))))), 0, []⟩])
.ret)
.skip))
(.seq
(.ops [⟨(some 61), none, (.r (.load 1 false (.tmp 2))), 0, []⟩,
⟨(some 62), none, (.p (.mv (.tmp 6))), 0, []⟩,
⟨(some 63), none, (.h (.call (.c (.fn 23 [] [])) [(.tmp 61), (.tmp 62)])), 0, []⟩,
⟨(some 60), none, (.p (.mv (.tmp 63))), 0, []⟩,
⟨(some 64), none, (.p (.ext (.tmp 60) 0)), 0, []⟩,
⟨(some 65), none, (.p (.ext (.tmp 60) 1)), 0, []⟩,
⟨(some 8), none, (.p (.mv (.tmp 64))), 0, []⟩,
⟨(some 9), none, (.p (.mv (.tmp 65))), 0, []⟩])
(.seq
(.seq
(.ops [⟨(some 66), none, (.p (.mv (.tmp 9))), 0, []⟩,
⟨(some 67), none, (.p (.bin .neq (.tmp 66) (.c (.int .i64 0)))), 0, []⟩,
⟨(some 68), none, (.p (.mv (.tmp 67))), 0, []⟩,
⟨(some 69), (some (68, false)), (.p (.mv (.tmp 8))), 0, []⟩,
⟨(some 70), (some (68, false)), (.p (.mv (.tmp 7))), 0, []⟩,
⟨(some 71), (some (68, false)), (.p (.lenStr (.tmp 70))), 0, []⟩,
⟨(some 72), (some (68, false)), (.p (.bin .neq (.tmp 69) (.tmp 71))), 0, []⟩,
⟨(some 73), none, (.p (.pick (.tmp 68) (.c (.bool true)) (.tmp 72))), 0, []⟩])
(.cond (.tmp 73)
(.seq
(.ops [⟨none, none, (.h (.store 1 (.tmp 4) (.c (.int .i64 (-1))))), 0, []⟩])
.ret)
.skip))
(.ops [⟨(some 74), none, (.r (.load 1 false (.tmp 5))), 0, []⟩,
⟨(some 75), none, (.p (.bin .add (.tmp 74) (.c (.int .i64 1)))), 0, []⟩,
⟨none, none, (.h (.store 1 (.tmp 5) (.tmp 75))), 0, []⟩]))))))))
(.seq
(.seq
(.ops [⟨(some 76), none, (.p (.fieldAt 5 (.tmp 3))), 0, []⟩,
⟨(some 77), none, (.r (.load 1 false (.tmp 76))), 0, []⟩,
⟨(some 78), none, (.p (.un .not (.tmp 77))), 0, []⟩,
⟨(some 79), none, (.p (.mv (.tmp 78))), 0, []⟩,
⟨(some 80), (some (79, true)), (.r (.load 1 false (.tmp 5))), 0, []⟩,
⟨(some 81), (some (79, true)), (.p (.fieldAt 1 (.tmp 3))), 0, []⟩,
⟨(some 82), (some (79, true)), (.r (.load 1 false (.tmp 81))), 0, []⟩,
⟨(some 83), (some (79, true)), (.p (.lenSl (.tmp 82))), 0, []⟩,
⟨(some 84), (some (79, true)), (.p (.bin .neq (.tmp 80) (.tmp 83))), 0, []⟩,
⟨(some 85), none, (.p (.pick (.tmp 79) (.tmp 84) (.c (.bool false)))), 0, []⟩])
(.cond (.tmp 85)
(.seq
(.ops [⟨none, none, (.h (.store 1 (.tmp 4) (.c (.int .i64 (-1))))), 0, []⟩])
.ret)
.skip))
(.seq
(.ops [⟨none, none, (.h (.store 1 (.tmp 4) (.c (.int .i64 0)))), 0, []⟩])
.ret))))))⟩
theorem c30 : Mir.compF Try.prog Try.f30 = some g30 := by kernel_rfl
/-- scribe/scriberef03.Name -/
def g31 : Mir.Fn := ⟨49, [(.tmp 2)],
(.seq
(.ops [⟨(some 2), none, (.p (.mv (.c (.bool false)))), 0, []⟩])
(.seq
(.seq
(.ops [⟨(some 3), none, (.p (.mv (.c (.int .i64 0)))), 0, []⟩])
(.block 0 (.loop (.seq
(.seq
(.ops [⟨(some 5), none, (.p (.mv (.tmp 3))), 0, []⟩,
⟨(some 6), none, (.p (.mv (.tmp 0))), 0, []⟩,
⟨(some 7), none, (.p (.lenStr (.tmp 6))), 0, []⟩,
⟨(some 8), none, (.p (.bin .lss (.tmp 5) (.tmp 7))), 0, []⟩])
(.cond (.tmp 8)
.skip
(.exit 0)))
(.seq
(.block 1 (.seq
(.ops [⟨(some 11), none, (.p (.mv (.tmp 0))), 0, []⟩,
⟨(some 12), none, (.p (.mv (.tmp 3))), 0, []⟩,
⟨(some 13), none, (.p (.idxStr (.tmp 11) (.tmp 12))), 0, []⟩,
⟨(some 4), none, (.p (.mv (.tmp 13))), 0, []⟩])
(.seq
(.ops [⟨(some 14), none, (.p (.mv (.tmp 4))), 0, []⟩,
⟨(some 15), none, (.p (.bin .geq (.tmp 14) (.c (.int .u8 97)))), 0, []⟩,
⟨(some 16), none, (.p (.mv (.tmp 15))), 0, []⟩,
⟨(some 17), (some (16, true)), (.p (.mv (.tmp 4))), 0, []⟩,
⟨(some 18), (some (16, true)), (.p (.bin .leq (.tmp 17) (.c (.int .u8 122)))), 0, []⟩,
⟨(some 19), none, (.p (.pick (.tmp 16) (.tmp 18) (.c (.bool false)))), 0, []⟩,
⟨(some 20), none, (.p (.mv (.tmp 19))), 0, []⟩,
⟨(some 21), (some (20, false)), (.p (.mv (.tmp 4))), 0, []⟩,
⟨(some 22), (some (20, false)), (.p (.bin .geq (.tmp 21) (.c (.int .u8 48)))), 0, []⟩,
⟨(some 23), (some (20, false)), (.p (.mv (.tmp 22))), 0, []⟩,
⟨(some 24), (some (23, true)), (.p (.mv (.tmp 4))), 0, []⟩,
⟨(some 25), (some (23, true)), (.p (.bin .leq (.tmp 24) (.c (.int .u8 57)))), 0, []⟩,
⟨(some 26), (some (20, false)), (.p (.pick (.tmp 23) (.tmp 25) (.c (.bool false)))), 0, []⟩,
⟨(some 27), none, (.p (.pick (.tmp 20) (.c (.bool true)) (.tmp 26))), 0, []⟩,
⟨(some 28), none, (.p (.mv (.tmp 27))), 0, []⟩,
⟨(some 29), (some (28, false)), (.p (.mv (.tmp 4))), 0, []⟩,
⟨(some 30), (some (28, false)), (.p (.bin .eql (.tmp 29) (.c (.int .u8 46)))), 0, []⟩,
⟨(some 31), none, (.p (.pick (.tmp 28) (.c (.bool true)) (.tmp 30))), 0, []⟩,
⟨(some 32), none, (.p (.mv (.tmp 31))), 0, []⟩,
⟨(some 33), (some (32, false)), (.p (.mv (.tmp 4))), 0, []⟩,
⟨(some 34), (some (32, false)), (.p (.bin .eql (.tmp 33) (.c (.int .u8 95)))), 0, []⟩,
⟨(some 35), none, (.p (.pick (.tmp 32) (.c (.bool true)) (.tmp 34))), 0, []⟩,
⟨(some 36), none, (.p (.mv (.tmp 35))), 0, []⟩,
⟨(some 37), (some (36, false)), (.p (.mv (.tmp 4))), 0, []⟩,
⟨(some 38), (some (36, false)), (.p (.bin .eql (.tmp 37) (.c (.int .u8 45)))), 0, []⟩,
⟨(some 39), none, (.p (.pick (.tmp 36) (.c (.bool true)) (.tmp 38))), 0, []⟩,
⟨(some 40), none, (.p (.un .not (.tmp 39))), 0, []⟩])
(.cond (.tmp 40)
(.seq
(.ops [⟨(some 2), none, (.p (.mv (.c (.bool false)))), 0, []⟩])
.ret)
.skip))))
(.ops [⟨(some 9), none, (.p (.mv (.tmp 3))), 0, []⟩,
⟨(some 10), none, (.p (.bin .add (.tmp 9) (.c (.int .i64 1)))), 0, []⟩,
⟨(some 3), none, (.p (.mv (.tmp 10))), 0, []⟩]))))))
(.seq
(.ops [⟨(some 41), none, (.p (.mv (.tmp 0))), 0, []⟩,
⟨(some 42), none, (.p (.lenStr (.tmp 41))), 0, []⟩,
⟨(some 43), none, (.p (.bin .geq (.tmp 42) (.c (.int .i64 1)))), 0, []⟩,
⟨(some 44), none, (.p (.mv (.tmp 43))), 0, []⟩,
⟨(some 45), (some (44, true)), (.p (.mv (.tmp 0))), 0, []⟩,
⟨(some 46), (some (44, true)), (.p (.lenStr (.tmp 45))), 0, []⟩,
⟨(some 47), (some (44, true)), (.p (.bin .leq (.tmp 46) (.c (.int .i64 40)))), 0, []⟩,
⟨(some 48), none, (.p (.pick (.tmp 44) (.tmp 47) (.c (.bool false)))), 0, []⟩,
⟨(some 2), none, (.p (.mv (.tmp 48))), 0, []⟩])
.ret)))⟩
theorem c31 : Mir.compF Try.prog Try.f31 = some g31 := by kernel_rfl
/-- strings.ContainsFunc -/
def g32 : Mir.Fn := ⟨9, [(.tmp 4)],
(.seq
(.ops [⟨(some 4), none, (.p (.mv (.c (.bool false)))), 0, []⟩])
(.seq
(.ops [⟨(some 5), none, (.p (.mv (.tmp 0))), 0, []⟩,
⟨(some 6), none, (.p (.mv (.tmp 1))), 0, []⟩,
⟨(some 7), none, (.h (.call (.c (.fn 52 [] [])) [(.tmp 5), (.tmp 6)])), 0, []⟩,
⟨(some 8), none, (.p (.bin .geq (.tmp 7) (.c (.int .i64 0)))), 0, []⟩,
⟨(some 4), none, (.p (.mv (.tmp 8))), 0, []⟩])
.ret))⟩
theorem c32 : Mir.compF Try.prog Try.f32 = some g32 := by kernel_rfl
/-- scribe/disk.Name$1 -/
def g33 : Mir.Fn := ⟨29, [(.tmp 2)],
(.seq
(.ops [⟨(some 2), none, (.p (.mv (.c (.bool false)))), 0, []⟩])
(.seq
(.ops [⟨(some 3), none, (.p (.mv (.tmp 0))), 0, []⟩,
⟨(some 4), none, (.p (.bin .lss (.tmp 3) (.c (.int .i32 97)))), 0, []⟩,
⟨(some 5), none, (.p (.mv (.tmp 4))), 0, []⟩,
⟨(some 6), (some (5, false)), (.p (.mv (.tmp 0))), 0, []⟩,
⟨(some 7), (some (5, false)), (.p (.bin .gtr (.tmp 6) (.c (.int .i32 122)))), 0, []⟩,
⟨(some 8), none, (.p (.pick (.tmp 5) (.c (.bool true)) (.tmp 7))), 0, []⟩,
⟨(some 9), none, (.p (.mv (.tmp 8))), 0, []⟩,
⟨(some 10), (some (9, true)), (.p (.mv (.tmp 0))), 0, []⟩,
⟨(some 11), (some (9, true)), (.p (.bin .lss (.tmp 10) (.c (.int .i32 48)))), 0, []⟩,
⟨(some 12), (some (9, true)), (.p (.mv (.tmp 11))), 0, []⟩,
⟨(some 13), (some (12, false)), (.p (.mv (.tmp 0))), 0, []⟩,
⟨(some 14), (some (12, false)), (.p (.bin .gtr (.tmp 13) (.c (.int .i32 57)))), 0, []⟩,
⟨(some 15), (some (9, true)), (.p (.pick (.tmp 12) (.c (.bool true)) (.tmp 14))), 0, []⟩,
⟨(some 16), none, (.p (.pick (.tmp 9) (.tmp 15) (.c (.bool false)))), 0, []⟩,
⟨(some 17), none, (.p (.mv (.tmp 16))), 0, []⟩,
⟨(some 18), (some (17, true)), (.p (.mv (.tmp 0))), 0, []⟩,
⟨(some 19), (some (17, true)), (.p (.bin .neq (.tmp 18) (.c (.int .i32 46)))), 0, []⟩,
⟨(some 20), none, (.p (.pick (.tmp 17) (.tmp 19) (.c (.bool false)))), 0, []⟩,
⟨(some 21), none, (.p (.mv (.tmp 20))), 0, []⟩,
⟨(some 22), (some (21, true)), (.p (.mv (.tmp 0))), 0, []⟩,
⟨(some 23), (some (21, true)), (.p (.bin .neq (.tmp 22) (.c (.int .i32 95)))), 0, []⟩,
⟨(some 24), none, (.p (.pick (.tmp 21) (.tmp 23) (.c (.bool false)))), 0, []⟩,
⟨(some 25), none, (.p (.mv (.tmp 24))), 0, []⟩,
⟨(some 26), (some (25, true)), (.p (.mv (.tmp 0))), 0, []⟩,
⟨(some 27), (some (25, true)), (.p (.bin .neq (.tmp 26) (.c (.int .i32 45)))), 0, []⟩,
⟨(some 28), none, (.p (.pick (.tmp 25) (.tmp 27) (.c (.bool false)))), 0, []⟩,
⟨(some 2), none, (.p (.mv (.tmp 28))), 0, []⟩])
.ret))⟩
theorem c33 : Mir.compF Try.prog Try.f33 = some g33 := by kernel_rfl
/-- (*scribe/disk.Disk).deed -/
def g34 : Mir.Fn := ⟨27, [(.tmp 2)],
(.seq
(.ops [⟨(some 2), none, (.p (.mv (.c (.bool false)))), 0, []⟩])
(.seq
(.seq
(.ops [⟨(some 3), none, (.p (.mv (.tmp 0))), 0, []⟩,
⟨(some 4), none, (.p (.nilchk (.tmp 3))), 0, []⟩,
⟨(some 5), none, (.p (.fieldAt 3 (.tmp 4))), 0, []⟩,
⟨(some 6), none, (.r (.load 1 false (.tmp 5))), 0, []⟩,
⟨(some 7), none, (.p (.bin .gtr (.tmp 6) (.c (.int .i64 0)))), 0, []⟩])
(.cond (.tmp 7)
(.ops [⟨(some 8), none, (.p (.mv (.tmp 0))), 0, []⟩,
⟨(some 9), none, (.p (.nilchk (.tmp 8))), 0, []⟩,
⟨(some 10), none, (.p (.fieldAt 3 (.tmp 9))), 0, []⟩,
⟨(some 11), none, (.r (.load 1 false (.tmp 10))), 0, []⟩,
⟨(some 12), none, (.p (.bin .sub (.tmp 11) (.c (.int .i64 1)))), 0, []⟩,
⟨(some 13), none, (.p (.nilchk (.tmp 8))), 0, []⟩,
⟨(some 14), none, (.p (.fieldAt 3 (.tmp 13))), 0, []⟩,
⟨none, none, (.h (.store 1 (.tmp 14) (.tmp 12))), 0, []⟩])
(.seq
(.ops [⟨(some 15), none, (.p (.mv (.tmp 0))), 0, []⟩,
⟨(some 16), none, (.p (.nilchk (.tmp 15))), 0, []⟩,
⟨(some 17), none, (.p (.fieldAt 3 (.tmp 16))), 0, []⟩,
⟨(some 18), none, (.r (.load 1 false (.tmp 17))), 0, []⟩,
⟨(some 19), none, (.p (.bin .eql (.tmp 18) (.c (.int .i64 0)))), 0, []⟩])
(.cond (.tmp 19)
(.ops [⟨(some 20), none, (.p (.mv (.tmp 0))), 0, []⟩,
⟨(some 21), none, (.p (.nilchk (.tmp 20))), 0, []⟩,
⟨(some 22), none, (.p (.fieldAt 4 (.tmp 21))), 0, []⟩,
⟨none, none, (.h (.store 1 (.tmp 22) (.c (.bool true)))), 0, []⟩])
.skip))))
(.seq
(.ops [⟨(some 23), none, (.p (.mv (.tmp 0))), 0, []⟩,
⟨(some 24), none, (.p (.nilchk (.tmp 23))), 0, []⟩,
⟨(some 25), none, (.p (.fieldAt 4 (.tmp 24))), 0, []⟩,
⟨(some 26), none, (.r (.load 1 false (.tmp 25))), 0, []⟩,
⟨(some 2), none, (.p (.mv (.tmp 26))), 0, []⟩])
.ret)))⟩
theorem c34 : Mir.compF Try.prog Try.f34 = some g34 := by kernel_rfl
/-- maps.Clone[map[string]*scribe/disk.file,string,*scribe/disk.file] -/
def g35 : Mir.Fn := ⟨9, [(.tmp 2)],
(.seq
(.ops [⟨(some 2), none, (.p (.mv (.c .nilmap))), 0, []⟩])
(.seq
(.seq
(.ops [⟨(some 3), none, (.p (.mv (.tmp 0))), 0, []⟩,
⟨(some 4), none, (.p (.eq .map false (.tmp 3) (.c .nilmap))), 0, []⟩])
(.cond (.tmp 4)
(.seq
(.ops [⟨(some 2), none, (.p (.mv (.c .nilmap))), 0, []⟩])
.ret)
.skip))
(.seq
(.ops [⟨(some 5), none, (.p (.mv (.tmp 0))), 0, []⟩,
⟨(some 6), none, (.p (.mkIf 62 (.tmp 5))), 0, []⟩,
⟨(some 7), none, (.h (.clone (.tmp 6))), 0, []⟩,
⟨(some 8), none, (.p (.unwrap 62 (.tmp 7))), 0, []⟩,
⟨(some 2), none, (.p (.mv (.tmp 8))), 0, []⟩])
.ret)))⟩
theorem c35 : Mir.compF Try.prog Try.f35 = some g35 := by kernel_rfl
/-- (*scribe/disk.Disk).change -/
def g36 : Mir.Fn := ⟨25, [(.tmp 6)],
(.seq
(.ops [⟨(some 6), none, (.p (.mv (.c (.int .i64 0)))), 0, []⟩])
(.seq
(.seq
(.ops [⟨(some 8), none, (.p (.mv (.tmp 0))), 0, []⟩,
⟨(some 9), none, (.p (.nilchk (.tmp 8))), 0, []⟩,
⟨(some 10), none, (.p (.fieldAt 4 (.tmp 9))), 0, []⟩,
⟨(some 11), none, (.r (.load 1 false (.tmp 10))), 0, []⟩])
(.cond (.tmp 11)
(.seq
(.ops [⟨(some 6), none, (.p (.mv (.c (.int .i64 8)))), 0, []⟩])
.ret)
.skip))
(.seq
(.ops [⟨(some 12), none, (.p (.mv (.tmp 0))), 0, []⟩,
⟨(some 13), none, (.p (.nilchk (.tmp 12))), 0, []⟩,
⟨(some 14), none, (.p (.fieldAt 0 (.tmp 13))), 0, []⟩,
⟨(some 15), none, (.r (.load 1 false (.tmp 14))), 0, []⟩,
⟨(some 16), none, (.p (.mv (.tmp 1))), 0, []⟩,
⟨(some 17), none, (.r (.lookup (.one .str) .nilptr false (.tmp 15) (.tmp 16))), 0, []⟩,
⟨(some 7), none, (.p (.mv (.tmp 17))), 0, []⟩])
(.seq
(.seq
(.ops [⟨(some 18), none, (.p (.mv (.tmp 7))), 0, []⟩,
⟨(some 19), none, (.p (.eq .ptr false (.tmp 18) (.c .nilptr))), 0, []⟩])
(.cond (.tmp 19)
(.seq
(.ops [⟨(some 6), none, (.p (.mv (.c (.int .i64 5)))), 0, []⟩])
.ret)
.skip))
(.seq
(.seq
(.ops [⟨(some 20), none, (.p (.mv (.tmp 0))), 0, []⟩,
⟨(some 21), none, (.h (.call (.c (.fn 34 [] [])) [(.tmp 20)])), 0, []⟩])
(.cond (.tmp 21)
(.seq
(.ops [⟨(some 6), none, (.p (.mv (.c (.int .i64 8)))), 0, []⟩])
.ret)
.skip))
(.seq
(.ops [⟨(some 22), none, (.p (.mv (.tmp 2))), 0, []⟩,
⟨(some 23), none, (.p (.mv (.tmp 7))), 0, []⟩,
⟨(some 24), none, (.h (.call (.tmp 22) [(.tmp 23)])), 0, []⟩])
(.seq
(.ops [⟨(some 6), none, (.p (.mv (.c (.int .i64 0)))), 0, []⟩])
.ret)))))))⟩
theorem c36 : Mir.compF Try.prog Try.f36 = some g36 := by kernel_rfl
/-- (*scribe/disk.Disk).Sync$1 -/
def g37 : Mir.Fn := ⟨9, [],
(.ops [⟨(some 2), none, (.p (.mv (.tmp 0))), 0, []⟩,
⟨(some 3), none, (.p (.mv (.tmp 0))), 0, []⟩,
⟨(some 4), none, (.p (.nilchk (.tmp 3))), 0, []⟩,
⟨(some 5), none, (.p (.fieldAt 0 (.tmp 4))), 0, []⟩,
⟨(some 6), none, (.r (.load 1 false (.tmp 5))), 0, []⟩,
⟨(some 7), none, (.p (.nilchk (.tmp 2))), 0, []⟩,
⟨(some 8), none, (.p (.fieldAt 1 (.tmp 7))), 0, []⟩,
⟨none, none, (.h (.store 1 (.tmp 8) (.tmp 6))), 0, []⟩])⟩
theorem c37 : Mir.compF Try.prog Try.f37 = some g37 := by kernel_rfl
/-- slices.Sorted[string] -/
def g38 : Mir.Fn := ⟨9, [(.tmp 2)],
(.seq
(.ops [⟨(some 2), none, (.p (.mv (.c .nilsl))), 0, []⟩])
(.seq
(.ops [⟨(some 4), none, (.p (.mv (.tmp 0))), 0, []⟩,
⟨(some 5), none, (.h (.call (.c (.fn 54 [] [])) [(.tmp 4)])), 0, []⟩,
⟨(some 3), none, (.p (.mv (.tmp 5))), 0, []⟩])
(.seq
(.ops [⟨(some 6), none, (.p (.mv (.tmp 3))), 0, []⟩,
⟨(some 7), none, (.h (.call (.c (.fn 55 [] [])) [(.tmp 6)])), 0, []⟩])
(.seq
(.ops [⟨(some 8), none, (.p (.mv (.tmp 3))), 0, []⟩,
⟨(some 2), none, (.p (.mv (.tmp 8))), 0, []⟩])
.ret))))⟩
theorem c38 : Mir.compF Try.prog Try.f38 = some g38 := by kernel_rfl
/-- maps.Keys[map[string]*scribe/disk.file,string,*scribe/disk.file] -/
def g39 : Mir.Fn := ⟨4, [(.tmp 2)],
(.seq
(.ops [⟨(some 1), none, (.a (.box (.tmp 0))), 0, []⟩,
⟨(some 2), none, (.p (.mv (.c .nilfn))), 0, []⟩])
(.seq
(.ops [⟨(some 3), none, (.p (.mkFn 56 [] [(.tmp 1)])), 0, []⟩,
⟨(some 2), none, (.p (.mv (.tmp 3))), 0, []⟩])
.ret))⟩
theorem c39 : Mir.compF Try.prog Try.f39 = some g39 := by kernel_rfl
/-- strings.CutPrefix -/
def g40 : Mir.Fn := ⟨11, [(.tmp 4), (.tmp 5)],
(.seq
(.ops [⟨(some 4), none, (.p (.mv (.c (.str [])))), 0, []⟩,
⟨(some 5), none, (.p (.mv (.c (.bool false)))), 0, []⟩])
(.seq
(.ops [⟨(some 6), none, (.p (.mv (.tmp 0))), 0, []⟩,
⟨(some 7), none, (.p (.mv (.tmp 1))), 0, []⟩,
⟨(some 8), none, (.h (.call (.c (.fn 57 [] [])) [(.tmp 6), (.tmp 7)])), 0, []⟩,
⟨(some 9), none, (.p (.ext (.tmp 8) 0)), 0, []⟩,
⟨(some 10), none, (.p (.ext (.tmp 8) 1)), 0, []⟩,
⟨(some 4), none, (.p (.mv (.tmp 9))), 0, []⟩,
⟨(some 5), none, (.p (.mv (.tmp 10))), 0, []⟩])
.ret))⟩
theorem c40 : Mir.compF Try.prog Try.f40 = some g40 := by kernel_rfl
/-- (*scribe/disk.Disk).Truncate$1 -/
def g41 : Mir.Fn := ⟨12, [],
(.draw [⟨(some 3), none, (.p (.mv (.tmp 0))), 0, []⟩,
⟨(some 4), none, (.p (.mv (.tmp 0))), 1, []⟩,
⟨(some 5), none, (.p (.nilchk (.tmp 4))), 2, []⟩,
⟨(some 6), none, (.p (.fieldAt 0 (.tmp 5))), 3, []⟩,
⟨(some 7), none, (.r (.load 1 false (.tmp 6))), 4, []⟩,
⟨(some 8), none, (.r (.load 1 false (.tmp 1))), 5, []⟩,
⟨(some 9), none, (.p (.subStr (.tmp 7) none (some (.tmp 8)))), 6, []⟩,
⟨(some 10), none, (.p (.nilchk (.tmp 3))), 7, []⟩,
⟨(some 11), none, (.p (.fieldAt 0 (.tmp 10))), 8, []⟩,
⟨none, none, (.h (.store 1 (.tmp 11) (.tmp 9))), 9, []⟩])⟩
theorem c41 : Mir.compF Try.prog Try.f41 = some g41 := by kernel_rfl
/-- (*scribe/disk.Disk).Rename$1 -/
def g42 : Mir.Fn := ⟨16, [],
(.seq
(.draw [⟨(some 5), none, (.r (.load 1 false (.tmp 1))), 0, []⟩,
⟨(some 6), none, (.p (.nilchk (.tmp 5))), 1, []⟩,
⟨(some 7), none, (.p (.fieldAt 0 (.tmp 6))), 2, []⟩,
⟨(some 8), none, (.r (.load 1 false (.tmp 7))), 3, []⟩,
⟨(some 9), none, (.r (.load 1 false (.tmp 2))), 4, []⟩,
⟨none, none, (.h (.delete (.one .str) (.tmp 8) (.tmp 9))), 5, []⟩])
(.draw [⟨(some 10), none, (.r (.load 1 false (.tmp 1))), 0, []⟩,
⟨(some 11), none, (.p (.nilchk (.tmp 10))), 1, []⟩,
⟨(some 12), none, (.p (.fieldAt 0 (.tmp 11))), 2, []⟩,
⟨(some 13), none, (.r (.load 1 false (.tmp 12))), 3, []⟩,
⟨(some 14), none, (.r (.load 1 false (.tmp 3))), 4, []⟩,
⟨(some 15), none, (.p (.mv (.tmp 0))), 5, []⟩,
⟨none, none, (.h (.mapUpd (.one .str) (.tmp 13) (.tmp 14) (.tmp 15))), 6, []⟩]))⟩
theorem c42 : Mir.compF Try.prog Try.f42 = some g42 := by kernel_rfl
/-- (*scribe/disk.Disk).Remove$1 -/
def g43 : Mir.Fn := ⟨9, [],
(.draw [⟨(some 4), none, (.r (.load 1 false (.tmp 1))), 0, []⟩,
⟨(some 5), none, (.p (.nilchk (.tmp 4))), 1, []⟩,
⟨(some 6), none, (.p (.fieldAt 0 (.tmp 5))), 2, []⟩,
⟨(some 7), none, (.r (.load 1 false (.tmp 6))), 3, []⟩,
⟨(some 8), none, (.r (.load 1 false (.tmp 2))), 4, []⟩,
⟨none, none, (.h (.delete (.one .str) (.tmp 7) (.tmp 8))), 5, []⟩])⟩
theorem c43 : Mir.compF Try.prog Try.f43 = some g43 := by kernel_rfl
/-- scribe/scriberef03.Append -/
def g44 : Mir.Fn := ⟨93, [(.cell 6 6 true), (.tmp 7)],
(.seq
(.ops [⟨(some 3), none, (.a (.box (.tmp 0))), 0, []⟩,
⟨(some 6), none, (.a (.alloc [.nilsl, .nilsl, .nilsl, (.int .i64 0), (.int .i64 0), (.bool false)])), 0, []⟩,
⟨(some 7), none, (.p (.mv (.c (.int .i64 0)))), 0, []⟩])
(.seq
(.seq
(.ops [⟨(some 10), none, (.p (.fieldAt 5 (.tmp 3))), 0, []⟩,
⟨(some 11), none, (.r (.load 1 false (.tmp 10))), 0, []⟩])
(.cond (.tmp 11)
(.seq
(.ops [⟨(some 12), none, (.r (.load 6 true (.tmp 3))), 0, []⟩,
⟨none, none, (.h (.store 6 (.tmp 6) (.tmp 12))), 0, []⟩,
⟨(some 7), none, (.p (.mv (.c (.int .i64 8)))), 0, []⟩])
.ret)
.skip))
(.seq
(.seq
(.ops [⟨(some 13), none, (.p (.mv (.tmp 1))), 0, []⟩,
⟨(some 14), none, (.h (.call (.c (.fn 31 [] [])) [(.tmp 13)])), 0, []⟩,
⟨(some 15), none, (.p (.un .not (.tmp 14))), 0, []⟩])
(.cond (.tmp 15)
(.seq
(.ops [⟨(some 16), none, (.r (.load 6 true (.tmp 3))), 0, []⟩,
⟨none, none, (.h (.store 6 (.tmp 6) (.tmp 16))), 0, []⟩,
⟨(some 7), none, (.p (.mv (.c (.int .i64 1)))), 0, []⟩])
.ret)
.skip))
(.seq
(.ops [⟨(some 17), none, (.p (.fieldAt 1 (.tmp 3))), 0, []⟩,
⟨(some 18), none, (.r (.load 1 false (.tmp 17))), 0, []⟩,
⟨(some 19), none, (.p (.mv (.tmp 1))), 0, []⟩,
⟨(some 20), none, (.h (.call (.c (.fn 58 [] [])) [(.tmp 18), (.tmp 19)])), 0, []⟩,
⟨(some 8), none, (.p (.mv (.tmp 20))), 0, []⟩])
(.seq
(.seq
(.draw [⟨(some 21), none, (.p (.mv (.tmp 8))), 0, []⟩,
⟨(some 22), none, (.p (.bin .lss (.tmp 21) (.c (.int .i64 0)))), 1, []⟩,
⟨(some 23), none, (.p (.mv (.tmp 22))), 2, []⟩,
⟨(some 24), (some (23, true)), (.p (.fieldAt 1 (.tmp 3))), 3, []⟩,
⟨(some 25), (some (23, true)), (.r (.load 1 false (.tmp 24))), 4, []⟩,
⟨(some 26), (some (23, true)), (.p (.lenSl (.tmp 25))), 5, []⟩,
⟨(some 27), (some (23, true)), (.p (.bin .gtr (.tmp 26) (.c (.int .i64 99)))), 6, []⟩,
⟨(some 28), none, (.p (.pick (.tmp 23) (.tmp 27) (.c (.bool false)))), 7, []⟩,
⟨(some 29), none, (.p (.mv (.tmp 28))), 8, []⟩,
⟨(some 30), (some (29, false)), (.p (.mv (.tmp 2))), 9, []⟩,
⟨(some 31), (some (29, false)), (.p (.lenStr (.tmp 30))), 10, []⟩,
⟨(some 32), (some (29, false)), (.p (.fieldAt 3 (.tmp 3))), 11, []⟩,
⟨(some 33), (some (29, false)), (.r (.load 1 false (.tmp 32))), 12, []⟩,
⟨(some 34), (some (29, false)), (.r (.load 6 true (.tmp 3))), 13, []⟩,
⟨(some 35), (some (29, false)), (.h (.call (.c (.fn 50 [] [])) [(.tmp 34)])), 14, [12]⟩,
⟨(some 36), (some (29, false)), (.p (.bin .sub (.tmp 33) (.tmp 35))), 15, []⟩,
⟨(some 37), (some (29, false)), (.p (.bin .gtr (.tmp 31) (.tmp 36))), 16, []⟩,
⟨(some 38), none, (.p (.pick (.tmp 29) (.c (.bool true)) (.tmp 37))), 17, []⟩])
(.cond (.tmp 38)
(.seq
(.ops [⟨(some 39), none, (.r (.load 6 true (.tmp 3))), 0, []⟩,
⟨none, none, (.h (.store 6 (.tmp 6) (.tmp 39))), 0, []⟩,
⟨(some 7), none, (.p (.mv (.c (.int .i64 7)))), 0, []⟩])
.ret)
.skip))
(.seq
(.ops [⟨(some 9), none, (.p (.mv (.c (.str [])))), 0, []⟩])
(.seq
(.seq
(.ops [⟨(some 40), none, (.p (.mv (.tmp 8))), 0, []⟩,
⟨(some 41), none, (.p (.bin .geq (.tmp 40) (.c (.int .i64 0)))), 0, []⟩])
(.cond (.tmp 41)
(.ops [⟨(some 42), none, (.p (.fieldAt 0 (.tmp 3))), 0, []⟩,
⟨(some 43), none, (.r (.load 1 false (.tmp 42))), 0, []⟩,
⟨(some 44), none, (.p (.mv (.tmp 8))), 0, []⟩,
⟨(some 45), none, (.p (.idxSl 2 (.tmp 43) (.tmp 44))), 0, []⟩,
⟨(some 46), none, (.p (.fieldAt 0 (.tmp 45))), 0, []⟩,
⟨(some 47), none, (.r (.load 1 false (.tmp 46))), 0, []⟩,
⟨(some 9), none, (.p (.mv (.tmp 47))), 0, []⟩])
.skip))
(.seq
(.seq
(.ops [⟨(some 48), none, (.p (.mv (.tmp 9))), 0, []⟩,
⟨(some 49), none, (.p (.lenStr (.tmp 48))), 0, []⟩,
⟨(some 50), none, (.p (.mv (.tmp 2))), 0, []⟩,
⟨(some 51), none, (.p (.lenStr (.tmp 50))), 0, []⟩,
⟨(some 52), none, (.p (.bin .add (.tmp 49) (.tmp 51))), 0, []⟩,
⟨(some 53), none, (.p (.bin .gtr (.tmp 52) (.c (.int .i64 1048576)))), 0, []⟩])
(.cond (.tmp 53)
(.seq
(.ops [⟨(some 54), none, (.r (.load 6 true (.tmp 3))), 0, []⟩,
⟨none, none, (.h (.store 6 (.tmp 6) (.tmp 54))), 0, []⟩,
⟨(some 7), none, (.p (.mv (.c (.int .i64 12)))), 0, []⟩])
.ret)
.skip))
(.seq
(.ops [⟨(some 55), none, (.r (.load 6 true (.tmp 3))), 0, []⟩,
⟨(some 56), none, (.h (.call (.c (.fn 59 [] [])) [(.tmp 55)])), 0, []⟩,
⟨none, none, (.h (.store 6 (.tmp 3) (.tmp 56))), 0, []⟩])
(.seq
(.seq
(.ops [⟨(some 57), none, (.p (.mv (.tmp 8))), 0, []⟩,
⟨(some 58), none, (.p (.bin .lss (.tmp 57) (.c (.int .i64 0)))), 0, []⟩])
(.cond (.tmp 58)
(.seq
(.ops [⟨(some 59), none, (.p (.fieldAt 0 (.tmp 3))), 0, []⟩,
⟨(some 60), none, (.r (.load 1 false (.tmp 59))), 0, []⟩,
⟨(some 61), none, (.p (.lenSl (.tmp 60))), 0, []⟩,
⟨(some 8), none, (.p (.mv (.tmp 61))), 0, []⟩])
(.seq
(.ops [⟨(some 62), none, (.a (.mkSl [(.str []), (.str [])] 2 0 [])), 0, []⟩,
⟨(some 63), none, (.p (.fieldAt 0 (.tmp 3))), 0, []⟩,
⟨(some 64), none, (.r (.load 1 false (.tmp 63))), 0, []⟩,
⟨(some 65), none, (.h (.app 2 32 (.tmp 62) (.tmp 64))), 0, []⟩,
⟨(some 66), none, (.p (.build [(.str []), (.str [])] [])), 0, []⟩,
⟨(some 67), none, (.a (.mkSl [(.str []), (.str [])] 2 1 [(0, (2, (.tmp 66)))])), 0, []⟩,
⟨(some 68), none, (.h (.app 2 32 (.tmp 65) (.tmp 67))), 0, []⟩,
⟨(some 69), none, (.p (.fieldAt 0 (.tmp 3))), 0, []⟩,
⟨none, none, (.h (.store 1 (.tmp 69) (.tmp 68))), 0, []⟩])
(.ops [⟨(some 70), none, (.p (.fieldAt 1 (.tmp 3))), 0, []⟩,
⟨(some 71), none, (.r (.load 1 false (.tmp 70))), 0, []⟩,
⟨(some 72), none, (.p (.mv (.tmp 1))), 0, []⟩,
⟨(some 73), none, (.p (.mv (.tmp 8))), 0, []⟩,
⟨(some 74), none, (.h (.call (.c (.fn 60 [] [])) [(.tmp 71), (.tmp 72), (.tmp 73)])), 0, []⟩,
⟨(some 75), none, (.p (.fieldAt 1 (.tmp 3))), 0, []⟩,
⟨none, none, (.h (.store 1 (.tmp 75) (.tmp 74))), 0, []⟩])))
.skip))
(.seq
(.draw [⟨(some 76), none, (.r (.load 6 true (.tmp 3))), 0, []⟩,
⟨(some 77), none, (.p (.mv (.tmp 8))), 1, []⟩,
⟨(some 78), none, (.p (.mv (.tmp 9))), 2, []⟩,
⟨(some 79), none, (.p (.mv (.tmp 2))), 3, []⟩,
⟨(some 80), none, (.p (.bin .add (.tmp 78) (.tmp 79))), 4, []⟩,
⟨(some 81), none, (.p (.fieldAt 0 (.tmp 3))), 5, []⟩,
⟨(some 82), none, (.r (.load 1 false (.tmp 81))), 6, []⟩,
⟨(some 83), none, (.p (.mv (.tmp 8))), 7, []⟩,
⟨(some 84), none, (.p (.idxSl 2 (.tmp 82) (.tmp 83))), 8, []⟩,
⟨(some 85), none, (.p (.fieldAt 1 (.tmp 84))), 9, []⟩,
⟨(some 86), none, (.r (.load 1 false (.tmp 85))), 10, []⟩,
⟨(some 87), none, (.p (.build [(.str []), (.str [])] [(0, (1, (.tmp 80))), (1, (1, (.tmp 86)))])), 11, []⟩,
⟨(some 88), none, (.h (.call (.c (.fn 61 [] [])) [(.tmp 76), (.tmp 77), (.tmp 87)])), 12, []⟩,
⟨none, none, (.h (.store 6 (.tmp 3) (.tmp 88))), 13, []⟩])
(.seq
(.seq
(.ops [⟨(some 89), none, (.p (.fieldAt 5 (.tmp 3))), 0, []⟩,
⟨(some 90), none, (.r (.load 1 false (.tmp 89))), 0, []⟩])
(.cond (.tmp 90)
(.seq
(.ops [⟨(some 91), none, (.r (.load 6 true (.tmp 3))), 0, []⟩,
⟨none, none, (.h (.store 6 (.tmp 6) (.tmp 91))), 0, []⟩,
⟨(some 7), none, (.p (.mv (.c (.int .i64 8)))), 0, []⟩])
.ret)
.skip))
(.seq
(.ops [⟨(some 92), none, (.r (.load 6 true (.tmp 3))), 0, []⟩,
⟨none, none, (.h (.store 6 (.tmp 6) (.tmp 92))), 0, []⟩,
⟨(some 7), none, (.p (.mv (.c (.int .i64 0)))), 0, []⟩])
.ret)))))))))))))⟩
theorem c44 : Mir.compF Try.prog Try.f44 = some g44 := by kernel_rfl
/-- scribe/scriberef03.Change -/
def g45 : Mir.Fn := ⟨98, [(.cell 10 6 true), (.tmp 11)],
(.seq
(.ops [⟨(some 5), none, (.a (.box (.tmp 0))), 0, []⟩,
⟨(some 10), none, (.a (.alloc [.nilsl, .nilsl, .nilsl, (.int .i64 0), (.int .i64 0), (.bool false)])), 0, []⟩,
⟨(some 11), none, (.p (.mv (.c (.int .i64 0)))), 0, []⟩])
(.seq
(.seq
(.ops [⟨(some 14), none, (.p (.fieldAt 5 (.tmp 5))), 0, []⟩,
⟨(some 15), none, (.r (.load 1 false (.tmp 14))), 0, []⟩])
(.cond (.tmp 15)
(.seq
(.ops [⟨(some 16), none, (.r (.load 6 true (.tmp 5))), 0, []⟩,
⟨none, none, (.h (.store 6 (.tmp 10) (.tmp 16))), 0, []⟩,
⟨(some 11), none, (.p (.mv (.c (.int .i64 8)))), 0, []⟩])
.ret)
.skip))
(.seq
(.ops [⟨(some 17), none, (.p (.fieldAt 1 (.tmp 5))), 0, []⟩,
⟨(some 18), none, (.r (.load 1 false (.tmp 17))), 0, []⟩,
⟨(some 19), none, (.p (.mv (.tmp 2))), 0, []⟩,
⟨(some 20), none, (.h (.call (.c (.fn 58 [] [])) [(.tmp 18), (.tmp 19)])), 0, []⟩,
⟨(some 12), none, (.p (.mv (.tmp 20))), 0, []⟩])
(.seq
(.seq
(.ops [⟨(some 21), none, (.p (.mv (.tmp 12))), 0, []⟩,
⟨(some 22), none, (.p (.bin .lss (.tmp 21) (.c (.int .i64 0)))), 0, []⟩])
(.cond (.tmp 22)
(.seq
(.ops [⟨(some 23), none, (.r (.load 6 true (.tmp 5))), 0, []⟩,
⟨none, none, (.h (.store 6 (.tmp 10) (.tmp 23))), 0, []⟩,
⟨(some 11), none, (.p (.mv (.c (.int .i64 5)))), 0, []⟩])
.ret)
.skip))
(.seq
(.ops [⟨(some 24), none, (.p (.fieldAt 0 (.tmp 5))), 0, []⟩,
⟨(some 25), none, (.r (.load 1 false (.tmp 24))), 0, []⟩,
⟨(some 26), none, (.p (.mv (.tmp 12))), 0, []⟩,
⟨(some 27), none, (.p (.idxSl 2 (.tmp 25) (.tmp 26))), 0, []⟩,
⟨(some 28), none, (.r (.load 2 true (.tmp 27))), 0, []⟩,
⟨(some 13), none, (.a (.alloc [(.str []), (.str [])])), 0, []⟩,
⟨none, none, (.h (.store 2 (.tmp 13) (.tmp 28))), 0, []⟩])
(.seq
(.seq
(.ops [⟨(some 29), none, (.p (.mv (.tmp 1))), 0, []⟩,
⟨(some 30), none, (.p (.bin .eql (.tmp 29) (.c (.int .i64 1)))), 0, []⟩,
⟨(some 31), none, (.p (.mv (.tmp 30))), 0, []⟩,
⟨(some 32), (some (31, true)), (.p (.mv (.tmp 4))), 0, []⟩,
⟨(some 33), (some (31, true)), (.p (.bin .lss (.tmp 32) (.c (.int .i64 0)))), 0, []⟩,
⟨(some 34), (some (31, true)), (.p (.mv (.tmp 33))), 0, []⟩,
⟨(some 35), (some (34, false)), (.p (.mv (.tmp 4))), 0, []⟩,
⟨(some 36), (some (34, false)), (.p (.fieldAt 0 (.tmp 13))), 0, []⟩,
⟨(some 37), (some (34, false)), (.r (.load 1 false (.tmp 36))), 0, []⟩,
⟨(some 38), (some (34, false)), (.p (.lenStr (.tmp 37))), 0, []⟩,
⟨(some 39), (some (34, false)), (.p (.bin .gtr (.tmp 35) (.tmp 38))), 0, []⟩,
⟨(some 40), (some (31, true)), (.p (.pick (.tmp 34) (.c (.bool true)) (.tmp 39))), 0, []⟩,
⟨(some 41), none, (.p (.pick (.tmp 31) (.tmp 40) (.c (.bool false)))), 0, []⟩,
⟨(some 42), none, (.p (.mv (.tmp 41))), 0, []⟩,
⟨(some 43), (some (42, false)), (.p (.mv (.tmp 1))), 0, []⟩,
⟨(some 44), (some (42, false)), (.p (.bin .eql (.tmp 43) (.c (.int .i64 3)))), 0, []⟩,
⟨(some 45), (some (42, false)), (.p (.mv (.tmp 44))), 0, []⟩,
⟨(some 46), (some (45, true)), (.p (.mv (.tmp 3))), 0, []⟩,
⟨(some 47), (some (45, true)), (.h (.call (.c (.fn 31 [] [])) [(.tmp 46)])), 0, []⟩,
⟨(some 48), (some (45, true)), (.p (.un .not (.tmp 47))), 0, []⟩,
⟨(some 49), (some (42, false)), (.p (.pick (.tmp 45) (.tmp 48) (.c (.bool false)))), 0, []⟩,
⟨(some 50), none, (.p (.pick (.tmp 42) (.c (.bool true)) (.tmp 49))), 0, []⟩])
(.cond (.tmp 50)
(.seq
(.ops [⟨(some 51), none, (.r (.load 6 true (.tmp 5))), 0, []⟩,
⟨none, none, (.h (.store 6 (.tmp 10) (.tmp 51))), 0, []⟩,
⟨(some 11), none, (.p (.mv (.c (.int .i64 1)))), 0, []⟩])
.ret)
.skip))
(.seq
(.ops [⟨(some 52), none, (.r (.load 6 true (.tmp 5))), 0, []⟩,
⟨(some 53), none, (.h (.call (.c (.fn 59 [] [])) [(.tmp 52)])), 0, []⟩,
⟨none, none, (.h (.store 6 (.tmp 5) (.tmp 53))), 0, []⟩])
(.seq
(.seq
(.ops [⟨(some 54), none, (.p (.fieldAt 5 (.tmp 5))), 0, []⟩,
⟨(some 55), none, (.r (.load 1 false (.tmp 54))), 0, []⟩])
(.cond (.tmp 55)
(.seq
(.ops [⟨(some 56), none, (.r (.load 6 true (.tmp 5))), 0, []⟩,
⟨none, none, (.h (.store 6 (.tmp 10) (.tmp 56))), 0, []⟩,
⟨(some 11), none, (.p (.mv (.c (.int .i64 8)))), 0, []⟩])
.ret)
.skip))
(.seq
(.seq
(.ops [⟨(some 57), none, (.p (.mv (.tmp 1))), 0, []⟩])
(.block 0 (.seq
(.ops [⟨(some 59), none, (.p (.bin .eql (.tmp 57) (.c (.int .i64 1)))), 0, []⟩,
⟨(some 58), none, (.p (.mv (.tmp 59))), 0, []⟩])
(.cond (.tmp 58)
(.draw [⟨(some 60), none, (.r (.load 6 true (.tmp 5))), 0, []⟩,
⟨(some 61), none, (.p (.mv (.tmp 12))), 1, []⟩,
⟨(some 62), none, (.p (.fieldAt 0 (.tmp 13))), 2, []⟩,
⟨(some 63), none, (.r (.load 1 false (.tmp 62))), 3, []⟩,
⟨(some 64), none, (.p (.mv (.tmp 4))), 4, []⟩,
⟨(some 65), none, (.p (.subStr (.tmp 63) none (some (.tmp 64)))), 5, []⟩,
⟨(some 66), none, (.p (.fieldAt 1 (.tmp 13))), 6, []⟩,
⟨(some 67), none, (.r (.load 1 false (.tmp 66))), 7, []⟩,
⟨(some 68), none, (.p (.build [(.str []), (.str [])] [(0, (1, (.tmp 65))), (1, (1, (.tmp 67)))])), 8, []⟩,
⟨(some 69), none, (.h (.call (.c (.fn 61 [] [])) [(.tmp 60), (.tmp 61), (.tmp 68)])), 9, []⟩,
⟨none, none, (.h (.store 6 (.tmp 5) (.tmp 69))), 10, []⟩])
(.seq
(.ops [⟨(some 71), none, (.p (.bin .eql (.tmp 57) (.c (.int .i64 2)))), 0, []⟩,
⟨(some 70), none, (.p (.mv (.tmp 71))), 0, []⟩])
(.cond (.tmp 70)
(.ops [⟨(some 72), none, (.r (.load 6 true (.tmp 5))), 0, []⟩,
⟨(some 73), none, (.p (.mv (.tmp 12))), 0, []⟩,
⟨(some 74), none, (.p (.fieldAt 0 (.tmp 13))), 0, []⟩,
⟨(some 75), none, (.r (.load 1 false (.tmp 74))), 0, []⟩,
⟨(some 76), none, (.p (.fieldAt 0 (.tmp 13))), 0, []⟩,
⟨(some 77), none, (.r (.load 1 false (.tmp 76))), 0, []⟩,
⟨(some 78), none, (.p (.build [(.str []), (.str [])] [(0, (1, (.tmp 75))), (1, (1, (.tmp 77)))])), 0, []⟩,
⟨(some 79), none, (.h (.call (.c (.fn 61 [] [])) [(.tmp 72), (.tmp 73), (.tmp 78)])), 0, []⟩,
⟨none, none, (.h (.store 6 (.tmp 5) (.tmp 79))), 0, []⟩])
(.seq
(.ops [⟨(some 81), none, (.p (.bin .eql (.tmp 57) (.c (.int .i64 3)))), 0, []⟩,
⟨(some 80), none, (.p (.mv (.tmp 81))), 0, []⟩])
(.cond (.tmp 80)
(.ops [⟨(some 82), none, (.p (.fieldAt 1 (.tmp 5))), 0, []⟩,
⟨(some 83), none, (.r (.load 1 false (.tmp 82))), 0, []⟩,
⟨(some 84), none, (.p (.mv (.tmp 2))), 0, []⟩,
⟨(some 85), none, (.h (.call (.c (.fn 62 [] [])) [(.tmp 83), (.tmp 84)])), 0, []⟩,
⟨(some 86), none, (.p (.mv (.tmp 3))), 0, []⟩,
⟨(some 87), none, (.p (.mv (.tmp 12))), 0, []⟩,
⟨(some 88), none, (.h (.call (.c (.fn 60 [] [])) [(.tmp 85), (.tmp 86), (.tmp 87)])), 0, []⟩,
⟨(some 89), none, (.p (.fieldAt 1 (.tmp 5))), 0, []⟩,
⟨none, none, (.h (.store 1 (.tmp 89) (.tmp 88))), 0, []⟩])
(.seq
(.ops [⟨(some 91), none, (.p (.bin .eql (.tmp 57) (.c (.int .i64 4)))), 0, []⟩,
⟨(some 90), none, (.p (.mv (.tmp 91))), 0, []⟩])
(.cond (.tmp 90)
(.ops [⟨(some 92), none, (.p (.fieldAt 1 (.tmp 5))), 0, []⟩,
⟨(some 93), none, (.r (.load 1 false (.tmp 92))), 0, []⟩,
⟨(some 94), none, (.p (.mv (.tmp 2))), 0, []⟩,
⟨(some 95), none, (.h (.call (.c (.fn 62 [] [])) [(.tmp 93), (.tmp 94)])), 0, []⟩,
⟨(some 96), none, (.p (.fieldAt 1 (.tmp 5))), 0, []⟩,
⟨none, none, (.h (.store 1 (.tmp 96) (.tmp 95))), 0, []⟩])
.skip))))))))))
(.seq
(.ops [⟨(some 97), none, (.r (.load 6 true (.tmp 5))), 0, []⟩,
⟨none, none, (.h (.store 6 (.tmp 10) (.tmp 97))), 0, []⟩,
⟨(some 11), none, (.p (.mv (.c (.int .i64 0)))), 0, []⟩])
.ret))))))))))⟩
theorem c45 : Mir.compF Try.prog Try.f45 = some g45 := by kernel_rfl
/-- scribe/scriberef03.SyncDir -/
def g46 : Mir.Fn := ⟨16, [(.cell 2 6 true), (.tmp 3)],
(.seq
(.ops [⟨(some 1), none, (.a (.box (.tmp 0))), 0, []⟩,
⟨(some 2), none, (.a (.alloc [.nilsl, .nilsl, .nilsl, (.int .i64 0), (.int .i64 0), (.bool false)])), 0, []⟩,
⟨(some 3), none, (.p (.mv (.c (.int .i64 0)))), 0, []⟩])
(.seq
(.seq
(.ops [⟨(some 4), none, (.p (.fieldAt 5 (.tmp 1))), 0, []⟩,
⟨(some 5), none, (.r (.load 1 false (.tmp 4))), 0, []⟩,
⟨(some 6), none, (.p (.un .not (.tmp 5))), 0, []⟩])
(.cond (.tmp 6)
(.ops [⟨(some 7), none, (.r (.load 6 true (.tmp 1))), 0, []⟩,
⟨(some 8), none, (.h (.call (.c (.fn 59 [] [])) [(.tmp 7)])), 0, []⟩,
⟨none, none, (.h (.store 6 (.tmp 1) (.tmp 8))), 0, []⟩])
.skip))
(.seq
(.seq
(.ops [⟨(some 9), none, (.p (.fieldAt 5 (.tmp 1))), 0, []⟩,
⟨(some 10), none, (.r (.load 1 false (.tmp 9))), 0, []⟩])
(.cond (.tmp 10)
(.seq
(.ops [⟨(some 11), none, (.r (.load 6 true (.tmp 1))), 0, []⟩,
⟨none, none, (.h (.store 6 (.tmp 2) (.tmp 11))), 0, []⟩,
⟨(some 3), none, (.p (.mv (.c (.int .i64 8)))), 0, []⟩])
.ret)
.skip))
(.seq
(.ops [⟨(some 12), none, (.p (.fieldAt 1 (.tmp 1))), 0, []⟩,
⟨(some 13), none, (.r (.load 1 false (.tmp 12))), 0, []⟩,
⟨(some 14), none, (.p (.fieldAt 2 (.tmp 1))), 0, []⟩,
⟨none, none, (.h (.store 1 (.tmp 14) (.tmp 13))), 0, []⟩])
(.seq
(.ops [⟨(some 15), none, (.r (.load 6 true (.tmp 1))), 0, []⟩,
⟨none, none, (.h (.store 6 (.tmp 2) (.tmp 15))), 0, []⟩,
⟨(some 3), none, (.p (.mv (.c (.int .i64 0)))), 0, []⟩])
.ret)))))⟩
theorem c46 : Mir.compF Try.prog Try.f46 = some g46 := by kernel_rfl
/-- scribe/scriberef03.Crash -/
def g47 : Mir.Fn := ⟨92, [(.cell 6 6 true)],
(.seq
(.ops [⟨(some 3), none, (.a (.box (.tmp 0))), 0, []⟩,
⟨(some 6), none, (.a (.alloc [.nilsl, .nilsl, .nilsl, (.int .i64 0), (.int .i64 0), (.bool false)])), 0, []⟩])
(.seq
(.ops [⟨(some 12), none, (.p (.fieldAt 2 (.tmp 3))), 0, []⟩,
⟨(some 13), none, (.r (.load 1 false (.tmp 12))), 0, []⟩,
⟨(some 7), none, (.p (.mv (.tmp 13))), 0, []⟩])
(.seq
(.seq
(.ops [⟨(some 14), none, (.p (.mv (.tmp 2))), 0, []⟩])
(.cond (.tmp 14)
(.ops [⟨(some 15), none, (.p (.fieldAt 1 (.tmp 3))), 0, []⟩,
⟨(some 16), none, (.r (.load 1 false (.tmp 15))), 0, []⟩,
⟨(some 7), none, (.p (.mv (.tmp 16))), 0, []⟩])
.skip))
(.seq
(.seq
(.ops [⟨(some 17), none, (.p (.mv (.tmp 7))), 0, []⟩,
⟨(some 18), none, (.p (.lenSl (.tmp 17))), 0, []⟩,
⟨(some 19), none, (.p (.mv (.c (.int .i64 0)))), 0, []⟩])
(.block 0 (.loop (.seq
(.ops [⟨(some 20), none, (.p (.bin .lss (.tmp 19) (.tmp 18))), 0, []⟩])
(.seq
(.cond (.tmp 20)
.skip
(.exit 0))
(.seq
(.block 1 (.seq
(.ops [⟨(some 21), none, (.p (.mv (.tmp 19))), 0, []⟩,
⟨(some 22), none, (.p (.idxSl 2 (.tmp 17) (.tmp 19))), 0, []⟩,
⟨(some 23), none, (.r (.load 2 true (.tmp 22))), 0, []⟩,
⟨(some 9), none, (.a (.alloc [(.str []), (.int .i64 0)])), 0, []⟩,
⟨(some 8), none, (.p (.mv (.tmp 21))), 0, []⟩,
⟨none, none, (.h (.store 2 (.tmp 9) (.tmp 23))), 0, []⟩])
(.seq
(.ops [⟨(some 24), none, (.p (.fieldAt 0 (.tmp 3))), 0, []⟩,
⟨(some 25), none, (.r (.load 1 false (.tmp 24))), 0, []⟩,
⟨(some 26), none, (.p (.fieldAt 1 (.tmp 9))), 0, []⟩,
⟨(some 27), none, (.r (.load 1 false (.tmp 26))), 0, []⟩,
⟨(some 28), none, (.p (.idxSl 2 (.tmp 25) (.tmp 27))), 0, []⟩,
⟨(some 29), none, (.r (.load 2 true (.tmp 28))), 0, []⟩,
⟨(some 10), none, (.a (.alloc [(.str []), (.str [])])), 0, []⟩,
⟨none, none, (.h (.store 2 (.tmp 10) (.tmp 29))), 0, []⟩])
(.seq
(.ops [⟨(some 30), none, (.p (.fieldAt 1 (.tmp 10))), 0, []⟩,
⟨(some 31), none, (.r (.load 1 false (.tmp 30))), 0, []⟩,
⟨(some 11), none, (.p (.mv (.tmp 31))), 0, []⟩])
(.seq
(.seq
(.ops [⟨(some 32), none, (.p (.fieldAt 0 (.tmp 10))), 0, []⟩,
⟨(some 33), none, (.r (.load 1 false (.tmp 32))), 0, []⟩,
⟨(some 34), none, (.p (.lenStr (.tmp 33))), 0, []⟩,
⟨(some 35), none, (.p (.mv (.tmp 11))), 0, []⟩,
⟨(some 36), none, (.p (.lenStr (.tmp 35))), 0, []⟩,
⟨(some 37), none, (.p (.bin .gtr (.tmp 34) (.tmp 36))), 0, []⟩,
⟨(some 38), none, (.p (.mv (.tmp 37))), 0, []⟩,
⟨(some 39), (some (38, true)), (.p (.fieldAt 0 (.tmp 10))), 0, []⟩,
⟨(some 40), (some (38, true)), (.r (.load 1 false (.tmp 39))), 0, []⟩,
⟨(some 41), (some (38, true)), (.p (.mv (.tmp 11))), 0, []⟩,
⟨(some 42), (some (38, true)), (.p (.lenStr (.tmp 41))), 0, []⟩,
⟨(some 43), (some (38, true)), (.p (.subStr (.tmp 40) none (some (.tmp 42)))), 0, []⟩,
⟨(some 44), (some (38, true)), (.p (.mv (.tmp 11))), 0, []⟩,
⟨(some 45), (some (38, true)), (.p (.bin .eql (.tmp 43) (.tmp 44))), 0, []⟩,
⟨(some 46), none, (.p (.pick (.tmp 38) (.tmp 45) (.c (.bool false)))), 0, []⟩,
⟨(some 47), none, (.p (.mv (.tmp 46))), 0, []⟩,
⟨(some 48), (some (47, true)), (.p (.mv (.tmp 8))), 0, []⟩,
⟨(some 49), (some (47, true)), (.p (.mv (.tmp 1))), 0, []⟩,
⟨(some 50), (some (47, true)), (.p (.lenSl (.tmp 49))), 0, []⟩,
⟨(some 51), (some (47, true)), (.p (.bin .lss (.tmp 48) (.tmp 50))), 0, []⟩,
⟨(some 52), none, (.p (.pick (.tmp 47) (.tmp 51) (.c (.bool false)))), 0, []⟩,
⟨(some 53), none, (.p (.mv (.tmp 52))), 0, []⟩,
⟨(some 54), (some (53, true)), (.p (.mv (.tmp 1))), 0, []⟩,
⟨(some 55), (some (53, true)), (.p (.mv (.tmp 8))), 0, []⟩,
⟨(some 56), (some (53, true)), (.p (.idxSl 1 (.tmp 54) (.tmp 55))), 0, []⟩,
⟨(some 57), (some (53, true)), (.r (.load 1 false (.tmp 56))), 0, []⟩,
⟨(some 58), (some (53, true)), (.p (.bin .gtr (.tmp 57) (.c (.int .i64 0)))), 0, []⟩,
⟨(some 59), none, (.p (.pick (.tmp 53) (.tmp 58) (.c (.bool false)))), 0, []⟩])
(.cond (.tmp 59)
(.draw [⟨(some 60), none, (.p (.fieldAt 0 (.tmp 10))), 0, []⟩,
⟨(some 61), none, (.r (.load 1 false (.tmp 60))), 1, []⟩,
⟨(some 62), none, (.p (.mv (.tmp 11))), 2, []⟩,
⟨(some 63), none, (.p (.lenStr (.tmp 62))), 3, []⟩,
⟨(some 64), none, (.p (.mv (.tmp 1))), 4, []⟩,
⟨(some 65), none, (.p (.mv (.tmp 8))), 5, []⟩,
⟨(some 66), none, (.p (.idxSl 1 (.tmp 64) (.tmp 65))), 6, []⟩,
⟨(some 67), none, (.r (.load 1 false (.tmp 66))), 7, []⟩,
⟨(some 68), none, (.p (.fieldAt 0 (.tmp 10))), 8, []⟩,
⟨(some 69), none, (.r (.load 1 false (.tmp 68))), 9, []⟩,
⟨(some 70), none, (.p (.lenStr (.tmp 69))), 10, []⟩,
⟨(some 71), none, (.p (.mv (.tmp 11))), 11, []⟩,
⟨(some 72), none, (.p (.lenStr (.tmp 71))), 12, []⟩,
⟨(some 73), none, (.p (.bin .sub (.tmp 70) (.tmp 72))), 13, []⟩,
⟨(some 74), none, (.p (.mnmx false (.tmp 67) [(.tmp 73)])), 14, []⟩,
⟨(some 75), none, (.p (.bin .add (.tmp 63) (.tmp 74))), 15, []⟩,
⟨(some 76), none, (.p (.subStr (.tmp 61) none (some (.tmp 75)))), 16, []⟩,
⟨(some 11), none, (.p (.mv (.tmp 76))), 17, []⟩])
.skip))
(.ops [⟨(some 77), none, (.r (.load 6 true (.tmp 3))), 0, []⟩,
⟨(some 78), none, (.p (.fieldAt 1 (.tmp 9))), 0, []⟩,
⟨(some 79), none, (.r (.load 1 false (.tmp 78))), 0, []⟩,
⟨(some 80), none, (.p (.mv (.tmp 11))), 0, []⟩,
⟨(some 81), none, (.p (.mv (.tmp 11))), 0, []⟩,
⟨(some 82), none, (.p (.build [(.str []), (.str [])] [(0, (1, (.tmp 80))), (1, (1, (.tmp 81)))])), 0, []⟩,
⟨(some 83), none, (.h (.call (.c (.fn 61 [] [])) [(.tmp 77), (.tmp 79), (.tmp 82)])), 0, []⟩,
⟨none, none, (.h (.store 6 (.tmp 3) (.tmp 83))), 0, []⟩]))))))
(.ops [⟨(some 84), none, (.p (.bin .add (.tmp 19) (.c (.int .i64 1)))), 0, []⟩,
⟨(some 19), none, (.p (.mv (.tmp 84))), 0, []⟩])))))))
(.seq
(.ops [⟨(some 85), none, (.p (.mv (.tmp 7))), 0, []⟩,
⟨(some 86), none, (.p (.fieldAt 1 (.tmp 3))), 0, []⟩,
⟨none, none, (.h (.store 1 (.tmp 86) (.tmp 85))), 0, []⟩])
(.seq
(.ops [⟨(some 87), none, (.p (.mv (.tmp 7))), 0, []⟩,
⟨(some 88), none, (.p (.fieldAt 2 (.tmp 3))), 0, []⟩,
⟨none, none, (.h (.store 1 (.tmp 88) (.tmp 87))), 0, []⟩])
(.seq
(.ops [⟨(some 89), none, (.p (.fieldAt 4 (.tmp 3))), 0, []⟩,
⟨none, none, (.h (.store 1 (.tmp 89) (.c (.int .i64 (-1))))), 0, []⟩])
(.seq
(.ops [⟨(some 90), none, (.p (.fieldAt 5 (.tmp 3))), 0, []⟩,
⟨none, none, (.h (.store 1 (.tmp 90) (.c (.bool false)))), 0, []⟩])
(.seq
(.ops [⟨(some 91), none, (.r (.load 6 true (.tmp 3))), 0, []⟩,
⟨none, none, (.h (.store 6 (.tmp 6) (.tmp 91))), 0, []⟩])
.ret)))))))))⟩
theorem c47 : Mir.compF Try.prog Try.f47 = some g47 := by kernel_rfl
/-- scribe/scriberef03.Put -/
def g48 : Mir.Fn := ⟨46, [(.cell 6 6 true), (.tmp 7)],
(.seq
(.ops [⟨(some 3), none, (.a (.box (.tmp 0))), 0, []⟩,
⟨(some 6), none, (.a (.alloc [.nilsl, .nilsl, .nilsl, (.int .i64 0), (.int .i64 0), (.bool false)])), 0, []⟩,
⟨(some 7), none, (.p (.mv (.c (.int .i64 0)))), 0, []⟩])
(.seq
(.seq
(.ops [⟨(some 8), none, (.p (.mv (.tmp 1))), 0, []⟩,
⟨(some 9), none, (.h (.call (.c (.fn 31 [] [])) [(.tmp 8)])), 0, []⟩,
⟨(some 10), none, (.p (.un .not (.tmp 9))), 0, []⟩,
⟨(some 11), none, (.p (.mv (.tmp 10))), 0, []⟩,
⟨(some 12), (some (11, false)), (.p (.mv (.tmp 2))), 0, []⟩,
⟨(some 13), (some (11, false)), (.p (.lenStr (.tmp 12))), 0, []⟩,
⟨(some 14), (some (11, false)), (.p (.bin .gtr (.tmp 13) (.c (.int .i64 1048576)))), 0, []⟩,
⟨(some 15), none, (.p (.pick (.tmp 11) (.c (.bool true)) (.tmp 14))), 0, []⟩])
(.cond (.tmp 15)
(.seq
(.ops [⟨(some 16), none, (.r (.load 6 true (.tmp 3))), 0, []⟩,
⟨none, none, (.h (.store 6 (.tmp 6) (.tmp 16))), 0, []⟩,
⟨(some 7), none, (.p (.mv (.c (.int .i64 1)))), 0, []⟩])
.ret)
.skip))
(.seq
(.ops [⟨(some 17), none, (.a (.mkSl [(.str []), (.str [])] 2 0 [])), 0, []⟩,
⟨(some 18), none, (.p (.fieldAt 0 (.tmp 3))), 0, []⟩,
⟨(some 19), none, (.r (.load 1 false (.tmp 18))), 0, []⟩,
⟨(some 20), none, (.h (.app 2 32 (.tmp 17) (.tmp 19))), 0, []⟩,
⟨(some 21), none, (.p (.mv (.tmp 2))), 0, []⟩,
⟨(some 22), none, (.p (.mv (.tmp 2))), 0, []⟩,
⟨(some 23), none, (.p (.build [(.str []), (.str [])] [(0, (1, (.tmp 21))), (1, (1, (.tmp 22)))])), 0, []⟩,
⟨(some 24), none, (.a (.mkSl [(.str []), (.str [])] 2 1 [(0, (2, (.tmp 23)))])), 0, []⟩,
⟨(some 25), none, (.h (.app 2 32 (.tmp 20) (.tmp 24))), 0, []⟩,
⟨(some 26), none, (.p (.fieldAt 0 (.tmp 3))), 0, []⟩,
⟨none, none, (.h (.store 1 (.tmp 26) (.tmp 25))), 0, []⟩])
(.seq
(.ops [⟨(some 27), none, (.p (.fieldAt 1 (.tmp 3))), 0, []⟩,
⟨(some 28), none, (.r (.load 1 false (.tmp 27))), 0, []⟩,
⟨(some 29), none, (.p (.mv (.tmp 1))), 0, []⟩,
⟨(some 30), none, (.p (.fieldAt 0 (.tmp 3))), 0, []⟩,
⟨(some 31), none, (.r (.load 1 false (.tmp 30))), 0, []⟩,
⟨(some 32), none, (.p (.lenSl (.tmp 31))), 0, []⟩,
⟨(some 33), none, (.p (.bin .sub (.tmp 32) (.c (.int .i64 1)))), 0, []⟩,
⟨(some 34), none, (.h (.call (.c (.fn 60 [] [])) [(.tmp 28), (.tmp 29), (.tmp 33)])), 0, []⟩,
⟨(some 35), none, (.p (.fieldAt 1 (.tmp 3))), 0, []⟩,
⟨none, none, (.h (.store 1 (.tmp 35) (.tmp 34))), 0, []⟩])
(.seq
(.ops [⟨(some 36), none, (.p (.fieldAt 2 (.tmp 3))), 0, []⟩,
⟨(some 37), none, (.r (.load 1 false (.tmp 36))), 0, []⟩,
⟨(some 38), none, (.p (.mv (.tmp 1))), 0, []⟩,
⟨(some 39), none, (.p (.fieldAt 0 (.tmp 3))), 0, []⟩,
⟨(some 40), none, (.r (.load 1 false (.tmp 39))), 0, []⟩,
⟨(some 41), none, (.p (.lenSl (.tmp 40))), 0, []⟩,
⟨(some 42), none, (.p (.bin .sub (.tmp 41) (.c (.int .i64 1)))), 0, []⟩,
⟨(some 43), none, (.h (.call (.c (.fn 60 [] [])) [(.tmp 37), (.tmp 38), (.tmp 42)])), 0, []⟩,
⟨(some 44), none, (.p (.fieldAt 2 (.tmp 3))), 0, []⟩,
⟨none, none, (.h (.store 1 (.tmp 44) (.tmp 43))), 0, []⟩])
(.seq
(.ops [⟨(some 45), none, (.r (.load 6 true (.tmp 3))), 0, []⟩,
⟨none, none, (.h (.store 6 (.tmp 6) (.tmp 45))), 0, []⟩,
⟨(some 7), none, (.p (.mv (.c (.int .i64 0)))), 0, []⟩])
.ret))))))⟩
theorem c48 : Mir.compF Try.prog Try.f48 = some g48 := by kernel_rfl
/-- scribe/scriberef03.Read -/
def g49 : Mir.Fn := ⟨58, [(.tmp 8), (.tmp 9)],
(.seq
(.ops [⟨(some 4), none, (.a (.box (.tmp 0))), 0, []⟩,
⟨(some 8), none, (.p (.mv (.c (.str [])))), 0, []⟩,
⟨(some 9), none, (.p (.mv (.c (.int .i64 0)))), 0, []⟩])
(.seq
(.seq
(.ops [⟨(some 14), none, (.p (.fieldAt 5 (.tmp 4))), 0, []⟩,
⟨(some 15), none, (.r (.load 1 false (.tmp 14))), 0, []⟩])
(.cond (.tmp 15)
(.seq
(.ops [⟨(some 8), none, (.p (.mv (.c (.str [])))), 0, []⟩,
⟨(some 9), none, (.p (.mv (.c (.int .i64 8)))), 0, []⟩])
.ret)
.skip))
(.seq
(.ops [⟨(some 16), none, (.p (.fieldAt 1 (.tmp 4))), 0, []⟩,
⟨(some 17), none, (.r (.load 1 false (.tmp 16))), 0, []⟩,
⟨(some 18), none, (.p (.mv (.tmp 1))), 0, []⟩,
⟨(some 19), none, (.h (.call (.c (.fn 58 [] [])) [(.tmp 17), (.tmp 18)])), 0, []⟩,
⟨(some 10), none, (.p (.mv (.tmp 19))), 0, []⟩])
(.seq
(.seq
(.ops [⟨(some 20), none, (.p (.mv (.tmp 10))), 0, []⟩,
⟨(some 21), none, (.p (.bin .lss (.tmp 20) (.c (.int .i64 0)))), 0, []⟩])
(.cond (.tmp 21)
(.seq
(.ops [⟨(some 8), none, (.p (.mv (.c (.str [])))), 0, []⟩,
⟨(some 9), none, (.p (.mv (.c (.int .i64 5)))), 0, []⟩])
.ret)
.skip))
(.seq
(.seq
(.ops [⟨(some 22), none, (.p (.mv (.tmp 2))), 0, []⟩,
⟨(some 23), none, (.p (.bin .lss (.tmp 22) (.c (.int .i64 0)))), 0, []⟩,
⟨(some 24), none, (.p (.mv (.tmp 23))), 0, []⟩,
⟨(some 25), (some (24, false)), (.p (.mv (.tmp 3))), 0, []⟩,
⟨(some 26), (some (24, false)), (.p (.bin .lss (.tmp 25) (.c (.int .i64 0)))), 0, []⟩,
⟨(some 27), none, (.p (.pick (.tmp 24) (.c (.bool true)) (.tmp 26))), 0, []⟩])
(.cond (.tmp 27)
(.seq
(.ops [⟨(some 8), none, (.p (.mv (.c (.str [])))), 0, []⟩,
⟨(some 9), none, (.p (.mv (.c (.int .i64 1)))), 0, []⟩])
.ret)
.skip))
(.seq
(.ops [⟨(some 11), none, (.p (.mv (.c (.str [])))), 0, []⟩])
(.seq
(.seq
(.ops [⟨(some 28), none, (.p (.fieldAt 0 (.tmp 4))), 0, []⟩,
⟨(some 29), none, (.r (.load 1 false (.tmp 28))), 0, []⟩,
⟨(some 30), none, (.p (.mv (.tmp 10))), 0, []⟩,
⟨(some 31), none, (.p (.idxSl 2 (.tmp 29) (.tmp 30))), 0, []⟩,
⟨(some 32), none, (.p (.fieldAt 0 (.tmp 31))), 0, []⟩,
⟨(some 33), none, (.r (.load 1 false (.tmp 32))), 0, []⟩,
⟨(some 34), none, (.a (.toBytes (.tmp 33))), 0, []⟩,
⟨(some 35), none, (.p (.lenSl (.tmp 34))), 0, []⟩,
⟨(some 36), none, (.p (.mv (.c (.int .i64 0)))), 0, []⟩])
(.block 0 (.loop (.seq
(.ops [⟨(some 37), none, (.p (.bin .lss (.tmp 36) (.tmp 35))), 0, []⟩])
(.seq
(.cond (.tmp 37)
.skip
(.exit 0))
(.seq
(.block 1 (.seq
(.ops [⟨(some 38), none, (.p (.mv (.tmp 36))), 0, []⟩,
⟨(some 39), none, (.p (.idxSl 1 (.tmp 34) (.tmp 36))), 0, []⟩,
⟨(some 40), none, (.r (.load 1 false (.tmp 39))), 0, []⟩,
⟨(some 12), none, (.p (.mv (.tmp 38))), 0, []⟩,
⟨(some 13), none, (.p (.mv (.tmp 40))), 0, []⟩])
(.seq
(.ops [⟨(some 41), none, (.p (.mv (.tmp 12))), 0, []⟩,
⟨(some 42), none, (.p (.mv (.tmp 2))), 0, []⟩,
⟨(some 43), none, (.p (.bin .geq (.tmp 41) (.tmp 42))), 0, []⟩,
⟨(some 44), none, (.p (.mv (.tmp 43))), 0, []⟩,
⟨(some 45), (some (44, true)), (.p (.mv (.tmp 12))), 0, []⟩,
⟨(some 46), (some (44, true)), (.p (.mv (.tmp 2))), 0, []⟩,
⟨(some 47), (some (44, true)), (.p (.bin .sub (.tmp 45) (.tmp 46))), 0, []⟩,
⟨(some 48), (some (44, true)), (.p (.mv (.tmp 3))), 0, []⟩,
⟨(some 49), (some (44, true)), (.p (.bin .lss (.tmp 47) (.tmp 48))), 0, []⟩,
⟨(some 50), none, (.p (.pick (.tmp 44) (.tmp 49) (.c (.bool false)))), 0, []⟩])
(.cond (.tmp 50)
(.ops [⟨(some 51), none, (.p (.mv (.tmp 11))), 0, []⟩,
⟨(some 52), none, (.p (.mv (.tmp 13))), 0, []⟩,
⟨(some 53), none, (.a (.mkSl [(.int .u8 0)] 1 1 [(0, (1, (.tmp 52)))])), 0, []⟩,
⟨(some 54), none, (.r (.toStr (.tmp 53))), 0, []⟩,
⟨(some 55), none, (.p (.bin .add (.tmp 51) (.tmp 54))), 0, []⟩,
⟨(some 11), none, (.p (.mv (.tmp 55))), 0, []⟩])
.skip))))
(.ops [⟨(some 56), none, (.p (.bin .add (.tmp 36) (.c (.int .i64 1)))), 0, []⟩,
⟨(some 36), none, (.p (.mv (.tmp 56))), 0, []⟩])))))))
(.seq
(.ops [⟨(some 57), none, (.p (.mv (.tmp 11))), 0, []⟩,
⟨(some 8), none, (.p (.mv (.tmp 57))), 0, []⟩,
⟨(some 9), none, (.p (.mv (.c (.int .i64 0)))), 0, []⟩])
.ret))))))))⟩
theorem c49 : Mir.compF Try.prog Try.f49 = some g49 := by kernel_rfl
/-- scribe/scriberef03.Used -/
def g50 : Mir.Fn := ⟨25, [(.tmp 2)],
(.seq
(.ops [⟨(some 1), none, (.a (.box (.tmp 0))), 0, []⟩,
⟨(some 2), none, (.p (.mv (.c (.int .i64 0)))), 0, []⟩])
(.seq
(.ops [⟨(some 3), none, (.p (.mv (.c (.int .i64 0)))), 0, []⟩])
(.seq
(.seq
(.ops [⟨(some 6), none, (.p (.fieldAt 1 (.tmp 1))), 0, []⟩,
⟨(some 7), none, (.r (.load 1 false (.tmp 6))), 0, []⟩,
⟨(some 8), none, (.p (.lenSl (.tmp 7))), 0, []⟩,
⟨(some 9), none, (.p (.mv (.c (.int .i64 0)))), 0, []⟩])
(.block 0 (.loop (.seq
(.ops [⟨(some 10), none, (.p (.bin .lss (.tmp 9) (.tmp 8))), 0, []⟩])
(.seq
(.cond (.tmp 10)
.skip
(.exit 0))
(.seq
(.block 1 (.seq
(.ops [⟨(some 11), none, (.p (.idxSl 2 (.tmp 7) (.tmp 9))), 0, []⟩,
⟨(some 12), none, (.r (.load 2 true (.tmp 11))), 0, []⟩,
⟨(some 5), none, (.a (.alloc [(.str []), (.int .i64 0)])), 0, []⟩,
⟨none, none, (.h (.store 2 (.tmp 5) (.tmp 12))), 0, []⟩])
(.ops [⟨(some 13), none, (.p (.mv (.tmp 3))), 0, []⟩,
⟨(some 14), none, (.p (.fieldAt 0 (.tmp 1))), 0, []⟩,
⟨(some 15), none, (.r (.load 1 false (.tmp 14))), 0, []⟩,
⟨(some 16), none, (.p (.fieldAt 1 (.tmp 5))), 0, []⟩,
⟨(some 17), none, (.r (.load 1 false (.tmp 16))), 0, []⟩,
⟨(some 18), none, (.p (.idxSl 2 (.tmp 15) (.tmp 17))), 0, []⟩,
⟨(some 19), none, (.p (.fieldAt 0 (.tmp 18))), 0, []⟩,
⟨(some 20), none, (.r (.load 1 false (.tmp 19))), 0, []⟩,
⟨(some 21), none, (.p (.lenStr (.tmp 20))), 0, []⟩,
⟨(some 22), none, (.p (.bin .add (.tmp 13) (.tmp 21))), 0, []⟩,
⟨(some 3), none, (.p (.mv (.tmp 22))), 0, []⟩])))
(.ops [⟨(some 23), none, (.p (.bin .add (.tmp 9) (.c (.int .i64 1)))), 0, []⟩,
⟨(some 9), none, (.p (.mv (.tmp 23))), 0, []⟩])))))))
(.seq
(.ops [⟨(some 24), none, (.p (.mv (.tmp 3))), 0, []⟩,
⟨(some 2), none, (.p (.mv (.tmp 24))), 0, []⟩])
.ret))))⟩
theorem c50 : Mir.compF Try.prog Try.f50 = some g50 := by kernel_rfl
/-- (*scribe/disk.Disk).All -/
def g51 : Mir.Fn := ⟨4, [(.tmp 2)],
(.seq
(.ops [⟨(some 1), none, (.a (.box (.tmp 0))), 0, []⟩,
⟨(some 2), none, (.p (.mv (.c .nilfn))), 0, []⟩])
(.seq
(.ops [⟨(some 3), none, (.p (.mkFn 63 [] [(.tmp 1)])), 0, []⟩,
⟨(some 2), none, (.p (.mv (.tmp 3))), 0, []⟩])
.ret))⟩
theorem c51 : Mir.compF Try.prog Try.f51 = some g51 := by kernel_rfl
/-- strings.IndexFunc -/
def g52 : Mir.Fn := ⟨8, [(.tmp 4)],
(.seq
(.ops [⟨(some 4), none, (.p (.mv (.c (.int .i64 0)))), 0, []⟩])
(.seq
(.ops [⟨(some 5), none, (.p (.mv (.tmp 0))), 0, []⟩,
⟨(some 6), none, (.p (.mv (.tmp 1))), 0, []⟩,
⟨(some 7), none, (.h (.call (.c (.fn 64 [] [])) [(.tmp 5), (.tmp 6), (.c (.bool true))])), 0, []⟩,
⟨(some 4), none, (.p (.mv (.tmp 7))), 0, []⟩])
.ret))⟩
theorem c52 : Mir.compF Try.prog Try.f52 = some g52 := by kernel_rfl
/-- slices.Collect[string] -/
def g54 : Mir.Fn := ⟨5, [(.tmp 2)],
(.seq
(.ops [⟨(some 2), none, (.p (.mv (.c .nilsl))), 0, []⟩])
(.seq
(.ops [⟨(some 3), none, (.p (.mv (.tmp 0))), 0, []⟩,
⟨(some 4), none, (.h (.call (.c (.fn 65 [] [])) [(.c .nilsl), (.tmp 3)])), 0, []⟩,
⟨(some 2), none, (.p (.mv (.tmp 4))), 0, []⟩])
.ret))⟩
theorem c54 : Mir.compF Try.prog Try.f54 = some g54 := by kernel_rfl
/-- slices.Sort[[]string,string] -/
def g55 : Mir.Fn := ⟨11, [],
(.seq
(.ops [⟨(some 3), none, (.p (.mv (.tmp 0))), 0, []⟩,
⟨(some 4), none, (.p (.lenSl (.tmp 3))), 0, []⟩,
⟨(some 2), none, (.p (.mv (.tmp 4))), 0, []⟩])
(.ops [⟨(some 5), none, (.p (.mv (.tmp 0))), 0, []⟩,
⟨(some 6), none, (.p (.mv (.tmp 2))), 0, []⟩,
⟨(some 7), none, (.p (.mv (.tmp 2))), 0, []⟩,
⟨(some 8), none, (.p (.convInt .u64 (.tmp 7))), 0, []⟩,
⟨(some 9), none, (.h (.call (.c (.fn 67 [] [])) [(.tmp 8)])), 0, []⟩,
⟨(some 10), none, (.h (.call (.c (.fn 66 [] [])) [(.tmp 5), (.c (.int .i64 0)), (.tmp 6), (.tmp 9)])), 0, []⟩]))⟩
theorem c55 : Mir.compF Try.prog Try.f55 = some g55 := by kernel_rfl
/-- maps.Keys[map[string]*scribe/disk.file,string,*scribe/disk.file]$1 -/
def g56 : Mir.Fn := ⟨14, [],
(.seq
(.ops [⟨(some 4), none, (.r (.load 1 false (.tmp 1))), 0, []⟩,
⟨(some 5), none, (.h (.range (.tmp 4))), 0, []⟩])
(.block 0 (.loop (.seq
(.ops [⟨(some 6), none, (.h (.next (.tmp 5))), 0, []⟩,
⟨(some 7), none, (.p (.ext (.tmp 6) 0)), 0, []⟩])
(.seq
(.cond (.tmp 7)
.skip
(.exit 0))
(.block 1 (.seq
(.ops [⟨(some 8), none, (.r (.entry (.tmp 5))), 0, []⟩,
⟨(some 9), none, (.p (.ext (.tmp 8) 0)), 0, []⟩,
⟨(some 3), none, (.p (.mv (.tmp 9))), 0, []⟩])
(.seq
(.ops [⟨(some 10), none, (.p (.mv (.tmp 0))), 0, []⟩,
⟨(some 11), none, (.p (.mv (.tmp 3))), 0, []⟩,
⟨(some 12), none, (.h (.call (.tmp 10) [(.tmp 11)])), 0, []⟩,
⟨(some 13), none, (.p (.un .not (.tmp 12))), 0, []⟩])
(.cond (.tmp 13)
.ret
.skip)))))))))⟩
theorem c56 : Mir.compF Try.prog Try.f56 = some g56 := by kernel_rfl
/-- internal/stringslite.CutPrefix -/
def g57 : Mir.Fn := ⟨15, [(.tmp 4), (.tmp 5)],
(.seq
(.ops [⟨(some 4), none, (.p (.mv (.c (.str [])))), 0, []⟩,
⟨(some 5), none, (.p (.mv (.c (.bool false)))), 0, []⟩])
(.seq
(.seq
(.ops [⟨(some 6), none, (.p (.mv (.tmp 0))), 0, []⟩,
⟨(some 7), none, (.p (.mv (.tmp 1))), 0, []⟩,
⟨(some 8), none, (.h (.call (.c (.fn 68 [] [])) [(.tmp 6), (.tmp 7)])), 0, []⟩,
⟨(some 9), none, (.p (.un .not (.tmp 8))), 0, []⟩])
(.cond (.tmp 9)
(.seq
(.ops [⟨(some 10), none, (.p (.mv (.tmp 0))), 0, []⟩,
⟨(some 4), none, (.p (.mv (.tmp 10))), 0, []⟩,
⟨(some 5), none, (.p (.mv (.c (.bool false)))), 0, []⟩])
.ret)
.skip))
(.seq
(.ops [⟨(some 11), none, (.p (.mv (.tmp 0))), 0, []⟩,
⟨(some 12), none, (.p (.mv (.tmp 1))), 0, []⟩,
⟨(some 13), none, (.p (.lenStr (.tmp 12))), 0, []⟩,
⟨(some 14), none, (.p (.subStr (.tmp 11) (some (.tmp 13)) none)), 0, []⟩,
⟨(some 4), none, (.p (.mv (.tmp 14))), 0, []⟩,
⟨(some 5), none, (.p (.mv (.c (.bool true)))), 0, []⟩])
.ret)))⟩
theorem c57 : Mir.compF Try.prog Try.f57 = some g57 := by kernel_rfl
/-- scribe/scriberef03.find -/
def g58 : Mir.Fn := ⟨20, [(.tmp 4)],
(.seq
(.ops [⟨(some 4), none, (.p (.mv (.c (.int .i64 0)))), 0, []⟩])
(.seq
(.seq
(.ops [⟨(some 7), none, (.p (.mv (.tmp 0))), 0, []⟩,
⟨(some 8), none, (.p (.lenSl (.tmp 7))), 0, []⟩,
⟨(some 9), none, (.p (.mv (.c (.int .i64 0)))), 0, []⟩])
(.block 0 (.loop (.seq
(.ops [⟨(some 10), none, (.p (.bin .lss (.tmp 9) (.tmp 8))), 0, []⟩])
(.seq
(.cond (.tmp 10)
.skip
(.exit 0))
(.seq
(.block 1 (.seq
(.ops [⟨(some 11), none, (.p (.idxSl 2 (.tmp 7) (.tmp 9))), 0, []⟩,
⟨(some 12), none, (.r (.load 2 true (.tmp 11))), 0, []⟩,
⟨(some 6), none, (.a (.alloc [(.str []), (.int .i64 0)])), 0, []⟩,
⟨none, none, (.h (.store 2 (.tmp 6) (.tmp 12))), 0, []⟩])
(.seq
(.ops [⟨(some 13), none, (.p (.fieldAt 0 (.tmp 6))), 0, []⟩,
⟨(some 14), none, (.r (.load 1 false (.tmp 13))), 0, []⟩,
⟨(some 15), none, (.p (.mv (.tmp 1))), 0, []⟩,
⟨(some 16), none, (.p (.bin .eql (.tmp 14) (.tmp 15))), 0, []⟩])
(.cond (.tmp 16)
(.seq
(.ops [⟨(some 17), none, (.p (.fieldAt 1 (.tmp 6))), 0, []⟩,
⟨(some 18), none, (.r (.load 1 false (.tmp 17))), 0, []⟩,
⟨(some 4), none, (.p (.mv (.tmp 18))), 0, []⟩])
.ret)
.skip))))
(.ops [⟨(some 19), none, (.p (.bin .add (.tmp 9) (.c (.int .i64 1)))), 0, []⟩,
⟨(some 9), none, (.p (.mv (.tmp 19))), 0, []⟩])))))))
(.seq
(.ops [⟨(some 4), none, (.p (.mv (.c (.int .i64 (-1))))), 0, []⟩])
.ret)))⟩
theorem c58 : Mir.compF Try.prog Try.f58 = some g58 := by kernel_rfl
/-- scribe/scriberef03.deed -/
def g59 : Mir.Fn := ⟨15, [(.cell 2 6 true)],
(.seq
(.ops [⟨(some 1), none, (.a (.box (.tmp 0))), 0, []⟩,
⟨(some 2), none, (.a (.alloc [.nilsl, .nilsl, .nilsl, (.int .i64 0), (.int .i64 0), (.bool false)])), 0, []⟩])
(.seq
(.seq
(.ops [⟨(some 3), none, (.p (.fieldAt 4 (.tmp 1))), 0, []⟩,
⟨(some 4), none, (.r (.load 1 false (.tmp 3))), 0, []⟩,
⟨(some 5), none, (.p (.bin .eql (.tmp 4) (.c (.int .i64 0)))), 0, []⟩])
(.cond (.tmp 5)
(.ops [⟨(some 6), none, (.p (.fieldAt 5 (.tmp 1))), 0, []⟩,
⟨none, none, (.h (.store 1 (.tmp 6) (.c (.bool true)))), 0, []⟩])
.skip))
(.seq
(.seq
(.ops [⟨(some 7), none, (.p (.fieldAt 4 (.tmp 1))), 0, []⟩,
⟨(some 8), none, (.r (.load 1 false (.tmp 7))), 0, []⟩,
⟨(some 9), none, (.p (.bin .gtr (.tmp 8) (.c (.int .i64 0)))), 0, []⟩])
(.cond (.tmp 9)
(.ops [⟨(some 10), none, (.p (.fieldAt 4 (.tmp 1))), 0, []⟩,
⟨(some 11), none, (.r (.load 1 false (.tmp 10))), 0, []⟩,
⟨(some 12), none, (.p (.bin .sub (.tmp 11) (.c (.int .i64 1)))), 0, []⟩,
⟨(some 13), none, (.p (.fieldAt 4 (.tmp 1))), 0, []⟩,
⟨none, none, (.h (.store 1 (.tmp 13) (.tmp 12))), 0, []⟩])
.skip))
(.seq
(.ops [⟨(some 14), none, (.r (.load 6 true (.tmp 1))), 0, []⟩,
⟨none, none, (.h (.store 6 (.tmp 2) (.tmp 14))), 0, []⟩])
.ret))))⟩
theorem c59 : Mir.compF Try.prog Try.f59 = some g59 := by kernel_rfl
/-- scribe/scriberef03.With -/
def g60 : Mir.Fn := ⟨48, [(.tmp 6)],
(.seq
(.ops [⟨(some 6), none, (.p (.mv (.c .nilsl))), 0, []⟩])
(.seq
(.ops [⟨(some 11), none, (.a (.mkSl [(.str []), (.int .i64 0)] 2 0 [])), 0, []⟩,
⟨(some 7), none, (.p (.mv (.tmp 11))), 0, []⟩])
(.seq
(.ops [⟨(some 8), none, (.p (.mv (.c (.bool false)))), 0, []⟩])
(.seq
(.seq
(.ops [⟨(some 12), none, (.p (.mv (.tmp 0))), 0, []⟩,
⟨(some 13), none, (.p (.mv (.tmp 1))), 0, []⟩,
⟨(some 14), none, (.h (.call (.c (.fn 62 [] [])) [(.tmp 12), (.tmp 13)])), 0, []⟩,
⟨(some 15), none, (.p (.lenSl (.tmp 14))), 0, []⟩,
⟨(some 16), none, (.p (.mv (.c (.int .i64 0)))), 0, []⟩])
(.block 0 (.loop (.seq
(.ops [⟨(some 17), none, (.p (.bin .lss (.tmp 16) (.tmp 15))), 0, []⟩])
(.seq
(.cond (.tmp 17)
.skip
(.exit 0))
(.seq
(.block 1 (.seq
(.ops [⟨(some 18), none, (.p (.idxSl 2 (.tmp 14) (.tmp 16))), 0, []⟩,
⟨(some 19), none, (.r (.load 2 true (.tmp 18))), 0, []⟩,
⟨(some 10), none, (.a (.alloc [(.str []), (.int .i64 0)])), 0, []⟩,
⟨none, none, (.h (.store 2 (.tmp 10) (.tmp 19))), 0, []⟩])
(.seq
(.seq
(.ops [⟨(some 20), none, (.p (.mv (.tmp 8))), 0, []⟩,
⟨(some 21), none, (.p (.un .not (.tmp 20))), 0, []⟩,
⟨(some 22), none, (.p (.mv (.tmp 21))), 0, []⟩,
⟨(some 23), (some (22, true)), (.p (.fieldAt 0 (.tmp 10))), 0, []⟩,
⟨(some 24), (some (22, true)), (.r (.load 1 false (.tmp 23))), 0, []⟩,
⟨(some 25), (some (22, true)), (.p (.mv (.tmp 1))), 0, []⟩,
⟨(some 26), (some (22, true)), (.p (.bin .gtr (.tmp 24) (.tmp 25))), 0, []⟩,
⟨(some 27), none, (.p (.pick (.tmp 22) (.tmp 26) (.c (.bool false)))), 0, []⟩])
(.cond (.tmp 27)
(.seq
(.ops [⟨(some 28), none, (.p (.mv (.tmp 7))), 0, []⟩,
⟨(some 29), none, (.p (.mv (.tmp 1))), 0, []⟩,
⟨(some 30), none, (.p (.mv (.tmp 2))), 0, []⟩,
⟨(some 31), none, (.p (.build [(.str []), (.int .i64 0)] [(0, (1, (.tmp 29))), (1, (1, (.tmp 30)))])), 0, []⟩,
⟨(some 32), none, (.a (.mkSl [(.str []), (.int .i64 0)] 2 1 [(0, (2, (.tmp 31)))])), 0, []⟩,
⟨(some 33), none, (.h (.app 2 24 (.tmp 28) (.tmp 32))), 0, []⟩,
⟨(some 7), none, (.p (.mv (.tmp 33))), 0, []⟩])
(.ops [⟨(some 8), none, (.p (.mv (.c (.bool true)))), 0, []⟩]))
.skip))
(.ops [⟨(some 34), none, (.p (.mv (.tmp 7))), 0, []⟩,
⟨(some 35), none, (.r (.load 2 true (.tmp 10))), 0, []⟩,
⟨(some 36), none, (.a (.mkSl [(.str []), (.int .i64 0)] 2 1 [(0, (2, (.tmp 35)))])), 0, []⟩,
⟨(some 37), none, (.h (.app 2 24 (.tmp 34) (.tmp 36))), 0, []⟩,
⟨(some 7), none, (.p (.mv (.tmp 37))), 0, []⟩]))))
(.ops [⟨(some 38), none, (.p (.bin .add (.tmp 16) (.c (.int .i64 1)))), 0, []⟩,
⟨(some 16), none, (.p (.mv (.tmp 38))), 0, []⟩])))))))
(.seq
(.seq
(.ops [⟨(some 39), none, (.p (.mv (.tmp 8))), 0, []⟩,
⟨(some 40), none, (.p (.un .not (.tmp 39))), 0, []⟩])
(.cond (.tmp 40)
(.ops [⟨(some 41), none, (.p (.mv (.tmp 7))), 0, []⟩,
⟨(some 42), none, (.p (.mv (.tmp 1))), 0, []⟩,
⟨(some 43), none, (.p (.mv (.tmp 2))), 0, []⟩,
⟨(some 44), none, (.p (.build [(.str []), (.int .i64 0)] [(0, (1, (.tmp 42))), (1, (1, (.tmp 43)))])), 0, []⟩,
⟨(some 45), none, (.a (.mkSl [(.str []), (.int .i64 0)] 2 1 [(0, (2, (.tmp 44)))])), 0, []⟩,
⟨(some 46), none, (.h (.app 2 24 (.tmp 41) (.tmp 45))), 0, []⟩,
⟨(some 7), none, (.p (.mv (.tmp 46))), 0, []⟩])
.skip))
(.seq
(.ops [⟨(some 47), none, (.p (.mv (.tmp 7))), 0, []⟩,
⟨(some 6), none, (.p (.mv (.tmp 47))), 0, []⟩])
.ret))))))⟩
theorem c60 : Mir.compF Try.prog Try.f60 = some g60 := by kernel_rfl
/-- scribe/scriberef03.set -/
def g61 : Mir.Fn := ⟨18, [(.cell 6 6 true)],
(.seq
(.ops [⟨(some 3), none, (.a (.box (.tmp 0))), 0, []⟩,
⟨(some 5), none, (.a (.box (.tmp 2))), 0, []⟩,
⟨(some 6), none, (.a (.alloc [.nilsl, .nilsl, .nilsl, (.int .i64 0), (.int .i64 0), (.bool false)])), 0, []⟩])
(.seq
(.ops [⟨(some 7), none, (.a (.mkSl [(.str []), (.str [])] 2 0 [])), 0, []⟩,
⟨(some 8), none, (.p (.fieldAt 0 (.tmp 3))), 0, []⟩,
⟨(some 9), none, (.r (.load 1 false (.tmp 8))), 0, []⟩,
⟨(some 10), none, (.h (.app 2 32 (.tmp 7) (.tmp 9))), 0, []⟩,
⟨(some 11), none, (.p (.fieldAt 0 (.tmp 3))), 0, []⟩,
⟨none, none, (.h (.store 1 (.tmp 11) (.tmp 10))), 0, []⟩])
(.seq
(.ops [⟨(some 12), none, (.p (.fieldAt 0 (.tmp 3))), 0, []⟩,
⟨(some 13), none, (.r (.load 1 false (.tmp 12))), 0, []⟩,
⟨(some 14), none, (.p (.mv (.tmp 1))), 0, []⟩,
⟨(some 15), none, (.r (.load 2 true (.tmp 5))), 0, []⟩,
⟨(some 16), none, (.p (.idxSl 2 (.tmp 13) (.tmp 14))), 0, []⟩,
⟨none, none, (.h (.store 2 (.tmp 16) (.tmp 15))), 0, []⟩])
(.seq
(.ops [⟨(some 17), none, (.r (.load 6 true (.tmp 3))), 0, []⟩,
⟨none, none, (.h (.store 6 (.tmp 6) (.tmp 17))), 0, []⟩])
.ret))))⟩
theorem c61 : Mir.compF Try.prog Try.f61 = some g61 := by kernel_rfl
/-- scribe/scriberef03.Without -/
def g62 : Mir.Fn := ⟨25, [(.tmp 4)],
(.seq
(.ops [⟨(some 4), none, (.p (.mv (.c .nilsl))), 0, []⟩])
(.seq
(.ops [⟨(some 8), none, (.a (.mkSl [(.str []), (.int .i64 0)] 2 0 [])), 0, []⟩,
⟨(some 5), none, (.p (.mv (.tmp 8))), 0, []⟩])
(.seq
(.seq
(.ops [⟨(some 9), none, (.p (.mv (.tmp 0))), 0, []⟩,
⟨(some 10), none, (.p (.lenSl (.tmp 9))), 0, []⟩,
⟨(some 11), none, (.p (.mv (.c (.int .i64 0)))), 0, []⟩])
(.block 0 (.loop (.seq
(.ops [⟨(some 12), none, (.p (.bin .lss (.tmp 11) (.tmp 10))), 0, []⟩])
(.seq
(.cond (.tmp 12)
.skip
(.exit 0))
(.seq
(.block 1 (.seq
(.ops [⟨(some 13), none, (.p (.idxSl 2 (.tmp 9) (.tmp 11))), 0, []⟩,
⟨(some 14), none, (.r (.load 2 true (.tmp 13))), 0, []⟩,
⟨(some 7), none, (.a (.alloc [(.str []), (.int .i64 0)])), 0, []⟩,
⟨none, none, (.h (.store 2 (.tmp 7) (.tmp 14))), 0, []⟩])
(.seq
(.ops [⟨(some 15), none, (.p (.fieldAt 0 (.tmp 7))), 0, []⟩,
⟨(some 16), none, (.r (.load 1 false (.tmp 15))), 0, []⟩,
⟨(some 17), none, (.p (.mv (.tmp 1))), 0, []⟩,
⟨(some 18), none, (.p (.bin .neq (.tmp 16) (.tmp 17))), 0, []⟩])
(.cond (.tmp 18)
(.ops [⟨(some 19), none, (.p (.mv (.tmp 5))), 0, []⟩,
⟨(some 20), none, (.r (.load 2 true (.tmp 7))), 0, []⟩,
⟨(some 21), none, (.a (.mkSl [(.str []), (.int .i64 0)] 2 1 [(0, (2, (.tmp 20)))])), 0, []⟩,
⟨(some 22), none, (.h (.app 2 24 (.tmp 19) (.tmp 21))), 0, []⟩,
⟨(some 5), none, (.p (.mv (.tmp 22))), 0, []⟩])
.skip))))
(.ops [⟨(some 23), none, (.p (.bin .add (.tmp 11) (.c (.int .i64 1)))), 0, []⟩,
⟨(some 11), none, (.p (.mv (.tmp 23))), 0, []⟩])))))))
(.seq
(.ops [⟨(some 24), none, (.p (.mv (.tmp 5))), 0, []⟩,
⟨(some 4), none, (.p (.mv (.tmp 24))), 0, []⟩])
.ret))))⟩
theorem c62 : Mir.compF Try.prog Try.f62 = some g62 := by kernel_rfl
/-- (*scribe/disk.Disk).All$1 -/
def g63 : Mir.Fn := ⟨40, [],
(.seq
(.seq
(.ops [⟨(some 6), none, (.r (.load 1 false (.tmp 1))), 0, []⟩,
⟨(some 7), none, (.p (.nilchk (.tmp 6))), 0, []⟩,
⟨(some 8), none, (.p (.fieldAt 4 (.tmp 7))), 0, []⟩,
⟨(some 9), none, (.r (.load 1 false (.tmp 8))), 0, []⟩])
(.cond (.tmp 9)
.ret
.skip))
(.seq
(.ops [⟨(some 10), none, (.r (.load 1 false (.tmp 1))), 0, []⟩,
⟨(some 11), none, (.p (.nilchk (.tmp 10))), 0, []⟩,
⟨(some 12), none, (.p (.fieldAt 0 (.tmp 11))), 0, []⟩,
⟨(some 13), none, (.r (.load 1 false (.tmp 12))), 0, []⟩,
⟨(some 14), none, (.h (.call (.c (.fn 39 [] [])) [(.tmp 13)])), 0, []⟩,
⟨(some 15), none, (.h (.call (.c (.fn 38 [] [])) [(.tmp 14)])), 0, []⟩,
⟨(some 16), none, (.p (.lenSl (.tmp 15))), 0, []⟩,
⟨(some 17), none, (.p (.mv (.c (.int .i64 0)))), 0, []⟩])
(.block 0 (.loop (.seq
(.ops [⟨(some 18), none, (.p (.bin .lss (.tmp 17) (.tmp 16))), 0, []⟩])
(.seq
(.cond (.tmp 18)
.skip
(.exit 0))
(.seq
(.block 1 (.seq
(.ops [⟨(some 19), none, (.p (.idxSl 1 (.tmp 15) (.tmp 17))), 0, []⟩,
⟨(some 20), none, (.r (.load 1 false (.tmp 19))), 0, []⟩,
⟨(some 4), none, (.p (.mv (.tmp 20))), 0, []⟩])
(.seq
(.ops [⟨(some 21), none, (.r (.load 1 false (.tmp 1))), 0, []⟩,
⟨(some 22), none, (.p (.nilchk (.tmp 21))), 0, []⟩,
⟨(some 23), none, (.p (.fieldAt 0 (.tmp 22))), 0, []⟩,
⟨(some 24), none, (.r (.load 1 false (.tmp 23))), 0, []⟩,
⟨(some 25), none, (.p (.mv (.tmp 4))), 0, []⟩,
⟨(some 26), none, (.r (.lookup (.one .str) .nilptr false (.tmp 24) (.tmp 25))), 0, []⟩,
⟨(some 5), none, (.p (.mv (.tmp 26))), 0, []⟩])
(.seq
(.ops [⟨(some 27), none, (.p (.mv (.tmp 5))), 0, []⟩,
⟨(some 28), none, (.p (.eq .ptr true (.tmp 27) (.c .nilptr))), 0, []⟩,
⟨(some 29), none, (.p (.mv (.tmp 28))), 0, []⟩,
⟨(some 30), (some (29, true)), (.p (.mv (.tmp 0))), 0, []⟩,
⟨(some 31), (some (29, true)), (.p (.mv (.tmp 4))), 0, []⟩,
⟨(some 32), (some (29, true)), (.p (.mv (.tmp 5))), 0, []⟩,
⟨(some 33), (some (29, true)), (.p (.nilchk (.tmp 32))), 0, []⟩,
⟨(some 34), (some (29, true)), (.p (.fieldAt 0 (.tmp 33))), 0, []⟩,
⟨(some 35), (some (29, true)), (.r (.load 1 false (.tmp 34))), 0, []⟩,
⟨(some 36), (some (29, true)), (.h (.call (.tmp 30) [(.tmp 31), (.tmp 35)])), 0, []⟩,
⟨(some 37), (some (29, true)), (.p (.un .not (.tmp 36))), 0, []⟩,
⟨(some 38), none, (.p (.pick (.tmp 29) (.tmp 37) (.c (.bool false)))), 0, []⟩])
(.cond (.tmp 38)
.ret
.skip)))))
(.ops [⟨(some 39), none, (.p (.bin .add (.tmp 17) (.c (.int .i64 1)))), 0, []⟩,
⟨(some 17), none, (.p (.mv (.tmp 39))), 0, []⟩]))))))))⟩
theorem c63 : Mir.compF Try.prog Try.f63 = some g63 := by kernel_rfl
/-- strings.indexFunc -/
def g64 : Mir.Fn := ⟨21, [(.tmp 6)],
(.seq
(.ops [⟨(some 6), none, (.p (.mv (.c (.int .i64 0)))), 0, []⟩])
(.seq
(.seq
(.ops [⟨(some 9), none, (.p (.mv (.tmp 0))), 0, []⟩,
⟨(some 10), none, (.h (.rangeStr (.tmp 9))), 0, []⟩])
(.block 0 (.loop (.seq
(.ops [⟨(some 11), none, (.h (.nextStr (.tmp 10))), 0, []⟩,
⟨(some 12), none, (.p (.ext (.tmp 11) 0)), 0, []⟩])
(.seq
(.cond (.tmp 12)
.skip
(.exit 0))
(.block 1 (.seq
(.ops [⟨(some 13), none, (.p (.ext (.tmp 11) 1)), 0, []⟩,
⟨(some 14), none, (.p (.ext (.tmp 11) 2)), 0, []⟩,
⟨(some 7), none, (.p (.mv (.tmp 13))), 0, []⟩,
⟨(some 8), none, (.p (.mv (.tmp 14))), 0, []⟩])
(.seq
(.ops [⟨(some 15), none, (.p (.mv (.tmp 1))), 0, []⟩,
⟨(some 16), none, (.p (.mv (.tmp 8))), 0, []⟩,
⟨(some 17), none, (.h (.call (.tmp 15) [(.tmp 16)])), 0, []⟩,
⟨(some 18), none, (.p (.mv (.tmp 2))), 0, []⟩,
⟨(some 19), none, (.p (.eq .bool false (.tmp 17) (.tmp 18))), 0, []⟩])
(.cond (.tmp 19)
(.seq
(.ops [⟨(some 20), none, (.p (.mv (.tmp 7))), 0, []⟩,
⟨(some 6), none, (.p (.mv (.tmp 20))), 0, []⟩])
.ret)
.skip)))))))))
(.seq
(.ops [⟨(some 6), none, (.p (.mv (.c (.int .i64 (-1))))), 0, []⟩])
.ret)))⟩
theorem c64 : Mir.compF Try.prog Try.f64 = some g64 := by kernel_rfl
/-- slices.AppendSeq[[]string,string] -/
def g65 : Mir.Fn := ⟨13, [(.tmp 4)],
(.seq
(.ops [⟨(some 2), none, (.a (.box (.tmp 0))), 0, []⟩,
⟨(some 4), none, (.p (.mv (.c .nilsl))), 0, []⟩])
(.seq
(.seq
(.ops [⟨(some 6), none, (.p (.mv (.tmp 1))), 0, []⟩])
(.block 0 (.rangeFn (.tmp 6) [7] (.ops [⟨(some 5), none, (.p (.mv (.tmp 7))), 0, []⟩]) (.block 1 (.ops [⟨(some 8), none, (.r (.load 1 false (.tmp 2))), 0, []⟩,
⟨(some 9), none, (.p (.mv (.tmp 5))), 0, []⟩,
⟨(some 10), none, (.a (.mkSl [(.str [])] 1 1 [(0, (1, (.tmp 9)))])), 0, []⟩,
⟨(some 11), none, (.h (.app 1 16 (.tmp 8) (.tmp 10))), 0, []⟩,
⟨none, none, (.h (.store 1 (.tmp 2) (.tmp 11))), 0, []⟩])))))
(.seq
(.ops [⟨(some 12), none, (.r (.load 1 false (.tmp 2))), 0, []⟩,
⟨(some 4), none, (.p (.mv (.tmp 12))), 0, []⟩])
.ret)))⟩
theorem c65 : Mir.compF Try.prog Try.f65 = some g65 := by kernel_rfl
/-- slices.pdqsortOrdered[string] -/
def g66 : Mir.Fn := ⟨134, [],
(.seq
(.ops [⟨(some 8), none, (.p (.mv (.c (.bool true)))), 0, []⟩])
(.seq
(.ops [⟨(some 9), none, (.p (.mv (.c (.bool true)))), 0, []⟩])
(.block 0 (.loop (.block 1 (.seq
(.ops [⟨(some 19), none, (.p (.mv (.tmp 2))), 0, []⟩,
⟨(some 20), none, (.p (.mv (.tmp 1))), 0, []⟩,
⟨(some 21), none, (.p (.bin .sub (.tmp 19) (.tmp 20))), 0, []⟩,
⟨(some 10), none, (.p (.mv (.tmp 21))), 0, []⟩])
(.seq
(.seq
(.ops [⟨(some 22), none, (.p (.mv (.tmp 10))), 0, []⟩,
⟨(some 23), none, (.p (.bin .leq (.tmp 22) (.c (.int .i64 12)))), 0, []⟩])
(.cond (.tmp 23)
(.seq
(.ops [⟨(some 24), none, (.p (.mv (.tmp 0))), 0, []⟩,
⟨(some 25), none, (.p (.mv (.tmp 1))), 0, []⟩,
⟨(some 26), none, (.p (.mv (.tmp 2))), 0, []⟩,
⟨(some 27), none, (.h (.call (.c (.fn 69 [] [])) [(.tmp 24), (.tmp 25), (.tmp 26)])), 0, []⟩])
.ret)
.skip))
(.seq
(.seq
(.ops [⟨(some 28), none, (.p (.mv (.tmp 3))), 0, []⟩,
⟨(some 29), none, (.p (.bin .eql (.tmp 28) (.c (.int .i64 0)))), 0, []⟩])
(.cond (.tmp 29)
(.seq
(.ops [⟨(some 30), none, (.p (.mv (.tmp 0))), 0, []⟩,
⟨(some 31), none, (.p (.mv (.tmp 1))), 0, []⟩,
⟨(some 32), none, (.p (.mv (.tmp 2))), 0, []⟩,
⟨(some 33), none, (.h (.call (.c (.fn 70 [] [])) [(.tmp 30), (.tmp 31), (.tmp 32)])), 0, []⟩])
.ret)
.skip))
(.seq
(.seq
(.ops [⟨(some 34), none, (.p (.mv (.tmp 8))), 0, []⟩,
⟨(some 35), none, (.p (.un .not (.tmp 34))), 0, []⟩])
(.cond (.tmp 35)
(.seq
(.ops [⟨(some 36), none, (.p (.mv (.tmp 0))), 0, []⟩,
⟨(some 37), none, (.p (.mv (.tmp 1))), 0, []⟩,
⟨(some 38), none, (.p (.mv (.tmp 2))), 0, []⟩,
⟨(some 39), none, (.h (.call (.c (.fn 71 [] [])) [(.tmp 36), (.tmp 37), (.tmp 38)])), 0, []⟩])
(.ops [⟨(some 40), none, (.p (.mv (.tmp 3))), 0, []⟩,
⟨(some 41), none, (.p (.bin .sub (.tmp 40) (.c (.int .i64 1)))), 0, []⟩,
⟨(some 3), none, (.p (.mv (.tmp 41))), 0, []⟩]))
.skip))
(.seq
(.ops [⟨(some 43), none, (.p (.mv (.tmp 0))), 0, []⟩,
⟨(some 44), none, (.p (.mv (.tmp 1))), 0, []⟩,
⟨(some 45), none, (.p (.mv (.tmp 2))), 0, []⟩,
⟨(some 46), none, (.h (.call (.c (.fn 72 [] [])) [(.tmp 43), (.tmp 44), (.tmp 45)])), 0, []⟩,
⟨(some 42), none, (.p (.mv (.tmp 46))), 0, []⟩,
⟨(some 47), none, (.p (.ext (.tmp 42) 0)), 0, []⟩,
⟨(some 48), none, (.p (.ext (.tmp 42) 1)), 0, []⟩,
⟨(some 11), none, (.p (.mv (.tmp 47))), 0, []⟩,
⟨(some 12), none, (.p (.mv (.tmp 48))), 0, []⟩])
(.seq
(.seq
(.ops [⟨(some 49), none, (.p (.mv (.tmp 12))), 0, []⟩,
⟨(some 50), none, (.p (.bin .eql (.tmp 49) (.c (.int .i64 2)))), 0, []⟩])
(.cond (.tmp 50)
(.seq
(.ops [⟨(some 51), none, (.p (.mv (.tmp 0))), 0, []⟩,
⟨(some 52), none, (.p (.mv (.tmp 1))), 0, []⟩,
⟨(some 53), none, (.p (.mv (.tmp 2))), 0, []⟩,
⟨(some 54), none, (.h (.call (.c (.fn 73 [] [])) [(.tmp 51), (.tmp 52), (.tmp 53)])), 0, []⟩])
(.seq
(.ops [⟨(some 55), none, (.p (.mv (.tmp 2))), 0, []⟩,
⟨(some 56), none, (.p (.bin .sub (.tmp 55) (.c (.int .i64 1)))), 0, []⟩,
⟨(some 57), none, (.p (.mv (.tmp 11))), 0, []⟩,
⟨(some 58), none, (.p (.mv (.tmp 1))), 0, []⟩,
⟨(some 59), none, (.p (.bin .sub (.tmp 57) (.tmp 58))), 0, []⟩,
⟨(some 60), none, (.p (.bin .sub (.tmp 56) (.tmp 59))), 0, []⟩,
⟨(some 11), none, (.p (.mv (.tmp 60))), 0, []⟩])
(.ops [⟨(some 12), none, (.p (.mv (.c (.int .i64 1)))), 0, []⟩])))
.skip))
(.seq
(.seq
(.ops [⟨(some 61), none, (.p (.mv (.tmp 8))), 0, []⟩,
⟨(some 62), none, (.p (.mv (.tmp 61))), 0, []⟩,
⟨(some 63), (some (62, true)), (.p (.mv (.tmp 9))), 0, []⟩,
⟨(some 64), none, (.p (.pick (.tmp 62) (.tmp 63) (.c (.bool false)))), 0, []⟩,
⟨(some 65), none, (.p (.mv (.tmp 64))), 0, []⟩,
⟨(some 66), (some (65, true)), (.p (.mv (.tmp 12))), 0, []⟩,
⟨(some 67), (some (65, true)), (.p (.bin .eql (.tmp 66) (.c (.int .i64 1)))), 0, []⟩,
⟨(some 68), none, (.p (.pick (.tmp 65) (.tmp 67) (.c (.bool false)))), 0, []⟩])
(.cond (.tmp 68)
(.seq
(.ops [⟨(some 69), none, (.p (.mv (.tmp 0))), 0, []⟩,
⟨(some 70), none, (.p (.mv (.tmp 1))), 0, []⟩,
⟨(some 71), none, (.p (.mv (.tmp 2))), 0, []⟩,
⟨(some 72), none, (.h (.call (.c (.fn 74 [] [])) [(.tmp 69), (.tmp 70), (.tmp 71)])), 0, []⟩])
(.cond (.tmp 72)
.ret
.skip))
.skip))
(.seq
(.seq
(.draw [⟨(some 73), none, (.p (.mv (.tmp 1))), 0, []⟩,
⟨(some 74), none, (.p (.bin .gtr (.tmp 73) (.c (.int .i64 0)))), 1, []⟩,
⟨(some 75), none, (.p (.mv (.tmp 74))), 2, []⟩,
⟨(some 76), (some (75, true)), (.p (.mv (.tmp 0))), 3, []⟩,
⟨(some 77), (some (75, true)), (.p (.mv (.tmp 1))), 4, []⟩,
⟨(some 78), (some (75, true)), (.p (.bin .sub (.tmp 77) (.c (.int .i64 1)))), 5, []⟩,
⟨(some 79), (some (75, true)), (.p (.idxSl 1 (.tmp 76) (.tmp 78))), 6, []⟩,
⟨(some 80), (some (75, true)), (.r (.load 1 false (.tmp 79))), 7, []⟩,
⟨(some 81), (some (75, true)), (.p (.mv (.tmp 0))), 8, []⟩,
⟨(some 82), (some (75, true)), (.p (.mv (.tmp 11))), 9, []⟩,
⟨(some 83), (some (75, true)), (.p (.idxSl 1 (.tmp 81) (.tmp 82))), 10, []⟩,
⟨(some 84), (some (75, true)), (.r (.load 1 false (.tmp 83))), 11, []⟩,
⟨(some 85), (some (75, true)), (.h (.call (.c (.fn 75 [] [])) [(.tmp 80), (.tmp 84)])), 12, []⟩,
⟨(some 86), (some (75, true)), (.p (.un .not (.tmp 85))), 13, []⟩,
⟨(some 87), none, (.p (.pick (.tmp 75) (.tmp 86) (.c (.bool false)))), 14, []⟩])
(.cond (.tmp 87)
(.seq
(.ops [⟨(some 88), none, (.p (.mv (.tmp 0))), 0, []⟩,
⟨(some 89), none, (.p (.mv (.tmp 1))), 0, []⟩,
⟨(some 90), none, (.p (.mv (.tmp 2))), 0, []⟩,
⟨(some 91), none, (.p (.mv (.tmp 11))), 0, []⟩,
⟨(some 92), none, (.h (.call (.c (.fn 76 [] [])) [(.tmp 88), (.tmp 89), (.tmp 90), (.tmp 91)])), 0, []⟩,
⟨(some 13), none, (.p (.mv (.tmp 92))), 0, []⟩])
(.seq
(.ops [⟨(some 93), none, (.p (.mv (.tmp 13))), 0, []⟩,
⟨(some 1), none, (.p (.mv (.tmp 93))), 0, []⟩])
(.exit 1)))
.skip))
(.seq
(.ops [⟨(some 95), none, (.p (.mv (.tmp 0))), 0, []⟩,
⟨(some 96), none, (.p (.mv (.tmp 1))), 0, []⟩,
⟨(some 97), none, (.p (.mv (.tmp 2))), 0, []⟩,
⟨(some 98), none, (.p (.mv (.tmp 11))), 0, []⟩,
⟨(some 99), none, (.h (.call (.c (.fn 77 [] [])) [(.tmp 95), (.tmp 96), (.tmp 97), (.tmp 98)])), 0, []⟩,
⟨(some 94), none, (.p (.mv (.tmp 99))), 0, []⟩,
⟨(some 100), none, (.p (.ext (.tmp 94) 0)), 0, []⟩,
⟨(some 101), none, (.p (.ext (.tmp 94) 1)), 0, []⟩,
⟨(some 14), none, (.p (.mv (.tmp 100))), 0, []⟩,
⟨(some 15), none, (.p (.mv (.tmp 101))), 0, []⟩])
(.seq
(.ops [⟨(some 102), none, (.p (.mv (.tmp 15))), 0, []⟩,
⟨(some 9), none, (.p (.mv (.tmp 102))), 0, []⟩])
(.seq
(.ops [⟨(some 103), none, (.p (.mv (.tmp 14))), 0, []⟩,
⟨(some 104), none, (.p (.mv (.tmp 1))), 0, []⟩,
⟨(some 105), none, (.p (.bin .sub (.tmp 103) (.tmp 104))), 0, []⟩,
⟨(some 106), none, (.p (.mv (.tmp 2))), 0, []⟩,
⟨(some 107), none, (.p (.mv (.tmp 14))), 0, []⟩,
⟨(some 108), none, (.p (.bin .sub (.tmp 106) (.tmp 107))), 0, []⟩,
⟨(some 16), none, (.p (.mv (.tmp 105))), 0, []⟩,
⟨(some 17), none, (.p (.mv (.tmp 108))), 0, []⟩])
(.seq
(.ops [⟨(some 109), none, (.p (.mv (.tmp 10))), 0, []⟩,
⟨(some 110), none, (.p (.bin .quo (.tmp 109) (.c (.int .i64 8)))), 0, []⟩,
⟨(some 18), none, (.p (.mv (.tmp 110))), 0, []⟩])
(.seq
(.ops [⟨(some 111), none, (.p (.mv (.tmp 16))), 0, []⟩,
⟨(some 112), none, (.p (.mv (.tmp 17))), 0, []⟩,
⟨(some 113), none, (.p (.bin .lss (.tmp 111) (.tmp 112))), 0, []⟩])
(.cond (.tmp 113)
(.seq
(.ops [⟨(some 114), none, (.p (.mv (.tmp 16))), 0, []⟩,
⟨(some 115), none, (.p (.mv (.tmp 18))), 0, []⟩,
⟨(some 116), none, (.p (.bin .geq (.tmp 114) (.tmp 115))), 0, []⟩,
⟨(some 8), none, (.p (.mv (.tmp 116))), 0, []⟩])
(.seq
(.ops [⟨(some 117), none, (.p (.mv (.tmp 0))), 0, []⟩,
⟨(some 118), none, (.p (.mv (.tmp 1))), 0, []⟩,
⟨(some 119), none, (.p (.mv (.tmp 14))), 0, []⟩,
⟨(some 120), none, (.p (.mv (.tmp 3))), 0, []⟩,
⟨(some 121), none, (.h (.call (.c (.fn 66 [] [])) [(.tmp 117), (.tmp 118), (.tmp 119), (.tmp 120)])), 0, []⟩])
(.ops [⟨(some 122), none, (.p (.mv (.tmp 14))), 0, []⟩,
⟨(some 123), none, (.p (.bin .add (.tmp 122) (.c (.int .i64 1)))), 0, []⟩,
⟨(some 1), none, (.p (.mv (.tmp 123))), 0, []⟩])))
(.seq
(.ops [⟨(some 124), none, (.p (.mv (.tmp 17))), 0, []⟩,
⟨(some 125), none, (.p (.mv (.tmp 18))), 0, []⟩,
⟨(some 126), none, (.p (.bin .geq (.tmp 124) (.tmp 125))), 0, []⟩,
⟨(some 8), none, (.p (.mv (.tmp 126))), 0, []⟩])
(.seq
(.ops [⟨(some 127), none, (.p (.mv (.tmp 0))), 0, []⟩,
⟨(some 128), none, (.p (.mv (.tmp 14))), 0, []⟩,
⟨(some 129), none, (.p (.bin .add (.tmp 128) (.c (.int .i64 1)))), 0, []⟩,
⟨(some 130), none, (.p (.mv (.tmp 2))), 0, []⟩,
⟨(some 131), none, (.p (.mv (.tmp 3))), 0, []⟩,
⟨(some 132), none, (.h (.call (.c (.fn 66 [] [])) [(.tmp 127), (.tmp 129), (.tmp 130), (.tmp 131)])), 0, []⟩])
(.ops [⟨(some 133), none, (.p (.mv (.tmp 14))), 0, []⟩,
⟨(some 2), none, (.p (.mv (.tmp 133))), 0, []⟩]))))))))))))))))))))))⟩
theorem c66 : Mir.compF Try.prog Try.f66 = some g66 := by kernel_rfl
/-- math/bits.Len -/
def g67 : Mir.Fn := ⟨8, [(.tmp 2)],
(.seq
(.ops [⟨(some 2), none, (.p (.mv (.c (.int .i64 0)))), 0, []⟩])
(.seq
(.cond (.c (.bool false))
(.seq
(.ops [⟨(some 3), none, (.p (.mv (.tmp 0))), 0, []⟩,
⟨(some 4), none, (.p (.convInt .u32 (.tmp 3))), 0, []⟩,
⟨(some 5), none, (.h (.call (.c (.fn 78 [] [])) [(.tmp 4)])), 0, []⟩,
⟨(some 2), none, (.p (.mv (.tmp 5))), 0, []⟩])
.ret)
.skip)
(.seq
(.ops [⟨(some 6), none, (.p (.mv (.tmp 0))), 0, []⟩,
⟨(some 7), none, (.h (.call (.c (.fn 79 [] [])) [(.tmp 6)])), 0, []⟩,
⟨(some 2), none, (.p (.mv (.tmp 7))), 0, []⟩])
.ret)))⟩
theorem c67 : Mir.compF Try.prog Try.f67 = some g67 := by kernel_rfl
/-- internal/stringslite.HasPrefix -/
def g68 : Mir.Fn := ⟨18, [(.tmp 4)],
(.seq
(.ops [⟨(some 4), none, (.p (.mv (.c (.bool false)))), 0, []⟩])
(.seq
(.ops [⟨(some 5), none, (.p (.mv (.tmp 0))), 0, []⟩,
⟨(some 6), none, (.p (.lenStr (.tmp 5))), 0, []⟩,
⟨(some 7), none, (.p (.mv (.tmp 1))), 0, []⟩,
⟨(some 8), none, (.p (.lenStr (.tmp 7))), 0, []⟩,
⟨(some 9), none, (.p (.bin .geq (.tmp 6) (.tmp 8))), 0, []⟩,
⟨(some 10), none, (.p (.mv (.tmp 9))), 0, []⟩,
⟨(some 11), (some (10, true)), (.p (.mv (.tmp 0))), 0, []⟩,
⟨(some 12), (some (10, true)), (.p (.mv (.tmp 1))), 0, []⟩,
⟨(some 13), (some (10, true)), (.p (.lenStr (.tmp 12))), 0, []⟩,
⟨(some 14), (some (10, true)), (.p (.subStr (.tmp 11) none (some (.tmp 13)))), 0, []⟩,
⟨(some 15), (some (10, true)), (.p (.mv (.tmp 1))), 0, []⟩,
⟨(some 16), (some (10, true)), (.p (.bin .eql (.tmp 14) (.tmp 15))), 0, []⟩,
⟨(some 17), none, (.p (.pick (.tmp 10) (.tmp 16) (.c (.bool false)))), 0, []⟩,
⟨(some 4), none, (.p (.mv (.tmp 17))), 0, []⟩])
.ret))⟩
theorem c68 : Mir.compF Try.prog Try.f68 = some g68 := by kernel_rfl
/-- slices.insertionSortOrdered[string] -/
def g69 : Mir.Fn := ⟨49, [],
(.seq
(.ops [⟨(some 8), none, (.p (.mv (.tmp 1))), 0, []⟩,
⟨(some 9), none, (.p (.bin .add (.tmp 8) (.c (.int .i64 1)))), 0, []⟩,
⟨(some 6), none, (.p (.mv (.tmp 9))), 0, []⟩])
(.block 0 (.loop (.seq
(.seq
(.ops [⟨(some 10), none, (.p (.mv (.tmp 6))), 0, []⟩,
⟨(some 11), none, (.p (.mv (.tmp 2))), 0, []⟩,
⟨(some 12), none, (.p (.bin .lss (.tmp 10) (.tmp 11))), 0, []⟩])
(.cond (.tmp 12)
.skip
(.exit 0)))
(.seq
(.block 1 (.seq
(.ops [⟨(some 15), none, (.p (.mv (.tmp 6))), 0, []⟩,
⟨(some 7), none, (.p (.mv (.tmp 15))), 0, []⟩])
(.block 2 (.loop (.seq
(.seq
(.draw [⟨(some 16), none, (.p (.mv (.tmp 7))), 0, []⟩,
⟨(some 17), none, (.p (.mv (.tmp 1))), 1, []⟩,
⟨(some 18), none, (.p (.bin .gtr (.tmp 16) (.tmp 17))), 2, []⟩,
⟨(some 19), none, (.p (.mv (.tmp 18))), 3, []⟩,
⟨(some 20), (some (19, true)), (.p (.mv (.tmp 0))), 4, []⟩,
⟨(some 21), (some (19, true)), (.p (.mv (.tmp 7))), 5, []⟩,
⟨(some 22), (some (19, true)), (.p (.idxSl 1 (.tmp 20) (.tmp 21))), 6, []⟩,
⟨(some 23), (some (19, true)), (.r (.load 1 false (.tmp 22))), 7, []⟩,
⟨(some 24), (some (19, true)), (.p (.mv (.tmp 0))), 8, []⟩,
⟨(some 25), (some (19, true)), (.p (.mv (.tmp 7))), 9, []⟩,
⟨(some 26), (some (19, true)), (.p (.bin .sub (.tmp 25) (.c (.int .i64 1)))), 10, []⟩,
⟨(some 27), (some (19, true)), (.p (.idxSl 1 (.tmp 24) (.tmp 26))), 11, []⟩,
⟨(some 28), (some (19, true)), (.r (.load 1 false (.tmp 27))), 12, []⟩,
⟨(some 29), (some (19, true)), (.h (.call (.c (.fn 75 [] [])) [(.tmp 23), (.tmp 28)])), 13, []⟩,
⟨(some 30), none, (.p (.pick (.tmp 19) (.tmp 29) (.c (.bool false)))), 14, []⟩])
(.cond (.tmp 30)
.skip
(.exit 2)))
(.seq
(.block 3 (.draw [⟨(some 33), none, (.p (.mv (.tmp 0))), 0, []⟩,
⟨(some 34), none, (.p (.mv (.tmp 7))), 1, []⟩,
⟨(some 35), none, (.p (.mv (.tmp 0))), 2, []⟩,
⟨(some 36), none, (.p (.mv (.tmp 7))), 3, []⟩,
⟨(some 37), none, (.p (.bin .sub (.tmp 36) (.c (.int .i64 1)))), 4, []⟩,
⟨(some 38), none, (.p (.mv (.tmp 0))), 5, []⟩,
⟨(some 39), none, (.p (.mv (.tmp 7))), 6, []⟩,
⟨(some 40), none, (.p (.bin .sub (.tmp 39) (.c (.int .i64 1)))), 7, []⟩,
⟨(some 41), none, (.p (.idxSl 1 (.tmp 38) (.tmp 40))), 8, []⟩,
⟨(some 42), none, (.r (.load 1 false (.tmp 41))), 9, []⟩,
⟨(some 43), none, (.p (.mv (.tmp 0))), 10, []⟩,
⟨(some 44), none, (.p (.mv (.tmp 7))), 11, []⟩,
⟨(some 45), none, (.p (.idxSl 1 (.tmp 43) (.tmp 44))), 12, []⟩,
⟨(some 46), none, (.r (.load 1 false (.tmp 45))), 13, []⟩,
⟨(some 47), none, (.p (.idxSl 1 (.tmp 33) (.tmp 34))), 14, []⟩,
⟨none, none, (.h (.store 1 (.tmp 47) (.tmp 42))), 15, []⟩,
⟨(some 48), none, (.p (.idxSl 1 (.tmp 35) (.tmp 37))), 16, []⟩,
⟨none, none, (.h (.store 1 (.tmp 48) (.tmp 46))), 17, []⟩]))
(.ops [⟨(some 31), none, (.p (.mv (.tmp 7))), 0, []⟩,
⟨(some 32), none, (.p (.bin .sub (.tmp 31) (.c (.int .i64 1)))), 0, []⟩,
⟨(some 7), none, (.p (.mv (.tmp 32))), 0, []⟩])))))))
(.ops [⟨(some 13), none, (.p (.mv (.tmp 6))), 0, []⟩,
⟨(some 14), none, (.p (.bin .add (.tmp 13) (.c (.int .i64 1)))), 0, []⟩,
⟨(some 6), none, (.p (.mv (.tmp 14))), 0, []⟩]))))))⟩
theorem c69 : Mir.compF Try.prog Try.f69 = some g69 := by kernel_rfl
end Go.Proofs.Ytijipnkdabdioaa
